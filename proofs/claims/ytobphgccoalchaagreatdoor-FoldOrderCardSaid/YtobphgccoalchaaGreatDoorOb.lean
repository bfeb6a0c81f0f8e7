/-
  The canonical machine, part E: slices: what they hold, append, slicing, copy, make, len.
-/
import Derived.Test.YtobphgccoalchaaGreatDoorOa
import Derived.Lib.IndexBytes
import Derived.Laws.BytesString
import Derived.Lib.ConvBytes
set_option linter.unusedVariables false
set_option linter.unusedSimpArgs false
set_option linter.unnecessarySimpa false
namespace Go.cb
open Go
section
variable {P:Program} {w:World} {R:Nat->Prop} {B:Nat} {h:aO} {μ:cP}
theorem l8 {α:Type} {z:Nat}:∀ {es:List (List α)},(∀ e,e∈es->e.length=z)->es.flatten.length=es.length*z
 | [],_=>by simp
 | e::es,aw=>by
  rw[auW,at4,aw e (by simp),l8 (fun e am=>aw e (by simp[am])),auf,auI,Nat.add_comm]
theorem SE {α:Type} {z:Nat}:∀ {es:List (List α)} {j:Nat} {c:α},(∀ e,e∈es->e.length=z)->es.flatten[j]? = some c->
  ∃ i k e,j=i*z+k/\k<z/\es[i]? = some e/\e[k]? = some c
 | [],_,_,_,ai=>by simp at ai
 | e::es,j,c,aw,ai=>by
  have am:=aw e (by simp);rw[auW] at ai;by_cases aN:j<e.length
  ·rw[atV aN] at ai;exact⟨0,j,e,by simp,by omega,rfl,ai⟩
  ·rw[at8 (by omega)] at ai;obtain⟨i,k,fw,h1,ad,aj,aF⟩:=SE (fun e am=>aw e (by simp[am])) ai;exact⟨i+1,k,fw,by rw[auI]; omega,ad,by simpa using aj,aF⟩
def tN (w:World) (R:Nat->Prop) (h:aO) (μ:cP) (xs:List U) (vs:List Value) :Prop:=
 vs.length=xs.length/\∀ (j:Nat) (c:U),xs[j]? = some c->∃ v:Value,vs[j]? = some v/\v.oneCell'=true/\aP w R h μ c v
theorem NE {w2:World} {xs:List U} {blk o:Nat} (mM:∀ a,w2.cell? a=w.cell? a)
  (af:∀ (j:Nat) (c:U),xs[j]? = some c->∃ v:Value,w.cell? ⟨blk,o+j,none⟩=some v/\v.oneCell'=true/\aP w R h μ c v) :
  ∃ vs:List Value,tN w R h μ xs vs/\∀ k,k<=xs.length->∀ w2:World,(∀ a,w2.cell? a=w.cell? a)->(loadCells ⟨blk,o,none⟩ k).run P w2=.ok (vs.take k).toArray w2:=by
 have aq:∃ f:Nat->Value,∀ (j:Nat) (c:U),xs[j]? = some c->w.cell? ⟨blk,o+j,none⟩=some (f j)/\(f j).oneCell'=true/\aP w R h μ c (f j) :=by
  refine⟨fun j=>(w.cell? ⟨blk,o+j,none⟩).getD undef,fun j c ai=>?_⟩;obtain⟨v,h1,ad,aj⟩:=af j c ai;simp only[h1,auJ];exact⟨trivial,ad,aj⟩
 obtain⟨f,aD⟩:=aq;refine⟨(List.range xs.length).map f,⟨by simp,fun j c ai=>?_⟩,fun k hk w2 ka=>?_⟩
 ·have aN:j<xs.length:=(atU.1 ai).1;exact⟨f j,by simp[aN],(aD j c ai).2⟩
 ·have:=run_loadCells_list (P:=P) w2 ⟨blk,o,none⟩ (((List.range xs.length).map f).take k) (fun j v ai=>by
   have fk:j<k:=by
    rcases au9 j k with h1 | h1
    ·exact h1
    ·rw[at6 (by simp; omega)] at ai; cases ai
   rw[aum fk,at0] at ai;have kA:j<xs.length:=by omega
   rw[auw kA] at ai;simp only[at1,Option.some.injEq] at ai;rw[Addr.mF,<-ai,ka];exact (aD j _ (atX kA)).1)
  have al:(((List.range xs.length).map f).take k).length=k:=by simp; omega
  rw[al] at this;exact this
theorem vS (rel:b9 R B w h μ) {z n:Nat} {x:U} {bI:Value} {xs:List U} (ah:contents h z x=some (xs,n)) (af:aP w R h μ x bI) :
  xs.length=n*z/\(Builtin.lenOf bI).run P w=.ok n w/\∃ vs:List Value,tN w R h μ xs vs ∧
   ∀ k,k<=n->∀ w2:World,(∀ a,w2.cell? a=w.cell? a)->(Builtin.firstCells z k bI).run P w2=.ok (vs.take (k*z)).toArray w2:=by
 cases af with
 | aW=>
  simp only[contents,Option.some.injEq,Prod.mk.injEq] at ah;obtain⟨rfl,rfl⟩:=ah;exact⟨by simp,by simp[Builtin.lenOf],[],⟨rfl,fun j c ai=>by simp at ai⟩,fun k _ w2 _=>by simp[Builtin.firstCells]⟩
 | str bs=>
  simp only[contents] at ah;split at ah
  ·rename_i aw; subst aw;simp only[Option.some.injEq,Prod.mk.injEq] at ah;obtain⟨rfl,rfl⟩:=ah;refine⟨by simp,by simp[Builtin.lenOf],bs.data.toList.map fun b=>.int .u8 b.toNat,⟨by simp,fun j c ai=>?_⟩,fun k hk w2 _=>?_⟩
   ·rw[at0] at ai ⊢;cases ag:bs.data.toList[j]? with
    | none=>rw[ag] at ai; cases ai
    | some b=>
     rw[ag] at ai;simp only[at1,Option.some.injEq] at ai;subst ai;exact⟨_,rfl,rfl,.int _ _⟩
   ·have af:(bs.extract 0 k).data.toList=bs.data.toList.take k:=by
     simp[ByteArray.extract,ByteArray.copySlice]
    have aA:(bs.extract 0 k).data=(bs.data.toList.take k).toArray:=by rw[<-af]
    simp only[Builtin.firstCells,aA];simp
  ·cases ah
 | bR dz es blk off cap ey al aw mM aq=>
  simp only[contents] at ah;split at ah
  ·rename_i uK; subst uK;simp only[Option.some.injEq,Prod.mk.injEq] at ah;obtain⟨rfl,rfl⟩:=ah;have bl:=l8 aw;have cE:∀ (j:Nat) (c:U),es.flatten[j]? = some c->∃ v:Value,w.cell? ⟨blk,off+j,none⟩=some v/\v.oneCell'=true/\aP w R h μ c v:=by
    intro j c ai;obtain⟨i,k,e,rfl,hk,am,aeP⟩:=SE aw ai;have av:i<es.length:=(atU.1 am).1;have dp:=mM i k av hk;exact⟨ey i k,dp.here,dp.one,aq i e am k c aeP⟩
   obtain⟨vs,h1,ad⟩:=NE (P:=P) (w2:=w) (fun _=>rfl) cE;refine⟨bl,by simp[Builtin.lenOf],vs,h1,fun k hk w2 ka=>?_⟩;have:=ad (k*z) (by rw[bl]; exact at2 _ hk) w2 ka;simp[Builtin.firstCells,this]
  ·cases ah
 | fO dz a cap=>
  simp only[contents] at ah;split at ah
  ·simp only[Option.some.injEq,Prod.mk.injEq] at ah;obtain⟨rfl,rfl⟩:=ah;exact⟨by simp,by simp[Builtin.lenOf],[],⟨rfl,fun j c ai=>by simp at ai⟩,fun k hk w2 _=>by
    obtain rfl:k=0:=by simpa using hk
    simp[Builtin.firstCells,loadCells,loadCellsFrom]⟩
  ·cases ah
 | au dz b off len cap sz cap' cs m ag hm al ap c3=>
  simp only[contents,ag,true_and] at ah;split at ah
  ·rename_i uK; subst uK;simp only[Option.some.injEq,Prod.mk.injEq] at ah;obtain⟨rfl,rfl⟩:=ah;have eR:=rel.blk b m hm;rw[ag] at eR;obtain⟨h1,ad,arr,t,gh,aj,aF,aU,bt⟩:=eR;have uy:len*z<=cap*z:=at2 _ al;have bl:((cs.drop off).take (len*z)).length=len*z:=by
    rw[aue,au4]; omega
   have cE:∀ (j:Nat) (c:U),((cs.drop off).take (len*z))[j]? = some c->∃ v:Value,w.cell? ⟨m.r,(m.s+off)+j,none⟩=some v/\v.oneCell'=true/\aP w R h μ c v:=by
    intro j c ai;have aN:j<len*z:=by
     have:=(atU.1 ai).1;rw[bl] at this; exact this
    rw[aum aN,auC] at ai;obtain⟨v,aX,a6,a3⟩:=bt _ c ai;exact⟨v,by simp[World.cell?,aj,avx,aX],a6,a3⟩
   obtain⟨vs,b6,bJ⟩:=NE (P:=P) (w2:=w) (fun _=>rfl) cE;refine⟨bl,by simp[Builtin.lenOf],vs,b6,fun k hk w2 ka=>?_⟩;have:=bJ (k*z) (by rw[bl]; exact at2 _ hk) w2 ka;simp[Builtin.firstCells,this]
  ·cases ah
 | hV dz b off sz a cs m ag hm=>
  simp only[contents,ag,true_and] at ah;split at ah
  ·rename_i uK; subst uK;simp only[Option.some.injEq,Prod.mk.injEq,awc,avd] at ah;obtain⟨rfl,rfl⟩:=ah;exact⟨by simp,by simp[Builtin.lenOf],[],⟨rfl,fun j c ai=>by simp at ai⟩,fun k hk w2 _=>by
    obtain rfl:k=0:=by simpa using hk
    simp[Builtin.firstCells,loadCells,loadCellsFrom]⟩
  ·cases ah
 | gH dz b off len cap sz cap' a al TS ar=>
  unfold contents at ah;rcases ar with ar | ⟨g6,cs',ar,aN⟩
  ·simp[ar] at ah
  ·simp only[ar] at ah;split at ah
   ·omega
   ·cases ah
 | _=>simp[contents] at ah
theorem Co {t e:TypeId} (am:iD P t=some e) :P.underlying t=some (.slice e) :=by
 unfold iD at am;split at am
 ·rename_i fw aL; cases am; exact aL
 ·cases am
def AZ (P:Program) (u:TypeId) :Prop:=∃ d,P.underlying u=some d/\∀ k,d≠.int k
theorem Vy (d:TypeDesc) (hk:∀ k,d≠.int k) :(match d with | .int _=>true | _=>false)=false:=by
 cases d with
 | int k=>exact absurd rfl (hk k)
 | _=>rfl
theorem run_append_fits {t u ty e:TypeId} {z n sLen gX:Nat} {base:Option Addr} {bI:Value} {vs:List Value} {w' : World} (am:P.underlying t=some (.slice e)) (aw:cB P e=some z) (aL:AZ P u)
  (al:(Builtin.lenOf bI).run P w=.ok n w) (aD:(Builtin.firstCells z n bI).run P w=.ok vs.toArray w) (er:sLen+n<=gX)
  (ch:match base with | some a=>(storeCells (a.add (sLen*z)) vs).run P w=.ok () w' | none=>w'=w) :
  (Builtin.append_ #[t,u] ty #[.slice base sLen gX,bI]).run P w=.ok (.slice base (sLen+n) gX) w':=by
 obtain⟨d,bH,hk⟩:=aL;have Ai:=Vy d hk;cases base with
 | none=>
  subst ch;simp[Builtin.append_,cA am,fG aw,cA bH,Ai,al,er,aD]
 | some a=>
  simp only at ch;simp[Builtin.append_,cA am,fG aw,cA bH,Ai,al,er,aD,ch]
theorem akz {t u ty e:TypeId} {i:TypeInfo} {zv:Value} {n sLen gX:Nat} {base:Option Addr} {bI:Value} {fM vs:List Value} (am:P.underlying t=some (.slice e)) (av:P.info? e=some i) (lN:i.zero=some zv) (aL:AZ P u)
  (al:(Builtin.lenOf bI).run P w=.ok n w) (aD:(Builtin.firstCells i.size n bI).run P w.drew=.ok vs.toArray w.drew) (ap:(Builtin.firstCells i.size sLen (.slice base sLen gX)).run P w.drew=.ok fM.toArray w.drew)
  (qi:gX<sLen+n) (dN:(sLen+n)*i.bytes<=cK) (ag:0<i.bytes) :
  (Builtin.append_ #[t,u] ty #[.slice base sLen gX,bI]).run P w =
   .ok (.slice (some ⟨w.heap.size,0,none⟩) (sLen+n) (grownCap w (sLen+n) gX e)) (w.drew.alloc (.cells ((fM++vs).toArray++Builtin.zeroCells zv.cells (grownCap w (sLen+n) gX e - (sLen+n))) e)) :=by
 obtain⟨d,bH,hk⟩:=aL;have Ai:=Vy d hk;have aw:cB P e=some i.size:=by simp[cB,av]
 have aC:¬ (sLen+n<=gX) :=by omega
 have v8:¬ (281474976710656<Builtin.nextslicecap (sLen+n) gX*i.bytes) :=by
  have:=growslice_fits qi dN;omega
 have mf:¬ (i.bytes=0) :=by omega
 simp[Builtin.append_,cA am,fG aw,cA bH,Ai,al,aC,typeInfo,av,v8,mf,Question.forced,ap,aD,zeroValue,lN,newRow,grownCap];rw[<-awd,List.append_toArray fM vs]
theorem dL.drew {h' : aO} {μ' : cP} {w' : World} (e:dL w h μ w' h' μ') :dL w h μ w' h' μ':=e
theorem ak0 {s:U} {pA:Value} (ak:aP w R h μ s pA) (hk:s=.aW\/(∃ z es,s=.bR z es)\/∃ z b off len cap sz,s=.au z b off len cap sz) :
  ∃ base sLen gX,pA=.slice base sLen gX/\sLen<=gX:=by
 cases ak<;>simp at hk
 ·exact⟨_,_,_,rfl,atW _⟩
 ·rename_i al ap dp;exact⟨_,_,_,rfl,by omega⟩
 ·rename_i al TS ar;exact⟨_,_,_,rfl,by omega⟩
 ·exact⟨_,_,_,rfl,atW _⟩
 ·rename_i al aw ah aq;exact⟨_,_,_,rfl,by omega⟩
 ·exact⟨_,_,_,rfl,au7 _⟩
theorem Zk {e:TypeId} {z:Nat} (aw:tD P e=some z) :∃ i v,P.info? e=some i/\i.zero=some v/\v.cells.size=z:=by
 unfold tD at aw;cases av:P.info? e with
 | none=>rw[av] at aw; cases aw
 | some i=>
  rw[av] at aw;simp only[avy] at aw;cases aq:i.zero with
  | none=>rw[aq] at aw; cases aw
  | some v=>rw[aq] at aw; exact⟨i,v,rfl,aq,by simpa using aw⟩
theorem CG {e:TypeId} {zv:Value} {z need cap:Nat} {xs:List U} {vs:List Value} (aw:zv.cells.size=z) (al:xs.length=need*z) (mT:tN w R h μ xs vs) (c3:need<=cap) :
  (vs.toArray++Builtin.zeroCells zv.cells (cap - need)).size=cap*z ∧
  ∀ (j:Nat) (c:U),xs[j]? = some c->∃ v:Value,(vs.toArray++Builtin.zeroCells zv.cells (cap - need))[j]? = some v/\v.oneCell'=true/\aP w R h μ c v:=by
 refine⟨?_,fun j c ai=>?_⟩
 ·have h1:(Builtin.zeroCells zv.cells (cap - need)).size=(cap - need)*z:=by simp[Builtin.zeroCells,aw]
  have ad:need*z+(cap - need)*z=cap*z:=by rw[<-auN]; congr 1; omega
  rw[awM,h1,awN,mT.1,al,ad]
 ·obtain⟨v,h1,ad,aj⟩:=mT.2 j c ai;have aN:j<vs.length:=(atU.1 h1).1;refine⟨v,?_,ad,aj⟩;rw[auZ (by simpa using aN)];simpa using h1
theorem Pb (rel:b9 R B w h μ) {t u ty e:TypeId} {z by_ n:Nat} {s c:U} {pA bI:Value} {h' : aO} {xs:List U} {vs:List Value} (aw:cB P e=some z) (ep:iQ P e=some by_)
  (ax:vy P h e z by_ s xs n=some (c,h')) (ak:aP w R h μ s pA) (bf:xs.length=n*z) (cE:tN w R h μ xs vs)
  (Gi:∀ (base:Option Addr) (sLen gX:Nat) (w' : World),sLen+n<=gX->(match base with | some a=>(storeCells (a.add (sLen*z)) vs).run P w=.ok () w' | none=>w'=w)->
   (Builtin.append_ #[t,u] ty #[.slice base sLen gX,bI]).run P w=.ok (.slice base (sLen+n) gX) w')
  (CY:∀ (i:TypeInfo) (zv:Value),P.info? e=some i->i.zero=some zv->∀ (base:Option Addr) (sLen gX:Nat) (fM:List Value),(Builtin.firstCells i.size sLen (.slice base sLen gX)).run P w.drew=.ok fM.toArray w.drew->
   gX<sLen+n->(sLen+n)*i.bytes<=cK->0<i.bytes->(Builtin.append_ #[t,u] ty #[.slice base sLen gX,bI]).run P w =
   .ok (.slice (some ⟨w.heap.size,0,none⟩) (sLen+n) (grownCap w (sLen+n) gX e)) (w.drew.alloc (.cells ((fM++vs).toArray++Builtin.zeroCells zv.cells (grownCap w (sLen+n) gX e - (sLen+n))) e))) :
  ∃ v w' μ',(Builtin.append_ #[t,u] ty #[pA,bI]).run P w=.ok v w'/\dL w h μ w' h' μ'/\b9 R B w' h' μ'/\aP w' R h' μ' c v:=by
 unfold vy at ax;by_cases aC:n=0
 ·-- nothing is appended
  subst aC;simp only[if_true] at ax;have ci:(c,h')=(s,h) :=by
   split at ax<;>first | (simp only[Option.some.injEq] at ax; exact ax.symm) | cases ax
  have hk:s=.aW\/(∃ z es,s=.bR z es)\/∃ z b off len cap sz,s=.au z b off len cap sz:=by
   split at ax
   ·exact .inl rfl
   ·exact .inr (.inl ⟨_,_,rfl⟩)
   ·exact .inr (.inr ⟨_,_,_,_,_,_,rfl⟩)
   ·cases ax
  simp only[Prod.mk.injEq] at ci;obtain⟨rfl,rfl⟩:=ci;obtain⟨base,sLen,gX,rfl,dR⟩:=ak0 ak hk;have iH:vs=[] :=by
   have:vs.length=0:=by rw[cE.1,bf]; simp
   exact auE.1 this
  subst iH;have:=Gi base sLen gX w (by omega) (by cases base<;>simp[storeCells]);exact⟨_,w,μ,this,.refl _ _ _,rel,by simpa using ak⟩
 ·rw[if_neg aC] at ax;split at ax
  ·cases ax
  ·rename_i jM;simp only[not_or,Decidable.not_not] at jM;obtain⟨sY,k1,hO⟩:=jM;obtain⟨i,zv,av,lN,jQ⟩:=Zk hO;have qv:i.size=z:=by simpa [cB,av] using aw
   have mf:i.bytes=by_:=by simpa [iQ,av] using ep
   have agS:0<z:=Nat.pos_of_ne_zero sY;have KN:∀ a,w.drew.cell? a=w.cell? a:=fun _=>rfl
   split at ax
   ·-- append to nil
    split at ax
    ·rename_i dN;simp only[Option.some.injEq,Prod.mk.injEq] at ax;obtain⟨rfl,rfl⟩:=ax;cases ak;have ar:=CY i zv av lN none 0 0 [] (by simp[Builtin.firstCells]) (by omega) (by rw[mf]; simpa using dN) (by omega);have c3:n<=grownCap w (0+n) 0 e:=by have:=grownCap_ge w (0+n) 0 e; omega
     obtain⟨k5,lI⟩:=CG (e:=e) (zv:=zv) (need:=n) (cap:=grownCap w (0+n) 0 e) jQ (by rw[bf]) cE c3;have ay:=rel.push (w':=w.drew.alloc (.cells (vs.toArray++Builtin.zeroCells zv.cells (grownCap w (0+n) 0 e - n)) e)) xs _ e rfl rfl rfl rfl (by rw[k5,bf]; exact at2 _ c3) lI;rw[bf] at ay;refine⟨_,_,_,by simpa using ar,by simpa using ay.1,by simpa using ay.2,?_⟩;have:=aP.au (w:=w.drew.alloc (.cells (vs.toArray++Builtin.zeroCells zv.cells (grownCap w (0+n) 0 e - n)) e)) (R:=R) (h:=h.push (.cells (n*z) xs)) (μ:=bO μ h.n (some ⟨w.heap.size,0,(vs.toArray++Builtin.zeroCells zv.cells (grownCap w (0+n) 0 e - n)).size⟩))
      z h.n 0 n n (n*z) (grownCap w (0+n) 0 e) xs ⟨w.heap.size,0,(vs.toArray++Builtin.zeroCells zv.cells (grownCap w (0+n) 0 e - n)).size⟩ (by simp[ev,fB]) (by simp) (atW _) (by omega) (.inr ⟨by omega,c3,by simp only; rw[k5]; omega⟩)
     simpa using this
    ·cases ax
   ·rename_i dz b off len cap sz;cases ag:h.f b with
    | cells m cs=>
     rw[ag] at ax;simp only at ax;split at ax
     ·rename_i CU;obtain⟨rfl,rfl,dN⟩:=CU;cases ak with
      | gH _ _ _ _ _ _ cap' a al TS ar=>
       exfalso;rcases ar with ar | ⟨g6,cs',ar,aN⟩
       ·rw[ar] at ag; cases ag
       ·rw[ar] at ag; cases ag; omega
      | hV _ _ _ _ a cs' cj bL hm=>
       rw[ag] at bL; cases bL;have o4:=rel.so hm;rw[if_neg (by omega),awc,avd,avd,auT,avi] at ax;have ar:=CY i zv av lN (some a) 0 0 [] (by simp[Builtin.firstCells,loadCells,loadCellsFrom]) (by omega) (by rw[mf]; exact dN) (by omega);rw[avi] at ar;have c3:n<=grownCap w n 0 e:=grownCap_ge _ _ _ _;obtain⟨k5,lI⟩:=CG (e:=e) (zv:=zv) (need:=n) (cap:=grownCap w n 0 e) jQ (by rw[bf]) cE c3;split at ax
       ·simp only[Option.some.injEq,Prod.mk.injEq] at ax;obtain⟨rfl,rfl⟩:=ax;have ay:=rel.push (w':=w.drew.alloc (.cells (vs.toArray++Builtin.zeroCells zv.cells (grownCap w n 0 e - n)) e)) xs _ e rfl rfl rfl rfl (by rw[k5,bf]; exact at2 _ c3) lI;rw[bf] at ay;refine⟨_,_,_,by simpa using ar,by simpa using ay.1,by simpa using ay.2,?_⟩;have:=aP.au (w:=w.drew.alloc (.cells (vs.toArray++Builtin.zeroCells zv.cells (grownCap w n 0 e - n)) e)) (R:=R) (h:=h.push (.cells (n*z) xs)) (μ:=bO μ h.n (some ⟨w.heap.size,0,(vs.toArray++Builtin.zeroCells zv.cells (grownCap w n 0 e - n)).size⟩))
         z h.n 0 n n (n*z) (grownCap w n 0 e) xs ⟨w.heap.size,0,(vs.toArray++Builtin.zeroCells zv.cells (grownCap w n 0 e - n)).size⟩ (by simp[ev,fB]) (by simp) (atW _) (by omega) (.inr ⟨by omega,c3,by simp only; rw[k5]; omega⟩)
        simpa using this
       ·rename_i KO;split at ax
        ·rename_i As;subst As;simp only[Option.some.injEq,Prod.mk.injEq] at ax;obtain⟨rfl,rfl⟩:=ax;have nD:m<n*z:=by
          have:1*1<=n*z:=Nat.mul_le_mul (by omega) agS;omega
         have ay:=rel.move (w':=w.drew.alloc (.cells (vs.toArray++Builtin.zeroCells zv.cells (grownCap w n 0 e - n)) e)) ag hm rfl rfl rfl rfl bf nD (by rw[k5]; exact at2 _ c3) lI;refine⟨_,_,_,by simpa using ar,by simpa using ay.1,by simpa using ay.2,?_⟩;have:=aP.au (w:=w.drew.alloc (.cells (vs.toArray++Builtin.zeroCells zv.cells (grownCap w n 0 e - n)) e)) (R:=R) (h:=h.set b (.cells (n*z) xs)) (μ:=bO μ b (some ⟨w.heap.size,0,(vs.toArray++Builtin.zeroCells zv.cells (grownCap w n 0 e - n)).size⟩))
          z b 0 n n (n*z) (grownCap w n 0 e) xs ⟨w.heap.size,0,(vs.toArray++Builtin.zeroCells zv.cells (grownCap w n 0 e - n)).size⟩ (by simp[dV,e3]) (by simp) (atW _) (by omega) (.inr ⟨by omega,c3,by simp only; rw[k5]; omega⟩)
         simpa using this
        ·simp only[Option.some.injEq,Prod.mk.injEq] at ax;obtain⟨rfl,rfl⟩:=ax;have ay:=rel.push (w':=w.drew.alloc (.cells (vs.toArray++Builtin.zeroCells zv.cells (grownCap w n 0 e - n)) e)) xs _ e rfl rfl rfl rfl (by rw[k5,bf]; exact at2 _ c3) lI;rw[bf] at ay;have hk:=ay.2.kill (b:=b) (sz:=m) (cs:=cs) (h':=(h.set b .dead).push (.cells (n*z) xs)) (by rw[ev,cf _ _ _ _ (by omega)]; exact ag) (by rw[fB]; omega) (by
          rw[ev,ev,dV,e3];funext x;simp only[bO];by_cases h1:x=h.n
          ·rw[if_pos h1,if_neg (by omega),if_pos h1]
          ·rw[if_neg h1];split<;>rfl) rfl
         refine⟨_,_,_,by simpa using ar,by simpa using ay.1.trans hk.1,by simpa using hk.2,?_⟩;have:=aP.au (w:=w.drew.alloc (.cells (vs.toArray++Builtin.zeroCells zv.cells (grownCap w n 0 e - n)) e)) (R:=R) (h:=(h.set b .dead).push (.cells (n*z) xs)) (μ:=bO μ h.n (some ⟨w.heap.size,0,(vs.toArray++Builtin.zeroCells zv.cells (grownCap w n 0 e - n)).size⟩))
          z h.n 0 n n (n*z) (grownCap w n 0 e) xs ⟨w.heap.size,0,(vs.toArray++Builtin.zeroCells zv.cells (grownCap w n 0 e - n)).size⟩ (by rw[ev,e3,j7]) (by simp) (atW _) (by omega) (.inr ⟨by omega,c3,by simp only; rw[k5]; omega⟩)
         simpa using this
      | au _ _ _ _ _ _ cap' cs' cj bL hm al ap dp=>
       have eR:=rel.blk b cj hm;rw[ag] at eR;obtain⟨TT,ce,_⟩:=eR;rw[ag] at bL; cases bL;have uy:len*z<=cap*z:=at2 _ al;have TQ:cap<=cap':=by rcases dp with dp | dp<;>omega
       split at ax
       ·-- in place,within what the machine knows
        rename_i er;simp only[Option.some.injEq,Prod.mk.injEq] at ax;obtain⟨rfl,rfl⟩:=ax;have UD:len*z+n*z<=cap*z:=by rw[<-auN]; exact at2 _ er
        have mS:max m (off+len*z+xs.length)=m:=by omega
        obtain⟨w',h1,ad,aj⟩:=zk (P:=P) rel (cvs:=xs) (vs:=vs) (k:=off+len*z) ag hm (by omega) cE.1 (by omega) cE.2;rw[mS] at ad aj;have ch:(storeCells ((⟨cj.r,cj.s+off,none⟩:Addr).add (len*z)) vs).run P w=.ok () w':=by rw[Addr.mF,avx]; exact h1
        refine⟨_,w',μ,Gi (some ⟨cj.r,cj.s+off,none⟩) _ _ _ (by omega) ch,ad,aj,?_⟩;exact .au z b off (len+n) cap m cap' _ cj (by simp[dV,e3]; rfl) hm er ap dp
       ·rename_i aqf;split at ax
        ·-- beyond a slice whose end lies within the row: it moves
         rename_i apU;simp only[Option.some.injEq,Prod.mk.injEq] at ax;obtain⟨rfl,rfl⟩:=ax;have eW:cap'=cap:=by rcases dp with dp | dp<;>omega
         subst eW;have cD:contents h z (.au z b off len cap' m)=some ((cs.drop off).take (len*z),len) :=by simp[contents,ag]
         obtain⟨cl,_,fM,h7,C8⟩:=vS (P:=P) rel cD (aP.au z b off len cap' m cap' cs cj ag hm al ap dp);have yu:∀ w2:World,(∀ a,w2.cell? a=w.cell? a)->(Builtin.firstCells z len (.slice (some ⟨cj.r,cj.s+off,none⟩) len cap')).run P w2=.ok fM.toArray w2:=fun w2 mq=>by
          have:=C8 len (atW _) w2 mq
          rwa [atT (by rw[h7.1,cl]; exact atW _)] at this
         have ar:=CY i zv av lN (some ⟨cj.r,cj.s+off,none⟩) len cap' fM (by rw[qv]; exact yu w.drew KN) (by omega) (by rw[mf]; exact dN) (by omega);have c3:len+n<=grownCap w (len+n) cap' e:=grownCap_ge _ _ _ _;have CT:tN w R h μ ((cs.drop off).take (len*z)++xs) (fM++vs) :=by
          refine⟨by simp[h7.1,cE.1],fun j c ai=>?_⟩;by_cases aN:j<((cs.drop off).take (len*z)).length
          ·rw[atV aN] at ai;rw[atV (by rw[h7.1]; exact aN)];exact h7.2 j c ai
          ·rw[at8 (by omega)] at ai;rw[at8 (by rw[h7.1]; omega),h7.1];exact cE.2 _ c ai
         have fb:((cs.drop off).take (len*z)++xs).length=(len+n)*z:=by rw[at4,cl,bf,auN]
         obtain⟨k5,lI⟩:=CG (e:=e) (zv:=zv) (need:=len+n) (cap:=grownCap w (len+n) cap' e) jQ fb CT c3;have ay:=rel.push (w':=w.drew.alloc (.cells ((fM++vs).toArray++Builtin.zeroCells zv.cells (grownCap w (len+n) cap' e - (len+n))) e)) _ _ e rfl rfl rfl rfl (by rw[k5,fb]; exact at2 _ c3) lI;rw[fb] at ay;refine⟨_,_,_,ar,ay.1,ay.2,?_⟩;have:=aP.au (w:=w.drew.alloc (.cells ((fM++vs).toArray++Builtin.zeroCells zv.cells (grownCap w (len+n) cap' e - (len+n))) e)) (R:=R) (h:=h.push (.cells ((len+n)*z) ((cs.drop off).take (len*z)++xs))) (μ:=bO μ h.n (some ⟨w.heap.size,0,((fM++vs).toArray++Builtin.zeroCells zv.cells (grownCap w (len+n) cap' e - (len+n))).size⟩))
          z h.n 0 (len+n) (len+n) ((len+n)*z) (grownCap w (len+n) cap' e) _ ⟨w.heap.size,0,((fM++vs).toArray++Builtin.zeroCells zv.cells (grownCap w (len+n) cap' e - (len+n))).size⟩ (by simp[ev,fB]; rfl) (by simp) (atW _) (by omega) (.inr ⟨by omega,c3,by simp only; rw[k5]; omega⟩)
         simpa using this
        ·rename_i KO;split at ax
         ·-- beyond the row's end: in place,or it moves
          rename_i As;subst As;simp only[Option.some.injEq,Prod.mk.injEq] at ax;obtain⟨rfl,rfl⟩:=ax;obtain⟨aeL,mO,TY⟩:0+cap*z=m/\cap<=cap'/\cj.s+0+cap'*z<=cj.T:=by rcases dp with dp | dp<;>omega
          have nD:m<(len+n)*z:=by
           have:(cap+1)*z<=(len+n)*z:=at2 _ (by omega);rw[auN] at this;omega
          have agA:len*z+n*z=(len+n)*z:=by rw[auN]
          by_cases er:len+n<=cap'
          ·have afJ:(len+n)*z<=cap'*z:=at2 _ er;have mS:max m (len*z+xs.length)=(len+n)*z:=by omega
           obtain⟨w',h1,ad,aj⟩:=zk (P:=P) rel (cvs:=xs) (vs:=vs) (k:=len*z) ag hm (by omega) cE.1 (by omega) cE.2;rw[mS] at ad aj;have uE:bu cs (len*z) xs=cs.take (len*z)++xs:=by
            unfold bu;rw[auB (by omega),auu]
           rw[uE] at ad aj;have ch:(storeCells ((⟨cj.r,cj.s+0,none⟩:Addr).add (len*z)) vs).run P w=.ok () w':=by rw[Addr.mF,avx]; simpa using h1
           refine⟨_,w',μ,Gi (some ⟨cj.r,cj.s+0,none⟩) _ _ _ er ch,ad,aj,?_⟩;exact .au z b 0 (len+n) (len+n) ((len+n)*z) cap' _ cj (by simp[dV,e3]; rfl) hm (atW _) (by omega) (.inr ⟨by omega,er,TY⟩)
          ·have cD:contents h z (.au z b 0 len cap m)=some ((cs.drop 0).take (len*z),len) :=by simp[contents,ag]
           obtain⟨cl,_,fM,h7,C8⟩:=vS (P:=P) rel cD (aP.au z b 0 len cap m cap' cs cj ag hm al ap dp);have yu:∀ w2:World,(∀ a,w2.cell? a=w.cell? a)->(Builtin.firstCells z len (.slice (some ⟨cj.r,cj.s+0,none⟩) len cap')).run P w2=.ok fM.toArray w2:=fun w2 mq=>by
            have:=C8 len (atW _) w2 mq
            rwa [atT (by rw[h7.1,cl]; exact atW _)] at this
           rw[au3] at cl h7;have ar:=CY i zv av lN (some ⟨cj.r,cj.s+0,none⟩) len cap' fM (by rw[qv]; exact yu w.drew KN) (by omega) (by rw[mf]; exact dN) (by omega);have c3:len+n<=grownCap w (len+n) cap' e:=grownCap_ge _ _ _ _;have CT:tN w R h μ (cs.take (len*z)++xs) (fM++vs) :=by
            refine⟨by simp[h7.1,cE.1],fun j c ai=>?_⟩;by_cases aN:j<(cs.take (len*z)).length
            ·rw[atV aN] at ai;rw[atV (by rw[h7.1]; exact aN)];exact h7.2 j c ai
            ·rw[at8 (by omega)] at ai;rw[at8 (by rw[h7.1]; omega),h7.1];exact cE.2 _ c ai
           have fb:(cs.take (len*z)++xs).length=(len+n)*z:=by rw[at4,cl,bf,auN]
           obtain⟨k5,lI⟩:=CG (e:=e) (zv:=zv) (need:=len+n) (cap:=grownCap w (len+n) cap' e) jQ fb CT c3;have ay:=rel.move (w':=w.drew.alloc (.cells ((fM++vs).toArray++Builtin.zeroCells zv.cells (grownCap w (len+n) cap' e - (len+n))) e)) ag hm rfl rfl rfl rfl fb nD (by rw[k5]; exact at2 _ c3) lI;refine⟨_,_,_,ar,ay.1,ay.2,?_⟩;have:=aP.au (w:=w.drew.alloc (.cells ((fM++vs).toArray++Builtin.zeroCells zv.cells (grownCap w (len+n) cap' e - (len+n))) e)) (R:=R) (h:=h.set b (.cells ((len+n)*z) (cs.take (len*z)++xs))) (μ:=bO μ b (some ⟨w.heap.size,0,((fM++vs).toArray++Builtin.zeroCells zv.cells (grownCap w (len+n) cap' e - (len+n))).size⟩))
            z b 0 (len+n) (len+n) ((len+n)*z) (grownCap w (len+n) cap' e) _ ⟨w.heap.size,0,((fM++vs).toArray++Builtin.zeroCells zv.cells (grownCap w (len+n) cap' e - (len+n))).size⟩ (by simp[dV,e3]; rfl) (by simp) (atW _) (by omega) (.inr ⟨by omega,c3,by simp only; rw[k5]; omega⟩)
           simpa using this
         ·-- beyond the row's end,from a place within it: a block of its own,in place or moved
          rename_i As;simp only[Option.some.injEq,Prod.mk.injEq] at ax;obtain⟨rfl,rfl⟩:=ax;obtain⟨aeL,mO,TY⟩:off+cap*z=m/\cap<=cap'/\cj.s+off+cap'*z<=cj.T:=by rcases dp with dp | dp<;>omega
          have nD:m<off+(len+n)*z:=by
           have:(cap+1)*z<=(len+n)*z:=at2 _ (by omega);rw[auN] at this;omega
          have agA:len*z+n*z=(len+n)*z:=by rw[auN]
          have o4:=rel.so hm;by_cases er:len+n<=cap'
          ·have afJ:(len+n)*z<=cap'*z:=at2 _ er;have mS:max m (off+len*z+xs.length)=off+(len+n)*z:=by omega
           obtain⟨w',h1,ad,aj⟩:=zk (P:=P) rel (cvs:=xs) (vs:=vs) (k:=off+len*z) ag hm (by omega) cE.1 (by omega) cE.2;rw[mS] at ad aj;have uE:(bu cs (off+len*z) xs).drop off=(cs.drop off).take (len*z)++xs:=by
            unfold bu;rw[auB (as:=cs) (by omega),auu,auH (by simp; omega),awi];congr 2; omega
           have ch:(storeCells ((⟨cj.r,cj.s+off,none⟩:Addr).add (len*z)) vs).run P w=.ok () w':=by rw[Addr.mF,avx]; exact h1
           have qu:=aj.XM (b:=b) (off:=off) (m:=cj) (h':=(h.set b .dead).push (.cells ((len+n)*z) ((cs.drop off).take (len*z)++xs))) (by rw[dV,j7]) hm (by omega) (by
            rw[ev,dV,dV,e3,e3,uE];have:off+(len+n)*z - off=(len+n)*z:=by omega
            rw[this];funext x;simp only[bO];split
            ·rfl
            ·split<;>rfl) rfl
           refine⟨_,w',_,Gi (some ⟨cj.r,cj.s+off,none⟩) _ _ _ er ch,ad.trans qu.1,qu.2,?_⟩;exact .au z h.n 0 (len+n) (len+n) ((len+n)*z) cap' _ ⟨cj.r,cj.s+off,cj.T⟩ (by rw[ev,e3,j7]) (by rw[e3]; simp) (atW _) (by omega) (.inr ⟨by omega,er,by simpa using (by omega:cj.s+off+cap'*z<=cj.T)⟩)
          ·have cD:contents h z (.au z b off len cap m)=some ((cs.drop off).take (len*z),len) :=by simp[contents,ag]
           obtain⟨cl,_,fM,h7,C8⟩:=vS (P:=P) rel cD (aP.au z b off len cap m cap' cs cj ag hm al ap dp);have yu:∀ w2:World,(∀ a,w2.cell? a=w.cell? a)->(Builtin.firstCells z len (.slice (some ⟨cj.r,cj.s+off,none⟩) len cap')).run P w2=.ok fM.toArray w2:=fun w2 mq=>by
            have:=C8 len (atW _) w2 mq
            rwa [atT (by rw[h7.1,cl]; exact atW _)] at this
           have ar:=CY i zv av lN (some ⟨cj.r,cj.s+off,none⟩) len cap' fM (by rw[qv]; exact yu w.drew KN) (by omega) (by rw[mf]; exact dN) (by omega);have c3:len+n<=grownCap w (len+n) cap' e:=grownCap_ge _ _ _ _;have CT:tN w R h μ ((cs.drop off).take (len*z)++xs) (fM++vs) :=by
            refine⟨by simp[h7.1,cE.1],fun j c ai=>?_⟩;by_cases aN:j<((cs.drop off).take (len*z)).length
            ·rw[atV aN] at ai;rw[atV (by rw[h7.1]; exact aN)];exact h7.2 j c ai
            ·rw[at8 (by omega)] at ai;rw[at8 (by rw[h7.1]; omega),h7.1];exact cE.2 _ c ai
           have fb:((cs.drop off).take (len*z)++xs).length=(len+n)*z:=by rw[at4,cl,bf,auN]
           obtain⟨k5,lI⟩:=CG (e:=e) (zv:=zv) (need:=len+n) (cap:=grownCap w (len+n) cap' e) jQ fb CT c3;have ay:=rel.push (w':=w.drew.alloc (.cells ((fM++vs).toArray++Builtin.zeroCells zv.cells (grownCap w (len+n) cap' e - (len+n))) e)) _ _ e rfl rfl rfl rfl (by rw[k5,fb]; exact at2 _ c3) lI;rw[fb] at ay;have hk:=ay.2.kill (b:=b) (sz:=m) (cs:=cs) (h':=(h.set b .dead).push (.cells ((len+n)*z) ((cs.drop off).take (len*z)++xs))) (by rw[ev,cf _ _ _ _ (by omega)]; exact ag) (by rw[fB]; omega) (by
            rw[ev,ev,dV,e3];funext x;simp only[bO];by_cases h1:x=h.n
            ·rw[if_pos h1,if_neg (by omega),if_pos h1]
            ·rw[if_neg h1];split<;>rfl) rfl
           refine⟨_,_,_,ar,ay.1.trans hk.1,hk.2,?_⟩;have:=aP.au (w:=w.drew.alloc (.cells ((fM++vs).toArray++Builtin.zeroCells zv.cells (grownCap w (len+n) cap' e - (len+n))) e)) (R:=R) (h:=(h.set b .dead).push (.cells ((len+n)*z) ((cs.drop off).take (len*z)++xs))) (μ:=bO μ h.n (some ⟨w.heap.size,0,((fM++vs).toArray++Builtin.zeroCells zv.cells (grownCap w (len+n) cap' e - (len+n))).size⟩))
            z h.n 0 (len+n) (len+n) ((len+n)*z) (grownCap w (len+n) cap' e) _ ⟨w.heap.size,0,((fM++vs).toArray++Builtin.zeroCells zv.cells (grownCap w (len+n) cap' e - (len+n))).size⟩ (by rw[ev,e3,j7]) (by simp) (atW _) (by omega) (.inr ⟨by omega,c3,by simp only; rw[k5]; omega⟩)
           simpa using this
     ·cases ax
    | _=>rw[ag] at ax; cases ax
   ·cases ax
theorem IY (rel:b9 R B w h μ) {t u ty:TypeId} {s x c:U} {pA bI:Value} {h' : aO} (aL:AZ P u) (ax:sm P h t s x=some (c,h')) (ak:aP w R h μ s pA) (af:aP w R h μ x bI) :
  ∃ v w' μ',(Builtin.append_ #[t,u] ty #[pA,bI]).run P w=.ok v w'/\dL w h μ w' h' μ'/\b9 R B w' h' μ'/\aP w' R h' μ' c v:=by
 unfold sm at ax;cases am:iD P t with
 | none=>rw[am] at ax; cases ax
 | some e=>
 have kC:=Co am;rw[am] at ax;simp only at ax;cases aw:cB P e with
 | none=>rw[aw] at ax; cases ax
 | some z=>
 cases ep:iQ P e with
 | none=>rw[aw,ep] at ax; cases ax
 | some by_=>
 rw[aw,ep] at ax;simp only at ax;cases ah:contents h z x with
 | none=>rw[ah] at ax; cases ax
 | some OB=>
 obtain⟨xs,n⟩:=OB;rw[ah] at ax;simp only at ax;obtain⟨bf,bl,vs,cE,aeT⟩:=vS (P:=P) rel ah af;have lB:∀ w2:World,(∀ a,w2.cell? a=w.cell? a)->(Builtin.firstCells z n bI).run P w2=.ok vs.toArray w2:=fun w2 mq=>by
  have:=aeT n (atW _) w2 mq
  rwa [atT (by rw[cE.1,bf]; exact atW _)] at this
 refine Pb rel aw ep ax ak bf cE (fun base sLen gX w' er ch=>run_append_fits kC aw aL bl (lB w (fun _=>rfl)) er ch) (fun i zv av lN base sLen gX fM ap ar az ag=>?_);have qv:i.size=z:=by simpa [cB,av] using aw
 exact akz kC av lN aL bl (by rw[qv]; exact lB w.drew (fun _=>rfl)) ap ar az ag
end

section
variable {P:Program} {w:World} {R:Nat->Prop} {B:Nat} {h:aO} {μ:cP}
theorem zD {x:U} {bI:Value} {y n EJ:Nat} {code:BoundsCode} (ag:jJ x y=some n) (af:aP w R h μ x bI) (aA:y<=EJ) :
  n<=y/\(Instr.sliceBound bI EJ code).run P w=.ok n w:=by
 unfold jJ at ag;cases af with
 | int k i=>
  simp only at ag;split at ag
  ·rename_i av;simp only[Option.some.injEq] at ag;subst ag;refine⟨by omega,?_⟩;have:(0<=i/\i<=(EJ:Int)) :=⟨av.1,by omega⟩
   simp[Instr.sliceBound,asIntOf,this]
  ·cases ag
 | _=>simp at ag
def xw (w:World) (R:Nat->Prop) (h:aO) (μ:cP) :Option U->Option Value->Prop
 | none,none=>True
 | some c,some v=>aP w R h μ c v
 | _,_=>False
theorem vB {cV av cO:Option U} {rO gw wS:Option Value} {isS:Bool} {len cap cap' l m aG:Nat} (ag:gK len cap cV av cO=some (l,aG,m)) (bl:len<=cap) (c3:cap<=cap')
  (h1:xw w R h μ cV rO) (ad:xw w R h μ av gw) (aj:xw w R h μ cO wS) :
  l<=aG/\aG<=m/\m<=cap/\(cO=none->m=cap)/\(Instr.sliceBounds isS len cap' rO gw wS).run P w=.ok (l,aG,if cO.isSome then m else cap') w:=by
 unfold gK at ag;cases cO with
 | none=>
  cases wS with
  | some v=>exact aj.elim
  | none=>
   simp only at ag;cases av with
   | none=>
    cases gw with
    | some v=>exact ad.elim
    | none=>
     simp only at ag;cases cV with
     | none=>
      cases rO with
      | some v=>exact h1.elim
      | none=>
       simp only[Option.some.injEq,Prod.mk.injEq] at ag;obtain⟨rfl,rfl,rfl⟩:=ag;exact⟨by omega,bl,atW _,fun _=>rfl,by simp[Instr.sliceBounds]⟩
     | some c=>
      cases rO with
      | none=>exact h1.elim
      | some v=>
       simp only at ag;cases al:jJ c len with
       | none=>rw[al] at ag; cases ag
       | some l'=>
        rw[al] at ag;simp only[Option.some.injEq,Prod.mk.injEq] at ag;obtain⟨rfl,rfl,rfl⟩:=ag;have af:=zD (P:=P) (code:=.sliceB) al h1 (atW _);exact⟨af.1,bl,atW _,fun _=>rfl,by simp[Instr.sliceBounds,af.2]⟩
   | some Jn=>
    cases gw with
    | none=>exact ad.elim
    | some amw=>
     simp only at ag;cases sM:jJ Jn cap with
     | none=>rw[sM] at ag; cases ag
     | some h'=>
      rw[sM] at ag;simp only at ag;have af:=zD (P:=P) (code:=if isS then .sliceAcap else .sliceAlen) sM ad c3;cases cV with
      | none=>
       cases rO with
       | some v=>exact h1.elim
       | none=>
        simp only[Option.some.injEq,Prod.mk.injEq] at ag;obtain⟨rfl,rfl,rfl⟩:=ag;exact⟨by omega,af.1,atW _,fun _=>rfl,by simp[Instr.sliceBounds,af.2]⟩
      | some c=>
       cases rO with
       | none=>exact h1.elim
       | some v=>
        simp only at ag;cases al:jJ c h' with
        | none=>rw[al] at ag; cases ag
        | some l'=>
         rw[al] at ag;simp only[Option.some.injEq,Prod.mk.injEq] at ag;obtain⟨rfl,rfl,rfl⟩:=ag;have aA:=zD (P:=P) (code:=.sliceB) al h1 (atW _);exact⟨aA.1,af.1,atW _,fun _=>rfl,by simp[Instr.sliceBounds,af.2,aA.2]⟩
 | some abs=>
  cases wS with
  | none=>exact aj.elim
  | some atO=>
   simp only at ag;cases hm:jJ abs cap with
   | none=>rw[hm] at ag; cases ag
   | some cv=>
    rw[hm] at ag;simp only at ag;have af:=zD (P:=P) (code:=if isS then .slice3Acap else .slice3Alen) hm aj c3;cases av with
    | none=>cases ag
    | some Jn=>
     cases gw with
     | none=>exact ad.elim
     | some amw=>
      simp only at ag;cases sM:jJ Jn cv with
      | none=>rw[sM] at ag; cases ag
      | some h'=>
       rw[sM] at ag;simp only at ag;have aA:=zD (P:=P) (code:=.slice3B) sM ad (atW _);cases cV with
       | none=>
        cases rO with
        | some v=>exact h1.elim
        | none=>
         simp only[Option.some.injEq,Prod.mk.injEq] at ag;obtain⟨rfl,rfl,rfl⟩:=ag;exact⟨by omega,aA.1,af.1,(fun aD=>by cases aD),by simp[Instr.sliceBounds,af.2,aA.2]⟩
       | some c=>
        cases rO with
        | none=>exact h1.elim
        | some v=>
         simp only at ag;cases al:jJ c h' with
         | none=>rw[al] at ag; cases ag
         | some l'=>
          rw[al] at ag;simp only[Option.some.injEq,Prod.mk.injEq] at ag;obtain⟨rfl,rfl,rfl⟩:=ag;have aw:=zD (P:=P) (code:=.slice3C) al h1 (atW _);exact⟨aw.1,aA.1,af.1,(fun aD=>by cases aD),by simp[Instr.sliceBounds,af.2,aA.2,aw.2]⟩
theorem vH {z:Nat}:∀ (n:Nat) (cs:List U),(l5 z n cs).length=n
 | 0,_=>rfl
 | n+1,cs=>by simp[l5,vH n]
theorem Fi {z:Nat}:∀ (n:Nat) (cs:List U) (i:Nat),i<n->(l5 z n cs)[i]? = some ((cs.drop (i*z)).take z)
 | 0,_,_,h=>by omega
 | n+1,cs,0,_=>by simp[l5]
 | n+1,cs,i+1,h=>by
  simp only[l5,auF];rw[Fi n _ i (by omega),awD];congr 3;rw[auI]; omega
theorem Yc (rel:b9 R B w h μ) {z b off cap sz l aG m cv cap' : Nat} {cs:List U} {cj:M} {hasMax:Bool} (ag:h.f b=.cells sz cs) (hm:μ b=some cj) (ap:off+cap*z<=sz)
  (dp:(off+cap*z<sz/\cap'=cap)\/(off+cap*z=sz/\cap<=cap'/\cj.s+off+cap'*z<=cj.T)) (h1:l<=aG) (ad:aG<=m) (aj:m<=cap) (aF:hasMax=false->m=cap)
  (b5:cv=if hasMax then m else cap') (ap9:m≠l) :
  aP w R h μ (.au z b (off+l*z) (aG - l) (m - l) sz) (.slice (some ((⟨cj.r,cj.s+off,none⟩:Addr).add (l*z))) (aG - l) (cv - l)) :=by
 have eR:=rel.blk b cj hm;rw[ag] at eR;have ce:=eR.2.1;rw[Addr.mF,avx];have aQ:l*z+(m - l)*z=m*z:=by rw[<-auN]; congr 1; omega
 have bF:m*z<=cap*z:=at2 _ aj;refine .au z b _ _ _ sz _ cs cj ag hm (by omega) (by omega) ?_;cases hasMax with
 | false=>
  have Ar:=aF rfl;have kf:cv=cap':=by simpa using b5
  rw[kf];rcases dp with ⟨aX,a6⟩ | ⟨aX,a6,a3⟩
  ·rw[<-Ar] at aX a6;exact .inl ⟨by omega,by omega⟩
  ·rw[<-Ar] at aX a6;refine .inr ⟨by omega,by omega,?_⟩;have dn:l*z+(cap' - l)*z=cap'*z:=by rw[<-auN]; congr 1; omega
   omega
 | true=>
  have kf:cv=m:=by simpa using b5
  rw[kf];by_cases aN:off+l*z+(m - l)*z<sz
  ·exact .inl ⟨aN,rfl⟩
  ·exact .inr ⟨by omega,atW _,by omega⟩
theorem extract_toList (s:ByteArray) (a b:Nat) :(s.extract a b).data.toList=(s.data.toList.drop a).take (b - a) :=by
 simp[ByteArray.extract,ByteArray.copySlice,List.take_drop]
theorem aP.aky (z:Nat) (p:Prop) [Decidable p] (a b:Addr) (cap:Nat) :aP w R h μ (.bR z []) (.slice (if p then some a else some b) 0 cap) :=by
 by_cases ay:p
 ·rw[if_pos ay]; exact .fO _ _ _
 ·rw[if_neg ay]; exact .fO _ _ _
theorem aP.Yb (z b off len cap sz cap' : Nat) (p:Prop) [Decidable p] (a e9:Addr) (al:len<=cap) (ah:cap<=cap') (ar:vj h b sz) :
  aP w R h μ (.au z b off len cap sz) (.slice (if p then some a else some e9) len cap') :=by
 by_cases ay:p
 ·rw[if_pos ay]; exact .gH _ _ _ _ _ _ _ _ al ah ar
 ·rw[if_neg ay]; exact .gH _ _ _ _ _ _ _ _ al ah ar
theorem ak3 (rel:b9 R B w h μ) {t:TypeId} {x c:U} {bI:Value} {cV av cO:Option U} {rO gw wS:Option Value} (ak:En P t x cV av cO=some c) (af:aP w R h μ x bI)
  (h1:xw w R h μ cV rO) (ad:xw w R h μ av gw) (aj:xw w R h μ cO wS) :
  ∃ v,(Instr.sliceAt t bI rO gw wS).run P w=.ok v w/\aP w R h μ c v:=by
 unfold En at ak;split at ak
 ·-- an array behind its address
  rename_i n e aL;cases aw:cB P e with
  | none=>rw[aw] at ak; cases ak
  | some z=>
  cases ag:gK n n cV av cO with
  | none=>rw[aw,ag] at ak; cases ak
  | some uQ=>
  obtain⟨l,aG,m⟩:=uQ;rw[aw,ag] at ak;simp only at ak;obtain⟨b6,bJ,c0,di,i4⟩:=vB (P:=P) (isS:=false) ag (atW _) (atW _) h1 ad aj;have afa:(if cO.isSome=true then m else n)=m:=by
   cases cO with
   | none=>simp[di rfl]
   | some v=>simp
  rw[afa] at i4;split at ak
  ·rename_i b off sz;split at ak
   ·rename_i er;have AF:∃ a,bI=.pointer (some a) :=by cases af<;>exact⟨_,rfl⟩
    obtain⟨a,rfl⟩:=AF;refine⟨_,by simp[Instr.sliceAt,cA aL,Instr.sureAddr,i4,fG aw]; rfl,?_⟩;split at ak
    ·rename_i ml;simp only[Option.some.injEq] at ak; subst ak;have:aG - l=0:=by omega
     rw[this];exact .fO _ _ _
    ·rename_i ml;simp only[Option.some.injEq] at ak; subst ak;rw[if_neg ml];cases af with
     | ptr _ _ _ cs cj bL hm=>
      exact Yc rel (cap:=m) (cap':=m) (hasMax:=true) bL hm er (by
       have eR:=rel.blk b cj hm;rw[bL] at eR;have ce:=eR.2.1;by_cases aN:off+m*z<sz
       ·exact .inl ⟨aN,rfl⟩
       ·exact .inr ⟨by omega,atW _,by omega⟩) b6 bJ (atW _) (fun aD=>by cases aD) (by simp) ml
     | m2 _ _ _ _ ar=>exact .gH _ _ _ _ _ _ _ _ (by omega) (atW _) ar
   ·cases ak
  ·rename_i cs off;split at ak
   ·rename_i er;simp only[Option.some.injEq] at ak; subst ak;cases af with
    | b3 _ _ blk o ey ah aq=>
     refine⟨_,by simp[Instr.sliceAt,cA aL,Instr.sureAddr,i4,fG aw]; rfl,?_⟩;have hM:aG*z<=n*z:=at2 _ (by omega);by_cases ml:m=l
     ·have aQ:aG - l=0:=by omega
      rw[aQ];exact .fO _ _ _
     ·rw[if_neg ml,Addr.mF];have al:=vH (z:=z) (aG - l) (cs.drop (off+l*z));have jl:∀ i,i<aG - l->∀ j,j<z->off+l*z+(i*z+j)<cs.length:=by
       intro i gw j ai;have:(l+i+1)*z<=aG*z:=at2 _ (by omega);rw[auN,auN] at this;omega
      have dU:∀ i fw,(l5 z (aG - l) (cs.drop (off+l*z)))[i]? = some fw->i<aG - l/\fw=((cs.drop (off+l*z)).drop (i*z)).take z:=by
       intro i fw ga;have gw:i<aG - l:=by
        have:=(atU.1 ga).1;omega
       rw[Fi _ _ _ gw] at ga;simp only[Option.some.injEq] at ga;exact⟨gw,ga.symm⟩
      have:=aP.bR (w:=w) (R:=R) (h:=h) (μ:=μ) z (l5 z (aG - l) (cs.drop (off+l*z))) blk (o+off+l*z) (m - l) (fun i j=>ey (off+l*z+(i*z+j))) (by omega)
       (fun fw ga=>by
        obtain⟨i,gw,rfl⟩:=List.getElem_of_mem ga;obtain⟨aX,a6⟩:=dU i _ (atX gw);rw[a6,aue,au4,au4];have:(l+i+1)*z<=aG*z:=at2 _ (by omega);rw[auN,auN] at this;omega)
       (fun i j gw ai=>by
        have:=ah (off+l*z+(i*z+j)) (jl i (by omega) j ai);have dn:o+off+l*z+(i*z+j)=o+(off+l*z+(i*z+j)) :=by omega
        rw[dn]; exact this)
       (fun i fw ga j c ai=>by
        obtain⟨aX,rfl⟩:=dU i _ ga;have mR:j<z:=by
         have:=(atU.1 ai).1;rw[aue] at this; omega
        rw[aum mR,auC,auC,] at ai;exact aq _ c ai)
      rw[al] at this;exact this
   ·cases ak
  ·cases ak
 ·-- a slice
  rename_i e aL;split at ak
  ·rename_i z dz b off len cap sz aw;split at ak
   ·rename_i uK; subst uK;cases ag:gK len cap cV av cO with
    | none=>rw[ag] at ak; cases ak
    | some uQ=>
    obtain⟨l,aG,m⟩:=uQ;rw[ag] at ak;simp only[at1,Option.some.injEq] at ak;cases af with
    | au _ _ _ _ _ _ cap' cs cj bL hm al ap dp=>
     have TQ:cap<=cap':=by rcases dp with dp | dp<;>omega
     obtain⟨b6,bJ,c0,di,i4⟩:=vB (P:=P) (isS:=true) ag al TQ h1 ad aj;refine⟨_,by simp[Instr.sliceAt,Instr.slice,cA aL,i4,fG aw]; rfl,?_⟩;split at ak
     ·rename_i ml;subst ak;have:aG - l=0:=by omega
      rw[this];by_cases sY:(if cO.isSome=true then m else cap')=l
      ·rw[if_pos sY,sY,avY];exact .hV _ _ _ _ _ _ cj bL hm
      ·rw[if_neg sY];cases cO with
       | some v=>exact absurd (by simpa using ml) sY
       | none=>
        have Ar:=di rfl;simp only[avR,avg,if_false] at sY ⊢;have eb:cap=l:=by omega
        have am:off+cap*z=sz/\cap<=cap'/\cj.s+off+cap'*z<=cj.T:=by rcases dp with dp | dp<;>omega
        have uy:l*z+(cap' - l)*z=cap'*z:=by rw[<-auN]; congr 1; omega
        subst eb;rw[Addr.mF];have:=aP.au (w:=w) (R:=R) (h:=h) (μ:=μ) z b (off+cap*z) 0 0 sz (cap' - cap) _ cj bL hm (atW _) (by omega) (.inr ⟨by omega,by omega,by omega⟩)
        rwa [<-avx] at this
     ·rename_i ml;subst ak;have bz:¬ ((if cO.isSome=true then m else cap')=l) :=by
       cases cO with
       | none=>have:=di rfl; simp; omega
       | some v=>simpa using ml
      rw[if_neg bz];exact Yc rel (hasMax:=cO.isSome) bL hm ap dp b6 bJ c0 (fun aD=>di (by simpa using aD)) rfl ml
    | hV _ _ _ _ a cs cj bL hm=>
     obtain⟨b6,bJ,c0,di,i4⟩:=vB (P:=P) (isS:=true) ag (atW 0) (atW 0) h1 ad aj;refine⟨_,by simp[Instr.sliceAt,Instr.slice,cA aL,i4,fG aw]; rfl,?_⟩;have jO:m=0:=by
      cases cO with
      | none=>exact di rfl
      | some v=>simp at c0; omega
     have ru:l=0:=by omega
     have ae4:aG=0:=by omega
     subst jO ru ae4;simp only[if_true] at ak;subst ak;simp;exact .hV _ _ _ _ _ _ cj bL hm
    | gH _ _ _ _ _ _ cap' a al dp ar=>
     obtain⟨b6,bJ,c0,di,i4⟩:=vB (P:=P) (isS:=true) ag al dp h1 ad aj;refine⟨_,by simp[Instr.sliceAt,Instr.slice,cA aL,i4,fG aw]; rfl,?_⟩;split at ak
     ·rename_i ml;subst ak;have:aG - l=0:=by omega
      rw[this];exact aP.Yb _ _ _ _ _ _ _ _ _ _ (atW _) (au7 _) ar
     ·rename_i ml;subst ak;have dR:m<=(if cO.isSome=true then m else cap') :=by split<;>omega
      exact aP.Yb _ _ _ _ _ _ _ _ _ _ (by omega) (by omega) ar
   ·cases ak
  ·rename_i z dz es aw;split at ak
   ·rename_i uK; subst uK;cases ag:gK es.length es.length cV av cO with
    | none=>rw[ag] at ak; cases ak
    | some uQ=>
    obtain⟨l,aG,m⟩:=uQ;rw[ag] at ak;simp only[at1,Option.some.injEq] at ak;subst ak;cases af with
    | bR _ _ blk off cap ey al wB ah aq=>
     obtain⟨b6,bJ,c0,di,i4⟩:=vB (P:=P) (isS:=true) ag (atW _) al h1 ad aj;refine⟨_,by simp[Instr.sliceAt,Instr.slice,cA aL,i4,fG aw]; rfl,?_⟩;have bl:((es.drop l).take (aG - l)).length=aG - l:=by rw[aue,au4]; omega
     have dR:aG<=(if cO.isSome=true then m else cap) :=by
      cases cO with
      | none=>simp only[avR,avg,if_false]; omega
      | some v=>simpa using bJ
     by_cases ml:(if cO.isSome=true then m else cap)=l
     ·have aQ:aG - l=0:=by omega
      rw[if_pos ml,aQ,avd];exact .fO _ _ _
     ·rw[if_neg ml,Addr.mF];have dU:∀ i fw,((es.drop l).take (aG - l))[i]? = some fw->i<aG - l/\es[l+i]? = some fw:=by
       intro i fw ga;have gw:i<aG - l:=by
        have:=(atU.1 ga).1;omega
       rw[aum gw,auC] at ga;exact⟨gw,ga⟩
      have:=aP.bR (w:=w) (R:=R) (h:=h) (μ:=μ) z ((es.drop l).take (aG - l)) blk (off+l*z) ((if cO.isSome=true then m else cap) - l) (fun i j=>ey (l+i) j) (by omega)
       (fun fw ga=>wB fw (avC (aur ga)))
       (fun i j gw ai=>by
        have:=ah (l+i) j (by omega) ai;have dn:off+l*z+(i*z+j)=off+((l+i)*z+j) :=by rw[auN]; omega
        rw[dn]; exact this)
       (fun i fw ga j c ai=>aq (l+i) fw (dU i fw ga).2 j c ai)
      rw[bl] at this;exact this
    | fO _ a cap=>
     obtain⟨b6,bJ,c0,di,i4⟩:=vB (P:=P) (isS:=true) ag (atW _) (au7 cap) h1 ad aj;refine⟨_,by simp at i4; simp[Instr.sliceAt,Instr.slice,cA aL,i4,fG aw]; rfl,?_⟩;have aQ:aG - l=0:=by simp at c0; omega
     rw[aQ,avd];exact aP.aky _ _ _ _ _
   ·cases ak
  ·rename_i z aw;cases af;cases ag:gK 0 0 cV av cO with
   | none=>rw[ag] at ak; cases ak
   | some uQ=>
   obtain⟨l,aG,m⟩:=uQ;rw[ag] at ak;simp only[at1,Option.some.injEq] at ak;subst ak;obtain⟨b6,bJ,c0,di,i4⟩:=vB (P:=P) (isS:=true) ag (atW _) (atW _) h1 ad aj;obtain rfl:m=0:=by omega
   obtain rfl:aG=0:=by omega
   obtain rfl:l=0:=by omega
   refine⟨_,by simp[Instr.sliceAt,Instr.slice,cA aL,i4,fG aw]; rfl,?_⟩;exact .aW
  ·cases ak
 ·-- a string
  rename_i s aL;split at ak
  ·cases af with
   | str bs=>
    cases ag:gK bs.data.toList.length bs.data.toList.length cV av none with
    | none=>rw[ag] at ak; cases ak
    | some uQ=>
    obtain⟨l,aG,m⟩:=uQ;rw[ag] at ak;simp only[at1,Option.some.injEq] at ak;subst ak;cases wS with
    | some v=>exact aj.elim
    | none=>
     have g5:bs.data.toList.length=bs.size:=by simp
     rw[g5] at ag;obtain⟨b6,bJ,c0,di,i4⟩:=vB (P:=P) (isS:=false) ag (atW _) (atW _) h1 ad aj;refine⟨.string (bs.extract l aG),by simp[Instr.sliceAt,Instr.slice,cA aL,i4],?_⟩;rw[<-extract_toList];exact .str _
  ·cases ak
 ·cases ak
end

section
variable {P:Program} {w:World} {R:Nat->Prop} {B:Nat} {h:aO} {μ:cP}
def lq (w:World) (R:Nat->Prop) (h:aO) (μ:cP) (cs:List U) (arr:Array Value) :Prop:=
 arr.size=cs.length/\∀ (j:Nat) (c:U),cs[j]? = some c->∃ v:Value,arr[j]? = some v/\v.oneCell'=true/\aP w R h μ c v
theorem lq.aJ {cs:List U} {arr:Array Value} (az:lq w R h μ cs arr) :aP w R h μ (.aJ cs) (.agg arr) :=by
 refine .aJ _ _ az.1 (fun j v ai=>?_) (fun j c v ah ai=>?_)
 ·have aN:j<cs.length:=by have:=(auv.1 ai).1; rw[<-az.1]; exact this
  obtain⟨u,h1,ad,_⟩:=az.2 j _ (atX aN);rw[ai] at h1; cases h1; exact ad
 ·obtain⟨u,h1,_,aj⟩:=az.2 j c ah;rw[ai] at h1; cases h1; exact aj
theorem SK:∀ (l:List Value) (k off:Nat) (cells:Array Value),off+k+l.length<=cells.size->
  ((l.zipIdx k).foldl (fun cs (vI:Value × Nat)=>cs.setIfInBounds (off+vI.2) vI.1) cells).size=cells.size ∧
  ∀ j,((l.zipIdx k).foldl (fun cs (vI:Value × Nat)=>cs.setIfInBounds (off+vI.2) vI.1) cells)[j]? = if off+k<=j/\j<off+k+l.length then l[j - (off+k)]? else cells[j]?
 | [],k,off,cells,_=>⟨by simp,fun j=>by simp; omega⟩
 | v::l,k,off,cells,al=>by
  simp only[auf] at al;have aI:=SK l (k+1) off (cells.setIfInBounds (off+k) v) (by simp; omega);simp only[List.zipIdx_cons,aw5];refine⟨by rw[aI.1]; simp,fun j=>?_⟩;rw[aI.2 j];by_cases ai:off+(k+1)<=j/\j<off+(k+1)+l.length
  ·rw[if_pos ai,if_pos (by simp only[auf]; omega)];have:j - (off+k)=(j - (off+(k+1)))+1:=by omega
   rw[this,auF]
  ·rw[if_neg ai,ave];by_cases am:off+k=j
   ·subst am;rw[if_pos rfl,if_pos (by omega),if_pos (by simp only[auf]; omega)];simp
   ·rw[if_neg am,if_neg (by simp only[auf]; omega)]
theorem FB {lc:Nat->Option (Nat × Nat)}:∀ (parts:List (Nat × U)) (kO:List (Nat × Value)) (cs:List U) (arr:Array Value) (cs' : List U),
  hD lc cs parts=some cs'->lq w R h μ cs arr->kO.length=parts.length->(∀ (j:Nat) (p:Nat × U) (bS:Nat × Value),parts[j]? = some p->kO[j]? = some bS->bS.1=p.1/\aP w R h μ p.2 bS.2)->
  ∃ arr',Instr.fill lc arr kO=some arr'/\lq w R h μ cs' arr'
 | [],[],cs,arr,cs',aD,az,_,_=>by
  simp only[hD,Option.some.injEq] at aD; subst aD;exact⟨arr,rfl,az⟩
 | [],_::_,_,_,_,_,_,al,_=>by simp at al
 | _::_,[],_,_,_,_,_,al,_=>by simp at al
 | (i,c) ::parts,(jx,v) ::kO,cs,arr,cs',aD,az,al,ay=>by
  obtain⟨rfl,aq⟩:=ay 0 (i,c) (jx,v) rfl rfl;simp only at aq;unfold hD at aD;cases gy:lc jx with
  | none=>rw[gy] at aD; cases aD
  | some os=>
  obtain⟨off,size⟩:=os;cases ah:c.cells with
  | none=>rw[gy,ah] at aD; cases aD
  | some vs=>
  rw[gy,ah] at aD;simp only at aD;split at aD
  ·rename_i jM;obtain⟨g5,mT⟩:=Fg aq ah;have yn:v.cells.toList.length=vs.length:=by simpa using g5
   have mP:=SK v.cells.toList 0 off arr (by rw[az.1,yn]; omega);have agR:v.cells.zipIdx.foldl (fun cs (x:Value × Nat)=>match x with | (c,j)=>cs.setIfInBounds (off+j) c) arr=(v.cells.toList.zipIdx 0).foldl (fun cs (vI:Value × Nat)=>cs.setIfInBounds (off+vI.2) vI.1) arr:=by
    rw[<-Array.foldl_toList];simp
   obtain⟨arr',h1,ad⟩:=FB parts kO (bu cs off vs) (v.cells.zipIdx.foldl (fun cs (x:Value × Nat)=>match x with | (c,j)=>cs.setIfInBounds (off+j) c) arr) cs' aD (by
     rw[agR];refine⟨by rw[mP.1,az.1,r3 (by omega)]; omega,fun j x ai=>?_⟩;rw[mP.2 j];rw[NT (by omega)] at ai;split at ai
     ·rename_i aN;rw[if_neg (by omega)];exact az.2 j x ai
     ·split at ai
      ·rename_i h1 ad;rw[if_pos (by rw[yn]; omega)];obtain⟨u,aX,a6,a3⟩:=mT _ x ai;exact⟨u,by simpa using aX,a6,a3⟩
      ·rename_i h1 ad;rw[if_neg (by rw[yn]; omega)];exact az.2 j x ai) (by simpa using al) (fun j p bS ai eB=>ay (j+1) p bS (by simpa using ai) (by simpa using eB))
   refine⟨arr',?_,ad⟩;have rx:¬ (v.cells.size≠size\/off+v.cells.size > arr.size) :=by rw[g5,az.1]; omega
   simp only[Instr.fill,gy];rw[if_neg (by simpa using rx)];exact h1
  ·cases aD
theorem xr {t:TypeId} {z:List U} (aw:hJ P t=some z) :∃ v,(∀ w2:World,(zeroValue t).run P w2=.ok v w2)/\lq w R h μ z v.cells:=by
 obtain⟨i,v,av,aq,ak,ah⟩:=Zm (w:=w) (R:=R) (h:=h) (μ:=μ) aw;exact⟨v,fun w2=>X0 av aq,ak,ah⟩
theorem akD {fs:Array Field} (ak:(fs.toList.all fun f=>(cB P f.type).isSome)=true) :
  (fs.mapM fun f=>(do pure (f.offset,<-sizeOf f.type) :Sem (Nat × Nat))).run P w=.ok ((fs.toList.map fun f=>(f.offset,(cB P f.type).getD 0)).toArray) w:=by
 rw[Array.mapM_eq_mapM_toList];simp only[Sem.run_map];have:∀ l:List Field,(l.all fun f=>(cB P f.type).isSome)=true->(l.mapM fun f=>(do pure (f.offset,<-sizeOf f.type) :Sem (Nat × Nat))).run P w=.ok (l.map fun f=>(f.offset,(cB P f.type).getD 0)) w:=by
  intro l
  induction l with
  | nil=>intro _; simp
  | cons f l aI=>
   intro al;simp only[axc,atY] at al;obtain⟨n,aC⟩:=awR.1 al.1;simp only[avA,Sem.run_bind,fG aC,Result.andThen_ok,Sem.run_pure,aI al.2,aus,aC,auJ]
 rw[this _ ak];rfl
theorem aaW {t:TypeId} {parts:List (Nat × U)} {kO:Array (Nat × Value)} {c:U} (ag:BZ P t parts=some c) (al:kO.size=parts.length)
  (ay:∀ (j:Nat) (p:Nat × U) (bS:Nat × Value),parts[j]? = some p->kO[j]? = some bS->bS.1=p.1/\aP w R h μ p.2 bS.2) :
  ∃ v,(Instr.build t kO).run P w=.ok v w/\aP w R h μ c v:=by
 unfold BZ at ag;split at ag
 ·rename_i zero fs aw aL;split at ag
  ·cases ag
  ·rename_i g5;simp only[avb,Bool.not_eq_false] at g5;cases aD:hD (D4 P fs) zero parts with
   | none=>rw[aD] at ag; cases ag
   | some cs=>
    rw[aD] at ag;simp only[at1,Option.some.injEq] at ag; subst ag;obtain⟨v,aq,az⟩:=xr (w:=w) (R:=R) (h:=h) (μ:=μ) aw;obtain⟨arr',h1,ad⟩:=FB parts kO.toList zero v.cells cs aD az (by simpa using al) (fun j p bS ai eB=>ay j p bS ai (by simpa using eB));have af8:(fun i=>((fs.toList.map fun f=>(f.offset,(cB P f.type).getD 0)).toArray)[i]?)=D4 P fs:=by
     funext i;simp only[D4];simp only[awr,at0,avH];cases uv:fs[i]? with
     | none=>simp
     | some f=>
      rw[auK] at g5;have:=g5 f (by have:=Array.mem_of_getElem? uv; simpa using this);obtain⟨n,aC⟩:=awR.1 this;simp[aC]
    refine⟨_,?_,ad.aJ⟩;simp only[Instr.build,Sem.run_bind,aq,Result.andThen_ok,cA aL,akD g5];rw[af8,h1];simp
 ·rename_i zero n e aw aL;cases g5:cB P e with
  | none=>rw[g5] at ag; cases ag
  | some m=>
   rw[g5] at ag;simp only at ag;cases aD:hD (fun i=>some (i*m,m)) zero parts with
   | none=>rw[aD] at ag; cases ag
   | some cs=>
    rw[aD] at ag;simp only[at1,Option.some.injEq] at ag; subst ag;obtain⟨v,aq,az⟩:=xr (w:=w) (R:=R) (h:=h) (μ:=μ) aw;obtain⟨arr',h1,ad⟩:=FB parts kO.toList zero v.cells cs aD az (by simpa using al) (fun j p bS ai eB=>ay j p bS ai (by simpa using eB));refine⟨_,?_,ad.aJ⟩;simp only[Instr.build,Sem.run_bind,aq,Result.andThen_ok,cA aL,fG g5];rw[h1];simp
 ·cases ag
theorem y6 {zero:List U}:∀ n,(dy zero n).length=n*zero.length
 | 0=>by simp[dy]
 | n+1=>by simp only[dy,at4,y6 n,auI]; omega
theorem XL {zero:List U}:∀ (n j:Nat) (c:U),(dy zero n)[j]? = some c->zero[j % zero.length]? = some c
 | 0,_,_,ai=>by simp[dy] at ai
 | n+1,j,c,ai=>by
  simp only[dy] at ai;by_cases aN:j<zero.length
  ·rw[atV aN] at ai
   rwa [at7 aN]
  ·rw[at8 (by omega)] at ai;have:=XL n _ c ai
   rwa [<-Nat.mod_eq_sub_mod (by omega)] at this
theorem HZ {zero:List U} {z:Array Value} (az:lq w R h μ zero z) (n:Nat) :lq w R h μ (dy zero n) ((Array.range (n*zero.length)).map (z[· % z.size]!)) :=by
 refine⟨by simp[y6],fun j c ai=>?_⟩;have aN:j<n*zero.length:=by
  have:=(atU.1 ai).1
  rwa [y6] at this
 obtain⟨v,h1,ad,aj⟩:=az.2 _ c (XL n j c ai);refine⟨v,?_,ad,aj⟩;rw[<-az.1] at h1;obtain⟨ag,rfl⟩:=auv.1 h1;simp[aN,ag]
theorem acH {z:Nat}:∀ (parts:List (Nat × U)) (a b:List U),hD (fun i=>some (i*z,z)) a parts=some b->b.length=a.length:=by
 intro parts
 induction parts with
 | nil=>intro a b eg; simp only[hD,Option.some.injEq] at eg; subst eg; rfl
 | cons p parts aI=>
  intro a b eg;unfold hD at eg;split at eg
  ·rename_i off size vs gy jt;split at eg
   ·rw[aI _ _ eg,r3 (by omega)]; omega
   ·cases eg
  ·cases eg
theorem Pw {t e:TypeId} {len z:Nat} {zero cs:List U} {parts:List (Nat × U)} {kO:Array (Nat × Value)} (am:iD P t=some e) (aw:cB P e=some z) (iZ:hJ P e=some zero) (hO:zero.length=z) (mS:len*z<=16777216)
  (aD:hD (fun i=>some (i*z,z)) (dy zero len) parts=some cs) (al:kO.size=parts.length)
  (ay:∀ (j:Nat) (p:Nat × U) (bS:Nat × Value),parts[j]? = some p->kO[j]? = some bS->bS.1=p.1/\aP w R h μ p.2 bS.2) :
  cs.length=len*z/\∃ arr,(Instr.buildSlice t len kO).run P w=.ok (.slice (some ⟨w.heap.size,0,none⟩) len len) (w.alloc (.cells arr e))/\lq w R h μ cs arr:=by
 obtain⟨v,aq,az⟩:=xr (w:=w) (R:=R) (h:=h) (μ:=μ) iZ;obtain⟨arr',h1,ad⟩:=FB parts kO.toList _ _ cs aD (HZ az len) (by simpa using al) (fun j p bS ai eB=>ay j p bS ai (by simpa using eB));refine⟨by rw[acH _ _ _ aD,y6,hO],arr',?_,ad⟩;have kC:=Co am;have afD:¬ (len*z > 2 ^ 24) :=by omega
 simp only[Instr.buildSlice,Sem.run_bind,cA kC,Result.andThen_ok,fG aw,if_neg afD];rw[hO] at h1;generalize fv:len*z=N at h1;by_cases aE:N=0
 ·subst aE;have hn:∀ f:Nat->Value,(Array.range 0).map f=#[] :=fun f=>by simp[Array.range]
  rw[hn] at h1;simp[hn,h1,newRow]
 ·simp[aE,aq,h1,newRow]
theorem aaV (rel:b9 R B w h μ) {t:TypeId} {len:Nat} {parts:List (Nat × U)} {kO:Array (Nat × Value)} {c:U} {h' : aO} (ag:E7 P h t len parts=some (c,h')) (al:kO.size=parts.length)
  (ay:∀ (j:Nat) (p:Nat × U) (bS:Nat × Value),parts[j]? = some p->kO[j]? = some bS->bS.1=p.1/\aP w R h μ p.2 bS.2) :
  ∃ v w' μ',(Instr.buildSlice t len kO).run P w=.ok v w'/\dL w h μ w' h' μ'/\b9 R B w' h' μ'/\aP w' R h' μ' c v:=by
 unfold E7 at ag;cases am:iD P t with
 | none=>rw[am] at ag; cases ag
 | some e=>
 rw[am] at ag;simp only at ag;cases aw:cB P e with
 | none=>rw[aw] at ag; cases ag
 | some z=>
 cases iZ:hJ P e with
 | none=>rw[aw,iZ] at ag; cases ag
 | some zero=>
 rw[aw,iZ] at ag;simp only at ag;split at ag
 ·rename_i jM;obtain⟨hO,mS⟩:=jM;cases aD:hD (fun i=>some (i*z,z)) (dy zero len) parts with
  | none=>rw[aD] at ag; cases ag
  | some cs=>
   rw[aD] at ag;simp only[at1,Option.some.injEq,Prod.mk.injEq] at ag;obtain⟨rfl,rfl⟩:=ag;obtain⟨eb,arr',ho,ad⟩:=Pw am aw iZ hO mS aD al ay;have ax:=EV rel (cs:=cs) (vs:=arr') e ad.1 ad.2;rw[eb] at ax;obtain⟨aX,a6,a3⟩:=ax;refine⟨.slice (some ⟨w.heap.size,0,none⟩) len len,_,_,ho,aX,a6,?_⟩;have:=aP.au (w:=w.alloc (.cells arr' e)) (R:=R) (h:=h.push (.cells (len*z) cs)) (μ:=bO μ h.n (some ⟨w.heap.size,0,arr'.size⟩)) z h.n 0 len len (len*z) len cs ⟨w.heap.size,0,arr'.size⟩ (by simp[ev,fB]) (by simp) (atW _) (by omega)
    (.inr ⟨by omega,atW _,by simp only; rw[ad.1,eb]; omega⟩)
   simpa using this
 ·cases ag
theorem Wa {t e:TypeId} {z by_:Nat} {zero:List U} {kl kc:IntKind} {li hA:Int} (am:iD P t=some e) (aw:cB P e=some z) (ep:iQ P e=some by_) (iZ:hJ P e=some zero) (hO:zero.length=z)
  (aE:0<=li) (mi:li<=hA) (Ga:hA<9223372036854775808) (dN:by_*hA<=cK) :
  (dy zero hA.toNat).length=hA.toNat*z/\∃ arr,(Instr.makeSlice t (.int kl li) (.int kc hA)).run P w=.ok (.slice (some ⟨w.heap.size,0,none⟩) li.toNat hA.toNat) (w.alloc (.cells arr e))/\lq w R h μ (dy zero hA.toNat) arr:=by
 obtain⟨v,aq,az⟩:=xr (w:=w) (R:=R) (h:=h) (μ:=μ) iZ;have cE:=HZ az hA.toNat
 refine⟨by rw[y6,hO],_,?_,cE⟩;obtain⟨i,av,TN⟩:∃ i,P.info? e=some i/\i.bytes=by_:=by
  unfold iQ at ep;cases av:P.info? e with
  | none=>rw[av] at ep; cases ep
  | some i=>rw[av] at ep; exact⟨i,rfl,by simpa using ep⟩
 have wz:IntKind.i64.wrap li=li:=IntWalk.i64_in _ (by omega);have AH:IntKind.i64.wrap hA=hA:=IntWalk.i64_in _ (by omega);have kC:=Co am;unfold cK at dN;have t1:¬ (hA<0\/(281474976710656:Int)<(by_:Int)*hA) :=by omega
 have t2:¬ (li<0) :=by omega
 have t3:¬ (hA<li) :=by omega
 rw[hO];generalize fv:hA.toNat*z=N;by_cases sY:N=0
 ·subst sY;have hn:∀ f:Nat->Value,(Array.range 0).map f=#[] :=fun f=>by simp[Array.range]
  simp[hn,Instr.makeSlice,cA kC,Go.asInt,asIntOf,typeInfo,av,TN,wz,AH,t1,t2,t3,fG aw,fv,newRow]
 ·simp[Instr.makeSlice,cA kC,Go.asInt,asIntOf,typeInfo,av,TN,wz,AH,t1,t2,t3,fG aw,fv,sY,aq,newRow]
theorem ain (rel:b9 R B w h μ) {t:TypeId} {l c r:U} {Hl ub:Value} {h' : aO} (hm:Hm P h t l c=some (r,h')) (al:aP w R h μ l Hl) (ah:aP w R h μ c ub) :
  ∃ v w' μ',(Instr.makeSlice t Hl ub).run P w=.ok v w'/\dL w h μ w' h' μ'/\b9 R B w' h' μ'/\aP w' R h' μ' r v:=by
 unfold Hm at hm;split at hm
 ·rename_i e li hA am gx dx;obtain⟨kl,rfl⟩:=sn gx al;obtain⟨kc,rfl⟩:=sn dx ah;cases aw:cB P e with
  | none=>rw[aw] at hm; cases hm
  | some z=>
  cases ep:iQ P e with
  | none=>rw[aw,ep] at hm; cases hm
  | some by_=>
  cases iZ:hJ P e with
  | none=>rw[aw,ep,iZ] at hm; cases hm
  | some zero=>
  rw[aw,ep,iZ] at hm;simp only at hm;split at hm
  ·rename_i jM;obtain⟨hO,aE,mi,Ga,dN⟩:=jM;simp only[Option.some.injEq,Prod.mk.injEq] at hm;obtain⟨rfl,rfl⟩:=hm;obtain⟨bl,arr,ho,cE⟩:=Wa (w:=w) (R:=R) (h:=h) (μ:=μ) (kl:=kl) (kc:=kc) am aw ep iZ hO aE mi Ga dN;have ax:=EV rel (cs:=dy zero hA.toNat) e cE.1 cE.2;rw[bl] at ax;obtain⟨aX,a6,a3⟩:=ax;refine⟨.slice (some ⟨w.heap.size,0,none⟩) li.toNat hA.toNat,_,_,ho,aX,a6,?_⟩;have:=aP.au (w:=w.alloc (.cells arr e)) (R:=R) (h:=h.push (.cells (hA.toNat*z) (dy zero hA.toNat))) (μ:=bO μ h.n (some ⟨w.heap.size,0,arr.size⟩))
    z h.n 0 li.toNat hA.toNat (hA.toNat*z) hA.toNat (dy zero hA.toNat) ⟨w.heap.size,0,arr.size⟩ (by simp[ev,fB]) (by simp) (by omega) (by omega)
    (.inr ⟨by omega,atW _,by simp only; rw[cE.1,bl]; omega⟩)
   simpa using this
  ·cases hm
 ·cases hm
theorem ah6 {t u:TypeId} {ty:TypeId} {x c:U} {bI:Value} (ah:yP P t x=some c) (af:aP w R h μ x bI) :∃ v,(Builtin.len_ #[t] ty #[bI]).run P w=.ok v w/\aP w R h μ c v:=by
 unfold yP at ah;split at ah<;>(try (simp only[Option.some.injEq] at ah; subst ah))
 ·rename_i s aL;cases af;rename_i bs;exact⟨goInt bs.size,by simp[Builtin.len_,cA aL],by rw[show (bs.data.toList.length:Int)=bs.size from by simp]; exact .int _ _⟩
 ·rename_i n e aL;exact⟨goInt n,by simp[Builtin.len_,cA aL],.int _ _⟩
 ·rename_i e aL;cases af;exact⟨goInt (0:Nat),by simp[Builtin.len_,cA aL],.int _ _⟩
 ·rename_i e z b off len cap sz aL;cases af
  ·exact⟨goInt len,by simp[Builtin.len_,cA aL],.int _ _⟩
  ·exact⟨goInt len,by simp[Builtin.len_,cA aL],.int _ _⟩
  ·exact⟨goInt (0:Nat),by simp[Builtin.len_,cA aL],.int _ _⟩
 ·rename_i e z es aL;cases af
  ·exact⟨goInt es.length,by simp[Builtin.len_,cA aL],.int _ _⟩
  ·exact⟨goInt (0:Nat),by simp[Builtin.len_,cA aL],.int _ _⟩
 ·rename_i k e aL;cases af;exact⟨goInt 0,by simp[Builtin.len_,cA aL],.int _ _⟩
 ·cases ah
end

section
variable {P:Program} {w:World} {R:Nat->Prop} {B:Nat} {h:aO} {μ:cP}
theorem wY {t:TypeId} {cs:List U} {vs:Array Value} {off:Nat} {c:U} (ay:hU P t cs off=some c) (az:lq w R h μ cs vs) :
  ∃ v,(∀ w2:World,(part t vs off).run P w2=.ok v w2)/\aP w R h μ c v:=by
 unfold hU at ay;cases o2:eo P t with
 | none=>rw[o2] at ay; cases ay
 | some b=>
  rw[o2] at ay;cases b with
  | false=>
   simp only at ay;obtain⟨v,h1,_,aj⟩:=az.2 off c ay;exact⟨v,fun w2=>by simp[part,H3 o2,h1],aj⟩
  | true=>
   cases aC:cB P t with
   | none=>rw[aC] at ay; cases ay
   | some n=>
    rw[aC] at ay;simp only at ay;split at ay
    ·rename_i dR;simp only[Option.some.injEq] at ay;subst ay;refine⟨.agg (vs.extract off (off+n)),fun w2=>by simp[part,H3 o2,fG aC],lq.aJ ⟨by simp; rw[az.1]; omega,fun j c ai=>?_⟩⟩;have kA:j<n:=by
      have:=(atU.1 ai).1;rw[aue] at this; omega
     rw[aum kA,auC] at ai;obtain⟨v,h1,ad,aj⟩:=az.2 _ c ai;refine⟨v,?_,ad,aj⟩;rw[Array.getElem?_extract,if_pos (by rw[az.1]; omega)];exact h1
    ·cases ay
theorem vw {cs:List U} {bI:Value} (af:aP w R h μ (.aJ cs) bI) :∃ vs,bI=.agg vs/\lq w R h μ cs vs:=by
 cases af with
 | aJ _ vs al h1 aq=>
  refine⟨vs,rfl,al,fun j c ai=>?_⟩;have aN:j<vs.size:=by rw[al]; exact (atU.1 ai).1
  exact⟨vs[j],by simp[aN],h1 j _ (by simp[aN]),aq j c _ ai (by simp[aN])⟩
theorem acD {t:TypeId} {cs:List U} {f:Nat} {fd:Field} {c:U} {bI:Value} (aD:xS P t f=some fd) (ay:hU P fd.type cs fd.offset=some c) (af:aP w R h μ (.aJ cs) bI) :
  ∃ v,(Instr.field t bI f).run P w=.ok v w/\aP w R h μ c v:=by
 obtain⟨fs,aL,mP⟩:=Sq aD;obtain⟨vs,rfl,az⟩:=vw af;obtain⟨v,h1,ad⟩:=wY (P:=P) ay az;exact⟨v,by simp[Instr.field,cA aL,mP,asAgg,h1],ad⟩
theorem L4 {t:TypeId} {x io c:U} {bI Dy:Value} (ah:AN P t x io=some c) (af:aP w R h μ x bI) (av:aP w R h μ io Dy) :
  ∃ v,(Instr.index t bI Dy).run P w=.ok v w/\aP w R h μ c v:=by
 unfold AN at ah;split at ah
 ·rename_i n e cs i aL fJ;obtain⟨k,rfl⟩:=sn fJ av;cases aw:cB P e with
  | none=>rw[aw] at ah; cases ah
  | some z=>
   rw[aw] at ah;simp only at ah;split at ah
   ·rename_i ag;obtain⟨vs,rfl,az⟩:=vw af;obtain⟨v,h1,ad⟩:=wY (P:=P) ah az;exact⟨v,by simp[Instr.index,asIntOf,cA aL,ag,fG aw,h1],ad⟩
   ·cases ah
 ·rename_i s i aL fJ;obtain⟨k,rfl⟩:=sn fJ av;split at ah
  ·rename_i ag;cases af with
   | str bs=>
    cases F5:bs.data.toList[i.toNat]? with
    | none=>rw[F5] at ah; cases ah
    | some b=>
     rw[F5] at ah;simp only[at1,Option.some.injEq] at ah;subst ah;have aN:i.toNat<bs.size:=by have:=(atU.1 F5).1; simpa using this
     have dU:bs[i.toNat]? = some b:=by
      have fT:=(atU.1 F5).2;rw[getElem?_pos bs i.toNat aN];simp only[Option.some.injEq];rw[<-fT];rfl
     exact⟨.int .u8 b.toNat,by simp[Instr.index,asIntOf,cA aL,ag,dU],.int _ _⟩
  ·cases ah
 ·cases ah
theorem abG (rel:b9 R B w h μ) {t u ty:TypeId} {d x c:U} {Jy bI:Value} {h' : aO} (ah:zN P h t d x=some (c,h')) (bH:aP w R h μ d Jy) (af:aP w R h μ x bI) :
  ∃ v w',(Builtin.copy_ #[t,u] ty #[Jy,bI]).run P w=.ok v w'/\dL w h μ w' h' μ/\b9 R B w' h' μ/\aP w' R h' μ c v:=by
 unfold zN at ah;cases am:iD P t with
 | none=>rw[am] at ah; cases ah
 | some e=>
 rw[am] at ah;simp only at ah;cases aw:cB P e with
 | none=>rw[aw] at ah; cases ah
 | some z=>
 rw[aw] at ah;simp only at ah;cases cD:contents h z x with
 | none=>rw[cD] at ah; cases ah
 | some OB=>
 obtain⟨xs,n⟩:=OB;rw[cD] at ah;simp only at ah;have kC:=Co am;obtain⟨bf,bl,vs,cE,lB⟩:=vS (P:=P) rel cD af;split at ah
 ·simp only[Option.some.injEq,Prod.mk.injEq] at ah;obtain⟨rfl,rfl⟩:=ah;cases bH;have aE:=lB 0 (au7 _) w (fun _=>rfl);refine⟨goInt (0:Nat),w,?_,.refl _ _ _,rel,.int _ _⟩;simp[Builtin.copy_,cA kC,bl,fG aw,aE]
 ·rename_i dz b off len cap sz;cases ag:h.f b with
  | cells m cs=>
   rw[ag] at ah;simp only at ah;split at ah
   ·rename_i CU;obtain⟨rfl,rfl⟩:=CU;simp only[Option.some.injEq,Prod.mk.injEq] at ah;obtain⟨rfl,rfl⟩:=ah;cases bH with
    | hV _ _ _ _ a cs' cj bL hm=>
     have aE:=lB 0 (au7 _) w (fun _=>rfl);have js:bu cs off []=cs:=by simp[bu]
     have gP:=rel.same (h':=h.set b (.cells m (bu cs off (xs.take (min n 0*z))))) (by
      rw[dV,Nat.min_zero,awc,avd,js];funext x;simp only[bO];split
      ·rename_i af; rw[af,ag]
      ·rfl) rfl
     refine⟨goInt (0:Nat),w,?_,gP.1,gP.2,by rw[Nat.min_zero]; exact .int _ _⟩;simp[Builtin.copy_,cA kC,bl,fG aw,aE,storeCells,Result.andThen]
    | gH _ _ _ _ _ _ cap' a al dp ar=>
     exfalso;rcases ar with ar | ⟨g6,cs',ar,aN⟩
     ·rw[ar] at ag; cases ag
     ·rw[ar] at ag; cases ag; omega
    | au _ _ _ _ _ _ cap' cs' cj bL hm al ap dp=>
     have eR:=rel.blk b cj hm;rw[ag] at eR;obtain⟨TT,ce,_⟩:=eR;have uy:min n len*z<=cap*z:=at2 _ (by omega);have UD:min n len*z<=n*z:=at2 _ (by omega);have lL:(xs.take (min n len*z)).length=min n len*z:=by rw[aue]; omega
     have mS:max m (off+(xs.take (min n len*z)).length)=m:=by rw[lL]; omega
     obtain⟨w',h1,ad,aj⟩:=zk (P:=P) rel (cvs:=xs.take (min n len*z)) (vs:=vs.take (min n len*z)) (k:=off) ag hm (by omega)
      (by rw[aue,aue,cE.1]) (by rw[mS]; omega) (fun j c ai=>by
       have aN:j<min n len*z:=by have:=(atU.1 ai).1; rwa [lL] at this
       rw[aum aN] at ai ⊢;exact cE.2 j c ai)
     rw[mS] at ad aj;have aD:=lB (min n len) (by omega) w (fun _=>rfl);refine⟨goInt (min n len:Nat),w',?_,ad,aj,.int _ _⟩;have C7:Nat.min n len=min n len:=rfl;simp[Builtin.copy_,cA kC,bl,fG aw,C7,aD,h1]
   ·cases ah
  | _=>rw[ag] at ah; cases ah
 ·cases ah
theorem Jd:∀ (cs:List U) (vs:List Value) (bs:List UInt8),nl cs=some bs->vs.length=cs.length->
  (∀ (j:Nat) (c:U),cs[j]? = some c->∃ v:Value,vs[j]? = some v/\v.oneCell'=true/\aP w R h μ c v)->
  ∃ ns:List Int,vs=ns.map (Value.int .u8)/\bs=ns.map fun n=>UInt8.ofNat n.toNat
 | [],[],bs,ag,_,_=>by
  simp only[nl,Option.some.injEq] at ag; subst ag;exact⟨[],rfl,rfl⟩
 | [],_::_,_,_,al,_=>by simp at al
 | _::_,[],_,_,al,_=>by simp at al
 | c::cs,v::vs,bs,ag,al,aq=>by
  obtain⟨v0,iH,_,uG⟩:=aq 0 c rfl;simp only[aul,Option.some.injEq] at iH;subst iH;cases uG with
  | int k n=>
   cases k<;>simp only[nl] at ag<;>try (cases ag; done)
   cases p9:nl cs with
   | none=>rw[p9] at ag; cases ag
   | some aaO=>
    rw[p9] at ag;simp only[at1,Option.some.injEq] at ag;subst ag;obtain⟨ns,h1,ad⟩:=Jd cs vs aaO p9 (by simpa using al) (fun j c ai=>aq (j+1) c (by simpa using ai));exact⟨n::ns,by rw[h1]; rfl,by rw[ad]; rfl⟩
  | _=>simp[nl] at ag
theorem SJ:∀ (ns:List Int) (s:ByteArray),(ns.foldl (fun r n=>r.push (UInt8.ofNat n.toNat)) s).data.toList=s.data.toList++ns.map fun n=>UInt8.ofNat n.toNat
 | [],s=>by simp
 | n::ns,s=>by
  rw[aw5,SJ ns];simp[ByteArray.push]
theorem abE (rel:b9 R B w h μ) {s d:TypeId} {x c:U} {bI:Value} (ah:xJ P h s d x=some c) (af:aP w R h μ x bI) :
  ∃ v,(convert s d bI).run P w=.ok v w/\aP w R h μ c v:=by
 unfold xJ at ah;split at ah
 ·rename_i h0 k k' n ak bH;simp only[Option.some.injEq] at ah; subst ah;cases af;exact⟨.int k (k.wrap n),by simp[convert,cA ak,cA bH,Conv.intToInt],.int _ _⟩
 ·rename_i fp ak bH;simp only[Option.some.injEq] at ah; subst ah;cases af with
  | str bs=>exact⟨.string bs,by simp[convert,cA ak,cA bH],.str _⟩
 ·rename_i e ak bH UF;cases GY:P.underlying e with
  | none=>rw[GY] at ah; cases ah
  | some ao7=>
   rw[GY] at ah;split at ah
   ·rename_i heq;simp only[Option.some.injEq] at heq ah; subst heq ah;cases af;refine⟨.string ByteArray.empty,by simp[convert,cA ak,cA bH,cA GY,Conv.bytesToString],?_⟩;exact .str ByteArray.empty
   ·rename_i heq yt;simp only[Option.some.injEq] at heq; subst heq;split at ah
    ·cases ah
    ·rename_i cs n afP cD;cases p9:nl cs with
     | none=>rw[p9] at ah; cases ah
     | some bs=>
      rw[p9] at ah;simp only[at1,Option.some.injEq] at ah; subst ah;obtain⟨bf,bl,vs,cE,lB⟩:=vS (P:=P) rel cD af;have aD:=lB n (atW _) w (fun _=>rfl);obtain⟨ns,rfl,rfl⟩:=Jd cs vs bs p9 cE.1 cE.2;have Dl:(ns.map (Value.int .u8)).take (n*1)=ns.map (Value.int .u8) :=atT (by rw[cE.1,bf]; exact atW _);rw[Dl] at aD;have KQ:∃ a len cap,bI=.slice a len cap:=by
       cases af<;>first | exact⟨_,_,_,rfl⟩ | (simp[contents] at cD; done) | (exact absurd rfl (afP _))
      obtain⟨a,len,cap,rfl⟩:=KQ;simp only[Builtin.lenOf,Sem.run_pure,Result.ok.injEq] at bl;obtain⟨rfl,_⟩:=bl;have aeF:=SJ ns ByteArray.empty;refine⟨.string (ns.foldl (fun r n=>r.push (UInt8.ofNat n.toNat)) ByteArray.empty),?_,?_⟩
      ·rw[run_convert_bytes_string w s d e a len cap ak GY bH];cases a with
       | none=>
        simp only[Builtin.firstCells,Sem.run_pure,Result.ok.injEq] at aD;have mT:ns=[] :=by
         have:=congrArg Array.toList aD.1;simpa using this.symm
        subst mT;simp[Conv.bytesToString]
       | some a=>
        simp only[Builtin.firstCells,avo] at aD;exact run_bytesToString w a len cap ns aD
      ·have:(ns.foldl (fun r n=>r.push (UInt8.ofNat n.toNat)) ByteArray.empty).data.toList=ns.map fun n=>UInt8.ofNat n.toNat:=by rw[aeF]; rfl
       rw[<-this];exact .str _
    ·cases ah
   ·cases ah
 ·cases ah
theorem Nj (rel:b9 R B w h μ) {w' : World} (ag:RowKit.Below w.heap.size w w') (rq:w.drawn<=w'.drawn:=by first | exact atW _ | exact Nat.le_succ _) :dL w h μ w' h μ/\b9 R B w' h μ:=by
 have e:dL w h μ w' h μ:=⟨⟨ag.os,ag.tape,ag.output,ag.size,fun k hk _=>ag.block k hk,fun _ ap=>.inl ap,fun b sz cs m h1 ad=>.inl ⟨cs,h1,ad⟩,fun _ _ ar=>ar,fun _ _ _ h1 ad=>⟨h1,ad⟩,atW _,rq⟩,fun _ _ hm=>hm⟩
 refine⟨e,fun b m hm=>?_,rel.inj,rel.base,rel.fresh,rel.up,avn rel.size ag.size,rel.la⟩;cases al:live (h.f b) with
 | false=>cases ah:h.f b<;>first | trivial | (rw[ah] at al; cases al)
 | true=>exact (rel.blk b m hm).ext e.toExt0 (ag.block _ (rel.lt al hm))
theorem aaZ (rel:b9 R B w h μ) {s d:TypeId} {x c:U} {bI:Value} (ah:zF P s d x=some c) (af:aP w R h μ x bI) :
  ∃ v w',(convert s d bI).run P w=.ok v w'/\dL w h μ w' h μ/\b9 R B w' h μ/\aP w' R h μ c v:=by
 unfold zF at ah;split at ah
 ·rename_i h0 e fp ak bH;split at ah
  ·rename_i aL;simp only[Option.some.injEq] at ah; subst ah;cases af with
   | str bs=>
    have KD:RowKit.Below w.heap.size w (Lib.bytesWorld w e bs) :=⟨rfl,rfl,rfl,by rw[Lib.bytesWorld_size]; omega,fun k hk=>Lib.bytesWorld_at_old w e bs k hk⟩
    obtain⟨h1,ad⟩:=Nj rel KD;refine⟨_,_,Lib.run_convert_string_bytes w s d e bs ak bH aL,h1,ad,?_⟩;have g5:bs.data.toList.length=bs.size:=by simp
    have hF:¬ l0 h μ w.heap.size:=by
     rintro⟨b,m,al,hm,am⟩;have:=rel.lt al hm;omega
    have c3:bs.size<=grownCap w bs.size 0 e:=grownCap_ge w bs.size 0 e;have:=aP.bR (w:=Lib.bytesWorld w e bs) (R:=R) (h:=h) (μ:=μ) 1 (bs.data.toList.map fun b=>[jf b]) w.heap.size 0 (grownCap w bs.size 0 e) (fun i _=>.int .u8 (bs.data.toList.getD i 0).toNat)
     (by simpa using c3) (fun e am=>by obtain⟨b,_,rfl⟩:=auo.1 am; rfl)
     (fun i j av ai=>by
      have gw:i<bs.size:=by simpa using av
      have:j=0:=by omega
      subst this;exact⟨by simpa using Lib.bytesWorld_cell w e bs i gw,rfl,rel.up _ rel.size,hF⟩)
     (fun i e am j c ai=>by
      rw[at0] at am;cases ag:bs.data.toList[i]? with
      | none=>rw[ag] at am; cases am
      | some b=>
       rw[ag] at am;simp only[at1,Option.some.injEq] at am; subst am;cases j with
       | zero=>
        simp only[aul,Option.some.injEq] at ai; subst ai;have:bs.data.toList.getD i 0=b:=by simp[List.getD,ag]
        rw[this];exact .int _ _
       | succ j=>simp at ai)
    rw[auh,g5] at this;exact this
  ·cases ah
 ·cases ah
theorem aa8 {t ty:TypeId} {x c:U} {bI:Value} (ah:zH P t x=some c) (af:aP w R h μ x bI) :∃ v,(Builtin.cap_ #[t] ty #[bI]).run P w=.ok v w/\aP w R h μ c v:=by
 unfold zH at ah;split at ah<;>(try (simp only[Option.some.injEq] at ah; subst ah))
 ·rename_i n e aL;exact⟨goInt n,by simp[Builtin.cap_,cA aL],.int _ _⟩
 ·rename_i e aL;cases af;exact⟨goInt (0:Nat),by simp[Builtin.cap_,cA aL],.int _ _⟩
 ·cases ah
theorem abm (rel:b9 R B w h μ) {t ty:TypeId} {x:U} {bI:Value} {h' : aO} (ah:zK P h t x=some h') (af:aP w R h μ x bI) :
  ∃ w',(Builtin.clear_ #[t] ty #[bI]).run P w=.ok (.tuple #[]) w'/\dL w h μ w' h' μ/\b9 R B w' h' μ:=by
 unfold zK at ah;split at ah
 ·rename_i e aL;simp only[Option.some.injEq] at ah; subst ah;cases af;exact⟨w,by simp[Builtin.clear_,cA aL],.refl _ _ _,rel⟩
 ·rename_i e z aL;simp only[Option.some.injEq] at ah; subst ah;cases af<;>exact⟨w,by simp[Builtin.clear_,cA aL],.refl _ _ _,rel⟩
 ·rename_i e z b off len cap sz aL;split at ah
  ·rename_i ru;simp only[Option.some.injEq] at ah; subst ah;subst ru;cases af<;>exact⟨w,by simp[Builtin.clear_,cA aL],.refl _ _ _,rel⟩
  ·rename_i ru;split at ah
   ·rename_i zero m cs aw ag;split at ah
    ·rename_i CU;obtain⟨rfl,rfl⟩:=CU;simp only[Option.some.injEq] at ah; subst ah;cases af with
     | hV=>exact absurd rfl ru
     | gH _ _ _ _ _ _ cap' a al dp ar=>
      exfalso;rcases ar with ar | ⟨g6,cs',ar,aN⟩
      ·rw[ar] at ag; cases ag
      ·rw[ar] at ag; cases ag; omega
     | au _ _ _ _ _ _ cap' cs' cj bL hm al ap dp=>
      have eR:=rel.blk b cj hm;rw[ag] at eR;obtain⟨TT,ce,_⟩:=eR;obtain⟨v,aq,az⟩:=xr (P:=P) (w:=w) (R:=R) (h:=h) (μ:=μ) aw;have LC:=HZ az len;have uy:len*zero.length<=cap*zero.length:=at2 _ al;have lK:(dy zero len).length=len*zero.length:=y6 len;have mS:max m (off+(dy zero len).length)=m:=by rw[lK]; omega
      have hO:v.cells.size=zero.length:=az.1;have G1:(Builtin.zeroCells v.cells len)=(Array.range (len*zero.length)).map (v.cells[· % v.cells.size]!) :=by
       unfold Builtin.zeroCells;rw[hO]
      obtain⟨w',h1,ad,aj⟩:=zk (P:=P) rel (cvs:=dy zero len) (vs:=(Builtin.zeroCells v.cells len).toList) (k:=off) ag hm (by omega)
       (by rw[G1,lK]; simp) (by rw[mS]; omega) (fun j c ai=>by
        rw[G1];obtain⟨u,aX,a6,a3⟩:=LC.2 j c ai;exact⟨u,by rw[avH]; exact aX,a6,a3⟩)
      rw[mS] at ad aj;refine⟨w',?_,ad,aj⟩;cases bl:len with
      | zero=>exact absurd bl ru
      | succ arT=>
       rw[bl] at h1;simp[Builtin.clear_,cA aL,aq,h1]
    ·cases ah
   ·cases ah
 ·cases ah
theorem aao (rel:b9 R B w h μ) {t u ty:TypeId} {k:IntKind} {s x c:U} {pA bI:Value} {h' : aO} (aL:P.underlying u=some (.int k)) (ax:BR P h t s x=some (c,h')) (ak:aP w R h μ s pA) (af:aP w R h μ x bI) :
  ∃ v w' μ',(Builtin.append_ #[t,u] ty #[pA,bI]).run P w=.ok v w'/\dL w h μ w' h' μ'/\b9 R B w' h' μ'/\aP w' R h' μ' c v:=by
 unfold BR at ax;split at ax
 ·rename_i e n am av;have kC:=Co am;obtain⟨rM,rfl⟩:=sn av af;split at ax
  ·rename_i z by_ zero aw ep iZ;split at ax
   ·rename_i jM;obtain⟨hO,rv,aqe,dN⟩:=jM;obtain⟨i,zv,rr,lN,jQ,_⟩:=Zm (P:=P) (w:=w) (R:=R) (h:=h) (μ:=μ) iZ;have qv:i.size=z:=by simpa [cB,rr] using aw
    have mf:i.bytes=by_:=by simpa [iQ,rr] using ep
    have AI:IntKind.i64.wrap n=n:=by
     simp[IntKind.wrap,IntKind.bits,IntKind.signed]; omega
    have aC:(n.toNat:Int)=n:=by omega
    have qn:¬ (n<0) :=by omega
    have apC:¬ (2 ^ 48<n*(by_:Int)) :=by
     have h1:((n.toNat*by_:Nat) :Int)=n*by_:=by rw[Int.natCast_mul,aC]
     have ad:((n.toNat*by_:Nat) :Int)<=((140737488355328:Nat) :Int) :=Int.ofNat_le.2 dN;rw[h1] at ad;omega
    have cE:lq w R h μ (dy zero n.toNat) (Builtin.zeroCells zv.cells n.toNat) :=by
     obtain⟨v,aq,az⟩:=xr (P:=P) (w:=w) (R:=R) (h:=h) (μ:=μ) iZ;have agJ:v=zv:=by
      have:=aq w;simp[zeroValue,typeInfo,rr,lN] at this;exact this.symm
     subst agJ;have LC:=HZ az n.toNat
     have G1:(Builtin.zeroCells v.cells n.toNat)=(Array.range (n.toNat*zero.length)).map (v.cells[· % v.cells.size]!) :=by
      unfold Builtin.zeroCells;rw[az.1]
     rw[G1];exact LC
    have lK:(dy zero n.toNat).length=n.toNat*z:=by rw[y6,hO]
    have wh:∀ w2:World,(Go.asInt (.int rM n)).run P w2=.ok n w2:=fun w2=>rfl
    have v8:¬ (281474976710656<n*(by_:Int)) :=by omega
    have s1:∀ w2:World,(zeroValue e).run P w2=.ok zv w2:=fun w2=>by simp[zeroValue,typeInfo,rr,lN]
    have Vm:n.toNat*z=0->Builtin.zeroCells zv.cells n.toNat=#[] :=fun aE=>by
     apply avS;unfold Builtin.zeroCells;simp[jQ,hO,aE]
    refine Pb rel aw ep ax ak lK (vs:=(Builtin.zeroCells zv.cells n.toNat).toList) ⟨by simpa using cE.1,fun j c ai=>by
     obtain⟨v,aX,a6,a3⟩:=cE.2 j c ai;exact⟨v,by rw[avH]; exact aX,a6,a3⟩⟩ (fun base sLen gX w' er ch=>?_) (fun jx atS gw Vn base sLen gX fM ap ar az ag=>?_)
    ·by_cases aE:n.toNat*z=0
     ·rw[Vm aE] at ch;cases base with
      | none=>
       subst ch;simp[Builtin.append_,wh,cA kC,cA aL,fG aw,AI,qn,typeInfo,rr,mf,er,v8,aE]
      | some a=>
       simp only at ch;simp[Builtin.append_,wh,cA kC,cA aL,fG aw,AI,qn,typeInfo,rr,mf,er,v8,aE,ch]
     ·cases base with
      | none=>
       subst ch;simp[Builtin.append_,wh,cA kC,cA aL,fG aw,AI,qn,typeInfo,rr,mf,er,v8,aE,s1]
      | some a=>
       simp only at ch;simp[Builtin.append_,wh,cA kC,cA aL,fG aw,AI,qn,typeInfo,rr,mf,er,v8,aE,s1,ch]
    ·rw[rr] at gw;cases gw;rw[lN] at Vn;cases Vn;have KT:¬ (281474976710656<Builtin.nextslicecap (sLen+n.toNat) gX*i.bytes) :=by
      have:=growslice_fits (need:=sLen+n.toNat) (old:=gX) (bytes:=i.bytes) ar az;omega
     have UH:¬ (sLen+n.toNat<=gX) :=by omega
     have yq:¬ ((9223372036854775807:Int)<((sLen+n.toNat:Nat) :Int)) :=by
      have h1:(sLen+n.toNat)*1<=(sLen+n.toNat)*i.bytes:=Nat.mul_le_mul_left _ ag;unfold cK at az;omega
     have UE:¬ ((9223372036854775807:Int)<(sLen:Int)+max n 0) :=by omega
     rw[qv] at ap;rw[mf] at KT;by_cases aE:n.toNat*z=0
     ·have yn:(fM++(Builtin.zeroCells zv.cells n.toNat).toList).toArray=fM.toArray:=by rw[Vm aE]; simp
      rw[yn];simp[Builtin.append_,wh,cA kC,cA aL,fG aw,AI,qn,typeInfo,rr,mf,UH,v8,yq,UE,KT,aE,s1,ap,Question.forced,newRow,grownCap]
     ·have yn:(fM++(Builtin.zeroCells zv.cells n.toNat).toList).toArray=fM.toArray++Builtin.zeroCells zv.cells n.toNat:=by simp
      rw[yn];simp[Builtin.append_,wh,cA kC,cA aL,fG aw,AI,qn,typeInfo,rr,mf,UH,v8,yq,UE,KT,aE,s1,ap,Question.forced,newRow,grownCap]
   ·cases ax
  ·cases ax
 ·cases ax
end

section
variable {P:Program} {w:World} {R:Nat->Prop} {B:Nat} {h:aO} {μ:cP}
theorem aaD {op:BinOp} {t:TypeId} {k k' : IntKind} {a b:Int} {c:U} (ah:cu op k a k' b=some c) :
  ∃ v,(binOp op t (.int k a) (.int k' b)).run P w=.ok v w/\aP w R h μ c v:=by
 cases op
 case shl=>
  simp only[cu] at ah;split at ah
  ·cases ah
  ·rename_i ag;simp only[Option.some.injEq] at ah; subst ah;exact⟨_,by simp[binOp,Op.shift,ag],.int _ _⟩
 case shr=>
  simp only[cu] at ah;split at ah
  ·cases ah
  ·rename_i ag;simp only[Option.some.injEq] at ah; subst ah;exact⟨_,by simp[binOp,Op.shift,ag],.int _ _⟩
 case quo=>
  simp only[cu] at ah;split at ah
  ·rename_i ag;obtain⟨rfl,ag⟩:=ag;simp only[Option.some.injEq] at ah; subst ah;exact⟨_,by simp[binOp,Op.intDiv,ag],.int _ _⟩
  ·cases ah
 case rem=>
  simp only[cu] at ah;split at ah
  ·rename_i ag;obtain⟨rfl,ag⟩:=ag;simp only[Option.some.injEq] at ah; subst ah;exact⟨_,by simp[binOp,Op.intDiv,ag],.int _ _⟩
  ·cases ah
 all_goals
  simp only[cu] at ah;split at ah
  ·rename_i hk;subst hk;simp only[Option.some.injEq] at ah; subst ah
   first
    | (refine⟨_,?_,.int _ _⟩; unfold binOp; simp only[ne_eq,not_true_eq_false,if_false]; rfl)
    | (refine⟨_,?_,.bool _⟩; unfold binOp; simp only[ne_eq,not_true_eq_false,if_false]; rfl)
  ·cases ah
theorem toList_eq (s:ByteArray) :s.toList=s.data.toList:=by
 rw[ByteArray.toList_eq]
theorem aaE {op:BinOp} {t:TypeId} {a b:ByteArray} {c:U} (ah:oR op a.data.toList b.data.toList=some c) :
  ∃ v,(binOp op t (.string a) (.string b)).run P w=.ok v w/\aP w R h μ c v:=by
 cases op<;>simp only[oR] at ah<;>try (cases ah; done)
 case add=>
  split at ah
  ·rename_i dR;simp only[Option.some.injEq] at ah; subst ah;have h1:a.data.toList.length=a.size:=by simp
   have ad:b.data.toList.length=b.size:=by simp
   rw[h1,ad] at dR;have C4:¬ ((9223372036854775807:Int)<(a.size:Int)+(b.size:Int)) :=by omega
   have al:(a++b).data.toList=a.data.toList++b.data.toList:=by simp
   refine⟨.string (a++b),by simp[binOp,Op.stringOp,C4],?_⟩;rw[<-al];exact .str _
  ·cases ah
 all_goals
  simp only[Option.some.injEq] at ah; subst ah;exact⟨_,by simp[binOp,Op.stringOp,toList_eq],.bool _⟩
theorem acl {d:Nat} {t:TypeId} {a b:Bool} (aL:P.underlying t=some .bool) :(Op.equalIn (d+1) t (.bool a) (.bool b)).run P w=.ok (a == b) w:=by
 simp[Op.equalIn,cA aL]
theorem acm {d:Nat} {t:TypeId} {gT k:IntKind} {a b:Int} (aL:P.underlying t=some (.int gT)) :(Op.equalIn (d+1) t (.int k a) (.int k b)).run P w=.ok (a == b) w:=by
 simp[Op.equalIn,cA aL]
theorem acn {d:Nat} {t:TypeId} {a b:ByteArray} (aL:P.underlying t=some .string) :(Op.equalIn (d+1) t (.string a) (.string b)).run P w=.ok (a.data.toList == b.data.toList) w:=by
 simp[Op.equalIn,cA aL,toList_eq,beq_toListBytes]
theorem JH {d:Nat} {t e:TypeId} {x y l c:Nat} {b:Option Addr} (aL:P.underlying t=some (.slice e)) :(Op.equalIn (d+1) t (.slice none x y) (.slice b l c)).run P w=.ok b.isNone w:=by
 simp[Op.equalIn,cA aL]
theorem Sj {d:Nat} {t e:TypeId} {x y l c:Nat} {a:Addr} (aL:P.underlying t=some (.slice e)) :(Op.equalIn (d+1) t (.slice (some a) l c) (.slice none x y)).run P w=.ok false w:=by
 simp[Op.equalIn,cA aL]
theorem JF {d:Nat} {xs bc:List U} {r7 r8:Array Value}
  (aI:∀ (t:TypeId) (x y:U) (b:Bool) (bI fZ:Value),eP P d t x y=some b->aP w R h μ x bI->aP w R h μ y fZ->(Op.equalIn d t bI fZ).run P w=.ok b w)
  (sW:lq w R h μ xs r7) (sX:lq w R h μ bc r8) :∀ (l:List Field) (b:Bool),eP.eqFields P (eP P d) xs bc l=some b->(Op.eqFields d r7 r8 l).run P w=.ok b w
 | [],b,ag=>by simp only[eP.eqFields,Option.some.injEq] at ag; subst ag; simp[Op.eqFields]
 | f::l,b,ag=>by
  unfold eP.eqFields at ag;unfold Op.eqFields;by_cases aD:f.name= "_"
  ·rw[if_pos aD] at ag;simp[aD,JF aI sW sX l b ag]
  ·rw[if_neg aD] at ag;split at ag
   ·rename_i a c ax ah;obtain⟨ie,h1,ad⟩:=wY (P:=P) ax sW;obtain⟨eF,aj,aF⟩:=wY (P:=P) ah sX;split at ag
    ·rename_i heq;have:=aI f.type a c true ie eF heq ad aF;simp[aD,h1,aj,this,JF aI sW sX l b ag]
    ·rename_i heq;have:=aI f.type a c false ie eF heq ad aF;simp only[Option.some.injEq] at ag; subst ag;simp[aD,h1,aj,this]
    ·cases ag
   ·cases ag
theorem Sg {d z:Nat} {e:TypeId} {xs bc:List U} {r7 r8:Array Value}
  (aI:∀ (t:TypeId) (x y:U) (b:Bool) (bI fZ:Value),eP P d t x y=some b->aP w R h μ x bI->aP w R h μ y fZ->(Op.equalIn d t bI fZ).run P w=.ok b w)
  (sW:lq w R h μ xs r7) (sX:lq w R h μ bc r8) (f:Nat->Option Bool × Unit->Sem (ForInStep (Option Bool × Unit)))
  (aD:∀ (i:Nat) (ie eF:Value) (b:Bool) (r:Option Bool × Unit),(part e r7 (i*z)).run P w=.ok ie w->(part e r8 (i*z)).run P w=.ok eF w->(Op.equalIn d e ie eF).run P w=.ok b w->
   (f i r).run P w=.ok (if b then .yield (none,()) else .done (some false,())) w) :
  ∀ (n i:Nat) (b:Bool),eP.sw P (eP P d) e z xs bc n i=some b->(forIn (List.range' i n) (none,()) f).run P w=.ok (if b then (none,()) else (some false,())) w
 | 0,i,b,ag=>by
  simp only[eP.sw,Option.some.injEq] at ag; subst ag;simp
 | n+1,i,b,ag=>by
  unfold eP.sw at ag;split at ag
  ·rename_i a c ax ah;obtain⟨ie,h1,ad⟩:=wY (P:=P) ax sW;obtain⟨eF,aj,aF⟩:=wY (P:=P) ah sX;rw[List.range'_succ,List.forIn_cons];split at ag
   ·rename_i heq;have aZ:=aI e a c true ie eF heq ad aF;have aG:=aD i ie eF true (none,()) (h1 w) (aj w) aZ;simp only[Sem.run_bind,aG,if_true,Result.andThen_ok];exact Sg aI sW sX f aD n (i+1) b ag
   ·rename_i heq;have aZ:=aI e a c false ie eF heq ad aF;have aG:=aD i ie eF false (none,()) (h1 w) (aj w) aZ;simp only[Option.some.injEq] at ag; subst ag;simp[aG]
   ·cases ag
  ·cases ag
theorem run_equalIn_array {d n z:Nat} {t e:TypeId} {r7 r8:Array Value} (aL:P.underlying t=some (.array n e)) (aw:cB P e=some z) {b:Bool}
  (hk:∀ f:Nat->Option Bool × Unit->Sem (ForInStep (Option Bool × Unit)),
   (∀ (i:Nat) (ie eF:Value) (b:Bool) (r:Option Bool × Unit),(part e r7 (i*z)).run P w=.ok ie w->(part e r8 (i*z)).run P w=.ok eF w->(Op.equalIn d e ie eF).run P w=.ok b w->(f i r).run P w=.ok (if b then .yield (none,()) else .done (some false,())) w)->
   (forIn (List.range' 0 n) (none,()) f).run P w=.ok (if b then (none,()) else (some false,())) w) :
  (Op.equalIn (d+1) t (.agg r7) (.agg r8)).run P w=.ok b w:=by
 simp only[Op.equalIn,Sem.run_bind,cA aL,Result.andThen_ok,fG aw];rw[Std.Legacy.Range.forIn_eq_forIn_range'];have az:List.range' ([:n] :Std.Legacy.Range).start ([:n] :Std.Legacy.Range).size ([:n] :Std.Legacy.Range).step=List.range' 0 n:=by simp[Std.Legacy.Range.size]
 rw[az,hk]
 ·cases b<;>simp
 ·intro i ie eF b r h1 ad aj;cases b<;>simp[h1,ad,aj]
theorem JG:∀ (d:Nat) (t:TypeId) (x y:U) (b:Bool) (bI fZ:Value),eP P d t x y=some b->aP w R h μ x bI->aP w R h μ y fZ->
  (Op.equalIn d t bI fZ).run P w=.ok b w:=by
 intro d
 induction d with
 | zero=>intro t x y b bI fZ am; simp[eP] at am
 | succ d aI=>
  intro t x y b bI fZ am af aA;unfold eP at am;split at am
  ·rename_i a br aL;simp only[Option.some.injEq] at am; subst am;cases af; cases aA;exact acl aL
  ·rename_i gT k a k' br aL;split at am
   ·rename_i hk; subst hk;simp only[Option.some.injEq] at am; subst am;cases af; cases aA;exact acm aL
   ·cases am
  ·rename_i a br aL;simp only[Option.some.injEq] at am; subst am;cases af; cases aA;exact acn aL
  ·rename_i fs xs bc aL;split at am
   ·cases am
   ·rename_i ch;obtain⟨r7,rfl,sW⟩:=vw af;obtain⟨r8,rfl,sX⟩:=vw aA;have rB:P.stoodInHeld t=false:=by simpa using ch
    have mP:P.fieldsOf t=fs:=by simp[Program.fieldsOf,aL]
    rw[run_equalIn_struct w d t r7 r8 (by rw[mP]; exact aL) rB,mP];exact JF aI sW sX _ _ am
  ·rename_i n e xs bc aL;cases aw:cB P e with
   | none=>rw[aw] at am; cases am
   | some z=>
    rw[aw] at am;simp only at am;obtain⟨r7,rfl,sW⟩:=vw af;obtain⟨r8,rfl,sX⟩:=vw aA;exact run_equalIn_array aL aw (fun f aD=>Sg aI sW sX f aD n 0 b am)
  ·rename_i e aL;simp only[Option.some.injEq] at am; subst am;cases af; cases aA;exact JH aL
  ·rename_i e z br off len cap sz aL;simp only[Option.some.injEq] at am; subst am;cases af; cases aA<;>exact JH aL
  ·rename_i e z es aL;simp only[Option.some.injEq] at am; subst am;cases af; cases aA<;>exact JH aL
  ·rename_i e z br off len cap sz aL;simp only[Option.some.injEq] at am; subst am;cases aA; cases af<;>exact Sj aL
  ·rename_i e z es aL;simp only[Option.some.injEq] at am; subst am;cases aA; cases af<;>exact Sj aL
  ·cases am
end

end Go.cb

/-
  The canonical machine, part E: slices: what they hold, append, slicing, copy, make, len.
-/
import Derived.Test.YtobphgccoalchaaGreatDoorRa
import Derived.Lib.IndexBytes
import Derived.Laws.BytesString
import Derived.Lib.ConvBytes
set_option linter.unusedVariables false
set_option linter.unusedSimpArgs false
set_option linter.unnecessarySimpa false
namespace Go.cf
open Go
section
variable {P:Program} {w:World} {R:Nat->Prop} {B:Nat} {h:a6} {μ:cR}
theorem mM {α:Type} {z:Nat}:∀ {es:List (List α)},(∀ e,e∈es->e.length=z)->es.flatten.length=es.length*z
 | [],_=>by simp
 | e::es,av=>by
  rw[as4,asa,av e (by simp),mM (fun e ao=>av e (by simp[ao])),asp,asB,avd]
theorem QT {α:Type} {z:Nat}:∀ {es:List (List α)} {j:Nat} {c:α},(∀ e,e∈es->e.length=z)->es.flatten[j]? = some c->
  ∃ i k e,j=i*z+k/\k<z/\es[i]? = some e/\e[k]? = some c
 | [],_,_,_,aj=>by simp at aj
 | e::es,j,c,av,aj=>by
  have ao:=av e (by simp);rw[as4] at aj;by_cases aM:j<e.length
  ·rw[arZ aM] at aj;exact⟨0,j,e,by simp,by omega,rfl,aj⟩
  ·rw[ar8 (by omega)] at aj;obtain⟨i,k,fE,h1,ae,al,aE⟩:=QT (fun e ao=>av e (by simp[ao])) aj;exact⟨i+1,k,fE,by rw[asB]; omega,ae,by simpa using al,aE⟩
def ub (w:World) (R:Nat->Prop) (h:a6) (μ:cR) (xs:List ad) (vs:List Value) :Prop:=
 vs.length=xs.length/\∀ (j:Nat) (c:ad),xs[j]? = some c->∃ v:Value,vs[j]? = some v/\v.oneCell'=true/\aS w R h μ c v
theorem NW {w2:World} {xs:List ad} {blk o:Nat} (np:∀ a,w2.cell? a=w.cell? a)
  (ai:∀ (j:Nat) (c:ad),xs[j]? = some c->∃ v:Value,w.cell? ⟨blk,o+j,none⟩=some v/\v.oneCell'=true/\aS w R h μ c v) :
  ∃ vs:List Value,ub w R h μ xs vs/\∀ k,k<=xs.length->∀ w2:World,(∀ a,w2.cell? a=w.cell? a)->(loadCells ⟨blk,o,none⟩ k).run P w2=.ok (vs.take k).toArray w2:=by
 have aw:∃ f:Nat->Value,∀ (j:Nat) (c:ad),xs[j]? = some c->w.cell? ⟨blk,o+j,none⟩=some (f j)/\(f j).oneCell'=true/\aS w R h μ c (f j) :=by
  refine⟨fun j=>(w.cell? ⟨blk,o+j,none⟩).getD undef,fun j c aj=>?_⟩;obtain⟨v,h1,ae,al⟩:=ai j c aj;simp only[h1,asT];exact⟨trivial,ae,al⟩
 obtain⟨f,aD⟩:=aw;refine⟨(List.range xs.length).map f,⟨by simp,fun j c aj=>?_⟩,fun k hk w2 md=>?_⟩
 ·have aM:j<xs.length:=(arY.1 aj).1;exact⟨f j,by simp[aM],(aD j c aj).2⟩
 ·have:=run_loadCells_list (P:=P) w2 ⟨blk,o,none⟩ (((List.range xs.length).map f).take k) (fun j v aj=>by
   have fB:j<k:=by
    rcases as3 j k with h1 | h1
    ·exact h1
    ·rw[ase (by simp; omega)] at aj; cases aj
   rw[asf fB,ar5] at aj;have k9:j<xs.length:=by omega
   rw[asI k9] at aj;simp only[asb,Option.some.injEq] at aj;rw[Addr.ni,<-aj,md];exact (aD j _ (ar1 k9)).1)
  have am:(((List.range xs.length).map f).take k).length=k:=by simp; omega
  rw[am] at this;exact this
theorem vX (rel:cc R B w h μ) {z n:Nat} {x:ad} {bL:Value} {xs:List ad} (ah:contents h z x=some (xs,n)) (ai:aS w R h μ x bL) :
  xs.length=n*z/\(Builtin.lenOf bL).run P w=.ok n w/\∃ vs:List Value,ub w R h μ xs vs ∧
   ∀ k,k<=n->∀ w2:World,(∀ a,w2.cell? a=w.cell? a)->(Builtin.firstCells z k bL).run P w2=.ok (vs.take (k*z)).toArray w2:=by
 cases ai with
 | aV=>
  simp only[contents,Option.some.injEq,Prod.mk.injEq] at ah;obtain⟨rfl,rfl⟩:=ah;exact⟨by simp,by simp[Builtin.lenOf],[],⟨rfl,fun j c aj=>by simp at aj⟩,fun k _ w2 _=>by simp[Builtin.firstCells]⟩
 | str bs=>
  simp only[contents] at ah;split at ah
  ·rename_i av; subst av;simp only[Option.some.injEq,Prod.mk.injEq] at ah;obtain⟨rfl,rfl⟩:=ah;refine⟨by simp,by simp[Builtin.lenOf],bs.data.toList.map fun b=>.int .u8 b.toNat,⟨by simp,fun j c aj=>?_⟩,fun k hk w2 _=>?_⟩
   ·rw[ar5] at aj ⊢;cases ag:bs.data.toList[j]? with
    | none=>rw[ag] at aj; cases aj
    | some b=>
     rw[ag] at aj;simp only[asb,Option.some.injEq] at aj;subst aj;exact⟨_,rfl,rfl,.int _ _⟩
   ·have ai:(bs.extract 0 k).data.toList=bs.data.toList.take k:=by
     simp[ByteArray.extract,ByteArray.copySlice]
    have ay:(bs.extract 0 k).data=(bs.data.toList.take k).toArray:=by rw[<-ai]
    simp only[Builtin.firstCells,ay];simp
  ·cases ah
 | cq en es blk off cap eI am av np aw=>
  simp only[contents] at ah;split at ah
  ·rename_i qS; subst qS;simp only[Option.some.injEq,Prod.mk.injEq] at ah;obtain⟨rfl,rfl⟩:=ah;have bn:=mM av;have cI:∀ (j:Nat) (c:ad),es.flatten[j]? = some c->∃ v:Value,w.cell? ⟨blk,off+j,none⟩=some v/\v.oneCell'=true/\aS w R h μ c v:=by
    intro j c aj;obtain⟨i,k,e,rfl,hk,ao,acW⟩:=QT av aj;have ax:i<es.length:=(arY.1 ao).1;have du:=np i k ax hk;exact⟨eI i k,du.here,du.one,aw i e ao k c acW⟩
   obtain⟨vs,h1,ae⟩:=NW (P:=P) (w2:=w) (fun _=>rfl) cI;refine⟨bn,by simp[Builtin.lenOf],vs,h1,fun k hk w2 md=>?_⟩;have:=ae (k*z) (by rw[bn]; exact ar2 _ hk) w2 md;simp[Builtin.firstCells,this]
  ·cases ah
 | fY en a cap=>
  simp only[contents] at ah;split at ah
  ·simp only[Option.some.injEq,Prod.mk.injEq] at ah;obtain⟨rfl,rfl⟩:=ah;exact⟨by simp,by simp[Builtin.lenOf],[],⟨rfl,fun j c aj=>by simp at aj⟩,fun k hk w2 _=>by
    obtain rfl:k=0:=by simpa using hk
    simp[Builtin.firstCells,loadCells,loadCellsFrom]⟩
  ·cases ah
 | au en b off len cap sz cap' cs m ag hm am aq c9=>
  simp only[contents,ag,true_and] at ah;split at ah
  ·rename_i qS; subst qS;simp only[Option.some.injEq,Prod.mk.injEq] at ah;obtain⟨rfl,rfl⟩:=ah;have eX:=rel.blk b m hm;rw[ag] at eX;obtain⟨h1,ae,arr,t,gB,al,aE,aU,bz⟩:=eX;have uK:len*z<=cap*z:=ar2 _ am;have bn:((cs.drop off).take (len*z)).length=len*z:=by
    rw[asc,atg]; omega
   have cI:∀ (j:Nat) (c:ad),((cs.drop off).take (len*z))[j]? = some c->∃ v:Value,w.cell? ⟨m.r,(m.s+off)+j,none⟩=some v/\v.oneCell'=true/\aS w R h μ c v:=by
    intro j c aj;have aM:j<len*z:=by
     have:=(arY.1 aj).1;rw[bn] at this; exact this
    rw[asf aM,asE] at aj;obtain⟨v,aX,bg,a3⟩:=bz _ c aj;exact⟨v,by simp[World.cell?,al,atJ,aX],bg,a3⟩
   obtain⟨vs,ce,bI⟩:=NW (P:=P) (w2:=w) (fun _=>rfl) cI;refine⟨bn,by simp[Builtin.lenOf],vs,ce,fun k hk w2 md=>?_⟩;have:=bI (k*z) (by rw[bn]; exact ar2 _ hk) w2 md;simp[Builtin.firstCells,this]
  ·cases ah
 | ik en b off sz a cs m ag hm=>
  simp only[contents,ag,true_and] at ah;split at ah
  ·rename_i qS; subst qS;simp only[Option.some.injEq,Prod.mk.injEq,aug,atm] at ah;obtain⟨rfl,rfl⟩:=ah;exact⟨by simp,by simp[Builtin.lenOf],[],⟨rfl,fun j c aj=>by simp at aj⟩,fun k hk w2 _=>by
    obtain rfl:k=0:=by simpa using hk
    simp[Builtin.firstCells,loadCells,loadCellsFrom]⟩
  ·cases ah
 | gX en b off len cap sz cap' a am R3 ar=>
  unfold contents at ah;rcases ar with ar | ⟨hy,cs',ar,aM⟩
  ·simp[ar] at ah
  ·simp only[ar] at ah;split at ah
   ·omega
   ·cases ah
 | _=>simp[contents] at ah
theorem CF {t e:TypeId} (ao:i2 P t=some e) :P.underlying t=some (.slice e) :=by
 unfold i2 at ao;split at ao
 ·rename_i fE aP; cases ao; exact aP
 ·cases ao
def Bq (P:Program) (u:TypeId) :Prop:=∃ d,P.underlying u=some d/\∀ k,d≠.int k
theorem TV (d:TypeDesc) (hk:∀ k,d≠.int k) :(match d with | .int _=>true | _=>false)=false:=by
 cases d with
 | int k=>exact absurd rfl (hk k)
 | _=>rfl
theorem run_append_fits {t u ty e:TypeId} {z n sLen hb:Nat} {base:Option Addr} {bL:Value} {vs:List Value} {w' : World} (ao:P.underlying t=some (.slice e)) (av:cG P e=some z) (aP:Bq P u)
  (am:(Builtin.lenOf bL).run P w=.ok n w) (aD:(Builtin.firstCells z n bL).run P w=.ok vs.toArray w) (e8:sLen+n<=hb)
  (b1:match base with | some a=>(storeCells (a.add (sLen*z)) vs).run P w=.ok () w' | none=>w'=w) :
  (Builtin.append_ #[t,u] ty #[.slice base sLen hb,bL]).run P w=.ok (.slice base (sLen+n) hb) w':=by
 obtain⟨d,bN,hk⟩:=aP;have AD:=TV d hk;cases base with
 | none=>
  subst b1;simp[Builtin.append_,cF ao,fT av,cF bN,AD,am,e8,aD]
 | some a=>
  simp only at b1;simp[Builtin.append_,cF ao,fT av,cF bN,AD,am,e8,aD,b1]
theorem aiC {t u ty e:TypeId} {i:TypeInfo} {zv:Value} {n sLen hb:Nat} {base:Option Addr} {bL:Value} {fW vs:List Value} (ao:P.underlying t=some (.slice e)) (ax:P.info? e=some i) (mu:i.zero=some zv) (aP:Bq P u)
  (am:(Builtin.lenOf bL).run P w=.ok n w) (aD:(Builtin.firstCells i.size n bL).run P w.drew=.ok vs.toArray w.drew) (aq:(Builtin.firstCells i.size sLen (.slice base sLen hb)).run P w.drew=.ok fW.toArray w.drew)
  (qy:hb<sLen+n) (dO:(sLen+n)*i.bytes<=cK) (ag:0<i.bytes) :
  (Builtin.append_ #[t,u] ty #[.slice base sLen hb,bL]).run P w =
   .ok (.slice (some ⟨w.heap.size,0,none⟩) (sLen+n) (grownCap w (sLen+n) hb e)) (w.drew.alloc (.cells ((fW++vs).toArray++Builtin.zeroCells zv.cells (grownCap w (sLen+n) hb e - (sLen+n))) e)) :=by
 obtain⟨d,bN,hk⟩:=aP;have AD:=TV d hk;have av:cG P e=some i.size:=by simp[cG,ax]
 have aF:¬ (sLen+n<=hb) :=by omega
 have wi:¬ (281474976710656<Builtin.nextslicecap (sLen+n) hb*i.bytes) :=by
  have:=growslice_fits qy dO;omega
 have mV:¬ (i.bytes=0) :=by omega
 simp[Builtin.append_,cF ao,fT av,cF bN,AD,am,aF,typeInfo,ax,wi,mV,Question.forced,aq,aD,zeroValue,mu,newRow,grownCap];rw[<-auw,List.append_toArray fW vs]
theorem dQ.drew {h' : a6} {μ' : cR} {w' : World} (e:dQ w h μ w' h' μ') :dQ w h μ w' h' μ':=e
theorem ai5 {s:ad} {pS:Value} (ak:aS w R h μ s pS) (hk:s=.aV\/(∃ z es,s=.cq z es)\/∃ z b off len cap sz,s=.au z b off len cap sz) :
  ∃ base sLen hb,pS=.slice base sLen hb/\sLen<=hb:=by
 cases ak<;>simp at hk
 ·exact⟨_,_,_,rfl,ar0 _⟩
 ·rename_i am aq du;exact⟨_,_,_,rfl,by omega⟩
 ·rename_i am R3 ar;exact⟨_,_,_,rfl,by omega⟩
 ·exact⟨_,_,_,rfl,ar0 _⟩
 ·rename_i am av ah aw;exact⟨_,_,_,rfl,by omega⟩
 ·exact⟨_,_,_,rfl,ato _⟩
theorem Xv {e:TypeId} {z:Nat} (av:tS P e=some z) :∃ i v,P.info? e=some i/\i.zero=some v/\v.cells.size=z:=by
 unfold tS at av;cases ax:P.info? e with
 | none=>rw[ax] at av; cases av
 | some i=>
  rw[ax] at av;simp only[atM] at av;cases aw:i.zero with
  | none=>rw[aw] at av; cases av
  | some v=>rw[aw] at av; exact⟨i,v,rfl,aw,by simpa using av⟩
theorem CP {e:TypeId} {zv:Value} {z need cap:Nat} {xs:List ad} {vs:List Value} (av:zv.cells.size=z) (am:xs.length=need*z) (nv:ub w R h μ xs vs) (c9:need<=cap) :
  (vs.toArray++Builtin.zeroCells zv.cells (cap - need)).size=cap*z ∧
  ∀ (j:Nat) (c:ad),xs[j]? = some c->∃ v:Value,(vs.toArray++Builtin.zeroCells zv.cells (cap - need))[j]? = some v/\v.oneCell'=true/\aS w R h μ c v:=by
 refine⟨?_,fun j c aj=>?_⟩
 ·have h1:(Builtin.zeroCells zv.cells (cap - need)).size=(cap - need)*z:=by simp[Builtin.zeroCells,av]
  have ae:need*z+(cap - need)*z=cap*z:=by rw[<-asA]; congr 1; omega
  rw[au7,h1,au8,nv.1,am,ae]
 ·obtain⟨v,h1,ae,al⟩:=nv.2 j c aj;have aM:j<vs.length:=(arY.1 h1).1;refine⟨v,?_,ae,al⟩;rw[atj (by simpa using aM)];simpa using h1
theorem Pv (rel:cc R B w h μ) {t u ty e:TypeId} {z by_ n:Nat} {s c:ad} {pS bL:Value} {h' : a6} {xs:List ad} {vs:List Value} (av:cG P e=some z) (eD:jn P e=some by_)
  (az:vG P h e z by_ s xs n=some (c,h')) (ak:aS w R h μ s pS) (a2:xs.length=n*z) (cI:ub w R h μ xs vs)
  (GI:∀ (base:Option Addr) (sLen hb:Nat) (w' : World),sLen+n<=hb->(match base with | some a=>(storeCells (a.add (sLen*z)) vs).run P w=.ok () w' | none=>w'=w)->
   (Builtin.append_ #[t,u] ty #[.slice base sLen hb,bL]).run P w=.ok (.slice base (sLen+n) hb) w')
  (C9:∀ (i:TypeInfo) (zv:Value),P.info? e=some i->i.zero=some zv->∀ (base:Option Addr) (sLen hb:Nat) (fW:List Value),(Builtin.firstCells i.size sLen (.slice base sLen hb)).run P w.drew=.ok fW.toArray w.drew->
   hb<sLen+n->(sLen+n)*i.bytes<=cK->0<i.bytes->(Builtin.append_ #[t,u] ty #[.slice base sLen hb,bL]).run P w =
   .ok (.slice (some ⟨w.heap.size,0,none⟩) (sLen+n) (grownCap w (sLen+n) hb e)) (w.drew.alloc (.cells ((fW++vs).toArray++Builtin.zeroCells zv.cells (grownCap w (sLen+n) hb e - (sLen+n))) e))) :
  ∃ v w' μ',(Builtin.append_ #[t,u] ty #[pS,bL]).run P w=.ok v w'/\dQ w h μ w' h' μ'/\cc R B w' h' μ'/\aS w' R h' μ' c v:=by
 unfold vG at az;by_cases aF:n=0
 ·-- nothing is appended
  subst aF;simp only[if_true] at az;have cb:(c,h')=(s,h) :=by
   split at az<;>first | (simp only[Option.some.injEq] at az; exact az.symm) | cases az
  have hk:s=.aV\/(∃ z es,s=.cq z es)\/∃ z b off len cap sz,s=.au z b off len cap sz:=by
   split at az
   ·exact .inl rfl
   ·exact .inr (.inl ⟨_,_,rfl⟩)
   ·exact .inr (.inr ⟨_,_,_,_,_,_,rfl⟩)
   ·cases az
  simp only[Prod.mk.injEq] at cb;obtain⟨rfl,rfl⟩:=cb;obtain⟨base,sLen,hb,rfl,dT⟩:=ai5 ak hk;have iP:vs=[] :=by
   have:vs.length=0:=by rw[cI.1,a2]; simp
   exact asF.1 this
  subst iP;have:=GI base sLen hb w (by omega) (by cases base<;>simp[storeCells]);exact⟨_,w,μ,this,.refl _ _ _,rel,by simpa using ak⟩
 ·rw[if_neg aF] at az;split at az
  ·cases az
  ·rename_i kj;simp only[not_or,Decidable.not_not] at kj;obtain⟨te,lJ,ib⟩:=kj;obtain⟨i,zv,ax,mu,kr⟩:=Xv ib;have qN:i.size=z:=by simpa [cG,ax] using av
   have mV:i.bytes=by_:=by simpa [jn,ax] using eD
   have aeU:0<z:=Nat.pos_of_ne_zero te;have K8:∀ a,w.drew.cell? a=w.cell? a:=fun _=>rfl
   split at az
   ·-- append to nil
    split at az
    ·rename_i dO;simp only[Option.some.injEq,Prod.mk.injEq] at az;obtain⟨rfl,rfl⟩:=az;cases ak;have ar:=C9 i zv ax mu none 0 0 [] (by simp[Builtin.firstCells]) (by omega) (by rw[mV]; simpa using dO) (by omega);have c9:n<=grownCap w (0+n) 0 e:=by have:=grownCap_ge w (0+n) 0 e; omega
     obtain⟨lP,mm⟩:=CP (e:=e) (zv:=zv) (need:=n) (cap:=grownCap w (0+n) 0 e) kr (by rw[a2]) cI c9;have aC:=rel.push (w':=w.drew.alloc (.cells (vs.toArray++Builtin.zeroCells zv.cells (grownCap w (0+n) 0 e - n)) e)) xs _ e rfl rfl rfl rfl (by rw[lP,a2]; exact ar2 _ c9) mm;rw[a2] at aC;refine⟨_,_,_,by simpa using ar,by simpa using aC.1,by simpa using aC.2,?_⟩;have:=aS.au (w:=w.drew.alloc (.cells (vs.toArray++Builtin.zeroCells zv.cells (grownCap w (0+n) 0 e - n)) e)) (R:=R) (h:=h.push (.cells (n*z) xs)) (μ:=bY μ h.n (some ⟨w.heap.size,0,(vs.toArray++Builtin.zeroCells zv.cells (grownCap w (0+n) 0 e - n)).size⟩))
      z h.n 0 n n (n*z) (grownCap w (0+n) 0 e) xs ⟨w.heap.size,0,(vs.toArray++Builtin.zeroCells zv.cells (grownCap w (0+n) 0 e - n)).size⟩ (by simp[eH,fL]) (by simp) (ar0 _) (by omega) (.inr ⟨by omega,c9,by simp only; rw[lP]; omega⟩)
     simpa using this
    ·cases az
   ·rename_i en b off len cap sz;cases ag:h.f b with
    | cells m cs=>
     rw[ag] at az;simp only at az;split at az
     ·rename_i C4;obtain⟨rfl,rfl,dO⟩:=C4;cases ak with
      | gX _ _ _ _ _ _ cap' a am R3 ar=>
       exfalso;rcases ar with ar | ⟨hy,cs',ar,aM⟩
       ·rw[ar] at ag; cases ag
       ·rw[ar] at ag; cases ag; omega
      | ik _ _ _ _ a cs' cr bS hm=>
       rw[ag] at bS; cases bS;have po:=rel.sK hm;rw[if_neg (by omega),aug,atm,atm,asO,as8] at az;have ar:=C9 i zv ax mu (some a) 0 0 [] (by simp[Builtin.firstCells,loadCells,loadCellsFrom]) (by omega) (by rw[mV]; exact dO) (by omega);rw[as8] at ar;have c9:n<=grownCap w n 0 e:=grownCap_ge _ _ _ _;obtain⟨lP,mm⟩:=CP (e:=e) (zv:=zv) (need:=n) (cap:=grownCap w n 0 e) kr (by rw[a2]) cI c9;split at az
       ·simp only[Option.some.injEq,Prod.mk.injEq] at az;obtain⟨rfl,rfl⟩:=az;have aC:=rel.push (w':=w.drew.alloc (.cells (vs.toArray++Builtin.zeroCells zv.cells (grownCap w n 0 e - n)) e)) xs _ e rfl rfl rfl rfl (by rw[lP,a2]; exact ar2 _ c9) mm;rw[a2] at aC;refine⟨_,_,_,by simpa using ar,by simpa using aC.1,by simpa using aC.2,?_⟩;have:=aS.au (w:=w.drew.alloc (.cells (vs.toArray++Builtin.zeroCells zv.cells (grownCap w n 0 e - n)) e)) (R:=R) (h:=h.push (.cells (n*z) xs)) (μ:=bY μ h.n (some ⟨w.heap.size,0,(vs.toArray++Builtin.zeroCells zv.cells (grownCap w n 0 e - n)).size⟩))
         z h.n 0 n n (n*z) (grownCap w n 0 e) xs ⟨w.heap.size,0,(vs.toArray++Builtin.zeroCells zv.cells (grownCap w n 0 e - n)).size⟩ (by simp[eH,fL]) (by simp) (ar0 _) (by omega) (.inr ⟨by omega,c9,by simp only; rw[lP]; omega⟩)
        simpa using this
       ·rename_i C7;split at az
        ·rename_i AO;subst AO;simp only[Option.some.injEq,Prod.mk.injEq] at az;obtain⟨rfl,rfl⟩:=az;have n0:m<n*z:=by
          have:1*1<=n*z:=Nat.mul_le_mul (by omega) aeU;omega
         have aC:=rel.move (w':=w.drew.alloc (.cells (vs.toArray++Builtin.zeroCells zv.cells (grownCap w n 0 e - n)) e)) ag hm rfl rfl rfl rfl a2 n0 (by rw[lP]; exact ar2 _ c9) mm;refine⟨_,_,_,by simpa using ar,by simpa using aC.1,by simpa using aC.2,?_⟩;have:=aS.au (w:=w.drew.alloc (.cells (vs.toArray++Builtin.zeroCells zv.cells (grownCap w n 0 e - n)) e)) (R:=R) (h:=h.set b (.cells (n*z) xs)) (μ:=bY μ b (some ⟨w.heap.size,0,(vs.toArray++Builtin.zeroCells zv.cells (grownCap w n 0 e - n)).size⟩))
          z b 0 n n (n*z) (grownCap w n 0 e) xs ⟨w.heap.size,0,(vs.toArray++Builtin.zeroCells zv.cells (grownCap w n 0 e - n)).size⟩ (by simp[ed,fa]) (by simp) (ar0 _) (by omega) (.inr ⟨by omega,c9,by simp only; rw[lP]; omega⟩)
         simpa using this
        ·simp only[Option.some.injEq,Prod.mk.injEq] at az;obtain⟨rfl,rfl⟩:=az;have aC:=rel.push (w':=w.drew.alloc (.cells (vs.toArray++Builtin.zeroCells zv.cells (grownCap w n 0 e - n)) e)) xs _ e rfl rfl rfl rfl (by rw[lP,a2]; exact ar2 _ c9) mm;rw[a2] at aC;have hk:=aC.2.kill (b:=b) (sz:=m) (cs:=cs) (h':=(h.set b .dead).push (.cells (n*z) xs)) (by rw[eH,cp _ _ _ _ (by omega)]; exact ag) (by rw[fL]; omega) (by
          rw[eH,eH,ed,fa];funext x;simp only[bY];by_cases h1:x=h.n
          ·rw[if_pos h1,if_neg (by omega),if_pos h1]
          ·rw[if_neg h1];split<;>rfl) rfl
         refine⟨_,_,_,by simpa using ar,by simpa using aC.1.trans hk.1,by simpa using hk.2,?_⟩;have:=aS.au (w:=w.drew.alloc (.cells (vs.toArray++Builtin.zeroCells zv.cells (grownCap w n 0 e - n)) e)) (R:=R) (h:=(h.set b .dead).push (.cells (n*z) xs)) (μ:=bY μ h.n (some ⟨w.heap.size,0,(vs.toArray++Builtin.zeroCells zv.cells (grownCap w n 0 e - n)).size⟩))
          z h.n 0 n n (n*z) (grownCap w n 0 e) xs ⟨w.heap.size,0,(vs.toArray++Builtin.zeroCells zv.cells (grownCap w n 0 e - n)).size⟩ (by rw[eH,fa,kL]) (by simp) (ar0 _) (by omega) (.inr ⟨by omega,c9,by simp only; rw[lP]; omega⟩)
         simpa using this
      | au _ _ _ _ _ _ cap' cs' cr bS hm am aq du=>
       have eX:=rel.blk b cr hm;rw[ag] at eX;obtain⟨R4,cM,_⟩:=eX;rw[ag] at bS; cases bS;have uK:len*z<=cap*z:=ar2 _ am;have R1:cap<=cap':=by rcases du with du | du<;>omega
       split at az
       ·-- in place,within what the machine knows
        rename_i e8;simp only[Option.some.injEq,Prod.mk.injEq] at az;obtain⟨rfl,rfl⟩:=az;have SX:len*z+n*z<=cap*z:=by rw[<-asA]; exact ar2 _ e8
        have nu:max m (off+len*z+xs.length)=m:=by omega
        obtain⟨w',h1,ae,al⟩:=zC (P:=P) rel (cvs:=xs) (vs:=vs) (k:=off+len*z) ag hm (by omega) cI.1 (by omega) cI.2;rw[nu] at ae al;have b1:(storeCells ((⟨cr.r,cr.s+off,none⟩:Addr).add (len*z)) vs).run P w=.ok () w':=by rw[Addr.ni,atJ]; exact h1
        refine⟨_,w',μ,GI (some ⟨cr.r,cr.s+off,none⟩) _ _ _ (by omega) b1,ae,al,?_⟩;exact .au z b off (len+n) cap m cap' _ cr (by simp[ed,fa]; rfl) hm e8 aq du
       ·rename_i aoh;split at az
        ·-- beyond a slice whose end lies within the row: it moves
         rename_i anV;simp only[Option.some.injEq,Prod.mk.injEq] at az;obtain⟨rfl,rfl⟩:=az;have gv:cap'=cap:=by rcases du with du | du<;>omega
         subst gv;have b6:contents h z (.au z b off len cap' m)=some ((cs.drop off).take (len*z),len) :=by simp[contents,ag]
         obtain⟨bO,_,fW,iA,Do⟩:=vX (P:=P) rel b6 (aS.au z b off len cap' m cap' cs cr ag hm am aq du);have yL:∀ w2:World,(∀ a,w2.cell? a=w.cell? a)->(Builtin.firstCells z len (.slice (some ⟨cr.r,cr.s+off,none⟩) len cap')).run P w2=.ok fW.toArray w2:=fun w2 m1=>by
          have:=Do len (ar0 _) w2 m1
          rwa [arX (by rw[iA.1,bO]; exact ar0 _)] at this
         have ar:=C9 i zv ax mu (some ⟨cr.r,cr.s+off,none⟩) len cap' fW (by rw[qN]; exact yL w.drew K8) (by omega) (by rw[mV]; exact dO) (by omega);have c9:len+n<=grownCap w (len+n) cap' e:=grownCap_ge _ _ _ _;have C2:ub w R h μ ((cs.drop off).take (len*z)++xs) (fW++vs) :=by
          refine⟨by simp[iA.1,cI.1],fun j c aj=>?_⟩;by_cases aM:j<((cs.drop off).take (len*z)).length
          ·rw[arZ aM] at aj;rw[arZ (by rw[iA.1]; exact aM)];exact iA.2 j c aj
          ·rw[ar8 (by omega)] at aj;rw[ar8 (by rw[iA.1]; omega),iA.1];exact cI.2 _ c aj
         have eC:((cs.drop off).take (len*z)++xs).length=(len+n)*z:=by rw[asa,bO,a2,asA]
         obtain⟨lP,mm⟩:=CP (e:=e) (zv:=zv) (need:=len+n) (cap:=grownCap w (len+n) cap' e) kr eC C2 c9;have aC:=rel.push (w':=w.drew.alloc (.cells ((fW++vs).toArray++Builtin.zeroCells zv.cells (grownCap w (len+n) cap' e - (len+n))) e)) _ _ e rfl rfl rfl rfl (by rw[lP,eC]; exact ar2 _ c9) mm;rw[eC] at aC;refine⟨_,_,_,ar,aC.1,aC.2,?_⟩;have:=aS.au (w:=w.drew.alloc (.cells ((fW++vs).toArray++Builtin.zeroCells zv.cells (grownCap w (len+n) cap' e - (len+n))) e)) (R:=R) (h:=h.push (.cells ((len+n)*z) ((cs.drop off).take (len*z)++xs))) (μ:=bY μ h.n (some ⟨w.heap.size,0,((fW++vs).toArray++Builtin.zeroCells zv.cells (grownCap w (len+n) cap' e - (len+n))).size⟩))
          z h.n 0 (len+n) (len+n) ((len+n)*z) (grownCap w (len+n) cap' e) _ ⟨w.heap.size,0,((fW++vs).toArray++Builtin.zeroCells zv.cells (grownCap w (len+n) cap' e - (len+n))).size⟩ (by simp[eH,fL]; rfl) (by simp) (ar0 _) (by omega) (.inr ⟨by omega,c9,by simp only; rw[lP]; omega⟩)
         simpa using this
        ·rename_i C7;split at az
         ·-- beyond the row's end: in place,or it moves
          rename_i AO;subst AO;simp only[Option.some.injEq,Prod.mk.injEq] at az;obtain⟨rfl,rfl⟩:=az;obtain⟨acS,nq,Sb⟩:0+cap*z=m/\cap<=cap'/\cr.s+0+cap'*z<=cr.T:=by rcases du with du | du<;>omega
          have n0:m<(len+n)*z:=by
           have:(cap+1)*z<=(len+n)*z:=ar2 _ (by omega);rw[asA] at this;omega
          have aeB:len*z+n*z=(len+n)*z:=by rw[asA]
          by_cases e8:len+n<=cap'
          ·have adP:(len+n)*z<=cap'*z:=ar2 _ e8;have nu:max m (len*z+xs.length)=(len+n)*z:=by omega
           obtain⟨w',h1,ae,al⟩:=zC (P:=P) rel (cvs:=xs) (vs:=vs) (k:=len*z) ag hm (by omega) cI.1 (by omega) cI.2;rw[nu] at ae al;have uQ:bt cs (len*z) xs=cs.take (len*z)++xs:=by
            unfold bt;rw[asV (by omega),asD]
           rw[uQ] at ae al;have b1:(storeCells ((⟨cr.r,cr.s+0,none⟩:Addr).add (len*z)) vs).run P w=.ok () w':=by rw[Addr.ni,atJ]; simpa using h1
           refine⟨_,w',μ,GI (some ⟨cr.r,cr.s+0,none⟩) _ _ _ e8 b1,ae,al,?_⟩;exact .au z b 0 (len+n) (len+n) ((len+n)*z) cap' _ cr (by simp[ed,fa]; rfl) hm (ar0 _) (by omega) (.inr ⟨by omega,e8,Sb⟩)
          ·have b6:contents h z (.au z b 0 len cap m)=some ((cs.drop 0).take (len*z),len) :=by simp[contents,ag]
           obtain⟨bO,_,fW,iA,Do⟩:=vX (P:=P) rel b6 (aS.au z b 0 len cap m cap' cs cr ag hm am aq du);have yL:∀ w2:World,(∀ a,w2.cell? a=w.cell? a)->(Builtin.firstCells z len (.slice (some ⟨cr.r,cr.s+0,none⟩) len cap')).run P w2=.ok fW.toArray w2:=fun w2 m1=>by
            have:=Do len (ar0 _) w2 m1
            rwa [arX (by rw[iA.1,bO]; exact ar0 _)] at this
           rw[as1] at bO iA;have ar:=C9 i zv ax mu (some ⟨cr.r,cr.s+0,none⟩) len cap' fW (by rw[qN]; exact yL w.drew K8) (by omega) (by rw[mV]; exact dO) (by omega);have c9:len+n<=grownCap w (len+n) cap' e:=grownCap_ge _ _ _ _;have C2:ub w R h μ (cs.take (len*z)++xs) (fW++vs) :=by
            refine⟨by simp[iA.1,cI.1],fun j c aj=>?_⟩;by_cases aM:j<(cs.take (len*z)).length
            ·rw[arZ aM] at aj;rw[arZ (by rw[iA.1]; exact aM)];exact iA.2 j c aj
            ·rw[ar8 (by omega)] at aj;rw[ar8 (by rw[iA.1]; omega),iA.1];exact cI.2 _ c aj
           have eC:(cs.take (len*z)++xs).length=(len+n)*z:=by rw[asa,bO,a2,asA]
           obtain⟨lP,mm⟩:=CP (e:=e) (zv:=zv) (need:=len+n) (cap:=grownCap w (len+n) cap' e) kr eC C2 c9;have aC:=rel.move (w':=w.drew.alloc (.cells ((fW++vs).toArray++Builtin.zeroCells zv.cells (grownCap w (len+n) cap' e - (len+n))) e)) ag hm rfl rfl rfl rfl eC n0 (by rw[lP]; exact ar2 _ c9) mm;refine⟨_,_,_,ar,aC.1,aC.2,?_⟩;have:=aS.au (w:=w.drew.alloc (.cells ((fW++vs).toArray++Builtin.zeroCells zv.cells (grownCap w (len+n) cap' e - (len+n))) e)) (R:=R) (h:=h.set b (.cells ((len+n)*z) (cs.take (len*z)++xs))) (μ:=bY μ b (some ⟨w.heap.size,0,((fW++vs).toArray++Builtin.zeroCells zv.cells (grownCap w (len+n) cap' e - (len+n))).size⟩))
            z b 0 (len+n) (len+n) ((len+n)*z) (grownCap w (len+n) cap' e) _ ⟨w.heap.size,0,((fW++vs).toArray++Builtin.zeroCells zv.cells (grownCap w (len+n) cap' e - (len+n))).size⟩ (by simp[ed,fa]; rfl) (by simp) (ar0 _) (by omega) (.inr ⟨by omega,c9,by simp only; rw[lP]; omega⟩)
           simpa using this
         ·-- beyond the row's end,from a place within it: a block of its own,in place or moved
          rename_i AO;simp only[Option.some.injEq,Prod.mk.injEq] at az;obtain⟨rfl,rfl⟩:=az;obtain⟨acS,nq,Sb⟩:off+cap*z=m/\cap<=cap'/\cr.s+off+cap'*z<=cr.T:=by rcases du with du | du<;>omega
          have n0:m<off+(len+n)*z:=by
           have:(cap+1)*z<=(len+n)*z:=ar2 _ (by omega);rw[asA] at this;omega
          have aeB:len*z+n*z=(len+n)*z:=by rw[asA]
          have po:=rel.sK hm;by_cases e8:len+n<=cap'
          ·have adP:(len+n)*z<=cap'*z:=ar2 _ e8;have nu:max m (off+len*z+xs.length)=off+(len+n)*z:=by omega
           obtain⟨w',h1,ae,al⟩:=zC (P:=P) rel (cvs:=xs) (vs:=vs) (k:=off+len*z) ag hm (by omega) cI.1 (by omega) cI.2;rw[nu] at ae al;have uQ:(bt cs (off+len*z) xs).drop off=(cs.drop off).take (len*z)++xs:=by
            unfold bt;rw[asV (as:=cs) (by omega),asD,asL (by simp; omega),auh];congr 2; omega
           have b1:(storeCells ((⟨cr.r,cr.s+off,none⟩:Addr).add (len*z)) vs).run P w=.ok () w':=by rw[Addr.ni,atJ]; exact h1
           have qL:=al.V1 (b:=b) (off:=off) (m:=cr) (h':=(h.set b .dead).push (.cells ((len+n)*z) ((cs.drop off).take (len*z)++xs))) (by rw[ed,kL]) hm (by omega) (by
            rw[eH,ed,ed,fa,fa,uQ];have:off+(len+n)*z - off=(len+n)*z:=by omega
            rw[this];funext x;simp only[bY];split
            ·rfl
            ·split<;>rfl) rfl
           refine⟨_,w',_,GI (some ⟨cr.r,cr.s+off,none⟩) _ _ _ e8 b1,ae.trans qL.1,qL.2,?_⟩;exact .au z h.n 0 (len+n) (len+n) ((len+n)*z) cap' _ ⟨cr.r,cr.s+off,cr.T⟩ (by rw[eH,fa,kL]) (by rw[fa]; simp) (ar0 _) (by omega) (.inr ⟨by omega,e8,by simpa using (by omega:cr.s+off+cap'*z<=cr.T)⟩)
          ·have b6:contents h z (.au z b off len cap m)=some ((cs.drop off).take (len*z),len) :=by simp[contents,ag]
           obtain⟨bO,_,fW,iA,Do⟩:=vX (P:=P) rel b6 (aS.au z b off len cap m cap' cs cr ag hm am aq du);have yL:∀ w2:World,(∀ a,w2.cell? a=w.cell? a)->(Builtin.firstCells z len (.slice (some ⟨cr.r,cr.s+off,none⟩) len cap')).run P w2=.ok fW.toArray w2:=fun w2 m1=>by
            have:=Do len (ar0 _) w2 m1
            rwa [arX (by rw[iA.1,bO]; exact ar0 _)] at this
           have ar:=C9 i zv ax mu (some ⟨cr.r,cr.s+off,none⟩) len cap' fW (by rw[qN]; exact yL w.drew K8) (by omega) (by rw[mV]; exact dO) (by omega);have c9:len+n<=grownCap w (len+n) cap' e:=grownCap_ge _ _ _ _;have C2:ub w R h μ ((cs.drop off).take (len*z)++xs) (fW++vs) :=by
            refine⟨by simp[iA.1,cI.1],fun j c aj=>?_⟩;by_cases aM:j<((cs.drop off).take (len*z)).length
            ·rw[arZ aM] at aj;rw[arZ (by rw[iA.1]; exact aM)];exact iA.2 j c aj
            ·rw[ar8 (by omega)] at aj;rw[ar8 (by rw[iA.1]; omega),iA.1];exact cI.2 _ c aj
           have eC:((cs.drop off).take (len*z)++xs).length=(len+n)*z:=by rw[asa,bO,a2,asA]
           obtain⟨lP,mm⟩:=CP (e:=e) (zv:=zv) (need:=len+n) (cap:=grownCap w (len+n) cap' e) kr eC C2 c9;have aC:=rel.push (w':=w.drew.alloc (.cells ((fW++vs).toArray++Builtin.zeroCells zv.cells (grownCap w (len+n) cap' e - (len+n))) e)) _ _ e rfl rfl rfl rfl (by rw[lP,eC]; exact ar2 _ c9) mm;rw[eC] at aC;have hk:=aC.2.kill (b:=b) (sz:=m) (cs:=cs) (h':=(h.set b .dead).push (.cells ((len+n)*z) ((cs.drop off).take (len*z)++xs))) (by rw[eH,cp _ _ _ _ (by omega)]; exact ag) (by rw[fL]; omega) (by
            rw[eH,eH,ed,fa];funext x;simp only[bY];by_cases h1:x=h.n
            ·rw[if_pos h1,if_neg (by omega),if_pos h1]
            ·rw[if_neg h1];split<;>rfl) rfl
           refine⟨_,_,_,ar,aC.1.trans hk.1,hk.2,?_⟩;have:=aS.au (w:=w.drew.alloc (.cells ((fW++vs).toArray++Builtin.zeroCells zv.cells (grownCap w (len+n) cap' e - (len+n))) e)) (R:=R) (h:=(h.set b .dead).push (.cells ((len+n)*z) ((cs.drop off).take (len*z)++xs))) (μ:=bY μ h.n (some ⟨w.heap.size,0,((fW++vs).toArray++Builtin.zeroCells zv.cells (grownCap w (len+n) cap' e - (len+n))).size⟩))
            z h.n 0 (len+n) (len+n) ((len+n)*z) (grownCap w (len+n) cap' e) _ ⟨w.heap.size,0,((fW++vs).toArray++Builtin.zeroCells zv.cells (grownCap w (len+n) cap' e - (len+n))).size⟩ (by rw[eH,fa,kL]) (by simp) (ar0 _) (by omega) (.inr ⟨by omega,c9,by simp only; rw[lP]; omega⟩)
           simpa using this
     ·cases az
    | _=>rw[ag] at az; cases az
   ·cases az
theorem Jn (rel:cc R B w h μ) {t u ty:TypeId} {s x c:ad} {pS bL:Value} {h' : a6} (aP:Bq P u) (az:sI P h t s x=some (c,h')) (ak:aS w R h μ s pS) (ai:aS w R h μ x bL) :
  ∃ v w' μ',(Builtin.append_ #[t,u] ty #[pS,bL]).run P w=.ok v w'/\dQ w h μ w' h' μ'/\cc R B w' h' μ'/\aS w' R h' μ' c v:=by
 unfold sI at az;cases ao:i2 P t with
 | none=>rw[ao] at az; cases az
 | some e=>
 have lc:=CF ao;rw[ao] at az;simp only at az;cases av:cG P e with
 | none=>rw[av] at az; cases az
 | some z=>
 cases eD:jn P e with
 | none=>rw[av,eD] at az; cases az
 | some by_=>
 rw[av,eD] at az;simp only at az;cases ah:contents h z x with
 | none=>rw[ah] at az; cases az
 | some OU=>
 obtain⟨xs,n⟩:=OU;rw[ah] at az;simp only at az;obtain⟨a2,bn,vs,cI,ac0⟩:=vX (P:=P) rel ah ai;have mf:∀ w2:World,(∀ a,w2.cell? a=w.cell? a)->(Builtin.firstCells z n bL).run P w2=.ok vs.toArray w2:=fun w2 m1=>by
  have:=ac0 n (ar0 _) w2 m1
  rwa [arX (by rw[cI.1,a2]; exact ar0 _)] at this
 refine Pv rel av eD az ak a2 cI (fun base sLen hb w' e8 b1=>run_append_fits lc av aP bn (mf w (fun _=>rfl)) e8 b1) (fun i zv ax mu base sLen hb fW aq ar aA ag=>?_);have qN:i.size=z:=by simpa [cG,ax] using av
 exact aiC lc ax mu aP bn (by rw[qN]; exact mf w.drew (fun _=>rfl)) aq ar aA ag
end

section
variable {P:Program} {w:World} {R:Nat->Prop} {B:Nat} {h:a6} {μ:cR}
theorem zS {x:ad} {bL:Value} {y n BW:Nat} {code:BoundsCode} (ag:kh x y=some n) (ai:aS w R h μ x bL) (ay:y<=BW) :
  n<=y/\(Instr.sliceBound bL BW code).run P w=.ok n w:=by
 unfold kh at ag;cases ai with
 | int k i=>
  simp only at ag;split at ag
  ·rename_i ax;simp only[Option.some.injEq] at ag;subst ag;refine⟨by omega,?_⟩;have:(0<=i/\i<=(BW:Int)) :=⟨ax.1,by omega⟩
   simp[Instr.sliceBound,asIntOf,this]
  ·cases ag
 | _=>simp at ag
def xN (w:World) (R:Nat->Prop) (h:a6) (μ:cR) :Option ad->Option Value->Prop
 | none,none=>True
 | some c,some v=>aS w R h μ c v
 | _,_=>False
theorem vK {c0 ax cX:Option ad} {r8 gi w8:Option Value} {isS:Bool} {len cap cap' l m aH:Nat} (ag:g1 len cap c0 ax cX=some (l,aH,m)) (bn:len<=cap) (c9:cap<=cap')
  (h1:xN w R h μ c0 r8) (ae:xN w R h μ ax gi) (al:xN w R h μ cX w8) :
  l<=aH/\aH<=m/\m<=cap/\(cX=none->m=cap)/\(Instr.sliceBounds isS len cap' r8 gi w8).run P w=.ok (l,aH,if cX.isSome then m else cap') w:=by
 unfold g1 at ag;cases cX with
 | none=>
  cases w8 with
  | some v=>exact al.elim
  | none=>
   simp only at ag;cases ax with
   | none=>
    cases gi with
    | some v=>exact ae.elim
    | none=>
     simp only at ag;cases c0 with
     | none=>
      cases r8 with
      | some v=>exact h1.elim
      | none=>
       simp only[Option.some.injEq,Prod.mk.injEq] at ag;obtain⟨rfl,rfl,rfl⟩:=ag;exact⟨by omega,bn,ar0 _,fun _=>rfl,by simp[Instr.sliceBounds]⟩
     | some c=>
      cases r8 with
      | none=>exact h1.elim
      | some v=>
       simp only at ag;cases am:kh c len with
       | none=>rw[am] at ag; cases ag
       | some l'=>
        rw[am] at ag;simp only[Option.some.injEq,Prod.mk.injEq] at ag;obtain⟨rfl,rfl,rfl⟩:=ag;have ai:=zS (P:=P) (code:=.sliceB) am h1 (ar0 _);exact⟨ai.1,bn,ar0 _,fun _=>rfl,by simp[Instr.sliceBounds,ai.2]⟩
   | some JH=>
    cases gi with
    | none=>exact ae.elim
    | some akz=>
     simp only at ag;cases s4:kh JH cap with
     | none=>rw[s4] at ag; cases ag
     | some h'=>
      rw[s4] at ag;simp only at ag;have ai:=zS (P:=P) (code:=if isS then .sliceAcap else .sliceAlen) s4 ae c9;cases c0 with
      | none=>
       cases r8 with
       | some v=>exact h1.elim
       | none=>
        simp only[Option.some.injEq,Prod.mk.injEq] at ag;obtain⟨rfl,rfl,rfl⟩:=ag;exact⟨by omega,ai.1,ar0 _,fun _=>rfl,by simp[Instr.sliceBounds,ai.2]⟩
      | some c=>
       cases r8 with
       | none=>exact h1.elim
       | some v=>
        simp only at ag;cases am:kh c h' with
        | none=>rw[am] at ag; cases ag
        | some l'=>
         rw[am] at ag;simp only[Option.some.injEq,Prod.mk.injEq] at ag;obtain⟨rfl,rfl,rfl⟩:=ag;have ay:=zS (P:=P) (code:=.sliceB) am h1 (ar0 _);exact⟨ay.1,ai.1,ar0 _,fun _=>rfl,by simp[Instr.sliceBounds,ai.2,ay.2]⟩
 | some ZF=>
  cases w8 with
  | none=>exact al.elim
  | some arS=>
   simp only at ag;cases hm:kh ZF cap with
   | none=>rw[hm] at ag; cases ag
   | some cD=>
    rw[hm] at ag;simp only at ag;have ai:=zS (P:=P) (code:=if isS then .slice3Acap else .slice3Alen) hm al c9;cases ax with
    | none=>cases ag
    | some JH=>
     cases gi with
     | none=>exact ae.elim
     | some akz=>
      simp only at ag;cases s4:kh JH cD with
      | none=>rw[s4] at ag; cases ag
      | some h'=>
       rw[s4] at ag;simp only at ag;have ay:=zS (P:=P) (code:=.slice3B) s4 ae (ar0 _);cases c0 with
       | none=>
        cases r8 with
        | some v=>exact h1.elim
        | none=>
         simp only[Option.some.injEq,Prod.mk.injEq] at ag;obtain⟨rfl,rfl,rfl⟩:=ag;exact⟨by omega,ay.1,ai.1,(fun aD=>by cases aD),by simp[Instr.sliceBounds,ai.2,ay.2]⟩
       | some c=>
        cases r8 with
        | none=>exact h1.elim
        | some v=>
         simp only at ag;cases am:kh c h' with
         | none=>rw[am] at ag; cases ag
         | some l'=>
          rw[am] at ag;simp only[Option.some.injEq,Prod.mk.injEq] at ag;obtain⟨rfl,rfl,rfl⟩:=ag;have av:=zS (P:=P) (code:=.slice3C) am h1 (ar0 _);exact⟨av.1,ay.1,ai.1,(fun aD=>by cases aD),by simp[Instr.sliceBounds,ai.2,ay.2,av.2]⟩
theorem PZ {z:Nat}:∀ (n:Nat) (cs:List ad),(pe z n cs).length=n
 | 0,_=>rfl
 | n+1,cs=>by simp[pe,PZ n]
theorem PY {z:Nat}:∀ (n:Nat) (cs:List ad) (i:Nat),i<n->(pe z n cs)[i]? = some ((cs.drop (i*z)).take z)
 | 0,_,_,h=>by omega
 | n+1,cs,0,_=>by simp[pe]
 | n+1,cs,i+1,h=>by
  simp only[pe,asP];rw[PY n _ i (by omega),auA];congr 3;rw[asB]; omega
theorem Wt (rel:cc R B w h μ) {z b off cap sz l aH m cD cap' : Nat} {cs:List ad} {cr:M} {hasMax:Bool} (ag:h.f b=.cells sz cs) (hm:μ b=some cr) (aq:off+cap*z<=sz)
  (du:(off+cap*z<sz/\cap'=cap)\/(off+cap*z=sz/\cap<=cap'/\cr.s+off+cap'*z<=cr.T)) (h1:l<=aH) (ae:aH<=m) (al:m<=cap) (aE:hasMax=false->m=cap)
  (b9:cD=if hasMax then m else cap') (aob:m≠l) :
  aS w R h μ (.au z b (off+l*z) (aH - l) (m - l) sz) (.slice (some ((⟨cr.r,cr.s+off,none⟩:Addr).add (l*z))) (aH - l) (cD - l)) :=by
 have eX:=rel.blk b cr hm;rw[ag] at eX;have cM:=eX.2.1;rw[Addr.ni,atJ];have aR:l*z+(m - l)*z=m*z:=by rw[<-asA]; congr 1; omega
 have bE:m*z<=cap*z:=ar2 _ al;refine .au z b _ _ _ sz _ cs cr ag hm (by omega) (by omega) ?_;cases hasMax with
 | false=>
  have AM:=aE rfl;have i6:cD=cap':=by simpa using b9
  rw[i6];rcases du with ⟨aX,bg⟩ | ⟨aX,bg,a3⟩
  ·rw[<-AM] at aX bg;exact .inl ⟨by omega,by omega⟩
  ·rw[<-AM] at aX bg;refine .inr ⟨by omega,by omega,?_⟩;have c4:l*z+(cap' - l)*z=cap'*z:=by rw[<-asA]; congr 1; omega
   omega
 | true=>
  have i6:cD=m:=by simpa using b9
  rw[i6];by_cases aM:off+l*z+(m - l)*z<sz
  ·exact .inl ⟨aM,rfl⟩
  ·exact .inr ⟨by omega,ar0 _,by omega⟩
theorem extract_toList (s:ByteArray) (a b:Nat) :(s.extract a b).data.toList=(s.data.toList.drop a).take (b - a) :=by
 simp[ByteArray.extract,ByteArray.copySlice,List.take_drop]
theorem aS.aiB (z:Nat) (p:Prop) [Decidable p] (a b:Addr) (cap:Nat) :aS w R h μ (.cq z []) (.slice (if p then some a else some b) 0 cap) :=by
 by_cases aC:p
 ·rw[if_pos aC]; exact .fY _ _ _
 ·rw[if_neg aC]; exact .fY _ _ _
theorem aS.Ws (z b off len cap sz cap' : Nat) (p:Prop) [Decidable p] (a fc:Addr) (am:len<=cap) (ah:cap<=cap') (ar:vv h b sz) :
  aS w R h μ (.au z b off len cap sz) (.slice (if p then some a else some fc) len cap') :=by
 by_cases aC:p
 ·rw[if_pos aC]; exact .gX _ _ _ _ _ _ _ _ am ah ar
 ·rw[if_neg aC]; exact .gX _ _ _ _ _ _ _ _ am ah ar
theorem ai8 (rel:cc R B w h μ) {t:TypeId} {x c:ad} {bL:Value} {c0 ax cX:Option ad} {r8 gi w8:Option Value} (ak:Ey P t x c0 ax cX=some c) (ai:aS w R h μ x bL)
  (h1:xN w R h μ c0 r8) (ae:xN w R h μ ax gi) (al:xN w R h μ cX w8) :
  ∃ v,(Instr.sliceAt t bL r8 gi w8).run P w=.ok v w/\aS w R h μ c v:=by
 unfold Ey at ak;split at ak
 ·-- an array behind its address
  rename_i n e aP;cases av:cG P e with
  | none=>rw[av] at ak; cases ak
  | some z=>
  cases ag:g1 n n c0 ax cX with
  | none=>rw[av,ag] at ak; cases ak
  | some u2=>
  obtain⟨l,aH,m⟩:=u2;rw[av,ag] at ak;simp only at ak;obtain⟨ce,bI,cS,c5,jD⟩:=vK (P:=P) (isS:=false) ag (ar0 _) (ar0 _) h1 ae al;have adj:(if cX.isSome=true then m else n)=m:=by
   cases cX with
   | none=>simp[c5 rfl]
   | some v=>simp
  rw[adj] at jD;split at ak
  ·rename_i b off sz;split at ak
   ·rename_i e8;have A3:∃ a,bL=.pointer (some a) :=by cases ai<;>exact⟨_,rfl⟩
    obtain⟨a,rfl⟩:=A3;refine⟨_,by simp[Instr.sliceAt,cF aP,Instr.sureAddr,jD,fT av]; rfl,?_⟩;split at ak
    ·rename_i mZ;simp only[Option.some.injEq] at ak; subst ak;have:aH - l=0:=by omega
     rw[this];exact .fY _ _ _
    ·rename_i mZ;simp only[Option.some.injEq] at ak; subst ak;rw[if_neg mZ];cases ai with
     | ptr _ _ _ cs cr bS hm=>
      exact Wt rel (cap:=m) (cap':=m) (hasMax:=true) bS hm e8 (by
       have eX:=rel.blk b cr hm;rw[bS] at eX;have cM:=eX.2.1;by_cases aM:off+m*z<sz
       ·exact .inl ⟨aM,rfl⟩
       ·exact .inr ⟨by omega,ar0 _,by omega⟩) ce bI (ar0 _) (fun aD=>by cases aD) (by simp) mZ
     | nz _ _ _ _ ar=>exact .gX _ _ _ _ _ _ _ _ (by omega) (ar0 _) ar
   ·cases ak
  ·rename_i cs off;split at ak
   ·rename_i e8;simp only[Option.some.injEq] at ak; subst ak;cases ai with
    | b0 _ _ blk o eI ah aw=>
     refine⟨_,by simp[Instr.sliceAt,cF aP,Instr.sureAddr,jD,fT av]; rfl,?_⟩;have h8:aH*z<=n*z:=ar2 _ (by omega);by_cases mZ:m=l
     ·have aR:aH - l=0:=by omega
      rw[aR];exact .fY _ _ _
     ·rw[if_neg mZ,Addr.ni];have am:=PZ (z:=z) (aH - l) (cs.drop (off+l*z));have jX:∀ i,i<aH - l->∀ j,j<z->off+l*z+(i*z+j)<cs.length:=by
       intro i gi j aj;have:(l+i+1)*z<=aH*z:=ar2 _ (by omega);rw[asA,asA] at this;omega
      have ec:∀ i fE,(pe z (aH - l) (cs.drop (off+l*z)))[i]? = some fE->i<aH - l/\fE=((cs.drop (off+l*z)).drop (i*z)).take z:=by
       intro i fE gd;have gi:i<aH - l:=by
        have:=(arY.1 gd).1;omega
       rw[PY _ _ _ gi] at gd;simp only[Option.some.injEq] at gd;exact⟨gi,gd.symm⟩
      have:=aS.cq (w:=w) (R:=R) (h:=h) (μ:=μ) z (pe z (aH - l) (cs.drop (off+l*z))) blk (o+off+l*z) (m - l) (fun i j=>eI (off+l*z+(i*z+j))) (by omega)
       (fun fE gd=>by
        obtain⟨i,gi,rfl⟩:=List.getElem_of_mem gd;obtain⟨aX,bg⟩:=ec i _ (ar1 gi);rw[bg,asc,atg,atg];have:(l+i+1)*z<=aH*z:=ar2 _ (by omega);rw[asA,asA] at this;omega)
       (fun i j gi aj=>by
        have:=ah (off+l*z+(i*z+j)) (jX i (by omega) j aj);have c4:o+off+l*z+(i*z+j)=o+(off+l*z+(i*z+j)) :=by omega
        rw[c4]; exact this)
       (fun i fE gd j c aj=>by
        obtain⟨aX,rfl⟩:=ec i _ gd;have qz:j<z:=by
         have:=(arY.1 aj).1;rw[asc] at this; omega
        rw[asf qz,asE,asE,] at aj;exact aw _ c aj)
      rw[am] at this;exact this
   ·cases ak
  ·cases ak
 ·-- a slice
  rename_i e aP;split at ak
  ·rename_i z en b off len cap sz av;split at ak
   ·rename_i qS; subst qS;cases ag:g1 len cap c0 ax cX with
    | none=>rw[ag] at ak; cases ak
    | some u2=>
    obtain⟨l,aH,m⟩:=u2;rw[ag] at ak;simp only[asb,Option.some.injEq] at ak;cases ai with
    | au _ _ _ _ _ _ cap' cs cr bS hm am aq du=>
     have R1:cap<=cap':=by rcases du with du | du<;>omega
     obtain⟨ce,bI,cS,c5,jD⟩:=vK (P:=P) (isS:=true) ag am R1 h1 ae al;refine⟨_,by simp[Instr.sliceAt,Instr.slice,cF aP,jD,fT av]; rfl,?_⟩;split at ak
     ·rename_i mZ;subst ak;have:aH - l=0:=by omega
      rw[this];by_cases te:(if cX.isSome=true then m else cap')=l
      ·rw[if_pos te,te,aui];exact .ik _ _ _ _ _ _ cr bS hm
      ·rw[if_neg te];cases cX with
       | some v=>exact absurd (by simpa using mZ) te
       | none=>
        have AM:=c5 rfl;simp only[atU,atb,if_false] at te ⊢;have eE:cap=l:=by omega
        have ao:off+cap*z=sz/\cap<=cap'/\cr.s+off+cap'*z<=cr.T:=by rcases du with du | du<;>omega
        have uK:l*z+(cap' - l)*z=cap'*z:=by rw[<-asA]; congr 1; omega
        subst eE;rw[Addr.ni];have:=aS.au (w:=w) (R:=R) (h:=h) (μ:=μ) z b (off+cap*z) 0 0 sz (cap' - cap) _ cr bS hm (ar0 _) (by omega) (.inr ⟨by omega,by omega,by omega⟩)
        rwa [<-atJ] at this
     ·rename_i mZ;subst ak;have bU:¬ ((if cX.isSome=true then m else cap')=l) :=by
       cases cX with
       | none=>have:=c5 rfl; simp; omega
       | some v=>simpa using mZ
      rw[if_neg bU];exact Wt rel (hasMax:=cX.isSome) bS hm aq du ce bI cS (fun aD=>c5 (by simpa using aD)) rfl mZ
    | ik _ _ _ _ a cs cr bS hm=>
     obtain⟨ce,bI,cS,c5,jD⟩:=vK (P:=P) (isS:=true) ag (ar0 0) (ar0 0) h1 ae al;refine⟨_,by simp[Instr.sliceAt,Instr.slice,cF aP,jD,fT av]; rfl,?_⟩;have kn:m=0:=by
      cases cX with
      | none=>exact c5 rfl
      | some v=>simp at cS; omega
     have rT:l=0:=by omega
     have adc:aH=0:=by omega
     subst kn rT adc;simp only[if_true] at ak;subst ak;simp;exact .ik _ _ _ _ _ _ cr bS hm
    | gX _ _ _ _ _ _ cap' a am du ar=>
     obtain⟨ce,bI,cS,c5,jD⟩:=vK (P:=P) (isS:=true) ag am du h1 ae al;refine⟨_,by simp[Instr.sliceAt,Instr.slice,cF aP,jD,fT av]; rfl,?_⟩;split at ak
     ·rename_i mZ;subst ak;have:aH - l=0:=by omega
      rw[this];exact aS.Ws _ _ _ _ _ _ _ _ _ _ (ar0 _) (ato _) ar
     ·rename_i mZ;subst ak;have dT:m<=(if cX.isSome=true then m else cap') :=by split<;>omega
      exact aS.Ws _ _ _ _ _ _ _ _ _ _ (by omega) (by omega) ar
   ·cases ak
  ·rename_i z en es av;split at ak
   ·rename_i qS; subst qS;cases ag:g1 es.length es.length c0 ax cX with
    | none=>rw[ag] at ak; cases ak
    | some u2=>
    obtain⟨l,aH,m⟩:=u2;rw[ag] at ak;simp only[asb,Option.some.injEq] at ak;subst ak;cases ai with
    | cq _ _ blk off cap eI am qR ah aw=>
     obtain⟨ce,bI,cS,c5,jD⟩:=vK (P:=P) (isS:=true) ag (ar0 _) am h1 ae al;refine⟨_,by simp[Instr.sliceAt,Instr.slice,cF aP,jD,fT av]; rfl,?_⟩;have bn:((es.drop l).take (aH - l)).length=aH - l:=by rw[asc,atg]; omega
     have dT:aH<=(if cX.isSome=true then m else cap) :=by
      cases cX with
      | none=>simp only[atU,atb,if_false]; omega
      | some v=>simpa using bI
     by_cases mZ:(if cX.isSome=true then m else cap)=l
     ·have aR:aH - l=0:=by omega
      rw[if_pos mZ,aR,atm];exact .fY _ _ _
     ·rw[if_neg mZ,Addr.ni];have ec:∀ i fE,((es.drop l).take (aH - l))[i]? = some fE->i<aH - l/\es[l+i]? = some fE:=by
       intro i fE gd;have gi:i<aH - l:=by
        have:=(arY.1 gd).1;omega
       rw[asf gi,asE] at gd;exact⟨gi,gd⟩
      have:=aS.cq (w:=w) (R:=R) (h:=h) (μ:=μ) z ((es.drop l).take (aH - l)) blk (off+l*z) ((if cX.isSome=true then m else cap) - l) (fun i j=>eI (l+i) j) (by omega)
       (fun fE gd=>qR fE (atx (asz gd)))
       (fun i j gi aj=>by
        have:=ah (l+i) j (by omega) aj;have c4:off+l*z+(i*z+j)=off+((l+i)*z+j) :=by rw[asA]; omega
        rw[c4]; exact this)
       (fun i fE gd j c aj=>aw (l+i) fE (ec i fE gd).2 j c aj)
      rw[bn] at this;exact this
    | fY _ a cap=>
     obtain⟨ce,bI,cS,c5,jD⟩:=vK (P:=P) (isS:=true) ag (ar0 _) (ato cap) h1 ae al;refine⟨_,by simp at jD; simp[Instr.sliceAt,Instr.slice,cF aP,jD,fT av]; rfl,?_⟩;have aR:aH - l=0:=by simp at cS; omega
     rw[aR,atm];exact aS.aiB _ _ _ _ _
   ·cases ak
  ·rename_i z av;cases ai;cases ag:g1 0 0 c0 ax cX with
   | none=>rw[ag] at ak; cases ak
   | some u2=>
   obtain⟨l,aH,m⟩:=u2;rw[ag] at ak;simp only[asb,Option.some.injEq] at ak;subst ak;obtain⟨ce,bI,cS,c5,jD⟩:=vK (P:=P) (isS:=true) ag (ar0 _) (ar0 _) h1 ae al;obtain rfl:m=0:=by omega
   obtain rfl:aH=0:=by omega
   obtain rfl:l=0:=by omega
   refine⟨_,by simp[Instr.sliceAt,Instr.slice,cF aP,jD,fT av]; rfl,?_⟩;exact .aV
  ·cases ak
 ·-- a string
  rename_i s aP;split at ak
  ·cases ai with
   | str bs=>
    cases ag:g1 bs.data.toList.length bs.data.toList.length c0 ax none with
    | none=>rw[ag] at ak; cases ak
    | some u2=>
    obtain⟨l,aH,m⟩:=u2;rw[ag] at ak;simp only[asb,Option.some.injEq] at ak;subst ak;cases w8 with
    | some v=>exact al.elim
    | none=>
     have ht:bs.data.toList.length=bs.size:=by simp
     rw[ht] at ag;obtain⟨ce,bI,cS,c5,jD⟩:=vK (P:=P) (isS:=false) ag (ar0 _) (ar0 _) h1 ae al;refine⟨.string (bs.extract l aH),by simp[Instr.sliceAt,Instr.slice,cF aP,jD],?_⟩;rw[<-extract_toList];exact .str _
  ·cases ak
 ·cases ak
end

section
variable {P:Program} {w:World} {R:Nat->Prop} {B:Nat} {h:a6} {μ:cR}
def l5 (w:World) (R:Nat->Prop) (h:a6) (μ:cR) (cs:List ad) (arr:Array Value) :Prop:=
 arr.size=cs.length/\∀ (j:Nat) (c:ad),cs[j]? = some c->∃ v:Value,arr[j]? = some v/\v.oneCell'=true/\aS w R h μ c v
theorem l5.aI {cs:List ad} {arr:Array Value} (aA:l5 w R h μ cs arr) :aS w R h μ (.aI cs) (.agg arr) :=by
 refine .aI _ _ aA.1 (fun j v aj=>?_) (fun j c v ah aj=>?_)
 ·have aM:j<cs.length:=by have:=(asG.1 aj).1; rw[<-aA.1]; exact this
  obtain⟨u,h1,ae,_⟩:=aA.2 j _ (ar1 aM);rw[aj] at h1; cases h1; exact ae
 ·obtain⟨u,h1,_,al⟩:=aA.2 j c ah;rw[aj] at h1; cases h1; exact al
theorem Q0:∀ (l:List Value) (k off:Nat) (cells:Array Value),off+k+l.length<=cells.size->
  ((l.zipIdx k).foldl (fun cs (vR:Value × Nat)=>cs.setIfInBounds (off+vR.2) vR.1) cells).size=cells.size ∧
  ∀ j,((l.zipIdx k).foldl (fun cs (vR:Value × Nat)=>cs.setIfInBounds (off+vR.2) vR.1) cells)[j]? = if off+k<=j/\j<off+k+l.length then l[j - (off+k)]? else cells[j]?
 | [],k,off,cells,_=>⟨by simp,fun j=>by simp; omega⟩
 | v::l,k,off,cells,am=>by
  simp only[asp] at am;have aO:=Q0 l (k+1) off (cells.setIfInBounds (off+k) v) (by simp; omega);simp only[List.zipIdx_cons,avr];refine⟨by rw[aO.1]; simp,fun j=>?_⟩;rw[aO.2 j];by_cases aj:off+(k+1)<=j/\j<off+(k+1)+l.length
  ·rw[if_pos aj,if_pos (by simp only[asp]; omega)];have:j - (off+k)=(j - (off+(k+1)))+1:=by omega
   rw[this,asP]
  ·rw[if_neg aj,atu];by_cases ao:off+k=j
   ·subst ao;rw[if_pos rfl,if_pos (by omega),if_pos (by simp only[asp]; omega)];simp
   ·rw[if_neg ao,if_neg (by simp only[asp]; omega)]
theorem FM {lW:Nat->Option (Nat × Nat)}:∀ (parts:List (Nat × ad)) (lo:List (Nat × Value)) (cs:List ad) (arr:Array Value) (cs' : List ad),
  h9 lW cs parts=some cs'->l5 w R h μ cs arr->lo.length=parts.length->(∀ (j:Nat) (p:Nat × ad) (bZ:Nat × Value),parts[j]? = some p->lo[j]? = some bZ->bZ.1=p.1/\aS w R h μ p.2 bZ.2)->
  ∃ arr',Instr.fill lW arr lo=some arr'/\l5 w R h μ cs' arr'
 | [],[],cs,arr,cs',aD,aA,_,_=>by
  simp only[h9,Option.some.injEq] at aD; subst aD;exact⟨arr,rfl,aA⟩
 | [],_::_,_,_,_,_,_,am,_=>by simp at am
 | _::_,[],_,_,_,_,_,am,_=>by simp at am
 | (i,c) ::parts,(j2,v) ::lo,cs,arr,cs',aD,aA,am,aC=>by
  obtain⟨rfl,aw⟩:=aC 0 (i,c) (j2,v) rfl rfl;simp only at aw;unfold h9 at aD;cases gL:lW j2 with
  | none=>rw[gL] at aD; cases aD
  | some os=>
  obtain⟨off,size⟩:=os;cases ah:c.cells with
  | none=>rw[gL,ah] at aD; cases aD
  | some vs=>
  rw[gL,ah] at aD;simp only at aD;split at aD
  ·rename_i kj;obtain⟨ht,nv⟩:=Fo aw ah;have yC:v.cells.toList.length=vs.length:=by simpa using ht
   have km:=Q0 v.cells.toList 0 off arr (by rw[aA.1,yC]; omega);have aeT:v.cells.zipIdx.foldl (fun cs (x:Value × Nat)=>match x with | (c,j)=>cs.setIfInBounds (off+j) c) arr=(v.cells.toList.zipIdx 0).foldl (fun cs (vR:Value × Nat)=>cs.setIfInBounds (off+vR.2) vR.1) arr:=by
    rw[<-Array.foldl_toList];simp
   obtain⟨arr',h1,ae⟩:=FM parts lo (bt cs off vs) (v.cells.zipIdx.foldl (fun cs (x:Value × Nat)=>match x with | (c,j)=>cs.setIfInBounds (off+j) c) arr) cs' aD (by
     rw[aeT];refine⟨by rw[km.1,aA.1,sm (by omega)]; omega,fun j x aj=>?_⟩;rw[km.2 j];rw[Ob (by omega)] at aj;split at aj
     ·rename_i aM;rw[if_neg (by omega)];exact aA.2 j x aj
     ·split at aj
      ·rename_i h1 ae;rw[if_pos (by rw[yC]; omega)];obtain⟨u,aX,bg,a3⟩:=nv _ x aj;exact⟨u,by simpa using aX,bg,a3⟩
      ·rename_i h1 ae;rw[if_neg (by rw[yC]; omega)];exact aA.2 j x aj) (by simpa using am) (fun j p bZ aj ep=>aC (j+1) p bZ (by simpa using aj) (by simpa using ep))
   refine⟨arr',?_,ae⟩;have rV:¬ (v.cells.size≠size\/off+v.cells.size > arr.size) :=by rw[ht,aA.1]; omega
   simp only[Instr.fill,gL];rw[if_neg (by simpa using rV)];exact h1
  ·cases aD
theorem xF {t:TypeId} {z:List ad} (av:h5 P t=some z) :∃ v,(∀ w2:World,(zeroValue t).run P w2=.ok v w2)/\l5 w R h μ z v.cells:=by
 obtain⟨i,v,ax,aw,ak,ah⟩:=Xx (w:=w) (R:=R) (h:=h) (μ:=μ) av;exact⟨v,fun w2=>Wj ax aw,ak,ah⟩
theorem aiG {fs:Array Field} (ak:(fs.toList.all fun f=>(cG P f.type).isSome)=true) :
  (fs.mapM fun f=>(do pure (f.offset,<-sizeOf f.type) :Sem (Nat × Nat))).run P w=.ok ((fs.toList.map fun f=>(f.offset,(cG P f.type).getD 0)).toArray) w:=by
 rw[Array.mapM_eq_mapM_toList];simp only[Sem.run_map];have:∀ l:List Field,(l.all fun f=>(cG P f.type).isSome)=true->(l.mapM fun f=>(do pure (f.offset,<-sizeOf f.type) :Sem (Nat × Nat))).run P w=.ok (l.map fun f=>(f.offset,(cG P f.type).getD 0)) w:=by
  intro l
  induction l with
  | nil=>intro _; simp
  | cons f l aO=>
   intro am;simp only[avA,ar3] at am;obtain⟨n,aF⟩:=ave.1 am.1;simp only[atO,Sem.run_bind,fT aF,Result.andThen_ok,Sem.run_pure,aO am.2,ast,aF,asT]
 rw[this _ ak];rfl
theorem Za {t:TypeId} {parts:List (Nat × ad)} {lo:Array (Nat × Value)} {c:ad} (ag:Cg P t parts=some c) (am:lo.size=parts.length)
  (aC:∀ (j:Nat) (p:Nat × ad) (bZ:Nat × Value),parts[j]? = some p->lo[j]? = some bZ->bZ.1=p.1/\aS w R h μ p.2 bZ.2) :
  ∃ v,(Instr.build t lo).run P w=.ok v w/\aS w R h μ c v:=by
 unfold Cg at ag;split at ag
 ·rename_i zero fs av aP;split at ag
  ·cases ag
  ·rename_i ht;simp only[atp,Bool.not_eq_false] at ht;cases aD:h9 (Ef P fs) zero parts with
   | none=>rw[aD] at ag; cases ag
   | some cs=>
    rw[aD] at ag;simp only[asb,Option.some.injEq] at ag; subst ag;obtain⟨v,aw,aA⟩:=xF (w:=w) (R:=R) (h:=h) (μ:=μ) av;obtain⟨arr',h1,ae⟩:=FM parts lo.toList zero v.cells cs aD aA (by simpa using am) (fun j p bZ aj ep=>aC j p bZ aj (by simpa using ep));have aed:(fun i=>((fs.toList.map fun f=>(f.offset,(cG P f.type).getD 0)).toArray)[i]?)=Ef P fs:=by
     funext i;simp only[Ef];simp only[auO,ar5,atX];cases yv:fs[i]? with
     | none=>simp
     | some f=>
      rw[asZ] at ht;have:=ht f (by have:=Array.mem_of_getElem? yv; simpa using this);obtain⟨n,aF⟩:=ave.1 this;simp[aF]
    refine⟨_,?_,ae.aI⟩;simp only[Instr.build,Sem.run_bind,aw,Result.andThen_ok,cF aP,aiG ht];rw[aed,h1];simp
 ·rename_i zero n e av aP;cases ht:cG P e with
  | none=>rw[ht] at ag; cases ag
  | some m=>
   rw[ht] at ag;simp only at ag;cases aD:h9 (fun i=>some (i*m,m)) zero parts with
   | none=>rw[aD] at ag; cases ag
   | some cs=>
    rw[aD] at ag;simp only[asb,Option.some.injEq] at ag; subst ag;obtain⟨v,aw,aA⟩:=xF (w:=w) (R:=R) (h:=h) (μ:=μ) av;obtain⟨arr',h1,ae⟩:=FM parts lo.toList zero v.cells cs aD aA (by simpa using am) (fun j p bZ aj ep=>aC j p bZ aj (by simpa using ep));refine⟨_,?_,ae.aI⟩;simp only[Instr.build,Sem.run_bind,aw,Result.andThen_ok,cF aP,fT ht];rw[h1];simp
 ·cases ag
theorem zm {zero:List ad}:∀ n,(dZ zero n).length=n*zero.length
 | 0=>by simp[dZ]
 | n+1=>by simp only[dZ,asa,zm n,asB]; omega
theorem V0 {zero:List ad}:∀ (n j:Nat) (c:ad),(dZ zero n)[j]? = some c->zero[j % zero.length]? = some c
 | 0,_,_,aj=>by simp[dZ] at aj
 | n+1,j,c,aj=>by
  simp only[dZ] at aj;by_cases aM:j<zero.length
  ·rw[arZ aM] at aj
   rwa [asg aM]
  ·rw[ar8 (by omega)] at aj;have:=V0 n _ c aj
   rwa [<-Nat.mod_eq_sub_mod (by omega)] at this
theorem It {zero:List ad} {z:Array Value} (aA:l5 w R h μ zero z) (n:Nat) :l5 w R h μ (dZ zero n) ((Array.range (n*zero.length)).map (z[· % z.size]!)) :=by
 refine⟨by simp[zm],fun j c aj=>?_⟩;have aM:j<n*zero.length:=by
  have:=(arY.1 aj).1
  rwa [zm] at this
 obtain⟨v,h1,ae,al⟩:=aA.2 _ c (V0 n j c aj);refine⟨v,?_,ae,al⟩;rw[<-aA.1] at h1;obtain⟨ag,rfl⟩:=asG.1 h1;simp[aM,ag]
theorem aaS {z:Nat}:∀ (parts:List (Nat × ad)) (a b:List ad),h9 (fun i=>some (i*z,z)) a parts=some b->b.length=a.length:=by
 intro parts
 induction parts with
 | nil=>intro a b fu; simp only[h9,Option.some.injEq] at fu; subst fu; rfl
 | cons p parts aO=>
  intro a b fu;unfold h9 at fu;split at fu
  ·rename_i off size vs gL iC;split at fu
   ·rw[aO _ _ fu,sm (by omega)]; omega
   ·cases fu
  ·cases fu
theorem PO {t e:TypeId} {len z:Nat} {zero cs:List ad} {parts:List (Nat × ad)} {lo:Array (Nat × Value)} (ao:i2 P t=some e) (av:cG P e=some z) (jB:h5 P e=some zero) (ib:zero.length=z) (nu:len*z<=16777216)
  (aD:h9 (fun i=>some (i*z,z)) (dZ zero len) parts=some cs) (am:lo.size=parts.length)
  (aC:∀ (j:Nat) (p:Nat × ad) (bZ:Nat × Value),parts[j]? = some p->lo[j]? = some bZ->bZ.1=p.1/\aS w R h μ p.2 bZ.2) :
  cs.length=len*z/\∃ arr,(Instr.buildSlice t len lo).run P w=.ok (.slice (some ⟨w.heap.size,0,none⟩) len len) (w.alloc (.cells arr e))/\l5 w R h μ cs arr:=by
 obtain⟨v,aw,aA⟩:=xF (w:=w) (R:=R) (h:=h) (μ:=μ) jB;obtain⟨arr',h1,ae⟩:=FM parts lo.toList _ _ cs aD (It aA len) (by simpa using am) (fun j p bZ aj ep=>aC j p bZ aj (by simpa using ep));refine⟨by rw[aaS _ _ _ aD,zm,ib],arr',?_,ae⟩;have lc:=CF ao;have adJ:¬ (len*z > 2 ^ 24) :=by omega
 simp only[Instr.buildSlice,Sem.run_bind,cF lc,Result.andThen_ok,fT av,if_neg adJ];rw[ib] at h1;generalize fQ:len*z=N at h1;by_cases aB:N=0
 ·subst aB;have gx:∀ f:Nat->Value,(Array.range 0).map f=#[] :=fun f=>by simp[Array.range]
  rw[gx] at h1;simp[gx,h1,newRow]
 ·simp[aB,aw,h1,newRow]
theorem Y9 (rel:cc R B w h μ) {t:TypeId} {len:Nat} {parts:List (Nat × ad)} {lo:Array (Nat × Value)} {c:ad} {h' : a6} (ag:Fj P h t len parts=some (c,h')) (am:lo.size=parts.length)
  (aC:∀ (j:Nat) (p:Nat × ad) (bZ:Nat × Value),parts[j]? = some p->lo[j]? = some bZ->bZ.1=p.1/\aS w R h μ p.2 bZ.2) :
  ∃ v w' μ',(Instr.buildSlice t len lo).run P w=.ok v w'/\dQ w h μ w' h' μ'/\cc R B w' h' μ'/\aS w' R h' μ' c v:=by
 unfold Fj at ag;cases ao:i2 P t with
 | none=>rw[ao] at ag; cases ag
 | some e=>
 rw[ao] at ag;simp only at ag;cases av:cG P e with
 | none=>rw[av] at ag; cases ag
 | some z=>
 cases jB:h5 P e with
 | none=>rw[av,jB] at ag; cases ag
 | some zero=>
 rw[av,jB] at ag;simp only at ag;split at ag
 ·rename_i kj;obtain⟨ib,nu⟩:=kj;cases aD:h9 (fun i=>some (i*z,z)) (dZ zero len) parts with
  | none=>rw[aD] at ag; cases ag
  | some cs=>
   rw[aD] at ag;simp only[asb,Option.some.injEq,Prod.mk.injEq] at ag;obtain⟨rfl,rfl⟩:=ag;obtain⟨eE,arr',iO,ae⟩:=PO ao av jB ib nu aD am aC;have az:=E6 rel (cs:=cs) (vs:=arr') e ae.1 ae.2;rw[eE] at az;obtain⟨aX,bg,a3⟩:=az;refine⟨.slice (some ⟨w.heap.size,0,none⟩) len len,_,_,iO,aX,bg,?_⟩;have:=aS.au (w:=w.alloc (.cells arr' e)) (R:=R) (h:=h.push (.cells (len*z) cs)) (μ:=bY μ h.n (some ⟨w.heap.size,0,arr'.size⟩)) z h.n 0 len len (len*z) len cs ⟨w.heap.size,0,arr'.size⟩ (by simp[eH,fL]) (by simp) (ar0 _) (by omega)
    (.inr ⟨by omega,ar0 _,by simp only; rw[ae.1,eE]; omega⟩)
   simpa using this
 ·cases ag
theorem Ui {t e:TypeId} {z by_:Nat} {zero:List ad} {kl kc:IntKind} {li hV:Int} (ao:i2 P t=some e) (av:cG P e=some z) (eD:jn P e=some by_) (jB:h5 P e=some zero) (ib:zero.length=z)
  (aB:0<=li) (pw:li<=hV) (Gy:hV<9223372036854775808) (dO:by_*hV<=cK) :
  (dZ zero hV.toNat).length=hV.toNat*z/\∃ arr,(Instr.makeSlice t (.int kl li) (.int kc hV)).run P w=.ok (.slice (some ⟨w.heap.size,0,none⟩) li.toNat hV.toNat) (w.alloc (.cells arr e))/\l5 w R h μ (dZ zero hV.toNat) arr:=by
 obtain⟨v,aw,aA⟩:=xF (w:=w) (R:=R) (h:=h) (μ:=μ) jB;have cI:=It aA hV.toNat
 refine⟨by rw[zm,ib],_,?_,cI⟩;obtain⟨i,ax,R0⟩:∃ i,P.info? e=some i/\i.bytes=by_:=by
  unfold jn at eD;cases ax:P.info? e with
  | none=>rw[ax] at eD; cases eD
  | some i=>rw[ax] at eD; exact⟨i,rfl,by simpa using eD⟩
 have wR:IntKind.i64.wrap li=li:=IntWalk.i64_in _ (by omega);have A5:IntKind.i64.wrap hV=hV:=IntWalk.i64_in _ (by omega);have lc:=CF ao;unfold cK at dO;have t1:¬ (hV<0\/(281474976710656:Int)<(by_:Int)*hV) :=by omega
 have t2:¬ (li<0) :=by omega
 have t3:¬ (hV<li) :=by omega
 rw[ib];generalize fQ:hV.toNat*z=N;by_cases te:N=0
 ·subst te;have gx:∀ f:Nat->Value,(Array.range 0).map f=#[] :=fun f=>by simp[Array.range]
  simp[gx,Instr.makeSlice,cF lc,Go.asInt,asIntOf,typeInfo,ax,R0,wR,A5,t1,t2,t3,fT av,fQ,newRow]
 ·simp[Instr.makeSlice,cF lc,Go.asInt,asIntOf,typeInfo,ax,R0,wR,A5,t1,t2,t3,fT av,fQ,te,aw,newRow]
theorem agh (rel:cc R B w h μ) {t:TypeId} {l c r:ad} {HP um:Value} {h' : a6} (hm:HQ P h t l c=some (r,h')) (am:aS w R h μ l HP) (ah:aS w R h μ c um) :
  ∃ v w' μ',(Instr.makeSlice t HP um).run P w=.ok v w'/\dQ w h μ w' h' μ'/\cc R B w' h' μ'/\aS w' R h' μ' r v:=by
 unfold HQ at hm;split at hm
 ·rename_i e li hV ao g5 cJ;obtain⟨kl,rfl⟩:=sJ g5 am;obtain⟨kc,rfl⟩:=sJ cJ ah;cases av:cG P e with
  | none=>rw[av] at hm; cases hm
  | some z=>
  cases eD:jn P e with
  | none=>rw[av,eD] at hm; cases hm
  | some by_=>
  cases jB:h5 P e with
  | none=>rw[av,eD,jB] at hm; cases hm
  | some zero=>
  rw[av,eD,jB] at hm;simp only at hm;split at hm
  ·rename_i kj;obtain⟨ib,aB,pw,Gy,dO⟩:=kj;simp only[Option.some.injEq,Prod.mk.injEq] at hm;obtain⟨rfl,rfl⟩:=hm;obtain⟨bn,arr,iO,cI⟩:=Ui (w:=w) (R:=R) (h:=h) (μ:=μ) (kl:=kl) (kc:=kc) ao av eD jB ib aB pw Gy dO;have az:=E6 rel (cs:=dZ zero hV.toNat) e cI.1 cI.2;rw[bn] at az;obtain⟨aX,bg,a3⟩:=az;refine⟨.slice (some ⟨w.heap.size,0,none⟩) li.toNat hV.toNat,_,_,iO,aX,bg,?_⟩;have:=aS.au (w:=w.alloc (.cells arr e)) (R:=R) (h:=h.push (.cells (hV.toNat*z) (dZ zero hV.toNat))) (μ:=bY μ h.n (some ⟨w.heap.size,0,arr.size⟩))
    z h.n 0 li.toNat hV.toNat (hV.toNat*z) hV.toNat (dZ zero hV.toNat) ⟨w.heap.size,0,arr.size⟩ (by simp[eH,fL]) (by simp) (by omega) (by omega)
    (.inr ⟨by omega,ar0 _,by simp only; rw[cI.1,bn]; omega⟩)
   simpa using this
  ·cases hm
 ·cases hm
theorem af0 {t u:TypeId} {ty:TypeId} {x c:ad} {bL:Value} (ah:y6 P t x=some c) (ai:aS w R h μ x bL) :∃ v,(Builtin.len_ #[t] ty #[bL]).run P w=.ok v w/\aS w R h μ c v:=by
 unfold y6 at ah;split at ah<;>(try (simp only[Option.some.injEq] at ah; subst ah))
 ·rename_i s aP;cases ai;rename_i bs;exact⟨goInt bs.size,by simp[Builtin.len_,cF aP],by rw[show (bs.data.toList.length:Int)=bs.size from by simp]; exact .int _ _⟩
 ·rename_i n e aP;exact⟨goInt n,by simp[Builtin.len_,cF aP],.int _ _⟩
 ·rename_i e aP;cases ai;exact⟨goInt (0:Nat),by simp[Builtin.len_,cF aP],.int _ _⟩
 ·rename_i e z b off len cap sz aP;cases ai
  ·exact⟨goInt len,by simp[Builtin.len_,cF aP],.int _ _⟩
  ·exact⟨goInt len,by simp[Builtin.len_,cF aP],.int _ _⟩
  ·exact⟨goInt (0:Nat),by simp[Builtin.len_,cF aP],.int _ _⟩
 ·rename_i e z es aP;cases ai
  ·exact⟨goInt es.length,by simp[Builtin.len_,cF aP],.int _ _⟩
  ·exact⟨goInt (0:Nat),by simp[Builtin.len_,cF aP],.int _ _⟩
 ·rename_i k e aP;cases ai;exact⟨goInt 0,by simp[Builtin.len_,cF aP],.int _ _⟩
 ·cases ah
end

section
variable {P:Program} {w:World} {R:Nat->Prop} {B:Nat} {h:a6} {μ:cR}
theorem xf {t:TypeId} {cs:List ad} {vs:Array Value} {off:Nat} {c:ad} (aC:ij P t cs off=some c) (aA:l5 w R h μ cs vs) :
  ∃ v,(∀ w2:World,(part t vs off).run P w2=.ok v w2)/\aS w R h μ c v:=by
 unfold ij at aC;cases pm:eA P t with
 | none=>rw[pm] at aC; cases aC
 | some b=>
  rw[pm] at aC;cases b with
  | false=>
   simp only at aC;obtain⟨v,h1,_,al⟩:=aA.2 off c aC;exact⟨v,fun w2=>by simp[part,Ix pm,h1],al⟩
  | true=>
   cases aF:cG P t with
   | none=>rw[aF] at aC; cases aC
   | some n=>
    rw[aF] at aC;simp only at aC;split at aC
    ·rename_i dT;simp only[Option.some.injEq] at aC;subst aC;refine⟨.agg (vs.extract off (off+n)),fun w2=>by simp[part,Ix pm,fT aF],l5.aI ⟨by simp; rw[aA.1]; omega,fun j c aj=>?_⟩⟩;have k9:j<n:=by
      have:=(arY.1 aj).1;rw[asc] at this; omega
     rw[asf k9,asE] at aj;obtain⟨v,h1,ae,al⟩:=aA.2 _ c aj;refine⟨v,?_,ae,al⟩;rw[Array.getElem?_extract,if_pos (by rw[aA.1]; omega)];exact h1
    ·cases aC
theorem vF {cs:List ad} {bL:Value} (ai:aS w R h μ (.aI cs) bL) :∃ vs,bL=.agg vs/\l5 w R h μ cs vs:=by
 cases ai with
 | aI _ vs am h1 aw=>
  refine⟨vs,rfl,am,fun j c aj=>?_⟩;have aM:j<vs.size:=by rw[am]; exact (arY.1 aj).1
  exact⟨vs[j],by simp[aM],h1 j _ (by simp[aM]),aw j c _ aj (by simp[aM])⟩
theorem aaO {t:TypeId} {cs:List ad} {f:Nat} {fd:Field} {c:ad} {bL:Value} (aD:x8 P t f=some fd) (aC:ij P fd.type cs fd.offset=some c) (ai:aS w R h μ (.aI cs) bL) :
  ∃ v,(Instr.field t bL f).run P w=.ok v w/\aS w R h μ c v:=by
 obtain⟨fs,aP,km⟩:=QF aD;obtain⟨vs,rfl,aA⟩:=vF ai;obtain⟨v,h1,ae⟩:=xf (P:=P) aC aA;exact⟨v,by simp[Instr.field,cF aP,km,asAgg,h1],ae⟩
theorem Mo {t:TypeId} {x iT c:ad} {bL DN:Value} (ah:Bd P t x iT=some c) (ai:aS w R h μ x bL) (ax:aS w R h μ iT DN) :
  ∃ v,(Instr.index t bL DN).run P w=.ok v w/\aS w R h μ c v:=by
 unfold Bd at ah;split at ah
 ·rename_i n e cs i aP fF;obtain⟨k,rfl⟩:=sJ fF ax;cases av:cG P e with
  | none=>rw[av] at ah; cases ah
  | some z=>
   rw[av] at ah;simp only at ah;split at ah
   ·rename_i ag;obtain⟨vs,rfl,aA⟩:=vF ai;obtain⟨v,h1,ae⟩:=xf (P:=P) ah aA;exact⟨v,by simp[Instr.index,asIntOf,cF aP,ag,fT av,h1],ae⟩
   ·cases ah
 ·rename_i s i aP fF;obtain⟨k,rfl⟩:=sJ fF ax;split at ah
  ·rename_i ag;cases ai with
   | str bs=>
    cases Gs:bs.data.toList[i.toNat]? with
    | none=>rw[Gs] at ah; cases ah
    | some b=>
     rw[Gs] at ah;simp only[asb,Option.some.injEq] at ah;subst ah;have aM:i.toNat<bs.size:=by have:=(arY.1 Gs).1; simpa using this
     have ec:bs[i.toNat]? = some b:=by
      have fm:=(arY.1 Gs).2;rw[getElem?_pos bs i.toNat aM];simp only[Option.some.injEq];rw[<-fm];rfl
     exact⟨.int .u8 b.toNat,by simp[Instr.index,asIntOf,cF aP,ag,ec],.int _ _⟩
  ·cases ah
 ·cases ah
theorem ZU (rel:cc R B w h μ) {t u ty:TypeId} {d x c:ad} {JV bL:Value} {h' : a6} (ah:z8 P h t d x=some (c,h')) (bN:aS w R h μ d JV) (ai:aS w R h μ x bL) :
  ∃ v w',(Builtin.copy_ #[t,u] ty #[JV,bL]).run P w=.ok v w'/\dQ w h μ w' h' μ/\cc R B w' h' μ/\aS w' R h' μ c v:=by
 unfold z8 at ah;cases ao:i2 P t with
 | none=>rw[ao] at ah; cases ah
 | some e=>
 rw[ao] at ah;simp only at ah;cases av:cG P e with
 | none=>rw[av] at ah; cases ah
 | some z=>
 rw[av] at ah;simp only at ah;cases b6:contents h z x with
 | none=>rw[b6] at ah; cases ah
 | some OU=>
 obtain⟨xs,n⟩:=OU;rw[b6] at ah;simp only at ah;have lc:=CF ao;obtain⟨a2,bn,vs,cI,mf⟩:=vX (P:=P) rel b6 ai;split at ah
 ·simp only[Option.some.injEq,Prod.mk.injEq] at ah;obtain⟨rfl,rfl⟩:=ah;cases bN;have aB:=mf 0 (ato _) w (fun _=>rfl);refine⟨goInt (0:Nat),w,?_,.refl _ _ _,rel,.int _ _⟩;simp[Builtin.copy_,cF lc,bn,fT av,aB]
 ·rename_i en b off len cap sz;cases ag:h.f b with
  | cells m cs=>
   rw[ag] at ah;simp only at ah;split at ah
   ·rename_i C4;obtain⟨rfl,rfl⟩:=C4;simp only[Option.some.injEq,Prod.mk.injEq] at ah;obtain⟨rfl,rfl⟩:=ah;cases bN with
    | ik _ _ _ _ a cs' cr bS hm=>
     have aB:=mf 0 (ato _) w (fun _=>rfl);have hN:bt cs off []=cs:=by simp[bt]
     have gD:=rel.same (h':=h.set b (.cells m (bt cs off (xs.take (min n 0*z))))) (by
      rw[ed,Nat.min_zero,aug,atm,hN];funext x;simp only[bY];split
      ·rename_i ai; rw[ai,ag]
      ·rfl) rfl
     refine⟨goInt (0:Nat),w,?_,gD.1,gD.2,by rw[Nat.min_zero]; exact .int _ _⟩;simp[Builtin.copy_,cF lc,bn,fT av,aB,storeCells,Result.andThen]
    | gX _ _ _ _ _ _ cap' a am du ar=>
     exfalso;rcases ar with ar | ⟨hy,cs',ar,aM⟩
     ·rw[ar] at ag; cases ag
     ·rw[ar] at ag; cases ag; omega
    | au _ _ _ _ _ _ cap' cs' cr bS hm am aq du=>
     have eX:=rel.blk b cr hm;rw[ag] at eX;obtain⟨R4,cM,_⟩:=eX;have uK:min n len*z<=cap*z:=ar2 _ (by omega);have SX:min n len*z<=n*z:=ar2 _ (by omega);have lf:(xs.take (min n len*z)).length=min n len*z:=by rw[asc]; omega
     have nu:max m (off+(xs.take (min n len*z)).length)=m:=by rw[lf]; omega
     obtain⟨w',h1,ae,al⟩:=zC (P:=P) rel (cvs:=xs.take (min n len*z)) (vs:=vs.take (min n len*z)) (k:=off) ag hm (by omega)
      (by rw[asc,asc,cI.1]) (by rw[nu]; omega) (fun j c aj=>by
       have aM:j<min n len*z:=by have:=(arY.1 aj).1; rwa [lf] at this
       rw[asf aM] at aj ⊢;exact cI.2 j c aj)
     rw[nu] at ae al;have aD:=mf (min n len) (by omega) w (fun _=>rfl);refine⟨goInt (min n len:Nat),w',?_,ae,al,.int _ _⟩;have yE:Nat.min n len=min n len:=rfl;simp[Builtin.copy_,cF lc,bn,fT av,yE,aD,h1]
   ·cases ah
  | _=>rw[ag] at ah; cases ah
 ·cases ah
theorem JB:∀ (cs:List ad) (vs:List Value) (bs:List UInt8),ow cs=some bs->vs.length=cs.length->
  (∀ (j:Nat) (c:ad),cs[j]? = some c->∃ v:Value,vs[j]? = some v/\v.oneCell'=true/\aS w R h μ c v)->
  ∃ ns:List Int,vs=ns.map (Value.int .u8)/\bs=ns.map fun n=>UInt8.ofNat n.toNat
 | [],[],bs,ag,_,_=>by
  simp only[ow,Option.some.injEq] at ag; subst ag;exact⟨[],rfl,rfl⟩
 | [],_::_,_,_,am,_=>by simp at am
 | _::_,[],_,_,am,_=>by simp at am
 | c::cs,v::vs,bs,ag,am,aw=>by
  obtain⟨v0,iP,_,uS⟩:=aw 0 c rfl;simp only[asw,Option.some.injEq] at iP;subst iP;cases uS with
  | int k n=>
   cases k<;>simp only[ow] at ag<;>try (cases ag; done)
   cases qp:ow cs with
   | none=>rw[qp] at ag; cases ag
   | some Y2=>
    rw[qp] at ag;simp only[asb,Option.some.injEq] at ag;subst ag;obtain⟨ns,h1,ae⟩:=JB cs vs Y2 qp (by simpa using am) (fun j c aj=>aw (j+1) c (by simpa using aj));exact⟨n::ns,by rw[h1]; rfl,by rw[ae]; rfl⟩
  | _=>simp[ow] at ag
theorem QZ:∀ (ns:List Int) (s:ByteArray),(ns.foldl (fun r n=>r.push (UInt8.ofNat n.toNat)) s).data.toList=s.data.toList++ns.map fun n=>UInt8.ofNat n.toNat
 | [],s=>by simp
 | n::ns,s=>by
  rw[avr,QZ ns];simp[ByteArray.push]
theorem ZS (rel:cc R B w h μ) {s d:TypeId} {x c:ad} {bL:Value} (ah:xZ P h s d x=some c) (ai:aS w R h μ x bL) :
  ∃ v,(convert s d bL).run P w=.ok v w/\aS w R h μ c v:=by
 unfold xZ at ah;split at ah
 ·rename_i ir k k' n ak bN;simp only[Option.some.injEq] at ah; subst ah;cases ai;exact⟨.int k (k.wrap n),by simp[convert,cF ak,cF bN,Conv.intToInt],.int _ _⟩
 ·rename_i q6 ak bN;simp only[Option.some.injEq] at ah; subst ah;cases ai with
  | str bs=>exact⟨.string bs,by simp[convert,cF ak,cF bN],.str _⟩
 ·rename_i e ak bN SZ;cases Hk:P.underlying e with
  | none=>rw[Hk] at ah; cases ah
  | some am1=>
   rw[Hk] at ah;split at ah
   ·rename_i heq;simp only[Option.some.injEq] at heq ah; subst heq ah;cases ai;refine⟨.string ByteArray.empty,by simp[convert,cF ak,cF bN,cF Hk,Conv.bytesToString],?_⟩;exact .str ByteArray.empty
   ·rename_i heq yK;simp only[Option.some.injEq] at heq; subst heq;split at ah
    ·cases ah
    ·rename_i cs n adV b6;cases qp:ow cs with
     | none=>rw[qp] at ah; cases ah
     | some bs=>
      rw[qp] at ah;simp only[asb,Option.some.injEq] at ah; subst ah;obtain⟨a2,bn,vs,cI,mf⟩:=vX (P:=P) rel b6 ai;have aD:=mf n (ar0 _) w (fun _=>rfl);obtain⟨ns,rfl,rfl⟩:=JB cs vs bs qp cI.1 cI.2;have DA:(ns.map (Value.int .u8)).take (n*1)=ns.map (Value.int .u8) :=arX (by rw[cI.1,a2]; exact ar0 _);rw[DA] at aD;have La:∃ a len cap,bL=.slice a len cap:=by
       cases ai<;>first | exact⟨_,_,_,rfl⟩ | (simp[contents] at b6; done) | (exact absurd rfl (adV _))
      obtain⟨a,len,cap,rfl⟩:=La;simp only[Builtin.lenOf,Sem.run_pure,Result.ok.injEq] at bn;obtain⟨rfl,_⟩:=bn;have acM:=QZ ns ByteArray.empty;refine⟨.string (ns.foldl (fun r n=>r.push (UInt8.ofNat n.toNat)) ByteArray.empty),?_,?_⟩
      ·rw[run_convert_bytes_string w s d e a len cap ak Hk bN];cases a with
       | none=>
        simp only[Builtin.firstCells,Sem.run_pure,Result.ok.injEq] at aD;have nv:ns=[] :=by
         have:=congrArg Array.toList aD.1;simpa using this.symm
        subst nv;simp[Conv.bytesToString]
       | some a=>
        simp only[Builtin.firstCells,atC] at aD;exact run_bytesToString w a len cap ns aD
      ·have:(ns.foldl (fun r n=>r.push (UInt8.ofNat n.toNat)) ByteArray.empty).data.toList=ns.map fun n=>UInt8.ofNat n.toNat:=by rw[acM]; rfl
       rw[<-this];exact .str _
    ·cases ah
   ·cases ah
 ·cases ah
theorem NG (rel:cc R B w h μ) {w' : World} (ag:RowKit.Below w.heap.size w w') (rN:w.drawn<=w'.drawn:=by first | exact ar0 _ | exact Nat.le_succ _) :dQ w h μ w' h μ/\cc R B w' h μ:=by
 have e:dQ w h μ w' h μ:=⟨⟨ag.os,ag.tape,ag.output,ag.size,fun k hk _=>ag.block k hk,fun _ aq=>.inl aq,fun b sz cs m h1 ae=>.inl ⟨cs,h1,ae⟩,fun _ _ ar=>ar,fun _ _ _ h1 ae=>⟨h1,ae⟩,ar0 _,rN⟩,fun _ _ hm=>hm⟩
 refine⟨e,fun b m hm=>?_,rel.inj,rel.base,rel.fresh,rel.up,ati rel.size ag.size,rel.lT⟩;cases am:live (h.f b) with
 | false=>cases ah:h.f b<;>first | trivial | (rw[ah] at am; cases am)
 | true=>exact (rel.blk b m hm).ext e.toExt0 (ag.block _ (rel.lt am hm))
theorem Ze (rel:cc R B w h μ) {s d:TypeId} {x c:ad} {bL:Value} (ah:zU P s d x=some c) (ai:aS w R h μ x bL) :
  ∃ v w',(convert s d bL).run P w=.ok v w'/\dQ w h μ w' h μ/\cc R B w' h μ/\aS w' R h μ c v:=by
 unfold zU at ah;split at ah
 ·rename_i ir e q6 ak bN;split at ah
  ·rename_i aP;simp only[Option.some.injEq] at ah; subst ah;cases ai with
   | str bs=>
    have KW:RowKit.Below w.heap.size w (Lib.bytesWorld w e bs) :=⟨rfl,rfl,rfl,by rw[Lib.bytesWorld_size]; omega,fun k hk=>Lib.bytesWorld_at_old w e bs k hk⟩
    obtain⟨h1,ae⟩:=NG rel KW;refine⟨_,_,Lib.run_convert_string_bytes w s d e bs ak bN aP,h1,ae,?_⟩;have ht:bs.data.toList.length=bs.size:=by simp
    have e4:¬ mF h μ w.heap.size:=by
     rintro⟨b,m,am,hm,ao⟩;have:=rel.lt am hm;omega
    have c9:bs.size<=grownCap w bs.size 0 e:=grownCap_ge w bs.size 0 e;have:=aS.cq (w:=Lib.bytesWorld w e bs) (R:=R) (h:=h) (μ:=μ) 1 (bs.data.toList.map fun b=>[jS b]) w.heap.size 0 (grownCap w bs.size 0 e) (fun i _=>.int .u8 (bs.data.toList.getD i 0).toNat)
     (by simpa using c9) (fun e ao=>by obtain⟨b,_,rfl⟩:=asr.1 ao; rfl)
     (fun i j ax aj=>by
      have gi:i<bs.size:=by simpa using ax
      have:j=0:=by omega
      subst this;exact⟨by simpa using Lib.bytesWorld_cell w e bs i gi,rfl,rel.up _ rel.size,e4⟩)
     (fun i e ao j c aj=>by
      rw[ar5] at ao;cases ag:bs.data.toList[i]? with
      | none=>rw[ag] at ao; cases ao
      | some b=>
       rw[ag] at ao;simp only[asb,Option.some.injEq] at ao; subst ao;cases j with
       | zero=>
        simp only[asw,Option.some.injEq] at aj; subst aj;have:bs.data.toList.getD i 0=b:=by simp[List.getD,ag]
        rw[this];exact .int _ _
       | succ j=>simp at aj)
    rw[asi,ht] at this;exact this
  ·cases ah
 ·cases ah
theorem Zn {t ty:TypeId} {x c:ad} {bL:Value} (ah:zY P t x=some c) (ai:aS w R h μ x bL) :∃ v,(Builtin.cap_ #[t] ty #[bL]).run P w=.ok v w/\aS w R h μ c v:=by
 unfold zY at ah;split at ah<;>(try (simp only[Option.some.injEq] at ah; subst ah))
 ·rename_i n e aP;exact⟨goInt n,by simp[Builtin.cap_,cF aP],.int _ _⟩
 ·rename_i e aP;cases ai;exact⟨goInt (0:Nat),by simp[Builtin.cap_,cF aP],.int _ _⟩
 ·cases ah
theorem Zz (rel:cc R B w h μ) {t ty:TypeId} {x:ad} {bL:Value} {h' : a6} (ah:z2 P h t x=some h') (ai:aS w R h μ x bL) :
  ∃ w',(Builtin.clear_ #[t] ty #[bL]).run P w=.ok (.tuple #[]) w'/\dQ w h μ w' h' μ/\cc R B w' h' μ:=by
 unfold z2 at ah;split at ah
 ·rename_i e aP;simp only[Option.some.injEq] at ah; subst ah;cases ai;exact⟨w,by simp[Builtin.clear_,cF aP],.refl _ _ _,rel⟩
 ·rename_i e z aP;simp only[Option.some.injEq] at ah; subst ah;cases ai<;>exact⟨w,by simp[Builtin.clear_,cF aP],.refl _ _ _,rel⟩
 ·rename_i e z b off len cap sz aP;split at ah
  ·rename_i rT;simp only[Option.some.injEq] at ah; subst ah;subst rT;cases ai<;>exact⟨w,by simp[Builtin.clear_,cF aP],.refl _ _ _,rel⟩
  ·rename_i rT;split at ah
   ·rename_i zero m cs av ag;split at ah
    ·rename_i C4;obtain⟨rfl,rfl⟩:=C4;simp only[Option.some.injEq] at ah; subst ah;cases ai with
     | ik=>exact absurd rfl rT
     | gX _ _ _ _ _ _ cap' a am du ar=>
      exfalso;rcases ar with ar | ⟨hy,cs',ar,aM⟩
      ·rw[ar] at ag; cases ag
      ·rw[ar] at ag; cases ag; omega
     | au _ _ _ _ _ _ cap' cs' cr bS hm am aq du=>
      have eX:=rel.blk b cr hm;rw[ag] at eX;obtain⟨R4,cM,_⟩:=eX;obtain⟨v,aw,aA⟩:=xF (P:=P) (w:=w) (R:=R) (h:=h) (μ:=μ) av;have LV:=It aA len;have uK:len*zero.length<=cap*zero.length:=ar2 _ am;have mn:(dZ zero len).length=len*zero.length:=zm len;have nu:max m (off+(dZ zero len).length)=m:=by rw[mn]; omega
      have ib:v.cells.size=zero.length:=aA.1;have Hn:(Builtin.zeroCells v.cells len)=(Array.range (len*zero.length)).map (v.cells[· % v.cells.size]!) :=by
       unfold Builtin.zeroCells;rw[ib]
      obtain⟨w',h1,ae,al⟩:=zC (P:=P) rel (cvs:=dZ zero len) (vs:=(Builtin.zeroCells v.cells len).toList) (k:=off) ag hm (by omega)
       (by rw[Hn,mn]; simp) (by rw[nu]; omega) (fun j c aj=>by
        rw[Hn];obtain⟨u,aX,bg,a3⟩:=LV.2 j c aj;exact⟨u,by rw[atX]; exact aX,bg,a3⟩)
      rw[nu] at ae al;refine⟨w',?_,ae,al⟩;cases bn:len with
      | zero=>exact absurd bn rT
      | succ apW=>
       rw[bn] at h1;simp[Builtin.clear_,cF aP,aw,h1]
    ·cases ah
   ·cases ah
 ·cases ah
theorem YF (rel:cc R B w h μ) {t u ty:TypeId} {k:IntKind} {s x c:ad} {pS bL:Value} {h' : a6} (aP:P.underlying u=some (.int k)) (az:Cb P h t s x=some (c,h')) (ak:aS w R h μ s pS) (ai:aS w R h μ x bL) :
  ∃ v w' μ',(Builtin.append_ #[t,u] ty #[pS,bL]).run P w=.ok v w'/\dQ w h μ w' h' μ'/\cc R B w' h' μ'/\aS w' R h' μ' c v:=by
 unfold Cb at az;split at az
 ·rename_i e n ao ax;have lc:=CF ao;obtain⟨r5,rfl⟩:=sJ ax ai;split at az
  ·rename_i z by_ zero av eD jB;split at az
   ·rename_i kj;obtain⟨ib,rU,aog,dO⟩:=kj;obtain⟨i,zv,rP,mu,kr,_⟩:=Xx (P:=P) (w:=w) (R:=R) (h:=h) (μ:=μ) jB;have qN:i.size=z:=by simpa [cG,rP] using av
    have mV:i.bytes=by_:=by simpa [jn,rP] using eD
    have A6:IntKind.i64.wrap n=n:=by
     simp[IntKind.wrap,IntKind.bits,IntKind.signed]; omega
    have aF:(n.toNat:Int)=n:=by omega
    have qF:¬ (n<0) :=by omega
    have anx:¬ (2 ^ 48<n*(by_:Int)) :=by
     have h1:((n.toNat*by_:Nat) :Int)=n*by_:=by rw[Int.natCast_mul,aF]
     have ae:((n.toNat*by_:Nat) :Int)<=((140737488355328:Nat) :Int) :=Int.ofNat_le.2 dO;rw[h1] at ae;omega
    have cI:l5 w R h μ (dZ zero n.toNat) (Builtin.zeroCells zv.cells n.toNat) :=by
     obtain⟨v,aw,aA⟩:=xF (P:=P) (w:=w) (R:=R) (h:=h) (μ:=μ) jB;have aeK:v=zv:=by
      have:=aw w;simp[zeroValue,typeInfo,rP,mu] at this;exact this.symm
     subst aeK;have LV:=It aA n.toNat
     have Hn:(Builtin.zeroCells v.cells n.toNat)=(Array.range (n.toNat*zero.length)).map (v.cells[· % v.cells.size]!) :=by
      unfold Builtin.zeroCells;rw[aA.1]
     rw[Hn];exact LV
    have mn:(dZ zero n.toNat).length=n.toNat*z:=by rw[zm,ib]
    have wr:∀ w2:World,(Go.asInt (.int r5 n)).run P w2=.ok n w2:=fun w2=>rfl
    have wi:¬ (281474976710656<n*(by_:Int)) :=by omega
    have tg:∀ w2:World,(zeroValue e).run P w2=.ok zv w2:=fun w2=>by simp[zeroValue,typeInfo,rP,mu]
    have TF:n.toNat*z=0->Builtin.zeroCells zv.cells n.toNat=#[] :=fun aB=>by
     apply at8;unfold Builtin.zeroCells;simp[kr,ib,aB]
    refine Pv rel av eD az ak mn (vs:=(Builtin.zeroCells zv.cells n.toNat).toList) ⟨by simpa using cI.1,fun j c aj=>by
     obtain⟨v,aX,bg,a3⟩:=cI.2 j c aj;exact⟨v,by rw[atX]; exact aX,bg,a3⟩⟩ (fun base sLen hb w' e8 b1=>?_) (fun j2 arW gi TG base sLen hb fW aq ar aA ag=>?_)
    ·by_cases aB:n.toNat*z=0
     ·rw[TF aB] at b1;cases base with
      | none=>
       subst b1;simp[Builtin.append_,wr,cF lc,cF aP,fT av,A6,qF,typeInfo,rP,mV,e8,wi,aB]
      | some a=>
       simp only at b1;simp[Builtin.append_,wr,cF lc,cF aP,fT av,A6,qF,typeInfo,rP,mV,e8,wi,aB,b1]
     ·cases base with
      | none=>
       subst b1;simp[Builtin.append_,wr,cF lc,cF aP,fT av,A6,qF,typeInfo,rP,mV,e8,wi,aB,tg]
      | some a=>
       simp only at b1;simp[Builtin.append_,wr,cF lc,cF aP,fT av,A6,qF,typeInfo,rP,mV,e8,wi,aB,tg,b1]
    ·rw[rP] at gi;cases gi;rw[mu] at TG;cases TG;have ps:¬ (281474976710656<Builtin.nextslicecap (sLen+n.toNat) hb*i.bytes) :=by
      have:=growslice_fits (need:=sLen+n.toNat) (old:=hb) (bytes:=i.bytes) ar aA;omega
     have S1:¬ (sLen+n.toNat<=hb) :=by omega
     have yG:¬ ((9223372036854775807:Int)<((sLen+n.toNat:Nat) :Int)) :=by
      have h1:(sLen+n.toNat)*1<=(sLen+n.toNat)*i.bytes:=Nat.mul_le_mul_left _ ag;unfold cK at aA;omega
     have SY:¬ ((9223372036854775807:Int)<(sLen:Int)+max n 0) :=by omega
     rw[qN] at aq;rw[mV] at ps;by_cases aB:n.toNat*z=0
     ·have yC:(fW++(Builtin.zeroCells zv.cells n.toNat).toList).toArray=fW.toArray:=by rw[TF aB]; simp
      rw[yC];simp[Builtin.append_,wr,cF lc,cF aP,fT av,A6,qF,typeInfo,rP,mV,S1,wi,yG,SY,ps,aB,tg,aq,Question.forced,newRow,grownCap]
     ·have yC:(fW++(Builtin.zeroCells zv.cells n.toNat).toList).toArray=fW.toArray++Builtin.zeroCells zv.cells n.toNat:=by simp
      rw[yC];simp[Builtin.append_,wr,cF lc,cF aP,fT av,A6,qF,typeInfo,rP,mV,S1,wi,yG,SY,ps,aB,tg,aq,Question.forced,newRow,grownCap]
   ·cases az
  ·cases az
 ·cases az
end

section
variable {P:Program} {w:World} {R:Nat->Prop} {B:Nat} {h:a6} {μ:cR}
theorem YR {op:BinOp} {t:TypeId} {k k' : IntKind} {a b:Int} {c:ad} (ah:cB op k a k' b=some c) :
  ∃ v,(binOp op t (.int k a) (.int k' b)).run P w=.ok v w/\aS w R h μ c v:=by
 cases op
 case shl=>
  simp only[cB] at ah;split at ah
  ·cases ah
  ·rename_i ag;simp only[Option.some.injEq] at ah; subst ah;exact⟨_,by simp[binOp,Op.shift,ag],.int _ _⟩
 case shr=>
  simp only[cB] at ah;split at ah
  ·cases ah
  ·rename_i ag;simp only[Option.some.injEq] at ah; subst ah;exact⟨_,by simp[binOp,Op.shift,ag],.int _ _⟩
 case quo=>
  simp only[cB] at ah;split at ah
  ·rename_i ag;obtain⟨rfl,ag⟩:=ag;simp only[Option.some.injEq] at ah; subst ah;exact⟨_,by simp[binOp,Op.intDiv,ag],.int _ _⟩
  ·cases ah
 case rem=>
  simp only[cB] at ah;split at ah
  ·rename_i ag;obtain⟨rfl,ag⟩:=ag;simp only[Option.some.injEq] at ah; subst ah;exact⟨_,by simp[binOp,Op.intDiv,ag],.int _ _⟩
  ·cases ah
 all_goals
  simp only[cB] at ah;split at ah
  ·rename_i hk;subst hk;simp only[Option.some.injEq] at ah; subst ah
   first
    | (refine⟨_,?_,.int _ _⟩; unfold binOp; simp only[ne_eq,not_true_eq_false,if_false]; rfl)
    | (refine⟨_,?_,.bool _⟩; unfold binOp; simp only[ne_eq,not_true_eq_false,if_false]; rfl)
  ·cases ah
theorem toList_eq (s:ByteArray) :s.toList=s.data.toList:=by
 rw[ByteArray.toList_eq]
theorem YS {op:BinOp} {t:TypeId} {a b:ByteArray} {c:ad} (ah:ov op a.data.toList b.data.toList=some c) :
  ∃ v,(binOp op t (.string a) (.string b)).run P w=.ok v w/\aS w R h μ c v:=by
 cases op<;>simp only[ov] at ah<;>try (cases ah; done)
 case add=>
  split at ah
  ·rename_i dT;simp only[Option.some.injEq] at ah; subst ah;have h1:a.data.toList.length=a.size:=by simp
   have ae:b.data.toList.length=b.size:=by simp
   rw[h1,ae] at dT;have Di:¬ ((9223372036854775807:Int)<(a.size:Int)+(b.size:Int)) :=by omega
   have am:(a++b).data.toList=a.data.toList++b.data.toList:=by simp
   refine⟨.string (a++b),by simp[binOp,Op.stringOp,Di],?_⟩;rw[<-am];exact .str _
  ·cases ah
 all_goals
  simp only[Option.some.injEq] at ah; subst ah;exact⟨_,by simp[binOp,Op.stringOp,toList_eq],.bool _⟩
theorem aaw {d:Nat} {t:TypeId} {a b:Bool} (aP:P.underlying t=some .bool) :(Op.equalIn (d+1) t (.bool a) (.bool b)).run P w=.ok (a == b) w:=by
 simp[Op.equalIn,cF aP]
theorem aax {d:Nat} {t:TypeId} {g7 k:IntKind} {a b:Int} (aP:P.underlying t=some (.int g7)) :(Op.equalIn (d+1) t (.int k a) (.int k b)).run P w=.ok (a == b) w:=by
 simp[Op.equalIn,cF aP]
theorem aay {d:Nat} {t:TypeId} {a b:ByteArray} (aP:P.underlying t=some .string) :(Op.equalIn (d+1) t (.string a) (.string b)).run P w=.ok (a.data.toList == b.data.toList) w:=by
 simp[Op.equalIn,cF aP,toList_eq,beq_toListBytes]
theorem J5 {d:Nat} {t e:TypeId} {x y l c:Nat} {b:Option Addr} (aP:P.underlying t=some (.slice e)) :(Op.equalIn (d+1) t (.slice none x y) (.slice b l c)).run P w=.ok b.isNone w:=by
 simp[Op.equalIn,cF aP]
theorem Qx {d:Nat} {t e:TypeId} {x y l c:Nat} {a:Addr} (aP:P.underlying t=some (.slice e)) :(Op.equalIn (d+1) t (.slice (some a) l c) (.slice none x y)).run P w=.ok false w:=by
 simp[Op.equalIn,cF aP]
theorem J3 {d:Nat} {xs bh:List ad} {sq sr:Array Value}
  (aO:∀ (t:TypeId) (x y:ad) (b:Bool) (bL gn:Value),eW P d t x y=some b->aS w R h μ x bL->aS w R h μ y gn->(Op.equalIn d t bL gn).run P w=.ok b w)
  (tc:l5 w R h μ xs sq) (td:l5 w R h μ bh sr) :∀ (l:List Field) (b:Bool),eW.eqFields P (eW P d) xs bh l=some b->(Op.eqFields d sq sr l).run P w=.ok b w
 | [],b,ag=>by simp only[eW.eqFields,Option.some.injEq] at ag; subst ag; simp[Op.eqFields]
 | f::l,b,ag=>by
  unfold eW.eqFields at ag;unfold Op.eqFields;by_cases aD:f.name= "_"
  ·rw[if_pos aD] at ag;simp[aD,J3 aO tc td l b ag]
  ·rw[if_neg aD] at ag;split at ag
   ·rename_i a c az ah;obtain⟨iJ,h1,ae⟩:=xf (P:=P) az tc;obtain⟨eN,al,aE⟩:=xf (P:=P) ah td;split at ag
    ·rename_i heq;have:=aO f.type a c true iJ eN heq ae aE;simp[aD,h1,al,this,J3 aO tc td l b ag]
    ·rename_i heq;have:=aO f.type a c false iJ eN heq ae aE;simp only[Option.some.injEq] at ag; subst ag;simp[aD,h1,al,this]
    ·cases ag
   ·cases ag
theorem Qu {d z:Nat} {e:TypeId} {xs bh:List ad} {sq sr:Array Value}
  (aO:∀ (t:TypeId) (x y:ad) (b:Bool) (bL gn:Value),eW P d t x y=some b->aS w R h μ x bL->aS w R h μ y gn->(Op.equalIn d t bL gn).run P w=.ok b w)
  (tc:l5 w R h μ xs sq) (td:l5 w R h μ bh sr) (f:Nat->Option Bool × Unit->Sem (ForInStep (Option Bool × Unit)))
  (aD:∀ (i:Nat) (iJ eN:Value) (b:Bool) (r:Option Bool × Unit),(part e sq (i*z)).run P w=.ok iJ w->(part e sr (i*z)).run P w=.ok eN w->(Op.equalIn d e iJ eN).run P w=.ok b w->
   (f i r).run P w=.ok (if b then .yield (none,()) else .done (some false,())) w) :
  ∀ (n i:Nat) (b:Bool),eW.sO P (eW P d) e z xs bh n i=some b->(forIn (List.range' i n) (none,()) f).run P w=.ok (if b then (none,()) else (some false,())) w
 | 0,i,b,ag=>by
  simp only[eW.sO,Option.some.injEq] at ag; subst ag;simp
 | n+1,i,b,ag=>by
  unfold eW.sO at ag;split at ag
  ·rename_i a c az ah;obtain⟨iJ,h1,ae⟩:=xf (P:=P) az tc;obtain⟨eN,al,aE⟩:=xf (P:=P) ah td;rw[List.range'_succ,List.forIn_cons];split at ag
   ·rename_i heq;have bd:=aO e a c true iJ eN heq ae aE;have aH:=aD i iJ eN true (none,()) (h1 w) (al w) bd;simp only[Sem.run_bind,aH,if_true,Result.andThen_ok];exact Qu aO tc td f aD n (i+1) b ag
   ·rename_i heq;have bd:=aO e a c false iJ eN heq ae aE;have aH:=aD i iJ eN false (none,()) (h1 w) (al w) bd;simp only[Option.some.injEq] at ag; subst ag;simp[aH]
   ·cases ag
  ·cases ag
theorem run_equalIn_array {d n z:Nat} {t e:TypeId} {sq sr:Array Value} (aP:P.underlying t=some (.array n e)) (av:cG P e=some z) {b:Bool}
  (hk:∀ f:Nat->Option Bool × Unit->Sem (ForInStep (Option Bool × Unit)),
   (∀ (i:Nat) (iJ eN:Value) (b:Bool) (r:Option Bool × Unit),(part e sq (i*z)).run P w=.ok iJ w->(part e sr (i*z)).run P w=.ok eN w->(Op.equalIn d e iJ eN).run P w=.ok b w->(f i r).run P w=.ok (if b then .yield (none,()) else .done (some false,())) w)->
   (forIn (List.range' 0 n) (none,()) f).run P w=.ok (if b then (none,()) else (some false,())) w) :
  (Op.equalIn (d+1) t (.agg sq) (.agg sr)).run P w=.ok b w:=by
 simp only[Op.equalIn,Sem.run_bind,cF aP,Result.andThen_ok,fT av];rw[Std.Legacy.Range.forIn_eq_forIn_range'];have aA:List.range' ([:n] :Std.Legacy.Range).start ([:n] :Std.Legacy.Range).size ([:n] :Std.Legacy.Range).step=List.range' 0 n:=by simp[Std.Legacy.Range.size]
 rw[aA,hk]
 ·cases b<;>simp
 ·intro i iJ eN b r h1 ae al;cases b<;>simp[h1,ae,al]
theorem J4:∀ (d:Nat) (t:TypeId) (x y:ad) (b:Bool) (bL gn:Value),eW P d t x y=some b->aS w R h μ x bL->aS w R h μ y gn->
  (Op.equalIn d t bL gn).run P w=.ok b w:=by
 intro d
 induction d with
 | zero=>intro t x y b bL gn ao; simp[eW] at ao
 | succ d aO=>
  intro t x y b bL gn ao ai ay;unfold eW at ao;split at ao
  ·rename_i a bw aP;simp only[Option.some.injEq] at ao; subst ao;cases ai; cases ay;exact aaw aP
  ·rename_i g7 k a k' bw aP;split at ao
   ·rename_i hk; subst hk;simp only[Option.some.injEq] at ao; subst ao;cases ai; cases ay;exact aax aP
   ·cases ao
  ·rename_i a bw aP;simp only[Option.some.injEq] at ao; subst ao;cases ai; cases ay;exact aay aP
  ·rename_i fs xs bh aP;split at ao
   ·cases ao
   ·rename_i b1;obtain⟨sq,rfl,tc⟩:=vF ai;obtain⟨sr,rfl,td⟩:=vF ay;have rZ:P.stoodInHeld t=false:=by simpa using b1
    have km:P.fieldsOf t=fs:=by simp[Program.fieldsOf,aP]
    rw[run_equalIn_struct w d t sq sr (by rw[km]; exact aP) rZ,km];exact J3 aO tc td _ _ ao
  ·rename_i n e xs bh aP;cases av:cG P e with
   | none=>rw[av] at ao; cases ao
   | some z=>
    rw[av] at ao;simp only at ao;obtain⟨sq,rfl,tc⟩:=vF ai;obtain⟨sr,rfl,td⟩:=vF ay;exact run_equalIn_array aP av (fun f aD=>Qu aO tc td f aD n 0 b ao)
  ·rename_i e aP;simp only[Option.some.injEq] at ao; subst ao;cases ai; cases ay;exact J5 aP
  ·rename_i e z bw off len cap sz aP;simp only[Option.some.injEq] at ao; subst ao;cases ai; cases ay<;>exact J5 aP
  ·rename_i e z es aP;simp only[Option.some.injEq] at ao; subst ao;cases ai; cases ay<;>exact J5 aP
  ·rename_i e z bw off len cap sz aP;simp only[Option.some.injEq] at ao; subst ao;cases ay; cases ai<;>exact Qx aP
  ·rename_i e z es aP;simp only[Option.some.injEq] at ao; subst ao;cases ay; cases ai<;>exact Qx aP
  ·cases ao
end

end Go.cf

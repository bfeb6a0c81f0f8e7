/-
  The canonical machine, part E: slices: what they hold, append, slicing, copy, make, len.
-/
import Derived.Test.YtidejmkknleijaaGreatDoorBa
import Derived.Lib.IndexBytes
import Derived.Laws.BytesString
import Derived.Lib.ConvBytes
set_option linter.unusedVariables false
set_option linter.unusedSimpArgs false
set_option linter.unnecessarySimpa false
namespace Go.b0
open Go
section
variable {P:Program} {w:World} {R:Nat->Prop} {B:Nat} {h:aN} {μ:ck}
theorem o6 {α:Type} {z:Nat}:∀ {es:List (List α)},(∀ e,e∈es->e.length=z)->es.flatten.length=es.length*z
 | [],_=>by simp
 | e::es,ax=>by
  rw[au9,auu,ax e (by simp),o6 (fun e am=>ax e (by simp[am])),auF,au2,aw9]
theorem SG {α:Type} {z:Nat}:∀ {es:List (List α)} {j:Nat} {c:α},(∀ e,e∈es->e.length=z)->es.flatten[j]? = some c->
  ∃ i k e,j=i*z+k/\k<z/\es[i]? = some e/\e[k]? = some c
 | [],_,_,_,ai=>by simp at ai
 | e::es,j,c,ax,ai=>by
  have am:=ax e (by simp);rw[au9] at ai;by_cases aL:j<e.length
  ·rw[aum aL] at ai;exact⟨0,j,e,by simp,by omega,rfl,ai⟩
  ·rw[auJ (by omega)] at ai;obtain⟨i,k,fF,ad,ae,aj,aG⟩:=SG (fun e am=>ax e (by simp[am])) ai;exact⟨i+1,k,fF,by rw[au2]; omega,ae,by simpa using aj,aG⟩
def tK (w:World) (R:Nat->Prop) (h:aN) (μ:ck) (xs:List U) (vs:List Value) :Prop:=
 vs.length=xs.length/\∀ (j:Nat) (c:U),xs[j]? = some c->∃ v:Value,vs[j]? = some v/\v.oneCell'=true/\aO w R h μ c v
theorem N1 {w2:World} {xs:List U} {blk o:Nat} (m0:∀ a,w2.cell? a=w.cell? a)
  (af:∀ (j:Nat) (c:U),xs[j]? = some c->∃ v:Value,w.cell? ⟨blk,o+j,none⟩=some v/\v.oneCell'=true/\aO w R h μ c v) :
  ∃ vs:List Value,tK w R h μ xs vs/\∀ k,k<=xs.length->∀ w2:World,(∀ a,w2.cell? a=w.cell? a)->(loadCells ⟨blk,o,none⟩ k).run P w2=.ok (vs.take k).toArray w2:=by
 have ap:∃ f:Nat->Value,∀ (j:Nat) (c:U),xs[j]? = some c->w.cell? ⟨blk,o+j,none⟩=some (f j)/\(f j).oneCell'=true/\aO w R h μ c (f j) :=by
  refine⟨fun j=>(w.cell? ⟨blk,o+j,none⟩).getD undef,fun j c ai=>?_⟩;obtain⟨v,ad,ae,aj⟩:=af j c ai;simp only[ad,au6];exact⟨trivial,ae,aj⟩
 obtain⟨f,aE⟩:=ap;refine⟨(List.range xs.length).map f,⟨by simp,fun j c ai=>?_⟩,fun k ar w2 ml=>?_⟩
 ·have aL:j<xs.length:=(auk.1 ai).1;exact⟨f j,by simp[aL],(aE j c ai).2⟩
 ·have:=run_loadCells_list (P:=P) w2 ⟨blk,o,none⟩ (((List.range xs.length).map f).take k) (fun j v ai=>by
   have gR:j<k:=by
    rcases avy j k with ad | ad
    ·exact ad
    ·rw[auC (by simp; omega)] at ai; cases ai
   rw[auI gR,auq] at ai;have j4:j<xs.length:=by omega
   rw[auX j4] at ai;simp only[auv,Option.some.injEq] at ai;rw[Addr.mN,<-ai,ml];exact (aE j _ (auo j4)).1)
  have al:(((List.range xs.length).map f).take k).length=k:=by simp; omega
  rw[al] at this;exact this
theorem vT (rel:bN R B w h μ) {z n:Nat} {x:U} {bE:Value} {xs:List U} (ah:contents h z x=some (xs,n)) (af:aO w R h μ x bE) :
  xs.length=n*z/\(Builtin.lenOf bE).run P w=.ok n w/\∃ vs:List Value,tK w R h μ xs vs ∧
   ∀ k,k<=n->∀ w2:World,(∀ a,w2.cell? a=w.cell? a)->(Builtin.firstCells z k bE).run P w2=.ok (vs.take (k*z)).toArray w2:=by
 cases af with
 | aH=>
  simp only[contents,Option.some.injEq,Prod.mk.injEq] at ah;obtain⟨rfl,rfl⟩:=ah;exact⟨by simp,by simp[Builtin.lenOf],[],⟨rfl,fun j c ai=>by simp at ai⟩,fun k _ w2 _=>by simp[Builtin.firstCells]⟩
 | str bs=>
  simp only[contents] at ah;split at ah
  ·rename_i ax; subst ax;simp only[Option.some.injEq,Prod.mk.injEq] at ah;obtain⟨rfl,rfl⟩:=ah;refine⟨by simp,by simp[Builtin.lenOf],bs.data.toList.map fun b=>.int .u8 b.toNat,⟨by simp,fun j c ai=>?_⟩,fun k ar w2 _=>?_⟩
   ·rw[auq] at ai ⊢;cases ag:bs.data.toList[j]? with
    | none=>rw[ag] at ai; cases ai
    | some b=>
     rw[ag] at ai;simp only[auv,Option.some.injEq] at ai;subst ai;exact⟨_,rfl,rfl,.int _ _⟩
   ·have af:(bs.extract 0 k).data.toList=bs.data.toList.take k:=by
     simp[ByteArray.extract,ByteArray.copySlice]
    have aJ:(bs.extract 0 k).data=(bs.data.toList.take k).toArray:=by rw[<-af]
    simp only[Builtin.firstCells,aJ];simp
  ·cases ah
 | aZ dF es blk off cap eR al ax m0 ap=>
  simp only[contents] at ah;split at ah
  ·rename_i uI; subst uI;simp only[Option.some.injEq,Prod.mk.injEq] at ah;obtain⟨rfl,rfl⟩:=ah;have bC:=o6 ax;have cA:∀ (j:Nat) (c:U),es.flatten[j]? = some c->∃ v:Value,w.cell? ⟨blk,off+j,none⟩=some v/\v.oneCell'=true/\aO w R h μ c v:=by
    intro j c ai;obtain⟨i,k,e,rfl,ar,am,aeP⟩:=SG ax ai;have ay:i<es.length:=(auk.1 am).1;have de:=m0 i k ay ar;exact⟨eR i k,de.here,de.one,ap i e am k c aeP⟩
   obtain⟨vs,ad,ae⟩:=N1 (P:=P) (w2:=w) (fun _=>rfl) cA;refine⟨bC,by simp[Builtin.lenOf],vs,ad,fun k ar w2 ml=>?_⟩;have:=ae (k*z) (by rw[bC]; exact aup _ ar) w2 ml;simp[Builtin.firstCells,this]
  ·cases ah
 | gk dF a cap=>
  simp only[contents] at ah;split at ah
  ·simp only[Option.some.injEq,Prod.mk.injEq] at ah;obtain⟨rfl,rfl⟩:=ah;exact⟨by simp,by simp[Builtin.lenOf],[],⟨rfl,fun j c ai=>by simp at ai⟩,fun k ar w2 _=>by
    obtain rfl:k=0:=by simpa using ar
    simp[Builtin.firstCells,loadCells,loadCellsFrom]⟩
  ·cases ah
 | aq dF b off len cap sz cap' cs m ag hm al au dg=>
  simp only[contents,ag,true_and] at ah;split at ah
  ·rename_i uI; subst uI;simp only[Option.some.injEq,Prod.mk.injEq] at ah;obtain⟨rfl,rfl⟩:=ah;have eA:=rel.blk b m hm;rw[ag] at eA;obtain⟨ad,ae,arr,t,fa,aj,aG,bh,bF⟩:=eA;have uy:len*z<=cap*z:=aup _ al;have bC:((cs.drop off).take (len*z)).length=len*z:=by
    rw[auA,avh]; omega
   have cA:∀ (j:Nat) (c:U),((cs.drop off).take (len*z))[j]? = some c->∃ v:Value,w.cell? ⟨m.r,(m.s+off)+j,none⟩=some v/\v.oneCell'=true/\aO w R h μ c v:=by
    intro j c ai;have aL:j<len*z:=by
     have:=(auk.1 ai).1;rw[bC] at this; exact this
    rw[auI aL,auY] at ai;obtain⟨v,a2,a9,bV⟩:=bF _ c ai;exact⟨v,by simp[World.cell?,aj,av1,a2],a9,bV⟩
   obtain⟨vs,bZ,cc⟩:=N1 (P:=P) (w2:=w) (fun _=>rfl) cA;refine⟨bC,by simp[Builtin.lenOf],vs,bZ,fun k ar w2 ml=>?_⟩;have:=cc (k*z) (by rw[bC]; exact aup _ ar) w2 ml;simp[Builtin.firstCells,this]
  ·cases ah
 | iV dF b off sz a cs m ag hm=>
  simp only[contents,ag,true_and] at ah;split at ah
  ·rename_i uI; subst uI;simp only[Option.some.injEq,Prod.mk.injEq,av7,avG] at ah;obtain⟨rfl,rfl⟩:=ah;exact⟨by simp,by simp[Builtin.lenOf],[],⟨rfl,fun j c ai=>by simp at ai⟩,fun k ar w2 _=>by
    obtain rfl:k=0:=by simpa using ar
    simp[Builtin.firstCells,loadCells,loadCellsFrom]⟩
  ·cases ah
 | hI dF b off len cap sz cap' a al TJ aw=>
  unfold contents at ah;rcases aw with aw | ⟨hH,cs',aw,aL⟩
  ·simp[aw] at ah
  ·simp only[aw] at ah;split at ah
   ·omega
   ·cases ah
 | _=>simp[contents] at ah
theorem Cy {t e:TypeId} (am:i3 P t=some e) :P.underlying t=some (.slice e) :=by
 unfold i3 at am;split at am
 ·rename_i fF aM; cases am; exact aM
 ·cases am
def Bg (P:Program) (u:TypeId) :Prop:=∃ d,P.underlying u=some d/\∀ k,d≠.int k
theorem Vk (d:TypeDesc) (ar:∀ k,d≠.int k) :(match d with | .int _=>true | _=>false)=false:=by
 cases d with
 | int k=>exact absurd rfl (ar k)
 | _=>rfl
theorem run_append_fits {t u ty e:TypeId} {z n sLen hh:Nat} {base:Option Addr} {bE:Value} {vs:List Value} {w' : World} (am:P.underlying t=some (.slice e)) (ax:cz P e=some z) (aM:Bg P u)
  (al:(Builtin.lenOf bE).run P w=.ok n w) (aE:(Builtin.firstCells z n bE).run P w=.ok vs.toArray w) (eC:sLen+n<=hh)
  (b5:match base with | some a=>(storeCells (a.add (sLen*z)) vs).run P w=.ok () w' | none=>w'=w) :
  (Builtin.append_ #[t,u] ty #[.slice base sLen hh,bE]).run P w=.ok (.slice base (sLen+n) hh) w':=by
 obtain⟨d,bf,ar⟩:=aM;have GX:=Vk d ar;cases base with
 | none=>
  subst b5;simp[Builtin.append_,cx am,fK ax,cx bf,GX,al,eC,aE]
 | some a=>
  simp only at b5;simp[Builtin.append_,cx am,fK ax,cx bf,GX,al,eC,aE,b5]
theorem alC {t u ty e:TypeId} {i:TypeInfo} {zv:Value} {n sLen hh:Nat} {base:Option Addr} {bE:Value} {fS vs:List Value} (am:P.underlying t=some (.slice e)) (ay:P.info? e=some i) (l2:i.zero=some zv) (aM:Bg P u)
  (al:(Builtin.lenOf bE).run P w=.ok n w) (aE:(Builtin.firstCells i.size n bE).run P w.drew=.ok vs.toArray w.drew) (au:(Builtin.firstCells i.size sLen (.slice base sLen hh)).run P w.drew=.ok fS.toArray w.drew)
  (qe:hh<sLen+n) (dL:(sLen+n)*i.bytes<=cw) (ag:0<i.bytes) :
  (Builtin.append_ #[t,u] ty #[.slice base sLen hh,bE]).run P w =
   .ok (.slice (some ⟨w.heap.size,0,none⟩) (sLen+n) (grownCap w (sLen+n) hh e)) (w.drew.alloc (.cells ((fS++vs).toArray++Builtin.zeroCells zv.cells (grownCap w (sLen+n) hh e - (sLen+n))) e)) :=by
 obtain⟨d,bf,ar⟩:=aM;have GX:=Vk d ar;have ax:cz P e=some i.size:=by simp[cz,ay]
 have aD:¬ (sLen+n<=hh) :=by omega
 have v2:¬ (281474976710656<Builtin.nextslicecap (sLen+n) hh*i.bytes) :=by
  have:=growslice_fits qe dL;omega
 have mj:¬ (i.bytes=0) :=by omega
 simp[Builtin.append_,cx am,fK ax,cx bf,GX,al,aD,typeInfo,ay,v2,mj,Question.forced,au,aE,zeroValue,l2,newRow,grownCap];rw[<-awy,List.append_toArray fS vs]
theorem df.drew {h' : aN} {μ' : ck} {w' : World} (e:df w h μ w' h' μ') :df w h μ w' h' μ':=e
theorem al6 {s:U} {ni:Value} (ak:aO w R h μ s ni) (ar:s=.aH\/(∃ z es,s=.aZ z es)\/∃ z b off len cap sz,s=.aq z b off len cap sz) :
  ∃ base sLen hh,ni=.slice base sLen hh/\sLen<=hh:=by
 cases ak<;>simp at ar
 ·exact⟨_,_,_,rfl,aun _⟩
 ·rename_i al au de;exact⟨_,_,_,rfl,by omega⟩
 ·rename_i al TJ aw;exact⟨_,_,_,rfl,by omega⟩
 ·exact⟨_,_,_,rfl,aun _⟩
 ·rename_i al ax ah ap;exact⟨_,_,_,rfl,by omega⟩
 ·exact⟨_,_,_,rfl,avu _⟩
theorem ZJ {e:TypeId} {z:Nat} (ax:tx P e=some z) :∃ i v,P.info? e=some i/\i.zero=some v/\v.cells.size=z:=by
 unfold tx at ax;cases ay:P.info? e with
 | none=>rw[ay] at ax; cases ax
 | some i=>
  rw[ay] at ax;simp only[av8] at ax;cases ap:i.zero with
  | none=>rw[ap] at ax; cases ax
  | some v=>rw[ap] at ax; exact⟨i,v,rfl,ap,by simpa using ax⟩
theorem CX {e:TypeId} {zv:Value} {z need cap:Nat} {xs:List U} {vs:List Value} (ax:zv.cells.size=z) (al:xs.length=need*z) (jm:tK w R h μ xs vs) (dg:need<=cap) :
  (vs.toArray++Builtin.zeroCells zv.cells (cap - need)).size=cap*z ∧
  ∀ (j:Nat) (c:U),xs[j]? = some c->∃ v:Value,(vs.toArray++Builtin.zeroCells zv.cells (cap - need))[j]? = some v/\v.oneCell'=true/\aO w R h μ c v:=by
 refine⟨?_,fun j c ai=>?_⟩
 ·have ad:(Builtin.zeroCells zv.cells (cap - need)).size=(cap - need)*z:=by simp[Builtin.zeroCells,ax]
  have ae:need*z+(cap - need)*z=cap*z:=by rw[<-au8]; congr 1; omega
  rw[aw5,ad,aw6,jm.1,al,ae]
 ·obtain⟨v,ad,ae,aj⟩:=jm.2 j c ai;have aL:j<vs.length:=(auk.1 ad).1;refine⟨v,?_,ae,aj⟩;rw[avw (by simpa using aL)];simpa using ad
theorem PB (rel:bN R B w h μ) {t u ty e:TypeId} {z by_ n:Nat} {s c:U} {ni bE:Value} {h' : aN} {xs:List U} {vs:List Value} (ax:cz P e=some z) (dQ:kL P e=some by_)
  (aC:vy P h e z by_ s xs n=some (c,h')) (ak:aO w R h μ s ni) (bd:xs.length=n*z) (cA:tK w R h μ xs vs)
  (G3:∀ (base:Option Addr) (sLen hh:Nat) (w' : World),sLen+n<=hh->(match base with | some a=>(storeCells (a.add (sLen*z)) vs).run P w=.ok () w' | none=>w'=w)->
   (Builtin.append_ #[t,u] ty #[.slice base sLen hh,bE]).run P w=.ok (.slice base (sLen+n) hh) w')
  (Dt:∀ (i:TypeInfo) (zv:Value),P.info? e=some i->i.zero=some zv->∀ (base:Option Addr) (sLen hh:Nat) (fS:List Value),(Builtin.firstCells i.size sLen (.slice base sLen hh)).run P w.drew=.ok fS.toArray w.drew->
   hh<sLen+n->(sLen+n)*i.bytes<=cw->0<i.bytes->(Builtin.append_ #[t,u] ty #[.slice base sLen hh,bE]).run P w =
   .ok (.slice (some ⟨w.heap.size,0,none⟩) (sLen+n) (grownCap w (sLen+n) hh e)) (w.drew.alloc (.cells ((fS++vs).toArray++Builtin.zeroCells zv.cells (grownCap w (sLen+n) hh e - (sLen+n))) e))) :
  ∃ v w' μ',(Builtin.append_ #[t,u] ty #[ni,bE]).run P w=.ok v w'/\df w h μ w' h' μ'/\bN R B w' h' μ'/\aO w' R h' μ' c v:=by
 unfold vy at aC;by_cases aD:n=0
 ·-- nothing is appended
  subst aD;simp only[if_true] at aC;have cW:(c,h')=(s,h) :=by
   split at aC<;>first | (simp only[Option.some.injEq] at aC; exact aC.symm) | cases aC
  have ar:s=.aH\/(∃ z es,s=.aZ z es)\/∃ z b off len cap sz,s=.aq z b off len cap sz:=by
   split at aC
   ·exact .inl rfl
   ·exact .inr (.inl ⟨_,_,rfl⟩)
   ·exact .inr (.inr ⟨_,_,_,_,_,_,rfl⟩)
   ·cases aC
  simp only[Prod.mk.injEq] at cW;obtain⟨rfl,rfl⟩:=cW;obtain⟨base,sLen,hh,rfl,dO⟩:=al6 ak ar;have ia:vs=[] :=by
   have:vs.length=0:=by rw[cA.1,bd]; simp
   exact au4.1 this
  subst ia;have:=G3 base sLen hh w (by omega) (by cases base<;>simp[storeCells]);exact⟨_,w,μ,this,.refl _ _ _,rel,by simpa using ak⟩
 ·rw[if_neg aD] at aC;split at aC
  ·cases aC
  ·rename_i j2;simp only[not_or,Decidable.not_not] at j2;obtain⟨sV,ow,io⟩:=j2;obtain⟨i,zv,ay,l2,j8⟩:=ZJ io;have rE:i.size=z:=by simpa [cz,ay] using ax
   have mj:i.bytes=by_:=by simpa [kL,ay] using dQ
   have ag5:0<z:=Nat.pos_of_ne_zero sV;have K9:∀ a,w.drew.cell? a=w.cell? a:=fun _=>rfl
   split at aC
   ·-- append to nil
    split at aC
    ·rename_i dL;simp only[Option.some.injEq,Prod.mk.injEq] at aC;obtain⟨rfl,rfl⟩:=aC;cases ak;have aw:=Dt i zv ay l2 none 0 0 [] (by simp[Builtin.firstCells]) (by omega) (by rw[mj]; simpa using dL) (by omega);have dg:n<=grownCap w (0+n) 0 e:=by have:=grownCap_ge w (0+n) 0 e; omega
     obtain⟨kx,nM⟩:=CX (e:=e) (zv:=zv) (need:=n) (cap:=grownCap w (0+n) 0 e) j8 (by rw[bd]) cA dg;have av:=rel.push (w':=w.drew.alloc (.cells (vs.toArray++Builtin.zeroCells zv.cells (grownCap w (0+n) 0 e - n)) e)) xs _ e rfl rfl rfl rfl (by rw[kx,bd]; exact aup _ dg) nM;rw[bd] at av;refine⟨_,_,_,by simpa using aw,by simpa using av.1,by simpa using av.2,?_⟩;have:=aO.aq (w:=w.drew.alloc (.cells (vs.toArray++Builtin.zeroCells zv.cells (grownCap w (0+n) 0 e - n)) e)) (R:=R) (h:=h.push (.cells (n*z) xs)) (μ:=bB μ h.n (some ⟨w.heap.size,0,(vs.toArray++Builtin.zeroCells zv.cells (grownCap w (0+n) 0 e - n)).size⟩))
      z h.n 0 n n (n*z) (grownCap w (0+n) 0 e) xs ⟨w.heap.size,0,(vs.toArray++Builtin.zeroCells zv.cells (grownCap w (0+n) 0 e - n)).size⟩ (by simp[er,fx]) (by simp) (aun _) (by omega) (.inr ⟨by omega,dg,by simp only; rw[kx]; omega⟩)
     simpa using this
    ·cases aC
   ·rename_i dF b off len cap sz;cases ag:h.f b with
    | cells m cs=>
     rw[ag] at aC;simp only at aC;split at aC
     ·rename_i Dk;obtain⟨rfl,rfl,dL⟩:=Dk;cases ak with
      | hI _ _ _ _ _ _ cap' a al TJ aw=>
       exfalso;rcases aw with aw | ⟨hH,cs',aw,aL⟩
       ·rw[aw] at ag; cases ag
       ·rw[aw] at ag; cases ag; omega
      | iV _ _ _ _ a cs' cf bO hm=>
       rw[ag] at bO; cases bO;have pe:=rel.nu hm;rw[if_neg (by omega),av7,avG,avG,avp,avz] at aC;have aw:=Dt i zv ay l2 (some a) 0 0 [] (by simp[Builtin.firstCells,loadCells,loadCellsFrom]) (by omega) (by rw[mj]; exact dL) (by omega);rw[avz] at aw;have dg:n<=grownCap w n 0 e:=grownCap_ge _ _ _ _;obtain⟨kx,nM⟩:=CX (e:=e) (zv:=zv) (need:=n) (cap:=grownCap w n 0 e) j8 (by rw[bd]) cA dg;split at aC
       ·simp only[Option.some.injEq,Prod.mk.injEq] at aC;obtain⟨rfl,rfl⟩:=aC;have av:=rel.push (w':=w.drew.alloc (.cells (vs.toArray++Builtin.zeroCells zv.cells (grownCap w n 0 e - n)) e)) xs _ e rfl rfl rfl rfl (by rw[kx,bd]; exact aup _ dg) nM;rw[bd] at av;refine⟨_,_,_,by simpa using aw,by simpa using av.1,by simpa using av.2,?_⟩;have:=aO.aq (w:=w.drew.alloc (.cells (vs.toArray++Builtin.zeroCells zv.cells (grownCap w n 0 e - n)) e)) (R:=R) (h:=h.push (.cells (n*z) xs)) (μ:=bB μ h.n (some ⟨w.heap.size,0,(vs.toArray++Builtin.zeroCells zv.cells (grownCap w n 0 e - n)).size⟩))
         z h.n 0 n n (n*z) (grownCap w n 0 e) xs ⟨w.heap.size,0,(vs.toArray++Builtin.zeroCells zv.cells (grownCap w n 0 e - n)).size⟩ (by simp[er,fx]) (by simp) (aun _) (by omega) (.inr ⟨by omega,dg,by simp only; rw[kx]; omega⟩)
        simpa using this
       ·rename_i Dq;split at aC
        ·rename_i Hq;subst Hq;simp only[Option.some.injEq,Prod.mk.injEq] at aC;obtain⟨rfl,rfl⟩:=aC;have sE:m<n*z:=by
          have:1*1<=n*z:=Nat.mul_le_mul (by omega) ag5;omega
         have av:=rel.move (w':=w.drew.alloc (.cells (vs.toArray++Builtin.zeroCells zv.cells (grownCap w n 0 e - n)) e)) ag hm rfl rfl rfl rfl bd sE (by rw[kx]; exact aup _ dg) nM;refine⟨_,_,_,by simpa using aw,by simpa using av.1,by simpa using av.2,?_⟩;have:=aO.aq (w:=w.drew.alloc (.cells (vs.toArray++Builtin.zeroCells zv.cells (grownCap w n 0 e - n)) e)) (R:=R) (h:=h.set b (.cells (n*z) xs)) (μ:=bB μ b (some ⟨w.heap.size,0,(vs.toArray++Builtin.zeroCells zv.cells (grownCap w n 0 e - n)).size⟩))
          z b 0 n n (n*z) (grownCap w n 0 e) xs ⟨w.heap.size,0,(vs.toArray++Builtin.zeroCells zv.cells (grownCap w n 0 e - n)).size⟩ (by simp[dZ,e7]) (by simp) (aun _) (by omega) (.inr ⟨by omega,dg,by simp only; rw[kx]; omega⟩)
         simpa using this
        ·simp only[Option.some.injEq,Prod.mk.injEq] at aC;obtain⟨rfl,rfl⟩:=aC;have av:=rel.push (w':=w.drew.alloc (.cells (vs.toArray++Builtin.zeroCells zv.cells (grownCap w n 0 e - n)) e)) xs _ e rfl rfl rfl rfl (by rw[kx,bd]; exact aup _ dg) nM;rw[bd] at av;have ar:=av.2.kill (b:=b) (sz:=m) (cs:=cs) (h':=(h.set b .dead).push (.cells (n*z) xs)) (by rw[er,b2 _ _ _ _ (by omega)]; exact ag) (by rw[fx]; omega) (by
          rw[er,er,dZ,e7];funext x;simp only[bB];by_cases ad:x=h.n
          ·rw[if_pos ad,if_neg (by omega),if_pos ad]
          ·rw[if_neg ad];split<;>rfl) rfl
         refine⟨_,_,_,by simpa using aw,by simpa using av.1.trans ar.1,by simpa using ar.2,?_⟩;have:=aO.aq (w:=w.drew.alloc (.cells (vs.toArray++Builtin.zeroCells zv.cells (grownCap w n 0 e - n)) e)) (R:=R) (h:=(h.set b .dead).push (.cells (n*z) xs)) (μ:=bB μ h.n (some ⟨w.heap.size,0,(vs.toArray++Builtin.zeroCells zv.cells (grownCap w n 0 e - n)).size⟩))
          z h.n 0 n n (n*z) (grownCap w n 0 e) xs ⟨w.heap.size,0,(vs.toArray++Builtin.zeroCells zv.cells (grownCap w n 0 e - n)).size⟩ (by rw[er,e7,hP]) (by simp) (aun _) (by omega) (.inr ⟨by omega,dg,by simp only; rw[kx]; omega⟩)
         simpa using this
      | aq _ _ _ _ _ _ cap' cs' cf bO hm al au de=>
       have eA:=rel.blk b cf hm;rw[ag] at eA;obtain⟨TK,dI,_⟩:=eA;rw[ag] at bO; cases bO;have uy:len*z<=cap*z:=aup _ al;have TH:cap<=cap':=by rcases de with de | de<;>omega
       split at aC
       ·-- in place,within what the machine knows
        rename_i eC;simp only[Option.some.injEq,Prod.mk.injEq] at aC;obtain⟨rfl,rfl⟩:=aC;have Ut:len*z+n*z<=cap*z:=by rw[<-au8]; exact aup _ eC
        have m5:max m (off+len*z+xs.length)=m:=by omega
        obtain⟨w',ad,ae,aj⟩:=zt (P:=P) rel (cvs:=xs) (vs:=vs) (k:=off+len*z) ag hm (by omega) cA.1 (by omega) cA.2;rw[m5] at ae aj;have b5:(storeCells ((⟨cf.r,cf.s+off,none⟩:Addr).add (len*z)) vs).run P w=.ok () w':=by rw[Addr.mN,av1]; exact ad
        refine⟨_,w',μ,G3 (some ⟨cf.r,cf.s+off,none⟩) _ _ _ (by omega) b5,ae,aj,?_⟩;exact .aq z b off (len+n) cap m cap' _ cf (by simp[dZ,e7]; rfl) hm eC au de
       ·rename_i aqE;split at aC
        ·-- beyond a slice whose end lies within the row: it moves
         rename_i aqk;simp only[Option.some.injEq,Prod.mk.injEq] at aC;obtain⟨rfl,rfl⟩:=aC;have eB:cap'=cap:=by rcases de with de | de<;>omega
         subst eB;have dJ:contents h z (.aq z b off len cap' m)=some ((cs.drop off).take (len*z),len) :=by simp[contents,ag]
         obtain⟨cS,_,fS,iB,DI⟩:=vT (P:=P) rel dJ (aO.aq z b off len cap' m cap' cs cf ag hm al au de);have yE:∀ w2:World,(∀ a,w2.cell? a=w.cell? a)->(Builtin.firstCells z len (.slice (some ⟨cf.r,cf.s+off,none⟩) len cap')).run P w2=.ok fS.toArray w2:=fun w2 mv=>by
          have:=DI len (aun _) w2 mv
          rwa [aul (by rw[iB.1,cS]; exact aun _)] at this
         have aw:=Dt i zv ay l2 (some ⟨cf.r,cf.s+off,none⟩) len cap' fS (by rw[rE]; exact yE w.drew K9) (by omega) (by rw[mj]; exact dL) (by omega);have dg:len+n<=grownCap w (len+n) cap' e:=grownCap_ge _ _ _ _;have Dh:tK w R h μ ((cs.drop off).take (len*z)++xs) (fS++vs) :=by
          refine⟨by simp[iB.1,cA.1],fun j c ai=>?_⟩;by_cases aL:j<((cs.drop off).take (len*z)).length
          ·rw[aum aL] at ai;rw[aum (by rw[iB.1]; exact aL)];exact iB.2 j c ai
          ·rw[auJ (by omega)] at ai;rw[auJ (by rw[iB.1]; omega),iB.1];exact cA.2 _ c ai
         have fP:((cs.drop off).take (len*z)++xs).length=(len+n)*z:=by rw[auu,cS,bd,au8]
         obtain⟨kx,nM⟩:=CX (e:=e) (zv:=zv) (need:=len+n) (cap:=grownCap w (len+n) cap' e) j8 fP Dh dg;have av:=rel.push (w':=w.drew.alloc (.cells ((fS++vs).toArray++Builtin.zeroCells zv.cells (grownCap w (len+n) cap' e - (len+n))) e)) _ _ e rfl rfl rfl rfl (by rw[kx,fP]; exact aup _ dg) nM;rw[fP] at av;refine⟨_,_,_,aw,av.1,av.2,?_⟩;have:=aO.aq (w:=w.drew.alloc (.cells ((fS++vs).toArray++Builtin.zeroCells zv.cells (grownCap w (len+n) cap' e - (len+n))) e)) (R:=R) (h:=h.push (.cells ((len+n)*z) ((cs.drop off).take (len*z)++xs))) (μ:=bB μ h.n (some ⟨w.heap.size,0,((fS++vs).toArray++Builtin.zeroCells zv.cells (grownCap w (len+n) cap' e - (len+n))).size⟩))
          z h.n 0 (len+n) (len+n) ((len+n)*z) (grownCap w (len+n) cap' e) _ ⟨w.heap.size,0,((fS++vs).toArray++Builtin.zeroCells zv.cells (grownCap w (len+n) cap' e - (len+n))).size⟩ (by simp[er,fx]; rfl) (by simp) (aun _) (by omega) (.inr ⟨by omega,dg,by simp only; rw[kx]; omega⟩)
         simpa using this
        ·rename_i Dq;split at aC
         ·-- beyond the row's end: in place,or it moves
          rename_i Hq;subst Hq;simp only[Option.some.injEq,Prod.mk.injEq] at aC;obtain⟨rfl,rfl⟩:=aC;obtain⟨La,mm,G0⟩:0+cap*z=m/\cap<=cap'/\cf.s+0+cap'*z<=cf.T:=by rcases de with de | de<;>omega
          have sE:m<(len+n)*z:=by
           have:(cap+1)*z<=(len+n)*z:=aup _ (by omega);rw[au8] at this;omega
          have agO:len*z+n*z=(len+n)*z:=by rw[au8]
          by_cases eC:len+n<=cap'
          ·have afQ:(len+n)*z<=cap'*z:=aup _ eC;have m5:max m (len*z+xs.length)=(len+n)*z:=by omega
           obtain⟨w',ad,ae,aj⟩:=zt (P:=P) rel (cvs:=xs) (vs:=vs) (k:=len*z) ag hm (by omega) cA.1 (by omega) cA.2;rw[m5] at ae aj;have yL:a8 cs (len*z) xs=cs.take (len*z)++xs:=by
            unfold a8;rw[au0 (by omega),auV]
           rw[yL] at ae aj;have b5:(storeCells ((⟨cf.r,cf.s+0,none⟩:Addr).add (len*z)) vs).run P w=.ok () w':=by rw[Addr.mN,av1]; simpa using ad
           refine⟨_,w',μ,G3 (some ⟨cf.r,cf.s+0,none⟩) _ _ _ eC b5,ae,aj,?_⟩;exact .aq z b 0 (len+n) (len+n) ((len+n)*z) cap' _ cf (by simp[dZ,e7]; rfl) hm (aun _) (by omega) (.inr ⟨by omega,eC,G0⟩)
          ·have dJ:contents h z (.aq z b 0 len cap m)=some ((cs.drop 0).take (len*z),len) :=by simp[contents,ag]
           obtain⟨cS,_,fS,iB,DI⟩:=vT (P:=P) rel dJ (aO.aq z b 0 len cap m cap' cs cf ag hm al au de);have yE:∀ w2:World,(∀ a,w2.cell? a=w.cell? a)->(Builtin.firstCells z len (.slice (some ⟨cf.r,cf.s+0,none⟩) len cap')).run P w2=.ok fS.toArray w2:=fun w2 mv=>by
            have:=DI len (aun _) w2 mv
            rwa [aul (by rw[iB.1,cS]; exact aun _)] at this
           rw[avx] at cS iB;have aw:=Dt i zv ay l2 (some ⟨cf.r,cf.s+0,none⟩) len cap' fS (by rw[rE]; exact yE w.drew K9) (by omega) (by rw[mj]; exact dL) (by omega);have dg:len+n<=grownCap w (len+n) cap' e:=grownCap_ge _ _ _ _;have Dh:tK w R h μ (cs.take (len*z)++xs) (fS++vs) :=by
            refine⟨by simp[iB.1,cA.1],fun j c ai=>?_⟩;by_cases aL:j<(cs.take (len*z)).length
            ·rw[aum aL] at ai;rw[aum (by rw[iB.1]; exact aL)];exact iB.2 j c ai
            ·rw[auJ (by omega)] at ai;rw[auJ (by rw[iB.1]; omega),iB.1];exact cA.2 _ c ai
           have fP:(cs.take (len*z)++xs).length=(len+n)*z:=by rw[auu,cS,bd,au8]
           obtain⟨kx,nM⟩:=CX (e:=e) (zv:=zv) (need:=len+n) (cap:=grownCap w (len+n) cap' e) j8 fP Dh dg;have av:=rel.move (w':=w.drew.alloc (.cells ((fS++vs).toArray++Builtin.zeroCells zv.cells (grownCap w (len+n) cap' e - (len+n))) e)) ag hm rfl rfl rfl rfl fP sE (by rw[kx]; exact aup _ dg) nM;refine⟨_,_,_,aw,av.1,av.2,?_⟩;have:=aO.aq (w:=w.drew.alloc (.cells ((fS++vs).toArray++Builtin.zeroCells zv.cells (grownCap w (len+n) cap' e - (len+n))) e)) (R:=R) (h:=h.set b (.cells ((len+n)*z) (cs.take (len*z)++xs))) (μ:=bB μ b (some ⟨w.heap.size,0,((fS++vs).toArray++Builtin.zeroCells zv.cells (grownCap w (len+n) cap' e - (len+n))).size⟩))
            z b 0 (len+n) (len+n) ((len+n)*z) (grownCap w (len+n) cap' e) _ ⟨w.heap.size,0,((fS++vs).toArray++Builtin.zeroCells zv.cells (grownCap w (len+n) cap' e - (len+n))).size⟩ (by simp[dZ,e7]; rfl) (by simp) (aun _) (by omega) (.inr ⟨by omega,dg,by simp only; rw[kx]; omega⟩)
           simpa using this
         ·-- beyond the row's end,from a place within it: a block of its own,in place or moved
          rename_i Hq;simp only[Option.some.injEq,Prod.mk.injEq] at aC;obtain⟨rfl,rfl⟩:=aC;obtain⟨La,mm,G0⟩:off+cap*z=m/\cap<=cap'/\cf.s+off+cap'*z<=cf.T:=by rcases de with de | de<;>omega
          have sE:m<off+(len+n)*z:=by
           have:(cap+1)*z<=(len+n)*z:=aup _ (by omega);rw[au8] at this;omega
          have agO:len*z+n*z=(len+n)*z:=by rw[au8]
          have pe:=rel.nu hm;by_cases eC:len+n<=cap'
          ·have afQ:(len+n)*z<=cap'*z:=aup _ eC;have m5:max m (off+len*z+xs.length)=off+(len+n)*z:=by omega
           obtain⟨w',ad,ae,aj⟩:=zt (P:=P) rel (cvs:=xs) (vs:=vs) (k:=off+len*z) ag hm (by omega) cA.1 (by omega) cA.2;rw[m5] at ae aj;have yL:(a8 cs (off+len*z) xs).drop off=(cs.drop off).take (len*z)++xs:=by
            unfold a8;rw[au0 (as:=cs) (by omega),auV,avl (by simp; omega),awp];congr 2; omega
           have b5:(storeCells ((⟨cf.r,cf.s+off,none⟩:Addr).add (len*z)) vs).run P w=.ok () w':=by rw[Addr.mN,av1]; exact ad
           have qm:=aj.XQ (b:=b) (off:=off) (m:=cf) (h':=(h.set b .dead).push (.cells ((len+n)*z) ((cs.drop off).take (len*z)++xs))) (by rw[dZ,hP]) hm (by omega) (by
            rw[er,dZ,dZ,e7,e7,yL];have:off+(len+n)*z - off=(len+n)*z:=by omega
            rw[this];funext x;simp only[bB];split
            ·rfl
            ·split<;>rfl) rfl
           refine⟨_,w',_,G3 (some ⟨cf.r,cf.s+off,none⟩) _ _ _ eC b5,ae.trans qm.1,qm.2,?_⟩;exact .aq z h.n 0 (len+n) (len+n) ((len+n)*z) cap' _ ⟨cf.r,cf.s+off,cf.T⟩ (by rw[er,e7,hP]) (by rw[e7]; simp) (aun _) (by omega) (.inr ⟨by omega,eC,by simpa using (by omega:cf.s+off+cap'*z<=cf.T)⟩)
          ·have dJ:contents h z (.aq z b off len cap m)=some ((cs.drop off).take (len*z),len) :=by simp[contents,ag]
           obtain⟨cS,_,fS,iB,DI⟩:=vT (P:=P) rel dJ (aO.aq z b off len cap m cap' cs cf ag hm al au de);have yE:∀ w2:World,(∀ a,w2.cell? a=w.cell? a)->(Builtin.firstCells z len (.slice (some ⟨cf.r,cf.s+off,none⟩) len cap')).run P w2=.ok fS.toArray w2:=fun w2 mv=>by
            have:=DI len (aun _) w2 mv
            rwa [aul (by rw[iB.1,cS]; exact aun _)] at this
           have aw:=Dt i zv ay l2 (some ⟨cf.r,cf.s+off,none⟩) len cap' fS (by rw[rE]; exact yE w.drew K9) (by omega) (by rw[mj]; exact dL) (by omega);have dg:len+n<=grownCap w (len+n) cap' e:=grownCap_ge _ _ _ _;have Dh:tK w R h μ ((cs.drop off).take (len*z)++xs) (fS++vs) :=by
            refine⟨by simp[iB.1,cA.1],fun j c ai=>?_⟩;by_cases aL:j<((cs.drop off).take (len*z)).length
            ·rw[aum aL] at ai;rw[aum (by rw[iB.1]; exact aL)];exact iB.2 j c ai
            ·rw[auJ (by omega)] at ai;rw[auJ (by rw[iB.1]; omega),iB.1];exact cA.2 _ c ai
           have fP:((cs.drop off).take (len*z)++xs).length=(len+n)*z:=by rw[auu,cS,bd,au8]
           obtain⟨kx,nM⟩:=CX (e:=e) (zv:=zv) (need:=len+n) (cap:=grownCap w (len+n) cap' e) j8 fP Dh dg;have av:=rel.push (w':=w.drew.alloc (.cells ((fS++vs).toArray++Builtin.zeroCells zv.cells (grownCap w (len+n) cap' e - (len+n))) e)) _ _ e rfl rfl rfl rfl (by rw[kx,fP]; exact aup _ dg) nM;rw[fP] at av;have ar:=av.2.kill (b:=b) (sz:=m) (cs:=cs) (h':=(h.set b .dead).push (.cells ((len+n)*z) ((cs.drop off).take (len*z)++xs))) (by rw[er,b2 _ _ _ _ (by omega)]; exact ag) (by rw[fx]; omega) (by
            rw[er,er,dZ,e7];funext x;simp only[bB];by_cases ad:x=h.n
            ·rw[if_pos ad,if_neg (by omega),if_pos ad]
            ·rw[if_neg ad];split<;>rfl) rfl
           refine⟨_,_,_,aw,av.1.trans ar.1,ar.2,?_⟩;have:=aO.aq (w:=w.drew.alloc (.cells ((fS++vs).toArray++Builtin.zeroCells zv.cells (grownCap w (len+n) cap' e - (len+n))) e)) (R:=R) (h:=(h.set b .dead).push (.cells ((len+n)*z) ((cs.drop off).take (len*z)++xs))) (μ:=bB μ h.n (some ⟨w.heap.size,0,((fS++vs).toArray++Builtin.zeroCells zv.cells (grownCap w (len+n) cap' e - (len+n))).size⟩))
            z h.n 0 (len+n) (len+n) ((len+n)*z) (grownCap w (len+n) cap' e) _ ⟨w.heap.size,0,((fS++vs).toArray++Builtin.zeroCells zv.cells (grownCap w (len+n) cap' e - (len+n))).size⟩ (by rw[er,e7,hP]) (by simp) (aun _) (by omega) (.inr ⟨by omega,dg,by simp only; rw[kx]; omega⟩)
           simpa using this
     ·cases aC
    | _=>rw[ag] at aC; cases aC
   ·cases aC
theorem JI (rel:bN R B w h μ) {t u ty:TypeId} {s x c:U} {ni bE:Value} {h' : aN} (aM:Bg P u) (aC:so P h t s x=some (c,h')) (ak:aO w R h μ s ni) (af:aO w R h μ x bE) :
  ∃ v w' μ',(Builtin.append_ #[t,u] ty #[ni,bE]).run P w=.ok v w'/\df w h μ w' h' μ'/\bN R B w' h' μ'/\aO w' R h' μ' c v:=by
 unfold so at aC;cases am:i3 P t with
 | none=>rw[am] at aC; cases aC
 | some e=>
 have kV:=Cy am;rw[am] at aC;simp only at aC;cases ax:cz P e with
 | none=>rw[ax] at aC; cases aC
 | some z=>
 cases dQ:kL P e with
 | none=>rw[ax,dQ] at aC; cases aC
 | some by_=>
 rw[ax,dQ] at aC;simp only at aC;cases ah:contents h z x with
 | none=>rw[ah] at aC; cases aC
 | some OV=>
 obtain⟨xs,n⟩:=OV;rw[ah] at aC;simp only at aC;obtain⟨bd,bC,vs,cA,aeV⟩:=vT (P:=P) rel ah af;have lT:∀ w2:World,(∀ a,w2.cell? a=w.cell? a)->(Builtin.firstCells z n bE).run P w2=.ok vs.toArray w2:=fun w2 mv=>by
  have:=aeV n (aun _) w2 mv
  rwa [aul (by rw[cA.1,bd]; exact aun _)] at this
 refine PB rel ax dQ aC ak bd cA (fun base sLen hh w' eC b5=>run_append_fits kV ax aM bC (lT w (fun _=>rfl)) eC b5) (fun i zv ay l2 base sLen hh fS au aw az ag=>?_);have rE:i.size=z:=by simpa [cz,ay] using ax
 exact alC kV ay l2 aM bC (by rw[rE]; exact lT w.drew (fun _=>rfl)) au aw az ag
end

section
variable {P:Program} {w:World} {R:Nat->Prop} {B:Nat} {h:aN} {μ:ck}
theorem zK {x:U} {bE:Value} {y n Fp:Nat} {code:BoundsCode} (ag:jd x y=some n) (af:aO w R h μ x bE) (aJ:y<=Fp) :
  n<=y/\(Instr.sliceBound bE Fp code).run P w=.ok n w:=by
 unfold jd at ag;cases af with
 | int k i=>
  simp only at ag;split at ag
  ·rename_i ay;simp only[Option.some.injEq] at ag;subst ag;refine⟨by omega,?_⟩;have:(0<=i/\i<=(Fp:Int)) :=⟨ay.1,by omega⟩
   simp[Instr.sliceBound,asIntOf,this]
  ·cases ag
 | _=>simp at ag
def xH (w:World) (R:Nat->Prop) (h:aN) (μ:ck) :Option U->Option Value->Prop
 | none,none=>True
 | some c,some v=>aO w R h μ c v
 | _,_=>False
theorem vC {cJ ay cK:Option U} {rS gQ wN:Option Value} {isS:Bool} {len cap cap' l m aS:Nat} (ag:gO len cap cJ ay cK=some (l,aS,m)) (bC:len<=cap) (dg:cap<=cap')
  (ad:xH w R h μ cJ rS) (ae:xH w R h μ ay gQ) (aj:xH w R h μ cK wN) :
  l<=aS/\aS<=m/\m<=cap/\(cK=none->m=cap)/\(Instr.sliceBounds isS len cap' rS gQ wN).run P w=.ok (l,aS,if cK.isSome then m else cap') w:=by
 unfold gO at ag;cases cK with
 | none=>
  cases wN with
  | some v=>exact aj.elim
  | none=>
   simp only at ag;cases ay with
   | none=>
    cases gQ with
    | some v=>exact ae.elim
    | none=>
     simp only at ag;cases cJ with
     | none=>
      cases rS with
      | some v=>exact ad.elim
      | none=>
       simp only[Option.some.injEq,Prod.mk.injEq] at ag;obtain⟨rfl,rfl,rfl⟩:=ag;exact⟨by omega,bC,aun _,fun _=>rfl,by simp[Instr.sliceBounds]⟩
     | some c=>
      cases rS with
      | none=>exact ad.elim
      | some v=>
       simp only at ag;cases al:jd c len with
       | none=>rw[al] at ag; cases ag
       | some l'=>
        rw[al] at ag;simp only[Option.some.injEq,Prod.mk.injEq] at ag;obtain⟨rfl,rfl,rfl⟩:=ag;have af:=zK (P:=P) (code:=.sliceB) al ad (aun _);exact⟨af.1,bC,aun _,fun _=>rfl,by simp[Instr.sliceBounds,af.2]⟩
   | some Cj=>
    cases gQ with
    | none=>exact ae.elim
    | some ano=>
     simp only at ag;cases ym:jd Cj cap with
     | none=>rw[ym] at ag; cases ag
     | some h'=>
      rw[ym] at ag;simp only at ag;have af:=zK (P:=P) (code:=if isS then .sliceAcap else .sliceAlen) ym ae dg;cases cJ with
      | none=>
       cases rS with
       | some v=>exact ad.elim
       | none=>
        simp only[Option.some.injEq,Prod.mk.injEq] at ag;obtain⟨rfl,rfl,rfl⟩:=ag;exact⟨by omega,af.1,aun _,fun _=>rfl,by simp[Instr.sliceBounds,af.2]⟩
      | some c=>
       cases rS with
       | none=>exact ad.elim
       | some v=>
        simp only at ag;cases al:jd c h' with
        | none=>rw[al] at ag; cases ag
        | some l'=>
         rw[al] at ag;simp only[Option.some.injEq,Prod.mk.injEq] at ag;obtain⟨rfl,rfl,rfl⟩:=ag;have aJ:=zK (P:=P) (code:=.sliceB) al ad (aun _);exact⟨aJ.1,af.1,aun _,fun _=>rfl,by simp[Instr.sliceBounds,af.2,aJ.2]⟩
 | some abB=>
  cases wN with
  | none=>exact aj.elim
  | some auc=>
   simp only at ag;cases hm:jd abB cap with
   | none=>rw[hm] at ag; cases ag
   | some cm=>
    rw[hm] at ag;simp only at ag;have af:=zK (P:=P) (code:=if isS then .slice3Acap else .slice3Alen) hm aj dg;cases ay with
    | none=>cases ag
    | some Cj=>
     cases gQ with
     | none=>exact ae.elim
     | some ano=>
      simp only at ag;cases ym:jd Cj cm with
      | none=>rw[ym] at ag; cases ag
      | some h'=>
       rw[ym] at ag;simp only at ag;have aJ:=zK (P:=P) (code:=.slice3B) ym ae (aun _);cases cJ with
       | none=>
        cases rS with
        | some v=>exact ad.elim
        | none=>
         simp only[Option.some.injEq,Prod.mk.injEq] at ag;obtain⟨rfl,rfl,rfl⟩:=ag;exact⟨by omega,aJ.1,af.1,(fun aE=>by cases aE),by simp[Instr.sliceBounds,af.2,aJ.2]⟩
       | some c=>
        cases rS with
        | none=>exact ad.elim
        | some v=>
         simp only at ag;cases al:jd c h' with
         | none=>rw[al] at ag; cases ag
         | some l'=>
          rw[al] at ag;simp only[Option.some.injEq,Prod.mk.injEq] at ag;obtain⟨rfl,rfl,rfl⟩:=ag;have ax:=zK (P:=P) (code:=.slice3C) al ad (aun _);exact⟨ax.1,aJ.1,af.1,(fun aE=>by cases aE),by simp[Instr.sliceBounds,af.2,aJ.2,ax.2]⟩
theorem vJ {z:Nat}:∀ (n:Nat) (cs:List U),(me z n cs).length=n
 | 0,_=>rfl
 | n+1,cs=>by simp[me,vJ n]
theorem FX {z:Nat}:∀ (n:Nat) (cs:List U) (i:Nat),i<n->(me z n cs)[i]? = some ((cs.drop (i*z)).take z)
 | 0,_,_,h=>by omega
 | n+1,cs,0,_=>by simp[me]
 | n+1,cs,i+1,h=>by
  simp only[me,au5];rw[FX n _ i (by omega),awX];congr 3;rw[au2]; omega
theorem Yk (rel:bN R B w h μ) {z b off cap sz l aS m cm cap' : Nat} {cs:List U} {cf:M} {hasMax:Bool} (ag:h.f b=.cells sz cs) (hm:μ b=some cf) (au:off+cap*z<=sz)
  (de:(off+cap*z<sz/\cap'=cap)\/(off+cap*z=sz/\cap<=cap'/\cf.s+off+cap'*z<=cf.T)) (ad:l<=aS) (ae:aS<=m) (aj:m<=cap) (aG:hasMax=false->m=cap)
  (bW:cm=if hasMax then m else cap') (Un:m≠l) :
  aO w R h μ (.aq z b (off+l*z) (aS - l) (m - l) sz) (.slice (some ((⟨cf.r,cf.s+off,none⟩:Addr).add (l*z))) (aS - l) (cm - l)) :=by
 have eA:=rel.blk b cf hm;rw[ag] at eA;have dI:=eA.2.1;rw[Addr.mN,av1];have aP:l*z+(m - l)*z=m*z:=by rw[<-au8]; congr 1; omega
 have bw:m*z<=cap*z:=aup _ aj;refine .aq z b _ _ _ sz _ cs cf ag hm (by omega) (by omega) ?_;cases hasMax with
 | false=>
  have AJ:=aG rfl;have ku:cm=cap':=by simpa using bW
  rw[ku];rcases de with ⟨a2,a9⟩ | ⟨a2,a9,bV⟩
  ·rw[<-AJ] at a2 a9;exact .inl ⟨by omega,by omega⟩
  ·rw[<-AJ] at a2 a9;refine .inr ⟨by omega,by omega,?_⟩;have e3:l*z+(cap' - l)*z=cap'*z:=by rw[<-au8]; congr 1; omega
   omega
 | true=>
  have ku:cm=m:=by simpa using bW
  rw[ku];by_cases aL:off+l*z+(m - l)*z<sz
  ·exact .inl ⟨aL,rfl⟩
  ·exact .inr ⟨by omega,aun _,by omega⟩
theorem extract_toList (s:ByteArray) (a b:Nat) :(s.extract a b).data.toList=(s.data.toList.drop a).take (b - a) :=by
 simp[ByteArray.extract,ByteArray.copySlice,List.take_drop]
theorem aO.alB (z:Nat) (p:Prop) [Decidable p] (a b:Addr) (cap:Nat) :aO w R h μ (.aZ z []) (.slice (if p then some a else some b) 0 cap) :=by
 by_cases av:p
 ·rw[if_pos av]; exact .gk _ _ _
 ·rw[if_neg av]; exact .gk _ _ _
theorem aO.Yh (z b off len cap sz cap' : Nat) (p:Prop) [Decidable p] (a dj:Addr) (al:len<=cap) (ah:cap<=cap') (aw:xE h b sz) :
  aO w R h μ (.aq z b off len cap sz) (.slice (if p then some a else some dj) len cap') :=by
 by_cases av:p
 ·rw[if_pos av]; exact .hI _ _ _ _ _ _ _ _ al ah aw
 ·rw[if_neg av]; exact .hI _ _ _ _ _ _ _ _ al ah aw
theorem al7 (rel:bN R B w h μ) {t:TypeId} {x c:U} {bE:Value} {cJ ay cK:Option U} {rS gQ wN:Option Value} (ak:E4 P t x cJ ay cK=some c) (af:aO w R h μ x bE)
  (ad:xH w R h μ cJ rS) (ae:xH w R h μ ay gQ) (aj:xH w R h μ cK wN) :
  ∃ v,(Instr.sliceAt t bE rS gQ wN).run P w=.ok v w/\aO w R h μ c v:=by
 unfold E4 at ak;split at ak
 ·-- an array behind its address
  rename_i n e aM;cases ax:cz P e with
  | none=>rw[ax] at ak; cases ak
  | some z=>
  cases ag:gO n n cJ ay cK with
  | none=>rw[ax,ag] at ak; cases ak
  | some uR=>
  obtain⟨l,aS,m⟩:=uR;rw[ax,ag] at ak;simp only at ak;obtain⟨bZ,cc,eF,hv,iO⟩:=vC (P:=P) (isS:=false) ag (aun _) (aun _) ad ae aj;have afe:(if cK.isSome=true then m else n)=m:=by
   cases cK with
   | none=>simp[hv rfl]
   | some v=>simp
  rw[afe] at iO;split at ak
  ·rename_i b off sz;split at ak
   ·rename_i eC;have AR:∃ a,bE=.pointer (some a) :=by cases af<;>exact⟨_,rfl⟩
    obtain⟨a,rfl⟩:=AR;refine⟨_,by simp[Instr.sliceAt,cx aM,Instr.sureAddr,iO,fK ax]; rfl,?_⟩;split at ak
    ·rename_i j6;simp only[Option.some.injEq] at ak; subst ak;have:aS - l=0:=by omega
     rw[this];exact .gk _ _ _
    ·rename_i j6;simp only[Option.some.injEq] at ak; subst ak;rw[if_neg j6];cases af with
     | ptr _ _ _ cs cf bO hm=>
      exact Yk rel (cap:=m) (cap':=m) (hasMax:=true) bO hm eC (by
       have eA:=rel.blk b cf hm;rw[bO] at eA;have dI:=eA.2.1;by_cases aL:off+m*z<sz
       ·exact .inl ⟨aL,rfl⟩
       ·exact .inr ⟨by omega,aun _,by omega⟩) bZ cc (aun _) (fun aE=>by cases aE) (by simp) j6
     | nf _ _ _ _ aw=>exact .hI _ _ _ _ _ _ _ _ (by omega) (aun _) aw
   ·cases ak
  ·rename_i cs off;split at ak
   ·rename_i eC;simp only[Option.some.injEq] at ak; subst ak;cases af with
    | bM _ _ blk o eR ah ap=>
     refine⟨_,by simp[Instr.sliceAt,cx aM,Instr.sureAddr,iO,fK ax]; rfl,?_⟩;have fu:aS*z<=n*z:=aup _ (by omega);by_cases j6:m=l
     ·have aP:aS - l=0:=by omega
      rw[aP];exact .gk _ _ _
     ·rw[if_neg j6,Addr.mN];have al:=vJ (z:=z) (aS - l) (cs.drop (off+l*z));have lO:∀ i,i<aS - l->∀ j,j<z->off+l*z+(i*z+j)<cs.length:=by
       intro i gQ j ai;have:(l+i+1)*z<=aS*z:=aup _ (by omega);rw[au8,au8] at this;omega
      have fv:∀ i fF,(me z (aS - l) (cs.drop (off+l*z)))[i]? = some fF->i<aS - l/\fF=((cs.drop (off+l*z)).drop (i*z)).take z:=by
       intro i fF g2;have gQ:i<aS - l:=by
        have:=(auk.1 g2).1;omega
       rw[FX _ _ _ gQ] at g2;simp only[Option.some.injEq] at g2;exact⟨gQ,g2.symm⟩
      have:=aO.aZ (w:=w) (R:=R) (h:=h) (μ:=μ) z (me z (aS - l) (cs.drop (off+l*z))) blk (o+off+l*z) (m - l) (fun i j=>eR (off+l*z+(i*z+j))) (by omega)
       (fun fF g2=>by
        obtain⟨i,gQ,rfl⟩:=List.getElem_of_mem g2;obtain⟨a2,a9⟩:=fv i _ (auo gQ);rw[a9,auA,avh,avh];have:(l+i+1)*z<=aS*z:=aup _ (by omega);rw[au8,au8] at this;omega)
       (fun i j gQ ai=>by
        have:=ah (off+l*z+(i*z+j)) (lO i (by omega) j ai);have e3:o+off+l*z+(i*z+j)=o+(off+l*z+(i*z+j)) :=by omega
        rw[e3]; exact this)
       (fun i fF g2 j c ai=>by
        obtain⟨a2,rfl⟩:=fv i _ g2;have m3:j<z:=by
         have:=(auk.1 ai).1;rw[auA] at this; omega
        rw[auI m3,auY,auY,] at ai;exact ap _ c ai)
      rw[al] at this;exact this
   ·cases ak
  ·cases ak
 ·-- a slice
  rename_i e aM;split at ak
  ·rename_i z dF b off len cap sz ax;split at ak
   ·rename_i uI; subst uI;cases ag:gO len cap cJ ay cK with
    | none=>rw[ag] at ak; cases ak
    | some uR=>
    obtain⟨l,aS,m⟩:=uR;rw[ag] at ak;simp only[auv,Option.some.injEq] at ak;cases af with
    | aq _ _ _ _ _ _ cap' cs cf bO hm al au de=>
     have TH:cap<=cap':=by rcases de with de | de<;>omega
     obtain⟨bZ,cc,eF,hv,iO⟩:=vC (P:=P) (isS:=true) ag al TH ad ae aj;refine⟨_,by simp[Instr.sliceAt,Instr.slice,cx aM,iO,fK ax]; rfl,?_⟩;split at ak
     ·rename_i j6;subst ak;have:aS - l=0:=by omega
      rw[this];by_cases sV:(if cK.isSome=true then m else cap')=l
      ·rw[if_pos sV,sV,awq];exact .iV _ _ _ _ _ _ cf bO hm
      ·rw[if_neg sV];cases cK with
       | some v=>exact absurd (by simpa using j6) sV
       | none=>
        have AJ:=hv rfl;simp only[awz,avF,if_false] at sV ⊢;have ea:cap=l:=by omega
        have am:off+cap*z=sz/\cap<=cap'/\cf.s+off+cap'*z<=cf.T:=by rcases de with de | de<;>omega
        have uy:l*z+(cap' - l)*z=cap'*z:=by rw[<-au8]; congr 1; omega
        subst ea;rw[Addr.mN];have:=aO.aq (w:=w) (R:=R) (h:=h) (μ:=μ) z b (off+cap*z) 0 0 sz (cap' - cap) _ cf bO hm (aun _) (by omega) (.inr ⟨by omega,by omega,by omega⟩)
        rwa [<-av1] at this
     ·rename_i j6;subst ak;have bP:¬ ((if cK.isSome=true then m else cap')=l) :=by
       cases cK with
       | none=>have:=hv rfl; simp; omega
       | some v=>simpa using j6
      rw[if_neg bP];exact Yk rel (hasMax:=cK.isSome) bO hm au de bZ cc eF (fun aE=>hv (by simpa using aE)) rfl j6
    | iV _ _ _ _ a cs cf bO hm=>
     obtain⟨bZ,cc,eF,hv,iO⟩:=vC (P:=P) (isS:=true) ag (aun 0) (aun 0) ad ae aj;refine⟨_,by simp[Instr.sliceAt,Instr.slice,cx aM,iO,fK ax]; rfl,?_⟩;have mr:m=0:=by
      cases cK with
      | none=>exact hv rfl
      | some v=>simp at eF; omega
     have AH:l=0:=by omega
     have ae9:aS=0:=by omega
     subst mr AH ae9;simp only[if_true] at ak;subst ak;simp;exact .iV _ _ _ _ _ _ cf bO hm
    | hI _ _ _ _ _ _ cap' a al de aw=>
     obtain⟨bZ,cc,eF,hv,iO⟩:=vC (P:=P) (isS:=true) ag al de ad ae aj;refine⟨_,by simp[Instr.sliceAt,Instr.slice,cx aM,iO,fK ax]; rfl,?_⟩;split at ak
     ·rename_i j6;subst ak;have:aS - l=0:=by omega
      rw[this];exact aO.Yh _ _ _ _ _ _ _ _ _ _ (aun _) (avu _) aw
     ·rename_i j6;subst ak;have dO:m<=(if cK.isSome=true then m else cap') :=by split<;>omega
      exact aO.Yh _ _ _ _ _ _ _ _ _ _ (by omega) (by omega) aw
   ·cases ak
  ·rename_i z dF es ax;split at ak
   ·rename_i uI; subst uI;cases ag:gO es.length es.length cJ ay cK with
    | none=>rw[ag] at ak; cases ak
    | some uR=>
    obtain⟨l,aS,m⟩:=uR;rw[ag] at ak;simp only[auv,Option.some.injEq] at ak;subst ak;cases af with
    | aZ _ _ blk off cap eR al D1 ah ap=>
     obtain⟨bZ,cc,eF,hv,iO⟩:=vC (P:=P) (isS:=true) ag (aun _) al ad ae aj;refine⟨_,by simp[Instr.sliceAt,Instr.slice,cx aM,iO,fK ax]; rfl,?_⟩;have bC:((es.drop l).take (aS - l)).length=aS - l:=by rw[auA,avh]; omega
     have dO:aS<=(if cK.isSome=true then m else cap) :=by
      cases cK with
      | none=>simp only[awz,avF,if_false]; omega
      | some v=>simpa using cc
     by_cases j6:(if cK.isSome=true then m else cap)=l
     ·have aP:aS - l=0:=by omega
      rw[if_pos j6,aP,avG];exact .gk _ _ _
     ·rw[if_neg j6,Addr.mN];have fv:∀ i fF,((es.drop l).take (aS - l))[i]? = some fF->i<aS - l/\es[l+i]? = some fF:=by
       intro i fF g2;have gQ:i<aS - l:=by
        have:=(auk.1 g2).1;omega
       rw[auI gQ,auY] at g2;exact⟨gQ,g2⟩
      have:=aO.aZ (w:=w) (R:=R) (h:=h) (μ:=μ) z ((es.drop l).take (aS - l)) blk (off+l*z) ((if cK.isSome=true then m else cap) - l) (fun i j=>eR (l+i) j) (by omega)
       (fun fF g2=>D1 fF (avL (auG g2)))
       (fun i j gQ ai=>by
        have:=ah (l+i) j (by omega) ai;have e3:off+l*z+(i*z+j)=off+((l+i)*z+j) :=by rw[au8]; omega
        rw[e3]; exact this)
       (fun i fF g2 j c ai=>ap (l+i) fF (fv i fF g2).2 j c ai)
      rw[bC] at this;exact this
    | gk _ a cap=>
     obtain⟨bZ,cc,eF,hv,iO⟩:=vC (P:=P) (isS:=true) ag (aun _) (avu cap) ad ae aj;refine⟨_,by simp at iO; simp[Instr.sliceAt,Instr.slice,cx aM,iO,fK ax]; rfl,?_⟩;have aP:aS - l=0:=by simp at eF; omega
     rw[aP,avG];exact aO.alB _ _ _ _ _
   ·cases ak
  ·rename_i z ax;cases af;cases ag:gO 0 0 cJ ay cK with
   | none=>rw[ag] at ak; cases ak
   | some uR=>
   obtain⟨l,aS,m⟩:=uR;rw[ag] at ak;simp only[auv,Option.some.injEq] at ak;subst ak;obtain⟨bZ,cc,eF,hv,iO⟩:=vC (P:=P) (isS:=true) ag (aun _) (aun _) ad ae aj;obtain rfl:m=0:=by omega
   obtain rfl:aS=0:=by omega
   obtain rfl:l=0:=by omega
   refine⟨_,by simp[Instr.sliceAt,Instr.slice,cx aM,iO,fK ax]; rfl,?_⟩;exact .aH
  ·cases ak
 ·-- a string
  rename_i s aM;split at ak
  ·cases af with
   | str bs=>
    cases ag:gO bs.data.toList.length bs.data.toList.length cJ ay none with
    | none=>rw[ag] at ak; cases ak
    | some uR=>
    obtain⟨l,aS,m⟩:=uR;rw[ag] at ak;simp only[auv,Option.some.injEq] at ak;subst ak;cases wN with
    | some v=>exact aj.elim
    | none=>
     have h9:bs.data.toList.length=bs.size:=by simp
     rw[h9] at ag;obtain⟨bZ,cc,eF,hv,iO⟩:=vC (P:=P) (isS:=false) ag (aun _) (aun _) ad ae aj;refine⟨.string (bs.extract l aS),by simp[Instr.sliceAt,Instr.slice,cx aM,iO],?_⟩;rw[<-extract_toList];exact .str _
  ·cases ak
 ·cases ak
end

section
variable {P:Program} {w:World} {R:Nat->Prop} {B:Nat} {h:aN} {μ:ck}
def lF (w:World) (R:Nat->Prop) (h:aN) (μ:ck) (cs:List U) (arr:Array Value) :Prop:=
 arr.size=cs.length/\∀ (j:Nat) (c:U),cs[j]? = some c->∃ v:Value,arr[j]? = some v/\v.oneCell'=true/\aO w R h μ c v
theorem lF.aF {cs:List U} {arr:Array Value} (az:lF w R h μ cs arr) :aO w R h μ (.aF cs) (.agg arr) :=by
 refine .aF _ _ az.1 (fun j v ai=>?_) (fun j c v ah ai=>?_)
 ·have aL:j<cs.length:=by have:=(auO.1 ai).1; rw[<-az.1]; exact this
  obtain⟨u,ad,ae,_⟩:=az.2 j _ (auo aL);rw[ai] at ad; cases ad; exact ae
 ·obtain⟨u,ad,_,aj⟩:=az.2 j c ah;rw[ai] at ad; cases ad; exact aj
theorem SI:∀ (l:List Value) (k off:Nat) (cells:Array Value),off+k+l.length<=cells.size->
  ((l.zipIdx k).foldl (fun cs (vK:Value × Nat)=>cs.setIfInBounds (off+vK.2) vK.1) cells).size=cells.size ∧
  ∀ j,((l.zipIdx k).foldl (fun cs (vK:Value × Nat)=>cs.setIfInBounds (off+vK.2) vK.1) cells)[j]? = if off+k<=j/\j<off+k+l.length then l[j - (off+k)]? else cells[j]?
 | [],k,off,cells,_=>⟨by simp,fun j=>by simp; omega⟩
 | v::l,k,off,cells,al=>by
  simp only[auF] at al;have aR:=SI l (k+1) off (cells.setIfInBounds (off+k) v) (by simp; omega);simp only[List.zipIdx_cons,axm];refine⟨by rw[aR.1]; simp,fun j=>?_⟩;rw[aR.2 j];by_cases ai:off+(k+1)<=j/\j<off+(k+1)+l.length
  ·rw[if_pos ai,if_pos (by simp only[auF]; omega)];have:j - (off+k)=(j - (off+(k+1)))+1:=by omega
   rw[this,au5]
  ·rw[if_neg ai,avD];by_cases am:off+k=j
   ·subst am;rw[if_pos rfl,if_pos (by omega),if_pos (by simp only[auF]; omega)];simp
   ·rw[if_neg am,if_neg (by simp only[auF]; omega)]
theorem Gc {ly:Nat->Option (Nat × Nat)}:∀ (parts:List (Nat × U)) (k3:List (Nat × Value)) (cs:List U) (arr:Array Value) (cs' : List U),
  h4 ly cs parts=some cs'->lF w R h μ cs arr->k3.length=parts.length->(∀ (j:Nat) (p:Nat × U) (cp:Nat × Value),parts[j]? = some p->k3[j]? = some cp->cp.1=p.1/\aO w R h μ p.2 cp.2)->
  ∃ lH,Instr.fill ly arr k3=some lH/\lF w R h μ cs' lH
 | [],[],cs,arr,cs',aE,az,_,_=>by
  simp only[h4,Option.some.injEq] at aE; subst aE;exact⟨arr,rfl,az⟩
 | [],_::_,_,_,_,_,_,al,_=>by simp at al
 | _::_,[],_,_,_,_,_,al,_=>by simp at al
 | (i,c) ::parts,(mw,v) ::k3,cs,arr,cs',aE,az,al,av=>by
  obtain⟨rfl,ap⟩:=av 0 (i,c) (mw,v) rfl rfl;simp only at ap;unfold h4 at aE;cases gE:ly mw with
  | none=>rw[gE] at aE; cases aE
  | some os=>
  obtain⟨off,size⟩:=os;cases ah:c.cells with
  | none=>rw[gE,ah] at aE; cases aE
  | some vs=>
  rw[gE,ah] at aE;simp only at aE;split at aE
  ·rename_i j2;obtain⟨h9,jm⟩:=FV ap ah;have yu:v.cells.toList.length=vs.length:=by simpa using h9
   have ut:=SI v.cells.toList 0 off arr (by rw[az.1,yu]; omega);have ag4:v.cells.zipIdx.foldl (fun cs (x:Value × Nat)=>match x with | (c,j)=>cs.setIfInBounds (off+j) c) arr=(v.cells.toList.zipIdx 0).foldl (fun cs (vK:Value × Nat)=>cs.setIfInBounds (off+vK.2) vK.1) arr:=by
    rw[<-Array.foldl_toList];simp
   obtain⟨lH,ad,ae⟩:=Gc parts k3 (a8 cs off vs) (v.cells.zipIdx.foldl (fun cs (x:Value × Nat)=>match x with | (c,j)=>cs.setIfInBounds (off+j) c) arr) cs' aE (by
     rw[ag4];refine⟨by rw[ut.1,az.1,xd (by omega)]; omega,fun j x ai=>?_⟩;rw[ut.2 j];rw[Yr (by omega)] at ai;split at ai
     ·rename_i aL;rw[if_neg (by omega)];exact az.2 j x ai
     ·split at ai
      ·rename_i ad ae;rw[if_pos (by rw[yu]; omega)];obtain⟨u,a2,a9,bV⟩:=jm _ x ai;exact⟨u,by simpa using a2,a9,bV⟩
      ·rename_i ad ae;rw[if_neg (by rw[yu]; omega)];exact az.2 j x ai) (by simpa using al) (fun j p cp ai eD=>av (j+1) p cp (by simpa using ai) (by simpa using eD))
   refine⟨lH,?_,ae⟩;have sL:¬ (v.cells.size≠size\/off+v.cells.size > arr.size) :=by rw[h9,az.1]; omega
   simp only[Instr.fill,gE];rw[if_neg (by simpa using sL)];exact ad
  ·cases aE
theorem xB {t:TypeId} {z:List U} (ax:ic P t=some z) :∃ v,(∀ w2:World,(zeroValue t).run P w2=.ok v w2)/\lF w R h μ z v.cells:=by
 obtain⟨i,v,ay,ap,ak,ah⟩:=ZL (w:=w) (R:=R) (h:=h) (μ:=μ) ax;exact⟨v,fun w2=>X5 ay ap,ak,ah⟩
theorem alG {fs:Array Field} (ak:(fs.toList.all fun f=>(cz P f.type).isSome)=true) :
  (fs.mapM fun f=>(do pure (f.offset,<-sizeOf f.type) :Sem (Nat × Nat))).run P w=.ok ((fs.toList.map fun f=>(f.offset,(cz P f.type).getD 0)).toArray) w:=by
 rw[Array.mapM_eq_mapM_toList];simp only[Sem.run_map];have:∀ l:List Field,(l.all fun f=>(cz P f.type).isSome)=true->(l.mapM fun f=>(do pure (f.offset,<-sizeOf f.type) :Sem (Nat × Nat))).run P w=.ok (l.map fun f=>(f.offset,(cz P f.type).getD 0)) w:=by
  intro l
  induction l with
  | nil=>intro _; simp
  | cons f l aR=>
   intro al;simp only[axr,aus] at al;obtain⟨n,aD⟩:=axa.1 al.1;simp only[avT,Sem.run_bind,fK aD,Result.andThen_ok,Sem.run_pure,aR al.2,auL,aD,au6]
 rw[this _ ak];rfl
theorem aa4 {t:TypeId} {parts:List (Nat × U)} {k3:Array (Nat × Value)} {c:U} (ag:Ce P t parts=some c) (al:k3.size=parts.length)
  (av:∀ (j:Nat) (p:Nat × U) (cp:Nat × Value),parts[j]? = some p->k3[j]? = some cp->cp.1=p.1/\aO w R h μ p.2 cp.2) :
  ∃ v,(Instr.build t k3).run P w=.ok v w/\aO w R h μ c v:=by
 unfold Ce at ag;split at ag
 ·rename_i zero fs ax aM;split at ag
  ·cases ag
  ·rename_i h9;simp only[av4,Bool.not_eq_false] at h9;cases aE:h4 (EN P fs) zero parts with
   | none=>rw[aE] at ag; cases ag
   | some cs=>
    rw[aE] at ag;simp only[auv,Option.some.injEq] at ag; subst ag;obtain⟨v,ap,az⟩:=xB (w:=w) (R:=R) (h:=h) (μ:=μ) ax;obtain⟨lH,ad,ae⟩:=Gc parts k3.toList zero v.cells cs aE az (by simpa using al) (fun j p cp ai eD=>av j p cp ai (by simpa using eD));have agk:(fun i=>((fs.toList.map fun f=>(f.offset,(cz P f.type).getD 0)).toArray)[i]?)=EN P fs:=by
     funext i;simp only[EN];simp only[List.getElem?_toArray,auq,avJ];cases AD:fs[i]? with
     | none=>simp
     | some f=>
      rw[ava] at h9;have:=h9 f (by have:=Array.mem_of_getElem? AD; simpa using this);obtain⟨n,aD⟩:=axa.1 this;simp[aD]
    refine⟨_,?_,ae.aF⟩;simp only[Instr.build,Sem.run_bind,ap,Result.andThen_ok,cx aM,alG h9];rw[agk,ad];simp
 ·rename_i zero n e ax aM;cases h9:cz P e with
  | none=>rw[h9] at ag; cases ag
  | some m=>
   rw[h9] at ag;simp only at ag;cases aE:h4 (fun i=>some (i*m,m)) zero parts with
   | none=>rw[aE] at ag; cases ag
   | some cs=>
    rw[aE] at ag;simp only[auv,Option.some.injEq] at ag; subst ag;obtain⟨v,ap,az⟩:=xB (w:=w) (R:=R) (h:=h) (μ:=μ) ax;obtain⟨lH,ad,ae⟩:=Gc parts k3.toList zero v.cells cs aE az (by simpa using al) (fun j p cp ai eD=>av j p cp ai (by simpa using eD));refine⟨_,?_,ae.aF⟩;simp only[Instr.build,Sem.run_bind,ap,Result.andThen_ok,cx aM,fK h9];rw[ad];simp
 ·cases ag
theorem zd {zero:List U}:∀ n,(dC zero n).length=n*zero.length
 | 0=>by simp[dC]
 | n+1=>by simp only[dC,auu,zd n,au2]; omega
theorem XP {zero:List U}:∀ (n j:Nat) (c:U),(dC zero n)[j]? = some c->zero[j % zero.length]? = some c
 | 0,_,_,ai=>by simp[dC] at ai
 | n+1,j,c,ai=>by
  simp only[dC] at ai;by_cases aL:j<zero.length
  ·rw[aum aL] at ai
   rwa [aux aL]
  ·rw[auJ (by omega)] at ai;have:=XP n _ c ai
   rwa [<-Nat.mod_eq_sub_mod (by omega)] at this
theorem IF {zero:List U} {z:Array Value} (az:lF w R h μ zero z) (n:Nat) :lF w R h μ (dC zero n) ((Array.range (n*zero.length)).map (z[· % z.size]!)) :=by
 refine⟨by simp[zd],fun j c ai=>?_⟩;have aL:j<n*zero.length:=by
  have:=(auk.1 ai).1
  rwa [zd] at this
 obtain⟨v,ad,ae,aj⟩:=az.2 _ c (XP n j c ai);refine⟨v,?_,ae,aj⟩;rw[<-az.1] at ad;obtain⟨ag,rfl⟩:=auO.1 ad;simp[aL,ag]
theorem acO {z:Nat}:∀ (parts:List (Nat × U)) (a b:List U),h4 (fun i=>some (i*z,z)) a parts=some b->b.length=a.length:=by
 intro parts
 induction parts with
 | nil=>intro a b ha; simp only[h4,Option.some.injEq] at ha; subst ha; rfl
 | cons p parts aR=>
  intro a b ha;unfold h4 at ha;split at ha
  ·rename_i off size vs gE rI;split at ha
   ·rw[aR _ _ ha,xd (by omega)]; omega
   ·cases ha
  ·cases ha
theorem P4 {t e:TypeId} {len z:Nat} {zero cs:List U} {parts:List (Nat × U)} {k3:Array (Nat × Value)} (am:i3 P t=some e) (ax:cz P e=some z) (jn:ic P e=some zero) (io:zero.length=z) (m5:len*z<=16777216)
  (aE:h4 (fun i=>some (i*z,z)) (dC zero len) parts=some cs) (al:k3.size=parts.length)
  (av:∀ (j:Nat) (p:Nat × U) (cp:Nat × Value),parts[j]? = some p->k3[j]? = some cp->cp.1=p.1/\aO w R h μ p.2 cp.2) :
  cs.length=len*z/\∃ arr,(Instr.buildSlice t len k3).run P w=.ok (.slice (some ⟨w.heap.size,0,none⟩) len len) (w.alloc (.cells arr e))/\lF w R h μ cs arr:=by
 obtain⟨v,ap,az⟩:=xB (w:=w) (R:=R) (h:=h) (μ:=μ) jn;obtain⟨lH,ad,ae⟩:=Gc parts k3.toList _ _ cs aE (IF az len) (by simpa using al) (fun j p cp ai eD=>av j p cp ai (by simpa using eD));refine⟨by rw[acO _ _ _ aE,zd,io],lH,?_,ae⟩;have kV:=Cy am;have afJ:¬ (len*z > 2 ^ 24) :=by omega
 simp only[Instr.buildSlice,Sem.run_bind,cx kV,Result.andThen_ok,fK ax,if_neg afJ];rw[io] at ad;generalize fe:len*z=N at ad;by_cases aI:N=0
 ·subst aI;have iA:∀ f:Nat->Value,(Array.range 0).map f=#[] :=fun f=>by simp[Array.range]
  rw[iA] at ad;simp[iA,ad,newRow]
 ·simp[aI,ap,ad,newRow]
theorem aa3 (rel:bN R B w h μ) {t:TypeId} {len:Nat} {parts:List (Nat × U)} {k3:Array (Nat × Value)} {c:U} {h' : aN} (ag:FN P h t len parts=some (c,h')) (al:k3.size=parts.length)
  (av:∀ (j:Nat) (p:Nat × U) (cp:Nat × Value),parts[j]? = some p->k3[j]? = some cp->cp.1=p.1/\aO w R h μ p.2 cp.2) :
  ∃ v w' μ',(Instr.buildSlice t len k3).run P w=.ok v w'/\df w h μ w' h' μ'/\bN R B w' h' μ'/\aO w' R h' μ' c v:=by
 unfold FN at ag;cases am:i3 P t with
 | none=>rw[am] at ag; cases ag
 | some e=>
 rw[am] at ag;simp only at ag;cases ax:cz P e with
 | none=>rw[ax] at ag; cases ag
 | some z=>
 cases jn:ic P e with
 | none=>rw[ax,jn] at ag; cases ag
 | some zero=>
 rw[ax,jn] at ag;simp only at ag;split at ag
 ·rename_i j2;obtain⟨io,m5⟩:=j2;cases aE:h4 (fun i=>some (i*z,z)) (dC zero len) parts with
  | none=>rw[aE] at ag; cases ag
  | some cs=>
   rw[aE] at ag;simp only[auv,Option.some.injEq,Prod.mk.injEq] at ag;obtain⟨rfl,rfl⟩:=ag;obtain⟨ea,lH,fQ,ae⟩:=P4 am ax jn io m5 aE al av;have aC:=FD rel (cs:=cs) (vs:=lH) e ae.1 ae.2;rw[ea] at aC;obtain⟨a2,a9,bV⟩:=aC;refine⟨.slice (some ⟨w.heap.size,0,none⟩) len len,_,_,fQ,a2,a9,?_⟩;have:=aO.aq (w:=w.alloc (.cells lH e)) (R:=R) (h:=h.push (.cells (len*z) cs)) (μ:=bB μ h.n (some ⟨w.heap.size,0,lH.size⟩)) z h.n 0 len len (len*z) len cs ⟨w.heap.size,0,lH.size⟩ (by simp[er,fx]) (by simp) (aun _) (by omega)
    (.inr ⟨by omega,aun _,by simp only; rw[ae.1,ea]; omega⟩)
   simpa using this
 ·cases ag
theorem Wf {t e:TypeId} {z by_:Nat} {zero:List U} {kl kc:IntKind} {li h2:Int} (am:i3 P t=some e) (ax:cz P e=some z) (dQ:kL P e=some by_) (jn:ic P e=some zero) (io:zero.length=z)
  (aI:0<=li) (qf:li<=h2) (GO:h2<9223372036854775808) (dL:by_*h2<=cw) :
  (dC zero h2.toNat).length=h2.toNat*z/\∃ arr,(Instr.makeSlice t (.int kl li) (.int kc h2)).run P w=.ok (.slice (some ⟨w.heap.size,0,none⟩) li.toNat h2.toNat) (w.alloc (.cells arr e))/\lF w R h μ (dC zero h2.toNat) arr:=by
 obtain⟨v,ap,az⟩:=xB (w:=w) (R:=R) (h:=h) (μ:=μ) jn;have cA:=IF az h2.toNat
 refine⟨by rw[zd,io],_,?_,cA⟩;obtain⟨i,ay,TF⟩:∃ i,P.info? e=some i/\i.bytes=by_:=by
  unfold kL at dQ;cases ay:P.info? e with
  | none=>rw[ay] at dQ; cases dQ
  | some i=>rw[ay] at dQ; exact⟨i,rfl,by simpa using dQ⟩
 have wq:IntKind.i64.wrap li=li:=IntWalk.i64_in _ (by omega);have rJ:IntKind.i64.wrap h2=h2:=IntWalk.i64_in _ (by omega);have kV:=Cy am;unfold cw at dL;have t1:¬ (h2<0\/(281474976710656:Int)<(by_:Int)*h2) :=by omega
 have t2:¬ (li<0) :=by omega
 have t3:¬ (h2<li) :=by omega
 rw[io];generalize fe:h2.toNat*z=N;by_cases sV:N=0
 ·subst sV;have iA:∀ f:Nat->Value,(Array.range 0).map f=#[] :=fun f=>by simp[Array.range]
  simp[iA,Instr.makeSlice,cx kV,Go.asInt,asIntOf,typeInfo,ay,TF,wq,rJ,t1,t2,t3,fK ax,fe,newRow]
 ·simp[Instr.makeSlice,cx kV,Go.asInt,asIntOf,typeInfo,ay,TF,wq,rJ,t1,t2,t3,fK ax,fe,sV,ap,newRow]
theorem aiX (rel:bN R B w h μ) {t:TypeId} {l c r:U} {H3 xV:Value} {h' : aN} (hm:H4 P h t l c=some (r,h')) (al:aO w R h μ l H3) (ah:aO w R h μ c xV) :
  ∃ v w' μ',(Instr.makeSlice t H3 xV).run P w=.ok v w'/\df w h μ w' h' μ'/\bN R B w' h' μ'/\aO w' R h' μ' r v:=by
 unfold H4 at hm;split at hm
 ·rename_i e li h2 am dp fj;obtain⟨kl,rfl⟩:=sp dp al;obtain⟨kc,rfl⟩:=sp fj ah;cases ax:cz P e with
  | none=>rw[ax] at hm; cases hm
  | some z=>
  cases dQ:kL P e with
  | none=>rw[ax,dQ] at hm; cases hm
  | some by_=>
  cases jn:ic P e with
  | none=>rw[ax,dQ,jn] at hm; cases hm
  | some zero=>
  rw[ax,dQ,jn] at hm;simp only at hm;split at hm
  ·rename_i j2;obtain⟨io,aI,qf,GO,dL⟩:=j2;simp only[Option.some.injEq,Prod.mk.injEq] at hm;obtain⟨rfl,rfl⟩:=hm;obtain⟨bC,arr,fQ,cA⟩:=Wf (w:=w) (R:=R) (h:=h) (μ:=μ) (kl:=kl) (kc:=kc) am ax dQ jn io aI qf GO dL;have aC:=FD rel (cs:=dC zero h2.toNat) e cA.1 cA.2;rw[bC] at aC;obtain⟨a2,a9,bV⟩:=aC;refine⟨.slice (some ⟨w.heap.size,0,none⟩) li.toNat h2.toNat,_,_,fQ,a2,a9,?_⟩;have:=aO.aq (w:=w.alloc (.cells arr e)) (R:=R) (h:=h.push (.cells (h2.toNat*z) (dC zero h2.toNat))) (μ:=bB μ h.n (some ⟨w.heap.size,0,arr.size⟩))
    z h.n 0 li.toNat h2.toNat (h2.toNat*z) h2.toNat (dC zero h2.toNat) ⟨w.heap.size,0,arr.size⟩ (by simp[er,fx]) (by simp) (by omega) (by omega)
    (.inr ⟨by omega,aun _,by simp only; rw[cA.1,bC]; omega⟩)
   simpa using this
  ·cases hm
 ·cases hm
theorem aiw {t u:TypeId} {ty:TypeId} {x c:U} {bE:Value} (ah:yS P t x=some c) (af:aO w R h μ x bE) :∃ v,(Builtin.len_ #[t] ty #[bE]).run P w=.ok v w/\aO w R h μ c v:=by
 unfold yS at ah;split at ah<;>(try (simp only[Option.some.injEq] at ah; subst ah))
 ·rename_i s aM;cases af;rename_i bs;exact⟨goInt bs.size,by simp[Builtin.len_,cx aM],by rw[show (bs.data.toList.length:Int)=bs.size from by simp]; exact .int _ _⟩
 ·rename_i n e aM;exact⟨goInt n,by simp[Builtin.len_,cx aM],.int _ _⟩
 ·rename_i e aM;cases af;exact⟨goInt (0:Nat),by simp[Builtin.len_,cx aM],.int _ _⟩
 ·rename_i e z b off len cap sz aM;cases af
  ·exact⟨goInt len,by simp[Builtin.len_,cx aM],.int _ _⟩
  ·exact⟨goInt len,by simp[Builtin.len_,cx aM],.int _ _⟩
  ·exact⟨goInt (0:Nat),by simp[Builtin.len_,cx aM],.int _ _⟩
 ·rename_i e z es aM;cases af
  ·exact⟨goInt es.length,by simp[Builtin.len_,cx aM],.int _ _⟩
  ·exact⟨goInt (0:Nat),by simp[Builtin.len_,cx aM],.int _ _⟩
 ·rename_i k e aM;cases af;exact⟨goInt 0,by simp[Builtin.len_,cx aM],.int _ _⟩
 ·cases ah
end

section
variable {P:Program} {w:World} {R:Nat->Prop} {B:Nat} {h:aN} {μ:ck}
theorem wU {t:TypeId} {cs:List U} {vs:Array Value} {off:Nat} {c:U} (av:iq P t cs off=some c) (az:lF w R h μ cs vs) :
  ∃ v,(∀ w2:World,(part t vs off).run P w2=.ok v w2)/\aO w R h μ c v:=by
 unfold iq at av;cases pc:eJ P t with
 | none=>rw[pc] at av; cases av
 | some b=>
  rw[pc] at av;cases b with
  | false=>
   simp only at av;obtain⟨v,ad,_,aj⟩:=az.2 off c av;exact⟨v,fun w2=>by simp[part,IJ pc,ad],aj⟩
  | true=>
   cases aD:cz P t with
   | none=>rw[aD] at av; cases av
   | some n=>
    rw[aD] at av;simp only at av;split at av
    ·rename_i dO;simp only[Option.some.injEq] at av;subst av;refine⟨.agg (vs.extract off (off+n)),fun w2=>by simp[part,IJ pc,fK aD],lF.aF ⟨by simp; rw[az.1]; omega,fun j c ai=>?_⟩⟩;have j4:j<n:=by
      have:=(auk.1 ai).1;rw[auA] at this; omega
     rw[auI j4,auY] at ai;obtain⟨v,ad,ae,aj⟩:=az.2 _ c ai;refine⟨v,?_,ae,aj⟩;rw[Array.getElem?_extract,if_pos (by rw[az.1]; omega)];exact ad
    ·cases av
theorem vw {cs:List U} {bE:Value} (af:aO w R h μ (.aF cs) bE) :∃ vs,bE=.agg vs/\lF w R h μ cs vs:=by
 cases af with
 | aF _ vs al ad ap=>
  refine⟨vs,rfl,al,fun j c ai=>?_⟩;have aL:j<vs.size:=by rw[al]; exact (auk.1 ai).1
  exact⟨vs[j],by simp[aL],ad j _ (by simp[aL]),ap j c _ ai (by simp[aL])⟩
theorem acK {t:TypeId} {cs:List U} {f:Nat} {fd:Field} {c:U} {bE:Value} (aE:x1 P t f=some fd) (av:iq P fd.type cs fd.offset=some c) (af:aO w R h μ (.aF cs) bE) :
  ∃ v,(Instr.field t bE f).run P w=.ok v w/\aO w R h μ c v:=by
 obtain⟨fs,aM,ut⟩:=Sw aE;obtain⟨vs,rfl,az⟩:=vw af;obtain⟨v,ad,ae⟩:=wU (P:=P) av az;exact⟨v,by simp[Instr.field,cx aM,ut,asAgg,ad],ae⟩
theorem MA {t:TypeId} {x e6 c:U} {bE D9:Value} (ah:A2 P t x e6=some c) (af:aO w R h μ x bE) (ay:aO w R h μ e6 D9) :
  ∃ v,(Instr.index t bE D9).run P w=.ok v w/\aO w R h μ c v:=by
 unfold A2 at ah;split at ah
 ·rename_i n e cs i aM ds;obtain⟨k,rfl⟩:=sp ds ay;cases ax:cz P e with
  | none=>rw[ax] at ah; cases ah
  | some z=>
   rw[ax] at ah;simp only at ah;split at ah
   ·rename_i ag;obtain⟨vs,rfl,az⟩:=vw af;obtain⟨v,ad,ae⟩:=wU (P:=P) ah az;exact⟨v,by simp[Instr.index,asIntOf,cx aM,ag,fK ax,ad],ae⟩
   ·cases ah
 ·rename_i s i aM ds;obtain⟨k,rfl⟩:=sp ds ay;split at ah
  ·rename_i ag;cases af with
   | str bs=>
    cases GH:bs.data.toList[i.toNat]? with
    | none=>rw[GH] at ah; cases ah
    | some b=>
     rw[GH] at ah;simp only[auv,Option.some.injEq] at ah;subst ah;have aL:i.toNat<bs.size:=by have:=(auk.1 GH).1; simpa using this
     have fv:bs[i.toNat]? = some b:=by
      have dW:=(auk.1 GH).2;rw[getElem?_pos bs i.toNat aL];simp only[Option.some.injEq];rw[<-dW];rfl
     exact⟨.int .u8 b.toNat,by simp[Instr.index,asIntOf,cx aM,ag,fv],.int _ _⟩
  ·cases ah
 ·cases ah
theorem abM (rel:bN R B w h μ) {t u ty:TypeId} {d x c:U} {Kd bE:Value} {h' : aN} (ah:zZ P h t d x=some (c,h')) (bf:aO w R h μ d Kd) (af:aO w R h μ x bE) :
  ∃ v w',(Builtin.copy_ #[t,u] ty #[Kd,bE]).run P w=.ok v w'/\df w h μ w' h' μ/\bN R B w' h' μ/\aO w' R h' μ c v:=by
 unfold zZ at ah;cases am:i3 P t with
 | none=>rw[am] at ah; cases ah
 | some e=>
 rw[am] at ah;simp only at ah;cases ax:cz P e with
 | none=>rw[ax] at ah; cases ah
 | some z=>
 rw[ax] at ah;simp only at ah;cases dJ:contents h z x with
 | none=>rw[dJ] at ah; cases ah
 | some OV=>
 obtain⟨xs,n⟩:=OV;rw[dJ] at ah;simp only at ah;have kV:=Cy am;obtain⟨bd,bC,vs,cA,lT⟩:=vT (P:=P) rel dJ af;split at ah
 ·simp only[Option.some.injEq,Prod.mk.injEq] at ah;obtain⟨rfl,rfl⟩:=ah;cases bf;have aI:=lT 0 (avu _) w (fun _=>rfl);refine⟨goInt (0:Nat),w,?_,.refl _ _ _,rel,.int _ _⟩;simp[Builtin.copy_,cx kV,bC,fK ax,aI]
 ·rename_i dF b off len cap sz;cases ag:h.f b with
  | cells m cs=>
   rw[ag] at ah;simp only at ah;split at ah
   ·rename_i Dk;obtain⟨rfl,rfl⟩:=Dk;simp only[Option.some.injEq,Prod.mk.injEq] at ah;obtain⟨rfl,rfl⟩:=ah;cases bf with
    | iV _ _ _ _ a cs' cf bO hm=>
     have aI:=lT 0 (avu _) w (fun _=>rfl);have rF:a8 cs off []=cs:=by simp[a8]
     have j7:=rel.same (h':=h.set b (.cells m (a8 cs off (xs.take (min n 0*z))))) (by
      rw[dZ,Nat.min_zero,av7,avG,rF];funext x;simp only[bB];split
      ·rename_i af; rw[af,ag]
      ·rfl) rfl
     refine⟨goInt (0:Nat),w,?_,j7.1,j7.2,by rw[Nat.min_zero]; exact .int _ _⟩;simp[Builtin.copy_,cx kV,bC,fK ax,aI,storeCells,Result.andThen]
    | hI _ _ _ _ _ _ cap' a al de aw=>
     exfalso;rcases aw with aw | ⟨hH,cs',aw,aL⟩
     ·rw[aw] at ag; cases ag
     ·rw[aw] at ag; cases ag; omega
    | aq _ _ _ _ _ _ cap' cs' cf bO hm al au de=>
     have eA:=rel.blk b cf hm;rw[ag] at eA;obtain⟨TK,dI,_⟩:=eA;have uy:min n len*z<=cap*z:=aup _ (by omega);have Ut:min n len*z<=n*z:=aup _ (by omega);have lY:(xs.take (min n len*z)).length=min n len*z:=by rw[auA]; omega
     have m5:max m (off+(xs.take (min n len*z)).length)=m:=by rw[lY]; omega
     obtain⟨w',ad,ae,aj⟩:=zt (P:=P) rel (cvs:=xs.take (min n len*z)) (vs:=vs.take (min n len*z)) (k:=off) ag hm (by omega)
      (by rw[auA,auA,cA.1]) (by rw[m5]; omega) (fun j c ai=>by
       have aL:j<min n len*z:=by have:=(auk.1 ai).1; rwa [lY] at this
       rw[auI aL] at ai ⊢;exact cA.2 j c ai)
     rw[m5] at ae aj;have aE:=lT (min n len) (by omega) w (fun _=>rfl);refine⟨goInt (min n len:Nat),w',?_,ae,aj,.int _ _⟩;have yx:Nat.min n len=min n len:=rfl;simp[Builtin.copy_,cx kV,bC,fK ax,yx,aE,ad]
   ·cases ah
  | _=>rw[ag] at ah; cases ah
 ·cases ah
theorem JY:∀ (cs:List U) (vs:List Value) (bs:List UInt8),nv cs=some bs->vs.length=cs.length->
  (∀ (j:Nat) (c:U),cs[j]? = some c->∃ v:Value,vs[j]? = some v/\v.oneCell'=true/\aO w R h μ c v)->
  ∃ ns:List Int,vs=ns.map (Value.int .u8)/\bs=ns.map fun n=>UInt8.ofNat n.toNat
 | [],[],bs,ag,_,_=>by
  simp only[nv,Option.some.injEq] at ag; subst ag;exact⟨[],rfl,rfl⟩
 | [],_::_,_,_,al,_=>by simp at al
 | _::_,[],_,_,al,_=>by simp at al
 | c::cs,v::vs,bs,ag,al,ap=>by
  obtain⟨tu,ia,_,uF⟩:=ap 0 c rfl;simp only[auN,Option.some.injEq] at ia;subst ia;cases uF with
  | int k n=>
   cases k<;>simp only[nv] at ag<;>try (cases ag; done)
   cases um:nv cs with
   | none=>rw[um] at ag; cases ag
   | some aaW=>
    rw[um] at ag;simp only[auv,Option.some.injEq] at ag;subst ag;obtain⟨ns,ad,ae⟩:=JY cs vs aaW um (by simpa using al) (fun j c ai=>ap (j+1) c (by simpa using ai));exact⟨n::ns,by rw[ad]; rfl,by rw[ae]; rfl⟩
  | _=>simp[nv] at ag
theorem SH:∀ (ns:List Int) (s:ByteArray),(ns.foldl (fun r n=>r.push (UInt8.ofNat n.toNat)) s).data.toList=s.data.toList++ns.map fun n=>UInt8.ofNat n.toNat
 | [],s=>by simp
 | n::ns,s=>by
  rw[axm,SH ns];simp[ByteArray.push]
theorem abK (rel:bN R B w h μ) {s d:TypeId} {x c:U} {bE:Value} (ah:xT P h s d x=some c) (af:aO w R h μ x bE) :
  ∃ v,(convert s d bE).run P w=.ok v w/\aO w R h μ c v:=by
 unfold xT at ah;split at ah
 ·rename_i ix k k' n ak bf;simp only[Option.some.injEq] at ah; subst ah;cases af;exact⟨.int k (k.wrap n),by simp[convert,cx ak,cx bf,Conv.intToInt],.int _ _⟩
 ·rename_i gl ak bf;simp only[Option.some.injEq] at ah; subst ah;cases af with
  | str bs=>exact⟨.string bs,by simp[convert,cx ak,cx bf],.str _⟩
 ·rename_i e ak bf Uv;cases HH:P.underlying e with
  | none=>rw[HH] at ah; cases ah
  | some apu=>
   rw[HH] at ah;split at ah
   ·rename_i heq;simp only[Option.some.injEq] at heq ah; subst heq ah;cases af;refine⟨.string ByteArray.empty,by simp[convert,cx ak,cx bf,cx HH,Conv.bytesToString],?_⟩;exact .str ByteArray.empty
   ·rename_i heq yD;simp only[Option.some.injEq] at heq; subst heq;split at ah
    ·cases ah
    ·rename_i cs n afX dJ;cases um:nv cs with
     | none=>rw[um] at ah; cases ah
     | some bs=>
      rw[um] at ah;simp only[auv,Option.some.injEq] at ah; subst ah;obtain⟨bd,bC,vs,cA,lT⟩:=vT (P:=P) rel dJ af;have aE:=lT n (aun _) w (fun _=>rfl);obtain⟨ns,rfl,rfl⟩:=JY cs vs bs um cA.1 cA.2;have DV:(ns.map (Value.int .u8)).take (n*1)=ns.map (Value.int .u8) :=aul (by rw[cA.1,bd]; exact aun _);rw[DV] at aE;have Le:∃ a len cap,bE=.slice a len cap:=by
       cases af<;>first | exact⟨_,_,_,rfl⟩ | (simp[contents] at dJ; done) | (exact absurd rfl (afX _))
      obtain⟨a,len,cap,rfl⟩:=Le;simp only[Builtin.lenOf,Sem.run_pure,Result.ok.injEq] at bC;obtain⟨rfl,_⟩:=bC;have aeF:=SH ns ByteArray.empty;refine⟨.string (ns.foldl (fun r n=>r.push (UInt8.ofNat n.toNat)) ByteArray.empty),?_,?_⟩
      ·rw[run_convert_bytes_string w s d e a len cap ak HH bf];cases a with
       | none=>
        simp only[Builtin.firstCells,Sem.run_pure,Result.ok.injEq] at aE;have jm:ns=[] :=by
         have:=congrArg Array.toList aE.1;simpa using this.symm
        subst jm;simp[Conv.bytesToString]
       | some a=>
        simp only[Builtin.firstCells,avX] at aE;exact run_bytesToString w a len cap ns aE
      ·have:(ns.foldl (fun r n=>r.push (UInt8.ofNat n.toNat)) ByteArray.empty).data.toList=ns.map fun n=>UInt8.ofNat n.toNat:=by rw[aeF]; rfl
       rw[<-this];exact .str _
    ·cases ah
   ·cases ah
 ·cases ah
theorem NM (rel:bN R B w h μ) {w' : World} (ag:RowKit.Below w.heap.size w w') (rm:w.drawn<=w'.drawn:=by first | exact aun _ | exact Nat.le_succ _) :df w h μ w' h μ/\bN R B w' h μ:=by
 have e:df w h μ w' h μ:=⟨⟨ag.os,ag.tape,ag.output,ag.size,fun k ar _=>ag.block k ar,fun _ au=>.inl au,fun b sz cs m ad ae=>.inl ⟨cs,ad,ae⟩,fun _ _ aw=>aw,fun _ _ _ ad ae=>⟨ad,ae⟩,aun _,rm⟩,fun _ _ hm=>hm⟩
 refine⟨e,fun b m hm=>?_,rel.inj,rel.base,rel.fresh,rel.up,au7 rel.size ag.size,rel.lw⟩;cases al:live (h.f b) with
 | false=>cases ah:h.f b<;>first | trivial | (rw[ah] at al; cases al)
 | true=>exact (rel.blk b m hm).ext e.toExt0 (ag.block _ (rel.lt al hm))
theorem aa7 (rel:bN R B w h μ) {s d:TypeId} {x c:U} {bE:Value} (ah:zN P s d x=some c) (af:aO w R h μ x bE) :
  ∃ v w',(convert s d bE).run P w=.ok v w'/\df w h μ w' h μ/\bN R B w' h μ/\aO w' R h μ c v:=by
 unfold zN at ah;split at ah
 ·rename_i ix e gl ak bf;split at ah
  ·rename_i aM;simp only[Option.some.injEq] at ah; subst ah;cases af with
   | str bs=>
    have ael:RowKit.Below w.heap.size w (Lib.bytesWorld w e bs) :=⟨rfl,rfl,rfl,by rw[Lib.bytesWorld_size]; omega,fun k ar=>Lib.bytesWorld_at_old w e bs k ar⟩
    obtain⟨ad,ae⟩:=NM rel ael;refine⟨_,_,Lib.run_convert_string_bytes w s d e bs ak bf aM,ad,ae,?_⟩;have h9:bs.data.toList.length=bs.size:=by simp
    have kT:¬ Own h μ w.heap.size:=by
     rintro⟨b,m,al,hm,am⟩;have:=rel.lt al hm;omega
    have dg:bs.size<=grownCap w bs.size 0 e:=grownCap_ge w bs.size 0 e;have:=aO.aZ (w:=Lib.bytesWorld w e bs) (R:=R) (h:=h) (μ:=μ) 1 (bs.data.toList.map fun b=>[jD b]) w.heap.size 0 (grownCap w bs.size 0 e) (fun i _=>.int .u8 (bs.data.toList.getD i 0).toNat)
     (by simpa using dg) (fun e am=>by obtain⟨b,_,rfl⟩:=auR.1 am; rfl)
     (fun i j ay ai=>by
      have gQ:i<bs.size:=by simpa using ay
      have:j=0:=by omega
      subst this;exact⟨by simpa using Lib.bytesWorld_cell w e bs i gQ,rfl,rel.up _ rel.size,kT⟩)
     (fun i e am j c ai=>by
      rw[auq] at am;cases ag:bs.data.toList[i]? with
      | none=>rw[ag] at am; cases am
      | some b=>
       rw[ag] at am;simp only[auv,Option.some.injEq] at am; subst am;cases j with
       | zero=>
        simp only[auN,Option.some.injEq] at ai; subst ai;have:bs.data.toList.getD i 0=b:=by simp[List.getD,ag]
        rw[this];exact .int _ _
       | succ j=>simp at ai)
    rw[auw,h9] at this;exact this
  ·cases ah
 ·cases ah
theorem abi {t ty:TypeId} {x c:U} {bE:Value} (ah:zP P t x=some c) (af:aO w R h μ x bE) :∃ v,(Builtin.cap_ #[t] ty #[bE]).run P w=.ok v w/\aO w R h μ c v:=by
 unfold zP at ah;split at ah<;>(try (simp only[Option.some.injEq] at ah; subst ah))
 ·rename_i n e aM;exact⟨goInt n,by simp[Builtin.cap_,cx aM],.int _ _⟩
 ·rename_i e aM;cases af;exact⟨goInt (0:Nat),by simp[Builtin.cap_,cx aM],.int _ _⟩
 ·cases ah
theorem abv (rel:bN R B w h μ) {t ty:TypeId} {x:U} {bE:Value} {h' : aN} (ah:zT P h t x=some h') (af:aO w R h μ x bE) :
  ∃ w',(Builtin.clear_ #[t] ty #[bE]).run P w=.ok (.tuple #[]) w'/\df w h μ w' h' μ/\bN R B w' h' μ:=by
 unfold zT at ah;split at ah
 ·rename_i e aM;simp only[Option.some.injEq] at ah; subst ah;cases af;exact⟨w,by simp[Builtin.clear_,cx aM],.refl _ _ _,rel⟩
 ·rename_i e z aM;simp only[Option.some.injEq] at ah; subst ah;cases af<;>exact⟨w,by simp[Builtin.clear_,cx aM],.refl _ _ _,rel⟩
 ·rename_i e z b off len cap sz aM;split at ah
  ·rename_i AH;simp only[Option.some.injEq] at ah; subst ah;subst AH;cases af<;>exact⟨w,by simp[Builtin.clear_,cx aM],.refl _ _ _,rel⟩
  ·rename_i AH;split at ah
   ·rename_i zero m cs ax ag;split at ah
    ·rename_i Dk;obtain⟨rfl,rfl⟩:=Dk;simp only[Option.some.injEq] at ah; subst ah;cases af with
     | iV=>exact absurd rfl AH
     | hI _ _ _ _ _ _ cap' a al de aw=>
      exfalso;rcases aw with aw | ⟨hH,cs',aw,aL⟩
      ·rw[aw] at ag; cases ag
      ·rw[aw] at ag; cases ag; omega
     | aq _ _ _ _ _ _ cap' cs' cf bO hm al au de=>
      have eA:=rel.blk b cf hm;rw[ag] at eA;obtain⟨TK,dI,_⟩:=eA;obtain⟨v,ap,az⟩:=xB (P:=P) (w:=w) (R:=R) (h:=h) (μ:=μ) ax;have LY:=IF az len;have uy:len*zero.length<=cap*zero.length:=aup _ al;have pi:(dC zero len).length=len*zero.length:=zd len;have m5:max m (off+(dC zero len).length)=m:=by rw[pi]; omega
      have io:v.cells.size=zero.length:=az.1;have HJ:(Builtin.zeroCells v.cells len)=(Array.range (len*zero.length)).map (v.cells[· % v.cells.size]!) :=by
       unfold Builtin.zeroCells;rw[io]
      obtain⟨w',ad,ae,aj⟩:=zt (P:=P) rel (cvs:=dC zero len) (vs:=(Builtin.zeroCells v.cells len).toList) (k:=off) ag hm (by omega)
       (by rw[HJ,pi]; simp) (by rw[m5]; omega) (fun j c ai=>by
        rw[HJ];obtain⟨u,a2,a9,bV⟩:=LY.2 j c ai;exact⟨u,by rw[avJ]; exact a2,a9,bV⟩)
      rw[m5] at ae aj;refine⟨w',?_,ae,aj⟩;cases bC:len with
      | zero=>exact absurd bC AH
      | succ ase=>
       rw[bC] at ad;simp[Builtin.clear_,cx aM,ap,ad]
    ·cases ah
   ·cases ah
 ·cases ah
theorem aaw (rel:bN R B w h μ) {t u ty:TypeId} {k:IntKind} {s x c:U} {ni bE:Value} {h' : aN} (aM:P.underlying u=some (.int k)) (aC:B9 P h t s x=some (c,h')) (ak:aO w R h μ s ni) (af:aO w R h μ x bE) :
  ∃ v w' μ',(Builtin.append_ #[t,u] ty #[ni,bE]).run P w=.ok v w'/\df w h μ w' h' μ'/\bN R B w' h' μ'/\aO w' R h' μ' c v:=by
 unfold B9 at aC;split at aC
 ·rename_i e n am ay;have kV:=Cy am;obtain⟨rQ,rfl⟩:=sp ay af;split at aC
  ·rename_i z by_ zero ax dQ jn;split at aC
   ·rename_i j2;obtain⟨io,sK,aqD,dL⟩:=j2;obtain⟨i,zv,rp,l2,j8,_⟩:=ZL (P:=P) (w:=w) (R:=R) (h:=h) (μ:=μ) jn;have rE:i.size=z:=by simpa [cz,rp] using ax
    have mj:i.bytes=by_:=by simpa [kL,rp] using dQ
    have AV:IntKind.i64.wrap n=n:=by
     simp[IntKind.wrap,IntKind.bits,IntKind.signed]; omega
    have aD:(n.toNat:Int)=n:=by omega
    have jj:¬ (n<0) :=by omega
    have apY:¬ (2 ^ 48<n*(by_:Int)) :=by
     have ad:((n.toNat*by_:Nat) :Int)=n*by_:=by rw[Int.natCast_mul,aD]
     have ae:((n.toNat*by_:Nat) :Int)<=((140737488355328:Nat) :Int) :=Int.ofNat_le.2 dL;rw[ad] at ae;omega
    have cA:lF w R h μ (dC zero n.toNat) (Builtin.zeroCells zv.cells n.toNat) :=by
     obtain⟨v,ap,az⟩:=xB (P:=P) (w:=w) (R:=R) (h:=h) (μ:=μ) jn;have agV:v=zv:=by
      have:=ap w;simp[zeroValue,typeInfo,rp,l2] at this;exact this.symm
     subst agV;have LY:=IF az n.toNat
     have HJ:(Builtin.zeroCells v.cells n.toNat)=(Array.range (n.toNat*zero.length)).map (v.cells[· % v.cells.size]!) :=by
      unfold Builtin.zeroCells;rw[az.1]
     rw[HJ];exact LY
    have pi:(dC zero n.toNat).length=n.toNat*z:=by rw[zd,io]
    have v9:∀ w2:World,(Go.asInt (.int rQ n)).run P w2=.ok n w2:=fun w2=>rfl
    have v2:¬ (281474976710656<n*(by_:Int)) :=by omega
    have qr:∀ w2:World,(zeroValue e).run P w2=.ok zv w2:=fun w2=>by simp[zeroValue,typeInfo,rp,l2]
    have U8:n.toNat*z=0->Builtin.zeroCells zv.cells n.toNat=#[] :=fun aI=>by
     apply awO;unfold Builtin.zeroCells;simp[j8,io,aI]
    refine PB rel ax dQ aC ak pi (vs:=(Builtin.zeroCells zv.cells n.toNat).toList) ⟨by simpa using cA.1,fun j c ai=>by
     obtain⟨v,a2,a9,bV⟩:=cA.2 j c ai;exact⟨v,by rw[avJ]; exact a2,a9,bV⟩⟩ (fun base sLen hh w' eC b5=>?_) (fun mw aui gQ U9 base sLen hh fS au aw az ag=>?_)
    ·by_cases aI:n.toNat*z=0
     ·rw[U8 aI] at b5;cases base with
      | none=>
       subst b5;simp[Builtin.append_,v9,cx kV,cx aM,fK ax,AV,jj,typeInfo,rp,mj,eC,v2,aI]
      | some a=>
       simp only at b5;simp[Builtin.append_,v9,cx kV,cx aM,fK ax,AV,jj,typeInfo,rp,mj,eC,v2,aI,b5]
     ·cases base with
      | none=>
       subst b5;simp[Builtin.append_,v9,cx kV,cx aM,fK ax,AV,jj,typeInfo,rp,mj,eC,v2,aI,qr]
      | some a=>
       simp only at b5;simp[Builtin.append_,v9,cx kV,cx aM,fK ax,AV,jj,typeInfo,rp,mj,eC,v2,aI,qr,b5]
    ·rw[rp] at gQ;cases gQ;rw[l2] at U9;cases U9;have Lf:¬ (281474976710656<Builtin.nextslicecap (sLen+n.toNat) hh*i.bytes) :=by
      have:=growslice_fits (need:=sLen+n.toNat) (old:=hh) (bytes:=i.bytes) aw az;omega
     have Ux:¬ (sLen+n.toNat<=hh) :=by omega
     have yy:¬ ((9223372036854775807:Int)<((sLen+n.toNat:Nat) :Int)) :=by
      have ad:(sLen+n.toNat)*1<=(sLen+n.toNat)*i.bytes:=Nat.mul_le_mul_left _ ag;unfold cw at az;omega
     have Uu:¬ ((9223372036854775807:Int)<(sLen:Int)+max n 0) :=by omega
     rw[rE] at au;rw[mj] at Lf;by_cases aI:n.toNat*z=0
     ·have yu:(fS++(Builtin.zeroCells zv.cells n.toNat).toList).toArray=fS.toArray:=by rw[U8 aI]; simp
      rw[yu];simp[Builtin.append_,v9,cx kV,cx aM,fK ax,AV,jj,typeInfo,rp,mj,Ux,v2,yy,Uu,Lf,aI,qr,au,Question.forced,newRow,grownCap]
     ·have yu:(fS++(Builtin.zeroCells zv.cells n.toNat).toList).toArray=fS.toArray++Builtin.zeroCells zv.cells n.toNat:=by simp
      rw[yu];simp[Builtin.append_,v9,cx kV,cx aM,fK ax,AV,jj,typeInfo,rp,mj,Ux,v2,yy,Uu,Lf,aI,qr,au,Question.forced,newRow,grownCap]
   ·cases aC
  ·cases aC
 ·cases aC
end

section
variable {P:Program} {w:World} {R:Nat->Prop} {B:Nat} {h:aN} {μ:ck}
theorem aaK {op:BinOp} {t:TypeId} {k k' : IntKind} {a b:Int} {c:U} (ah:ct op k a k' b=some c) :
  ∃ v,(binOp op t (.int k a) (.int k' b)).run P w=.ok v w/\aO w R h μ c v:=by
 cases op
 case shl=>
  simp only[ct] at ah;split at ah
  ·cases ah
  ·rename_i ag;simp only[Option.some.injEq] at ah; subst ah;exact⟨_,by simp[binOp,Op.shift,ag],.int _ _⟩
 case shr=>
  simp only[ct] at ah;split at ah
  ·cases ah
  ·rename_i ag;simp only[Option.some.injEq] at ah; subst ah;exact⟨_,by simp[binOp,Op.shift,ag],.int _ _⟩
 case quo=>
  simp only[ct] at ah;split at ah
  ·rename_i ag;obtain⟨rfl,ag⟩:=ag;simp only[Option.some.injEq] at ah; subst ah;exact⟨_,by simp[binOp,Op.intDiv,ag],.int _ _⟩
  ·cases ah
 case rem=>
  simp only[ct] at ah;split at ah
  ·rename_i ag;obtain⟨rfl,ag⟩:=ag;simp only[Option.some.injEq] at ah; subst ah;exact⟨_,by simp[binOp,Op.intDiv,ag],.int _ _⟩
  ·cases ah
 all_goals
  simp only[ct] at ah;split at ah
  ·rename_i ar;subst ar;simp only[Option.some.injEq] at ah; subst ah
   first
    | (refine⟨_,?_,.int _ _⟩; unfold binOp; simp only[ne_eq,not_true_eq_false,if_false]; rfl)
    | (refine⟨_,?_,.bool _⟩; unfold binOp; simp only[ne_eq,not_true_eq_false,if_false]; rfl)
  ·cases ah
theorem toList_eq (s:ByteArray) :s.toList=s.data.toList:=by
 rw[ByteArray.toList_eq]
theorem aaL {op:BinOp} {t:TypeId} {a b:ByteArray} {c:U} (ah:vB op a.data.toList b.data.toList=some c) :
  ∃ v,(binOp op t (.string a) (.string b)).run P w=.ok v w/\aO w R h μ c v:=by
 cases op<;>simp only[vB] at ah<;>try (cases ah; done)
 case add=>
  split at ah
  ·rename_i dO;simp only[Option.some.injEq] at ah; subst ah;have ad:a.data.toList.length=a.size:=by simp
   have ae:b.data.toList.length=b.size:=by simp
   rw[ad,ae] at dO;have DD:¬ ((9223372036854775807:Int)<(a.size:Int)+(b.size:Int)) :=by omega
   have al:(a++b).data.toList=a.data.toList++b.data.toList:=by simp
   refine⟨.string (a++b),by simp[binOp,Op.stringOp,DD],?_⟩;rw[<-al];exact .str _
  ·cases ah
 all_goals
  simp only[Option.some.injEq] at ah; subst ah;exact⟨_,by simp[binOp,Op.stringOp,toList_eq],.bool _⟩
theorem acA {d:Nat} {t:TypeId} {a b:Bool} (aM:P.underlying t=some .bool) :(Op.equalIn (d+1) t (.bool a) (.bool b)).run P w=.ok (a == b) w:=by
 simp[Op.equalIn,cx aM]
theorem acB {d:Nat} {t:TypeId} {hu k:IntKind} {a b:Int} (aM:P.underlying t=some (.int hu)) :(Op.equalIn (d+1) t (.int k a) (.int k b)).run P w=.ok (a == b) w:=by
 simp[Op.equalIn,cx aM]
theorem acC {d:Nat} {t:TypeId} {a b:ByteArray} (aM:P.underlying t=some .string) :(Op.equalIn (d+1) t (.string a) (.string b)).run P w=.ok (a.data.toList == b.data.toList) w:=by
 simp[Op.equalIn,cx aM,toList_eq,beq_toListBytes]
theorem Km {d:Nat} {t e:TypeId} {x y l c:Nat} {b:Option Addr} (aM:P.underlying t=some (.slice e)) :(Op.equalIn (d+1) t (.slice none x y) (.slice b l c)).run P w=.ok b.isNone w:=by
 simp[Op.equalIn,cx aM]
theorem Sr {d:Nat} {t e:TypeId} {x y l c:Nat} {a:Addr} (aM:P.underlying t=some (.slice e)) :(Op.equalIn (d+1) t (.slice (some a) l c) (.slice none x y)).run P w=.ok false w:=by
 simp[Op.equalIn,cx aM]
theorem Kj {d:Nat} {xs bJ:List U} {sd se:Array Value}
  (aR:∀ (t:TypeId) (x y:U) (b:Bool) (bE gm:Value),eU P d t x y=some b->aO w R h μ x bE->aO w R h μ y gm->(Op.equalIn d t bE gm).run P w=.ok b w)
  (sT:lF w R h μ xs sd) (sU:lF w R h μ bJ se) :∀ (l:List Field) (b:Bool),eU.eqFields P (eU P d) xs bJ l=some b->(Op.eqFields d sd se l).run P w=.ok b w
 | [],b,ag=>by simp only[eU.eqFields,Option.some.injEq] at ag; subst ag; simp[Op.eqFields]
 | f::l,b,ag=>by
  unfold eU.eqFields at ag;unfold Op.eqFields;by_cases aE:f.name= "_"
  ·rw[if_pos aE] at ag;simp[aE,Kj aR sT sU l b ag]
  ·rw[if_neg aE] at ag;split at ag
   ·rename_i a c aC ah;obtain⟨iF,ad,ae⟩:=wU (P:=P) aC sT;obtain⟨ev,aj,aG⟩:=wU (P:=P) ah sU;split at ag
    ·rename_i heq;have:=aR f.type a c true iF ev heq ae aG;simp[aE,ad,aj,this,Kj aR sT sU l b ag]
    ·rename_i heq;have:=aR f.type a c false iF ev heq ae aG;simp only[Option.some.injEq] at ag; subst ag;simp[aE,ad,aj,this]
    ·cases ag
   ·cases ag
theorem Sn {d z:Nat} {e:TypeId} {xs bJ:List U} {sd se:Array Value}
  (aR:∀ (t:TypeId) (x y:U) (b:Bool) (bE gm:Value),eU P d t x y=some b->aO w R h μ x bE->aO w R h μ y gm->(Op.equalIn d t bE gm).run P w=.ok b w)
  (sT:lF w R h μ xs sd) (sU:lF w R h μ bJ se) (f:Nat->Option Bool × Unit->Sem (ForInStep (Option Bool × Unit)))
  (aE:∀ (i:Nat) (iF ev:Value) (b:Bool) (r:Option Bool × Unit),(part e sd (i*z)).run P w=.ok iF w->(part e se (i*z)).run P w=.ok ev w->(Op.equalIn d e iF ev).run P w=.ok b w->
   (f i r).run P w=.ok (if b then .yield (none,()) else .done (some false,())) w) :
  ∀ (n i:Nat) (b:Bool),eU.sy P (eU P d) e z xs bJ n i=some b->(forIn (List.range' i n) (none,()) f).run P w=.ok (if b then (none,()) else (some false,())) w
 | 0,i,b,ag=>by
  simp only[eU.sy,Option.some.injEq] at ag; subst ag;simp
 | n+1,i,b,ag=>by
  unfold eU.sy at ag;split at ag
  ·rename_i a c aC ah;obtain⟨iF,ad,ae⟩:=wU (P:=P) aC sT;obtain⟨ev,aj,aG⟩:=wU (P:=P) ah sU;rw[List.range'_succ,List.forIn_cons];split at ag
   ·rename_i heq;have a7:=aR e a c true iF ev heq ae aG;have aS:=aE i iF ev true (none,()) (ad w) (aj w) a7;simp only[Sem.run_bind,aS,if_true,Result.andThen_ok];exact Sn aR sT sU f aE n (i+1) b ag
   ·rename_i heq;have a7:=aR e a c false iF ev heq ae aG;have aS:=aE i iF ev false (none,()) (ad w) (aj w) a7;simp only[Option.some.injEq] at ag; subst ag;simp[aS]
   ·cases ag
  ·cases ag
theorem run_equalIn_array {d n z:Nat} {t e:TypeId} {sd se:Array Value} (aM:P.underlying t=some (.array n e)) (ax:cz P e=some z) {b:Bool}
  (ar:∀ f:Nat->Option Bool × Unit->Sem (ForInStep (Option Bool × Unit)),
   (∀ (i:Nat) (iF ev:Value) (b:Bool) (r:Option Bool × Unit),(part e sd (i*z)).run P w=.ok iF w->(part e se (i*z)).run P w=.ok ev w->(Op.equalIn d e iF ev).run P w=.ok b w->(f i r).run P w=.ok (if b then .yield (none,()) else .done (some false,())) w)->
   (forIn (List.range' 0 n) (none,()) f).run P w=.ok (if b then (none,()) else (some false,())) w) :
  (Op.equalIn (d+1) t (.agg sd) (.agg se)).run P w=.ok b w:=by
 simp only[Op.equalIn,Sem.run_bind,cx aM,Result.andThen_ok,fK ax];rw[Std.Legacy.Range.forIn_eq_forIn_range'];have az:List.range' ([:n] :Std.Legacy.Range).start ([:n] :Std.Legacy.Range).size ([:n] :Std.Legacy.Range).step=List.range' 0 n:=by simp[Std.Legacy.Range.size]
 rw[az,ar]
 ·cases b<;>simp
 ·intro i iF ev b r ad ae aj;cases b<;>simp[ad,ae,aj]
theorem Kk:∀ (d:Nat) (t:TypeId) (x y:U) (b:Bool) (bE gm:Value),eU P d t x y=some b->aO w R h μ x bE->aO w R h μ y gm->
  (Op.equalIn d t bE gm).run P w=.ok b w:=by
 intro d
 induction d with
 | zero=>intro t x y b bE gm am; simp[eU] at am
 | succ d aR=>
  intro t x y b bE gm am af aJ;unfold eU at am;split at am
  ·rename_i a bg aM;simp only[Option.some.injEq] at am; subst am;cases af; cases aJ;exact acA aM
  ·rename_i hu k a k' bg aM;split at am
   ·rename_i ar; subst ar;simp only[Option.some.injEq] at am; subst am;cases af; cases aJ;exact acB aM
   ·cases am
  ·rename_i a bg aM;simp only[Option.some.injEq] at am; subst am;cases af; cases aJ;exact acC aM
  ·rename_i fs xs bJ aM;split at am
   ·cases am
   ·rename_i b5;obtain⟨sd,rfl,sT⟩:=vw af;obtain⟨se,rfl,sU⟩:=vw aJ;have agL:P.stoodInHeld t=false:=by simpa using b5
    have ut:P.fieldsOf t=fs:=by simp[Program.fieldsOf,aM]
    rw[run_equalIn_struct w d t sd se (by rw[ut]; exact aM) agL,ut];exact Kj aR sT sU _ _ am
  ·rename_i n e xs bJ aM;cases ax:cz P e with
   | none=>rw[ax] at am; cases am
   | some z=>
    rw[ax] at am;simp only at am;obtain⟨sd,rfl,sT⟩:=vw af;obtain⟨se,rfl,sU⟩:=vw aJ;exact run_equalIn_array aM ax (fun f aE=>Sn aR sT sU f aE n 0 b am)
  ·rename_i e aM;simp only[Option.some.injEq] at am; subst am;cases af; cases aJ;exact Km aM
  ·rename_i e z bg off len cap sz aM;simp only[Option.some.injEq] at am; subst am;cases af; cases aJ<;>exact Km aM
  ·rename_i e z es aM;simp only[Option.some.injEq] at am; subst am;cases af; cases aJ<;>exact Km aM
  ·rename_i e z bg off len cap sz aM;simp only[Option.some.injEq] at am; subst am;cases aJ; cases af<;>exact Sr aM
  ·rename_i e z es aM;simp only[Option.some.injEq] at am; subst am;cases aJ; cases af<;>exact Sr aM
  ·cases am
end

end Go.b0

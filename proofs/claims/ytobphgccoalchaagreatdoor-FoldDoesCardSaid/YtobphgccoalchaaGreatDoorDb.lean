/-
  The canonical machine, part E: slices: what they hold, append, slicing, copy, make, len.
-/
import Derived.Test.YtobphgccoalchaaGreatDoorDa
import Derived.Lib.IndexBytes
import Derived.Laws.BytesString
import Derived.Lib.ConvBytes
set_option linter.unusedVariables false
set_option linter.unusedSimpArgs false
set_option linter.unnecessarySimpa false
namespace Go.ct
open Go
section
variable {P:Program} {w:World} {R:Nat->Prop} {B:Nat} {h:bh} {μ:dd}
theorem mo {α:Type} {z:Nat}:∀ {es:List (List α)},(∀ e,e∈es->e.length=z)->es.flatten.length=es.length*z
 | [],_=>by simp
 | e::es,az=>by
  rw[aDM,aCS,az e (by simp),mo (fun e au=>az e (by simp[au])),aC6,aDj,aFQ]
theorem SO {α:Type} {z:Nat}:∀ {es:List (List α)} {j:Nat} {c:α},(∀ e,e∈es->e.length=z)->es.flatten[j]? = some c->
  ∃ i k e,j=i*z+k/\k<z/\es[i]? = some e/\e[k]? = some c
 | [],_,_,_,am=>by simp at am
 | e::es,j,c,az,am=>by
  have au:=az e (by simp);rw[aDM] at am;by_cases aP:j<e.length
  ·rw[aCK aP] at am;exact⟨0,j,e,by simp,by omega,rfl,am⟩
  ·rw[aCT (by omega)] at am;obtain⟨i,k,fV,h1,ag,aq,aH⟩:=SO (fun e au=>az e (by simp[au])) am;exact⟨i+1,k,fV,by rw[aDj]; omega,ag,by simpa using aq,aH⟩
def tk (w:World) (R:Nat->Prop) (h:bh) (μ:dd) (xs:List ad) (vs:List Value) :Prop:=
 vs.length=xs.length/\∀ (j:Nat) (c:ad),xs[j]? = some c->∃ v:Value,vs[j]? = some v/\v.oneCell'=true/\aZ w R h μ c v
theorem MC {w2:World} {xs:List ad} {blk o:Nat} (m5:∀ a,w2.cell? a=w.cell? a)
  (al:∀ (j:Nat) (c:ad),xs[j]? = some c->∃ v:Value,w.cell? ⟨blk,o+j,none⟩=some v/\v.oneCell'=true/\aZ w R h μ c v) :
  ∃ vs:List Value,tk w R h μ xs vs/\∀ k,k<=xs.length->∀ w2:World,(∀ a,w2.cell? a=w.cell? a)->(loadCells ⟨blk,o,none⟩ k).run P w2=.ok (vs.take k).toArray w2:=by
 have ay:∃ f:Nat->Value,∀ (j:Nat) (c:ad),xs[j]? = some c->w.cell? ⟨blk,o+j,none⟩=some (f j)/\(f j).oneCell'=true/\aZ w R h μ c (f j) :=by
  refine⟨fun j=>(w.cell? ⟨blk,o+j,none⟩).getD undef,fun j c am=>?_⟩;obtain⟨v,h1,ag,aq⟩:=al j c am;simp only[h1,aDA];exact⟨trivial,ag,aq⟩
 obtain⟨f,aL⟩:=ay;refine⟨(List.range xs.length).map f,⟨by simp,fun j c am=>?_⟩,fun k hk w2 m4=>?_⟩
 ·have aP:j<xs.length:=(aCJ.1 am).1;exact⟨f j,by simp[aP],(aL j c am).2⟩
 ·have:=run_loadCells_list (P:=P) w2 ⟨blk,o,none⟩ (((List.range xs.length).map f).take k) (fun j v am=>by
   have eL:j<k:=by
    rcases aDK j k with h1 | h1
    ·exact h1
    ·rw[aC0 (by simp; omega)] at am; cases am
   rw[aCW eL,aCO] at am;have m9:j<xs.length:=by omega
   rw[aDN m9] at am;simp only[aCR,Option.some.injEq] at am;rw[Addr.mW,<-am,m4];exact (aL j _ (aCM m9)).1)
  have ar:(((List.range xs.length).map f).take k).length=k:=by simp; omega
  rw[ar] at this;exact this
theorem vj (rel:cp R B w h μ) {z n:Nat} {x:ad} {bY:Value} {xs:List ad} (ak:contents h z x=some (xs,n)) (al:aZ w R h μ x bY) :
  xs.length=n*z/\(Builtin.lenOf bY).run P w=.ok n w/\∃ vs:List Value,tk w R h μ xs vs ∧
   ∀ k,k<=n->∀ w2:World,(∀ a,w2.cell? a=w.cell? a)->(Builtin.firstCells z k bY).run P w2=.ok (vs.take (k*z)).toArray w2:=by
 cases al with
 | aK=>
  simp only[contents,Option.some.injEq,Prod.mk.injEq] at ak;obtain⟨rfl,rfl⟩:=ak;exact⟨by simp,by simp[Builtin.lenOf],[],⟨rfl,fun j c am=>by simp at am⟩,fun k _ w2 _=>by simp[Builtin.firstCells]⟩
 | str bs=>
  simp only[contents] at ak;split at ak
  ·rename_i az; subst az;simp only[Option.some.injEq,Prod.mk.injEq] at ak;obtain⟨rfl,rfl⟩:=ak;refine⟨by simp,by simp[Builtin.lenOf],bs.data.toList.map fun b=>.int .u8 b.toNat,⟨by simp,fun j c am=>?_⟩,fun k hk w2 _=>?_⟩
   ·rw[aCO] at am ⊢;cases ai:bs.data.toList[j]? with
    | none=>rw[ai] at am; cases am
    | some b=>
     rw[ai] at am;simp only[aCR,Option.some.injEq] at am;subst am;exact⟨_,rfl,rfl,.int _ _⟩
   ·have al:(bs.extract 0 k).data.toList=bs.data.toList.take k:=by
     simp[ByteArray.extract,ByteArray.copySlice]
    have aE:(bs.extract 0 k).data=(bs.data.toList.take k).toArray:=by rw[<-al]
    simp only[Builtin.firstCells,aE];simp
  ·cases ak
 | cr eG es blk off cap eT ar az m5 ay=>
  simp only[contents] at ak;split at ak
  ·rename_i qq; subst qq;simp only[Option.some.injEq,Prod.mk.injEq] at ak;obtain⟨rfl,rfl⟩:=ak;have bu:=mo az;have cW:∀ (j:Nat) (c:ad),es.flatten[j]? = some c->∃ v:Value,w.cell? ⟨blk,off+j,none⟩=some v/\v.oneCell'=true/\aZ w R h μ c v:=by
    intro j c am;obtain⟨i,k,e,rfl,hk,au,alk⟩:=SO az am;have aB:i<es.length:=(aCJ.1 au).1;have dM:=m5 i k aB hk;exact⟨eT i k,dM.here,dM.one,ay i e au k c alk⟩
   obtain⟨vs,h1,ag⟩:=MC (P:=P) (w2:=w) (fun _=>rfl) cW;refine⟨bu,by simp[Builtin.lenOf],vs,h1,fun k hk w2 m4=>?_⟩;have:=ag (k*z) (by rw[bu]; exact aCN _ hk) w2 m4;simp[Builtin.firstCells,this]
  ·cases ak
 | go eG a cap=>
  simp only[contents] at ak;split at ak
  ·simp only[Option.some.injEq,Prod.mk.injEq] at ak;obtain⟨rfl,rfl⟩:=ak;exact⟨by simp,by simp[Builtin.lenOf],[],⟨rfl,fun j c am=>by simp at am⟩,fun k hk w2 _=>by
    obtain rfl:k=0:=by simpa using hk
    simp[Builtin.firstCells,loadCells,loadCellsFrom]⟩
  ·cases ak
 | av eG b off len cap sz cap' cs m ai hm ar ax dv=>
  simp only[contents,ai,true_and] at ak;split at ak
  ·rename_i qq; subst qq;simp only[Option.some.injEq,Prod.mk.injEq] at ak;obtain⟨rfl,rfl⟩:=ak;have fe:=rel.blk b m hm;rw[ai] at fe;obtain⟨h1,ag,arr,t,gL,aq,aH,bd,bM⟩:=fe;have tV:len*z<=cap*z:=aCN _ ar;have bu:((cs.drop off).take (len*z)).length=len*z:=by
    rw[aCX,aDS]; omega
   have cW:∀ (j:Nat) (c:ad),((cs.drop off).take (len*z))[j]? = some c->∃ v:Value,w.cell? ⟨m.r,(m.s+off)+j,none⟩=some v/\v.oneCell'=true/\aZ w R h μ c v:=by
    intro j c am;have aP:j<len*z:=by
     have:=(aCJ.1 am).1;rw[bu] at this; exact this
    rw[aCW aP,aDh] at am;obtain⟨v,br,bI,a3⟩:=bM _ c am;exact⟨v,by simp[World.cell?,aq,aEm,br],bI,a3⟩
   obtain⟨vs,cn,cc⟩:=MC (P:=P) (w2:=w) (fun _=>rfl) cW;refine⟨bu,by simp[Builtin.lenOf],vs,cn,fun k hk w2 m4=>?_⟩;have:=cc (k*z) (by rw[bu]; exact aCN _ hk) w2 m4;simp[Builtin.firstCells,this]
  ·cases ak
 | iy eG b off sz a cs m ai hm=>
  simp only[contents,ai,true_and] at ak;split at ak
  ·rename_i qq; subst qq;simp only[Option.some.injEq,Prod.mk.injEq,aEV,aD1] at ak;obtain⟨rfl,rfl⟩:=ak;exact⟨by simp,by simp[Builtin.lenOf],[],⟨rfl,fun j c am=>by simp at am⟩,fun k hk w2 _=>by
    obtain rfl:k=0:=by simpa using hk
    simp[Builtin.firstCells,loadCells,loadCellsFrom]⟩
  ·cases ak
 | g4 eG b off len cap sz cap' a ar TV aA=>
  unfold contents at ak;rcases aA with aA | ⟨hE,cs',aA,aP⟩
  ·simp[aA] at ak
  ·simp only[aA] at ak;split at ak
   ·omega
   ·cases ak
 | _=>simp[contents] at ak
theorem BL {t e:TypeId} (au:i7 P t=some e) :P.underlying t=some (.slice e) :=by
 unfold i7 at au;split at au
 ·rename_i fV aS; cases au; exact aS
 ·cases au
def AH (P:Program) (u:TypeId) :Prop:=∃ d,P.underlying u=some d/\∀ k,d≠.int k
theorem VD (d:TypeDesc) (hk:∀ k,d≠.int k) :(match d with | .int _=>true | _=>false)=false:=by
 cases d with
 | int k=>exact absurd rfl (hk k)
 | _=>rfl
theorem run_append_fits {t u ty e:TypeId} {z n sLen hj:Nat} {base:Option Addr} {bY:Value} {vs:List Value} {w' : World} (au:P.underlying t=some (.slice e)) (az:c5 P e=some z) (aS:AH P u)
  (ar:(Builtin.lenOf bY).run P w=.ok n w) (aL:(Builtin.firstCells z n bY).run P w=.ok vs.toArray w) (fv:sLen+n<=hj)
  (cL:match base with | some a=>(storeCells (a.add (sLen*z)) vs).run P w=.ok () w' | none=>w'=w) :
  (Builtin.append_ #[t,u] ty #[.slice base sLen hj,bY]).run P w=.ok (.slice base (sLen+n) hj) w':=by
 obtain⟨d,bX,hk⟩:=aS;have zK:=VD d hk;cases base with
 | none=>
  subst cL;simp[Builtin.append_,cZ au,gh az,cZ bX,zK,ar,fv,aL]
 | some a=>
  simp only at cL;simp[Builtin.append_,cZ au,gh az,cZ bX,zK,ar,fv,aL,cL]
theorem atV {t u ty e:TypeId} {i:TypeInfo} {zv:Value} {n sLen hj:Nat} {base:Option Addr} {bY:Value} {gm vs:List Value} (au:P.underlying t=some (.slice e)) (aB:P.info? e=some i) (l8:i.zero=some zv) (aS:AH P u)
  (ar:(Builtin.lenOf bY).run P w=.ok n w) (aL:(Builtin.firstCells i.size n bY).run P w.drew=.ok vs.toArray w.drew) (ax:(Builtin.firstCells i.size sLen (.slice base sLen hj)).run P w.drew=.ok gm.toArray w.drew)
  (p7:hj<sLen+n) (eb:(sLen+n)*i.bytes<=c4) (ai:0<i.bytes) :
  (Builtin.append_ #[t,u] ty #[.slice base sLen hj,bY]).run P w =
   .ok (.slice (some ⟨w.heap.size,0,none⟩) (sLen+n) (grownCap w (sLen+n) hj e)) (w.drew.alloc (.cells ((gm++vs).toArray++Builtin.zeroCells zv.cells (grownCap w (sLen+n) hj e - (sLen+n))) e)) :=by
 obtain⟨d,bX,hk⟩:=aS;have zK:=VD d hk;have az:c5 P e=some i.size:=by simp[c5,aB]
 have aI:¬ (sLen+n<=hj) :=by omega
 have vr:¬ (281474976710656<Builtin.nextslicecap (sLen+n) hj*i.bytes) :=by
  have:=growslice_fits p7 eb;omega
 have my:¬ (i.bytes=0) :=by omega
 simp[Builtin.append_,cZ au,gh az,cZ bX,zK,ar,aI,typeInfo,aB,vr,my,Question.forced,ax,aL,zeroValue,l8,newRow,grownCap];rw[<-aE9,List.append_toArray gm vs]
theorem ej.drew {h' : bh} {μ' : dd} {w' : World} (e:ej w h μ w' h' μ') :ej w h μ w' h' μ':=e
theorem auo {s:ad} {af:Value} (ap:aZ w R h μ s af) (hk:s=.aK\/(∃ z es,s=.cr z es)\/∃ z b off len cap sz,s=.av z b off len cap sz) :
  ∃ base sLen hj,af=.slice base sLen hj/\sLen<=hj:=by
 cases ap<;>simp at hk
 ·exact⟨_,_,_,rfl,aCL _⟩
 ·rename_i ar ax dM;exact⟨_,_,_,rfl,by omega⟩
 ·rename_i ar TV aA;exact⟨_,_,_,rfl,by omega⟩
 ·exact⟨_,_,_,rfl,aCL _⟩
 ·rename_i ar az ak ay;exact⟨_,_,_,rfl,by omega⟩
 ·exact⟨_,_,_,rfl,aD5 _⟩
theorem ado {e:TypeId} {z:Nat} (az:td P e=some z) :∃ i v,P.info? e=some i/\i.zero=some v/\v.cells.size=z:=by
 unfold td at az;cases aB:P.info? e with
 | none=>rw[aB] at az; cases az
 | some i=>
  rw[aB] at az;simp only[aEp] at az;cases ay:i.zero with
  | none=>rw[ay] at az; cases az
  | some v=>rw[ay] at az; exact⟨i,v,rfl,ay,by simpa using az⟩
theorem B1 {e:TypeId} {zv:Value} {z need cap:Nat} {xs:List ad} {vs:List Value} (az:zv.cells.size=z) (ar:xs.length=need*z) (nh:tk w R h μ xs vs) (dv:need<=cap) :
  (vs.toArray++Builtin.zeroCells zv.cells (cap - need)).size=cap*z ∧
  ∀ (j:Nat) (c:ad),xs[j]? = some c->∃ v:Value,(vs.toArray++Builtin.zeroCells zv.cells (cap - need))[j]? = some v/\v.oneCell'=true/\aZ w R h μ c v:=by
 refine⟨?_,fun j c am=>?_⟩
 ·have h1:(Builtin.zeroCells zv.cells (cap - need)).size=(cap - need)*z:=by simp[Builtin.zeroCells,az]
  have ag:need*z+(cap - need)*z=cap*z:=by rw[<-aDg]; congr 1; omega
  rw[aFJ,h1,aFK,nh.1,ar,ag]
 ·obtain⟨v,h1,ag,aq⟩:=nh.2 j c am;have aP:j<vs.length:=(aCJ.1 h1).1;refine⟨v,?_,ag,aq⟩;rw[aDZ (by simpa using aP)];simpa using h1
theorem N8 (rel:cp R B w h μ) {t u ty e:TypeId} {z by_ n:Nat} {s c:ad} {af bY:Value} {h' : bh} {xs:List ad} {vs:List Value} (az:c5 P e=some z) (eQ:jp P e=some by_)
  (aD:u2 P h e z by_ s xs n=some (c,h')) (ap:aZ w R h μ s af) (bm:xs.length=n*z) (cW:tk w R h μ xs vs)
  (FI:∀ (base:Option Addr) (sLen hj:Nat) (w' : World),sLen+n<=hj->(match base with | some a=>(storeCells (a.add (sLen*z)) vs).run P w=.ok () w' | none=>w'=w)->
   (Builtin.append_ #[t,u] ty #[.slice base sLen hj,bY]).run P w=.ok (.slice base (sLen+n) hj) w')
  (Cs:∀ (i:TypeInfo) (zv:Value),P.info? e=some i->i.zero=some zv->∀ (base:Option Addr) (sLen hj:Nat) (gm:List Value),(Builtin.firstCells i.size sLen (.slice base sLen hj)).run P w.drew=.ok gm.toArray w.drew->
   hj<sLen+n->(sLen+n)*i.bytes<=c4->0<i.bytes->(Builtin.append_ #[t,u] ty #[.slice base sLen hj,bY]).run P w =
   .ok (.slice (some ⟨w.heap.size,0,none⟩) (sLen+n) (grownCap w (sLen+n) hj e)) (w.drew.alloc (.cells ((gm++vs).toArray++Builtin.zeroCells zv.cells (grownCap w (sLen+n) hj e - (sLen+n))) e))) :
  ∃ v w' μ',(Builtin.append_ #[t,u] ty #[af,bY]).run P w=.ok v w'/\ej w h μ w' h' μ'/\cp R B w' h' μ'/\aZ w' R h' μ' c v:=by
 unfold u2 at aD;by_cases aI:n=0
 ·-- nothing is appended
  subst aI;simp only[if_true] at aD;have bT:(c,h')=(s,h) :=by
   split at aD<;>first | (simp only[Option.some.injEq] at aD; exact aD.symm) | cases aD
  have hk:s=.aK\/(∃ z es,s=.cr z es)\/∃ z b off len cap sz,s=.av z b off len cap sz:=by
   split at aD
   ·exact .inl rfl
   ·exact .inr (.inl ⟨_,_,rfl⟩)
   ·exact .inr (.inr ⟨_,_,_,_,_,_,rfl⟩)
   ·cases aD
  simp only[Prod.mk.injEq] at bT;obtain⟨rfl,rfl⟩:=bT;obtain⟨base,sLen,hj,rfl,eD⟩:=auo ap hk;have iZ:vs=[] :=by
   have:vs.length=0:=by rw[cW.1,bm]; simp
   exact aDk.1 this
  subst iZ;have:=FI base sLen hj w (by omega) (by cases base<;>simp[storeCells]);exact⟨_,w,μ,this,.refl _ _ _,rel,by simpa using ap⟩
 ·rw[if_neg aI] at aD;split at aD
  ·cases aD
  ·rename_i kf;simp only[not_or,Decidable.not_not] at kf;obtain⟨sG,mx,il⟩:=kf;obtain⟨i,zv,aB,l8,kj⟩:=ado il;have qn:i.size=z:=by simpa [c5,aB] using az
   have my:i.bytes=by_:=by simpa [jp,aB] using eQ
   have am9:0<z:=Nat.pos_of_ne_zero sG;have JR:∀ a,w.drew.cell? a=w.cell? a:=fun _=>rfl
   split at aD
   ·-- append to nil
    split at aD
    ·rename_i eb;simp only[Option.some.injEq,Prod.mk.injEq] at aD;obtain⟨rfl,rfl⟩:=aD;cases ap;have aA:=Cs i zv aB l8 none 0 0 [] (by simp[Builtin.firstCells]) (by omega) (by rw[my]; simpa using eb) (by omega);have dv:n<=grownCap w (0+n) 0 e:=by have:=grownCap_ge w (0+n) 0 e; omega
     obtain⟨lI,l4⟩:=B1 (e:=e) (zv:=zv) (need:=n) (cap:=grownCap w (0+n) 0 e) kj (by rw[bm]) cW dv;have aF:=rel.push (w':=w.drew.alloc (.cells (vs.toArray++Builtin.zeroCells zv.cells (grownCap w (0+n) 0 e - n)) e)) xs _ e rfl rfl rfl rfl (by rw[lI,bm]; exact aCN _ dv) l4;rw[bm] at aF;refine⟨_,_,_,by simpa using aA,by simpa using aF.1,by simpa using aF.2,?_⟩;have:=aZ.av (w:=w.drew.alloc (.cells (vs.toArray++Builtin.zeroCells zv.cells (grownCap w (0+n) 0 e - n)) e)) (R:=R) (h:=h.push (.cells (n*z) xs)) (μ:=ck μ h.n (some ⟨w.heap.size,0,(vs.toArray++Builtin.zeroCells zv.cells (grownCap w (0+n) 0 e - n)).size⟩))
      z h.n 0 n n (n*z) (grownCap w (0+n) 0 e) xs ⟨w.heap.size,0,(vs.toArray++Builtin.zeroCells zv.cells (grownCap w (0+n) 0 e - n)).size⟩ (by simp[eS,ga]) (by simp) (aCL _) (by omega) (.inr ⟨by omega,dv,by simp only; rw[lI]; omega⟩)
     simpa using this
    ·cases aD
   ·rename_i eG b off len cap sz;cases ai:h.f b with
    | cells m cs=>
     rw[ai] at aD;simp only at aD;split at aD
     ·rename_i Cm;obtain⟨rfl,rfl,eb⟩:=Cm;cases ap with
      | g4 _ _ _ _ _ _ cap' a ar TV aA=>
       exfalso;rcases aA with aA | ⟨hE,cs',aA,aP⟩
       ·rw[aA] at ai; cases ai
       ·rw[aA] at ai; cases ai; omega
      | iy _ _ _ _ a cs' cF ca hm=>
       rw[ai] at ca; cases ca;have o4:=rel.r4 hm;rw[if_neg (by omega),aEV,aD1,aD1,aDq,aDT] at aD;have aA:=Cs i zv aB l8 (some a) 0 0 [] (by simp[Builtin.firstCells,loadCells,loadCellsFrom]) (by omega) (by rw[my]; exact eb) (by omega);rw[aDT] at aA;have dv:n<=grownCap w n 0 e:=grownCap_ge _ _ _ _;obtain⟨lI,l4⟩:=B1 (e:=e) (zv:=zv) (need:=n) (cap:=grownCap w n 0 e) kj (by rw[bm]) cW dv;split at aD
       ·simp only[Option.some.injEq,Prod.mk.injEq] at aD;obtain⟨rfl,rfl⟩:=aD;have aF:=rel.push (w':=w.drew.alloc (.cells (vs.toArray++Builtin.zeroCells zv.cells (grownCap w n 0 e - n)) e)) xs _ e rfl rfl rfl rfl (by rw[lI,bm]; exact aCN _ dv) l4;rw[bm] at aF;refine⟨_,_,_,by simpa using aA,by simpa using aF.1,by simpa using aF.2,?_⟩;have:=aZ.av (w:=w.drew.alloc (.cells (vs.toArray++Builtin.zeroCells zv.cells (grownCap w n 0 e - n)) e)) (R:=R) (h:=h.push (.cells (n*z) xs)) (μ:=ck μ h.n (some ⟨w.heap.size,0,(vs.toArray++Builtin.zeroCells zv.cells (grownCap w n 0 e - n)).size⟩))
         z h.n 0 n n (n*z) (grownCap w n 0 e) xs ⟨w.heap.size,0,(vs.toArray++Builtin.zeroCells zv.cells (grownCap w n 0 e - n)).size⟩ (by simp[eS,ga]) (by simp) (aCL _) (by omega) (.inr ⟨by omega,dv,by simp only; rw[lI]; omega⟩)
        simpa using this
       ·rename_i xK;split at aD
        ·rename_i zX;subst zX;simp only[Option.some.injEq,Prod.mk.injEq] at aD;obtain⟨rfl,rfl⟩:=aD;have nL:m<n*z:=by
          have:1*1<=n*z:=Nat.mul_le_mul (by omega) am9;omega
         have aF:=rel.move (w':=w.drew.alloc (.cells (vs.toArray++Builtin.zeroCells zv.cells (grownCap w n 0 e - n)) e)) ai hm rfl rfl rfl rfl bm nL (by rw[lI]; exact aCN _ dv) l4;refine⟨_,_,_,by simpa using aA,by simpa using aF.1,by simpa using aF.2,?_⟩;have:=aZ.av (w:=w.drew.alloc (.cells (vs.toArray++Builtin.zeroCells zv.cells (grownCap w n 0 e - n)) e)) (R:=R) (h:=h.set b (.cells (n*z) xs)) (μ:=ck μ b (some ⟨w.heap.size,0,(vs.toArray++Builtin.zeroCells zv.cells (grownCap w n 0 e - n)).size⟩))
          z b 0 n n (n*z) (grownCap w n 0 e) xs ⟨w.heap.size,0,(vs.toArray++Builtin.zeroCells zv.cells (grownCap w n 0 e - n)).size⟩ (by simp[ez,fw]) (by simp) (aCL _) (by omega) (.inr ⟨by omega,dv,by simp only; rw[lI]; omega⟩)
         simpa using this
        ·simp only[Option.some.injEq,Prod.mk.injEq] at aD;obtain⟨rfl,rfl⟩:=aD;have aF:=rel.push (w':=w.drew.alloc (.cells (vs.toArray++Builtin.zeroCells zv.cells (grownCap w n 0 e - n)) e)) xs _ e rfl rfl rfl rfl (by rw[lI,bm]; exact aCN _ dv) l4;rw[bm] at aF;have hk:=aF.2.kill (b:=b) (sz:=m) (cs:=cs) (h':=(h.set b .dead).push (.cells (n*z) xs)) (by rw[eS,cB _ _ _ _ (by omega)]; exact ai) (by rw[ga]; omega) (by
          rw[eS,eS,ez,fw];funext x;simp only[ck];by_cases h1:x=h.n
          ·rw[if_pos h1,if_neg (by omega),if_pos h1]
          ·rw[if_neg h1];split<;>rfl) rfl
         refine⟨_,_,_,by simpa using aA,by simpa using aF.1.trans hk.1,by simpa using hk.2,?_⟩;have:=aZ.av (w:=w.drew.alloc (.cells (vs.toArray++Builtin.zeroCells zv.cells (grownCap w n 0 e - n)) e)) (R:=R) (h:=(h.set b .dead).push (.cells (n*z) xs)) (μ:=ck μ h.n (some ⟨w.heap.size,0,(vs.toArray++Builtin.zeroCells zv.cells (grownCap w n 0 e - n)).size⟩))
          z h.n 0 n n (n*z) (grownCap w n 0 e) xs ⟨w.heap.size,0,(vs.toArray++Builtin.zeroCells zv.cells (grownCap w n 0 e - n)).size⟩ (by rw[eS,fw,kz]) (by simp) (aCL _) (by omega) (.inr ⟨by omega,dv,by simp only; rw[lI]; omega⟩)
         simpa using this
      | av _ _ _ _ _ _ cap' cs' cF ca hm ar ax dM=>
       have fe:=rel.blk b cF hm;rw[ai] at fe;obtain⟨TX,dH,_⟩:=fe;rw[ai] at ca; cases ca;have tV:len*z<=cap*z:=aCN _ ar;have TT:cap<=cap':=by rcases dM with dM | dM<;>omega
       split at aD
       ·-- in place,within what the machine knows
        rename_i fv;simp only[Option.some.injEq,Prod.mk.injEq] at aD;obtain⟨rfl,rfl⟩:=aD;have UI:len*z+n*z<=cap*z:=by rw[<-aDg]; exact aCN _ fv
        have na:max m (off+len*z+xs.length)=m:=by omega
        obtain⟨w',h1,ag,aq⟩:=yO (P:=P) rel (cvs:=xs) (vs:=vs) (k:=off+len*z) ai hm (by omega) cW.1 (by omega) cW.2;rw[na] at ag aq;have cL:(storeCells ((⟨cF.r,cF.s+off,none⟩:Addr).add (len*z)) vs).run P w=.ok () w':=by rw[Addr.mW,aEm]; exact h1
        refine⟨_,w',μ,FI (some ⟨cF.r,cF.s+off,none⟩) _ _ _ (by omega) cL,ag,aq,?_⟩;exact .av z b off (len+n) cap m cap' _ cF (by simp[ez,fw]; rfl) hm fv ax dM
       ·rename_i ay6;split at aD
        ·-- beyond a slice whose end lies within the row: it moves
         rename_i ayM;simp only[Option.some.injEq,Prod.mk.injEq] at aD;obtain⟨rfl,rfl⟩:=aD;have fD:cap'=cap:=by rcases dM with dM | dM<;>omega
         subst fD;have cQ:contents h z (.av z b off len cap' m)=some ((cs.drop off).take (len*z),len) :=by simp[contents,ai]
         obtain⟨cH,_,gm,iN,CJ⟩:=vj (P:=P) rel cQ (aZ.av z b off len cap' m cap' cs cF ai hm ar ax dM);have x0:∀ w2:World,(∀ a,w2.cell? a=w.cell? a)->(Builtin.firstCells z len (.slice (some ⟨cF.r,cF.s+off,none⟩) len cap')).run P w2=.ok gm.toArray w2:=fun w2 mE=>by
          have:=CJ len (aCL _) w2 mE
          rwa [aCI (by rw[iN.1,cH]; exact aCL _)] at this
         have aA:=Cs i zv aB l8 (some ⟨cF.r,cF.s+off,none⟩) len cap' gm (by rw[qn]; exact x0 w.drew JR) (by omega) (by rw[my]; exact eb) (by omega);have dv:len+n<=grownCap w (len+n) cap' e:=grownCap_ge _ _ _ _;have Cj:tk w R h μ ((cs.drop off).take (len*z)++xs) (gm++vs) :=by
          refine⟨by simp[iN.1,cW.1],fun j c am=>?_⟩;by_cases aP:j<((cs.drop off).take (len*z)).length
          ·rw[aCK aP] at am;rw[aCK (by rw[iN.1]; exact aP)];exact iN.2 j c am
          ·rw[aCT (by omega)] at am;rw[aCT (by rw[iN.1]; omega),iN.1];exact cW.2 _ c am
         have fo:((cs.drop off).take (len*z)++xs).length=(len+n)*z:=by rw[aCS,cH,bm,aDg]
         obtain⟨lI,l4⟩:=B1 (e:=e) (zv:=zv) (need:=len+n) (cap:=grownCap w (len+n) cap' e) kj fo Cj dv;have aF:=rel.push (w':=w.drew.alloc (.cells ((gm++vs).toArray++Builtin.zeroCells zv.cells (grownCap w (len+n) cap' e - (len+n))) e)) _ _ e rfl rfl rfl rfl (by rw[lI,fo]; exact aCN _ dv) l4;rw[fo] at aF;refine⟨_,_,_,aA,aF.1,aF.2,?_⟩;have:=aZ.av (w:=w.drew.alloc (.cells ((gm++vs).toArray++Builtin.zeroCells zv.cells (grownCap w (len+n) cap' e - (len+n))) e)) (R:=R) (h:=h.push (.cells ((len+n)*z) ((cs.drop off).take (len*z)++xs))) (μ:=ck μ h.n (some ⟨w.heap.size,0,((gm++vs).toArray++Builtin.zeroCells zv.cells (grownCap w (len+n) cap' e - (len+n))).size⟩))
          z h.n 0 (len+n) (len+n) ((len+n)*z) (grownCap w (len+n) cap' e) _ ⟨w.heap.size,0,((gm++vs).toArray++Builtin.zeroCells zv.cells (grownCap w (len+n) cap' e - (len+n))).size⟩ (by simp[eS,ga]; rfl) (by simp) (aCL _) (by omega) (.inr ⟨by omega,dv,by simp only; rw[lI]; omega⟩)
         simpa using this
        ·rename_i xK;split at aD
         ·-- beyond the row's end: in place,or it moves
          rename_i zX;subst zX;simp only[Option.some.injEq,Prod.mk.injEq] at aD;obtain⟨rfl,rfl⟩:=aD;obtain⟨alg,o5,T4⟩:0+cap*z=m/\cap<=cap'/\cF.s+0+cap'*z<=cF.T:=by rcases dM with dM | dM<;>omega
          have nL:m<(len+n)*z:=by
           have:(cap+1)*z<=(len+n)*z:=aCN _ (by omega);rw[aDg] at this;omega
          have amS:len*z+n*z=(len+n)*z:=by rw[aDg]
          by_cases fv:len+n<=cap'
          ·have al8:(len+n)*z<=cap'*z:=aCN _ fv;have na:max m (len*z+xs.length)=(len+n)*z:=by omega
           obtain⟨w',h1,ag,aq⟩:=yO (P:=P) rel (cvs:=xs) (vs:=vs) (k:=len*z) ai hm (by omega) cW.1 (by omega) cW.2;rw[na] at ag aq;have uc:bO cs (len*z) xs=cs.take (len*z)++xs:=by
            unfold bO;rw[aDB (by omega),aDl]
           rw[uc] at ag aq;have cL:(storeCells ((⟨cF.r,cF.s+0,none⟩:Addr).add (len*z)) vs).run P w=.ok () w':=by rw[Addr.mW,aEm]; simpa using h1
           refine⟨_,w',μ,FI (some ⟨cF.r,cF.s+0,none⟩) _ _ _ fv cL,ag,aq,?_⟩;exact .av z b 0 (len+n) (len+n) ((len+n)*z) cap' _ cF (by simp[ez,fw]; rfl) hm (aCL _) (by omega) (.inr ⟨by omega,fv,T4⟩)
          ·have cQ:contents h z (.av z b 0 len cap m)=some ((cs.drop 0).take (len*z),len) :=by simp[contents,ai]
           obtain⟨cH,_,gm,iN,CJ⟩:=vj (P:=P) rel cQ (aZ.av z b 0 len cap m cap' cs cF ai hm ar ax dM);have x0:∀ w2:World,(∀ a,w2.cell? a=w.cell? a)->(Builtin.firstCells z len (.slice (some ⟨cF.r,cF.s+0,none⟩) len cap')).run P w2=.ok gm.toArray w2:=fun w2 mE=>by
            have:=CJ len (aCL _) w2 mE
            rwa [aCI (by rw[iN.1,cH]; exact aCL _)] at this
           rw[aDH] at cH iN;have aA:=Cs i zv aB l8 (some ⟨cF.r,cF.s+0,none⟩) len cap' gm (by rw[qn]; exact x0 w.drew JR) (by omega) (by rw[my]; exact eb) (by omega);have dv:len+n<=grownCap w (len+n) cap' e:=grownCap_ge _ _ _ _;have Cj:tk w R h μ (cs.take (len*z)++xs) (gm++vs) :=by
            refine⟨by simp[iN.1,cW.1],fun j c am=>?_⟩;by_cases aP:j<(cs.take (len*z)).length
            ·rw[aCK aP] at am;rw[aCK (by rw[iN.1]; exact aP)];exact iN.2 j c am
            ·rw[aCT (by omega)] at am;rw[aCT (by rw[iN.1]; omega),iN.1];exact cW.2 _ c am
           have fo:(cs.take (len*z)++xs).length=(len+n)*z:=by rw[aCS,cH,bm,aDg]
           obtain⟨lI,l4⟩:=B1 (e:=e) (zv:=zv) (need:=len+n) (cap:=grownCap w (len+n) cap' e) kj fo Cj dv;have aF:=rel.move (w':=w.drew.alloc (.cells ((gm++vs).toArray++Builtin.zeroCells zv.cells (grownCap w (len+n) cap' e - (len+n))) e)) ai hm rfl rfl rfl rfl fo nL (by rw[lI]; exact aCN _ dv) l4;refine⟨_,_,_,aA,aF.1,aF.2,?_⟩;have:=aZ.av (w:=w.drew.alloc (.cells ((gm++vs).toArray++Builtin.zeroCells zv.cells (grownCap w (len+n) cap' e - (len+n))) e)) (R:=R) (h:=h.set b (.cells ((len+n)*z) (cs.take (len*z)++xs))) (μ:=ck μ b (some ⟨w.heap.size,0,((gm++vs).toArray++Builtin.zeroCells zv.cells (grownCap w (len+n) cap' e - (len+n))).size⟩))
            z b 0 (len+n) (len+n) ((len+n)*z) (grownCap w (len+n) cap' e) _ ⟨w.heap.size,0,((gm++vs).toArray++Builtin.zeroCells zv.cells (grownCap w (len+n) cap' e - (len+n))).size⟩ (by simp[ez,fw]; rfl) (by simp) (aCL _) (by omega) (.inr ⟨by omega,dv,by simp only; rw[lI]; omega⟩)
           simpa using this
         ·-- beyond the row's end,from a place within it: a block of its own,in place or moved
          rename_i zX;simp only[Option.some.injEq,Prod.mk.injEq] at aD;obtain⟨rfl,rfl⟩:=aD;obtain⟨alg,o5,T4⟩:off+cap*z=m/\cap<=cap'/\cF.s+off+cap'*z<=cF.T:=by rcases dM with dM | dM<;>omega
          have nL:m<off+(len+n)*z:=by
           have:(cap+1)*z<=(len+n)*z:=aCN _ (by omega);rw[aDg] at this;omega
          have amS:len*z+n*z=(len+n)*z:=by rw[aDg]
          have o4:=rel.r4 hm;by_cases fv:len+n<=cap'
          ·have al8:(len+n)*z<=cap'*z:=aCN _ fv;have na:max m (off+len*z+xs.length)=off+(len+n)*z:=by omega
           obtain⟨w',h1,ag,aq⟩:=yO (P:=P) rel (cvs:=xs) (vs:=vs) (k:=off+len*z) ai hm (by omega) cW.1 (by omega) cW.2;rw[na] at ag aq;have uc:(bO cs (off+len*z) xs).drop off=(cs.drop off).take (len*z)++xs:=by
            unfold bO;rw[aDB (as:=cs) (by omega),aDl,aDp (by simp; omega),aEW];congr 2; omega
           have cL:(storeCells ((⟨cF.r,cF.s+off,none⟩:Addr).add (len*z)) vs).run P w=.ok () w':=by rw[Addr.mW,aEm]; exact h1
           have ql:=aq.ab6 (b:=b) (off:=off) (m:=cF) (h':=(h.set b .dead).push (.cells ((len+n)*z) ((cs.drop off).take (len*z)++xs))) (by rw[ez,kz]) hm (by omega) (by
            rw[eS,ez,ez,fw,fw,uc];have:off+(len+n)*z - off=(len+n)*z:=by omega
            rw[this];funext x;simp only[ck];split
            ·rfl
            ·split<;>rfl) rfl
           refine⟨_,w',_,FI (some ⟨cF.r,cF.s+off,none⟩) _ _ _ fv cL,ag.trans ql.1,ql.2,?_⟩;exact .av z h.n 0 (len+n) (len+n) ((len+n)*z) cap' _ ⟨cF.r,cF.s+off,cF.T⟩ (by rw[eS,fw,kz]) (by rw[fw]; simp) (aCL _) (by omega) (.inr ⟨by omega,fv,by simpa using (by omega:cF.s+off+cap'*z<=cF.T)⟩)
          ·have cQ:contents h z (.av z b off len cap m)=some ((cs.drop off).take (len*z),len) :=by simp[contents,ai]
           obtain⟨cH,_,gm,iN,CJ⟩:=vj (P:=P) rel cQ (aZ.av z b off len cap m cap' cs cF ai hm ar ax dM);have x0:∀ w2:World,(∀ a,w2.cell? a=w.cell? a)->(Builtin.firstCells z len (.slice (some ⟨cF.r,cF.s+off,none⟩) len cap')).run P w2=.ok gm.toArray w2:=fun w2 mE=>by
            have:=CJ len (aCL _) w2 mE
            rwa [aCI (by rw[iN.1,cH]; exact aCL _)] at this
           have aA:=Cs i zv aB l8 (some ⟨cF.r,cF.s+off,none⟩) len cap' gm (by rw[qn]; exact x0 w.drew JR) (by omega) (by rw[my]; exact eb) (by omega);have dv:len+n<=grownCap w (len+n) cap' e:=grownCap_ge _ _ _ _;have Cj:tk w R h μ ((cs.drop off).take (len*z)++xs) (gm++vs) :=by
            refine⟨by simp[iN.1,cW.1],fun j c am=>?_⟩;by_cases aP:j<((cs.drop off).take (len*z)).length
            ·rw[aCK aP] at am;rw[aCK (by rw[iN.1]; exact aP)];exact iN.2 j c am
            ·rw[aCT (by omega)] at am;rw[aCT (by rw[iN.1]; omega),iN.1];exact cW.2 _ c am
           have fo:((cs.drop off).take (len*z)++xs).length=(len+n)*z:=by rw[aCS,cH,bm,aDg]
           obtain⟨lI,l4⟩:=B1 (e:=e) (zv:=zv) (need:=len+n) (cap:=grownCap w (len+n) cap' e) kj fo Cj dv;have aF:=rel.push (w':=w.drew.alloc (.cells ((gm++vs).toArray++Builtin.zeroCells zv.cells (grownCap w (len+n) cap' e - (len+n))) e)) _ _ e rfl rfl rfl rfl (by rw[lI,fo]; exact aCN _ dv) l4;rw[fo] at aF;have hk:=aF.2.kill (b:=b) (sz:=m) (cs:=cs) (h':=(h.set b .dead).push (.cells ((len+n)*z) ((cs.drop off).take (len*z)++xs))) (by rw[eS,cB _ _ _ _ (by omega)]; exact ai) (by rw[ga]; omega) (by
            rw[eS,eS,ez,fw];funext x;simp only[ck];by_cases h1:x=h.n
            ·rw[if_pos h1,if_neg (by omega),if_pos h1]
            ·rw[if_neg h1];split<;>rfl) rfl
           refine⟨_,_,_,aA,aF.1.trans hk.1,hk.2,?_⟩;have:=aZ.av (w:=w.drew.alloc (.cells ((gm++vs).toArray++Builtin.zeroCells zv.cells (grownCap w (len+n) cap' e - (len+n))) e)) (R:=R) (h:=(h.set b .dead).push (.cells ((len+n)*z) ((cs.drop off).take (len*z)++xs))) (μ:=ck μ h.n (some ⟨w.heap.size,0,((gm++vs).toArray++Builtin.zeroCells zv.cells (grownCap w (len+n) cap' e - (len+n))).size⟩))
            z h.n 0 (len+n) (len+n) ((len+n)*z) (grownCap w (len+n) cap' e) _ ⟨w.heap.size,0,((gm++vs).toArray++Builtin.zeroCells zv.cells (grownCap w (len+n) cap' e - (len+n))).size⟩ (by rw[eS,fw,kz]) (by simp) (aCL _) (by omega) (.inr ⟨by omega,dv,by simp only; rw[lI]; omega⟩)
           simpa using this
     ·cases aD
    | _=>rw[ai] at aD; cases aD
   ·cases aD
theorem H9 (rel:cp R B w h μ) {t u ty:TypeId} {s x c:ad} {af bY:Value} {h' : bh} (aS:AH P u) (aD:r2 P h t s x=some (c,h')) (ap:aZ w R h μ s af) (al:aZ w R h μ x bY) :
  ∃ v w' μ',(Builtin.append_ #[t,u] ty #[af,bY]).run P w=.ok v w'/\ej w h μ w' h' μ'/\cp R B w' h' μ'/\aZ w' R h' μ' c v:=by
 unfold r2 at aD;cases au:i7 P t with
 | none=>rw[au] at aD; cases aD
 | some e=>
 have k2:=BL au;rw[au] at aD;simp only at aD;cases az:c5 P e with
 | none=>rw[az] at aD; cases aD
 | some z=>
 cases eQ:jp P e with
 | none=>rw[az,eQ] at aD; cases aD
 | some by_=>
 rw[az,eQ] at aD;simp only at aD;cases ak:contents h z x with
 | none=>rw[ak] at aD; cases aD
 | some NA=>
 obtain⟨xs,n⟩:=NA;rw[ak] at aD;simp only at aD;obtain⟨bm,bu,vs,cW,alp⟩:=vj (P:=P) rel ak al;have lZ:∀ w2:World,(∀ a,w2.cell? a=w.cell? a)->(Builtin.firstCells z n bY).run P w2=.ok vs.toArray w2:=fun w2 mE=>by
  have:=alp n (aCL _) w2 mE
  rwa [aCI (by rw[cW.1,bm]; exact aCL _)] at this
 refine N8 rel az eQ aD ap bm cW (fun base sLen hj w' fv cL=>run_append_fits k2 az aS bu (lZ w (fun _=>rfl)) fv cL) (fun i zv aB l8 base sLen hj gm ax aA aC ai=>?_);have qn:i.size=z:=by simpa [c5,aB] using az
 exact atV k2 aB l8 aS bu (by rw[qn]; exact lZ w.drew (fun _=>rfl)) ax aA aC ai
end

section
variable {P:Program} {w:World} {R:Nat->Prop} {B:Nat} {h:bh} {μ:dd}
theorem yZ {x:ad} {bY:Value} {y n Be:Nat} {code:BoundsCode} (ai:j7 x y=some n) (al:aZ w R h μ x bY) (aE:y<=Be) :
  n<=y/\(Instr.sliceBound bY Be code).run P w=.ok n w:=by
 unfold j7 at ai;cases al with
 | int k i=>
  simp only at ai;split at ai
  ·rename_i aB;simp only[Option.some.injEq] at ai;subst ai;refine⟨by omega,?_⟩;have:(0<=i/\i<=(Be:Int)) :=⟨aB.1,by omega⟩
   simp[Instr.sliceBound,asIntOf,this]
  ·cases ai
 | _=>simp at ai
def wT (w:World) (R:Nat->Prop) (h:bh) (μ:dd) :Option ad->Option Value->Prop
 | none,none=>True
 | some c,some v=>aZ w R h μ c v
 | _,_=>False
theorem u6 {dn aB dg:Option ad} {ru gj v8:Option Value} {isS:Bool} {len cap cap' l m aR:Nat} (ai:hb len cap dn aB dg=some (l,aR,m)) (bu:len<=cap) (dv:cap<=cap')
  (h1:wT w R h μ dn ru) (ag:wT w R h μ aB gj) (aq:wT w R h μ dg v8) :
  l<=aR/\aR<=m/\m<=cap/\(dg=none->m=cap)/\(Instr.sliceBounds isS len cap' ru gj v8).run P w=.ok (l,aR,if dg.isSome then m else cap') w:=by
 unfold hb at ai;cases dg with
 | none=>
  cases v8 with
  | some v=>exact aq.elim
  | none=>
   simp only at ai;cases aB with
   | none=>
    cases gj with
    | some v=>exact ag.elim
    | none=>
     simp only at ai;cases dn with
     | none=>
      cases ru with
      | some v=>exact h1.elim
      | none=>
       simp only[Option.some.injEq,Prod.mk.injEq] at ai;obtain⟨rfl,rfl,rfl⟩:=ai;exact⟨by omega,bu,aCL _,fun _=>rfl,by simp[Instr.sliceBounds]⟩
     | some c=>
      cases ru with
      | none=>exact h1.elim
      | some v=>
       simp only at ai;cases ar:j7 c len with
       | none=>rw[ar] at ai; cases ai
       | some l'=>
        rw[ar] at ai;simp only[Option.some.injEq,Prod.mk.injEq] at ai;obtain⟨rfl,rfl,rfl⟩:=ai;have al:=yZ (P:=P) (code:=.sliceB) ar h1 (aCL _);exact⟨al.1,bu,aCL _,fun _=>rfl,by simp[Instr.sliceBounds,al.2]⟩
   | some Iu=>
    cases gj with
    | none=>exact ag.elim
    | some avI=>
     simp only at ai;cases xO:j7 Iu cap with
     | none=>rw[xO] at ai; cases ai
     | some h'=>
      rw[xO] at ai;simp only at ai;have al:=yZ (P:=P) (code:=if isS then .sliceAcap else .sliceAlen) xO ag dv;cases dn with
      | none=>
       cases ru with
       | some v=>exact h1.elim
       | none=>
        simp only[Option.some.injEq,Prod.mk.injEq] at ai;obtain⟨rfl,rfl,rfl⟩:=ai;exact⟨by omega,al.1,aCL _,fun _=>rfl,by simp[Instr.sliceBounds,al.2]⟩
      | some c=>
       cases ru with
       | none=>exact h1.elim
       | some v=>
        simp only at ai;cases ar:j7 c h' with
        | none=>rw[ar] at ai; cases ai
        | some l'=>
         rw[ar] at ai;simp only[Option.some.injEq,Prod.mk.injEq] at ai;obtain⟨rfl,rfl,rfl⟩:=ai;have aE:=yZ (P:=P) (code:=.sliceB) ar h1 (aCL _);exact⟨aE.1,al.1,aCL _,fun _=>rfl,by simp[Instr.sliceBounds,al.2,aE.2]⟩
 | some air=>
  cases v8 with
  | none=>exact aq.elim
  | some aCD=>
   simp only at ai;cases hm:j7 air cap with
   | none=>rw[hm] at ai; cases ai
   | some cV=>
    rw[hm] at ai;simp only at ai;have al:=yZ (P:=P) (code:=if isS then .slice3Acap else .slice3Alen) hm aq dv;cases aB with
    | none=>cases ai
    | some Iu=>
     cases gj with
     | none=>exact ag.elim
     | some avI=>
      simp only at ai;cases xO:j7 Iu cV with
      | none=>rw[xO] at ai; cases ai
      | some h'=>
       rw[xO] at ai;simp only at ai;have aE:=yZ (P:=P) (code:=.slice3B) xO ag (aCL _);cases dn with
       | none=>
        cases ru with
        | some v=>exact h1.elim
        | none=>
         simp only[Option.some.injEq,Prod.mk.injEq] at ai;obtain⟨rfl,rfl,rfl⟩:=ai;exact⟨by omega,aE.1,al.1,(fun aL=>by cases aL),by simp[Instr.sliceBounds,al.2,aE.2]⟩
       | some c=>
        cases ru with
        | none=>exact h1.elim
        | some v=>
         simp only at ai;cases ar:j7 c h' with
         | none=>rw[ar] at ai; cases ai
         | some l'=>
          rw[ar] at ai;simp only[Option.some.injEq,Prod.mk.injEq] at ai;obtain⟨rfl,rfl,rfl⟩:=ai;have az:=yZ (P:=P) (code:=.slice3C) ar h1 (aCL _);exact⟨az.1,aE.1,al.1,(fun aL=>by cases aL),by simp[Instr.sliceBounds,al.2,aE.2,az.2]⟩
theorem RT {z:Nat}:∀ (n:Nat) (cs:List ad),(oT z n cs).length=n
 | 0,_=>rfl
 | n+1,cs=>by simp[oT,RT n]
theorem RS {z:Nat}:∀ (n:Nat) (cs:List ad) (i:Nat),i<n->(oT z n cs)[i]? = some ((cs.drop (i*z)).take z)
 | 0,_,_,h=>by omega
 | n+1,cs,0,_=>by simp[oT]
 | n+1,cs,i+1,h=>by
  simp only[oT,aDz];rw[RS n _ i (by omega),aFe];congr 3;rw[aDj]; omega
theorem acv (rel:cp R B w h μ) {z b off cap sz l aR m cV cap' : Nat} {cs:List ad} {cF:M} {hasMax:Bool} (ai:h.f b=.cells sz cs) (hm:μ b=some cF) (ax:off+cap*z<=sz)
  (dM:(off+cap*z<sz/\cap'=cap)\/(off+cap*z=sz/\cap<=cap'/\cF.s+off+cap'*z<=cF.T)) (h1:l<=aR) (ag:aR<=m) (aq:m<=cap) (aH:hasMax=false->m=cap)
  (cl:cV=if hasMax then m else cap') (ay0:m≠l) :
  aZ w R h μ (.av z b (off+l*z) (aR - l) (m - l) sz) (.slice (some ((⟨cF.r,cF.s+off,none⟩:Addr).add (l*z))) (aR - l) (cV - l)) :=by
 have fe:=rel.blk b cF hm;rw[ai] at fe;have dH:=fe.2.1;rw[Addr.mW,aEm];have a2:l*z+(m - l)*z=m*z:=by rw[<-aDg]; congr 1; omega
 have b7:m*z<=cap*z:=aCN _ aq;refine .av z b _ _ _ sz _ cs cF ai hm (by omega) (by omega) ?_;cases hasMax with
 | false=>
  have zU:=aH rfl;have lG:cV=cap':=by simpa using cl
  rw[lG];rcases dM with ⟨br,bI⟩ | ⟨br,bI,a3⟩
  ·rw[<-zU] at br bI;exact .inl ⟨by omega,by omega⟩
  ·rw[<-zU] at br bI;refine .inr ⟨by omega,by omega,?_⟩;have dG:l*z+(cap' - l)*z=cap'*z:=by rw[<-aDg]; congr 1; omega
   omega
 | true=>
  have lG:cV=m:=by simpa using cl
  rw[lG];by_cases aP:off+l*z+(m - l)*z<sz
  ·exact .inl ⟨aP,rfl⟩
  ·exact .inr ⟨by omega,aCL _,by omega⟩
theorem extract_toList (s:ByteArray) (a b:Nat) :(s.extract a b).data.toList=(s.data.toList.drop a).take (b - a) :=by
 simp[ByteArray.extract,ByteArray.copySlice,List.take_drop]
theorem aZ.atU (z:Nat) (p:Prop) [Decidable p] (a b:Addr) (cap:Nat) :aZ w R h μ (.cr z []) (.slice (if p then some a else some b) 0 cap) :=by
 by_cases aF:p
 ·rw[if_pos aF]; exact .go _ _ _
 ·rw[if_neg aF]; exact .go _ _ _
theorem aZ.acu (z b off len cap sz cap' : Nat) (p:Prop) [Decidable p] (a fA:Addr) (ar:len<=cap) (ak:cap<=cap') (aA:uS h b sz) :
  aZ w R h μ (.av z b off len cap sz) (.slice (if p then some a else some fA) len cap') :=by
 by_cases aF:p
 ·rw[if_pos aF]; exact .g4 _ _ _ _ _ _ _ _ ar ak aA
 ·rw[if_neg aF]; exact .g4 _ _ _ _ _ _ _ _ ar ak aA
theorem aur (rel:cp R B w h μ) {t:TypeId} {x c:ad} {bY:Value} {dn aB dg:Option ad} {ru gj v8:Option Value} (ap:DW P t x dn aB dg=some c) (al:aZ w R h μ x bY)
  (h1:wT w R h μ dn ru) (ag:wT w R h μ aB gj) (aq:wT w R h μ dg v8) :
  ∃ v,(Instr.sliceAt t bY ru gj v8).run P w=.ok v w/\aZ w R h μ c v:=by
 unfold DW at ap;split at ap
 ·-- an array behind its address
  rename_i n e aS;cases az:c5 P e with
  | none=>rw[az] at ap; cases ap
  | some z=>
  cases ai:hb n n dn aB dg with
  | none=>rw[az,ai] at ap; cases ap
  | some ur=>
  obtain⟨l,aR,m⟩:=ur;rw[az,ai] at ap;simp only at ap;obtain⟨cn,cc,dP,ew,km⟩:=u6 (P:=P) (isS:=false) ai (aCL _) (aCL _) h1 ag aq;have alE:(if dg.isSome=true then m else n)=m:=by
   cases dg with
   | none=>simp[ew rfl]
   | some v=>simp
  rw[alE] at km;split at ap
  ·rename_i b off sz;split at ap
   ·rename_i fv;have Af:∃ a,bY=.pointer (some a) :=by cases al<;>exact⟨_,rfl⟩
    obtain⟨a,rfl⟩:=Af;refine⟨_,by simp[Instr.sliceAt,cZ aS,Instr.sureAddr,km,gh az]; rfl,?_⟩;split at ap
    ·rename_i nb;simp only[Option.some.injEq] at ap; subst ap;have:aR - l=0:=by omega
     rw[this];exact .go _ _ _
    ·rename_i nb;simp only[Option.some.injEq] at ap; subst ap;rw[if_neg nb];cases al with
     | ptr _ _ _ cs cF ca hm=>
      exact acv rel (cap:=m) (cap':=m) (hasMax:=true) ca hm fv (by
       have fe:=rel.blk b cF hm;rw[ca] at fe;have dH:=fe.2.1;by_cases aP:off+m*z<sz
       ·exact .inl ⟨aP,rfl⟩
       ·exact .inr ⟨by omega,aCL _,by omega⟩) cn cc (aCL _) (fun aL=>by cases aL) (by simp) nb
     | nn _ _ _ _ aA=>exact .g4 _ _ _ _ _ _ _ _ (by omega) (aCL _) aA
   ·cases ap
  ·rename_i cs off;split at ap
   ·rename_i fv;simp only[Option.some.injEq] at ap; subst ap;cases al with
    | cm _ _ blk o eT ak ay=>
     refine⟨_,by simp[Instr.sliceAt,cZ aS,Instr.sureAddr,km,gh az]; rfl,?_⟩;have ih:aR*z<=n*z:=aCN _ (by omega);by_cases nb:m=l
     ·have a2:aR - l=0:=by omega
      rw[a2];exact .go _ _ _
     ·rw[if_neg nb,Addr.mW];have ar:=RT (z:=z) (aR - l) (cs.drop (off+l*z));have jV:∀ i,i<aR - l->∀ j,j<z->off+l*z+(i*z+j)<cs.length:=by
       intro i gj j am;have:(l+i+1)*z<=aR*z:=aCN _ (by omega);rw[aDg,aDg] at this;omega
      have eK:∀ i fV,(oT z (aR - l) (cs.drop (off+l*z)))[i]? = some fV->i<aR - l/\fV=((cs.drop (off+l*z)).drop (i*z)).take z:=by
       intro i fV gM;have gj:i<aR - l:=by
        have:=(aCJ.1 gM).1;omega
       rw[RS _ _ _ gj] at gM;simp only[Option.some.injEq] at gM;exact⟨gj,gM.symm⟩
      have:=aZ.cr (w:=w) (R:=R) (h:=h) (μ:=μ) z (oT z (aR - l) (cs.drop (off+l*z))) blk (o+off+l*z) (m - l) (fun i j=>eT (off+l*z+(i*z+j))) (by omega)
       (fun fV gM=>by
        obtain⟨i,gj,rfl⟩:=List.getElem_of_mem gM;obtain⟨br,bI⟩:=eK i _ (aCM gj);rw[bI,aCX,aDS,aDS];have:(l+i+1)*z<=aR*z:=aCN _ (by omega);rw[aDg,aDg] at this;omega)
       (fun i j gj am=>by
        have:=ak (off+l*z+(i*z+j)) (jV i (by omega) j am);have dG:o+off+l*z+(i*z+j)=o+(off+l*z+(i*z+j)) :=by omega
        rw[dG]; exact this)
       (fun i fV gM j c am=>by
        obtain⟨br,rfl⟩:=eK i _ gM;have p8:j<z:=by
         have:=(aCJ.1 am).1;rw[aCX] at this; omega
        rw[aCW p8,aDh,aDh,] at am;exact ay _ c am)
      rw[ar] at this;exact this
   ·cases ap
  ·cases ap
 ·-- a slice
  rename_i e aS;split at ap
  ·rename_i z eG b off len cap sz az;split at ap
   ·rename_i qq; subst qq;cases ai:hb len cap dn aB dg with
    | none=>rw[ai] at ap; cases ap
    | some ur=>
    obtain⟨l,aR,m⟩:=ur;rw[ai] at ap;simp only[aCR,Option.some.injEq] at ap;cases al with
    | av _ _ _ _ _ _ cap' cs cF ca hm ar ax dM=>
     have TT:cap<=cap':=by rcases dM with dM | dM<;>omega
     obtain⟨cn,cc,dP,ew,km⟩:=u6 (P:=P) (isS:=true) ai ar TT h1 ag aq;refine⟨_,by simp[Instr.sliceAt,Instr.slice,cZ aS,km,gh az]; rfl,?_⟩;split at ap
     ·rename_i nb;subst ap;have:aR - l=0:=by omega
      rw[this];by_cases sG:(if dg.isSome=true then m else cap')=l
      ·rw[if_pos sG,sG,aEX];exact .iy _ _ _ _ _ _ cF ca hm
      ·rw[if_neg sG];cases dg with
       | some v=>exact absurd (by simpa using nb) sG
       | none=>
        have zU:=ew rfl;simp only[aEA,aDV,if_false] at sG ⊢;have eB:cap=l:=by omega
        have au:off+cap*z=sz/\cap<=cap'/\cF.s+off+cap'*z<=cF.T:=by rcases dM with dM | dM<;>omega
        have tV:l*z+(cap' - l)*z=cap'*z:=by rw[<-aDg]; congr 1; omega
        subst eB;rw[Addr.mW];have:=aZ.av (w:=w) (R:=R) (h:=h) (μ:=μ) z b (off+cap*z) 0 0 sz (cap' - cap) _ cF ca hm (aCL _) (by omega) (.inr ⟨by omega,by omega,by omega⟩)
        rwa [<-aEm] at this
     ·rename_i nb;subst ap;have b2:¬ ((if dg.isSome=true then m else cap')=l) :=by
       cases dg with
       | none=>have:=ew rfl; simp; omega
       | some v=>simpa using nb
      rw[if_neg b2];exact acv rel (hasMax:=dg.isSome) ca hm ax dM cn cc dP (fun aL=>ew (by simpa using aL)) rfl nb
    | iy _ _ _ _ a cs cF ca hm=>
     obtain⟨cn,cc,dP,ew,km⟩:=u6 (P:=P) (isS:=true) ai (aCL 0) (aCL 0) h1 ag aq;refine⟨_,by simp[Instr.sliceAt,Instr.slice,cZ aS,km,gh az]; rfl,?_⟩;have kg:m=0:=by
      cases dg with
      | none=>exact ew rfl
      | some v=>simp at dP; omega
     have vD:l=0:=by omega
     have alz:aR=0:=by omega
     subst kg vD alz;simp only[if_true] at ap;subst ap;simp;exact .iy _ _ _ _ _ _ cF ca hm
    | g4 _ _ _ _ _ _ cap' a ar dM aA=>
     obtain⟨cn,cc,dP,ew,km⟩:=u6 (P:=P) (isS:=true) ai ar dM h1 ag aq;refine⟨_,by simp[Instr.sliceAt,Instr.slice,cZ aS,km,gh az]; rfl,?_⟩;split at ap
     ·rename_i nb;subst ap;have:aR - l=0:=by omega
      rw[this];exact aZ.acu _ _ _ _ _ _ _ _ _ _ (aCL _) (aD5 _) aA
     ·rename_i nb;subst ap;have eD:m<=(if dg.isSome=true then m else cap') :=by split<;>omega
      exact aZ.acu _ _ _ _ _ _ _ _ _ _ (by omega) (by omega) aA
   ·cases ap
  ·rename_i z eG es az;split at ap
   ·rename_i qq; subst qq;cases ai:hb es.length es.length dn aB dg with
    | none=>rw[ai] at ap; cases ap
    | some ur=>
    obtain⟨l,aR,m⟩:=ur;rw[ai] at ap;simp only[aCR,Option.some.injEq] at ap;subst ap;cases al with
    | cr _ _ blk off cap eT ar uh ak ay=>
     obtain⟨cn,cc,dP,ew,km⟩:=u6 (P:=P) (isS:=true) ai (aCL _) ar h1 ag aq;refine⟨_,by simp[Instr.sliceAt,Instr.slice,cZ aS,km,gh az]; rfl,?_⟩;have bu:((es.drop l).take (aR - l)).length=aR - l:=by rw[aCX,aDS]; omega
     have eD:aR<=(if dg.isSome=true then m else cap) :=by
      cases dg with
      | none=>simp only[aEA,aDV,if_false]; omega
      | some v=>simpa using cc
     by_cases nb:(if dg.isSome=true then m else cap)=l
     ·have a2:aR - l=0:=by omega
      rw[if_pos nb,a2,aD1];exact .go _ _ _
     ·rw[if_neg nb,Addr.mW];have eK:∀ i fV,((es.drop l).take (aR - l))[i]? = some fV->i<aR - l/\es[l+i]? = some fV:=by
       intro i fV gM;have gj:i<aR - l:=by
        have:=(aCJ.1 gM).1;omega
       rw[aCW gj,aDh] at gM;exact⟨gj,gM⟩
      have:=aZ.cr (w:=w) (R:=R) (h:=h) (μ:=μ) z ((es.drop l).take (aR - l)) blk (off+l*z) ((if dg.isSome=true then m else cap) - l) (fun i j=>eT (l+i) j) (by omega)
       (fun fV gM=>uh fV (aEf (aDs gM)))
       (fun i j gj am=>by
        have:=ak (l+i) j (by omega) am;have dG:off+l*z+(i*z+j)=off+((l+i)*z+j) :=by rw[aDg]; omega
        rw[dG]; exact this)
       (fun i fV gM j c am=>ay (l+i) fV (eK i fV gM).2 j c am)
      rw[bu] at this;exact this
    | go _ a cap=>
     obtain⟨cn,cc,dP,ew,km⟩:=u6 (P:=P) (isS:=true) ai (aCL _) (aD5 cap) h1 ag aq;refine⟨_,by simp at km; simp[Instr.sliceAt,Instr.slice,cZ aS,km,gh az]; rfl,?_⟩;have a2:aR - l=0:=by simp at dP; omega
     rw[a2,aD1];exact aZ.atU _ _ _ _ _
   ·cases ap
  ·rename_i z az;cases al;cases ai:hb 0 0 dn aB dg with
   | none=>rw[ai] at ap; cases ap
   | some ur=>
   obtain⟨l,aR,m⟩:=ur;rw[ai] at ap;simp only[aCR,Option.some.injEq] at ap;subst ap;obtain⟨cn,cc,dP,ew,km⟩:=u6 (P:=P) (isS:=true) ai (aCL _) (aCL _) h1 ag aq;obtain rfl:m=0:=by omega
   obtain rfl:aR=0:=by omega
   obtain rfl:l=0:=by omega
   refine⟨_,by simp[Instr.sliceAt,Instr.slice,cZ aS,km,gh az]; rfl,?_⟩;exact .aK
  ·cases ap
 ·-- a string
  rename_i s aS;split at ap
  ·cases al with
   | str bs=>
    cases ai:hb bs.data.toList.length bs.data.toList.length dn aB none with
    | none=>rw[ai] at ap; cases ap
    | some ur=>
    obtain⟨l,aR,m⟩:=ur;rw[ai] at ap;simp only[aCR,Option.some.injEq] at ap;subst ap;cases v8 with
    | some v=>exact aq.elim
    | none=>
     have h6:bs.data.toList.length=bs.size:=by simp
     rw[h6] at ai;obtain⟨cn,cc,dP,ew,km⟩:=u6 (P:=P) (isS:=false) ai (aCL _) (aCL _) h1 ag aq;refine⟨.string (bs.extract l aR),by simp[Instr.sliceAt,Instr.slice,cZ aS,km],?_⟩;rw[<-extract_toList];exact .str _
  ·cases ap
 ·cases ap
end

section
variable {P:Program} {w:World} {R:Nat->Prop} {B:Nat} {h:bh} {μ:dd}
def lU (w:World) (R:Nat->Prop) (h:bh) (μ:dd) (cs:List ad) (arr:Array Value) :Prop:=
 arr.size=cs.length/\∀ (j:Nat) (c:ad),cs[j]? = some c->∃ v:Value,arr[j]? = some v/\v.oneCell'=true/\aZ w R h μ c v
theorem lU.aM {cs:List ad} {arr:Array Value} (aC:lU w R h μ cs arr) :aZ w R h μ (.aM cs) (.agg arr) :=by
 refine .aM _ _ aC.1 (fun j v am=>?_) (fun j c v ak am=>?_)
 ·have aP:j<cs.length:=by have:=(aDn.1 am).1; rw[<-aC.1]; exact this
  obtain⟨u,h1,ag,_⟩:=aC.2 j _ (aCM aP);rw[am] at h1; cases h1; exact ag
 ·obtain⟨u,h1,_,aq⟩:=aC.2 j c ak;rw[am] at h1; cases h1; exact aq
theorem SV:∀ (l:List Value) (k off:Nat) (cells:Array Value),off+k+l.length<=cells.size->
  ((l.zipIdx k).foldl (fun cs (vd:Value × Nat)=>cs.setIfInBounds (off+vd.2) vd.1) cells).size=cells.size ∧
  ∀ j,((l.zipIdx k).foldl (fun cs (vd:Value × Nat)=>cs.setIfInBounds (off+vd.2) vd.1) cells)[j]? = if off+k<=j/\j<off+k+l.length then l[j - (off+k)]? else cells[j]?
 | [],k,off,cells,_=>⟨by simp,fun j=>by simp; omega⟩
 | v::l,k,off,cells,ar=>by
  simp only[aC6] at ar;have aY:=SV l (k+1) off (cells.setIfInBounds (off+k) v) (by simp; omega);simp only[List.zipIdx_cons,aF0];refine⟨by rw[aY.1]; simp,fun j=>?_⟩;rw[aY.2 j];by_cases am:off+(k+1)<=j/\j<off+(k+1)+l.length
  ·rw[if_pos am,if_pos (by simp only[aC6]; omega)];have:j - (off+k)=(j - (off+(k+1)))+1:=by omega
   rw[this,aDz]
  ·rw[if_neg am,aD8];by_cases au:off+k=j
   ·subst au;rw[if_pos rfl,if_pos (by omega),if_pos (by simp only[aC6]; omega)];simp
   ·rw[if_neg au,if_neg (by simp only[aC6]; omega)]
theorem EU {lO:Nat->Option (Nat × Nat)}:∀ (parts:List (Nat × ad)) (lf:List (Nat × Value)) (cs:List ad) (arr:Array Value) (cs' : List ad),
  ii lO cs parts=some cs'->lU w R h μ cs arr->lf.length=parts.length->(∀ (j:Nat) (p:Nat × ad) (ch:Nat × Value),parts[j]? = some p->lf[j]? = some ch->ch.1=p.1/\aZ w R h μ p.2 ch.2)->
  ∃ arr',Instr.fill lO arr lf=some arr'/\lU w R h μ cs' arr'
 | [],[],cs,arr,cs',aL,aC,_,_=>by
  simp only[ii,Option.some.injEq] at aL; subst aL;exact⟨arr,rfl,aC⟩
 | [],_::_,_,_,_,_,_,ar,_=>by simp at ar
 | _::_,[],_,_,_,_,_,ar,_=>by simp at ar
 | (i,c) ::parts,(k4,v) ::lf,cs,arr,cs',aL,aC,ar,aF=>by
  obtain⟨rfl,ay⟩:=aF 0 (i,c) (k4,v) rfl rfl;simp only at ay;unfold ii at aL;cases hu:lO k4 with
  | none=>rw[hu] at aL; cases aL
  | some os=>
  obtain⟨off,size⟩:=os;cases ak:c.cells with
  | none=>rw[hu,ak] at aL; cases aL
  | some vs=>
  rw[hu,ak] at aL;simp only at aL;split at aL
  ·rename_i kf;obtain⟨h6,nh⟩:=ED ay ak;have xT:v.cells.toList.length=vs.length:=by simpa using h6
   have m7:=SV v.cells.toList 0 off arr (by rw[aC.1,xT]; omega);have am8:v.cells.zipIdx.foldl (fun cs (x:Value × Nat)=>match x with | (c,j)=>cs.setIfInBounds (off+j) c) arr=(v.cells.toList.zipIdx 0).foldl (fun cs (vd:Value × Nat)=>cs.setIfInBounds (off+vd.2) vd.1) arr:=by
    rw[<-Array.foldl_toList];simp
   obtain⟨arr',h1,ag⟩:=EU parts lf (bO cs off vs) (v.cells.zipIdx.foldl (fun cs (x:Value × Nat)=>match x with | (c,j)=>cs.setIfInBounds (off+j) c) arr) cs' aL (by
     rw[am8];refine⟨by rw[m7.1,aC.1,rJ (by omega)]; omega,fun j x am=>?_⟩;rw[m7.2 j];rw[MM (by omega)] at am;split at am
     ·rename_i aP;rw[if_neg (by omega)];exact aC.2 j x am
     ·split at am
      ·rename_i h1 ag;rw[if_pos (by rw[xT]; omega)];obtain⟨u,br,bI,a3⟩:=nh _ x am;exact⟨u,by simpa using br,bI,a3⟩
      ·rename_i h1 ag;rw[if_neg (by rw[xT]; omega)];exact aC.2 j x am) (by simpa using ar) (fun j p ch am fp=>aF (j+1) p ch (by simpa using am) (by simpa using fp))
   refine⟨arr',?_,ag⟩;have ri:¬ (v.cells.size≠size\/off+v.cells.size > arr.size) :=by rw[h6,aC.1]; omega
   simp only[Instr.fill,hu];rw[if_neg (by simpa using ri)];exact h1
  ·cases aL
theorem wM {t:TypeId} {z:List ad} (az:ia P t=some z) :∃ v,(∀ w2:World,(zeroValue t).run P w2=.ok v w2)/\lU w R h μ z v.cells:=by
 obtain⟨i,v,aB,ay,ap,ak⟩:=adq (w:=w) (R:=R) (h:=h) (μ:=μ) az;exact⟨v,fun w2=>acl aB ay,ap,ak⟩
theorem atZ {fs:Array Field} (ap:(fs.toList.all fun f=>(c5 P f.type).isSome)=true) :
  (fs.mapM fun f=>(do pure (f.offset,<-sizeOf f.type) :Sem (Nat × Nat))).run P w=.ok ((fs.toList.map fun f=>(f.offset,(c5 P f.type).getD 0)).toArray) w:=by
 rw[Array.mapM_eq_mapM_toList];simp only[Sem.run_map];have:∀ l:List Field,(l.all fun f=>(c5 P f.type).isSome)=true->(l.mapM fun f=>(do pure (f.offset,<-sizeOf f.type) :Sem (Nat × Nat))).run P w=.ok (l.map fun f=>(f.offset,(c5 P f.type).getD 0)) w:=by
  intro l
  induction l with
  | nil=>intro _; simp
  | cons f l aY=>
   intro ar;simp only[aF9,aCQ] at ar;obtain⟨n,aI⟩:=aFR.1 ar.1;simp only[aEr,Sem.run_bind,gh aI,Result.andThen_ok,Sem.run_pure,aY ar.2,aDc,aI,aDA]
 rw[this _ ap];rfl
theorem aeV {t:TypeId} {parts:List (Nat × ad)} {lf:Array (Nat × Value)} {c:ad} (ai:Bs P t parts=some c) (ar:lf.size=parts.length)
  (aF:∀ (j:Nat) (p:Nat × ad) (ch:Nat × Value),parts[j]? = some p->lf[j]? = some ch->ch.1=p.1/\aZ w R h μ p.2 ch.2) :
  ∃ v,(Instr.build t lf).run P w=.ok v w/\aZ w R h μ c v:=by
 unfold Bs at ai;split at ai
 ·rename_i zero fs az aS;split at ai
  ·cases ai
  ·rename_i h6;simp only[aET,Bool.not_eq_false] at h6;cases aL:ii (DB P fs) zero parts with
   | none=>rw[aL] at ai; cases ai
   | some cs=>
    rw[aL] at ai;simp only[aCR,Option.some.injEq] at ai; subst ai;obtain⟨v,ay,aC⟩:=wM (w:=w) (R:=R) (h:=h) (μ:=μ) az;obtain⟨arr',h1,ag⟩:=EU parts lf.toList zero v.cells cs aL aC (by simpa using ar) (fun j p ch am fp=>aF j p ch am (by simpa using fp));have amt:(fun i=>((fs.toList.map fun f=>(f.offset,(c5 P f.type).getD 0)).toArray)[i]?)=DB P fs:=by
     funext i;simp only[DB];simp only[aFp,aCO,aEC];cases tS:fs[i]? with
     | none=>simp
     | some f=>
      rw[aDO] at h6;have:=h6 f (by have:=Array.mem_of_getElem? tS; simpa using this);obtain⟨n,aI⟩:=aFR.1 this;simp[aI]
    refine⟨_,?_,ag.aM⟩;simp only[Instr.build,Sem.run_bind,ay,Result.andThen_ok,cZ aS,atZ h6];rw[amt,h1];simp
 ·rename_i zero n e az aS;cases h6:c5 P e with
  | none=>rw[h6] at ai; cases ai
  | some m=>
   rw[h6] at ai;simp only at ai;cases aL:ii (fun i=>some (i*m,m)) zero parts with
   | none=>rw[aL] at ai; cases ai
   | some cs=>
    rw[aL] at ai;simp only[aCR,Option.some.injEq] at ai; subst ai;obtain⟨v,ay,aC⟩:=wM (w:=w) (R:=R) (h:=h) (μ:=μ) az;obtain⟨arr',h1,ag⟩:=EU parts lf.toList zero v.cells cs aL aC (by simpa using ar) (fun j p ch am fp=>aF j p ch am (by simpa using fp));refine⟨_,?_,ag.aM⟩;simp only[Instr.build,Sem.run_bind,ay,Result.andThen_ok,cZ aS,gh h6];rw[h1];simp
 ·cases ai
theorem yv {zero:List ad}:∀ n,(ey zero n).length=n*zero.length
 | 0=>by simp[ey]
 | n+1=>by simp only[ey,aCS,yv n,aDj]; omega
theorem ab5 {zero:List ad}:∀ (n j:Nat) (c:ad),(ey zero n)[j]? = some c->zero[j % zero.length]? = some c
 | 0,_,_,am=>by simp[ey] at am
 | n+1,j,c,am=>by
  simp only[ey] at am;by_cases aP:j<zero.length
  ·rw[aCK aP] at am
   rwa [aC1 aP]
  ·rw[aCT (by omega)] at am;have:=ab5 n _ c am
   rwa [<-Nat.mod_eq_sub_mod (by omega)] at this
theorem Hi {zero:List ad} {z:Array Value} (aC:lU w R h μ zero z) (n:Nat) :lU w R h μ (ey zero n) ((Array.range (n*zero.length)).map (z[· % z.size]!)) :=by
 refine⟨by simp[yv],fun j c am=>?_⟩;have aP:j<n*zero.length:=by
  have:=(aCJ.1 am).1
  rwa [yv] at this
 obtain⟨v,h1,ag,aq⟩:=aC.2 _ c (ab5 n j c am);refine⟨v,?_,ag,aq⟩;rw[<-aC.1] at h1;obtain⟨ai,rfl⟩:=aDn.1 h1;simp[aP,ai]
theorem ajz {z:Nat}:∀ (parts:List (Nat × ad)) (a b:List ad),ii (fun i=>some (i*z,z)) a parts=some b->b.length=a.length:=by
 intro parts
 induction parts with
 | nil=>intro a b eP; simp only[ii,Option.some.injEq] at eP; subst eP; rfl
 | cons p parts aY=>
  intro a b eP;unfold ii at eP;split at eP
  ·rename_i off size vs hu ik;split at eP
   ·rw[aY _ _ eP,rJ (by omega)]; omega
   ·cases eP
  ·cases eP
theorem Oy {t e:TypeId} {len z:Nat} {zero cs:List ad} {parts:List (Nat × ad)} {lf:Array (Nat × Value)} (au:i7 P t=some e) (az:c5 P e=some z) (jA:ia P e=some zero) (il:zero.length=z) (na:len*z<=16777216)
  (aL:ii (fun i=>some (i*z,z)) (ey zero len) parts=some cs) (ar:lf.size=parts.length)
  (aF:∀ (j:Nat) (p:Nat × ad) (ch:Nat × Value),parts[j]? = some p->lf[j]? = some ch->ch.1=p.1/\aZ w R h μ p.2 ch.2) :
  cs.length=len*z/\∃ arr,(Instr.buildSlice t len lf).run P w=.ok (.slice (some ⟨w.heap.size,0,none⟩) len len) (w.alloc (.cells arr e))/\lU w R h μ cs arr:=by
 obtain⟨v,ay,aC⟩:=wM (w:=w) (R:=R) (h:=h) (μ:=μ) jA;obtain⟨arr',h1,ag⟩:=EU parts lf.toList _ _ cs aL (Hi aC len) (by simpa using ar) (fun j p ch am fp=>aF j p ch am (by simpa using fp));refine⟨by rw[ajz _ _ _ aL,yv,il],arr',?_,ag⟩;have k2:=BL au;have al2:¬ (len*z > 2 ^ 24) :=by omega
 simp only[Instr.buildSlice,Sem.run_bind,cZ k2,Result.andThen_ok,gh az,if_neg al2];rw[il] at h1;generalize fu:len*z=N at h1;by_cases aG:N=0
 ·subst aG;have ij:∀ f:Nat->Value,(Array.range 0).map f=#[] :=fun f=>by simp[Array.range]
  rw[ij] at h1;simp[ij,h1,newRow]
 ·simp[aG,ay,h1,newRow]
theorem aeU (rel:cp R B w h μ) {t:TypeId} {len:Nat} {parts:List (Nat × ad)} {lf:Array (Nat × Value)} {c:ad} {h' : bh} (ai:Ex P h t len parts=some (c,h')) (ar:lf.size=parts.length)
  (aF:∀ (j:Nat) (p:Nat × ad) (ch:Nat × Value),parts[j]? = some p->lf[j]? = some ch->ch.1=p.1/\aZ w R h μ p.2 ch.2) :
  ∃ v w' μ',(Instr.buildSlice t len lf).run P w=.ok v w'/\ej w h μ w' h' μ'/\cp R B w' h' μ'/\aZ w' R h' μ' c v:=by
 unfold Ex at ai;cases au:i7 P t with
 | none=>rw[au] at ai; cases ai
 | some e=>
 rw[au] at ai;simp only at ai;cases az:c5 P e with
 | none=>rw[az] at ai; cases ai
 | some z=>
 cases jA:ia P e with
 | none=>rw[az,jA] at ai; cases ai
 | some zero=>
 rw[az,jA] at ai;simp only at ai;split at ai
 ·rename_i kf;obtain⟨il,na⟩:=kf;cases aL:ii (fun i=>some (i*z,z)) (ey zero len) parts with
  | none=>rw[aL] at ai; cases ai
  | some cs=>
   rw[aL] at ai;simp only[aCR,Option.some.injEq,Prod.mk.injEq] at ai;obtain⟨rfl,rfl⟩:=ai;obtain⟨eB,arr',iY,ag⟩:=Oy au az jA il na aL ar aF;have aD:=Eo rel (cs:=cs) (vs:=arr') e ag.1 ag.2;rw[eB] at aD;obtain⟨br,bI,a3⟩:=aD;refine⟨.slice (some ⟨w.heap.size,0,none⟩) len len,_,_,iY,br,bI,?_⟩;have:=aZ.av (w:=w.alloc (.cells arr' e)) (R:=R) (h:=h.push (.cells (len*z) cs)) (μ:=ck μ h.n (some ⟨w.heap.size,0,arr'.size⟩)) z h.n 0 len len (len*z) len cs ⟨w.heap.size,0,arr'.size⟩ (by simp[eS,ga]) (by simp) (aCL _) (by omega)
    (.inr ⟨by omega,aCL _,by simp only; rw[ag.1,eB]; omega⟩)
   simpa using this
 ·cases ai
theorem Xu {t e:TypeId} {z by_:Nat} {zero:List ad} {kl kc:IntKind} {li h0:Int} (au:i7 P t=some e) (az:c5 P e=some z) (eQ:jp P e=some by_) (jA:ia P e=some zero) (il:zero.length=z)
  (aG:0<=li) (pb:li<=h0) (FC:h0<9223372036854775808) (eb:by_*h0<=c4) :
  (ey zero h0.toNat).length=h0.toNat*z/\∃ arr,(Instr.makeSlice t (.int kl li) (.int kc h0)).run P w=.ok (.slice (some ⟨w.heap.size,0,none⟩) li.toNat h0.toNat) (w.alloc (.cells arr e))/\lU w R h μ (ey zero h0.toNat) arr:=by
 obtain⟨v,ay,aC⟩:=wM (w:=w) (R:=R) (h:=h) (μ:=μ) jA;have cW:=Hi aC h0.toNat
 refine⟨by rw[yv,il],_,?_,cW⟩;obtain⟨i,aB,TS⟩:∃ i,P.info? e=some i/\i.bytes=by_:=by
  unfold jp at eQ;cases aB:P.info? e with
  | none=>rw[aB] at eQ; cases eQ
  | some i=>rw[aB] at eQ; exact⟨i,rfl,by simpa using eQ⟩
 have Ai:IntKind.i64.wrap li=li:=IntWalk.i64_in _ (by omega);have Ah:IntKind.i64.wrap h0=h0:=IntWalk.i64_in _ (by omega);have k2:=BL au;unfold c4 at eb;have t1:¬ (h0<0\/(281474976710656:Int)<(by_:Int)*h0) :=by omega
 have t2:¬ (li<0) :=by omega
 have t3:¬ (h0<li) :=by omega
 rw[il];generalize fu:h0.toNat*z=N;by_cases sG:N=0
 ·subst sG;have ij:∀ f:Nat->Value,(Array.range 0).map f=#[] :=fun f=>by simp[Array.range]
  simp[ij,Instr.makeSlice,cZ k2,Go.asInt,asIntOf,typeInfo,aB,TS,Ai,Ah,t1,t2,t3,gh az,fu,newRow]
 ·simp[Instr.makeSlice,cZ k2,Go.asInt,asIntOf,typeInfo,aB,TS,Ai,Ah,t1,t2,t3,gh az,fu,sG,ay,newRow]
theorem aoC (rel:cp R B w h μ) {t:TypeId} {l c r:ad} {GD tx:Value} {h' : bh} (hm:GF P h t l c=some (r,h')) (ar:aZ w R h μ l GD) (ak:aZ w R h μ c tx) :
  ∃ v w' μ',(Instr.makeSlice t GD tx).run P w=.ok v w'/\ej w h μ w' h' μ'/\cp R B w' h' μ'/\aZ w' R h' μ' r v:=by
 unfold GF at hm;split at hm
 ·rename_i e li h0 au jY dY;obtain⟨kl,rfl⟩:=r3 jY ar;obtain⟨kc,rfl⟩:=r3 dY ak;cases az:c5 P e with
  | none=>rw[az] at hm; cases hm
  | some z=>
  cases eQ:jp P e with
  | none=>rw[az,eQ] at hm; cases hm
  | some by_=>
  cases jA:ia P e with
  | none=>rw[az,eQ,jA] at hm; cases hm
  | some zero=>
  rw[az,eQ,jA] at hm;simp only at hm;split at hm
  ·rename_i kf;obtain⟨il,aG,pb,FC,eb⟩:=kf;simp only[Option.some.injEq,Prod.mk.injEq] at hm;obtain⟨rfl,rfl⟩:=hm;obtain⟨bu,arr,iY,cW⟩:=Xu (w:=w) (R:=R) (h:=h) (μ:=μ) (kl:=kl) (kc:=kc) au az eQ jA il aG pb FC eb;have aD:=Eo rel (cs:=ey zero h0.toNat) e cW.1 cW.2;rw[bu] at aD;obtain⟨br,bI,a3⟩:=aD;refine⟨.slice (some ⟨w.heap.size,0,none⟩) li.toNat h0.toNat,_,_,iY,br,bI,?_⟩;have:=aZ.av (w:=w.alloc (.cells arr e)) (R:=R) (h:=h.push (.cells (h0.toNat*z) (ey zero h0.toNat))) (μ:=ck μ h.n (some ⟨w.heap.size,0,arr.size⟩))
    z h.n 0 li.toNat h0.toNat (h0.toNat*z) h0.toNat (ey zero h0.toNat) ⟨w.heap.size,0,arr.size⟩ (by simp[eS,ga]) (by simp) (by omega) (by omega)
    (.inr ⟨by omega,aCL _,by simp only; rw[cW.1,bu]; omega⟩)
   simpa using this
  ·cases hm
 ·cases hm
theorem aom {t u:TypeId} {ty:TypeId} {x c:ad} {bY:Value} (ak:ye P t x=some c) (al:aZ w R h μ x bY) :∃ v,(Builtin.len_ #[t] ty #[bY]).run P w=.ok v w/\aZ w R h μ c v:=by
 unfold ye at ak;split at ak<;>(try (simp only[Option.some.injEq] at ak; subst ak))
 ·rename_i s aS;cases al;rename_i bs;exact⟨goInt bs.size,by simp[Builtin.len_,cZ aS],by rw[show (bs.data.toList.length:Int)=bs.size from by simp]; exact .int _ _⟩
 ·rename_i n e aS;exact⟨goInt n,by simp[Builtin.len_,cZ aS],.int _ _⟩
 ·rename_i e aS;cases al;exact⟨goInt (0:Nat),by simp[Builtin.len_,cZ aS],.int _ _⟩
 ·rename_i e z b off len cap sz aS;cases al
  ·exact⟨goInt len,by simp[Builtin.len_,cZ aS],.int _ _⟩
  ·exact⟨goInt len,by simp[Builtin.len_,cZ aS],.int _ _⟩
  ·exact⟨goInt (0:Nat),by simp[Builtin.len_,cZ aS],.int _ _⟩
 ·rename_i e z es aS;cases al
  ·exact⟨goInt es.length,by simp[Builtin.len_,cZ aS],.int _ _⟩
  ·exact⟨goInt (0:Nat),by simp[Builtin.len_,cZ aS],.int _ _⟩
 ·rename_i k e aS;cases al;exact⟨goInt 0,by simp[Builtin.len_,cZ aS],.int _ _⟩
 ·cases ak
end

section
variable {P:Program} {w:World} {R:Nat->Prop} {B:Nat} {h:bh} {μ:dd}
theorem wg {t:TypeId} {cs:List ad} {vs:Array Value} {off:Nat} {c:ad} (aF:iv P t cs off=some c) (aC:lU w R h μ cs vs) :
  ∃ v,(∀ w2:World,(part t vs off).run P w2=.ok v w2)/\aZ w R h μ c v:=by
 unfold iv at aF;cases o1:e8 P t with
 | none=>rw[o1] at aF; cases aF
 | some b=>
  rw[o1] at aF;cases b with
  | false=>
   simp only at aF;obtain⟨v,h1,_,aq⟩:=aC.2 off c aF;exact⟨v,fun w2=>by simp[part,Hm o1,h1],aq⟩
  | true=>
   cases aI:c5 P t with
   | none=>rw[aI] at aF; cases aF
   | some n=>
    rw[aI] at aF;simp only at aF;split at aF
    ·rename_i eD;simp only[Option.some.injEq] at aF;subst aF;refine⟨.agg (vs.extract off (off+n)),fun w2=>by simp[part,Hm o1,gh aI],lU.aM ⟨by simp; rw[aC.1]; omega,fun j c am=>?_⟩⟩;have m9:j<n:=by
      have:=(aCJ.1 am).1;rw[aCX] at this; omega
     rw[aCW m9,aDh] at am;obtain⟨v,h1,ag,aq⟩:=aC.2 _ c am;refine⟨v,?_,ag,aq⟩;rw[Array.getElem?_extract,if_pos (by rw[aC.1]; omega)];exact h1
    ·cases aF
theorem u0 {cs:List ad} {bY:Value} (al:aZ w R h μ (.aM cs) bY) :∃ vs,bY=.agg vs/\lU w R h μ cs vs:=by
 cases al with
 | aM _ vs ar h1 ay=>
  refine⟨vs,rfl,ar,fun j c am=>?_⟩;have aP:j<vs.size:=by rw[ar]; exact (aCJ.1 am).1
  exact⟨vs[j],by simp[aP],h1 j _ (by simp[aP]),ay j c _ am (by simp[aP])⟩
theorem ajy {t:TypeId} {cs:List ad} {f:Nat} {fd:Field} {c:ad} {bY:Value} (aL:xe P t f=some fd) (aF:iv P fd.type cs fd.offset=some c) (al:aZ w R h μ (.aM cs) bY) :
  ∃ v,(Instr.field t bY f).run P w=.ok v w/\aZ w R h μ c v:=by
 obtain⟨fs,aS,m7⟩:=SA aL;obtain⟨vs,rfl,aC⟩:=u0 al;obtain⟨v,h1,ag⟩:=wg (P:=P) aF aC;exact⟨v,by simp[Instr.field,cZ aS,m7,asAgg,h1],ag⟩
theorem K2 {t:TypeId} {x h7 c:ad} {bY Dc:Value} (ak:Au P t x h7=some c) (al:aZ w R h μ x bY) (aB:aZ w R h μ h7 Dc) :
  ∃ v,(Instr.index t bY Dc).run P w=.ok v w/\aZ w R h μ c v:=by
 unfold Au at ak;split at ak
 ·rename_i n e cs i aS fO;obtain⟨k,rfl⟩:=r3 fO aB;cases az:c5 P e with
  | none=>rw[az] at ak; cases ak
  | some z=>
   rw[az] at ak;simp only at ak;split at ak
   ·rename_i ai;obtain⟨vs,rfl,aC⟩:=u0 al;obtain⟨v,h1,ag⟩:=wg (P:=P) ak aC;exact⟨v,by simp[Instr.index,asIntOf,cZ aS,ai,gh az,h1],ag⟩
   ·cases ak
 ·rename_i s i aS fO;obtain⟨k,rfl⟩:=r3 fO aB;split at ak
  ·rename_i ai;cases al with
   | str bs=>
    cases Fv:bs.data.toList[i.toNat]? with
    | none=>rw[Fv] at ak; cases ak
    | some b=>
     rw[Fv] at ak;simp only[aCR,Option.some.injEq] at ak;subst ak;have aP:i.toNat<bs.size:=by have:=(aCJ.1 Fv).1; simpa using this
     have eK:bs[i.toNat]? = some b:=by
      have gK:=(aCJ.1 Fv).2;rw[getElem?_pos bs i.toNat aP];simp only[Option.some.injEq];rw[<-gK];rfl
     exact⟨.int .u8 b.toNat,by simp[Instr.index,asIntOf,cZ aS,ai,eK],.int _ _⟩
  ·cases ak
 ·cases ak
theorem aiG (rel:cp R B w h μ) {t u ty:TypeId} {d x c:ad} {IE bY:Value} {h' : bh} (ak:za P h t d x=some (c,h')) (bX:aZ w R h μ d IE) (al:aZ w R h μ x bY) :
  ∃ v w',(Builtin.copy_ #[t,u] ty #[IE,bY]).run P w=.ok v w'/\ej w h μ w' h' μ/\cp R B w' h' μ/\aZ w' R h' μ c v:=by
 unfold za at ak;cases au:i7 P t with
 | none=>rw[au] at ak; cases ak
 | some e=>
 rw[au] at ak;simp only at ak;cases az:c5 P e with
 | none=>rw[az] at ak; cases ak
 | some z=>
 rw[az] at ak;simp only at ak;cases cQ:contents h z x with
 | none=>rw[cQ] at ak; cases ak
 | some NA=>
 obtain⟨xs,n⟩:=NA;rw[cQ] at ak;simp only at ak;have k2:=BL au;obtain⟨bm,bu,vs,cW,lZ⟩:=vj (P:=P) rel cQ al;split at ak
 ·simp only[Option.some.injEq,Prod.mk.injEq] at ak;obtain⟨rfl,rfl⟩:=ak;cases bX;have aG:=lZ 0 (aD5 _) w (fun _=>rfl);refine⟨goInt (0:Nat),w,?_,.refl _ _ _,rel,.int _ _⟩;simp[Builtin.copy_,cZ k2,bu,gh az,aG]
 ·rename_i eG b off len cap sz;cases ai:h.f b with
  | cells m cs=>
   rw[ai] at ak;simp only at ak;split at ak
   ·rename_i Cm;obtain⟨rfl,rfl⟩:=Cm;simp only[Option.some.injEq,Prod.mk.injEq] at ak;obtain⟨rfl,rfl⟩:=ak;cases bX with
    | iy _ _ _ _ a cs' cF ca hm=>
     have aG:=lZ 0 (aD5 _) w (fun _=>rfl);have hx:bO cs off []=cs:=by simp[bO]
     have jZ:=rel.same (h':=h.set b (.cells m (bO cs off (xs.take (min n 0*z))))) (by
      rw[ez,Nat.min_zero,aEV,aD1,hx];funext x;simp only[ck];split
      ·rename_i al; rw[al,ai]
      ·rfl) rfl
     refine⟨goInt (0:Nat),w,?_,jZ.1,jZ.2,by rw[Nat.min_zero]; exact .int _ _⟩;simp[Builtin.copy_,cZ k2,bu,gh az,aG,storeCells,Result.andThen]
    | g4 _ _ _ _ _ _ cap' a ar dM aA=>
     exfalso;rcases aA with aA | ⟨hE,cs',aA,aP⟩
     ·rw[aA] at ai; cases ai
     ·rw[aA] at ai; cases ai; omega
    | av _ _ _ _ _ _ cap' cs' cF ca hm ar ax dM=>
     have fe:=rel.blk b cF hm;rw[ai] at fe;obtain⟨TX,dH,_⟩:=fe;have tV:min n len*z<=cap*z:=aCN _ (by omega);have UI:min n len*z<=n*z:=aCN _ (by omega);have k3:(xs.take (min n len*z)).length=min n len*z:=by rw[aCX]; omega
     have na:max m (off+(xs.take (min n len*z)).length)=m:=by rw[k3]; omega
     obtain⟨w',h1,ag,aq⟩:=yO (P:=P) rel (cvs:=xs.take (min n len*z)) (vs:=vs.take (min n len*z)) (k:=off) ai hm (by omega)
      (by rw[aCX,aCX,cW.1]) (by rw[na]; omega) (fun j c am=>by
       have aP:j<min n len*z:=by have:=(aCJ.1 am).1; rwa [k3] at this
       rw[aCW aP] at am ⊢;exact cW.2 j c am)
     rw[na] at ag aq;have aL:=lZ (min n len) (by omega) w (fun _=>rfl);refine⟨goInt (min n len:Nat),w',?_,ag,aq,.int _ _⟩;have CE:Nat.min n len=min n len:=rfl;simp[Builtin.copy_,cZ k2,bu,gh az,CE,aL,h1]
   ·cases ak
  | _=>rw[ai] at ak; cases ak
 ·cases ak
theorem Im:∀ (cs:List ad) (vs:List Value) (bs:List UInt8),oc cs=some bs->vs.length=cs.length->
  (∀ (j:Nat) (c:ad),cs[j]? = some c->∃ v:Value,vs[j]? = some v/\v.oneCell'=true/\aZ w R h μ c v)->
  ∃ ns:List Int,vs=ns.map (Value.int .u8)/\bs=ns.map fun n=>UInt8.ofNat n.toNat
 | [],[],bs,ai,_,_=>by
  simp only[oc,Option.some.injEq] at ai; subst ai;exact⟨[],rfl,rfl⟩
 | [],_::_,_,_,ar,_=>by simp at ar
 | _::_,[],_,_,ar,_=>by simp at ar
 | c::cs,v::vs,bs,ai,ar,ay=>by
  obtain⟨v0,iZ,_,uf⟩:=ay 0 c rfl;simp only[aDd,Option.some.injEq] at iZ;subst iZ;cases uf with
  | int k n=>
   cases k<;>simp only[oc] at ai<;>try (cases ai; done)
   cases p0:oc cs with
   | none=>rw[p0] at ai; cases ai
   | some aeN=>
    rw[p0] at ai;simp only[aCR,Option.some.injEq] at ai;subst ai;obtain⟨ns,h1,ag⟩:=Im cs vs aeN p0 (by simpa using ar) (fun j c am=>ay (j+1) c (by simpa using am));exact⟨n::ns,by rw[h1]; rfl,by rw[ag]; rfl⟩
  | _=>simp[oc] at ai
theorem SU:∀ (ns:List Int) (s:ByteArray),(ns.foldl (fun r n=>r.push (UInt8.ofNat n.toNat)) s).data.toList=s.data.toList++ns.map fun n=>UInt8.ofNat n.toNat
 | [],s=>by simp
 | n::ns,s=>by
  rw[aF0,SU ns];simp[ByteArray.push]
theorem aiE (rel:cp R B w h μ) {s d:TypeId} {x c:ad} {bY:Value} (ak:w5 P h s d x=some c) (al:aZ w R h μ x bY) :
  ∃ v,(convert s d bY).run P w=.ok v w/\aZ w R h μ c v:=by
 unfold w5 at ak;split at ak
 ·rename_i iH k k' n ap bX;simp only[Option.some.injEq] at ak; subst ak;cases al;exact⟨.int k (k.wrap n),by simp[convert,cZ ap,cZ bX,Conv.intToInt],.int _ _⟩
 ·rename_i Hn ap bX;simp only[Option.some.injEq] at ak; subst ak;cases al with
  | str bs=>exact⟨.string bs,by simp[convert,cZ ap,cZ bX],.str _⟩
 ·rename_i e ap bX UK;cases Ge:P.underlying e with
  | none=>rw[Ge] at ak; cases ak
  | some axX=>
   rw[Ge] at ak;split at ak
   ·rename_i heq;simp only[Option.some.injEq] at heq ak; subst heq ak;cases al;refine⟨.string ByteArray.empty,by simp[convert,cZ ap,cZ bX,cZ Ge,Conv.bytesToString],?_⟩;exact .str ByteArray.empty
   ·rename_i heq xZ;simp only[Option.some.injEq] at heq; subst heq;split at ak
    ·cases ak
    ·rename_i cs n ame cQ;cases p0:oc cs with
     | none=>rw[p0] at ak; cases ak
     | some bs=>
      rw[p0] at ak;simp only[aCR,Option.some.injEq] at ak; subst ak;obtain⟨bm,bu,vs,cW,lZ⟩:=vj (P:=P) rel cQ al;have aL:=lZ n (aCL _) w (fun _=>rfl);obtain⟨ns,rfl,rfl⟩:=Im cs vs bs p0 cW.1 cW.2;have CZ:(ns.map (Value.int .u8)).take (n*1)=ns.map (Value.int .u8) :=aCI (by rw[cW.1,bm]; exact aCL _);rw[CZ] at aL;have JT:∃ a len cap,bY=.slice a len cap:=by
       cases al<;>first | exact⟨_,_,_,rfl⟩ | (simp[contents] at cQ; done) | (exact absurd rfl (ame _))
      obtain⟨a,len,cap,rfl⟩:=JT;simp only[Builtin.lenOf,Sem.run_pure,Result.ok.injEq] at bu;obtain⟨rfl,_⟩:=bu;have ala:=SU ns ByteArray.empty;refine⟨.string (ns.foldl (fun r n=>r.push (UInt8.ofNat n.toNat)) ByteArray.empty),?_,?_⟩
      ·rw[run_convert_bytes_string w s d e a len cap ap Ge bX];cases a with
       | none=>
        simp only[Builtin.firstCells,Sem.run_pure,Result.ok.injEq] at aL;have nh:ns=[] :=by
         have:=congrArg Array.toList aL.1;simpa using this.symm
        subst nh;simp[Conv.bytesToString]
       | some a=>
        simp only[Builtin.firstCells,aEk] at aL;exact run_bytesToString w a len cap ns aL
      ·have:(ns.foldl (fun r n=>r.push (UInt8.ofNat n.toNat)) ByteArray.empty).data.toList=ns.map fun n=>UInt8.ofNat n.toNat:=by rw[ala]; rfl
       rw[<-this];exact .str _
    ·cases ak
   ·cases ak
 ·cases ak
theorem Mq (rel:cp R B w h μ) {w' : World} (ai:RowKit.Below w.heap.size w w') (ra:w.drawn<=w'.drawn:=by first | exact aCL _ | exact Nat.le_succ _) :ej w h μ w' h μ/\cp R B w' h μ:=by
 have e:ej w h μ w' h μ:=⟨⟨ai.os,ai.tape,ai.output,ai.size,fun k hk _=>ai.block k hk,fun _ ax=>.inl ax,fun b sz cs m h1 ag=>.inl ⟨cs,h1,ag⟩,fun _ _ aA=>aA,fun _ _ _ h1 ag=>⟨h1,ag⟩,aCL _,ra⟩,fun _ _ hm=>hm⟩
 refine⟨e,fun b m hm=>?_,rel.inj,rel.base,rel.fresh,rel.up,aD2 rel.size ai.size,rel.lL⟩;cases ar:live (h.f b) with
 | false=>cases ak:h.f b<;>first | trivial | (rw[ak] at ar; cases ar)
 | true=>exact (rel.blk b m hm).ext e.toExt0 (ai.block _ (rel.lt ar hm))
theorem aeZ (rel:cp R B w h μ) {s d:TypeId} {x c:ad} {bY:Value} (ak:y1 P s d x=some c) (al:aZ w R h μ x bY) :
  ∃ v w',(convert s d bY).run P w=.ok v w'/\ej w h μ w' h μ/\cp R B w' h μ/\aZ w' R h μ c v:=by
 unfold y1 at ak;split at ak
 ·rename_i iH e Hn ap bX;split at ak
  ·rename_i aS;simp only[Option.some.injEq] at ak; subst ak;cases al with
   | str bs=>
    have JI:RowKit.Below w.heap.size w (Lib.bytesWorld w e bs) :=⟨rfl,rfl,rfl,by rw[Lib.bytesWorld_size]; omega,fun k hk=>Lib.bytesWorld_at_old w e bs k hk⟩
    obtain⟨h1,ag⟩:=Mq rel JI;refine⟨_,_,Lib.run_convert_string_bytes w s d e bs ap bX aS,h1,ag,?_⟩;have h6:bs.data.toList.length=bs.size:=by simp
    have fU:¬ mh h μ w.heap.size:=by
     rintro⟨b,m,ar,hm,au⟩;have:=rel.lt ar hm;omega
    have dv:bs.size<=grownCap w bs.size 0 e:=grownCap_ge w bs.size 0 e;have:=aZ.cr (w:=Lib.bytesWorld w e bs) (R:=R) (h:=h) (μ:=μ) 1 (bs.data.toList.map fun b=>[jR b]) w.heap.size 0 (grownCap w bs.size 0 e) (fun i _=>.int .u8 (bs.data.toList.getD i 0).toNat)
     (by simpa using dv) (fun e au=>by obtain⟨b,_,rfl⟩:=aC9.1 au; rfl)
     (fun i j aB am=>by
      have gj:i<bs.size:=by simpa using aB
      have:j=0:=by omega
      subst this;exact⟨by simpa using Lib.bytesWorld_cell w e bs i gj,rfl,rel.up _ rel.size,fU⟩)
     (fun i e au j c am=>by
      rw[aCO] at au;cases ai:bs.data.toList[i]? with
      | none=>rw[ai] at au; cases au
      | some b=>
       rw[ai] at au;simp only[aCR,Option.some.injEq] at au; subst au;cases j with
       | zero=>
        simp only[aDd,Option.some.injEq] at am; subst am;have:bs.data.toList.getD i 0=b:=by simp[List.getD,ai]
        rw[this];exact .int _ _
       | succ j=>simp at am)
    rw[aCZ,h6] at this;exact this
  ·cases ak
 ·cases ak
theorem aia {t ty:TypeId} {x c:ad} {bY:Value} (ak:y6 P t x=some c) (al:aZ w R h μ x bY) :∃ v,(Builtin.cap_ #[t] ty #[bY]).run P w=.ok v w/\aZ w R h μ c v:=by
 unfold y6 at ak;split at ak<;>(try (simp only[Option.some.injEq] at ak; subst ak))
 ·rename_i n e aS;exact⟨goInt n,by simp[Builtin.cap_,cZ aS],.int _ _⟩
 ·rename_i e aS;cases al;exact⟨goInt (0:Nat),by simp[Builtin.cap_,cZ aS],.int _ _⟩
 ·cases ak
theorem ail (rel:cp R B w h μ) {t ty:TypeId} {x:ad} {bY:Value} {h' : bh} (ak:y8 P h t x=some h') (al:aZ w R h μ x bY) :
  ∃ w',(Builtin.clear_ #[t] ty #[bY]).run P w=.ok (.tuple #[]) w'/\ej w h μ w' h' μ/\cp R B w' h' μ:=by
 unfold y8 at ak;split at ak
 ·rename_i e aS;simp only[Option.some.injEq] at ak; subst ak;cases al;exact⟨w,by simp[Builtin.clear_,cZ aS],.refl _ _ _,rel⟩
 ·rename_i e z aS;simp only[Option.some.injEq] at ak; subst ak;cases al<;>exact⟨w,by simp[Builtin.clear_,cZ aS],.refl _ _ _,rel⟩
 ·rename_i e z b off len cap sz aS;split at ak
  ·rename_i vD;simp only[Option.some.injEq] at ak; subst ak;subst vD;cases al<;>exact⟨w,by simp[Builtin.clear_,cZ aS],.refl _ _ _,rel⟩
  ·rename_i vD;split at ak
   ·rename_i zero m cs az ai;split at ak
    ·rename_i Cm;obtain⟨rfl,rfl⟩:=Cm;simp only[Option.some.injEq] at ak; subst ak;cases al with
     | iy=>exact absurd rfl vD
     | g4 _ _ _ _ _ _ cap' a ar dM aA=>
      exfalso;rcases aA with aA | ⟨hE,cs',aA,aP⟩
      ·rw[aA] at ai; cases ai
      ·rw[aA] at ai; cases ai; omega
     | av _ _ _ _ _ _ cap' cs' cF ca hm ar ax dM=>
      have fe:=rel.blk b cF hm;rw[ai] at fe;obtain⟨TX,dH,_⟩:=fe;obtain⟨v,ay,aC⟩:=wM (P:=P) (w:=w) (R:=R) (h:=h) (μ:=μ) az;have KB:=Hi aC len;have tV:len*zero.length<=cap*zero.length:=aCN _ ar;have mC:(ey zero len).length=len*zero.length:=yv len;have na:max m (off+(ey zero len).length)=m:=by rw[mC]; omega
      have il:v.cells.size=zero.length:=aC.1;have Gh:(Builtin.zeroCells v.cells len)=(Array.range (len*zero.length)).map (v.cells[· % v.cells.size]!) :=by
       unfold Builtin.zeroCells;rw[il]
      obtain⟨w',h1,ag,aq⟩:=yO (P:=P) rel (cvs:=ey zero len) (vs:=(Builtin.zeroCells v.cells len).toList) (k:=off) ai hm (by omega)
       (by rw[Gh,mC]; simp) (by rw[na]; omega) (fun j c am=>by
        rw[Gh];obtain⟨u,br,bI,a3⟩:=KB.2 j c am;exact⟨u,by rw[aEC]; exact br,bI,a3⟩)
      rw[na] at ag aq;refine⟨w',?_,ag,aq⟩;cases bu:len with
      | zero=>exact absurd bu vD
      | succ aAG=>
       rw[bu] at h1;simp[Builtin.clear_,cZ aS,ay,h1]
    ·cases ak
   ·cases ak
 ·cases ak
theorem aes (rel:cp R B w h μ) {t u ty:TypeId} {k:IntKind} {s x c:ad} {af bY:Value} {h' : bh} (aS:P.underlying u=some (.int k)) (aD:Bn P h t s x=some (c,h')) (ap:aZ w R h μ s af) (al:aZ w R h μ x bY) :
  ∃ v w' μ',(Builtin.append_ #[t,u] ty #[af,bY]).run P w=.ok v w'/\ej w h μ w' h' μ'/\cp R B w' h' μ'/\aZ w' R h' μ' c v:=by
 unfold Bn at aD;split at aD
 ·rename_i e n au aB;have k2:=BL au;obtain⟨rq,rfl⟩:=r3 aB al;split at aD
  ·rename_i z by_ zero az eQ jA;split at aD
   ·rename_i kf;obtain⟨il,tW,ay5,eb⟩:=kf;obtain⟨i,zv,re,l8,kj,_⟩:=adq (P:=P) (w:=w) (R:=R) (h:=h) (μ:=μ) jA;have qn:i.size=z:=by simpa [c5,re] using az
    have my:i.bytes=by_:=by simpa [jp,re] using eQ
    have Aj:IntKind.i64.wrap n=n:=by
     simp[IntKind.wrap,IntKind.bits,IntKind.signed]; omega
    have aI:(n.toNat:Int)=n:=by omega
    have qd:¬ (n<0) :=by omega
    have ays:¬ (2 ^ 48<n*(by_:Int)) :=by
     have h1:((n.toNat*by_:Nat) :Int)=n*by_:=by rw[Int.natCast_mul,aI]
     have ag:((n.toNat*by_:Nat) :Int)<=((140737488355328:Nat) :Int) :=Int.ofNat_le.2 eb;rw[h1] at ag;omega
    have cW:lU w R h μ (ey zero n.toNat) (Builtin.zeroCells zv.cells n.toNat) :=by
     obtain⟨v,ay,aC⟩:=wM (P:=P) (w:=w) (R:=R) (h:=h) (μ:=μ) jA;have am0:v=zv:=by
      have:=ay w;simp[zeroValue,typeInfo,re,l8] at this;exact this.symm
     subst am0;have KB:=Hi aC n.toNat
     have Gh:(Builtin.zeroCells v.cells n.toNat)=(Array.range (n.toNat*zero.length)).map (v.cells[· % v.cells.size]!) :=by
      unfold Builtin.zeroCells;rw[aC.1]
     rw[Gh];exact KB
    have mC:(ey zero n.toNat).length=n.toNat*z:=by rw[yv,il]
    have vy:∀ w2:World,(Go.asInt (.int rq n)).run P w2=.ok n w2:=fun w2=>rfl
    have vr:¬ (281474976710656<n*(by_:Int)) :=by omega
    have sH:∀ w2:World,(zeroValue e).run P w2=.ok zv w2:=fun w2=>by simp[zeroValue,typeInfo,re,l8]
    have Vp:n.toNat*z=0->Builtin.zeroCells zv.cells n.toNat=#[] :=fun aG=>by
     apply aEO;unfold Builtin.zeroCells;simp[kj,il,aG]
    refine N8 rel az eQ aD ap mC (vs:=(Builtin.zeroCells zv.cells n.toNat).toList) ⟨by simpa using cW.1,fun j c am=>by
     obtain⟨v,br,bI,a3⟩:=cW.2 j c am;exact⟨v,by rw[aEC]; exact br,bI,a3⟩⟩ (fun base sLen hj w' fv cL=>?_) (fun k4 aCH gj Vq base sLen hj gm ax aA aC ai=>?_)
    ·by_cases aG:n.toNat*z=0
     ·rw[Vp aG] at cL;cases base with
      | none=>
       subst cL;simp[Builtin.append_,vy,cZ k2,cZ aS,gh az,Aj,qd,typeInfo,re,my,fv,vr,aG]
      | some a=>
       simp only at cL;simp[Builtin.append_,vy,cZ k2,cZ aS,gh az,Aj,qd,typeInfo,re,my,fv,vr,aG,cL]
     ·cases base with
      | none=>
       subst cL;simp[Builtin.append_,vy,cZ k2,cZ aS,gh az,Aj,qd,typeInfo,re,my,fv,vr,aG,sH]
      | some a=>
       simp only at cL;simp[Builtin.append_,vy,cZ k2,cZ aS,gh az,Aj,qd,typeInfo,re,my,fv,vr,aG,sH,cL]
    ·rw[re] at gj;cases gj;rw[l8] at Vq;cases Vq;have JV:¬ (281474976710656<Builtin.nextslicecap (sLen+n.toNat) hj*i.bytes) :=by
      have:=growslice_fits (need:=sLen+n.toNat) (old:=hj) (bytes:=i.bytes) aA aC;omega
     have UM:¬ (sLen+n.toNat<=hj) :=by omega
     have xX:¬ ((9223372036854775807:Int)<((sLen+n.toNat:Nat) :Int)) :=by
      have h1:(sLen+n.toNat)*1<=(sLen+n.toNat)*i.bytes:=Nat.mul_le_mul_left _ ai;unfold c4 at aC;omega
     have UJ:¬ ((9223372036854775807:Int)<(sLen:Int)+max n 0) :=by omega
     rw[qn] at ax;rw[my] at JV;by_cases aG:n.toNat*z=0
     ·have xT:(gm++(Builtin.zeroCells zv.cells n.toNat).toList).toArray=gm.toArray:=by rw[Vp aG]; simp
      rw[xT];simp[Builtin.append_,vy,cZ k2,cZ aS,gh az,Aj,qd,typeInfo,re,my,UM,vr,xX,UJ,JV,aG,sH,ax,Question.forced,newRow,grownCap]
     ·have xT:(gm++(Builtin.zeroCells zv.cells n.toNat).toList).toArray=gm.toArray++Builtin.zeroCells zv.cells n.toNat:=by simp
      rw[xT];simp[Builtin.append_,vy,cZ k2,cZ aS,gh az,Aj,qd,typeInfo,re,my,UM,vr,xX,UJ,JV,aG,sH,ax,Question.forced,newRow,grownCap]
   ·cases aD
  ·cases aD
 ·cases aD
end

section
variable {P:Program} {w:World} {R:Nat->Prop} {B:Nat} {h:bh} {μ:dd}
theorem aeC {op:BinOp} {t:TypeId} {k k' : IntKind} {a b:Int} {c:ad} (ak:cP op k a k' b=some c) :
  ∃ v,(binOp op t (.int k a) (.int k' b)).run P w=.ok v w/\aZ w R h μ c v:=by
 cases op
 case shl=>
  simp only[cP] at ak;split at ak
  ·cases ak
  ·rename_i ai;simp only[Option.some.injEq] at ak; subst ak;exact⟨_,by simp[binOp,Op.shift,ai],.int _ _⟩
 case shr=>
  simp only[cP] at ak;split at ak
  ·cases ak
  ·rename_i ai;simp only[Option.some.injEq] at ak; subst ak;exact⟨_,by simp[binOp,Op.shift,ai],.int _ _⟩
 case quo=>
  simp only[cP] at ak;split at ak
  ·rename_i ai;obtain⟨rfl,ai⟩:=ai;simp only[Option.some.injEq] at ak; subst ak;exact⟨_,by simp[binOp,Op.intDiv,ai],.int _ _⟩
  ·cases ak
 case rem=>
  simp only[cP] at ak;split at ak
  ·rename_i ai;obtain⟨rfl,ai⟩:=ai;simp only[Option.some.injEq] at ak; subst ak;exact⟨_,by simp[binOp,Op.intDiv,ai],.int _ _⟩
  ·cases ak
 all_goals
  simp only[cP] at ak;split at ak
  ·rename_i hk;subst hk;simp only[Option.some.injEq] at ak; subst ak
   first
    | (refine⟨_,?_,.int _ _⟩; unfold binOp; simp only[ne_eq,not_true_eq_false,if_false]; rfl)
    | (refine⟨_,?_,.bool _⟩; unfold binOp; simp only[ne_eq,not_true_eq_false,if_false]; rfl)
  ·cases ak
theorem toList_eq (s:ByteArray) :s.toList=s.data.toList:=by
 rw[ByteArray.toList_eq]
theorem aeD {op:BinOp} {t:TypeId} {a b:ByteArray} {c:ad} (ak:ob op a.data.toList b.data.toList=some c) :
  ∃ v,(binOp op t (.string a) (.string b)).run P w=.ok v w/\aZ w R h μ c v:=by
 cases op<;>simp only[ob] at ak<;>try (cases ak; done)
 case add=>
  split at ak
  ·rename_i eD;simp only[Option.some.injEq] at ak; subst ak;have h1:a.data.toList.length=a.size:=by simp
   have ag:b.data.toList.length=b.size:=by simp
   rw[h1,ag] at eD;have CC:¬ ((9223372036854775807:Int)<(a.size:Int)+(b.size:Int)) :=by omega
   have ar:(a++b).data.toList=a.data.toList++b.data.toList:=by simp
   refine⟨.string (a++b),by simp[binOp,Op.stringOp,CC],?_⟩;rw[<-ar];exact .str _
  ·cases ak
 all_goals
  simp only[Option.some.injEq] at ak; subst ak;exact⟨_,by simp[binOp,Op.stringOp,toList_eq],.bool _⟩
theorem ajj {d:Nat} {t:TypeId} {a b:Bool} (aS:P.underlying t=some .bool) :(Op.equalIn (d+1) t (.bool a) (.bool b)).run P w=.ok (a == b) w:=by
 simp[Op.equalIn,cZ aS]
theorem ajk {d:Nat} {t:TypeId} {hh k:IntKind} {a b:Int} (aS:P.underlying t=some (.int hh)) :(Op.equalIn (d+1) t (.int k a) (.int k b)).run P w=.ok (a == b) w:=by
 simp[Op.equalIn,cZ aS]
theorem ajl {d:Nat} {t:TypeId} {a b:ByteArray} (aS:P.underlying t=some .string) :(Op.equalIn (d+1) t (.string a) (.string b)).run P w=.ok (a.data.toList == b.data.toList) w:=by
 simp[Op.equalIn,cZ aS,toList_eq,beq_toListBytes]
theorem IR {d:Nat} {t e:TypeId} {x y l c:Nat} {b:Option Addr} (aS:P.underlying t=some (.slice e)) :(Op.equalIn (d+1) t (.slice none x y) (.slice b l c)).run P w=.ok b.isNone w:=by
 simp[Op.equalIn,cZ aS]
theorem Sv {d:Nat} {t e:TypeId} {x y l c:Nat} {a:Addr} (aS:P.underlying t=some (.slice e)) :(Op.equalIn (d+1) t (.slice (some a) l c) (.slice none x y)).run P w=.ok false w:=by
 simp[Op.equalIn,cZ aS]
theorem IM {d:Nat} {xs bt:List ad} {rP rQ:Array Value}
  (aY:∀ (t:TypeId) (x y:ad) (b:Bool) (bY gG:Value),fk P d t x y=some b->aZ w R h μ x bY->aZ w R h μ y gG->(Op.equalIn d t bY gG).run P w=.ok b w)
  (sE:lU w R h μ xs rP) (sF:lU w R h μ bt rQ) :∀ (l:List Field) (b:Bool),fk.eqFields P (fk P d) xs bt l=some b->(Op.eqFields d rP rQ l).run P w=.ok b w
 | [],b,ai=>by simp only[fk.eqFields,Option.some.injEq] at ai; subst ai; simp[Op.eqFields]
 | f::l,b,ai=>by
  unfold fk.eqFields at ai;unfold Op.eqFields;by_cases aL:f.name= "_"
  ·rw[if_pos aL] at ai;simp[aL,IM aY sE sF l b ai]
  ·rw[if_neg aL] at ai;split at ai
   ·rename_i a c aD ak;obtain⟨iU,h1,ag⟩:=wg (P:=P) aD sE;obtain⟨eY,aq,aH⟩:=wg (P:=P) ak sF;split at ai
    ·rename_i heq;have:=aY f.type a c true iU eY heq ag aH;simp[aL,h1,aq,this,IM aY sE sF l b ai]
    ·rename_i heq;have:=aY f.type a c false iU eY heq ag aH;simp only[Option.some.injEq] at ai; subst ai;simp[aL,h1,aq,this]
    ·cases ai
   ·cases ai
theorem Ss {d z:Nat} {e:TypeId} {xs bt:List ad} {rP rQ:Array Value}
  (aY:∀ (t:TypeId) (x y:ad) (b:Bool) (bY gG:Value),fk P d t x y=some b->aZ w R h μ x bY->aZ w R h μ y gG->(Op.equalIn d t bY gG).run P w=.ok b w)
  (sE:lU w R h μ xs rP) (sF:lU w R h μ bt rQ) (f:Nat->Option Bool × Unit->Sem (ForInStep (Option Bool × Unit)))
  (aL:∀ (i:Nat) (iU eY:Value) (b:Bool) (r:Option Bool × Unit),(part e rP (i*z)).run P w=.ok iU w->(part e rQ (i*z)).run P w=.ok eY w->(Op.equalIn d e iU eY).run P w=.ok b w->
   (f i r).run P w=.ok (if b then .yield (none,()) else .done (some false,())) w) :
  ∀ (n i:Nat) (b:Bool),fk.sd P (fk P d) e z xs bt n i=some b->(forIn (List.range' i n) (none,()) f).run P w=.ok (if b then (none,()) else (some false,())) w
 | 0,i,b,ai=>by
  simp only[fk.sd,Option.some.injEq] at ai; subst ai;simp
 | n+1,i,b,ai=>by
  unfold fk.sd at ai;split at ai
  ·rename_i a c aD ak;obtain⟨iU,h1,ag⟩:=wg (P:=P) aD sE;obtain⟨eY,aq,aH⟩:=wg (P:=P) ak sF;rw[List.range'_succ,List.forIn_cons];split at ai
   ·rename_i heq;have bD:=aY e a c true iU eY heq ag aH;have aR:=aL i iU eY true (none,()) (h1 w) (aq w) bD;simp only[Sem.run_bind,aR,if_true,Result.andThen_ok];exact Ss aY sE sF f aL n (i+1) b ai
   ·rename_i heq;have bD:=aY e a c false iU eY heq ag aH;have aR:=aL i iU eY false (none,()) (h1 w) (aq w) bD;simp only[Option.some.injEq] at ai; subst ai;simp[aR]
   ·cases ai
  ·cases ai
theorem run_equalIn_array {d n z:Nat} {t e:TypeId} {rP rQ:Array Value} (aS:P.underlying t=some (.array n e)) (az:c5 P e=some z) {b:Bool}
  (hk:∀ f:Nat->Option Bool × Unit->Sem (ForInStep (Option Bool × Unit)),
   (∀ (i:Nat) (iU eY:Value) (b:Bool) (r:Option Bool × Unit),(part e rP (i*z)).run P w=.ok iU w->(part e rQ (i*z)).run P w=.ok eY w->(Op.equalIn d e iU eY).run P w=.ok b w->(f i r).run P w=.ok (if b then .yield (none,()) else .done (some false,())) w)->
   (forIn (List.range' 0 n) (none,()) f).run P w=.ok (if b then (none,()) else (some false,())) w) :
  (Op.equalIn (d+1) t (.agg rP) (.agg rQ)).run P w=.ok b w:=by
 simp only[Op.equalIn,Sem.run_bind,cZ aS,Result.andThen_ok,gh az];rw[Std.Legacy.Range.forIn_eq_forIn_range'];have aC:List.range' ([:n] :Std.Legacy.Range).start ([:n] :Std.Legacy.Range).size ([:n] :Std.Legacy.Range).step=List.range' 0 n:=by simp[Std.Legacy.Range.size]
 rw[aC,hk]
 ·cases b<;>simp
 ·intro i iU eY b r h1 ag aq;cases b<;>simp[h1,ag,aq]
theorem IP:∀ (d:Nat) (t:TypeId) (x y:ad) (b:Bool) (bY gG:Value),fk P d t x y=some b->aZ w R h μ x bY->aZ w R h μ y gG->
  (Op.equalIn d t bY gG).run P w=.ok b w:=by
 intro d
 induction d with
 | zero=>intro t x y b bY gG au; simp[fk] at au
 | succ d aY=>
  intro t x y b bY gG au al aE;unfold fk at au;split at au
  ·rename_i a bK aS;simp only[Option.some.injEq] at au; subst au;cases al; cases aE;exact ajj aS
  ·rename_i hh k a k' bK aS;split at au
   ·rename_i hk; subst hk;simp only[Option.some.injEq] at au; subst au;cases al; cases aE;exact ajk aS
   ·cases au
  ·rename_i a bK aS;simp only[Option.some.injEq] at au; subst au;cases al; cases aE;exact ajl aS
  ·rename_i fs xs bt aS;split at au
   ·cases au
   ·rename_i cL;obtain⟨rP,rfl,sE⟩:=u0 al;obtain⟨rQ,rfl,sF⟩:=u0 aE;have F7:P.stoodInHeld t=false:=by simpa using cL
    have m7:P.fieldsOf t=fs:=by simp[Program.fieldsOf,aS]
    rw[run_equalIn_struct w d t rP rQ (by rw[m7]; exact aS) F7,m7];exact IM aY sE sF _ _ au
  ·rename_i n e xs bt aS;cases az:c5 P e with
   | none=>rw[az] at au; cases au
   | some z=>
    rw[az] at au;simp only at au;obtain⟨rP,rfl,sE⟩:=u0 al;obtain⟨rQ,rfl,sF⟩:=u0 aE;exact run_equalIn_array aS az (fun f aL=>Ss aY sE sF f aL n 0 b au)
  ·rename_i e aS;simp only[Option.some.injEq] at au; subst au;cases al; cases aE;exact IR aS
  ·rename_i e z bK off len cap sz aS;simp only[Option.some.injEq] at au; subst au;cases al; cases aE<;>exact IR aS
  ·rename_i e z es aS;simp only[Option.some.injEq] at au; subst au;cases al; cases aE<;>exact IR aS
  ·rename_i e z bK off len cap sz aS;simp only[Option.some.injEq] at au; subst au;cases aE; cases al<;>exact Sv aS
  ·rename_i e z es aS;simp only[Option.some.injEq] at au; subst au;cases aE; cases al<;>exact Sv aS
  ·cases au
end

end Go.ct

/-
  The canonical machine, part E: slices: what they hold, append, slicing, copy, make, len.
-/
import Derived.Test.YtobphgccoalchaaGreatDoorQa
import Derived.Lib.IndexBytes
import Derived.Laws.BytesString
import Derived.Lib.ConvBytes
set_option linter.unusedVariables false
set_option linter.unusedSimpArgs false
set_option linter.unnecessarySimpa false
namespace Go.b2
open Go
section
variable {P:Program} {w:World} {R:Nat->Prop} {B:Nat} {h:aN} {μ:cH}
theorem l9 {α:Type} {z:Nat}:∀ {es:List (List α)},(∀ e,e∈es->e.length=z)->es.flatten.length=es.length*z
 | [],_=>by simp
 | e::es,aw=>by
  rw[aup,atB,aw e (by simp),l9 (fun e ao=>aw e (by simp[ao])),atL,aua,Nat.add_comm]
theorem R0 {α:Type} {z:Nat}:∀ {es:List (List α)} {j:Nat} {c:α},(∀ e,e∈es->e.length=z)->es.flatten[j]? = some c->
  ∃ i k e,j=i*z+k/\k<z/\es[i]? = some e/\e[k]? = some c
 | [],_,_,_,ai=>by simp at ai
 | e::es,j,c,aw,ai=>by
  have ao:=aw e (by simp);rw[aup] at ai;by_cases aK:j<e.length
  ·rw[ats aK] at ai;exact⟨0,j,e,by simp,by omega,rfl,ai⟩
  ·rw[atC (by omega)] at ai;obtain⟨i,k,fb,h1,ad,aj,aF⟩:=R0 (fun e ao=>aw e (by simp[ao])) ai;exact⟨i+1,k,fb,by rw[aua]; omega,ad,by simpa using aj,aF⟩
def tp (w:World) (R:Nat->Prop) (h:aN) (μ:cH) (xs:List U) (vs:List Value) :Prop:=
 vs.length=xs.length/\∀ (j:Nat) (c:U),xs[j]? = some c->∃ v:Value,vs[j]? = some v/\v.oneCell'=true/\aO w R h μ c v
theorem MZ {w2:World} {xs:List U} {blk o:Nat} (md:∀ a,w2.cell? a=w.cell? a)
  (af:∀ (j:Nat) (c:U),xs[j]? = some c->∃ v:Value,w.cell? ⟨blk,o+j,none⟩=some v/\v.oneCell'=true/\aO w R h μ c v) :
  ∃ vs:List Value,tp w R h μ xs vs/\∀ k,k<=xs.length->∀ w2:World,(∀ a,w2.cell? a=w.cell? a)->(loadCells ⟨blk,o,none⟩ k).run P w2=.ok (vs.take k).toArray w2:=by
 have aq:∃ f:Nat->Value,∀ (j:Nat) (c:U),xs[j]? = some c->w.cell? ⟨blk,o+j,none⟩=some (f j)/\(f j).oneCell'=true/\aO w R h μ c (f j) :=by
  refine⟨fun j=>(w.cell? ⟨blk,o+j,none⟩).getD undef,fun j c ai=>?_⟩;obtain⟨v,h1,ad,aj⟩:=af j c ai;simp only[h1,aud];exact⟨trivial,ad,aj⟩
 obtain⟨f,aD⟩:=aq;refine⟨(List.range xs.length).map f,⟨by simp,fun j c ai=>?_⟩,fun k hk w2 kD=>?_⟩
 ·have aK:j<xs.length:=(atq.1 ai).1;exact⟨f j,by simp[aK],(aD j c ai).2⟩
 ·have:=run_loadCells_list (P:=P) w2 ⟨blk,o,none⟩ (((List.range xs.length).map f).take k) (fun j v ai=>by
   have fQ:j<k:=by
    rcases auA j k with h1 | h1
    ·exact h1
    ·rw[atG (by simp; omega)] at ai; cases ai
   rw[atP fQ,atw] at ai;have j6:j<xs.length:=by omega
   rw[at3 j6] at ai;simp only[atA,Option.some.injEq] at ai;rw[Addr.l3,<-ai,kD];exact (aD j _ (atu j6)).1)
  have ak:(((List.range xs.length).map f).take k).length=k:=by simp; omega
  rw[ak] at this;exact this
theorem vq (rel:b3 R B w h μ) {z n:Nat} {x:U} {bE:Value} {xs:List U} (ah:contents h z x=some (xs,n)) (af:aO w R h μ x bE) :
  xs.length=n*z/\(Builtin.lenOf bE).run P w=.ok n w/\∃ vs:List Value,tp w R h μ xs vs ∧
   ∀ k,k<=n->∀ w2:World,(∀ a,w2.cell? a=w.cell? a)->(Builtin.firstCells z k bE).run P w2=.ok (vs.take (k*z)).toArray w2:=by
 cases af with
 | a1=>
  simp only[contents,Option.some.injEq,Prod.mk.injEq] at ah;obtain⟨rfl,rfl⟩:=ah;exact⟨by simp,by simp[Builtin.lenOf],[],⟨rfl,fun j c ai=>by simp at ai⟩,fun k _ w2 _=>by simp[Builtin.firstCells]⟩
 | str bs=>
  simp only[contents] at ah;split at ah
  ·rename_i aw; subst aw;simp only[Option.some.injEq,Prod.mk.injEq] at ah;obtain⟨rfl,rfl⟩:=ah;refine⟨by simp,by simp[Builtin.lenOf],bs.data.toList.map fun b=>.int .u8 b.toNat,⟨by simp,fun j c ai=>?_⟩,fun k hk w2 _=>?_⟩
   ·rw[atw] at ai ⊢;cases ag:bs.data.toList[j]? with
    | none=>rw[ag] at ai; cases ai
    | some b=>
     rw[ag] at ai;simp only[atA,Option.some.injEq] at ai;subst ai;exact⟨_,rfl,rfl,.int _ _⟩
   ·have af:(bs.extract 0 k).data.toList=bs.data.toList.take k:=by
     simp[ByteArray.extract,ByteArray.copySlice]
    have az:(bs.extract 0 k).data=(bs.data.toList.take k).toArray:=by rw[<-af]
    simp only[Builtin.firstCells,az];simp
  ·cases ah
 | bD dm es blk off cap ed ak aw md aq=>
  simp only[contents] at ah;split at ah
  ·rename_i uo; subst uo;simp only[Option.some.injEq,Prod.mk.injEq] at ah;obtain⟨rfl,rfl⟩:=ah;have bh:=l9 aw;have cC:∀ (j:Nat) (c:U),es.flatten[j]? = some c->∃ v:Value,w.cell? ⟨blk,off+j,none⟩=some v/\v.oneCell'=true/\aO w R h μ c v:=by
    intro j c ai;obtain⟨i,k,e,rfl,hk,ao,ad5⟩:=R0 aw ai;have av:i<es.length:=(atq.1 ao).1;have de:=md i k av hk;exact⟨ed i k,de.here,de.one,aq i e ao k c ad5⟩
   obtain⟨vs,h1,ad⟩:=MZ (P:=P) (w2:=w) (fun _=>rfl) cC;refine⟨bh,by simp[Builtin.lenOf],vs,h1,fun k hk w2 kD=>?_⟩;have:=ad (k*z) (by rw[bh]; exact aty _ hk) w2 kD;simp[Builtin.firstCells,this]
  ·cases ah
 | fw dm a cap=>
  simp only[contents] at ah;split at ah
  ·simp only[Option.some.injEq,Prod.mk.injEq] at ah;obtain⟨rfl,rfl⟩:=ah;exact⟨by simp,by simp[Builtin.lenOf],[],⟨rfl,fun j c ai=>by simp at ai⟩,fun k hk w2 _=>by
    obtain rfl:k=0:=by simpa using hk
    simp[Builtin.firstCells,loadCells,loadCellsFrom]⟩
  ·cases ah
 | au dm b off len cap sz cap' cs m ag hm ak ap cS=>
  simp only[contents,ag,true_and] at ah;split at ah
  ·rename_i uo; subst uo;simp only[Option.some.injEq,Prod.mk.injEq] at ah;obtain⟨rfl,rfl⟩:=ah;have eD:=rel.blk b m hm;rw[ag] at eD;obtain⟨h1,ad,arr,t,fV,aj,aF,aW,bt⟩:=eD;have ua:len*z<=cap*z:=aty _ ak;have bh:((cs.drop off).take (len*z)).length=len*z:=by
    rw[atN,auw]; omega
   have cC:∀ (j:Nat) (c:U),((cs.drop off).take (len*z))[j]? = some c->∃ v:Value,w.cell? ⟨m.r,(m.s+off)+j,none⟩=some v/\v.oneCell'=true/\aO w R h μ c v:=by
    intro j c ai;have aK:j<len*z:=by
     have:=(atq.1 ai).1;rw[bh] at this; exact this
    rw[atP aK,at6] at ai;obtain⟨v,aS,aX,a3⟩:=bt _ c ai;exact⟨v,by simp[World.cell?,aj,au4,aS],aX,a3⟩
   obtain⟨vs,b9,b0⟩:=MZ (P:=P) (w2:=w) (fun _=>rfl) cC;refine⟨bh,by simp[Builtin.lenOf],vs,b9,fun k hk w2 kD=>?_⟩;have:=b0 (k*z) (by rw[bh]; exact aty _ hk) w2 kD;simp[Builtin.firstCells,this]
  ·cases ah
 | hF dm b off sz a cs m ag hm=>
  simp only[contents,ag,true_and] at ah;split at ah
  ·rename_i uo; subst uo;simp only[Option.some.injEq,Prod.mk.injEq,avG,auE] at ah;obtain⟨rfl,rfl⟩:=ah;exact⟨by simp,by simp[Builtin.lenOf],[],⟨rfl,fun j c ai=>by simp at ai⟩,fun k hk w2 _=>by
    obtain rfl:k=0:=by simpa using hk
    simp[Builtin.firstCells,loadCells,loadCellsFrom]⟩
  ·cases ah
 | go dm b off len cap sz cap' a ak Tj ar=>
  unfold contents at ah;rcases ar with ar | ⟨gY,cs',ar,aK⟩
  ·simp[ar] at ah
  ·simp only[ar] at ah;split at ah
   ·omega
   ·cases ah
 | _=>simp[contents] at ah
theorem BU {t e:TypeId} (ao:io P t=some e) :P.underlying t=some (.slice e) :=by
 unfold io at ao;split at ao
 ·rename_i fb aJ; cases ao; exact aJ
 ·cases ao
def Av (P:Program) (u:TypeId) :Prop:=∃ d,P.underlying u=some d/\∀ k,d≠.int k
theorem UV (d:TypeDesc) (hk:∀ k,d≠.int k) :(match d with | .int _=>true | _=>false)=false:=by
 cases d with
 | int k=>exact absurd rfl (hk k)
 | _=>rfl
theorem run_append_fits {t u ty e:TypeId} {z n sLen gH:Nat} {base:Option Addr} {bE:Value} {vs:List Value} {w' : World} (ao:P.underlying t=some (.slice e)) (aw:cv P e=some z) (aJ:Av P u)
  (ak:(Builtin.lenOf bE).run P w=.ok n w) (aD:(Builtin.firstCells z n bE).run P w=.ok vs.toArray w) (dX:sLen+n<=gH)
  (cw:match base with | some a=>(storeCells (a.add (sLen*z)) vs).run P w=.ok () w' | none=>w'=w) :
  (Builtin.append_ #[t,u] ty #[.slice base sLen gH,bE]).run P w=.ok (.slice base (sLen+n) gH) w':=by
 obtain⟨d,bq,hk⟩:=aJ;have Cs:=UV d hk;cases base with
 | none=>
  subst cw;simp[Builtin.append_,cu ao,fm aw,cu bq,Cs,ak,dX,aD]
 | some a=>
  simp only at cw;simp[Builtin.append_,cu ao,fm aw,cu bq,Cs,ak,dX,aD,cw]
theorem ajW {t u ty e:TypeId} {i:TypeInfo} {zv:Value} {n sLen gH:Nat} {base:Option Addr} {bE:Value} {fu vs:List Value} (ao:P.underlying t=some (.slice e)) (av:P.info? e=some i) (lc:i.zero=some zv) (aJ:Av P u)
  (ak:(Builtin.lenOf bE).run P w=.ok n w) (aD:(Builtin.firstCells i.size n bE).run P w.drew=.ok vs.toArray w.drew) (ap:(Builtin.firstCells i.size sLen (.slice base sLen gH)).run P w.drew=.ok fu.toArray w.drew)
  (pS:gH<sLen+n) (df:(sLen+n)*i.bytes<=ct) (ag:0<i.bytes) :
  (Builtin.append_ #[t,u] ty #[.slice base sLen gH,bE]).run P w =
   .ok (.slice (some ⟨w.heap.size,0,none⟩) (sLen+n) (grownCap w (sLen+n) gH e)) (w.drew.alloc (.cells ((fu++vs).toArray++Builtin.zeroCells zv.cells (grownCap w (sLen+n) gH e - (sLen+n))) e)) :=by
 obtain⟨d,bq,hk⟩:=aJ;have Cs:=UV d hk;have aw:cv P e=some i.size:=by simp[cv,av]
 have aC:¬ (sLen+n<=gH) :=by omega
 have vD:¬ (281474976710656<Builtin.nextslicecap (sLen+n) gH*i.bytes) :=by
  have:=growslice_fits pS df;omega
 have lF:¬ (i.bytes=0) :=by omega
 simp[Builtin.append_,cu ao,fm aw,cu bq,Cs,ak,aC,typeInfo,av,vD,lF,Question.forced,ap,aD,zeroValue,lc,newRow,grownCap];rw[<-avH,List.append_toArray fu vs]
theorem dx.drew {h' : aN} {μ' : cH} {w' : World} (e:dx w h μ w' h' μ') :dx w h μ w' h' μ':=e
theorem akl {s:U} {pd:Value} (al:aO w R h μ s pd) (hk:s=.a1\/(∃ z es,s=.bD z es)\/∃ z b off len cap sz,s=.au z b off len cap sz) :
  ∃ base sLen gH,pd=.slice base sLen gH/\sLen<=gH:=by
 cases al<;>simp at hk
 ·exact⟨_,_,_,rfl,att _⟩
 ·rename_i ak ap de;exact⟨_,_,_,rfl,by omega⟩
 ·rename_i ak Tj ar;exact⟨_,_,_,rfl,by omega⟩
 ·exact⟨_,_,_,rfl,att _⟩
 ·rename_i ak aw ah aq;exact⟨_,_,_,rfl,by omega⟩
 ·exact⟨_,_,_,rfl,auy _⟩
theorem YE {e:TypeId} {z:Nat} (aw:tf P e=some z) :∃ i v,P.info? e=some i/\i.zero=some v/\v.cells.size=z:=by
 unfold tf at aw;cases av:P.info? e with
 | none=>rw[av] at aw; cases aw
 | some i=>
  rw[av] at aw;simp only[au5] at aw;cases aq:i.zero with
  | none=>rw[aq] at aw; cases aw
  | some v=>rw[aq] at aw; exact⟨i,v,rfl,aq,by simpa using aw⟩
theorem Cc {e:TypeId} {zv:Value} {z need cap:Nat} {xs:List U} {vs:List Value} (aw:zv.cells.size=z) (ak:xs.length=need*z) (mn:tp w R h μ xs vs) (cS:need<=cap) :
  (vs.toArray++Builtin.zeroCells zv.cells (cap - need)).size=cap*z ∧
  ∀ (j:Nat) (c:U),xs[j]? = some c->∃ v:Value,(vs.toArray++Builtin.zeroCells zv.cells (cap - need))[j]? = some v/\v.oneCell'=true/\aO w R h μ c v:=by
 refine⟨?_,fun j c ai=>?_⟩
 ·have h1:(Builtin.zeroCells zv.cells (cap - need)).size=(cap - need)*z:=by simp[Builtin.zeroCells,aw]
  have ad:need*z+(cap - need)*z=cap*z:=by rw[<-auh]; congr 1; omega
  rw[awf,h1,awg,mn.1,ak,ad]
 ·obtain⟨v,h1,ad,aj⟩:=mn.2 j c ai;have aK:j<vs.length:=(atq.1 h1).1;refine⟨v,?_,ad,aj⟩;rw[aut (by simpa using aK)];simpa using h1
theorem Oy (rel:b3 R B w h μ) {t u ty e:TypeId} {z by_ n:Nat} {s c:U} {pd bE:Value} {h' : aN} {xs:List U} {vs:List Value} (aw:cv P e=some z) (dD:jc P e=some by_)
  (aB:u9 P h e z by_ s xs n=some (c,h')) (al:aO w R h μ s pd) (bn:xs.length=n*z) (cC:tp w R h μ xs vs)
  (FO:∀ (base:Option Addr) (sLen gH:Nat) (w' : World),sLen+n<=gH->(match base with | some a=>(storeCells (a.add (sLen*z)) vs).run P w=.ok () w' | none=>w'=w)->
   (Builtin.append_ #[t,u] ty #[.slice base sLen gH,bE]).run P w=.ok (.slice base (sLen+n) gH) w')
  (Cw:∀ (i:TypeInfo) (zv:Value),P.info? e=some i->i.zero=some zv->∀ (base:Option Addr) (sLen gH:Nat) (fu:List Value),(Builtin.firstCells i.size sLen (.slice base sLen gH)).run P w.drew=.ok fu.toArray w.drew->
   gH<sLen+n->(sLen+n)*i.bytes<=ct->0<i.bytes->(Builtin.append_ #[t,u] ty #[.slice base sLen gH,bE]).run P w =
   .ok (.slice (some ⟨w.heap.size,0,none⟩) (sLen+n) (grownCap w (sLen+n) gH e)) (w.drew.alloc (.cells ((fu++vs).toArray++Builtin.zeroCells zv.cells (grownCap w (sLen+n) gH e - (sLen+n))) e))) :
  ∃ v w' μ',(Builtin.append_ #[t,u] ty #[pd,bE]).run P w=.ok v w'/\dx w h μ w' h' μ'/\b3 R B w' h' μ'/\aO w' R h' μ' c v:=by
 unfold u9 at aB;by_cases aC:n=0
 ·-- nothing is appended
  subst aC;simp only[if_true] at aB;have ce:(c,h')=(s,h) :=by
   split at aB<;>first | (simp only[Option.some.injEq] at aB; exact aB.symm) | cases aB
  have hk:s=.a1\/(∃ z es,s=.bD z es)\/∃ z b off len cap sz,s=.au z b off len cap sz:=by
   split at aB
   ·exact .inl rfl
   ·exact .inr (.inl ⟨_,_,rfl⟩)
   ·exact .inr (.inr ⟨_,_,_,_,_,_,rfl⟩)
   ·cases aB
  simp only[Prod.mk.injEq] at ce;obtain⟨rfl,rfl⟩:=ce;obtain⟨base,sLen,gH,rfl,dO⟩:=akl al hk;have iC:vs=[] :=by
   have:vs.length=0:=by rw[cC.1,bn]; simp
   exact aug.1 this
  subst iC;have:=FO base sLen gH w (by omega) (by cases base<;>simp[storeCells]);exact⟨_,w,μ,this,.refl _ _ _,rel,by simpa using al⟩
 ·rw[if_neg aC] at aB;split at aB
  ·cases aB
  ·rename_i jh;simp only[not_or,Decidable.not_not] at jh;obtain⟨sC,jg,hv⟩:=jh;obtain⟨i,zv,av,lc,jp⟩:=YE hv;have p4:i.size=z:=by simpa [cv,av] using aw
   have lF:i.bytes=by_:=by simpa [jc,av] using dD
   have af2:0<z:=Nat.pos_of_ne_zero sC;have Kc:∀ a,w.drew.cell? a=w.cell? a:=fun _=>rfl
   split at aB
   ·-- append to nil
    split at aB
    ·rename_i df;simp only[Option.some.injEq,Prod.mk.injEq] at aB;obtain⟨rfl,rfl⟩:=aB;cases al;have ar:=Cw i zv av lc none 0 0 [] (by simp[Builtin.firstCells]) (by omega) (by rw[lF]; simpa using df) (by omega);have cS:n<=grownCap w (0+n) 0 e:=by have:=grownCap_ge w (0+n) 0 e; omega
     obtain⟨kI,ml⟩:=Cc (e:=e) (zv:=zv) (need:=n) (cap:=grownCap w (0+n) 0 e) jp (by rw[bn]) cC cS;have ay:=rel.push (w':=w.drew.alloc (.cells (vs.toArray++Builtin.zeroCells zv.cells (grownCap w (0+n) 0 e - n)) e)) xs _ e rfl rfl rfl rfl (by rw[kI,bn]; exact aty _ cS) ml;rw[bn] at ay;refine⟨_,_,_,by simpa using ar,by simpa using ay.1,by simpa using ay.2,?_⟩;have:=aO.au (w:=w.drew.alloc (.cells (vs.toArray++Builtin.zeroCells zv.cells (grownCap w (0+n) 0 e - n)) e)) (R:=R) (h:=h.push (.cells (n*z) xs)) (μ:=bL μ h.n (some ⟨w.heap.size,0,(vs.toArray++Builtin.zeroCells zv.cells (grownCap w (0+n) 0 e - n)).size⟩))
      z h.n 0 n n (n*z) (grownCap w (0+n) 0 e) xs ⟨w.heap.size,0,(vs.toArray++Builtin.zeroCells zv.cells (grownCap w (0+n) 0 e - n)).size⟩ (by simp[eb,ff]) (by simp) (att _) (by omega) (.inr ⟨by omega,cS,by simp only; rw[kI]; omega⟩)
     simpa using this
    ·cases aB
   ·rename_i dm b off len cap sz;cases ag:h.f b with
    | cells m cs=>
     rw[ag] at aB;simp only at aB;split at aB
     ·rename_i Cp;obtain⟨rfl,rfl,df⟩:=Cp;cases al with
      | go _ _ _ _ _ _ cap' a ak Tj ar=>
       exfalso;rcases ar with ar | ⟨gY,cs',ar,aK⟩
       ·rw[ar] at ag; cases ag
       ·rw[ar] at ag; cases ag; omega
      | hF _ _ _ _ a cs' cg bH hm=>
       rw[ag] at bH; cases bH;have m5:=rel.r0 hm;rw[if_neg (by omega),avG,auE,auE,auB,auF] at aB;have ar:=Cw i zv av lc (some a) 0 0 [] (by simp[Builtin.firstCells,loadCells,loadCellsFrom]) (by omega) (by rw[lF]; exact df) (by omega);rw[auF] at ar;have cS:n<=grownCap w n 0 e:=grownCap_ge _ _ _ _;obtain⟨kI,ml⟩:=Cc (e:=e) (zv:=zv) (need:=n) (cap:=grownCap w n 0 e) jp (by rw[bn]) cC cS;split at aB
       ·simp only[Option.some.injEq,Prod.mk.injEq] at aB;obtain⟨rfl,rfl⟩:=aB;have ay:=rel.push (w':=w.drew.alloc (.cells (vs.toArray++Builtin.zeroCells zv.cells (grownCap w n 0 e - n)) e)) xs _ e rfl rfl rfl rfl (by rw[kI,bn]; exact aty _ cS) ml;rw[bn] at ay;refine⟨_,_,_,by simpa using ar,by simpa using ay.1,by simpa using ay.2,?_⟩;have:=aO.au (w:=w.drew.alloc (.cells (vs.toArray++Builtin.zeroCells zv.cells (grownCap w n 0 e - n)) e)) (R:=R) (h:=h.push (.cells (n*z) xs)) (μ:=bL μ h.n (some ⟨w.heap.size,0,(vs.toArray++Builtin.zeroCells zv.cells (grownCap w n 0 e - n)).size⟩))
         z h.n 0 n n (n*z) (grownCap w n 0 e) xs ⟨w.heap.size,0,(vs.toArray++Builtin.zeroCells zv.cells (grownCap w n 0 e - n)).size⟩ (by simp[eb,ff]) (by simp) (att _) (by omega) (.inr ⟨by omega,cS,by simp only; rw[kI]; omega⟩)
        simpa using this
       ·rename_i Cu;split at aB
        ·rename_i zY;subst zY;simp only[Option.some.injEq,Prod.mk.injEq] at aB;obtain⟨rfl,rfl⟩:=aB;have pT:m<n*z:=by
          have:1*1<=n*z:=Nat.mul_le_mul (by omega) af2;omega
         have ay:=rel.move (w':=w.drew.alloc (.cells (vs.toArray++Builtin.zeroCells zv.cells (grownCap w n 0 e - n)) e)) ag hm rfl rfl rfl rfl bn pT (by rw[kI]; exact aty _ cS) ml;refine⟨_,_,_,by simpa using ar,by simpa using ay.1,by simpa using ay.2,?_⟩;have:=aO.au (w:=w.drew.alloc (.cells (vs.toArray++Builtin.zeroCells zv.cells (grownCap w n 0 e - n)) e)) (R:=R) (h:=h.set b (.cells (n*z) xs)) (μ:=bL μ b (some ⟨w.heap.size,0,(vs.toArray++Builtin.zeroCells zv.cells (grownCap w n 0 e - n)).size⟩))
          z b 0 n n (n*z) (grownCap w n 0 e) xs ⟨w.heap.size,0,(vs.toArray++Builtin.zeroCells zv.cells (grownCap w n 0 e - n)).size⟩ (by simp[dI,eL]) (by simp) (att _) (by omega) (.inr ⟨by omega,cS,by simp only; rw[kI]; omega⟩)
         simpa using this
        ·simp only[Option.some.injEq,Prod.mk.injEq] at aB;obtain⟨rfl,rfl⟩:=aB;have ay:=rel.push (w':=w.drew.alloc (.cells (vs.toArray++Builtin.zeroCells zv.cells (grownCap w n 0 e - n)) e)) xs _ e rfl rfl rfl rfl (by rw[kI,bn]; exact aty _ cS) ml;rw[bn] at ay;have hk:=ay.2.kill (b:=b) (sz:=m) (cs:=cs) (h':=(h.set b .dead).push (.cells (n*z) xs)) (by rw[eb,cb _ _ _ _ (by omega)]; exact ag) (by rw[ff]; omega) (by
          rw[eb,eb,dI,eL];funext x;simp only[bL];by_cases h1:x=h.n
          ·rw[if_pos h1,if_neg (by omega),if_pos h1]
          ·rw[if_neg h1];split<;>rfl) rfl
         refine⟨_,_,_,by simpa using ar,by simpa using ay.1.trans hk.1,by simpa using hk.2,?_⟩;have:=aO.au (w:=w.drew.alloc (.cells (vs.toArray++Builtin.zeroCells zv.cells (grownCap w n 0 e - n)) e)) (R:=R) (h:=(h.set b .dead).push (.cells (n*z) xs)) (μ:=bL μ h.n (some ⟨w.heap.size,0,(vs.toArray++Builtin.zeroCells zv.cells (grownCap w n 0 e - n)).size⟩))
          z h.n 0 n n (n*z) (grownCap w n 0 e) xs ⟨w.heap.size,0,(vs.toArray++Builtin.zeroCells zv.cells (grownCap w n 0 e - n)).size⟩ (by rw[eb,eL,jK]) (by simp) (att _) (by omega) (.inr ⟨by omega,cS,by simp only; rw[kI]; omega⟩)
         simpa using this
      | au _ _ _ _ _ _ cap' cs' cg bH hm ak ap de=>
       have eD:=rel.blk b cg hm;rw[ag] at eD;obtain⟨Tk,ci,_⟩:=eD;rw[ag] at bH; cases bH;have ua:len*z<=cap*z:=aty _ ak;have Th:cap<=cap':=by rcases de with de | de<;>omega
       split at aB
       ·-- in place,within what the machine knows
        rename_i dX;simp only[Option.some.injEq,Prod.mk.injEq] at aB;obtain⟨rfl,rfl⟩:=aB;have T8:len*z+n*z<=cap*z:=by rw[<-auh]; exact aty _ dX
        have mg:max m (off+len*z+xs.length)=m:=by omega
        obtain⟨w',h1,ad,aj⟩:=yT (P:=P) rel (cvs:=xs) (vs:=vs) (k:=off+len*z) ag hm (by omega) cC.1 (by omega) cC.2;rw[mg] at ad aj;have cw:(storeCells ((⟨cg.r,cg.s+off,none⟩:Addr).add (len*z)) vs).run P w=.ok () w':=by rw[Addr.l3,au4]; exact h1
        refine⟨_,w',μ,FO (some ⟨cg.r,cg.s+off,none⟩) _ _ _ (by omega) cw,ad,aj,?_⟩;exact .au z b off (len+n) cap m cap' _ cg (by simp[dI,eL]; rfl) hm dX ap de
       ·rename_i apJ;split at aB
        ·-- beyond a slice whose end lies within the row: it moves
         rename_i apo;simp only[Option.some.injEq,Prod.mk.injEq] at aB;obtain⟨rfl,rfl⟩:=aB;have e3:cap'=cap:=by rcases de with de | de<;>omega
         subst e3;have dj:contents h z (.au z b off len cap' m)=some ((cs.drop off).take (len*z),len) :=by simp[contents,ag]
         obtain⟨di,_,fu,hV,CH⟩:=vq (P:=P) rel dj (aO.au z b off len cap' m cap' cs cg ag hm ak ap de);have x0:∀ w2:World,(∀ a,w2.cell? a=w.cell? a)->(Builtin.firstCells z len (.slice (some ⟨cg.r,cg.s+off,none⟩) len cap')).run P w2=.ok fu.toArray w2:=fun w2 lO=>by
          have:=CH len (att _) w2 lO
          rwa [atr (by rw[hV.1,di]; exact att _)] at this
         have ar:=Cw i zv av lc (some ⟨cg.r,cg.s+off,none⟩) len cap' fu (by rw[p4]; exact x0 w.drew Kc) (by omega) (by rw[lF]; exact df) (by omega);have cS:len+n<=grownCap w (len+n) cap' e:=grownCap_ge _ _ _ _;have Cn:tp w R h μ ((cs.drop off).take (len*z)++xs) (fu++vs) :=by
          refine⟨by simp[hV.1,cC.1],fun j c ai=>?_⟩;by_cases aK:j<((cs.drop off).take (len*z)).length
          ·rw[ats aK] at ai;rw[ats (by rw[hV.1]; exact aK)];exact hV.2 j c ai
          ·rw[atC (by omega)] at ai;rw[atC (by rw[hV.1]; omega),hV.1];exact cC.2 _ c ai
         have fB:((cs.drop off).take (len*z)++xs).length=(len+n)*z:=by rw[atB,di,bn,auh]
         obtain⟨kI,ml⟩:=Cc (e:=e) (zv:=zv) (need:=len+n) (cap:=grownCap w (len+n) cap' e) jp fB Cn cS;have ay:=rel.push (w':=w.drew.alloc (.cells ((fu++vs).toArray++Builtin.zeroCells zv.cells (grownCap w (len+n) cap' e - (len+n))) e)) _ _ e rfl rfl rfl rfl (by rw[kI,fB]; exact aty _ cS) ml;rw[fB] at ay;refine⟨_,_,_,ar,ay.1,ay.2,?_⟩;have:=aO.au (w:=w.drew.alloc (.cells ((fu++vs).toArray++Builtin.zeroCells zv.cells (grownCap w (len+n) cap' e - (len+n))) e)) (R:=R) (h:=h.push (.cells ((len+n)*z) ((cs.drop off).take (len*z)++xs))) (μ:=bL μ h.n (some ⟨w.heap.size,0,((fu++vs).toArray++Builtin.zeroCells zv.cells (grownCap w (len+n) cap' e - (len+n))).size⟩))
          z h.n 0 (len+n) (len+n) ((len+n)*z) (grownCap w (len+n) cap' e) _ ⟨w.heap.size,0,((fu++vs).toArray++Builtin.zeroCells zv.cells (grownCap w (len+n) cap' e - (len+n))).size⟩ (by simp[eb,ff]; rfl) (by simp) (att _) (by omega) (.inr ⟨by omega,cS,by simp only; rw[kI]; omega⟩)
         simpa using this
        ·rename_i Cu;split at aB
         ·-- beyond the row's end: in place,or it moves
          rename_i zY;subst zY;simp only[Option.some.injEq,Prod.mk.injEq] at aB;obtain⟨rfl,rfl⟩:=aB;obtain⟨ad1,oH,Tq⟩:0+cap*z=m/\cap<=cap'/\cg.s+0+cap'*z<=cg.T:=by rcases de with de | de<;>omega
          have pT:m<(len+n)*z:=by
           have:(cap+1)*z<=(len+n)*z:=aty _ (by omega);rw[auh] at this;omega
          have afK:len*z+n*z=(len+n)*z:=by rw[auh]
          by_cases dX:len+n<=cap'
          ·have aeV:(len+n)*z<=cap'*z:=aty _ dX;have mg:max m (len*z+xs.length)=(len+n)*z:=by omega
           obtain⟨w',h1,ad,aj⟩:=yT (P:=P) rel (cvs:=xs) (vs:=vs) (k:=len*z) ag hm (by omega) cC.1 (by omega) cC.2;rw[mg] at ad aj;have x9:bz cs (len*z) xs=cs.take (len*z)++xs:=by
            unfold bz;rw[at9 (by omega),atZ]
           rw[x9] at ad aj;have cw:(storeCells ((⟨cg.r,cg.s+0,none⟩:Addr).add (len*z)) vs).run P w=.ok () w':=by rw[Addr.l3,au4]; simpa using h1
           refine⟨_,w',μ,FO (some ⟨cg.r,cg.s+0,none⟩) _ _ _ dX cw,ad,aj,?_⟩;exact .au z b 0 (len+n) (len+n) ((len+n)*z) cap' _ cg (by simp[dI,eL]; rfl) hm (att _) (by omega) (.inr ⟨by omega,dX,Tq⟩)
          ·have dj:contents h z (.au z b 0 len cap m)=some ((cs.drop 0).take (len*z),len) :=by simp[contents,ag]
           obtain⟨di,_,fu,hV,CH⟩:=vq (P:=P) rel dj (aO.au z b 0 len cap m cap' cs cg ag hm ak ap de);have x0:∀ w2:World,(∀ a,w2.cell? a=w.cell? a)->(Builtin.firstCells z len (.slice (some ⟨cg.r,cg.s+0,none⟩) len cap')).run P w2=.ok fu.toArray w2:=fun w2 lO=>by
            have:=CH len (att _) w2 lO
            rwa [atr (by rw[hV.1,di]; exact att _)] at this
           rw[auv] at di hV;have ar:=Cw i zv av lc (some ⟨cg.r,cg.s+0,none⟩) len cap' fu (by rw[p4]; exact x0 w.drew Kc) (by omega) (by rw[lF]; exact df) (by omega);have cS:len+n<=grownCap w (len+n) cap' e:=grownCap_ge _ _ _ _;have Cn:tp w R h μ (cs.take (len*z)++xs) (fu++vs) :=by
            refine⟨by simp[hV.1,cC.1],fun j c ai=>?_⟩;by_cases aK:j<(cs.take (len*z)).length
            ·rw[ats aK] at ai;rw[ats (by rw[hV.1]; exact aK)];exact hV.2 j c ai
            ·rw[atC (by omega)] at ai;rw[atC (by rw[hV.1]; omega),hV.1];exact cC.2 _ c ai
           have fB:(cs.take (len*z)++xs).length=(len+n)*z:=by rw[atB,di,bn,auh]
           obtain⟨kI,ml⟩:=Cc (e:=e) (zv:=zv) (need:=len+n) (cap:=grownCap w (len+n) cap' e) jp fB Cn cS;have ay:=rel.move (w':=w.drew.alloc (.cells ((fu++vs).toArray++Builtin.zeroCells zv.cells (grownCap w (len+n) cap' e - (len+n))) e)) ag hm rfl rfl rfl rfl fB pT (by rw[kI]; exact aty _ cS) ml;refine⟨_,_,_,ar,ay.1,ay.2,?_⟩;have:=aO.au (w:=w.drew.alloc (.cells ((fu++vs).toArray++Builtin.zeroCells zv.cells (grownCap w (len+n) cap' e - (len+n))) e)) (R:=R) (h:=h.set b (.cells ((len+n)*z) (cs.take (len*z)++xs))) (μ:=bL μ b (some ⟨w.heap.size,0,((fu++vs).toArray++Builtin.zeroCells zv.cells (grownCap w (len+n) cap' e - (len+n))).size⟩))
            z b 0 (len+n) (len+n) ((len+n)*z) (grownCap w (len+n) cap' e) _ ⟨w.heap.size,0,((fu++vs).toArray++Builtin.zeroCells zv.cells (grownCap w (len+n) cap' e - (len+n))).size⟩ (by simp[dI,eL]; rfl) (by simp) (att _) (by omega) (.inr ⟨by omega,cS,by simp only; rw[kI]; omega⟩)
           simpa using this
         ·-- beyond the row's end,from a place within it: a block of its own,in place or moved
          rename_i zY;simp only[Option.some.injEq,Prod.mk.injEq] at aB;obtain⟨rfl,rfl⟩:=aB;obtain⟨ad1,oH,Tq⟩:off+cap*z=m/\cap<=cap'/\cg.s+off+cap'*z<=cg.T:=by rcases de with de | de<;>omega
          have pT:m<off+(len+n)*z:=by
           have:(cap+1)*z<=(len+n)*z:=aty _ (by omega);rw[auh] at this;omega
          have afK:len*z+n*z=(len+n)*z:=by rw[auh]
          have m5:=rel.r0 hm;by_cases dX:len+n<=cap'
          ·have aeV:(len+n)*z<=cap'*z:=aty _ dX;have mg:max m (off+len*z+xs.length)=off+(len+n)*z:=by omega
           obtain⟨w',h1,ad,aj⟩:=yT (P:=P) rel (cvs:=xs) (vs:=vs) (k:=off+len*z) ag hm (by omega) cC.1 (by omega) cC.2;rw[mg] at ad aj;have x9:(bz cs (off+len*z) xs).drop off=(cs.drop off).take (len*z)++xs:=by
            unfold bz;rw[at9 (as:=cs) (by omega),atZ,aum (by simp; omega),avM];congr 2; omega
           have cw:(storeCells ((⟨cg.r,cg.s+off,none⟩:Addr).add (len*z)) vs).run P w=.ok () w':=by rw[Addr.l3,au4]; exact h1
           have p3:=aj.W7 (b:=b) (off:=off) (m:=cg) (h':=(h.set b .dead).push (.cells ((len+n)*z) ((cs.drop off).take (len*z)++xs))) (by rw[dI,jK]) hm (by omega) (by
            rw[eb,dI,dI,eL,eL,x9];have:off+(len+n)*z - off=(len+n)*z:=by omega
            rw[this];funext x;simp only[bL];split
            ·rfl
            ·split<;>rfl) rfl
           refine⟨_,w',_,FO (some ⟨cg.r,cg.s+off,none⟩) _ _ _ dX cw,ad.trans p3.1,p3.2,?_⟩;exact .au z h.n 0 (len+n) (len+n) ((len+n)*z) cap' _ ⟨cg.r,cg.s+off,cg.T⟩ (by rw[eb,eL,jK]) (by rw[eL]; simp) (att _) (by omega) (.inr ⟨by omega,dX,by simpa using (by omega:cg.s+off+cap'*z<=cg.T)⟩)
          ·have dj:contents h z (.au z b off len cap m)=some ((cs.drop off).take (len*z),len) :=by simp[contents,ag]
           obtain⟨di,_,fu,hV,CH⟩:=vq (P:=P) rel dj (aO.au z b off len cap m cap' cs cg ag hm ak ap de);have x0:∀ w2:World,(∀ a,w2.cell? a=w.cell? a)->(Builtin.firstCells z len (.slice (some ⟨cg.r,cg.s+off,none⟩) len cap')).run P w2=.ok fu.toArray w2:=fun w2 lO=>by
            have:=CH len (att _) w2 lO
            rwa [atr (by rw[hV.1,di]; exact att _)] at this
           have ar:=Cw i zv av lc (some ⟨cg.r,cg.s+off,none⟩) len cap' fu (by rw[p4]; exact x0 w.drew Kc) (by omega) (by rw[lF]; exact df) (by omega);have cS:len+n<=grownCap w (len+n) cap' e:=grownCap_ge _ _ _ _;have Cn:tp w R h μ ((cs.drop off).take (len*z)++xs) (fu++vs) :=by
            refine⟨by simp[hV.1,cC.1],fun j c ai=>?_⟩;by_cases aK:j<((cs.drop off).take (len*z)).length
            ·rw[ats aK] at ai;rw[ats (by rw[hV.1]; exact aK)];exact hV.2 j c ai
            ·rw[atC (by omega)] at ai;rw[atC (by rw[hV.1]; omega),hV.1];exact cC.2 _ c ai
           have fB:((cs.drop off).take (len*z)++xs).length=(len+n)*z:=by rw[atB,di,bn,auh]
           obtain⟨kI,ml⟩:=Cc (e:=e) (zv:=zv) (need:=len+n) (cap:=grownCap w (len+n) cap' e) jp fB Cn cS;have ay:=rel.push (w':=w.drew.alloc (.cells ((fu++vs).toArray++Builtin.zeroCells zv.cells (grownCap w (len+n) cap' e - (len+n))) e)) _ _ e rfl rfl rfl rfl (by rw[kI,fB]; exact aty _ cS) ml;rw[fB] at ay;have hk:=ay.2.kill (b:=b) (sz:=m) (cs:=cs) (h':=(h.set b .dead).push (.cells ((len+n)*z) ((cs.drop off).take (len*z)++xs))) (by rw[eb,cb _ _ _ _ (by omega)]; exact ag) (by rw[ff]; omega) (by
            rw[eb,eb,dI,eL];funext x;simp only[bL];by_cases h1:x=h.n
            ·rw[if_pos h1,if_neg (by omega),if_pos h1]
            ·rw[if_neg h1];split<;>rfl) rfl
           refine⟨_,_,_,ar,ay.1.trans hk.1,hk.2,?_⟩;have:=aO.au (w:=w.drew.alloc (.cells ((fu++vs).toArray++Builtin.zeroCells zv.cells (grownCap w (len+n) cap' e - (len+n))) e)) (R:=R) (h:=(h.set b .dead).push (.cells ((len+n)*z) ((cs.drop off).take (len*z)++xs))) (μ:=bL μ h.n (some ⟨w.heap.size,0,((fu++vs).toArray++Builtin.zeroCells zv.cells (grownCap w (len+n) cap' e - (len+n))).size⟩))
            z h.n 0 (len+n) (len+n) ((len+n)*z) (grownCap w (len+n) cap' e) _ ⟨w.heap.size,0,((fu++vs).toArray++Builtin.zeroCells zv.cells (grownCap w (len+n) cap' e - (len+n))).size⟩ (by rw[eb,eL,jK]) (by simp) (att _) (by omega) (.inr ⟨by omega,cS,by simp only; rw[kI]; omega⟩)
           simpa using this
     ·cases aB
    | _=>rw[ag] at aB; cases aB
   ·cases aB
theorem Im (rel:b3 R B w h μ) {t u ty:TypeId} {s x c:U} {pd bE:Value} {h' : aN} (aJ:Av P u) (aB:rY P h t s x=some (c,h')) (al:aO w R h μ s pd) (af:aO w R h μ x bE) :
  ∃ v w' μ',(Builtin.append_ #[t,u] ty #[pd,bE]).run P w=.ok v w'/\dx w h μ w' h' μ'/\b3 R B w' h' μ'/\aO w' R h' μ' c v:=by
 unfold rY at aB;cases ao:io P t with
 | none=>rw[ao] at aB; cases aB
 | some e=>
 have j9:=BU ao;rw[ao] at aB;simp only at aB;cases aw:cv P e with
 | none=>rw[aw] at aB; cases aB
 | some z=>
 cases dD:jc P e with
 | none=>rw[aw,dD] at aB; cases aB
 | some by_=>
 rw[aw,dD] at aB;simp only at aB;cases ah:contents h z x with
 | none=>rw[ah] at aB; cases aB
 | some NT=>
 obtain⟨xs,n⟩:=NT;rw[ah] at aB;simp only at aB;obtain⟨bn,bh,vs,cC,ad9⟩:=vq (P:=P) rel ah af;have k2:∀ w2:World,(∀ a,w2.cell? a=w.cell? a)->(Builtin.firstCells z n bE).run P w2=.ok vs.toArray w2:=fun w2 lO=>by
  have:=ad9 n (att _) w2 lO
  rwa [atr (by rw[cC.1,bn]; exact att _)] at this
 refine Oy rel aw dD aB al bn cC (fun base sLen gH w' dX cw=>run_append_fits j9 aw aJ bh (k2 w (fun _=>rfl)) dX cw) (fun i zv av lc base sLen gH fu ap ar ax ag=>?_);have p4:i.size=z:=by simpa [cv,av] using aw
 exact ajW j9 av lc aJ bh (by rw[p4]; exact k2 w.drew (fun _=>rfl)) ap ar ax ag
end

section
variable {P:Program} {w:World} {R:Nat->Prop} {B:Nat} {h:aN} {μ:cH}
theorem za {x:U} {bE:Value} {y n A7:Nat} {code:BoundsCode} (ag:jb x y=some n) (af:aO w R h μ x bE) (az:y<=A7) :
  n<=y/\(Instr.sliceBound bE A7 code).run P w=.ok n w:=by
 unfold jb at ag;cases af with
 | int k i=>
  simp only at ag;split at ag
  ·rename_i av;simp only[Option.some.injEq] at ag;subst ag;refine⟨by omega,?_⟩;have:(0<=i/\i<=(A7:Int)) :=⟨av.1,by omega⟩
   simp[Instr.sliceBound,asIntOf,this]
  ·cases ag
 | _=>simp at ag
def w4 (w:World) (R:Nat->Prop) (h:aN) (μ:cH) :Option U->Option Value->Prop
 | none,none=>True
 | some c,some v=>aO w R h μ c v
 | _,_=>False
theorem vc {cN av cG:Option U} {rl fC wo:Option Value} {isS:Bool} {len cap cap' l m aG:Nat} (ag:gv len cap cN av cG=some (l,aG,m)) (bh:len<=cap) (cS:cap<=cap')
  (h1:w4 w R h μ cN rl) (ad:w4 w R h μ av fC) (aj:w4 w R h μ cG wo) :
  l<=aG/\aG<=m/\m<=cap/\(cG=none->m=cap)/\(Instr.sliceBounds isS len cap' rl fC wo).run P w=.ok (l,aG,if cG.isSome then m else cap') w:=by
 unfold gv at ag;cases cG with
 | none=>
  cases wo with
  | some v=>exact aj.elim
  | none=>
   simp only at ag;cases av with
   | none=>
    cases fC with
    | some v=>exact ad.elim
    | none=>
     simp only at ag;cases cN with
     | none=>
      cases rl with
      | some v=>exact h1.elim
      | none=>
       simp only[Option.some.injEq,Prod.mk.injEq] at ag;obtain⟨rfl,rfl,rfl⟩:=ag;exact⟨by omega,bh,att _,fun _=>rfl,by simp[Instr.sliceBounds]⟩
     | some c=>
      cases rl with
      | none=>exact h1.elim
      | some v=>
       simp only at ag;cases ak:jb c len with
       | none=>rw[ak] at ag; cases ag
       | some l'=>
        rw[ak] at ag;simp only[Option.some.injEq,Prod.mk.injEq] at ag;obtain⟨rfl,rfl,rfl⟩:=ag;have af:=za (P:=P) (code:=.sliceB) ak h1 (att _);exact⟨af.1,bh,att _,fun _=>rfl,by simp[Instr.sliceBounds,af.2]⟩
   | some py=>
    cases fC with
    | none=>exact ad.elim
    | some alS=>
     simp only at ag;cases so:jb py cap with
     | none=>rw[so] at ag; cases ag
     | some h'=>
      rw[so] at ag;simp only at ag;have af:=za (P:=P) (code:=if isS then .sliceAcap else .sliceAlen) so ad cS;cases cN with
      | none=>
       cases rl with
       | some v=>exact h1.elim
       | none=>
        simp only[Option.some.injEq,Prod.mk.injEq] at ag;obtain⟨rfl,rfl,rfl⟩:=ag;exact⟨by omega,af.1,att _,fun _=>rfl,by simp[Instr.sliceBounds,af.2]⟩
      | some c=>
       cases rl with
       | none=>exact h1.elim
       | some v=>
        simp only at ag;cases ak:jb c h' with
        | none=>rw[ak] at ag; cases ag
        | some l'=>
         rw[ak] at ag;simp only[Option.some.injEq,Prod.mk.injEq] at ag;obtain⟨rfl,rfl,rfl⟩:=ag;have az:=za (P:=P) (code:=.sliceB) ak h1 (att _);exact⟨az.1,af.1,att _,fun _=>rfl,by simp[Instr.sliceBounds,af.2,az.2]⟩
 | some aaE=>
  cases wo with
  | none=>exact aj.elim
  | some atl=>
   simp only at ag;cases hm:jb aaE cap with
   | none=>rw[hm] at ag; cases ag
   | some cn=>
    rw[hm] at ag;simp only at ag;have af:=za (P:=P) (code:=if isS then .slice3Acap else .slice3Alen) hm aj cS;cases av with
    | none=>cases ag
    | some py=>
     cases fC with
     | none=>exact ad.elim
     | some alS=>
      simp only at ag;cases so:jb py cn with
      | none=>rw[so] at ag; cases ag
      | some h'=>
       rw[so] at ag;simp only at ag;have az:=za (P:=P) (code:=.slice3B) so ad (att _);cases cN with
       | none=>
        cases rl with
        | some v=>exact h1.elim
        | none=>
         simp only[Option.some.injEq,Prod.mk.injEq] at ag;obtain⟨rfl,rfl,rfl⟩:=ag;exact⟨by omega,az.1,af.1,(fun aD=>by cases aD),by simp[Instr.sliceBounds,af.2,az.2]⟩
       | some c=>
        cases rl with
        | none=>exact h1.elim
        | some v=>
         simp only at ag;cases ak:jb c h' with
         | none=>rw[ak] at ag; cases ag
         | some l'=>
          rw[ak] at ag;simp only[Option.some.injEq,Prod.mk.injEq] at ag;obtain⟨rfl,rfl,rfl⟩:=ag;have aw:=za (P:=P) (code:=.slice3C) ak h1 (att _);exact⟨aw.1,az.1,af.1,(fun aD=>by cases aD),by simp[Instr.sliceBounds,af.2,az.2,aw.2]⟩
theorem vh {z:Nat}:∀ (n:Nat) (cs:List U),(ly z n cs).length=n
 | 0,_=>rfl
 | n+1,cs=>by simp[ly,vh n]
theorem ED {z:Nat}:∀ (n:Nat) (cs:List U) (i:Nat),i<n->(ly z n cs)[i]? = some ((cs.drop (i*z)).take z)
 | 0,_,_,h=>by omega
 | n+1,cs,0,_=>by simp[ly]
 | n+1,cs,i+1,h=>by
  simp only[ly,at5];rw[ED n _ i (by omega),av5];congr 3;rw[aua]; omega
theorem Xu (rel:b3 R B w h μ) {z b off cap sz l aG m cn cap' : Nat} {cs:List U} {cg:M} {hasMax:Bool} (ag:h.f b=.cells sz cs) (hm:μ b=some cg) (ap:off+cap*z<=sz)
  (de:(off+cap*z<sz/\cap'=cap)\/(off+cap*z=sz/\cap<=cap'/\cg.s+off+cap'*z<=cg.T)) (h1:l<=aG) (ad:aG<=m) (aj:m<=cap) (aF:hasMax=false->m=cap)
  (bZ:cn=if hasMax then m else cap') (apE:m≠l) :
  aO w R h μ (.au z b (off+l*z) (aG - l) (m - l) sz) (.slice (some ((⟨cg.r,cg.s+off,none⟩:Addr).add (l*z))) (aG - l) (cn - l)) :=by
 have eD:=rel.blk b cg hm;rw[ag] at eD;have ci:=eD.2.1;rw[Addr.l3,au4];have aQ:l*z+(m - l)*z=m*z:=by rw[<-auh]; congr 1; omega
 have bF:m*z<=cap*z:=aty _ aj;refine .au z b _ _ _ sz _ cs cg ag hm (by omega) (by omega) ?_;cases hasMax with
 | false=>
  have zX:=aF rfl;have iY:cn=cap':=by simpa using bZ
  rw[iY];rcases de with ⟨aS,aX⟩ | ⟨aS,aX,a3⟩
  ·rw[<-zX] at aS aX;exact .inl ⟨by omega,by omega⟩
  ·rw[<-zX] at aS aX;refine .inr ⟨by omega,by omega,?_⟩;have dz:l*z+(cap' - l)*z=cap'*z:=by rw[<-auh]; congr 1; omega
   omega
 | true=>
  have iY:cn=m:=by simpa using bZ
  rw[iY];by_cases aK:off+l*z+(m - l)*z<sz
  ·exact .inl ⟨aK,rfl⟩
  ·exact .inr ⟨by omega,att _,by omega⟩
theorem extract_toList (s:ByteArray) (a b:Nat) :(s.extract a b).data.toList=(s.data.toList.drop a).take (b - a) :=by
 simp[ByteArray.extract,ByteArray.copySlice,List.take_drop]
theorem aO.ajU (z:Nat) (p:Prop) [Decidable p] (a b:Addr) (cap:Nat) :aO w R h μ (.bD z []) (.slice (if p then some a else some b) 0 cap) :=by
 by_cases ay:p
 ·rw[if_pos ay]; exact .fw _ _ _
 ·rw[if_neg ay]; exact .fw _ _ _
theorem aO.Xt (z b off len cap sz cap' : Nat) (p:Prop) [Decidable p] (a eQ:Addr) (ak:len<=cap) (ah:cap<=cap') (ar:uW h b sz) :
  aO w R h μ (.au z b off len cap sz) (.slice (if p then some a else some eQ) len cap') :=by
 by_cases ay:p
 ·rw[if_pos ay]; exact .go _ _ _ _ _ _ _ _ ak ah ar
 ·rw[if_neg ay]; exact .go _ _ _ _ _ _ _ _ ak ah ar
theorem ako (rel:b3 R B w h μ) {t:TypeId} {x c:U} {bE:Value} {cN av cG:Option U} {rl fC wo:Option Value} (al:DT P t x cN av cG=some c) (af:aO w R h μ x bE)
  (h1:w4 w R h μ cN rl) (ad:w4 w R h μ av fC) (aj:w4 w R h μ cG wo) :
  ∃ v,(Instr.sliceAt t bE rl fC wo).run P w=.ok v w/\aO w R h μ c v:=by
 unfold DT at al;split at al
 ·-- an array behind its address
  rename_i n e aJ;cases aw:cv P e with
  | none=>rw[aw] at al; cases al
  | some z=>
  cases ag:gv n n cN av cG with
  | none=>rw[aw,ag] at al; cases al
  | some uw=>
  obtain⟨l,aG,m⟩:=uw;rw[aw,ag] at al;simp only at al;obtain⟨b9,b0,dK,dP,jq⟩:=vc (P:=P) (isS:=false) ag (att _) (att _) h1 ad aj;have aeo:(if cG.isSome=true then m else n)=m:=by
   cases cG with
   | none=>simp[dP rfl]
   | some v=>simp
  rw[aeo] at jq;split at al
  ·rename_i b off sz;split at al
   ·rename_i dX;have Ad:∃ a,bE=.pointer (some a) :=by cases af<;>exact⟨_,rfl⟩
    obtain⟨a,rfl⟩:=Ad;refine⟨_,by simp[Instr.sliceAt,cu aJ,Instr.sureAddr,jq,fm aw]; rfl,?_⟩;split at al
    ·rename_i lL;simp only[Option.some.injEq] at al; subst al;have:aG - l=0:=by omega
     rw[this];exact .fw _ _ _
    ·rename_i lL;simp only[Option.some.injEq] at al; subst al;rw[if_neg lL];cases af with
     | ptr _ _ _ cs cg bH hm=>
      exact Xu rel (cap:=m) (cap':=m) (hasMax:=true) bH hm dX (by
       have eD:=rel.blk b cg hm;rw[bH] at eD;have ci:=eD.2.1;by_cases aK:off+m*z<sz
       ·exact .inl ⟨aK,rfl⟩
       ·exact .inr ⟨by omega,att _,by omega⟩) b9 b0 (att _) (fun aD=>by cases aD) (by simp) lL
     | mz _ _ _ _ ar=>exact .go _ _ _ _ _ _ _ _ (by omega) (att _) ar
   ·cases al
  ·rename_i cs off;split at al
   ·rename_i dX;simp only[Option.some.injEq] at al; subst al;cases af with
    | b6 _ _ blk o ed ah aq=>
     refine⟨_,by simp[Instr.sliceAt,cu aJ,Instr.sureAddr,jq,fm aw]; rfl,?_⟩;have gw:aG*z<=n*z:=aty _ (by omega);by_cases lL:m=l
     ·have aQ:aG - l=0:=by omega
      rw[aQ];exact .fw _ _ _
     ·rw[if_neg lL,Addr.l3];have ak:=vh (z:=z) (aG - l) (cs.drop (off+l*z));have iV:∀ i,i<aG - l->∀ j,j<z->off+l*z+(i*z+j)<cs.length:=by
       intro i fC j ai;have:(l+i+1)*z<=aG*z:=aty _ (by omega);rw[auh,auh] at this;omega
      have eY:∀ i fb,(ly z (aG - l) (cs.drop (off+l*z)))[i]? = some fb->i<aG - l/\fb=((cs.drop (off+l*z)).drop (i*z)).take z:=by
       intro i fb gk;have fC:i<aG - l:=by
        have:=(atq.1 gk).1;omega
       rw[ED _ _ _ fC] at gk;simp only[Option.some.injEq] at gk;exact⟨fC,gk.symm⟩
      have:=aO.bD (w:=w) (R:=R) (h:=h) (μ:=μ) z (ly z (aG - l) (cs.drop (off+l*z))) blk (o+off+l*z) (m - l) (fun i j=>ed (off+l*z+(i*z+j))) (by omega)
       (fun fb gk=>by
        obtain⟨i,fC,rfl⟩:=List.getElem_of_mem gk;obtain⟨aS,aX⟩:=eY i _ (atu fC);rw[aX,atN,auw,auw];have:(l+i+1)*z<=aG*z:=aty _ (by omega);rw[auh,auh] at this;omega)
       (fun i j fC ai=>by
        have:=ah (off+l*z+(i*z+j)) (iV i (by omega) j ai);have dz:o+off+l*z+(i*z+j)=o+(off+l*z+(i*z+j)) :=by omega
        rw[dz]; exact this)
       (fun i fb gk j c ai=>by
        obtain⟨aS,rfl⟩:=eY i _ gk;have mf:j<z:=by
         have:=(atq.1 ai).1;rw[atN] at this; omega
        rw[atP mf,at6,at6,] at ai;exact aq _ c ai)
      rw[ak] at this;exact this
   ·cases al
  ·cases al
 ·-- a slice
  rename_i e aJ;split at al
  ·rename_i z dm b off len cap sz aw;split at al
   ·rename_i uo; subst uo;cases ag:gv len cap cN av cG with
    | none=>rw[ag] at al; cases al
    | some uw=>
    obtain⟨l,aG,m⟩:=uw;rw[ag] at al;simp only[atA,Option.some.injEq] at al;cases af with
    | au _ _ _ _ _ _ cap' cs cg bH hm ak ap de=>
     have Th:cap<=cap':=by rcases de with de | de<;>omega
     obtain⟨b9,b0,dK,dP,jq⟩:=vc (P:=P) (isS:=true) ag ak Th h1 ad aj;refine⟨_,by simp[Instr.sliceAt,Instr.slice,cu aJ,jq,fm aw]; rfl,?_⟩;split at al
     ·rename_i lL;subst al;have:aG - l=0:=by omega
      rw[this];by_cases sC:(if cG.isSome=true then m else cap')=l
      ·rw[if_pos sC,sC,avt];exact .hF _ _ _ _ _ _ cg bH hm
      ·rw[if_neg sC];cases cG with
       | some v=>exact absurd (by simpa using lL) sC
       | none=>
        have zX:=dP rfl;simp only[avk,auL,if_false] at sC ⊢;have dE:cap=l:=by omega
        have ao:off+cap*z=sz/\cap<=cap'/\cg.s+off+cap'*z<=cg.T:=by rcases de with de | de<;>omega
        have ua:l*z+(cap' - l)*z=cap'*z:=by rw[<-auh]; congr 1; omega
        subst dE;rw[Addr.l3];have:=aO.au (w:=w) (R:=R) (h:=h) (μ:=μ) z b (off+cap*z) 0 0 sz (cap' - cap) _ cg bH hm (att _) (by omega) (.inr ⟨by omega,by omega,by omega⟩)
        rwa [<-au4] at this
     ·rename_i lL;subst al;have bx:¬ ((if cG.isSome=true then m else cap')=l) :=by
       cases cG with
       | none=>have:=dP rfl; simp; omega
       | some v=>simpa using lL
      rw[if_neg bx];exact Xu rel (hasMax:=cG.isSome) bH hm ap de b9 b0 dK (fun aD=>dP (by simpa using aD)) rfl lL
    | hF _ _ _ _ a cs cg bH hm=>
     obtain⟨b9,b0,dK,dP,jq⟩:=vc (P:=P) (isS:=true) ag (att 0) (att 0) h1 ad aj;refine⟨_,by simp[Instr.sliceAt,Instr.slice,cu aJ,jq,fm aw]; rfl,?_⟩;have jk:m=0:=by
      cases cG with
      | none=>exact dP rfl
      | some v=>simp at dK; omega
     have q2:l=0:=by omega
     have aej:aG=0:=by omega
     subst jk q2 aej;simp only[if_true] at al;subst al;simp;exact .hF _ _ _ _ _ _ cg bH hm
    | go _ _ _ _ _ _ cap' a ak de ar=>
     obtain⟨b9,b0,dK,dP,jq⟩:=vc (P:=P) (isS:=true) ag ak de h1 ad aj;refine⟨_,by simp[Instr.sliceAt,Instr.slice,cu aJ,jq,fm aw]; rfl,?_⟩;split at al
     ·rename_i lL;subst al;have:aG - l=0:=by omega
      rw[this];exact aO.Xt _ _ _ _ _ _ _ _ _ _ (att _) (auy _) ar
     ·rename_i lL;subst al;have dO:m<=(if cG.isSome=true then m else cap') :=by split<;>omega
      exact aO.Xt _ _ _ _ _ _ _ _ _ _ (by omega) (by omega) ar
   ·cases al
  ·rename_i z dm es aw;split at al
   ·rename_i uo; subst uo;cases ag:gv es.length es.length cN av cG with
    | none=>rw[ag] at al; cases al
    | some uw=>
    obtain⟨l,aG,m⟩:=uw;rw[ag] at al;simp only[atA,Option.some.injEq] at al;subst al;cases af with
    | bD _ _ blk off cap ed ak p8 ah aq=>
     obtain⟨b9,b0,dK,dP,jq⟩:=vc (P:=P) (isS:=true) ag (att _) ak h1 ad aj;refine⟨_,by simp[Instr.sliceAt,Instr.slice,cu aJ,jq,fm aw]; rfl,?_⟩;have bh:((es.drop l).take (aG - l)).length=aG - l:=by rw[atN,auw]; omega
     have dO:aG<=(if cG.isSome=true then m else cap) :=by
      cases cG with
      | none=>simp only[avk,auL,if_false]; omega
      | some v=>simpa using b0
     by_cases lL:(if cG.isSome=true then m else cap)=l
     ·have aQ:aG - l=0:=by omega
      rw[if_pos lL,aQ,auE];exact .fw _ _ _
     ·rw[if_neg lL,Addr.l3];have eY:∀ i fb,((es.drop l).take (aG - l))[i]? = some fb->i<aG - l/\es[l+i]? = some fb:=by
       intro i fb gk;have fC:i<aG - l:=by
        have:=(atq.1 gk).1;omega
       rw[atP fC,at6] at gk;exact⟨fC,gk⟩
      have:=aO.bD (w:=w) (R:=R) (h:=h) (μ:=μ) z ((es.drop l).take (aG - l)) blk (off+l*z) ((if cG.isSome=true then m else cap) - l) (fun i j=>ed (l+i) j) (by omega)
       (fun fb gk=>p8 fb (avc (at0 gk)))
       (fun i j fC ai=>by
        have:=ah (l+i) j (by omega) ai;have dz:off+l*z+(i*z+j)=off+((l+i)*z+j) :=by rw[auh]; omega
        rw[dz]; exact this)
       (fun i fb gk j c ai=>aq (l+i) fb (eY i fb gk).2 j c ai)
      rw[bh] at this;exact this
    | fw _ a cap=>
     obtain⟨b9,b0,dK,dP,jq⟩:=vc (P:=P) (isS:=true) ag (att _) (auy cap) h1 ad aj;refine⟨_,by simp at jq; simp[Instr.sliceAt,Instr.slice,cu aJ,jq,fm aw]; rfl,?_⟩;have aQ:aG - l=0:=by simp at dK; omega
     rw[aQ,auE];exact aO.ajU _ _ _ _ _
   ·cases al
  ·rename_i z aw;cases af;cases ag:gv 0 0 cN av cG with
   | none=>rw[ag] at al; cases al
   | some uw=>
   obtain⟨l,aG,m⟩:=uw;rw[ag] at al;simp only[atA,Option.some.injEq] at al;subst al;obtain⟨b9,b0,dK,dP,jq⟩:=vc (P:=P) (isS:=true) ag (att _) (att _) h1 ad aj;obtain rfl:m=0:=by omega
   obtain rfl:aG=0:=by omega
   obtain rfl:l=0:=by omega
   refine⟨_,by simp[Instr.sliceAt,Instr.slice,cu aJ,jq,fm aw]; rfl,?_⟩;exact .a1
  ·cases al
 ·-- a string
  rename_i s aJ;split at al
  ·cases af with
   | str bs=>
    cases ag:gv bs.data.toList.length bs.data.toList.length cN av none with
    | none=>rw[ag] at al; cases al
    | some uw=>
    obtain⟨l,aG,m⟩:=uw;rw[ag] at al;simp only[atA,Option.some.injEq] at al;subst al;cases wo with
    | some v=>exact aj.elim
    | none=>
     have hq:bs.data.toList.length=bs.size:=by simp
     rw[hq] at ag;obtain⟨b9,b0,dK,dP,jq⟩:=vc (P:=P) (isS:=false) ag (att _) (att _) h1 ad aj;refine⟨.string (bs.extract l aG),by simp[Instr.sliceAt,Instr.slice,cu aJ,jq],?_⟩;rw[<-extract_toList];exact .str _
  ·cases al
 ·cases al
end

section
variable {P:Program} {w:World} {R:Nat->Prop} {B:Nat} {h:aN} {μ:cH}
def kW (w:World) (R:Nat->Prop) (h:aN) (μ:cH) (cs:List U) (arr:Array Value) :Prop:=
 arr.size=cs.length/\∀ (j:Nat) (c:U),cs[j]? = some c->∃ v:Value,arr[j]? = some v/\v.oneCell'=true/\aO w R h μ c v
theorem kW.aM {cs:List U} {arr:Array Value} (ax:kW w R h μ cs arr) :aO w R h μ (.aM cs) (.agg arr) :=by
 refine .aM _ _ ax.1 (fun j v ai=>?_) (fun j c v ah ai=>?_)
 ·have aK:j<cs.length:=by have:=(at2.1 ai).1; rw[<-ax.1]; exact this
  obtain⟨u,h1,ad,_⟩:=ax.2 j _ (atu aK);rw[ai] at h1; cases h1; exact ad
 ·obtain⟨u,h1,_,aj⟩:=ax.2 j c ah;rw[ai] at h1; cases h1; exact aj
theorem R6:∀ (l:List Value) (k off:Nat) (cells:Array Value),off+k+l.length<=cells.size->
  ((l.zipIdx k).foldl (fun cs (vi:Value × Nat)=>cs.setIfInBounds (off+vi.2) vi.1) cells).size=cells.size ∧
  ∀ j,((l.zipIdx k).foldl (fun cs (vi:Value × Nat)=>cs.setIfInBounds (off+vi.2) vi.1) cells)[j]? = if off+k<=j/\j<off+k+l.length then l[j - (off+k)]? else cells[j]?
 | [],k,off,cells,_=>⟨by simp,fun j=>by simp; omega⟩
 | v::l,k,off,cells,ak=>by
  simp only[atL] at ak;have aH:=R6 l (k+1) off (cells.setIfInBounds (off+k) v) (by simp; omega);simp only[List.zipIdx_cons,awy];refine⟨by rw[aH.1]; simp,fun j=>?_⟩;rw[aH.2 j];by_cases ai:off+(k+1)<=j/\j<off+(k+1)+l.length
  ·rw[if_pos ai,if_pos (by simp only[atL]; omega)];have:j - (off+k)=(j - (off+(k+1)))+1:=by omega
   rw[this,at5]
  ·rw[if_neg ai,auG];by_cases ao:off+k=j
   ·subst ao;rw[if_pos rfl,if_pos (by omega),if_pos (by simp only[atL]; omega)];simp
   ·rw[if_neg ao,if_neg (by simp only[atL]; omega)]
theorem EV {kO:Nat->Option (Nat × Nat)}:∀ (parts:List (Nat × U)) (ko:List (Nat × Value)) (cs:List U) (arr:Array Value) (cs' : List U),
  hl kO cs parts=some cs'->kW w R h μ cs arr->ko.length=parts.length->(∀ (j:Nat) (p:Nat × U) (bI:Nat × Value),parts[j]? = some p->ko[j]? = some bI->bI.1=p.1/\aO w R h μ p.2 bI.2)->
  ∃ arr',Instr.fill kO arr ko=some arr'/\kW w R h μ cs' arr'
 | [],[],cs,arr,cs',aD,ax,_,_=>by
  simp only[hl,Option.some.injEq] at aD; subst aD;exact⟨arr,rfl,ax⟩
 | [],_::_,_,_,_,_,_,ak,_=>by simp at ak
 | _::_,[],_,_,_,_,_,ak,_=>by simp at ak
 | (i,c) ::parts,(iZ,v) ::ko,cs,arr,cs',aD,ax,ak,ay=>by
  obtain⟨rfl,aq⟩:=ay 0 (i,c) (iZ,v) rfl rfl;simp only at aq;unfold hl at aD;cases gy:kO iZ with
  | none=>rw[gy] at aD; cases aD
  | some os=>
  obtain⟨off,size⟩:=os;cases ah:c.cells with
  | none=>rw[gy,ah] at aD; cases aD
  | some vs=>
  rw[gy,ah] at aD;simp only at aD;split at aD
  ·rename_i jh;obtain⟨hq,mn⟩:=EB aq ah;have xT:v.cells.toList.length=vs.length:=by simpa using hq
   have qX:=R6 v.cells.toList 0 off arr (by rw[ax.1,xT]; omega);have af1:v.cells.zipIdx.foldl (fun cs (x:Value × Nat)=>match x with | (c,j)=>cs.setIfInBounds (off+j) c) arr=(v.cells.toList.zipIdx 0).foldl (fun cs (vi:Value × Nat)=>cs.setIfInBounds (off+vi.2) vi.1) arr:=by
    rw[<-Array.foldl_toList];simp
   obtain⟨arr',h1,ad⟩:=EV parts ko (bz cs off vs) (v.cells.zipIdx.foldl (fun cs (x:Value × Nat)=>match x with | (c,j)=>cs.setIfInBounds (off+j) c) arr) cs' aD (by
     rw[af1];refine⟨by rw[qX.1,ax.1,rG (by omega)]; omega,fun j x ai=>?_⟩;rw[qX.2 j];rw[M9 (by omega)] at ai;split at ai
     ·rename_i aK;rw[if_neg (by omega)];exact ax.2 j x ai
     ·split at ai
      ·rename_i h1 ad;rw[if_pos (by rw[xT]; omega)];obtain⟨u,aS,aX,a3⟩:=mn _ x ai;exact⟨u,by simpa using aS,aX,a3⟩
      ·rename_i h1 ad;rw[if_neg (by rw[xT]; omega)];exact ax.2 j x ai) (by simpa using ak) (fun j p bI ai ej=>ay (j+1) p bI (by simpa using ai) (by simpa using ej))
   refine⟨arr',?_,ad⟩;have oR:¬ (v.cells.size≠size\/off+v.cells.size > arr.size) :=by rw[hq,ax.1]; omega
   simp only[Instr.fill,gy];rw[if_neg (by simpa using oR)];exact h1
  ·cases aD
theorem wY {t:TypeId} {z:List U} (aw:hs P t=some z) :∃ v,(∀ w2:World,(zeroValue t).run P w2=.ok v w2)/\kW w R h μ z v.cells:=by
 obtain⟨i,v,av,aq,al,ah⟩:=YG (w:=w) (R:=R) (h:=h) (μ:=μ) aw;exact⟨v,fun w2=>Xl av aq,al,ah⟩
theorem aj0 {fs:Array Field} (al:(fs.toList.all fun f=>(cv P f.type).isSome)=true) :
  (fs.mapM fun f=>(do pure (f.offset,<-sizeOf f.type) :Sem (Nat × Nat))).run P w=.ok ((fs.toList.map fun f=>(f.offset,(cv P f.type).getD 0)).toArray) w:=by
 rw[Array.mapM_eq_mapM_toList];simp only[Sem.run_map];have:∀ l:List Field,(l.all fun f=>(cv P f.type).isSome)=true->(l.mapM fun f=>(do pure (f.offset,<-sizeOf f.type) :Sem (Nat × Nat))).run P w=.ok (l.map fun f=>(f.offset,(cv P f.type).getD 0)) w:=by
  intro l
  induction l with
  | nil=>intro _; simp
  | cons f l aH=>
   intro ak;simp only[awF,atv] at ak;obtain⟨n,aC⟩:=awk.1 ak.1;simp only[au7,Sem.run_bind,fm aC,Result.andThen_ok,Sem.run_pure,aH ak.2,atY,aC,aud]
 rw[this _ al];rfl
theorem aad {t:TypeId} {parts:List (Nat × U)} {ko:Array (Nat × Value)} {c:U} (ag:Bw P t parts=some c) (ak:ko.size=parts.length)
  (ay:∀ (j:Nat) (p:Nat × U) (bI:Nat × Value),parts[j]? = some p->ko[j]? = some bI->bI.1=p.1/\aO w R h μ p.2 bI.2) :
  ∃ v,(Instr.build t ko).run P w=.ok v w/\aO w R h μ c v:=by
 unfold Bw at ag;split at ag
 ·rename_i zero fs aw aJ;split at ag
  ·cases ag
  ·rename_i hq;simp only[auP,Bool.not_eq_false] at hq;cases aD:hl (DA P fs) zero parts with
   | none=>rw[aD] at ag; cases ag
   | some cs=>
    rw[aD] at ag;simp only[atA,Option.some.injEq] at ag; subst ag;obtain⟨v,aq,ax⟩:=wY (w:=w) (R:=R) (h:=h) (μ:=μ) aw;obtain⟨arr',h1,ad⟩:=EV parts ko.toList zero v.cells cs aD ax (by simpa using ak) (fun j p bI ai ej=>ay j p bI ai (by simpa using ej));have afh:(fun i=>((fs.toList.map fun f=>(f.offset,(cv P f.type).getD 0)).toArray)[i]?)=DA P fs:=by
     funext i;simp only[DA];simp only[avV,atw,au9];cases qW:fs[i]? with
     | none=>simp
     | some f=>
      rw[aue] at hq;have:=hq f (by have:=Array.mem_of_getElem? qW; simpa using this);obtain⟨n,aC⟩:=awk.1 this;simp[aC]
    refine⟨_,?_,ad.aM⟩;simp only[Instr.build,Sem.run_bind,aq,Result.andThen_ok,cu aJ,aj0 hq];rw[afh,h1];simp
 ·rename_i zero n e aw aJ;cases hq:cv P e with
  | none=>rw[hq] at ag; cases ag
  | some m=>
   rw[hq] at ag;simp only at ag;cases aD:hl (fun i=>some (i*m,m)) zero parts with
   | none=>rw[aD] at ag; cases ag
   | some cs=>
    rw[aD] at ag;simp only[atA,Option.some.injEq] at ag; subst ag;obtain⟨v,aq,ax⟩:=wY (w:=w) (R:=R) (h:=h) (μ:=μ) aw;obtain⟨arr',h1,ad⟩:=EV parts ko.toList zero v.cells cs aD ax (by simpa using ak) (fun j p bI ai ej=>ay j p bI ai (by simpa using ej));refine⟨_,?_,ad.aM⟩;simp only[Instr.build,Sem.run_bind,aq,Result.andThen_ok,cu aJ,fm hq];rw[h1];simp
 ·cases ag
theorem yE {zero:List U}:∀ n,(dk zero n).length=n*zero.length
 | 0=>by simp[dk]
 | n+1=>by simp only[dk,atB,yE n,aua]; omega
theorem W6 {zero:List U}:∀ (n j:Nat) (c:U),(dk zero n)[j]? = some c->zero[j % zero.length]? = some c
 | 0,_,_,ai=>by simp[dk] at ai
 | n+1,j,c,ai=>by
  simp only[dk] at ai;by_cases aK:j<zero.length
  ·rw[ats aK] at ai
   rwa [atD aK]
  ·rw[atC (by omega)] at ai;have:=W6 n _ c ai
   rwa [<-Nat.mod_eq_sub_mod (by omega)] at this
theorem Hs {zero:List U} {z:Array Value} (ax:kW w R h μ zero z) (n:Nat) :kW w R h μ (dk zero n) ((Array.range (n*zero.length)).map (z[· % z.size]!)) :=by
 refine⟨by simp[yE],fun j c ai=>?_⟩;have aK:j<n*zero.length:=by
  have:=(atq.1 ai).1
  rwa [yE] at this
 obtain⟨v,h1,ad,aj⟩:=ax.2 _ c (W6 n j c ai);refine⟨v,?_,ad,aj⟩;rw[<-ax.1] at h1;obtain⟨ag,rfl⟩:=at2.1 h1;simp[aK,ag]
theorem abR {z:Nat}:∀ (parts:List (Nat × U)) (a b:List U),hl (fun i=>some (i*z,z)) a parts=some b->b.length=a.length:=by
 intro parts
 induction parts with
 | nil=>intro a b e2; simp only[hl,Option.some.injEq] at e2; subst e2; rfl
 | cons p parts aH=>
  intro a b e2;unfold hl at e2;split at e2
  ·rename_i off size vs gy nj;split at e2
   ·rw[aH _ _ e2,rG (by omega)]; omega
   ·cases e2
  ·cases e2
theorem OV {t e:TypeId} {len z:Nat} {zero cs:List U} {parts:List (Nat × U)} {ko:Array (Nat × Value)} (ao:io P t=some e) (aw:cv P e=some z) (iE:hs P e=some zero) (hv:zero.length=z) (mg:len*z<=16777216)
  (aD:hl (fun i=>some (i*z,z)) (dk zero len) parts=some cs) (ak:ko.size=parts.length)
  (ay:∀ (j:Nat) (p:Nat × U) (bI:Nat × Value),parts[j]? = some p->ko[j]? = some bI->bI.1=p.1/\aO w R h μ p.2 bI.2) :
  cs.length=len*z/\∃ arr,(Instr.buildSlice t len ko).run P w=.ok (.slice (some ⟨w.heap.size,0,none⟩) len len) (w.alloc (.cells arr e))/\kW w R h μ cs arr:=by
 obtain⟨v,aq,ax⟩:=wY (w:=w) (R:=R) (h:=h) (μ:=μ) iE;obtain⟨arr',h1,ad⟩:=EV parts ko.toList _ _ cs aD (Hs ax len) (by simpa using ak) (fun j p bI ai ej=>ay j p bI ai (by simpa using ej));refine⟨by rw[abR _ _ _ aD,yE,hv],arr',?_,ad⟩;have j9:=BU ao;have aeP:¬ (len*z > 2 ^ 24) :=by omega
 simp only[Instr.buildSlice,Sem.run_bind,cu j9,Result.andThen_ok,fm aw,if_neg aeP];rw[hv] at h1;generalize fj:len*z=N at h1;by_cases aE:N=0
 ·subst aE;have hU:∀ f:Nat->Value,(Array.range 0).map f=#[] :=fun f=>by simp[Array.range]
  rw[hU] at h1;simp[hU,h1,newRow]
 ·simp[aE,aq,h1,newRow]
theorem aac (rel:b3 R B w h μ) {t:TypeId} {len:Nat} {parts:List (Nat × U)} {ko:Array (Nat × Value)} {c:U} {h' : aN} (ag:Eu P h t len parts=some (c,h')) (ak:ko.size=parts.length)
  (ay:∀ (j:Nat) (p:Nat × U) (bI:Nat × Value),parts[j]? = some p->ko[j]? = some bI->bI.1=p.1/\aO w R h μ p.2 bI.2) :
  ∃ v w' μ',(Instr.buildSlice t len ko).run P w=.ok v w'/\dx w h μ w' h' μ'/\b3 R B w' h' μ'/\aO w' R h' μ' c v:=by
 unfold Eu at ag;cases ao:io P t with
 | none=>rw[ao] at ag; cases ag
 | some e=>
 rw[ao] at ag;simp only at ag;cases aw:cv P e with
 | none=>rw[aw] at ag; cases ag
 | some z=>
 cases iE:hs P e with
 | none=>rw[aw,iE] at ag; cases ag
 | some zero=>
 rw[aw,iE] at ag;simp only at ag;split at ag
 ·rename_i jh;obtain⟨hv,mg⟩:=jh;cases aD:hl (fun i=>some (i*z,z)) (dk zero len) parts with
  | none=>rw[aD] at ag; cases ag
  | some cs=>
   rw[aD] at ag;simp only[atA,Option.some.injEq,Prod.mk.injEq] at ag;obtain⟨rfl,rfl⟩:=ag;obtain⟨dE,arr',g7,ad⟩:=OV ao aw iE hv mg aD ak ay;have aB:=Ek rel (cs:=cs) (vs:=arr') e ad.1 ad.2;rw[dE] at aB;obtain⟨aS,aX,a3⟩:=aB;refine⟨.slice (some ⟨w.heap.size,0,none⟩) len len,_,_,g7,aS,aX,?_⟩;have:=aO.au (w:=w.alloc (.cells arr' e)) (R:=R) (h:=h.push (.cells (len*z) cs)) (μ:=bL μ h.n (some ⟨w.heap.size,0,arr'.size⟩)) z h.n 0 len len (len*z) len cs ⟨w.heap.size,0,arr'.size⟩ (by simp[eb,ff]) (by simp) (att _) (by omega)
    (.inr ⟨by omega,att _,by simp only; rw[ad.1,dE]; omega⟩)
   simpa using this
 ·cases ag
theorem VF {t e:TypeId} {z by_:Nat} {zero:List U} {kl kc:IntKind} {li hi:Int} (ao:io P t=some e) (aw:cv P e=some z) (dD:jc P e=some by_) (iE:hs P e=some zero) (hv:zero.length=z)
  (aE:0<=li) (lI:li<=hi) (FF:hi<9223372036854775808) (df:by_*hi<=ct) :
  (dk zero hi.toNat).length=hi.toNat*z/\∃ arr,(Instr.makeSlice t (.int kl li) (.int kc hi)).run P w=.ok (.slice (some ⟨w.heap.size,0,none⟩) li.toNat hi.toNat) (w.alloc (.cells arr e))/\kW w R h μ (dk zero hi.toNat) arr:=by
 obtain⟨v,aq,ax⟩:=wY (w:=w) (R:=R) (h:=h) (μ:=μ) iE;have cC:=Hs ax hi.toNat
 refine⟨by rw[yE,hv],_,?_,cC⟩;obtain⟨i,av,Tf⟩:∃ i,P.info? e=some i/\i.bytes=by_:=by
  unfold jc at dD;cases av:P.info? e with
  | none=>rw[av] at dD; cases dD
  | some i=>rw[av] at dD; exact⟨i,rfl,by simpa using dD⟩
 have vY:IntKind.i64.wrap li=li:=IntWalk.i64_in _ (by omega);have Af:IntKind.i64.wrap hi=hi:=IntWalk.i64_in _ (by omega);have j9:=BU ao;unfold ct at df;have t1:¬ (hi<0\/(281474976710656:Int)<(by_:Int)*hi) :=by omega
 have t2:¬ (li<0) :=by omega
 have t3:¬ (hi<li) :=by omega
 rw[hv];generalize fj:hi.toNat*z=N;by_cases sC:N=0
 ·subst sC;have hU:∀ f:Nat->Value,(Array.range 0).map f=#[] :=fun f=>by simp[Array.range]
  simp[hU,Instr.makeSlice,cu j9,Go.asInt,asIntOf,typeInfo,av,Tf,vY,Af,t1,t2,t3,fm aw,fj,newRow]
 ·simp[Instr.makeSlice,cu j9,Go.asInt,asIntOf,typeInfo,av,Tf,vY,Af,t1,t2,t3,fm aw,fj,sC,aq,newRow]
theorem ahB (rel:b3 R B w h μ) {t:TypeId} {l c r:U} {GM tH:Value} {h' : aN} (hm:GN P h t l c=some (r,h')) (ak:aO w R h μ l GM) (ah:aO w R h μ c tH) :
  ∃ v w' μ',(Instr.makeSlice t GM tH).run P w=.ok v w'/\dx w h μ w' h' μ'/\b3 R B w' h' μ'/\aO w' R h' μ' r v:=by
 unfold GN at hm;split at hm
 ·rename_i e li hi ao gN eN;obtain⟨kl,rfl⟩:=rZ gN ak;obtain⟨kc,rfl⟩:=rZ eN ah;cases aw:cv P e with
  | none=>rw[aw] at hm; cases hm
  | some z=>
  cases dD:jc P e with
  | none=>rw[aw,dD] at hm; cases hm
  | some by_=>
  cases iE:hs P e with
  | none=>rw[aw,dD,iE] at hm; cases hm
  | some zero=>
  rw[aw,dD,iE] at hm;simp only at hm;split at hm
  ·rename_i jh;obtain⟨hv,aE,lI,FF,df⟩:=jh;simp only[Option.some.injEq,Prod.mk.injEq] at hm;obtain⟨rfl,rfl⟩:=hm;obtain⟨bh,arr,g7,cC⟩:=VF (w:=w) (R:=R) (h:=h) (μ:=μ) (kl:=kl) (kc:=kc) ao aw dD iE hv aE lI FF df;have aB:=Ek rel (cs:=dk zero hi.toNat) e cC.1 cC.2;rw[bh] at aB;obtain⟨aS,aX,a3⟩:=aB;refine⟨.slice (some ⟨w.heap.size,0,none⟩) li.toNat hi.toNat,_,_,g7,aS,aX,?_⟩;have:=aO.au (w:=w.alloc (.cells arr e)) (R:=R) (h:=h.push (.cells (hi.toNat*z) (dk zero hi.toNat))) (μ:=bL μ h.n (some ⟨w.heap.size,0,arr.size⟩))
    z h.n 0 li.toNat hi.toNat (hi.toNat*z) hi.toNat (dk zero hi.toNat) ⟨w.heap.size,0,arr.size⟩ (by simp[eb,ff]) (by simp) (by omega) (by omega)
    (.inr ⟨by omega,att _,by simp only; rw[cC.1,bh]; omega⟩)
   simpa using this
  ·cases hm
 ·cases hm
theorem ahl {t u:TypeId} {ty:TypeId} {x c:U} {bE:Value} (ah:yk P t x=some c) (af:aO w R h μ x bE) :∃ v,(Builtin.len_ #[t] ty #[bE]).run P w=.ok v w/\aO w R h μ c v:=by
 unfold yk at ah;split at ah<;>(try (simp only[Option.some.injEq] at ah; subst ah))
 ·rename_i s aJ;cases af;rename_i bs;exact⟨goInt bs.size,by simp[Builtin.len_,cu aJ],by rw[show (bs.data.toList.length:Int)=bs.size from by simp]; exact .int _ _⟩
 ·rename_i n e aJ;exact⟨goInt n,by simp[Builtin.len_,cu aJ],.int _ _⟩
 ·rename_i e aJ;cases af;exact⟨goInt (0:Nat),by simp[Builtin.len_,cu aJ],.int _ _⟩
 ·rename_i e z b off len cap sz aJ;cases af
  ·exact⟨goInt len,by simp[Builtin.len_,cu aJ],.int _ _⟩
  ·exact⟨goInt len,by simp[Builtin.len_,cu aJ],.int _ _⟩
  ·exact⟨goInt (0:Nat),by simp[Builtin.len_,cu aJ],.int _ _⟩
 ·rename_i e z es aJ;cases af
  ·exact⟨goInt es.length,by simp[Builtin.len_,cu aJ],.int _ _⟩
  ·exact⟨goInt (0:Nat),by simp[Builtin.len_,cu aJ],.int _ _⟩
 ·rename_i k e aJ;cases af;exact⟨goInt 0,by simp[Builtin.len_,cu aJ],.int _ _⟩
 ·cases ah
end

section
variable {P:Program} {w:World} {R:Nat->Prop} {B:Nat} {h:aN} {μ:cH}
theorem wu {t:TypeId} {cs:List U} {vs:Array Value} {off:Nat} {c:U} (ay:hC P t cs off=some c) (ax:kW w R h μ cs vs) :
  ∃ v,(∀ w2:World,(part t vs off).run P w2=.ok v w2)/\aO w R h μ c v:=by
 unfold hC at ay;cases oC:dW P t with
 | none=>rw[oC] at ay; cases ay
 | some b=>
  rw[oC] at ay;cases b with
  | false=>
   simp only at ay;obtain⟨v,h1,_,aj⟩:=ax.2 off c ay;exact⟨v,fun w2=>by simp[part,Hw oC,h1],aj⟩
  | true=>
   cases aC:cv P t with
   | none=>rw[aC] at ay; cases ay
   | some n=>
    rw[aC] at ay;simp only at ay;split at ay
    ·rename_i dO;simp only[Option.some.injEq] at ay;subst ay;refine⟨.agg (vs.extract off (off+n)),fun w2=>by simp[part,Hw oC,fm aC],kW.aM ⟨by simp; rw[ax.1]; omega,fun j c ai=>?_⟩⟩;have j6:j<n:=by
      have:=(atq.1 ai).1;rw[atN] at this; omega
     rw[atP j6,at6] at ai;obtain⟨v,h1,ad,aj⟩:=ax.2 _ c ai;refine⟨v,?_,ad,aj⟩;rw[Array.getElem?_extract,if_pos (by rw[ax.1]; omega)];exact h1
    ·cases ay
theorem u6 {cs:List U} {bE:Value} (af:aO w R h μ (.aM cs) bE) :∃ vs,bE=.agg vs/\kW w R h μ cs vs:=by
 cases af with
 | aM _ vs ak h1 aq=>
  refine⟨vs,rfl,ak,fun j c ai=>?_⟩;have aK:j<vs.size:=by rw[ak]; exact (atq.1 ai).1
  exact⟨vs[j],by simp[aK],h1 j _ (by simp[aK]),aq j c _ ai (by simp[aK])⟩
theorem abN {t:TypeId} {cs:List U} {f:Nat} {fd:Field} {c:U} {bE:Value} (aD:xm P t f=some fd) (ay:hC P fd.type cs fd.offset=some c) (af:aO w R h μ (.aM cs) bE) :
  ∃ v,(Instr.field t bE f).run P w=.ok v w/\aO w R h μ c v:=by
 obtain⟨fs,aJ,qX⟩:=RO aD;obtain⟨vs,rfl,ax⟩:=u6 af;obtain⟨v,h1,ad⟩:=wu (P:=P) ay ax;exact⟨v,by simp[Instr.field,cu aJ,qX,asAgg,h1],ad⟩
theorem Lq {t:TypeId} {x gd c:U} {bE C6:Value} (ah:Am P t x gd=some c) (af:aO w R h μ x bE) (av:aO w R h μ gd C6) :
  ∃ v,(Instr.index t bE C6).run P w=.ok v w/\aO w R h μ c v:=by
 unfold Am at ah;split at ah
 ·rename_i n e cs i aJ fa;obtain⟨k,rfl⟩:=rZ fa av;cases aw:cv P e with
  | none=>rw[aw] at ah; cases ah
  | some z=>
   rw[aw] at ah;simp only at ah;split at ah
   ·rename_i ag;obtain⟨vs,rfl,ax⟩:=u6 af;obtain⟨v,h1,ad⟩:=wu (P:=P) ah ax;exact⟨v,by simp[Instr.index,asIntOf,cu aJ,ag,fm aw,h1],ad⟩
   ·cases ah
 ·rename_i s i aJ fa;obtain⟨k,rfl⟩:=rZ fa av;split at ah
  ·rename_i ag;cases af with
   | str bs=>
    cases FA:bs.data.toList[i.toNat]? with
    | none=>rw[FA] at ah; cases ah
    | some b=>
     rw[FA] at ah;simp only[atA,Option.some.injEq] at ah;subst ah;have aK:i.toNat<bs.size:=by have:=(atq.1 FA).1; simpa using this
     have eY:bs[i.toNat]? = some b:=by
      have e9:=(atq.1 FA).2;rw[getElem?_pos bs i.toNat aK];simp only[Option.some.injEq];rw[<-e9];rfl
     exact⟨.int .u8 b.toNat,by simp[Instr.index,asIntOf,cu aJ,ag,eY],.int _ _⟩
  ·cases ah
 ·cases ah
theorem aaT (rel:b3 R B w h μ) {t u ty:TypeId} {d x c:U} {I1 bE:Value} {h' : aN} (ah:zm P h t d x=some (c,h')) (bq:aO w R h μ d I1) (af:aO w R h μ x bE) :
  ∃ v w',(Builtin.copy_ #[t,u] ty #[I1,bE]).run P w=.ok v w'/\dx w h μ w' h' μ/\b3 R B w' h' μ/\aO w' R h' μ c v:=by
 unfold zm at ah;cases ao:io P t with
 | none=>rw[ao] at ah; cases ah
 | some e=>
 rw[ao] at ah;simp only at ah;cases aw:cv P e with
 | none=>rw[aw] at ah; cases ah
 | some z=>
 rw[aw] at ah;simp only at ah;cases dj:contents h z x with
 | none=>rw[dj] at ah; cases ah
 | some NT=>
 obtain⟨xs,n⟩:=NT;rw[dj] at ah;simp only at ah;have j9:=BU ao;obtain⟨bn,bh,vs,cC,k2⟩:=vq (P:=P) rel dj af;split at ah
 ·simp only[Option.some.injEq,Prod.mk.injEq] at ah;obtain⟨rfl,rfl⟩:=ah;cases bq;have aE:=k2 0 (auy _) w (fun _=>rfl);refine⟨goInt (0:Nat),w,?_,.refl _ _ _,rel,.int _ _⟩;simp[Builtin.copy_,cu j9,bh,fm aw,aE]
 ·rename_i dm b off len cap sz;cases ag:h.f b with
  | cells m cs=>
   rw[ag] at ah;simp only at ah;split at ah
   ·rename_i Cp;obtain⟨rfl,rfl⟩:=Cp;simp only[Option.some.injEq,Prod.mk.injEq] at ah;obtain⟨rfl,rfl⟩:=ah;cases bq with
    | hF _ _ _ _ a cs' cg bH hm=>
     have aE:=k2 0 (auy _) w (fun _=>rfl);have k8:bz cs off []=cs:=by simp[bz]
     have jm:=rel.same (h':=h.set b (.cells m (bz cs off (xs.take (min n 0*z))))) (by
      rw[dI,Nat.min_zero,avG,auE,k8];funext x;simp only[bL];split
      ·rename_i af; rw[af,ag]
      ·rfl) rfl
     refine⟨goInt (0:Nat),w,?_,jm.1,jm.2,by rw[Nat.min_zero]; exact .int _ _⟩;simp[Builtin.copy_,cu j9,bh,fm aw,aE,storeCells,Result.andThen]
    | go _ _ _ _ _ _ cap' a ak de ar=>
     exfalso;rcases ar with ar | ⟨gY,cs',ar,aK⟩
     ·rw[ar] at ag; cases ag
     ·rw[ar] at ag; cases ag; omega
    | au _ _ _ _ _ _ cap' cs' cg bH hm ak ap de=>
     have eD:=rel.blk b cg hm;rw[ag] at eD;obtain⟨Tk,ci,_⟩:=eD;have ua:min n len*z<=cap*z:=aty _ (by omega);have T8:min n len*z<=n*z:=aty _ (by omega);have la:(xs.take (min n len*z)).length=min n len*z:=by rw[atN]; omega
     have mg:max m (off+(xs.take (min n len*z)).length)=m:=by rw[la]; omega
     obtain⟨w',h1,ad,aj⟩:=yT (P:=P) rel (cvs:=xs.take (min n len*z)) (vs:=vs.take (min n len*z)) (k:=off) ag hm (by omega)
      (by rw[atN,atN,cC.1]) (by rw[mg]; omega) (fun j c ai=>by
       have aK:j<min n len*z:=by have:=(atq.1 ai).1; rwa [la] at this
       rw[atP aK] at ai ⊢;exact cC.2 j c ai)
     rw[mg] at ad aj;have aD:=k2 (min n len) (by omega) w (fun _=>rfl);refine⟨goInt (min n len:Nat),w',?_,ad,aj,.int _ _⟩;have CG:Nat.min n len=min n len:=rfl;simp[Builtin.copy_,cu j9,bh,fm aw,CG,aD,h1]
   ·cases ah
  | _=>rw[ag] at ah; cases ah
 ·cases ah
theorem IB:∀ (cs:List U) (vs:List Value) (bs:List UInt8),mP cs=some bs->vs.length=cs.length->
  (∀ (j:Nat) (c:U),cs[j]? = some c->∃ v:Value,vs[j]? = some v/\v.oneCell'=true/\aO w R h μ c v)->
  ∃ ns:List Int,vs=ns.map (Value.int .u8)/\bs=ns.map fun n=>UInt8.ofNat n.toNat
 | [],[],bs,ag,_,_=>by
  simp only[mP,Option.some.injEq] at ag; subst ag;exact⟨[],rfl,rfl⟩
 | [],_::_,_,_,ak,_=>by simp at ak
 | _::_,[],_,_,ak,_=>by simp at ak
 | c::cs,v::vs,bs,ag,ak,aq=>by
  obtain⟨v0,iC,_,uj⟩:=aq 0 c rfl;simp only[atT,Option.some.injEq] at iC;subst iC;cases uj with
  | int k n=>
   cases k<;>simp only[mP] at ag<;>try (cases ag; done)
   cases pL:mP cs with
   | none=>rw[pL] at ag; cases ag
   | some Z3=>
    rw[pL] at ag;simp only[atA,Option.some.injEq] at ag;subst ag;obtain⟨ns,h1,ad⟩:=IB cs vs Z3 pL (by simpa using ak) (fun j c ai=>aq (j+1) c (by simpa using ai));exact⟨n::ns,by rw[h1]; rfl,by rw[ad]; rfl⟩
  | _=>simp[mP] at ag
theorem R5:∀ (ns:List Int) (s:ByteArray),(ns.foldl (fun r n=>r.push (UInt8.ofNat n.toNat)) s).data.toList=s.data.toList++ns.map fun n=>UInt8.ofNat n.toNat
 | [],s=>by simp
 | n::ns,s=>by
  rw[awy,R5 ns];simp[ByteArray.push]
theorem aaR (rel:b3 R B w h μ) {s d:TypeId} {x c:U} {bE:Value} (ah:xe P h s d x=some c) (af:aO w R h μ x bE) :
  ∃ v,(convert s d bE).run P w=.ok v w/\aO w R h μ c v:=by
 unfold xe at ah;split at ah
 ·rename_i hN k k' n al bq;simp only[Option.some.injEq] at ah; subst ah;cases af;exact⟨.int k (k.wrap n),by simp[convert,cu al,cu bq,Conv.intToInt],.int _ _⟩
 ·rename_i e6 al bq;simp only[Option.some.injEq] at ah; subst ah;cases af with
  | str bs=>exact⟨.string bs,by simp[convert,cu al,cu bq],.str _⟩
 ·rename_i e al bq Ua;cases Gk:P.underlying e with
  | none=>rw[Gk] at ah; cases ah
  | some aox=>
   rw[Gk] at ah;split at ah
   ·rename_i heq;simp only[Option.some.injEq] at heq ah; subst heq ah;cases af;refine⟨.string ByteArray.empty,by simp[convert,cu al,cu bq,cu Gk,Conv.bytesToString],?_⟩;exact .str ByteArray.empty
   ·rename_i heq xZ;simp only[Option.some.injEq] at heq; subst heq;split at ah
    ·cases ah
    ·rename_i cs n ae1 dj;cases pL:mP cs with
     | none=>rw[pL] at ah; cases ah
     | some bs=>
      rw[pL] at ah;simp only[atA,Option.some.injEq] at ah; subst ah;obtain⟨bn,bh,vs,cC,k2⟩:=vq (P:=P) rel dj af;have aD:=k2 n (att _) w (fun _=>rfl);obtain⟨ns,rfl,rfl⟩:=IB cs vs bs pL cC.1 cC.2;have CS:(ns.map (Value.int .u8)).take (n*1)=ns.map (Value.int .u8) :=atr (by rw[cC.1,bn]; exact att _);rw[CS] at aD;have Ke:∃ a len cap,bE=.slice a len cap:=by
       cases af<;>first | exact⟨_,_,_,rfl⟩ | (simp[contents] at dj; done) | (exact absurd rfl (ae1 _))
      obtain⟨a,len,cap,rfl⟩:=Ke;simp only[Builtin.lenOf,Sem.run_pure,Result.ok.injEq] at bh;obtain⟨rfl,_⟩:=bh;have adV:=R5 ns ByteArray.empty;refine⟨.string (ns.foldl (fun r n=>r.push (UInt8.ofNat n.toNat)) ByteArray.empty),?_,?_⟩
      ·rw[run_convert_bytes_string w s d e a len cap al Gk bq];cases a with
       | none=>
        simp only[Builtin.firstCells,Sem.run_pure,Result.ok.injEq] at aD;have mn:ns=[] :=by
         have:=congrArg Array.toList aD.1;simpa using this.symm
        subst mn;simp[Conv.bytesToString]
       | some a=>
        simp only[Builtin.firstCells,auW] at aD;exact run_bytesToString w a len cap ns aD
      ·have:(ns.foldl (fun r n=>r.push (UInt8.ofNat n.toNat)) ByteArray.empty).data.toList=ns.map fun n=>UInt8.ofNat n.toNat:=by rw[adV]; rfl
       rw[<-this];exact .str _
    ·cases ah
   ·cases ah
 ·cases ah
theorem MG (rel:b3 R B w h μ) {w' : World} (ag:RowKit.Below w.heap.size w w') (qV:w.drawn<=w'.drawn:=by first | exact att _ | exact Nat.le_succ _) :dx w h μ w' h μ/\b3 R B w' h μ:=by
 have e:dx w h μ w' h μ:=⟨⟨ag.os,ag.tape,ag.output,ag.size,fun k hk _=>ag.block k hk,fun _ ap=>.inl ap,fun b sz cs m h1 ad=>.inl ⟨cs,h1,ad⟩,fun _ _ ar=>ar,fun _ _ _ h1 ad=>⟨h1,ad⟩,att _,qV⟩,fun _ _ hm=>hm⟩
 refine⟨e,fun b m hm=>?_,rel.inj,rel.base,rel.fresh,rel.up,auV rel.size ag.size,rel.kM⟩;cases ak:live (h.f b) with
 | false=>cases ah:h.f b<;>first | trivial | (rw[ah] at ak; cases ak)
 | true=>exact (rel.blk b m hm).ext e.toExt0 (ag.block _ (rel.lt ak hm))
theorem aag (rel:b3 R B w h μ) {s d:TypeId} {x c:U} {bE:Value} (ah:zc P s d x=some c) (af:aO w R h μ x bE) :
  ∃ v w',(convert s d bE).run P w=.ok v w'/\dx w h μ w' h μ/\b3 R B w' h μ/\aO w' R h μ c v:=by
 unfold zc at ah;split at ah
 ·rename_i hN e e6 al bq;split at ah
  ·rename_i aJ;simp only[Option.some.injEq] at ah; subst ah;cases af with
   | str bs=>
    have J3:RowKit.Below w.heap.size w (Lib.bytesWorld w e bs) :=⟨rfl,rfl,rfl,by rw[Lib.bytesWorld_size]; omega,fun k hk=>Lib.bytesWorld_at_old w e bs k hk⟩
    obtain⟨h1,ad⟩:=MG rel J3;refine⟨_,_,Lib.run_convert_string_bytes w s d e bs al bq aJ,h1,ad,?_⟩;have hq:bs.data.toList.length=bs.size:=by simp
    have j7:¬ lu h μ w.heap.size:=by
     rintro⟨b,m,ak,hm,ao⟩;have:=rel.lt ak hm;omega
    have cS:bs.size<=grownCap w bs.size 0 e:=grownCap_ge w bs.size 0 e;have:=aO.bD (w:=Lib.bytesWorld w e bs) (R:=R) (h:=h) (μ:=μ) 1 (bs.data.toList.map fun b=>[iO b]) w.heap.size 0 (grownCap w bs.size 0 e) (fun i _=>.int .u8 (bs.data.toList.getD i 0).toNat)
     (by simpa using cS) (fun e ao=>by obtain⟨b,_,rfl⟩:=atV.1 ao; rfl)
     (fun i j av ai=>by
      have fC:i<bs.size:=by simpa using av
      have:j=0:=by omega
      subst this;exact⟨by simpa using Lib.bytesWorld_cell w e bs i fC,rfl,rel.up _ rel.size,j7⟩)
     (fun i e ao j c ai=>by
      rw[atw] at ao;cases ag:bs.data.toList[i]? with
      | none=>rw[ag] at ao; cases ao
      | some b=>
       rw[ag] at ao;simp only[atA,Option.some.injEq] at ao; subst ao;cases j with
       | zero=>
        simp only[atT,Option.some.injEq] at ai; subst ai;have:bs.data.toList.getD i 0=b:=by simp[List.getD,ag]
        rw[this];exact .int _ _
       | succ j=>simp at ai)
    rw[atU,hq] at this;exact this
  ·cases ah
 ·cases ah
theorem aao {t ty:TypeId} {x c:U} {bE:Value} (ah:ze P t x=some c) (af:aO w R h μ x bE) :∃ v,(Builtin.cap_ #[t] ty #[bE]).run P w=.ok v w/\aO w R h μ c v:=by
 unfold ze at ah;split at ah<;>(try (simp only[Option.some.injEq] at ah; subst ah))
 ·rename_i n e aJ;exact⟨goInt n,by simp[Builtin.cap_,cu aJ],.int _ _⟩
 ·rename_i e aJ;cases af;exact⟨goInt (0:Nat),by simp[Builtin.cap_,cu aJ],.int _ _⟩
 ·cases ah
theorem aaA (rel:b3 R B w h μ) {t ty:TypeId} {x:U} {bE:Value} {h' : aN} (ah:zi P h t x=some h') (af:aO w R h μ x bE) :
  ∃ w',(Builtin.clear_ #[t] ty #[bE]).run P w=.ok (.tuple #[]) w'/\dx w h μ w' h' μ/\b3 R B w' h' μ:=by
 unfold zi at ah;split at ah
 ·rename_i e aJ;simp only[Option.some.injEq] at ah; subst ah;cases af;exact⟨w,by simp[Builtin.clear_,cu aJ],.refl _ _ _,rel⟩
 ·rename_i e z aJ;simp only[Option.some.injEq] at ah; subst ah;cases af<;>exact⟨w,by simp[Builtin.clear_,cu aJ],.refl _ _ _,rel⟩
 ·rename_i e z b off len cap sz aJ;split at ah
  ·rename_i q2;simp only[Option.some.injEq] at ah; subst ah;subst q2;cases af<;>exact⟨w,by simp[Builtin.clear_,cu aJ],.refl _ _ _,rel⟩
  ·rename_i q2;split at ah
   ·rename_i zero m cs aw ag;split at ah
    ·rename_i Cp;obtain⟨rfl,rfl⟩:=Cp;simp only[Option.some.injEq] at ah; subst ah;cases af with
     | hF=>exact absurd rfl q2
     | go _ _ _ _ _ _ cap' a ak de ar=>
      exfalso;rcases ar with ar | ⟨gY,cs',ar,aK⟩
      ·rw[ar] at ag; cases ag
      ·rw[ar] at ag; cases ag; omega
     | au _ _ _ _ _ _ cap' cs' cg bH hm ak ap de=>
      have eD:=rel.blk b cg hm;rw[ag] at eD;obtain⟨Tk,ci,_⟩:=eD;obtain⟨v,aq,ax⟩:=wY (P:=P) (w:=w) (R:=R) (h:=h) (μ:=μ) aw;have KV:=Hs ax len;have ua:len*zero.length<=cap*zero.length:=aty _ ak;have nW:(dk zero len).length=len*zero.length:=yE len;have mg:max m (off+(dk zero len).length)=m:=by rw[nW]; omega
      have hv:v.cells.size=zero.length:=ax.1;have Gm:(Builtin.zeroCells v.cells len)=(Array.range (len*zero.length)).map (v.cells[· % v.cells.size]!) :=by
       unfold Builtin.zeroCells;rw[hv]
      obtain⟨w',h1,ad,aj⟩:=yT (P:=P) rel (cvs:=dk zero len) (vs:=(Builtin.zeroCells v.cells len).toList) (k:=off) ag hm (by omega)
       (by rw[Gm,nW]; simp) (by rw[mg]; omega) (fun j c ai=>by
        rw[Gm];obtain⟨u,aS,aX,a3⟩:=KV.2 j c ai;exact⟨u,by rw[au9]; exact aS,aX,a3⟩)
      rw[mg] at ad aj;refine⟨w',?_,ad,aj⟩;cases bh:len with
      | zero=>exact absurd bh q2
      | succ aro=>
       rw[bh] at h1;simp[Builtin.clear_,cu aJ,aq,h1]
    ·cases ah
   ·cases ah
 ·cases ah
theorem ZD (rel:b3 R B w h μ) {t u ty:TypeId} {k:IntKind} {s x c:U} {pd bE:Value} {h' : aN} (aJ:P.underlying u=some (.int k)) (aB:Bp P h t s x=some (c,h')) (al:aO w R h μ s pd) (af:aO w R h μ x bE) :
  ∃ v w' μ',(Builtin.append_ #[t,u] ty #[pd,bE]).run P w=.ok v w'/\dx w h μ w' h' μ'/\b3 R B w' h' μ'/\aO w' R h' μ' c v:=by
 unfold Bp at aB;split at aB
 ·rename_i e n ao av;have j9:=BU ao;obtain⟨rh,rfl⟩:=rZ av af;split at aB
  ·rename_i z by_ zero aw dD iE;split at aB
   ·rename_i jh;obtain⟨hv,ub,apI,df⟩:=jh;obtain⟨i,zv,q0,lc,jp,_⟩:=YG (P:=P) (w:=w) (R:=R) (h:=h) (μ:=μ) iE;have p4:i.size=z:=by simpa [cv,q0] using aw
    have lF:i.bytes=by_:=by simpa [jc,q0] using dD
    have Ag:IntKind.i64.wrap n=n:=by
     simp[IntKind.wrap,IntKind.bits,IntKind.signed]; omega
    have aC:(n.toNat:Int)=n:=by omega
    have pW:¬ (n<0) :=by omega
    have ao6:¬ (2 ^ 48<n*(by_:Int)) :=by
     have h1:((n.toNat*by_:Nat) :Int)=n*by_:=by rw[Int.natCast_mul,aC]
     have ad:((n.toNat*by_:Nat) :Int)<=((140737488355328:Nat) :Int) :=Int.ofNat_le.2 df;rw[h1] at ad;omega
    have cC:kW w R h μ (dk zero n.toNat) (Builtin.zeroCells zv.cells n.toNat) :=by
     obtain⟨v,aq,ax⟩:=wY (P:=P) (w:=w) (R:=R) (h:=h) (μ:=μ) iE;have yd:v=zv:=by
      have:=aq w;simp[zeroValue,typeInfo,q0,lc] at this;exact this.symm
     subst yd;have KV:=Hs ax n.toNat
     have Gm:(Builtin.zeroCells v.cells n.toNat)=(Array.range (n.toNat*zero.length)).map (v.cells[· % v.cells.size]!) :=by
      unfold Builtin.zeroCells;rw[ax.1]
     rw[Gm];exact KV
    have nW:(dk zero n.toNat).length=n.toNat*z:=by rw[yE,hv]
    have vI:∀ w2:World,(Go.asInt (.int rh n)).run P w2=.ok n w2:=fun w2=>rfl
    have vD:¬ (281474976710656<n*(by_:Int)) :=by omega
    have sE:∀ w2:World,(zeroValue e).run P w2=.ok zv w2:=fun w2=>by simp[zeroValue,typeInfo,q0,lc]
    have UK:n.toNat*z=0->Builtin.zeroCells zv.cells n.toNat=#[] :=fun aE=>by
     apply avl;unfold Builtin.zeroCells;simp[jp,hv,aE]
    refine Oy rel aw dD aB al nW (vs:=(Builtin.zeroCells zv.cells n.toNat).toList) ⟨by simpa using cC.1,fun j c ai=>by
     obtain⟨v,aS,aX,a3⟩:=cC.2 j c ai;exact⟨v,by rw[au9]; exact aS,aX,a3⟩⟩ (fun base sLen gH w' dX cw=>?_) (fun iZ atp fC UL base sLen gH fu ap ar ax ag=>?_)
    ·by_cases aE:n.toNat*z=0
     ·rw[UK aE] at cw;cases base with
      | none=>
       subst cw;simp[Builtin.append_,vI,cu j9,cu aJ,fm aw,Ag,pW,typeInfo,q0,lF,dX,vD,aE]
      | some a=>
       simp only at cw;simp[Builtin.append_,vI,cu j9,cu aJ,fm aw,Ag,pW,typeInfo,q0,lF,dX,vD,aE,cw]
     ·cases base with
      | none=>
       subst cw;simp[Builtin.append_,vI,cu j9,cu aJ,fm aw,Ag,pW,typeInfo,q0,lF,dX,vD,aE,sE]
      | some a=>
       simp only at cw;simp[Builtin.append_,vI,cu j9,cu aJ,fm aw,Ag,pW,typeInfo,q0,lF,dX,vD,aE,sE,cw]
    ·rw[q0] at fC;cases fC;rw[lc] at UL;cases UL;have Kh:¬ (281474976710656<Builtin.nextslicecap (sLen+n.toNat) gH*i.bytes) :=by
      have:=growslice_fits (need:=sLen+n.toNat) (old:=gH) (bytes:=i.bytes) ar ax;omega
     have Uc:¬ (sLen+n.toNat<=gH) :=by omega
     have xY:¬ ((9223372036854775807:Int)<((sLen+n.toNat:Nat) :Int)) :=by
      have h1:(sLen+n.toNat)*1<=(sLen+n.toNat)*i.bytes:=Nat.mul_le_mul_left _ ag;unfold ct at ax;omega
     have T9:¬ ((9223372036854775807:Int)<(sLen:Int)+max n 0) :=by omega
     rw[p4] at ap;rw[lF] at Kh;by_cases aE:n.toNat*z=0
     ·have xT:(fu++(Builtin.zeroCells zv.cells n.toNat).toList).toArray=fu.toArray:=by rw[UK aE]; simp
      rw[xT];simp[Builtin.append_,vI,cu j9,cu aJ,fm aw,Ag,pW,typeInfo,q0,lF,Uc,vD,xY,T9,Kh,aE,sE,ap,Question.forced,newRow,grownCap]
     ·have xT:(fu++(Builtin.zeroCells zv.cells n.toNat).toList).toArray=fu.toArray++Builtin.zeroCells zv.cells n.toNat:=by simp
      rw[xT];simp[Builtin.append_,vI,cu j9,cu aJ,fm aw,Ag,pW,typeInfo,q0,lF,Uc,vD,xY,T9,Kh,aE,sE,ap,Question.forced,newRow,grownCap]
   ·cases aB
  ·cases aB
 ·cases aB
end

section
variable {P:Program} {w:World} {R:Nat->Prop} {B:Nat} {h:aN} {μ:cH}
theorem ZS {op:BinOp} {t:TypeId} {k k' : IntKind} {a b:Int} {c:U} (ah:cm op k a k' b=some c) :
  ∃ v,(binOp op t (.int k a) (.int k' b)).run P w=.ok v w/\aO w R h μ c v:=by
 cases op
 case shl=>
  simp only[cm] at ah;split at ah
  ·cases ah
  ·rename_i ag;simp only[Option.some.injEq] at ah; subst ah;exact⟨_,by simp[binOp,Op.shift,ag],.int _ _⟩
 case shr=>
  simp only[cm] at ah;split at ah
  ·cases ah
  ·rename_i ag;simp only[Option.some.injEq] at ah; subst ah;exact⟨_,by simp[binOp,Op.shift,ag],.int _ _⟩
 case quo=>
  simp only[cm] at ah;split at ah
  ·rename_i ag;obtain⟨rfl,ag⟩:=ag;simp only[Option.some.injEq] at ah; subst ah;exact⟨_,by simp[binOp,Op.intDiv,ag],.int _ _⟩
  ·cases ah
 case rem=>
  simp only[cm] at ah;split at ah
  ·rename_i ag;obtain⟨rfl,ag⟩:=ag;simp only[Option.some.injEq] at ah; subst ah;exact⟨_,by simp[binOp,Op.intDiv,ag],.int _ _⟩
  ·cases ah
 all_goals
  simp only[cm] at ah;split at ah
  ·rename_i hk;subst hk;simp only[Option.some.injEq] at ah; subst ah
   first
    | (refine⟨_,?_,.int _ _⟩; unfold binOp; simp only[ne_eq,not_true_eq_false,if_false]; rfl)
    | (refine⟨_,?_,.bool _⟩; unfold binOp; simp only[ne_eq,not_true_eq_false,if_false]; rfl)
  ·cases ah
theorem toList_eq (s:ByteArray) :s.toList=s.data.toList:=by
 rw[ByteArray.toList_eq]
theorem ZT {op:BinOp} {t:TypeId} {a b:ByteArray} {c:U} (ah:pu op a.data.toList b.data.toList=some c) :
  ∃ v,(binOp op t (.string a) (.string b)).run P w=.ok v w/\aO w R h μ c v:=by
 cases op<;>simp only[pu] at ah<;>try (cases ah; done)
 case add=>
  split at ah
  ·rename_i dO;simp only[Option.some.injEq] at ah; subst ah;have h1:a.data.toList.length=a.size:=by simp
   have ad:b.data.toList.length=b.size:=by simp
   rw[h1,ad] at dO;have CE:¬ ((9223372036854775807:Int)<(a.size:Int)+(b.size:Int)) :=by omega
   have ak:(a++b).data.toList=a.data.toList++b.data.toList:=by simp
   refine⟨.string (a++b),by simp[binOp,Op.stringOp,CE],?_⟩;rw[<-ak];exact .str _
  ·cases ah
 all_goals
  simp only[Option.some.injEq] at ah; subst ah;exact⟨_,by simp[binOp,Op.stringOp,toList_eq],.bool _⟩
theorem abB {d:Nat} {t:TypeId} {a b:Bool} (aJ:P.underlying t=some .bool) :(Op.equalIn (d+1) t (.bool a) (.bool b)).run P w=.ok (a == b) w:=by
 simp[Op.equalIn,cu aJ]
theorem abC {d:Nat} {t:TypeId} {i4 k:IntKind} {a b:Int} (aJ:P.underlying t=some (.int i4)) :(Op.equalIn (d+1) t (.int k a) (.int k b)).run P w=.ok (a == b) w:=by
 simp[Op.equalIn,cu aJ]
theorem abD {d:Nat} {t:TypeId} {a b:ByteArray} (aJ:P.underlying t=some .string) :(Op.equalIn (d+1) t (.string a) (.string b)).run P w=.ok (a.data.toList == b.data.toList) w:=by
 simp[Op.equalIn,cu aJ,toList_eq,beq_toListBytes]
theorem Ja {d:Nat} {t e:TypeId} {x y l c:Nat} {b:Option Addr} (aJ:P.underlying t=some (.slice e)) :(Op.equalIn (d+1) t (.slice none x y) (.slice b l c)).run P w=.ok b.isNone w:=by
 simp[Op.equalIn,cu aJ]
theorem RH {d:Nat} {t e:TypeId} {x y l c:Nat} {a:Addr} (aJ:P.underlying t=some (.slice e)) :(Op.equalIn (d+1) t (.slice (some a) l c) (.slice none x y)).run P w=.ok false w:=by
 simp[Op.equalIn,cu aJ]
theorem I7 {d:Nat} {xs a6:List U} {rK rL:Array Value}
  (aH:∀ (t:TypeId) (x y:U) (b:Bool) (bE fN:Value),ez P d t x y=some b->aO w R h μ x bE->aO w R h μ y fN->(Op.equalIn d t bE fN).run P w=.ok b w)
  (sy:kW w R h μ xs rK) (sA:kW w R h μ a6 rL) :∀ (l:List Field) (b:Bool),ez.eqFields P (ez P d) xs a6 l=some b->(Op.eqFields d rK rL l).run P w=.ok b w
 | [],b,ag=>by simp only[ez.eqFields,Option.some.injEq] at ag; subst ag; simp[Op.eqFields]
 | f::l,b,ag=>by
  unfold ez.eqFields at ag;unfold Op.eqFields;by_cases aD:f.name= "_"
  ·rw[if_pos aD] at ag;simp[aD,I7 aH sy sA l b ag]
  ·rw[if_neg aD] at ag;split at ag
   ·rename_i a c aB ah;obtain⟨h3,h1,ad⟩:=wu (P:=P) aB sy;obtain⟨ep,aj,aF⟩:=wu (P:=P) ah sA;split at ag
    ·rename_i heq;have:=aH f.type a c true h3 ep heq ad aF;simp[aD,h1,aj,this,I7 aH sy sA l b ag]
    ·rename_i heq;have:=aH f.type a c false h3 ep heq ad aF;simp only[Option.some.injEq] at ag; subst ag;simp[aD,h1,aj,this]
    ·cases ag
   ·cases ag
theorem RE {d z:Nat} {e:TypeId} {xs a6:List U} {rK rL:Array Value}
  (aH:∀ (t:TypeId) (x y:U) (b:Bool) (bE fN:Value),ez P d t x y=some b->aO w R h μ x bE->aO w R h μ y fN->(Op.equalIn d t bE fN).run P w=.ok b w)
  (sy:kW w R h μ xs rK) (sA:kW w R h μ a6 rL) (f:Nat->Option Bool × Unit->Sem (ForInStep (Option Bool × Unit)))
  (aD:∀ (i:Nat) (h3 ep:Value) (b:Bool) (r:Option Bool × Unit),(part e rK (i*z)).run P w=.ok h3 w->(part e rL (i*z)).run P w=.ok ep w->(Op.equalIn d e h3 ep).run P w=.ok b w->
   (f i r).run P w=.ok (if b then .yield (none,()) else .done (some false,())) w) :
  ∀ (n i:Nat) (b:Bool),ez.r6 P (ez P d) e z xs a6 n i=some b->(forIn (List.range' i n) (none,()) f).run P w=.ok (if b then (none,()) else (some false,())) w
 | 0,i,b,ag=>by
  simp only[ez.r6,Option.some.injEq] at ag; subst ag;simp
 | n+1,i,b,ag=>by
  unfold ez.r6 at ag;split at ag
  ·rename_i a c aB ah;obtain⟨h3,h1,ad⟩:=wu (P:=P) aB sy;obtain⟨ep,aj,aF⟩:=wu (P:=P) ah sA;rw[List.range'_succ,List.forIn_cons];split at ag
   ·rename_i heq;have aZ:=aH e a c true h3 ep heq ad aF;have aG:=aD i h3 ep true (none,()) (h1 w) (aj w) aZ;simp only[Sem.run_bind,aG,if_true,Result.andThen_ok];exact RE aH sy sA f aD n (i+1) b ag
   ·rename_i heq;have aZ:=aH e a c false h3 ep heq ad aF;have aG:=aD i h3 ep false (none,()) (h1 w) (aj w) aZ;simp only[Option.some.injEq] at ag; subst ag;simp[aG]
   ·cases ag
  ·cases ag
theorem run_equalIn_array {d n z:Nat} {t e:TypeId} {rK rL:Array Value} (aJ:P.underlying t=some (.array n e)) (aw:cv P e=some z) {b:Bool}
  (hk:∀ f:Nat->Option Bool × Unit->Sem (ForInStep (Option Bool × Unit)),
   (∀ (i:Nat) (h3 ep:Value) (b:Bool) (r:Option Bool × Unit),(part e rK (i*z)).run P w=.ok h3 w->(part e rL (i*z)).run P w=.ok ep w->(Op.equalIn d e h3 ep).run P w=.ok b w->(f i r).run P w=.ok (if b then .yield (none,()) else .done (some false,())) w)->
   (forIn (List.range' 0 n) (none,()) f).run P w=.ok (if b then (none,()) else (some false,())) w) :
  (Op.equalIn (d+1) t (.agg rK) (.agg rL)).run P w=.ok b w:=by
 simp only[Op.equalIn,Sem.run_bind,cu aJ,Result.andThen_ok,fm aw];rw[Std.Legacy.Range.forIn_eq_forIn_range'];have ax:List.range' ([:n] :Std.Legacy.Range).start ([:n] :Std.Legacy.Range).size ([:n] :Std.Legacy.Range).step=List.range' 0 n:=by simp[Std.Legacy.Range.size]
 rw[ax,hk]
 ·cases b<;>simp
 ·intro i h3 ep b r h1 ad aj;cases b<;>simp[h1,ad,aj]
theorem I8:∀ (d:Nat) (t:TypeId) (x y:U) (b:Bool) (bE fN:Value),ez P d t x y=some b->aO w R h μ x bE->aO w R h μ y fN->
  (Op.equalIn d t bE fN).run P w=.ok b w:=by
 intro d
 induction d with
 | zero=>intro t x y b bE fN ao; simp[ez] at ao
 | succ d aH=>
  intro t x y b bE fN ao af az;unfold ez at ao;split at ao
  ·rename_i a bi aJ;simp only[Option.some.injEq] at ao; subst ao;cases af; cases az;exact abB aJ
  ·rename_i i4 k a k' bi aJ;split at ao
   ·rename_i hk; subst hk;simp only[Option.some.injEq] at ao; subst ao;cases af; cases az;exact abC aJ
   ·cases ao
  ·rename_i a bi aJ;simp only[Option.some.injEq] at ao; subst ao;cases af; cases az;exact abD aJ
  ·rename_i fs xs a6 aJ;split at ao
   ·cases ao
   ·rename_i cw;obtain⟨rK,rfl,sy⟩:=u6 af;obtain⟨rL,rfl,sA⟩:=u6 az;have Gf:P.stoodInHeld t=false:=by simpa using cw
    have qX:P.fieldsOf t=fs:=by simp[Program.fieldsOf,aJ]
    rw[run_equalIn_struct w d t rK rL (by rw[qX]; exact aJ) Gf,qX];exact I7 aH sy sA _ _ ao
  ·rename_i n e xs a6 aJ;cases aw:cv P e with
   | none=>rw[aw] at ao; cases ao
   | some z=>
    rw[aw] at ao;simp only at ao;obtain⟨rK,rfl,sy⟩:=u6 af;obtain⟨rL,rfl,sA⟩:=u6 az;exact run_equalIn_array aJ aw (fun f aD=>RE aH sy sA f aD n 0 b ao)
  ·rename_i e aJ;simp only[Option.some.injEq] at ao; subst ao;cases af; cases az;exact Ja aJ
  ·rename_i e z bi off len cap sz aJ;simp only[Option.some.injEq] at ao; subst ao;cases af; cases az<;>exact Ja aJ
  ·rename_i e z es aJ;simp only[Option.some.injEq] at ao; subst ao;cases af; cases az<;>exact Ja aJ
  ·rename_i e z bi off len cap sz aJ;simp only[Option.some.injEq] at ao; subst ao;cases az; cases af<;>exact RH aJ
  ·rename_i e z es aJ;simp only[Option.some.injEq] at ao; subst ao;cases az; cases af<;>exact RH aJ
  ·cases ao
end

end Go.b2

/-
  The canonical machine, part E: slices: what they hold, append, slicing, copy, make, len.
-/
import Derived.Test.YtboebmmklamaeaaGreatDoorWa
import Derived.Lib.IndexBytes
import Derived.Laws.BytesString
import Derived.Lib.ConvBytes
set_option linter.unusedVariables false
set_option linter.unusedSimpArgs false
set_option linter.unnecessarySimpa false
namespace Go.cj
open Go
section
variable {P:Program} {w:World} {R:Nat->Prop} {B:Nat} {h:aR} {μ:cD}
theorem lo {α:Type} {z:Nat}:∀ {es:List (List α)},(∀ e,e∈es->e.length=z)->es.flatten.length=es.length*z
 | [],_=>by simp
 | e::es,aC=>by
  rw[List.flatten_cons,List.length_append,aC e (by simp),lo (fun e aw=>aC e (by simp[aw])),List.length_cons,Nat.succ_mul,Nat.add_comm]
theorem SM {α:Type} {z:Nat}:∀ {es:List (List α)} {j:Nat} {c:α},(∀ e,e∈es->e.length=z)->es.flatten[j]? = some c->
  ∃ i k e,j=i*z+k/\k<z/\es[i]? = some e/\e[k]? = some c
 | [],_,_,_,am=>by simp at am
 | e::es,j,c,aC,am=>by
  have aw:=aC e (by simp);rw[List.flatten_cons] at am;by_cases aS:j<e.length
  ·rw[List.getElem?_append_left aS] at am;exact⟨0,j,e,by simp,by omega,rfl,am⟩
  ·rw[List.getElem?_append_right (by omega)] at am;obtain⟨i,k,eG,h1,ag,aq,aK⟩:=SM (fun e aw=>aC e (by simp[aw])) am;exact⟨i+1,k,eG,by rw[Nat.succ_mul]; omega,ag,by simpa using aq,aK⟩
def rg (w:World) (R:Nat->Prop) (h:aR) (μ:cD) (xs:List ae) (vs:List Value) :Prop:=
 vs.length=xs.length/\∀ (j:Nat) (c:ae),xs[j]? = some c->∃ v:Value,vs[j]? = some v/\v.oneCell'=true/\aU w R h μ c v
theorem Nb {w2:World} {xs:List ae} {blk o:Nat} (kO:∀ a,w2.cell? a=w.cell? a)
  (ak:∀ (j:Nat) (c:ae),xs[j]? = some c->∃ v:Value,w.cell? ⟨blk,o+j,none⟩=some v/\v.oneCell'=true/\aU w R h μ c v) :
  ∃ vs:List Value,rg w R h μ xs vs/\∀ k,k<=xs.length->∀ w2:World,(∀ a,w2.cell? a=w.cell? a)->(loadCells ⟨blk,o,none⟩ k).run P w2=.ok (vs.take k).toArray w2:=by
 have ax:∃ f:Nat->Value,∀ (j:Nat) (c:ae),xs[j]? = some c->w.cell? ⟨blk,o+j,none⟩=some (f j)/\(f j).oneCell'=true/\aU w R h μ c (f j) :=by
  refine⟨fun j=>(w.cell? ⟨blk,o+j,none⟩).getD undef,fun j c am=>?_⟩;obtain⟨v,h1,ag,aq⟩:=ak j c am;simp only[h1,Option.getD_some];exact⟨trivial,ag,aq⟩
 obtain⟨f,aJ⟩:=ax;refine⟨(List.range xs.length).map f,⟨by simp,fun j c am=>?_⟩,fun k aF w2 jy=>?_⟩
 ·have aS:j<xs.length:=(List.getElem?_eq_some_iff.1 am).1;exact⟨f j,by simp[aS],(aJ j c am).2⟩
 ·have:=run_loadCells_list (P:=P) w2 ⟨blk,o,none⟩ (((List.range xs.length).map f).take k) (fun j v am=>by
   have hS:j<k:=by
    rcases Nat.lt_or_ge j k with h1 | h1
    ·exact h1
    ·rw[List.getElem?_eq_none (by simp; omega)] at am; cases am
   rw[List.getElem?_take_of_lt hS,List.getElem?_map] at am;have kP:j<xs.length:=by omega
   rw[List.getElem?_range kP] at am;simp only[Option.map_some,Option.some.injEq] at am;rw[Addr.kH,<-am,jy];exact (aJ j _ (List.getElem?_eq_getElem kP)).1)
  have ar:(((List.range xs.length).map f).take k).length=k:=by simp; omega
  rw[ar] at this;exact this
theorem s1 (rel:b6 R B w h μ) {z n:Nat} {x:ae} {bG:Value} {xs:List ae} (al:contents h z x=some (xs,n)) (ak:aU w R h μ x bG) :
  xs.length=n*z/\(Builtin.lenOf bG).run P w=.ok n w/\∃ vs:List Value,rg w R h μ xs vs ∧
   ∀ k,k<=n->∀ w2:World,(∀ a,w2.cell? a=w.cell? a)->(Builtin.firstCells z k bG).run P w2=.ok (vs.take (k*z)).toArray w2:=by
 cases ak with
 | aZ=>
  simp only[contents,Option.some.injEq,Prod.mk.injEq] at al;obtain⟨rfl,rfl⟩:=al;exact⟨by simp,by simp[Builtin.lenOf],[],⟨rfl,fun j c am=>by simp at am⟩,fun k _ w2 _=>by simp[Builtin.firstCells]⟩
 | str bs=>
  simp only[contents] at al;split at al
  ·rename_i aC; subst aC;simp only[Option.some.injEq,Prod.mk.injEq] at al;obtain⟨rfl,rfl⟩:=al;refine⟨by simp,by simp[Builtin.lenOf],bs.data.toList.map fun b=>.int .u8 b.toNat,⟨by simp,fun j c am=>?_⟩,fun k aF w2 _=>?_⟩
   ·rw[List.getElem?_map] at am ⊢;cases aj:bs.data.toList[j]? with
    | none=>rw[aj] at am; cases am
    | some b=>
     rw[aj] at am;simp only[Option.map_some,Option.some.injEq] at am;subst am;exact⟨_,rfl,rfl,.int _ _⟩
   ·have ak:(bs.extract 0 k).data.toList=bs.data.toList.take k:=by
     simp[ByteArray.extract,ByteArray.copySlice]
    have aP:(bs.extract 0 k).data=(bs.data.toList.take k).toArray:=by rw[<-ak]
    simp only[Builtin.firstCells,aP];simp
  ·cases al
 | bW c9 es blk off cap dI ar aC kO ax=>
  simp only[contents] at al;split at al
  ·rename_i r2; subst r2;simp only[Option.some.injEq,Prod.mk.injEq] at al;obtain⟨rfl,rfl⟩:=al;have bw:=lo aC;have cA:∀ (j:Nat) (c:ae),es.flatten[j]? = some c->∃ v:Value,w.cell? ⟨blk,off+j,none⟩=some v/\v.oneCell'=true/\aU w R h μ c v:=by
    intro j c am;obtain⟨i,k,e,rfl,aF,aw,ahQ⟩:=SM aC am;have aA:i<es.length:=(List.getElem?_eq_some_iff.1 aw).1;have c7:=kO i k aA aF;exact⟨dI i k,c7.here,c7.one,ax i e aw k c ahQ⟩
   obtain⟨vs,h1,ag⟩:=Nb (P:=P) (w2:=w) (fun _=>rfl) cA;refine⟨bw,by simp[Builtin.lenOf],vs,h1,fun k aF w2 jy=>?_⟩;have:=ag (k*z) (by rw[bw]; exact Nat.mul_le_mul_right _ aF) w2 jy;simp[Builtin.firstCells,this]
  ·cases al
 | e1 c9 a cap=>
  simp only[contents] at al;split at al
  ·simp only[Option.some.injEq,Prod.mk.injEq] at al;obtain⟨rfl,rfl⟩:=al;exact⟨by simp,by simp[Builtin.lenOf],[],⟨rfl,fun j c am=>by simp at am⟩,fun k aF w2 _=>by
    obtain rfl:k=0:=by simpa using aF
    simp[Builtin.firstCells,loadCells,loadCellsFrom]⟩
  ·cases al
 | ao c9 b off len cap sz cap' cs m aj hm ar az cX=>
  simp only[contents,aj,true_and] at al;split at al
  ·rename_i r2; subst r2;simp only[Option.some.injEq,Prod.mk.injEq] at al;obtain⟨rfl,rfl⟩:=al;have dY:=rel.blk b m hm;rw[aj] at dY;obtain⟨h1,ag,arr,t,fh,aq,aK,bg,bL⟩:=dY;have rQ:len*z<=cap*z:=Nat.mul_le_mul_right _ ar;have bw:((cs.drop off).take (len*z)).length=len*z:=by
    rw[List.length_take,List.length_drop]; omega
   have cA:∀ (j:Nat) (c:ae),((cs.drop off).take (len*z))[j]? = some c->∃ v:Value,w.cell? ⟨m.r,(m.s+off)+j,none⟩=some v/\v.oneCell'=true/\aU w R h μ c v:=by
    intro j c am;have aS:j<len*z:=by
     have:=(List.getElem?_eq_some_iff.1 am).1;rw[bw] at this; exact this
    rw[List.getElem?_take_of_lt aS,List.getElem?_drop] at am;obtain⟨v,bt,bE,a3⟩:=bL _ c am;exact⟨v,by simp[World.cell?,aq,Nat.add_assoc,bt],bE,a3⟩
   obtain⟨vs,cc,ch⟩:=Nb (P:=P) (w2:=w) (fun _=>rfl) cA;refine⟨bw,by simp[Builtin.lenOf],vs,cc,fun k aF w2 jy=>?_⟩;have:=ch (k*z) (by rw[bw]; exact Nat.mul_le_mul_right _ aF) w2 jy;simp[Builtin.firstCells,this]
  ·cases al
 | gR c9 b off sz a cs m aj hm=>
  simp only[contents,aj,true_and] at al;split at al
  ·rename_i r2; subst r2;simp only[Option.some.injEq,Prod.mk.injEq,Nat.zero_mul,List.take_zero] at al;obtain⟨rfl,rfl⟩:=al;exact⟨by simp,by simp[Builtin.lenOf],[],⟨rfl,fun j c am=>by simp at am⟩,fun k aF w2 _=>by
    obtain rfl:k=0:=by simpa using aF
    simp[Builtin.firstCells,loadCells,loadCellsFrom]⟩
  ·cases al
 | fE c9 b off len cap sz cap' a ar TM ay=>
  unfold contents at al;rcases ay with ay | ⟨f3,cs',ay,aS⟩
  ·simp[ay] at al
  ·simp only[ay] at al;split at al
   ·omega
   ·cases al
 | _=>simp[contents] at al
theorem yP {t e:TypeId} (aw:hl P t=some e) :P.underlying t=some (.slice e) :=by
 unfold hl at aw;split at aw
 ·rename_i eG aL; cases aw; exact aL
 ·cases aw
def xB (P:Program) (u:TypeId) :Prop:=∃ d,P.underlying u=some d/\∀ k,d≠.int k
theorem Vo (d:TypeDesc) (aF:∀ k,d≠.int k) :(match d with | .int _=>true | _=>false)=false:=by
 cases d with
 | int k=>exact absurd rfl (aF k)
 | _=>rfl
theorem run_append_fits {t u ty e:TypeId} {z n sLen fQ:Nat} {base:Option Addr} {bG:Value} {vs:List Value} {w' : World} (aw:P.underlying t=some (.slice e)) (aC:cr P e=some z) (aL:xB P u)
  (ar:(Builtin.lenOf bG).run P w=.ok n w) (aJ:(Builtin.firstCells z n bG).run P w=.ok vs.toArray w) (dF:sLen+n<=fQ)
  (cI:match base with | some a=>(storeCells (a.add (sLen*z)) vs).run P w=.ok () w' | none=>w'=w) :
  (Builtin.append_ #[t,u] ty #[.slice base sLen fQ,bG]).run P w=.ok (.slice base (sLen+n) fQ) w':=by
 obtain⟨d,bD,aF⟩:=aL;have Ci:=Vo d aF;cases base with
 | none=>
  subst cI;simp[Builtin.append_,cq aw,e5 aC,cq bD,Ci,ar,dF,aJ]
 | some a=>
  simp only at cI;simp[Builtin.append_,cq aw,e5 aC,cq bD,Ci,ar,dF,aJ,cI]
theorem an4 {t u ty e:TypeId} {i:TypeInfo} {zv:Value} {n sLen fQ:Nat} {base:Option Addr} {bG:Value} {eZ vs:List Value} (aw:P.underlying t=some (.slice e)) (aA:P.info? e=some i) (j0:i.zero=some zv) (aL:xB P u)
  (ar:(Builtin.lenOf bG).run P w=.ok n w) (aJ:(Builtin.firstCells i.size n bG).run P w.drew=.ok vs.toArray w.drew) (az:(Builtin.firstCells i.size sLen (.slice base sLen fQ)).run P w.drew=.ok eZ.toArray w.drew)
  (nR:fQ<sLen+n) (dk:(sLen+n)*i.bytes<=cQ) (aj:0<i.bytes) :
  (Builtin.append_ #[t,u] ty #[.slice base sLen fQ,bG]).run P w =
   .ok (.slice (some ⟨w.heap.size,0,none⟩) (sLen+n) (grownCap w (sLen+n) fQ e)) (w.drew.alloc (.cells ((eZ++vs).toArray++Builtin.zeroCells zv.cells (grownCap w (sLen+n) fQ e - (sLen+n))) e)) :=by
 obtain⟨d,bD,aF⟩:=aL;have Ci:=Vo d aF;have aC:cr P e=some i.size:=by simp[cr,aA]
 have aH:¬ (sLen+n<=fQ) :=by omega
 have ta:¬ (281474976710656<Builtin.nextslicecap (sLen+n) fQ*i.bytes) :=by
  have:=growslice_fits nR dk;omega
 have kn:¬ (i.bytes=0) :=by omega
 simp[Builtin.append_,cq aw,e5 aC,cq bD,Ci,ar,aH,typeInfo,aA,ta,kn,Question.forced,az,aJ,zeroValue,j0,newRow,grownCap];rw[<-Array.append_assoc,List.append_toArray eZ vs]
theorem di.drew {h' : aR} {μ' : cD} {w' : World} (e:di w h μ w' h' μ') :di w h μ w' h' μ':=e
theorem aoq {s:ae} {af:Value} (au:aU w R h μ s af) (aF:s=.aZ\/(∃ z es,s=.bW z es)\/∃ z b off len cap sz,s=.ao z b off len cap sz) :
  ∃ base sLen fQ,af=.slice base sLen fQ/\sLen<=fQ:=by
 cases au<;>simp at aF
 ·exact⟨_,_,_,rfl,Nat.le_refl _⟩
 ·rename_i ar az c7;exact⟨_,_,_,rfl,by omega⟩
 ·rename_i ar TM ay;exact⟨_,_,_,rfl,by omega⟩
 ·exact⟨_,_,_,rfl,Nat.le_refl _⟩
 ·rename_i ar aC al ax;exact⟨_,_,_,rfl,by omega⟩
 ·exact⟨_,_,_,rfl,Nat.zero_le _⟩
theorem acK {e:TypeId} {z:Nat} (aC:q6 P e=some z) :∃ i v,P.info? e=some i/\i.zero=some v/\v.cells.size=z:=by
 unfold q6 at aC;cases aA:P.info? e with
 | none=>rw[aA] at aC; cases aC
 | some i=>
  rw[aA] at aC;simp only[Option.bind_some] at aC;cases ax:i.zero with
  | none=>rw[ax] at aC; cases aC
  | some v=>rw[ax] at aC; exact⟨i,v,rfl,ax,by simpa using aC⟩
theorem yZ {e:TypeId} {zv:Value} {z need cap:Nat} {xs:List ae} {vs:List Value} (aC:zv.cells.size=z) (ar:xs.length=need*z) (kX:rg w R h μ xs vs) (cX:need<=cap) :
  (vs.toArray++Builtin.zeroCells zv.cells (cap - need)).size=cap*z ∧
  ∀ (j:Nat) (c:ae),xs[j]? = some c->∃ v:Value,(vs.toArray++Builtin.zeroCells zv.cells (cap - need))[j]? = some v/\v.oneCell'=true/\aU w R h μ c v:=by
 refine⟨?_,fun j c am=>?_⟩
 ·have h1:(Builtin.zeroCells zv.cells (cap - need)).size=(cap - need)*z:=by simp[Builtin.zeroCells,aC]
  have ag:need*z+(cap - need)*z=cap*z:=by rw[<-Nat.add_mul]; congr 1; omega
  rw[Array.size_append,h1,List.size_toArray,kX.1,ar,ag]
 ·obtain⟨v,h1,ag,aq⟩:=kX.2 j c am;have aS:j<vs.length:=(List.getElem?_eq_some_iff.1 h1).1;refine⟨v,?_,ag,aq⟩;rw[Array.getElem?_append_left (by simpa using aS)];simpa using h1
theorem Oy (rel:b6 R B w h μ) {t u ty e:TypeId} {z by_ n:Nat} {s c:ae} {af bG:Value} {h' : aR} {xs:List ae} {vs:List Value} (aC:cr P e=some z) (dE:iT P e=some by_)
  (aI:sL P h e z by_ s xs n=some (c,h')) (au:aU w R h μ s af) (bJ:xs.length=n*z) (cA:rg w R h μ xs vs)
  (Cn:∀ (base:Option Addr) (sLen fQ:Nat) (w' : World),sLen+n<=fQ->(match base with | some a=>(storeCells (a.add (sLen*z)) vs).run P w=.ok () w' | none=>w'=w)->
   (Builtin.append_ #[t,u] ty #[.slice base sLen fQ,bG]).run P w=.ok (.slice base (sLen+n) fQ) w')
  (zh:∀ (i:TypeInfo) (zv:Value),P.info? e=some i->i.zero=some zv->∀ (base:Option Addr) (sLen fQ:Nat) (eZ:List Value),(Builtin.firstCells i.size sLen (.slice base sLen fQ)).run P w.drew=.ok eZ.toArray w.drew->
   fQ<sLen+n->(sLen+n)*i.bytes<=cQ->0<i.bytes->(Builtin.append_ #[t,u] ty #[.slice base sLen fQ,bG]).run P w =
   .ok (.slice (some ⟨w.heap.size,0,none⟩) (sLen+n) (grownCap w (sLen+n) fQ e)) (w.drew.alloc (.cells ((eZ++vs).toArray++Builtin.zeroCells zv.cells (grownCap w (sLen+n) fQ e - (sLen+n))) e))) :
  ∃ v w' μ',(Builtin.append_ #[t,u] ty #[af,bG]).run P w=.ok v w'/\di w h μ w' h' μ'/\b6 R B w' h' μ'/\aU w' R h' μ' c v:=by
 unfold sL at aI;by_cases aH:n=0
 ·-- nothing is appended
  subst aH;simp only[if_true] at aI;have cH:(c,h')=(s,h) :=by
   split at aI<;>first | (simp only[Option.some.injEq] at aI; exact aI.symm) | cases aI
  have aF:s=.aZ\/(∃ z es,s=.bW z es)\/∃ z b off len cap sz,s=.ao z b off len cap sz:=by
   split at aI
   ·exact .inl rfl
   ·exact .inr (.inl ⟨_,_,rfl⟩)
   ·exact .inr (.inr ⟨_,_,_,_,_,_,rfl⟩)
   ·cases aI
  simp only[Prod.mk.injEq] at cH;obtain⟨rfl,rfl⟩:=cH;obtain⟨base,sLen,fQ,rfl,dO⟩:=aoq au aF;have hz:vs=[] :=by
   have:vs.length=0:=by rw[cA.1,bJ]; simp
   exact List.length_eq_zero_iff.1 this
  subst hz;have:=Cn base sLen fQ w (by omega) (by cases base<;>simp[storeCells]);exact⟨_,w,μ,this,.refl _ _ _,rel,by simpa using au⟩
 ·rw[if_neg aH] at aI;split at aI
  ·cases aI
  ·rename_i ic;simp only[not_or,Decidable.not_not] at ic;obtain⟨qv,jv,gN⟩:=ic;obtain⟨i,zv,aA,j0,ih⟩:=acK gN;have n3:i.size=z:=by simpa [cr,aA] using aC
   have kn:i.bytes=by_:=by simpa [iT,aA] using dE
   have ajG:0<z:=Nat.pos_of_ne_zero qv;have Ii:∀ a,w.drew.cell? a=w.cell? a:=fun _=>rfl
   split at aI
   ·-- append to nil
    split at aI
    ·rename_i dk;simp only[Option.some.injEq,Prod.mk.injEq] at aI;obtain⟨rfl,rfl⟩:=aI;cases au;have ay:=zh i zv aA j0 none 0 0 [] (by simp[Builtin.firstCells]) (by omega) (by rw[kn]; simpa using dk) (by omega);have cX:n<=grownCap w (0+n) 0 e:=by have:=grownCap_ge w (0+n) 0 e; omega
     obtain⟨jE,kV⟩:=yZ (e:=e) (zv:=zv) (need:=n) (cap:=grownCap w (0+n) 0 e) ih (by rw[bJ]) cA cX;have aG:=rel.push (w':=w.drew.alloc (.cells (vs.toArray++Builtin.zeroCells zv.cells (grownCap w (0+n) 0 e - n)) e)) xs _ e rfl rfl rfl rfl (by rw[jE,bJ]; exact Nat.mul_le_mul_right _ cX) kV;rw[bJ] at aG;refine⟨_,_,_,by simpa using ay,by simpa using aG.1,by simpa using aG.2,?_⟩;have:=aU.ao (w:=w.drew.alloc (.cells (vs.toArray++Builtin.zeroCells zv.cells (grownCap w (0+n) 0 e - n)) e)) (R:=R) (h:=h.push (.cells (n*z) xs)) (μ:=bM μ h.n (some ⟨w.heap.size,0,(vs.toArray++Builtin.zeroCells zv.cells (grownCap w (0+n) 0 e - n)).size⟩))
      z h.n 0 n n (n*z) (grownCap w (0+n) 0 e) xs ⟨w.heap.size,0,(vs.toArray++Builtin.zeroCells zv.cells (grownCap w (0+n) 0 e - n)).size⟩ (by simp[dH,eK]) (by simp) (Nat.le_refl _) (by omega) (.inr ⟨by omega,cX,by simp only; rw[jE]; omega⟩)
     simpa using this
    ·cases aI
   ·rename_i c9 b off len cap sz;cases aj:h.f b with
    | cells m cs=>
     rw[aj] at aI;simp only at aI;split at aI
     ·rename_i zc;obtain⟨rfl,rfl,dk⟩:=zc;cases au with
      | fE _ _ _ _ _ _ cap' a ar TM ay=>
       exfalso;rcases ay with ay | ⟨f3,cs',ay,aS⟩
       ·rw[ay] at aj; cases aj
       ·rw[ay] at aj; cases aj; omega
      | gR _ _ _ _ a cs' cf bK hm=>
       rw[aj] at bK; cases bK;have mI:=rel.pT hm;rw[if_neg (by omega),Nat.zero_mul,List.take_zero,List.take_zero,List.nil_append,Nat.zero_add] at aI;have ay:=zh i zv aA j0 (some a) 0 0 [] (by simp[Builtin.firstCells,loadCells,loadCellsFrom]) (by omega) (by rw[kn]; exact dk) (by omega);rw[Nat.zero_add] at ay;have cX:n<=grownCap w n 0 e:=grownCap_ge _ _ _ _;obtain⟨jE,kV⟩:=yZ (e:=e) (zv:=zv) (need:=n) (cap:=grownCap w n 0 e) ih (by rw[bJ]) cA cX;split at aI
       ·simp only[Option.some.injEq,Prod.mk.injEq] at aI;obtain⟨rfl,rfl⟩:=aI;have aG:=rel.push (w':=w.drew.alloc (.cells (vs.toArray++Builtin.zeroCells zv.cells (grownCap w n 0 e - n)) e)) xs _ e rfl rfl rfl rfl (by rw[jE,bJ]; exact Nat.mul_le_mul_right _ cX) kV;rw[bJ] at aG;refine⟨_,_,_,by simpa using ay,by simpa using aG.1,by simpa using aG.2,?_⟩;have:=aU.ao (w:=w.drew.alloc (.cells (vs.toArray++Builtin.zeroCells zv.cells (grownCap w n 0 e - n)) e)) (R:=R) (h:=h.push (.cells (n*z) xs)) (μ:=bM μ h.n (some ⟨w.heap.size,0,(vs.toArray++Builtin.zeroCells zv.cells (grownCap w n 0 e - n)).size⟩))
         z h.n 0 n n (n*z) (grownCap w n 0 e) xs ⟨w.heap.size,0,(vs.toArray++Builtin.zeroCells zv.cells (grownCap w n 0 e - n)).size⟩ (by simp[dH,eK]) (by simp) (Nat.le_refl _) (by omega) (.inr ⟨by omega,cX,by simp only; rw[jE]; omega⟩)
        simpa using this
       ·rename_i ze;split at aI
        ·rename_i w4;subst w4;simp only[Option.some.injEq,Prod.mk.injEq] at aI;obtain⟨rfl,rfl⟩:=aI;have rL:m<n*z:=by
          have:1*1<=n*z:=Nat.mul_le_mul (by omega) ajG;omega
         have aG:=rel.move (w':=w.drew.alloc (.cells (vs.toArray++Builtin.zeroCells zv.cells (grownCap w n 0 e - n)) e)) aj hm rfl rfl rfl rfl bJ rL (by rw[jE]; exact Nat.mul_le_mul_right _ cX) kV;refine⟨_,_,_,by simpa using ay,by simpa using aG.1,by simpa using aG.2,?_⟩;have:=aU.ao (w:=w.drew.alloc (.cells (vs.toArray++Builtin.zeroCells zv.cells (grownCap w n 0 e - n)) e)) (R:=R) (h:=h.set b (.cells (n*z) xs)) (μ:=bM μ b (some ⟨w.heap.size,0,(vs.toArray++Builtin.zeroCells zv.cells (grownCap w n 0 e - n)).size⟩))
          z b 0 n n (n*z) (grownCap w n 0 e) xs ⟨w.heap.size,0,(vs.toArray++Builtin.zeroCells zv.cells (grownCap w n 0 e - n)).size⟩ (by simp[dn,ef]) (by simp) (Nat.le_refl _) (by omega) (.inr ⟨by omega,cX,by simp only; rw[jE]; omega⟩)
         simpa using this
        ·simp only[Option.some.injEq,Prod.mk.injEq] at aI;obtain⟨rfl,rfl⟩:=aI;have aG:=rel.push (w':=w.drew.alloc (.cells (vs.toArray++Builtin.zeroCells zv.cells (grownCap w n 0 e - n)) e)) xs _ e rfl rfl rfl rfl (by rw[jE,bJ]; exact Nat.mul_le_mul_right _ cX) kV;rw[bJ] at aG;have aF:=aG.2.kill (b:=b) (sz:=m) (cs:=cs) (h':=(h.set b .dead).push (.cells (n*z) xs)) (by rw[dH,ca _ _ _ _ (by omega)]; exact aj) (by rw[eK]; omega) (by
          rw[dH,dH,dn,ef];funext x;simp only[bM];by_cases h1:x=h.n
          ·rw[if_pos h1,if_neg (by omega),if_pos h1]
          ·rw[if_neg h1];split<;>rfl) rfl
         refine⟨_,_,_,by simpa using ay,by simpa using aG.1.trans aF.1,by simpa using aF.2,?_⟩;have:=aU.ao (w:=w.drew.alloc (.cells (vs.toArray++Builtin.zeroCells zv.cells (grownCap w n 0 e - n)) e)) (R:=R) (h:=(h.set b .dead).push (.cells (n*z) xs)) (μ:=bM μ h.n (some ⟨w.heap.size,0,(vs.toArray++Builtin.zeroCells zv.cells (grownCap w n 0 e - n)).size⟩))
          z h.n 0 n n (n*z) (grownCap w n 0 e) xs ⟨w.heap.size,0,(vs.toArray++Builtin.zeroCells zv.cells (grownCap w n 0 e - n)).size⟩ (by rw[dH,ef,iy]) (by simp) (Nat.le_refl _) (by omega) (.inr ⟨by omega,cX,by simp only; rw[jE]; omega⟩)
         simpa using this
      | ao _ _ _ _ _ _ cap' cs' cf bK hm ar az c7=>
       have dY:=rel.blk b cf hm;rw[aj] at dY;obtain⟨TN,eu,_⟩:=dY;rw[aj] at bK; cases bK;have rQ:len*z<=cap*z:=Nat.mul_le_mul_right _ ar;have TK:cap<=cap':=by rcases c7 with c7 | c7<;>omega
       split at aI
       ·-- in place,within what the machine knows
        rename_i dF;simp only[Option.some.injEq,Prod.mk.injEq] at aI;obtain⟨rfl,rfl⟩:=aI;have UB:len*z+n*z<=cap*z:=by rw[<-Nat.add_mul]; exact Nat.mul_le_mul_right _ dF
        have kR:max m (off+len*z+xs.length)=m:=by omega
        obtain⟨w',h1,ag,aq⟩:=vW (P:=P) rel (cvs:=xs) (vs:=vs) (k:=off+len*z) aj hm (by omega) cA.1 (by omega) cA.2;rw[kR] at ag aq;have cI:(storeCells ((⟨cf.r,cf.s+off,none⟩:Addr).add (len*z)) vs).run P w=.ok () w':=by rw[Addr.kH,Nat.add_assoc]; exact h1
        refine⟨_,w',μ,Cn (some ⟨cf.r,cf.s+off,none⟩) _ _ _ (by omega) cI,ag,aq,?_⟩;exact .ao z b off (len+n) cap m cap' _ cf (by simp[dn,ef]; rfl) hm dF az c7
       ·rename_i atg;split at aI
        ·-- beyond a slice whose end lies within the row: it moves
         rename_i asX;simp only[Option.some.injEq,Prod.mk.injEq] at aI;obtain⟨rfl,rfl⟩:=aI;have eY:cap'=cap:=by rcases c7 with c7 | c7<;>omega
         subst eY;have ds:contents h z (.ao z b off len cap' m)=some ((cs.drop off).take (len*z),len) :=by simp[contents,aj]
         obtain⟨dQ,_,eZ,g2,zu⟩:=s1 (P:=P) rel ds (aU.ao z b off len cap' m cap' cs cf aj hm ar az c7);have vj:∀ w2:World,(∀ a,w2.cell? a=w.cell? a)->(Builtin.firstCells z len (.slice (some ⟨cf.r,cf.s+off,none⟩) len cap')).run P w2=.ok eZ.toArray w2:=fun w2 lA=>by
          have:=zu len (Nat.le_refl _) w2 lA
          rwa [List.take_of_length_le (by rw[g2.1,dQ]; exact Nat.le_refl _)] at this
         have ay:=zh i zv aA j0 (some ⟨cf.r,cf.s+off,none⟩) len cap' eZ (by rw[n3]; exact vj w.drew Ii) (by omega) (by rw[kn]; exact dk) (by omega);have cX:len+n<=grownCap w (len+n) cap' e:=grownCap_ge _ _ _ _;have y9:rg w R h μ ((cs.drop off).take (len*z)++xs) (eZ++vs) :=by
          refine⟨by simp[g2.1,cA.1],fun j c am=>?_⟩;by_cases aS:j<((cs.drop off).take (len*z)).length
          ·rw[List.getElem?_append_left aS] at am;rw[List.getElem?_append_left (by rw[g2.1]; exact aS)];exact g2.2 j c am
          ·rw[List.getElem?_append_right (by omega)] at am;rw[List.getElem?_append_right (by rw[g2.1]; omega),g2.1];exact cA.2 _ c am
         have fA:((cs.drop off).take (len*z)++xs).length=(len+n)*z:=by rw[List.length_append,dQ,bJ,Nat.add_mul]
         obtain⟨jE,kV⟩:=yZ (e:=e) (zv:=zv) (need:=len+n) (cap:=grownCap w (len+n) cap' e) ih fA y9 cX;have aG:=rel.push (w':=w.drew.alloc (.cells ((eZ++vs).toArray++Builtin.zeroCells zv.cells (grownCap w (len+n) cap' e - (len+n))) e)) _ _ e rfl rfl rfl rfl (by rw[jE,fA]; exact Nat.mul_le_mul_right _ cX) kV;rw[fA] at aG;refine⟨_,_,_,ay,aG.1,aG.2,?_⟩;have:=aU.ao (w:=w.drew.alloc (.cells ((eZ++vs).toArray++Builtin.zeroCells zv.cells (grownCap w (len+n) cap' e - (len+n))) e)) (R:=R) (h:=h.push (.cells ((len+n)*z) ((cs.drop off).take (len*z)++xs))) (μ:=bM μ h.n (some ⟨w.heap.size,0,((eZ++vs).toArray++Builtin.zeroCells zv.cells (grownCap w (len+n) cap' e - (len+n))).size⟩))
          z h.n 0 (len+n) (len+n) ((len+n)*z) (grownCap w (len+n) cap' e) _ ⟨w.heap.size,0,((eZ++vs).toArray++Builtin.zeroCells zv.cells (grownCap w (len+n) cap' e - (len+n))).size⟩ (by simp[dH,eK]; rfl) (by simp) (Nat.le_refl _) (by omega) (.inr ⟨by omega,cX,by simp only; rw[jE]; omega⟩)
         simpa using this
        ·rename_i ze;split at aI
         ·-- beyond the row's end: in place,or it moves
          rename_i w4;subst w4;simp only[Option.some.injEq,Prod.mk.injEq] at aI;obtain⟨rfl,rfl⟩:=aI;obtain⟨ahM,mK,TV⟩:0+cap*z=m/\cap<=cap'/\cf.s+0+cap'*z<=cf.T:=by rcases c7 with c7 | c7<;>omega
          have rL:m<(len+n)*z:=by
           have:(cap+1)*z<=(len+n)*z:=Nat.mul_le_mul_right _ (by omega);rw[Nat.add_mul] at this;omega
          have ajq:len*z+n*z=(len+n)*z:=by rw[Nat.add_mul]
          by_cases dF:len+n<=cap'
          ·have aiH:(len+n)*z<=cap'*z:=Nat.mul_le_mul_right _ dF;have kR:max m (len*z+xs.length)=(len+n)*z:=by omega
           obtain⟨w',h1,ag,aq⟩:=vW (P:=P) rel (cvs:=xs) (vs:=vs) (k:=len*z) aj hm (by omega) cA.1 (by omega) cA.2;rw[kR] at ag aq;have vp:bU cs (len*z) xs=cs.take (len*z)++xs:=by
            unfold bU;rw[List.drop_eq_nil_of_le (by omega),List.append_nil]
           rw[vp] at ag aq;have cI:(storeCells ((⟨cf.r,cf.s+0,none⟩:Addr).add (len*z)) vs).run P w=.ok () w':=by rw[Addr.kH,Nat.add_assoc]; simpa using h1
           refine⟨_,w',μ,Cn (some ⟨cf.r,cf.s+0,none⟩) _ _ _ dF cI,ag,aq,?_⟩;exact .ao z b 0 (len+n) (len+n) ((len+n)*z) cap' _ cf (by simp[dn,ef]; rfl) hm (Nat.le_refl _) (by omega) (.inr ⟨by omega,dF,TV⟩)
          ·have ds:contents h z (.ao z b 0 len cap m)=some ((cs.drop 0).take (len*z),len) :=by simp[contents,aj]
           obtain⟨dQ,_,eZ,g2,zu⟩:=s1 (P:=P) rel ds (aU.ao z b 0 len cap m cap' cs cf aj hm ar az c7);have vj:∀ w2:World,(∀ a,w2.cell? a=w.cell? a)->(Builtin.firstCells z len (.slice (some ⟨cf.r,cf.s+0,none⟩) len cap')).run P w2=.ok eZ.toArray w2:=fun w2 lA=>by
            have:=zu len (Nat.le_refl _) w2 lA
            rwa [List.take_of_length_le (by rw[g2.1,dQ]; exact Nat.le_refl _)] at this
           rw[List.drop_zero] at dQ g2;have ay:=zh i zv aA j0 (some ⟨cf.r,cf.s+0,none⟩) len cap' eZ (by rw[n3]; exact vj w.drew Ii) (by omega) (by rw[kn]; exact dk) (by omega);have cX:len+n<=grownCap w (len+n) cap' e:=grownCap_ge _ _ _ _;have y9:rg w R h μ (cs.take (len*z)++xs) (eZ++vs) :=by
            refine⟨by simp[g2.1,cA.1],fun j c am=>?_⟩;by_cases aS:j<(cs.take (len*z)).length
            ·rw[List.getElem?_append_left aS] at am;rw[List.getElem?_append_left (by rw[g2.1]; exact aS)];exact g2.2 j c am
            ·rw[List.getElem?_append_right (by omega)] at am;rw[List.getElem?_append_right (by rw[g2.1]; omega),g2.1];exact cA.2 _ c am
           have fA:(cs.take (len*z)++xs).length=(len+n)*z:=by rw[List.length_append,dQ,bJ,Nat.add_mul]
           obtain⟨jE,kV⟩:=yZ (e:=e) (zv:=zv) (need:=len+n) (cap:=grownCap w (len+n) cap' e) ih fA y9 cX;have aG:=rel.move (w':=w.drew.alloc (.cells ((eZ++vs).toArray++Builtin.zeroCells zv.cells (grownCap w (len+n) cap' e - (len+n))) e)) aj hm rfl rfl rfl rfl fA rL (by rw[jE]; exact Nat.mul_le_mul_right _ cX) kV;refine⟨_,_,_,ay,aG.1,aG.2,?_⟩;have:=aU.ao (w:=w.drew.alloc (.cells ((eZ++vs).toArray++Builtin.zeroCells zv.cells (grownCap w (len+n) cap' e - (len+n))) e)) (R:=R) (h:=h.set b (.cells ((len+n)*z) (cs.take (len*z)++xs))) (μ:=bM μ b (some ⟨w.heap.size,0,((eZ++vs).toArray++Builtin.zeroCells zv.cells (grownCap w (len+n) cap' e - (len+n))).size⟩))
            z b 0 (len+n) (len+n) ((len+n)*z) (grownCap w (len+n) cap' e) _ ⟨w.heap.size,0,((eZ++vs).toArray++Builtin.zeroCells zv.cells (grownCap w (len+n) cap' e - (len+n))).size⟩ (by simp[dn,ef]; rfl) (by simp) (Nat.le_refl _) (by omega) (.inr ⟨by omega,cX,by simp only; rw[jE]; omega⟩)
           simpa using this
         ·-- beyond the row's end,from a place within it: a block of its own,in place or moved
          rename_i w4;simp only[Option.some.injEq,Prod.mk.injEq] at aI;obtain⟨rfl,rfl⟩:=aI;obtain⟨ahM,mK,TV⟩:off+cap*z=m/\cap<=cap'/\cf.s+off+cap'*z<=cf.T:=by rcases c7 with c7 | c7<;>omega
          have rL:m<off+(len+n)*z:=by
           have:(cap+1)*z<=(len+n)*z:=Nat.mul_le_mul_right _ (by omega);rw[Nat.add_mul] at this;omega
          have ajq:len*z+n*z=(len+n)*z:=by rw[Nat.add_mul]
          have mI:=rel.pT hm;by_cases dF:len+n<=cap'
          ·have aiH:(len+n)*z<=cap'*z:=Nat.mul_le_mul_right _ dF;have kR:max m (off+len*z+xs.length)=off+(len+n)*z:=by omega
           obtain⟨w',h1,ag,aq⟩:=vW (P:=P) rel (cvs:=xs) (vs:=vs) (k:=off+len*z) aj hm (by omega) cA.1 (by omega) cA.2;rw[kR] at ag aq;have vp:(bU cs (off+len*z) xs).drop off=(cs.drop off).take (len*z)++xs:=by
            unfold bU;rw[List.drop_eq_nil_of_le (as:=cs) (by omega),List.append_nil,List.drop_append_of_le_length (by simp; omega),List.drop_take];congr 2; omega
           have cI:(storeCells ((⟨cf.r,cf.s+off,none⟩:Addr).add (len*z)) vs).run P w=.ok () w':=by rw[Addr.kH,Nat.add_assoc]; exact h1
           have n2:=aq.abf (b:=b) (off:=off) (m:=cf) (h':=(h.set b .dead).push (.cells ((len+n)*z) ((cs.drop off).take (len*z)++xs))) (by rw[dn,iy]) hm (by omega) (by
            rw[dH,dn,dn,ef,ef,vp];have:off+(len+n)*z - off=(len+n)*z:=by omega
            rw[this];funext x;simp only[bM];split
            ·rfl
            ·split<;>rfl) rfl
           refine⟨_,w',_,Cn (some ⟨cf.r,cf.s+off,none⟩) _ _ _ dF cI,ag.trans n2.1,n2.2,?_⟩;exact .ao z h.n 0 (len+n) (len+n) ((len+n)*z) cap' _ ⟨cf.r,cf.s+off,cf.T⟩ (by rw[dH,ef,iy]) (by rw[ef]; simp) (Nat.le_refl _) (by omega) (.inr ⟨by omega,dF,by simpa using (by omega:cf.s+off+cap'*z<=cf.T)⟩)
          ·have ds:contents h z (.ao z b off len cap m)=some ((cs.drop off).take (len*z),len) :=by simp[contents,aj]
           obtain⟨dQ,_,eZ,g2,zu⟩:=s1 (P:=P) rel ds (aU.ao z b off len cap m cap' cs cf aj hm ar az c7);have vj:∀ w2:World,(∀ a,w2.cell? a=w.cell? a)->(Builtin.firstCells z len (.slice (some ⟨cf.r,cf.s+off,none⟩) len cap')).run P w2=.ok eZ.toArray w2:=fun w2 lA=>by
            have:=zu len (Nat.le_refl _) w2 lA
            rwa [List.take_of_length_le (by rw[g2.1,dQ]; exact Nat.le_refl _)] at this
           have ay:=zh i zv aA j0 (some ⟨cf.r,cf.s+off,none⟩) len cap' eZ (by rw[n3]; exact vj w.drew Ii) (by omega) (by rw[kn]; exact dk) (by omega);have cX:len+n<=grownCap w (len+n) cap' e:=grownCap_ge _ _ _ _;have y9:rg w R h μ ((cs.drop off).take (len*z)++xs) (eZ++vs) :=by
            refine⟨by simp[g2.1,cA.1],fun j c am=>?_⟩;by_cases aS:j<((cs.drop off).take (len*z)).length
            ·rw[List.getElem?_append_left aS] at am;rw[List.getElem?_append_left (by rw[g2.1]; exact aS)];exact g2.2 j c am
            ·rw[List.getElem?_append_right (by omega)] at am;rw[List.getElem?_append_right (by rw[g2.1]; omega),g2.1];exact cA.2 _ c am
           have fA:((cs.drop off).take (len*z)++xs).length=(len+n)*z:=by rw[List.length_append,dQ,bJ,Nat.add_mul]
           obtain⟨jE,kV⟩:=yZ (e:=e) (zv:=zv) (need:=len+n) (cap:=grownCap w (len+n) cap' e) ih fA y9 cX;have aG:=rel.push (w':=w.drew.alloc (.cells ((eZ++vs).toArray++Builtin.zeroCells zv.cells (grownCap w (len+n) cap' e - (len+n))) e)) _ _ e rfl rfl rfl rfl (by rw[jE,fA]; exact Nat.mul_le_mul_right _ cX) kV;rw[fA] at aG;have aF:=aG.2.kill (b:=b) (sz:=m) (cs:=cs) (h':=(h.set b .dead).push (.cells ((len+n)*z) ((cs.drop off).take (len*z)++xs))) (by rw[dH,ca _ _ _ _ (by omega)]; exact aj) (by rw[eK]; omega) (by
            rw[dH,dH,dn,ef];funext x;simp only[bM];by_cases h1:x=h.n
            ·rw[if_pos h1,if_neg (by omega),if_pos h1]
            ·rw[if_neg h1];split<;>rfl) rfl
           refine⟨_,_,_,ay,aG.1.trans aF.1,aF.2,?_⟩;have:=aU.ao (w:=w.drew.alloc (.cells ((eZ++vs).toArray++Builtin.zeroCells zv.cells (grownCap w (len+n) cap' e - (len+n))) e)) (R:=R) (h:=(h.set b .dead).push (.cells ((len+n)*z) ((cs.drop off).take (len*z)++xs))) (μ:=bM μ h.n (some ⟨w.heap.size,0,((eZ++vs).toArray++Builtin.zeroCells zv.cells (grownCap w (len+n) cap' e - (len+n))).size⟩))
            z h.n 0 (len+n) (len+n) ((len+n)*z) (grownCap w (len+n) cap' e) _ ⟨w.heap.size,0,((eZ++vs).toArray++Builtin.zeroCells zv.cells (grownCap w (len+n) cap' e - (len+n))).size⟩ (by rw[dH,ef,iy]) (by simp) (Nat.le_refl _) (by omega) (.inr ⟨by omega,cX,by simp only; rw[jE]; omega⟩)
           simpa using this
     ·cases aI
    | _=>rw[aj] at aI; cases aI
   ·cases aI
theorem EA (rel:b6 R B w h μ) {t u ty:TypeId} {s x c:ae} {af bG:Value} {h' : aR} (aL:xB P u) (aI:pR P h t s x=some (c,h')) (au:aU w R h μ s af) (ak:aU w R h μ x bG) :
  ∃ v w' μ',(Builtin.append_ #[t,u] ty #[af,bG]).run P w=.ok v w'/\di w h μ w' h' μ'/\b6 R B w' h' μ'/\aU w' R h' μ' c v:=by
 unfold pR at aI;cases aw:hl P t with
 | none=>rw[aw] at aI; cases aI
 | some e=>
 have i0:=yP aw;rw[aw] at aI;simp only at aI;cases aC:cr P e with
 | none=>rw[aC] at aI; cases aI
 | some z=>
 cases dE:iT P e with
 | none=>rw[aC,dE] at aI; cases aI
 | some by_=>
 rw[aC,dE] at aI;simp only at aI;cases al:contents h z x with
 | none=>rw[al] at aI; cases aI
 | some NW=>
 obtain⟨xs,n⟩:=NW;rw[al] at aI;simp only at aI;obtain⟨bJ,bw,vs,cA,ahW⟩:=s1 (P:=P) rel al ak;have jT:∀ w2:World,(∀ a,w2.cell? a=w.cell? a)->(Builtin.firstCells z n bG).run P w2=.ok vs.toArray w2:=fun w2 lA=>by
  have:=ahW n (Nat.le_refl _) w2 lA
  rwa [List.take_of_length_le (by rw[cA.1,bJ]; exact Nat.le_refl _)] at this
 refine Oy rel aC dE aI au bJ cA (fun base sLen fQ w' dF cI=>run_append_fits i0 aC aL bw (jT w (fun _=>rfl)) dF cI) (fun i zv aA j0 base sLen fQ eZ az ay aD aj=>?_);have n3:i.size=z:=by simpa [cr,aA] using aC
 exact an4 i0 aA j0 aL bw (by rw[n3]; exact jT w.drew (fun _=>rfl)) az ay aD aj
end
section
variable {P:Program} {w:World} {R:Nat->Prop} {B:Nat} {h:aR} {μ:cD}
theorem wh {x:ae} {bG:Value} {y n AR:Nat} {code:BoundsCode} (aj:h8 x y=some n) (ak:aU w R h μ x bG) (aP:y<=AR) :
  n<=y/\(Instr.sliceBound bG AR code).run P w=.ok n w:=by
 unfold h8 at aj;cases ak with
 | int k i=>
  simp only at aj;split at aj
  ·rename_i aA;simp only[Option.some.injEq] at aj;subst aj;refine⟨by omega,?_⟩;have:(0<=i/\i<=(AR:Int)) :=⟨aA.1,by omega⟩
   simp[Instr.sliceBound,asIntOf,this]
  ·cases aj
 | _=>simp at aj
def uz (w:World) (R:Nat->Prop) (h:aR) (μ:cD) :Option ae->Option Value->Prop
 | none,none=>True
 | some c,some v=>aU w R h μ c v
 | _,_=>False
theorem sO {cP aA cB:Option ae} {pk fq tR:Option Value} {isS:Bool} {len cap cap' l m aQ:Nat} (aj:fH len cap cP aA cB=some (l,aQ,m)) (bw:len<=cap) (cX:cap<=cap')
  (h1:uz w R h μ cP pk) (ag:uz w R h μ aA fq) (aq:uz w R h μ cB tR) :
  l<=aQ/\aQ<=m/\m<=cap/\(cB=none->m=cap)/\(Instr.sliceBounds isS len cap' pk fq tR).run P w=.ok (l,aQ,if cB.isSome then m else cap') w:=by
 unfold fH at aj;cases cB with
 | none=>
  cases tR with
  | some v=>exact aq.elim
  | none=>
   simp only at aj;cases aA with
   | none=>
    cases fq with
    | some v=>exact ag.elim
    | none=>
     simp only at aj;cases cP with
     | none=>
      cases pk with
      | some v=>exact h1.elim
      | none=>
       simp only[Option.some.injEq,Prod.mk.injEq] at aj;obtain⟨rfl,rfl,rfl⟩:=aj;exact⟨by omega,bw,Nat.le_refl _,fun _=>rfl,by simp[Instr.sliceBounds]⟩
     | some c=>
      cases pk with
      | none=>exact h1.elim
      | some v=>
       simp only at aj;cases ar:h8 c len with
       | none=>rw[ar] at aj; cases aj
       | some l'=>
        rw[ar] at aj;simp only[Option.some.injEq,Prod.mk.injEq] at aj;obtain⟨rfl,rfl,rfl⟩:=aj;have ak:=wh (P:=P) (code:=.sliceB) ar h1 (Nat.le_refl _);exact⟨ak.1,bw,Nat.le_refl _,fun _=>rfl,by simp[Instr.sliceBounds,ak.2]⟩
   | some Ha=>
    cases fq with
    | none=>exact ag.elim
    | some apD=>
     simp only at aj;cases qf:h8 Ha cap with
     | none=>rw[qf] at aj; cases aj
     | some h'=>
      rw[qf] at aj;simp only at aj;have ak:=wh (P:=P) (code:=if isS then .sliceAcap else .sliceAlen) qf ag cX;cases cP with
      | none=>
       cases pk with
       | some v=>exact h1.elim
       | none=>
        simp only[Option.some.injEq,Prod.mk.injEq] at aj;obtain⟨rfl,rfl,rfl⟩:=aj;exact⟨by omega,ak.1,Nat.le_refl _,fun _=>rfl,by simp[Instr.sliceBounds,ak.2]⟩
      | some c=>
       cases pk with
       | none=>exact h1.elim
       | some v=>
        simp only at aj;cases ar:h8 c h' with
        | none=>rw[ar] at aj; cases aj
        | some l'=>
         rw[ar] at aj;simp only[Option.some.injEq,Prod.mk.injEq] at aj;obtain⟨rfl,rfl,rfl⟩:=aj;have aP:=wh (P:=P) (code:=.sliceB) ar h1 (Nat.le_refl _);exact⟨aP.1,ak.1,Nat.le_refl _,fun _=>rfl,by simp[Instr.sliceBounds,ak.2,aP.2]⟩
 | some afe=>
  cases tR with
  | none=>exact aq.elim
  | some awU=>
   simp only at aj;cases hm:h8 afe cap with
   | none=>rw[hm] at aj; cases aj
   | some ck=>
    rw[hm] at aj;simp only at aj;have ak:=wh (P:=P) (code:=if isS then .slice3Acap else .slice3Alen) hm aq cX;cases aA with
    | none=>cases aj
    | some Ha=>
     cases fq with
     | none=>exact ag.elim
     | some apD=>
      simp only at aj;cases qf:h8 Ha ck with
      | none=>rw[qf] at aj; cases aj
      | some h'=>
       rw[qf] at aj;simp only at aj;have aP:=wh (P:=P) (code:=.slice3B) qf ag (Nat.le_refl _);cases cP with
       | none=>
        cases pk with
        | some v=>exact h1.elim
        | none=>
         simp only[Option.some.injEq,Prod.mk.injEq] at aj;obtain⟨rfl,rfl,rfl⟩:=aj;exact⟨by omega,aP.1,ak.1,(fun aJ=>by cases aJ),by simp[Instr.sliceBounds,ak.2,aP.2]⟩
       | some c=>
        cases pk with
        | none=>exact h1.elim
        | some v=>
         simp only at aj;cases ar:h8 c h' with
         | none=>rw[ar] at aj; cases aj
         | some l'=>
          rw[ar] at aj;simp only[Option.some.injEq,Prod.mk.injEq] at aj;obtain⟨rfl,rfl,rfl⟩:=aj;have aC:=wh (P:=P) (code:=.slice3C) ar h1 (Nat.le_refl _);exact⟨aC.1,aP.1,ak.1,(fun aJ=>by cases aJ),by simp[Instr.sliceBounds,ak.2,aP.2,aC.2]⟩
theorem sV {z:Nat}:∀ (n:Nat) (cs:List ae),(kf z n cs).length=n
 | 0,_=>rfl
 | n+1,cs=>by simp[kf,sV n]
theorem Bl {z:Nat}:∀ (n:Nat) (cs:List ae) (i:Nat),i<n->(kf z n cs)[i]? = some ((cs.drop (i*z)).take z)
 | 0,_,_,h=>by omega
 | n+1,cs,0,_=>by simp[kf]
 | n+1,cs,i+1,h=>by
  simp only[kf,List.getElem?_cons_succ];rw[Bl n _ i (by omega),List.drop_drop];congr 3;rw[Nat.succ_mul]; omega
theorem abB (rel:b6 R B w h μ) {z b off cap sz l aQ m ck cap' : Nat} {cs:List ae} {cf:M} {hasMax:Bool} (aj:h.f b=.cells sz cs) (hm:μ b=some cf) (az:off+cap*z<=sz)
  (c7:(off+cap*z<sz/\cap'=cap)\/(off+cap*z=sz/\cap<=cap'/\cf.s+off+cap'*z<=cf.T)) (h1:l<=aQ) (ag:aQ<=m) (aq:m<=cap) (aK:hasMax=false->m=cap)
  (b1:ck=if hasMax then m else cap') (atb:m≠l) :
  aU w R h μ (.ao z b (off+l*z) (aQ - l) (m - l) sz) (.slice (some ((⟨cf.r,cf.s+off,none⟩:Addr).add (l*z))) (aQ - l) (ck - l)) :=by
 have dY:=rel.blk b cf hm;rw[aj] at dY;have eu:=dY.2.1;rw[Addr.kH,Nat.add_assoc];have a1:l*z+(m - l)*z=m*z:=by rw[<-Nat.add_mul]; congr 1; omega
 have b3:m*z<=cap*z:=Nat.mul_le_mul_right _ aq;refine .ao z b _ _ _ sz _ cs cf aj hm (by omega) (by omega) ?_;cases hasMax with
 | false=>
  have w1:=aK rfl;have jC:ck=cap':=by simpa using b1
  rw[jC];rcases c7 with ⟨bt,bE⟩ | ⟨bt,bE,a3⟩
  ·rw[<-w1] at bt bE;exact .inl ⟨by omega,by omega⟩
  ·rw[<-w1] at bt bE;refine .inr ⟨by omega,by omega,?_⟩;have dD:l*z+(cap' - l)*z=cap'*z:=by rw[<-Nat.add_mul]; congr 1; omega
   omega
 | true=>
  have jC:ck=m:=by simpa using b1
  rw[jC];by_cases aS:off+l*z+(m - l)*z<sz
  ·exact .inl ⟨aS,rfl⟩
  ·exact .inr ⟨by omega,Nat.le_refl _,by omega⟩
theorem extract_toList (s:ByteArray) (a b:Nat) :(s.extract a b).data.toList=(s.data.toList.drop a).take (b - a) :=by
 simp[ByteArray.extract,ByteArray.copySlice,List.take_drop]
theorem aU.an3 (z:Nat) (p:Prop) [Decidable p] (a b:Addr) (cap:Nat) :aU w R h μ (.bW z []) (.slice (if p then some a else some b) 0 cap) :=by
 by_cases aG:p
 ·rw[if_pos aG]; exact .e1 _ _ _
 ·rw[if_neg aG]; exact .e1 _ _ _
theorem aU.abA (z b off len cap sz cap' : Nat) (p:Prop) [Decidable p] (a en:Addr) (ar:len<=cap) (al:cap<=cap') (ay:sE h b sz) :
  aU w R h μ (.ao z b off len cap sz) (.slice (if p then some a else some en) len cap') :=by
 by_cases aG:p
 ·rw[if_pos aG]; exact .fE _ _ _ _ _ _ _ _ ar al ay
 ·rw[if_neg aG]; exact .fE _ _ _ _ _ _ _ _ ar al ay
theorem aot (rel:b6 R B w h μ) {t:TypeId} {x c:ae} {bG:Value} {cP aA cB:Option ae} {pk fq tR:Option Value} (au:AD P t x cP aA cB=some c) (ak:aU w R h μ x bG)
  (h1:uz w R h μ cP pk) (ag:uz w R h μ aA fq) (aq:uz w R h μ cB tR) :
  ∃ v,(Instr.sliceAt t bG pk fq tR).run P w=.ok v w/\aU w R h μ c v:=by
 unfold AD at au;split at au
 ·-- an array behind its address
  rename_i n e aL;cases aC:cr P e with
  | none=>rw[aC] at au; cases au
  | some z=>
  cases aj:fH n n cP aA cB with
  | none=>rw[aC,aj] at au; cases au
  | some r9=>
  obtain⟨l,aQ,m⟩:=r9;rw[aC,aj] at au;simp only at au;obtain⟨cc,ch,dz,f2,ii⟩:=sO (P:=P) (isS:=false) aj (Nat.le_refl _) (Nat.le_refl _) h1 ag aq;have aib:(if cB.isSome=true then m else n)=m:=by
   cases cB with
   | none=>simp[f2 rfl]
   | some v=>simp
  rw[aib] at ii;split at au
  ·rename_i b off sz;split at au
   ·rename_i dF;have xg:∃ a,bG=.pointer (some a) :=by cases ak<;>exact⟨_,rfl⟩
    obtain⟨a,rfl⟩:=xg;refine⟨_,by simp[Instr.sliceAt,cq aL,Instr.sureAddr,ii,e5 aC]; rfl,?_⟩;split at au
    ·rename_i kT;simp only[Option.some.injEq] at au; subst au;have:aQ - l=0:=by omega
     rw[this];exact .e1 _ _ _
    ·rename_i kT;simp only[Option.some.injEq] at au; subst au;rw[if_neg kT];cases ak with
     | ptr _ _ _ cs cf bK hm=>
      exact abB rel (cap:=m) (cap':=m) (hasMax:=true) bK hm dF (by
       have dY:=rel.blk b cf hm;rw[bK] at dY;have eu:=dY.2.1;by_cases aS:off+m*z<sz
       ·exact .inl ⟨aS,rfl⟩
       ·exact .inr ⟨by omega,Nat.le_refl _,by omega⟩) cc ch (Nat.le_refl _) (fun aJ=>by cases aJ) (by simp) kT
     | k0 _ _ _ _ ay=>exact .fE _ _ _ _ _ _ _ _ (by omega) (Nat.le_refl _) ay
   ·cases au
  ·rename_i cs off;split at au
   ·rename_i dF;simp only[Option.some.injEq] at au; subst au;cases ak with
    | cp _ _ blk o dI al ax=>
     refine⟨_,by simp[Instr.sliceAt,cq aL,Instr.sureAddr,ii,e5 aC]; rfl,?_⟩;have gL:aQ*z<=n*z:=Nat.mul_le_mul_right _ (by omega);by_cases kT:m=l
     ·have a1:aQ - l=0:=by omega
      rw[a1];exact .e1 _ _ _
     ·rw[if_neg kT,Addr.kH];have ar:=sV (z:=z) (aQ - l) (cs.drop (off+l*z));have hR:∀ i,i<aQ - l->∀ j,j<z->off+l*z+(i*z+j)<cs.length:=by
       intro i fq j am;have:(l+i+1)*z<=aQ*z:=Nat.mul_le_mul_right _ (by omega);rw[Nat.add_mul,Nat.add_mul] at this;omega
      have ez:∀ i eG,(kf z (aQ - l) (cs.drop (off+l*z)))[i]? = some eG->i<aQ - l/\eG=((cs.drop (off+l*z)).drop (i*z)).take z:=by
       intro i eG fB;have fq:i<aQ - l:=by
        have:=(List.getElem?_eq_some_iff.1 fB).1;omega
       rw[Bl _ _ _ fq] at fB;simp only[Option.some.injEq] at fB;exact⟨fq,fB.symm⟩
      have:=aU.bW (w:=w) (R:=R) (h:=h) (μ:=μ) z (kf z (aQ - l) (cs.drop (off+l*z))) blk (o+off+l*z) (m - l) (fun i j=>dI (off+l*z+(i*z+j))) (by omega)
       (fun eG fB=>by
        obtain⟨i,fq,rfl⟩:=List.getElem_of_mem fB;obtain⟨bt,bE⟩:=ez i _ (List.getElem?_eq_getElem fq);rw[bE,List.length_take,List.length_drop,List.length_drop];have:(l+i+1)*z<=aQ*z:=Nat.mul_le_mul_right _ (by omega);rw[Nat.add_mul,Nat.add_mul] at this;omega)
       (fun i j fq am=>by
        have:=al (off+l*z+(i*z+j)) (hR i (by omega) j am);have dD:o+off+l*z+(i*z+j)=o+(off+l*z+(i*z+j)) :=by omega
        rw[dD]; exact this)
       (fun i eG fB j c am=>by
        obtain⟨bt,rfl⟩:=ez i _ fB;have kQ:j<z:=by
         have:=(List.getElem?_eq_some_iff.1 am).1;rw[List.length_take] at this; omega
        rw[List.getElem?_take_of_lt kQ,List.getElem?_drop,List.getElem?_drop,] at am;exact ax _ c am)
      rw[ar] at this;exact this
   ·cases au
  ·cases au
 ·-- a slice
  rename_i e aL;split at au
  ·rename_i z c9 b off len cap sz aC;split at au
   ·rename_i r2; subst r2;cases aj:fH len cap cP aA cB with
    | none=>rw[aj] at au; cases au
    | some r9=>
    obtain⟨l,aQ,m⟩:=r9;rw[aj] at au;simp only[Option.map_some,Option.some.injEq] at au;cases ak with
    | ao _ _ _ _ _ _ cap' cs cf bK hm ar az c7=>
     have TK:cap<=cap':=by rcases c7 with c7 | c7<;>omega
     obtain⟨cc,ch,dz,f2,ii⟩:=sO (P:=P) (isS:=true) aj ar TK h1 ag aq;refine⟨_,by simp[Instr.sliceAt,Instr.slice,cq aL,ii,e5 aC]; rfl,?_⟩;split at au
     ·rename_i kT;subst au;have:aQ - l=0:=by omega
      rw[this];by_cases qv:(if cB.isSome=true then m else cap')=l
      ·rw[if_pos qv,qv,Nat.sub_self];exact .gR _ _ _ _ _ _ cf bK hm
      ·rw[if_neg qv];cases cB with
       | some v=>exact absurd (by simpa using kT) qv
       | none=>
        have w1:=f2 rfl;simp only[Option.isSome_none,Bool.false_eq_true,if_false] at qv ⊢;have dZ:cap=l:=by omega
        have aw:off+cap*z=sz/\cap<=cap'/\cf.s+off+cap'*z<=cf.T:=by rcases c7 with c7 | c7<;>omega
        have rQ:l*z+(cap' - l)*z=cap'*z:=by rw[<-Nat.add_mul]; congr 1; omega
        subst dZ;rw[Addr.kH];have:=aU.ao (w:=w) (R:=R) (h:=h) (μ:=μ) z b (off+cap*z) 0 0 sz (cap' - cap) _ cf bK hm (Nat.le_refl _) (by omega) (.inr ⟨by omega,by omega,by omega⟩)
        rwa [<-Nat.add_assoc] at this
     ·rename_i kT;subst au;have b7:¬ ((if cB.isSome=true then m else cap')=l) :=by
       cases cB with
       | none=>have:=f2 rfl; simp; omega
       | some v=>simpa using kT
      rw[if_neg b7];exact abB rel (hasMax:=cB.isSome) bK hm az c7 cc ch dz (fun aJ=>f2 (by simpa using aJ)) rfl kT
    | gR _ _ _ _ a cs cf bK hm=>
     obtain⟨cc,ch,dz,f2,ii⟩:=sO (P:=P) (isS:=true) aj (Nat.le_refl 0) (Nat.le_refl 0) h1 ag aq;refine⟨_,by simp[Instr.sliceAt,Instr.slice,cq aL,ii,e5 aC]; rfl,?_⟩;have ig:m=0:=by
      cases cB with
      | none=>exact f2 rfl
      | some v=>simp at dz; omega
     have tq:l=0:=by omega
     have ah7:aQ=0:=by omega
     subst ig tq ah7;simp only[if_true] at au;subst au;simp;exact .gR _ _ _ _ _ _ cf bK hm
    | fE _ _ _ _ _ _ cap' a ar c7 ay=>
     obtain⟨cc,ch,dz,f2,ii⟩:=sO (P:=P) (isS:=true) aj ar c7 h1 ag aq;refine⟨_,by simp[Instr.sliceAt,Instr.slice,cq aL,ii,e5 aC]; rfl,?_⟩;split at au
     ·rename_i kT;subst au;have:aQ - l=0:=by omega
      rw[this];exact aU.abA _ _ _ _ _ _ _ _ _ _ (Nat.le_refl _) (Nat.zero_le _) ay
     ·rename_i kT;subst au;have dO:m<=(if cB.isSome=true then m else cap') :=by split<;>omega
      exact aU.abA _ _ _ _ _ _ _ _ _ _ (by omega) (by omega) ay
   ·cases au
  ·rename_i z c9 es aC;split at au
   ·rename_i r2; subst r2;cases aj:fH es.length es.length cP aA cB with
    | none=>rw[aj] at au; cases au
    | some r9=>
    obtain⟨l,aQ,m⟩:=r9;rw[aj] at au;simp only[Option.map_some,Option.some.injEq] at au;subst au;cases ak with
    | bW _ _ blk off cap dI ar zK al ax=>
     obtain⟨cc,ch,dz,f2,ii⟩:=sO (P:=P) (isS:=true) aj (Nat.le_refl _) ar h1 ag aq;refine⟨_,by simp[Instr.sliceAt,Instr.slice,cq aL,ii,e5 aC]; rfl,?_⟩;have bw:((es.drop l).take (aQ - l)).length=aQ - l:=by rw[List.length_take,List.length_drop]; omega
     have dO:aQ<=(if cB.isSome=true then m else cap) :=by
      cases cB with
      | none=>simp only[Option.isSome_none,Bool.false_eq_true,if_false]; omega
      | some v=>simpa using ch
     by_cases kT:(if cB.isSome=true then m else cap)=l
     ·have a1:aQ - l=0:=by omega
      rw[if_pos kT,a1,List.take_zero];exact .e1 _ _ _
     ·rw[if_neg kT,Addr.kH];have ez:∀ i eG,((es.drop l).take (aQ - l))[i]? = some eG->i<aQ - l/\es[l+i]? = some eG:=by
       intro i eG fB;have fq:i<aQ - l:=by
        have:=(List.getElem?_eq_some_iff.1 fB).1;omega
       rw[List.getElem?_take_of_lt fq,List.getElem?_drop] at fB;exact⟨fq,fB⟩
      have:=aU.bW (w:=w) (R:=R) (h:=h) (μ:=μ) z ((es.drop l).take (aQ - l)) blk (off+l*z) ((if cB.isSome=true then m else cap) - l) (fun i j=>dI (l+i) j) (by omega)
       (fun eG fB=>zK eG (List.mem_of_mem_drop (List.mem_of_mem_take fB)))
       (fun i j fq am=>by
        have:=al (l+i) j (by omega) am;have dD:off+l*z+(i*z+j)=off+((l+i)*z+j) :=by rw[Nat.add_mul]; omega
        rw[dD]; exact this)
       (fun i eG fB j c am=>ax (l+i) eG (ez i eG fB).2 j c am)
      rw[bw] at this;exact this
    | e1 _ a cap=>
     obtain⟨cc,ch,dz,f2,ii⟩:=sO (P:=P) (isS:=true) aj (Nat.le_refl _) (Nat.zero_le cap) h1 ag aq;refine⟨_,by simp at ii; simp[Instr.sliceAt,Instr.slice,cq aL,ii,e5 aC]; rfl,?_⟩;have a1:aQ - l=0:=by simp at dz; omega
     rw[a1,List.take_zero];exact aU.an3 _ _ _ _ _
   ·cases au
  ·rename_i z aC;cases ak;cases aj:fH 0 0 cP aA cB with
   | none=>rw[aj] at au; cases au
   | some r9=>
   obtain⟨l,aQ,m⟩:=r9;rw[aj] at au;simp only[Option.map_some,Option.some.injEq] at au;subst au;obtain⟨cc,ch,dz,f2,ii⟩:=sO (P:=P) (isS:=true) aj (Nat.le_refl _) (Nat.le_refl _) h1 ag aq;obtain rfl:m=0:=by omega
   obtain rfl:aQ=0:=by omega
   obtain rfl:l=0:=by omega
   refine⟨_,by simp[Instr.sliceAt,Instr.slice,cq aL,ii,e5 aC]; rfl,?_⟩;exact .aZ
  ·cases au
 ·-- a string
  rename_i s aL;split at au
  ·cases ak with
   | str bs=>
    cases aj:fH bs.data.toList.length bs.data.toList.length cP aA none with
    | none=>rw[aj] at au; cases au
    | some r9=>
    obtain⟨l,aQ,m⟩:=r9;rw[aj] at au;simp only[Option.map_some,Option.some.injEq] at au;subst au;cases tR with
    | some v=>exact aq.elim
    | none=>
     have gE:bs.data.toList.length=bs.size:=by simp
     rw[gE] at aj;obtain⟨cc,ch,dz,f2,ii⟩:=sO (P:=P) (isS:=false) aj (Nat.le_refl _) (Nat.le_refl _) h1 ag aq;refine⟨.string (bs.extract l aQ),by simp[Instr.sliceAt,Instr.slice,cq aL,ii],?_⟩;rw[<-extract_toList];exact .str _
  ·cases au
 ·cases au
end
section
variable {P:Program} {w:World} {R:Nat->Prop} {B:Nat} {h:aR} {μ:cD}
def jP (w:World) (R:Nat->Prop) (h:aR) (μ:cD) (cs:List ae) (arr:Array Value) :Prop:=
 arr.size=cs.length/\∀ (j:Nat) (c:ae),cs[j]? = some c->∃ v:Value,arr[j]? = some v/\v.oneCell'=true/\aU w R h μ c v
theorem jP.aV {cs:List ae} {arr:Array Value} (aD:jP w R h μ cs arr) :aU w R h μ (.aV cs) (.agg arr) :=by
 refine .aV _ _ aD.1 (fun j v am=>?_) (fun j c v al am=>?_)
 ·have aS:j<cs.length:=by have:=(Array.getElem?_eq_some_iff.1 am).1; rw[<-aD.1]; exact this
  obtain⟨u,h1,ag,_⟩:=aD.2 j _ (List.getElem?_eq_getElem aS);rw[am] at h1; cases h1; exact ag
 ·obtain⟨u,h1,_,aq⟩:=aD.2 j c al;rw[am] at h1; cases h1; exact aq
theorem SP:∀ (l:List Value) (k off:Nat) (cells:Array Value),off+k+l.length<=cells.size->
  ((l.zipIdx k).foldl (fun cs (sW:Value × Nat)=>cs.setIfInBounds (off+sW.2) sW.1) cells).size=cells.size ∧
  ∀ j,((l.zipIdx k).foldl (fun cs (sW:Value × Nat)=>cs.setIfInBounds (off+sW.2) sW.1) cells)[j]? = if off+k<=j/\j<off+k+l.length then l[j - (off+k)]? else cells[j]?
 | [],k,off,cells,_=>⟨by simp,fun j=>by simp; omega⟩
 | v::l,k,off,cells,ar=>by
  simp only[List.length_cons] at ar;have aM:=SP l (k+1) off (cells.setIfInBounds (off+k) v) (by simp; omega);simp only[List.zipIdx_cons,List.foldl_cons];refine⟨by rw[aM.1]; simp,fun j=>?_⟩;rw[aM.2 j];by_cases am:off+(k+1)<=j/\j<off+(k+1)+l.length
  ·rw[if_pos am,if_pos (by simp only[List.length_cons]; omega)];have:j - (off+k)=(j - (off+(k+1)))+1:=by omega
   rw[this,List.getElem?_cons_succ]
  ·rw[if_neg am,Array.getElem?_setIfInBounds];by_cases aw:off+k=j
   ·subst aw;rw[if_pos rfl,if_pos (by omega),if_pos (by simp only[List.length_cons]; omega)];simp
   ·rw[if_neg aw,if_neg (by simp only[List.length_cons]; omega)]
theorem BE {jL:Nat->Option (Nat × Nat)}:∀ (ew:List (Nat × ae)) (jb:List (Nat × Value)) (cs:List ae) (arr:Array Value) (cs' : List ae),
  gB jL cs ew=some cs'->jP w R h μ cs arr->jb.length=ew.length->(∀ (j:Nat) (p:Nat × ae) (bX:Nat × Value),ew[j]? = some p->jb[j]? = some bX->bX.1=p.1/\aU w R h μ p.2 bX.2)->
  ∃ arr',Instr.fill jL arr jb=some arr'/\jP w R h μ cs' arr'
 | [],[],cs,arr,cs',aJ,aD,_,_=>by
  simp only[gB,Option.some.injEq] at aJ; subst aJ;exact⟨arr,rfl,aD⟩
 | [],_::_,_,_,_,_,_,ar,_=>by simp at ar
 | _::_,[],_,_,_,_,_,ar,_=>by simp at ar
 | (i,c) ::ew,(i3,v) ::jb,cs,arr,cs',aJ,aD,ar,aG=>by
  obtain⟨rfl,ax⟩:=aG 0 (i,c) (i3,v) rfl rfl;simp only at ax;unfold gB at aJ;cases gD:jL i3 with
  | none=>rw[gD] at aJ; cases aJ
  | some os=>
  obtain⟨off,size⟩:=os;cases al:c.cells with
  | none=>rw[gD,al] at aJ; cases aJ
  | some vs=>
  rw[gD,al] at aJ;simp only at aJ;split at aJ
  ·rename_i ic;obtain⟨gE,kX⟩:=Bj ax al;have vd:v.cells.toList.length=vs.length:=by simpa using gE
   have oU:=SP v.cells.toList 0 off arr (by rw[aD.1,vd]; omega);have ajF:v.cells.zipIdx.foldl (fun cs (x:Value × Nat)=>match x with | (c,j)=>cs.setIfInBounds (off+j) c) arr=(v.cells.toList.zipIdx 0).foldl (fun cs (sW:Value × Nat)=>cs.setIfInBounds (off+sW.2) sW.1) arr:=by
    rw[<-Array.foldl_toList];simp
   obtain⟨arr',h1,ag⟩:=BE ew jb (bU cs off vs) (v.cells.zipIdx.foldl (fun cs (x:Value × Nat)=>match x with | (c,j)=>cs.setIfInBounds (off+j) c) arr) cs' aJ (by
     rw[ajF];refine⟨by rw[oU.1,aD.1,pB (by omega)]; omega,fun j x am=>?_⟩;rw[oU.2 j];rw[Nl (by omega)] at am;split at am
     ·rename_i aS;rw[if_neg (by omega)];exact aD.2 j x am
     ·split at am
      ·rename_i h1 ag;rw[if_pos (by rw[vd]; omega)];obtain⟨u,bt,bE,a3⟩:=kX _ x am;exact⟨u,by simpa using bt,bE,a3⟩
      ·rename_i h1 ag;rw[if_neg (by rw[vd]; omega)];exact aD.2 j x am) (by simpa using ar) (fun j p bX am ev=>aG (j+1) p bX (by simpa using am) (by simpa using ev))
   refine⟨arr',?_,ag⟩;have rS:¬ (v.cells.size≠size\/off+v.cells.size > arr.size) :=by rw[gE,aD.1]; omega
   simp only[Instr.fill,gD];rw[if_neg (by simpa using rS)];exact h1
  ·cases aJ
theorem uv {t:TypeId} {z:List ae} (aC:gH P t=some z) :∃ v,(∀ w2:World,(zeroValue t).run P w2=.ok v w2)/\jP w R h μ z v.cells:=by
 obtain⟨i,v,aA,ax,au,al⟩:=acM (w:=w) (R:=R) (h:=h) (μ:=μ) aC;exact⟨v,fun w2=>abs aA ax,au,al⟩
theorem an8 {fs:Array Field} (au:(fs.toList.all fun f=>(cr P f.type).isSome)=true) :
  (fs.mapM fun f=>(do pure (f.offset,<-sizeOf f.type) :Sem (Nat × Nat))).run P w=.ok ((fs.toList.map fun f=>(f.offset,(cr P f.type).getD 0)).toArray) w:=by
 rw[Array.mapM_eq_mapM_toList];simp only[Sem.run_map];have:∀ l:List Field,(l.all fun f=>(cr P f.type).isSome)=true->(l.mapM fun f=>(do pure (f.offset,<-sizeOf f.type) :Sem (Nat × Nat))).run P w=.ok (l.map fun f=>(f.offset,(cr P f.type).getD 0)) w:=by
  intro l
  induction l with
  | nil=>intro _; simp
  | cons f l aM=>
   intro ar;simp only[List.all_cons,Bool.and_eq_true] at ar;obtain⟨n,aH⟩:=Option.isSome_iff_exists.1 ar.1;simp only[List.mapM_cons,Sem.run_bind,e5 aH,Result.andThen_ok,Sem.run_pure,aM ar.2,List.map_cons,aH,Option.getD_some]
 rw[this _ au];rfl
theorem aec {t:TypeId} {ew:List (Nat × ae)} {jb:Array (Nat × Value)} {c:ae} (aj:yr P t ew=some c) (ar:jb.size=ew.length)
  (aG:∀ (j:Nat) (p:Nat × ae) (bX:Nat × Value),ew[j]? = some p->jb[j]? = some bX->bX.1=p.1/\aU w R h μ p.2 bX.2) :
  ∃ v,(Instr.build t jb).run P w=.ok v w/\aU w R h μ c v:=by
 unfold yr at aj;split at aj
 ·rename_i zero fs aC aL;split at aj
  ·cases aj
  ·rename_i gE;simp only[Bool.not_eq_true',Bool.not_eq_false] at gE;cases aJ:gB (Ai P fs) zero ew with
   | none=>rw[aJ] at aj; cases aj
   | some cs=>
    rw[aJ] at aj;simp only[Option.map_some,Option.some.injEq] at aj; subst aj;obtain⟨v,ax,aD⟩:=uv (w:=w) (R:=R) (h:=h) (μ:=μ) aC;obtain⟨arr',h1,ag⟩:=BE ew jb.toList zero v.cells cs aJ aD (by simpa using ar) (fun j p bX am ev=>aG j p bX am (by simpa using ev));have ai2:(fun i=>((fs.toList.map fun f=>(f.offset,(cr P f.type).getD 0)).toArray)[i]?)=Ai P fs:=by
     funext i;simp only[Ai];simp only[List.getElem?_toArray,List.getElem?_map,Array.getElem?_toList];cases wV:fs[i]? with
     | none=>simp
     | some f=>
      rw[List.all_eq_true] at gE;have:=gE f (by have:=Array.mem_of_getElem? wV; simpa using this);obtain⟨n,aH⟩:=Option.isSome_iff_exists.1 this;simp[aH]
    refine⟨_,?_,ag.aV⟩;simp only[Instr.build,Sem.run_bind,ax,Result.andThen_ok,cq aL,an8 gE];rw[ai2,h1];simp
 ·rename_i zero n e aC aL;cases gE:cr P e with
  | none=>rw[gE] at aj; cases aj
  | some m=>
   rw[gE] at aj;simp only at aj;cases aJ:gB (fun i=>some (i*m,m)) zero ew with
   | none=>rw[aJ] at aj; cases aj
   | some cs=>
    rw[aJ] at aj;simp only[Option.map_some,Option.some.injEq] at aj; subst aj;obtain⟨v,ax,aD⟩:=uv (w:=w) (R:=R) (h:=h) (μ:=μ) aC;obtain⟨arr',h1,ag⟩:=BE ew jb.toList zero v.cells cs aJ aD (by simpa using ar) (fun j p bX am ev=>aG j p bX am (by simpa using ev));refine⟨_,?_,ag.aV⟩;simp only[Instr.build,Sem.run_bind,ax,Result.andThen_ok,cq aL,e5 gE];rw[h1];simp
 ·cases aj
theorem vK {zero:List ae}:∀ n,(dd zero n).length=n*zero.length
 | 0=>by simp[dd]
 | n+1=>by simp only[dd,List.length_append,vK n,Nat.succ_mul]; omega
theorem abe {zero:List ae}:∀ (n j:Nat) (c:ae),(dd zero n)[j]? = some c->zero[j % zero.length]? = some c
 | 0,_,_,am=>by simp[dd] at am
 | n+1,j,c,am=>by
  simp only[dd] at am;by_cases aS:j<zero.length
  ·rw[List.getElem?_append_left aS] at am
   rwa [Nat.mod_eq_of_lt aS]
  ·rw[List.getElem?_append_right (by omega)] at am;have:=abe n _ c am
   rwa [<-Nat.mod_eq_sub_mod (by omega)] at this
theorem DJ {zero:List ae} {z:Array Value} (aD:jP w R h μ zero z) (n:Nat) :jP w R h μ (dd zero n) ((Array.range (n*zero.length)).map (z[· % z.size]!)) :=by
 refine⟨by simp[vK],fun j c am=>?_⟩;have aS:j<n*zero.length:=by
  have:=(List.getElem?_eq_some_iff.1 am).1
  rwa [vK] at this
 obtain⟨v,h1,ag,aq⟩:=aD.2 _ c (abe n j c am);refine⟨v,?_,ag,aq⟩;rw[<-aD.1] at h1;obtain⟨aj,rfl⟩:=Array.getElem?_eq_some_iff.1 h1;simp[aS,aj]
theorem agc {z:Nat}:∀ (ew:List (Nat × ae)) (a b:List ae),gB (fun i=>some (i*z,z)) a ew=some b->b.length=a.length:=by
 intro ew
 induction ew with
 | nil=>intro a b hQ; simp only[gB,Option.some.injEq] at hQ; subst hQ; rfl
 | cons p ew aM=>
  intro a b hQ;unfold gB at hQ;split at hQ
  ·rename_i off size vs gD zE;split at hQ
   ·rw[aM _ _ hQ,pB (by omega)]; omega
   ·cases hQ
  ·cases hQ
theorem OX {t e:TypeId} {len z:Nat} {zero cs:List ae} {ew:List (Nat × ae)} {jb:Array (Nat × Value)} (aw:hl P t=some e) (aC:cr P e=some z) (hA:gH P e=some zero) (gN:zero.length=z) (kR:len*z<=16777216)
  (aJ:gB (fun i=>some (i*z,z)) (dd zero len) ew=some cs) (ar:jb.size=ew.length)
  (aG:∀ (j:Nat) (p:Nat × ae) (bX:Nat × Value),ew[j]? = some p->jb[j]? = some bX->bX.1=p.1/\aU w R h μ p.2 bX.2) :
  cs.length=len*z/\∃ arr,(Instr.buildSlice t len jb).run P w=.ok (.slice (some ⟨w.heap.size,0,none⟩) len len) (w.alloc (.cells arr e))/\jP w R h μ cs arr:=by
 obtain⟨v,ax,aD⟩:=uv (w:=w) (R:=R) (h:=h) (μ:=μ) hA;obtain⟨arr',h1,ag⟩:=BE ew jb.toList _ _ cs aJ (DJ aD len) (by simpa using ar) (fun j p bX am ev=>aG j p bX am (by simpa using ev));refine⟨by rw[agc _ _ _ aJ,vK,gN],arr',?_,ag⟩;have i0:=yP aw;have aiB:¬ (len*z > 2 ^ 24) :=by omega
 simp only[Instr.buildSlice,Sem.run_bind,cq i0,Result.andThen_ok,e5 aC,if_neg aiB];rw[gN] at h1;generalize fj:len*z=N at h1;by_cases aO:N=0
 ·subst aO;have iB:∀ f:Nat->Value,(Array.range 0).map f=#[] :=fun f=>by simp[Array.range]
  rw[iB] at h1;simp[iB,h1,newRow]
 ·simp[aO,ax,h1,newRow]
theorem aeb (rel:b6 R B w h μ) {t:TypeId} {len:Nat} {ew:List (Nat × ae)} {jb:Array (Nat × Value)} {c:ae} {h' : aR} (aj:Ba P h t len ew=some (c,h')) (ar:jb.size=ew.length)
  (aG:∀ (j:Nat) (p:Nat × ae) (bX:Nat × Value),ew[j]? = some p->jb[j]? = some bX->bX.1=p.1/\aU w R h μ p.2 bX.2) :
  ∃ v w' μ',(Instr.buildSlice t len jb).run P w=.ok v w'/\di w h μ w' h' μ'/\b6 R B w' h' μ'/\aU w' R h' μ' c v:=by
 unfold Ba at aj;cases aw:hl P t with
 | none=>rw[aw] at aj; cases aj
 | some e=>
 rw[aw] at aj;simp only at aj;cases aC:cr P e with
 | none=>rw[aC] at aj; cases aj
 | some z=>
 cases hA:gH P e with
 | none=>rw[aC,hA] at aj; cases aj
 | some zero=>
 rw[aC,hA] at aj;simp only at aj;split at aj
 ·rename_i ic;obtain⟨gN,kR⟩:=ic;cases aJ:gB (fun i=>some (i*z,z)) (dd zero len) ew with
  | none=>rw[aJ] at aj; cases aj
  | some cs=>
   rw[aJ] at aj;simp only[Option.map_some,Option.some.injEq,Prod.mk.injEq] at aj;obtain⟨rfl,rfl⟩:=aj;obtain⟨dZ,arr',g3,ag⟩:=OX aw aC hA gN kR aJ ar aG;have aI:=A2 rel (cs:=cs) (vs:=arr') e ag.1 ag.2;rw[dZ] at aI;obtain⟨bt,bE,a3⟩:=aI;refine⟨.slice (some ⟨w.heap.size,0,none⟩) len len,_,_,g3,bt,bE,?_⟩;have:=aU.ao (w:=w.alloc (.cells arr' e)) (R:=R) (h:=h.push (.cells (len*z) cs)) (μ:=bM μ h.n (some ⟨w.heap.size,0,arr'.size⟩)) z h.n 0 len len (len*z) len cs ⟨w.heap.size,0,arr'.size⟩ (by simp[dH,eK]) (by simp) (Nat.le_refl _) (by omega)
    (.inr ⟨by omega,Nat.le_refl _,by simp only; rw[ag.1,dZ]; omega⟩)
   simpa using this
 ·cases aj
theorem Xa {t e:TypeId} {z by_:Nat} {zero:List ae} {kl kc:IntKind} {li gx:Int} (aw:hl P t=some e) (aC:cr P e=some z) (dE:iT P e=some by_) (hA:gH P e=some zero) (gN:zero.length=z)
  (aO:0<=li) (mP:li<=gx) (Cc:gx<9223372036854775808) (dk:by_*gx<=cQ) :
  (dd zero gx.toNat).length=gx.toNat*z/\∃ arr,(Instr.makeSlice t (.int kl li) (.int kc gx)).run P w=.ok (.slice (some ⟨w.heap.size,0,none⟩) li.toNat gx.toNat) (w.alloc (.cells arr e))/\jP w R h μ (dd zero gx.toNat) arr:=by
 obtain⟨v,ax,aD⟩:=uv (w:=w) (R:=R) (h:=h) (μ:=μ) hA;have cA:=DJ aD gx.toNat
 refine⟨by rw[vK,gN],_,?_,cA⟩;obtain⟨i,aA,TJ⟩:∃ i,P.info? e=some i/\i.bytes=by_:=by
  unfold iT at dE;cases aA:P.info? e with
  | none=>rw[aA] at dE; cases dE
  | some i=>rw[aA] at dE; exact⟨i,rfl,by simpa using dE⟩
 have xj:IntKind.i64.wrap li=li:=IntWalk.i64_in _ (by omega);have xi:IntKind.i64.wrap gx=gx:=IntWalk.i64_in _ (by omega);have i0:=yP aw;unfold cQ at dk;have q0:¬ (gx<0\/(281474976710656:Int)<(by_:Int)*gx) :=by omega
 have vR:¬ (li<0) :=by omega
 have t3:¬ (gx<li) :=by omega
 rw[gN];generalize fj:gx.toNat*z=N;by_cases qv:N=0
 ·subst qv;have iB:∀ f:Nat->Value,(Array.range 0).map f=#[] :=fun f=>by simp[Array.range]
  simp[iB,Instr.makeSlice,cq i0,Go.asInt,asIntOf,typeInfo,aA,TJ,xj,xi,q0,vR,t3,e5 aC,fj,newRow]
 ·simp[Instr.makeSlice,cq i0,Go.asInt,asIntOf,typeInfo,aA,TJ,xj,xi,q0,vR,t3,e5 aC,fj,qv,ax,newRow]
theorem alp (rel:b6 R B w h μ) {t:TypeId} {l c r:ae} {Dd rs:Value} {h' : aR} (hm:De P h t l c=some (r,h')) (ar:aU w R h μ l Dd) (al:aU w R h μ c rs) :
  ∃ v w' μ',(Instr.makeSlice t Dd rs).run P w=.ok v w'/\di w h μ w' h' μ'/\b6 R B w' h' μ'/\aU w' R h' μ' r v:=by
 unfold De at hm;split at hm
 ·rename_i e li gx aw hT e4;obtain⟨kl,rfl⟩:=pS hT ar;obtain⟨kc,rfl⟩:=pS e4 al;cases aC:cr P e with
  | none=>rw[aC] at hm; cases hm
  | some z=>
  cases dE:iT P e with
  | none=>rw[aC,dE] at hm; cases hm
  | some by_=>
  cases hA:gH P e with
  | none=>rw[aC,dE,hA] at hm; cases hm
  | some zero=>
  rw[aC,dE,hA] at hm;simp only at hm;split at hm
  ·rename_i ic;obtain⟨gN,aO,mP,Cc,dk⟩:=ic;simp only[Option.some.injEq,Prod.mk.injEq] at hm;obtain⟨rfl,rfl⟩:=hm;obtain⟨bw,arr,g3,cA⟩:=Xa (w:=w) (R:=R) (h:=h) (μ:=μ) (kl:=kl) (kc:=kc) aw aC dE hA gN aO mP Cc dk;have aI:=A2 rel (cs:=dd zero gx.toNat) e cA.1 cA.2;rw[bw] at aI;obtain⟨bt,bE,a3⟩:=aI;refine⟨.slice (some ⟨w.heap.size,0,none⟩) li.toNat gx.toNat,_,_,g3,bt,bE,?_⟩;have:=aU.ao (w:=w.alloc (.cells arr e)) (R:=R) (h:=h.push (.cells (gx.toNat*z) (dd zero gx.toNat))) (μ:=bM μ h.n (some ⟨w.heap.size,0,arr.size⟩))
    z h.n 0 li.toNat gx.toNat (gx.toNat*z) gx.toNat (dd zero gx.toNat) ⟨w.heap.size,0,arr.size⟩ (by simp[dH,eK]) (by simp) (by omega) (by omega)
    (.inr ⟨by omega,Nat.le_refl _,by simp only; rw[cA.1,bw]; omega⟩)
   simpa using this
  ·cases hm
 ·cases hm
theorem ala {t u:TypeId} {ty:TypeId} {x c:ae} {bG:Value} (al:vw P t x=some c) (ak:aU w R h μ x bG) :∃ v,(Builtin.len_ #[t] ty #[bG]).run P w=.ok v w/\aU w R h μ c v:=by
 unfold vw at al;split at al<;>(try (simp only[Option.some.injEq] at al; subst al))
 ·rename_i s aL;cases ak;rename_i bs;exact⟨goInt bs.size,by simp[Builtin.len_,cq aL],by rw[show (bs.data.toList.length:Int)=bs.size from by simp]; exact .int _ _⟩
 ·rename_i n e aL;exact⟨goInt n,by simp[Builtin.len_,cq aL],.int _ _⟩
 ·rename_i e aL;cases ak;exact⟨goInt (0:Nat),by simp[Builtin.len_,cq aL],.int _ _⟩
 ·rename_i e z b off len cap sz aL;cases ak
  ·exact⟨goInt len,by simp[Builtin.len_,cq aL],.int _ _⟩
  ·exact⟨goInt len,by simp[Builtin.len_,cq aL],.int _ _⟩
  ·exact⟨goInt (0:Nat),by simp[Builtin.len_,cq aL],.int _ _⟩
 ·rename_i e z es aL;cases ak
  ·exact⟨goInt es.length,by simp[Builtin.len_,cq aL],.int _ _⟩
  ·exact⟨goInt (0:Nat),by simp[Builtin.len_,cq aL],.int _ _⟩
 ·rename_i k e aL;cases ak;exact⟨goInt 0,by simp[Builtin.len_,cq aL],.int _ _⟩
 ·cases al
end
section
variable {P:Program} {w:World} {R:Nat->Prop} {B:Nat} {h:aR} {μ:cD}
theorem tT {t:TypeId} {cs:List ae} {vs:Array Value} {off:Nat} {c:ae} (aG:gQ P t cs off=some c) (aD:jP w R h μ cs vs) :
  ∃ v,(∀ w2:World,(part t vs off).run P w2=.ok v w2)/\aU w R h μ c v:=by
 unfold gQ at aG;cases mH:dC P t with
 | none=>rw[mH] at aG; cases aG
 | some b=>
  rw[mH] at aG;cases b with
  | false=>
   simp only at aG;obtain⟨v,h1,_,aq⟩:=aD.2 off c aG;exact⟨v,fun w2=>by simp[part,DN mH,h1],aq⟩
  | true=>
   cases aH:cr P t with
   | none=>rw[aH] at aG; cases aG
   | some n=>
    rw[aH] at aG;simp only at aG;split at aG
    ·rename_i dO;simp only[Option.some.injEq] at aG;subst aG;refine⟨.agg (vs.extract off (off+n)),fun w2=>by simp[part,DN mH,e5 aH],jP.aV ⟨by simp; rw[aD.1]; omega,fun j c am=>?_⟩⟩;have kP:j<n:=by
      have:=(List.getElem?_eq_some_iff.1 am).1;rw[List.length_take] at this; omega
     rw[List.getElem?_take_of_lt kP,List.getElem?_drop] at am;obtain⟨v,h1,ag,aq⟩:=aD.2 _ c am;refine⟨v,?_,ag,aq⟩;rw[Array.getElem?_extract,if_pos (by rw[aD.1]; omega)];exact h1
    ·cases aG
theorem sK {cs:List ae} {bG:Value} (ak:aU w R h μ (.aV cs) bG) :∃ vs,bG=.agg vs/\jP w R h μ cs vs:=by
 cases ak with
 | aV _ vs ar h1 ax=>
  refine⟨vs,rfl,ar,fun j c am=>?_⟩;have aS:j<vs.size:=by rw[ar]; exact (List.getElem?_eq_some_iff.1 am).1
  exact⟨vs[j],by simp[aS],h1 j _ (by simp[aS]),ax j c _ am (by simp[aS])⟩
theorem agb {t:TypeId} {cs:List ae} {f:Nat} {fd:Field} {c:ae} {bG:Value} (aJ:uP P t f=some fd) (aG:gQ P fd.type cs fd.offset=some c) (ak:aU w R h μ (.aV cs) bG) :
  ∃ v,(Instr.field t bG f).run P w=.ok v w/\aU w R h μ c v:=by
 obtain⟨fs,aL,oU⟩:=SB aJ;obtain⟨vs,rfl,aD⟩:=sK ak;obtain⟨v,h1,ag⟩:=tT (P:=P) aG aD;exact⟨v,by simp[Instr.field,cq aL,oU,asAgg,h1],ag⟩
theorem Jz {t:TypeId} {x he c:ae} {bG zQ:Value} (al:xp P t x he=some c) (ak:aU w R h μ x bG) (aA:aU w R h μ he zQ) :
  ∃ v,(Instr.index t bG zQ).run P w=.ok v w/\aU w R h μ c v:=by
 unfold xp at al;split at al
 ·rename_i n e cs i aL fC;obtain⟨k,rfl⟩:=pS fC aA;cases aC:cr P e with
  | none=>rw[aC] at al; cases al
  | some z=>
   rw[aC] at al;simp only at al;split at al
   ·rename_i aj;obtain⟨vs,rfl,aD⟩:=sK ak;obtain⟨v,h1,ag⟩:=tT (P:=P) al aD;exact⟨v,by simp[Instr.index,asIntOf,cq aL,aj,e5 aC,h1],ag⟩
   ·cases al
 ·rename_i s i aL fC;obtain⟨k,rfl⟩:=pS fC aA;split at al
  ·rename_i aj;cases ak with
   | str bs=>
    cases B7:bs.data.toList[i.toNat]? with
    | none=>rw[B7] at al; cases al
    | some b=>
     rw[B7] at al;simp only[Option.map_some,Option.some.injEq] at al;subst al;have aS:i.toNat<bs.size:=by have:=(List.getElem?_eq_some_iff.1 B7).1; simpa using this
     have ez:bs[i.toNat]? = some b:=by
      have fz:=(List.getElem?_eq_some_iff.1 B7).2;rw[getElem?_pos bs i.toNat aS];simp only[Option.some.injEq];rw[<-fz];rfl
     exact⟨.int .u8 b.toNat,by simp[Instr.index,asIntOf,cq aL,aj,ez],.int _ _⟩
  ·cases al
 ·cases al
theorem afq (rel:b6 R B w h μ) {t u ty:TypeId} {d x c:ae} {Hi bG:Value} {h' : aR} (al:wr P h t d x=some (c,h')) (bD:aU w R h μ d Hi) (ak:aU w R h μ x bG) :
  ∃ v w',(Builtin.copy_ #[t,u] ty #[Hi,bG]).run P w=.ok v w'/\di w h μ w' h' μ/\b6 R B w' h' μ/\aU w' R h' μ c v:=by
 unfold wr at al;cases aw:hl P t with
 | none=>rw[aw] at al; cases al
 | some e=>
 rw[aw] at al;simp only at al;cases aC:cr P e with
 | none=>rw[aC] at al; cases al
 | some z=>
 rw[aC] at al;simp only at al;cases ds:contents h z x with
 | none=>rw[ds] at al; cases al
 | some NW=>
 obtain⟨xs,n⟩:=NW;rw[ds] at al;simp only at al;have i0:=yP aw;obtain⟨bJ,bw,vs,cA,jT⟩:=s1 (P:=P) rel ds ak;split at al
 ·simp only[Option.some.injEq,Prod.mk.injEq] at al;obtain⟨rfl,rfl⟩:=al;cases bD;have aO:=jT 0 (Nat.zero_le _) w (fun _=>rfl);refine⟨goInt (0:Nat),w,?_,.refl _ _ _,rel,.int _ _⟩;simp[Builtin.copy_,cq i0,bw,e5 aC,aO]
 ·rename_i c9 b off len cap sz;cases aj:h.f b with
  | cells m cs=>
   rw[aj] at al;simp only at al;split at al
   ·rename_i zc;obtain⟨rfl,rfl⟩:=zc;simp only[Option.some.injEq,Prod.mk.injEq] at al;obtain⟨rfl,rfl⟩:=al;cases bD with
    | gR _ _ _ _ a cs' cf bK hm=>
     have aO:=jT 0 (Nat.zero_le _) w (fun _=>rfl);have mY:bU cs off []=cs:=by simp[bU]
     have vo:=rel.same (h':=h.set b (.cells m (bU cs off (xs.take (min n 0*z))))) (by
      rw[dn,Nat.min_zero,Nat.zero_mul,List.take_zero,mY];funext x;simp only[bM];split
      ·rename_i ak; rw[ak,aj]
      ·rfl) rfl
     refine⟨goInt (0:Nat),w,?_,vo.1,vo.2,by rw[Nat.min_zero]; exact .int _ _⟩;simp[Builtin.copy_,cq i0,bw,e5 aC,aO,storeCells,Result.andThen]
    | fE _ _ _ _ _ _ cap' a ar c7 ay=>
     exfalso;rcases ay with ay | ⟨f3,cs',ay,aS⟩
     ·rw[ay] at aj; cases aj
     ·rw[ay] at aj; cases aj; omega
    | ao _ _ _ _ _ _ cap' cs' cf bK hm ar az c7=>
     have dY:=rel.blk b cf hm;rw[aj] at dY;obtain⟨TN,eu,_⟩:=dY;have rQ:min n len*z<=cap*z:=Nat.mul_le_mul_right _ (by omega);have UB:min n len*z<=n*z:=Nat.mul_le_mul_right _ (by omega);have jX:(xs.take (min n len*z)).length=min n len*z:=by rw[List.length_take]; omega
     have kR:max m (off+(xs.take (min n len*z)).length)=m:=by rw[jX]; omega
     obtain⟨w',h1,ag,aq⟩:=vW (P:=P) rel (cvs:=xs.take (min n len*z)) (vs:=vs.take (min n len*z)) (k:=off) aj hm (by omega)
      (by rw[List.length_take,List.length_take,cA.1]) (by rw[kR]; omega) (fun j c am=>by
       have aS:j<min n len*z:=by have:=(List.getElem?_eq_some_iff.1 am).1; rwa [jX] at this
       rw[List.getElem?_take_of_lt aS] at am ⊢;exact cA.2 j c am)
     rw[kR] at ag aq;have aJ:=jT (min n len) (by omega) w (fun _=>rfl);refine⟨goInt (min n len:Nat),w',?_,ag,aq,.int _ _⟩;have zq:Nat.min n len=min n len:=rfl;simp[Builtin.copy_,cq i0,bw,e5 aC,zq,aJ,h1]
   ·cases al
  | _=>rw[aj] at al; cases al
 ·cases al
theorem EP:∀ (cs:List ae) (vs:List Value) (bs:List UInt8),lh cs=some bs->vs.length=cs.length->
  (∀ (j:Nat) (c:ae),cs[j]? = some c->∃ v:Value,vs[j]? = some v/\v.oneCell'=true/\aU w R h μ c v)->
  ∃ ns:List Int,vs=ns.map (Value.int .u8)/\bs=ns.map fun n=>UInt8.ofNat n.toNat
 | [],[],bs,aj,_,_=>by
  simp only[lh,Option.some.injEq] at aj; subst aj;exact⟨[],rfl,rfl⟩
 | [],_::_,_,_,ar,_=>by simp at ar
 | _::_,[],_,_,ar,_=>by simp at ar
 | c::cs,v::vs,bs,aj,ar,ax=>by
  obtain⟨v0,hz,_,rY⟩:=ax 0 c rfl;simp only[List.getElem?_cons_zero,Option.some.injEq] at hz;subst hz;cases rY with
  | int k n=>
   cases k<;>simp only[lh] at aj<;>try (cases aj; done)
   cases nO:lh cs with
   | none=>rw[nO] at aj; cases aj
   | some ad4=>
    rw[nO] at aj;simp only[Option.map_some,Option.some.injEq] at aj;subst aj;obtain⟨ns,h1,ag⟩:=EP cs vs ad4 nO (by simpa using ar) (fun j c am=>ax (j+1) c (by simpa using am));exact⟨n::ns,by rw[h1]; rfl,by rw[ag]; rfl⟩
  | _=>simp[lh] at aj
theorem SO:∀ (ns:List Int) (s:ByteArray),(ns.foldl (fun r n=>r.push (UInt8.ofNat n.toNat)) s).data.toList=s.data.toList++ns.map fun n=>UInt8.ofNat n.toNat
 | [],s=>by simp
 | n::ns,s=>by
  rw[List.foldl_cons,SO ns];simp[ByteArray.push]
theorem afo (rel:b6 R B w h μ) {s d:TypeId} {x c:ae} {bG:Value} (al:uJ P h s d x=some c) (ak:aU w R h μ x bG) :
  ∃ v,(convert s d bG).run P w=.ok v w/\aU w R h μ c v:=by
 unfold uJ at al;split at al
 ·rename_i gY k k' n au bD;simp only[Option.some.injEq] at al; subst al;cases ak;exact⟨.int k (k.wrap n),by simp[convert,cq au,cq bD,Conv.intToInt],.int _ _⟩
 ·rename_i fo au bD;simp only[Option.some.injEq] at al; subst al;cases ak with
  | str bs=>exact⟨.string bs,by simp[convert,cq au,cq bD],.str _⟩
 ·rename_i e au bD UE;cases CT:P.underlying e with
  | none=>rw[CT] at al; cases al
  | some ar2=>
   rw[CT] at al;split at al
   ·rename_i heq;simp only[Option.some.injEq] at heq al; subst heq al;cases ak;refine⟨.string ByteArray.empty,by simp[convert,cq au,cq bD,cq CT,Conv.bytesToString],?_⟩;exact .str ByteArray.empty
   ·rename_i heq vi;simp only[Option.some.injEq] at heq; subst heq;split at al
    ·cases al
    ·rename_i cs n aiN ds;cases nO:lh cs with
     | none=>rw[nO] at al; cases al
     | some bs=>
      rw[nO] at al;simp only[Option.map_some,Option.some.injEq] at al; subst al;obtain⟨bJ,bw,vs,cA,jT⟩:=s1 (P:=P) rel ds ak;have aJ:=jT n (Nat.le_refl _) w (fun _=>rfl);obtain⟨ns,rfl,rfl⟩:=EP cs vs bs nO cA.1 cA.2;have zD:(ns.map (Value.int .u8)).take (n*1)=ns.map (Value.int .u8) :=List.take_of_length_le (by rw[cA.1,bJ]; exact Nat.le_refl _);rw[zD] at aJ;have Il:∃ a len cap,bG=.slice a len cap:=by
       cases ak<;>first | exact⟨_,_,_,rfl⟩ | (simp[contents] at ds; done) | (exact absurd rfl (aiN _))
      obtain⟨a,len,cap,rfl⟩:=Il;simp only[Builtin.lenOf,Sem.run_pure,Result.ok.injEq] at bw;obtain⟨rfl,_⟩:=bw;have ahF:=SO ns ByteArray.empty;refine⟨.string (ns.foldl (fun r n=>r.push (UInt8.ofNat n.toNat)) ByteArray.empty),?_,?_⟩
      ·rw[run_convert_bytes_string w s d e a len cap au CT bD];cases a with
       | none=>
        simp only[Builtin.firstCells,Sem.run_pure,Result.ok.injEq] at aJ;have kX:ns=[] :=by
         have:=congrArg Array.toList aJ.1;simpa using this.symm
        subst kX;simp[Conv.bytesToString]
       | some a=>
        simp only[Builtin.firstCells,Nat.mul_one] at aJ;exact run_bytesToString w a len cap ns aJ
      ·have:(ns.foldl (fun r n=>r.push (UInt8.ofNat n.toNat)) ByteArray.empty).data.toList=ns.map fun n=>UInt8.ofNat n.toNat:=by rw[ahF]; rfl
       rw[<-this];exact .str _
    ·cases al
   ·cases al
 ·cases al
theorem MW (rel:b6 R B w h μ) {w' : World} (aj:RowKit.Below w.heap.size w w') (oT:w.drawn<=w'.drawn:=by first | exact Nat.le_refl _ | exact Nat.le_succ _) :di w h μ w' h μ/\b6 R B w' h μ:=by
 have e:di w h μ w' h μ:=⟨⟨aj.os,aj.tape,aj.output,aj.size,fun k aF _=>aj.block k aF,fun _ az=>.inl az,fun b sz cs m h1 ag=>.inl ⟨cs,h1,ag⟩,fun _ _ ay=>ay,fun _ _ _ h1 ag=>⟨h1,ag⟩,Nat.le_refl _,oT⟩,fun _ _ hm=>hm⟩
 refine⟨e,fun b m hm=>?_,rel.inj,rel.base,rel.fresh,rel.up,Nat.le_trans rel.size aj.size,rel.jJ⟩;cases ar:live (h.f b) with
 | false=>cases al:h.f b<;>first | trivial | (rw[al] at ar; cases ar)
 | true=>exact (rel.blk b m hm).ext e.toExt0 (aj.block _ (rel.lt ar hm))
theorem aef (rel:b6 R B w h μ) {s d:TypeId} {x c:ae} {bG:Value} (al:wj P s d x=some c) (ak:aU w R h μ x bG) :
  ∃ v w',(convert s d bG).run P w=.ok v w'/\di w h μ w' h μ/\b6 R B w' h μ/\aU w' R h μ c v:=by
 unfold wj at al;split at al
 ·rename_i gY e fo au bD;split at al
  ·rename_i aL;simp only[Option.some.injEq] at al; subst al;cases ak with
   | str bs=>
    have H9:RowKit.Below w.heap.size w (Lib.bytesWorld w e bs) :=⟨rfl,rfl,rfl,by rw[Lib.bytesWorld_size]; omega,fun k aF=>Lib.bytesWorld_at_old w e bs k aF⟩
    obtain⟨h1,ag⟩:=MW rel H9;refine⟨_,_,Lib.run_convert_string_bytes w s d e bs au bD aL,h1,ag,?_⟩;have gE:bs.data.toList.length=bs.size:=by simp
    have iZ:¬ ka h μ w.heap.size:=by
     rintro⟨b,m,ar,hm,aw⟩;have:=rel.lt ar hm;omega
    have cX:bs.size<=grownCap w bs.size 0 e:=grownCap_ge w bs.size 0 e;have:=aU.bW (w:=Lib.bytesWorld w e bs) (R:=R) (h:=h) (μ:=μ) 1 (bs.data.toList.map fun b=>[hL b]) w.heap.size 0 (grownCap w bs.size 0 e) (fun i _=>.int .u8 (bs.data.toList.getD i 0).toNat)
     (by simpa using cX) (fun e aw=>by obtain⟨b,_,rfl⟩:=List.mem_map.1 aw; rfl)
     (fun i j aA am=>by
      have fq:i<bs.size:=by simpa using aA
      have:j=0:=by omega
      subst this;exact⟨by simpa using Lib.bytesWorld_cell w e bs i fq,rfl,rel.up _ rel.size,iZ⟩)
     (fun i e aw j c am=>by
      rw[List.getElem?_map] at aw;cases aj:bs.data.toList[i]? with
      | none=>rw[aj] at aw; cases aw
      | some b=>
       rw[aj] at aw;simp only[Option.map_some,Option.some.injEq] at aw; subst aw;cases j with
       | zero=>
        simp only[List.getElem?_cons_zero,Option.some.injEq] at am; subst am;have:bs.data.toList.getD i 0=b:=by simp[List.getD,aj]
        rw[this];exact .int _ _
       | succ j=>simp at am)
    rw[List.length_map,gE] at this;exact this
  ·cases al
 ·cases al
theorem aeX {t ty:TypeId} {x c:ae} {bG:Value} (al:wm P t x=some c) (ak:aU w R h μ x bG) :∃ v,(Builtin.cap_ #[t] ty #[bG]).run P w=.ok v w/\aU w R h μ c v:=by
 unfold wm at al;split at al<;>(try (simp only[Option.some.injEq] at al; subst al))
 ·rename_i n e aL;exact⟨goInt n,by simp[Builtin.cap_,cq aL],.int _ _⟩
 ·rename_i e aL;cases ak;exact⟨goInt (0:Nat),by simp[Builtin.cap_,cq aL],.int _ _⟩
 ·cases al
theorem afa (rel:b6 R B w h μ) {t ty:TypeId} {x:ae} {bG:Value} {h' : aR} (al:wo P h t x=some h') (ak:aU w R h μ x bG) :
  ∃ w',(Builtin.clear_ #[t] ty #[bG]).run P w=.ok (.tuple #[]) w'/\di w h μ w' h' μ/\b6 R B w' h' μ:=by
 unfold wo at al;split at al
 ·rename_i e aL;simp only[Option.some.injEq] at al; subst al;cases ak;exact⟨w,by simp[Builtin.clear_,cq aL],.refl _ _ _,rel⟩
 ·rename_i e z aL;simp only[Option.some.injEq] at al; subst al;cases ak<;>exact⟨w,by simp[Builtin.clear_,cq aL],.refl _ _ _,rel⟩
 ·rename_i e z b off len cap sz aL;split at al
  ·rename_i tq;simp only[Option.some.injEq] at al; subst al;subst tq;cases ak<;>exact⟨w,by simp[Builtin.clear_,cq aL],.refl _ _ _,rel⟩
  ·rename_i tq;split at al
   ·rename_i zero m cs aC aj;split at al
    ·rename_i zc;obtain⟨rfl,rfl⟩:=zc;simp only[Option.some.injEq] at al; subst al;cases ak with
     | gR=>exact absurd rfl tq
     | fE _ _ _ _ _ _ cap' a ar c7 ay=>
      exfalso;rcases ay with ay | ⟨f3,cs',ay,aS⟩
      ·rw[ay] at aj; cases aj
      ·rw[ay] at aj; cases aj; omega
     | ao _ _ _ _ _ _ cap' cs' cf bK hm ar az c7=>
      have dY:=rel.blk b cf hm;rw[aj] at dY;obtain⟨TN,eu,_⟩:=dY;obtain⟨v,ax,aD⟩:=uv (P:=P) (w:=w) (R:=R) (h:=h) (μ:=μ) aC;have I2:=DJ aD len;have rQ:len*zero.length<=cap*zero.length:=Nat.mul_le_mul_right _ ar;have n1:(dd zero len).length=len*zero.length:=vK len;have kR:max m (off+(dd zero len).length)=m:=by rw[n1]; omega
      have gN:v.cells.size=zero.length:=aD.1;have CV:(Builtin.zeroCells v.cells len)=(Array.range (len*zero.length)).map (v.cells[· % v.cells.size]!) :=by
       unfold Builtin.zeroCells;rw[gN]
      obtain⟨w',h1,ag,aq⟩:=vW (P:=P) rel (cvs:=dd zero len) (vs:=(Builtin.zeroCells v.cells len).toList) (k:=off) aj hm (by omega)
       (by rw[CV,n1]; simp) (by rw[kR]; omega) (fun j c am=>by
        rw[CV];obtain⟨u,bt,bE,a3⟩:=I2.2 j c am;exact⟨u,by rw[Array.getElem?_toList]; exact bt,bE,a3⟩)
      rw[kR] at ag aq;refine⟨w',?_,ag,aq⟩;cases bw:len with
      | zero=>exact absurd bw tq
      | succ auT=>
       rw[bw] at h1;simp[Builtin.clear_,cq aL,ax,h1]
    ·cases al
   ·cases al
 ·cases al
theorem adF (rel:b6 R B w h μ) {t u ty:TypeId} {k:IntKind} {s x c:ae} {af bG:Value} {h' : aR} (aL:P.underlying u=some (.int k)) (aI:yn P h t s x=some (c,h')) (au:aU w R h μ s af) (ak:aU w R h μ x bG) :
  ∃ v w' μ',(Builtin.append_ #[t,u] ty #[af,bG]).run P w=.ok v w'/\di w h μ w' h' μ'/\b6 R B w' h' μ'/\aU w' R h' μ' c v:=by
 unfold yn at aI;split at aI
 ·rename_i e n aw aA;have i0:=yP aw;obtain⟨ph,rfl⟩:=pS aA ak;split at aI
  ·rename_i z by_ zero aC dE hA;split at aI
   ·rename_i ic;obtain⟨gN,rR,atf,dk⟩:=ic;obtain⟨i,zv,oY,j0,ih,_⟩:=acM (P:=P) (w:=w) (R:=R) (h:=h) (μ:=μ) hA;have n3:i.size=z:=by simpa [cr,oY] using aC
    have kn:i.bytes=by_:=by simpa [iT,oY] using dE
    have xk:IntKind.i64.wrap n=n:=by
     simp[IntKind.wrap,IntKind.bits,IntKind.signed]; omega
    have aH:(n.toNat:Int)=n:=by omega
    have nV:¬ (n<0) :=by omega
    have asz:¬ (2 ^ 48<n*(by_:Int)) :=by
     have h1:((n.toNat*by_:Nat) :Int)=n*by_:=by rw[Int.natCast_mul,aH]
     have ag:((n.toNat*by_:Nat) :Int)<=((140737488355328:Nat) :Int) :=Int.ofNat_le.2 dk;rw[h1] at ag;omega
    have cA:jP w R h μ (dd zero n.toNat) (Builtin.zeroCells zv.cells n.toNat) :=by
     obtain⟨v,ax,aD⟩:=uv (P:=P) (w:=w) (R:=R) (h:=h) (μ:=μ) hA;have ajz:v=zv:=by
      have:=ax w;simp[zeroValue,typeInfo,oY,j0] at this;exact this.symm
     subst ajz;have I2:=DJ aD n.toNat
     have CV:(Builtin.zeroCells v.cells n.toNat)=(Array.range (n.toNat*zero.length)).map (v.cells[· % v.cells.size]!) :=by
      unfold Builtin.zeroCells;rw[aD.1]
     rw[CV];exact I2
    have n1:(dd zero n.toNat).length=n.toNat*z:=by rw[vK,gN]
    have tg:∀ w2:World,(Go.asInt (.int ph n)).run P w2=.ok n w2:=fun w2=>rfl
    have ta:¬ (281474976710656<n*(by_:Int)) :=by omega
    have qw:∀ w2:World,(zeroValue e).run P w2=.ok zv w2:=fun w2=>by simp[zeroValue,typeInfo,oY,j0]
    have Vh:n.toNat*z=0->Builtin.zeroCells zv.cells n.toNat=#[] :=fun aO=>by
     apply Array.eq_empty_of_size_eq_zero;unfold Builtin.zeroCells;simp[ih,gN,aO]
    refine Oy rel aC dE aI au n1 (vs:=(Builtin.zeroCells zv.cells n.toNat).toList) ⟨by simpa using cA.1,fun j c am=>by
     obtain⟨v,bt,bE,a3⟩:=cA.2 j c am;exact⟨v,by rw[Array.getElem?_toList]; exact bt,bE,a3⟩⟩ (fun base sLen fQ w' dF cI=>?_) (fun i3 awY fq Vj base sLen fQ eZ az ay aD aj=>?_)
    ·by_cases aO:n.toNat*z=0
     ·rw[Vh aO] at cI;cases base with
      | none=>
       subst cI;simp[Builtin.append_,tg,cq i0,cq aL,e5 aC,xk,nV,typeInfo,oY,kn,dF,ta,aO]
      | some a=>
       simp only at cI;simp[Builtin.append_,tg,cq i0,cq aL,e5 aC,xk,nV,typeInfo,oY,kn,dF,ta,aO,cI]
     ·cases base with
      | none=>
       subst cI;simp[Builtin.append_,tg,cq i0,cq aL,e5 aC,xk,nV,typeInfo,oY,kn,dF,ta,aO,qw]
      | some a=>
       simp only at cI;simp[Builtin.append_,tg,cq i0,cq aL,e5 aC,xk,nV,typeInfo,oY,kn,dF,ta,aO,qw,cI]
    ·rw[oY] at fq;cases fq;rw[j0] at Vj;cases Vj;have oV:¬ (281474976710656<Builtin.nextslicecap (sLen+n.toNat) fQ*i.bytes) :=by
      have:=growslice_fits (need:=sLen+n.toNat) (old:=fQ) (bytes:=i.bytes) ay aD;omega
     have UG:¬ (sLen+n.toNat<=fQ) :=by omega
     have vh:¬ ((9223372036854775807:Int)<((sLen+n.toNat:Nat) :Int)) :=by
      have h1:(sLen+n.toNat)*1<=(sLen+n.toNat)*i.bytes:=Nat.mul_le_mul_left _ aj;unfold cQ at aD;omega
     have UC:¬ ((9223372036854775807:Int)<(sLen:Int)+max n 0) :=by omega
     rw[n3] at az;rw[kn] at oV;by_cases aO:n.toNat*z=0
     ·have vd:(eZ++(Builtin.zeroCells zv.cells n.toNat).toList).toArray=eZ.toArray:=by rw[Vh aO]; simp
      rw[vd];simp[Builtin.append_,tg,cq i0,cq aL,e5 aC,xk,nV,typeInfo,oY,kn,UG,ta,vh,UC,oV,aO,qw,az,Question.forced,newRow,grownCap]
     ·have vd:(eZ++(Builtin.zeroCells zv.cells n.toNat).toList).toArray=eZ.toArray++Builtin.zeroCells zv.cells n.toNat:=by simp
      rw[vd];simp[Builtin.append_,tg,cq i0,cq aL,e5 aC,xk,nV,typeInfo,oY,kn,UG,ta,vh,UC,oV,aO,qw,az,Question.forced,newRow,grownCap]
   ·cases aI
  ·cases aI
 ·cases aI
end
section
variable {P:Program} {w:World} {R:Nat->Prop} {B:Nat} {h:aR} {μ:cD}
theorem adS {op:BinOp} {t:TypeId} {k k' : IntKind} {a b:Int} {c:ae} (al:cn op k a k' b=some c) :
  ∃ v,(binOp op t (.int k a) (.int k' b)).run P w=.ok v w/\aU w R h μ c v:=by
 cases op
 case shl=>
  simp only[cn] at al;split at al
  ·cases al
  ·rename_i aj;simp only[Option.some.injEq] at al; subst al;exact⟨_,by simp[binOp,Op.shift,aj],.int _ _⟩
 case shr=>
  simp only[cn] at al;split at al
  ·cases al
  ·rename_i aj;simp only[Option.some.injEq] at al; subst al;exact⟨_,by simp[binOp,Op.shift,aj],.int _ _⟩
 case quo=>
  simp only[cn] at al;split at al
  ·rename_i aj;obtain⟨rfl,aj⟩:=aj;simp only[Option.some.injEq] at al; subst al;exact⟨_,by simp[binOp,Op.intDiv,aj],.int _ _⟩
  ·cases al
 case rem=>
  simp only[cn] at al;split at al
  ·rename_i aj;obtain⟨rfl,aj⟩:=aj;simp only[Option.some.injEq] at al; subst al;exact⟨_,by simp[binOp,Op.intDiv,aj],.int _ _⟩
  ·cases al
 all_goals
  simp only[cn] at al;split at al
  ·rename_i aF;subst aF;simp only[Option.some.injEq] at al; subst al
   first
    | (refine⟨_,?_,.int _ _⟩; unfold binOp; simp only[ne_eq,not_true_eq_false,if_false]; rfl)
    | (refine⟨_,?_,.bool _⟩; unfold binOp; simp only[ne_eq,not_true_eq_false,if_false]; rfl)
  ·cases al
theorem toList_eq (s:ByteArray) :s.toList=s.data.toList:=by
 rw[ByteArray.toList_eq]
theorem adT {op:BinOp} {t:TypeId} {a b:ByteArray} {c:ae} (al:oG op a.data.toList b.data.toList=some c) :
  ∃ v,(binOp op t (.string a) (.string b)).run P w=.ok v w/\aU w R h μ c v:=by
 cases op<;>simp only[oG] at al<;>try (cases al; done)
 case add=>
  split at al
  ·rename_i dO;simp only[Option.some.injEq] at al; subst al;have h1:a.data.toList.length=a.size:=by simp
   have ag:b.data.toList.length=b.size:=by simp
   rw[h1,ag] at dO;have zo:¬ ((9223372036854775807:Int)<(a.size:Int)+(b.size:Int)) :=by omega
   have ar:(a++b).data.toList=a.data.toList++b.data.toList:=by simp
   refine⟨.string (a++b),by simp[binOp,Op.stringOp,zo],?_⟩;rw[<-ar];exact .str _
  ·cases al
 all_goals
  simp only[Option.some.injEq] at al; subst al;exact⟨_,by simp[binOp,Op.stringOp,toList_eq],.bool _⟩
theorem afZ {d:Nat} {t:TypeId} {a b:Bool} (aL:P.underlying t=some .bool) :(Op.equalIn (d+1) t (.bool a) (.bool b)).run P w=.ok (a == b) w:=by
 simp[Op.equalIn,cq aL]
theorem af0 {d:Nat} {t:TypeId} {hY k:IntKind} {a b:Int} (aL:P.underlying t=some (.int hY)) :(Op.equalIn (d+1) t (.int k a) (.int k b)).run P w=.ok (a == b) w:=by
 simp[Op.equalIn,cq aL]
theorem af1 {d:Nat} {t:TypeId} {a b:ByteArray} (aL:P.underlying t=some .string) :(Op.equalIn (d+1) t (.string a) (.string b)).run P w=.ok (a.data.toList == b.data.toList) w:=by
 simp[Op.equalIn,cq aL,toList_eq,beq_toListBytes]
theorem Hr {d:Nat} {t e:TypeId} {x y l c:Nat} {b:Option Addr} (aL:P.underlying t=some (.slice e)) :(Op.equalIn (d+1) t (.slice none x y) (.slice b l c)).run P w=.ok b.isNone w:=by
 simp[Op.equalIn,cq aL]
theorem Sv {d:Nat} {t e:TypeId} {x y l c:Nat} {a:Addr} (aL:P.underlying t=some (.slice e)) :(Op.equalIn (d+1) t (.slice (some a) l c) (.slice none x y)).run P w=.ok false w:=by
 simp[Op.equalIn,cq aL]
theorem Hp {d:Nat} {xs bd:List ae} {pF pG:Array Value}
  (aM:∀ (t:TypeId) (x y:ae) (b:Bool) (bG fb:Value),dT P d t x y=some b->aU w R h μ x bG->aU w R h μ y fb->(Op.equalIn d t bG fb).run P w=.ok b w)
  (qs:jP w R h μ xs pF) (qt:jP w R h μ bd pG) :∀ (l:List Field) (b:Bool),dT.eqFields P (dT P d) xs bd l=some b->(Op.eqFields d pF pG l).run P w=.ok b w
 | [],b,aj=>by simp only[dT.eqFields,Option.some.injEq] at aj; subst aj; simp[Op.eqFields]
 | f::l,b,aj=>by
  unfold dT.eqFields at aj;unfold Op.eqFields;by_cases aJ:f.name= "_"
  ·rw[if_pos aJ] at aj;simp[aJ,Hp aM qs qt l b aj]
  ·rw[if_neg aJ] at aj;split at aj
   ·rename_i a c aI al;obtain⟨g8,h1,ag⟩:=tT (P:=P) aI qs;obtain⟨eL,aq,aK⟩:=tT (P:=P) al qt;split at aj
    ·rename_i heq;have:=aM f.type a c true g8 eL heq ag aK;simp[aJ,h1,aq,this,Hp aM qs qt l b aj]
    ·rename_i heq;have:=aM f.type a c false g8 eL heq ag aK;simp only[Option.some.injEq] at aj; subst aj;simp[aJ,h1,aq,this]
    ·cases aj
   ·cases aj
theorem Ss {d z:Nat} {e:TypeId} {xs bd:List ae} {pF pG:Array Value}
  (aM:∀ (t:TypeId) (x y:ae) (b:Bool) (bG fb:Value),dT P d t x y=some b->aU w R h μ x bG->aU w R h μ y fb->(Op.equalIn d t bG fb).run P w=.ok b w)
  (qs:jP w R h μ xs pF) (qt:jP w R h μ bd pG) (f:Nat->Option Bool × Unit->Sem (ForInStep (Option Bool × Unit)))
  (aJ:∀ (i:Nat) (g8 eL:Value) (b:Bool) (r:Option Bool × Unit),(part e pF (i*z)).run P w=.ok g8 w->(part e pG (i*z)).run P w=.ok eL w->(Op.equalIn d e g8 eL).run P w=.ok b w->
   (f i r).run P w=.ok (if b then .yield (none,()) else .done (some false,())) w) :
  ∀ (n i:Nat) (b:Bool),dT.p1 P (dT P d) e z xs bd n i=some b->(forIn (List.range' i n) (none,()) f).run P w=.ok (if b then (none,()) else (some false,())) w
 | 0,i,b,aj=>by
  simp only[dT.p1,Option.some.injEq] at aj; subst aj;simp
 | n+1,i,b,aj=>by
  unfold dT.p1 at aj;split at aj
  ·rename_i a c aI al;obtain⟨g8,h1,ag⟩:=tT (P:=P) aI qs;obtain⟨eL,aq,aK⟩:=tT (P:=P) al qt;rw[List.range'_succ,List.forIn_cons];split at aj
   ·rename_i heq;have bp:=aM e a c true g8 eL heq ag aK;have aQ:=aJ i g8 eL true (none,()) (h1 w) (aq w) bp;simp only[Sem.run_bind,aQ,if_true,Result.andThen_ok];exact Ss aM qs qt f aJ n (i+1) b aj
   ·rename_i heq;have bp:=aM e a c false g8 eL heq ag aK;have aQ:=aJ i g8 eL false (none,()) (h1 w) (aq w) bp;simp only[Option.some.injEq] at aj; subst aj;simp[aQ]
   ·cases aj
  ·cases aj
theorem run_equalIn_array {d n z:Nat} {t e:TypeId} {pF pG:Array Value} (aL:P.underlying t=some (.array n e)) (aC:cr P e=some z) {b:Bool}
  (aF:∀ f:Nat->Option Bool × Unit->Sem (ForInStep (Option Bool × Unit)),
   (∀ (i:Nat) (g8 eL:Value) (b:Bool) (r:Option Bool × Unit),(part e pF (i*z)).run P w=.ok g8 w->(part e pG (i*z)).run P w=.ok eL w->(Op.equalIn d e g8 eL).run P w=.ok b w->(f i r).run P w=.ok (if b then .yield (none,()) else .done (some false,())) w)->
   (forIn (List.range' 0 n) (none,()) f).run P w=.ok (if b then (none,()) else (some false,())) w) :
  (Op.equalIn (d+1) t (.agg pF) (.agg pG)).run P w=.ok b w:=by
 simp only[Op.equalIn,Sem.run_bind,cq aL,Result.andThen_ok,e5 aC];rw[Std.Legacy.Range.forIn_eq_forIn_range'];have aD:List.range' ([:n] :Std.Legacy.Range).start ([:n] :Std.Legacy.Range).size ([:n] :Std.Legacy.Range).step=List.range' 0 n:=by simp[Std.Legacy.Range.size]
 rw[aD,aF]
 ·cases b<;>simp
 ·intro i g8 eL b r h1 ag aq;cases b<;>simp[h1,ag,aq]
theorem Hq:∀ (d:Nat) (t:TypeId) (x y:ae) (b:Bool) (bG fb:Value),dT P d t x y=some b->aU w R h μ x bG->aU w R h μ y fb->
  (Op.equalIn d t bG fb).run P w=.ok b w:=by
 intro d
 induction d with
 | zero=>intro t x y b bG fb aw; simp[dT] at aw
 | succ d aM=>
  intro t x y b bG fb aw ak aP;unfold dT at aw;split at aw
  ·rename_i a bu aL;simp only[Option.some.injEq] at aw; subst aw;cases ak; cases aP;exact afZ aL
  ·rename_i hY k a k' bu aL;split at aw
   ·rename_i aF; subst aF;simp only[Option.some.injEq] at aw; subst aw;cases ak; cases aP;exact af0 aL
   ·cases aw
  ·rename_i a bu aL;simp only[Option.some.injEq] at aw; subst aw;cases ak; cases aP;exact af1 aL
  ·rename_i fs xs bd aL;split at aw
   ·cases aw
   ·rename_i cI;obtain⟨pF,rfl,qs⟩:=sK ak;obtain⟨pG,rfl,qt⟩:=sK aP;have CP:P.stoodInHeld t=false:=by simpa using cI
    have oU:P.fieldsOf t=fs:=by simp[Program.fieldsOf,aL]
    rw[run_equalIn_struct w d t pF pG (by rw[oU]; exact aL) CP,oU];exact Hp aM qs qt _ _ aw
  ·rename_i n e xs bd aL;cases aC:cr P e with
   | none=>rw[aC] at aw; cases aw
   | some z=>
    rw[aC] at aw;simp only at aw;obtain⟨pF,rfl,qs⟩:=sK ak;obtain⟨pG,rfl,qt⟩:=sK aP;exact run_equalIn_array aL aC (fun f aJ=>Ss aM qs qt f aJ n 0 b aw)
  ·rename_i e aL;simp only[Option.some.injEq] at aw; subst aw;cases ak; cases aP;exact Hr aL
  ·rename_i e z bu off len cap sz aL;simp only[Option.some.injEq] at aw; subst aw;cases ak; cases aP<;>exact Hr aL
  ·rename_i e z es aL;simp only[Option.some.injEq] at aw; subst aw;cases ak; cases aP<;>exact Hr aL
  ·rename_i e z bu off len cap sz aL;simp only[Option.some.injEq] at aw; subst aw;cases aP; cases ak<;>exact Sv aL
  ·rename_i e z es aL;simp only[Option.some.injEq] at aw; subst aw;cases aP; cases ak<;>exact Sv aL
  ·cases aw
end
end Go.cj

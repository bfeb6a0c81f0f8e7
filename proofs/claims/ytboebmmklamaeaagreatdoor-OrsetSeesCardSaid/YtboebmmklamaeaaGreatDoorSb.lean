/-
  The canonical machine, part E: slices: what they hold, append, slicing, copy, make, len.
-/
import Derived.Test.YtboebmmklamaeaaGreatDoorSa
import Derived.Lib.IndexBytes
import Derived.Laws.BytesString
import Derived.Lib.ConvBytes
set_option linter.unusedVariables false
set_option linter.unusedSimpArgs false
set_option linter.unnecessarySimpa false
namespace Go.cl
open Go
section
variable {P:Program} {w:World} {R:Nat->Prop} {B:Nat} {h:aM} {μ:cG}
theorem l3 {α:Type} {z:Nat}:∀ {es:List (List α)},(∀ e,e∈es->e.length=z)->es.flatten.length=es.length*z
 | [],_=>by simp
 | e::es,aB=>by
  rw[List.flatten_cons,List.length_append,aB e (by simp),l3 (fun e aw=>aB e (by simp[aw])),List.length_cons,Nat.succ_mul,Nat.add_comm]
theorem RZ {α:Type} {z:Nat}:∀ {es:List (List α)} {j:Nat} {c:α},(∀ e,e∈es->e.length=z)->es.flatten[j]? = some c->
  ∃ i k e,j=i*z+k/\k<z/\es[i]? = some e/\e[k]? = some c
 | [],_,_,_,am=>by simp at am
 | e::es,j,c,aB,am=>by
  have aw:=aB e (by simp);rw[List.flatten_cons] at am;by_cases aN:j<e.length
  ·rw[List.getElem?_append_left aN] at am;exact⟨0,j,e,by simp,by omega,rfl,am⟩
  ·rw[List.getElem?_append_right (by omega)] at am;obtain⟨i,k,eH,h1,af,ap,aH⟩:=RZ (fun e aw=>aB e (by simp[aw])) am;exact⟨i+1,k,eH,by rw[Nat.succ_mul]; omega,af,by simpa using ap,aH⟩
def qS (w:World) (R:Nat->Prop) (h:aM) (μ:cG) (xs:List ae) (vs:List Value) :Prop:=
 vs.length=xs.length/\∀ (j:Nat) (c:ae),xs[j]? = some c->∃ v:Value,vs[j]? = some v/\v.oneCell'=true/\aP w R h μ c v
theorem MS {w2:World} {xs:List ae} {blk o:Nat} (kP:∀ a,w2.cell? a=w.cell? a)
  (aj:∀ (j:Nat) (c:ae),xs[j]? = some c->∃ v:Value,w.cell? ⟨blk,o+j,none⟩=some v/\v.oneCell'=true/\aP w R h μ c v) :
  ∃ vs:List Value,qS w R h μ xs vs/\∀ k,k<=xs.length->∀ w2:World,(∀ a,w2.cell? a=w.cell? a)->(loadCells ⟨blk,o,none⟩ k).run P w2=.ok (vs.take k).toArray w2:=by
 have ax:∃ f:Nat->Value,∀ (j:Nat) (c:ae),xs[j]? = some c->w.cell? ⟨blk,o+j,none⟩=some (f j)/\(f j).oneCell'=true/\aP w R h μ c (f j) :=by
  refine⟨fun j=>(w.cell? ⟨blk,o+j,none⟩).getD undef,fun j c am=>?_⟩;obtain⟨v,h1,af,ap⟩:=aj j c am;simp only[h1,Option.getD_some];exact⟨trivial,af,ap⟩
 obtain⟨f,aJ⟩:=ax;refine⟨(List.range xs.length).map f,⟨by simp,fun j c am=>?_⟩,fun k aE w2 js=>?_⟩
 ·have aN:j<xs.length:=(List.getElem?_eq_some_iff.1 am).1;exact⟨f j,by simp[aN],(aJ j c am).2⟩
 ·have:=run_loadCells_list (P:=P) w2 ⟨blk,o,none⟩ (((List.range xs.length).map f).take k) (fun j v am=>by
   have hu:j<k:=by
    rcases Nat.lt_or_ge j k with h1 | h1
    ·exact h1
    ·rw[List.getElem?_eq_none (by simp; omega)] at am; cases am
   rw[List.getElem?_take_of_lt hu,List.getElem?_map] at am;have kQ:j<xs.length:=by omega
   rw[List.getElem?_range kQ] at am;simp only[Option.map_some,Option.some.injEq] at am;rw[Addr.kF,<-am,js];exact (aJ j _ (List.getElem?_eq_getElem kQ)).1)
  have aq:(((List.range xs.length).map f).take k).length=k:=by simp; omega
  rw[aq] at this;exact this
theorem sH (rel:b5 R B w h μ) {z n:Nat} {x:ae} {bK:Value} {xs:List ae} (ak:contents h z x=some (xs,n)) (aj:aP w R h μ x bK) :
  xs.length=n*z/\(Builtin.lenOf bK).run P w=.ok n w/\∃ vs:List Value,qS w R h μ xs vs ∧
   ∀ k,k<=n->∀ w2:World,(∀ a,w2.cell? a=w.cell? a)->(Builtin.firstCells z k bK).run P w2=.ok (vs.take (k*z)).toArray w2:=by
 cases aj with
 | a6=>
  simp only[contents,Option.some.injEq,Prod.mk.injEq] at ak;obtain⟨rfl,rfl⟩:=ak;exact⟨by simp,by simp[Builtin.lenOf],[],⟨rfl,fun j c am=>by simp at am⟩,fun k _ w2 _=>by simp[Builtin.firstCells]⟩
 | str bs=>
  simp only[contents] at ak;split at ak
  ·rename_i aB; subst aB;simp only[Option.some.injEq,Prod.mk.injEq] at ak;obtain⟨rfl,rfl⟩:=ak;refine⟨by simp,by simp[Builtin.lenOf],bs.data.toList.map fun b=>.int .u8 b.toNat,⟨by simp,fun j c am=>?_⟩,fun k aE w2 _=>?_⟩
   ·rw[List.getElem?_map] at am ⊢;cases ai:bs.data.toList[j]? with
    | none=>rw[ai] at am; cases am
    | some b=>
     rw[ai] at am;simp only[Option.map_some,Option.some.injEq] at am;subst am;exact⟨_,rfl,rfl,.int _ _⟩
   ·have aj:(bs.extract 0 k).data.toList=bs.data.toList.take k:=by
     simp[ByteArray.extract,ByteArray.copySlice]
    have aO:(bs.extract 0 k).data=(bs.data.toList.take k).toArray:=by rw[<-aj]
    simp only[Builtin.firstCells,aO];simp
  ·cases ak
 | b6 db es blk off cap dK aq aB kP ax=>
  simp only[contents] at ak;split at ak
  ·rename_i rH; subst rH;simp only[Option.some.injEq,Prod.mk.injEq] at ak;obtain⟨rfl,rfl⟩:=ak;have bz:=l3 aB;have cB:∀ (j:Nat) (c:ae),es.flatten[j]? = some c->∃ v:Value,w.cell? ⟨blk,off+j,none⟩=some v/\v.oneCell'=true/\aP w R h μ c v:=by
    intro j c am;obtain⟨i,k,e,rfl,aE,aw,afO⟩:=RZ aB am;have aA:i<es.length:=(List.getElem?_eq_some_iff.1 aw).1;have c4:=kP i k aA aE;exact⟨dK i k,c4.here,c4.one,ax i e aw k c afO⟩
   obtain⟨vs,h1,af⟩:=MS (P:=P) (w2:=w) (fun _=>rfl) cB;refine⟨bz,by simp[Builtin.lenOf],vs,h1,fun k aE w2 js=>?_⟩;have:=af (k*z) (by rw[bz]; exact Nat.mul_le_mul_right _ aE) w2 js;simp[Builtin.firstCells,this]
  ·cases ak
 | eZ db a cap=>
  simp only[contents] at ak;split at ak
  ·simp only[Option.some.injEq,Prod.mk.injEq] at ak;obtain⟨rfl,rfl⟩:=ak;exact⟨by simp,by simp[Builtin.lenOf],[],⟨rfl,fun j c am=>by simp at am⟩,fun k aE w2 _=>by
    obtain rfl:k=0:=by simpa using aE
    simp[Builtin.firstCells,loadCells,loadCellsFrom]⟩
  ·cases ak
 | ao db b off len cap sz cap' cs m ai hm aq ay cY=>
  simp only[contents,ai,true_and] at ak;split at ak
  ·rename_i rH; subst rH;simp only[Option.some.injEq,Prod.mk.injEq] at ak;obtain⟨rfl,rfl⟩:=ak;have dZ:=rel.blk b m hm;rw[ai] at dZ;obtain⟨h1,af,arr,t,fe,ap,aH,bc,bM⟩:=dZ;have ru:len*z<=cap*z:=Nat.mul_le_mul_right _ aq;have bz:((cs.drop off).take (len*z)).length=len*z:=by
    rw[List.length_take,List.length_drop]; omega
   have cB:∀ (j:Nat) (c:ae),((cs.drop off).take (len*z))[j]? = some c->∃ v:Value,w.cell? ⟨m.r,(m.s+off)+j,none⟩=some v/\v.oneCell'=true/\aP w R h μ c v:=by
    intro j c am;have aN:j<len*z:=by
     have:=(List.getElem?_eq_some_iff.1 am).1;rw[bz] at this; exact this
    rw[List.getElem?_take_of_lt aN,List.getElem?_drop] at am;obtain⟨v,bn,bA,a3⟩:=bM _ c am;exact⟨v,by simp[World.cell?,ap,Nat.add_assoc,bn],bA,a3⟩
   obtain⟨vs,cd,ce⟩:=MS (P:=P) (w2:=w) (fun _=>rfl) cB;refine⟨bz,by simp[Builtin.lenOf],vs,cd,fun k aE w2 js=>?_⟩;have:=ce (k*z) (by rw[bz]; exact Nat.mul_le_mul_right _ aE) w2 js;simp[Builtin.firstCells,this]
  ·cases ak
 | gS db b off sz a cs m ai hm=>
  simp only[contents,ai,true_and] at ak;split at ak
  ·rename_i rH; subst rH;simp only[Option.some.injEq,Prod.mk.injEq,Nat.zero_mul,List.take_zero] at ak;obtain⟨rfl,rfl⟩:=ak;exact⟨by simp,by simp[Builtin.lenOf],[],⟨rfl,fun j c am=>by simp at am⟩,fun k aE w2 _=>by
    obtain rfl:k=0:=by simpa using aE
    simp[Builtin.firstCells,loadCells,loadCellsFrom]⟩
  ·cases ak
 | fA db b off len cap sz cap' a aq S0 az=>
  unfold contents at ak;rcases az with az | ⟨ga,cs',az,aN⟩
  ·simp[az] at ak
  ·simp only[az] at ak;split at ak
   ·omega
   ·cases ak
 | _=>simp[contents] at ak
theorem yp {t e:TypeId} (aw:hp P t=some e) :P.underlying t=some (.slice e) :=by
 unfold hp at aw;split at aw
 ·rename_i eH aL; cases aw; exact aL
 ·cases aw
def xq (P:Program) (u:TypeId) :Prop:=∃ d,P.underlying u=some d/\∀ k,d≠.int k
theorem UH (d:TypeDesc) (aE:∀ k,d≠.int k) :(match d with | .int _=>true | _=>false)=false:=by
 cases d with
 | int k=>exact absurd rfl (aE k)
 | _=>rfl
theorem run_append_fits {t u ty e:TypeId} {z n sLen fM:Nat} {base:Option Addr} {bK:Value} {vs:List Value} {w' : World} (aw:P.underlying t=some (.slice e)) (aB:cv P e=some z) (aL:xq P u)
  (aq:(Builtin.lenOf bK).run P w=.ok n w) (aJ:(Builtin.firstCells z n bK).run P w=.ok vs.toArray w) (dF:sLen+n<=fM)
  (cm:match base with | some a=>(storeCells (a.add (sLen*z)) vs).run P w=.ok () w' | none=>w'=w) :
  (Builtin.append_ #[t,u] ty #[.slice base sLen fM,bK]).run P w=.ok (.slice base (sLen+n) fM) w':=by
 obtain⟨d,bJ,aE⟩:=aL;have B5:=UH d aE;cases base with
 | none=>
  subst cm;simp[Builtin.append_,cu aw,e4 aB,cu bJ,B5,aq,dF,aJ]
 | some a=>
  simp only at cm;simp[Builtin.append_,cu aw,e4 aB,cu bJ,B5,aq,dF,aJ,cm]
theorem alh {t u ty e:TypeId} {i:TypeInfo} {zv:Value} {n sLen fM:Nat} {base:Option Addr} {bK:Value} {eX vs:List Value} (aw:P.underlying t=some (.slice e)) (aA:P.info? e=some i) (jU:i.zero=some zv) (aL:xq P u)
  (aq:(Builtin.lenOf bK).run P w=.ok n w) (aJ:(Builtin.firstCells i.size n bK).run P w.drew=.ok vs.toArray w.drew) (ay:(Builtin.firstCells i.size sLen (.slice base sLen fM)).run P w.drew=.ok eX.toArray w.drew)
  (nN:fM<sLen+n) (ds:(sLen+n)*i.bytes<=cJ) (ai:0<i.bytes) :
  (Builtin.append_ #[t,u] ty #[.slice base sLen fM,bK]).run P w =
   .ok (.slice (some ⟨w.heap.size,0,none⟩) (sLen+n) (grownCap w (sLen+n) fM e)) (w.drew.alloc (.cells ((eX++vs).toArray++Builtin.zeroCells zv.cells (grownCap w (sLen+n) fM e - (sLen+n))) e)) :=by
 obtain⟨d,bJ,aE⟩:=aL;have B5:=UH d aE;have aB:cv P e=some i.size:=by simp[cv,aA]
 have aI:¬ (sLen+n<=fM) :=by omega
 have sP:¬ (281474976710656<Builtin.nextslicecap (sLen+n) fM*i.bytes) :=by
  have:=growslice_fits nN ds;omega
 have km:¬ (i.bytes=0) :=by omega
 simp[Builtin.append_,cu aw,e4 aB,cu bJ,B5,aq,aI,typeInfo,aA,sP,km,Question.forced,ay,aJ,zeroValue,jU,newRow,grownCap];rw[<-Array.append_assoc,List.append_toArray eX vs]
theorem dk.drew {h' : aM} {μ' : cG} {w' : World} (e:dk w h μ w' h' μ') :dk w h μ w' h' μ':=e
theorem alL {s:ae} {ag:Value} (ar:aP w R h μ s ag) (aE:s=.a6\/(∃ z es,s=.b6 z es)\/∃ z b off len cap sz,s=.ao z b off len cap sz) :
  ∃ base sLen fM,ag=.slice base sLen fM/\sLen<=fM:=by
 cases ar<;>simp at aE
 ·exact⟨_,_,_,rfl,Nat.le_refl _⟩
 ·rename_i aq ay c4;exact⟨_,_,_,rfl,by omega⟩
 ·rename_i aq S0 az;exact⟨_,_,_,rfl,by omega⟩
 ·exact⟨_,_,_,rfl,Nat.le_refl _⟩
 ·rename_i aq aB ak ax;exact⟨_,_,_,rfl,by omega⟩
 ·exact⟨_,_,_,rfl,Nat.zero_le _⟩
theorem abk {e:TypeId} {z:Nat} (aB:qI P e=some z) :∃ i v,P.info? e=some i/\i.zero=some v/\v.cells.size=z:=by
 unfold qI at aB;cases aA:P.info? e with
 | none=>rw[aA] at aB; cases aB
 | some i=>
  rw[aA] at aB;simp only[Option.bind_some] at aB;cases ax:i.zero with
  | none=>rw[ax] at aB; cases aB
  | some v=>rw[ax] at aB; exact⟨i,v,rfl,ax,by simpa using aB⟩
theorem yB {e:TypeId} {zv:Value} {z need cap:Nat} {xs:List ae} {vs:List Value} (aB:zv.cells.size=z) (aq:xs.length=need*z) (kZ:qS w R h μ xs vs) (cY:need<=cap) :
  (vs.toArray++Builtin.zeroCells zv.cells (cap - need)).size=cap*z ∧
  ∀ (j:Nat) (c:ae),xs[j]? = some c->∃ v:Value,(vs.toArray++Builtin.zeroCells zv.cells (cap - need))[j]? = some v/\v.oneCell'=true/\aP w R h μ c v:=by
 refine⟨?_,fun j c am=>?_⟩
 ·have h1:(Builtin.zeroCells zv.cells (cap - need)).size=(cap - need)*z:=by simp[Builtin.zeroCells,aB]
  have af:need*z+(cap - need)*z=cap*z:=by rw[<-Nat.add_mul]; congr 1; omega
  rw[Array.size_append,h1,List.size_toArray,kZ.1,aq,af]
 ·obtain⟨v,h1,af,ap⟩:=kZ.2 j c am;have aN:j<vs.length:=(List.getElem?_eq_some_iff.1 h1).1;refine⟨v,?_,af,ap⟩;rw[Array.getElem?_append_left (by simpa using aN)];simpa using h1
theorem N7 (rel:b5 R B w h μ) {t u ty e:TypeId} {z by_ n:Nat} {s c:ae} {ag bK:Value} {h' : aM} {xs:List ae} {vs:List Value} (aB:cv P e=some z) (dE:iR P e=some by_)
  (aG:so P h e z by_ s xs n=some (c,h')) (ar:aP w R h μ s ag) (bE:xs.length=n*z) (cB:qS w R h μ xs vs)
  (Cb:∀ (base:Option Addr) (sLen fM:Nat) (w' : World),sLen+n<=fM->(match base with | some a=>(storeCells (a.add (sLen*z)) vs).run P w=.ok () w' | none=>w'=w)->
   (Builtin.append_ #[t,u] ty #[.slice base sLen fM,bK]).run P w=.ok (.slice base (sLen+n) fM) w')
  (yS:∀ (i:TypeInfo) (zv:Value),P.info? e=some i->i.zero=some zv->∀ (base:Option Addr) (sLen fM:Nat) (eX:List Value),(Builtin.firstCells i.size sLen (.slice base sLen fM)).run P w.drew=.ok eX.toArray w.drew->
   fM<sLen+n->(sLen+n)*i.bytes<=cJ->0<i.bytes->(Builtin.append_ #[t,u] ty #[.slice base sLen fM,bK]).run P w =
   .ok (.slice (some ⟨w.heap.size,0,none⟩) (sLen+n) (grownCap w (sLen+n) fM e)) (w.drew.alloc (.cells ((eX++vs).toArray++Builtin.zeroCells zv.cells (grownCap w (sLen+n) fM e - (sLen+n))) e))) :
  ∃ v w' μ',(Builtin.append_ #[t,u] ty #[ag,bK]).run P w=.ok v w'/\dk w h μ w' h' μ'/\b5 R B w' h' μ'/\aP w' R h' μ' c v:=by
 unfold so at aG;by_cases aI:n=0
 ·-- nothing is appended
  subst aI;simp only[if_true] at aG;have cL:(c,h')=(s,h) :=by
   split at aG<;>first | (simp only[Option.some.injEq] at aG; exact aG.symm) | cases aG
  have aE:s=.a6\/(∃ z es,s=.b6 z es)\/∃ z b off len cap sz,s=.ao z b off len cap sz:=by
   split at aG
   ·exact .inl rfl
   ·exact .inr (.inl ⟨_,_,rfl⟩)
   ·exact .inr (.inr ⟨_,_,_,_,_,_,rfl⟩)
   ·cases aG
  simp only[Prod.mk.injEq] at cL;obtain⟨rfl,rfl⟩:=cL;obtain⟨base,sLen,fM,rfl,dv⟩:=alL ar aE;have hN:vs=[] :=by
   have:vs.length=0:=by rw[cB.1,bE]; simp
   exact List.length_eq_zero_iff.1 this
  subst hN;have:=Cb base sLen fM w (by omega) (by cases base<;>simp[storeCells]);exact⟨_,w,μ,this,.refl _ _ _,rel,by simpa using ar⟩
 ·rw[if_neg aI] at aG;split at aG
  ·cases aG
  ·rename_i ii;simp only[not_or,Decidable.not_not] at ii;obtain⟨qb,jp,gO⟩:=ii;obtain⟨i,zv,aA,jU,il⟩:=abk gO;have n0:i.size=z:=by simpa [cv,aA] using aB
   have km:i.bytes=by_:=by simpa [iR,aA] using dE
   have ahJ:0<z:=Nat.pos_of_ne_zero qb;have H2:∀ a,w.drew.cell? a=w.cell? a:=fun _=>rfl
   split at aG
   ·-- append to nil
    split at aG
    ·rename_i ds;simp only[Option.some.injEq,Prod.mk.injEq] at aG;obtain⟨rfl,rfl⟩:=aG;cases ar;have az:=yS i zv aA jU none 0 0 [] (by simp[Builtin.firstCells]) (by omega) (by rw[km]; simpa using ds) (by omega);have cY:n<=grownCap w (0+n) 0 e:=by have:=grownCap_ge w (0+n) 0 e; omega
     obtain⟨jw,kW⟩:=yB (e:=e) (zv:=zv) (need:=n) (cap:=grownCap w (0+n) 0 e) il (by rw[bE]) cB cY;have aF:=rel.push (w':=w.drew.alloc (.cells (vs.toArray++Builtin.zeroCells zv.cells (grownCap w (0+n) 0 e - n)) e)) xs _ e rfl rfl rfl rfl (by rw[jw,bE]; exact Nat.mul_le_mul_right _ cY) kW;rw[bE] at aF;refine⟨_,_,_,by simpa using az,by simpa using aF.1,by simpa using aF.2,?_⟩;have:=aP.ao (w:=w.drew.alloc (.cells (vs.toArray++Builtin.zeroCells zv.cells (grownCap w (0+n) 0 e - n)) e)) (R:=R) (h:=h.push (.cells (n*z) xs)) (μ:=bO μ h.n (some ⟨w.heap.size,0,(vs.toArray++Builtin.zeroCells zv.cells (grownCap w (0+n) 0 e - n)).size⟩))
      z h.n 0 n n (n*z) (grownCap w (0+n) 0 e) xs ⟨w.heap.size,0,(vs.toArray++Builtin.zeroCells zv.cells (grownCap w (0+n) 0 e - n)).size⟩ (by simp[dJ,eK]) (by simp) (Nat.le_refl _) (by omega) (.inr ⟨by omega,cY,by simp only; rw[jw]; omega⟩)
     simpa using this
    ·cases aG
   ·rename_i db b off len cap sz;cases ai:h.f b with
    | cells m cs=>
     rw[ai] at aG;simp only at aG;split at aG
     ·rename_i yO;obtain⟨rfl,rfl,ds⟩:=yO;cases ar with
      | fA _ _ _ _ _ _ cap' a aq S0 az=>
       exfalso;rcases az with az | ⟨ga,cs',az,aN⟩
       ·rw[az] at ai; cases ai
       ·rw[az] at ai; cases ai; omega
      | gS _ _ _ _ a cs' cf bL hm=>
       rw[ai] at bL; cases bL;have mO:=rel.pD hm;rw[if_neg (by omega),Nat.zero_mul,List.take_zero,List.take_zero,List.nil_append,Nat.zero_add] at aG;have az:=yS i zv aA jU (some a) 0 0 [] (by simp[Builtin.firstCells,loadCells,loadCellsFrom]) (by omega) (by rw[km]; exact ds) (by omega);rw[Nat.zero_add] at az;have cY:n<=grownCap w n 0 e:=grownCap_ge _ _ _ _;obtain⟨jw,kW⟩:=yB (e:=e) (zv:=zv) (need:=n) (cap:=grownCap w n 0 e) il (by rw[bE]) cB cY;split at aG
       ·simp only[Option.some.injEq,Prod.mk.injEq] at aG;obtain⟨rfl,rfl⟩:=aG;have aF:=rel.push (w':=w.drew.alloc (.cells (vs.toArray++Builtin.zeroCells zv.cells (grownCap w n 0 e - n)) e)) xs _ e rfl rfl rfl rfl (by rw[jw,bE]; exact Nat.mul_le_mul_right _ cY) kW;rw[bE] at aF;refine⟨_,_,_,by simpa using az,by simpa using aF.1,by simpa using aF.2,?_⟩;have:=aP.ao (w:=w.drew.alloc (.cells (vs.toArray++Builtin.zeroCells zv.cells (grownCap w n 0 e - n)) e)) (R:=R) (h:=h.push (.cells (n*z) xs)) (μ:=bO μ h.n (some ⟨w.heap.size,0,(vs.toArray++Builtin.zeroCells zv.cells (grownCap w n 0 e - n)).size⟩))
         z h.n 0 n n (n*z) (grownCap w n 0 e) xs ⟨w.heap.size,0,(vs.toArray++Builtin.zeroCells zv.cells (grownCap w n 0 e - n)).size⟩ (by simp[dJ,eK]) (by simp) (Nat.le_refl _) (by omega) (.inr ⟨by omega,cY,by simp only; rw[jw]; omega⟩)
        simpa using this
       ·rename_i H3;split at aG
        ·rename_i wW;subst wW;simp only[Option.some.injEq,Prod.mk.injEq] at aG;obtain⟨rfl,rfl⟩:=aG;have rm:m<n*z:=by
          have:1*1<=n*z:=Nat.mul_le_mul (by omega) ahJ;omega
         have aF:=rel.move (w':=w.drew.alloc (.cells (vs.toArray++Builtin.zeroCells zv.cells (grownCap w n 0 e - n)) e)) ai hm rfl rfl rfl rfl bE rm (by rw[jw]; exact Nat.mul_le_mul_right _ cY) kW;refine⟨_,_,_,by simpa using az,by simpa using aF.1,by simpa using aF.2,?_⟩;have:=aP.ao (w:=w.drew.alloc (.cells (vs.toArray++Builtin.zeroCells zv.cells (grownCap w n 0 e - n)) e)) (R:=R) (h:=h.set b (.cells (n*z) xs)) (μ:=bO μ b (some ⟨w.heap.size,0,(vs.toArray++Builtin.zeroCells zv.cells (grownCap w n 0 e - n)).size⟩))
          z b 0 n n (n*z) (grownCap w n 0 e) xs ⟨w.heap.size,0,(vs.toArray++Builtin.zeroCells zv.cells (grownCap w n 0 e - n)).size⟩ (by simp[dt,ed]) (by simp) (Nat.le_refl _) (by omega) (.inr ⟨by omega,cY,by simp only; rw[jw]; omega⟩)
         simpa using this
        ·simp only[Option.some.injEq,Prod.mk.injEq] at aG;obtain⟨rfl,rfl⟩:=aG;have aF:=rel.push (w':=w.drew.alloc (.cells (vs.toArray++Builtin.zeroCells zv.cells (grownCap w n 0 e - n)) e)) xs _ e rfl rfl rfl rfl (by rw[jw,bE]; exact Nat.mul_le_mul_right _ cY) kW;rw[bE] at aF;have aE:=aF.2.kill (b:=b) (sz:=m) (cs:=cs) (h':=(h.set b .dead).push (.cells (n*z) xs)) (by rw[dJ,cb _ _ _ _ (by omega)]; exact ai) (by rw[eK]; omega) (by
          rw[dJ,dJ,dt,ed];funext x;simp only[bO];by_cases h1:x=h.n
          ·rw[if_pos h1,if_neg (by omega),if_pos h1]
          ·rw[if_neg h1];split<;>rfl) rfl
         refine⟨_,_,_,by simpa using az,by simpa using aF.1.trans aE.1,by simpa using aE.2,?_⟩;have:=aP.ao (w:=w.drew.alloc (.cells (vs.toArray++Builtin.zeroCells zv.cells (grownCap w n 0 e - n)) e)) (R:=R) (h:=(h.set b .dead).push (.cells (n*z) xs)) (μ:=bO μ h.n (some ⟨w.heap.size,0,(vs.toArray++Builtin.zeroCells zv.cells (grownCap w n 0 e - n)).size⟩))
          z h.n 0 n n (n*z) (grownCap w n 0 e) xs ⟨w.heap.size,0,(vs.toArray++Builtin.zeroCells zv.cells (grownCap w n 0 e - n)).size⟩ (by rw[dJ,ed,iA]) (by simp) (Nat.le_refl _) (by omega) (.inr ⟨by omega,cY,by simp only; rw[jw]; omega⟩)
         simpa using this
      | ao _ _ _ _ _ _ cap' cs' cf bL hm aq ay c4=>
       have dZ:=rel.blk b cf hm;rw[ai] at dZ;obtain⟨S1,d9,_⟩:=dZ;rw[ai] at bL; cases bL;have ru:len*z<=cap*z:=Nat.mul_le_mul_right _ aq;have SY:cap<=cap':=by rcases c4 with c4 | c4<;>omega
       split at aG
       ·-- in place,within what the machine knows
        rename_i dF;simp only[Option.some.injEq,Prod.mk.injEq] at aG;obtain⟨rfl,rfl⟩:=aG;have TQ:len*z+n*z<=cap*z:=by rw[<-Nat.add_mul]; exact Nat.mul_le_mul_right _ dF
        have kS:max m (off+len*z+xs.length)=m:=by omega
        obtain⟨w',h1,af,ap⟩:=vM (P:=P) rel (cvs:=xs) (vs:=vs) (k:=off+len*z) ai hm (by omega) cB.1 (by omega) cB.2;rw[kS] at af ap;have cm:(storeCells ((⟨cf.r,cf.s+off,none⟩:Addr).add (len*z)) vs).run P w=.ok () w':=by rw[Addr.kF,Nat.add_assoc]; exact h1
        refine⟨_,w',μ,Cb (some ⟨cf.r,cf.s+off,none⟩) _ _ _ (by omega) cm,af,ap,?_⟩;exact .ao z b off (len+n) cap m cap' _ cf (by simp[dt,ed]; rfl) hm dF ay c4
       ·rename_i aqB;split at aG
        ·-- beyond a slice whose end lies within the row: it moves
         rename_i aqg;simp only[Option.some.injEq,Prod.mk.injEq] at aG;obtain⟨rfl,rfl⟩:=aG;have ez:cap'=cap:=by rcases c4 with c4 | c4<;>omega
         subst ez;have da:contents h z (.ao z b off len cap' m)=some ((cs.drop off).take (len*z),len) :=by simp[contents,ai]
         obtain⟨dh,_,eX,g7,y6⟩:=sH (P:=P) rel da (aP.ao z b off len cap' m cap' cs cf ai hm aq ay c4);have u0:∀ w2:World,(∀ a,w2.cell? a=w.cell? a)->(Builtin.firstCells z len (.slice (some ⟨cf.r,cf.s+off,none⟩) len cap')).run P w2=.ok eX.toArray w2:=fun w2 lB=>by
          have:=y6 len (Nat.le_refl _) w2 lB
          rwa [List.take_of_length_le (by rw[g7.1,dh]; exact Nat.le_refl _)] at this
         have az:=yS i zv aA jU (some ⟨cf.r,cf.s+off,none⟩) len cap' eX (by rw[n0]; exact u0 w.drew H2) (by omega) (by rw[km]; exact ds) (by omega);have cY:len+n<=grownCap w (len+n) cap' e:=grownCap_ge _ _ _ _;have yL:qS w R h μ ((cs.drop off).take (len*z)++xs) (eX++vs) :=by
          refine⟨by simp[g7.1,cB.1],fun j c am=>?_⟩;by_cases aN:j<((cs.drop off).take (len*z)).length
          ·rw[List.getElem?_append_left aN] at am;rw[List.getElem?_append_left (by rw[g7.1]; exact aN)];exact g7.2 j c am
          ·rw[List.getElem?_append_right (by omega)] at am;rw[List.getElem?_append_right (by rw[g7.1]; omega),g7.1];exact cB.2 _ c am
         have fi:((cs.drop off).take (len*z)++xs).length=(len+n)*z:=by rw[List.length_append,dh,bE,Nat.add_mul]
         obtain⟨jw,kW⟩:=yB (e:=e) (zv:=zv) (need:=len+n) (cap:=grownCap w (len+n) cap' e) il fi yL cY;have aF:=rel.push (w':=w.drew.alloc (.cells ((eX++vs).toArray++Builtin.zeroCells zv.cells (grownCap w (len+n) cap' e - (len+n))) e)) _ _ e rfl rfl rfl rfl (by rw[jw,fi]; exact Nat.mul_le_mul_right _ cY) kW;rw[fi] at aF;refine⟨_,_,_,az,aF.1,aF.2,?_⟩;have:=aP.ao (w:=w.drew.alloc (.cells ((eX++vs).toArray++Builtin.zeroCells zv.cells (grownCap w (len+n) cap' e - (len+n))) e)) (R:=R) (h:=h.push (.cells ((len+n)*z) ((cs.drop off).take (len*z)++xs))) (μ:=bO μ h.n (some ⟨w.heap.size,0,((eX++vs).toArray++Builtin.zeroCells zv.cells (grownCap w (len+n) cap' e - (len+n))).size⟩))
          z h.n 0 (len+n) (len+n) ((len+n)*z) (grownCap w (len+n) cap' e) _ ⟨w.heap.size,0,((eX++vs).toArray++Builtin.zeroCells zv.cells (grownCap w (len+n) cap' e - (len+n))).size⟩ (by simp[dJ,eK]; rfl) (by simp) (Nat.le_refl _) (by omega) (.inr ⟨by omega,cY,by simp only; rw[jw]; omega⟩)
         simpa using this
        ·rename_i H3;split at aG
         ·-- beyond the row's end: in place,or it moves
          rename_i wW;subst wW;simp only[Option.some.injEq,Prod.mk.injEq] at aG;obtain⟨rfl,rfl⟩:=aG;obtain⟨afK,wL,S9⟩:0+cap*z=m/\cap<=cap'/\cf.s+0+cap'*z<=cf.T:=by rcases c4 with c4 | c4<;>omega
          have rm:m<(len+n)*z:=by
           have:(cap+1)*z<=(len+n)*z:=Nat.mul_le_mul_right _ (by omega);rw[Nat.add_mul] at this;omega
          have ahr:len*z+n*z=(len+n)*z:=by rw[Nat.add_mul]
          by_cases dF:len+n<=cap'
          ·have agE:(len+n)*z<=cap'*z:=Nat.mul_le_mul_right _ dF;have kS:max m (len*z+xs.length)=(len+n)*z:=by omega
           obtain⟨w',h1,af,ap⟩:=vM (P:=P) rel (cvs:=xs) (vs:=vs) (k:=len*z) ai hm (by omega) cB.1 (by omega) cB.2;rw[kS] at af ap;have u9:bS cs (len*z) xs=cs.take (len*z)++xs:=by
            unfold bS;rw[List.drop_eq_nil_of_le (by omega),List.append_nil]
           rw[u9] at af ap;have cm:(storeCells ((⟨cf.r,cf.s+0,none⟩:Addr).add (len*z)) vs).run P w=.ok () w':=by rw[Addr.kF,Nat.add_assoc]; simpa using h1
           refine⟨_,w',μ,Cb (some ⟨cf.r,cf.s+0,none⟩) _ _ _ dF cm,af,ap,?_⟩;exact .ao z b 0 (len+n) (len+n) ((len+n)*z) cap' _ cf (by simp[dt,ed]; rfl) hm (Nat.le_refl _) (by omega) (.inr ⟨by omega,dF,S9⟩)
          ·have da:contents h z (.ao z b 0 len cap m)=some ((cs.drop 0).take (len*z),len) :=by simp[contents,ai]
           obtain⟨dh,_,eX,g7,y6⟩:=sH (P:=P) rel da (aP.ao z b 0 len cap m cap' cs cf ai hm aq ay c4);have u0:∀ w2:World,(∀ a,w2.cell? a=w.cell? a)->(Builtin.firstCells z len (.slice (some ⟨cf.r,cf.s+0,none⟩) len cap')).run P w2=.ok eX.toArray w2:=fun w2 lB=>by
            have:=y6 len (Nat.le_refl _) w2 lB
            rwa [List.take_of_length_le (by rw[g7.1,dh]; exact Nat.le_refl _)] at this
           rw[List.drop_zero] at dh g7;have az:=yS i zv aA jU (some ⟨cf.r,cf.s+0,none⟩) len cap' eX (by rw[n0]; exact u0 w.drew H2) (by omega) (by rw[km]; exact ds) (by omega);have cY:len+n<=grownCap w (len+n) cap' e:=grownCap_ge _ _ _ _;have yL:qS w R h μ (cs.take (len*z)++xs) (eX++vs) :=by
            refine⟨by simp[g7.1,cB.1],fun j c am=>?_⟩;by_cases aN:j<(cs.take (len*z)).length
            ·rw[List.getElem?_append_left aN] at am;rw[List.getElem?_append_left (by rw[g7.1]; exact aN)];exact g7.2 j c am
            ·rw[List.getElem?_append_right (by omega)] at am;rw[List.getElem?_append_right (by rw[g7.1]; omega),g7.1];exact cB.2 _ c am
           have fi:(cs.take (len*z)++xs).length=(len+n)*z:=by rw[List.length_append,dh,bE,Nat.add_mul]
           obtain⟨jw,kW⟩:=yB (e:=e) (zv:=zv) (need:=len+n) (cap:=grownCap w (len+n) cap' e) il fi yL cY;have aF:=rel.move (w':=w.drew.alloc (.cells ((eX++vs).toArray++Builtin.zeroCells zv.cells (grownCap w (len+n) cap' e - (len+n))) e)) ai hm rfl rfl rfl rfl fi rm (by rw[jw]; exact Nat.mul_le_mul_right _ cY) kW;refine⟨_,_,_,az,aF.1,aF.2,?_⟩;have:=aP.ao (w:=w.drew.alloc (.cells ((eX++vs).toArray++Builtin.zeroCells zv.cells (grownCap w (len+n) cap' e - (len+n))) e)) (R:=R) (h:=h.set b (.cells ((len+n)*z) (cs.take (len*z)++xs))) (μ:=bO μ b (some ⟨w.heap.size,0,((eX++vs).toArray++Builtin.zeroCells zv.cells (grownCap w (len+n) cap' e - (len+n))).size⟩))
            z b 0 (len+n) (len+n) ((len+n)*z) (grownCap w (len+n) cap' e) _ ⟨w.heap.size,0,((eX++vs).toArray++Builtin.zeroCells zv.cells (grownCap w (len+n) cap' e - (len+n))).size⟩ (by simp[dt,ed]; rfl) (by simp) (Nat.le_refl _) (by omega) (.inr ⟨by omega,cY,by simp only; rw[jw]; omega⟩)
           simpa using this
         ·-- beyond the row's end,from a place within it: a block of its own,in place or moved
          rename_i wW;simp only[Option.some.injEq,Prod.mk.injEq] at aG;obtain⟨rfl,rfl⟩:=aG;obtain⟨afK,wL,S9⟩:off+cap*z=m/\cap<=cap'/\cf.s+off+cap'*z<=cf.T:=by rcases c4 with c4 | c4<;>omega
          have rm:m<off+(len+n)*z:=by
           have:(cap+1)*z<=(len+n)*z:=Nat.mul_le_mul_right _ (by omega);rw[Nat.add_mul] at this;omega
          have ahr:len*z+n*z=(len+n)*z:=by rw[Nat.add_mul]
          have mO:=rel.pD hm;by_cases dF:len+n<=cap'
          ·have agE:(len+n)*z<=cap'*z:=Nat.mul_le_mul_right _ dF;have kS:max m (off+len*z+xs.length)=off+(len+n)*z:=by omega
           obtain⟨w',h1,af,ap⟩:=vM (P:=P) rel (cvs:=xs) (vs:=vs) (k:=off+len*z) ai hm (by omega) cB.1 (by omega) cB.2;rw[kS] at af ap;have u9:(bS cs (off+len*z) xs).drop off=(cs.drop off).take (len*z)++xs:=by
            unfold bS;rw[List.drop_eq_nil_of_le (as:=cs) (by omega),List.append_nil,List.drop_append_of_le_length (by simp; omega),List.drop_take];congr 2; omega
           have cm:(storeCells ((⟨cf.r,cf.s+off,none⟩:Addr).add (len*z)) vs).run P w=.ok () w':=by rw[Addr.kF,Nat.add_assoc]; exact h1
           have nZ:=ap.ZQ (b:=b) (off:=off) (m:=cf) (h':=(h.set b .dead).push (.cells ((len+n)*z) ((cs.drop off).take (len*z)++xs))) (by rw[dt,iA]) hm (by omega) (by
            rw[dJ,dt,dt,ed,ed,u9];have:off+(len+n)*z - off=(len+n)*z:=by omega
            rw[this];funext x;simp only[bO];split
            ·rfl
            ·split<;>rfl) rfl
           refine⟨_,w',_,Cb (some ⟨cf.r,cf.s+off,none⟩) _ _ _ dF cm,af.trans nZ.1,nZ.2,?_⟩;exact .ao z h.n 0 (len+n) (len+n) ((len+n)*z) cap' _ ⟨cf.r,cf.s+off,cf.T⟩ (by rw[dJ,ed,iA]) (by rw[ed]; simp) (Nat.le_refl _) (by omega) (.inr ⟨by omega,dF,by simpa using (by omega:cf.s+off+cap'*z<=cf.T)⟩)
          ·have da:contents h z (.ao z b off len cap m)=some ((cs.drop off).take (len*z),len) :=by simp[contents,ai]
           obtain⟨dh,_,eX,g7,y6⟩:=sH (P:=P) rel da (aP.ao z b off len cap m cap' cs cf ai hm aq ay c4);have u0:∀ w2:World,(∀ a,w2.cell? a=w.cell? a)->(Builtin.firstCells z len (.slice (some ⟨cf.r,cf.s+off,none⟩) len cap')).run P w2=.ok eX.toArray w2:=fun w2 lB=>by
            have:=y6 len (Nat.le_refl _) w2 lB
            rwa [List.take_of_length_le (by rw[g7.1,dh]; exact Nat.le_refl _)] at this
           have az:=yS i zv aA jU (some ⟨cf.r,cf.s+off,none⟩) len cap' eX (by rw[n0]; exact u0 w.drew H2) (by omega) (by rw[km]; exact ds) (by omega);have cY:len+n<=grownCap w (len+n) cap' e:=grownCap_ge _ _ _ _;have yL:qS w R h μ ((cs.drop off).take (len*z)++xs) (eX++vs) :=by
            refine⟨by simp[g7.1,cB.1],fun j c am=>?_⟩;by_cases aN:j<((cs.drop off).take (len*z)).length
            ·rw[List.getElem?_append_left aN] at am;rw[List.getElem?_append_left (by rw[g7.1]; exact aN)];exact g7.2 j c am
            ·rw[List.getElem?_append_right (by omega)] at am;rw[List.getElem?_append_right (by rw[g7.1]; omega),g7.1];exact cB.2 _ c am
           have fi:((cs.drop off).take (len*z)++xs).length=(len+n)*z:=by rw[List.length_append,dh,bE,Nat.add_mul]
           obtain⟨jw,kW⟩:=yB (e:=e) (zv:=zv) (need:=len+n) (cap:=grownCap w (len+n) cap' e) il fi yL cY;have aF:=rel.push (w':=w.drew.alloc (.cells ((eX++vs).toArray++Builtin.zeroCells zv.cells (grownCap w (len+n) cap' e - (len+n))) e)) _ _ e rfl rfl rfl rfl (by rw[jw,fi]; exact Nat.mul_le_mul_right _ cY) kW;rw[fi] at aF;have aE:=aF.2.kill (b:=b) (sz:=m) (cs:=cs) (h':=(h.set b .dead).push (.cells ((len+n)*z) ((cs.drop off).take (len*z)++xs))) (by rw[dJ,cb _ _ _ _ (by omega)]; exact ai) (by rw[eK]; omega) (by
            rw[dJ,dJ,dt,ed];funext x;simp only[bO];by_cases h1:x=h.n
            ·rw[if_pos h1,if_neg (by omega),if_pos h1]
            ·rw[if_neg h1];split<;>rfl) rfl
           refine⟨_,_,_,az,aF.1.trans aE.1,aE.2,?_⟩;have:=aP.ao (w:=w.drew.alloc (.cells ((eX++vs).toArray++Builtin.zeroCells zv.cells (grownCap w (len+n) cap' e - (len+n))) e)) (R:=R) (h:=(h.set b .dead).push (.cells ((len+n)*z) ((cs.drop off).take (len*z)++xs))) (μ:=bO μ h.n (some ⟨w.heap.size,0,((eX++vs).toArray++Builtin.zeroCells zv.cells (grownCap w (len+n) cap' e - (len+n))).size⟩))
            z h.n 0 (len+n) (len+n) ((len+n)*z) (grownCap w (len+n) cap' e) _ ⟨w.heap.size,0,((eX++vs).toArray++Builtin.zeroCells zv.cells (grownCap w (len+n) cap' e - (len+n))).size⟩ (by rw[dJ,ed,iA]) (by simp) (Nat.le_refl _) (by omega) (.inr ⟨by omega,cY,by simp only; rw[jw]; omega⟩)
           simpa using this
     ·cases aG
    | _=>rw[ai] at aG; cases aG
   ·cases aG
theorem El (rel:b5 R B w h μ) {t u ty:TypeId} {s x c:ae} {ag bK:Value} {h' : aM} (aL:xq P u) (aG:pB P h t s x=some (c,h')) (ar:aP w R h μ s ag) (aj:aP w R h μ x bK) :
  ∃ v w' μ',(Builtin.append_ #[t,u] ty #[ag,bK]).run P w=.ok v w'/\dk w h μ w' h' μ'/\b5 R B w' h' μ'/\aP w' R h' μ' c v:=by
 unfold pB at aG;cases aw:hp P t with
 | none=>rw[aw] at aG; cases aG
 | some e=>
 have iY:=yp aw;rw[aw] at aG;simp only at aG;cases aB:cv P e with
 | none=>rw[aB] at aG; cases aG
 | some z=>
 cases dE:iR P e with
 | none=>rw[aB,dE] at aG; cases aG
 | some by_=>
 rw[aB,dE] at aG;simp only at aG;cases ak:contents h z x with
 | none=>rw[ak] at aG; cases aG
 | some Nz=>
 obtain⟨xs,n⟩:=Nz;rw[ak] at aG;simp only at aG;obtain⟨bE,bz,vs,cB,afU⟩:=sH (P:=P) rel ak aj;have jL:∀ w2:World,(∀ a,w2.cell? a=w.cell? a)->(Builtin.firstCells z n bK).run P w2=.ok vs.toArray w2:=fun w2 lB=>by
  have:=afU n (Nat.le_refl _) w2 lB
  rwa [List.take_of_length_le (by rw[cB.1,bE]; exact Nat.le_refl _)] at this
 refine N7 rel aB dE aG ar bE cB (fun base sLen fM w' dF cm=>run_append_fits iY aB aL bz (jL w (fun _=>rfl)) dF cm) (fun i zv aA jU base sLen fM eX ay az aC ai=>?_);have n0:i.size=z:=by simpa [cv,aA] using aB
 exact alh iY aA jU aL bz (by rw[n0]; exact jL w.drew (fun _=>rfl)) ay az aC ai
end
section
variable {P:Program} {w:World} {R:Nat->Prop} {B:Nat} {h:aM} {μ:cG}
theorem v2 {x:ae} {bK:Value} {y n Av:Nat} {code:BoundsCode} (ai:jK x y=some n) (aj:aP w R h μ x bK) (aO:y<=Av) :
  n<=y/\(Instr.sliceBound bK Av code).run P w=.ok n w:=by
 unfold jK at ai;cases aj with
 | int k i=>
  simp only at ai;split at ai
  ·rename_i aA;simp only[Option.some.injEq] at ai;subst ai;refine⟨by omega,?_⟩;have:(0<=i/\i<=(Av:Int)) :=⟨aA.1,by omega⟩
   simp[Instr.sliceBound,asIntOf,this]
  ·cases ai
 | _=>simp at ai
def ud (w:World) (R:Nat->Prop) (h:aM) (μ:cG) :Option ae->Option Value->Prop
 | none,none=>True
 | some c,some v=>aP w R h μ c v
 | _,_=>False
theorem ss {cI aA cF:Option ae} {o8 fr tu:Option Value} {isS:Bool} {len cap cap' l m aR:Nat} (ai:f1 len cap cI aA cF=some (l,aR,m)) (bz:len<=cap) (cY:cap<=cap')
  (h1:ud w R h μ cI o8) (af:ud w R h μ aA fr) (ap:ud w R h μ cF tu) :
  l<=aR/\aR<=m/\m<=cap/\(cF=none->m=cap)/\(Instr.sliceBounds isS len cap' o8 fr tu).run P w=.ok (l,aR,if cF.isSome then m else cap') w:=by
 unfold f1 at ai;cases cF with
 | none=>
  cases tu with
  | some v=>exact ap.elim
  | none=>
   simp only at ai;cases aA with
   | none=>
    cases fr with
    | some v=>exact af.elim
    | none=>
     simp only at ai;cases cI with
     | none=>
      cases o8 with
      | some v=>exact h1.elim
      | none=>
       simp only[Option.some.injEq,Prod.mk.injEq] at ai;obtain⟨rfl,rfl,rfl⟩:=ai;exact⟨by omega,bz,Nat.le_refl _,fun _=>rfl,by simp[Instr.sliceBounds]⟩
     | some c=>
      cases o8 with
      | none=>exact h1.elim
      | some v=>
       simp only at ai;cases aq:jK c len with
       | none=>rw[aq] at ai; cases ai
       | some l'=>
        rw[aq] at ai;simp only[Option.some.injEq,Prod.mk.injEq] at ai;obtain⟨rfl,rfl,rfl⟩:=ai;have aj:=v2 (P:=P) (code:=.sliceB) aq h1 (Nat.le_refl _);exact⟨aj.1,bz,Nat.le_refl _,fun _=>rfl,by simp[Instr.sliceBounds,aj.2]⟩
   | some GZ=>
    cases fr with
    | none=>exact af.elim
    | some am1=>
     simp only at ai;cases pX:jK GZ cap with
     | none=>rw[pX] at ai; cases ai
     | some h'=>
      rw[pX] at ai;simp only at ai;have aj:=v2 (P:=P) (code:=if isS then .sliceAcap else .sliceAlen) pX af cY;cases cI with
      | none=>
       cases o8 with
       | some v=>exact h1.elim
       | none=>
        simp only[Option.some.injEq,Prod.mk.injEq] at ai;obtain⟨rfl,rfl,rfl⟩:=ai;exact⟨by omega,aj.1,Nat.le_refl _,fun _=>rfl,by simp[Instr.sliceBounds,aj.2]⟩
      | some c=>
       cases o8 with
       | none=>exact h1.elim
       | some v=>
        simp only at ai;cases aq:jK c h' with
        | none=>rw[aq] at ai; cases ai
        | some l'=>
         rw[aq] at ai;simp only[Option.some.injEq,Prod.mk.injEq] at ai;obtain⟨rfl,rfl,rfl⟩:=ai;have aO:=v2 (P:=P) (code:=.sliceB) aq h1 (Nat.le_refl _);exact⟨aO.1,aj.1,Nat.le_refl _,fun _=>rfl,by simp[Instr.sliceBounds,aj.2,aO.2]⟩
 | some adf=>
  cases tu with
  | none=>exact ap.elim
  | some aul=>
   simp only at ai;cases hm:jK adf cap with
   | none=>rw[hm] at ai; cases ai
   | some cp=>
    rw[hm] at ai;simp only at ai;have aj:=v2 (P:=P) (code:=if isS then .slice3Acap else .slice3Alen) hm ap cY;cases aA with
    | none=>cases ai
    | some GZ=>
     cases fr with
     | none=>exact af.elim
     | some am1=>
      simp only at ai;cases pX:jK GZ cp with
      | none=>rw[pX] at ai; cases ai
      | some h'=>
       rw[pX] at ai;simp only at ai;have aO:=v2 (P:=P) (code:=.slice3B) pX af (Nat.le_refl _);cases cI with
       | none=>
        cases o8 with
        | some v=>exact h1.elim
        | none=>
         simp only[Option.some.injEq,Prod.mk.injEq] at ai;obtain⟨rfl,rfl,rfl⟩:=ai;exact⟨by omega,aO.1,aj.1,(fun aJ=>by cases aJ),by simp[Instr.sliceBounds,aj.2,aO.2]⟩
       | some c=>
        cases o8 with
        | none=>exact h1.elim
        | some v=>
         simp only at ai;cases aq:jK c h' with
         | none=>rw[aq] at ai; cases ai
         | some l'=>
          rw[aq] at ai;simp only[Option.some.injEq,Prod.mk.injEq] at ai;obtain⟨rfl,rfl,rfl⟩:=ai;have aB:=v2 (P:=P) (code:=.slice3C) aq h1 (Nat.le_refl _);exact⟨aB.1,aO.1,aj.1,(fun aJ=>by cases aJ),by simp[Instr.sliceBounds,aj.2,aO.2,aB.2]⟩
theorem sB {z:Nat}:∀ (n:Nat) (cs:List ae),(ka z n cs).length=n
 | 0,_=>rfl
 | n+1,cs=>by simp[ka,sB n]
theorem A8 {z:Nat}:∀ (n:Nat) (cs:List ae) (i:Nat),i<n->(ka z n cs)[i]? = some ((cs.drop (i*z)).take z)
 | 0,_,_,h=>by omega
 | n+1,cs,0,_=>by simp[ka]
 | n+1,cs,i+1,h=>by
  simp only[ka,List.getElem?_cons_succ];rw[A8 n _ i (by omega),List.drop_drop];congr 3;rw[Nat.succ_mul]; omega
theorem aaf (rel:b5 R B w h μ) {z b off cap sz l aR m cp cap' : Nat} {cs:List ae} {cf:M} {hasMax:Bool} (ai:h.f b=.cells sz cs) (hm:μ b=some cf) (ay:off+cap*z<=sz)
  (c4:(off+cap*z<sz/\cap'=cap)\/(off+cap*z=sz/\cap<=cap'/\cf.s+off+cap'*z<=cf.T)) (h1:l<=aR) (af:aR<=m) (ap:m<=cap) (aH:hasMax=false->m=cap)
  (bZ:cp=if hasMax then m else cap') (aqv:m≠l) :
  aP w R h μ (.ao z b (off+l*z) (aR - l) (m - l) sz) (.slice (some ((⟨cf.r,cf.s+off,none⟩:Addr).add (l*z))) (aR - l) (cp - l)) :=by
 have dZ:=rel.blk b cf hm;rw[ai] at dZ;have d9:=dZ.2.1;rw[Addr.kF,Nat.add_assoc];have a1:l*z+(m - l)*z=m*z:=by rw[<-Nat.add_mul]; congr 1; omega
 have b7:m*z<=cap*z:=Nat.mul_le_mul_right _ ap;refine .ao z b _ _ _ sz _ cs cf ai hm (by omega) (by omega) ?_;cases hasMax with
 | false=>
  have wT:=aH rfl;have jO:cp=cap':=by simpa using bZ
  rw[jO];rcases c4 with ⟨bn,bA⟩ | ⟨bn,bA,a3⟩
  ·rw[<-wT] at bn bA;exact .inl ⟨by omega,by omega⟩
  ·rw[<-wT] at bn bA;refine .inr ⟨by omega,by omega,?_⟩;have dO:l*z+(cap' - l)*z=cap'*z:=by rw[<-Nat.add_mul]; congr 1; omega
   omega
 | true=>
  have jO:cp=m:=by simpa using bZ
  rw[jO];by_cases aN:off+l*z+(m - l)*z<sz
  ·exact .inl ⟨aN,rfl⟩
  ·exact .inr ⟨by omega,Nat.le_refl _,by omega⟩
theorem extract_toList (s:ByteArray) (a b:Nat) :(s.extract a b).data.toList=(s.data.toList.drop a).take (b - a) :=by
 simp[ByteArray.extract,ByteArray.copySlice,List.take_drop]
theorem aP.alg (z:Nat) (p:Prop) [Decidable p] (a b:Addr) (cap:Nat) :aP w R h μ (.b6 z []) (.slice (if p then some a else some b) 0 cap) :=by
 by_cases aF:p
 ·rw[if_pos aF]; exact .eZ _ _ _
 ·rw[if_neg aF]; exact .eZ _ _ _
theorem aP.aae (z b off len cap sz cap' : Nat) (p:Prop) [Decidable p] (a eo:Addr) (aq:len<=cap) (ak:cap<=cap') (az:si h b sz) :
  aP w R h μ (.ao z b off len cap sz) (.slice (if p then some a else some eo) len cap') :=by
 by_cases aF:p
 ·rw[if_pos aF]; exact .fA _ _ _ _ _ _ _ _ aq ak az
 ·rw[if_neg aF]; exact .fA _ _ _ _ _ _ _ _ aq ak az
theorem alO (rel:b5 R B w h μ) {t:TypeId} {x c:ae} {bK:Value} {cI aA cF:Option ae} {o8 fr tu:Option Value} (ar:Ae P t x cI aA cF=some c) (aj:aP w R h μ x bK)
  (h1:ud w R h μ cI o8) (af:ud w R h μ aA fr) (ap:ud w R h μ cF tu) :
  ∃ v,(Instr.sliceAt t bK o8 fr tu).run P w=.ok v w/\aP w R h μ c v:=by
 unfold Ae at ar;split at ar
 ·-- an array behind its address
  rename_i n e aL;cases aB:cv P e with
  | none=>rw[aB] at ar; cases ar
  | some z=>
  cases ai:f1 n n cI aA cF with
  | none=>rw[aB,ai] at ar; cases ar
  | some rP=>
  obtain⟨l,aR,m⟩:=rP;rw[aB,ai] at ar;simp only at ar;obtain⟨cd,ce,dH,gI,im⟩:=ss (P:=P) (isS:=false) ai (Nat.le_refl _) (Nat.le_refl _) h1 af ap;have af7:(if cF.isSome=true then m else n)=m:=by
   cases cF with
   | none=>simp[gI rfl]
   | some v=>simp
  rw[af7] at im;split at ar
  ·rename_i b off sz;split at ar
   ·rename_i dF;have xa:∃ a,bK=.pointer (some a) :=by cases aj<;>exact⟨_,rfl⟩
    obtain⟨a,rfl⟩:=xa;refine⟨_,by simp[Instr.sliceAt,cu aL,Instr.sureAddr,im,e4 aB]; rfl,?_⟩;split at ar
    ·rename_i kU;simp only[Option.some.injEq] at ar; subst ar;have:aR - l=0:=by omega
     rw[this];exact .eZ _ _ _
    ·rename_i kU;simp only[Option.some.injEq] at ar; subst ar;rw[if_neg kU];cases aj with
     | ptr _ _ _ cs cf bL hm=>
      exact aaf rel (cap:=m) (cap':=m) (hasMax:=true) bL hm dF (by
       have dZ:=rel.blk b cf hm;rw[bL] at dZ;have d9:=dZ.2.1;by_cases aN:off+m*z<sz
       ·exact .inl ⟨aN,rfl⟩
       ·exact .inr ⟨by omega,Nat.le_refl _,by omega⟩) cd ce (Nat.le_refl _) (fun aJ=>by cases aJ) (by simp) kU
     | k3 _ _ _ _ az=>exact .fA _ _ _ _ _ _ _ _ (by omega) (Nat.le_refl _) az
   ·cases ar
  ·rename_i cs off;split at ar
   ·rename_i dF;simp only[Option.some.injEq] at ar; subst ar;cases aj with
    | cn _ _ blk o dK ak ax=>
     refine⟨_,by simp[Instr.sliceAt,cu aL,Instr.sureAddr,im,e4 aB]; rfl,?_⟩;have gM:aR*z<=n*z:=Nat.mul_le_mul_right _ (by omega);by_cases kU:m=l
     ·have a1:aR - l=0:=by omega
      rw[a1];exact .eZ _ _ _
     ·rw[if_neg kU,Addr.kF];have aq:=sB (z:=z) (aR - l) (cs.drop (off+l*z));have h4:∀ i,i<aR - l->∀ j,j<z->off+l*z+(i*z+j)<cs.length:=by
       intro i fr j am;have:(l+i+1)*z<=aR*z:=Nat.mul_le_mul_right _ (by omega);rw[Nat.add_mul,Nat.add_mul] at this;omega
      have eB:∀ i eH,(ka z (aR - l) (cs.drop (off+l*z)))[i]? = some eH->i<aR - l/\eH=((cs.drop (off+l*z)).drop (i*z)).take z:=by
       intro i eH fy;have fr:i<aR - l:=by
        have:=(List.getElem?_eq_some_iff.1 fy).1;omega
       rw[A8 _ _ _ fr] at fy;simp only[Option.some.injEq] at fy;exact⟨fr,fy.symm⟩
      have:=aP.b6 (w:=w) (R:=R) (h:=h) (μ:=μ) z (ka z (aR - l) (cs.drop (off+l*z))) blk (o+off+l*z) (m - l) (fun i j=>dK (off+l*z+(i*z+j))) (by omega)
       (fun eH fy=>by
        obtain⟨i,fr,rfl⟩:=List.getElem_of_mem fy;obtain⟨bn,bA⟩:=eB i _ (List.getElem?_eq_getElem fr);rw[bA,List.length_take,List.length_drop,List.length_drop];have:(l+i+1)*z<=aR*z:=Nat.mul_le_mul_right _ (by omega);rw[Nat.add_mul,Nat.add_mul] at this;omega)
       (fun i j fr am=>by
        have:=ak (off+l*z+(i*z+j)) (h4 i (by omega) j am);have dO:o+off+l*z+(i*z+j)=o+(off+l*z+(i*z+j)) :=by omega
        rw[dO]; exact this)
       (fun i eH fy j c am=>by
        obtain⟨bn,rfl⟩:=eB i _ fy;have kR:j<z:=by
         have:=(List.getElem?_eq_some_iff.1 am).1;rw[List.length_take] at this; omega
        rw[List.getElem?_take_of_lt kR,List.getElem?_drop,List.getElem?_drop,] at am;exact ax _ c am)
      rw[aq] at this;exact this
   ·cases ar
  ·cases ar
 ·-- a slice
  rename_i e aL;split at ar
  ·rename_i z db b off len cap sz aB;split at ar
   ·rename_i rH; subst rH;cases ai:f1 len cap cI aA cF with
    | none=>rw[ai] at ar; cases ar
    | some rP=>
    obtain⟨l,aR,m⟩:=rP;rw[ai] at ar;simp only[Option.map_some,Option.some.injEq] at ar;cases aj with
    | ao _ _ _ _ _ _ cap' cs cf bL hm aq ay c4=>
     have SY:cap<=cap':=by rcases c4 with c4 | c4<;>omega
     obtain⟨cd,ce,dH,gI,im⟩:=ss (P:=P) (isS:=true) ai aq SY h1 af ap;refine⟨_,by simp[Instr.sliceAt,Instr.slice,cu aL,im,e4 aB]; rfl,?_⟩;split at ar
     ·rename_i kU;subst ar;have:aR - l=0:=by omega
      rw[this];by_cases qb:(if cF.isSome=true then m else cap')=l
      ·rw[if_pos qb,qb,Nat.sub_self];exact .gS _ _ _ _ _ _ cf bL hm
      ·rw[if_neg qb];cases cF with
       | some v=>exact absurd (by simpa using kU) qb
       | none=>
        have wT:=gI rfl;simp only[Option.isSome_none,Bool.false_eq_true,if_false] at qb ⊢;have er:cap=l:=by omega
        have aw:off+cap*z=sz/\cap<=cap'/\cf.s+off+cap'*z<=cf.T:=by rcases c4 with c4 | c4<;>omega
        have ru:l*z+(cap' - l)*z=cap'*z:=by rw[<-Nat.add_mul]; congr 1; omega
        subst er;rw[Addr.kF];have:=aP.ao (w:=w) (R:=R) (h:=h) (μ:=μ) z b (off+cap*z) 0 0 sz (cap' - cap) _ cf bL hm (Nat.le_refl _) (by omega) (.inr ⟨by omega,by omega,by omega⟩)
        rwa [<-Nat.add_assoc] at this
     ·rename_i kU;subst ar;have b0:¬ ((if cF.isSome=true then m else cap')=l) :=by
       cases cF with
       | none=>have:=gI rfl; simp; omega
       | some v=>simpa using kU
      rw[if_neg b0];exact aaf rel (hasMax:=cF.isSome) bL hm ay c4 cd ce dH (fun aJ=>gI (by simpa using aJ)) rfl kU
    | gS _ _ _ _ a cs cf bL hm=>
     obtain⟨cd,ce,dH,gI,im⟩:=ss (P:=P) (isS:=true) ai (Nat.le_refl 0) (Nat.le_refl 0) h1 af ap;refine⟨_,by simp[Instr.sliceAt,Instr.slice,cu aL,im,e4 aB]; rfl,?_⟩;have ik:m=0:=by
      cases cF with
      | none=>exact gI rfl
      | some v=>simp at dH; omega
     have s5:l=0:=by omega
     have af3:aR=0:=by omega
     subst ik s5 af3;simp only[if_true] at ar;subst ar;simp;exact .gS _ _ _ _ _ _ cf bL hm
    | fA _ _ _ _ _ _ cap' a aq c4 az=>
     obtain⟨cd,ce,dH,gI,im⟩:=ss (P:=P) (isS:=true) ai aq c4 h1 af ap;refine⟨_,by simp[Instr.sliceAt,Instr.slice,cu aL,im,e4 aB]; rfl,?_⟩;split at ar
     ·rename_i kU;subst ar;have:aR - l=0:=by omega
      rw[this];exact aP.aae _ _ _ _ _ _ _ _ _ _ (Nat.le_refl _) (Nat.zero_le _) az
     ·rename_i kU;subst ar;have dv:m<=(if cF.isSome=true then m else cap') :=by split<;>omega
      exact aP.aae _ _ _ _ _ _ _ _ _ _ (by omega) (by omega) az
   ·cases ar
  ·rename_i z db es aB;split at ar
   ·rename_i rH; subst rH;cases ai:f1 es.length es.length cI aA cF with
    | none=>rw[ai] at ar; cases ar
    | some rP=>
    obtain⟨l,aR,m⟩:=rP;rw[ai] at ar;simp only[Option.map_some,Option.some.injEq] at ar;subst ar;cases aj with
    | b6 _ _ blk off cap dK aq zm ak ax=>
     obtain⟨cd,ce,dH,gI,im⟩:=ss (P:=P) (isS:=true) ai (Nat.le_refl _) aq h1 af ap;refine⟨_,by simp[Instr.sliceAt,Instr.slice,cu aL,im,e4 aB]; rfl,?_⟩;have bz:((es.drop l).take (aR - l)).length=aR - l:=by rw[List.length_take,List.length_drop]; omega
     have dv:aR<=(if cF.isSome=true then m else cap) :=by
      cases cF with
      | none=>simp only[Option.isSome_none,Bool.false_eq_true,if_false]; omega
      | some v=>simpa using ce
     by_cases kU:(if cF.isSome=true then m else cap)=l
     ·have a1:aR - l=0:=by omega
      rw[if_pos kU,a1,List.take_zero];exact .eZ _ _ _
     ·rw[if_neg kU,Addr.kF];have eB:∀ i eH,((es.drop l).take (aR - l))[i]? = some eH->i<aR - l/\es[l+i]? = some eH:=by
       intro i eH fy;have fr:i<aR - l:=by
        have:=(List.getElem?_eq_some_iff.1 fy).1;omega
       rw[List.getElem?_take_of_lt fr,List.getElem?_drop] at fy;exact⟨fr,fy⟩
      have:=aP.b6 (w:=w) (R:=R) (h:=h) (μ:=μ) z ((es.drop l).take (aR - l)) blk (off+l*z) ((if cF.isSome=true then m else cap) - l) (fun i j=>dK (l+i) j) (by omega)
       (fun eH fy=>zm eH (List.mem_of_mem_drop (List.mem_of_mem_take fy)))
       (fun i j fr am=>by
        have:=ak (l+i) j (by omega) am;have dO:off+l*z+(i*z+j)=off+((l+i)*z+j) :=by rw[Nat.add_mul]; omega
        rw[dO]; exact this)
       (fun i eH fy j c am=>ax (l+i) eH (eB i eH fy).2 j c am)
      rw[bz] at this;exact this
    | eZ _ a cap=>
     obtain⟨cd,ce,dH,gI,im⟩:=ss (P:=P) (isS:=true) ai (Nat.le_refl _) (Nat.zero_le cap) h1 af ap;refine⟨_,by simp at im; simp[Instr.sliceAt,Instr.slice,cu aL,im,e4 aB]; rfl,?_⟩;have a1:aR - l=0:=by simp at dH; omega
     rw[a1,List.take_zero];exact aP.alg _ _ _ _ _
   ·cases ar
  ·rename_i z aB;cases aj;cases ai:f1 0 0 cI aA cF with
   | none=>rw[ai] at ar; cases ar
   | some rP=>
   obtain⟨l,aR,m⟩:=rP;rw[ai] at ar;simp only[Option.map_some,Option.some.injEq] at ar;subst ar;obtain⟨cd,ce,dH,gI,im⟩:=ss (P:=P) (isS:=true) ai (Nat.le_refl _) (Nat.le_refl _) h1 af ap;obtain rfl:m=0:=by omega
   obtain rfl:aR=0:=by omega
   obtain rfl:l=0:=by omega
   refine⟨_,by simp[Instr.sliceAt,Instr.slice,cu aL,im,e4 aB]; rfl,?_⟩;exact .a6
  ·cases ar
 ·-- a string
  rename_i s aL;split at ar
  ·cases aj with
   | str bs=>
    cases ai:f1 bs.data.toList.length bs.data.toList.length cI aA none with
    | none=>rw[ai] at ar; cases ar
    | some rP=>
    obtain⟨l,aR,m⟩:=rP;rw[ai] at ar;simp only[Option.map_some,Option.some.injEq] at ar;subst ar;cases tu with
    | some v=>exact ap.elim
    | none=>
     have gH:bs.data.toList.length=bs.size:=by simp
     rw[gH] at ai;obtain⟨cd,ce,dH,gI,im⟩:=ss (P:=P) (isS:=false) ai (Nat.le_refl _) (Nat.le_refl _) h1 af ap;refine⟨.string (bs.extract l aR),by simp[Instr.sliceAt,Instr.slice,cu aL,im],?_⟩;rw[<-extract_toList];exact .str _
  ·cases ar
 ·cases ar
end
section
variable {P:Program} {w:World} {R:Nat->Prop} {B:Nat} {h:aM} {μ:cG}
def jJ (w:World) (R:Nat->Prop) (h:aM) (μ:cG) (cs:List ae) (arr:Array Value) :Prop:=
 arr.size=cs.length/\∀ (j:Nat) (c:ae),cs[j]? = some c->∃ v:Value,arr[j]? = some v/\v.oneCell'=true/\aP w R h μ c v
theorem jJ.aS {cs:List ae} {arr:Array Value} (aC:jJ w R h μ cs arr) :aP w R h μ (.aS cs) (.agg arr) :=by
 refine .aS _ _ aC.1 (fun j v am=>?_) (fun j c v ak am=>?_)
 ·have aN:j<cs.length:=by have:=(Array.getElem?_eq_some_iff.1 am).1; rw[<-aC.1]; exact this
  obtain⟨u,h1,af,_⟩:=aC.2 j _ (List.getElem?_eq_getElem aN);rw[am] at h1; cases h1; exact af
 ·obtain⟨u,h1,_,ap⟩:=aC.2 j c ak;rw[am] at h1; cases h1; exact ap
theorem R2:∀ (l:List Value) (k off:Nat) (cells:Array Value),off+k+l.length<=cells.size->
  ((l.zipIdx k).foldl (fun cs (sC:Value × Nat)=>cs.setIfInBounds (off+sC.2) sC.1) cells).size=cells.size ∧
  ∀ j,((l.zipIdx k).foldl (fun cs (sC:Value × Nat)=>cs.setIfInBounds (off+sC.2) sC.1) cells)[j]? = if off+k<=j/\j<off+k+l.length then l[j - (off+k)]? else cells[j]?
 | [],k,off,cells,_=>⟨by simp,fun j=>by simp; omega⟩
 | v::l,k,off,cells,aq=>by
  simp only[List.length_cons] at aq;have aK:=R2 l (k+1) off (cells.setIfInBounds (off+k) v) (by simp; omega);simp only[List.zipIdx_cons,List.foldl_cons];refine⟨by rw[aK.1]; simp,fun j=>?_⟩;rw[aK.2 j];by_cases am:off+(k+1)<=j/\j<off+(k+1)+l.length
  ·rw[if_pos am,if_pos (by simp only[List.length_cons]; omega)];have:j - (off+k)=(j - (off+(k+1)))+1:=by omega
   rw[this,List.getElem?_cons_succ]
  ·rw[if_neg am,Array.getElem?_setIfInBounds];by_cases aw:off+k=j
   ·subst aw;rw[if_pos rfl,if_pos (by omega),if_pos (by simp only[List.length_cons]; omega)];simp
   ·rw[if_neg aw,if_neg (by simp only[List.length_cons]; omega)]
theorem Bo {jF:Nat->Option (Nat × Nat)}:∀ (ev:List (Nat × ae)) (i9:List (Nat × Value)) (cs:List ae) (arr:Array Value) (cs' : List ae),
  gF jF cs ev=some cs'->jJ w R h μ cs arr->i9.length=ev.length->(∀ (j:Nat) (p:Nat × ae) (bV:Nat × Value),ev[j]? = some p->i9[j]? = some bV->bV.1=p.1/\aP w R h μ p.2 bV.2)->
  ∃ arr',Instr.fill jF arr i9=some arr'/\jJ w R h μ cs' arr'
 | [],[],cs,arr,cs',aJ,aC,_,_=>by
  simp only[gF,Option.some.injEq] at aJ; subst aJ;exact⟨arr,rfl,aC⟩
 | [],_::_,_,_,_,_,_,aq,_=>by simp at aq
 | _::_,[],_,_,_,_,_,aq,_=>by simp at aq
 | (i,c) ::ev,(i1,v) ::i9,cs,arr,cs',aJ,aC,aq,aF=>by
  obtain⟨rfl,ax⟩:=aF 0 (i,c) (i1,v) rfl rfl;simp only at ax;unfold gF at aJ;cases fU:jF i1 with
  | none=>rw[fU] at aJ; cases aJ
  | some os=>
  obtain⟨off,size⟩:=os;cases ak:c.cells with
  | none=>rw[fU,ak] at aJ; cases aJ
  | some vs=>
  rw[fU,ak] at aJ;simp only at aJ;split at aJ
  ·rename_i ii;obtain⟨gH,kZ⟩:=A6 ax ak;have uU:v.cells.toList.length=vs.length:=by simpa using gH
   have oM:=R2 v.cells.toList 0 off arr (by rw[aC.1,uU]; omega);have ahI:v.cells.zipIdx.foldl (fun cs (x:Value × Nat)=>match x with | (c,j)=>cs.setIfInBounds (off+j) c) arr=(v.cells.toList.zipIdx 0).foldl (fun cs (sC:Value × Nat)=>cs.setIfInBounds (off+sC.2) sC.1) arr:=by
    rw[<-Array.foldl_toList];simp
   obtain⟨arr',h1,af⟩:=Bo ev i9 (bS cs off vs) (v.cells.zipIdx.foldl (fun cs (x:Value × Nat)=>match x with | (c,j)=>cs.setIfInBounds (off+j) c) arr) cs' aJ (by
     rw[ahI];refine⟨by rw[oM.1,aC.1,qC (by omega)]; omega,fun j x am=>?_⟩;rw[oM.2 j];rw[M2 (by omega)] at am;split at am
     ·rename_i aN;rw[if_neg (by omega)];exact aC.2 j x am
     ·split at am
      ·rename_i h1 af;rw[if_pos (by rw[uU]; omega)];obtain⟨u,bn,bA,a3⟩:=kZ _ x am;exact⟨u,by simpa using bn,bA,a3⟩
      ·rename_i h1 af;rw[if_neg (by rw[uU]; omega)];exact aC.2 j x am) (by simpa using aq) (fun j p bV am et=>aF (j+1) p bV (by simpa using am) (by simpa using et))
   refine⟨arr',?_,af⟩;have ry:¬ (v.cells.size≠size\/off+v.cells.size > arr.size) :=by rw[gH,aC.1]; omega
   simp only[Instr.fill,fU];rw[if_neg (by simpa using ry)];exact h1
  ·cases aJ
theorem t7 {t:TypeId} {z:List ae} (aB:gK P t=some z) :∃ v,(∀ w2:World,(zeroValue t).run P w2=.ok v w2)/\jJ w R h μ z v.cells:=by
 obtain⟨i,v,aA,ax,ar,ak⟩:=abm (w:=w) (R:=R) (h:=h) (μ:=μ) aB;exact⟨v,fun w2=>Z3 aA ax,ar,ak⟩
theorem alm {fs:Array Field} (ar:(fs.toList.all fun f=>(cv P f.type).isSome)=true) :
  (fs.mapM fun f=>(do pure (f.offset,<-sizeOf f.type) :Sem (Nat × Nat))).run P w=.ok ((fs.toList.map fun f=>(f.offset,(cv P f.type).getD 0)).toArray) w:=by
 rw[Array.mapM_eq_mapM_toList];simp only[Sem.run_map];have:∀ l:List Field,(l.all fun f=>(cv P f.type).isSome)=true->(l.mapM fun f=>(do pure (f.offset,<-sizeOf f.type) :Sem (Nat × Nat))).run P w=.ok (l.map fun f=>(f.offset,(cv P f.type).getD 0)) w:=by
  intro l
  induction l with
  | nil=>intro _; simp
  | cons f l aK=>
   intro aq;simp only[List.all_cons,Bool.and_eq_true] at aq;obtain⟨n,aI⟩:=Option.isSome_iff_exists.1 aq.1;simp only[List.mapM_cons,Sem.run_bind,e4 aI,Result.andThen_ok,Sem.run_pure,aK aq.2,List.map_cons,aI,Option.getD_some]
 rw[this _ ar];rfl
theorem acF {t:TypeId} {ev:List (Nat × ae)} {i9:Array (Nat × Value)} {c:ae} (ai:x7 P t ev=some c) (aq:i9.size=ev.length)
  (aF:∀ (j:Nat) (p:Nat × ae) (bV:Nat × Value),ev[j]? = some p->i9[j]? = some bV->bV.1=p.1/\aP w R h μ p.2 bV.2) :
  ∃ v,(Instr.build t i9).run P w=.ok v w/\aP w R h μ c v:=by
 unfold x7 at ai;split at ai
 ·rename_i zero fs aB aL;split at ai
  ·cases ai
  ·rename_i gH;simp only[Bool.not_eq_true',Bool.not_eq_false] at gH;cases aJ:gF (zP P fs) zero ev with
   | none=>rw[aJ] at ai; cases ai
   | some cs=>
    rw[aJ] at ai;simp only[Option.map_some,Option.some.injEq] at ai; subst ai;obtain⟨v,ax,aC⟩:=t7 (w:=w) (R:=R) (h:=h) (μ:=μ) aB;obtain⟨arr',h1,af⟩:=Bo ev i9.toList zero v.cells cs aJ aC (by simpa using aq) (fun j p bV am et=>aF j p bV am (by simpa using et));have ag1:(fun i=>((fs.toList.map fun f=>(f.offset,(cv P f.type).getD 0)).toArray)[i]?)=zP P fs:=by
     funext i;simp only[zP];simp only[List.getElem?_toArray,List.getElem?_map,Array.getElem?_toList];cases wO:fs[i]? with
     | none=>simp
     | some f=>
      rw[List.all_eq_true] at gH;have:=gH f (by have:=Array.mem_of_getElem? wO; simpa using this);obtain⟨n,aI⟩:=Option.isSome_iff_exists.1 this;simp[aI]
    refine⟨_,?_,af.aS⟩;simp only[Instr.build,Sem.run_bind,ax,Result.andThen_ok,cu aL,alm gH];rw[ag1,h1];simp
 ·rename_i zero n e aB aL;cases gH:cv P e with
  | none=>rw[gH] at ai; cases ai
  | some m=>
   rw[gH] at ai;simp only at ai;cases aJ:gF (fun i=>some (i*m,m)) zero ev with
   | none=>rw[aJ] at ai; cases ai
   | some cs=>
    rw[aJ] at ai;simp only[Option.map_some,Option.some.injEq] at ai; subst ai;obtain⟨v,ax,aC⟩:=t7 (w:=w) (R:=R) (h:=h) (μ:=μ) aB;obtain⟨arr',h1,af⟩:=Bo ev i9.toList zero v.cells cs aJ aC (by simpa using aq) (fun j p bV am et=>aF j p bV am (by simpa using et));refine⟨_,?_,af.aS⟩;simp only[Instr.build,Sem.run_bind,ax,Result.andThen_ok,cu aL,e4 gH];rw[h1];simp
 ·cases ai
theorem vD {zero:List ae}:∀ n,(dp zero n).length=n*zero.length
 | 0=>by simp[dp]
 | n+1=>by simp only[dp,List.length_append,vD n,Nat.succ_mul]; omega
theorem ZP {zero:List ae}:∀ (n j:Nat) (c:ae),(dp zero n)[j]? = some c->zero[j % zero.length]? = some c
 | 0,_,_,am=>by simp[dp] at am
 | n+1,j,c,am=>by
  simp only[dp] at am;by_cases aN:j<zero.length
  ·rw[List.getElem?_append_left aN] at am
   rwa [Nat.mod_eq_of_lt aN]
  ·rw[List.getElem?_append_right (by omega)] at am;have:=ZP n _ c am
   rwa [<-Nat.mod_eq_sub_mod (by omega)] at this
theorem Dw {zero:List ae} {z:Array Value} (aC:jJ w R h μ zero z) (n:Nat) :jJ w R h μ (dp zero n) ((Array.range (n*zero.length)).map (z[· % z.size]!)) :=by
 refine⟨by simp[vD],fun j c am=>?_⟩;have aN:j<n*zero.length:=by
  have:=(List.getElem?_eq_some_iff.1 am).1
  rwa [vD] at this
 obtain⟨v,h1,af,ap⟩:=aC.2 _ c (ZP n j c am);refine⟨v,?_,af,ap⟩;rw[<-aC.1] at h1;obtain⟨ai,rfl⟩:=Array.getElem?_eq_some_iff.1 h1;simp[aN,ai]
theorem aee {z:Nat}:∀ (ev:List (Nat × ae)) (a b:List ae),gF (fun i=>some (i*z,z)) a ev=some b->b.length=a.length:=by
 intro ev
 induction ev with
 | nil=>intro a b f7; simp only[gF,Option.some.injEq] at f7; subst f7; rfl
 | cons p ev aK=>
  intro a b f7;unfold gF at f7;split at f7
  ·rename_i off size vs fU vc;split at f7
   ·rw[aK _ _ f7,qC (by omega)]; omega
   ·cases f7
  ·cases f7
theorem Oz {t e:TypeId} {len z:Nat} {zero cs:List ae} {ev:List (Nat × ae)} {i9:Array (Nat × Value)} (aw:hp P t=some e) (aB:cv P e=some z) (hO:gK P e=some zero) (gO:zero.length=z) (kS:len*z<=16777216)
  (aJ:gF (fun i=>some (i*z,z)) (dp zero len) ev=some cs) (aq:i9.size=ev.length)
  (aF:∀ (j:Nat) (p:Nat × ae) (bV:Nat × Value),ev[j]? = some p->i9[j]? = some bV->bV.1=p.1/\aP w R h μ p.2 bV.2) :
  cs.length=len*z/\∃ arr,(Instr.buildSlice t len i9).run P w=.ok (.slice (some ⟨w.heap.size,0,none⟩) len len) (w.alloc (.cells arr e))/\jJ w R h μ cs arr:=by
 obtain⟨v,ax,aC⟩:=t7 (w:=w) (R:=R) (h:=h) (μ:=μ) hO;obtain⟨arr',h1,af⟩:=Bo ev i9.toList _ _ cs aJ (Dw aC len) (by simpa using aq) (fun j p bV am et=>aF j p bV am (by simpa using et));refine⟨by rw[aee _ _ _ aJ,vD,gO],arr',?_,af⟩;have iY:=yp aw;have agy:¬ (len*z > 2 ^ 24) :=by omega
 simp only[Instr.buildSlice,Sem.run_bind,cu iY,Result.andThen_ok,e4 aB,if_neg agy];rw[gO] at h1;generalize fh:len*z=N at h1;by_cases aQ:N=0
 ·subst aQ;have hL:∀ f:Nat->Value,(Array.range 0).map f=#[] :=fun f=>by simp[Array.range]
  rw[hL] at h1;simp[hL,h1,newRow]
 ·simp[aQ,ax,h1,newRow]
theorem acE (rel:b5 R B w h μ) {t:TypeId} {len:Nat} {ev:List (Nat × ae)} {i9:Array (Nat × Value)} {c:ae} {h' : aM} (ai:AW P h t len ev=some (c,h')) (aq:i9.size=ev.length)
  (aF:∀ (j:Nat) (p:Nat × ae) (bV:Nat × Value),ev[j]? = some p->i9[j]? = some bV->bV.1=p.1/\aP w R h μ p.2 bV.2) :
  ∃ v w' μ',(Instr.buildSlice t len i9).run P w=.ok v w'/\dk w h μ w' h' μ'/\b5 R B w' h' μ'/\aP w' R h' μ' c v:=by
 unfold AW at ai;cases aw:hp P t with
 | none=>rw[aw] at ai; cases ai
 | some e=>
 rw[aw] at ai;simp only at ai;cases aB:cv P e with
 | none=>rw[aB] at ai; cases ai
 | some z=>
 cases hO:gK P e with
 | none=>rw[aB,hO] at ai; cases ai
 | some zero=>
 rw[aB,hO] at ai;simp only at ai;split at ai
 ·rename_i ii;obtain⟨gO,kS⟩:=ii;cases aJ:gF (fun i=>some (i*z,z)) (dp zero len) ev with
  | none=>rw[aJ] at ai; cases ai
  | some cs=>
   rw[aJ] at ai;simp only[Option.map_some,Option.some.injEq,Prod.mk.injEq] at ai;obtain⟨rfl,rfl⟩:=ai;obtain⟨er,arr',g8,af⟩:=Oz aw aB hO gO kS aJ aq aF;have aG:=AM rel (cs:=cs) (vs:=arr') e af.1 af.2;rw[er] at aG;obtain⟨bn,bA,a3⟩:=aG;refine⟨.slice (some ⟨w.heap.size,0,none⟩) len len,_,_,g8,bn,bA,?_⟩;have:=aP.ao (w:=w.alloc (.cells arr' e)) (R:=R) (h:=h.push (.cells (len*z) cs)) (μ:=bO μ h.n (some ⟨w.heap.size,0,arr'.size⟩)) z h.n 0 len len (len*z) len cs ⟨w.heap.size,0,arr'.size⟩ (by simp[dJ,eK]) (by simp) (Nat.le_refl _) (by omega)
    (.inr ⟨by omega,Nat.le_refl _,by simp only; rw[af.1,er]; omega⟩)
   simpa using this
 ·cases ai
theorem Wc {t e:TypeId} {z by_:Nat} {zero:List ae} {kl kc:IntKind} {li gC:Int} (aw:hp P t=some e) (aB:cv P e=some z) (dE:iR P e=some by_) (hO:gK P e=some zero) (gO:zero.length=z)
  (aQ:0<=li) (mV:li<=gC) (B0:gC<9223372036854775808) (ds:by_*gC<=cJ) :
  (dp zero gC.toNat).length=gC.toNat*z/\∃ arr,(Instr.makeSlice t (.int kl li) (.int kc gC)).run P w=.ok (.slice (some ⟨w.heap.size,0,none⟩) li.toNat gC.toNat) (w.alloc (.cells arr e))/\jJ w R h μ (dp zero gC.toNat) arr:=by
 obtain⟨v,ax,aC⟩:=t7 (w:=w) (R:=R) (h:=h) (μ:=μ) hO;have cB:=Dw aC gC.toNat
 refine⟨by rw[vD,gO],_,?_,cB⟩;obtain⟨i,aA,SX⟩:∃ i,P.info? e=some i/\i.bytes=by_:=by
  unfold iR at dE;cases aA:P.info? e with
  | none=>rw[aA] at dE; cases dE
  | some i=>rw[aA] at dE; exact⟨i,rfl,by simpa using dE⟩
 have xd:IntKind.i64.wrap li=li:=IntWalk.i64_in _ (by omega);have xc:IntKind.i64.wrap gC=gC:=IntWalk.i64_in _ (by omega);have iY:=yp aw;unfold cJ at ds;have ng:¬ (gC<0\/(281474976710656:Int)<(by_:Int)*gC) :=by omega
 have qD:¬ (li<0) :=by omega
 have t3:¬ (gC<li) :=by omega
 rw[gO];generalize fh:gC.toNat*z=N;by_cases qb:N=0
 ·subst qb;have hL:∀ f:Nat->Value,(Array.range 0).map f=#[] :=fun f=>by simp[Array.range]
  simp[hL,Instr.makeSlice,cu iY,Go.asInt,asIntOf,typeInfo,aA,SX,xd,xc,ng,qD,t3,e4 aB,fh,newRow]
 ·simp[Instr.makeSlice,cu iY,Go.asInt,asIntOf,typeInfo,aA,SX,xd,xc,ng,qD,t3,e4 aB,fh,qb,ax,newRow]
theorem ai3 (rel:b5 R B w h μ) {t:TypeId} {l c r:ae} {CW q2:Value} {h' : aM} (hm:CX P h t l c=some (r,h')) (aq:aP w R h μ l CW) (ak:aP w R h μ c q2) :
  ∃ v w' μ',(Instr.makeSlice t CW q2).run P w=.ok v w'/\dk w h μ w' h' μ'/\b5 R B w' h' μ'/\aP w' R h' μ' r v:=by
 unfold CX at hm;split at hm
 ·rename_i e li gC aw h5 eA;obtain⟨kl,rfl⟩:=pC h5 aq;obtain⟨kc,rfl⟩:=pC eA ak;cases aB:cv P e with
  | none=>rw[aB] at hm; cases hm
  | some z=>
  cases dE:iR P e with
  | none=>rw[aB,dE] at hm; cases hm
  | some by_=>
  cases hO:gK P e with
  | none=>rw[aB,dE,hO] at hm; cases hm
  | some zero=>
  rw[aB,dE,hO] at hm;simp only at hm;split at hm
  ·rename_i ii;obtain⟨gO,aQ,mV,B0,ds⟩:=ii;simp only[Option.some.injEq,Prod.mk.injEq] at hm;obtain⟨rfl,rfl⟩:=hm;obtain⟨bz,arr,g8,cB⟩:=Wc (w:=w) (R:=R) (h:=h) (μ:=μ) (kl:=kl) (kc:=kc) aw aB dE hO gO aQ mV B0 ds;have aG:=AM rel (cs:=dp zero gC.toNat) e cB.1 cB.2;rw[bz] at aG;obtain⟨bn,bA,a3⟩:=aG;refine⟨.slice (some ⟨w.heap.size,0,none⟩) li.toNat gC.toNat,_,_,g8,bn,bA,?_⟩;have:=aP.ao (w:=w.alloc (.cells arr e)) (R:=R) (h:=h.push (.cells (gC.toNat*z) (dp zero gC.toNat))) (μ:=bO μ h.n (some ⟨w.heap.size,0,arr.size⟩))
    z h.n 0 li.toNat gC.toNat (gC.toNat*z) gC.toNat (dp zero gC.toNat) ⟨w.heap.size,0,arr.size⟩ (by simp[dJ,eK]) (by simp) (by omega) (by omega)
    (.inr ⟨by omega,Nat.le_refl _,by simp only; rw[cB.1,bz]; omega⟩)
   simpa using this
  ·cases hm
 ·cases hm
theorem aiO {t u:TypeId} {ty:TypeId} {x c:ae} {bK:Value} (ak:vk P t x=some c) (aj:aP w R h μ x bK) :∃ v,(Builtin.len_ #[t] ty #[bK]).run P w=.ok v w/\aP w R h μ c v:=by
 unfold vk at ak;split at ak<;>(try (simp only[Option.some.injEq] at ak; subst ak))
 ·rename_i s aL;cases aj;rename_i bs;exact⟨goInt bs.size,by simp[Builtin.len_,cu aL],by rw[show (bs.data.toList.length:Int)=bs.size from by simp]; exact .int _ _⟩
 ·rename_i n e aL;exact⟨goInt n,by simp[Builtin.len_,cu aL],.int _ _⟩
 ·rename_i e aL;cases aj;exact⟨goInt (0:Nat),by simp[Builtin.len_,cu aL],.int _ _⟩
 ·rename_i e z b off len cap sz aL;cases aj
  ·exact⟨goInt len,by simp[Builtin.len_,cu aL],.int _ _⟩
  ·exact⟨goInt len,by simp[Builtin.len_,cu aL],.int _ _⟩
  ·exact⟨goInt (0:Nat),by simp[Builtin.len_,cu aL],.int _ _⟩
 ·rename_i e z es aL;cases aj
  ·exact⟨goInt es.length,by simp[Builtin.len_,cu aL],.int _ _⟩
  ·exact⟨goInt (0:Nat),by simp[Builtin.len_,cu aL],.int _ _⟩
 ·rename_i k e aL;cases aj;exact⟨goInt 0,by simp[Builtin.len_,cu aL],.int _ _⟩
 ·cases ak
end
section
variable {P:Program} {w:World} {R:Nat->Prop} {B:Nat} {h:aM} {μ:cG}
theorem tA {t:TypeId} {cs:List ae} {vs:Array Value} {off:Nat} {c:ae} (aF:gR P t cs off=some c) (aC:jJ w R h μ cs vs) :
  ∃ v,(∀ w2:World,(part t vs off).run P w2=.ok v w2)/\aP w R h μ c v:=by
 unfold gR at aF;cases mN:dM P t with
 | none=>rw[mN] at aF; cases aF
 | some b=>
  rw[mN] at aF;cases b with
  | false=>
   simp only at aF;obtain⟨v,h1,_,ap⟩:=aC.2 off c aF;exact⟨v,fun w2=>by simp[part,Dz mN,h1],ap⟩
  | true=>
   cases aI:cv P t with
   | none=>rw[aI] at aF; cases aF
   | some n=>
    rw[aI] at aF;simp only at aF;split at aF
    ·rename_i dv;simp only[Option.some.injEq] at aF;subst aF;refine⟨.agg (vs.extract off (off+n)),fun w2=>by simp[part,Dz mN,e4 aI],jJ.aS ⟨by simp; rw[aC.1]; omega,fun j c am=>?_⟩⟩;have kQ:j<n:=by
      have:=(List.getElem?_eq_some_iff.1 am).1;rw[List.length_take] at this; omega
     rw[List.getElem?_take_of_lt kQ,List.getElem?_drop] at am;obtain⟨v,h1,af,ap⟩:=aC.2 _ c am;refine⟨v,?_,af,ap⟩;rw[Array.getElem?_extract,if_pos (by rw[aC.1]; omega)];exact h1
    ·cases aF
theorem sn {cs:List ae} {bK:Value} (aj:aP w R h μ (.aS cs) bK) :∃ vs,bK=.agg vs/\jJ w R h μ cs vs:=by
 cases aj with
 | aS _ vs aq h1 ax=>
  refine⟨vs,rfl,aq,fun j c am=>?_⟩;have aN:j<vs.size:=by rw[aq]; exact (List.getElem?_eq_some_iff.1 am).1
  exact⟨vs[j],by simp[aN],h1 j _ (by simp[aN]),ax j c _ am (by simp[aN])⟩
theorem aed {t:TypeId} {cs:List ae} {f:Nat} {fd:Field} {c:ae} {bK:Value} (aJ:uv P t f=some fd) (aF:gR P fd.type cs fd.offset=some c) (aj:aP w R h μ (.aS cs) bK) :
  ∃ v,(Instr.field t bK f).run P w=.ok v w/\aP w R h μ c v:=by
 obtain⟨fs,aL,oM⟩:=RP aJ;obtain⟨vs,rfl,aC⟩:=sn aj;obtain⟨v,h1,af⟩:=tA (P:=P) aF aC;exact⟨v,by simp[Instr.field,cu aL,oM,asAgg,h1],af⟩
theorem Jk {t:TypeId} {x hf c:ae} {bK zt:Value} (ak:xi P t x hf=some c) (aj:aP w R h μ x bK) (aA:aP w R h μ hf zt) :
  ∃ v,(Instr.index t bK zt).run P w=.ok v w/\aP w R h μ c v:=by
 unfold xi at ak;split at ak
 ·rename_i n e cs i aL fS;obtain⟨k,rfl⟩:=pC fS aA;cases aB:cv P e with
  | none=>rw[aB] at ak; cases ak
  | some z=>
   rw[aB] at ak;simp only at ak;split at ak
   ·rename_i ai;obtain⟨vs,rfl,aC⟩:=sn aj;obtain⟨v,h1,af⟩:=tA (P:=P) ak aC;exact⟨v,by simp[Instr.index,asIntOf,cu aL,ai,e4 aB,h1],af⟩
   ·cases ak
 ·rename_i s i aL fS;obtain⟨k,rfl⟩:=pC fS aA;split at ak
  ·rename_i ai;cases aj with
   | str bs=>
    cases BS:bs.data.toList[i.toNat]? with
    | none=>rw[BS] at ak; cases ak
    | some b=>
     rw[BS] at ak;simp only[Option.map_some,Option.some.injEq] at ak;subst ak;have aN:i.toNat<bs.size:=by have:=(List.getElem?_eq_some_iff.1 BS).1; simpa using this
     have eB:bs[i.toNat]? = some b:=by
      have e6:=(List.getElem?_eq_some_iff.1 BS).2;rw[getElem?_pos bs i.toNat aN];simp only[Option.some.injEq];rw[<-e6];rfl
     exact⟨.int .u8 b.toNat,by simp[Instr.index,asIntOf,cu aL,ai,eB],.int _ _⟩
  ·cases ak
 ·cases ak
theorem ads (rel:b5 R B w h μ) {t u ty:TypeId} {d x c:ae} {G6 bK:Value} {h' : aM} (ak:wi P h t d x=some (c,h')) (bJ:aP w R h μ d G6) (aj:aP w R h μ x bK) :
  ∃ v w',(Builtin.copy_ #[t,u] ty #[G6,bK]).run P w=.ok v w'/\dk w h μ w' h' μ/\b5 R B w' h' μ/\aP w' R h' μ c v:=by
 unfold wi at ak;cases aw:hp P t with
 | none=>rw[aw] at ak; cases ak
 | some e=>
 rw[aw] at ak;simp only at ak;cases aB:cv P e with
 | none=>rw[aB] at ak; cases ak
 | some z=>
 rw[aB] at ak;simp only at ak;cases da:contents h z x with
 | none=>rw[da] at ak; cases ak
 | some Nz=>
 obtain⟨xs,n⟩:=Nz;rw[da] at ak;simp only at ak;have iY:=yp aw;obtain⟨bE,bz,vs,cB,jL⟩:=sH (P:=P) rel da aj;split at ak
 ·simp only[Option.some.injEq,Prod.mk.injEq] at ak;obtain⟨rfl,rfl⟩:=ak;cases bJ;have aQ:=jL 0 (Nat.zero_le _) w (fun _=>rfl);refine⟨goInt (0:Nat),w,?_,.refl _ _ _,rel,.int _ _⟩;simp[Builtin.copy_,cu iY,bz,e4 aB,aQ]
 ·rename_i db b off len cap sz;cases ai:h.f b with
  | cells m cs=>
   rw[ai] at ak;simp only at ak;split at ak
   ·rename_i yO;obtain⟨rfl,rfl⟩:=yO;simp only[Option.some.injEq,Prod.mk.injEq] at ak;obtain⟨rfl,rfl⟩:=ak;cases bJ with
    | gS _ _ _ _ a cs' cf bL hm=>
     have aQ:=jL 0 (Nat.zero_le _) w (fun _=>rfl);have rA:bS cs off []=cs:=by simp[bS]
     have iX:=rel.same (h':=h.set b (.cells m (bS cs off (xs.take (min n 0*z))))) (by
      rw[dt,Nat.min_zero,Nat.zero_mul,List.take_zero,rA];funext x;simp only[bO];split
      ·rename_i aj; rw[aj,ai]
      ·rfl) rfl
     refine⟨goInt (0:Nat),w,?_,iX.1,iX.2,by rw[Nat.min_zero]; exact .int _ _⟩;simp[Builtin.copy_,cu iY,bz,e4 aB,aQ,storeCells,Result.andThen]
    | fA _ _ _ _ _ _ cap' a aq c4 az=>
     exfalso;rcases az with az | ⟨ga,cs',az,aN⟩
     ·rw[az] at ai; cases ai
     ·rw[az] at ai; cases ai; omega
    | ao _ _ _ _ _ _ cap' cs' cf bL hm aq ay c4=>
     have dZ:=rel.blk b cf hm;rw[ai] at dZ;obtain⟨S1,d9,_⟩:=dZ;have ru:min n len*z<=cap*z:=Nat.mul_le_mul_right _ (by omega);have TQ:min n len*z<=n*z:=Nat.mul_le_mul_right _ (by omega);have jS:(xs.take (min n len*z)).length=min n len*z:=by rw[List.length_take]; omega
     have kS:max m (off+(xs.take (min n len*z)).length)=m:=by rw[jS]; omega
     obtain⟨w',h1,af,ap⟩:=vM (P:=P) rel (cvs:=xs.take (min n len*z)) (vs:=vs.take (min n len*z)) (k:=off) ai hm (by omega)
      (by rw[List.length_take,List.length_take,cB.1]) (by rw[kS]; omega) (fun j c am=>by
       have aN:j<min n len*z:=by have:=(List.getElem?_eq_some_iff.1 am).1; rwa [jS] at this
       rw[List.getElem?_take_of_lt aN] at am ⊢;exact cB.2 j c am)
     rw[kS] at af ap;have aJ:=jL (min n len) (by omega) w (fun _=>rfl);refine⟨goInt (min n len:Nat),w',?_,af,ap,.int _ _⟩;have y3:Nat.min n len=min n len:=rfl;simp[Builtin.copy_,cu iY,bz,e4 aB,y3,aJ,h1]
   ·cases ak
  | _=>rw[ai] at ak; cases ak
 ·cases ak
theorem EB:∀ (cs:List ae) (vs:List Value) (bs:List UInt8),lj cs=some bs->vs.length=cs.length->
  (∀ (j:Nat) (c:ae),cs[j]? = some c->∃ v:Value,vs[j]? = some v/\v.oneCell'=true/\aP w R h μ c v)->
  ∃ ns:List Int,vs=ns.map (Value.int .u8)/\bs=ns.map fun n=>UInt8.ofNat n.toNat
 | [],[],bs,ai,_,_=>by
  simp only[lj,Option.some.injEq] at ai; subst ai;exact⟨[],rfl,rfl⟩
 | [],_::_,_,_,aq,_=>by simp at aq
 | _::_,[],_,_,aq,_=>by simp at aq
 | c::cs,v::vs,bs,ai,aq,ax=>by
  obtain⟨v0,hN,_,rD⟩:=ax 0 c rfl;simp only[List.getElem?_cons_zero,Option.some.injEq] at hN;subst hN;cases rD with
  | int k n=>
   cases k<;>simp only[lj] at ai<;>try (cases ai; done)
   cases nJ:lj cs with
   | none=>rw[nJ] at ai; cases ai
   | some acx=>
    rw[nJ] at ai;simp only[Option.map_some,Option.some.injEq] at ai;subst ai;obtain⟨ns,h1,af⟩:=EB cs vs acx nJ (by simpa using aq) (fun j c am=>ax (j+1) c (by simpa using am));exact⟨n::ns,by rw[h1]; rfl,by rw[af]; rfl⟩
  | _=>simp[lj] at ai
theorem R1:∀ (ns:List Int) (s:ByteArray),(ns.foldl (fun r n=>r.push (UInt8.ofNat n.toNat)) s).data.toList=s.data.toList++ns.map fun n=>UInt8.ofNat n.toNat
 | [],s=>by simp
 | n::ns,s=>by
  rw[List.foldl_cons,R1 ns];simp[ByteArray.push]
theorem adq (rel:b5 R B w h μ) {s d:TypeId} {x c:ae} {bK:Value} (ak:ur P h s d x=some c) (aj:aP w R h μ x bK) :
  ∃ v,(convert s d bK).run P w=.ok v w/\aP w R h μ c v:=by
 unfold ur at ak;split at ak
 ·rename_i g2 k k' n ar bJ;simp only[Option.some.injEq] at ak; subst ak;cases aj;exact⟨.int k (k.wrap n),by simp[convert,cu ar,cu bJ,Conv.intToInt],.int _ _⟩
 ·rename_i fm ar bJ;simp only[Option.some.injEq] at ak; subst ak;cases aj with
  | str bs=>exact⟨.string bs,by simp[convert,cu ar,cu bJ],.str _⟩
 ·rename_i e ar bJ TT;cases CG:P.underlying e with
  | none=>rw[CG] at ak; cases ak
  | some apj=>
   rw[CG] at ak;split at ak
   ·rename_i heq;simp only[Option.some.injEq] at heq ak; subst heq ak;cases aj;refine⟨.string ByteArray.empty,by simp[convert,cu ar,cu bJ,cu CG,Conv.bytesToString],?_⟩;exact .str ByteArray.empty
   ·rename_i heq uZ;simp only[Option.some.injEq] at heq; subst heq;split at ak
    ·cases ak
    ·rename_i cs n agK da;cases nJ:lj cs with
     | none=>rw[nJ] at ak; cases ak
     | some bs=>
      rw[nJ] at ak;simp only[Option.map_some,Option.some.injEq] at ak; subst ak;obtain⟨bE,bz,vs,cB,jL⟩:=sH (P:=P) rel da aj;have aJ:=jL n (Nat.le_refl _) w (fun _=>rfl);obtain⟨ns,rfl,rfl⟩:=EB cs vs bs nJ cB.1 cB.2;have zg:(ns.map (Value.int .u8)).take (n*1)=ns.map (Value.int .u8) :=List.take_of_length_le (by rw[cB.1,bE]; exact Nat.le_refl _);rw[zg] at aJ;have H6:∃ a len cap,bK=.slice a len cap:=by
       cases aj<;>first | exact⟨_,_,_,rfl⟩ | (simp[contents] at da; done) | (exact absurd rfl (agK _))
      obtain⟨a,len,cap,rfl⟩:=H6;simp only[Builtin.lenOf,Sem.run_pure,Result.ok.injEq] at bz;obtain⟨rfl,_⟩:=bz;have afD:=R1 ns ByteArray.empty;refine⟨.string (ns.foldl (fun r n=>r.push (UInt8.ofNat n.toNat)) ByteArray.empty),?_,?_⟩
      ·rw[run_convert_bytes_string w s d e a len cap ar CG bJ];cases a with
       | none=>
        simp only[Builtin.firstCells,Sem.run_pure,Result.ok.injEq] at aJ;have kZ:ns=[] :=by
         have:=congrArg Array.toList aJ.1;simpa using this.symm
        subst kZ;simp[Conv.bytesToString]
       | some a=>
        simp only[Builtin.firstCells,Nat.mul_one] at aJ;exact run_bytesToString w a len cap ns aJ
      ·have:(ns.foldl (fun r n=>r.push (UInt8.ofNat n.toNat)) ByteArray.empty).data.toList=ns.map fun n=>UInt8.ofNat n.toNat:=by rw[afD]; rfl
       rw[<-this];exact .str _
    ·cases ak
   ·cases ak
 ·cases ak
theorem MD (rel:b5 R B w h μ) {w' : World} (ai:RowKit.Below w.heap.size w w') (oL:w.drawn<=w'.drawn:=by first | exact Nat.le_refl _ | exact Nat.le_succ _) :dk w h μ w' h μ/\b5 R B w' h μ:=by
 have e:dk w h μ w' h μ:=⟨⟨ai.os,ai.tape,ai.output,ai.size,fun k aE _=>ai.block k aE,fun _ ay=>.inl ay,fun b sz cs m h1 af=>.inl ⟨cs,h1,af⟩,fun _ _ az=>az,fun _ _ _ h1 af=>⟨h1,af⟩,Nat.le_refl _,oL⟩,fun _ _ hm=>hm⟩
 refine⟨e,fun b m hm=>?_,rel.inj,rel.base,rel.fresh,rel.up,Nat.le_trans rel.size ai.size,rel.jC⟩;cases aq:live (h.f b) with
 | false=>cases ak:h.f b<;>first | trivial | (rw[ak] at aq; cases aq)
 | true=>exact (rel.blk b m hm).ext e.toExt0 (ai.block _ (rel.lt aq hm))
theorem acJ (rel:b5 R B w h μ) {s d:TypeId} {x c:ae} {bK:Value} (ak:v7 P s d x=some c) (aj:aP w R h μ x bK) :
  ∃ v w',(convert s d bK).run P w=.ok v w'/\dk w h μ w' h μ/\b5 R B w' h μ/\aP w' R h μ c v:=by
 unfold v7 at ak;split at ak
 ·rename_i g2 e fm ar bJ;split at ak
  ·rename_i aL;simp only[Option.some.injEq] at ak; subst ak;cases aj with
   | str bs=>
    have HT:RowKit.Below w.heap.size w (Lib.bytesWorld w e bs) :=⟨rfl,rfl,rfl,by rw[Lib.bytesWorld_size]; omega,fun k aE=>Lib.bytesWorld_at_old w e bs k aE⟩
    obtain⟨h1,af⟩:=MD rel HT;refine⟨_,_,Lib.run_convert_string_bytes w s d e bs ar bJ aL,h1,af,?_⟩;have gH:bs.data.toList.length=bs.size:=by simp
    have hM:¬ j6 h μ w.heap.size:=by
     rintro⟨b,m,aq,hm,aw⟩;have:=rel.lt aq hm;omega
    have cY:bs.size<=grownCap w bs.size 0 e:=grownCap_ge w bs.size 0 e;have:=aP.b6 (w:=Lib.bytesWorld w e bs) (R:=R) (h:=h) (μ:=μ) 1 (bs.data.toList.map fun b=>[hZ b]) w.heap.size 0 (grownCap w bs.size 0 e) (fun i _=>.int .u8 (bs.data.toList.getD i 0).toNat)
     (by simpa using cY) (fun e aw=>by obtain⟨b,_,rfl⟩:=List.mem_map.1 aw; rfl)
     (fun i j aA am=>by
      have fr:i<bs.size:=by simpa using aA
      have:j=0:=by omega
      subst this;exact⟨by simpa using Lib.bytesWorld_cell w e bs i fr,rfl,rel.up _ rel.size,hM⟩)
     (fun i e aw j c am=>by
      rw[List.getElem?_map] at aw;cases ai:bs.data.toList[i]? with
      | none=>rw[ai] at aw; cases aw
      | some b=>
       rw[ai] at aw;simp only[Option.map_some,Option.some.injEq] at aw; subst aw;cases j with
       | zero=>
        simp only[List.getElem?_cons_zero,Option.some.injEq] at am; subst am;have:bs.data.toList.getD i 0=b:=by simp[List.getD,ai]
        rw[this];exact .int _ _
       | succ j=>simp at am)
    rw[List.length_map,gH] at this;exact this
  ·cases ak
 ·cases ak
theorem acY {t ty:TypeId} {x c:ae} {bK:Value} (ak:wa P t x=some c) (aj:aP w R h μ x bK) :∃ v,(Builtin.cap_ #[t] ty #[bK]).run P w=.ok v w/\aP w R h μ c v:=by
 unfold wa at ak;split at ak<;>(try (simp only[Option.some.injEq] at ak; subst ak))
 ·rename_i n e aL;exact⟨goInt n,by simp[Builtin.cap_,cu aL],.int _ _⟩
 ·rename_i e aL;cases aj;exact⟨goInt (0:Nat),by simp[Builtin.cap_,cu aL],.int _ _⟩
 ·cases ak
theorem ada (rel:b5 R B w h μ) {t ty:TypeId} {x:ae} {bK:Value} {h' : aM} (ak:wc P h t x=some h') (aj:aP w R h μ x bK) :
  ∃ w',(Builtin.clear_ #[t] ty #[bK]).run P w=.ok (.tuple #[]) w'/\dk w h μ w' h' μ/\b5 R B w' h' μ:=by
 unfold wc at ak;split at ak
 ·rename_i e aL;simp only[Option.some.injEq] at ak; subst ak;cases aj;exact⟨w,by simp[Builtin.clear_,cu aL],.refl _ _ _,rel⟩
 ·rename_i e z aL;simp only[Option.some.injEq] at ak; subst ak;cases aj<;>exact⟨w,by simp[Builtin.clear_,cu aL],.refl _ _ _,rel⟩
 ·rename_i e z b off len cap sz aL;split at ak
  ·rename_i s5;simp only[Option.some.injEq] at ak; subst ak;subst s5;cases aj<;>exact⟨w,by simp[Builtin.clear_,cu aL],.refl _ _ _,rel⟩
  ·rename_i s5;split at ak
   ·rename_i zero m cs aB ai;split at ak
    ·rename_i yO;obtain⟨rfl,rfl⟩:=yO;simp only[Option.some.injEq] at ak; subst ak;cases aj with
     | gS=>exact absurd rfl s5
     | fA _ _ _ _ _ _ cap' a aq c4 az=>
      exfalso;rcases az with az | ⟨ga,cs',az,aN⟩
      ·rw[az] at ai; cases ai
      ·rw[az] at ai; cases ai; omega
     | ao _ _ _ _ _ _ cap' cs' cf bL hm aq ay c4=>
      have dZ:=rel.blk b cf hm;rw[ai] at dZ;obtain⟨S1,d9,_⟩:=dZ;obtain⟨v,ax,aC⟩:=t7 (P:=P) (w:=w) (R:=R) (h:=h) (μ:=μ) aB;have IM:=Dw aC len;have ru:len*zero.length<=cap*zero.length:=Nat.mul_le_mul_right _ aq;have p5:(dp zero len).length=len*zero.length:=vD len;have kS:max m (off+(dp zero len).length)=m:=by rw[p5]; omega
      have gO:v.cells.size=zero.length:=aC.1;have CH:(Builtin.zeroCells v.cells len)=(Array.range (len*zero.length)).map (v.cells[· % v.cells.size]!) :=by
       unfold Builtin.zeroCells;rw[gO]
      obtain⟨w',h1,af,ap⟩:=vM (P:=P) rel (cvs:=dp zero len) (vs:=(Builtin.zeroCells v.cells len).toList) (k:=off) ai hm (by omega)
       (by rw[CH,p5]; simp) (by rw[kS]; omega) (fun j c am=>by
        rw[CH];obtain⟨u,bn,bA,a3⟩:=IM.2 j c am;exact⟨u,by rw[Array.getElem?_toList]; exact bn,bA,a3⟩)
      rw[kS] at af ap;refine⟨w',?_,af,ap⟩;cases bz:len with
      | zero=>exact absurd bz s5
      | succ asi=>
       rw[bz] at h1;simp[Builtin.clear_,cu aL,ax,h1]
    ·cases ak
   ·cases ak
 ·cases ak
theorem aca (rel:b5 R B w h μ) {t u ty:TypeId} {k:IntKind} {s x c:ae} {ag bK:Value} {h' : aM} (aL:P.underlying u=some (.int k)) (aG:x3 P h t s x=some (c,h')) (ar:aP w R h μ s ag) (aj:aP w R h μ x bK) :
  ∃ v w' μ',(Builtin.append_ #[t,u] ty #[ag,bK]).run P w=.ok v w'/\dk w h μ w' h' μ'/\b5 R B w' h' μ'/\aP w' R h' μ' c v:=by
 unfold x3 at aG;split at aG
 ·rename_i e n aw aA;have iY:=yp aw;obtain⟨o5,rfl⟩:=pC aA aj;split at aG
  ·rename_i z by_ zero aB dE hO;split at aG
   ·rename_i ii;obtain⟨gO,rx,aqA,ds⟩:=ii;obtain⟨i,zv,oO,jU,il,_⟩:=abm (P:=P) (w:=w) (R:=R) (h:=h) (μ:=μ) hO;have n0:i.size=z:=by simpa [cv,oO] using aB
    have km:i.bytes=by_:=by simpa [iR,oO] using dE
    have xe:IntKind.i64.wrap n=n:=by
     simp[IntKind.wrap,IntKind.bits,IntKind.signed]; omega
    have aI:(n.toNat:Int)=n:=by omega
    have nS:¬ (n<0) :=by omega
    have apQ:¬ (2 ^ 48<n*(by_:Int)) :=by
     have h1:((n.toNat*by_:Nat) :Int)=n*by_:=by rw[Int.natCast_mul,aI]
     have af:((n.toNat*by_:Nat) :Int)<=((140737488355328:Nat) :Int) :=Int.ofNat_le.2 ds;rw[h1] at af;omega
    have cB:jJ w R h μ (dp zero n.toNat) (Builtin.zeroCells zv.cells n.toNat) :=by
     obtain⟨v,ax,aC⟩:=t7 (P:=P) (w:=w) (R:=R) (h:=h) (μ:=μ) hO;have ahA:v=zv:=by
      have:=ax w;simp[zeroValue,typeInfo,oO,jU] at this;exact this.symm
     subst ahA;have IM:=Dw aC n.toNat
     have CH:(Builtin.zeroCells v.cells n.toNat)=(Array.range (n.toNat*zero.length)).map (v.cells[· % v.cells.size]!) :=by
      unfold Builtin.zeroCells;rw[aC.1]
     rw[CH];exact IM
    have p5:(dp zero n.toNat).length=n.toNat*z:=by rw[vD,gO]
    have sW:∀ w2:World,(Go.asInt (.int o5 n)).run P w2=.ok n w2:=fun w2=>rfl
    have sP:¬ (281474976710656<n*(by_:Int)) :=by omega
    have ve:∀ w2:World,(zeroValue e).run P w2=.ok zv w2:=fun w2=>by simp[zeroValue,typeInfo,oO,jU]
    have Uy:n.toNat*z=0->Builtin.zeroCells zv.cells n.toNat=#[] :=fun aQ=>by
     apply Array.eq_empty_of_size_eq_zero;unfold Builtin.zeroCells;simp[il,gO,aQ]
    refine N7 rel aB dE aG ar p5 (vs:=(Builtin.zeroCells zv.cells n.toNat).toList) ⟨by simpa using cB.1,fun j c am=>by
     obtain⟨v,bn,bA,a3⟩:=cB.2 j c am;exact⟨v,by rw[Array.getElem?_toList]; exact bn,bA,a3⟩⟩ (fun base sLen fM w' dF cm=>?_) (fun i1 auq fr UA base sLen fM eX ay az aC ai=>?_)
    ·by_cases aQ:n.toNat*z=0
     ·rw[Uy aQ] at cm;cases base with
      | none=>
       subst cm;simp[Builtin.append_,sW,cu iY,cu aL,e4 aB,xe,nS,typeInfo,oO,km,dF,sP,aQ]
      | some a=>
       simp only at cm;simp[Builtin.append_,sW,cu iY,cu aL,e4 aB,xe,nS,typeInfo,oO,km,dF,sP,aQ,cm]
     ·cases base with
      | none=>
       subst cm;simp[Builtin.append_,sW,cu iY,cu aL,e4 aB,xe,nS,typeInfo,oO,km,dF,sP,aQ,ve]
      | some a=>
       simp only at cm;simp[Builtin.append_,sW,cu iY,cu aL,e4 aB,xe,nS,typeInfo,oO,km,dF,sP,aQ,ve,cm]
    ·rw[oO] at fr;cases fr;rw[jU] at UA;cases UA;have mS:¬ (281474976710656<Builtin.nextslicecap (sLen+n.toNat) fM*i.bytes) :=by
      have:=growslice_fits (need:=sLen+n.toNat) (old:=fM) (bytes:=i.bytes) az aC;omega
     have TV:¬ (sLen+n.toNat<=fM) :=by omega
     have uX:¬ ((9223372036854775807:Int)<((sLen+n.toNat:Nat) :Int)) :=by
      have h1:(sLen+n.toNat)*1<=(sLen+n.toNat)*i.bytes:=Nat.mul_le_mul_left _ ai;unfold cJ at aC;omega
     have TR:¬ ((9223372036854775807:Int)<(sLen:Int)+max n 0) :=by omega
     rw[n0] at ay;rw[km] at mS;by_cases aQ:n.toNat*z=0
     ·have uU:(eX++(Builtin.zeroCells zv.cells n.toNat).toList).toArray=eX.toArray:=by rw[Uy aQ]; simp
      rw[uU];simp[Builtin.append_,sW,cu iY,cu aL,e4 aB,xe,nS,typeInfo,oO,km,TV,sP,uX,TR,mS,aQ,ve,ay,Question.forced,newRow,grownCap]
     ·have uU:(eX++(Builtin.zeroCells zv.cells n.toNat).toList).toArray=eX.toArray++Builtin.zeroCells zv.cells n.toNat:=by simp
      rw[uU];simp[Builtin.append_,sW,cu iY,cu aL,e4 aB,xe,nS,typeInfo,oO,km,TV,sP,uX,TR,mS,aQ,ve,ay,Question.forced,newRow,grownCap]
   ·cases aG
  ·cases aG
 ·cases aG
end
section
variable {P:Program} {w:World} {R:Nat->Prop} {B:Nat} {h:aM} {μ:cG}
theorem acl {op:BinOp} {t:TypeId} {k k' : IntKind} {a b:Int} {c:ae} (ak:ct op k a k' b=some c) :
  ∃ v,(binOp op t (.int k a) (.int k' b)).run P w=.ok v w/\aP w R h μ c v:=by
 cases op
 case shl=>
  simp only[ct] at ak;split at ak
  ·cases ak
  ·rename_i ai;simp only[Option.some.injEq] at ak; subst ak;exact⟨_,by simp[binOp,Op.shift,ai],.int _ _⟩
 case shr=>
  simp only[ct] at ak;split at ak
  ·cases ak
  ·rename_i ai;simp only[Option.some.injEq] at ak; subst ak;exact⟨_,by simp[binOp,Op.shift,ai],.int _ _⟩
 case quo=>
  simp only[ct] at ak;split at ak
  ·rename_i ai;obtain⟨rfl,ai⟩:=ai;simp only[Option.some.injEq] at ak; subst ak;exact⟨_,by simp[binOp,Op.intDiv,ai],.int _ _⟩
  ·cases ak
 case rem=>
  simp only[ct] at ak;split at ak
  ·rename_i ai;obtain⟨rfl,ai⟩:=ai;simp only[Option.some.injEq] at ak; subst ak;exact⟨_,by simp[binOp,Op.intDiv,ai],.int _ _⟩
  ·cases ak
 all_goals
  simp only[ct] at ak;split at ak
  ·rename_i aE;subst aE;simp only[Option.some.injEq] at ak; subst ak
   first
    | (refine⟨_,?_,.int _ _⟩; unfold binOp; simp only[ne_eq,not_true_eq_false,if_false]; rfl)
    | (refine⟨_,?_,.bool _⟩; unfold binOp; simp only[ne_eq,not_true_eq_false,if_false]; rfl)
  ·cases ak
theorem toList_eq (s:ByteArray) :s.toList=s.data.toList:=by
 rw[ByteArray.toList_eq]
theorem acm {op:BinOp} {t:TypeId} {a b:ByteArray} {c:ae} (ak:oy op a.data.toList b.data.toList=some c) :
  ∃ v,(binOp op t (.string a) (.string b)).run P w=.ok v w/\aP w R h μ c v:=by
 cases op<;>simp only[oy] at ak<;>try (cases ak; done)
 case add=>
  split at ak
  ·rename_i dv;simp only[Option.some.injEq] at ak; subst ak;have h1:a.data.toList.length=a.size:=by simp
   have af:b.data.toList.length=b.size:=by simp
   rw[h1,af] at dv;have y0:¬ ((9223372036854775807:Int)<(a.size:Int)+(b.size:Int)) :=by omega
   have aq:(a++b).data.toList=a.data.toList++b.data.toList:=by simp
   refine⟨.string (a++b),by simp[binOp,Op.stringOp,y0],?_⟩;rw[<-aq];exact .str _
  ·cases ak
 all_goals
  simp only[Option.some.injEq] at ak; subst ak;exact⟨_,by simp[binOp,Op.stringOp,toList_eq],.bool _⟩
theorem ad1 {d:Nat} {t:TypeId} {a b:Bool} (aL:P.underlying t=some .bool) :(Op.equalIn (d+1) t (.bool a) (.bool b)).run P w=.ok (a == b) w:=by
 simp[Op.equalIn,cu aL]
theorem ad2 {d:Nat} {t:TypeId} {h9 k:IntKind} {a b:Int} (aL:P.underlying t=some (.int h9)) :(Op.equalIn (d+1) t (.int k a) (.int k b)).run P w=.ok (a == b) w:=by
 simp[Op.equalIn,cu aL]
theorem ad3 {d:Nat} {t:TypeId} {a b:ByteArray} (aL:P.underlying t=some .string) :(Op.equalIn (d+1) t (.string a) (.string b)).run P w=.ok (a.data.toList == b.data.toList) w:=by
 simp[Op.equalIn,cu aL,toList_eq,beq_toListBytes]
theorem Hg {d:Nat} {t e:TypeId} {x y l c:Nat} {b:Option Addr} (aL:P.underlying t=some (.slice e)) :(Op.equalIn (d+1) t (.slice none x y) (.slice b l c)).run P w=.ok b.isNone w:=by
 simp[Op.equalIn,cu aL]
theorem RJ {d:Nat} {t e:TypeId} {x y l c:Nat} {a:Addr} (aL:P.underlying t=some (.slice e)) :(Op.equalIn (d+1) t (.slice (some a) l c) (.slice none x y)).run P w=.ok false w:=by
 simp[Op.equalIn,cu aL]
theorem He {d:Nat} {xs bm:List ae} {pq pr:Array Value}
  (aK:∀ (t:TypeId) (x y:ae) (b:Bool) (bK e9:Value),dX P d t x y=some b->aP w R h μ x bK->aP w R h μ y e9->(Op.equalIn d t bK e9).run P w=.ok b w)
  (p9:jJ w R h μ xs pq) (qa:jJ w R h μ bm pr) :∀ (l:List Field) (b:Bool),dX.eqFields P (dX P d) xs bm l=some b->(Op.eqFields d pq pr l).run P w=.ok b w
 | [],b,ai=>by simp only[dX.eqFields,Option.some.injEq] at ai; subst ai; simp[Op.eqFields]
 | f::l,b,ai=>by
  unfold dX.eqFields at ai;unfold Op.eqFields;by_cases aJ:f.name= "_"
  ·rw[if_pos aJ] at ai;simp[aJ,He aK p9 qa l b ai]
  ·rw[if_neg aJ] at ai;split at ai
   ·rename_i a c aG ak;obtain⟨hc,h1,af⟩:=tA (P:=P) aG p9;obtain⟨eL,ap,aH⟩:=tA (P:=P) ak qa;split at ai
    ·rename_i heq;have:=aK f.type a c true hc eL heq af aH;simp[aJ,h1,ap,this,He aK p9 qa l b ai]
    ·rename_i heq;have:=aK f.type a c false hc eL heq af aH;simp only[Option.some.injEq] at ai; subst ai;simp[aJ,h1,ap,this]
    ·cases ai
   ·cases ai
theorem RG {d z:Nat} {e:TypeId} {xs bm:List ae} {pq pr:Array Value}
  (aK:∀ (t:TypeId) (x y:ae) (b:Bool) (bK e9:Value),dX P d t x y=some b->aP w R h μ x bK->aP w R h μ y e9->(Op.equalIn d t bK e9).run P w=.ok b w)
  (p9:jJ w R h μ xs pq) (qa:jJ w R h μ bm pr) (f:Nat->Option Bool × Unit->Sem (ForInStep (Option Bool × Unit)))
  (aJ:∀ (i:Nat) (hc eL:Value) (b:Bool) (r:Option Bool × Unit),(part e pq (i*z)).run P w=.ok hc w->(part e pr (i*z)).run P w=.ok eL w->(Op.equalIn d e hc eL).run P w=.ok b w->
   (f i r).run P w=.ok (if b then .yield (none,()) else .done (some false,())) w) :
  ∀ (n i:Nat) (b:Bool),dX.pK P (dX P d) e z xs bm n i=some b->(forIn (List.range' i n) (none,()) f).run P w=.ok (if b then (none,()) else (some false,())) w
 | 0,i,b,ai=>by
  simp only[dX.pK,Option.some.injEq] at ai; subst ai;simp
 | n+1,i,b,ai=>by
  unfold dX.pK at ai;split at ai
  ·rename_i a c aG ak;obtain⟨hc,h1,af⟩:=tA (P:=P) aG p9;obtain⟨eL,ap,aH⟩:=tA (P:=P) ak qa;rw[List.range'_succ,List.forIn_cons];split at ai
   ·rename_i heq;have bp:=aK e a c true hc eL heq af aH;have aR:=aJ i hc eL true (none,()) (h1 w) (ap w) bp;simp only[Sem.run_bind,aR,if_true,Result.andThen_ok];exact RG aK p9 qa f aJ n (i+1) b ai
   ·rename_i heq;have bp:=aK e a c false hc eL heq af aH;have aR:=aJ i hc eL false (none,()) (h1 w) (ap w) bp;simp only[Option.some.injEq] at ai; subst ai;simp[aR]
   ·cases ai
  ·cases ai
theorem run_equalIn_array {d n z:Nat} {t e:TypeId} {pq pr:Array Value} (aL:P.underlying t=some (.array n e)) (aB:cv P e=some z) {b:Bool}
  (aE:∀ f:Nat->Option Bool × Unit->Sem (ForInStep (Option Bool × Unit)),
   (∀ (i:Nat) (hc eL:Value) (b:Bool) (r:Option Bool × Unit),(part e pq (i*z)).run P w=.ok hc w->(part e pr (i*z)).run P w=.ok eL w->(Op.equalIn d e hc eL).run P w=.ok b w->(f i r).run P w=.ok (if b then .yield (none,()) else .done (some false,())) w)->
   (forIn (List.range' 0 n) (none,()) f).run P w=.ok (if b then (none,()) else (some false,())) w) :
  (Op.equalIn (d+1) t (.agg pq) (.agg pr)).run P w=.ok b w:=by
 simp only[Op.equalIn,Sem.run_bind,cu aL,Result.andThen_ok,e4 aB];rw[Std.Legacy.Range.forIn_eq_forIn_range'];have aC:List.range' ([:n] :Std.Legacy.Range).start ([:n] :Std.Legacy.Range).size ([:n] :Std.Legacy.Range).step=List.range' 0 n:=by simp[Std.Legacy.Range.size]
 rw[aC,aE]
 ·cases b<;>simp
 ·intro i hc eL b r h1 af ap;cases b<;>simp[h1,af,ap]
theorem Hf:∀ (d:Nat) (t:TypeId) (x y:ae) (b:Bool) (bK e9:Value),dX P d t x y=some b->aP w R h μ x bK->aP w R h μ y e9->
  (Op.equalIn d t bK e9).run P w=.ok b w:=by
 intro d
 induction d with
 | zero=>intro t x y b bK e9 aw; simp[dX] at aw
 | succ d aK=>
  intro t x y b bK e9 aw aj aO;unfold dX at aw;split at aw
  ·rename_i a bo aL;simp only[Option.some.injEq] at aw; subst aw;cases aj; cases aO;exact ad1 aL
  ·rename_i h9 k a k' bo aL;split at aw
   ·rename_i aE; subst aE;simp only[Option.some.injEq] at aw; subst aw;cases aj; cases aO;exact ad2 aL
   ·cases aw
  ·rename_i a bo aL;simp only[Option.some.injEq] at aw; subst aw;cases aj; cases aO;exact ad3 aL
  ·rename_i fs xs bm aL;split at aw
   ·cases aw
   ·rename_i cm;obtain⟨pq,rfl,p9⟩:=sn aj;obtain⟨pr,rfl,qa⟩:=sn aO;have CC:P.stoodInHeld t=false:=by simpa using cm
    have oM:P.fieldsOf t=fs:=by simp[Program.fieldsOf,aL]
    rw[run_equalIn_struct w d t pq pr (by rw[oM]; exact aL) CC,oM];exact He aK p9 qa _ _ aw
  ·rename_i n e xs bm aL;cases aB:cv P e with
   | none=>rw[aB] at aw; cases aw
   | some z=>
    rw[aB] at aw;simp only at aw;obtain⟨pq,rfl,p9⟩:=sn aj;obtain⟨pr,rfl,qa⟩:=sn aO;exact run_equalIn_array aL aB (fun f aJ=>RG aK p9 qa f aJ n 0 b aw)
  ·rename_i e aL;simp only[Option.some.injEq] at aw; subst aw;cases aj; cases aO;exact Hg aL
  ·rename_i e z bo off len cap sz aL;simp only[Option.some.injEq] at aw; subst aw;cases aj; cases aO<;>exact Hg aL
  ·rename_i e z es aL;simp only[Option.some.injEq] at aw; subst aw;cases aj; cases aO<;>exact Hg aL
  ·rename_i e z bo off len cap sz aL;simp only[Option.some.injEq] at aw; subst aw;cases aO; cases aj<;>exact RJ aL
  ·rename_i e z es aL;simp only[Option.some.injEq] at aw; subst aw;cases aO; cases aj<;>exact RJ aL
  ·cases aw
end
end Go.cl

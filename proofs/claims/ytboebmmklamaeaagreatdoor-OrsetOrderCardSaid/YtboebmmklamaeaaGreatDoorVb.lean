/-
  The canonical machine, part E: slices: what they hold, append, slicing, copy, make, len.
-/
import Derived.Test.YtboebmmklamaeaaGreatDoorVa
import Derived.Lib.IndexBytes
import Derived.Laws.BytesString
import Derived.Lib.ConvBytes
set_option linter.unusedVariables false
set_option linter.unusedSimpArgs false
set_option linter.unnecessarySimpa false
namespace Go.cn
open Go
section
variable {P:Program} {w:World} {R:Nat->Prop} {B:Nat} {h:aQ} {μ:cJ}
theorem lk {α:Type} {z:Nat}:∀ {es:List (List α)},(∀ e,e∈es->e.length=z)->es.flatten.length=es.length*z
 | [],_=>by simp
 | e::es,aB=>by
  rw[List.flatten_cons,List.length_append,aB e (by simp),lk (fun e aw=>aB e (by simp[aw])),List.length_cons,Nat.succ_mul,Nat.add_comm]
theorem TP {α:Type} {z:Nat}:∀ {es:List (List α)} {j:Nat} {c:α},(∀ e,e∈es->e.length=z)->es.flatten[j]? = some c->
  ∃ i k e,j=i*z+k/\k<z/\es[i]? = some e/\e[k]? = some c
 | [],_,_,_,am=>by simp at am
 | e::es,j,c,aB,am=>by
  have aw:=aB e (by simp);rw[List.flatten_cons] at am;by_cases aP:j<e.length
  ·rw[List.getElem?_append_left aP] at am;exact⟨0,j,e,by simp,by omega,rfl,am⟩
  ·rw[List.getElem?_append_right (by omega)] at am;obtain⟨i,k,e0,h1,ag,ap,aJ⟩:=TP (fun e aw=>aB e (by simp[aw])) am;exact⟨i+1,k,e0,by rw[Nat.succ_mul]; omega,ag,by simpa using ap,aJ⟩
def rH (w:World) (R:Nat->Prop) (h:aQ) (μ:cJ) (xs:List ae) (vs:List Value) :Prop:=
 vs.length=xs.length/\∀ (j:Nat) (c:ae),xs[j]? = some c->∃ v:Value,vs[j]? = some v/\v.oneCell'=true/\aR w R h μ c v
theorem Oq {w2:World} {xs:List ae} {blk o:Nat} (lo:∀ a,w2.cell? a=w.cell? a)
  (aj:∀ (j:Nat) (c:ae),xs[j]? = some c->∃ v:Value,w.cell? ⟨blk,o+j,none⟩=some v/\v.oneCell'=true/\aR w R h μ c v) :
  ∃ vs:List Value,rH w R h μ xs vs/\∀ k,k<=xs.length->∀ w2:World,(∀ a,w2.cell? a=w.cell? a)->(loadCells ⟨blk,o,none⟩ k).run P w2=.ok (vs.take k).toArray w2:=by
 have ax:∃ f:Nat->Value,∀ (j:Nat) (c:ae),xs[j]? = some c->w.cell? ⟨blk,o+j,none⟩=some (f j)/\(f j).oneCell'=true/\aR w R h μ c (f j) :=by
  refine⟨fun j=>(w.cell? ⟨blk,o+j,none⟩).getD undef,fun j c am=>?_⟩;obtain⟨v,h1,ag,ap⟩:=aj j c am;simp only[h1,Option.getD_some];exact⟨trivial,ag,ap⟩
 obtain⟨f,aI⟩:=ax;refine⟨(List.range xs.length).map f,⟨by simp,fun j c am=>?_⟩,fun k hk w2 jV=>?_⟩
 ·have aP:j<xs.length:=(List.getElem?_eq_some_iff.1 am).1;exact⟨f j,by simp[aP],(aI j c am).2⟩
 ·have:=run_loadCells_list (P:=P) w2 ⟨blk,o,none⟩ (((List.range xs.length).map f).take k) (fun j v am=>by
   have g2:j<k:=by
    rcases Nat.lt_or_ge j k with h1 | h1
    ·exact h1
    ·rw[List.getElem?_eq_none (by simp; omega)] at am; cases am
   rw[List.getElem?_take_of_lt g2,List.getElem?_map] at am;have lr:j<xs.length:=by omega
   rw[List.getElem?_range lr] at am;simp only[Option.map_some,Option.some.injEq] at am;rw[Addr.lg,<-am,jV];exact (aI j _ (List.getElem?_eq_getElem lr)).1)
  have au:(((List.range xs.length).map f).take k).length=k:=by simp; omega
  rw[au] at this;exact this
theorem tv (rel:cc R B w h μ) {z n:Nat} {x:ae} {bJ:Value} {xs:List ae} (al:contents h z x=some (xs,n)) (aj:aR w R h μ x bJ) :
  xs.length=n*z/\(Builtin.lenOf bJ).run P w=.ok n w/\∃ vs:List Value,rH w R h μ xs vs ∧
   ∀ k,k<=n->∀ w2:World,(∀ a,w2.cell? a=w.cell? a)->(Builtin.firstCells z k bJ).run P w2=.ok (vs.take (k*z)).toArray w2:=by
 cases aj with
 | aX=>
  simp only[contents,Option.some.injEq,Prod.mk.injEq] at al;obtain⟨rfl,rfl⟩:=al;exact⟨by simp,by simp[Builtin.lenOf],[],⟨rfl,fun j c am=>by simp at am⟩,fun k _ w2 _=>by simp[Builtin.firstCells]⟩
 | str bs=>
  simp only[contents] at al;split at al
  ·rename_i aB; subst aB;simp only[Option.some.injEq,Prod.mk.injEq] at al;obtain⟨rfl,rfl⟩:=al;refine⟨by simp,by simp[Builtin.lenOf],bs.data.toList.map fun b=>.int .u8 b.toNat,⟨by simp,fun j c am=>?_⟩,fun k hk w2 _=>?_⟩
   ·rw[List.getElem?_map] at am ⊢;cases ai:bs.data.toList[j]? with
    | none=>rw[ai] at am; cases am
    | some b=>
     rw[ai] at am;simp only[Option.map_some,Option.some.injEq] at am;subst am;exact⟨_,rfl,rfl,.int _ _⟩
   ·have aj:(bs.extract 0 k).data.toList=bs.data.toList.take k:=by
     simp[ByteArray.extract,ByteArray.copySlice]
    have aK:(bs.extract 0 k).data=(bs.data.toList.take k).toArray:=by rw[<-aj]
    simp only[Builtin.firstCells,aK];simp
  ·cases al
 | b0 di es blk off cap dS au aB lo ax=>
  simp only[contents] at al;split at al
  ·rename_i sA; subst sA;simp only[Option.some.injEq,Prod.mk.injEq] at al;obtain⟨rfl,rfl⟩:=al;have bA:=lk aB;have cF:∀ (j:Nat) (c:ae),es.flatten[j]? = some c->∃ v:Value,w.cell? ⟨blk,off+j,none⟩=some v/\v.oneCell'=true/\aR w R h μ c v:=by
    intro j c am;obtain⟨i,k,e,rfl,hk,aw,aiA⟩:=TP aB am;have aA:i<es.length:=(List.getElem?_eq_some_iff.1 aw).1;have de:=lo i k aA hk;exact⟨dS i k,de.here,de.one,ax i e aw k c aiA⟩
   obtain⟨vs,h1,ag⟩:=Oq (P:=P) (w2:=w) (fun _=>rfl) cF;refine⟨bA,by simp[Builtin.lenOf],vs,h1,fun k hk w2 jV=>?_⟩;have:=ag (k*z) (by rw[bA]; exact Nat.mul_le_mul_right _ hk) w2 jV;simp[Builtin.firstCells,this]
  ·cases al
 | fo di a cap=>
  simp only[contents] at al;split at al
  ·simp only[Option.some.injEq,Prod.mk.injEq] at al;obtain⟨rfl,rfl⟩:=al;exact⟨by simp,by simp[Builtin.lenOf],[],⟨rfl,fun j c am=>by simp at am⟩,fun k hk w2 _=>by
    obtain rfl:k=0:=by simpa using hk
    simp[Builtin.firstCells,loadCells,loadCellsFrom]⟩
  ·cases al
 | ao di b off len cap sz cap' cs m ai hm au ay c3=>
  simp only[contents,ai,true_and] at al;split at al
  ·rename_i sA; subst sA;simp only[Option.some.injEq,Prod.mk.injEq] at al;obtain⟨rfl,rfl⟩:=al;have en:=rel.blk b m hm;rw[ai] at en;obtain⟨h1,ag,arr,t,fA,ap,aJ,bd,bL⟩:=en;have sn:len*z<=cap*z:=Nat.mul_le_mul_right _ au;have bA:((cs.drop off).take (len*z)).length=len*z:=by
    rw[List.length_take,List.length_drop]; omega
   have cF:∀ (j:Nat) (c:ae),((cs.drop off).take (len*z))[j]? = some c->∃ v:Value,w.cell? ⟨m.r,(m.s+off)+j,none⟩=some v/\v.oneCell'=true/\aR w R h μ c v:=by
    intro j c am;have aP:j<len*z:=by
     have:=(List.getElem?_eq_some_iff.1 am).1;rw[bA] at this; exact this
    rw[List.getElem?_take_of_lt aP,List.getElem?_drop] at am;obtain⟨v,bj,bz,a3⟩:=bL _ c am;exact⟨v,by simp[World.cell?,ap,Nat.add_assoc,bj],bz,a3⟩
   obtain⟨vs,ci,b6⟩:=Oq (P:=P) (w2:=w) (fun _=>rfl) cF;refine⟨bA,by simp[Builtin.lenOf],vs,ci,fun k hk w2 jV=>?_⟩;have:=b6 (k*z) (by rw[bA]; exact Nat.mul_le_mul_right _ hk) w2 jV;simp[Builtin.firstCells,this]
  ·cases al
 | hi di b off sz a cs m ai hm=>
  simp only[contents,ai,true_and] at al;split at al
  ·rename_i sA; subst sA;simp only[Option.some.injEq,Prod.mk.injEq,Nat.zero_mul,List.take_zero] at al;obtain⟨rfl,rfl⟩:=al;exact⟨by simp,by simp[Builtin.lenOf],[],⟨rfl,fun j c am=>by simp at am⟩,fun k hk w2 _=>by
    obtain rfl:k=0:=by simpa using hk
    simp[Builtin.firstCells,loadCells,loadCellsFrom]⟩
  ·cases al
 | fZ di b off len cap sz cap' a au UO az=>
  unfold contents at al;rcases az with az | ⟨gB,cs',az,aP⟩
  ·simp[az] at al
  ·simp only[az] at al;split at al
   ·omega
   ·cases al
 | _=>simp[contents] at al
theorem zE {t e:TypeId} (aw:hQ P t=some e) :P.underlying t=some (.slice e) :=by
 unfold hQ at aw;split at aw
 ·rename_i e0 aM; cases aw; exact aM
 ·cases aw
def yf (P:Program) (u:TypeId) :Prop:=∃ d,P.underlying u=some d/\∀ k,d≠.int k
theorem Wp (d:TypeDesc) (hk:∀ k,d≠.int k) :(match d with | .int _=>true | _=>false)=false:=by
 cases d with
 | int k=>exact absurd rfl (hk k)
 | _=>rfl
theorem run_append_fits {t u ty e:TypeId} {z n sLen gn:Nat} {base:Option Addr} {bJ:Value} {vs:List Value} {w' : World} (aw:P.underlying t=some (.slice e)) (aB:cz P e=some z) (aM:yf P u)
  (au:(Builtin.lenOf bJ).run P w=.ok n w) (aI:(Builtin.firstCells z n bJ).run P w=.ok vs.toArray w) (dP:sLen+n<=gn)
  (cK:match base with | some a=>(storeCells (a.add (sLen*z)) vs).run P w=.ok () w' | none=>w'=w) :
  (Builtin.append_ #[t,u] ty #[.slice base sLen gn,bJ]).run P w=.ok (.slice base (sLen+n) gn) w':=by
 obtain⟨d,bN,hk⟩:=aM;have z8:=Wp d hk;cases base with
 | none=>
  subst cK;simp[Builtin.append_,cy aw,fr aB,cy bN,z8,au,dP,aI]
 | some a=>
  simp only at cK;simp[Builtin.append_,cy aw,fr aB,cy bN,z8,au,dP,aI,cK]
theorem aox {t u ty e:TypeId} {i:TypeInfo} {zv:Value} {n sLen gn:Nat} {base:Option Addr} {bJ:Value} {fl vs:List Value} (aw:P.underlying t=some (.slice e)) (aA:P.info? e=some i) (kw:i.zero=some zv) (aM:yf P u)
  (au:(Builtin.lenOf bJ).run P w=.ok n w) (aI:(Builtin.firstCells i.size n bJ).run P w.drew=.ok vs.toArray w.drew) (ay:(Builtin.firstCells i.size sLen (.slice base sLen gn)).run P w.drew=.ok fl.toArray w.drew)
  (oy:gn<sLen+n) (dy:(sLen+n)*i.bytes<=cT) (ai:0<i.bytes) :
  (Builtin.append_ #[t,u] ty #[.slice base sLen gn,bJ]).run P w =
   .ok (.slice (some ⟨w.heap.size,0,none⟩) (sLen+n) (grownCap w (sLen+n) gn e)) (w.drew.alloc (.cells ((fl++vs).toArray++Builtin.zeroCells zv.cells (grownCap w (sLen+n) gn e - (sLen+n))) e)) :=by
 obtain⟨d,bN,hk⟩:=aM;have z8:=Wp d hk;have aB:cz P e=some i.size:=by simp[cz,aA]
 have aH:¬ (sLen+n<=gn) :=by omega
 have tF:¬ (281474976710656<Builtin.nextslicecap (sLen+n) gn*i.bytes) :=by
  have:=growslice_fits oy dy;omega
 have kS:¬ (i.bytes=0) :=by omega
 simp[Builtin.append_,cy aw,fr aB,cy bN,z8,au,aH,typeInfo,aA,tF,kS,Question.forced,ay,aI,zeroValue,kw,newRow,grownCap];rw[<-Array.append_assoc,List.append_toArray fl vs]
theorem dr.drew {h' : aQ} {μ' : cJ} {w' : World} (e:dr w h μ w' h' μ') :dr w h μ w' h' μ':=e
theorem aoX {s:ae} {af:Value} (ar:aR w R h μ s af) (hk:s=.aX\/(∃ z es,s=.b0 z es)\/∃ z b off len cap sz,s=.ao z b off len cap sz) :
  ∃ base sLen gn,af=.slice base sLen gn/\sLen<=gn:=by
 cases ar<;>simp at hk
 ·exact⟨_,_,_,rfl,Nat.le_refl _⟩
 ·rename_i au ay de;exact⟨_,_,_,rfl,by omega⟩
 ·rename_i au UO az;exact⟨_,_,_,rfl,by omega⟩
 ·exact⟨_,_,_,rfl,Nat.le_refl _⟩
 ·rename_i au aB al ax;exact⟨_,_,_,rfl,by omega⟩
 ·exact⟨_,_,_,rfl,Nat.zero_le _⟩
theorem ady {e:TypeId} {z:Nat} (aB:ry P e=some z) :∃ i v,P.info? e=some i/\i.zero=some v/\v.cells.size=z:=by
 unfold ry at aB;cases aA:P.info? e with
 | none=>rw[aA] at aB; cases aB
 | some i=>
  rw[aA] at aB;simp only[Option.bind_some] at aB;cases ax:i.zero with
  | none=>rw[ax] at aB; cases aB
  | some v=>rw[ax] at aB; exact⟨i,v,rfl,ax,by simpa using aB⟩
theorem zQ {e:TypeId} {zv:Value} {z need cap:Nat} {xs:List ae} {vs:List Value} (aB:zv.cells.size=z) (au:xs.length=need*z) (lx:rH w R h μ xs vs) (c3:need<=cap) :
  (vs.toArray++Builtin.zeroCells zv.cells (cap - need)).size=cap*z ∧
  ∀ (j:Nat) (c:ae),xs[j]? = some c->∃ v:Value,(vs.toArray++Builtin.zeroCells zv.cells (cap - need))[j]? = some v/\v.oneCell'=true/\aR w R h μ c v:=by
 refine⟨?_,fun j c am=>?_⟩
 ·have h1:(Builtin.zeroCells zv.cells (cap - need)).size=(cap - need)*z:=by simp[Builtin.zeroCells,aB]
  have ag:need*z+(cap - need)*z=cap*z:=by rw[<-Nat.add_mul]; congr 1; omega
  rw[Array.size_append,h1,List.size_toArray,lx.1,au,ag]
 ·obtain⟨v,h1,ag,ap⟩:=lx.2 j c am;have aP:j<vs.length:=(List.getElem?_eq_some_iff.1 h1).1;refine⟨v,?_,ag,ap⟩;rw[Array.getElem?_append_left (by simpa using aP)];simpa using h1
theorem PK (rel:cc R B w h μ) {t u ty e:TypeId} {z by_ n:Nat} {s c:ae} {af bJ:Value} {h' : aQ} {xs:List ae} {vs:List Value} (aB:cz P e=some z) (dO:iO P e=some by_)
  (aG:te P h e z by_ s xs n=some (c,h')) (ar:aR w R h μ s af) (bF:xs.length=n*z) (cF:rH w R h μ xs vs)
  (C7:∀ (base:Option Addr) (sLen gn:Nat) (w' : World),sLen+n<=gn->(match base with | some a=>(storeCells (a.add (sLen*z)) vs).run P w=.ok () w' | none=>w'=w)->
   (Builtin.append_ #[t,u] ty #[.slice base sLen gn,bJ]).run P w=.ok (.slice base (sLen+n) gn) w')
  (Ad:∀ (i:TypeInfo) (zv:Value),P.info? e=some i->i.zero=some zv->∀ (base:Option Addr) (sLen gn:Nat) (fl:List Value),(Builtin.firstCells i.size sLen (.slice base sLen gn)).run P w.drew=.ok fl.toArray w.drew->
   gn<sLen+n->(sLen+n)*i.bytes<=cT->0<i.bytes->(Builtin.append_ #[t,u] ty #[.slice base sLen gn,bJ]).run P w =
   .ok (.slice (some ⟨w.heap.size,0,none⟩) (sLen+n) (grownCap w (sLen+n) gn e)) (w.drew.alloc (.cells ((fl++vs).toArray++Builtin.zeroCells zv.cells (grownCap w (sLen+n) gn e - (sLen+n))) e))) :
  ∃ v w' μ',(Builtin.append_ #[t,u] ty #[af,bJ]).run P w=.ok v w'/\dr w h μ w' h' μ'/\cc R B w' h' μ'/\aR w' R h' μ' c v:=by
 unfold te at aG;by_cases aH:n=0
 ·-- nothing is appended
  subst aH;simp only[if_true] at aG;have cp:(c,h')=(s,h) :=by
   split at aG<;>first | (simp only[Option.some.injEq] at aG; exact aG.symm) | cases aG
  have hk:s=.aX\/(∃ z es,s=.b0 z es)\/∃ z b off len cap sz,s=.ao z b off len cap sz:=by
   split at aG
   ·exact .inl rfl
   ·exact .inr (.inl ⟨_,_,rfl⟩)
   ·exact .inr (.inr ⟨_,_,_,_,_,_,rfl⟩)
   ·cases aG
  simp only[Prod.mk.injEq] at cp;obtain⟨rfl,rfl⟩:=cp;obtain⟨base,sLen,gn,rfl,du⟩:=aoX ar hk;have h9:vs=[] :=by
   have:vs.length=0:=by rw[cF.1,bF]; simp
   exact List.length_eq_zero_iff.1 this
  subst h9;have:=C7 base sLen gn w (by omega) (by cases base<;>simp[storeCells]);exact⟨_,w,μ,this,.refl _ _ _,rel,by simpa using ar⟩
 ·rw[if_neg aH] at aG;split at aG
  ·cases aG
  ·rename_i iR;simp only[not_or,Decidable.not_not] at iR;obtain⟨qT,jU,hf⟩:=iR;obtain⟨i,zv,aA,kw,iU⟩:=ady hf;have oK:i.size=z:=by simpa [cz,aA] using aB
   have kS:i.bytes=by_:=by simpa [iO,aA] using dO
   have akr:0<z:=Nat.pos_of_ne_zero qT;have Jh:∀ a,w.drew.cell? a=w.cell? a:=fun _=>rfl
   split at aG
   ·-- append to nil
    split at aG
    ·rename_i dy;simp only[Option.some.injEq,Prod.mk.injEq] at aG;obtain⟨rfl,rfl⟩:=aG;cases ar;have az:=Ad i zv aA kw none 0 0 [] (by simp[Builtin.firstCells]) (by omega) (by rw[kS]; simpa using dy) (by omega);have c3:n<=grownCap w (0+n) 0 e:=by have:=grownCap_ge w (0+n) 0 e; omega
     obtain⟨j1,kr⟩:=zQ (e:=e) (zv:=zv) (need:=n) (cap:=grownCap w (0+n) 0 e) iU (by rw[bF]) cF c3;have aE:=rel.push (w':=w.drew.alloc (.cells (vs.toArray++Builtin.zeroCells zv.cells (grownCap w (0+n) 0 e - n)) e)) xs _ e rfl rfl rfl rfl (by rw[j1,bF]; exact Nat.mul_le_mul_right _ c3) kr;rw[bF] at aE;refine⟨_,_,_,by simpa using az,by simpa using aE.1,by simpa using aE.2,?_⟩;have:=aR.ao (w:=w.drew.alloc (.cells (vs.toArray++Builtin.zeroCells zv.cells (grownCap w (0+n) 0 e - n)) e)) (R:=R) (h:=h.push (.cells (n*z) xs)) (μ:=b5 μ h.n (some ⟨w.heap.size,0,(vs.toArray++Builtin.zeroCells zv.cells (grownCap w (0+n) 0 e - n)).size⟩))
      z h.n 0 n n (n*z) (grownCap w (0+n) 0 e) xs ⟨w.heap.size,0,(vs.toArray++Builtin.zeroCells zv.cells (grownCap w (0+n) 0 e - n)).size⟩ (by simp[dR,e3]) (by simp) (Nat.le_refl _) (by omega) (.inr ⟨by omega,c3,by simp only; rw[j1]; omega⟩)
     simpa using this
    ·cases aG
   ·rename_i di b off len cap sz;cases ai:h.f b with
    | cells m cs=>
     rw[ai] at aG;simp only at aG;split at aG
     ·rename_i z7;obtain⟨rfl,rfl,dy⟩:=z7;cases ar with
      | fZ _ _ _ _ _ _ cap' a au UO az=>
       exfalso;rcases az with az | ⟨gB,cs',az,aP⟩
       ·rw[az] at ai; cases ai
       ·rw[az] at ai; cases ai; omega
      | hi _ _ _ _ a cs' cj bP hm=>
       rw[ai] at bP; cases bP;have nh:=rel.qj hm;rw[if_neg (by omega),Nat.zero_mul,List.take_zero,List.take_zero,List.nil_append,Nat.zero_add] at aG;have az:=Ad i zv aA kw (some a) 0 0 [] (by simp[Builtin.firstCells,loadCells,loadCellsFrom]) (by omega) (by rw[kS]; exact dy) (by omega);rw[Nat.zero_add] at az;have c3:n<=grownCap w n 0 e:=grownCap_ge _ _ _ _;obtain⟨j1,kr⟩:=zQ (e:=e) (zv:=zv) (need:=n) (cap:=grownCap w n 0 e) iU (by rw[bF]) cF c3;split at aG
       ·simp only[Option.some.injEq,Prod.mk.injEq] at aG;obtain⟨rfl,rfl⟩:=aG;have aE:=rel.push (w':=w.drew.alloc (.cells (vs.toArray++Builtin.zeroCells zv.cells (grownCap w n 0 e - n)) e)) xs _ e rfl rfl rfl rfl (by rw[j1,bF]; exact Nat.mul_le_mul_right _ c3) kr;rw[bF] at aE;refine⟨_,_,_,by simpa using az,by simpa using aE.1,by simpa using aE.2,?_⟩;have:=aR.ao (w:=w.drew.alloc (.cells (vs.toArray++Builtin.zeroCells zv.cells (grownCap w n 0 e - n)) e)) (R:=R) (h:=h.push (.cells (n*z) xs)) (μ:=b5 μ h.n (some ⟨w.heap.size,0,(vs.toArray++Builtin.zeroCells zv.cells (grownCap w n 0 e - n)).size⟩))
         z h.n 0 n n (n*z) (grownCap w n 0 e) xs ⟨w.heap.size,0,(vs.toArray++Builtin.zeroCells zv.cells (grownCap w n 0 e - n)).size⟩ (by simp[dR,e3]) (by simp) (Nat.le_refl _) (by omega) (.inr ⟨by omega,c3,by simp only; rw[j1]; omega⟩)
        simpa using this
       ·rename_i xt;split at aG
        ·rename_i xG;subst xG;simp only[Option.some.injEq,Prod.mk.injEq] at aG;obtain⟨rfl,rfl⟩:=aG;have sg:m<n*z:=by
          have:1*1<=n*z:=Nat.mul_le_mul (by omega) akr;omega
         have aE:=rel.move (w':=w.drew.alloc (.cells (vs.toArray++Builtin.zeroCells zv.cells (grownCap w n 0 e - n)) e)) ai hm rfl rfl rfl rfl bF sg (by rw[j1]; exact Nat.mul_le_mul_right _ c3) kr;refine⟨_,_,_,by simpa using az,by simpa using aE.1,by simpa using aE.2,?_⟩;have:=aR.ao (w:=w.drew.alloc (.cells (vs.toArray++Builtin.zeroCells zv.cells (grownCap w n 0 e - n)) e)) (R:=R) (h:=h.set b (.cells (n*z) xs)) (μ:=b5 μ b (some ⟨w.heap.size,0,(vs.toArray++Builtin.zeroCells zv.cells (grownCap w n 0 e - n)).size⟩))
          z b 0 n n (n*z) (grownCap w n 0 e) xs ⟨w.heap.size,0,(vs.toArray++Builtin.zeroCells zv.cells (grownCap w n 0 e - n)).size⟩ (by simp[dz,eI]) (by simp) (Nat.le_refl _) (by omega) (.inr ⟨by omega,c3,by simp only; rw[j1]; omega⟩)
         simpa using this
        ·simp only[Option.some.injEq,Prod.mk.injEq] at aG;obtain⟨rfl,rfl⟩:=aG;have aE:=rel.push (w':=w.drew.alloc (.cells (vs.toArray++Builtin.zeroCells zv.cells (grownCap w n 0 e - n)) e)) xs _ e rfl rfl rfl rfl (by rw[j1,bF]; exact Nat.mul_le_mul_right _ c3) kr;rw[bF] at aE;have hk:=aE.2.kill (b:=b) (sz:=m) (cs:=cs) (h':=(h.set b .dead).push (.cells (n*z) xs)) (by rw[dR,cg _ _ _ _ (by omega)]; exact ai) (by rw[e3]; omega) (by
          rw[dR,dR,dz,eI];funext x;simp only[b5];by_cases h1:x=h.n
          ·rw[if_pos h1,if_neg (by omega),if_pos h1]
          ·rw[if_neg h1];split<;>rfl) rfl
         refine⟨_,_,_,by simpa using az,by simpa using aE.1.trans hk.1,by simpa using hk.2,?_⟩;have:=aR.ao (w:=w.drew.alloc (.cells (vs.toArray++Builtin.zeroCells zv.cells (grownCap w n 0 e - n)) e)) (R:=R) (h:=(h.set b .dead).push (.cells (n*z) xs)) (μ:=b5 μ h.n (some ⟨w.heap.size,0,(vs.toArray++Builtin.zeroCells zv.cells (grownCap w n 0 e - n)).size⟩))
          z h.n 0 n n (n*z) (grownCap w n 0 e) xs ⟨w.heap.size,0,(vs.toArray++Builtin.zeroCells zv.cells (grownCap w n 0 e - n)).size⟩ (by rw[dR,eI,i7]) (by simp) (Nat.le_refl _) (by omega) (.inr ⟨by omega,c3,by simp only; rw[j1]; omega⟩)
         simpa using this
      | ao _ _ _ _ _ _ cap' cs' cj bP hm au ay de=>
       have en:=rel.blk b cj hm;rw[ai] at en;obtain⟨UQ,dt,_⟩:=en;rw[ai] at bP; cases bP;have sn:len*z<=cap*z:=Nat.mul_le_mul_right _ au;have UL:cap<=cap':=by rcases de with de | de<;>omega
       split at aG
       ·-- in place,within what the machine knows
        rename_i dP;simp only[Option.some.injEq,Prod.mk.injEq] at aG;obtain⟨rfl,rfl⟩:=aG;have Vy:len*z+n*z<=cap*z:=by rw[<-Nat.add_mul]; exact Nat.mul_le_mul_right _ dP
        have lu:max m (off+len*z+xs.length)=m:=by omega
        obtain⟨w',h1,ag,ap⟩:=wz (P:=P) rel (cvs:=xs) (vs:=vs) (k:=off+len*z) ai hm (by omega) cF.1 (by omega) cF.2;rw[lu] at ag ap;have cK:(storeCells ((⟨cj.r,cj.s+off,none⟩:Addr).add (len*z)) vs).run P w=.ok () w':=by rw[Addr.lg,Nat.add_assoc]; exact h1
        refine⟨_,w',μ,C7 (some ⟨cj.r,cj.s+off,none⟩) _ _ _ (by omega) cK,ag,ap,?_⟩;exact .ao z b off (len+n) cap m cap' _ cj (by simp[dz,eI]; rfl) hm dP ay de
       ·rename_i atS;split at aG
        ·-- beyond a slice whose end lies within the row: it moves
         rename_i atx;simp only[Option.some.injEq,Prod.mk.injEq] at aG;obtain⟨rfl,rfl⟩:=aG;have fi:cap'=cap:=by rcases de with de | de<;>omega
         subst fi;have dp:contents h z (.ao z b off len cap' m)=some ((cs.drop off).take (len*z),len) :=by simp[contents,ai]
         obtain⟨dJ,_,fl,hu,An⟩:=tv (P:=P) rel dp (aR.ao z b off len cap' m cap' cs cj ai hm au ay de);have vQ:∀ w2:World,(∀ a,w2.cell? a=w.cell? a)->(Builtin.firstCells z len (.slice (some ⟨cj.r,cj.s+off,none⟩) len cap')).run P w2=.ok fl.toArray w2:=fun w2 l9=>by
          have:=An len (Nat.le_refl _) w2 l9
          rwa [List.take_of_length_le (by rw[hu.1,dJ]; exact Nat.le_refl _)] at this
         have az:=Ad i zv aA kw (some ⟨cj.r,cj.s+off,none⟩) len cap' fl (by rw[oK]; exact vQ w.drew Jh) (by omega) (by rw[kS]; exact dy) (by omega);have c3:len+n<=grownCap w (len+n) cap' e:=grownCap_ge _ _ _ _;have z2:rH w R h μ ((cs.drop off).take (len*z)++xs) (fl++vs) :=by
          refine⟨by simp[hu.1,cF.1],fun j c am=>?_⟩;by_cases aP:j<((cs.drop off).take (len*z)).length
          ·rw[List.getElem?_append_left aP] at am;rw[List.getElem?_append_left (by rw[hu.1]; exact aP)];exact hu.2 j c am
          ·rw[List.getElem?_append_right (by omega)] at am;rw[List.getElem?_append_right (by rw[hu.1]; omega),hu.1];exact cF.2 _ c am
         have fh:((cs.drop off).take (len*z)++xs).length=(len+n)*z:=by rw[List.length_append,dJ,bF,Nat.add_mul]
         obtain⟨j1,kr⟩:=zQ (e:=e) (zv:=zv) (need:=len+n) (cap:=grownCap w (len+n) cap' e) iU fh z2 c3;have aE:=rel.push (w':=w.drew.alloc (.cells ((fl++vs).toArray++Builtin.zeroCells zv.cells (grownCap w (len+n) cap' e - (len+n))) e)) _ _ e rfl rfl rfl rfl (by rw[j1,fh]; exact Nat.mul_le_mul_right _ c3) kr;rw[fh] at aE;refine⟨_,_,_,az,aE.1,aE.2,?_⟩;have:=aR.ao (w:=w.drew.alloc (.cells ((fl++vs).toArray++Builtin.zeroCells zv.cells (grownCap w (len+n) cap' e - (len+n))) e)) (R:=R) (h:=h.push (.cells ((len+n)*z) ((cs.drop off).take (len*z)++xs))) (μ:=b5 μ h.n (some ⟨w.heap.size,0,((fl++vs).toArray++Builtin.zeroCells zv.cells (grownCap w (len+n) cap' e - (len+n))).size⟩))
          z h.n 0 (len+n) (len+n) ((len+n)*z) (grownCap w (len+n) cap' e) _ ⟨w.heap.size,0,((fl++vs).toArray++Builtin.zeroCells zv.cells (grownCap w (len+n) cap' e - (len+n))).size⟩ (by simp[dR,e3]; rfl) (by simp) (Nat.le_refl _) (by omega) (.inr ⟨by omega,c3,by simp only; rw[j1]; omega⟩)
         simpa using this
        ·rename_i xt;split at aG
         ·-- beyond the row's end: in place,or it moves
          rename_i xG;subst xG;simp only[Option.some.injEq,Prod.mk.injEq] at aG;obtain⟨rfl,rfl⟩:=aG;obtain⟨aiw,xr,UX⟩:0+cap*z=m/\cap<=cap'/\cj.s+0+cap'*z<=cj.T:=by rcases de with de | de<;>omega
          have sg:m<(len+n)*z:=by
           have:(cap+1)*z<=(len+n)*z:=Nat.mul_le_mul_right _ (by omega);rw[Nat.add_mul] at this;omega
          have aj9:len*z+n*z=(len+n)*z:=by rw[Nat.add_mul]
          by_cases dP:len+n<=cap'
          ·have ajp:(len+n)*z<=cap'*z:=Nat.mul_le_mul_right _ dP;have lu:max m (len*z+xs.length)=(len+n)*z:=by omega
           obtain⟨w',h1,ag,ap⟩:=wz (P:=P) rel (cvs:=xs) (vs:=vs) (k:=len*z) ai hm (by omega) cF.1 (by omega) cF.2;rw[lu] at ag ap;have ss:bS cs (len*z) xs=cs.take (len*z)++xs:=by
            unfold bS;rw[List.drop_eq_nil_of_le (by omega),List.append_nil]
           rw[ss] at ag ap;have cK:(storeCells ((⟨cj.r,cj.s+0,none⟩:Addr).add (len*z)) vs).run P w=.ok () w':=by rw[Addr.lg,Nat.add_assoc]; simpa using h1
           refine⟨_,w',μ,C7 (some ⟨cj.r,cj.s+0,none⟩) _ _ _ dP cK,ag,ap,?_⟩;exact .ao z b 0 (len+n) (len+n) ((len+n)*z) cap' _ cj (by simp[dz,eI]; rfl) hm (Nat.le_refl _) (by omega) (.inr ⟨by omega,dP,UX⟩)
          ·have dp:contents h z (.ao z b 0 len cap m)=some ((cs.drop 0).take (len*z),len) :=by simp[contents,ai]
           obtain⟨dJ,_,fl,hu,An⟩:=tv (P:=P) rel dp (aR.ao z b 0 len cap m cap' cs cj ai hm au ay de);have vQ:∀ w2:World,(∀ a,w2.cell? a=w.cell? a)->(Builtin.firstCells z len (.slice (some ⟨cj.r,cj.s+0,none⟩) len cap')).run P w2=.ok fl.toArray w2:=fun w2 l9=>by
            have:=An len (Nat.le_refl _) w2 l9
            rwa [List.take_of_length_le (by rw[hu.1,dJ]; exact Nat.le_refl _)] at this
           rw[List.drop_zero] at dJ hu;have az:=Ad i zv aA kw (some ⟨cj.r,cj.s+0,none⟩) len cap' fl (by rw[oK]; exact vQ w.drew Jh) (by omega) (by rw[kS]; exact dy) (by omega);have c3:len+n<=grownCap w (len+n) cap' e:=grownCap_ge _ _ _ _;have z2:rH w R h μ (cs.take (len*z)++xs) (fl++vs) :=by
            refine⟨by simp[hu.1,cF.1],fun j c am=>?_⟩;by_cases aP:j<(cs.take (len*z)).length
            ·rw[List.getElem?_append_left aP] at am;rw[List.getElem?_append_left (by rw[hu.1]; exact aP)];exact hu.2 j c am
            ·rw[List.getElem?_append_right (by omega)] at am;rw[List.getElem?_append_right (by rw[hu.1]; omega),hu.1];exact cF.2 _ c am
           have fh:(cs.take (len*z)++xs).length=(len+n)*z:=by rw[List.length_append,dJ,bF,Nat.add_mul]
           obtain⟨j1,kr⟩:=zQ (e:=e) (zv:=zv) (need:=len+n) (cap:=grownCap w (len+n) cap' e) iU fh z2 c3;have aE:=rel.move (w':=w.drew.alloc (.cells ((fl++vs).toArray++Builtin.zeroCells zv.cells (grownCap w (len+n) cap' e - (len+n))) e)) ai hm rfl rfl rfl rfl fh sg (by rw[j1]; exact Nat.mul_le_mul_right _ c3) kr;refine⟨_,_,_,az,aE.1,aE.2,?_⟩;have:=aR.ao (w:=w.drew.alloc (.cells ((fl++vs).toArray++Builtin.zeroCells zv.cells (grownCap w (len+n) cap' e - (len+n))) e)) (R:=R) (h:=h.set b (.cells ((len+n)*z) (cs.take (len*z)++xs))) (μ:=b5 μ b (some ⟨w.heap.size,0,((fl++vs).toArray++Builtin.zeroCells zv.cells (grownCap w (len+n) cap' e - (len+n))).size⟩))
            z b 0 (len+n) (len+n) ((len+n)*z) (grownCap w (len+n) cap' e) _ ⟨w.heap.size,0,((fl++vs).toArray++Builtin.zeroCells zv.cells (grownCap w (len+n) cap' e - (len+n))).size⟩ (by simp[dz,eI]; rfl) (by simp) (Nat.le_refl _) (by omega) (.inr ⟨by omega,c3,by simp only; rw[j1]; omega⟩)
           simpa using this
         ·-- beyond the row's end,from a place within it: a block of its own,in place or moved
          rename_i xG;simp only[Option.some.injEq,Prod.mk.injEq] at aG;obtain⟨rfl,rfl⟩:=aG;obtain⟨aiw,xr,UX⟩:off+cap*z=m/\cap<=cap'/\cj.s+off+cap'*z<=cj.T:=by rcases de with de | de<;>omega
          have sg:m<off+(len+n)*z:=by
           have:(cap+1)*z<=(len+n)*z:=Nat.mul_le_mul_right _ (by omega);rw[Nat.add_mul] at this;omega
          have aj9:len*z+n*z=(len+n)*z:=by rw[Nat.add_mul]
          have nh:=rel.qj hm;by_cases dP:len+n<=cap'
          ·have ajp:(len+n)*z<=cap'*z:=Nat.mul_le_mul_right _ dP;have lu:max m (off+len*z+xs.length)=off+(len+n)*z:=by omega
           obtain⟨w',h1,ag,ap⟩:=wz (P:=P) rel (cvs:=xs) (vs:=vs) (k:=off+len*z) ai hm (by omega) cF.1 (by omega) cF.2;rw[lu] at ag ap;have ss:(bS cs (off+len*z) xs).drop off=(cs.drop off).take (len*z)++xs:=by
            unfold bS;rw[List.drop_eq_nil_of_le (as:=cs) (by omega),List.append_nil,List.drop_append_of_le_length (by simp; omega),List.drop_take];congr 2; omega
           have cK:(storeCells ((⟨cj.r,cj.s+off,none⟩:Addr).add (len*z)) vs).run P w=.ok () w':=by rw[Addr.lg,Nat.add_assoc]; exact h1
           have oJ:=ap.ab6 (b:=b) (off:=off) (m:=cj) (h':=(h.set b .dead).push (.cells ((len+n)*z) ((cs.drop off).take (len*z)++xs))) (by rw[dz,i7]) hm (by omega) (by
            rw[dR,dz,dz,eI,eI,ss];have:off+(len+n)*z - off=(len+n)*z:=by omega
            rw[this];funext x;simp only[b5];split
            ·rfl
            ·split<;>rfl) rfl
           refine⟨_,w',_,C7 (some ⟨cj.r,cj.s+off,none⟩) _ _ _ dP cK,ag.trans oJ.1,oJ.2,?_⟩;exact .ao z h.n 0 (len+n) (len+n) ((len+n)*z) cap' _ ⟨cj.r,cj.s+off,cj.T⟩ (by rw[dR,eI,i7]) (by rw[eI]; simp) (Nat.le_refl _) (by omega) (.inr ⟨by omega,dP,by simpa using (by omega:cj.s+off+cap'*z<=cj.T)⟩)
          ·have dp:contents h z (.ao z b off len cap m)=some ((cs.drop off).take (len*z),len) :=by simp[contents,ai]
           obtain⟨dJ,_,fl,hu,An⟩:=tv (P:=P) rel dp (aR.ao z b off len cap m cap' cs cj ai hm au ay de);have vQ:∀ w2:World,(∀ a,w2.cell? a=w.cell? a)->(Builtin.firstCells z len (.slice (some ⟨cj.r,cj.s+off,none⟩) len cap')).run P w2=.ok fl.toArray w2:=fun w2 l9=>by
            have:=An len (Nat.le_refl _) w2 l9
            rwa [List.take_of_length_le (by rw[hu.1,dJ]; exact Nat.le_refl _)] at this
           have az:=Ad i zv aA kw (some ⟨cj.r,cj.s+off,none⟩) len cap' fl (by rw[oK]; exact vQ w.drew Jh) (by omega) (by rw[kS]; exact dy) (by omega);have c3:len+n<=grownCap w (len+n) cap' e:=grownCap_ge _ _ _ _;have z2:rH w R h μ ((cs.drop off).take (len*z)++xs) (fl++vs) :=by
            refine⟨by simp[hu.1,cF.1],fun j c am=>?_⟩;by_cases aP:j<((cs.drop off).take (len*z)).length
            ·rw[List.getElem?_append_left aP] at am;rw[List.getElem?_append_left (by rw[hu.1]; exact aP)];exact hu.2 j c am
            ·rw[List.getElem?_append_right (by omega)] at am;rw[List.getElem?_append_right (by rw[hu.1]; omega),hu.1];exact cF.2 _ c am
           have fh:((cs.drop off).take (len*z)++xs).length=(len+n)*z:=by rw[List.length_append,dJ,bF,Nat.add_mul]
           obtain⟨j1,kr⟩:=zQ (e:=e) (zv:=zv) (need:=len+n) (cap:=grownCap w (len+n) cap' e) iU fh z2 c3;have aE:=rel.push (w':=w.drew.alloc (.cells ((fl++vs).toArray++Builtin.zeroCells zv.cells (grownCap w (len+n) cap' e - (len+n))) e)) _ _ e rfl rfl rfl rfl (by rw[j1,fh]; exact Nat.mul_le_mul_right _ c3) kr;rw[fh] at aE;have hk:=aE.2.kill (b:=b) (sz:=m) (cs:=cs) (h':=(h.set b .dead).push (.cells ((len+n)*z) ((cs.drop off).take (len*z)++xs))) (by rw[dR,cg _ _ _ _ (by omega)]; exact ai) (by rw[e3]; omega) (by
            rw[dR,dR,dz,eI];funext x;simp only[b5];by_cases h1:x=h.n
            ·rw[if_pos h1,if_neg (by omega),if_pos h1]
            ·rw[if_neg h1];split<;>rfl) rfl
           refine⟨_,_,_,az,aE.1.trans hk.1,hk.2,?_⟩;have:=aR.ao (w:=w.drew.alloc (.cells ((fl++vs).toArray++Builtin.zeroCells zv.cells (grownCap w (len+n) cap' e - (len+n))) e)) (R:=R) (h:=(h.set b .dead).push (.cells ((len+n)*z) ((cs.drop off).take (len*z)++xs))) (μ:=b5 μ h.n (some ⟨w.heap.size,0,((fl++vs).toArray++Builtin.zeroCells zv.cells (grownCap w (len+n) cap' e - (len+n))).size⟩))
            z h.n 0 (len+n) (len+n) ((len+n)*z) (grownCap w (len+n) cap' e) _ ⟨w.heap.size,0,((fl++vs).toArray++Builtin.zeroCells zv.cells (grownCap w (len+n) cap' e - (len+n))).size⟩ (by rw[dR,eI,i7]) (by simp) (Nat.le_refl _) (by omega) (.inr ⟨by omega,c3,by simp only; rw[j1]; omega⟩)
           simpa using this
     ·cases aG
    | _=>rw[ai] at aG; cases aG
   ·cases aG
theorem Fl (rel:cc R B w h μ) {t u ty:TypeId} {s x c:ae} {af bJ:Value} {h' : aQ} (aM:yf P u) (aG:qh P h t s x=some (c,h')) (ar:aR w R h μ s af) (aj:aR w R h μ x bJ) :
  ∃ v w' μ',(Builtin.append_ #[t,u] ty #[af,bJ]).run P w=.ok v w'/\dr w h μ w' h' μ'/\cc R B w' h' μ'/\aR w' R h' μ' c v:=by
 unfold qh at aG;cases aw:hQ P t with
 | none=>rw[aw] at aG; cases aG
 | some e=>
 have jr:=zE aw;rw[aw] at aG;simp only at aG;cases aB:cz P e with
 | none=>rw[aB] at aG; cases aG
 | some z=>
 cases dO:iO P e with
 | none=>rw[aB,dO] at aG; cases aG
 | some by_=>
 rw[aB,dO] at aG;simp only at aG;cases al:contents h z x with
 | none=>rw[al] at aG; cases aG
 | some Pc=>
 obtain⟨xs,n⟩:=Pc;rw[al] at aG;simp only at aG;obtain⟨bF,bA,vs,cF,aiG⟩:=tv (P:=P) rel al aj;have kk:∀ w2:World,(∀ a,w2.cell? a=w.cell? a)->(Builtin.firstCells z n bJ).run P w2=.ok vs.toArray w2:=fun w2 l9=>by
  have:=aiG n (Nat.le_refl _) w2 l9
  rwa [List.take_of_length_le (by rw[cF.1,bF]; exact Nat.le_refl _)] at this
 refine PK rel aB dO aG ar bF cF (fun base sLen gn w' dP cK=>run_append_fits jr aB aM bA (kk w (fun _=>rfl)) dP cK) (fun i zv aA kw base sLen gn fl ay az aC ai=>?_);have oK:i.size=z:=by simpa [cz,aA] using aB
 exact aox jr aA kw aM bA (by rw[oK]; exact kk w.drew (fun _=>rfl)) ay az aC ai
end
section
variable {P:Program} {w:World} {R:Nat->Prop} {B:Nat} {h:aQ} {μ:cJ}
theorem wN {x:ae} {bJ:Value} {y n BH:Nat} {code:BoundsCode} (ai:iN x y=some n) (aj:aR w R h μ x bJ) (aK:y<=BH) :
  n<=y/\(Instr.sliceBound bJ BH code).run P w=.ok n w:=by
 unfold iN at ai;cases aj with
 | int k i=>
  simp only at ai;split at ai
  ·rename_i aA;simp only[Option.some.injEq] at ai;subst ai;refine⟨by omega,?_⟩;have:(0<=i/\i<=(BH:Int)) :=⟨aA.1,by omega⟩
   simp[Instr.sliceBound,asIntOf,this]
  ·cases ai
 | _=>simp at ai
def u0 (w:World) (R:Nat->Prop) (h:aQ) (μ:cJ) :Option ae->Option Value->Prop
 | none,none=>True
 | some c,some v=>aR w R h μ c v
 | _,_=>False
theorem th {cW aA cI:Option ae} {pK fN us:Option Value} {isS:Bool} {len cap cap' l m aN:Nat} (ai:gd len cap cW aA cI=some (l,aN,m)) (bA:len<=cap) (c3:cap<=cap')
  (h1:u0 w R h μ cW pK) (ag:u0 w R h μ aA fN) (ap:u0 w R h μ cI us) :
  l<=aN/\aN<=m/\m<=cap/\(cI=none->m=cap)/\(Instr.sliceBounds isS len cap' pK fN us).run P w=.ok (l,aN,if cI.isSome then m else cap') w:=by
 unfold gd at ai;cases cI with
 | none=>
  cases us with
  | some v=>exact ap.elim
  | none=>
   simp only at ai;cases aA with
   | none=>
    cases fN with
    | some v=>exact ag.elim
    | none=>
     simp only at ai;cases cW with
     | none=>
      cases pK with
      | some v=>exact h1.elim
      | none=>
       simp only[Option.some.injEq,Prod.mk.injEq] at ai;obtain⟨rfl,rfl,rfl⟩:=ai;exact⟨by omega,bA,Nat.le_refl _,fun _=>rfl,by simp[Instr.sliceBounds]⟩
     | some c=>
      cases pK with
      | none=>exact h1.elim
      | some v=>
       simp only at ai;cases au:iN c len with
       | none=>rw[au] at ai; cases ai
       | some l'=>
        rw[au] at ai;simp only[Option.some.injEq,Prod.mk.injEq] at ai;obtain⟨rfl,rfl,rfl⟩:=ai;have aj:=wN (P:=P) (code:=.sliceB) au h1 (Nat.le_refl _);exact⟨aj.1,bA,Nat.le_refl _,fun _=>rfl,by simp[Instr.sliceBounds,aj.2]⟩
   | some H8=>
    cases fN with
    | none=>exact ag.elim
    | some aqf=>
     simp only at ai;cases qI:iN H8 cap with
     | none=>rw[qI] at ai; cases ai
     | some h'=>
      rw[qI] at ai;simp only at ai;have aj:=wN (P:=P) (code:=if isS then .sliceAcap else .sliceAlen) qI ag c3;cases cW with
      | none=>
       cases pK with
       | some v=>exact h1.elim
       | none=>
        simp only[Option.some.injEq,Prod.mk.injEq] at ai;obtain⟨rfl,rfl,rfl⟩:=ai;exact⟨by omega,aj.1,Nat.le_refl _,fun _=>rfl,by simp[Instr.sliceBounds,aj.2]⟩
      | some c=>
       cases pK with
       | none=>exact h1.elim
       | some v=>
        simp only at ai;cases au:iN c h' with
        | none=>rw[au] at ai; cases ai
        | some l'=>
         rw[au] at ai;simp only[Option.some.injEq,Prod.mk.injEq] at ai;obtain⟨rfl,rfl,rfl⟩:=ai;have aK:=wN (P:=P) (code:=.sliceB) au h1 (Nat.le_refl _);exact⟨aK.1,aj.1,Nat.le_refl _,fun _=>rfl,by simp[Instr.sliceBounds,aj.2,aK.2]⟩
 | some afS=>
  cases us with
  | none=>exact ap.elim
  | some axu=>
   simp only at ai;cases hm:iN afS cap with
   | none=>rw[hm] at ai; cases ai
   | some cu=>
    rw[hm] at ai;simp only at ai;have aj:=wN (P:=P) (code:=if isS then .slice3Acap else .slice3Alen) hm ap c3;cases aA with
    | none=>cases ai
    | some H8=>
     cases fN with
     | none=>exact ag.elim
     | some aqf=>
      simp only at ai;cases qI:iN H8 cu with
      | none=>rw[qI] at ai; cases ai
      | some h'=>
       rw[qI] at ai;simp only at ai;have aK:=wN (P:=P) (code:=.slice3B) qI ag (Nat.le_refl _);cases cW with
       | none=>
        cases pK with
        | some v=>exact h1.elim
        | none=>
         simp only[Option.some.injEq,Prod.mk.injEq] at ai;obtain⟨rfl,rfl,rfl⟩:=ai;exact⟨by omega,aK.1,aj.1,(fun aI=>by cases aI),by simp[Instr.sliceBounds,aj.2,aK.2]⟩
       | some c=>
        cases pK with
        | none=>exact h1.elim
        | some v=>
         simp only at ai;cases au:iN c h' with
         | none=>rw[au] at ai; cases ai
         | some l'=>
          rw[au] at ai;simp only[Option.some.injEq,Prod.mk.injEq] at ai;obtain⟨rfl,rfl,rfl⟩:=ai;have aB:=wN (P:=P) (code:=.slice3C) au h1 (Nat.le_refl _);exact⟨aB.1,aK.1,aj.1,(fun aI=>by cases aI),by simp[Instr.sliceBounds,aj.2,aK.2,aB.2]⟩
theorem tn {z:Nat}:∀ (n:Nat) (cs:List ae),(kJ z n cs).length=n
 | 0,_=>rfl
 | n+1,cs=>by simp[kJ,tn n]
theorem Ca {z:Nat}:∀ (n:Nat) (cs:List ae) (i:Nat),i<n->(kJ z n cs)[i]? = some ((cs.drop (i*z)).take z)
 | 0,_,_,h=>by omega
 | n+1,cs,0,_=>by simp[kJ]
 | n+1,cs,i+1,h=>by
  simp only[kJ,List.getElem?_cons_succ];rw[Ca n _ i (by omega),List.drop_drop];congr 3;rw[Nat.succ_mul]; omega
theorem acu (rel:cc R B w h μ) {z b off cap sz l aN m cu cap' : Nat} {cs:List ae} {cj:M} {hasMax:Bool} (ai:h.f b=.cells sz cs) (hm:μ b=some cj) (ay:off+cap*z<=sz)
  (de:(off+cap*z<sz/\cap'=cap)\/(off+cap*z=sz/\cap<=cap'/\cj.s+off+cap'*z<=cj.T)) (h1:l<=aN) (ag:aN<=m) (ap:m<=cap) (aJ:hasMax=false->m=cap)
  (b8:cu=if hasMax then m else cap') (atN:m≠l) :
  aR w R h μ (.ao z b (off+l*z) (aN - l) (m - l) sz) (.slice (some ((⟨cj.r,cj.s+off,none⟩:Addr).add (l*z))) (aN - l) (cu - l)) :=by
 have en:=rel.blk b cj hm;rw[ai] at en;have dt:=en.2.1;rw[Addr.lg,Nat.add_assoc];have aZ:l*z+(m - l)*z=m*z:=by rw[<-Nat.add_mul]; congr 1; omega
 have b4:m*z<=cap*z:=Nat.mul_le_mul_right _ ap;refine .ao z b _ _ _ sz _ cs cj ai hm (by omega) (by omega) ?_;cases hasMax with
 | false=>
  have xE:=aJ rfl;have jY:cu=cap':=by simpa using b8
  rw[jY];rcases de with ⟨bj,bz⟩ | ⟨bj,bz,a3⟩
  ·rw[<-xE] at bj bz;exact .inl ⟨by omega,by omega⟩
  ·rw[<-xE] at bj bz;refine .inr ⟨by omega,by omega,?_⟩;have dC:l*z+(cap' - l)*z=cap'*z:=by rw[<-Nat.add_mul]; congr 1; omega
   omega
 | true=>
  have jY:cu=m:=by simpa using b8
  rw[jY];by_cases aP:off+l*z+(m - l)*z<sz
  ·exact .inl ⟨aP,rfl⟩
  ·exact .inr ⟨by omega,Nat.le_refl _,by omega⟩
theorem extract_toList (s:ByteArray) (a b:Nat) :(s.extract a b).data.toList=(s.data.toList.drop a).take (b - a) :=by
 simp[ByteArray.extract,ByteArray.copySlice,List.take_drop]
theorem aR.aow (z:Nat) (p:Prop) [Decidable p] (a b:Addr) (cap:Nat) :aR w R h μ (.b0 z []) (.slice (if p then some a else some b) 0 cap) :=by
 by_cases aE:p
 ·rw[if_pos aE]; exact .fo _ _ _
 ·rw[if_neg aE]; exact .fo _ _ _
theorem aR.acs (z b off len cap sz cap' : Nat) (p:Prop) [Decidable p] (a eL:Addr) (au:len<=cap) (al:cap<=cap') (az:s7 h b sz) :
  aR w R h μ (.ao z b off len cap sz) (.slice (if p then some a else some eL) len cap') :=by
 by_cases aE:p
 ·rw[if_pos aE]; exact .fZ _ _ _ _ _ _ _ _ au al az
 ·rw[if_neg aE]; exact .fZ _ _ _ _ _ _ _ _ au al az
theorem ao0 (rel:cc R B w h μ) {t:TypeId} {x c:ae} {bJ:Value} {cW aA cI:Option ae} {pK fN us:Option Value} (ar:Bu P t x cW aA cI=some c) (aj:aR w R h μ x bJ)
  (h1:u0 w R h μ cW pK) (ag:u0 w R h μ aA fN) (ap:u0 w R h μ cI us) :
  ∃ v,(Instr.sliceAt t bJ pK fN us).run P w=.ok v w/\aR w R h μ c v:=by
 unfold Bu at ar;split at ar
 ·-- an array behind its address
  rename_i n e aM;cases aB:cz P e with
  | none=>rw[aB] at ar; cases ar
  | some z=>
  cases ai:gd n n cW aA cI with
  | none=>rw[aB,ai] at ar; cases ar
  | some sG=>
  obtain⟨l,aN,m⟩:=sG;rw[aB,ai] at ar;simp only at ar;obtain⟨ci,b6,df,g5,iX⟩:=th (P:=P) (isS:=false) ai (Nat.le_refl _) (Nat.le_refl _) h1 ag ap;have aiV:(if cI.isSome=true then m else n)=m:=by
   cases cI with
   | none=>simp[g5 rfl]
   | some v=>simp
  rw[aiV] at iX;split at ar
  ·rename_i b off sz;split at ar
   ·rename_i dP;have xW:∃ a,bJ=.pointer (some a) :=by cases aj<;>exact⟨_,rfl⟩
    obtain⟨a,rfl⟩:=xW;refine⟨_,by simp[Instr.sliceAt,cy aM,Instr.sureAddr,iX,fr aB]; rfl,?_⟩;split at ar
    ·rename_i lv;simp only[Option.some.injEq] at ar; subst ar;have:aN - l=0:=by omega
     rw[this];exact .fo _ _ _
    ·rename_i lv;simp only[Option.some.injEq] at ar; subst ar;rw[if_neg lv];cases aj with
     | ptr _ _ _ cs cj bP hm=>
      exact acu rel (cap:=m) (cap':=m) (hasMax:=true) bP hm dP (by
       have en:=rel.blk b cj hm;rw[bP] at en;have dt:=en.2.1;by_cases aP:off+m*z<sz
       ·exact .inl ⟨aP,rfl⟩
       ·exact .inr ⟨by omega,Nat.le_refl _,by omega⟩) ci b6 (Nat.le_refl _) (fun aI=>by cases aI) (by simp) lv
     | lC _ _ _ _ az=>exact .fZ _ _ _ _ _ _ _ _ (by omega) (Nat.le_refl _) az
   ·cases ar
  ·rename_i cs off;split at ar
   ·rename_i dP;simp only[Option.some.injEq] at ar; subst ar;cases aj with
    | cq _ _ blk o dS al ax=>
     refine⟨_,by simp[Instr.sliceAt,cy aM,Instr.sureAddr,iX,fr aB]; rfl,?_⟩;have hc:aN*z<=n*z:=Nat.mul_le_mul_right _ (by omega);by_cases lv:m=l
     ·have aZ:aN - l=0:=by omega
      rw[aZ];exact .fo _ _ _
     ·rw[if_neg lv,Addr.lg];have au:=tn (z:=z) (aN - l) (cs.drop (off+l*z));have ix:∀ i,i<aN - l->∀ j,j<z->off+l*z+(i*z+j)<cs.length:=by
       intro i fN j am;have:(l+i+1)*z<=aN*z:=Nat.mul_le_mul_right _ (by omega);rw[Nat.add_mul,Nat.add_mul] at this;omega
      have eQ:∀ i e0,(kJ z (aN - l) (cs.drop (off+l*z)))[i]? = some e0->i<aN - l/\e0=((cs.drop (off+l*z)).drop (i*z)).take z:=by
       intro i e0 fW;have fN:i<aN - l:=by
        have:=(List.getElem?_eq_some_iff.1 fW).1;omega
       rw[Ca _ _ _ fN] at fW;simp only[Option.some.injEq] at fW;exact⟨fN,fW.symm⟩
      have:=aR.b0 (w:=w) (R:=R) (h:=h) (μ:=μ) z (kJ z (aN - l) (cs.drop (off+l*z))) blk (o+off+l*z) (m - l) (fun i j=>dS (off+l*z+(i*z+j))) (by omega)
       (fun e0 fW=>by
        obtain⟨i,fN,rfl⟩:=List.getElem_of_mem fW;obtain⟨bj,bz⟩:=eQ i _ (List.getElem?_eq_getElem fN);rw[bz,List.length_take,List.length_drop,List.length_drop];have:(l+i+1)*z<=aN*z:=Nat.mul_le_mul_right _ (by omega);rw[Nat.add_mul,Nat.add_mul] at this;omega)
       (fun i j fN am=>by
        have:=al (off+l*z+(i*z+j)) (ix i (by omega) j am);have dC:o+off+l*z+(i*z+j)=o+(off+l*z+(i*z+j)) :=by omega
        rw[dC]; exact this)
       (fun i e0 fW j c am=>by
        obtain⟨bj,rfl⟩:=eQ i _ fW;have ls:j<z:=by
         have:=(List.getElem?_eq_some_iff.1 am).1;rw[List.length_take] at this; omega
        rw[List.getElem?_take_of_lt ls,List.getElem?_drop,List.getElem?_drop,] at am;exact ax _ c am)
      rw[au] at this;exact this
   ·cases ar
  ·cases ar
 ·-- a slice
  rename_i e aM;split at ar
  ·rename_i z di b off len cap sz aB;split at ar
   ·rename_i sA; subst sA;cases ai:gd len cap cW aA cI with
    | none=>rw[ai] at ar; cases ar
    | some sG=>
    obtain⟨l,aN,m⟩:=sG;rw[ai] at ar;simp only[Option.map_some,Option.some.injEq] at ar;cases aj with
    | ao _ _ _ _ _ _ cap' cs cj bP hm au ay de=>
     have UL:cap<=cap':=by rcases de with de | de<;>omega
     obtain⟨ci,b6,df,g5,iX⟩:=th (P:=P) (isS:=true) ai au UL h1 ag ap;refine⟨_,by simp[Instr.sliceAt,Instr.slice,cy aM,iX,fr aB]; rfl,?_⟩;split at ar
     ·rename_i lv;subst ar;have:aN - l=0:=by omega
      rw[this];by_cases qT:(if cI.isSome=true then m else cap')=l
      ·rw[if_pos qT,qT,Nat.sub_self];exact .hi _ _ _ _ _ _ cj bP hm
      ·rw[if_neg qT];cases cI with
       | some v=>exact absurd (by simpa using lv) qT
       | none=>
        have xE:=g5 rfl;simp only[Option.isSome_none,Bool.false_eq_true,if_false] at qT ⊢;have ez:cap=l:=by omega
        have aw:off+cap*z=sz/\cap<=cap'/\cj.s+off+cap'*z<=cj.T:=by rcases de with de | de<;>omega
        have sn:l*z+(cap' - l)*z=cap'*z:=by rw[<-Nat.add_mul]; congr 1; omega
        subst ez;rw[Addr.lg];have:=aR.ao (w:=w) (R:=R) (h:=h) (μ:=μ) z b (off+cap*z) 0 0 sz (cap' - cap) _ cj bP hm (Nat.le_refl _) (by omega) (.inr ⟨by omega,by omega,by omega⟩)
        rwa [<-Nat.add_assoc] at this
     ·rename_i lv;subst ar;have bY:¬ ((if cI.isSome=true then m else cap')=l) :=by
       cases cI with
       | none=>have:=g5 rfl; simp; omega
       | some v=>simpa using lv
      rw[if_neg bY];exact acu rel (hasMax:=cI.isSome) bP hm ay de ci b6 df (fun aI=>g5 (by simpa using aI)) rfl lv
    | hi _ _ _ _ a cs cj bP hm=>
     obtain⟨ci,b6,df,g5,iX⟩:=th (P:=P) (isS:=true) ai (Nat.le_refl 0) (Nat.le_refl 0) h1 ag ap;refine⟨_,by simp[Instr.sliceAt,Instr.slice,cy aM,iX,fr aB]; rfl,?_⟩;have iT:m=0:=by
      cases cI with
      | none=>exact g5 rfl
      | some v=>simp at df; omega
     have tS:l=0:=by omega
     have aiQ:aN=0:=by omega
     subst iT tS aiQ;simp only[if_true] at ar;subst ar;simp;exact .hi _ _ _ _ _ _ cj bP hm
    | fZ _ _ _ _ _ _ cap' a au de az=>
     obtain⟨ci,b6,df,g5,iX⟩:=th (P:=P) (isS:=true) ai au de h1 ag ap;refine⟨_,by simp[Instr.sliceAt,Instr.slice,cy aM,iX,fr aB]; rfl,?_⟩;split at ar
     ·rename_i lv;subst ar;have:aN - l=0:=by omega
      rw[this];exact aR.acs _ _ _ _ _ _ _ _ _ _ (Nat.le_refl _) (Nat.zero_le _) az
     ·rename_i lv;subst ar;have du:m<=(if cI.isSome=true then m else cap') :=by split<;>omega
      exact aR.acs _ _ _ _ _ _ _ _ _ _ (by omega) (by omega) az
   ·cases ar
  ·rename_i z di es aB;split at ar
   ·rename_i sA; subst sA;cases ai:gd es.length es.length cW aA cI with
    | none=>rw[ai] at ar; cases ar
    | some sG=>
    obtain⟨l,aN,m⟩:=sG;rw[ai] at ar;simp only[Option.map_some,Option.some.injEq] at ar;subst ar;cases aj with
    | b0 _ _ blk off cap dS au AC al ax=>
     obtain⟨ci,b6,df,g5,iX⟩:=th (P:=P) (isS:=true) ai (Nat.le_refl _) au h1 ag ap;refine⟨_,by simp[Instr.sliceAt,Instr.slice,cy aM,iX,fr aB]; rfl,?_⟩;have bA:((es.drop l).take (aN - l)).length=aN - l:=by rw[List.length_take,List.length_drop]; omega
     have du:aN<=(if cI.isSome=true then m else cap) :=by
      cases cI with
      | none=>simp only[Option.isSome_none,Bool.false_eq_true,if_false]; omega
      | some v=>simpa using b6
     by_cases lv:(if cI.isSome=true then m else cap)=l
     ·have aZ:aN - l=0:=by omega
      rw[if_pos lv,aZ,List.take_zero];exact .fo _ _ _
     ·rw[if_neg lv,Addr.lg];have eQ:∀ i e0,((es.drop l).take (aN - l))[i]? = some e0->i<aN - l/\es[l+i]? = some e0:=by
       intro i e0 fW;have fN:i<aN - l:=by
        have:=(List.getElem?_eq_some_iff.1 fW).1;omega
       rw[List.getElem?_take_of_lt fN,List.getElem?_drop] at fW;exact⟨fN,fW⟩
      have:=aR.b0 (w:=w) (R:=R) (h:=h) (μ:=μ) z ((es.drop l).take (aN - l)) blk (off+l*z) ((if cI.isSome=true then m else cap) - l) (fun i j=>dS (l+i) j) (by omega)
       (fun e0 fW=>AC e0 (List.mem_of_mem_drop (List.mem_of_mem_take fW)))
       (fun i j fN am=>by
        have:=al (l+i) j (by omega) am;have dC:off+l*z+(i*z+j)=off+((l+i)*z+j) :=by rw[Nat.add_mul]; omega
        rw[dC]; exact this)
       (fun i e0 fW j c am=>ax (l+i) e0 (eQ i e0 fW).2 j c am)
      rw[bA] at this;exact this
    | fo _ a cap=>
     obtain⟨ci,b6,df,g5,iX⟩:=th (P:=P) (isS:=true) ai (Nat.le_refl _) (Nat.zero_le cap) h1 ag ap;refine⟨_,by simp at iX; simp[Instr.sliceAt,Instr.slice,cy aM,iX,fr aB]; rfl,?_⟩;have aZ:aN - l=0:=by simp at df; omega
     rw[aZ,List.take_zero];exact aR.aow _ _ _ _ _
   ·cases ar
  ·rename_i z aB;cases aj;cases ai:gd 0 0 cW aA cI with
   | none=>rw[ai] at ar; cases ar
   | some sG=>
   obtain⟨l,aN,m⟩:=sG;rw[ai] at ar;simp only[Option.map_some,Option.some.injEq] at ar;subst ar;obtain⟨ci,b6,df,g5,iX⟩:=th (P:=P) (isS:=true) ai (Nat.le_refl _) (Nat.le_refl _) h1 ag ap;obtain rfl:m=0:=by omega
   obtain rfl:aN=0:=by omega
   obtain rfl:l=0:=by omega
   refine⟨_,by simp[Instr.sliceAt,Instr.slice,cy aM,iX,fr aB]; rfl,?_⟩;exact .aX
  ·cases ar
 ·-- a string
  rename_i s aM;split at ar
  ·cases aj with
   | str bs=>
    cases ai:gd bs.data.toList.length bs.data.toList.length cW aA none with
    | none=>rw[ai] at ar; cases ar
    | some sG=>
    obtain⟨l,aN,m⟩:=sG;rw[ai] at ar;simp only[Option.map_some,Option.some.injEq] at ar;subst ar;cases us with
    | some v=>exact ap.elim
    | none=>
     have g4:bs.data.toList.length=bs.size:=by simp
     rw[g4] at ai;obtain⟨ci,b6,df,g5,iX⟩:=th (P:=P) (isS:=false) ai (Nat.le_refl _) (Nat.le_refl _) h1 ag ap;refine⟨.string (bs.extract l aN),by simp[Instr.sliceAt,Instr.slice,cy aM,iX],?_⟩;rw[<-extract_toList];exact .str _
  ·cases ar
 ·cases ar
end
section
variable {P:Program} {w:World} {R:Nat->Prop} {B:Nat} {h:aQ} {μ:cJ}
def ke (w:World) (R:Nat->Prop) (h:aQ) (μ:cJ) (cs:List ae) (arr:Array Value) :Prop:=
 arr.size=cs.length/\∀ (j:Nat) (c:ae),cs[j]? = some c->∃ v:Value,arr[j]? = some v/\v.oneCell'=true/\aR w R h μ c v
theorem ke.aV {cs:List ae} {arr:Array Value} (aC:ke w R h μ cs arr) :aR w R h μ (.aV cs) (.agg arr) :=by
 refine .aV _ _ aC.1 (fun j v am=>?_) (fun j c v al am=>?_)
 ·have aP:j<cs.length:=by have:=(Array.getElem?_eq_some_iff.1 am).1; rw[<-aC.1]; exact this
  obtain⟨u,h1,ag,_⟩:=aC.2 j _ (List.getElem?_eq_getElem aP);rw[am] at h1; cases h1; exact ag
 ·obtain⟨u,h1,_,ap⟩:=aC.2 j c al;rw[am] at h1; cases h1; exact ap
theorem TU:∀ (l:List Value) (k off:Nat) (cells:Array Value),off+k+l.length<=cells.size->
  ((l.zipIdx k).foldl (fun cs (tp:Value × Nat)=>cs.setIfInBounds (off+tp.2) tp.1) cells).size=cells.size ∧
  ∀ j,((l.zipIdx k).foldl (fun cs (tp:Value × Nat)=>cs.setIfInBounds (off+tp.2) tp.1) cells)[j]? = if off+k<=j/\j<off+k+l.length then l[j - (off+k)]? else cells[j]?
 | [],k,off,cells,_=>⟨by simp,fun j=>by simp; omega⟩
 | v::l,k,off,cells,au=>by
  simp only[List.length_cons] at au;have aL:=TU l (k+1) off (cells.setIfInBounds (off+k) v) (by simp; omega);simp only[List.zipIdx_cons,List.foldl_cons];refine⟨by rw[aL.1]; simp,fun j=>?_⟩;rw[aL.2 j];by_cases am:off+(k+1)<=j/\j<off+(k+1)+l.length
  ·rw[if_pos am,if_pos (by simp only[List.length_cons]; omega)];have:j - (off+k)=(j - (off+(k+1)))+1:=by omega
   rw[this,List.getElem?_cons_succ]
  ·rw[if_neg am,Array.getElem?_setIfInBounds];by_cases aw:off+k=j
   ·subst aw;rw[if_pos rfl,if_pos (by omega),if_pos (by simp only[List.length_cons]; omega)];simp
   ·rw[if_neg aw,if_neg (by simp only[List.length_cons]; omega)]
theorem Ct {j8:Nat->Option (Nat × Nat)}:∀ (parts:List (Nat × ae)) (jD:List (Nat × Value)) (cs:List ae) (arr:Array Value) (cs' : List ae),
  gZ j8 cs parts=some cs'->ke w R h μ cs arr->jD.length=parts.length->(∀ (j:Nat) (p:Nat × ae) (bZ:Nat × Value),parts[j]? = some p->jD[j]? = some bZ->bZ.1=p.1/\aR w R h μ p.2 bZ.2)->
  ∃ arr',Instr.fill j8 arr jD=some arr'/\ke w R h μ cs' arr'
 | [],[],cs,arr,cs',aI,aC,_,_=>by
  simp only[gZ,Option.some.injEq] at aI; subst aI;exact⟨arr,rfl,aC⟩
 | [],_::_,_,_,_,_,_,au,_=>by simp at au
 | _::_,[],_,_,_,_,_,au,_=>by simp at au
 | (i,c) ::parts,(iz,v) ::jD,cs,arr,cs',aI,aC,au,aE=>by
  obtain⟨rfl,ax⟩:=aE 0 (i,c) (iz,v) rfl rfl;simp only at ax;unfold gZ at aI;cases g3:j8 iz with
  | none=>rw[g3] at aI; cases aI
  | some os=>
  obtain⟨off,size⟩:=os;cases al:c.cells with
  | none=>rw[g3,al] at aI; cases aI
  | some vs=>
  rw[g3,al] at aI;simp only at aI;split at aI
  ·rename_i iR;obtain⟨g4,lx⟩:=B8 ax al;have vJ:v.cells.toList.length=vs.length:=by simpa using g4
   have lp:=TU v.cells.toList 0 off arr (by rw[aC.1,vJ]; omega);have akq:v.cells.zipIdx.foldl (fun cs (x:Value × Nat)=>match x with | (c,j)=>cs.setIfInBounds (off+j) c) arr=(v.cells.toList.zipIdx 0).foldl (fun cs (tp:Value × Nat)=>cs.setIfInBounds (off+tp.2) tp.1) arr:=by
    rw[<-Array.foldl_toList];simp
   obtain⟨arr',h1,ag⟩:=Ct parts jD (bS cs off vs) (v.cells.zipIdx.foldl (fun cs (x:Value × Nat)=>match x with | (c,j)=>cs.setIfInBounds (off+j) c) arr) cs' aI (by
     rw[akq];refine⟨by rw[lp.1,aC.1,p1 (by omega)]; omega,fun j x am=>?_⟩;rw[lp.2 j];rw[OC (by omega)] at am;split at am
     ·rename_i aP;rw[if_neg (by omega)];exact aC.2 j x am
     ·split at am
      ·rename_i h1 ag;rw[if_pos (by rw[vJ]; omega)];obtain⟨u,bj,bz,a3⟩:=lx _ x am;exact⟨u,by simpa using bj,bz,a3⟩
      ·rename_i h1 ag;rw[if_neg (by rw[vJ]; omega)];exact aC.2 j x am) (by simpa using au) (fun j p bZ am eo=>aE (j+1) p bZ (by simpa using am) (by simpa using eo))
   refine⟨arr',?_,ag⟩;have pu:¬ (v.cells.size≠size\/off+v.cells.size > arr.size) :=by rw[g4,aC.1]; omega
   simp only[Instr.fill,g3];rw[if_neg (by simpa using pu)];exact h1
  ·cases aI
theorem uX {t:TypeId} {z:List ae} (aB:g9 P t=some z) :∃ v,(∀ w2:World,(zeroValue t).run P w2=.ok v w2)/\ke w R h μ z v.cells:=by
 obtain⟨i,v,aA,ax,ar,al⟩:=adA (w:=w) (R:=R) (h:=h) (μ:=μ) aB;exact⟨v,fun w2=>ack aA ax,ar,al⟩
theorem aoB {fs:Array Field} (ar:(fs.toList.all fun f=>(cz P f.type).isSome)=true) :
  (fs.mapM fun f=>(do pure (f.offset,<-sizeOf f.type) :Sem (Nat × Nat))).run P w=.ok ((fs.toList.map fun f=>(f.offset,(cz P f.type).getD 0)).toArray) w:=by
 rw[Array.mapM_eq_mapM_toList];simp only[Sem.run_map];have:∀ l:List Field,(l.all fun f=>(cz P f.type).isSome)=true->(l.mapM fun f=>(do pure (f.offset,<-sizeOf f.type) :Sem (Nat × Nat))).run P w=.ok (l.map fun f=>(f.offset,(cz P f.type).getD 0)) w:=by
  intro l
  induction l with
  | nil=>intro _; simp
  | cons f l aL=>
   intro au;simp only[List.all_cons,Bool.and_eq_true] at au;obtain⟨n,aH⟩:=Option.isSome_iff_exists.1 au.1;simp only[List.mapM_cons,Sem.run_bind,fr aH,Result.andThen_ok,Sem.run_pure,aL au.2,List.map_cons,aH,Option.getD_some]
 rw[this _ ar];rfl
theorem aeX {t:TypeId} {parts:List (Nat × ae)} {jD:Array (Nat × Value)} {c:ae} (ai:ze P t parts=some c) (au:jD.size=parts.length)
  (aE:∀ (j:Nat) (p:Nat × ae) (bZ:Nat × Value),parts[j]? = some p->jD[j]? = some bZ->bZ.1=p.1/\aR w R h μ p.2 bZ.2) :
  ∃ v,(Instr.build t jD).run P w=.ok v w/\aR w R h μ c v:=by
 unfold ze at ai;split at ai
 ·rename_i zero fs aB aM;split at ai
  ·cases ai
  ·rename_i g4;simp only[Bool.not_eq_true',Bool.not_eq_false] at g4;cases aI:gZ (Ba P fs) zero parts with
   | none=>rw[aI] at ai; cases ai
   | some cs=>
    rw[aI] at ai;simp only[Option.map_some,Option.some.injEq] at ai; subst ai;obtain⟨v,ax,aC⟩:=uX (w:=w) (R:=R) (h:=h) (μ:=μ) aB;obtain⟨arr',h1,ag⟩:=Ct parts jD.toList zero v.cells cs aI aC (by simpa using au) (fun j p bZ am eo=>aE j p bZ am (by simpa using eo));have ajK:(fun i=>((fs.toList.map fun f=>(f.offset,(cz P f.type).getD 0)).toArray)[i]?)=Ba P fs:=by
     funext i;simp only[Ba];simp only[List.getElem?_toArray,List.getElem?_map,Array.getElem?_toList];cases xx:fs[i]? with
     | none=>simp
     | some f=>
      rw[List.all_eq_true] at g4;have:=g4 f (by have:=Array.mem_of_getElem? xx; simpa using this);obtain⟨n,aH⟩:=Option.isSome_iff_exists.1 this;simp[aH]
    refine⟨_,?_,ag.aV⟩;simp only[Instr.build,Sem.run_bind,ax,Result.andThen_ok,cy aM,aoB g4];rw[ajK,h1];simp
 ·rename_i zero n e aB aM;cases g4:cz P e with
  | none=>rw[g4] at ai; cases ai
  | some m=>
   rw[g4] at ai;simp only at ai;cases aI:gZ (fun i=>some (i*m,m)) zero parts with
   | none=>rw[aI] at ai; cases ai
   | some cs=>
    rw[aI] at ai;simp only[Option.map_some,Option.some.injEq] at ai; subst ai;obtain⟨v,ax,aC⟩:=uX (w:=w) (R:=R) (h:=h) (μ:=μ) aB;obtain⟨arr',h1,ag⟩:=Ct parts jD.toList zero v.cells cs aI aC (by simpa using au) (fun j p bZ am eo=>aE j p bZ am (by simpa using eo));refine⟨_,?_,ag.aV⟩;simp only[Instr.build,Sem.run_bind,ax,Result.andThen_ok,cy aM,fr g4];rw[h1];simp
 ·cases ai
theorem wo {zero:List ae}:∀ n,(dm zero n).length=n*zero.length
 | 0=>by simp[dm]
 | n+1=>by simp only[dm,List.length_append,wo n,Nat.succ_mul]; omega
theorem ab5 {zero:List ae}:∀ (n j:Nat) (c:ae),(dm zero n)[j]? = some c->zero[j % zero.length]? = some c
 | 0,_,_,am=>by simp[dm] at am
 | n+1,j,c,am=>by
  simp only[dm] at am;by_cases aP:j<zero.length
  ·rw[List.getElem?_append_left aP] at am
   rwa [Nat.mod_eq_of_lt aP]
  ·rw[List.getElem?_append_right (by omega)] at am;have:=ab5 n _ c am
   rwa [<-Nat.mod_eq_sub_mod (by omega)] at this
theorem Et {zero:List ae} {z:Array Value} (aC:ke w R h μ zero z) (n:Nat) :ke w R h μ (dm zero n) ((Array.range (n*zero.length)).map (z[· % z.size]!)) :=by
 refine⟨by simp[wo],fun j c am=>?_⟩;have aP:j<n*zero.length:=by
  have:=(List.getElem?_eq_some_iff.1 am).1
  rwa [wo] at this
 obtain⟨v,h1,ag,ap⟩:=aC.2 _ c (ab5 n j c am);refine⟨v,?_,ag,ap⟩;rw[<-aC.1] at h1;obtain⟨ai,rfl⟩:=Array.getElem?_eq_some_iff.1 h1;simp[aP,ai]
theorem agR {z:Nat}:∀ (parts:List (Nat × ae)) (a b:List ae),gZ (fun i=>some (i*z,z)) a parts=some b->b.length=a.length:=by
 intro parts
 induction parts with
 | nil=>intro a b fM; simp only[gZ,Option.some.injEq] at fM; subst fM; rfl
 | cons p parts aL=>
  intro a b fM;unfold gZ at fM;split at fM
  ·rename_i off size vs g3 Ax;split at fM
   ·rw[aL _ _ fM,p1 (by omega)]; omega
   ·cases fM
  ·cases fM
theorem P5 {t e:TypeId} {len z:Nat} {zero cs:List ae} {parts:List (Nat × ae)} {jD:Array (Nat × Value)} (aw:hQ P t=some e) (aB:cz P e=some z) (ia:g9 P e=some zero) (hf:zero.length=z) (lu:len*z<=16777216)
  (aI:gZ (fun i=>some (i*z,z)) (dm zero len) parts=some cs) (au:jD.size=parts.length)
  (aE:∀ (j:Nat) (p:Nat × ae) (bZ:Nat × Value),parts[j]? = some p->jD[j]? = some bZ->bZ.1=p.1/\aR w R h μ p.2 bZ.2) :
  cs.length=len*z/\∃ arr,(Instr.buildSlice t len jD).run P w=.ok (.slice (some ⟨w.heap.size,0,none⟩) len len) (w.alloc (.cells arr e))/\ke w R h μ cs arr:=by
 obtain⟨v,ax,aC⟩:=uX (w:=w) (R:=R) (h:=h) (μ:=μ) ia;obtain⟨arr',h1,ag⟩:=Ct parts jD.toList _ _ cs aI (Et aC len) (by simpa using au) (fun j p bZ am eo=>aE j p bZ am (by simpa using eo));refine⟨by rw[agR _ _ _ aI,wo,hf],arr',?_,ag⟩;have jr:=zE aw;have ajj:¬ (len*z > 2 ^ 24) :=by omega
 simp only[Instr.buildSlice,Sem.run_bind,cy jr,Result.andThen_ok,fr aB,if_neg ajj];rw[hf] at h1;generalize fu:len*z=N at h1;by_cases aT:N=0
 ·subst aT;have i9:∀ f:Nat->Value,(Array.range 0).map f=#[] :=fun f=>by simp[Array.range]
  rw[i9] at h1;simp[i9,h1,newRow]
 ·simp[aT,ax,h1,newRow]
theorem aeW (rel:cc R B w h μ) {t:TypeId} {len:Nat} {parts:List (Nat × ae)} {jD:Array (Nat × Value)} {c:ae} {h' : aQ} (ai:BZ P h t len parts=some (c,h')) (au:jD.size=parts.length)
  (aE:∀ (j:Nat) (p:Nat × ae) (bZ:Nat × Value),parts[j]? = some p->jD[j]? = some bZ->bZ.1=p.1/\aR w R h μ p.2 bZ.2) :
  ∃ v w' μ',(Instr.buildSlice t len jD).run P w=.ok v w'/\dr w h μ w' h' μ'/\cc R B w' h' μ'/\aR w' R h' μ' c v:=by
 unfold BZ at ai;cases aw:hQ P t with
 | none=>rw[aw] at ai; cases ai
 | some e=>
 rw[aw] at ai;simp only at ai;cases aB:cz P e with
 | none=>rw[aB] at ai; cases ai
 | some z=>
 cases ia:g9 P e with
 | none=>rw[aB,ia] at ai; cases ai
 | some zero=>
 rw[aB,ia] at ai;simp only at ai;split at ai
 ·rename_i iR;obtain⟨hf,lu⟩:=iR;cases aI:gZ (fun i=>some (i*z,z)) (dm zero len) parts with
  | none=>rw[aI] at ai; cases ai
  | some cs=>
   rw[aI] at ai;simp only[Option.map_some,Option.some.injEq,Prod.mk.injEq] at ai;obtain⟨rfl,rfl⟩:=ai;obtain⟨ez,arr',hv,ag⟩:=P5 aw aB ia hf lu aI au aE;have aG:=BQ rel (cs:=cs) (vs:=arr') e ag.1 ag.2;rw[ez] at aG;obtain⟨bj,bz,a3⟩:=aG;refine⟨.slice (some ⟨w.heap.size,0,none⟩) len len,_,_,hv,bj,bz,?_⟩;have:=aR.ao (w:=w.alloc (.cells arr' e)) (R:=R) (h:=h.push (.cells (len*z) cs)) (μ:=b5 μ h.n (some ⟨w.heap.size,0,arr'.size⟩)) z h.n 0 len len (len*z) len cs ⟨w.heap.size,0,arr'.size⟩ (by simp[dR,e3]) (by simp) (Nat.le_refl _) (by omega)
    (.inr ⟨by omega,Nat.le_refl _,by simp only; rw[ag.1,ez]; omega⟩)
   simpa using this
 ·cases ai
theorem X5 {t e:TypeId} {z by_:Nat} {zero:List ae} {kl kc:IntKind} {li gX:Int} (aw:hQ P t=some e) (aB:cz P e=some z) (dO:iO P e=some by_) (ia:g9 P e=some zero) (hf:zero.length=z)
  (aT:0<=li) (kV:li<=gX) (C0:gX<9223372036854775808) (dy:by_*gX<=cT) :
  (dm zero gX.toNat).length=gX.toNat*z/\∃ arr,(Instr.makeSlice t (.int kl li) (.int kc gX)).run P w=.ok (.slice (some ⟨w.heap.size,0,none⟩) li.toNat gX.toNat) (w.alloc (.cells arr e))/\ke w R h μ (dm zero gX.toNat) arr:=by
 obtain⟨v,ax,aC⟩:=uX (w:=w) (R:=R) (h:=h) (μ:=μ) ia;have cF:=Et aC gX.toNat
 refine⟨by rw[wo,hf],_,?_,cF⟩;obtain⟨i,aA,UK⟩:∃ i,P.info? e=some i/\i.bytes=by_:=by
  unfold iO at dO;cases aA:P.info? e with
  | none=>rw[aA] at dO; cases dO
  | some i=>rw[aA] at dO; exact⟨i,rfl,by simpa using dO⟩
 have xZ:IntKind.i64.wrap li=li:=IntWalk.i64_in _ (by omega);have xY:IntKind.i64.wrap gX=gX:=IntWalk.i64_in _ (by omega);have jr:=zE aw;unfold cT at dy;have t1:¬ (gX<0\/(281474976710656:Int)<(by_:Int)*gX) :=by omega
 have t2:¬ (li<0) :=by omega
 have t3:¬ (gX<li) :=by omega
 rw[hf];generalize fu:gX.toNat*z=N;by_cases qT:N=0
 ·subst qT;have i9:∀ f:Nat->Value,(Array.range 0).map f=#[] :=fun f=>by simp[Array.range]
  simp[i9,Instr.makeSlice,cy jr,Go.asInt,asIntOf,typeInfo,aA,UK,xZ,xY,t1,t2,t3,fr aB,fu,newRow]
 ·simp[Instr.makeSlice,cy jr,Go.asInt,asIntOf,typeInfo,aA,UK,xZ,xY,t1,t2,t3,fr aB,fu,qT,ax,newRow]
theorem al1 (rel:cc R B w h μ) {t:TypeId} {l c r:ae} {DT rS:Value} {h' : aQ} (hm:DU P h t l c=some (r,h')) (au:aR w R h μ l DT) (al:aR w R h μ c rS) :
  ∃ v w' μ',(Instr.makeSlice t DT rS).run P w=.ok v w'/\dr w h μ w' h' μ'/\cc R B w' h' μ'/\aR w' R h' μ' r v:=by
 unfold DU at hm;split at hm
 ·rename_i e li gX aw gM fc;obtain⟨kl,rfl⟩:=qi gM au;obtain⟨kc,rfl⟩:=qi fc al;cases aB:cz P e with
  | none=>rw[aB] at hm; cases hm
  | some z=>
  cases dO:iO P e with
  | none=>rw[aB,dO] at hm; cases hm
  | some by_=>
  cases ia:g9 P e with
  | none=>rw[aB,dO,ia] at hm; cases hm
  | some zero=>
  rw[aB,dO,ia] at hm;simp only at hm;split at hm
  ·rename_i iR;obtain⟨hf,aT,kV,C0,dy⟩:=iR;simp only[Option.some.injEq,Prod.mk.injEq] at hm;obtain⟨rfl,rfl⟩:=hm;obtain⟨bA,arr,hv,cF⟩:=X5 (w:=w) (R:=R) (h:=h) (μ:=μ) (kl:=kl) (kc:=kc) aw aB dO ia hf aT kV C0 dy;have aG:=BQ rel (cs:=dm zero gX.toNat) e cF.1 cF.2;rw[bA] at aG;obtain⟨bj,bz,a3⟩:=aG;refine⟨.slice (some ⟨w.heap.size,0,none⟩) li.toNat gX.toNat,_,_,hv,bj,bz,?_⟩;have:=aR.ao (w:=w.alloc (.cells arr e)) (R:=R) (h:=h.push (.cells (gX.toNat*z) (dm zero gX.toNat))) (μ:=b5 μ h.n (some ⟨w.heap.size,0,arr.size⟩))
    z h.n 0 li.toNat gX.toNat (gX.toNat*z) gX.toNat (dm zero gX.toNat) ⟨w.heap.size,0,arr.size⟩ (by simp[dR,e3]) (by simp) (by omega) (by omega)
    (.inr ⟨by omega,Nat.le_refl _,by simp only; rw[cF.1,bA]; omega⟩)
   simpa using this
  ·cases hm
 ·cases hm
theorem alM {t u:TypeId} {ty:TypeId} {x c:ae} {bJ:Value} (al:v8 P t x=some c) (aj:aR w R h μ x bJ) :∃ v,(Builtin.len_ #[t] ty #[bJ]).run P w=.ok v w/\aR w R h μ c v:=by
 unfold v8 at al;split at al<;>(try (simp only[Option.some.injEq] at al; subst al))
 ·rename_i s aM;cases aj;rename_i bs;exact⟨goInt bs.size,by simp[Builtin.len_,cy aM],by rw[show (bs.data.toList.length:Int)=bs.size from by simp]; exact .int _ _⟩
 ·rename_i n e aM;exact⟨goInt n,by simp[Builtin.len_,cy aM],.int _ _⟩
 ·rename_i e aM;cases aj;exact⟨goInt (0:Nat),by simp[Builtin.len_,cy aM],.int _ _⟩
 ·rename_i e z b off len cap sz aM;cases aj
  ·exact⟨goInt len,by simp[Builtin.len_,cy aM],.int _ _⟩
  ·exact⟨goInt len,by simp[Builtin.len_,cy aM],.int _ _⟩
  ·exact⟨goInt (0:Nat),by simp[Builtin.len_,cy aM],.int _ _⟩
 ·rename_i e z es aM;cases aj
  ·exact⟨goInt es.length,by simp[Builtin.len_,cy aM],.int _ _⟩
  ·exact⟨goInt (0:Nat),by simp[Builtin.len_,cy aM],.int _ _⟩
 ·rename_i k e aM;cases aj;exact⟨goInt 0,by simp[Builtin.len_,cy aM],.int _ _⟩
 ·cases al
end
section
variable {P:Program} {w:World} {R:Nat->Prop} {B:Nat} {h:aQ} {μ:cJ}
theorem uu {t:TypeId} {cs:List ae} {vs:Array Value} {off:Nat} {c:ae} (aE:hh P t cs off=some c) (aC:ke w R h μ cs vs) :
  ∃ v,(∀ w2:World,(part t vs off).run P w2=.ok v w2)/\aR w R h μ c v:=by
 unfold hh at aE;cases ng:dM P t with
 | none=>rw[ng] at aE; cases aE
 | some b=>
  rw[ng] at aE;cases b with
  | false=>
   simp only at aE;obtain⟨v,h1,_,ap⟩:=aC.2 off c aE;exact⟨v,fun w2=>by simp[part,Ex ng,h1],ap⟩
  | true=>
   cases aH:cz P t with
   | none=>rw[aH] at aE; cases aE
   | some n=>
    rw[aH] at aE;simp only at aE;split at aE
    ·rename_i du;simp only[Option.some.injEq] at aE;subst aE;refine⟨.agg (vs.extract off (off+n)),fun w2=>by simp[part,Ex ng,fr aH],ke.aV ⟨by simp; rw[aC.1]; omega,fun j c am=>?_⟩⟩;have lr:j<n:=by
      have:=(List.getElem?_eq_some_iff.1 am).1;rw[List.length_take] at this; omega
     rw[List.getElem?_take_of_lt lr,List.getElem?_drop] at am;obtain⟨v,h1,ag,ap⟩:=aC.2 _ c am;refine⟨v,?_,ag,ap⟩;rw[Array.getElem?_extract,if_pos (by rw[aC.1]; omega)];exact h1
    ·cases aE
theorem td {cs:List ae} {bJ:Value} (aj:aR w R h μ (.aV cs) bJ) :∃ vs,bJ=.agg vs/\ke w R h μ cs vs:=by
 cases aj with
 | aV _ vs au h1 ax=>
  refine⟨vs,rfl,au,fun j c am=>?_⟩;have aP:j<vs.size:=by rw[au]; exact (List.getElem?_eq_some_iff.1 am).1
  exact⟨vs[j],by simp[aP],h1 j _ (by simp[aP]),ax j c _ am (by simp[aP])⟩
theorem agQ {t:TypeId} {cs:List ae} {f:Nat} {fd:Field} {c:ae} {bJ:Value} (aI:vi P t f=some fd) (aE:hh P fd.type cs fd.offset=some c) (aj:aR w R h μ (.aV cs) bJ) :
  ∃ v,(Instr.field t bJ f).run P w=.ok v w/\aR w R h μ c v:=by
 obtain⟨fs,aM,lp⟩:=TC aI;obtain⟨vs,rfl,aC⟩:=td aj;obtain⟨v,h1,ag⟩:=uu (P:=P) aE aC;exact⟨v,by simp[Instr.field,cy aM,lp,asAgg,h1],ag⟩
theorem KD {t:TypeId} {x hF c:ae} {bJ AK:Value} (al:x6 P t x hF=some c) (aj:aR w R h μ x bJ) (aA:aR w R h μ hF AK) :
  ∃ v,(Instr.index t bJ AK).run P w=.ok v w/\aR w R h μ c v:=by
 unfold x6 at al;split at al
 ·rename_i n e cs i aM fX;obtain⟨k,rfl⟩:=qi fX aA;cases aB:cz P e with
  | none=>rw[aB] at al; cases al
  | some z=>
   rw[aB] at al;simp only at al;split at al
   ·rename_i ai;obtain⟨vs,rfl,aC⟩:=td aj;obtain⟨v,h1,ag⟩:=uu (P:=P) al aC;exact⟨v,by simp[Instr.index,asIntOf,cy aM,ai,fr aB,h1],ag⟩
   ·cases al
 ·rename_i s i aM fX;obtain⟨k,rfl⟩:=qi fX aA;split at al
  ·rename_i ai;cases aj with
   | str bs=>
    cases CV:bs.data.toList[i.toNat]? with
    | none=>rw[CV] at al; cases al
    | some b=>
     rw[CV] at al;simp only[Option.map_some,Option.some.injEq] at al;subst al;have aP:i.toNat<bs.size:=by have:=(List.getElem?_eq_some_iff.1 CV).1; simpa using this
     have eQ:bs[i.toNat]? = some b:=by
      have fU:=(List.getElem?_eq_some_iff.1 CV).2;rw[getElem?_pos bs i.toNat aP];simp only[Option.some.injEq];rw[<-fU];rfl
     exact⟨.int .u8 b.toNat,by simp[Instr.index,asIntOf,cy aM,ai,eQ],.int _ _⟩
  ·cases al
 ·cases al
theorem af5 (rel:cc R B w h μ) {t u ty:TypeId} {d x c:ae} {Ih bJ:Value} {h' : aQ} (al:wW P h t d x=some (c,h')) (bN:aR w R h μ d Ih) (aj:aR w R h μ x bJ) :
  ∃ v w',(Builtin.copy_ #[t,u] ty #[Ih,bJ]).run P w=.ok v w'/\dr w h μ w' h' μ/\cc R B w' h' μ/\aR w' R h' μ c v:=by
 unfold wW at al;cases aw:hQ P t with
 | none=>rw[aw] at al; cases al
 | some e=>
 rw[aw] at al;simp only at al;cases aB:cz P e with
 | none=>rw[aB] at al; cases al
 | some z=>
 rw[aB] at al;simp only at al;cases dp:contents h z x with
 | none=>rw[dp] at al; cases al
 | some Pc=>
 obtain⟨xs,n⟩:=Pc;rw[dp] at al;simp only at al;have jr:=zE aw;obtain⟨bF,bA,vs,cF,kk⟩:=tv (P:=P) rel dp aj;split at al
 ·simp only[Option.some.injEq,Prod.mk.injEq] at al;obtain⟨rfl,rfl⟩:=al;cases bN;have aT:=kk 0 (Nat.zero_le _) w (fun _=>rfl);refine⟨goInt (0:Nat),w,?_,.refl _ _ _,rel,.int _ _⟩;simp[Builtin.copy_,cy jr,bA,fr aB,aT]
 ·rename_i di b off len cap sz;cases ai:h.f b with
  | cells m cs=>
   rw[ai] at al;simp only at al;split at al
   ·rename_i z7;obtain⟨rfl,rfl⟩:=z7;simp only[Option.some.injEq,Prod.mk.injEq] at al;obtain⟨rfl,rfl⟩:=al;cases bN with
    | hi _ _ _ _ a cs' cj bP hm=>
     have aT:=kk 0 (Nat.zero_le _) w (fun _=>rfl);have ny:bS cs off []=cs:=by simp[bS]
     have jq:=rel.same (h':=h.set b (.cells m (bS cs off (xs.take (min n 0*z))))) (by
      rw[dz,Nat.min_zero,Nat.zero_mul,List.take_zero,ny];funext x;simp only[b5];split
      ·rename_i aj; rw[aj,ai]
      ·rfl) rfl
     refine⟨goInt (0:Nat),w,?_,jq.1,jq.2,by rw[Nat.min_zero]; exact .int _ _⟩;simp[Builtin.copy_,cy jr,bA,fr aB,aT,storeCells,Result.andThen]
    | fZ _ _ _ _ _ _ cap' a au de az=>
     exfalso;rcases az with az | ⟨gB,cs',az,aP⟩
     ·rw[az] at ai; cases ai
     ·rw[az] at ai; cases ai; omega
    | ao _ _ _ _ _ _ cap' cs' cj bP hm au ay de=>
     have en:=rel.blk b cj hm;rw[ai] at en;obtain⟨UQ,dt,_⟩:=en;have sn:min n len*z<=cap*z:=Nat.mul_le_mul_right _ (by omega);have Vy:min n len*z<=n*z:=Nat.mul_le_mul_right _ (by omega);have kt:(xs.take (min n len*z)).length=min n len*z:=by rw[List.length_take]; omega
     have lu:max m (off+(xs.take (min n len*z)).length)=m:=by rw[kt]; omega
     obtain⟨w',h1,ag,ap⟩:=wz (P:=P) rel (cvs:=xs.take (min n len*z)) (vs:=vs.take (min n len*z)) (k:=off) ai hm (by omega)
      (by rw[List.length_take,List.length_take,cF.1]) (by rw[lu]; omega) (fun j c am=>by
       have aP:j<min n len*z:=by have:=(List.getElem?_eq_some_iff.1 am).1; rwa [kt] at this
       rw[List.getElem?_take_of_lt aP] at am ⊢;exact cF.2 j c am)
     rw[lu] at ag ap;have aI:=kk (min n len) (by omega) w (fun _=>rfl);refine⟨goInt (min n len:Nat),w',?_,ag,ap,.int _ _⟩;have Am:Nat.min n len=min n len:=rfl;simp[Builtin.copy_,cy jr,bA,fr aB,Am,aI,h1]
   ·cases al
  | _=>rw[ai] at al; cases al
 ·cases al
theorem FD:∀ (cs:List ae) (vs:List Value) (bs:List UInt8),lO cs=some bs->vs.length=cs.length->
  (∀ (j:Nat) (c:ae),cs[j]? = some c->∃ v:Value,vs[j]? = some v/\v.oneCell'=true/\aR w R h μ c v)->
  ∃ ns:List Int,vs=ns.map (Value.int .u8)/\bs=ns.map fun n=>UInt8.ofNat n.toNat
 | [],[],bs,ai,_,_=>by
  simp only[lO,Option.some.injEq] at ai; subst ai;exact⟨[],rfl,rfl⟩
 | [],_::_,_,_,au,_=>by simp at au
 | _::_,[],_,_,au,_=>by simp at au
 | c::cs,v::vs,bs,ai,au,ax=>by
  obtain⟨v0,h9,_,sv⟩:=ax 0 c rfl;simp only[List.getElem?_cons_zero,Option.some.injEq] at h9;subst h9;cases sv with
  | int k n=>
   cases k<;>simp only[lO] at ai<;>try (cases ai; done)
   cases ov:lO cs with
   | none=>rw[ov] at ai; cases ai
   | some aeP=>
    rw[ov] at ai;simp only[Option.map_some,Option.some.injEq] at ai;subst ai;obtain⟨ns,h1,ag⟩:=FD cs vs aeP ov (by simpa using au) (fun j c am=>ax (j+1) c (by simpa using am));exact⟨n::ns,by rw[h1]; rfl,by rw[ag]; rfl⟩
  | _=>simp[lO] at ai
theorem TT:∀ (ns:List Int) (s:ByteArray),(ns.foldl (fun r n=>r.push (UInt8.ofNat n.toNat)) s).data.toList=s.data.toList++ns.map fun n=>UInt8.ofNat n.toNat
 | [],s=>by simp
 | n::ns,s=>by
  rw[List.foldl_cons,TT ns];simp[ByteArray.push]
theorem af3 (rel:cc R B w h μ) {s d:TypeId} {x c:ae} {bJ:Value} (al:vd P h s d x=some c) (aj:aR w R h μ x bJ) :
  ∃ v,(convert s d bJ).run P w=.ok v w/\aR w R h μ c v:=by
 unfold vd at al;split at al
 ·rename_i hq k k' n ar bN;simp only[Option.some.injEq] at al; subst al;cases aj;exact⟨.int k (k.wrap n),by simp[convert,cy ar,cy bN,Conv.intToInt],.int _ _⟩
 ·rename_i eY ar bN;simp only[Option.some.injEq] at al; subst al;cases aj with
  | str bs=>exact⟨.string bs,by simp[convert,cy ar,cy bN],.str _⟩
 ·rename_i e ar bN VA;cases DC:P.underlying e with
  | none=>rw[DC] at al; cases al
  | some asG=>
   rw[DC] at al;split at al
   ·rename_i heq;simp only[Option.some.injEq] at heq al; subst heq al;cases aj;refine⟨.string ByteArray.empty,by simp[convert,cy ar,cy bN,cy DC,Conv.bytesToString],?_⟩;exact .str ByteArray.empty
   ·rename_i heq vP;simp only[Option.some.injEq] at heq; subst heq;split at al
    ·cases al
    ·rename_i cs n ajv dp;cases ov:lO cs with
     | none=>rw[ov] at al; cases al
     | some bs=>
      rw[ov] at al;simp only[Option.map_some,Option.some.injEq] at al; subst al;obtain⟨bF,bA,vs,cF,kk⟩:=tv (P:=P) rel dp aj;have aI:=kk n (Nat.le_refl _) w (fun _=>rfl);obtain⟨ns,rfl,rfl⟩:=FD cs vs bs ov cF.1 cF.2;have Aw:(ns.map (Value.int .u8)).take (n*1)=ns.map (Value.int .u8) :=List.take_of_length_le (by rw[cF.1,bF]; exact Nat.le_refl _);rw[Aw] at aI;have Jk:∃ a len cap,bJ=.slice a len cap:=by
       cases aj<;>first | exact⟨_,_,_,rfl⟩ | (simp[contents] at dp; done) | (exact absurd rfl (ajv _))
      obtain⟨a,len,cap,rfl⟩:=Jk;simp only[Builtin.lenOf,Sem.run_pure,Result.ok.injEq] at bA;obtain⟨rfl,_⟩:=bA;have aip:=TT ns ByteArray.empty;refine⟨.string (ns.foldl (fun r n=>r.push (UInt8.ofNat n.toNat)) ByteArray.empty),?_,?_⟩
      ·rw[run_convert_bytes_string w s d e a len cap ar DC bN];cases a with
       | none=>
        simp only[Builtin.firstCells,Sem.run_pure,Result.ok.injEq] at aI;have lx:ns=[] :=by
         have:=congrArg Array.toList aI.1;simpa using this.symm
        subst lx;simp[Conv.bytesToString]
       | some a=>
        simp only[Builtin.firstCells,Nat.mul_one] at aI;exact run_bytesToString w a len cap ns aI
      ·have:(ns.foldl (fun r n=>r.push (UInt8.ofNat n.toNat)) ByteArray.empty).data.toList=ns.map fun n=>UInt8.ofNat n.toNat:=by rw[aip]; rfl
       rw[<-this];exact .str _
    ·cases al
   ·cases al
 ·cases al
theorem N9 (rel:cc R B w h μ) {w' : World} (ai:RowKit.Below w.heap.size w w') (pp:w.drawn<=w'.drawn:=by first | exact Nat.le_refl _ | exact Nat.le_succ _) :dr w h μ w' h μ/\cc R B w' h μ:=by
 have e:dr w h μ w' h μ:=⟨⟨ai.os,ai.tape,ai.output,ai.size,fun k hk _=>ai.block k hk,fun _ ay=>.inl ay,fun b sz cs m h1 ag=>.inl ⟨cs,h1,ag⟩,fun _ _ az=>az,fun _ _ _ h1 ag=>⟨h1,ag⟩,Nat.le_refl _,pp⟩,fun _ _ hm=>hm⟩
 refine⟨e,fun b m hm=>?_,rel.inj,rel.base,rel.fresh,rel.up,Nat.le_trans rel.size ai.size,rel.j6⟩;cases au:live (h.f b) with
 | false=>cases al:h.f b<;>first | trivial | (rw[al] at au; cases au)
 | true=>exact (rel.blk b m hm).ext e.toExt0 (ai.block _ (rel.lt au hm))
theorem ae0 (rel:cc R B w h μ) {s d:TypeId} {x c:ae} {bJ:Value} (al:wP P s d x=some c) (aj:aR w R h μ x bJ) :
  ∃ v w',(convert s d bJ).run P w=.ok v w'/\dr w h μ w' h μ/\cc R B w' h μ/\aR w' R h μ c v:=by
 unfold wP at al;split at al
 ·rename_i hq e eY ar bN;split at al
  ·rename_i aM;simp only[Option.some.injEq] at al; subst al;cases aj with
   | str bs=>
    have I9:RowKit.Below w.heap.size w (Lib.bytesWorld w e bs) :=⟨rfl,rfl,rfl,by rw[Lib.bytesWorld_size]; omega,fun k hk=>Lib.bytesWorld_at_old w e bs k hk⟩
    obtain⟨h1,ag⟩:=N9 rel I9;refine⟨_,_,Lib.run_convert_string_bytes w s d e bs ar bN aM,h1,ag,?_⟩;have g4:bs.data.toList.length=bs.size:=by simp
    have h8:¬ kG h μ w.heap.size:=by
     rintro⟨b,m,au,hm,aw⟩;have:=rel.lt au hm;omega
    have c3:bs.size<=grownCap w bs.size 0 e:=grownCap_ge w bs.size 0 e;have:=aR.b0 (w:=Lib.bytesWorld w e bs) (R:=R) (h:=h) (μ:=μ) 1 (bs.data.toList.map fun b=>[iq b]) w.heap.size 0 (grownCap w bs.size 0 e) (fun i _=>.int .u8 (bs.data.toList.getD i 0).toNat)
     (by simpa using c3) (fun e aw=>by obtain⟨b,_,rfl⟩:=List.mem_map.1 aw; rfl)
     (fun i j aA am=>by
      have fN:i<bs.size:=by simpa using aA
      have:j=0:=by omega
      subst this;exact⟨by simpa using Lib.bytesWorld_cell w e bs i fN,rfl,rel.up _ rel.size,h8⟩)
     (fun i e aw j c am=>by
      rw[List.getElem?_map] at aw;cases ai:bs.data.toList[i]? with
      | none=>rw[ai] at aw; cases aw
      | some b=>
       rw[ai] at aw;simp only[Option.map_some,Option.some.injEq] at aw; subst aw;cases j with
       | zero=>
        simp only[List.getElem?_cons_zero,Option.some.injEq] at am; subst am;have:bs.data.toList.getD i 0=b:=by simp[List.getD,ai]
        rw[this];exact .int _ _
       | succ j=>simp at am)
    rw[List.length_map,g4] at this;exact this
  ·cases al
 ·cases al
theorem afB {t ty:TypeId} {x c:ae} {bJ:Value} (al:wR P t x=some c) (aj:aR w R h μ x bJ) :∃ v,(Builtin.cap_ #[t] ty #[bJ]).run P w=.ok v w/\aR w R h μ c v:=by
 unfold wR at al;split at al<;>(try (simp only[Option.some.injEq] at al; subst al))
 ·rename_i n e aM;exact⟨goInt n,by simp[Builtin.cap_,cy aM],.int _ _⟩
 ·rename_i e aM;cases aj;exact⟨goInt (0:Nat),by simp[Builtin.cap_,cy aM],.int _ _⟩
 ·cases al
theorem afM (rel:cc R B w h μ) {t ty:TypeId} {x:ae} {bJ:Value} {h' : aQ} (al:wT P h t x=some h') (aj:aR w R h μ x bJ) :
  ∃ w',(Builtin.clear_ #[t] ty #[bJ]).run P w=.ok (.tuple #[]) w'/\dr w h μ w' h' μ/\cc R B w' h' μ:=by
 unfold wT at al;split at al
 ·rename_i e aM;simp only[Option.some.injEq] at al; subst al;cases aj;exact⟨w,by simp[Builtin.clear_,cy aM],.refl _ _ _,rel⟩
 ·rename_i e z aM;simp only[Option.some.injEq] at al; subst al;cases aj<;>exact⟨w,by simp[Builtin.clear_,cy aM],.refl _ _ _,rel⟩
 ·rename_i e z b off len cap sz aM;split at al
  ·rename_i tS;simp only[Option.some.injEq] at al; subst al;subst tS;cases aj<;>exact⟨w,by simp[Builtin.clear_,cy aM],.refl _ _ _,rel⟩
  ·rename_i tS;split at al
   ·rename_i zero m cs aB ai;split at al
    ·rename_i z7;obtain⟨rfl,rfl⟩:=z7;simp only[Option.some.injEq] at al; subst al;cases aj with
     | hi=>exact absurd rfl tS
     | fZ _ _ _ _ _ _ cap' a au de az=>
      exfalso;rcases az with az | ⟨gB,cs',az,aP⟩
      ·rw[az] at ai; cases ai
      ·rw[az] at ai; cases ai; omega
     | ao _ _ _ _ _ _ cap' cs' cj bP hm au ay de=>
      have en:=rel.blk b cj hm;rw[ai] at en;obtain⟨UQ,dt,_⟩:=en;obtain⟨v,ax,aC⟩:=uX (P:=P) (w:=w) (R:=R) (h:=h) (μ:=μ) aB;have J7:=Et aC len;have sn:len*zero.length<=cap*zero.length:=Nat.mul_le_mul_right _ au;have oI:(dm zero len).length=len*zero.length:=wo len;have lu:max m (off+(dm zero len).length)=m:=by rw[oI]; omega
      have hf:v.cells.size=zero.length:=aC.1;have DD:(Builtin.zeroCells v.cells len)=(Array.range (len*zero.length)).map (v.cells[· % v.cells.size]!) :=by
       unfold Builtin.zeroCells;rw[hf]
      obtain⟨w',h1,ag,ap⟩:=wz (P:=P) rel (cvs:=dm zero len) (vs:=(Builtin.zeroCells v.cells len).toList) (k:=off) ai hm (by omega)
       (by rw[DD,oI]; simp) (by rw[lu]; omega) (fun j c am=>by
        rw[DD];obtain⟨u,bj,bz,a3⟩:=J7.2 j c am;exact⟨u,by rw[Array.getElem?_toList]; exact bj,bz,a3⟩)
      rw[lu] at ag ap;refine⟨w',?_,ag,ap⟩;cases bA:len with
      | zero=>exact absurd bA tS
      | succ avv=>
       rw[bA] at h1;simp[Builtin.clear_,cy aM,ax,h1]
    ·cases al
   ·cases al
 ·cases al
theorem aes (rel:cc R B w h μ) {t u ty:TypeId} {k:IntKind} {s x c:ae} {af bJ:Value} {h' : aQ} (aM:P.underlying u=some (.int k)) (aG:y9 P h t s x=some (c,h')) (ar:aR w R h μ s af) (aj:aR w R h μ x bJ) :
  ∃ v w' μ',(Builtin.append_ #[t,u] ty #[af,bJ]).run P w=.ok v w'/\dr w h μ w' h' μ'/\cc R B w' h' μ'/\aR w' R h' μ' c v:=by
 unfold y9 at aG;split at aG
 ·rename_i e n aw aA;have jr:=zE aw;obtain⟨pI,rfl⟩:=qi aA aj;split at aG
  ·rename_i z by_ zero aB dO ia;split at aG
   ·rename_i iR;obtain⟨hf,so,atR,dy⟩:=iR;obtain⟨i,zv,pr,kw,iU,_⟩:=adA (P:=P) (w:=w) (R:=R) (h:=h) (μ:=μ) ia;have oK:i.size=z:=by simpa [cz,pr] using aB
    have kS:i.bytes=by_:=by simpa [iO,pr] using dO
    have x0:IntKind.i64.wrap n=n:=by
     simp[IntKind.wrap,IntKind.bits,IntKind.signed]; omega
    have aH:(n.toNat:Int)=n:=by omega
    have oC:¬ (n<0) :=by omega
    have ata:¬ (2 ^ 48<n*(by_:Int)) :=by
     have h1:((n.toNat*by_:Nat) :Int)=n*by_:=by rw[Int.natCast_mul,aH]
     have ag:((n.toNat*by_:Nat) :Int)<=((140737488355328:Nat) :Int) :=Int.ofNat_le.2 dy;rw[h1] at ag;omega
    have cF:ke w R h μ (dm zero n.toNat) (Builtin.zeroCells zv.cells n.toNat) :=by
     obtain⟨v,ax,aC⟩:=uX (P:=P) (w:=w) (R:=R) (h:=h) (μ:=μ) ia;have akh:v=zv:=by
      have:=ax w;simp[zeroValue,typeInfo,pr,kw] at this;exact this.symm
     subst akh;have J7:=Et aC n.toNat
     have DD:(Builtin.zeroCells v.cells n.toNat)=(Array.range (n.toNat*zero.length)).map (v.cells[· % v.cells.size]!) :=by
      unfold Builtin.zeroCells;rw[aC.1]
     rw[DD];exact J7
    have oI:(dm zero n.toNat).length=n.toNat*z:=by rw[wo,hf]
    have tL:∀ w2:World,(Go.asInt (.int pI n)).run P w2=.ok n w2:=fun w2=>rfl
    have tF:¬ (281474976710656<n*(by_:Int)) :=by omega
    have qU:∀ w2:World,(zeroValue e).run P w2=.ok zv w2:=fun w2=>by simp[zeroValue,typeInfo,pr,kw]
    have Wf:n.toNat*z=0->Builtin.zeroCells zv.cells n.toNat=#[] :=fun aT=>by
     apply Array.eq_empty_of_size_eq_zero;unfold Builtin.zeroCells;simp[iU,hf,aT]
    refine PK rel aB dO aG ar oI (vs:=(Builtin.zeroCells zv.cells n.toNat).toList) ⟨by simpa using cF.1,fun j c am=>by
     obtain⟨v,bj,bz,a3⟩:=cF.2 j c am;exact⟨v,by rw[Array.getElem?_toList]; exact bj,bz,a3⟩⟩ (fun base sLen gn w' dP cK=>?_) (fun iz axy fN Wh base sLen gn fl ay az aC ai=>?_)
    ·by_cases aT:n.toNat*z=0
     ·rw[Wf aT] at cK;cases base with
      | none=>
       subst cK;simp[Builtin.append_,tL,cy jr,cy aM,fr aB,x0,oC,typeInfo,pr,kS,dP,tF,aT]
      | some a=>
       simp only at cK;simp[Builtin.append_,tL,cy jr,cy aM,fr aB,x0,oC,typeInfo,pr,kS,dP,tF,aT,cK]
     ·cases base with
      | none=>
       subst cK;simp[Builtin.append_,tL,cy jr,cy aM,fr aB,x0,oC,typeInfo,pr,kS,dP,tF,aT,qU]
      | some a=>
       simp only at cK;simp[Builtin.append_,tL,cy jr,cy aM,fr aB,x0,oC,typeInfo,pr,kS,dP,tF,aT,qU,cK]
    ·rw[pr] at fN;cases fN;rw[kw] at Wh;cases Wh;have Jo:¬ (281474976710656<Builtin.nextslicecap (sLen+n.toNat) gn*i.bytes) :=by
      have:=growslice_fits (need:=sLen+n.toNat) (old:=gn) (bytes:=i.bytes) az aC;omega
     have VC:¬ (sLen+n.toNat<=gn) :=by omega
     have vM:¬ ((9223372036854775807:Int)<((sLen+n.toNat:Nat) :Int)) :=by
      have h1:(sLen+n.toNat)*1<=(sLen+n.toNat)*i.bytes:=Nat.mul_le_mul_left _ ai;unfold cT at aC;omega
     have Vz:¬ ((9223372036854775807:Int)<(sLen:Int)+max n 0) :=by omega
     rw[oK] at ay;rw[kS] at Jo;by_cases aT:n.toNat*z=0
     ·have vJ:(fl++(Builtin.zeroCells zv.cells n.toNat).toList).toArray=fl.toArray:=by rw[Wf aT]; simp
      rw[vJ];simp[Builtin.append_,tL,cy jr,cy aM,fr aB,x0,oC,typeInfo,pr,kS,VC,tF,vM,Vz,Jo,aT,qU,ay,Question.forced,newRow,grownCap]
     ·have vJ:(fl++(Builtin.zeroCells zv.cells n.toNat).toList).toArray=fl.toArray++Builtin.zeroCells zv.cells n.toNat:=by simp
      rw[vJ];simp[Builtin.append_,tL,cy jr,cy aM,fr aB,x0,oC,typeInfo,pr,kS,VC,tF,vM,Vz,Jo,aT,qU,ay,Question.forced,newRow,grownCap]
   ·cases aG
  ·cases aG
 ·cases aG
end
section
variable {P:Program} {w:World} {R:Nat->Prop} {B:Nat} {h:aQ} {μ:cJ}
theorem aeE {op:BinOp} {t:TypeId} {k k' : IntKind} {a b:Int} {c:ae} (al:cr op k a k' b=some c) :
  ∃ v,(binOp op t (.int k a) (.int k' b)).run P w=.ok v w/\aR w R h μ c v:=by
 cases op
 case shl=>
  simp only[cr] at al;split at al
  ·cases al
  ·rename_i ai;simp only[Option.some.injEq] at al; subst al;exact⟨_,by simp[binOp,Op.shift,ai],.int _ _⟩
 case shr=>
  simp only[cr] at al;split at al
  ·cases al
  ·rename_i ai;simp only[Option.some.injEq] at al; subst al;exact⟨_,by simp[binOp,Op.shift,ai],.int _ _⟩
 case quo=>
  simp only[cr] at al;split at al
  ·rename_i ai;obtain⟨rfl,ai⟩:=ai;simp only[Option.some.injEq] at al; subst al;exact⟨_,by simp[binOp,Op.intDiv,ai],.int _ _⟩
  ·cases al
 case rem=>
  simp only[cr] at al;split at al
  ·rename_i ai;obtain⟨rfl,ai⟩:=ai;simp only[Option.some.injEq] at al; subst al;exact⟨_,by simp[binOp,Op.intDiv,ai],.int _ _⟩
  ·cases al
 all_goals
  simp only[cr] at al;split at al
  ·rename_i hk;subst hk;simp only[Option.some.injEq] at al; subst al
   first
    | (refine⟨_,?_,.int _ _⟩; unfold binOp; simp only[ne_eq,not_true_eq_false,if_false]; rfl)
    | (refine⟨_,?_,.bool _⟩; unfold binOp; simp only[ne_eq,not_true_eq_false,if_false]; rfl)
  ·cases al
theorem toList_eq (s:ByteArray) :s.toList=s.data.toList:=by
 rw[ByteArray.toList_eq]
theorem aeF {op:BinOp} {t:TypeId} {a b:ByteArray} {c:ae} (al:pf op a.data.toList b.data.toList=some c) :
  ∃ v,(binOp op t (.string a) (.string b)).run P w=.ok v w/\aR w R h μ c v:=by
 cases op<;>simp only[pf] at al<;>try (cases al; done)
 case add=>
  split at al
  ·rename_i du;simp only[Option.some.injEq] at al; subst al;have h1:a.data.toList.length=a.size:=by simp
   have ag:b.data.toList.length=b.size:=by simp
   rw[h1,ag] at du;have Aj:¬ ((9223372036854775807:Int)<(a.size:Int)+(b.size:Int)) :=by omega
   have au:(a++b).data.toList=a.data.toList++b.data.toList:=by simp
   refine⟨.string (a++b),by simp[binOp,Op.stringOp,Aj],?_⟩;rw[<-au];exact .str _
  ·cases al
 all_goals
  simp only[Option.some.injEq] at al; subst al;exact⟨_,by simp[binOp,Op.stringOp,toList_eq],.bool _⟩
theorem agF {d:Nat} {t:TypeId} {a b:Bool} (aM:P.underlying t=some .bool) :(Op.equalIn (d+1) t (.bool a) (.bool b)).run P w=.ok (a == b) w:=by
 simp[Op.equalIn,cy aM]
theorem agG {d:Nat} {t:TypeId} {gj k:IntKind} {a b:Int} (aM:P.underlying t=some (.int gj)) :(Op.equalIn (d+1) t (.int k a) (.int k b)).run P w=.ok (a == b) w:=by
 simp[Op.equalIn,cy aM]
theorem agH {d:Nat} {t:TypeId} {a b:ByteArray} (aM:P.underlying t=some .string) :(Op.equalIn (d+1) t (.string a) (.string b)).run P w=.ok (a.data.toList == b.data.toList) w:=by
 simp[Op.equalIn,cy aM,toList_eq,beq_toListBytes]
theorem Iq {d:Nat} {t e:TypeId} {x y l c:Nat} {b:Option Addr} (aM:P.underlying t=some (.slice e)) :(Op.equalIn (d+1) t (.slice none x y) (.slice b l c)).run P w=.ok b.isNone w:=by
 simp[Op.equalIn,cy aM]
theorem Tw {d:Nat} {t e:TypeId} {x y l c:Nat} {a:Addr} (aM:P.underlying t=some (.slice e)) :(Op.equalIn (d+1) t (.slice (some a) l c) (.slice none x y)).run P w=.ok false w:=by
 simp[Op.equalIn,cy aM]
theorem Io {d:Nat} {xs bl:List ae} {p5 p6:Array Value}
  (aL:∀ (t:TypeId) (x y:ae) (b:Bool) (bJ fx:Value),ej P d t x y=some b->aR w R h μ x bJ->aR w R h μ y fx->(Op.equalIn d t bJ fx).run P w=.ok b w)
  (qR:ke w R h μ xs p5) (qS:ke w R h μ bl p6) :∀ (l:List Field) (b:Bool),ej.eqFields P (ej P d) xs bl l=some b->(Op.eqFields d p5 p6 l).run P w=.ok b w
 | [],b,ai=>by simp only[ej.eqFields,Option.some.injEq] at ai; subst ai; simp[Op.eqFields]
 | f::l,b,ai=>by
  unfold ej.eqFields at ai;unfold Op.eqFields;by_cases aI:f.name= "_"
  ·rw[if_pos aI] at ai;simp[aI,Io aL qR qS l b ai]
  ·rw[if_neg aI] at ai;split at ai
   ·rename_i a c aG al;obtain⟨hz,h1,ag⟩:=uu (P:=P) aG qR;obtain⟨e5,ap,aJ⟩:=uu (P:=P) al qS;split at ai
    ·rename_i heq;have:=aL f.type a c true hz e5 heq ag aJ;simp[aI,h1,ap,this,Io aL qR qS l b ai]
    ·rename_i heq;have:=aL f.type a c false hz e5 heq ag aJ;simp only[Option.some.injEq] at ai; subst ai;simp[aI,h1,ap,this]
    ·cases ai
   ·cases ai
theorem Tt {d z:Nat} {e:TypeId} {xs bl:List ae} {p5 p6:Array Value}
  (aL:∀ (t:TypeId) (x y:ae) (b:Bool) (bJ fx:Value),ej P d t x y=some b->aR w R h μ x bJ->aR w R h μ y fx->(Op.equalIn d t bJ fx).run P w=.ok b w)
  (qR:ke w R h μ xs p5) (qS:ke w R h μ bl p6) (f:Nat->Option Bool × Unit->Sem (ForInStep (Option Bool × Unit)))
  (aI:∀ (i:Nat) (hz e5:Value) (b:Bool) (r:Option Bool × Unit),(part e p5 (i*z)).run P w=.ok hz w->(part e p6 (i*z)).run P w=.ok e5 w->(Op.equalIn d e hz e5).run P w=.ok b w->
   (f i r).run P w=.ok (if b then .yield (none,()) else .done (some false,())) w) :
  ∀ (n i:Nat) (b:Bool),ej.qs P (ej P d) e z xs bl n i=some b->(forIn (List.range' i n) (none,()) f).run P w=.ok (if b then (none,()) else (some false,())) w
 | 0,i,b,ai=>by
  simp only[ej.qs,Option.some.injEq] at ai; subst ai;simp
 | n+1,i,b,ai=>by
  unfold ej.qs at ai;split at ai
  ·rename_i a c aG al;obtain⟨hz,h1,ag⟩:=uu (P:=P) aG qR;obtain⟨e5,ap,aJ⟩:=uu (P:=P) al qS;rw[List.range'_succ,List.forIn_cons];split at ai
   ·rename_i heq;have bp:=aL e a c true hz e5 heq ag aJ;have aN:=aI i hz e5 true (none,()) (h1 w) (ap w) bp;simp only[Sem.run_bind,aN,if_true,Result.andThen_ok];exact Tt aL qR qS f aI n (i+1) b ai
   ·rename_i heq;have bp:=aL e a c false hz e5 heq ag aJ;have aN:=aI i hz e5 false (none,()) (h1 w) (ap w) bp;simp only[Option.some.injEq] at ai; subst ai;simp[aN]
   ·cases ai
  ·cases ai
theorem run_equalIn_array {d n z:Nat} {t e:TypeId} {p5 p6:Array Value} (aM:P.underlying t=some (.array n e)) (aB:cz P e=some z) {b:Bool}
  (hk:∀ f:Nat->Option Bool × Unit->Sem (ForInStep (Option Bool × Unit)),
   (∀ (i:Nat) (hz e5:Value) (b:Bool) (r:Option Bool × Unit),(part e p5 (i*z)).run P w=.ok hz w->(part e p6 (i*z)).run P w=.ok e5 w->(Op.equalIn d e hz e5).run P w=.ok b w->(f i r).run P w=.ok (if b then .yield (none,()) else .done (some false,())) w)->
   (forIn (List.range' 0 n) (none,()) f).run P w=.ok (if b then (none,()) else (some false,())) w) :
  (Op.equalIn (d+1) t (.agg p5) (.agg p6)).run P w=.ok b w:=by
 simp only[Op.equalIn,Sem.run_bind,cy aM,Result.andThen_ok,fr aB];rw[Std.Legacy.Range.forIn_eq_forIn_range'];have aC:List.range' ([:n] :Std.Legacy.Range).start ([:n] :Std.Legacy.Range).size ([:n] :Std.Legacy.Range).step=List.range' 0 n:=by simp[Std.Legacy.Range.size]
 rw[aC,hk]
 ·cases b<;>simp
 ·intro i hz e5 b r h1 ag ap;cases b<;>simp[h1,ag,ap]
theorem Ip:∀ (d:Nat) (t:TypeId) (x y:ae) (b:Bool) (bJ fx:Value),ej P d t x y=some b->aR w R h μ x bJ->aR w R h μ y fx->
  (Op.equalIn d t bJ fx).run P w=.ok b w:=by
 intro d
 induction d with
 | zero=>intro t x y b bJ fx aw; simp[ej] at aw
 | succ d aL=>
  intro t x y b bJ fx aw aj aK;unfold ej at aw;split at aw
  ·rename_i a bx aM;simp only[Option.some.injEq] at aw; subst aw;cases aj; cases aK;exact agF aM
  ·rename_i gj k a k' bx aM;split at aw
   ·rename_i hk; subst hk;simp only[Option.some.injEq] at aw; subst aw;cases aj; cases aK;exact agG aM
   ·cases aw
  ·rename_i a bx aM;simp only[Option.some.injEq] at aw; subst aw;cases aj; cases aK;exact agH aM
  ·rename_i fs xs bl aM;split at aw
   ·cases aw
   ·rename_i cK;obtain⟨p5,rfl,qR⟩:=td aj;obtain⟨p6,rfl,qS⟩:=td aK;have Dy:P.stoodInHeld t=false:=by simpa using cK
    have lp:P.fieldsOf t=fs:=by simp[Program.fieldsOf,aM]
    rw[run_equalIn_struct w d t p5 p6 (by rw[lp]; exact aM) Dy,lp];exact Io aL qR qS _ _ aw
  ·rename_i n e xs bl aM;cases aB:cz P e with
   | none=>rw[aB] at aw; cases aw
   | some z=>
    rw[aB] at aw;simp only at aw;obtain⟨p5,rfl,qR⟩:=td aj;obtain⟨p6,rfl,qS⟩:=td aK;exact run_equalIn_array aM aB (fun f aI=>Tt aL qR qS f aI n 0 b aw)
  ·rename_i e aM;simp only[Option.some.injEq] at aw; subst aw;cases aj; cases aK;exact Iq aM
  ·rename_i e z bx off len cap sz aM;simp only[Option.some.injEq] at aw; subst aw;cases aj; cases aK<;>exact Iq aM
  ·rename_i e z es aM;simp only[Option.some.injEq] at aw; subst aw;cases aj; cases aK<;>exact Iq aM
  ·rename_i e z bx off len cap sz aM;simp only[Option.some.injEq] at aw; subst aw;cases aK; cases aj<;>exact Tw aM
  ·rename_i e z es aM;simp only[Option.some.injEq] at aw; subst aw;cases aK; cases aj<;>exact Tw aM
  ·cases aw
end
end Go.cn

/-
  The canonical machine, part E: slices: what they hold, append, slicing, copy, make, len.
-/
import Derived.Test.YtginfboibgolaaaGreatDoorRa
import Derived.Lib.IndexBytes
import Derived.Laws.BytesString
import Derived.Lib.ConvBytes
set_option linter.unusedVariables false
set_option linter.unusedSimpArgs false
set_option linter.unnecessarySimpa false
namespace Go.bJ
open Go
section
variable {P:Program} {w:World} {R:Nat->Prop} {B:Nat} {h:aN} {μ:cu}
theorem m9 {α:Type} {z:Nat}:∀ {es:List (List α)},(∀ e,e∈es->e.length=z)->es.flatten.length=es.length*z
 | [],_=>by simp
 | e::es,av=>by
  rw[aro,aqA,av e (by simp),m9 (fun e ap=>av e (by simp[ap])),aqH,ara,Nat.add_comm]
theorem PS {α:Type} {z:Nat}:∀ {es:List (List α)} {j:Nat} {c:α},(∀ e,e∈es->e.length=z)->es.flatten[j]? = some c->
  ∃ i k e,j=i*z+k/\k<z/\es[i]? = some e/\e[k]? = some c
 | [],_,_,_,ai=>by simp at ai
 | e::es,j,c,av,ai=>by
  have ap:=av e (by simp);rw[aro] at ai;by_cases aL:j<e.length
  ·rw[aqt aL] at ai;exact⟨0,j,e,by simp,by omega,rfl,ai⟩
  ·rw[aqB (by omega)] at ai;obtain⟨i,k,eY,h1,ad,aj,aC⟩:=PS (fun e ap=>av e (by simp[ap])) ai;exact⟨i+1,k,eY,by rw[ara]; omega,ad,by simpa using aj,aC⟩
def sj (w:World) (R:Nat->Prop) (h:aN) (μ:cu) (xs:List U) (vs:List Value) :Prop:=
 vs.length=xs.length/\∀ (j:Nat) (c:U),xs[j]? = some c->∃ v:Value,vs[j]? = some v/\v.oneCell'=true/\aO w R h μ c v
theorem LU {w2:World} {xs:List U} {blk o:Nat} (lO:∀ a,w2.cell? a=w.cell? a)
  (ag:∀ (j:Nat) (c:U),xs[j]? = some c->∃ v:Value,w.cell? ⟨blk,o+j,none⟩=some v/\v.oneCell'=true/\aO w R h μ c v) :
  ∃ vs:List Value,sj w R h μ xs vs/\∀ k,k<=xs.length->∀ w2:World,(∀ a,w2.cell? a=w.cell? a)->(loadCells ⟨blk,o,none⟩ k).run P w2=.ok (vs.take k).toArray w2:=by
 have ao:∃ f:Nat->Value,∀ (j:Nat) (c:U),xs[j]? = some c->w.cell? ⟨blk,o+j,none⟩=some (f j)/\(f j).oneCell'=true/\aO w R h μ c (f j) :=by
  refine⟨fun j=>(w.cell? ⟨blk,o+j,none⟩).getD undef,fun j c ai=>?_⟩;obtain⟨v,h1,ad,aj⟩:=ag j c ai;simp only[h1,arb];exact⟨trivial,ad,aj⟩
 obtain⟨f,aA⟩:=ao;refine⟨(List.range xs.length).map f,⟨by simp,fun j c ai=>?_⟩,fun k hk w2 iY=>?_⟩
 ·have aL:j<xs.length:=(aqr.1 ai).1;exact⟨f j,by simp[aL],(aA j c ai).2⟩
 ·have:=run_loadCells_list (P:=P) w2 ⟨blk,o,none⟩ (((List.range xs.length).map f).take k) (fun j v ai=>by
   have h5:j<k:=by
    rcases arC j k with h1 | h1
    ·exact h1
    ·rw[aqJ (by simp; omega)] at ai; cases ai
   rw[aqY h5,aqx] at ai;have jF:j<xs.length:=by omega
   rw[aq1 jF] at ai;simp only[aqy,Option.some.injEq] at ai;rw[Addr.lK,<-ai,iY];exact (aA j _ (aqu jF)).1)
  have ak:(((List.range xs.length).map f).take k).length=k:=by simp; omega
  rw[ak] at this;exact this
theorem ur (rel:bV R B w h μ) {z n:Nat} {x:U} {bw:Value} {xs:List U} (ah:contents h z x=some (xs,n)) (ag:aO w R h μ x bw) :
  xs.length=n*z/\(Builtin.lenOf bw).run P w=.ok n w/\∃ vs:List Value,sj w R h μ xs vs ∧
   ∀ k,k<=n->∀ w2:World,(∀ a,w2.cell? a=w.cell? a)->(Builtin.firstCells z k bw).run P w2=.ok (vs.take (k*z)).toArray w2:=by
 cases ag with
 | aX=>
  simp only[contents,Option.some.injEq,Prod.mk.injEq] at ah;obtain⟨rfl,rfl⟩:=ah;exact⟨by simp,by simp[Builtin.lenOf],[],⟨rfl,fun j c ai=>by simp at ai⟩,fun k _ w2 _=>by simp[Builtin.firstCells]⟩
 | str bs=>
  simp only[contents] at ah;split at ah
  ·rename_i av; subst av;simp only[Option.some.injEq,Prod.mk.injEq] at ah;obtain⟨rfl,rfl⟩:=ah;refine⟨by simp,by simp[Builtin.lenOf],bs.data.toList.map fun b=>.int .u8 b.toNat,⟨by simp,fun j c ai=>?_⟩,fun k hk w2 _=>?_⟩
   ·rw[aqx] at ai ⊢;cases af:bs.data.toList[j]? with
    | none=>rw[af] at ai; cases ai
    | some b=>
     rw[af] at ai;simp only[aqy,Option.some.injEq] at ai;subst ai;exact⟨_,rfl,rfl,.int _ _⟩
   ·have ag:(bs.extract 0 k).data.toList=bs.data.toList.take k:=by
     simp[ByteArray.extract,ByteArray.copySlice]
    have aG:(bs.extract 0 k).data=(bs.data.toList.take k).toArray:=by rw[<-ag]
    simp only[Builtin.firstCells,aG];simp
  ·cases ah
 | b0 c5 es blk off cap dH ak av lO ao=>
  simp only[contents] at ah;split at ah
  ·rename_i tc; subst tc;simp only[Option.some.injEq,Prod.mk.injEq] at ah;obtain⟨rfl,rfl⟩:=ah;have bc:=m9 av;have cj:∀ (j:Nat) (c:U),es.flatten[j]? = some c->∃ v:Value,w.cell? ⟨blk,off+j,none⟩=some v/\v.oneCell'=true/\aO w R h μ c v:=by
    intro j c ai;obtain⟨i,k,e,rfl,hk,ap,abn⟩:=PS av ai;have ax:i<es.length:=(aqr.1 ap).1;have cF:=lO i k ax hk;exact⟨dH i k,cF.here,cF.one,ao i e ap k c abn⟩
   obtain⟨vs,h1,ad⟩:=LU (P:=P) (w2:=w) (fun _=>rfl) cj;refine⟨bc,by simp[Builtin.lenOf],vs,h1,fun k hk w2 iY=>?_⟩;have:=ad (k*z) (by rw[bc]; exact aqz _ hk) w2 iY;simp[Builtin.firstCells,this]
  ·cases ah
 | fe c5 a cap=>
  simp only[contents] at ah;split at ah
  ·simp only[Option.some.injEq,Prod.mk.injEq] at ah;obtain⟨rfl,rfl⟩:=ah;exact⟨by simp,by simp[Builtin.lenOf],[],⟨rfl,fun j c ai=>by simp at ai⟩,fun k hk w2 _=>by
    obtain rfl:k=0:=by simpa using hk
    simp[Builtin.firstCells,loadCells,loadCellsFrom]⟩
  ·cases ah
 | ar c5 b off len cap sz cap' cs m af hm ak aq cM=>
  simp only[contents,af,true_and] at ah;split at ah
  ·rename_i tc; subst tc;simp only[Option.some.injEq,Prod.mk.injEq] at ah;obtain⟨rfl,rfl⟩:=ah;have eG:=rel.blk b m hm;rw[af] at eG;obtain⟨h1,ad,arr,t,fH,aj,aC,aZ,bx⟩:=eG;have sZ:len*z<=cap*z:=aqz _ ak;have bc:((cs.drop off).take (len*z)).length=len*z:=by
    rw[aqM,arA]; omega
   have cj:∀ (j:Nat) (c:U),((cs.drop off).take (len*z))[j]? = some c->∃ v:Value,w.cell? ⟨m.r,(m.s+off)+j,none⟩=some v/\v.oneCell'=true/\aO w R h μ c v:=by
    intro j c ai;have aL:j<len*z:=by
     have:=(aqr.1 ai).1;rw[bc] at this; exact this
    rw[aqY aL,aq3] at ai;obtain⟨v,a7,bl,a3⟩:=bx _ c ai;exact⟨v,by simp[World.cell?,aj,ar0,a7],bl,a3⟩
   obtain⟨vs,bL,bz⟩:=LU (P:=P) (w2:=w) (fun _=>rfl) cj;refine⟨bc,by simp[Builtin.lenOf],vs,bL,fun k hk w2 iY=>?_⟩;have:=bz (k*z) (by rw[bc]; exact aqz _ hk) w2 iY;simp[Builtin.firstCells,this]
  ·cases ah
 | hl c5 b off sz a cs m af hm=>
  simp only[contents,af,true_and] at ah;split at ah
  ·rename_i tc; subst tc;simp only[Option.some.injEq,Prod.mk.injEq,asE,arJ] at ah;obtain⟨rfl,rfl⟩:=ah;exact⟨by simp,by simp[Builtin.lenOf],[],⟨rfl,fun j c ai=>by simp at ai⟩,fun k hk w2 _=>by
    obtain rfl:k=0:=by simpa using hk
    simp[Builtin.firstCells,loadCells,loadCellsFrom]⟩
  ·cases ah
 | ga c5 b off len cap sz cap' a ak Q7 au=>
  unfold contents at ah;rcases au with au | ⟨gH,cs',au,aL⟩
  ·simp[au] at ah
  ·simp only[au] at ah;split at ah
   ·omega
   ·cases ah
 | _=>simp[contents] at ah
theorem A5 {t e:TypeId} (ap:hY P t=some e) :P.underlying t=some (.slice e) :=by
 unfold hY at ap;split at ap
 ·rename_i eY aK; cases ap; exact aK
 ·cases ap
def zL (P:Program) (u:TypeId) :Prop:=∃ d,P.underlying u=some d/\∀ k,d≠.int k
theorem SO (d:TypeDesc) (hk:∀ k,d≠.int k) :(match d with | .int _=>true | _=>false)=false:=by
 cases d with
 | int k=>exact absurd rfl (hk k)
 | _=>rfl
theorem run_append_fits {t u ty e:TypeId} {z n sLen gq:Nat} {base:Option Addr} {bw:Value} {vs:List Value} {w' : World} (ap:P.underlying t=some (.slice e)) (av:cf P e=some z) (aK:zL P u)
  (ak:(Builtin.lenOf bw).run P w=.ok n w) (aA:(Builtin.firstCells z n bw).run P w=.ok vs.toArray w) (dW:sLen+n<=gq)
  (b4:match base with | some a=>(storeCells (a.add (sLen*z)) vs).run P w=.ok () w' | none=>w'=w) :
  (Builtin.append_ #[t,u] ty #[.slice base sLen gq,bw]).run P w=.ok (.slice base (sLen+n) gq) w':=by
 obtain⟨d,br,hk⟩:=aK;have BC:=SO d hk;cases base with
 | none=>
  subst b4;simp[Builtin.append_,ce ap,fp av,ce br,BC,ak,dW,aA]
 | some a=>
  simp only at b4;simp[Builtin.append_,ce ap,fp av,ce br,BC,ak,dW,aA,b4]
theorem ag8 {t u ty e:TypeId} {i:TypeInfo} {zv:Value} {n sLen gq:Nat} {base:Option Addr} {bw:Value} {fa vs:List Value} (ap:P.underlying t=some (.slice e)) (ax:P.info? e=some i) (kN:i.zero=some zv) (aK:zL P u)
  (ak:(Builtin.lenOf bw).run P w=.ok n w) (aA:(Builtin.firstCells i.size n bw).run P w.drew=.ok vs.toArray w.drew) (aq:(Builtin.firstCells i.size sLen (.slice base sLen gq)).run P w.drew=.ok fa.toArray w.drew)
  (o8:gq<sLen+n) (du:(sLen+n)*i.bytes<=cx) (af:0<i.bytes) :
  (Builtin.append_ #[t,u] ty #[.slice base sLen gq,bw]).run P w =
   .ok (.slice (some ⟨w.heap.size,0,none⟩) (sLen+n) (grownCap w (sLen+n) gq e)) (w.drew.alloc (.cells ((fa++vs).toArray++Builtin.zeroCells zv.cells (grownCap w (sLen+n) gq e - (sLen+n))) e)) :=by
 obtain⟨d,br,hk⟩:=aK;have BC:=SO d hk;have av:cf P e=some i.size:=by simp[cf,ax]
 have aD:¬ (sLen+n<=gq) :=by omega
 have uD:¬ (281474976710656<Builtin.nextslicecap (sLen+n) gq*i.bytes) :=by
  have:=growslice_fits o8 du;omega
 have k9:¬ (i.bytes=0) :=by omega
 simp[Builtin.append_,ce ap,fp av,ce br,BC,ak,aD,typeInfo,ax,uD,k9,Question.forced,aq,aA,zeroValue,kN,newRow,grownCap];rw[<-asF,List.append_toArray fa vs]
theorem db.drew {h' : aN} {μ' : cu} {w' : World} (e:db w h μ w' h' μ') :db w h μ w' h' μ':=e
theorem ahI {s:U} {oA:Value} (al:aO w R h μ s oA) (hk:s=.aX\/(∃ z es,s=.b0 z es)\/∃ z b off len cap sz,s=.ar z b off len cap sz) :
  ∃ base sLen gq,oA=.slice base sLen gq/\sLen<=gq:=by
 cases al<;>simp at hk
 ·exact⟨_,_,_,rfl,aqv _⟩
 ·rename_i ak aq cF;exact⟨_,_,_,rfl,by omega⟩
 ·rename_i ak Q7 au;exact⟨_,_,_,rfl,by omega⟩
 ·exact⟨_,_,_,rfl,aqv _⟩
 ·rename_i ak av ah ao;exact⟨_,_,_,rfl,by omega⟩
 ·exact⟨_,_,_,rfl,arE _⟩
theorem V1 {e:TypeId} {z:Nat} (av:r7 P e=some z) :∃ i v,P.info? e=some i/\i.zero=some v/\v.cells.size=z:=by
 unfold r7 at av;cases ax:P.info? e with
 | none=>rw[ax] at av; cases av
 | some i=>
  rw[ax] at av;simp only[arF] at av;cases ao:i.zero with
  | none=>rw[ao] at av; cases av
  | some v=>rw[ao] at av; exact⟨i,v,rfl,ao,by simpa using av⟩
theorem Bi {e:TypeId} {zv:Value} {z need cap:Nat} {xs:List U} {vs:List Value} (av:zv.cells.size=z) (ak:xs.length=need*z) (lW:sj w R h μ xs vs) (cM:need<=cap) :
  (vs.toArray++Builtin.zeroCells zv.cells (cap - need)).size=cap*z ∧
  ∀ (j:Nat) (c:U),xs[j]? = some c->∃ v:Value,(vs.toArray++Builtin.zeroCells zv.cells (cap - need))[j]? = some v/\v.oneCell'=true/\aO w R h μ c v:=by
 refine⟨?_,fun j c ai=>?_⟩
 ·have h1:(Builtin.zeroCells zv.cells (cap - need)).size=(cap - need)*z:=by simp[Builtin.zeroCells,av]
  have ad:need*z+(cap - need)*z=cap*z:=by rw[<-arh]; congr 1; omega
  rw[atg,h1,ath,lW.1,ak,ad]
 ·obtain⟨v,h1,ad,aj⟩:=lW.2 j c ai;have aL:j<vs.length:=(aqr.1 h1).1;refine⟨v,?_,ad,aj⟩;rw[arv (by simpa using aL)];simpa using h1
theorem Nq (rel:bV R B w h μ) {t u ty e:TypeId} {z by_ n:Nat} {s c:U} {oA bw:Value} {h' : aN} {xs:List U} {vs:List Value} (av:cf P e=some z) (dz:iT P e=some by_)
  (az:tZ P h e z by_ s xs n=some (c,h')) (al:aO w R h μ s oA) (bB:xs.length=n*z) (cj:sj w R h μ xs vs)
  (E7:∀ (base:Option Addr) (sLen gq:Nat) (w' : World),sLen+n<=gq->(match base with | some a=>(storeCells (a.add (sLen*z)) vs).run P w=.ok () w' | none=>w'=w)->
   (Builtin.append_ #[t,u] ty #[.slice base sLen gq,bw]).run P w=.ok (.slice base (sLen+n) gq) w')
  (BH:∀ (i:TypeInfo) (zv:Value),P.info? e=some i->i.zero=some zv->∀ (base:Option Addr) (sLen gq:Nat) (fa:List Value),(Builtin.firstCells i.size sLen (.slice base sLen gq)).run P w.drew=.ok fa.toArray w.drew->
   gq<sLen+n->(sLen+n)*i.bytes<=cx->0<i.bytes->(Builtin.append_ #[t,u] ty #[.slice base sLen gq,bw]).run P w =
   .ok (.slice (some ⟨w.heap.size,0,none⟩) (sLen+n) (grownCap w (sLen+n) gq e)) (w.drew.alloc (.cells ((fa++vs).toArray++Builtin.zeroCells zv.cells (grownCap w (sLen+n) gq e - (sLen+n))) e))) :
  ∃ v w' μ',(Builtin.append_ #[t,u] ty #[oA,bw]).run P w=.ok v w'/\db w h μ w' h' μ'/\bV R B w' h' μ'/\aO w' R h' μ' c v:=by
 unfold tZ at az;by_cases aD:n=0
 ·-- nothing is appended
  subst aD;simp only[if_true] at az;have cp:(c,h')=(s,h) :=by
   split at az<;>first | (simp only[Option.some.injEq] at az; exact az.symm) | cases az
  have hk:s=.aX\/(∃ z es,s=.b0 z es)\/∃ z b off len cap sz,s=.ar z b off len cap sz:=by
   split at az
   ·exact .inl rfl
   ·exact .inr (.inl ⟨_,_,rfl⟩)
   ·exact .inr (.inr ⟨_,_,_,_,_,_,rfl⟩)
   ·cases az
  simp only[Prod.mk.injEq] at cp;obtain⟨rfl,rfl⟩:=cp;obtain⟨base,sLen,gq,rfl,eu⟩:=ahI al hk;have ii:vs=[] :=by
   have:vs.length=0:=by rw[cj.1,bB]; simp
   exact arf.1 this
  subst ii;have:=E7 base sLen gq w (by omega) (by cases base<;>simp[storeCells]);exact⟨_,w,μ,this,.refl _ _ _,rel,by simpa using al⟩
 ·rw[if_neg aD] at az;split at az
  ·cases az
  ·rename_i iZ;simp only[not_or,Decidable.not_not] at iZ;obtain⟨pl,ka,he⟩:=iZ;obtain⟨i,zv,ax,kN,i2⟩:=V1 he;have pi:i.size=z:=by simpa [cf,ax] using av
   have k9:i.bytes=by_:=by simpa [iT,ax] using dz
   have adn:0<z:=Nat.pos_of_ne_zero pl;have Jm:∀ a,w.drew.cell? a=w.cell? a:=fun _=>rfl
   split at az
   ·-- append to nil
    split at az
    ·rename_i du;simp only[Option.some.injEq,Prod.mk.injEq] at az;obtain⟨rfl,rfl⟩:=az;cases al;have au:=BH i zv ax kN none 0 0 [] (by simp[Builtin.firstCells]) (by omega) (by rw[k9]; simpa using du) (by omega);have cM:n<=grownCap w (0+n) 0 e:=by have:=grownCap_ge w (0+n) 0 e; omega
     obtain⟨kf,nl⟩:=Bi (e:=e) (zv:=zv) (need:=n) (cap:=grownCap w (0+n) 0 e) i2 (by rw[bB]) cj cM;have aB:=rel.push (w':=w.drew.alloc (.cells (vs.toArray++Builtin.zeroCells zv.cells (grownCap w (0+n) 0 e - n)) e)) xs _ e rfl rfl rfl rfl (by rw[kf,bB]; exact aqz _ cM) nl;rw[bB] at aB;refine⟨_,_,_,by simpa using au,by simpa using aB.1,by simpa using aB.2,?_⟩;have:=aO.ar (w:=w.drew.alloc (.cells (vs.toArray++Builtin.zeroCells zv.cells (grownCap w (0+n) 0 e - n)) e)) (R:=R) (h:=h.push (.cells (n*z) xs)) (μ:=bD μ h.n (some ⟨w.heap.size,0,(vs.toArray++Builtin.zeroCells zv.cells (grownCap w (0+n) 0 e - n)).size⟩))
      z h.n 0 n n (n*z) (grownCap w (0+n) 0 e) xs ⟨w.heap.size,0,(vs.toArray++Builtin.zeroCells zv.cells (grownCap w (0+n) 0 e - n)).size⟩ (by simp[dG,e0]) (by simp) (aqv _) (by omega) (.inr ⟨by omega,cM,by simp only; rw[kf]; omega⟩)
     simpa using this
    ·cases az
   ·rename_i c5 b off len cap sz;cases af:h.f b with
    | cells m cs=>
     rw[af] at az;simp only at az;split at az
     ·rename_i Bz;obtain⟨rfl,rfl,du⟩:=Bz;cases al with
      | ga _ _ _ _ _ _ cap' a ak Q7 au=>
       exfalso;rcases au with au | ⟨gH,cs',au,aL⟩
       ·rw[au] at af; cases af
       ·rw[au] at af; cases af; omega
      | hl _ _ _ _ a cs' b3 bH hm=>
       rw[af] at bH; cases bH;have kC:=rel.q2 hm;rw[if_neg (by omega),asE,arJ,arJ,aru,arD] at az;have au:=BH i zv ax kN (some a) 0 0 [] (by simp[Builtin.firstCells,loadCells,loadCellsFrom]) (by omega) (by rw[k9]; exact du) (by omega);rw[arD] at au;have cM:n<=grownCap w n 0 e:=grownCap_ge _ _ _ _;obtain⟨kf,nl⟩:=Bi (e:=e) (zv:=zv) (need:=n) (cap:=grownCap w n 0 e) i2 (by rw[bB]) cj cM;split at az
       ·simp only[Option.some.injEq,Prod.mk.injEq] at az;obtain⟨rfl,rfl⟩:=az;have aB:=rel.push (w':=w.drew.alloc (.cells (vs.toArray++Builtin.zeroCells zv.cells (grownCap w n 0 e - n)) e)) xs _ e rfl rfl rfl rfl (by rw[kf,bB]; exact aqz _ cM) nl;rw[bB] at aB;refine⟨_,_,_,by simpa using au,by simpa using aB.1,by simpa using aB.2,?_⟩;have:=aO.ar (w:=w.drew.alloc (.cells (vs.toArray++Builtin.zeroCells zv.cells (grownCap w n 0 e - n)) e)) (R:=R) (h:=h.push (.cells (n*z) xs)) (μ:=bD μ h.n (some ⟨w.heap.size,0,(vs.toArray++Builtin.zeroCells zv.cells (grownCap w n 0 e - n)).size⟩))
         z h.n 0 n n (n*z) (grownCap w n 0 e) xs ⟨w.heap.size,0,(vs.toArray++Builtin.zeroCells zv.cells (grownCap w n 0 e - n)).size⟩ (by simp[dG,e0]) (by simp) (aqv _) (by omega) (.inr ⟨by omega,cM,by simp only; rw[kf]; omega⟩)
        simpa using this
       ·rename_i BE;split at az
        ·rename_i Fk;subst Fk;simp only[Option.some.injEq,Prod.mk.injEq] at az;obtain⟨rfl,rfl⟩:=az;have o9:m<n*z:=by
          have:1*1<=n*z:=Nat.mul_le_mul (by omega) adn;omega
         have aB:=rel.move (w':=w.drew.alloc (.cells (vs.toArray++Builtin.zeroCells zv.cells (grownCap w n 0 e - n)) e)) af hm rfl rfl rfl rfl bB o9 (by rw[kf]; exact aqz _ cM) nl;refine⟨_,_,_,by simpa using au,by simpa using aB.1,by simpa using aB.2,?_⟩;have:=aO.ar (w:=w.drew.alloc (.cells (vs.toArray++Builtin.zeroCells zv.cells (grownCap w n 0 e - n)) e)) (R:=R) (h:=h.set b (.cells (n*z) xs)) (μ:=bD μ b (some ⟨w.heap.size,0,(vs.toArray++Builtin.zeroCells zv.cells (grownCap w n 0 e - n)).size⟩))
          z b 0 n n (n*z) (grownCap w n 0 e) xs ⟨w.heap.size,0,(vs.toArray++Builtin.zeroCells zv.cells (grownCap w n 0 e - n)).size⟩ (by simp[dp,ew]) (by simp) (aqv _) (by omega) (.inr ⟨by omega,cM,by simp only; rw[kf]; omega⟩)
         simpa using this
        ·simp only[Option.some.injEq,Prod.mk.injEq] at az;obtain⟨rfl,rfl⟩:=az;have aB:=rel.push (w':=w.drew.alloc (.cells (vs.toArray++Builtin.zeroCells zv.cells (grownCap w n 0 e - n)) e)) xs _ e rfl rfl rfl rfl (by rw[kf,bB]; exact aqz _ cM) nl;rw[bB] at aB;have hk:=aB.2.kill (b:=b) (sz:=m) (cs:=cs) (h':=(h.set b .dead).push (.cells (n*z) xs)) (by rw[dG,b2 _ _ _ _ (by omega)]; exact af) (by rw[e0]; omega) (by
          rw[dG,dG,dp,ew];funext x;simp only[bD];by_cases h1:x=h.n
          ·rw[if_pos h1,if_neg (by omega),if_pos h1]
          ·rw[if_neg h1];split<;>rfl) rfl
         refine⟨_,_,_,by simpa using au,by simpa using aB.1.trans hk.1,by simpa using hk.2,?_⟩;have:=aO.ar (w:=w.drew.alloc (.cells (vs.toArray++Builtin.zeroCells zv.cells (grownCap w n 0 e - n)) e)) (R:=R) (h:=(h.set b .dead).push (.cells (n*z) xs)) (μ:=bD μ h.n (some ⟨w.heap.size,0,(vs.toArray++Builtin.zeroCells zv.cells (grownCap w n 0 e - n)).size⟩))
          z h.n 0 n n (n*z) (grownCap w n 0 e) xs ⟨w.heap.size,0,(vs.toArray++Builtin.zeroCells zv.cells (grownCap w n 0 e - n)).size⟩ (by rw[dG,ew,jj]) (by simp) (aqv _) (by omega) (.inr ⟨by omega,cM,by simp only; rw[kf]; omega⟩)
         simpa using this
      | ar _ _ _ _ _ _ cap' cs' b3 bH hm ak aq cF=>
       have eG:=rel.blk b b3 hm;rw[af] at eG;obtain⟨Q9,dt,_⟩:=eG;rw[af] at bH; cases bH;have sZ:len*z<=cap*z:=aqz _ ak;have Q5:cap<=cap':=by rcases cF with cF | cF<;>omega
       split at az
       ·-- in place,within what the machine knows
        rename_i dW;simp only[Option.some.injEq,Prod.mk.injEq] at az;obtain⟨rfl,rfl⟩:=az;have RT:len*z+n*z<=cap*z:=by rw[<-arh]; exact aqz _ dW
        have lQ:max m (off+len*z+xs.length)=m:=by omega
        obtain⟨w',h1,ad,aj⟩:=x4 (P:=P) rel (cvs:=xs) (vs:=vs) (k:=off+len*z) af hm (by omega) cj.1 (by omega) cj.2;rw[lQ] at ad aj;have b4:(storeCells ((⟨b3.r,b3.s+off,none⟩:Addr).add (len*z)) vs).run P w=.ok () w':=by rw[Addr.lK,ar0]; exact h1
        refine⟨_,w',μ,E7 (some ⟨b3.r,b3.s+off,none⟩) _ _ _ (by omega) b4,ad,aj,?_⟩;exact .ar z b off (len+n) cap m cap' _ b3 (by simp[dp,ew]; rfl) hm dW aq cF
       ·rename_i amK;split at az
        ·-- beyond a slice whose end lies within the row: it moves
         rename_i amq;simp only[Option.some.injEq,Prod.mk.injEq] at az;obtain⟨rfl,rfl⟩:=az;have e8:cap'=cap:=by rcases cF with cF | cF<;>omega
         subst e8;have c7:contents h z (.ar z b off len cap' m)=some ((cs.drop off).take (len*z),len) :=by simp[contents,af]
         obtain⟨ds,_,fa,hA,BU⟩:=ur (P:=P) rel c7 (aO.ar z b off len cap' m cap' cs b3 af hm ak aq cF);have w4:∀ w2:World,(∀ a,w2.cell? a=w.cell? a)->(Builtin.firstCells z len (.slice (some ⟨b3.r,b3.s+off,none⟩) len cap')).run P w2=.ok fa.toArray w2:=fun w2 mP=>by
          have:=BU len (aqv _) w2 mP
          rwa [aqs (by rw[hA.1,ds]; exact aqv _)] at this
         have au:=BH i zv ax kN (some ⟨b3.r,b3.s+off,none⟩) len cap' fa (by rw[pi]; exact w4 w.drew Jm) (by omega) (by rw[k9]; exact du) (by omega);have cM:len+n<=grownCap w (len+n) cap' e:=grownCap_ge _ _ _ _;have Bv:sj w R h μ ((cs.drop off).take (len*z)++xs) (fa++vs) :=by
          refine⟨by simp[hA.1,cj.1],fun j c ai=>?_⟩;by_cases aL:j<((cs.drop off).take (len*z)).length
          ·rw[aqt aL] at ai;rw[aqt (by rw[hA.1]; exact aL)];exact hA.2 j c ai
          ·rw[aqB (by omega)] at ai;rw[aqB (by rw[hA.1]; omega),hA.1];exact cj.2 _ c ai
         have fV:((cs.drop off).take (len*z)++xs).length=(len+n)*z:=by rw[aqA,ds,bB,arh]
         obtain⟨kf,nl⟩:=Bi (e:=e) (zv:=zv) (need:=len+n) (cap:=grownCap w (len+n) cap' e) i2 fV Bv cM;have aB:=rel.push (w':=w.drew.alloc (.cells ((fa++vs).toArray++Builtin.zeroCells zv.cells (grownCap w (len+n) cap' e - (len+n))) e)) _ _ e rfl rfl rfl rfl (by rw[kf,fV]; exact aqz _ cM) nl;rw[fV] at aB;refine⟨_,_,_,au,aB.1,aB.2,?_⟩;have:=aO.ar (w:=w.drew.alloc (.cells ((fa++vs).toArray++Builtin.zeroCells zv.cells (grownCap w (len+n) cap' e - (len+n))) e)) (R:=R) (h:=h.push (.cells ((len+n)*z) ((cs.drop off).take (len*z)++xs))) (μ:=bD μ h.n (some ⟨w.heap.size,0,((fa++vs).toArray++Builtin.zeroCells zv.cells (grownCap w (len+n) cap' e - (len+n))).size⟩))
          z h.n 0 (len+n) (len+n) ((len+n)*z) (grownCap w (len+n) cap' e) _ ⟨w.heap.size,0,((fa++vs).toArray++Builtin.zeroCells zv.cells (grownCap w (len+n) cap' e - (len+n))).size⟩ (by simp[dG,e0]; rfl) (by simp) (aqv _) (by omega) (.inr ⟨by omega,cM,by simp only; rw[kf]; omega⟩)
         simpa using this
        ·rename_i BE;split at az
         ·-- beyond the row's end: in place,or it moves
          rename_i Fk;subst Fk;simp only[Option.some.injEq,Prod.mk.injEq] at az;obtain⟨rfl,rfl⟩:=az;obtain⟨abi,nY,Rf⟩:0+cap*z=m/\cap<=cap'/\b3.s+0+cap'*z<=b3.T:=by rcases cF with cF | cF<;>omega
          have o9:m<(len+n)*z:=by
           have:(cap+1)*z<=(len+n)*z:=aqz _ (by omega);rw[arh] at this;omega
          have ac3:len*z+n*z=(len+n)*z:=by rw[arh]
          by_cases dW:len+n<=cap'
          ·have acf:(len+n)*z<=cap'*z:=aqz _ dW;have lQ:max m (len*z+xs.length)=(len+n)*z:=by omega
           obtain⟨w',h1,ad,aj⟩:=x4 (P:=P) rel (cvs:=xs) (vs:=vs) (k:=len*z) af hm (by omega) cj.1 (by omega) cj.2;rw[lQ] at ad aj;have xb:bn cs (len*z) xs=cs.take (len*z)++xs:=by
            unfold bn;rw[aq7 (by omega),aqW]
           rw[xb] at ad aj;have b4:(storeCells ((⟨b3.r,b3.s+0,none⟩:Addr).add (len*z)) vs).run P w=.ok () w':=by rw[Addr.lK,ar0]; simpa using h1
           refine⟨_,w',μ,E7 (some ⟨b3.r,b3.s+0,none⟩) _ _ _ dW b4,ad,aj,?_⟩;exact .ar z b 0 (len+n) (len+n) ((len+n)*z) cap' _ b3 (by simp[dp,ew]; rfl) hm (aqv _) (by omega) (.inr ⟨by omega,dW,Rf⟩)
          ·have c7:contents h z (.ar z b 0 len cap m)=some ((cs.drop 0).take (len*z),len) :=by simp[contents,af]
           obtain⟨ds,_,fa,hA,BU⟩:=ur (P:=P) rel c7 (aO.ar z b 0 len cap m cap' cs b3 af hm ak aq cF);have w4:∀ w2:World,(∀ a,w2.cell? a=w.cell? a)->(Builtin.firstCells z len (.slice (some ⟨b3.r,b3.s+0,none⟩) len cap')).run P w2=.ok fa.toArray w2:=fun w2 mP=>by
            have:=BU len (aqv _) w2 mP
            rwa [aqs (by rw[hA.1,ds]; exact aqv _)] at this
           rw[ary] at ds hA;have au:=BH i zv ax kN (some ⟨b3.r,b3.s+0,none⟩) len cap' fa (by rw[pi]; exact w4 w.drew Jm) (by omega) (by rw[k9]; exact du) (by omega);have cM:len+n<=grownCap w (len+n) cap' e:=grownCap_ge _ _ _ _;have Bv:sj w R h μ (cs.take (len*z)++xs) (fa++vs) :=by
            refine⟨by simp[hA.1,cj.1],fun j c ai=>?_⟩;by_cases aL:j<(cs.take (len*z)).length
            ·rw[aqt aL] at ai;rw[aqt (by rw[hA.1]; exact aL)];exact hA.2 j c ai
            ·rw[aqB (by omega)] at ai;rw[aqB (by rw[hA.1]; omega),hA.1];exact cj.2 _ c ai
           have fV:(cs.take (len*z)++xs).length=(len+n)*z:=by rw[aqA,ds,bB,arh]
           obtain⟨kf,nl⟩:=Bi (e:=e) (zv:=zv) (need:=len+n) (cap:=grownCap w (len+n) cap' e) i2 fV Bv cM;have aB:=rel.move (w':=w.drew.alloc (.cells ((fa++vs).toArray++Builtin.zeroCells zv.cells (grownCap w (len+n) cap' e - (len+n))) e)) af hm rfl rfl rfl rfl fV o9 (by rw[kf]; exact aqz _ cM) nl;refine⟨_,_,_,au,aB.1,aB.2,?_⟩;have:=aO.ar (w:=w.drew.alloc (.cells ((fa++vs).toArray++Builtin.zeroCells zv.cells (grownCap w (len+n) cap' e - (len+n))) e)) (R:=R) (h:=h.set b (.cells ((len+n)*z) (cs.take (len*z)++xs))) (μ:=bD μ b (some ⟨w.heap.size,0,((fa++vs).toArray++Builtin.zeroCells zv.cells (grownCap w (len+n) cap' e - (len+n))).size⟩))
            z b 0 (len+n) (len+n) ((len+n)*z) (grownCap w (len+n) cap' e) _ ⟨w.heap.size,0,((fa++vs).toArray++Builtin.zeroCells zv.cells (grownCap w (len+n) cap' e - (len+n))).size⟩ (by simp[dp,ew]; rfl) (by simp) (aqv _) (by omega) (.inr ⟨by omega,cM,by simp only; rw[kf]; omega⟩)
           simpa using this
         ·-- beyond the row's end,from a place within it: a block of its own,in place or moved
          rename_i Fk;simp only[Option.some.injEq,Prod.mk.injEq] at az;obtain⟨rfl,rfl⟩:=az;obtain⟨abi,nY,Rf⟩:off+cap*z=m/\cap<=cap'/\b3.s+off+cap'*z<=b3.T:=by rcases cF with cF | cF<;>omega
          have o9:m<off+(len+n)*z:=by
           have:(cap+1)*z<=(len+n)*z:=aqz _ (by omega);rw[arh] at this;omega
          have ac3:len*z+n*z=(len+n)*z:=by rw[arh]
          have kC:=rel.q2 hm;by_cases dW:len+n<=cap'
          ·have acf:(len+n)*z<=cap'*z:=aqz _ dW;have lQ:max m (off+len*z+xs.length)=off+(len+n)*z:=by omega
           obtain⟨w',h1,ad,aj⟩:=x4 (P:=P) rel (cvs:=xs) (vs:=vs) (k:=off+len*z) af hm (by omega) cj.1 (by omega) cj.2;rw[lQ] at ad aj;have xb:(bn cs (off+len*z) xs).drop off=(cs.drop off).take (len*z)++xs:=by
            unfold bn;rw[aq7 (as:=cs) (by omega),aqW,ark (by simp; omega),asJ];congr 2; omega
           have b4:(storeCells ((⟨b3.r,b3.s+off,none⟩:Addr).add (len*z)) vs).run P w=.ok () w':=by rw[Addr.lK,ar0]; exact h1
           have ph:=aj.UI (b:=b) (off:=off) (m:=b3) (h':=(h.set b .dead).push (.cells ((len+n)*z) ((cs.drop off).take (len*z)++xs))) (by rw[dp,jj]) hm (by omega) (by
            rw[dG,dp,dp,ew,ew,xb];have:off+(len+n)*z - off=(len+n)*z:=by omega
            rw[this];funext x;simp only[bD];split
            ·rfl
            ·split<;>rfl) rfl
           refine⟨_,w',_,E7 (some ⟨b3.r,b3.s+off,none⟩) _ _ _ dW b4,ad.trans ph.1,ph.2,?_⟩;exact .ar z h.n 0 (len+n) (len+n) ((len+n)*z) cap' _ ⟨b3.r,b3.s+off,b3.T⟩ (by rw[dG,ew,jj]) (by rw[ew]; simp) (aqv _) (by omega) (.inr ⟨by omega,dW,by simpa using (by omega:b3.s+off+cap'*z<=b3.T)⟩)
          ·have c7:contents h z (.ar z b off len cap m)=some ((cs.drop off).take (len*z),len) :=by simp[contents,af]
           obtain⟨ds,_,fa,hA,BU⟩:=ur (P:=P) rel c7 (aO.ar z b off len cap m cap' cs b3 af hm ak aq cF);have w4:∀ w2:World,(∀ a,w2.cell? a=w.cell? a)->(Builtin.firstCells z len (.slice (some ⟨b3.r,b3.s+off,none⟩) len cap')).run P w2=.ok fa.toArray w2:=fun w2 mP=>by
            have:=BU len (aqv _) w2 mP
            rwa [aqs (by rw[hA.1,ds]; exact aqv _)] at this
           have au:=BH i zv ax kN (some ⟨b3.r,b3.s+off,none⟩) len cap' fa (by rw[pi]; exact w4 w.drew Jm) (by omega) (by rw[k9]; exact du) (by omega);have cM:len+n<=grownCap w (len+n) cap' e:=grownCap_ge _ _ _ _;have Bv:sj w R h μ ((cs.drop off).take (len*z)++xs) (fa++vs) :=by
            refine⟨by simp[hA.1,cj.1],fun j c ai=>?_⟩;by_cases aL:j<((cs.drop off).take (len*z)).length
            ·rw[aqt aL] at ai;rw[aqt (by rw[hA.1]; exact aL)];exact hA.2 j c ai
            ·rw[aqB (by omega)] at ai;rw[aqB (by rw[hA.1]; omega),hA.1];exact cj.2 _ c ai
           have fV:((cs.drop off).take (len*z)++xs).length=(len+n)*z:=by rw[aqA,ds,bB,arh]
           obtain⟨kf,nl⟩:=Bi (e:=e) (zv:=zv) (need:=len+n) (cap:=grownCap w (len+n) cap' e) i2 fV Bv cM;have aB:=rel.push (w':=w.drew.alloc (.cells ((fa++vs).toArray++Builtin.zeroCells zv.cells (grownCap w (len+n) cap' e - (len+n))) e)) _ _ e rfl rfl rfl rfl (by rw[kf,fV]; exact aqz _ cM) nl;rw[fV] at aB;have hk:=aB.2.kill (b:=b) (sz:=m) (cs:=cs) (h':=(h.set b .dead).push (.cells ((len+n)*z) ((cs.drop off).take (len*z)++xs))) (by rw[dG,b2 _ _ _ _ (by omega)]; exact af) (by rw[e0]; omega) (by
            rw[dG,dG,dp,ew];funext x;simp only[bD];by_cases h1:x=h.n
            ·rw[if_pos h1,if_neg (by omega),if_pos h1]
            ·rw[if_neg h1];split<;>rfl) rfl
           refine⟨_,_,_,au,aB.1.trans hk.1,hk.2,?_⟩;have:=aO.ar (w:=w.drew.alloc (.cells ((fa++vs).toArray++Builtin.zeroCells zv.cells (grownCap w (len+n) cap' e - (len+n))) e)) (R:=R) (h:=(h.set b .dead).push (.cells ((len+n)*z) ((cs.drop off).take (len*z)++xs))) (μ:=bD μ h.n (some ⟨w.heap.size,0,((fa++vs).toArray++Builtin.zeroCells zv.cells (grownCap w (len+n) cap' e - (len+n))).size⟩))
            z h.n 0 (len+n) (len+n) ((len+n)*z) (grownCap w (len+n) cap' e) _ ⟨w.heap.size,0,((fa++vs).toArray++Builtin.zeroCells zv.cells (grownCap w (len+n) cap' e - (len+n))).size⟩ (by rw[dG,ew,jj]) (by simp) (aqv _) (by omega) (.inr ⟨by omega,cM,by simp only; rw[kf]; omega⟩)
           simpa using this
     ·cases az
    | _=>rw[af] at az; cases az
   ·cases az
theorem HA (rel:bV R B w h μ) {t u ty:TypeId} {s x c:U} {oA bw:Value} {h' : aN} (aK:zL P u) (az:qZ P h t s x=some (c,h')) (al:aO w R h μ s oA) (ag:aO w R h μ x bw) :
  ∃ v w' μ',(Builtin.append_ #[t,u] ty #[oA,bw]).run P w=.ok v w'/\db w h μ w' h' μ'/\bV R B w' h' μ'/\aO w' R h' μ' c v:=by
 unfold qZ at az;cases ap:hY P t with
 | none=>rw[ap] at az; cases az
 | some e=>
 have iG:=A5 ap;rw[ap] at az;simp only at az;cases av:cf P e with
 | none=>rw[av] at az; cases az
 | some z=>
 cases dz:iT P e with
 | none=>rw[av,dz] at az; cases az
 | some by_=>
 rw[av,dz] at az;simp only at az;cases ah:contents h z x with
 | none=>rw[ah] at az; cases az
 | some MM=>
 obtain⟨xs,n⟩:=MM;rw[ah] at az;simp only at az;obtain⟨bB,bc,vs,cj,abr⟩:=ur (P:=P) rel ah ag;have kG:∀ w2:World,(∀ a,w2.cell? a=w.cell? a)->(Builtin.firstCells z n bw).run P w2=.ok vs.toArray w2:=fun w2 mP=>by
  have:=abr n (aqv _) w2 mP
  rwa [aqs (by rw[cj.1,bB]; exact aqv _)] at this
 refine Nq rel av dz az al bB cj (fun base sLen gq w' dW b4=>run_append_fits iG av aK bc (kG w (fun _=>rfl)) dW b4) (fun i zv ax kN base sLen gq fa aq au ay af=>?_);have pi:i.size=z:=by simpa [cf,ax] using av
 exact ag8 iG ax kN aK bc (by rw[pi]; exact kG w.drew (fun _=>rfl)) aq au ay af
end

section
variable {P:Program} {w:World} {R:Nat->Prop} {B:Nat} {h:aN} {μ:cu}
theorem yn {x:U} {bw:Value} {y n Dp:Nat} {code:BoundsCode} (af:iS x y=some n) (ag:aO w R h μ x bw) (aG:y<=Dp) :
  n<=y/\(Instr.sliceBound bw Dp code).run P w=.ok n w:=by
 unfold iS at af;cases ag with
 | int k i=>
  simp only at af;split at af
  ·rename_i ax;simp only[Option.some.injEq] at af;subst af;refine⟨by omega,?_⟩;have:(0<=i/\i<=(Dp:Int)) :=⟨ax.1,by omega⟩
   simp[Instr.sliceBound,asIntOf,this]
  ·cases af
 | _=>simp at af
def v1 (w:World) (R:Nat->Prop) (h:aN) (μ:cu) :Option U->Option Value->Prop
 | none,none=>True
 | some c,some v=>aO w R h μ c v
 | _,_=>False
theorem uf {cB ax ct:Option U} {qz fP vm:Option Value} {isS:Bool} {len cap cap' l m aM:Nat} (af:gh len cap cB ax ct=some (l,aM,m)) (bc:len<=cap) (cM:cap<=cap')
  (h1:v1 w R h μ cB qz) (ad:v1 w R h μ ax fP) (aj:v1 w R h μ ct vm) :
  l<=aM/\aM<=m/\m<=cap/\(ct=none->m=cap)/\(Instr.sliceBounds isS len cap' qz fP vm).run P w=.ok (l,aM,if ct.isSome then m else cap') w:=by
 unfold gh at af;cases ct with
 | none=>
  cases vm with
  | some v=>exact aj.elim
  | none=>
   simp only at af;cases ax with
   | none=>
    cases fP with
    | some v=>exact ad.elim
    | none=>
     simp only at af;cases cB with
     | none=>
      cases qz with
      | some v=>exact h1.elim
      | none=>
       simp only[Option.some.injEq,Prod.mk.injEq] at af;obtain⟨rfl,rfl,rfl⟩:=af;exact⟨by omega,bc,aqv _,fun _=>rfl,by simp[Instr.sliceBounds]⟩
     | some c=>
      cases qz with
      | none=>exact h1.elim
      | some v=>
       simp only at af;cases ak:iS c len with
       | none=>rw[ak] at af; cases af
       | some l'=>
        rw[ak] at af;simp only[Option.some.injEq,Prod.mk.injEq] at af;obtain⟨rfl,rfl,rfl⟩:=af;have ag:=yn (P:=P) (code:=.sliceB) ak h1 (aqv _);exact⟨ag.1,bc,aqv _,fun _=>rfl,by simp[Instr.sliceBounds,ag.2]⟩
   | some HW=>
    cases fP with
    | none=>exact ad.elim
    | some ai4=>
     simp only at af;cases wQ:iS HW cap with
     | none=>rw[wQ] at af; cases af
     | some h'=>
      rw[wQ] at af;simp only at af;have ag:=yn (P:=P) (code:=if isS then .sliceAcap else .sliceAlen) wQ ad cM;cases cB with
      | none=>
       cases qz with
       | some v=>exact h1.elim
       | none=>
        simp only[Option.some.injEq,Prod.mk.injEq] at af;obtain⟨rfl,rfl,rfl⟩:=af;exact⟨by omega,ag.1,aqv _,fun _=>rfl,by simp[Instr.sliceBounds,ag.2]⟩
      | some c=>
       cases qz with
       | none=>exact h1.elim
       | some v=>
        simp only at af;cases ak:iS c h' with
        | none=>rw[ak] at af; cases af
        | some l'=>
         rw[ak] at af;simp only[Option.some.injEq,Prod.mk.injEq] at af;obtain⟨rfl,rfl,rfl⟩:=af;have aG:=yn (P:=P) (code:=.sliceB) ak h1 (aqv _);exact⟨aG.1,ag.1,aqv _,fun _=>rfl,by simp[Instr.sliceBounds,ag.2,aG.2]⟩
 | some Ye=>
  cases vm with
  | none=>exact aj.elim
  | some aqm=>
   simp only at af;cases hm:iS Ye cap with
   | none=>rw[hm] at af; cases af
   | some ca=>
    rw[hm] at af;simp only at af;have ag:=yn (P:=P) (code:=if isS then .slice3Acap else .slice3Alen) hm aj cM;cases ax with
    | none=>cases af
    | some HW=>
     cases fP with
     | none=>exact ad.elim
     | some ai4=>
      simp only at af;cases wQ:iS HW ca with
      | none=>rw[wQ] at af; cases af
      | some h'=>
       rw[wQ] at af;simp only at af;have aG:=yn (P:=P) (code:=.slice3B) wQ ad (aqv _);cases cB with
       | none=>
        cases qz with
        | some v=>exact h1.elim
        | none=>
         simp only[Option.some.injEq,Prod.mk.injEq] at af;obtain⟨rfl,rfl,rfl⟩:=af;exact⟨by omega,aG.1,ag.1,(fun aA=>by cases aA),by simp[Instr.sliceBounds,ag.2,aG.2]⟩
       | some c=>
        cases qz with
        | none=>exact h1.elim
        | some v=>
         simp only at af;cases ak:iS c h' with
         | none=>rw[ak] at af; cases af
         | some l'=>
          rw[ak] at af;simp only[Option.some.injEq,Prod.mk.injEq] at af;obtain⟨rfl,rfl,rfl⟩:=af;have av:=yn (P:=P) (code:=.slice3C) ak h1 (aqv _);exact⟨av.1,aG.1,ag.1,(fun aA=>by cases aA),by simp[Instr.sliceBounds,ag.2,aG.2,av.2]⟩
theorem AO {z:Nat}:∀ (n:Nat) (cs:List U),(mq z n cs).length=n
 | 0,_=>rfl
 | n+1,cs=>by simp[mq,AO n]
theorem HY {z:Nat}:∀ (n:Nat) (cs:List U) (i:Nat),i<n->(mq z n cs)[i]? = some ((cs.drop (i*z)).take z)
 | 0,_,_,h=>by omega
 | n+1,cs,0,_=>by simp[mq]
 | n+1,cs,i+1,h=>by
  simp only[mq,aq2];rw[HY n _ i (by omega),as2];congr 3;rw[ara]; omega
theorem U2 (rel:bV R B w h μ) {z b off cap sz l aM m ca cap' : Nat} {cs:List U} {b3:M} {hasMax:Bool} (af:h.f b=.cells sz cs) (hm:μ b=some b3) (aq:off+cap*z<=sz)
  (cF:(off+cap*z<sz/\cap'=cap)\/(off+cap*z=sz/\cap<=cap'/\b3.s+off+cap'*z<=b3.T)) (h1:l<=aM) (ad:aM<=m) (aj:m<=cap) (aC:hasMax=false->m=cap)
  (bR:ca=if hasMax then m else cap') (amF:m≠l) :
  aO w R h μ (.ar z b (off+l*z) (aM - l) (m - l) sz) (.slice (some ((⟨b3.r,b3.s+off,none⟩:Addr).add (l*z))) (aM - l) (ca - l)) :=by
 have eG:=rel.blk b b3 hm;rw[af] at eG;have dt:=eG.2.1;rw[Addr.lK,ar0];have aR:l*z+(m - l)*z=m*z:=by rw[<-arh]; congr 1; omega
 have bI:m*z<=cap*z:=aqz _ aj;refine .ar z b _ _ _ sz _ cs b3 af hm (by omega) (by omega) ?_;cases hasMax with
 | false=>
  have za:=aC rfl;have jo:ca=cap':=by simpa using bR
  rw[jo];rcases cF with ⟨a7,bl⟩ | ⟨a7,bl,a3⟩
  ·rw[<-za] at a7 bl;exact .inl ⟨by omega,by omega⟩
  ·rw[<-za] at a7 bl;refine .inr ⟨by omega,by omega,?_⟩;have dJ:l*z+(cap' - l)*z=cap'*z:=by rw[<-arh]; congr 1; omega
   omega
 | true=>
  have jo:ca=m:=by simpa using bR
  rw[jo];by_cases aL:off+l*z+(m - l)*z<sz
  ·exact .inl ⟨aL,rfl⟩
  ·exact .inr ⟨by omega,aqv _,by omega⟩
theorem extract_toList (s:ByteArray) (a b:Nat) :(s.extract a b).data.toList=(s.data.toList.drop a).take (b - a) :=by
 simp[ByteArray.extract,ByteArray.copySlice,List.take_drop]
theorem aO.ag7 (z:Nat) (p:Prop) [Decidable p] (a b:Addr) (cap:Nat) :aO w R h μ (.b0 z []) (.slice (if p then some a else some b) 0 cap) :=by
 by_cases aB:p
 ·rw[if_pos aB]; exact .fe _ _ _
 ·rw[if_neg aB]; exact .fe _ _ _
theorem aO.U1 (z b off len cap sz cap' : Nat) (p:Prop) [Decidable p] (a eD:Addr) (ak:len<=cap) (ah:cap<=cap') (au:tS h b sz) :
  aO w R h μ (.ar z b off len cap sz) (.slice (if p then some a else some eD) len cap') :=by
 by_cases aB:p
 ·rw[if_pos aB]; exact .ga _ _ _ _ _ _ _ _ ak ah au
 ·rw[if_neg aB]; exact .ga _ _ _ _ _ _ _ _ ak ah au
theorem ahL (rel:bV R B w h μ) {t:TypeId} {x c:U} {bw:Value} {cB ax ct:Option U} {qz fP vm:Option Value} (al:C9 P t x cB ax ct=some c) (ag:aO w R h μ x bw)
  (h1:v1 w R h μ cB qz) (ad:v1 w R h μ ax fP) (aj:v1 w R h μ ct vm) :
  ∃ v,(Instr.sliceAt t bw qz fP vm).run P w=.ok v w/\aO w R h μ c v:=by
 unfold C9 at al;split at al
 ·-- an array behind its address
  rename_i n e aK;cases av:cf P e with
  | none=>rw[av] at al; cases al
  | some z=>
  cases af:gh n n cB ax ct with
  | none=>rw[av,af] at al; cases al
  | some tj=>
  obtain⟨l,aM,m⟩:=tj;rw[av,af] at al;simp only at al;obtain⟨bL,bz,cO,dn,g6⟩:=uf (P:=P) (isS:=false) af (aqv _) (aqv _) h1 ad aj;have abH:(if ct.isSome=true then m else n)=m:=by
   cases ct with
   | none=>simp[dn rfl]
   | some v=>simp
  rw[abH] at g6;split at al
  ·rename_i b off sz;split at al
   ·rename_i dW;have zm:∃ a,bw=.pointer (some a) :=by cases ag<;>exact⟨_,rfl⟩
    obtain⟨a,rfl⟩:=zm;refine⟨_,by simp[Instr.sliceAt,ce aK,Instr.sureAddr,g6,fp av]; rfl,?_⟩;split at al
    ·rename_i lg;simp only[Option.some.injEq] at al; subst al;have:aM - l=0:=by omega
     rw[this];exact .fe _ _ _
    ·rename_i lg;simp only[Option.some.injEq] at al; subst al;rw[if_neg lg];cases ag with
     | ptr _ _ _ cs b3 bH hm=>
      exact U2 rel (cap:=m) (cap':=m) (hasMax:=true) bH hm dW (by
       have eG:=rel.blk b b3 hm;rw[bH] at eG;have dt:=eG.2.1;by_cases aL:off+m*z<sz
       ·exact .inl ⟨aL,rfl⟩
       ·exact .inr ⟨by omega,aqv _,by omega⟩) bL bz (aqv _) (fun aA=>by cases aA) (by simp) lg
     | l2 _ _ _ _ au=>exact .ga _ _ _ _ _ _ _ _ (by omega) (aqv _) au
   ·cases al
  ·rename_i cs off;split at al
   ·rename_i dW;simp only[Option.some.injEq] at al; subst al;cases ag with
    | b5 _ _ blk o dH ah ao=>
     refine⟨_,by simp[Instr.sliceAt,ce aK,Instr.sureAddr,g6,fp av]; rfl,?_⟩;have eL:aM*z<=n*z:=aqz _ (by omega);by_cases lg:m=l
     ·have aR:aM - l=0:=by omega
      rw[aR];exact .fe _ _ _
     ·rw[if_neg lg,Addr.lK];have ak:=AO (z:=z) (aM - l) (cs.drop (off+l*z));have iB:∀ i,i<aM - l->∀ j,j<z->off+l*z+(i*z+j)<cs.length:=by
       intro i fP j ai;have:(l+i+1)*z<=aM*z:=aqz _ (by omega);rw[arh,arh] at this;omega
      have eM:∀ i eY,(mq z (aM - l) (cs.drop (off+l*z)))[i]? = some eY->i<aM - l/\eY=((cs.drop (off+l*z)).drop (i*z)).take z:=by
       intro i eY fW;have fP:i<aM - l:=by
        have:=(aqr.1 fW).1;omega
       rw[HY _ _ _ fP] at fW;simp only[Option.some.injEq] at fW;exact⟨fP,fW.symm⟩
      have:=aO.b0 (w:=w) (R:=R) (h:=h) (μ:=μ) z (mq z (aM - l) (cs.drop (off+l*z))) blk (o+off+l*z) (m - l) (fun i j=>dH (off+l*z+(i*z+j))) (by omega)
       (fun eY fW=>by
        obtain⟨i,fP,rfl⟩:=List.getElem_of_mem fW;obtain⟨a7,bl⟩:=eM i _ (aqu fP);rw[bl,aqM,arA,arA];have:(l+i+1)*z<=aM*z:=aqz _ (by omega);rw[arh,arh] at this;omega)
       (fun i j fP ai=>by
        have:=ah (off+l*z+(i*z+j)) (iB i (by omega) j ai);have dJ:o+off+l*z+(i*z+j)=o+(off+l*z+(i*z+j)) :=by omega
        rw[dJ]; exact this)
       (fun i eY fW j c ai=>by
        obtain⟨a7,rfl⟩:=eM i _ fW;have nj:j<z:=by
         have:=(aqr.1 ai).1;rw[aqM] at this; omega
        rw[aqY nj,aq3,aq3,] at ai;exact ao _ c ai)
      rw[ak] at this;exact this
   ·cases al
  ·cases al
 ·-- a slice
  rename_i e aK;split at al
  ·rename_i z c5 b off len cap sz av;split at al
   ·rename_i tc; subst tc;cases af:gh len cap cB ax ct with
    | none=>rw[af] at al; cases al
    | some tj=>
    obtain⟨l,aM,m⟩:=tj;rw[af] at al;simp only[aqy,Option.some.injEq] at al;cases ag with
    | ar _ _ _ _ _ _ cap' cs b3 bH hm ak aq cF=>
     have Q5:cap<=cap':=by rcases cF with cF | cF<;>omega
     obtain⟨bL,bz,cO,dn,g6⟩:=uf (P:=P) (isS:=true) af ak Q5 h1 ad aj;refine⟨_,by simp[Instr.sliceAt,Instr.slice,ce aK,g6,fp av]; rfl,?_⟩;split at al
     ·rename_i lg;subst al;have:aM - l=0:=by omega
      rw[this];by_cases pl:(if ct.isSome=true then m else cap')=l
      ·rw[if_pos pl,pl,ass];exact .hl _ _ _ _ _ _ b3 bH hm
      ·rw[if_neg pl];cases ct with
       | some v=>exact absurd (by simpa using lg) pl
       | none=>
        have za:=dn rfl;simp only[asi,arM,if_false] at pl ⊢;have di:cap=l:=by omega
        have ap:off+cap*z=sz/\cap<=cap'/\b3.s+off+cap'*z<=b3.T:=by rcases cF with cF | cF<;>omega
        have sZ:l*z+(cap' - l)*z=cap'*z:=by rw[<-arh]; congr 1; omega
        subst di;rw[Addr.lK];have:=aO.ar (w:=w) (R:=R) (h:=h) (μ:=μ) z b (off+cap*z) 0 0 sz (cap' - cap) _ b3 bH hm (aqv _) (by omega) (.inr ⟨by omega,by omega,by omega⟩)
        rwa [<-ar0] at this
     ·rename_i lg;subst al;have bY:¬ ((if ct.isSome=true then m else cap')=l) :=by
       cases ct with
       | none=>have:=dn rfl; simp; omega
       | some v=>simpa using lg
      rw[if_neg bY];exact U2 rel (hasMax:=ct.isSome) bH hm aq cF bL bz cO (fun aA=>dn (by simpa using aA)) rfl lg
    | hl _ _ _ _ a cs b3 bH hm=>
     obtain⟨bL,bz,cO,dn,g6⟩:=uf (P:=P) (isS:=true) af (aqv 0) (aqv 0) h1 ad aj;refine⟨_,by simp[Instr.sliceAt,Instr.slice,ce aK,g6,fp av]; rfl,?_⟩;have lf:m=0:=by
      cases ct with
      | none=>exact dn rfl
      | some v=>simp at cO; omega
     have sW:l=0:=by omega
     have abC:aM=0:=by omega
     subst lf sW abC;simp only[if_true] at al;subst al;simp;exact .hl _ _ _ _ _ _ b3 bH hm
    | ga _ _ _ _ _ _ cap' a ak cF au=>
     obtain⟨bL,bz,cO,dn,g6⟩:=uf (P:=P) (isS:=true) af ak cF h1 ad aj;refine⟨_,by simp[Instr.sliceAt,Instr.slice,ce aK,g6,fp av]; rfl,?_⟩;split at al
     ·rename_i lg;subst al;have:aM - l=0:=by omega
      rw[this];exact aO.U1 _ _ _ _ _ _ _ _ _ _ (aqv _) (arE _) au
     ·rename_i lg;subst al;have eu:m<=(if ct.isSome=true then m else cap') :=by split<;>omega
      exact aO.U1 _ _ _ _ _ _ _ _ _ _ (by omega) (by omega) au
   ·cases al
  ·rename_i z c5 es av;split at al
   ·rename_i tc; subst tc;cases af:gh es.length es.length cB ax ct with
    | none=>rw[af] at al; cases al
    | some tj=>
    obtain⟨l,aM,m⟩:=tj;rw[af] at al;simp only[aqy,Option.some.injEq] at al;subst al;cases ag with
    | b0 _ _ blk off cap dH ak uZ ah ao=>
     obtain⟨bL,bz,cO,dn,g6⟩:=uf (P:=P) (isS:=true) af (aqv _) ak h1 ad aj;refine⟨_,by simp[Instr.sliceAt,Instr.slice,ce aK,g6,fp av]; rfl,?_⟩;have bc:((es.drop l).take (aM - l)).length=aM - l:=by rw[aqM,arA]; omega
     have eu:aM<=(if ct.isSome=true then m else cap) :=by
      cases ct with
      | none=>simp only[asi,arM,if_false]; omega
      | some v=>simpa using bz
     by_cases lg:(if ct.isSome=true then m else cap)=l
     ·have aR:aM - l=0:=by omega
      rw[if_pos lg,aR,arJ];exact .fe _ _ _
     ·rw[if_neg lg,Addr.lK];have eM:∀ i eY,((es.drop l).take (aM - l))[i]? = some eY->i<aM - l/\es[l+i]? = some eY:=by
       intro i eY fW;have fP:i<aM - l:=by
        have:=(aqr.1 fW).1;omega
       rw[aqY fP,aq3] at fW;exact⟨fP,fW⟩
      have:=aO.b0 (w:=w) (R:=R) (h:=h) (μ:=μ) z ((es.drop l).take (aM - l)) blk (off+l*z) ((if ct.isSome=true then m else cap) - l) (fun i j=>dH (l+i) j) (by omega)
       (fun eY fW=>uZ eY (asT (ard fW)))
       (fun i j fP ai=>by
        have:=ah (l+i) j (by omega) ai;have dJ:off+l*z+(i*z+j)=off+((l+i)*z+j) :=by rw[arh]; omega
        rw[dJ]; exact this)
       (fun i eY fW j c ai=>ao (l+i) eY (eM i eY fW).2 j c ai)
      rw[bc] at this;exact this
    | fe _ a cap=>
     obtain⟨bL,bz,cO,dn,g6⟩:=uf (P:=P) (isS:=true) af (aqv _) (arE cap) h1 ad aj;refine⟨_,by simp at g6; simp[Instr.sliceAt,Instr.slice,ce aK,g6,fp av]; rfl,?_⟩;have aR:aM - l=0:=by simp at cO; omega
     rw[aR,arJ];exact aO.ag7 _ _ _ _ _
   ·cases al
  ·rename_i z av;cases ag;cases af:gh 0 0 cB ax ct with
   | none=>rw[af] at al; cases al
   | some tj=>
   obtain⟨l,aM,m⟩:=tj;rw[af] at al;simp only[aqy,Option.some.injEq] at al;subst al;obtain⟨bL,bz,cO,dn,g6⟩:=uf (P:=P) (isS:=true) af (aqv _) (aqv _) h1 ad aj;obtain rfl:m=0:=by omega
   obtain rfl:aM=0:=by omega
   obtain rfl:l=0:=by omega
   refine⟨_,by simp[Instr.sliceAt,Instr.slice,ce aK,g6,fp av]; rfl,?_⟩;exact .aX
  ·cases al
 ·-- a string
  rename_i s aK;split at al
  ·cases ag with
   | str bs=>
    cases af:gh bs.data.toList.length bs.data.toList.length cB ax none with
    | none=>rw[af] at al; cases al
    | some tj=>
    obtain⟨l,aM,m⟩:=tj;rw[af] at al;simp only[aqy,Option.some.injEq] at al;subst al;cases vm with
    | some v=>exact aj.elim
    | none=>
     have gF:bs.data.toList.length=bs.size:=by simp
     rw[gF] at af;obtain⟨bL,bz,cO,dn,g6⟩:=uf (P:=P) (isS:=false) af (aqv _) (aqv _) h1 ad aj;refine⟨.string (bs.extract l aM),by simp[Instr.sliceAt,Instr.slice,ce aK,g6],?_⟩;rw[<-extract_toList];exact .str _
  ·cases al
 ·cases al
end

section
variable {P:Program} {w:World} {R:Nat->Prop} {B:Nat} {h:aN} {μ:cu}
def ky (w:World) (R:Nat->Prop) (h:aN) (μ:cu) (cs:List U) (arr:Array Value) :Prop:=
 arr.size=cs.length/\∀ (j:Nat) (c:U),cs[j]? = some c->∃ v:Value,arr[j]? = some v/\v.oneCell'=true/\aO w R h μ c v
theorem ky.aI {cs:List U} {arr:Array Value} (ay:ky w R h μ cs arr) :aO w R h μ (.aI cs) (.agg arr) :=by
 refine .aI _ _ ay.1 (fun j v ai=>?_) (fun j c v ah ai=>?_)
 ·have aL:j<cs.length:=by have:=(aqX.1 ai).1; rw[<-ay.1]; exact this
  obtain⟨u,h1,ad,_⟩:=ay.2 j _ (aqu aL);rw[ai] at h1; cases h1; exact ad
 ·obtain⟨u,h1,_,aj⟩:=ay.2 j c ah;rw[ai] at h1; cases h1; exact aj
theorem PW:∀ (l:List Value) (k off:Nat) (cells:Array Value),off+k+l.length<=cells.size->
  ((l.zipIdx k).foldl (fun cs (uj:Value × Nat)=>cs.setIfInBounds (off+uj.2) uj.1) cells).size=cells.size ∧
  ∀ j,((l.zipIdx k).foldl (fun cs (uj:Value × Nat)=>cs.setIfInBounds (off+uj.2) uj.1) cells)[j]? = if off+k<=j/\j<off+k+l.length then l[j - (off+k)]? else cells[j]?
 | [],k,off,cells,_=>⟨by simp,fun j=>by simp; omega⟩
 | v::l,k,off,cells,ak=>by
  simp only[aqH] at ak;have aJ:=PW l (k+1) off (cells.setIfInBounds (off+k) v) (by simp; omega);simp only[List.zipIdx_cons,atw];refine⟨by rw[aJ.1]; simp,fun j=>?_⟩;rw[aJ.2 j];by_cases ai:off+(k+1)<=j/\j<off+(k+1)+l.length
  ·rw[if_pos ai,if_pos (by simp only[aqH]; omega)];have:j - (off+k)=(j - (off+(k+1)))+1:=by omega
   rw[this,aq2]
  ·rw[if_neg ai,arK];by_cases ap:off+k=j
   ·subst ap;rw[if_pos rfl,if_pos (by omega),if_pos (by simp only[aqH]; omega)];simp
   ·rw[if_neg ap,if_neg (by simp only[aqH]; omega)]
theorem Eg {ks:Nat->Option (Nat × Nat)}:∀ (parts:List (Nat × U)) (jQ:List (Nat × Value)) (cs:List U) (arr:Array Value) (cs' : List U),
  g4 ks cs parts=some cs'->ky w R h μ cs arr->jQ.length=parts.length->(∀ (j:Nat) (p:Nat × U) (bT:Nat × Value),parts[j]? = some p->jQ[j]? = some bT->bT.1=p.1/\aO w R h μ p.2 bT.2)->
  ∃ arr',Instr.fill ks arr jQ=some arr'/\ky w R h μ cs' arr'
 | [],[],cs,arr,cs',aA,ay,_,_=>by
  simp only[g4,Option.some.injEq] at aA; subst aA;exact⟨arr,rfl,ay⟩
 | [],_::_,_,_,_,_,_,ak,_=>by simp at ak
 | _::_,[],_,_,_,_,_,ak,_=>by simp at ak
 | (i,c) ::parts,(lk,v) ::jQ,cs,arr,cs',aA,ay,ak,aB=>by
  obtain⟨rfl,ao⟩:=aB 0 (i,c) (lk,v) rfl rfl;simp only at ao;unfold g4 at aA;cases jp:ks lk with
  | none=>rw[jp] at aA; cases aA
  | some os=>
  obtain⟨off,size⟩:=os;cases ah:c.cells with
  | none=>rw[jp,ah] at aA; cases aA
  | some vs=>
  rw[jp,ah] at aA;simp only at aA;split at aA
  ·rename_i iZ;obtain⟨gF,lW⟩:=DW ao ah;have wV:v.cells.toList.length=vs.length:=by simpa using gF
   have p8:=PW v.cells.toList 0 off arr (by rw[ay.1,wV]; omega);have adm:v.cells.zipIdx.foldl (fun cs (x:Value × Nat)=>match x with | (c,j)=>cs.setIfInBounds (off+j) c) arr=(v.cells.toList.zipIdx 0).foldl (fun cs (uj:Value × Nat)=>cs.setIfInBounds (off+uj.2) uj.1) arr:=by
    rw[<-Array.foldl_toList];simp
   obtain⟨arr',h1,ad⟩:=Eg parts jQ (bn cs off vs) (v.cells.zipIdx.foldl (fun cs (x:Value × Nat)=>match x with | (c,j)=>cs.setIfInBounds (off+j) c) arr) cs' aA (by
     rw[adm];refine⟨by rw[p8.1,ay.1,r1 (by omega)]; omega,fun j x ai=>?_⟩;rw[p8.2 j];rw[L5 (by omega)] at ai;split at ai
     ·rename_i aL;rw[if_neg (by omega)];exact ay.2 j x ai
     ·split at ai
      ·rename_i h1 ad;rw[if_pos (by rw[wV]; omega)];obtain⟨u,a7,bl,a3⟩:=lW _ x ai;exact⟨u,by simpa using a7,bl,a3⟩
      ·rename_i h1 ad;rw[if_neg (by rw[wV]; omega)];exact ay.2 j x ai) (by simpa using ak) (fun j p bT ai e4=>aB (j+1) p bT (by simpa using ai) (by simpa using e4))
   refine⟨arr',?_,ad⟩;have s2:¬ (v.cells.size≠size\/off+v.cells.size > arr.size) :=by rw[gF,ay.1]; omega
   simp only[Instr.fill,jp];rw[if_neg (by simpa using s2)];exact h1
  ·cases aA
theorem vW {t:TypeId} {z:List U} (av:g9 P t=some z) :∃ v,(∀ w2:World,(zeroValue t).run P w2=.ok v w2)/\ky w R h μ z v.cells:=by
 obtain⟨i,v,ax,ao,al,ah⟩:=V3 (w:=w) (R:=R) (h:=h) (μ:=μ) av;exact⟨v,fun w2=>UW ax ao,al,ah⟩
theorem ahc {fs:Array Field} (al:(fs.toList.all fun f=>(cf P f.type).isSome)=true) :
  (fs.mapM fun f=>(do pure (f.offset,<-sizeOf f.type) :Sem (Nat × Nat))).run P w=.ok ((fs.toList.map fun f=>(f.offset,(cf P f.type).getD 0)).toArray) w:=by
 rw[Array.mapM_eq_mapM_toList];simp only[Sem.run_map];have:∀ l:List Field,(l.all fun f=>(cf P f.type).isSome)=true->(l.mapM fun f=>(do pure (f.offset,<-sizeOf f.type) :Sem (Nat × Nat))).run P w=.ok (l.map fun f=>(f.offset,(cf P f.type).getD 0)) w:=by
  intro l
  induction l with
  | nil=>intro _; simp
  | cons f l aJ=>
   intro ak;simp only[atD,aqw] at ak;obtain⟨n,aD⟩:=atm.1 ak.1;simp only[ar2,Sem.run_bind,fp aD,Result.andThen_ok,Sem.run_pure,aJ ak.2,aqP,aD,arb]
 rw[this _ al];rfl
theorem XC {t:TypeId} {parts:List (Nat × U)} {jQ:Array (Nat × Value)} {c:U} (af:AE P t parts=some c) (ak:jQ.size=parts.length)
  (aB:∀ (j:Nat) (p:Nat × U) (bT:Nat × Value),parts[j]? = some p->jQ[j]? = some bT->bT.1=p.1/\aO w R h μ p.2 bT.2) :
  ∃ v,(Instr.build t jQ).run P w=.ok v w/\aO w R h μ c v:=by
 unfold AE at af;split at af
 ·rename_i zero fs av aK;split at af
  ·cases af
  ·rename_i gF;simp only[asq,Bool.not_eq_false] at gF;cases aA:g4 (CO P fs) zero parts with
   | none=>rw[aA] at af; cases af
   | some cs=>
    rw[aA] at af;simp only[aqy,Option.some.injEq] at af; subst af;obtain⟨v,ao,ay⟩:=vW (w:=w) (R:=R) (h:=h) (μ:=μ) av;obtain⟨arr',h1,ad⟩:=Eg parts jQ.toList zero v.cells cs aA ay (by simpa using ak) (fun j p bT ai e4=>aB j p bT ai (by simpa using e4));have acG:(fun i=>((fs.toList.map fun f=>(f.offset,(cf P f.type).getD 0)).toArray)[i]?)=CO P fs:=by
     funext i;simp only[CO];simp only[asR,aqx,ar9];cases rn:fs[i]? with
     | none=>simp
     | some f=>
      rw[ari] at gF;have:=gF f (by have:=Array.mem_of_getElem? rn; simpa using this);obtain⟨n,aD⟩:=atm.1 this;simp[aD]
    refine⟨_,?_,ad.aI⟩;simp only[Instr.build,Sem.run_bind,ao,Result.andThen_ok,ce aK,ahc gF];rw[acG,h1];simp
 ·rename_i zero n e av aK;cases gF:cf P e with
  | none=>rw[gF] at af; cases af
  | some m=>
   rw[gF] at af;simp only at af;cases aA:g4 (fun i=>some (i*m,m)) zero parts with
   | none=>rw[aA] at af; cases af
   | some cs=>
    rw[aA] at af;simp only[aqy,Option.some.injEq] at af; subst af;obtain⟨v,ao,ay⟩:=vW (w:=w) (R:=R) (h:=h) (μ:=μ) av;obtain⟨arr',h1,ad⟩:=Eg parts jQ.toList zero v.cells cs aA ay (by simpa using ak) (fun j p bT ai e4=>aB j p bT ai (by simpa using e4));refine⟨_,?_,ad.aI⟩;simp only[Instr.build,Sem.run_bind,ao,Result.andThen_ok,ce aK,fp gF];rw[h1];simp
 ·cases af
theorem xP {zero:List U}:∀ n,(c4 zero n).length=n*zero.length
 | 0=>by simp[c4]
 | n+1=>by simp only[c4,aqA,xP n,ara]; omega
theorem UH {zero:List U}:∀ (n j:Nat) (c:U),(c4 zero n)[j]? = some c->zero[j % zero.length]? = some c
 | 0,_,_,ai=>by simp[c4] at ai
 | n+1,j,c,ai=>by
  simp only[c4] at ai;by_cases aL:j<zero.length
  ·rw[aqt aL] at ai
   rwa [aqC aL]
  ·rw[aqB (by omega)] at ai;have:=UH n _ c ai
   rwa [<-Nat.mod_eq_sub_mod (by omega)] at this
theorem Gu {zero:List U} {z:Array Value} (ay:ky w R h μ zero z) (n:Nat) :ky w R h μ (c4 zero n) ((Array.range (n*zero.length)).map (z[· % z.size]!)) :=by
 refine⟨by simp[xP],fun j c ai=>?_⟩;have aL:j<n*zero.length:=by
  have:=(aqr.1 ai).1
  rwa [xP] at this
 obtain⟨v,h1,ad,aj⟩:=ay.2 _ c (UH n j c ai);refine⟨v,?_,ad,aj⟩;rw[<-ay.1] at h1;obtain⟨af,rfl⟩:=aqX.1 h1;simp[aL,af]
theorem Zq {z:Nat}:∀ (parts:List (Nat × U)) (a b:List U),g4 (fun i=>some (i*z,z)) a parts=some b->b.length=a.length:=by
 intro parts
 induction parts with
 | nil=>intro a b h2; simp only[g4,Option.some.injEq] at h2; subst h2; rfl
 | cons p parts aJ=>
  intro a b h2;unfold g4 at h2;split at h2
  ·rename_i off size vs jp mO;split at h2
   ·rw[aJ _ _ h2,r1 (by omega)]; omega
   ·cases h2
  ·cases h2
theorem NP {t e:TypeId} {len z:Nat} {zero cs:List U} {parts:List (Nat × U)} {jQ:Array (Nat × Value)} (ap:hY P t=some e) (av:cf P e=some z) (ij:g9 P e=some zero) (he:zero.length=z) (lQ:len*z<=16777216)
  (aA:g4 (fun i=>some (i*z,z)) (c4 zero len) parts=some cs) (ak:jQ.size=parts.length)
  (aB:∀ (j:Nat) (p:Nat × U) (bT:Nat × Value),parts[j]? = some p->jQ[j]? = some bT->bT.1=p.1/\aO w R h μ p.2 bT.2) :
  cs.length=len*z/\∃ arr,(Instr.buildSlice t len jQ).run P w=.ok (.slice (some ⟨w.heap.size,0,none⟩) len len) (w.alloc (.cells arr e))/\ky w R h μ cs arr:=by
 obtain⟨v,ao,ay⟩:=vW (w:=w) (R:=R) (h:=h) (μ:=μ) ij;obtain⟨arr',h1,ad⟩:=Eg parts jQ.toList _ _ cs aA (Gu ay len) (by simpa using ak) (fun j p bT ai e4=>aB j p bT ai (by simpa using e4));refine⟨by rw[Zq _ _ _ aA,xP,he],arr',?_,ad⟩;have iG:=A5 ap;have ab8:¬ (len*z > 2 ^ 24) :=by omega
 simp only[Instr.buildSlice,Sem.run_bind,ce iG,Result.andThen_ok,fp av,if_neg ab8];rw[he] at h1;generalize eP:len*z=N at h1;by_cases aE:N=0
 ·subst aE;have hd:∀ f:Nat->Value,(Array.range 0).map f=#[] :=fun f=>by simp[Array.range]
  rw[hd] at h1;simp[hd,h1,newRow]
 ·simp[aE,ao,h1,newRow]
theorem XB (rel:bV R B w h μ) {t:TypeId} {len:Nat} {parts:List (Nat × U)} {jQ:Array (Nat × Value)} {c:U} {h' : aN} (af:DO P h t len parts=some (c,h')) (ak:jQ.size=parts.length)
  (aB:∀ (j:Nat) (p:Nat × U) (bT:Nat × Value),parts[j]? = some p->jQ[j]? = some bT->bT.1=p.1/\aO w R h μ p.2 bT.2) :
  ∃ v w' μ',(Instr.buildSlice t len jQ).run P w=.ok v w'/\db w h μ w' h' μ'/\bV R B w' h' μ'/\aO w' R h' μ' c v:=by
 unfold DO at af;cases ap:hY P t with
 | none=>rw[ap] at af; cases af
 | some e=>
 rw[ap] at af;simp only at af;cases av:cf P e with
 | none=>rw[av] at af; cases af
 | some z=>
 cases ij:g9 P e with
 | none=>rw[av,ij] at af; cases af
 | some zero=>
 rw[av,ij] at af;simp only at af;split at af
 ·rename_i iZ;obtain⟨he,lQ⟩:=iZ;cases aA:g4 (fun i=>some (i*z,z)) (c4 zero len) parts with
  | none=>rw[aA] at af; cases af
  | some cs=>
   rw[aA] at af;simp only[aqy,Option.some.injEq,Prod.mk.injEq] at af;obtain⟨rfl,rfl⟩:=af;obtain⟨di,arr',hB,ad⟩:=NP ap av ij he lQ aA ak aB;have az:=DD rel (cs:=cs) (vs:=arr') e ad.1 ad.2;rw[di] at az;obtain⟨a7,bl,a3⟩:=az;refine⟨.slice (some ⟨w.heap.size,0,none⟩) len len,_,_,hB,a7,bl,?_⟩;have:=aO.ar (w:=w.alloc (.cells arr' e)) (R:=R) (h:=h.push (.cells (len*z) cs)) (μ:=bD μ h.n (some ⟨w.heap.size,0,arr'.size⟩)) z h.n 0 len len (len*z) len cs ⟨w.heap.size,0,arr'.size⟩ (by simp[dG,e0]) (by simp) (aqv _) (by omega)
    (.inr ⟨by omega,aqv _,by simp only; rw[ad.1,di]; omega⟩)
   simpa using this
 ·cases af
theorem Tl {t e:TypeId} {z by_:Nat} {zero:List U} {kl kc:IntKind} {li g2:Int} (ap:hY P t=some e) (av:cf P e=some z) (dz:iT P e=some by_) (ij:g9 P e=some zero) (he:zero.length=z)
  (aE:0<=li) (n4:li<=g2) (EY:g2<9223372036854775808) (du:by_*g2<=cx) :
  (c4 zero g2.toNat).length=g2.toNat*z/\∃ arr,(Instr.makeSlice t (.int kl li) (.int kc g2)).run P w=.ok (.slice (some ⟨w.heap.size,0,none⟩) li.toNat g2.toNat) (w.alloc (.cells arr e))/\ky w R h μ (c4 zero g2.toNat) arr:=by
 obtain⟨v,ao,ay⟩:=vW (w:=w) (R:=R) (h:=h) (μ:=μ) ij;have cj:=Gu ay g2.toNat
 refine⟨by rw[xP,he],_,?_,cj⟩;obtain⟨i,ax,Q3⟩:∃ i,P.info? e=some i/\i.bytes=by_:=by
  unfold iT at dz;cases ax:P.info? e with
  | none=>rw[ax] at dz; cases dz
  | some i=>rw[ax] at dz; exact⟨i,rfl,by simpa using dz⟩
 have uX:IntKind.i64.wrap li=li:=IntWalk.i64_in _ (by omega);have zq:IntKind.i64.wrap g2=g2:=IntWalk.i64_in _ (by omega);have iG:=A5 ap;unfold cx at du;have t1:¬ (g2<0\/(281474976710656:Int)<(by_:Int)*g2) :=by omega
 have t2:¬ (li<0) :=by omega
 have t3:¬ (g2<li) :=by omega
 rw[he];generalize eP:g2.toNat*z=N;by_cases pl:N=0
 ·subst pl;have hd:∀ f:Nat->Value,(Array.range 0).map f=#[] :=fun f=>by simp[Array.range]
  simp[hd,Instr.makeSlice,ce iG,Go.asInt,asIntOf,typeInfo,ax,Q3,uX,zq,t1,t2,t3,fp av,eP,newRow]
 ·simp[Instr.makeSlice,ce iG,Go.asInt,asIntOf,typeInfo,ax,Q3,uX,zq,t1,t2,t3,fp av,eP,pl,ao,newRow]
theorem aeT (rel:bV R B w h μ) {t:TypeId} {l c r:U} {FU sB:Value} {h' : aN} (hm:FV P h t l c=some (r,h')) (ak:aO w R h μ l FU) (ah:aO w R h μ c sB) :
  ∃ v w' μ',(Instr.makeSlice t FU sB).run P w=.ok v w'/\db w h μ w' h' μ'/\bV R B w' h' μ'/\aO w' R h' μ' r v:=by
 unfold FV at hm;split at hm
 ·rename_i e li g2 ap hz er;obtain⟨kl,rfl⟩:=q0 hz ak;obtain⟨kc,rfl⟩:=q0 er ah;cases av:cf P e with
  | none=>rw[av] at hm; cases hm
  | some z=>
  cases dz:iT P e with
  | none=>rw[av,dz] at hm; cases hm
  | some by_=>
  cases ij:g9 P e with
  | none=>rw[av,dz,ij] at hm; cases hm
  | some zero=>
  rw[av,dz,ij] at hm;simp only at hm;split at hm
  ·rename_i iZ;obtain⟨he,aE,n4,EY,du⟩:=iZ;simp only[Option.some.injEq,Prod.mk.injEq] at hm;obtain⟨rfl,rfl⟩:=hm;obtain⟨bc,arr,hB,cj⟩:=Tl (w:=w) (R:=R) (h:=h) (μ:=μ) (kl:=kl) (kc:=kc) ap av dz ij he aE n4 EY du;have az:=DD rel (cs:=c4 zero g2.toNat) e cj.1 cj.2;rw[bc] at az;obtain⟨a7,bl,a3⟩:=az;refine⟨.slice (some ⟨w.heap.size,0,none⟩) li.toNat g2.toNat,_,_,hB,a7,bl,?_⟩;have:=aO.ar (w:=w.alloc (.cells arr e)) (R:=R) (h:=h.push (.cells (g2.toNat*z) (c4 zero g2.toNat))) (μ:=bD μ h.n (some ⟨w.heap.size,0,arr.size⟩))
    z h.n 0 li.toNat g2.toNat (g2.toNat*z) g2.toNat (c4 zero g2.toNat) ⟨w.heap.size,0,arr.size⟩ (by simp[dG,e0]) (by simp) (by omega) (by omega)
    (.inr ⟨by omega,aqv _,by simp only; rw[cj.1,bc]; omega⟩)
   simpa using this
  ·cases hm
 ·cases hm
theorem aeu {t u:TypeId} {ty:TypeId} {x c:U} {bw:Value} (ah:xl P t x=some c) (ag:aO w R h μ x bw) :∃ v,(Builtin.len_ #[t] ty #[bw]).run P w=.ok v w/\aO w R h μ c v:=by
 unfold xl at ah;split at ah<;>(try (simp only[Option.some.injEq] at ah; subst ah))
 ·rename_i s aK;cases ag;rename_i bs;exact⟨goInt bs.size,by simp[Builtin.len_,ce aK],by rw[show (bs.data.toList.length:Int)=bs.size from by simp]; exact .int _ _⟩
 ·rename_i n e aK;exact⟨goInt n,by simp[Builtin.len_,ce aK],.int _ _⟩
 ·rename_i e aK;cases ag;exact⟨goInt (0:Nat),by simp[Builtin.len_,ce aK],.int _ _⟩
 ·rename_i e z b off len cap sz aK;cases ag
  ·exact⟨goInt len,by simp[Builtin.len_,ce aK],.int _ _⟩
  ·exact⟨goInt len,by simp[Builtin.len_,ce aK],.int _ _⟩
  ·exact⟨goInt (0:Nat),by simp[Builtin.len_,ce aK],.int _ _⟩
 ·rename_i e z es aK;cases ag
  ·exact⟨goInt es.length,by simp[Builtin.len_,ce aK],.int _ _⟩
  ·exact⟨goInt (0:Nat),by simp[Builtin.len_,ce aK],.int _ _⟩
 ·rename_i k e aK;cases ag;exact⟨goInt 0,by simp[Builtin.len_,ce aK],.int _ _⟩
 ·cases ah
end

section
variable {P:Program} {w:World} {R:Nat->Prop} {B:Nat} {h:aN} {μ:cu}
theorem vt {t:TypeId} {cs:List U} {vs:Array Value} {off:Nat} {c:U} (aB:hj P t cs off=some c) (ay:ky w R h μ cs vs) :
  ∃ v,(∀ w2:World,(part t vs off).run P w2=.ok v w2)/\aO w R h μ c v:=by
 unfold hj at aB;cases nW:dE P t with
 | none=>rw[nW] at aB; cases aB
 | some b=>
  rw[nW] at aB;cases b with
  | false=>
   simp only at aB;obtain⟨v,h1,_,aj⟩:=ay.2 off c aB;exact⟨v,fun w2=>by simp[part,Gx nW,h1],aj⟩
  | true=>
   cases aD:cf P t with
   | none=>rw[aD] at aB; cases aB
   | some n=>
    rw[aD] at aB;simp only at aB;split at aB
    ·rename_i eu;simp only[Option.some.injEq] at aB;subst aB;refine⟨.agg (vs.extract off (off+n)),fun w2=>by simp[part,Gx nW,fp aD],ky.aI ⟨by simp; rw[ay.1]; omega,fun j c ai=>?_⟩⟩;have jF:j<n:=by
      have:=(aqr.1 ai).1;rw[aqM] at this; omega
     rw[aqY jF,aq3] at ai;obtain⟨v,h1,ad,aj⟩:=ay.2 _ c ai;refine⟨v,?_,ad,aj⟩;rw[Array.getElem?_extract,if_pos (by rw[ay.1]; omega)];exact h1
    ·cases aB
theorem tX {cs:List U} {bw:Value} (ag:aO w R h μ (.aI cs) bw) :∃ vs,bw=.agg vs/\ky w R h μ cs vs:=by
 cases ag with
 | aI _ vs ak h1 ao=>
  refine⟨vs,rfl,ak,fun j c ai=>?_⟩;have aL:j<vs.size:=by rw[ak]; exact (aqr.1 ai).1
  exact⟨vs[j],by simp[aL],h1 j _ (by simp[aL]),ao j c _ ai (by simp[aL])⟩
theorem Zm {t:TypeId} {cs:List U} {f:Nat} {fd:Field} {c:U} {bw:Value} (aA:ws P t f=some fd) (aB:hj P fd.type cs fd.offset=some c) (ag:aO w R h μ (.aI cs) bw) :
  ∃ v,(Instr.field t bw f).run P w=.ok v w/\aO w R h μ c v:=by
 obtain⟨fs,aK,p8⟩:=PF aA;obtain⟨vs,rfl,ay⟩:=tX ag;obtain⟨v,h1,ad⟩:=vt (P:=P) aB ay;exact⟨v,by simp[Instr.field,ce aK,p8,asAgg,h1],ad⟩
theorem Kp {t:TypeId} {x fR c:U} {bw Cl:Value} (ah:zy P t x fR=some c) (ag:aO w R h μ x bw) (ax:aO w R h μ fR Cl) :
  ∃ v,(Instr.index t bw Cl).run P w=.ok v w/\aO w R h μ c v:=by
 unfold zy at ah;split at ah
 ·rename_i n e cs i aK fm;obtain⟨k,rfl⟩:=q0 fm ax;cases av:cf P e with
  | none=>rw[av] at ah; cases ah
  | some z=>
   rw[av] at ah;simp only at ah;split at ah
   ·rename_i af;obtain⟨vs,rfl,ay⟩:=tX ag;obtain⟨v,h1,ad⟩:=vt (P:=P) ah ay;exact⟨v,by simp[Instr.index,asIntOf,ce aK,af,fp av,h1],ad⟩
   ·cases ah
 ·rename_i s i aK fm;obtain⟨k,rfl⟩:=q0 fm ax;split at ah
  ·rename_i af;cases ag with
   | str bs=>
    cases ET:bs.data.toList[i.toNat]? with
    | none=>rw[ET] at ah; cases ah
    | some b=>
     rw[ET] at ah;simp only[aqy,Option.some.injEq] at ah;subst ah;have aL:i.toNat<bs.size:=by have:=(aqr.1 ET).1; simpa using this
     have eM:bs[i.toNat]? = some b:=by
      have fI:=(aqr.1 ET).2;rw[getElem?_pos bs i.toNat aL];simp only[Option.some.injEq];rw[<-fI];rfl
     exact⟨.int .u8 b.toNat,by simp[Instr.index,asIntOf,ce aK,af,eM],.int _ _⟩
  ·cases ah
 ·cases ah
theorem Ys (rel:bV R B w h μ) {t u ty:TypeId} {d x c:U} {Ib bw:Value} {h' : aN} (ah:yz P h t d x=some (c,h')) (br:aO w R h μ d Ib) (ag:aO w R h μ x bw) :
  ∃ v w',(Builtin.copy_ #[t,u] ty #[Ib,bw]).run P w=.ok v w'/\db w h μ w' h' μ/\bV R B w' h' μ/\aO w' R h' μ c v:=by
 unfold yz at ah;cases ap:hY P t with
 | none=>rw[ap] at ah; cases ah
 | some e=>
 rw[ap] at ah;simp only at ah;cases av:cf P e with
 | none=>rw[av] at ah; cases ah
 | some z=>
 rw[av] at ah;simp only at ah;cases c7:contents h z x with
 | none=>rw[c7] at ah; cases ah
 | some MM=>
 obtain⟨xs,n⟩:=MM;rw[c7] at ah;simp only at ah;have iG:=A5 ap;obtain⟨bB,bc,vs,cj,kG⟩:=ur (P:=P) rel c7 ag;split at ah
 ·simp only[Option.some.injEq,Prod.mk.injEq] at ah;obtain⟨rfl,rfl⟩:=ah;cases br;have aE:=kG 0 (arE _) w (fun _=>rfl);refine⟨goInt (0:Nat),w,?_,.refl _ _ _,rel,.int _ _⟩;simp[Builtin.copy_,ce iG,bc,fp av,aE]
 ·rename_i c5 b off len cap sz;cases af:h.f b with
  | cells m cs=>
   rw[af] at ah;simp only at ah;split at ah
   ·rename_i Bz;obtain⟨rfl,rfl⟩:=Bz;simp only[Option.some.injEq,Prod.mk.injEq] at ah;obtain⟨rfl,rfl⟩:=ah;cases br with
    | hl _ _ _ _ a cs' b3 bH hm=>
     have aE:=kG 0 (arE _) w (fun _=>rfl);have ig:bn cs off []=cs:=by simp[bn]
     have qm:=rel.same (h':=h.set b (.cells m (bn cs off (xs.take (min n 0*z))))) (by
      rw[dp,Nat.min_zero,asE,arJ,ig];funext x;simp only[bD];split
      ·rename_i ag; rw[ag,af]
      ·rfl) rfl
     refine⟨goInt (0:Nat),w,?_,qm.1,qm.2,by rw[Nat.min_zero]; exact .int _ _⟩;simp[Builtin.copy_,ce iG,bc,fp av,aE,storeCells,Result.andThen]
    | ga _ _ _ _ _ _ cap' a ak cF au=>
     exfalso;rcases au with au | ⟨gH,cs',au,aL⟩
     ·rw[au] at af; cases af
     ·rw[au] at af; cases af; omega
    | ar _ _ _ _ _ _ cap' cs' b3 bH hm ak aq cF=>
     have eG:=rel.blk b b3 hm;rw[af] at eG;obtain⟨Q9,dt,_⟩:=eG;have sZ:min n len*z<=cap*z:=aqz _ (by omega);have RT:min n len*z<=n*z:=aqz _ (by omega);have jG:(xs.take (min n len*z)).length=min n len*z:=by rw[aqM]; omega
     have lQ:max m (off+(xs.take (min n len*z)).length)=m:=by rw[jG]; omega
     obtain⟨w',h1,ad,aj⟩:=x4 (P:=P) rel (cvs:=xs.take (min n len*z)) (vs:=vs.take (min n len*z)) (k:=off) af hm (by omega)
      (by rw[aqM,aqM,cj.1]) (by rw[lQ]; omega) (fun j c ai=>by
       have aL:j<min n len*z:=by have:=(aqr.1 ai).1; rwa [jG] at this
       rw[aqY aL] at ai ⊢;exact cj.2 j c ai)
     rw[lQ] at ad aj;have aA:=kG (min n len) (by omega) w (fun _=>rfl);refine⟨goInt (min n len:Nat),w',?_,ad,aj,.int _ _⟩;have BR:Nat.min n len=min n len:=rfl;simp[Builtin.copy_,ce iG,bc,fp av,BR,aA,h1]
   ·cases ah
  | _=>rw[af] at ah; cases ah
 ·cases ah
theorem HQ:∀ (cs:List U) (vs:List Value) (bs:List UInt8),kY cs=some bs->vs.length=cs.length->
  (∀ (j:Nat) (c:U),cs[j]? = some c->∃ v:Value,vs[j]? = some v/\v.oneCell'=true/\aO w R h μ c v)->
  ∃ ns:List Int,vs=ns.map (Value.int .u8)/\bs=ns.map fun n=>UInt8.ofNat n.toNat
 | [],[],bs,af,_,_=>by
  simp only[kY,Option.some.injEq] at af; subst af;exact⟨[],rfl,rfl⟩
 | [],_::_,_,_,ak,_=>by simp at ak
 | _::_,[],_,_,ak,_=>by simp at ak
 | c::cs,v::vs,bs,af,ak,ao=>by
  obtain⟨v0,ii,_,s9⟩:=ao 0 c rfl;simp only[aqQ,Option.some.injEq] at ii;subst ii;cases s9 with
  | int k n=>
   cases k<;>simp only[kY] at af<;>try (cases af; done)
   cases sS:kY cs with
   | none=>rw[sS] at af; cases af
   | some Xu=>
    rw[sS] at af;simp only[aqy,Option.some.injEq] at af;subst af;obtain⟨ns,h1,ad⟩:=HQ cs vs Xu sS (by simpa using ak) (fun j c ai=>ao (j+1) c (by simpa using ai));exact⟨n::ns,by rw[h1]; rfl,by rw[ad]; rfl⟩
  | _=>simp[kY] at af
theorem PV:∀ (ns:List Int) (s:ByteArray),(ns.foldl (fun r n=>r.push (UInt8.ofNat n.toNat)) s).data.toList=s.data.toList++ns.map fun n=>UInt8.ofNat n.toNat
 | [],s=>by simp
 | n::ns,s=>by
  rw[atw,PV ns];simp[ByteArray.push]
theorem Yq (rel:bV R B w h μ) {s d:TypeId} {x c:U} {bw:Value} (ah:wj P h s d x=some c) (ag:aO w R h μ x bw) :
  ∃ v,(convert s d bw).run P w=.ok v w/\aO w R h μ c v:=by
 unfold wj at ah;split at ah
 ·rename_i hs k k' n al br;simp only[Option.some.injEq] at ah; subst ah;cases ag;exact⟨.int k (k.wrap n),by simp[convert,ce al,ce br,Conv.intToInt],.int _ _⟩
 ·rename_i fM al br;simp only[Option.some.injEq] at ah; subst ah;cases ag with
  | str bs=>exact⟨.string bs,by simp[convert,ce al,ce br],.str _⟩
 ·rename_i e al br RV;cases FB:P.underlying e with
  | none=>rw[FB] at ah; cases ah
  | some alx=>
   rw[FB] at ah;split at ah
   ·rename_i heq;simp only[Option.some.injEq] at heq ah; subst heq ah;cases ag;refine⟨.string ByteArray.empty,by simp[convert,ce al,ce br,ce FB,Conv.bytesToString],?_⟩;exact .str ByteArray.empty
   ·rename_i heq w3;simp only[Option.some.injEq] at heq; subst heq;split at ah
    ·cases ah
    ·rename_i cs n aco c7;cases sS:kY cs with
     | none=>rw[sS] at ah; cases ah
     | some bs=>
      rw[sS] at ah;simp only[aqy,Option.some.injEq] at ah; subst ah;obtain⟨bB,bc,vs,cj,kG⟩:=ur (P:=P) rel c7 ag;have aA:=kG n (aqv _) w (fun _=>rfl);obtain⟨ns,rfl,rfl⟩:=HQ cs vs bs sS cj.1 cj.2;have B7:(ns.map (Value.int .u8)).take (n*1)=ns.map (Value.int .u8) :=aqs (by rw[cj.1,bB]; exact aqv _);rw[B7] at aA;have Jo:∃ a len cap,bw=.slice a len cap:=by
       cases ag<;>first | exact⟨_,_,_,rfl⟩ | (simp[contents] at c7; done) | (exact absurd rfl (aco _))
      obtain⟨a,len,cap,rfl⟩:=Jo;simp only[Builtin.lenOf,Sem.run_pure,Result.ok.injEq] at bc;obtain⟨rfl,_⟩:=bc;have aa9:=PV ns ByteArray.empty;refine⟨.string (ns.foldl (fun r n=>r.push (UInt8.ofNat n.toNat)) ByteArray.empty),?_,?_⟩
      ·rw[run_convert_bytes_string w s d e a len cap al FB br];cases a with
       | none=>
        simp only[Builtin.firstCells,Sem.run_pure,Result.ok.injEq] at aA;have lW:ns=[] :=by
         have:=congrArg Array.toList aA.1;simpa using this.symm
        subst lW;simp[Conv.bytesToString]
       | some a=>
        simp only[Builtin.firstCells,arS] at aA;exact run_bytesToString w a len cap ns aA
      ·have:(ns.foldl (fun r n=>r.push (UInt8.ofNat n.toNat)) ByteArray.empty).data.toList=ns.map fun n=>UInt8.ofNat n.toNat:=by rw[aa9]; rfl
       rw[<-this];exact .str _
    ·cases ah
   ·cases ah
 ·cases ah
theorem Ly (rel:bV R B w h μ) {w' : World} (af:RowKit.Below w.heap.size w w') (p7:w.drawn<=w'.drawn:=by first | exact aqv _ | exact Nat.le_succ _) :db w h μ w' h μ/\bV R B w' h μ:=by
 have e:db w h μ w' h μ:=⟨⟨af.os,af.tape,af.output,af.size,fun k hk _=>af.block k hk,fun _ aq=>.inl aq,fun b sz cs m h1 ad=>.inl ⟨cs,h1,ad⟩,fun _ _ au=>au,fun _ _ _ h1 ad=>⟨h1,ad⟩,aqv _,p7⟩,fun _ _ hm=>hm⟩
 refine⟨e,fun b m hm=>?_,rel.inj,rel.base,rel.fresh,rel.up,ar8 rel.size af.size,rel.kp⟩;cases ak:live (h.f b) with
 | false=>cases ah:h.f b<;>first | trivial | (rw[ah] at ak; cases ak)
 | true=>exact (rel.blk b m hm).ext e.toExt0 (af.block _ (rel.lt ak hm))
theorem XG (rel:bV R B w h μ) {s d:TypeId} {x c:U} {bw:Value} (ah:yp P s d x=some c) (ag:aO w R h μ x bw) :
  ∃ v w',(convert s d bw).run P w=.ok v w'/\db w h μ w' h μ/\bV R B w' h μ/\aO w' R h μ c v:=by
 unfold yp at ah;split at ah
 ·rename_i hs e fM al br;split at ah
  ·rename_i aK;simp only[Option.some.injEq] at ah; subst ah;cases ag with
   | str bs=>
    have Jf:RowKit.Below w.heap.size w (Lib.bytesWorld w e bs) :=⟨rfl,rfl,rfl,by rw[Lib.bytesWorld_size]; omega,fun k hk=>Lib.bytesWorld_at_old w e bs k hk⟩
    obtain⟨h1,ad⟩:=Ly rel Jf;refine⟨_,_,Lib.run_convert_string_bytes w s d e bs al br aK,h1,ad,?_⟩;have gF:bs.data.toList.length=bs.size:=by simp
    have iE:¬ kS h μ w.heap.size:=by
     rintro⟨b,m,ak,hm,ap⟩;have:=rel.lt ak hm;omega
    have cM:bs.size<=grownCap w bs.size 0 e:=grownCap_ge w bs.size 0 e;have:=aO.b0 (w:=Lib.bytesWorld w e bs) (R:=R) (h:=h) (μ:=μ) 1 (bs.data.toList.map fun b=>[iw b]) w.heap.size 0 (grownCap w bs.size 0 e) (fun i _=>.int .u8 (bs.data.toList.getD i 0).toNat)
     (by simpa using cM) (fun e ap=>by obtain⟨b,_,rfl⟩:=aqR.1 ap; rfl)
     (fun i j ax ai=>by
      have fP:i<bs.size:=by simpa using ax
      have:j=0:=by omega
      subst this;exact⟨by simpa using Lib.bytesWorld_cell w e bs i fP,rfl,rel.up _ rel.size,iE⟩)
     (fun i e ap j c ai=>by
      rw[aqx] at ap;cases af:bs.data.toList[i]? with
      | none=>rw[af] at ap; cases ap
      | some b=>
       rw[af] at ap;simp only[aqy,Option.some.injEq] at ap; subst ap;cases j with
       | zero=>
        simp only[aqQ,Option.some.injEq] at ai; subst ai;have:bs.data.toList.getD i 0=b:=by simp[List.getD,af]
        rw[this];exact .int _ _
       | succ j=>simp at ai)
    rw[aqS,gF] at this;exact this
  ·cases ah
 ·cases ah
theorem XQ {t ty:TypeId} {x c:U} {bw:Value} (ah:ys P t x=some c) (ag:aO w R h μ x bw) :∃ v,(Builtin.cap_ #[t] ty #[bw]).run P w=.ok v w/\aO w R h μ c v:=by
 unfold ys at ah;split at ah<;>(try (simp only[Option.some.injEq] at ah; subst ah))
 ·rename_i n e aK;exact⟨goInt n,by simp[Builtin.cap_,ce aK],.int _ _⟩
 ·rename_i e aK;cases ag;exact⟨goInt (0:Nat),by simp[Builtin.cap_,ce aK],.int _ _⟩
 ·cases ah
theorem X9 (rel:bV R B w h μ) {t ty:TypeId} {x:U} {bw:Value} {h' : aN} (ah:yv P h t x=some h') (ag:aO w R h μ x bw) :
  ∃ w',(Builtin.clear_ #[t] ty #[bw]).run P w=.ok (.tuple #[]) w'/\db w h μ w' h' μ/\bV R B w' h' μ:=by
 unfold yv at ah;split at ah
 ·rename_i e aK;simp only[Option.some.injEq] at ah; subst ah;cases ag;exact⟨w,by simp[Builtin.clear_,ce aK],.refl _ _ _,rel⟩
 ·rename_i e z aK;simp only[Option.some.injEq] at ah; subst ah;cases ag<;>exact⟨w,by simp[Builtin.clear_,ce aK],.refl _ _ _,rel⟩
 ·rename_i e z b off len cap sz aK;split at ah
  ·rename_i sW;simp only[Option.some.injEq] at ah; subst ah;subst sW;cases ag<;>exact⟨w,by simp[Builtin.clear_,ce aK],.refl _ _ _,rel⟩
  ·rename_i sW;split at ah
   ·rename_i zero m cs av af;split at ah
    ·rename_i Bz;obtain⟨rfl,rfl⟩:=Bz;simp only[Option.some.injEq] at ah; subst ah;cases ag with
     | hl=>exact absurd rfl sW
     | ga _ _ _ _ _ _ cap' a ak cF au=>
      exfalso;rcases au with au | ⟨gH,cs',au,aL⟩
      ·rw[au] at af; cases af
      ·rw[au] at af; cases af; omega
     | ar _ _ _ _ _ _ cap' cs' b3 bH hm ak aq cF=>
      have eG:=rel.blk b b3 hm;rw[af] at eG;obtain⟨Q9,dt,_⟩:=eG;obtain⟨v,ao,ay⟩:=vW (P:=P) (w:=w) (R:=R) (h:=h) (μ:=μ) av;have JY:=Gu ay len;have sZ:len*zero.length<=cap*zero.length:=aqz _ ak;have pg:(c4 zero len).length=len*zero.length:=xP len;have lQ:max m (off+(c4 zero len).length)=m:=by rw[pg]; omega
      have he:v.cells.size=zero.length:=ay.1;have xf:(Builtin.zeroCells v.cells len)=(Array.range (len*zero.length)).map (v.cells[· % v.cells.size]!) :=by
       unfold Builtin.zeroCells;rw[he]
      obtain⟨w',h1,ad,aj⟩:=x4 (P:=P) rel (cvs:=c4 zero len) (vs:=(Builtin.zeroCells v.cells len).toList) (k:=off) af hm (by omega)
       (by rw[xf,pg]; simp) (by rw[lQ]; omega) (fun j c ai=>by
        rw[xf];obtain⟨u,a7,bl,a3⟩:=JY.2 j c ai;exact⟨u,by rw[ar9]; exact a7,bl,a3⟩)
      rw[lQ] at ad aj;refine⟨w',?_,ad,aj⟩;cases bc:len with
      | zero=>exact absurd bc sW
      | succ aol=>
       rw[bc] at h1;simp[Builtin.clear_,ce aK,ao,h1]
    ·cases ah
   ·cases ah
 ·cases ah
theorem W3 (rel:bV R B w h μ) {t u ty:TypeId} {k:IntKind} {s x c:U} {oA bw:Value} {h' : aN} (aK:P.underlying u=some (.int k)) (az:Ay P h t s x=some (c,h')) (al:aO w R h μ s oA) (ag:aO w R h μ x bw) :
  ∃ v w' μ',(Builtin.append_ #[t,u] ty #[oA,bw]).run P w=.ok v w'/\db w h μ w' h' μ'/\bV R B w' h' μ'/\aO w' R h' μ' c v:=by
 unfold Ay at az;split at az
 ·rename_i e n ap ax;have iG:=A5 ap;obtain⟨qx,rfl⟩:=q0 ax ag;split at az
  ·rename_i z by_ zero av dz ij;split at az
   ·rename_i iZ;obtain⟨he,s1,amJ,du⟩:=iZ;obtain⟨i,zv,qa,kN,i2,_⟩:=V3 (P:=P) (w:=w) (R:=R) (h:=h) (μ:=μ) ij;have pi:i.size=z:=by simpa [cf,qa] using av
    have k9:i.bytes=by_:=by simpa [iT,qa] using dz
    have zs:IntKind.i64.wrap n=n:=by
     simp[IntKind.wrap,IntKind.bits,IntKind.signed]; omega
    have aD:(n.toNat:Int)=n:=by omega
    have lR:¬ (n<0) :=by omega
    have al4:¬ (2 ^ 48<n*(by_:Int)) :=by
     have h1:((n.toNat*by_:Nat) :Int)=n*by_:=by rw[Int.natCast_mul,aD]
     have ad:((n.toNat*by_:Nat) :Int)<=((140737488355328:Nat) :Int) :=Int.ofNat_le.2 du;rw[h1] at ad;omega
    have cj:ky w R h μ (c4 zero n.toNat) (Builtin.zeroCells zv.cells n.toNat) :=by
     obtain⟨v,ao,ay⟩:=vW (P:=P) (w:=w) (R:=R) (h:=h) (μ:=μ) ij;have xd:v=zv:=by
      have:=ao w;simp[zeroValue,typeInfo,qa,kN] at this;exact this.symm
     subst xd;have JY:=Gu ay n.toNat
     have xf:(Builtin.zeroCells v.cells n.toNat)=(Array.range (n.toNat*zero.length)).map (v.cells[· % v.cells.size]!) :=by
      unfold Builtin.zeroCells;rw[ay.1]
     rw[xf];exact JY
    have pg:(c4 zero n.toNat).length=n.toNat*z:=by rw[xP,he]
    have uH:∀ w2:World,(Go.asInt (.int qx n)).run P w2=.ok n w2:=fun w2=>rfl
    have uD:¬ (281474976710656<n*(by_:Int)) :=by omega
    have rA:∀ w2:World,(zeroValue e).run P w2=.ok zv w2:=fun w2=>by simp[zeroValue,typeInfo,qa,kN]
    have SA:n.toNat*z=0->Builtin.zeroCells zv.cells n.toNat=#[] :=fun aE=>by
     apply asj;unfold Builtin.zeroCells;simp[i2,he,aE]
    refine Nq rel av dz az al pg (vs:=(Builtin.zeroCells zv.cells n.toNat).toList) ⟨by simpa using cj.1,fun j c ai=>by
     obtain⟨v,a7,bl,a3⟩:=cj.2 j c ai;exact⟨v,by rw[ar9]; exact a7,bl,a3⟩⟩ (fun base sLen gq w' dW b4=>?_) (fun lk aqq fP SD base sLen gq fa aq au ay af=>?_)
    ·by_cases aE:n.toNat*z=0
     ·rw[SA aE] at b4;cases base with
      | none=>
       subst b4;simp[Builtin.append_,uH,ce iG,ce aK,fp av,zs,lR,typeInfo,qa,k9,dW,uD,aE]
      | some a=>
       simp only at b4;simp[Builtin.append_,uH,ce iG,ce aK,fp av,zs,lR,typeInfo,qa,k9,dW,uD,aE,b4]
     ·cases base with
      | none=>
       subst b4;simp[Builtin.append_,uH,ce iG,ce aK,fp av,zs,lR,typeInfo,qa,k9,dW,uD,aE,rA]
      | some a=>
       simp only at b4;simp[Builtin.append_,uH,ce iG,ce aK,fp av,zs,lR,typeInfo,qa,k9,dW,uD,aE,rA,b4]
    ·rw[qa] at fP;cases fP;rw[kN] at SD;cases SD;have Jq:¬ (281474976710656<Builtin.nextslicecap (sLen+n.toNat) gq*i.bytes) :=by
      have:=growslice_fits (need:=sLen+n.toNat) (old:=gq) (bytes:=i.bytes) au ay;omega
     have RX:¬ (sLen+n.toNat<=gq) :=by omega
     have w0:¬ ((9223372036854775807:Int)<((sLen+n.toNat:Nat) :Int)) :=by
      have h1:(sLen+n.toNat)*1<=(sLen+n.toNat)*i.bytes:=Nat.mul_le_mul_left _ af;unfold cx at ay;omega
     have RU:¬ ((9223372036854775807:Int)<(sLen:Int)+max n 0) :=by omega
     rw[pi] at aq;rw[k9] at Jq;by_cases aE:n.toNat*z=0
     ·have wV:(fa++(Builtin.zeroCells zv.cells n.toNat).toList).toArray=fa.toArray:=by rw[SA aE]; simp
      rw[wV];simp[Builtin.append_,uH,ce iG,ce aK,fp av,zs,lR,typeInfo,qa,k9,RX,uD,w0,RU,Jq,aE,rA,aq,Question.forced,newRow,grownCap]
     ·have wV:(fa++(Builtin.zeroCells zv.cells n.toNat).toList).toArray=fa.toArray++Builtin.zeroCells zv.cells n.toNat:=by simp
      rw[wV];simp[Builtin.append_,uH,ce iG,ce aK,fp av,zs,lR,typeInfo,qa,k9,RX,uD,w0,RU,Jq,aE,rA,aq,Question.forced,newRow,grownCap]
   ·cases az
  ·cases az
 ·cases az
end

section
variable {P:Program} {w:World} {R:Nat->Prop} {B:Nat} {h:aN} {μ:cu}
theorem Xf {op:BinOp} {t:TypeId} {k k' : IntKind} {a b:Int} {c:U} (ah:b8 op k a k' b=some c) :
  ∃ v,(binOp op t (.int k a) (.int k' b)).run P w=.ok v w/\aO w R h μ c v:=by
 cases op
 case shl=>
  simp only[b8] at ah;split at ah
  ·cases ah
  ·rename_i af;simp only[Option.some.injEq] at ah; subst ah;exact⟨_,by simp[binOp,Op.shift,af],.int _ _⟩
 case shr=>
  simp only[b8] at ah;split at ah
  ·cases ah
  ·rename_i af;simp only[Option.some.injEq] at ah; subst ah;exact⟨_,by simp[binOp,Op.shift,af],.int _ _⟩
 case quo=>
  simp only[b8] at ah;split at ah
  ·rename_i af;obtain⟨rfl,af⟩:=af;simp only[Option.some.injEq] at ah; subst ah;exact⟨_,by simp[binOp,Op.intDiv,af],.int _ _⟩
  ·cases ah
 case rem=>
  simp only[b8] at ah;split at ah
  ·rename_i af;obtain⟨rfl,af⟩:=af;simp only[Option.some.injEq] at ah; subst ah;exact⟨_,by simp[binOp,Op.intDiv,af],.int _ _⟩
  ·cases ah
 all_goals
  simp only[b8] at ah;split at ah
  ·rename_i hk;subst hk;simp only[Option.some.injEq] at ah; subst ah
   first
    | (refine⟨_,?_,.int _ _⟩; unfold binOp; simp only[ne_eq,not_true_eq_false,if_false]; rfl)
    | (refine⟨_,?_,.bool _⟩; unfold binOp; simp only[ne_eq,not_true_eq_false,if_false]; rfl)
  ·cases ah
theorem toList_eq (s:ByteArray) :s.toList=s.data.toList:=by
 rw[ByteArray.toList_eq]
theorem Xg {op:BinOp} {t:TypeId} {a b:ByteArray} {c:U} (ah:oR op a.data.toList b.data.toList=some c) :
  ∃ v,(binOp op t (.string a) (.string b)).run P w=.ok v w/\aO w R h μ c v:=by
 cases op<;>simp only[oR] at ah<;>try (cases ah; done)
 case add=>
  split at ah
  ·rename_i eu;simp only[Option.some.injEq] at ah; subst ah;have h1:a.data.toList.length=a.size:=by simp
   have ad:b.data.toList.length=b.size:=by simp
   rw[h1,ad] at eu;have BP:¬ ((9223372036854775807:Int)<(a.size:Int)+(b.size:Int)) :=by omega
   have ak:(a++b).data.toList=a.data.toList++b.data.toList:=by simp
   refine⟨.string (a++b),by simp[binOp,Op.stringOp,BP],?_⟩;rw[<-ak];exact .str _
  ·cases ah
 all_goals
  simp only[Option.some.injEq] at ah; subst ah;exact⟨_,by simp[binOp,Op.stringOp,toList_eq],.bool _⟩
theorem Y6 {d:Nat} {t:TypeId} {a b:Bool} (aK:P.underlying t=some .bool) :(Op.equalIn (d+1) t (.bool a) (.bool b)).run P w=.ok (a == b) w:=by
 simp[Op.equalIn,ce aK]
theorem Y7 {d:Nat} {t:TypeId} {hC k:IntKind} {a b:Int} (aK:P.underlying t=some (.int hC)) :(Op.equalIn (d+1) t (.int k a) (.int k b)).run P w=.ok (a == b) w:=by
 simp[Op.equalIn,ce aK]
theorem Y8 {d:Nat} {t:TypeId} {a b:ByteArray} (aK:P.underlying t=some .string) :(Op.equalIn (d+1) t (.string a) (.string b)).run P w=.ok (a.data.toList == b.data.toList) w:=by
 simp[Op.equalIn,ce aK,toList_eq,beq_toListBytes]
theorem Im {d:Nat} {t e:TypeId} {x y l c:Nat} {b:Option Addr} (aK:P.underlying t=some (.slice e)) :(Op.equalIn (d+1) t (.slice none x y) (.slice b l c)).run P w=.ok b.isNone w:=by
 simp[Op.equalIn,ce aK]
theorem PA {d:Nat} {t e:TypeId} {x y l c:Nat} {a:Addr} (aK:P.underlying t=some (.slice e)) :(Op.equalIn (d+1) t (.slice (some a) l c) (.slice none x y)).run P w=.ok false w:=by
 simp[Op.equalIn,ce aK]
theorem Ik {d:Nat} {xs a1:List U} {qO qP:Array Value}
  (aJ:∀ (t:TypeId) (x y:U) (b:Bool) (bw fz:Value),ea P d t x y=some b->aO w R h μ x bw->aO w R h μ y fz->(Op.equalIn d t bw fz).run P w=.ok b w)
  (rx:ky w R h μ xs qO) (ry:ky w R h μ a1 qP) :∀ (l:List Field) (b:Bool),ea.eqFields P (ea P d) xs a1 l=some b->(Op.eqFields d qO qP l).run P w=.ok b w
 | [],b,af=>by simp only[ea.eqFields,Option.some.injEq] at af; subst af; simp[Op.eqFields]
 | f::l,b,af=>by
  unfold ea.eqFields at af;unfold Op.eqFields;by_cases aA:f.name= "_"
  ·rw[if_pos aA] at af;simp[aA,Ik aJ rx ry l b af]
  ·rw[if_neg aA] at af;split at af
   ·rename_i a c az ah;obtain⟨hE,h1,ad⟩:=vt (P:=P) az rx;obtain⟨e1,aj,aC⟩:=vt (P:=P) ah ry;split at af
    ·rename_i heq;have:=aJ f.type a c true hE e1 heq ad aC;simp[aA,h1,aj,this,Ik aJ rx ry l b af]
    ·rename_i heq;have:=aJ f.type a c false hE e1 heq ad aC;simp only[Option.some.injEq] at af; subst af;simp[aA,h1,aj,this]
    ·cases af
   ·cases af
theorem Px {d z:Nat} {e:TypeId} {xs a1:List U} {qO qP:Array Value}
  (aJ:∀ (t:TypeId) (x y:U) (b:Bool) (bw fz:Value),ea P d t x y=some b->aO w R h μ x bw->aO w R h μ y fz->(Op.equalIn d t bw fz).run P w=.ok b w)
  (rx:ky w R h μ xs qO) (ry:ky w R h μ a1 qP) (f:Nat->Option Bool × Unit->Sem (ForInStep (Option Bool × Unit)))
  (aA:∀ (i:Nat) (hE e1:Value) (b:Bool) (r:Option Bool × Unit),(part e qO (i*z)).run P w=.ok hE w->(part e qP (i*z)).run P w=.ok e1 w->(Op.equalIn d e hE e1).run P w=.ok b w->
   (f i r).run P w=.ok (if b then .yield (none,()) else .done (some false,())) w) :
  ∀ (n i:Nat) (b:Bool),ea.q8 P (ea P d) e z xs a1 n i=some b->(forIn (List.range' i n) (none,()) f).run P w=.ok (if b then (none,()) else (some false,())) w
 | 0,i,b,af=>by
  simp only[ea.q8,Option.some.injEq] at af; subst af;simp
 | n+1,i,b,af=>by
  unfold ea.q8 at af;split at af
  ·rename_i a c az ah;obtain⟨hE,h1,ad⟩:=vt (P:=P) az rx;obtain⟨e1,aj,aC⟩:=vt (P:=P) ah ry;rw[List.range'_succ,List.forIn_cons];split at af
   ·rename_i heq;have bm:=aJ e a c true hE e1 heq ad aC;have aM:=aA i hE e1 true (none,()) (h1 w) (aj w) bm;simp only[Sem.run_bind,aM,if_true,Result.andThen_ok];exact Px aJ rx ry f aA n (i+1) b af
   ·rename_i heq;have bm:=aJ e a c false hE e1 heq ad aC;have aM:=aA i hE e1 false (none,()) (h1 w) (aj w) bm;simp only[Option.some.injEq] at af; subst af;simp[aM]
   ·cases af
  ·cases af
theorem run_equalIn_array {d n z:Nat} {t e:TypeId} {qO qP:Array Value} (aK:P.underlying t=some (.array n e)) (av:cf P e=some z) {b:Bool}
  (hk:∀ f:Nat->Option Bool × Unit->Sem (ForInStep (Option Bool × Unit)),
   (∀ (i:Nat) (hE e1:Value) (b:Bool) (r:Option Bool × Unit),(part e qO (i*z)).run P w=.ok hE w->(part e qP (i*z)).run P w=.ok e1 w->(Op.equalIn d e hE e1).run P w=.ok b w->(f i r).run P w=.ok (if b then .yield (none,()) else .done (some false,())) w)->
   (forIn (List.range' 0 n) (none,()) f).run P w=.ok (if b then (none,()) else (some false,())) w) :
  (Op.equalIn (d+1) t (.agg qO) (.agg qP)).run P w=.ok b w:=by
 simp only[Op.equalIn,Sem.run_bind,ce aK,Result.andThen_ok,fp av];rw[Std.Legacy.Range.forIn_eq_forIn_range'];have ay:List.range' ([:n] :Std.Legacy.Range).start ([:n] :Std.Legacy.Range).size ([:n] :Std.Legacy.Range).step=List.range' 0 n:=by simp[Std.Legacy.Range.size]
 rw[ay,hk]
 ·cases b<;>simp
 ·intro i hE e1 b r h1 ad aj;cases b<;>simp[h1,ad,aj]
theorem Il:∀ (d:Nat) (t:TypeId) (x y:U) (b:Bool) (bw fz:Value),ea P d t x y=some b->aO w R h μ x bw->aO w R h μ y fz->
  (Op.equalIn d t bw fz).run P w=.ok b w:=by
 intro d
 induction d with
 | zero=>intro t x y b bw fz ap; simp[ea] at ap
 | succ d aJ=>
  intro t x y b bw fz ap ag aG;unfold ea at ap;split at ap
  ·rename_i a bf aK;simp only[Option.some.injEq] at ap; subst ap;cases ag; cases aG;exact Y6 aK
  ·rename_i hC k a k' bf aK;split at ap
   ·rename_i hk; subst hk;simp only[Option.some.injEq] at ap; subst ap;cases ag; cases aG;exact Y7 aK
   ·cases ap
  ·rename_i a bf aK;simp only[Option.some.injEq] at ap; subst ap;cases ag; cases aG;exact Y8 aK
  ·rename_i fs xs a1 aK;split at ap
   ·cases ap
   ·rename_i b4;obtain⟨qO,rfl,rx⟩:=tX ag;obtain⟨qP,rfl,ry⟩:=tX aG;have ac1:P.stoodInHeld t=false:=by simpa using b4
    have p8:P.fieldsOf t=fs:=by simp[Program.fieldsOf,aK]
    rw[run_equalIn_struct w d t qO qP (by rw[p8]; exact aK) ac1,p8];exact Ik aJ rx ry _ _ ap
  ·rename_i n e xs a1 aK;cases av:cf P e with
   | none=>rw[av] at ap; cases ap
   | some z=>
    rw[av] at ap;simp only at ap;obtain⟨qO,rfl,rx⟩:=tX ag;obtain⟨qP,rfl,ry⟩:=tX aG;exact run_equalIn_array aK av (fun f aA=>Px aJ rx ry f aA n 0 b ap)
  ·rename_i e aK;simp only[Option.some.injEq] at ap; subst ap;cases ag; cases aG;exact Im aK
  ·rename_i e z bf off len cap sz aK;simp only[Option.some.injEq] at ap; subst ap;cases ag; cases aG<;>exact Im aK
  ·rename_i e z es aK;simp only[Option.some.injEq] at ap; subst ap;cases ag; cases aG<;>exact Im aK
  ·rename_i e z bf off len cap sz aK;simp only[Option.some.injEq] at ap; subst ap;cases aG; cases ag<;>exact PA aK
  ·rename_i e z es aK;simp only[Option.some.injEq] at ap; subst ap;cases aG; cases ag<;>exact PA aK
  ·cases ap
end

end Go.bJ

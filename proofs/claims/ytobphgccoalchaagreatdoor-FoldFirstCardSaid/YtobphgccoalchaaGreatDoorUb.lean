/-
  The canonical machine, part E: slices: what they hold, append, slicing, copy, make, len.
-/
import Derived.Test.YtobphgccoalchaaGreatDoorUa
import Derived.Lib.IndexBytes
import Derived.Laws.BytesString
import Derived.Lib.ConvBytes
set_option linter.unusedVariables false
set_option linter.unusedSimpArgs false
set_option linter.unnecessarySimpa false
namespace Go.cb
open Go
section
variable {P:Program} {w:World} {R:Nat->Prop} {B:Nat} {h:aQ} {μ:cX}
theorem mC {α:Type} {z:Nat}:∀ {es:List (List α)},(∀ e,e∈es->e.length=z)->es.flatten.length=es.length*z
 | [],_=>by simp
 | e::es,aw=>by
  rw[awT,avW,aw e (by simp),mC (fun e ao=>aw e (by simp[ao])),awa,awD,Nat.add_comm]
theorem TR {α:Type} {z:Nat}:∀ {es:List (List α)} {j:Nat} {c:α},(∀ e,e∈es->e.length=z)->es.flatten[j]? = some c->
  ∃ i k e,j=i*z+k/\k<z/\es[i]? = some e/\e[k]? = some c
 | [],_,_,_,ai=>by simp at ai
 | e::es,j,c,aw,ai=>by
  have ao:=aw e (by simp);rw[awT] at ai;by_cases aM:j<e.length
  ·rw[avQ aM] at ai;exact⟨0,j,e,by simp,by omega,rfl,ai⟩
  ·rw[av2 (by omega)] at ai;obtain⟨i,k,fH,h1,ad,aj,aE⟩:=TR (fun e ao=>aw e (by simp[ao])) ai;exact⟨i+1,k,fH,by rw[awD]; omega,ad,by simpa using aj,aE⟩
def us (w:World) (R:Nat->Prop) (h:aQ) (μ:cX) (xs:List U) (vs:List Value) :Prop:=
 vs.length=xs.length/\∀ (j:Nat) (c:U),xs[j]? = some c->∃ v:Value,vs[j]? = some v/\v.oneCell'=true/\aS w R h μ c v
theorem OL {w2:World} {xs:List U} {blk o:Nat} (nh:∀ a,w2.cell? a=w.cell? a)
  (af:∀ (j:Nat) (c:U),xs[j]? = some c->∃ v:Value,w.cell? ⟨blk,o+j,none⟩=some v/\v.oneCell'=true/\aS w R h μ c v) :
  ∃ vs:List Value,us w R h μ xs vs/\∀ k,k<=xs.length->∀ w2:World,(∀ a,w2.cell? a=w.cell? a)->(loadCells ⟨blk,o,none⟩ k).run P w2=.ok (vs.take k).toArray w2:=by
 have au:∃ f:Nat->Value,∀ (j:Nat) (c:U),xs[j]? = some c->w.cell? ⟨blk,o+j,none⟩=some (f j)/\(f j).oneCell'=true/\aS w R h μ c (f j) :=by
  refine⟨fun j=>(w.cell? ⟨blk,o+j,none⟩).getD undef,fun j c ai=>?_⟩;obtain⟨v,h1,ad,aj⟩:=af j c ai;simp only[h1,awF];exact⟨trivial,ad,aj⟩
 obtain⟨f,aF⟩:=au;refine⟨(List.range xs.length).map f,⟨by simp,fun j c ai=>?_⟩,fun k hk w2 ky=>?_⟩
 ·have aM:j<xs.length:=(avP.1 ai).1;exact⟨f j,by simp[aM],(aF j c ai).2⟩
 ·have:=run_loadCells_list (P:=P) w2 ⟨blk,o,none⟩ (((List.range xs.length).map f).take k) (fun j v ai=>by
   have gc:j<k:=by
    rcases aw6 j k with h1 | h1
    ·exact h1
    ·rw[av5 (by simp; omega)] at ai; cases ai
   rw[awb gc,avV] at ai;have kX:j<xs.length:=by omega
   rw[awr kX] at ai;simp only[avZ,Option.some.injEq] at ai;rw[Addr.m6,<-ai,ky];exact (aF j _ (avS kX)).1)
  have al:(((List.range xs.length).map f).take k).length=k:=by simp; omega
  rw[al] at this;exact this
theorem wB (rel:cc R B w h μ) {z n:Nat} {x:U} {bK:Value} {xs:List U} (ah:contents h z x=some (xs,n)) (af:aS w R h μ x bK) :
  xs.length=n*z/\(Builtin.lenOf bK).run P w=.ok n w/\∃ vs:List Value,us w R h μ xs vs ∧
   ∀ k,k<=n->∀ w2:World,(∀ a,w2.cell? a=w.cell? a)->(Builtin.firstCells z k bK).run P w2=.ok (vs.take (k*z)).toArray w2:=by
 cases af with
 | aT=>
  simp only[contents,Option.some.injEq,Prod.mk.injEq] at ah;obtain⟨rfl,rfl⟩:=ah;exact⟨by simp,by simp[Builtin.lenOf],[],⟨rfl,fun j c ai=>by simp at ai⟩,fun k _ w2 _=>by simp[Builtin.firstCells]⟩
 | str bs=>
  simp only[contents] at ah;split at ah
  ·rename_i aw; subst aw;simp only[Option.some.injEq,Prod.mk.injEq] at ah;obtain⟨rfl,rfl⟩:=ah;refine⟨by simp,by simp[Builtin.lenOf],bs.data.toList.map fun b=>.int .u8 b.toNat,⟨by simp,fun j c ai=>?_⟩,fun k hk w2 _=>?_⟩
   ·rw[avV] at ai ⊢;cases ag:bs.data.toList[j]? with
    | none=>rw[ag] at ai; cases ai
    | some b=>
     rw[ag] at ai;simp only[avZ,Option.some.injEq] at ai;subst ai;exact⟨_,rfl,rfl,.int _ _⟩
   ·have af:(bs.extract 0 k).data.toList=bs.data.toList.take k:=by
     simp[ByteArray.extract,ByteArray.copySlice]
    have ax:(bs.extract 0 k).data=(bs.data.toList.take k).toArray:=by rw[<-af]
    simp only[Builtin.firstCells,ax];simp
  ·cases ah
 | bQ dO es blk off cap eI al aw nh au=>
  simp only[contents] at ah;split at ah
  ·rename_i vj; subst vj;simp only[Option.some.injEq,Prod.mk.injEq] at ah;obtain⟨rfl,rfl⟩:=ah;have bn:=mC aw;have cJ:∀ (j:Nat) (c:U),es.flatten[j]? = some c->∃ v:Value,w.cell? ⟨blk,off+j,none⟩=some v/\v.oneCell'=true/\aS w R h μ c v:=by
    intro j c ai;obtain⟨i,k,e,rfl,hk,ao,agt⟩:=TR aw ai;have av:i<es.length:=(avP.1 ao).1;have dC:=nh i k av hk;exact⟨eI i k,dC.here,dC.one,au i e ao k c agt⟩
   obtain⟨vs,h1,ad⟩:=OL (P:=P) (w2:=w) (fun _=>rfl) cJ;refine⟨bn,by simp[Builtin.lenOf],vs,h1,fun k hk w2 ky=>?_⟩;have:=ad (k*z) (by rw[bn]; exact avX _ hk) w2 ky;simp[Builtin.firstCells,this]
  ·cases ah
 | fY dO a cap=>
  simp only[contents] at ah;split at ah
  ·simp only[Option.some.injEq,Prod.mk.injEq] at ah;obtain⟨rfl,rfl⟩:=ah;exact⟨by simp,by simp[Builtin.lenOf],[],⟨rfl,fun j c ai=>by simp at ai⟩,fun k hk w2 _=>by
    obtain rfl:k=0:=by simpa using hk
    simp[Builtin.firstCells,loadCells,loadCellsFrom]⟩
  ·cases ah
 | ar dO b off len cap sz cap' cs m ag hm al ap db=>
  simp only[contents,ag,true_and] at ah;split at ah
  ·rename_i vj; subst vj;simp only[Option.some.injEq,Prod.mk.injEq] at ah;obtain⟨rfl,rfl⟩:=ah;have e0:=rel.blk b m hm;rw[ag] at e0;obtain⟨h1,ad,arr,t,gy,aj,aE,aX,bw⟩:=e0;have u9:len*z<=cap*z:=avX _ al;have bn:((cs.drop off).take (len*z)).length=len*z:=by
    rw[av1,awW]; omega
   have cJ:∀ (j:Nat) (c:U),((cs.drop off).take (len*z))[j]? = some c->∃ v:Value,w.cell? ⟨m.r,(m.s+off)+j,none⟩=some v/\v.oneCell'=true/\aS w R h μ c v:=by
    intro j c ai;have aM:j<len*z:=by
     have:=(avP.1 ai).1;rw[bn] at this; exact this
    rw[awb aM,awv] at ai;obtain⟨v,aV,a1,a3⟩:=bw _ c ai;exact⟨v,by simp[World.cell?,aj,axu,aV],a1,a3⟩
   obtain⟨vs,ce,bP⟩:=OL (P:=P) (w2:=w) (fun _=>rfl) cJ;refine⟨bn,by simp[Builtin.lenOf],vs,ce,fun k hk w2 ky=>?_⟩;have:=bP (k*z) (by rw[bn]; exact avX _ hk) w2 ky;simp[Builtin.firstCells,this]
  ·cases ah
 | ig dO b off sz a cs m ag hm=>
  simp only[contents,ag,true_and] at ah;split at ah
  ·rename_i vj; subst vj;simp only[Option.some.injEq,Prod.mk.injEq,ayb,aw9] at ah;obtain⟨rfl,rfl⟩:=ah;exact⟨by simp,by simp[Builtin.lenOf],[],⟨rfl,fun j c ai=>by simp at ai⟩,fun k hk w2 _=>by
    obtain rfl:k=0:=by simpa using hk
    simp[Builtin.firstCells,loadCells,loadCellsFrom]⟩
  ·cases ah
 | gR dO b off len cap sz cap' a al U6 aq=>
  unfold contents at ah;rcases aq with aq | ⟨hi,cs',aq,aM⟩
  ·simp[aq] at ah
  ·simp only[aq] at ah;split at ah
   ·omega
   ·cases ah
 | _=>simp[contents] at ah
theorem C0 {t e:TypeId} (ao:iR P t=some e) :P.underlying t=some (.slice e) :=by
 unfold iR at ao;split at ao
 ·rename_i fH aN; cases ao; exact aN
 ·cases ao
def BB (P:Program) (u:TypeId) :Prop:=∃ d,P.underlying u=some d/\∀ k,d≠.int k
theorem WS (d:TypeDesc) (hk:∀ k,d≠.int k) :(match d with | .int _=>true | _=>false)=false:=by
 cases d with
 | int k=>exact absurd rfl (hk k)
 | _=>rfl
theorem run_append_fits {t u ty e:TypeId} {z n sLen g7:Nat} {base:Option Addr} {bK:Value} {vs:List Value} {w' : World} (ao:P.underlying t=some (.slice e)) (aw:cM P e=some z) (aN:BB P u)
  (al:(Builtin.lenOf bK).run P w=.ok n w) (aF:(Builtin.firstCells z n bK).run P w=.ok vs.toArray w) (eE:sLen+n<=g7)
  (ci:match base with | some a=>(storeCells (a.add (sLen*z)) vs).run P w=.ok () w' | none=>w'=w) :
  (Builtin.append_ #[t,u] ty #[.slice base sLen g7,bK]).run P w=.ok (.slice base (sLen+n) g7) w':=by
 obtain⟨d,bC,hk⟩:=aN;have AW:=WS d hk;cases base with
 | none=>
  subst ci;simp[Builtin.append_,cL ao,fS aw,cL bC,AW,al,eE,aF]
 | some a=>
  simp only at ci;simp[Builtin.append_,cL ao,fS aw,cL bC,AW,al,eE,aF,ci]
theorem ams {t u ty e:TypeId} {i:TypeInfo} {zv:Value} {n sLen g7:Nat} {base:Option Addr} {bK:Value} {fW vs:List Value} (ao:P.underlying t=some (.slice e)) (av:P.info? e=some i) (mf:i.zero=some zv) (aN:BB P u)
  (al:(Builtin.lenOf bK).run P w=.ok n w) (aF:(Builtin.firstCells i.size n bK).run P w.drew=.ok vs.toArray w.drew) (ap:(Builtin.firstCells i.size sLen (.slice base sLen g7)).run P w.drew=.ok fW.toArray w.drew)
  (qF:g7<sLen+n) (dA:(sLen+n)*i.bytes<=cy) (ag:0<i.bytes) :
  (Builtin.append_ #[t,u] ty #[.slice base sLen g7,bK]).run P w =
   .ok (.slice (some ⟨w.heap.size,0,none⟩) (sLen+n) (grownCap w (sLen+n) g7 e)) (w.drew.alloc (.cells ((fW++vs).toArray++Builtin.zeroCells zv.cells (grownCap w (sLen+n) g7 e - (sLen+n))) e)) :=by
 obtain⟨d,bC,hk⟩:=aN;have AW:=WS d hk;have aw:cM P e=some i.size:=by simp[cM,av]
 have aC:¬ (sLen+n<=g7) :=by omega
 have wO:¬ (281474976710656<Builtin.nextslicecap (sLen+n) g7*i.bytes) :=by
  have:=growslice_fits qF dA;omega
 have mL:¬ (i.bytes=0) :=by omega
 simp[Builtin.append_,cL ao,fS aw,cL bC,AW,al,aC,typeInfo,av,wO,mL,Question.forced,ap,aF,zeroValue,mf,newRow,grownCap];rw[<-ayc,List.append_toArray fW vs]
theorem dY.drew {h' : aQ} {μ' : cX} {w' : World} (e:dY w h μ w' h' μ') :dY w h μ w' h' μ':=e
theorem amT {s:U} {pY:Value} (ak:aS w R h μ s pY) (hk:s=.aT\/(∃ z es,s=.bQ z es)\/∃ z b off len cap sz,s=.ar z b off len cap sz) :
  ∃ base sLen g7,pY=.slice base sLen g7/\sLen<=g7:=by
 cases ak<;>simp at hk
 ·exact⟨_,_,_,rfl,avR _⟩
 ·rename_i al ap dC;exact⟨_,_,_,rfl,by omega⟩
 ·rename_i al U6 aq;exact⟨_,_,_,rfl,by omega⟩
 ·exact⟨_,_,_,rfl,avR _⟩
 ·rename_i al aw ah au;exact⟨_,_,_,rfl,by omega⟩
 ·exact⟨_,_,_,rfl,aw4 _⟩
theorem aaK {e:TypeId} {z:Nat} (aw:ug P e=some z) :∃ i v,P.info? e=some i/\i.zero=some v/\v.cells.size=z:=by
 unfold ug at aw;cases av:P.info? e with
 | none=>rw[av] at aw; cases aw
 | some i=>
  rw[av] at aw;simp only[axv] at aw;cases au:i.zero with
  | none=>rw[au] at aw; cases aw
  | some v=>rw[au] at aw; exact⟨i,v,rfl,au,by simpa using aw⟩
theorem Dk {e:TypeId} {zv:Value} {z need cap:Nat} {xs:List U} {vs:List Value} (aw:zv.cells.size=z) (al:xs.length=need*z) (np:us w R h μ xs vs) (db:need<=cap) :
  (vs.toArray++Builtin.zeroCells zv.cells (cap - need)).size=cap*z ∧
  ∀ (j:Nat) (c:U),xs[j]? = some c->∃ v:Value,(vs.toArray++Builtin.zeroCells zv.cells (cap - need))[j]? = some v/\v.oneCell'=true/\aS w R h μ c v:=by
 refine⟨?_,fun j c ai=>?_⟩
 ·have h1:(Builtin.zeroCells zv.cells (cap - need)).size=(cap - need)*z:=by simp[Builtin.zeroCells,aw]
  have ad:need*z+(cap - need)*z=cap*z:=by rw[<-awJ]; congr 1; omega
  rw[ayI,h1,ayJ,np.1,al,ad]
 ·obtain⟨v,h1,ad,aj⟩:=np.2 j c ai;have aM:j<vs.length:=(avP.1 h1).1;refine⟨v,?_,ad,aj⟩;rw[awX (by simpa using aM)];simpa using h1
theorem Ql (rel:cc R B w h μ) {t u ty e:TypeId} {z by_ n:Nat} {s c:U} {pY bK:Value} {h' : aQ} {xs:List U} {vs:List Value} (aw:cM P e=some z) (ea:i5 P e=some by_)
  (aA:wc P h e z by_ s xs n=some (c,h')) (ak:aS w R h μ s pY) (bf:xs.length=n*z) (cJ:us w R h μ xs vs)
  (Hi:∀ (base:Option Addr) (sLen g7:Nat) (w' : World),sLen+n<=g7->(match base with | some a=>(storeCells (a.add (sLen*z)) vs).run P w=.ok () w' | none=>w'=w)->
   (Builtin.append_ #[t,u] ty #[.slice base sLen g7,bK]).run P w=.ok (.slice base (sLen+n) g7) w')
  (DF:∀ (i:TypeInfo) (zv:Value),P.info? e=some i->i.zero=some zv->∀ (base:Option Addr) (sLen g7:Nat) (fW:List Value),(Builtin.firstCells i.size sLen (.slice base sLen g7)).run P w.drew=.ok fW.toArray w.drew->
   g7<sLen+n->(sLen+n)*i.bytes<=cy->0<i.bytes->(Builtin.append_ #[t,u] ty #[.slice base sLen g7,bK]).run P w =
   .ok (.slice (some ⟨w.heap.size,0,none⟩) (sLen+n) (grownCap w (sLen+n) g7 e)) (w.drew.alloc (.cells ((fW++vs).toArray++Builtin.zeroCells zv.cells (grownCap w (sLen+n) g7 e - (sLen+n))) e))) :
  ∃ v w' μ',(Builtin.append_ #[t,u] ty #[pY,bK]).run P w=.ok v w'/\dY w h μ w' h' μ'/\cc R B w' h' μ'/\aS w' R h' μ' c v:=by
 unfold wc at aA;by_cases aC:n=0
 ·-- nothing is appended
  subst aC;simp only[if_true] at aA;have cd:(c,h')=(s,h) :=by
   split at aA<;>first | (simp only[Option.some.injEq] at aA; exact aA.symm) | cases aA
  have hk:s=.aT\/(∃ z es,s=.bQ z es)\/∃ z b off len cap sz,s=.ar z b off len cap sz:=by
   split at aA
   ·exact .inl rfl
   ·exact .inr (.inl ⟨_,_,rfl⟩)
   ·exact .inr (.inr ⟨_,_,_,_,_,_,rfl⟩)
   ·cases aA
  simp only[Prod.mk.injEq] at cd;obtain⟨rfl,rfl⟩:=cd;obtain⟨base,sLen,g7,rfl,dw⟩:=amT ak hk;have iU:vs=[] :=by
   have:vs.length=0:=by rw[cJ.1,bf]; simp
   exact awt.1 this
  subst iU;have:=Hi base sLen g7 w (by omega) (by cases base<;>simp[storeCells]);exact⟨_,w,μ,this,.refl _ _ _,rel,by simpa using ak⟩
 ·rw[if_neg aC] at aA;split at aA
  ·cases aA
  ·rename_i j7;simp only[not_or,Decidable.not_not] at j7;obtain⟨tt,j5,h6⟩:=j7;obtain⟨i,zv,av,mf,ka⟩:=aaK h6;have qR:i.size=z:=by simpa [cM,av] using aw
   have mL:i.bytes=by_:=by simpa [i5,av] using ea
   have aiA:0<z:=Nat.pos_of_ne_zero tt;have LO:∀ a,w.drew.cell? a=w.cell? a:=fun _=>rfl
   split at aA
   ·-- append to nil
    split at aA
    ·rename_i dA;simp only[Option.some.injEq,Prod.mk.injEq] at aA;obtain⟨rfl,rfl⟩:=aA;cases ak;have aq:=DF i zv av mf none 0 0 [] (by simp[Builtin.firstCells]) (by omega) (by rw[mL]; simpa using dA) (by omega);have db:n<=grownCap w (0+n) 0 e:=by have:=grownCap_ge w (0+n) 0 e; omega
     obtain⟨lz,ma⟩:=Dk (e:=e) (zv:=zv) (need:=n) (cap:=grownCap w (0+n) 0 e) ka (by rw[bf]) cJ db;have ay:=rel.push (w':=w.drew.alloc (.cells (vs.toArray++Builtin.zeroCells zv.cells (grownCap w (0+n) 0 e - n)) e)) xs _ e rfl rfl rfl rfl (by rw[lz,bf]; exact avX _ db) ma;rw[bf] at ay;refine⟨_,_,_,by simpa using aq,by simpa using ay.1,by simpa using ay.2,?_⟩;have:=aS.ar (w:=w.drew.alloc (.cells (vs.toArray++Builtin.zeroCells zv.cells (grownCap w (0+n) 0 e - n)) e)) (R:=R) (h:=h.push (.cells (n*z) xs)) (μ:=bS μ h.n (some ⟨w.heap.size,0,(vs.toArray++Builtin.zeroCells zv.cells (grownCap w (0+n) 0 e - n)).size⟩))
      z h.n 0 n n (n*z) (grownCap w (0+n) 0 e) xs ⟨w.heap.size,0,(vs.toArray++Builtin.zeroCells zv.cells (grownCap w (0+n) 0 e - n)).size⟩ (by simp[eG,fN]) (by simp) (avR _) (by omega) (.inr ⟨by omega,db,by simp only; rw[lz]; omega⟩)
     simpa using this
    ·cases aA
   ·rename_i dO b off len cap sz;cases ag:h.f b with
    | cells m cs=>
     rw[ag] at aA;simp only at aA;split at aA
     ·rename_i DB;obtain⟨rfl,rfl,dA⟩:=DB;cases ak with
      | gR _ _ _ _ _ _ cap' a al U6 aq=>
       exfalso;rcases aq with aq | ⟨hi,cs',aq,aM⟩
       ·rw[aq] at ag; cases ag
       ·rw[aq] at ag; cases ag; omega
      | ig _ _ _ _ a cs' cn bO hm=>
       rw[ag] at bO; cases bO;have pw:=rel.sS hm;rw[if_neg (by omega),ayb,aw9,aw9,awI,axa] at aA;have aq:=DF i zv av mf (some a) 0 0 [] (by simp[Builtin.firstCells,loadCells,loadCellsFrom]) (by omega) (by rw[mL]; exact dA) (by omega);rw[axa] at aq;have db:n<=grownCap w n 0 e:=grownCap_ge _ _ _ _;obtain⟨lz,ma⟩:=Dk (e:=e) (zv:=zv) (need:=n) (cap:=grownCap w n 0 e) ka (by rw[bf]) cJ db;split at aA
       ·simp only[Option.some.injEq,Prod.mk.injEq] at aA;obtain⟨rfl,rfl⟩:=aA;have ay:=rel.push (w':=w.drew.alloc (.cells (vs.toArray++Builtin.zeroCells zv.cells (grownCap w n 0 e - n)) e)) xs _ e rfl rfl rfl rfl (by rw[lz,bf]; exact avX _ db) ma;rw[bf] at ay;refine⟨_,_,_,by simpa using aq,by simpa using ay.1,by simpa using ay.2,?_⟩;have:=aS.ar (w:=w.drew.alloc (.cells (vs.toArray++Builtin.zeroCells zv.cells (grownCap w n 0 e - n)) e)) (R:=R) (h:=h.push (.cells (n*z) xs)) (μ:=bS μ h.n (some ⟨w.heap.size,0,(vs.toArray++Builtin.zeroCells zv.cells (grownCap w n 0 e - n)).size⟩))
         z h.n 0 n n (n*z) (grownCap w n 0 e) xs ⟨w.heap.size,0,(vs.toArray++Builtin.zeroCells zv.cells (grownCap w n 0 e - n)).size⟩ (by simp[eG,fN]) (by simp) (avR _) (by omega) (.inr ⟨by omega,db,by simp only; rw[lz]; omega⟩)
        simpa using this
       ·rename_i LP;split at aA
        ·rename_i A7;subst A7;simp only[Option.some.injEq,Prod.mk.injEq] at aA;obtain⟨rfl,rfl⟩:=aA;have l0:m<n*z:=by
          have:1*1<=n*z:=Nat.mul_le_mul (by omega) aiA;omega
         have ay:=rel.move (w':=w.drew.alloc (.cells (vs.toArray++Builtin.zeroCells zv.cells (grownCap w n 0 e - n)) e)) ag hm rfl rfl rfl rfl bf l0 (by rw[lz]; exact avX _ db) ma;refine⟨_,_,_,by simpa using aq,by simpa using ay.1,by simpa using ay.2,?_⟩;have:=aS.ar (w:=w.drew.alloc (.cells (vs.toArray++Builtin.zeroCells zv.cells (grownCap w n 0 e - n)) e)) (R:=R) (h:=h.set b (.cells (n*z) xs)) (μ:=bS μ b (some ⟨w.heap.size,0,(vs.toArray++Builtin.zeroCells zv.cells (grownCap w n 0 e - n)).size⟩))
          z b 0 n n (n*z) (grownCap w n 0 e) xs ⟨w.heap.size,0,(vs.toArray++Builtin.zeroCells zv.cells (grownCap w n 0 e - n)).size⟩ (by simp[eg,ff]) (by simp) (avR _) (by omega) (.inr ⟨by omega,db,by simp only; rw[lz]; omega⟩)
         simpa using this
        ·simp only[Option.some.injEq,Prod.mk.injEq] at aA;obtain⟨rfl,rfl⟩:=aA;have ay:=rel.push (w':=w.drew.alloc (.cells (vs.toArray++Builtin.zeroCells zv.cells (grownCap w n 0 e - n)) e)) xs _ e rfl rfl rfl rfl (by rw[lz,bf]; exact avX _ db) ma;rw[bf] at ay;have hk:=ay.2.kill (b:=b) (sz:=m) (cs:=cs) (h':=(h.set b .dead).push (.cells (n*z) xs)) (by rw[eG,cm _ _ _ _ (by omega)]; exact ag) (by rw[fN]; omega) (by
          rw[eG,eG,eg,ff];funext x;simp only[bS];by_cases h1:x=h.n
          ·rw[if_pos h1,if_neg (by omega),if_pos h1]
          ·rw[if_neg h1];split<;>rfl) rfl
         refine⟨_,_,_,by simpa using aq,by simpa using ay.1.trans hk.1,by simpa using hk.2,?_⟩;have:=aS.ar (w:=w.drew.alloc (.cells (vs.toArray++Builtin.zeroCells zv.cells (grownCap w n 0 e - n)) e)) (R:=R) (h:=(h.set b .dead).push (.cells (n*z) xs)) (μ:=bS μ h.n (some ⟨w.heap.size,0,(vs.toArray++Builtin.zeroCells zv.cells (grownCap w n 0 e - n)).size⟩))
          z h.n 0 n n (n*z) (grownCap w n 0 e) xs ⟨w.heap.size,0,(vs.toArray++Builtin.zeroCells zv.cells (grownCap w n 0 e - n)).size⟩ (by rw[eG,ff,kw]) (by simp) (avR _) (by omega) (.inr ⟨by omega,db,by simp only; rw[lz]; omega⟩)
         simpa using this
      | ar _ _ _ _ _ _ cap' cs' cn bO hm al ap dC=>
       have e0:=rel.blk b cn hm;rw[ag] at e0;obtain⟨U7,bM,_⟩:=e0;rw[ag] at bO; cases bO;have u9:len*z<=cap*z:=avX _ al;have U4:cap<=cap':=by rcases dC with dC | dC<;>omega
       split at aA
       ·-- in place,within what the machine knows
        rename_i eE;simp only[Option.some.injEq,Prod.mk.injEq] at aA;obtain⟨rfl,rfl⟩:=aA;have VU:len*z+n*z<=cap*z:=by rw[<-awJ]; exact avX _ eE
        have nm:max m (off+len*z+xs.length)=m:=by omega
        obtain⟨w',h1,ad,aj⟩:=zV (P:=P) rel (cvs:=xs) (vs:=vs) (k:=off+len*z) ag hm (by omega) cJ.1 (by omega) cJ.2;rw[nm] at ad aj;have ci:(storeCells ((⟨cn.r,cn.s+off,none⟩:Addr).add (len*z)) vs).run P w=.ok () w':=by rw[Addr.m6,axu]; exact h1
        refine⟨_,w',μ,Hi (some ⟨cn.r,cn.s+off,none⟩) _ _ _ (by omega) ci,ad,aj,?_⟩;exact .ar z b off (len+n) cap m cap' _ cn (by simp[eg,ff]; rfl) hm eE ap dC
       ·rename_i asd;split at aA
        ·-- beyond a slice whose end lies within the row: it moves
         rename_i arS;simp only[Option.some.injEq,Prod.mk.injEq] at aA;obtain⟨rfl,rfl⟩:=aA;have ei:cap'=cap:=by rcases dC with dC | dC<;>omega
         subst ei;have cz:contents h z (.ar z b off len cap' m)=some ((cs.drop off).take (len*z),len) :=by simp[contents,ag]
         obtain⟨bY,_,fW,iw,DR⟩:=wB (P:=P) rel cz (aS.ar z b off len cap' m cap' cs cn ag hm al ap dC);have yZ:∀ w2:World,(∀ a,w2.cell? a=w.cell? a)->(Builtin.firstCells z len (.slice (some ⟨cn.r,cn.s+off,none⟩) len cap')).run P w2=.ok fW.toArray w2:=fun w2 mV=>by
          have:=DR len (avR _) w2 mV
          rwa [avO (by rw[iw.1,bY]; exact avR _)] at this
         have aq:=DF i zv av mf (some ⟨cn.r,cn.s+off,none⟩) len cap' fW (by rw[qR]; exact yZ w.drew LO) (by omega) (by rw[mL]; exact dA) (by omega);have db:len+n<=grownCap w (len+n) cap' e:=grownCap_ge _ _ _ _;have DA:us w R h μ ((cs.drop off).take (len*z)++xs) (fW++vs) :=by
          refine⟨by simp[iw.1,cJ.1],fun j c ai=>?_⟩;by_cases aM:j<((cs.drop off).take (len*z)).length
          ·rw[avQ aM] at ai;rw[avQ (by rw[iw.1]; exact aM)];exact iw.2 j c ai
          ·rw[av2 (by omega)] at ai;rw[av2 (by rw[iw.1]; omega),iw.1];exact cJ.2 _ c ai
         have eU:((cs.drop off).take (len*z)++xs).length=(len+n)*z:=by rw[avW,bY,bf,awJ]
         obtain⟨lz,ma⟩:=Dk (e:=e) (zv:=zv) (need:=len+n) (cap:=grownCap w (len+n) cap' e) ka eU DA db;have ay:=rel.push (w':=w.drew.alloc (.cells ((fW++vs).toArray++Builtin.zeroCells zv.cells (grownCap w (len+n) cap' e - (len+n))) e)) _ _ e rfl rfl rfl rfl (by rw[lz,eU]; exact avX _ db) ma;rw[eU] at ay;refine⟨_,_,_,aq,ay.1,ay.2,?_⟩;have:=aS.ar (w:=w.drew.alloc (.cells ((fW++vs).toArray++Builtin.zeroCells zv.cells (grownCap w (len+n) cap' e - (len+n))) e)) (R:=R) (h:=h.push (.cells ((len+n)*z) ((cs.drop off).take (len*z)++xs))) (μ:=bS μ h.n (some ⟨w.heap.size,0,((fW++vs).toArray++Builtin.zeroCells zv.cells (grownCap w (len+n) cap' e - (len+n))).size⟩))
          z h.n 0 (len+n) (len+n) ((len+n)*z) (grownCap w (len+n) cap' e) _ ⟨w.heap.size,0,((fW++vs).toArray++Builtin.zeroCells zv.cells (grownCap w (len+n) cap' e - (len+n))).size⟩ (by simp[eG,fN]; rfl) (by simp) (avR _) (by omega) (.inr ⟨by omega,db,by simp only; rw[lz]; omega⟩)
         simpa using this
        ·rename_i LP;split at aA
         ·-- beyond the row's end: in place,or it moves
          rename_i A7;subst A7;simp only[Option.some.injEq,Prod.mk.injEq] at aA;obtain⟨rfl,rfl⟩:=aA;obtain⟨agp,ni,Vd⟩:0+cap*z=m/\cap<=cap'/\cn.s+0+cap'*z<=cn.T:=by rcases dC with dC | dC<;>omega
          have l0:m<(len+n)*z:=by
           have:(cap+1)*z<=(len+n)*z:=avX _ (by omega);rw[awJ] at this;omega
          have aii:len*z+n*z=(len+n)*z:=by rw[awJ]
          by_cases eE:len+n<=cap'
          ·have aho:(len+n)*z<=cap'*z:=avX _ eE;have nm:max m (len*z+xs.length)=(len+n)*z:=by omega
           obtain⟨w',h1,ad,aj⟩:=zV (P:=P) rel (cvs:=xs) (vs:=vs) (k:=len*z) ag hm (by omega) cJ.1 (by omega) cJ.2;rw[nm] at ad aj;have ve:bt cs (len*z) xs=cs.take (len*z)++xs:=by
            unfold bt;rw[awB (by omega),awp]
           rw[ve] at ad aj;have ci:(storeCells ((⟨cn.r,cn.s+0,none⟩:Addr).add (len*z)) vs).run P w=.ok () w':=by rw[Addr.m6,axu]; simpa using h1
           refine⟨_,w',μ,Hi (some ⟨cn.r,cn.s+0,none⟩) _ _ _ eE ci,ad,aj,?_⟩;exact .ar z b 0 (len+n) (len+n) ((len+n)*z) cap' _ cn (by simp[eg,ff]; rfl) hm (avR _) (by omega) (.inr ⟨by omega,eE,Vd⟩)
          ·have cz:contents h z (.ar z b 0 len cap m)=some ((cs.drop 0).take (len*z),len) :=by simp[contents,ag]
           obtain⟨bY,_,fW,iw,DR⟩:=wB (P:=P) rel cz (aS.ar z b 0 len cap m cap' cs cn ag hm al ap dC);have yZ:∀ w2:World,(∀ a,w2.cell? a=w.cell? a)->(Builtin.firstCells z len (.slice (some ⟨cn.r,cn.s+0,none⟩) len cap')).run P w2=.ok fW.toArray w2:=fun w2 mV=>by
            have:=DR len (avR _) w2 mV
            rwa [avO (by rw[iw.1,bY]; exact avR _)] at this
           rw[aw2] at bY iw;have aq:=DF i zv av mf (some ⟨cn.r,cn.s+0,none⟩) len cap' fW (by rw[qR]; exact yZ w.drew LO) (by omega) (by rw[mL]; exact dA) (by omega);have db:len+n<=grownCap w (len+n) cap' e:=grownCap_ge _ _ _ _;have DA:us w R h μ (cs.take (len*z)++xs) (fW++vs) :=by
            refine⟨by simp[iw.1,cJ.1],fun j c ai=>?_⟩;by_cases aM:j<(cs.take (len*z)).length
            ·rw[avQ aM] at ai;rw[avQ (by rw[iw.1]; exact aM)];exact iw.2 j c ai
            ·rw[av2 (by omega)] at ai;rw[av2 (by rw[iw.1]; omega),iw.1];exact cJ.2 _ c ai
           have eU:(cs.take (len*z)++xs).length=(len+n)*z:=by rw[avW,bY,bf,awJ]
           obtain⟨lz,ma⟩:=Dk (e:=e) (zv:=zv) (need:=len+n) (cap:=grownCap w (len+n) cap' e) ka eU DA db;have ay:=rel.move (w':=w.drew.alloc (.cells ((fW++vs).toArray++Builtin.zeroCells zv.cells (grownCap w (len+n) cap' e - (len+n))) e)) ag hm rfl rfl rfl rfl eU l0 (by rw[lz]; exact avX _ db) ma;refine⟨_,_,_,aq,ay.1,ay.2,?_⟩;have:=aS.ar (w:=w.drew.alloc (.cells ((fW++vs).toArray++Builtin.zeroCells zv.cells (grownCap w (len+n) cap' e - (len+n))) e)) (R:=R) (h:=h.set b (.cells ((len+n)*z) (cs.take (len*z)++xs))) (μ:=bS μ b (some ⟨w.heap.size,0,((fW++vs).toArray++Builtin.zeroCells zv.cells (grownCap w (len+n) cap' e - (len+n))).size⟩))
            z b 0 (len+n) (len+n) ((len+n)*z) (grownCap w (len+n) cap' e) _ ⟨w.heap.size,0,((fW++vs).toArray++Builtin.zeroCells zv.cells (grownCap w (len+n) cap' e - (len+n))).size⟩ (by simp[eg,ff]; rfl) (by simp) (avR _) (by omega) (.inr ⟨by omega,db,by simp only; rw[lz]; omega⟩)
           simpa using this
         ·-- beyond the row's end,from a place within it: a block of its own,in place or moved
          rename_i A7;simp only[Option.some.injEq,Prod.mk.injEq] at aA;obtain⟨rfl,rfl⟩:=aA;obtain⟨agp,ni,Vd⟩:off+cap*z=m/\cap<=cap'/\cn.s+off+cap'*z<=cn.T:=by rcases dC with dC | dC<;>omega
          have l0:m<off+(len+n)*z:=by
           have:(cap+1)*z<=(len+n)*z:=avX _ (by omega);rw[awJ] at this;omega
          have aii:len*z+n*z=(len+n)*z:=by rw[awJ]
          have pw:=rel.sS hm;by_cases eE:len+n<=cap'
          ·have aho:(len+n)*z<=cap'*z:=avX _ eE;have nm:max m (off+len*z+xs.length)=off+(len+n)*z:=by omega
           obtain⟨w',h1,ad,aj⟩:=zV (P:=P) rel (cvs:=xs) (vs:=vs) (k:=off+len*z) ag hm (by omega) cJ.1 (by omega) cJ.2;rw[nm] at ad aj;have ve:(bt cs (off+len*z) xs).drop off=(cs.drop off).take (len*z)++xs:=by
            unfold bt;rw[awB (as:=cs) (by omega),awp,awE (by simp; omega),ayh];congr 2; omega
           have ci:(storeCells ((⟨cn.r,cn.s+off,none⟩:Addr).add (len*z)) vs).run P w=.ok () w':=by rw[Addr.m6,axu]; exact h1
           have qQ:=aj.Y6 (b:=b) (off:=off) (m:=cn) (h':=(h.set b .dead).push (.cells ((len+n)*z) ((cs.drop off).take (len*z)++xs))) (by rw[eg,kw]) hm (by omega) (by
            rw[eG,eg,eg,ff,ff,ve];have:off+(len+n)*z - off=(len+n)*z:=by omega
            rw[this];funext x;simp only[bS];split
            ·rfl
            ·split<;>rfl) rfl
           refine⟨_,w',_,Hi (some ⟨cn.r,cn.s+off,none⟩) _ _ _ eE ci,ad.trans qQ.1,qQ.2,?_⟩;exact .ar z h.n 0 (len+n) (len+n) ((len+n)*z) cap' _ ⟨cn.r,cn.s+off,cn.T⟩ (by rw[eG,ff,kw]) (by rw[ff]; simp) (avR _) (by omega) (.inr ⟨by omega,eE,by simpa using (by omega:cn.s+off+cap'*z<=cn.T)⟩)
          ·have cz:contents h z (.ar z b off len cap m)=some ((cs.drop off).take (len*z),len) :=by simp[contents,ag]
           obtain⟨bY,_,fW,iw,DR⟩:=wB (P:=P) rel cz (aS.ar z b off len cap m cap' cs cn ag hm al ap dC);have yZ:∀ w2:World,(∀ a,w2.cell? a=w.cell? a)->(Builtin.firstCells z len (.slice (some ⟨cn.r,cn.s+off,none⟩) len cap')).run P w2=.ok fW.toArray w2:=fun w2 mV=>by
            have:=DR len (avR _) w2 mV
            rwa [avO (by rw[iw.1,bY]; exact avR _)] at this
           have aq:=DF i zv av mf (some ⟨cn.r,cn.s+off,none⟩) len cap' fW (by rw[qR]; exact yZ w.drew LO) (by omega) (by rw[mL]; exact dA) (by omega);have db:len+n<=grownCap w (len+n) cap' e:=grownCap_ge _ _ _ _;have DA:us w R h μ ((cs.drop off).take (len*z)++xs) (fW++vs) :=by
            refine⟨by simp[iw.1,cJ.1],fun j c ai=>?_⟩;by_cases aM:j<((cs.drop off).take (len*z)).length
            ·rw[avQ aM] at ai;rw[avQ (by rw[iw.1]; exact aM)];exact iw.2 j c ai
            ·rw[av2 (by omega)] at ai;rw[av2 (by rw[iw.1]; omega),iw.1];exact cJ.2 _ c ai
           have eU:((cs.drop off).take (len*z)++xs).length=(len+n)*z:=by rw[avW,bY,bf,awJ]
           obtain⟨lz,ma⟩:=Dk (e:=e) (zv:=zv) (need:=len+n) (cap:=grownCap w (len+n) cap' e) ka eU DA db;have ay:=rel.push (w':=w.drew.alloc (.cells ((fW++vs).toArray++Builtin.zeroCells zv.cells (grownCap w (len+n) cap' e - (len+n))) e)) _ _ e rfl rfl rfl rfl (by rw[lz,eU]; exact avX _ db) ma;rw[eU] at ay;have hk:=ay.2.kill (b:=b) (sz:=m) (cs:=cs) (h':=(h.set b .dead).push (.cells ((len+n)*z) ((cs.drop off).take (len*z)++xs))) (by rw[eG,cm _ _ _ _ (by omega)]; exact ag) (by rw[fN]; omega) (by
            rw[eG,eG,eg,ff];funext x;simp only[bS];by_cases h1:x=h.n
            ·rw[if_pos h1,if_neg (by omega),if_pos h1]
            ·rw[if_neg h1];split<;>rfl) rfl
           refine⟨_,_,_,aq,ay.1.trans hk.1,hk.2,?_⟩;have:=aS.ar (w:=w.drew.alloc (.cells ((fW++vs).toArray++Builtin.zeroCells zv.cells (grownCap w (len+n) cap' e - (len+n))) e)) (R:=R) (h:=(h.set b .dead).push (.cells ((len+n)*z) ((cs.drop off).take (len*z)++xs))) (μ:=bS μ h.n (some ⟨w.heap.size,0,((fW++vs).toArray++Builtin.zeroCells zv.cells (grownCap w (len+n) cap' e - (len+n))).size⟩))
            z h.n 0 (len+n) (len+n) ((len+n)*z) (grownCap w (len+n) cap' e) _ ⟨w.heap.size,0,((fW++vs).toArray++Builtin.zeroCells zv.cells (grownCap w (len+n) cap' e - (len+n))).size⟩ (by rw[eG,ff,kw]) (by simp) (avR _) (by omega) (.inr ⟨by omega,db,by simp only; rw[lz]; omega⟩)
           simpa using this
     ·cases aA
    | _=>rw[ag] at aA; cases aA
   ·cases aA
theorem JU (rel:cc R B w h μ) {t u ty:TypeId} {s x c:U} {pY bK:Value} {h' : aQ} (aN:BB P u) (aA:sP P h t s x=some (c,h')) (ak:aS w R h μ s pY) (af:aS w R h μ x bK) :
  ∃ v w' μ',(Builtin.append_ #[t,u] ty #[pY,bK]).run P w=.ok v w'/\dY w h μ w' h' μ'/\cc R B w' h' μ'/\aS w' R h' μ' c v:=by
 unfold sP at aA;cases ao:iR P t with
 | none=>rw[ao] at aA; cases aA
 | some e=>
 have k1:=C0 ao;rw[ao] at aA;simp only at aA;cases aw:cM P e with
 | none=>rw[aw] at aA; cases aA
 | some z=>
 cases ea:i5 P e with
 | none=>rw[aw,ea] at aA; cases aA
 | some by_=>
 rw[aw,ea] at aA;simp only at aA;cases ah:contents h z x with
 | none=>rw[ah] at aA; cases aA
 | some PI=>
 obtain⟨xs,n⟩:=PI;rw[ah] at aA;simp only at aA;obtain⟨bf,bn,vs,cJ,agx⟩:=wB (P:=P) rel ah af;have lZ:∀ w2:World,(∀ a,w2.cell? a=w.cell? a)->(Builtin.firstCells z n bK).run P w2=.ok vs.toArray w2:=fun w2 mV=>by
  have:=agx n (avR _) w2 mV
  rwa [avO (by rw[cJ.1,bf]; exact avR _)] at this
 refine Ql rel aw ea aA ak bf cJ (fun base sLen g7 w' eE ci=>run_append_fits k1 aw aN bn (lZ w (fun _=>rfl)) eE ci) (fun i zv av mf base sLen g7 fW ap aq az ag=>?_);have qR:i.size=z:=by simpa [cM,av] using aw
 exact ams k1 av mf aN bn (by rw[qR]; exact lZ w.drew (fun _=>rfl)) ap aq az ag
end

section
variable {P:Program} {w:World} {R:Nat->Prop} {B:Nat} {h:aQ} {μ:cX}
theorem Ah {x:U} {bK:Value} {y n Fz:Nat} {code:BoundsCode} (ag:j0 x y=some n) (af:aS w R h μ x bK) (ax:y<=Fz) :
  n<=y/\(Instr.sliceBound bK Fz code).run P w=.ok n w:=by
 unfold j0 at ag;cases af with
 | int k i=>
  simp only at ag;split at ag
  ·rename_i av;simp only[Option.some.injEq] at ag;subst ag;refine⟨by omega,?_⟩;have:(0<=i/\i<=(Fz:Int)) :=⟨av.1,by omega⟩
   simp[Instr.sliceBound,asIntOf,this]
  ·cases ag
 | _=>simp at ag
def x5 (w:World) (R:Nat->Prop) (h:aQ) (μ:cX) :Option U->Option Value->Prop
 | none,none=>True
 | some c,some v=>aS w R h μ c v
 | _,_=>False
theorem wg {cV av cW:Option U} {sa fq xr:Option Value} {isS:Bool} {len cap cap' l m aG:Nat} (ag:gW len cap cV av cW=some (l,aG,m)) (bn:len<=cap) (db:cap<=cap')
  (h1:x5 w R h μ cV sa) (ad:x5 w R h μ av fq) (aj:x5 w R h μ cW xr) :
  l<=aG/\aG<=m/\m<=cap/\(cW=none->m=cap)/\(Instr.sliceBounds isS len cap' sa fq xr).run P w=.ok (l,aG,if cW.isSome then m else cap') w:=by
 unfold gW at ag;cases cW with
 | none=>
  cases xr with
  | some v=>exact aj.elim
  | none=>
   simp only at ag;cases av with
   | none=>
    cases fq with
    | some v=>exact ad.elim
    | none=>
     simp only at ag;cases cV with
     | none=>
      cases sa with
      | some v=>exact h1.elim
      | none=>
       simp only[Option.some.injEq,Prod.mk.injEq] at ag;obtain⟨rfl,rfl,rfl⟩:=ag;exact⟨by omega,bn,avR _,fun _=>rfl,by simp[Instr.sliceBounds]⟩
     | some c=>
      cases sa with
      | none=>exact h1.elim
      | some v=>
       simp only at ag;cases al:j0 c len with
       | none=>rw[al] at ag; cases ag
       | some l'=>
        rw[al] at ag;simp only[Option.some.injEq,Prod.mk.injEq] at ag;obtain⟨rfl,rfl,rfl⟩:=ag;have af:=Ah (P:=P) (code:=.sliceB) al h1 (avR _);exact⟨af.1,bn,avR _,fun _=>rfl,by simp[Instr.sliceBounds,af.2]⟩
   | some Ki=>
    cases fq with
    | none=>exact ad.elim
    | some aot=>
     simp only at ag;cases tg:j0 Ki cap with
     | none=>rw[tg] at ag; cases ag
     | some h'=>
      rw[tg] at ag;simp only at ag;have af:=Ah (P:=P) (code:=if isS then .sliceAcap else .sliceAlen) tg ad db;cases cV with
      | none=>
       cases sa with
       | some v=>exact h1.elim
       | none=>
        simp only[Option.some.injEq,Prod.mk.injEq] at ag;obtain⟨rfl,rfl,rfl⟩:=ag;exact⟨by omega,af.1,avR _,fun _=>rfl,by simp[Instr.sliceBounds,af.2]⟩
      | some c=>
       cases sa with
       | none=>exact h1.elim
       | some v=>
        simp only at ag;cases al:j0 c h' with
        | none=>rw[al] at ag; cases ag
        | some l'=>
         rw[al] at ag;simp only[Option.some.injEq,Prod.mk.injEq] at ag;obtain⟨rfl,rfl,rfl⟩:=ag;have ax:=Ah (P:=P) (code:=.sliceB) al h1 (avR _);exact⟨ax.1,af.1,avR _,fun _=>rfl,by simp[Instr.sliceBounds,af.2,ax.2]⟩
 | some acY=>
  cases xr with
  | none=>exact aj.elim
  | some avJ=>
   simp only at ag;cases hm:j0 acY cap with
   | none=>rw[hm] at ag; cases ag
   | some cF=>
    rw[hm] at ag;simp only at ag;have af:=Ah (P:=P) (code:=if isS then .slice3Acap else .slice3Alen) hm aj db;cases av with
    | none=>cases ag
    | some Ki=>
     cases fq with
     | none=>exact ad.elim
     | some aot=>
      simp only at ag;cases tg:j0 Ki cF with
      | none=>rw[tg] at ag; cases ag
      | some h'=>
       rw[tg] at ag;simp only at ag;have ax:=Ah (P:=P) (code:=.slice3B) tg ad (avR _);cases cV with
       | none=>
        cases sa with
        | some v=>exact h1.elim
        | none=>
         simp only[Option.some.injEq,Prod.mk.injEq] at ag;obtain⟨rfl,rfl,rfl⟩:=ag;exact⟨by omega,ax.1,af.1,(fun aF=>by cases aF),by simp[Instr.sliceBounds,af.2,ax.2]⟩
       | some c=>
        cases sa with
        | none=>exact h1.elim
        | some v=>
         simp only at ag;cases al:j0 c h' with
         | none=>rw[al] at ag; cases ag
         | some l'=>
          rw[al] at ag;simp only[Option.some.injEq,Prod.mk.injEq] at ag;obtain⟨rfl,rfl,rfl⟩:=ag;have aw:=Ah (P:=P) (code:=.slice3C) al h1 (avR _);exact⟨aw.1,ax.1,af.1,(fun aF=>by cases aF),by simp[Instr.sliceBounds,af.2,ax.2,aw.2]⟩
theorem wn {z:Nat}:∀ (n:Nat) (cs:List U),(mz z n cs).length=n
 | 0,_=>rfl
 | n+1,cs=>by simp[mz,wn n]
theorem F5 {z:Nat}:∀ (n:Nat) (cs:List U) (i:Nat),i<n->(mz z n cs)[i]? = some ((cs.drop (i*z)).take z)
 | 0,_,_,h=>by omega
 | n+1,cs,0,_=>by simp[mz]
 | n+1,cs,i+1,h=>by
  simp only[mz,awx];rw[F5 n _ i (by omega),ayA];congr 3;rw[awD]; omega
theorem Zy (rel:cc R B w h μ) {z b off cap sz l aG m cF cap' : Nat} {cs:List U} {cn:M} {hasMax:Bool} (ag:h.f b=.cells sz cs) (hm:μ b=some cn) (ap:off+cap*z<=sz)
  (dC:(off+cap*z<sz/\cap'=cap)\/(off+cap*z=sz/\cap<=cap'/\cn.s+off+cap'*z<=cn.T)) (h1:l<=aG) (ad:aG<=m) (aj:m<=cap) (aE:hasMax=false->m=cap)
  (b7:cF=if hasMax then m else cap') (ar7:m≠l) :
  aS w R h μ (.ar z b (off+l*z) (aG - l) (m - l) sz) (.slice (some ((⟨cn.r,cn.s+off,none⟩:Addr).add (l*z))) (aG - l) (cF - l)) :=by
 have e0:=rel.blk b cn hm;rw[ag] at e0;have bM:=e0.2.1;rw[Addr.m6,axu];have aR:l*z+(m - l)*z=m*z:=by rw[<-awJ]; congr 1; omega
 have bJ:m*z<=cap*z:=avX _ aj;refine .ar z b _ _ _ sz _ cs cn ag hm (by omega) (by omega) ?_;cases hasMax with
 | false=>
  have A6:=aE rfl;have kB:cF=cap':=by simpa using b7
  rw[kB];rcases dC with ⟨aV,a1⟩ | ⟨aV,a1,a3⟩
  ·rw[<-A6] at aV a1;exact .inl ⟨by omega,by omega⟩
  ·rw[<-A6] at aV a1;refine .inr ⟨by omega,by omega,?_⟩;have dF:l*z+(cap' - l)*z=cap'*z:=by rw[<-awJ]; congr 1; omega
   omega
 | true=>
  have kB:cF=m:=by simpa using b7
  rw[kB];by_cases aM:off+l*z+(m - l)*z<sz
  ·exact .inl ⟨aM,rfl⟩
  ·exact .inr ⟨by omega,avR _,by omega⟩
theorem extract_toList (s:ByteArray) (a b:Nat) :(s.extract a b).data.toList=(s.data.toList.drop a).take (b - a) :=by
 simp[ByteArray.extract,ByteArray.copySlice,List.take_drop]
theorem aS.amq (z:Nat) (p:Prop) [Decidable p] (a b:Addr) (cap:Nat) :aS w R h μ (.bQ z []) (.slice (if p then some a else some b) 0 cap) :=by
 by_cases ay:p
 ·rw[if_pos ay]; exact .fY _ _ _
 ·rw[if_neg ay]; exact .fY _ _ _
theorem aS.Zw (z b off len cap sz cap' : Nat) (p:Prop) [Decidable p] (a fl:Addr) (al:len<=cap) (ah:cap<=cap') (aq:vT h b sz) :
  aS w R h μ (.ar z b off len cap sz) (.slice (if p then some a else some fl) len cap') :=by
 by_cases ay:p
 ·rw[if_pos ay]; exact .gR _ _ _ _ _ _ _ _ al ah aq
 ·rw[if_neg ay]; exact .gR _ _ _ _ _ _ _ _ al ah aq
theorem amV (rel:cc R B w h μ) {t:TypeId} {x c:U} {bK:Value} {cV av cW:Option U} {sa fq xr:Option Value} (ak:Fc P t x cV av cW=some c) (af:aS w R h μ x bK)
  (h1:x5 w R h μ cV sa) (ad:x5 w R h μ av fq) (aj:x5 w R h μ cW xr) :
  ∃ v,(Instr.sliceAt t bK sa fq xr).run P w=.ok v w/\aS w R h μ c v:=by
 unfold Fc at ak;split at ak
 ·-- an array behind its address
  rename_i n e aN;cases aw:cM P e with
  | none=>rw[aw] at ak; cases ak
  | some z=>
  cases ag:gW n n cV av cW with
  | none=>rw[aw,ag] at ak; cases ak
  | some vp=>
  obtain⟨l,aG,m⟩:=vp;rw[aw,ag] at ak;simp only at ak;obtain⟨ce,bP,dn,dG,jn⟩:=wg (P:=P) (isS:=false) ag (avR _) (avR _) h1 ad aj;have agO:(if cW.isSome=true then m else n)=m:=by
   cases cW with
   | none=>simp[dG rfl]
   | some v=>simp
  rw[agO] at jn;split at ak
  ·rename_i b off sz;split at ak
   ·rename_i eE;have Bk:∃ a,bK=.pointer (some a) :=by cases af<;>exact⟨_,rfl⟩
    obtain⟨a,rfl⟩:=Bk;refine⟨_,by simp[Instr.sliceAt,cL aN,Instr.sureAddr,jn,fS aw]; rfl,?_⟩;split at ak
    ·rename_i l3;simp only[Option.some.injEq] at ak; subst ak;have:aG - l=0:=by omega
     rw[this];exact .fY _ _ _
    ·rename_i l3;simp only[Option.some.injEq] at ak; subst ak;rw[if_neg l3];cases af with
     | ptr _ _ _ cs cn bO hm=>
      exact Zy rel (cap:=m) (cap':=m) (hasMax:=true) bO hm eE (by
       have e0:=rel.blk b cn hm;rw[bO] at e0;have bM:=e0.2.1;by_cases aM:off+m*z<sz
       ·exact .inl ⟨aM,rfl⟩
       ·exact .inr ⟨by omega,avR _,by omega⟩) ce bP (avR _) (fun aF=>by cases aF) (by simp) l3
     | nw _ _ _ _ aq=>exact .gR _ _ _ _ _ _ _ _ (by omega) (avR _) aq
   ·cases ak
  ·rename_i cs off;split at ak
   ·rename_i eE;simp only[Option.some.injEq] at ak; subst ak;cases af with
    | b3 _ _ blk o eI ah au=>
     refine⟨_,by simp[Instr.sliceAt,cL aN,Instr.sureAddr,jn,fS aw]; rfl,?_⟩;have h2:aG*z<=n*z:=avX _ (by omega);by_cases l3:m=l
     ·have aR:aG - l=0:=by omega
      rw[aR];exact .fY _ _ _
     ·rw[if_neg l3,Addr.m6];have al:=wn (z:=z) (aG - l) (cs.drop (off+l*z));have jE:∀ i,i<aG - l->∀ j,j<z->off+l*z+(i*z+j)<cs.length:=by
       intro i fq j ai;have:(l+i+1)*z<=aG*z:=avX _ (by omega);rw[awJ,awJ] at this;omega
      have ed:∀ i fH,(mz z (aG - l) (cs.drop (off+l*z)))[i]? = some fH->i<aG - l/\fH=((cs.drop (off+l*z)).drop (i*z)).take z:=by
       intro i fH gn;have fq:i<aG - l:=by
        have:=(avP.1 gn).1;omega
       rw[F5 _ _ _ fq] at gn;simp only[Option.some.injEq] at gn;exact⟨fq,gn.symm⟩
      have:=aS.bQ (w:=w) (R:=R) (h:=h) (μ:=μ) z (mz z (aG - l) (cs.drop (off+l*z))) blk (o+off+l*z) (m - l) (fun i j=>eI (off+l*z+(i*z+j))) (by omega)
       (fun fH gn=>by
        obtain⟨i,fq,rfl⟩:=List.getElem_of_mem gn;obtain⟨aV,a1⟩:=ed i _ (avS fq);rw[a1,av1,awW,awW];have:(l+i+1)*z<=aG*z:=avX _ (by omega);rw[awJ,awJ] at this;omega)
       (fun i j fq ai=>by
        have:=ah (off+l*z+(i*z+j)) (jE i (by omega) j ai);have dF:o+off+l*z+(i*z+j)=o+(off+l*z+(i*z+j)) :=by omega
        rw[dF]; exact this)
       (fun i fH gn j c ai=>by
        obtain⟨aV,rfl⟩:=ed i _ gn;have nl:j<z:=by
         have:=(avP.1 ai).1;rw[av1] at this; omega
        rw[awb nl,awv,awv,] at ai;exact au _ c ai)
      rw[al] at this;exact this
   ·cases ak
  ·cases ak
 ·-- a slice
  rename_i e aN;split at ak
  ·rename_i z dO b off len cap sz aw;split at ak
   ·rename_i vj; subst vj;cases ag:gW len cap cV av cW with
    | none=>rw[ag] at ak; cases ak
    | some vp=>
    obtain⟨l,aG,m⟩:=vp;rw[ag] at ak;simp only[avZ,Option.some.injEq] at ak;cases af with
    | ar _ _ _ _ _ _ cap' cs cn bO hm al ap dC=>
     have U4:cap<=cap':=by rcases dC with dC | dC<;>omega
     obtain⟨ce,bP,dn,dG,jn⟩:=wg (P:=P) (isS:=true) ag al U4 h1 ad aj;refine⟨_,by simp[Instr.sliceAt,Instr.slice,cL aN,jn,fS aw]; rfl,?_⟩;split at ak
     ·rename_i l3;subst ak;have:aG - l=0:=by omega
      rw[this];by_cases tt:(if cW.isSome=true then m else cap')=l
      ·rw[if_pos tt,tt,axX];exact .ig _ _ _ _ _ _ cn bO hm
      ·rw[if_neg tt];cases cW with
       | some v=>exact absurd (by simpa using l3) tt
       | none=>
        have A6:=dG rfl;simp only[axR,axf,if_false] at tt ⊢;have ej:cap=l:=by omega
        have ao:off+cap*z=sz/\cap<=cap'/\cn.s+off+cap'*z<=cn.T:=by rcases dC with dC | dC<;>omega
        have u9:l*z+(cap' - l)*z=cap'*z:=by rw[<-awJ]; congr 1; omega
        subst ej;rw[Addr.m6];have:=aS.ar (w:=w) (R:=R) (h:=h) (μ:=μ) z b (off+cap*z) 0 0 sz (cap' - cap) _ cn bO hm (avR _) (by omega) (.inr ⟨by omega,by omega,by omega⟩)
        rwa [<-axu] at this
     ·rename_i l3;subst ak;have bI:¬ ((if cW.isSome=true then m else cap')=l) :=by
       cases cW with
       | none=>have:=dG rfl; simp; omega
       | some v=>simpa using l3
      rw[if_neg bI];exact Zy rel (hasMax:=cW.isSome) bO hm ap dC ce bP dn (fun aF=>dG (by simpa using aF)) rfl l3
    | ig _ _ _ _ a cs cn bO hm=>
     obtain⟨ce,bP,dn,dG,jn⟩:=wg (P:=P) (isS:=true) ag (avR 0) (avR 0) h1 ad aj;refine⟨_,by simp[Instr.sliceAt,Instr.slice,cL aN,jn,fS aw]; rfl,?_⟩;have je:m=0:=by
      cases cW with
      | none=>exact dG rfl
      | some v=>simp at dn; omega
     have rS:l=0:=by omega
     have agI:aG=0:=by omega
     subst je rS agI;simp only[if_true] at ak;subst ak;simp;exact .ig _ _ _ _ _ _ cn bO hm
    | gR _ _ _ _ _ _ cap' a al dC aq=>
     obtain⟨ce,bP,dn,dG,jn⟩:=wg (P:=P) (isS:=true) ag al dC h1 ad aj;refine⟨_,by simp[Instr.sliceAt,Instr.slice,cL aN,jn,fS aw]; rfl,?_⟩;split at ak
     ·rename_i l3;subst ak;have:aG - l=0:=by omega
      rw[this];exact aS.Zw _ _ _ _ _ _ _ _ _ _ (avR _) (aw4 _) aq
     ·rename_i l3;subst ak;have dw:m<=(if cW.isSome=true then m else cap') :=by split<;>omega
      exact aS.Zw _ _ _ _ _ _ _ _ _ _ (by omega) (by omega) aq
   ·cases ak
  ·rename_i z dO es aw;split at ak
   ·rename_i vj; subst vj;cases ag:gW es.length es.length cV av cW with
    | none=>rw[ag] at ak; cases ak
    | some vp=>
    obtain⟨l,aG,m⟩:=vp;rw[ag] at ak;simp only[avZ,Option.some.injEq] at ak;subst ak;cases af with
    | bQ _ _ blk off cap eI al w9 ah au=>
     obtain⟨ce,bP,dn,dG,jn⟩:=wg (P:=P) (isS:=true) ag (avR _) al h1 ad aj;refine⟨_,by simp[Instr.sliceAt,Instr.slice,cL aN,jn,fS aw]; rfl,?_⟩;have bn:((es.drop l).take (aG - l)).length=aG - l:=by rw[av1,awW]; omega
     have dw:aG<=(if cW.isSome=true then m else cap) :=by
      cases cW with
      | none=>simp only[axR,axf,if_false]; omega
      | some v=>simpa using bP
     by_cases l3:(if cW.isSome=true then m else cap)=l
     ·have aR:aG - l=0:=by omega
      rw[if_pos l3,aR,aw9];exact .fY _ _ _
     ·rw[if_neg l3,Addr.m6];have ed:∀ i fH,((es.drop l).take (aG - l))[i]? = some fH->i<aG - l/\es[l+i]? = some fH:=by
       intro i fH gn;have fq:i<aG - l:=by
        have:=(avP.1 gn).1;omega
       rw[awb fq,awv] at gn;exact⟨fq,gn⟩
      have:=aS.bQ (w:=w) (R:=R) (h:=h) (μ:=μ) z ((es.drop l).take (aG - l)) blk (off+l*z) ((if cW.isSome=true then m else cap) - l) (fun i j=>eI (l+i) j) (by omega)
       (fun fH gn=>w9 fH (axo (awh gn)))
       (fun i j fq ai=>by
        have:=ah (l+i) j (by omega) ai;have dF:off+l*z+(i*z+j)=off+((l+i)*z+j) :=by rw[awJ]; omega
        rw[dF]; exact this)
       (fun i fH gn j c ai=>au (l+i) fH (ed i fH gn).2 j c ai)
      rw[bn] at this;exact this
    | fY _ a cap=>
     obtain⟨ce,bP,dn,dG,jn⟩:=wg (P:=P) (isS:=true) ag (avR _) (aw4 cap) h1 ad aj;refine⟨_,by simp at jn; simp[Instr.sliceAt,Instr.slice,cL aN,jn,fS aw]; rfl,?_⟩;have aR:aG - l=0:=by simp at dn; omega
     rw[aR,aw9];exact aS.amq _ _ _ _ _
   ·cases ak
  ·rename_i z aw;cases af;cases ag:gW 0 0 cV av cW with
   | none=>rw[ag] at ak; cases ak
   | some vp=>
   obtain⟨l,aG,m⟩:=vp;rw[ag] at ak;simp only[avZ,Option.some.injEq] at ak;subst ak;obtain⟨ce,bP,dn,dG,jn⟩:=wg (P:=P) (isS:=true) ag (avR _) (avR _) h1 ad aj;obtain rfl:m=0:=by omega
   obtain rfl:aG=0:=by omega
   obtain rfl:l=0:=by omega
   refine⟨_,by simp[Instr.sliceAt,Instr.slice,cL aN,jn,fS aw]; rfl,?_⟩;exact .aT
  ·cases ak
 ·-- a string
  rename_i s aN;split at ak
  ·cases af with
   | str bs=>
    cases ag:gW bs.data.toList.length bs.data.toList.length cV av none with
    | none=>rw[ag] at ak; cases ak
    | some vp=>
    obtain⟨l,aG,m⟩:=vp;rw[ag] at ak;simp only[avZ,Option.some.injEq] at ak;subst ak;cases xr with
    | some v=>exact aj.elim
    | none=>
     have hh:bs.data.toList.length=bs.size:=by simp
     rw[hh] at ag;obtain⟨ce,bP,dn,dG,jn⟩:=wg (P:=P) (isS:=false) ag (avR _) (avR _) h1 ad aj;refine⟨.string (bs.extract l aG),by simp[Instr.sliceAt,Instr.slice,cL aN,jn],?_⟩;rw[<-extract_toList];exact .str _
  ·cases ak
 ·cases ak
end

section
variable {P:Program} {w:World} {R:Nat->Prop} {B:Nat} {h:aQ} {μ:cX}
def lQ (w:World) (R:Nat->Prop) (h:aQ) (μ:cX) (cs:List U) (arr:Array Value) :Prop:=
 arr.size=cs.length/\∀ (j:Nat) (c:U),cs[j]? = some c->∃ v:Value,arr[j]? = some v/\v.oneCell'=true/\aS w R h μ c v
theorem lQ.aH {cs:List U} {arr:Array Value} (az:lQ w R h μ cs arr) :aS w R h μ (.aH cs) (.agg arr) :=by
 refine .aH _ _ az.1 (fun j v ai=>?_) (fun j c v ah ai=>?_)
 ·have aM:j<cs.length:=by have:=(awq.1 ai).1; rw[<-az.1]; exact this
  obtain⟨u,h1,ad,_⟩:=az.2 j _ (avS aM);rw[ai] at h1; cases h1; exact ad
 ·obtain⟨u,h1,_,aj⟩:=az.2 j c ah;rw[ai] at h1; cases h1; exact aj
theorem TY:∀ (l:List Value) (k off:Nat) (cells:Array Value),off+k+l.length<=cells.size->
  ((l.zipIdx k).foldl (fun cs (wo:Value × Nat)=>cs.setIfInBounds (off+wo.2) wo.1) cells).size=cells.size ∧
  ∀ j,((l.zipIdx k).foldl (fun cs (wo:Value × Nat)=>cs.setIfInBounds (off+wo.2) wo.1) cells)[j]? = if off+k<=j/\j<off+k+l.length then l[j - (off+k)]? else cells[j]?
 | [],k,off,cells,_=>⟨by simp,fun j=>by simp; omega⟩
 | v::l,k,off,cells,al=>by
  simp only[awa] at al;have aJ:=TY l (k+1) off (cells.setIfInBounds (off+k) v) (by simp; omega);simp only[List.zipIdx_cons,ay1];refine⟨by rw[aJ.1]; simp,fun j=>?_⟩;rw[aJ.2 j];by_cases ai:off+(k+1)<=j/\j<off+(k+1)+l.length
  ·rw[if_pos ai,if_pos (by simp only[awa]; omega)];have:j - (off+k)=(j - (off+(k+1)))+1:=by omega
   rw[this,awx]
  ·rw[if_neg ai,axb];by_cases ao:off+k=j
   ·subst ao;rw[if_pos rfl,if_pos (by omega),if_pos (by simp only[awa]; omega)];simp
   ·rw[if_neg ao,if_neg (by simp only[awa]; omega)]
theorem Gn {lH:Nat->Option (Nat × Nat)}:∀ (parts:List (Nat × U)) (lg:List (Nat × Value)) (cs:List U) (arr:Array Value) (cs' : List U),
  hP lH cs parts=some cs'->lQ w R h μ cs arr->lg.length=parts.length->(∀ (j:Nat) (p:Nat × U) (bV:Nat × Value),parts[j]? = some p->lg[j]? = some bV->bV.1=p.1/\aS w R h μ p.2 bV.2)->
  ∃ arr',Instr.fill lH arr lg=some arr'/\lQ w R h μ cs' arr'
 | [],[],cs,arr,cs',aF,az,_,_=>by
  simp only[hP,Option.some.injEq] at aF; subst aF;exact⟨arr,rfl,az⟩
 | [],_::_,_,_,_,_,_,al,_=>by simp at al
 | _::_,[],_,_,_,_,_,al,_=>by simp at al
 | (i,c) ::parts,(fU,v) ::lg,cs,arr,cs',aF,az,al,ay=>by
  obtain⟨rfl,au⟩:=ay 0 (i,c) (fU,v) rfl rfl;simp only at au;unfold hP at aF;cases gq:lH fU with
  | none=>rw[gq] at aF; cases aF
  | some os=>
  obtain⟨off,size⟩:=os;cases ah:c.cells with
  | none=>rw[gq,ah] at aF; cases aF
  | some vs=>
  rw[gq,ah] at aF;simp only at aF;split at aF
  ·rename_i j7;obtain⟨hh,np⟩:=F3 au ah;have yT:v.cells.toList.length=vs.length:=by simpa using hh
   have nj:=TY v.cells.toList 0 off arr (by rw[az.1,yT]; omega);have aiz:v.cells.zipIdx.foldl (fun cs (x:Value × Nat)=>match x with | (c,j)=>cs.setIfInBounds (off+j) c) arr=(v.cells.toList.zipIdx 0).foldl (fun cs (wo:Value × Nat)=>cs.setIfInBounds (off+wo.2) wo.1) arr:=by
    rw[<-Array.foldl_toList];simp
   obtain⟨arr',h1,ad⟩:=Gn parts lg (bt cs off vs) (v.cells.zipIdx.foldl (fun cs (x:Value × Nat)=>match x with | (c,j)=>cs.setIfInBounds (off+j) c) arr) cs' aF (by
     rw[aiz];refine⟨by rw[nj.1,az.1,sv (by omega)]; omega,fun j x ai=>?_⟩;rw[nj.2 j];rw[O1 (by omega)] at ai;split at ai
     ·rename_i aM;rw[if_neg (by omega)];exact az.2 j x ai
     ·split at ai
      ·rename_i h1 ad;rw[if_pos (by rw[yT]; omega)];obtain⟨u,aV,a1,a3⟩:=np _ x ai;exact⟨u,by simpa using aV,a1,a3⟩
      ·rename_i h1 ad;rw[if_neg (by rw[yT]; omega)];exact az.2 j x ai) (by simpa using al) (fun j p bV ai dv=>ay (j+1) p bV (by simpa using ai) (by simpa using dv))
   refine⟨arr',?_,ad⟩;have rT:¬ (v.cells.size≠size\/off+v.cells.size > arr.size) :=by rw[hh,az.1]; omega
   simp only[Instr.fill,gq];rw[if_neg (by simpa using rT)];exact h1
  ·cases aF
theorem x0 {t:TypeId} {z:List U} (aw:hV P t=some z) :∃ v,(∀ w2:World,(zeroValue t).run P w2=.ok v w2)/\lQ w R h μ z v.cells:=by
 obtain⟨i,v,av,au,ak,ah⟩:=aaM (w:=w) (R:=R) (h:=h) (μ:=μ) aw;exact⟨v,fun w2=>Zl av au,ak,ah⟩
theorem amw {fs:Array Field} (ak:(fs.toList.all fun f=>(cM P f.type).isSome)=true) :
  (fs.mapM fun f=>(do pure (f.offset,<-sizeOf f.type) :Sem (Nat × Nat))).run P w=.ok ((fs.toList.map fun f=>(f.offset,(cM P f.type).getD 0)).toArray) w:=by
 rw[Array.mapM_eq_mapM_toList];simp only[Sem.run_map];have:∀ l:List Field,(l.all fun f=>(cM P f.type).isSome)=true->(l.mapM fun f=>(do pure (f.offset,<-sizeOf f.type) :Sem (Nat × Nat))).run P w=.ok (l.map fun f=>(f.offset,(cM P f.type).getD 0)) w:=by
  intro l
  induction l with
  | nil=>intro _; simp
  | cons f l aJ=>
   intro al;simp only[ay9,avU] at al;obtain⟨n,aC⟩:=ayN.1 al.1;simp only[axx,Sem.run_bind,fS aC,Result.andThen_ok,Sem.run_pure,aJ al.2,awn,aC,awF]
 rw[this _ ak];rfl
theorem acs {t:TypeId} {parts:List (Nat × U)} {lg:Array (Nat × Value)} {c:U} (ag:CB P t parts=some c) (al:lg.size=parts.length)
  (ay:∀ (j:Nat) (p:Nat × U) (bV:Nat × Value),parts[j]? = some p->lg[j]? = some bV->bV.1=p.1/\aS w R h μ p.2 bV.2) :
  ∃ v,(Instr.build t lg).run P w=.ok v w/\aS w R h μ c v:=by
 unfold CB at ag;split at ag
 ·rename_i zero fs aw aN;split at ag
  ·cases ag
  ·rename_i hh;simp only[aw5,Bool.not_eq_false] at hh;cases aF:hP (ES P fs) zero parts with
   | none=>rw[aF] at ag; cases ag
   | some cs=>
    rw[aF] at ag;simp only[avZ,Option.some.injEq] at ag; subst ag;obtain⟨v,au,az⟩:=x0 (w:=w) (R:=R) (h:=h) (μ:=μ) aw;obtain⟨arr',h1,ad⟩:=Gn parts lg.toList zero v.cells cs aF az (by simpa using al) (fun j p bV ai dv=>ay j p bV ai (by simpa using dv));have ahN:(fun i=>((fs.toList.map fun f=>(f.offset,(cM P f.type).getD 0)).toArray)[i]?)=ES P fs:=by
     funext i;simp only[ES];simp only[ayp,avV,axG];cases u4:fs[i]? with
     | none=>simp
     | some f=>
      rw[awG] at hh;have:=hh f (by have:=Array.mem_of_getElem? u4; simpa using this);obtain⟨n,aC⟩:=ayN.1 this;simp[aC]
    refine⟨_,?_,ad.aH⟩;simp only[Instr.build,Sem.run_bind,au,Result.andThen_ok,cL aN,amw hh];rw[ahN,h1];simp
 ·rename_i zero n e aw aN;cases hh:cM P e with
  | none=>rw[hh] at ag; cases ag
  | some m=>
   rw[hh] at ag;simp only at ag;cases aF:hP (fun i=>some (i*m,m)) zero parts with
   | none=>rw[aF] at ag; cases ag
   | some cs=>
    rw[aF] at ag;simp only[avZ,Option.some.injEq] at ag; subst ag;obtain⟨v,au,az⟩:=x0 (w:=w) (R:=R) (h:=h) (μ:=μ) aw;obtain⟨arr',h1,ad⟩:=Gn parts lg.toList zero v.cells cs aF az (by simpa using al) (fun j p bV ai dv=>ay j p bV ai (by simpa using dv));refine⟨_,?_,ad.aH⟩;simp only[Instr.build,Sem.run_bind,au,Result.andThen_ok,cL aN,fS hh];rw[h1];simp
 ·cases ag
theorem zG {zero:List U}:∀ n,(dN zero n).length=n*zero.length
 | 0=>by simp[dN]
 | n+1=>by simp only[dN,avW,zG n,awD]; omega
theorem Y5 {zero:List U}:∀ (n j:Nat) (c:U),(dN zero n)[j]? = some c->zero[j % zero.length]? = some c
 | 0,_,_,ai=>by simp[dN] at ai
 | n+1,j,c,ai=>by
  simp only[dN] at ai;by_cases aM:j<zero.length
  ·rw[avQ aM] at ai
   rwa [av4 aM]
  ·rw[av2 (by omega)] at ai;have:=Y5 n _ c ai
   rwa [<-Nat.mod_eq_sub_mod (by omega)] at this
theorem IY {zero:List U} {z:Array Value} (az:lQ w R h μ zero z) (n:Nat) :lQ w R h μ (dN zero n) ((Array.range (n*zero.length)).map (z[· % z.size]!)) :=by
 refine⟨by simp[zG],fun j c ai=>?_⟩;have aM:j<n*zero.length:=by
  have:=(avP.1 ai).1
  rwa [zG] at this
 obtain⟨v,h1,ad,aj⟩:=az.2 _ c (Y5 n j c ai);refine⟨v,?_,ad,aj⟩;rw[<-az.1] at h1;obtain⟨ag,rfl⟩:=awq.1 h1;simp[aM,ag]
theorem ad8 {z:Nat}:∀ (parts:List (Nat × U)) (a b:List U),hP (fun i=>some (i*z,z)) a parts=some b->b.length=a.length:=by
 intro parts
 induction parts with
 | nil=>intro a b fo; simp only[hP,Option.some.injEq] at fo; subst fo; rfl
 | cons p parts aJ=>
  intro a b fo;unfold hP at fo;split at fo
  ·rename_i off size vs gq iV;split at fo
   ·rw[aJ _ _ fo,sv (by omega)]; omega
   ·cases fo
  ·cases fo
theorem QF {t e:TypeId} {len z:Nat} {zero cs:List U} {parts:List (Nat × U)} {lg:Array (Nat × Value)} (ao:iR P t=some e) (aw:cM P e=some z) (jj:hV P e=some zero) (h6:zero.length=z) (nm:len*z<=16777216)
  (aF:hP (fun i=>some (i*z,z)) (dN zero len) parts=some cs) (al:lg.size=parts.length)
  (ay:∀ (j:Nat) (p:Nat × U) (bV:Nat × Value),parts[j]? = some p->lg[j]? = some bV->bV.1=p.1/\aS w R h μ p.2 bV.2) :
  cs.length=len*z/\∃ arr,(Instr.buildSlice t len lg).run P w=.ok (.slice (some ⟨w.heap.size,0,none⟩) len len) (w.alloc (.cells arr e))/\lQ w R h μ cs arr:=by
 obtain⟨v,au,az⟩:=x0 (w:=w) (R:=R) (h:=h) (μ:=μ) jj;obtain⟨arr',h1,ad⟩:=Gn parts lg.toList _ _ cs aF (IY az len) (by simpa using al) (fun j p bV ai dv=>ay j p bV ai (by simpa using dv));refine⟨by rw[ad8 _ _ _ aF,zG,h6],arr',?_,ad⟩;have k1:=C0 ao;have ahi:¬ (len*z > 2 ^ 24) :=by omega
 simp only[Instr.buildSlice,Sem.run_bind,cL k1,Result.andThen_ok,fS aw,if_neg ahi];rw[h6] at h1;generalize fy:len*z=N at h1;by_cases aD:N=0
 ·subst aD;have gQ:∀ f:Nat->Value,(Array.range 0).map f=#[] :=fun f=>by simp[Array.range]
  rw[gQ] at h1;simp[gQ,h1,newRow]
 ·simp[aD,au,h1,newRow]
theorem acr (rel:cc R B w h μ) {t:TypeId} {len:Nat} {parts:List (Nat × U)} {lg:Array (Nat × Value)} {c:U} {h' : aQ} (ag:FW P h t len parts=some (c,h')) (al:lg.size=parts.length)
  (ay:∀ (j:Nat) (p:Nat × U) (bV:Nat × Value),parts[j]? = some p->lg[j]? = some bV->bV.1=p.1/\aS w R h μ p.2 bV.2) :
  ∃ v w' μ',(Instr.buildSlice t len lg).run P w=.ok v w'/\dY w h μ w' h' μ'/\cc R B w' h' μ'/\aS w' R h' μ' c v:=by
 unfold FW at ag;cases ao:iR P t with
 | none=>rw[ao] at ag; cases ag
 | some e=>
 rw[ao] at ag;simp only at ag;cases aw:cM P e with
 | none=>rw[aw] at ag; cases ag
 | some z=>
 cases jj:hV P e with
 | none=>rw[aw,jj] at ag; cases ag
 | some zero=>
 rw[aw,jj] at ag;simp only at ag;split at ag
 ·rename_i j7;obtain⟨h6,nm⟩:=j7;cases aF:hP (fun i=>some (i*z,z)) (dN zero len) parts with
  | none=>rw[aF] at ag; cases ag
  | some cs=>
   rw[aF] at ag;simp only[avZ,Option.some.injEq,Prod.mk.injEq] at ag;obtain⟨rfl,rfl⟩:=ag;obtain⟨ej,arr',hv,ad⟩:=QF ao aw jj h6 nm aF al ay;have aA:=FK rel (cs:=cs) (vs:=arr') e ad.1 ad.2;rw[ej] at aA;obtain⟨aV,a1,a3⟩:=aA;refine⟨.slice (some ⟨w.heap.size,0,none⟩) len len,_,_,hv,aV,a1,?_⟩;have:=aS.ar (w:=w.alloc (.cells arr' e)) (R:=R) (h:=h.push (.cells (len*z) cs)) (μ:=bS μ h.n (some ⟨w.heap.size,0,arr'.size⟩)) z h.n 0 len len (len*z) len cs ⟨w.heap.size,0,arr'.size⟩ (by simp[eG,fN]) (by simp) (avR _) (by omega)
    (.inr ⟨by omega,avR _,by simp only; rw[ad.1,ej]; omega⟩)
   simpa using this
 ·cases ag
theorem Xt {t e:TypeId} {z by_:Nat} {zero:List U} {kl kc:IntKind} {li hM:Int} (ao:iR P t=some e) (aw:cM P e=some z) (ea:i5 P e=some by_) (jj:hV P e=some zero) (h6:zero.length=z)
  (aD:0<=li) (mP:li<=hM) (Ha:hM<9223372036854775808) (dA:by_*hM<=cy) :
  (dN zero hM.toNat).length=hM.toNat*z/\∃ arr,(Instr.makeSlice t (.int kl li) (.int kc hM)).run P w=.ok (.slice (some ⟨w.heap.size,0,none⟩) li.toNat hM.toNat) (w.alloc (.cells arr e))/\lQ w R h μ (dN zero hM.toNat) arr:=by
 obtain⟨v,au,az⟩:=x0 (w:=w) (R:=R) (h:=h) (μ:=μ) jj;have cJ:=IY az hM.toNat
 refine⟨by rw[zG,h6],_,?_,cJ⟩;obtain⟨i,av,U3⟩:∃ i,P.info? e=some i/\i.bytes=by_:=by
  unfold i5 at ea;cases av:P.info? e with
  | none=>rw[av] at ea; cases ea
  | some i=>rw[av] at ea; exact⟨i,rfl,by simpa using ea⟩
 have w7:IntKind.i64.wrap li=li:=IntWalk.i64_in _ (by omega);have Bm:IntKind.i64.wrap hM=hM:=IntWalk.i64_in _ (by omega);have k1:=C0 ao;unfold cy at dA;have t1:¬ (hM<0\/(281474976710656:Int)<(by_:Int)*hM) :=by omega
 have t2:¬ (li<0) :=by omega
 have t3:¬ (hM<li) :=by omega
 rw[h6];generalize fy:hM.toNat*z=N;by_cases tt:N=0
 ·subst tt;have gQ:∀ f:Nat->Value,(Array.range 0).map f=#[] :=fun f=>by simp[Array.range]
  simp[gQ,Instr.makeSlice,cL k1,Go.asInt,asIntOf,typeInfo,av,U3,w7,Bm,t1,t2,t3,fS aw,fy,newRow]
 ·simp[Instr.makeSlice,cL k1,Go.asInt,asIntOf,typeInfo,av,U3,w7,Bm,t1,t2,t3,fS aw,fy,tt,au,newRow]
theorem aj5 (rel:cc R B w h μ) {t:TypeId} {l c r:U} {Ie uH:Value} {h' : aQ} (hm:Ig P h t l c=some (r,h')) (al:aS w R h μ l Ie) (ah:aS w R h μ c uH) :
  ∃ v w' μ',(Instr.makeSlice t Ie uH).run P w=.ok v w'/\dY w h μ w' h' μ'/\cc R B w' h' μ'/\aS w' R h' μ' r v:=by
 unfold Ig at hm;split at hm
 ·rename_i e li hM ao fE dh;obtain⟨kl,rfl⟩:=sQ fE al;obtain⟨kc,rfl⟩:=sQ dh ah;cases aw:cM P e with
  | none=>rw[aw] at hm; cases hm
  | some z=>
  cases ea:i5 P e with
  | none=>rw[aw,ea] at hm; cases hm
  | some by_=>
  cases jj:hV P e with
  | none=>rw[aw,ea,jj] at hm; cases hm
  | some zero=>
  rw[aw,ea,jj] at hm;simp only at hm;split at hm
  ·rename_i j7;obtain⟨h6,aD,mP,Ha,dA⟩:=j7;simp only[Option.some.injEq,Prod.mk.injEq] at hm;obtain⟨rfl,rfl⟩:=hm;obtain⟨bn,arr,hv,cJ⟩:=Xt (w:=w) (R:=R) (h:=h) (μ:=μ) (kl:=kl) (kc:=kc) ao aw ea jj h6 aD mP Ha dA;have aA:=FK rel (cs:=dN zero hM.toNat) e cJ.1 cJ.2;rw[bn] at aA;obtain⟨aV,a1,a3⟩:=aA;refine⟨.slice (some ⟨w.heap.size,0,none⟩) li.toNat hM.toNat,_,_,hv,aV,a1,?_⟩;have:=aS.ar (w:=w.alloc (.cells arr e)) (R:=R) (h:=h.push (.cells (hM.toNat*z) (dN zero hM.toNat))) (μ:=bS μ h.n (some ⟨w.heap.size,0,arr.size⟩))
    z h.n 0 li.toNat hM.toNat (hM.toNat*z) hM.toNat (dN zero hM.toNat) ⟨w.heap.size,0,arr.size⟩ (by simp[eG,fN]) (by simp) (by omega) (by omega)
    (.inr ⟨by omega,avR _,by simp only; rw[cJ.1,bn]; omega⟩)
   simpa using this
  ·cases hm
 ·cases hm
theorem ajO {t u:TypeId} {ty:TypeId} {x c:U} {bK:Value} (ah:zk P t x=some c) (af:aS w R h μ x bK) :∃ v,(Builtin.len_ #[t] ty #[bK]).run P w=.ok v w/\aS w R h μ c v:=by
 unfold zk at ah;split at ah<;>(try (simp only[Option.some.injEq] at ah; subst ah))
 ·rename_i s aN;cases af;rename_i bs;exact⟨goInt bs.size,by simp[Builtin.len_,cL aN],by rw[show (bs.data.toList.length:Int)=bs.size from by simp]; exact .int _ _⟩
 ·rename_i n e aN;exact⟨goInt n,by simp[Builtin.len_,cL aN],.int _ _⟩
 ·rename_i e aN;cases af;exact⟨goInt (0:Nat),by simp[Builtin.len_,cL aN],.int _ _⟩
 ·rename_i e z b off len cap sz aN;cases af
  ·exact⟨goInt len,by simp[Builtin.len_,cL aN],.int _ _⟩
  ·exact⟨goInt len,by simp[Builtin.len_,cL aN],.int _ _⟩
  ·exact⟨goInt (0:Nat),by simp[Builtin.len_,cL aN],.int _ _⟩
 ·rename_i e z es aN;cases af
  ·exact⟨goInt es.length,by simp[Builtin.len_,cL aN],.int _ _⟩
  ·exact⟨goInt (0:Nat),by simp[Builtin.len_,cL aN],.int _ _⟩
 ·rename_i k e aN;cases af;exact⟨goInt 0,by simp[Builtin.len_,cL aN],.int _ _⟩
 ·cases ah
end

section
variable {P:Program} {w:World} {R:Nat->Prop} {B:Nat} {h:aQ} {μ:cX}
theorem tO {t:TypeId} {cs:List U} {vs:Array Value} {off:Nat} {c:U} (ay:ic P t cs off=some c) (az:lQ w R h μ cs vs) :
  ∃ v,(∀ w2:World,(part t vs off).run P w2=.ok v w2)/\aS w R h μ c v:=by
 unfold ic at ay;cases pv:eB P t with
 | none=>rw[pv] at ay; cases ay
 | some b=>
  rw[pv] at ay;cases b with
  | false=>
   simp only at ay;obtain⟨v,h1,_,aj⟩:=az.2 off c ay;exact⟨v,fun w2=>by simp[part,I3 pv,h1],aj⟩
  | true=>
   cases aC:cM P t with
   | none=>rw[aC] at ay; cases ay
   | some n=>
    rw[aC] at ay;simp only at ay;split at ay
    ·rename_i dw;simp only[Option.some.injEq] at ay;subst ay;refine⟨.agg (vs.extract off (off+n)),fun w2=>by simp[part,I3 pv,fS aC],lQ.aH ⟨by simp; rw[az.1]; omega,fun j c ai=>?_⟩⟩;have kX:j<n:=by
      have:=(avP.1 ai).1;rw[av1] at this; omega
     rw[awb kX,awv] at ai;obtain⟨v,h1,ad,aj⟩:=az.2 _ c ai;refine⟨v,?_,ad,aj⟩;rw[Array.getElem?_extract,if_pos (by rw[az.1]; omega)];exact h1
    ·cases ay
theorem wa {cs:List U} {bK:Value} (af:aS w R h μ (.aH cs) bK) :∃ vs,bK=.agg vs/\lQ w R h μ cs vs:=by
 cases af with
 | aH _ vs al h1 au=>
  refine⟨vs,rfl,al,fun j c ai=>?_⟩;have aM:j<vs.size:=by rw[al]; exact (avP.1 ai).1
  exact⟨vs[j],by simp[aM],h1 j _ (by simp[aM]),au j c _ ai (by simp[aM])⟩
theorem ad4 {t:TypeId} {cs:List U} {f:Nat} {fd:Field} {c:U} {bK:Value} (aF:yp P t f=some fd) (ay:ic P fd.type cs fd.offset=some c) (af:aS w R h μ (.aH cs) bK) :
  ∃ v,(Instr.field t bK f).run P w=.ok v w/\aS w R h μ c v:=by
 obtain⟨fs,aN,nj⟩:=TD aF;obtain⟨vs,rfl,az⟩:=wa af;obtain⟨v,h1,ad⟩:=tO (P:=P) ay az;exact⟨v,by simp[Instr.field,cL aN,nj,asAgg,h1],ad⟩
theorem M5 {t:TypeId} {x hc c:U} {bK Ej:Value} (ah:Bt P t x hc=some c) (af:aS w R h μ x bK) (av:aS w R h μ hc Ej) :
  ∃ v,(Instr.index t bK Ej).run P w=.ok v w/\aS w R h μ c v:=by
 unfold Bt at ah;split at ah
 ·rename_i n e cs i aN fJ;obtain⟨k,rfl⟩:=sQ fJ av;cases aw:cM P e with
  | none=>rw[aw] at ah; cases ah
  | some z=>
   rw[aw] at ah;simp only at ah;split at ah
   ·rename_i ag;obtain⟨vs,rfl,az⟩:=wa af;obtain⟨v,h1,ad⟩:=tO (P:=P) ah az;exact⟨v,by simp[Instr.index,asIntOf,cL aN,ag,fS aw,h1],ad⟩
   ·cases ah
 ·rename_i s i aN fJ;obtain⟨k,rfl⟩:=sQ fJ av;split at ah
  ·rename_i ag;cases af with
   | str bs=>
    cases G5:bs.data.toList[i.toNat]? with
    | none=>rw[G5] at ah; cases ah
    | some b=>
     rw[G5] at ah;simp only[avZ,Option.some.injEq] at ah;subst ah;have aM:i.toNat<bs.size:=by have:=(avP.1 G5).1; simpa using this
     have ed:bs[i.toNat]? = some b:=by
      have gb:=(avP.1 G5).2;rw[getElem?_pos bs i.toNat aM];simp only[Option.some.injEq];rw[<-gb];rfl
     exact⟨.int .u8 b.toNat,by simp[Instr.index,asIntOf,cL aN,ag,ed],.int _ _⟩
  ·cases ah
 ·cases ah
theorem adc (rel:cc R B w h μ) {t u ty:TypeId} {d x c:U} {Kw bK:Value} {h' : aQ} (ah:Ar P h t d x=some (c,h')) (bC:aS w R h μ d Kw) (af:aS w R h μ x bK) :
  ∃ v w',(Builtin.copy_ #[t,u] ty #[Kw,bK]).run P w=.ok v w'/\dY w h μ w' h' μ/\cc R B w' h' μ/\aS w' R h' μ c v:=by
 unfold Ar at ah;cases ao:iR P t with
 | none=>rw[ao] at ah; cases ah
 | some e=>
 rw[ao] at ah;simp only at ah;cases aw:cM P e with
 | none=>rw[aw] at ah; cases ah
 | some z=>
 rw[aw] at ah;simp only at ah;cases cz:contents h z x with
 | none=>rw[cz] at ah; cases ah
 | some PI=>
 obtain⟨xs,n⟩:=PI;rw[cz] at ah;simp only at ah;have k1:=C0 ao;obtain⟨bf,bn,vs,cJ,lZ⟩:=wB (P:=P) rel cz af;split at ah
 ·simp only[Option.some.injEq,Prod.mk.injEq] at ah;obtain⟨rfl,rfl⟩:=ah;cases bC;have aD:=lZ 0 (aw4 _) w (fun _=>rfl);refine⟨goInt (0:Nat),w,?_,.refl _ _ _,rel,.int _ _⟩;simp[Builtin.copy_,cL k1,bn,fS aw,aD]
 ·rename_i dO b off len cap sz;cases ag:h.f b with
  | cells m cs=>
   rw[ag] at ah;simp only at ah;split at ah
   ·rename_i DB;obtain⟨rfl,rfl⟩:=DB;simp only[Option.some.injEq,Prod.mk.injEq] at ah;obtain⟨rfl,rfl⟩:=ah;cases bC with
    | ig _ _ _ _ a cs' cn bO hm=>
     have aD:=lZ 0 (aw4 _) w (fun _=>rfl);have jg:bt cs off []=cs:=by simp[bt]
     have gl:=rel.same (h':=h.set b (.cells m (bt cs off (xs.take (min n 0*z))))) (by
      rw[eg,Nat.min_zero,ayb,aw9,jg];funext x;simp only[bS];split
      ·rename_i af; rw[af,ag]
      ·rfl) rfl
     refine⟨goInt (0:Nat),w,?_,gl.1,gl.2,by rw[Nat.min_zero]; exact .int _ _⟩;simp[Builtin.copy_,cL k1,bn,fS aw,aD,storeCells,Result.andThen]
    | gR _ _ _ _ _ _ cap' a al dC aq=>
     exfalso;rcases aq with aq | ⟨hi,cs',aq,aM⟩
     ·rw[aq] at ag; cases ag
     ·rw[aq] at ag; cases ag; omega
    | ar _ _ _ _ _ _ cap' cs' cn bO hm al ap dC=>
     have e0:=rel.blk b cn hm;rw[ag] at e0;obtain⟨U7,bM,_⟩:=e0;have u9:min n len*z<=cap*z:=avX _ (by omega);have VU:min n len*z<=n*z:=avX _ (by omega);have md:(xs.take (min n len*z)).length=min n len*z:=by rw[av1]; omega
     have nm:max m (off+(xs.take (min n len*z)).length)=m:=by rw[md]; omega
     obtain⟨w',h1,ad,aj⟩:=zV (P:=P) rel (cvs:=xs.take (min n len*z)) (vs:=vs.take (min n len*z)) (k:=off) ag hm (by omega)
      (by rw[av1,av1,cJ.1]) (by rw[nm]; omega) (fun j c ai=>by
       have aM:j<min n len*z:=by have:=(avP.1 ai).1; rwa [md] at this
       rw[awb aM] at ai ⊢;exact cJ.2 j c ai)
     rw[nm] at ad aj;have aF:=lZ (min n len) (by omega) w (fun _=>rfl);refine⟨goInt (min n len:Nat),w',?_,ad,aj,.int _ _⟩;have DQ:Nat.min n len=min n len:=rfl;simp[Builtin.copy_,cL k1,bn,fS aw,DQ,aF,h1]
   ·cases ah
  | _=>rw[ag] at ah; cases ah
 ·cases ah
theorem J9:∀ (cs:List U) (vs:List Value) (bs:List UInt8),nQ cs=some bs->vs.length=cs.length->
  (∀ (j:Nat) (c:U),cs[j]? = some c->∃ v:Value,vs[j]? = some v/\v.oneCell'=true/\aS w R h μ c v)->
  ∃ ns:List Int,vs=ns.map (Value.int .u8)/\bs=ns.map fun n=>UInt8.ofNat n.toNat
 | [],[],bs,ag,_,_=>by
  simp only[nQ,Option.some.injEq] at ag; subst ag;exact⟨[],rfl,rfl⟩
 | [],_::_,_,_,al,_=>by simp at al
 | _::_,[],_,_,al,_=>by simp at al
 | c::cs,v::vs,bs,ag,al,au=>by
  obtain⟨v0,iU,_,vg⟩:=au 0 c rfl;simp only[awk,Option.some.injEq] at iU;subst iU;cases vg with
  | int k n=>
   cases k<;>simp only[nQ] at ag<;>try (cases ag; done)
   cases qw:nQ cs with
   | none=>rw[qw] at ag; cases ag
   | some ack=>
    rw[qw] at ag;simp only[avZ,Option.some.injEq] at ag;subst ag;obtain⟨ns,h1,ad⟩:=J9 cs vs ack qw (by simpa using al) (fun j c ai=>au (j+1) c (by simpa using ai));exact⟨n::ns,by rw[h1]; rfl,by rw[ad]; rfl⟩
  | _=>simp[nQ] at ag
theorem TX:∀ (ns:List Int) (s:ByteArray),(ns.foldl (fun r n=>r.push (UInt8.ofNat n.toNat)) s).data.toList=s.data.toList++ns.map fun n=>UInt8.ofNat n.toNat
 | [],s=>by simp
 | n::ns,s=>by
  rw[ay1,TX ns];simp[ByteArray.push]
theorem ada (rel:cc R B w h μ) {s d:TypeId} {x c:U} {bK:Value} (ah:yh P h s d x=some c) (af:aS w R h μ x bK) :
  ∃ v,(convert s d bK).run P w=.ok v w/\aS w R h μ c v:=by
 unfold yh at ah;split at ah
 ·rename_i io k k' n ak bC;simp only[Option.some.injEq] at ah; subst ah;cases af;exact⟨.int k (k.wrap n),by simp[convert,cL ak,cL bC,Conv.intToInt],.int _ _⟩
 ·rename_i eH ak bC;simp only[Option.some.injEq] at ah; subst ah;cases af with
  | str bs=>exact⟨.string bs,by simp[convert,cL ak,cL bC],.str _⟩
 ·rename_i e ak bC VW;cases HQ:P.underlying e with
  | none=>rw[HQ] at ah; cases ah
  | some aq1=>
   rw[HQ] at ah;split at ah
   ·rename_i heq;simp only[Option.some.injEq] at heq ah; subst heq ah;cases af;refine⟨.string ByteArray.empty,by simp[convert,cL ak,cL bC,cL HQ,Conv.bytesToString],?_⟩;exact .str ByteArray.empty
   ·rename_i heq yY;simp only[Option.some.injEq] at heq; subst heq;split at ah
    ·cases ah
    ·rename_i cs n ahu cz;cases qw:nQ cs with
     | none=>rw[qw] at ah; cases ah
     | some bs=>
      rw[qw] at ah;simp only[avZ,Option.some.injEq] at ah; subst ah;obtain⟨bf,bn,vs,cJ,lZ⟩:=wB (P:=P) rel cz af;have aF:=lZ n (avR _) w (fun _=>rfl);obtain⟨ns,rfl,rfl⟩:=J9 cs vs bs qw cJ.1 cJ.2;have D5:(ns.map (Value.int .u8)).take (n*1)=ns.map (Value.int .u8) :=avO (by rw[cJ.1,bf]; exact avR _);rw[D5] at aF;have LR:∃ a len cap,bK=.slice a len cap:=by
       cases af<;>first | exact⟨_,_,_,rfl⟩ | (simp[contents] at cz; done) | (exact absurd rfl (ahu _))
      obtain⟨a,len,cap,rfl⟩:=LR;simp only[Builtin.lenOf,Sem.run_pure,Result.ok.injEq] at bn;obtain⟨rfl,_⟩:=bn;have agj:=TX ns ByteArray.empty;refine⟨.string (ns.foldl (fun r n=>r.push (UInt8.ofNat n.toNat)) ByteArray.empty),?_,?_⟩
      ·rw[run_convert_bytes_string w s d e a len cap ak HQ bC];cases a with
       | none=>
        simp only[Builtin.firstCells,Sem.run_pure,Result.ok.injEq] at aF;have np:ns=[] :=by
         have:=congrArg Array.toList aF.1;simpa using this.symm
        subst np;simp[Conv.bytesToString]
       | some a=>
        simp only[Builtin.firstCells,axn] at aF;exact run_bytesToString w a len cap ns aF
      ·have:(ns.foldl (fun r n=>r.push (UInt8.ofNat n.toNat)) ByteArray.empty).data.toList=ns.map fun n=>UInt8.ofNat n.toNat:=by rw[agj]; rfl
       rw[<-this];exact .str _
    ·cases ah
   ·cases ah
 ·cases ah
theorem Ot (rel:cc R B w h μ) {w' : World} (ag:RowKit.Below w.heap.size w w') (rQ:w.drawn<=w'.drawn:=by first | exact avR _ | exact Nat.le_succ _) :dY w h μ w' h μ/\cc R B w' h μ:=by
 have e:dY w h μ w' h μ:=⟨⟨ag.os,ag.tape,ag.output,ag.size,fun k hk _=>ag.block k hk,fun _ ap=>.inl ap,fun b sz cs m h1 ad=>.inl ⟨cs,h1,ad⟩,fun _ _ aq=>aq,fun _ _ _ h1 ad=>⟨h1,ad⟩,avR _,rQ⟩,fun _ _ hm=>hm⟩
 refine⟨e,fun b m hm=>?_,rel.inj,rel.base,rel.fresh,rel.up,axc rel.size ag.size,rel.lD⟩;cases al:live (h.f b) with
 | false=>cases ah:h.f b<;>first | trivial | (rw[ah] at al; cases al)
 | true=>exact (rel.blk b m hm).ext e.toExt0 (ag.block _ (rel.lt al hm))
theorem acw (rel:cc R B w h μ) {s d:TypeId} {x c:U} {bK:Value} (ah:Aj P s d x=some c) (af:aS w R h μ x bK) :
  ∃ v w',(convert s d bK).run P w=.ok v w'/\dY w h μ w' h μ/\cc R B w' h μ/\aS w' R h μ c v:=by
 unfold Aj at ah;split at ah
 ·rename_i io e eH ak bC;split at ah
  ·rename_i aN;simp only[Option.some.injEq] at ah; subst ah;cases af with
   | str bs=>
    have LD:RowKit.Below w.heap.size w (Lib.bytesWorld w e bs) :=⟨rfl,rfl,rfl,by rw[Lib.bytesWorld_size]; omega,fun k hk=>Lib.bytesWorld_at_old w e bs k hk⟩
    obtain⟨h1,ad⟩:=Ot rel LD;refine⟨_,_,Lib.run_convert_string_bytes w s d e bs ak bC aN,h1,ad,?_⟩;have hh:bs.data.toList.length=bs.size:=by simp
    have gK:¬ mw h μ w.heap.size:=by
     rintro⟨b,m,al,hm,ao⟩;have:=rel.lt al hm;omega
    have db:bs.size<=grownCap w bs.size 0 e:=grownCap_ge w bs.size 0 e;have:=aS.bQ (w:=Lib.bytesWorld w e bs) (R:=R) (h:=h) (μ:=μ) 1 (bs.data.toList.map fun b=>[jx b]) w.heap.size 0 (grownCap w bs.size 0 e) (fun i _=>.int .u8 (bs.data.toList.getD i 0).toNat)
     (by simpa using db) (fun e ao=>by obtain⟨b,_,rfl⟩:=awf.1 ao; rfl)
     (fun i j av ai=>by
      have fq:i<bs.size:=by simpa using av
      have:j=0:=by omega
      subst this;exact⟨by simpa using Lib.bytesWorld_cell w e bs i fq,rfl,rel.up _ rel.size,gK⟩)
     (fun i e ao j c ai=>by
      rw[avV] at ao;cases ag:bs.data.toList[i]? with
      | none=>rw[ag] at ao; cases ao
      | some b=>
       rw[ag] at ao;simp only[avZ,Option.some.injEq] at ao; subst ao;cases j with
       | zero=>
        simp only[awk,Option.some.injEq] at ai; subst ai;have:bs.data.toList.getD i 0=b:=by simp[List.getD,ag]
        rw[this];exact .int _ _
       | succ j=>simp at ai)
    rw[av8,hh] at this;exact this
  ·cases ah
 ·cases ah
theorem acF {t ty:TypeId} {x c:U} {bK:Value} (ah:Al P t x=some c) (af:aS w R h μ x bK) :∃ v,(Builtin.cap_ #[t] ty #[bK]).run P w=.ok v w/\aS w R h μ c v:=by
 unfold Al at ah;split at ah<;>(try (simp only[Option.some.injEq] at ah; subst ah))
 ·rename_i n e aN;exact⟨goInt n,by simp[Builtin.cap_,cL aN],.int _ _⟩
 ·rename_i e aN;cases af;exact⟨goInt (0:Nat),by simp[Builtin.cap_,cL aN],.int _ _⟩
 ·cases ah
theorem acR (rel:cc R B w h μ) {t ty:TypeId} {x:U} {bK:Value} {h' : aQ} (ah:Ap P h t x=some h') (af:aS w R h μ x bK) :
  ∃ w',(Builtin.clear_ #[t] ty #[bK]).run P w=.ok (.tuple #[]) w'/\dY w h μ w' h' μ/\cc R B w' h' μ:=by
 unfold Ap at ah;split at ah
 ·rename_i e aN;simp only[Option.some.injEq] at ah; subst ah;cases af;exact⟨w,by simp[Builtin.clear_,cL aN],.refl _ _ _,rel⟩
 ·rename_i e z aN;simp only[Option.some.injEq] at ah; subst ah;cases af<;>exact⟨w,by simp[Builtin.clear_,cL aN],.refl _ _ _,rel⟩
 ·rename_i e z b off len cap sz aN;split at ah
  ·rename_i rS;simp only[Option.some.injEq] at ah; subst ah;subst rS;cases af<;>exact⟨w,by simp[Builtin.clear_,cL aN],.refl _ _ _,rel⟩
  ·rename_i rS;split at ah
   ·rename_i zero m cs aw ag;split at ah
    ·rename_i DB;obtain⟨rfl,rfl⟩:=DB;simp only[Option.some.injEq] at ah; subst ah;cases af with
     | ig=>exact absurd rfl rS
     | gR _ _ _ _ _ _ cap' a al dC aq=>
      exfalso;rcases aq with aq | ⟨hi,cs',aq,aM⟩
      ·rw[aq] at ag; cases ag
      ·rw[aq] at ag; cases ag; omega
     | ar _ _ _ _ _ _ cap' cs' cn bO hm al ap dC=>
      have e0:=rel.blk b cn hm;rw[ag] at e0;obtain⟨U7,bM,_⟩:=e0;obtain⟨v,au,az⟩:=x0 (P:=P) (w:=w) (R:=R) (h:=h) (μ:=μ) aw;have MF:=IY az len;have u9:len*zero.length<=cap*zero.length:=avX _ al;have mb:(dN zero len).length=len*zero.length:=zG len;have nm:max m (off+(dN zero len).length)=m:=by rw[mb]; omega
      have h6:v.cells.size=zero.length:=az.1;have HT:(Builtin.zeroCells v.cells len)=(Array.range (len*zero.length)).map (v.cells[· % v.cells.size]!) :=by
       unfold Builtin.zeroCells;rw[h6]
      obtain⟨w',h1,ad,aj⟩:=zV (P:=P) rel (cvs:=dN zero len) (vs:=(Builtin.zeroCells v.cells len).toList) (k:=off) ag hm (by omega)
       (by rw[HT,mb]; simp) (by rw[nm]; omega) (fun j c ai=>by
        rw[HT];obtain⟨u,aV,a1,a3⟩:=MF.2 j c ai;exact⟨u,by rw[axG]; exact aV,a1,a3⟩)
      rw[nm] at ad aj;refine⟨w',?_,ad,aj⟩;cases bn:len with
      | zero=>exact absurd bn rS
      | succ atQ=>
       rw[bn] at h1;simp[Builtin.clear_,cL aN,au,h1]
    ·cases ah
   ·cases ah
 ·cases ah
theorem abT (rel:cc R B w h μ) {t u ty:TypeId} {k:IntKind} {s x c:U} {pY bK:Value} {h' : aQ} (aN:P.underlying u=some (.int k)) (aA:Cu P h t s x=some (c,h')) (ak:aS w R h μ s pY) (af:aS w R h μ x bK) :
  ∃ v w' μ',(Builtin.append_ #[t,u] ty #[pY,bK]).run P w=.ok v w'/\dY w h μ w' h' μ'/\cc R B w' h' μ'/\aS w' R h' μ' c v:=by
 unfold Cu at aA;split at aA
 ·rename_i e n ao av;have k1:=C0 ao;obtain⟨r8,rfl⟩:=sQ av af;split at aA
  ·rename_i z by_ zero aw ea jj;split at aA
   ·rename_i j7;obtain⟨h6,og,asc,dA⟩:=j7;obtain⟨i,zv,rR,mf,ka,_⟩:=aaM (P:=P) (w:=w) (R:=R) (h:=h) (μ:=μ) jj;have qR:i.size=z:=by simpa [cM,rR] using aw
    have mL:i.bytes=by_:=by simpa [i5,rR] using ea
    have Bn:IntKind.i64.wrap n=n:=by
     simp[IntKind.wrap,IntKind.bits,IntKind.signed]; omega
    have aC:(n.toNat:Int)=n:=by omega
    have oh:¬ (n<0) :=by omega
    have ary:¬ (2 ^ 48<n*(by_:Int)) :=by
     have h1:((n.toNat*by_:Nat) :Int)=n*by_:=by rw[Int.natCast_mul,aC]
     have ad:((n.toNat*by_:Nat) :Int)<=((140737488355328:Nat) :Int) :=Int.ofNat_le.2 dA;rw[h1] at ad;omega
    have cJ:lQ w R h μ (dN zero n.toNat) (Builtin.zeroCells zv.cells n.toNat) :=by
     obtain⟨v,au,az⟩:=x0 (P:=P) (w:=w) (R:=R) (h:=h) (μ:=μ) jj;have air:v=zv:=by
      have:=au w;simp[zeroValue,typeInfo,rR,mf] at this;exact this.symm
     subst air;have MF:=IY az n.toNat
     have HT:(Builtin.zeroCells v.cells n.toNat)=(Array.range (n.toNat*zero.length)).map (v.cells[· % v.cells.size]!) :=by
      unfold Builtin.zeroCells;rw[az.1]
     rw[HT];exact MF
    have mb:(dN zero n.toNat).length=n.toNat*z:=by rw[zG,h6]
    have wT:∀ w2:World,(Go.asInt (.int r8 n)).run P w2=.ok n w2:=fun w2=>rfl
    have wO:¬ (281474976710656<n*(by_:Int)) :=by omega
    have tu:∀ w2:World,(zeroValue e).run P w2=.ok zv w2:=fun w2=>by simp[zeroValue,typeInfo,rR,mf]
    have WD:n.toNat*z=0->Builtin.zeroCells zv.cells n.toNat=#[] :=fun aD=>by
     apply axS;unfold Builtin.zeroCells;simp[ka,h6,aD]
    refine Ql rel aw ea aA ak mb (vs:=(Builtin.zeroCells zv.cells n.toNat).toList) ⟨by simpa using cJ.1,fun j c ai=>by
     obtain⟨v,aV,a1,a3⟩:=cJ.2 j c ai;exact⟨v,by rw[axG]; exact aV,a1,a3⟩⟩ (fun base sLen g7 w' eE ci=>?_) (fun fU avN fq WE base sLen g7 fW ap aq az ag=>?_)
    ·by_cases aD:n.toNat*z=0
     ·rw[WD aD] at ci;cases base with
      | none=>
       subst ci;simp[Builtin.append_,wT,cL k1,cL aN,fS aw,Bn,oh,typeInfo,rR,mL,eE,wO,aD]
      | some a=>
       simp only at ci;simp[Builtin.append_,wT,cL k1,cL aN,fS aw,Bn,oh,typeInfo,rR,mL,eE,wO,aD,ci]
     ·cases base with
      | none=>
       subst ci;simp[Builtin.append_,wT,cL k1,cL aN,fS aw,Bn,oh,typeInfo,rR,mL,eE,wO,aD,tu]
      | some a=>
       simp only at ci;simp[Builtin.append_,wT,cL k1,cL aN,fS aw,Bn,oh,typeInfo,rR,mL,eE,wO,aD,tu,ci]
    ·rw[rR] at fq;cases fq;rw[mf] at WE;cases WE;have LV:¬ (281474976710656<Builtin.nextslicecap (sLen+n.toNat) g7*i.bytes) :=by
      have:=growslice_fits (need:=sLen+n.toNat) (old:=g7) (bytes:=i.bytes) aq az;omega
     have VY:¬ (sLen+n.toNat<=g7) :=by omega
     have yW:¬ ((9223372036854775807:Int)<((sLen+n.toNat:Nat) :Int)) :=by
      have h1:(sLen+n.toNat)*1<=(sLen+n.toNat)*i.bytes:=Nat.mul_le_mul_left _ ag;unfold cy at az;omega
     have VV:¬ ((9223372036854775807:Int)<(sLen:Int)+max n 0) :=by omega
     rw[qR] at ap;rw[mL] at LV;by_cases aD:n.toNat*z=0
     ·have yT:(fW++(Builtin.zeroCells zv.cells n.toNat).toList).toArray=fW.toArray:=by rw[WD aD]; simp
      rw[yT];simp[Builtin.append_,wT,cL k1,cL aN,fS aw,Bn,oh,typeInfo,rR,mL,VY,wO,yW,VV,LV,aD,tu,ap,Question.forced,newRow,grownCap]
     ·have yT:(fW++(Builtin.zeroCells zv.cells n.toNat).toList).toArray=fW.toArray++Builtin.zeroCells zv.cells n.toNat:=by simp
      rw[yT];simp[Builtin.append_,wT,cL k1,cL aN,fS aw,Bn,oh,typeInfo,rR,mL,VY,wO,yW,VV,LV,aD,tu,ap,Question.forced,newRow,grownCap]
   ·cases aA
  ·cases aA
 ·cases aA
end

section
variable {P:Program} {w:World} {R:Nat->Prop} {B:Nat} {h:aQ} {μ:cX}
theorem ab8 {op:BinOp} {t:TypeId} {k k' : IntKind} {a b:Int} {c:U} (ah:cD op k a k' b=some c) :
  ∃ v,(binOp op t (.int k a) (.int k' b)).run P w=.ok v w/\aS w R h μ c v:=by
 cases op
 case shl=>
  simp only[cD] at ah;split at ah
  ·cases ah
  ·rename_i ag;simp only[Option.some.injEq] at ah; subst ah;exact⟨_,by simp[binOp,Op.shift,ag],.int _ _⟩
 case shr=>
  simp only[cD] at ah;split at ah
  ·cases ah
  ·rename_i ag;simp only[Option.some.injEq] at ah; subst ah;exact⟨_,by simp[binOp,Op.shift,ag],.int _ _⟩
 case quo=>
  simp only[cD] at ah;split at ah
  ·rename_i ag;obtain⟨rfl,ag⟩:=ag;simp only[Option.some.injEq] at ah; subst ah;exact⟨_,by simp[binOp,Op.intDiv,ag],.int _ _⟩
  ·cases ah
 case rem=>
  simp only[cD] at ah;split at ah
  ·rename_i ag;obtain⟨rfl,ag⟩:=ag;simp only[Option.some.injEq] at ah; subst ah;exact⟨_,by simp[binOp,Op.intDiv,ag],.int _ _⟩
  ·cases ah
 all_goals
  simp only[cD] at ah;split at ah
  ·rename_i hk;subst hk;simp only[Option.some.injEq] at ah; subst ah
   first
    | (refine⟨_,?_,.int _ _⟩; unfold binOp; simp only[ne_eq,not_true_eq_false,if_false]; rfl)
    | (refine⟨_,?_,.bool _⟩; unfold binOp; simp only[ne_eq,not_true_eq_false,if_false]; rfl)
  ·cases ah
theorem toList_eq (s:ByteArray) :s.toList=s.data.toList:=by
 rw[ByteArray.toList_eq]
theorem ab9 {op:BinOp} {t:TypeId} {a b:ByteArray} {c:U} (ah:pn op a.data.toList b.data.toList=some c) :
  ∃ v,(binOp op t (.string a) (.string b)).run P w=.ok v w/\aS w R h μ c v:=by
 cases op<;>simp only[pn] at ah<;>try (cases ah; done)
 case add=>
  split at ah
  ·rename_i dw;simp only[Option.some.injEq] at ah; subst ah;have h1:a.data.toList.length=a.size:=by simp
   have ad:b.data.toList.length=b.size:=by simp
   rw[h1,ad] at dw;have DN:¬ ((9223372036854775807:Int)<(a.size:Int)+(b.size:Int)) :=by omega
   have al:(a++b).data.toList=a.data.toList++b.data.toList:=by simp
   refine⟨.string (a++b),by simp[binOp,Op.stringOp,DN],?_⟩;rw[<-al];exact .str _
  ·cases ah
 all_goals
  simp only[Option.some.injEq] at ah; subst ah;exact⟨_,by simp[binOp,Op.stringOp,toList_eq],.bool _⟩
theorem adP {d:Nat} {t:TypeId} {a b:Bool} (aN:P.underlying t=some .bool) :(Op.equalIn (d+1) t (.bool a) (.bool b)).run P w=.ok (a == b) w:=by
 simp[Op.equalIn,cL aN]
theorem adQ {d:Nat} {t:TypeId} {g3 k:IntKind} {a b:Int} (aN:P.underlying t=some (.int g3)) :(Op.equalIn (d+1) t (.int k a) (.int k b)).run P w=.ok (a == b) w:=by
 simp[Op.equalIn,cL aN]
theorem adR {d:Nat} {t:TypeId} {a b:ByteArray} (aN:P.underlying t=some .string) :(Op.equalIn (d+1) t (.string a) (.string b)).run P w=.ok (a.data.toList == b.data.toList) w:=by
 simp[Op.equalIn,cL aN,toList_eq,beq_toListBytes]
theorem KF {d:Nat} {t e:TypeId} {x y l c:Nat} {b:Option Addr} (aN:P.underlying t=some (.slice e)) :(Op.equalIn (d+1) t (.slice none x y) (.slice b l c)).run P w=.ok b.isNone w:=by
 simp[Op.equalIn,cL aN]
theorem Tv {d:Nat} {t e:TypeId} {x y l c:Nat} {a:Addr} (aN:P.underlying t=some (.slice e)) :(Op.equalIn (d+1) t (.slice (some a) l c) (.slice none x y)).run P w=.ok false w:=by
 simp[Op.equalIn,cL aN]
theorem KD {d:Nat} {xs bh:List U} {sA sC:Array Value}
  (aJ:∀ (t:TypeId) (x y:U) (b:Bool) (bK gm:Value),eZ P d t x y=some b->aS w R h μ x bK->aS w R h μ y gm->(Op.equalIn d t bK gm).run P w=.ok b w)
  (tq:lQ w R h μ xs sA) (qV:lQ w R h μ bh sC) :∀ (l:List Field) (b:Bool),eZ.eqFields P (eZ P d) xs bh l=some b->(Op.eqFields d sA sC l).run P w=.ok b w
 | [],b,ag=>by simp only[eZ.eqFields,Option.some.injEq] at ag; subst ag; simp[Op.eqFields]
 | f::l,b,ag=>by
  unfold eZ.eqFields at ag;unfold Op.eqFields;by_cases aF:f.name= "_"
  ·rw[if_pos aF] at ag;simp[aF,KD aJ tq qV l b ag]
  ·rw[if_neg aF] at ag;split at ag
   ·rename_i a c aA ah;obtain⟨iD,h1,ad⟩:=tO (P:=P) aA tq;obtain⟨eO,aj,aE⟩:=tO (P:=P) ah qV;split at ag
    ·rename_i heq;have:=aJ f.type a c true iD eO heq ad aE;simp[aF,h1,aj,this,KD aJ tq qV l b ag]
    ·rename_i heq;have:=aJ f.type a c false iD eO heq ad aE;simp only[Option.some.injEq] at ag; subst ag;simp[aF,h1,aj,this]
    ·cases ag
   ·cases ag
theorem Ts {d z:Nat} {e:TypeId} {xs bh:List U} {sA sC:Array Value}
  (aJ:∀ (t:TypeId) (x y:U) (b:Bool) (bK gm:Value),eZ P d t x y=some b->aS w R h μ x bK->aS w R h μ y gm->(Op.equalIn d t bK gm).run P w=.ok b w)
  (tq:lQ w R h μ xs sA) (qV:lQ w R h μ bh sC) (f:Nat->Option Bool × Unit->Sem (ForInStep (Option Bool × Unit)))
  (aF:∀ (i:Nat) (iD eO:Value) (b:Bool) (r:Option Bool × Unit),(part e sA (i*z)).run P w=.ok iD w->(part e sC (i*z)).run P w=.ok eO w->(Op.equalIn d e iD eO).run P w=.ok b w->
   (f i r).run P w=.ok (if b then .yield (none,()) else .done (some false,())) w) :
  ∀ (n i:Nat) (b:Bool),eZ.s1 P (eZ P d) e z xs bh n i=some b->(forIn (List.range' i n) (none,()) f).run P w=.ok (if b then (none,()) else (some false,())) w
 | 0,i,b,ag=>by
  simp only[eZ.s1,Option.some.injEq] at ag; subst ag;simp
 | n+1,i,b,ag=>by
  unfold eZ.s1 at ag;split at ag
  ·rename_i a c aA ah;obtain⟨iD,h1,ad⟩:=tO (P:=P) aA tq;obtain⟨eO,aj,aE⟩:=tO (P:=P) ah qV;rw[List.range'_succ,List.forIn_cons];split at ag
   ·rename_i heq;have aW:=aJ e a c true iD eO heq ad aE;have aG:=aF i iD eO true (none,()) (h1 w) (aj w) aW;simp only[Sem.run_bind,aG,if_true,Result.andThen_ok];exact Ts aJ tq qV f aF n (i+1) b ag
   ·rename_i heq;have aW:=aJ e a c false iD eO heq ad aE;have aG:=aF i iD eO false (none,()) (h1 w) (aj w) aW;simp only[Option.some.injEq] at ag; subst ag;simp[aG]
   ·cases ag
  ·cases ag
theorem run_equalIn_array {d n z:Nat} {t e:TypeId} {sA sC:Array Value} (aN:P.underlying t=some (.array n e)) (aw:cM P e=some z) {b:Bool}
  (hk:∀ f:Nat->Option Bool × Unit->Sem (ForInStep (Option Bool × Unit)),
   (∀ (i:Nat) (iD eO:Value) (b:Bool) (r:Option Bool × Unit),(part e sA (i*z)).run P w=.ok iD w->(part e sC (i*z)).run P w=.ok eO w->(Op.equalIn d e iD eO).run P w=.ok b w->(f i r).run P w=.ok (if b then .yield (none,()) else .done (some false,())) w)->
   (forIn (List.range' 0 n) (none,()) f).run P w=.ok (if b then (none,()) else (some false,())) w) :
  (Op.equalIn (d+1) t (.agg sA) (.agg sC)).run P w=.ok b w:=by
 simp only[Op.equalIn,Sem.run_bind,cL aN,Result.andThen_ok,fS aw];rw[Std.Legacy.Range.forIn_eq_forIn_range'];have az:List.range' ([:n] :Std.Legacy.Range).start ([:n] :Std.Legacy.Range).size ([:n] :Std.Legacy.Range).step=List.range' 0 n:=by simp[Std.Legacy.Range.size]
 rw[az,hk]
 ·cases b<;>simp
 ·intro i iD eO b r h1 ad aj;cases b<;>simp[h1,ad,aj]
theorem KE:∀ (d:Nat) (t:TypeId) (x y:U) (b:Bool) (bK gm:Value),eZ P d t x y=some b->aS w R h μ x bK->aS w R h μ y gm->
  (Op.equalIn d t bK gm).run P w=.ok b w:=by
 intro d
 induction d with
 | zero=>intro t x y b bK gm ao; simp[eZ] at ao
 | succ d aJ=>
  intro t x y b bK gm ao af ax;unfold eZ at ao;split at ao
  ·rename_i a bu aN;simp only[Option.some.injEq] at ao; subst ao;cases af; cases ax;exact adP aN
  ·rename_i g3 k a k' bu aN;split at ao
   ·rename_i hk; subst hk;simp only[Option.some.injEq] at ao; subst ao;cases af; cases ax;exact adQ aN
   ·cases ao
  ·rename_i a bu aN;simp only[Option.some.injEq] at ao; subst ao;cases af; cases ax;exact adR aN
  ·rename_i fs xs bh aN;split at ao
   ·cases ao
   ·rename_i ci;obtain⟨sA,rfl,tq⟩:=wa af;obtain⟨sC,rfl,qV⟩:=wa ax;have rY:P.stoodInHeld t=false:=by simpa using ci
    have nj:P.fieldsOf t=fs:=by simp[Program.fieldsOf,aN]
    rw[run_equalIn_struct w d t sA sC (by rw[nj]; exact aN) rY,nj];exact KD aJ tq qV _ _ ao
  ·rename_i n e xs bh aN;cases aw:cM P e with
   | none=>rw[aw] at ao; cases ao
   | some z=>
    rw[aw] at ao;simp only at ao;obtain⟨sA,rfl,tq⟩:=wa af;obtain⟨sC,rfl,qV⟩:=wa ax;exact run_equalIn_array aN aw (fun f aF=>Ts aJ tq qV f aF n 0 b ao)
  ·rename_i e aN;simp only[Option.some.injEq] at ao; subst ao;cases af; cases ax;exact KF aN
  ·rename_i e z bu off len cap sz aN;simp only[Option.some.injEq] at ao; subst ao;cases af; cases ax<;>exact KF aN
  ·rename_i e z es aN;simp only[Option.some.injEq] at ao; subst ao;cases af; cases ax<;>exact KF aN
  ·rename_i e z bu off len cap sz aN;simp only[Option.some.injEq] at ao; subst ao;cases ax; cases af<;>exact Tv aN
  ·rename_i e z es aN;simp only[Option.some.injEq] at ao; subst ao;cases ax; cases af<;>exact Tv aN
  ·cases ao
end

end Go.cb

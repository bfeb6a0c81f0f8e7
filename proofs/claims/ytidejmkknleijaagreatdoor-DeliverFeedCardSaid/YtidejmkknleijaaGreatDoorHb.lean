/-
  The canonical machine, part E: slices: what they hold, append, slicing, copy, make, len.
-/
import Derived.Test.YtidejmkknleijaaGreatDoorHa
import Derived.Lib.IndexBytes
import Derived.Laws.BytesString
import Derived.Lib.ConvBytes
set_option linter.unusedVariables false
set_option linter.unusedSimpArgs false
set_option linter.unnecessarySimpa false
namespace Go.bV
open Go
section
variable {P:Program} {w:World} {R:Nat->Prop} {B:Nat} {h:aO} {μ:cr}
theorem qM {α:Type} {z:Nat}:∀ {es:List (List α)},(∀ e,e∈es->e.length=z)->es.flatten.length=es.length*z
 | [],_=>by simp
 | e::es,aw=>by
  rw[axD,awW,aw e (by simp),qM (fun e am=>aw e (by simp[am])),axa,axw,ay6]
theorem Uo {α:Type} {z:Nat}:∀ {es:List (List α)} {j:Nat} {c:α},(∀ e,e∈es->e.length=z)->es.flatten[j]? = some c->
  ∃ i k e,j=i*z+k/\k<z/\es[i]? = some e/\e[k]? = some c
 | [],_,_,_,ai=>by simp at ai
 | e::es,j,c,aw,ai=>by
  have am:=aw e (by simp);rw[axD] at ai;by_cases aL:j<e.length
  ·rw[awS aL] at ai;exact⟨0,j,e,by simp,by omega,rfl,ai⟩
  ·rw[aw6 (by omega)] at ai;obtain⟨i,k,fr,ad,ae,aj,aD⟩:=Uo (fun e am=>aw e (by simp[am])) ai;exact⟨i+1,k,fr,by rw[axw]; omega,ae,by simpa using aj,aD⟩
def uK (w:World) (R:Nat->Prop) (h:aO) (μ:cr) (xs:List U) (vs:List Value) :Prop:=
 vs.length=xs.length/\∀ (j:Nat) (c:U),xs[j]? = some c->∃ v:Value,vs[j]? = some v/\v.oneCell'=true/\aQ w R h μ c v
theorem PQ {w2:World} {xs:List U} {blk o:Nat} (np:∀ a,w2.cell? a=w.cell? a)
  (ag:∀ (j:Nat) (c:U),xs[j]? = some c->∃ v:Value,w.cell? ⟨blk,o+j,none⟩=some v/\v.oneCell'=true/\aQ w R h μ c v) :
  ∃ vs:List Value,uK w R h μ xs vs/\∀ k,k<=xs.length->∀ w2:World,(∀ a,w2.cell? a=w.cell? a)->(loadCells ⟨blk,o,none⟩ k).run P w2=.ok (vs.take k).toArray w2:=by
 have ao:∃ f:Nat->Value,∀ (j:Nat) (c:U),xs[j]? = some c->w.cell? ⟨blk,o+j,none⟩=some (f j)/\(f j).oneCell'=true/\aQ w R h μ c (f j) :=by
  refine⟨fun j=>(w.cell? ⟨blk,o+j,none⟩).getD undef,fun j c ai=>?_⟩;obtain⟨v,ad,ae,aj⟩:=ag j c ai;simp only[ad,axI];exact⟨trivial,ae,aj⟩
 obtain⟨f,aF⟩:=ao;refine⟨(List.range xs.length).map f,⟨by simp,fun j c ai=>?_⟩,fun k ar w2 mP=>?_⟩
 ·have aL:j<xs.length:=(awQ.1 ai).1;exact⟨f j,by simp[aL],(aF j c ai).2⟩
 ·have:=run_loadCells_list (P:=P) w2 ⟨blk,o,none⟩ (((List.range xs.length).map f).take k) (fun j v ai=>by
   have fu:j<k:=by
    rcases ax1 j k with ad | ad
    ·exact ad
    ·rw[aw5 (by simp; omega)] at ai; cases ai
   rw[axm fu,awV] at ai;have ki:j<xs.length:=by omega
   rw[axu ki] at ai;simp only[aw0,Option.some.injEq] at ai;rw[Addr.m9,<-ai,mP];exact (aF j _ (awT ki)).1)
  have al:(((List.range xs.length).map f).take k).length=k:=by simp; omega
  rw[al] at this;exact this
theorem wW (rel:bP R B w h μ) {z n:Nat} {x:U} {bH:Value} {xs:List U} (ah:contents h z x=some (xs,n)) (ag:aQ w R h μ x bH) :
  xs.length=n*z/\(Builtin.lenOf bH).run P w=.ok n w/\∃ vs:List Value,uK w R h μ xs vs ∧
   ∀ k,k<=n->∀ w2:World,(∀ a,w2.cell? a=w.cell? a)->(Builtin.firstCells z k bH).run P w2=.ok (vs.take (k*z)).toArray w2:=by
 cases ag with
 | aG=>
  simp only[contents,Option.some.injEq,Prod.mk.injEq] at ah;obtain⟨rfl,rfl⟩:=ah;exact⟨by simp,by simp[Builtin.lenOf],[],⟨rfl,fun j c ai=>by simp at ai⟩,fun k _ w2 _=>by simp[Builtin.firstCells]⟩
 | str bs=>
  simp only[contents] at ah;split at ah
  ·rename_i aw; subst aw;simp only[Option.some.injEq,Prod.mk.injEq] at ah;obtain⟨rfl,rfl⟩:=ah;refine⟨by simp,by simp[Builtin.lenOf],bs.data.toList.map fun b=>.int .u8 b.toNat,⟨by simp,fun j c ai=>?_⟩,fun k ar w2 _=>?_⟩
   ·rw[awV] at ai ⊢;cases af:bs.data.toList[j]? with
    | none=>rw[af] at ai; cases ai
    | some b=>
     rw[af] at ai;simp only[aw0,Option.some.injEq] at ai;subst ai;exact⟨_,rfl,rfl,.int _ _⟩
   ·have ag:(bs.extract 0 k).data.toList=bs.data.toList.take k:=by
     simp[ByteArray.extract,ByteArray.copySlice]
    have aI:(bs.extract 0 k).data=(bs.data.toList.take k).toArray:=by rw[<-ag]
    simp only[Builtin.firstCells,aI];simp
  ·cases ah
 | a1 dI es blk off cap eJ al aw np ao=>
  simp only[contents] at ah;split at ah
  ·rename_i vI; subst vI;simp only[Option.some.injEq,Prod.mk.injEq] at ah;obtain⟨rfl,rfl⟩:=ah;have bA:=qM aw;have b0:∀ (j:Nat) (c:U),es.flatten[j]? = some c->∃ v:Value,w.cell? ⟨blk,off+j,none⟩=some v/\v.oneCell'=true/\aQ w R h μ c v:=by
    intro j c ai;obtain⟨i,k,e,rfl,ar,am,agN⟩:=Uo aw ai;have ay:i<es.length:=(awQ.1 am).1;have c8:=np i k ay ar;exact⟨eJ i k,c8.here,c8.one,ao i e am k c agN⟩
   obtain⟨vs,ad,ae⟩:=PQ (P:=P) (w2:=w) (fun _=>rfl) b0;refine⟨bA,by simp[Builtin.lenOf],vs,ad,fun k ar w2 mP=>?_⟩;have:=ae (k*z) (by rw[bA]; exact awX _ ar) w2 mP;simp[Builtin.firstCells,this]
  ·cases ah
 | gv dI a cap=>
  simp only[contents] at ah;split at ah
  ·simp only[Option.some.injEq,Prod.mk.injEq] at ah;obtain⟨rfl,rfl⟩:=ah;exact⟨by simp,by simp[Builtin.lenOf],[],⟨rfl,fun j c ai=>by simp at ai⟩,fun k ar w2 _=>by
    obtain rfl:k=0:=by simpa using ar
    simp[Builtin.firstCells,loadCells,loadCellsFrom]⟩
  ·cases ah
 | aq dI b off len cap sz cap' cs m af hm al av cZ=>
  simp only[contents,af,true_and] at ah;split at ah
  ·rename_i vI; subst vI;simp only[Option.some.injEq,Prod.mk.injEq] at ah;obtain⟨rfl,rfl⟩:=ah;have ey:=rel.blk b m hm;rw[af] at ey;obtain⟨ad,ae,arr,t,e4,aj,aD,a2,bv⟩:=ey;have vr:len*z<=cap*z:=awX _ al;have bA:((cs.drop off).take (len*z)).length=len*z:=by
    rw[axd,axP]; omega
   have b0:∀ (j:Nat) (c:U),((cs.drop off).take (len*z))[j]? = some c->∃ v:Value,w.cell? ⟨m.r,(m.s+off)+j,none⟩=some v/\v.oneCell'=true/\aQ w R h μ c v:=by
    intro j c ai;have aL:j<len*z:=by
     have:=(awQ.1 ai).1;rw[bA] at this; exact this
    rw[axm aL,axv] at ai;obtain⟨v,a8,bh,b6⟩:=bv _ c ai;exact⟨v,by simp[World.cell?,aj,aym,a8],bh,b6⟩
   obtain⟨vs,bZ,ce⟩:=PQ (P:=P) (w2:=w) (fun _=>rfl) b0;refine⟨bA,by simp[Builtin.lenOf],vs,bZ,fun k ar w2 mP=>?_⟩;have:=ce (k*z) (by rw[bA]; exact awX _ ar) w2 mP;simp[Builtin.firstCells,this]
  ·cases ah
 | i3 dI b off sz a cs m af hm=>
  simp only[contents,af,true_and] at ah;split at ah
  ·rename_i vI; subst vI;simp only[Option.some.injEq,Prod.mk.injEq,ayU,ayb] at ah;obtain⟨rfl,rfl⟩:=ah;exact⟨by simp,by simp[Builtin.lenOf],[],⟨rfl,fun j c ai=>by simp at ai⟩,fun k ar w2 _=>by
    obtain rfl:k=0:=by simpa using ar
    simp[Builtin.firstCells,loadCells,loadCellsFrom]⟩
  ·cases ah
 | hO dI b off len cap sz cap' a al Vv ax=>
  unfold contents at ah;rcases ax with ax | ⟨fY,cs',ax,aL⟩
  ·simp[ax] at ah
  ·simp only[ax] at ah;split at ah
   ·omega
   ·cases ah
 | _=>simp[contents] at ah
theorem DK {t e:TypeId} (am:jc P t=some e) :P.underlying t=some (.slice e) :=by
 unfold jc at am;split at am
 ·rename_i fr aM; cases am; exact aM
 ·cases am
def Cq (P:Program) (u:TypeId) :Prop:=∃ d,P.underlying u=some d/\∀ k,d≠.int k
theorem Xd (d:TypeDesc) (ar:∀ k,d≠.int k) :(match d with | .int _=>true | _=>false)=false:=by
 cases d with
 | int k=>exact absurd rfl (ar k)
 | _=>rfl
theorem run_append_fits {t u ty e:TypeId} {z n sLen hk:Nat} {base:Option Addr} {bH:Value} {vs:List Value} {w' : World} (am:P.underlying t=some (.slice e)) (aw:cC P e=some z) (aM:Cq P u)
  (al:(Builtin.lenOf bH).run P w=.ok n w) (aF:(Builtin.firstCells z n bH).run P w=.ok vs.toArray w) (eA:sLen+n<=hk)
  (bE:match base with | some a=>(storeCells (a.add (sLen*z)) vs).run P w=.ok () w' | none=>w'=w) :
  (Builtin.append_ #[t,u] ty #[.slice base sLen hk,bH]).run P w=.ok (.slice base (sLen+n) hk) w':=by
 obtain⟨d,bg,ar⟩:=aM;have Ir:=Xd d ar;cases base with
 | none=>
  subst bE;simp[Builtin.append_,cB am,fQ aw,cB bg,Ir,al,eA,aF]
 | some a=>
  simp only at bE;simp[Builtin.append_,cB am,fQ aw,cB bg,Ir,al,eA,aF,bE]
theorem anY {t u ty e:TypeId} {i:TypeInfo} {zv:Value} {n sLen hk:Nat} {base:Option Addr} {bH:Value} {fZ vs:List Value} (am:P.underlying t=some (.slice e)) (ay:P.info? e=some i) (mu:i.zero=some zv) (aM:Cq P u)
  (al:(Builtin.lenOf bH).run P w=.ok n w) (aF:(Builtin.firstCells i.size n bH).run P w.drew=.ok vs.toArray w.drew) (av:(Builtin.firstCells i.size sLen (.slice base sLen hk)).run P w.drew=.ok fZ.toArray w.drew)
  (q2:hk<sLen+n) (dC:(sLen+n)*i.bytes<=ci) (af:0<i.bytes) :
  (Builtin.append_ #[t,u] ty #[.slice base sLen hk,bH]).run P w =
   .ok (.slice (some ⟨w.heap.size,0,none⟩) (sLen+n) (grownCap w (sLen+n) hk e)) (w.drew.alloc (.cells ((fZ++vs).toArray++Builtin.zeroCells zv.cells (grownCap w (sLen+n) hk e - (sLen+n))) e)) :=by
 obtain⟨d,bg,ar⟩:=aM;have Ir:=Xd d ar;have aw:cC P e=some i.size:=by simp[cC,ay]
 have aC:¬ (sLen+n<=hk) :=by omega
 have w7:¬ (281474976710656<Builtin.nextslicecap (sLen+n) hk*i.bytes) :=by
  have:=growslice_fits q2 dC;omega
 have mO:¬ (i.bytes=0) :=by omega
 simp[Builtin.append_,cB am,fQ aw,cB bg,Ir,al,aC,typeInfo,ay,w7,mO,Question.forced,av,aF,zeroValue,mu,newRow,grownCap];rw[<-ay7,List.append_toArray fZ vs]
theorem dg.drew {h' : aO} {μ' : cr} {w' : World} (e:dg w h μ w' h' μ') :dg w h μ w' h' μ':=e
theorem aox {s:U} {nL:Value} (ak:aQ w R h μ s nL) (ar:s=.aG\/(∃ z es,s=.a1 z es)\/∃ z b off len cap sz,s=.aq z b off len cap sz) :
  ∃ base sLen hk,nL=.slice base sLen hk/\sLen<=hk:=by
 cases ak<;>simp at ar
 ·exact⟨_,_,_,rfl,awU _⟩
 ·rename_i al av c8;exact⟨_,_,_,rfl,by omega⟩
 ·rename_i al Vv ax;exact⟨_,_,_,rfl,by omega⟩
 ·exact⟨_,_,_,rfl,awU _⟩
 ·rename_i al aw ah ao;exact⟨_,_,_,rfl,by omega⟩
 ·exact⟨_,_,_,rfl,ax2 _⟩
theorem abF {e:TypeId} {z:Nat} (aw:ux P e=some z) :∃ i v,P.info? e=some i/\i.zero=some v/\v.cells.size=z:=by
 unfold ux at aw;cases ay:P.info? e with
 | none=>rw[ay] at aw; cases aw
 | some i=>
  rw[ay] at aw;simp only[ayG] at aw;cases ao:i.zero with
  | none=>rw[ao] at aw; cases aw
  | some v=>rw[ao] at aw; exact⟨i,v,rfl,ao,by simpa using aw⟩
theorem D6 {e:TypeId} {zv:Value} {z need cap:Nat} {xs:List U} {vs:List Value} (aw:zv.cells.size=z) (al:xs.length=need*z) (ix:uK w R h μ xs vs) (cZ:need<=cap) :
  (vs.toArray++Builtin.zeroCells zv.cells (cap - need)).size=cap*z ∧
  ∀ (j:Nat) (c:U),xs[j]? = some c->∃ v:Value,(vs.toArray++Builtin.zeroCells zv.cells (cap - need))[j]? = some v/\v.oneCell'=true/\aQ w R h μ c v:=by
 refine⟨?_,fun j c ai=>?_⟩
 ·have ad:(Builtin.zeroCells zv.cells (cap - need)).size=(cap - need)*z:=by simp[Builtin.zeroCells,aw]
  have ae:need*z+(cap - need)*z=cap*z:=by rw[<-axL]; congr 1; omega
  rw[azA,ad,azB,ix.1,al,ae]
 ·obtain⟨v,ad,ae,aj⟩:=ix.2 j c ai;have aL:j<vs.length:=(awQ.1 ad).1;refine⟨v,?_,ae,aj⟩;rw[ax3 (by simpa using aL)];simpa using ad
theorem Ri (rel:bP R B w h μ) {t u ty e:TypeId} {z by_ n:Nat} {s c:U} {nL bH:Value} {h' : aO} {xs:List U} {vs:List Value} (aw:cC P e=some z) (dM:k7 P e=some by_)
  (aE:wA P h e z by_ s xs n=some (c,h')) (ak:aQ w R h μ s nL) (bp:xs.length=n*z) (b0:uK w R h μ xs vs)
  (Iw:∀ (base:Option Addr) (sLen hk:Nat) (w' : World),sLen+n<=hk->(match base with | some a=>(storeCells (a.add (sLen*z)) vs).run P w=.ok () w' | none=>w'=w)->
   (Builtin.append_ #[t,u] ty #[.slice base sLen hk,bH]).run P w=.ok (.slice base (sLen+n) hk) w')
  (EG:∀ (i:TypeInfo) (zv:Value),P.info? e=some i->i.zero=some zv->∀ (base:Option Addr) (sLen hk:Nat) (fZ:List Value),(Builtin.firstCells i.size sLen (.slice base sLen hk)).run P w.drew=.ok fZ.toArray w.drew->
   hk<sLen+n->(sLen+n)*i.bytes<=ci->0<i.bytes->(Builtin.append_ #[t,u] ty #[.slice base sLen hk,bH]).run P w =
   .ok (.slice (some ⟨w.heap.size,0,none⟩) (sLen+n) (grownCap w (sLen+n) hk e)) (w.drew.alloc (.cells ((fZ++vs).toArray++Builtin.zeroCells zv.cells (grownCap w (sLen+n) hk e - (sLen+n))) e))) :
  ∃ v w' μ',(Builtin.append_ #[t,u] ty #[nL,bH]).run P w=.ok v w'/\dg w h μ w' h' μ'/\bP R B w' h' μ'/\aQ w' R h' μ' c v:=by
 unfold wA at aE;by_cases aC:n=0
 ·-- nothing is appended
  subst aC;simp only[if_true] at aE;have c6:(c,h')=(s,h) :=by
   split at aE<;>first | (simp only[Option.some.injEq] at aE; exact aE.symm) | cases aE
  have ar:s=.aG\/(∃ z es,s=.a1 z es)\/∃ z b off len cap sz,s=.aq z b off len cap sz:=by
   split at aE
   ·exact .inl rfl
   ·exact .inr (.inl ⟨_,_,rfl⟩)
   ·exact .inr (.inr ⟨_,_,_,_,_,_,rfl⟩)
   ·cases aE
  simp only[Prod.mk.injEq] at c6;obtain⟨rfl,rfl⟩:=c6;obtain⟨base,sLen,hk,rfl,dN⟩:=aox ak ar;have ko:vs=[] :=by
   have:vs.length=0:=by rw[b0.1,bp]; simp
   exact axF.1 this
  subst ko;have:=Iw base sLen hk w (by omega) (by cases base<;>simp[storeCells]);exact⟨_,w,μ,this,.refl _ _ _,rel,by simpa using ak⟩
 ·rw[if_neg aC] at aE;split at aE
  ·cases aE
  ·rename_i kh;simp only[not_or,Decidable.not_not] at kh;obtain⟨tQ,me,ii⟩:=kh;obtain⟨i,zv,ay,mu,kq⟩:=abF ii;have sn:i.size=z:=by simpa [cC,ay] using aw
   have mO:i.bytes=by_:=by simpa [k7,ay] using dM
   have aiQ:0<z:=Nat.pos_of_ne_zero tQ;have MJ:∀ a,w.drew.cell? a=w.cell? a:=fun _=>rfl
   split at aE
   ·-- append to nil
    split at aE
    ·rename_i dC;simp only[Option.some.injEq,Prod.mk.injEq] at aE;obtain⟨rfl,rfl⟩:=aE;cases ak;have ax:=EG i zv ay mu none 0 0 [] (by simp[Builtin.firstCells]) (by omega) (by rw[mO]; simpa using dC) (by omega);have cZ:n<=grownCap w (0+n) 0 e:=by have:=grownCap_ge w (0+n) 0 e; omega
     obtain⟨kQ,mm⟩:=D6 (e:=e) (zv:=zv) (need:=n) (cap:=grownCap w (0+n) 0 e) kq (by rw[bp]) b0 cZ;have au:=rel.push (w':=w.drew.alloc (.cells (vs.toArray++Builtin.zeroCells zv.cells (grownCap w (0+n) 0 e - n)) e)) xs _ e rfl rfl rfl rfl (by rw[kQ,bp]; exact awX _ cZ) mm;rw[bp] at au;refine⟨_,_,_,by simpa using ax,by simpa using au.1,by simpa using au.2,?_⟩;have:=aQ.aq (w:=w.drew.alloc (.cells (vs.toArray++Builtin.zeroCells zv.cells (grownCap w (0+n) 0 e - n)) e)) (R:=R) (h:=h.push (.cells (n*z) xs)) (μ:=bB μ h.n (some ⟨w.heap.size,0,(vs.toArray++Builtin.zeroCells zv.cells (grownCap w (0+n) 0 e - n)).size⟩))
      z h.n 0 n n (n*z) (grownCap w (0+n) 0 e) xs ⟨w.heap.size,0,(vs.toArray++Builtin.zeroCells zv.cells (grownCap w (0+n) 0 e - n)).size⟩ (by simp[ep,fJ]) (by simp) (awU _) (by omega) (.inr ⟨by omega,cZ,by simp only; rw[kQ]; omega⟩)
     simpa using this
    ·cases aE
   ·rename_i dI b off len cap sz;cases af:h.f b with
    | cells m cs=>
     rw[af] at aE;simp only at aE;split at aE
     ·rename_i Ex;obtain⟨rfl,rfl,dC⟩:=Ex;cases ak with
      | hO _ _ _ _ _ _ cap' a al Vv ax=>
       exfalso;rcases ax with ax | ⟨fY,cs',ax,aL⟩
       ·rw[ax] at af; cases af
       ·rw[ax] at af; cases af; omega
      | i3 _ _ _ _ a cs' ch bN hm=>
       rw[af] at bN; cases bN;have pQ:=rel.nU hm;rw[if_neg (by omega),ayU,ayb,ayb,axT,axV] at aE;have ax:=EG i zv ay mu (some a) 0 0 [] (by simp[Builtin.firstCells,loadCells,loadCellsFrom]) (by omega) (by rw[mO]; exact dC) (by omega);rw[axV] at ax;have cZ:n<=grownCap w n 0 e:=grownCap_ge _ _ _ _;obtain⟨kQ,mm⟩:=D6 (e:=e) (zv:=zv) (need:=n) (cap:=grownCap w n 0 e) kq (by rw[bp]) b0 cZ;split at aE
       ·simp only[Option.some.injEq,Prod.mk.injEq] at aE;obtain⟨rfl,rfl⟩:=aE;have au:=rel.push (w':=w.drew.alloc (.cells (vs.toArray++Builtin.zeroCells zv.cells (grownCap w n 0 e - n)) e)) xs _ e rfl rfl rfl rfl (by rw[kQ,bp]; exact awX _ cZ) mm;rw[bp] at au;refine⟨_,_,_,by simpa using ax,by simpa using au.1,by simpa using au.2,?_⟩;have:=aQ.aq (w:=w.drew.alloc (.cells (vs.toArray++Builtin.zeroCells zv.cells (grownCap w n 0 e - n)) e)) (R:=R) (h:=h.push (.cells (n*z) xs)) (μ:=bB μ h.n (some ⟨w.heap.size,0,(vs.toArray++Builtin.zeroCells zv.cells (grownCap w n 0 e - n)).size⟩))
         z h.n 0 n n (n*z) (grownCap w n 0 e) xs ⟨w.heap.size,0,(vs.toArray++Builtin.zeroCells zv.cells (grownCap w n 0 e - n)).size⟩ (by simp[ep,fJ]) (by simp) (awU _) (by omega) (.inr ⟨by omega,cZ,by simp only; rw[kQ]; omega⟩)
        simpa using this
       ·rename_i xe;split at aE
        ·rename_i IZ;subst IZ;simp only[Option.some.injEq,Prod.mk.injEq] at aE;obtain⟨rfl,rfl⟩:=aE;have tA:m<n*z:=by
          have:1*1<=n*z:=Nat.mul_le_mul (by omega) aiQ;omega
         have au:=rel.move (w':=w.drew.alloc (.cells (vs.toArray++Builtin.zeroCells zv.cells (grownCap w n 0 e - n)) e)) af hm rfl rfl rfl rfl bp tA (by rw[kQ]; exact awX _ cZ) mm;refine⟨_,_,_,by simpa using ax,by simpa using au.1,by simpa using au.2,?_⟩;have:=aQ.aq (w:=w.drew.alloc (.cells (vs.toArray++Builtin.zeroCells zv.cells (grownCap w n 0 e - n)) e)) (R:=R) (h:=h.set b (.cells (n*z) xs)) (μ:=bB μ b (some ⟨w.heap.size,0,(vs.toArray++Builtin.zeroCells zv.cells (grownCap w n 0 e - n)).size⟩))
          z b 0 n n (n*z) (grownCap w n 0 e) xs ⟨w.heap.size,0,(vs.toArray++Builtin.zeroCells zv.cells (grownCap w n 0 e - n)).size⟩ (by simp[dZ,e2]) (by simp) (awU _) (by omega) (.inr ⟨by omega,cZ,by simp only; rw[kQ]; omega⟩)
         simpa using this
        ·simp only[Option.some.injEq,Prod.mk.injEq] at aE;obtain⟨rfl,rfl⟩:=aE;have au:=rel.push (w':=w.drew.alloc (.cells (vs.toArray++Builtin.zeroCells zv.cells (grownCap w n 0 e - n)) e)) xs _ e rfl rfl rfl rfl (by rw[kQ,bp]; exact awX _ cZ) mm;rw[bp] at au;have ar:=au.2.kill (b:=b) (sz:=m) (cs:=cs) (h':=(h.set b .dead).push (.cells (n*z) xs)) (by rw[ep,b5 _ _ _ _ (by omega)]; exact af) (by rw[fJ]; omega) (by
          rw[ep,ep,dZ,e2];funext x;simp only[bB];by_cases ad:x=h.n
          ·rw[if_pos ad,if_neg (by omega),if_pos ad]
          ·rw[if_neg ad];split<;>rfl) rfl
         refine⟨_,_,_,by simpa using ax,by simpa using au.1.trans ar.1,by simpa using ar.2,?_⟩;have:=aQ.aq (w:=w.drew.alloc (.cells (vs.toArray++Builtin.zeroCells zv.cells (grownCap w n 0 e - n)) e)) (R:=R) (h:=(h.set b .dead).push (.cells (n*z) xs)) (μ:=bB μ h.n (some ⟨w.heap.size,0,(vs.toArray++Builtin.zeroCells zv.cells (grownCap w n 0 e - n)).size⟩))
          z h.n 0 n n (n*z) (grownCap w n 0 e) xs ⟨w.heap.size,0,(vs.toArray++Builtin.zeroCells zv.cells (grownCap w n 0 e - n)).size⟩ (by rw[ep,e2,hV]) (by simp) (awU _) (by omega) (.inr ⟨by omega,cZ,by simp only; rw[kQ]; omega⟩)
         simpa using this
      | aq _ _ _ _ _ _ cap' cs' ch bN hm al av c8=>
       have ey:=rel.blk b ch hm;rw[af] at ey;obtain⟨Vw,ew,_⟩:=ey;rw[af] at bN; cases bN;have vr:len*z<=cap*z:=awX _ al;have Vt:cap<=cap':=by rcases c8 with c8 | c8<;>omega
       split at aE
       ·-- in place,within what the machine knows
        rename_i eA;simp only[Option.some.injEq,Prod.mk.injEq] at aE;obtain⟨rfl,rfl⟩:=aE;have Wf:len*z+n*z<=cap*z:=by rw[<-axL]; exact awX _ eA
        have nw:max m (off+len*z+xs.length)=m:=by omega
        obtain⟨w',ad,ae,aj⟩:=AA (P:=P) rel (cvs:=xs) (vs:=vs) (k:=off+len*z) af hm (by omega) b0.1 (by omega) b0.2;rw[nw] at ae aj;have bE:(storeCells ((⟨ch.r,ch.s+off,none⟩:Addr).add (len*z)) vs).run P w=.ok () w':=by rw[Addr.m9,aym]; exact ad
        refine⟨_,w',μ,Iw (some ⟨ch.r,ch.s+off,none⟩) _ _ _ (by omega) bE,ae,aj,?_⟩;exact .aq z b off (len+n) cap m cap' _ ch (by simp[dZ,e2]; rfl) hm eA av c8
       ·rename_i atd;split at aE
        ·-- beyond a slice whose end lies within the row: it moves
         rename_i asV;simp only[Option.some.injEq,Prod.mk.injEq] at aE;obtain⟨rfl,rfl⟩:=aE;have cP:cap'=cap:=by rcases c8 with c8 | c8<;>omega
         subst cP;have ez:contents h z (.aq z b off len cap' m)=some ((cs.drop off).take (len*z),len) :=by simp[contents,af]
         obtain⟨dP,_,fZ,iK,EX⟩:=wW (P:=P) rel ez (aQ.aq z b off len cap' m cap' cs ch af hm al av c8);have zx:∀ w2:World,(∀ a,w2.cell? a=w.cell? a)->(Builtin.firstCells z len (.slice (some ⟨ch.r,ch.s+off,none⟩) len cap')).run P w2=.ok fZ.toArray w2:=fun w2 mT=>by
          have:=EX len (awU _) w2 mT
          rwa [awR (by rw[iK.1,dP]; exact awU _)] at this
         have ax:=EG i zv ay mu (some ⟨ch.r,ch.s+off,none⟩) len cap' fZ (by rw[sn]; exact zx w.drew MJ) (by omega) (by rw[mO]; exact dC) (by omega);have cZ:len+n<=grownCap w (len+n) cap' e:=grownCap_ge _ _ _ _;have Et:uK w R h μ ((cs.drop off).take (len*z)++xs) (fZ++vs) :=by
          refine⟨by simp[iK.1,b0.1],fun j c ai=>?_⟩;by_cases aL:j<((cs.drop off).take (len*z)).length
          ·rw[awS aL] at ai;rw[awS (by rw[iK.1]; exact aL)];exact iK.2 j c ai
          ·rw[aw6 (by omega)] at ai;rw[aw6 (by rw[iK.1]; omega),iK.1];exact b0.2 _ c ai
         have gq:((cs.drop off).take (len*z)++xs).length=(len+n)*z:=by rw[awW,dP,bp,axL]
         obtain⟨kQ,mm⟩:=D6 (e:=e) (zv:=zv) (need:=len+n) (cap:=grownCap w (len+n) cap' e) kq gq Et cZ;have au:=rel.push (w':=w.drew.alloc (.cells ((fZ++vs).toArray++Builtin.zeroCells zv.cells (grownCap w (len+n) cap' e - (len+n))) e)) _ _ e rfl rfl rfl rfl (by rw[kQ,gq]; exact awX _ cZ) mm;rw[gq] at au;refine⟨_,_,_,ax,au.1,au.2,?_⟩;have:=aQ.aq (w:=w.drew.alloc (.cells ((fZ++vs).toArray++Builtin.zeroCells zv.cells (grownCap w (len+n) cap' e - (len+n))) e)) (R:=R) (h:=h.push (.cells ((len+n)*z) ((cs.drop off).take (len*z)++xs))) (μ:=bB μ h.n (some ⟨w.heap.size,0,((fZ++vs).toArray++Builtin.zeroCells zv.cells (grownCap w (len+n) cap' e - (len+n))).size⟩))
          z h.n 0 (len+n) (len+n) ((len+n)*z) (grownCap w (len+n) cap' e) _ ⟨w.heap.size,0,((fZ++vs).toArray++Builtin.zeroCells zv.cells (grownCap w (len+n) cap' e - (len+n))).size⟩ (by simp[ep,fJ]; rfl) (by simp) (awU _) (by omega) (.inr ⟨by omega,cZ,by simp only; rw[kQ]; omega⟩)
         simpa using this
        ·rename_i xe;split at aE
         ·-- beyond the row's end: in place,or it moves
          rename_i IZ;subst IZ;simp only[Option.some.injEq,Prod.mk.injEq] at aE;obtain⟨rfl,rfl⟩:=aE;obtain⟨agJ,vh,VD⟩:0+cap*z=m/\cap<=cap'/\ch.s+0+cap'*z<=ch.T:=by rcases c8 with c8 | c8<;>omega
          have tA:m<(len+n)*z:=by
           have:(cap+1)*z<=(len+n)*z:=awX _ (by omega);rw[axL] at this;omega
          have aiy:len*z+n*z=(len+n)*z:=by rw[axL]
          by_cases eA:len+n<=cap'
          ·have ahJ:(len+n)*z<=cap'*z:=awX _ eA;have nw:max m (len*z+xs.length)=(len+n)*z:=by omega
           obtain⟨w',ad,ae,aj⟩:=AA (P:=P) rel (cvs:=xs) (vs:=vs) (k:=len*z) af hm (by omega) b0.1 (by omega) b0.2;rw[nw] at ae aj;have zF:bf cs (len*z) xs=cs.take (len*z)++xs:=by
            unfold bf;rw[axA (by omega),axr]
           rw[zF] at ae aj;have bE:(storeCells ((⟨ch.r,ch.s+0,none⟩:Addr).add (len*z)) vs).run P w=.ok () w':=by rw[Addr.m9,aym]; simpa using ad
           refine⟨_,w',μ,Iw (some ⟨ch.r,ch.s+0,none⟩) _ _ _ eA bE,ae,aj,?_⟩;exact .aq z b 0 (len+n) (len+n) ((len+n)*z) cap' _ ch (by simp[dZ,e2]; rfl) hm (awU _) (by omega) (.inr ⟨by omega,eA,VD⟩)
          ·have ez:contents h z (.aq z b 0 len cap m)=some ((cs.drop 0).take (len*z),len) :=by simp[contents,af]
           obtain⟨dP,_,fZ,iK,EX⟩:=wW (P:=P) rel ez (aQ.aq z b 0 len cap m cap' cs ch af hm al av c8);have zx:∀ w2:World,(∀ a,w2.cell? a=w.cell? a)->(Builtin.firstCells z len (.slice (some ⟨ch.r,ch.s+0,none⟩) len cap')).run P w2=.ok fZ.toArray w2:=fun w2 mT=>by
            have:=EX len (awU _) w2 mT
            rwa [awR (by rw[iK.1,dP]; exact awU _)] at this
           rw[ax5] at dP iK;have ax:=EG i zv ay mu (some ⟨ch.r,ch.s+0,none⟩) len cap' fZ (by rw[sn]; exact zx w.drew MJ) (by omega) (by rw[mO]; exact dC) (by omega);have cZ:len+n<=grownCap w (len+n) cap' e:=grownCap_ge _ _ _ _;have Et:uK w R h μ (cs.take (len*z)++xs) (fZ++vs) :=by
            refine⟨by simp[iK.1,b0.1],fun j c ai=>?_⟩;by_cases aL:j<(cs.take (len*z)).length
            ·rw[awS aL] at ai;rw[awS (by rw[iK.1]; exact aL)];exact iK.2 j c ai
            ·rw[aw6 (by omega)] at ai;rw[aw6 (by rw[iK.1]; omega),iK.1];exact b0.2 _ c ai
           have gq:(cs.take (len*z)++xs).length=(len+n)*z:=by rw[awW,dP,bp,axL]
           obtain⟨kQ,mm⟩:=D6 (e:=e) (zv:=zv) (need:=len+n) (cap:=grownCap w (len+n) cap' e) kq gq Et cZ;have au:=rel.move (w':=w.drew.alloc (.cells ((fZ++vs).toArray++Builtin.zeroCells zv.cells (grownCap w (len+n) cap' e - (len+n))) e)) af hm rfl rfl rfl rfl gq tA (by rw[kQ]; exact awX _ cZ) mm;refine⟨_,_,_,ax,au.1,au.2,?_⟩;have:=aQ.aq (w:=w.drew.alloc (.cells ((fZ++vs).toArray++Builtin.zeroCells zv.cells (grownCap w (len+n) cap' e - (len+n))) e)) (R:=R) (h:=h.set b (.cells ((len+n)*z) (cs.take (len*z)++xs))) (μ:=bB μ b (some ⟨w.heap.size,0,((fZ++vs).toArray++Builtin.zeroCells zv.cells (grownCap w (len+n) cap' e - (len+n))).size⟩))
            z b 0 (len+n) (len+n) ((len+n)*z) (grownCap w (len+n) cap' e) _ ⟨w.heap.size,0,((fZ++vs).toArray++Builtin.zeroCells zv.cells (grownCap w (len+n) cap' e - (len+n))).size⟩ (by simp[dZ,e2]; rfl) (by simp) (awU _) (by omega) (.inr ⟨by omega,cZ,by simp only; rw[kQ]; omega⟩)
           simpa using this
         ·-- beyond the row's end,from a place within it: a block of its own,in place or moved
          rename_i IZ;simp only[Option.some.injEq,Prod.mk.injEq] at aE;obtain⟨rfl,rfl⟩:=aE;obtain⟨agJ,vh,VD⟩:off+cap*z=m/\cap<=cap'/\ch.s+off+cap'*z<=ch.T:=by rcases c8 with c8 | c8<;>omega
          have tA:m<off+(len+n)*z:=by
           have:(cap+1)*z<=(len+n)*z:=awX _ (by omega);rw[axL] at this;omega
          have aiy:len*z+n*z=(len+n)*z:=by rw[axL]
          have pQ:=rel.nU hm;by_cases eA:len+n<=cap'
          ·have ahJ:(len+n)*z<=cap'*z:=awX _ eA;have nw:max m (off+len*z+xs.length)=off+(len+n)*z:=by omega
           obtain⟨w',ad,ae,aj⟩:=AA (P:=P) rel (cvs:=xs) (vs:=vs) (k:=off+len*z) af hm (by omega) b0.1 (by omega) b0.2;rw[nw] at ae aj;have zF:(bf cs (off+len*z) xs).drop off=(cs.drop off).take (len*z)++xs:=by
            unfold bf;rw[axA (as:=cs) (by omega),axr,axR (by simp; omega),aze];congr 2; omega
           have bE:(storeCells ((⟨ch.r,ch.s+off,none⟩:Addr).add (len*z)) vs).run P w=.ok () w':=by rw[Addr.m9,aym]; exact ad
           have rb:=aj.ZI (b:=b) (off:=off) (m:=ch) (h':=(h.set b .dead).push (.cells ((len+n)*z) ((cs.drop off).take (len*z)++xs))) (by rw[dZ,hV]) hm (by omega) (by
            rw[ep,dZ,dZ,e2,e2,zF];have:off+(len+n)*z - off=(len+n)*z:=by omega
            rw[this];funext x;simp only[bB];split
            ·rfl
            ·split<;>rfl) rfl
           refine⟨_,w',_,Iw (some ⟨ch.r,ch.s+off,none⟩) _ _ _ eA bE,ae.trans rb.1,rb.2,?_⟩;exact .aq z h.n 0 (len+n) (len+n) ((len+n)*z) cap' _ ⟨ch.r,ch.s+off,ch.T⟩ (by rw[ep,e2,hV]) (by rw[e2]; simp) (awU _) (by omega) (.inr ⟨by omega,eA,by simpa using (by omega:ch.s+off+cap'*z<=ch.T)⟩)
          ·have ez:contents h z (.aq z b off len cap m)=some ((cs.drop off).take (len*z),len) :=by simp[contents,af]
           obtain⟨dP,_,fZ,iK,EX⟩:=wW (P:=P) rel ez (aQ.aq z b off len cap m cap' cs ch af hm al av c8);have zx:∀ w2:World,(∀ a,w2.cell? a=w.cell? a)->(Builtin.firstCells z len (.slice (some ⟨ch.r,ch.s+off,none⟩) len cap')).run P w2=.ok fZ.toArray w2:=fun w2 mT=>by
            have:=EX len (awU _) w2 mT
            rwa [awR (by rw[iK.1,dP]; exact awU _)] at this
           have ax:=EG i zv ay mu (some ⟨ch.r,ch.s+off,none⟩) len cap' fZ (by rw[sn]; exact zx w.drew MJ) (by omega) (by rw[mO]; exact dC) (by omega);have cZ:len+n<=grownCap w (len+n) cap' e:=grownCap_ge _ _ _ _;have Et:uK w R h μ ((cs.drop off).take (len*z)++xs) (fZ++vs) :=by
            refine⟨by simp[iK.1,b0.1],fun j c ai=>?_⟩;by_cases aL:j<((cs.drop off).take (len*z)).length
            ·rw[awS aL] at ai;rw[awS (by rw[iK.1]; exact aL)];exact iK.2 j c ai
            ·rw[aw6 (by omega)] at ai;rw[aw6 (by rw[iK.1]; omega),iK.1];exact b0.2 _ c ai
           have gq:((cs.drop off).take (len*z)++xs).length=(len+n)*z:=by rw[awW,dP,bp,axL]
           obtain⟨kQ,mm⟩:=D6 (e:=e) (zv:=zv) (need:=len+n) (cap:=grownCap w (len+n) cap' e) kq gq Et cZ;have au:=rel.push (w':=w.drew.alloc (.cells ((fZ++vs).toArray++Builtin.zeroCells zv.cells (grownCap w (len+n) cap' e - (len+n))) e)) _ _ e rfl rfl rfl rfl (by rw[kQ,gq]; exact awX _ cZ) mm;rw[gq] at au;have ar:=au.2.kill (b:=b) (sz:=m) (cs:=cs) (h':=(h.set b .dead).push (.cells ((len+n)*z) ((cs.drop off).take (len*z)++xs))) (by rw[ep,b5 _ _ _ _ (by omega)]; exact af) (by rw[fJ]; omega) (by
            rw[ep,ep,dZ,e2];funext x;simp only[bB];by_cases ad:x=h.n
            ·rw[if_pos ad,if_neg (by omega),if_pos ad]
            ·rw[if_neg ad];split<;>rfl) rfl
           refine⟨_,_,_,ax,au.1.trans ar.1,ar.2,?_⟩;have:=aQ.aq (w:=w.drew.alloc (.cells ((fZ++vs).toArray++Builtin.zeroCells zv.cells (grownCap w (len+n) cap' e - (len+n))) e)) (R:=R) (h:=(h.set b .dead).push (.cells ((len+n)*z) ((cs.drop off).take (len*z)++xs))) (μ:=bB μ h.n (some ⟨w.heap.size,0,((fZ++vs).toArray++Builtin.zeroCells zv.cells (grownCap w (len+n) cap' e - (len+n))).size⟩))
            z h.n 0 (len+n) (len+n) ((len+n)*z) (grownCap w (len+n) cap' e) _ ⟨w.heap.size,0,((fZ++vs).toArray++Builtin.zeroCells zv.cells (grownCap w (len+n) cap' e - (len+n))).size⟩ (by rw[ep,e2,hV]) (by simp) (awU _) (by omega) (.inr ⟨by omega,cZ,by simp only; rw[kQ]; omega⟩)
           simpa using this
     ·cases aE
    | _=>rw[af] at aE; cases aE
   ·cases aE
theorem Ld (rel:bP R B w h μ) {t u ty:TypeId} {s x c:U} {nL bH:Value} {h' : aO} (aM:Cq P u) (aE:tf P h t s x=some (c,h')) (ak:aQ w R h μ s nL) (ag:aQ w R h μ x bH) :
  ∃ v w' μ',(Builtin.append_ #[t,u] ty #[nL,bH]).run P w=.ok v w'/\dg w h μ w' h' μ'/\bP R B w' h' μ'/\aQ w' R h' μ' c v:=by
 unfold tf at aE;cases am:jc P t with
 | none=>rw[am] at aE; cases aE
 | some e=>
 have lm:=DK am;rw[am] at aE;simp only at aE;cases aw:cC P e with
 | none=>rw[aw] at aE; cases aE
 | some z=>
 cases dM:k7 P e with
 | none=>rw[aw,dM] at aE; cases aE
 | some by_=>
 rw[aw,dM] at aE;simp only at aE;cases ah:contents h z x with
 | none=>rw[ah] at aE; cases aE
 | some QF=>
 obtain⟨xs,n⟩:=QF;rw[ah] at aE;simp only at aE;obtain⟨bp,bA,vs,b0,agS⟩:=wW (P:=P) rel ah ag;have ml:∀ w2:World,(∀ a,w2.cell? a=w.cell? a)->(Builtin.firstCells z n bH).run P w2=.ok vs.toArray w2:=fun w2 mT=>by
  have:=agS n (awU _) w2 mT
  rwa [awR (by rw[b0.1,bp]; exact awU _)] at this
 refine Ri rel aw dM aE ak bp b0 (fun base sLen hk w' eA bE=>run_append_fits lm aw aM bA (ml w (fun _=>rfl)) eA bE) (fun i zv ay mu base sLen hk fZ av ax az af=>?_);have sn:i.size=z:=by simpa [cC,ay] using aw
 exact anY lm ay mu aM bA (by rw[sn]; exact ml w.drew (fun _=>rfl)) av ax az af
end

section
variable {P:Program} {w:World} {R:Nat->Prop} {B:Nat} {h:aO} {μ:cr}
theorem AO {x:U} {bH:Value} {y n GR:Nat} {code:BoundsCode} (af:k6 x y=some n) (ag:aQ w R h μ x bH) (aI:y<=GR) :
  n<=y/\(Instr.sliceBound bH GR code).run P w=.ok n w:=by
 unfold k6 at af;cases ag with
 | int k i=>
  simp only at af;split at af
  ·rename_i ay;simp only[Option.some.injEq] at af;subst af;refine⟨by omega,?_⟩;have:(0<=i/\i<=(GR:Int)) :=⟨ay.1,by omega⟩
   simp[Instr.sliceBound,asIntOf,this]
  ·cases af
 | _=>simp at af
def yH (w:World) (R:Nat->Prop) (h:aO) (μ:cr) :Option U->Option Value->Prop
 | none,none=>True
 | some c,some v=>aQ w R h μ c v
 | _,_=>False
theorem wE {cK ay cL:Option U} {sA gX xQ:Option Value} {isS:Bool} {len cap cap' l m aT:Nat} (af:hc len cap cK ay cL=some (l,aT,m)) (bA:len<=cap) (cZ:cap<=cap')
  (ad:yH w R h μ cK sA) (ae:yH w R h μ ay gX) (aj:yH w R h μ cL xQ) :
  l<=aT/\aT<=m/\m<=cap/\(cL=none->m=cap)/\(Instr.sliceBounds isS len cap' sA gX xQ).run P w=.ok (l,aT,if cL.isSome then m else cap') w:=by
 unfold hc at af;cases cL with
 | none=>
  cases xQ with
  | some v=>exact aj.elim
  | none=>
   simp only at af;cases ay with
   | none=>
    cases gX with
    | some v=>exact ae.elim
    | none=>
     simp only at af;cases cK with
     | none=>
      cases sA with
      | some v=>exact ad.elim
      | none=>
       simp only[Option.some.injEq,Prod.mk.injEq] at af;obtain⟨rfl,rfl,rfl⟩:=af;exact⟨by omega,bA,awU _,fun _=>rfl,by simp[Instr.sliceBounds]⟩
     | some c=>
      cases sA with
      | none=>exact ad.elim
      | some v=>
       simp only at af;cases al:k6 c len with
       | none=>rw[al] at af; cases af
       | some l'=>
        rw[al] at af;simp only[Option.some.injEq,Prod.mk.injEq] at af;obtain⟨rfl,rfl,rfl⟩:=af;have ag:=AO (P:=P) (code:=.sliceB) al ad (awU _);exact⟨ag.1,bA,awU _,fun _=>rfl,by simp[Instr.sliceBounds,ag.2]⟩
   | some Dy=>
    cases gX with
    | none=>exact ae.elim
    | some apX=>
     simp only at af;cases zi:k6 Dy cap with
     | none=>rw[zi] at af; cases af
     | some h'=>
      rw[zi] at af;simp only at af;have ag:=AO (P:=P) (code:=if isS then .sliceAcap else .sliceAlen) zi ae cZ;cases cK with
      | none=>
       cases sA with
       | some v=>exact ad.elim
       | none=>
        simp only[Option.some.injEq,Prod.mk.injEq] at af;obtain⟨rfl,rfl,rfl⟩:=af;exact⟨by omega,ag.1,awU _,fun _=>rfl,by simp[Instr.sliceBounds,ag.2]⟩
      | some c=>
       cases sA with
       | none=>exact ad.elim
       | some v=>
        simp only at af;cases al:k6 c h' with
        | none=>rw[al] at af; cases af
        | some l'=>
         rw[al] at af;simp only[Option.some.injEq,Prod.mk.injEq] at af;obtain⟨rfl,rfl,rfl⟩:=af;have aI:=AO (P:=P) (code:=.sliceB) al ad (awU _);exact⟨aI.1,ag.1,awU _,fun _=>rfl,by simp[Instr.sliceBounds,ag.2,aI.2]⟩
 | some adG=>
  cases xQ with
  | none=>exact aj.elim
  | some awJ=>
   simp only at af;cases hm:k6 adG cap with
   | none=>rw[hm] at af; cases af
   | some ct=>
    rw[hm] at af;simp only at af;have ag:=AO (P:=P) (code:=if isS then .slice3Acap else .slice3Alen) hm aj cZ;cases ay with
    | none=>cases af
    | some Dy=>
     cases gX with
     | none=>exact ae.elim
     | some apX=>
      simp only at af;cases zi:k6 Dy ct with
      | none=>rw[zi] at af; cases af
      | some h'=>
       rw[zi] at af;simp only at af;have aI:=AO (P:=P) (code:=.slice3B) zi ae (awU _);cases cK with
       | none=>
        cases sA with
        | some v=>exact ad.elim
        | none=>
         simp only[Option.some.injEq,Prod.mk.injEq] at af;obtain⟨rfl,rfl,rfl⟩:=af;exact⟨by omega,aI.1,ag.1,(fun aF=>by cases aF),by simp[Instr.sliceBounds,ag.2,aI.2]⟩
       | some c=>
        cases sA with
        | none=>exact ad.elim
        | some v=>
         simp only at af;cases al:k6 c h' with
         | none=>rw[al] at af; cases af
         | some l'=>
          rw[al] at af;simp only[Option.some.injEq,Prod.mk.injEq] at af;obtain⟨rfl,rfl,rfl⟩:=af;have aw:=AO (P:=P) (code:=.slice3C) al ad (awU _);exact⟨aw.1,aI.1,ag.1,(fun aF=>by cases aF),by simp[Instr.sliceBounds,ag.2,aI.2,aw.2]⟩
theorem wM {z:Nat}:∀ (n:Nat) (cs:List U),(mJ z n cs).length=n
 | 0,_=>rfl
 | n+1,cs=>by simp[mJ,wM n]
theorem Hy {z:Nat}:∀ (n:Nat) (cs:List U) (i:Nat),i<n->(mJ z n cs)[i]? = some ((cs.drop (i*z)).take z)
 | 0,_,_,h=>by omega
 | n+1,cs,0,_=>by simp[mJ]
 | n+1,cs,i+1,h=>by
  simp only[mJ,axG];rw[Hy n _ i (by omega),azt];congr 3;rw[axw]; omega
theorem aae (rel:bP R B w h μ) {z b off cap sz l aT m ct cap' : Nat} {cs:List U} {ch:M} {hasMax:Bool} (af:h.f b=.cells sz cs) (hm:μ b=some ch) (av:off+cap*z<=sz)
  (c8:(off+cap*z<sz/\cap'=cap)\/(off+cap*z=sz/\cap<=cap'/\ch.s+off+cap'*z<=ch.T)) (ad:l<=aT) (ae:aT<=m) (aj:m<=cap) (aD:hasMax=false->m=cap)
  (bX:ct=if hasMax then m else cap') (vp:m≠l) :
  aQ w R h μ (.aq z b (off+l*z) (aT - l) (m - l) sz) (.slice (some ((⟨ch.r,ch.s+off,none⟩:Addr).add (l*z))) (aT - l) (ct - l)) :=by
 have ey:=rel.blk b ch hm;rw[af] at ey;have ew:=ey.2.1;rw[Addr.m9,aym];have aS:l*z+(m - l)*z=m*z:=by rw[<-axL]; congr 1; omega
 have bt:m*z<=cap*z:=awX _ aj;refine .aq z b _ _ _ sz _ cs ch af hm (by omega) (by omega) ?_;cases hasMax with
 | false=>
  have BQ:=aD rfl;have lj:ct=cap':=by simpa using bX
  rw[lj];rcases c8 with ⟨a8,bh⟩ | ⟨a8,bh,b6⟩
  ·rw[<-BQ] at a8 bh;exact .inl ⟨by omega,by omega⟩
  ·rw[<-BQ] at a8 bh;refine .inr ⟨by omega,by omega,?_⟩;have er:l*z+(cap' - l)*z=cap'*z:=by rw[<-axL]; congr 1; omega
   omega
 | true=>
  have lj:ct=m:=by simpa using bX
  rw[lj];by_cases aL:off+l*z+(m - l)*z<sz
  ·exact .inl ⟨aL,rfl⟩
  ·exact .inr ⟨by omega,awU _,by omega⟩
theorem extract_toList (s:ByteArray) (a b:Nat) :(s.extract a b).data.toList=(s.data.toList.drop a).take (b - a) :=by
 simp[ByteArray.extract,ByteArray.copySlice,List.take_drop]
theorem aQ.anX (z:Nat) (p:Prop) [Decidable p] (a b:Addr) (cap:Nat) :aQ w R h μ (.a1 z []) (.slice (if p then some a else some b) 0 cap) :=by
 by_cases au:p
 ·rw[if_pos au]; exact .gv _ _ _
 ·rw[if_neg au]; exact .gv _ _ _
theorem aQ.aad (z b off len cap sz cap' : Nat) (p:Prop) [Decidable p] (a cV:Addr) (al:len<=cap) (ah:cap<=cap') (ax:yE h b sz) :
  aQ w R h μ (.aq z b off len cap sz) (.slice (if p then some a else some cV) len cap') :=by
 by_cases au:p
 ·rw[if_pos au]; exact .hO _ _ _ _ _ _ _ _ al ah ax
 ·rw[if_neg au]; exact .hO _ _ _ _ _ _ _ _ al ah ax
theorem aoz (rel:bP R B w h μ) {t:TypeId} {x c:U} {bH:Value} {cK ay cL:Option U} {sA gX xQ:Option Value} (ak:Gp P t x cK ay cL=some c) (ag:aQ w R h μ x bH)
  (ad:yH w R h μ cK sA) (ae:yH w R h μ ay gX) (aj:yH w R h μ cL xQ) :
  ∃ v,(Instr.sliceAt t bH sA gX xQ).run P w=.ok v w/\aQ w R h μ c v:=by
 unfold Gp at ak;split at ak
 ·-- an array behind its address
  rename_i n e aM;cases aw:cC P e with
  | none=>rw[aw] at ak; cases ak
  | some z=>
  cases af:hc n n cK ay cL with
  | none=>rw[aw,af] at ak; cases ak
  | some vQ=>
  obtain⟨l,aT,m⟩:=vQ;rw[aw,af] at ak;simp only at ak;obtain⟨bZ,ce,eB,hA,iX⟩:=wE (P:=P) (isS:=false) af (awU _) (awU _) ad ae aj;have ahb:(if cL.isSome=true then m else n)=m:=by
   cases cL with
   | none=>simp[hA rfl]
   | some v=>simp
  rw[ahb] at iX;split at ak
  ·rename_i b off sz;split at ak
   ·rename_i eA;have B5:∃ a,bH=.pointer (some a) :=by cases ag<;>exact⟨_,rfl⟩
    obtain⟨a,rfl⟩:=B5;refine⟨_,by simp[Instr.sliceAt,cB aM,Instr.sureAddr,iX,fQ aw]; rfl,?_⟩;split at ak
    ·rename_i kP;simp only[Option.some.injEq] at ak; subst ak;have:aT - l=0:=by omega
     rw[this];exact .gv _ _ _
    ·rename_i kP;simp only[Option.some.injEq] at ak; subst ak;rw[if_neg kP];cases ag with
     | ptr _ _ _ cs ch bN hm=>
      exact aae rel (cap:=m) (cap':=m) (hasMax:=true) bN hm eA (by
       have ey:=rel.blk b ch hm;rw[bN] at ey;have ew:=ey.2.1;by_cases aL:off+m*z<sz
       ·exact .inl ⟨aL,rfl⟩
       ·exact .inr ⟨by omega,awU _,by omega⟩) bZ ce (awU _) (fun aF=>by cases aF) (by simp) kP
     | nI _ _ _ _ ax=>exact .hO _ _ _ _ _ _ _ _ (by omega) (awU _) ax
   ·cases ak
  ·rename_i cs off;split at ak
   ·rename_i eA;simp only[Option.some.injEq] at ak; subst ak;cases ag with
    | bM _ _ blk o eJ ah ao=>
     refine⟨_,by simp[Instr.sliceAt,cB aM,Instr.sureAddr,iX,fQ aw]; rfl,?_⟩;have fA:aT*z<=n*z:=awX _ (by omega);by_cases kP:m=l
     ·have aS:aT - l=0:=by omega
      rw[aS];exact .gv _ _ _
     ·rw[if_neg kP,Addr.m9];have al:=wM (z:=z) (aT - l) (cs.drop (off+l*z));have mg:∀ i,i<aT - l->∀ j,j<z->off+l*z+(i*z+j)<cs.length:=by
       intro i gX j ai;have:(l+i+1)*z<=aT*z:=awX _ (by omega);rw[axL,axL] at this;omega
      have fG:∀ i fr,(mJ z (aT - l) (cs.drop (off+l*z)))[i]? = some fr->i<aT - l/\fr=((cs.drop (off+l*z)).drop (i*z)).take z:=by
       intro i fr g6;have gX:i<aT - l:=by
        have:=(awQ.1 g6).1;omega
       rw[Hy _ _ _ gX] at g6;simp only[Option.some.injEq] at g6;exact⟨gX,g6.symm⟩
      have:=aQ.a1 (w:=w) (R:=R) (h:=h) (μ:=μ) z (mJ z (aT - l) (cs.drop (off+l*z))) blk (o+off+l*z) (m - l) (fun i j=>eJ (off+l*z+(i*z+j))) (by omega)
       (fun fr g6=>by
        obtain⟨i,gX,rfl⟩:=List.getElem_of_mem g6;obtain⟨a8,bh⟩:=fG i _ (awT gX);rw[bh,axd,axP,axP];have:(l+i+1)*z<=aT*z:=awX _ (by omega);rw[axL,axL] at this;omega)
       (fun i j gX ai=>by
        have:=ah (off+l*z+(i*z+j)) (mg i (by omega) j ai);have er:o+off+l*z+(i*z+j)=o+(off+l*z+(i*z+j)) :=by omega
        rw[er]; exact this)
       (fun i fr g6 j c ai=>by
        obtain⟨a8,rfl⟩:=fG i _ g6;have nu:j<z:=by
         have:=(awQ.1 ai).1;rw[axd] at this; omega
        rw[axm nu,axv,axv,] at ai;exact ao _ c ai)
      rw[al] at this;exact this
   ·cases ak
  ·cases ak
 ·-- a slice
  rename_i e aM;split at ak
  ·rename_i z dI b off len cap sz aw;split at ak
   ·rename_i vI; subst vI;cases af:hc len cap cK ay cL with
    | none=>rw[af] at ak; cases ak
    | some vQ=>
    obtain⟨l,aT,m⟩:=vQ;rw[af] at ak;simp only[aw0,Option.some.injEq] at ak;cases ag with
    | aq _ _ _ _ _ _ cap' cs ch bN hm al av c8=>
     have Vt:cap<=cap':=by rcases c8 with c8 | c8<;>omega
     obtain⟨bZ,ce,eB,hA,iX⟩:=wE (P:=P) (isS:=true) af al Vt ad ae aj;refine⟨_,by simp[Instr.sliceAt,Instr.slice,cB aM,iX,fQ aw]; rfl,?_⟩;split at ak
     ·rename_i kP;subst ak;have:aT - l=0:=by omega
      rw[this];by_cases tQ:(if cL.isSome=true then m else cap')=l
      ·rw[if_pos tQ,tQ,ayV];exact .i3 _ _ _ _ _ _ ch bN hm
      ·rw[if_neg tQ];cases cL with
       | some v=>exact absurd (by simpa using kP) tQ
       | none=>
        have BQ:=hA rfl;simp only[ay8,ax8,if_false] at tQ ⊢;have eb:cap=l:=by omega
        have am:off+cap*z=sz/\cap<=cap'/\ch.s+off+cap'*z<=ch.T:=by rcases c8 with c8 | c8<;>omega
        have vr:l*z+(cap' - l)*z=cap'*z:=by rw[<-axL]; congr 1; omega
        subst eb;rw[Addr.m9];have:=aQ.aq (w:=w) (R:=R) (h:=h) (μ:=μ) z b (off+cap*z) 0 0 sz (cap' - cap) _ ch bN hm (awU _) (by omega) (.inr ⟨by omega,by omega,by omega⟩)
        rwa [<-aym] at this
     ·rename_i kP;subst ak;have bY:¬ ((if cL.isSome=true then m else cap')=l) :=by
       cases cL with
       | none=>have:=hA rfl; simp; omega
       | some v=>simpa using kP
      rw[if_neg bY];exact aae rel (hasMax:=cL.isSome) bN hm av c8 bZ ce eB (fun aF=>hA (by simpa using aF)) rfl kP
    | i3 _ _ _ _ a cs ch bN hm=>
     obtain⟨bZ,ce,eB,hA,iX⟩:=wE (P:=P) (isS:=true) af (awU 0) (awU 0) ad ae aj;refine⟨_,by simp[Instr.sliceAt,Instr.slice,cB aM,iX,fQ aw]; rfl,?_⟩;have mR:m=0:=by
      cases cL with
      | none=>exact hA rfl
      | some v=>simp at eB; omega
     have BN:l=0:=by omega
     have ag6:aT=0:=by omega
     subst mR BN ag6;simp only[if_true] at ak;subst ak;simp;exact .i3 _ _ _ _ _ _ ch bN hm
    | hO _ _ _ _ _ _ cap' a al c8 ax=>
     obtain⟨bZ,ce,eB,hA,iX⟩:=wE (P:=P) (isS:=true) af al c8 ad ae aj;refine⟨_,by simp[Instr.sliceAt,Instr.slice,cB aM,iX,fQ aw]; rfl,?_⟩;split at ak
     ·rename_i kP;subst ak;have:aT - l=0:=by omega
      rw[this];exact aQ.aad _ _ _ _ _ _ _ _ _ _ (awU _) (ax2 _) ax
     ·rename_i kP;subst ak;have dN:m<=(if cL.isSome=true then m else cap') :=by split<;>omega
      exact aQ.aad _ _ _ _ _ _ _ _ _ _ (by omega) (by omega) ax
   ·cases ak
  ·rename_i z dI es aw;split at ak
   ·rename_i vI; subst vI;cases af:hc es.length es.length cK ay cL with
    | none=>rw[af] at ak; cases ak
    | some vQ=>
    obtain⟨l,aT,m⟩:=vQ;rw[af] at ak;simp only[aw0,Option.some.injEq] at ak;subst ak;cases ag with
    | a1 _ _ blk off cap eJ al Fh ah ao=>
     obtain⟨bZ,ce,eB,hA,iX⟩:=wE (P:=P) (isS:=true) af (awU _) al ad ae aj;refine⟨_,by simp[Instr.sliceAt,Instr.slice,cB aM,iX,fQ aw]; rfl,?_⟩;have bA:((es.drop l).take (aT - l)).length=aT - l:=by rw[axd,axP]; omega
     have dN:aT<=(if cL.isSome=true then m else cap) :=by
      cases cL with
      | none=>simp only[ay8,ax8,if_false]; omega
      | some v=>simpa using ce
     by_cases kP:(if cL.isSome=true then m else cap)=l
     ·have aS:aT - l=0:=by omega
      rw[if_pos kP,aS,ayb];exact .gv _ _ _
     ·rw[if_neg kP,Addr.m9];have fG:∀ i fr,((es.drop l).take (aT - l))[i]? = some fr->i<aT - l/\es[l+i]? = some fr:=by
       intro i fr g6;have gX:i<aT - l:=by
        have:=(awQ.1 g6).1;omega
       rw[axm gX,axv] at g6;exact⟨gX,g6⟩
      have:=aQ.a1 (w:=w) (R:=R) (h:=h) (μ:=μ) z ((es.drop l).take (aT - l)) blk (off+l*z) ((if cL.isSome=true then m else cap) - l) (fun i j=>eJ (l+i) j) (by omega)
       (fun fr g6=>Fh fr (ayu (axp g6)))
       (fun i j gX ai=>by
        have:=ah (l+i) j (by omega) ai;have er:off+l*z+(i*z+j)=off+((l+i)*z+j) :=by rw[axL]; omega
        rw[er]; exact this)
       (fun i fr g6 j c ai=>ao (l+i) fr (fG i fr g6).2 j c ai)
      rw[bA] at this;exact this
    | gv _ a cap=>
     obtain⟨bZ,ce,eB,hA,iX⟩:=wE (P:=P) (isS:=true) af (awU _) (ax2 cap) ad ae aj;refine⟨_,by simp at iX; simp[Instr.sliceAt,Instr.slice,cB aM,iX,fQ aw]; rfl,?_⟩;have aS:aT - l=0:=by simp at eB; omega
     rw[aS,ayb];exact aQ.anX _ _ _ _ _
   ·cases ak
  ·rename_i z aw;cases ag;cases af:hc 0 0 cK ay cL with
   | none=>rw[af] at ak; cases ak
   | some vQ=>
   obtain⟨l,aT,m⟩:=vQ;rw[af] at ak;simp only[aw0,Option.some.injEq] at ak;subst ak;obtain⟨bZ,ce,eB,hA,iX⟩:=wE (P:=P) (isS:=true) af (awU _) (awU _) ad ae aj;obtain rfl:m=0:=by omega
   obtain rfl:aT=0:=by omega
   obtain rfl:l=0:=by omega
   refine⟨_,by simp[Instr.sliceAt,Instr.slice,cB aM,iX,fQ aw]; rfl,?_⟩;exact .aG
  ·cases ak
 ·-- a string
  rename_i s aM;split at ak
  ·cases ag with
   | str bs=>
    cases af:hc bs.data.toList.length bs.data.toList.length cK ay none with
    | none=>rw[af] at ak; cases ak
    | some vQ=>
    obtain⟨l,aT,m⟩:=vQ;rw[af] at ak;simp only[aw0,Option.some.injEq] at ak;subst ak;cases xQ with
    | some v=>exact aj.elim
    | none=>
     have hL:bs.data.toList.length=bs.size:=by simp
     rw[hL] at af;obtain⟨bZ,ce,eB,hA,iX⟩:=wE (P:=P) (isS:=false) af (awU _) (awU _) ad ae aj;refine⟨.string (bs.extract l aT),by simp[Instr.sliceAt,Instr.slice,cB aM,iX],?_⟩;rw[<-extract_toList];exact .str _
  ·cases ak
 ·cases ak
end

section
variable {P:Program} {w:World} {R:Nat->Prop} {B:Nat} {h:aO} {μ:cr}
def l7 (w:World) (R:Nat->Prop) (h:aO) (μ:cr) (cs:List U) (arr:Array Value) :Prop:=
 arr.size=cs.length/\∀ (j:Nat) (c:U),cs[j]? = some c->∃ v:Value,arr[j]? = some v/\v.oneCell'=true/\aQ w R h μ c v
theorem l7.aH {cs:List U} {arr:Array Value} (az:l7 w R h μ cs arr) :aQ w R h μ (.aH cs) (.agg arr) :=by
 refine .aH _ _ az.1 (fun j v ai=>?_) (fun j c v ah ai=>?_)
 ·have aL:j<cs.length:=by have:=(axl.1 ai).1; rw[<-az.1]; exact this
  obtain⟨u,ad,ae,_⟩:=az.2 j _ (awT aL);rw[ai] at ad; cases ad; exact ae
 ·obtain⟨u,ad,_,aj⟩:=az.2 j c ah;rw[ai] at ad; cases ad; exact aj
theorem Uq:∀ (l:List Value) (k off:Nat) (cells:Array Value),off+k+l.length<=cells.size->
  ((l.zipIdx k).foldl (fun cs (wN:Value × Nat)=>cs.setIfInBounds (off+wN.2) wN.1) cells).size=cells.size ∧
  ∀ j,((l.zipIdx k).foldl (fun cs (wN:Value × Nat)=>cs.setIfInBounds (off+wN.2) wN.1) cells)[j]? = if off+k<=j/\j<off+k+l.length then l[j - (off+k)]? else cells[j]?
 | [],k,off,cells,_=>⟨by simp,fun j=>by simp; omega⟩
 | v::l,k,off,cells,al=>by
  simp only[axa] at al;have aR:=Uq l (k+1) off (cells.setIfInBounds (off+k) v) (by simp; omega);simp only[List.zipIdx_cons,azQ];refine⟨by rw[aR.1]; simp,fun j=>?_⟩;rw[aR.2 j];by_cases ai:off+(k+1)<=j/\j<off+(k+1)+l.length
  ·rw[if_pos ai,if_pos (by simp only[axa]; omega)];have:j - (off+k)=(j - (off+(k+1)))+1:=by omega
   rw[this,axG]
  ·rw[if_neg ai,ax6];by_cases am:off+k=j
   ·subst am;rw[if_pos rfl,if_pos (by omega),if_pos (by simp only[axa]; omega)];simp
   ·rw[if_neg am,if_neg (by simp only[axa]; omega)]
theorem HL {lZ:Nat->Option (Nat × Nat)}:∀ (parts:List (Nat × U)) (lz:List (Nat × Value)) (cs:List U) (arr:Array Value) (cs' : List U),
  hU lZ cs parts=some cs'->l7 w R h μ cs arr->lz.length=parts.length->(∀ (j:Nat) (p:Nat × U) (cv:Nat × Value),parts[j]? = some p->lz[j]? = some cv->cv.1=p.1/\aQ w R h μ p.2 cv.2)->
  ∃ l9,Instr.fill lZ arr lz=some l9/\l7 w R h μ cs' l9
 | [],[],cs,arr,cs',aF,az,_,_=>by
  simp only[hU,Option.some.injEq] at aF; subst aF;exact⟨arr,rfl,az⟩
 | [],_::_,_,_,_,_,_,al,_=>by simp at al
 | _::_,[],_,_,_,_,_,al,_=>by simp at al
 | (i,c) ::parts,(mV,v) ::lz,cs,arr,cs',aF,az,al,au=>by
  obtain⟨rfl,ao⟩:=au 0 (i,c) (mV,v) rfl rfl;simp only at ao;unfold hU at aF;cases fv:lZ mV with
  | none=>rw[fv] at aF; cases aF
  | some os=>
  obtain⟨off,size⟩:=os;cases ah:c.cells with
  | none=>rw[fv,ah] at aF; cases aF
  | some vs=>
  rw[fv,ah] at aF;simp only at aF;split at aF
  ·rename_i kh;obtain⟨hL,ix⟩:=Hv ao ah;have zq:v.cells.toList.length=vs.length:=by simpa using hL
   have q0:=Uq v.cells.toList 0 off arr (by rw[az.1,zq]; omega);have aiP:v.cells.zipIdx.foldl (fun cs (x:Value × Nat)=>match x with | (c,j)=>cs.setIfInBounds (off+j) c) arr=(v.cells.toList.zipIdx 0).foldl (fun cs (wN:Value × Nat)=>cs.setIfInBounds (off+wN.2) wN.1) arr:=by
    rw[<-Array.foldl_toList];simp
   obtain⟨l9,ad,ae⟩:=HL parts lz (bf cs off vs) (v.cells.zipIdx.foldl (fun cs (x:Value × Nat)=>match x with | (c,j)=>cs.setIfInBounds (off+j) c) arr) cs' aF (by
     rw[aiP];refine⟨by rw[q0.1,az.1,Al (by omega)]; omega,fun j x ai=>?_⟩;rw[q0.2 j];rw[aaj (by omega)] at ai;split at ai
     ·rename_i aL;rw[if_neg (by omega)];exact az.2 j x ai
     ·split at ai
      ·rename_i ad ae;rw[if_pos (by rw[zq]; omega)];obtain⟨u,a8,bh,b6⟩:=ix _ x ai;exact⟨u,by simpa using a8,bh,b6⟩
      ·rename_i ad ae;rw[if_neg (by rw[zq]; omega)];exact az.2 j x ai) (by simpa using al) (fun j p cv ai fl=>au (j+1) p cv (by simpa using ai) (by simpa using fl))
   refine⟨l9,?_,ae⟩;have pS:¬ (v.cells.size≠size\/off+v.cells.size > arr.size) :=by rw[hL,az.1]; omega
   simp only[Instr.fill,fv];rw[if_neg (by simpa using pS)];exact ad
  ·cases aF
theorem yC {t:TypeId} {z:List U} (aw:ik P t=some z) :∃ v,(∀ w2:World,(zeroValue t).run P w2=.ok v w2)/\l7 w R h μ z v.cells:=by
 obtain⟨i,v,ay,ao,ak,ah⟩:=abH (w:=w) (R:=R) (h:=h) (μ:=μ) aw;exact⟨v,fun w2=>ZY ay ao,ak,ah⟩
theorem an2 {fs:Array Field} (ak:(fs.toList.all fun f=>(cC P f.type).isSome)=true) :
  (fs.mapM fun f=>(do pure (f.offset,<-sizeOf f.type) :Sem (Nat × Nat))).run P w=.ok ((fs.toList.map fun f=>(f.offset,(cC P f.type).getD 0)).toArray) w:=by
 rw[Array.mapM_eq_mapM_toList];simp only[Sem.run_map];have:∀ l:List Field,(l.all fun f=>(cC P f.type).isSome)=true->(l.mapM fun f=>(do pure (f.offset,<-sizeOf f.type) :Sem (Nat × Nat))).run P w=.ok (l.map fun f=>(f.offset,(cC P f.type).getD 0)) w:=by
  intro l
  induction l with
  | nil=>intro _; simp
  | cons f l aR=>
   intro al;simp only[azX,awZ] at al;obtain⟨n,aC⟩:=azF.1 al.1;simp only[ayp,Sem.run_bind,fQ aC,Result.andThen_ok,Sem.run_pure,aR al.2,axk,aC,axI]
 rw[this _ ak];rfl
theorem ac4 {t:TypeId} {parts:List (Nat × U)} {lz:Array (Nat × Value)} {c:U} (af:Dr P t parts=some c) (al:lz.size=parts.length)
  (au:∀ (j:Nat) (p:Nat × U) (cv:Nat × Value),parts[j]? = some p->lz[j]? = some cv->cv.1=p.1/\aQ w R h μ p.2 cv.2) :
  ∃ v,(Instr.build t lz).run P w=.ok v w/\aQ w R h μ c v:=by
 unfold Dr at af;split at af
 ·rename_i zero fs aw aM;split at af
  ·cases af
  ·rename_i hL;simp only[ayD,Bool.not_eq_false] at hL;cases aF:hU (F5 P fs) zero parts with
   | none=>rw[aF] at af; cases af
   | some cs=>
    rw[aF] at af;simp only[aw0,Option.some.injEq] at af; subst af;obtain⟨v,ao,az⟩:=yC (w:=w) (R:=R) (h:=h) (μ:=μ) aw;obtain⟨l9,ad,ae⟩:=HL parts lz.toList zero v.cells cs aF az (by simpa using al) (fun j p cv ai fl=>au j p cv ai (by simpa using fl));have ah6:(fun i=>((fs.toList.map fun f=>(f.offset,(cC P f.type).getD 0)).toArray)[i]?)=F5 P fs:=by
     funext i;simp only[F5];simp only[List.getElem?_toArray,awV,ayd];cases BH:fs[i]? with
     | none=>simp
     | some f=>
      rw[axx] at hL;have:=hL f (by have:=Array.mem_of_getElem? BH; simpa using this);obtain⟨n,aC⟩:=azF.1 this;simp[aC]
    refine⟨_,?_,ae.aH⟩;simp only[Instr.build,Sem.run_bind,ao,Result.andThen_ok,cB aM,an2 hL];rw[ah6,ad];simp
 ·rename_i zero n e aw aM;cases hL:cC P e with
  | none=>rw[hL] at af; cases af
  | some m=>
   rw[hL] at af;simp only at af;cases aF:hU (fun i=>some (i*m,m)) zero parts with
   | none=>rw[aF] at af; cases af
   | some cs=>
    rw[aF] at af;simp only[aw0,Option.some.injEq] at af; subst af;obtain⟨v,ao,az⟩:=yC (w:=w) (R:=R) (h:=h) (μ:=μ) aw;obtain⟨l9,ad,ae⟩:=HL parts lz.toList zero v.cells cs aF az (by simpa using al) (fun j p cv ai fl=>au j p cv ai (by simpa using fl));refine⟨_,?_,ae.aH⟩;simp only[Instr.build,Sem.run_bind,ao,Result.andThen_ok,cB aM,fQ hL];rw[ad];simp
 ·cases af
theorem Ae {zero:List U}:∀ n,(dH zero n).length=n*zero.length
 | 0=>by simp[dH]
 | n+1=>by simp only[dH,awW,Ae n,axw]; omega
theorem ZH {zero:List U}:∀ (n j:Nat) (c:U),(dH zero n)[j]? = some c->zero[j % zero.length]? = some c
 | 0,_,_,ai=>by simp[dH] at ai
 | n+1,j,c,ai=>by
  simp only[dH] at ai;by_cases aL:j<zero.length
  ·rw[awS aL] at ai
   rwa [aw2 aL]
  ·rw[aw6 (by omega)] at ai;have:=ZH n _ c ai
   rwa [<-Nat.mod_eq_sub_mod (by omega)] at this
theorem Kd {zero:List U} {z:Array Value} (az:l7 w R h μ zero z) (n:Nat) :l7 w R h μ (dH zero n) ((Array.range (n*zero.length)).map (z[· % z.size]!)) :=by
 refine⟨by simp[Ae],fun j c ai=>?_⟩;have aL:j<n*zero.length:=by
  have:=(awQ.1 ai).1
  rwa [Ae] at this
 obtain⟨v,ad,ae,aj⟩:=az.2 _ c (ZH n j c ai);refine⟨v,?_,ae,aj⟩;rw[<-az.1] at ad;obtain⟨af,rfl⟩:=axl.1 ad;simp[aL,af]
theorem aeQ {z:Nat}:∀ (parts:List (Nat × U)) (a b:List U),hU (fun i=>some (i*z,z)) a parts=some b->b.length=a.length:=by
 intro parts
 induction parts with
 | nil=>intro a b gA; simp only[hU,Option.some.injEq] at gA; subst gA; rfl
 | cons p parts aR=>
  intro a b gA;unfold hU at gA;split at gA
  ·rename_i off size vs fv p0;split at gA
   ·rw[aR _ _ gA,Al (by omega)]; omega
   ·cases gA
  ·cases gA
theorem RG {t e:TypeId} {len z:Nat} {zero cs:List U} {parts:List (Nat × U)} {lz:Array (Nat × Value)} (am:jc P t=some e) (aw:cC P e=some z) (jA:ik P e=some zero) (ii:zero.length=z) (nw:len*z<=16777216)
  (aF:hU (fun i=>some (i*z,z)) (dH zero len) parts=some cs) (al:lz.size=parts.length)
  (au:∀ (j:Nat) (p:Nat × U) (cv:Nat × Value),parts[j]? = some p->lz[j]? = some cv->cv.1=p.1/\aQ w R h μ p.2 cv.2) :
  cs.length=len*z/\∃ arr,(Instr.buildSlice t len lz).run P w=.ok (.slice (some ⟨w.heap.size,0,none⟩) len len) (w.alloc (.cells arr e))/\l7 w R h μ cs arr:=by
 obtain⟨v,ao,az⟩:=yC (w:=w) (R:=R) (h:=h) (μ:=μ) jA;obtain⟨l9,ad,ae⟩:=HL parts lz.toList _ _ cs aF (Kd az len) (by simpa using al) (fun j p cv ai fl=>au j p cv ai (by simpa using fl));refine⟨by rw[aeQ _ _ _ aF,Ae,ii],l9,?_,ae⟩;have lm:=DK am;have ahC:¬ (len*z > 2 ^ 24) :=by omega
 simp only[Instr.buildSlice,Sem.run_bind,cB lm,Result.andThen_ok,fQ aw,if_neg ahC];rw[ii] at ad;generalize fB:len*z=N at ad;by_cases aJ:N=0
 ·subst aJ;have gM:∀ f:Nat->Value,(Array.range 0).map f=#[] :=fun f=>by simp[Array.range]
  rw[gM] at ad;simp[gM,ad,newRow]
 ·simp[aJ,ao,ad,newRow]
theorem ac3 (rel:bP R B w h μ) {t:TypeId} {len:Nat} {parts:List (Nat × U)} {lz:Array (Nat × Value)} {c:U} {h' : aO} (af:Hm P h t len parts=some (c,h')) (al:lz.size=parts.length)
  (au:∀ (j:Nat) (p:Nat × U) (cv:Nat × Value),parts[j]? = some p->lz[j]? = some cv->cv.1=p.1/\aQ w R h μ p.2 cv.2) :
  ∃ v w' μ',(Instr.buildSlice t len lz).run P w=.ok v w'/\dg w h μ w' h' μ'/\bP R B w' h' μ'/\aQ w' R h' μ' c v:=by
 unfold Hm at af;cases am:jc P t with
 | none=>rw[am] at af; cases af
 | some e=>
 rw[am] at af;simp only at af;cases aw:cC P e with
 | none=>rw[aw] at af; cases af
 | some z=>
 cases jA:ik P e with
 | none=>rw[aw,jA] at af; cases af
 | some zero=>
 rw[aw,jA] at af;simp only at af;split at af
 ·rename_i kh;obtain⟨ii,nw⟩:=kh;cases aF:hU (fun i=>some (i*z,z)) (dH zero len) parts with
  | none=>rw[aF] at af; cases af
  | some cs=>
   rw[aF] at af;simp only[aw0,Option.some.injEq,Prod.mk.injEq] at af;obtain⟨rfl,rfl⟩:=af;obtain⟨eb,l9,fV,ae⟩:=RG am aw jA ii nw aF al au;have aE:=He rel (cs:=cs) (vs:=l9) e ae.1 ae.2;rw[eb] at aE;obtain⟨a8,bh,b6⟩:=aE;refine⟨.slice (some ⟨w.heap.size,0,none⟩) len len,_,_,fV,a8,bh,?_⟩;have:=aQ.aq (w:=w.alloc (.cells l9 e)) (R:=R) (h:=h.push (.cells (len*z) cs)) (μ:=bB μ h.n (some ⟨w.heap.size,0,l9.size⟩)) z h.n 0 len len (len*z) len cs ⟨w.heap.size,0,l9.size⟩ (by simp[ep,fJ]) (by simp) (awU _) (by omega)
    (.inr ⟨by omega,awU _,by simp only; rw[ae.1,eb]; omega⟩)
   simpa using this
 ·cases af
theorem X5 {t e:TypeId} {z by_:Nat} {zero:List U} {kl kc:IntKind} {li h8:Int} (am:jc P t=some e) (aw:cC P e=some z) (dM:k7 P e=some by_) (jA:ik P e=some zero) (ii:zero.length=z)
  (aJ:0<=li) (q4:li<=h8) (Im:h8<9223372036854775808) (dC:by_*h8<=ci) :
  (dH zero h8.toNat).length=h8.toNat*z/\∃ arr,(Instr.makeSlice t (.int kl li) (.int kc h8)).run P w=.ok (.slice (some ⟨w.heap.size,0,none⟩) li.toNat h8.toNat) (w.alloc (.cells arr e))/\l7 w R h μ (dH zero h8.toNat) arr:=by
 obtain⟨v,ao,az⟩:=yC (w:=w) (R:=R) (h:=h) (μ:=μ) jA;have b0:=Kd az h8.toNat
 refine⟨by rw[Ae,ii],_,?_,b0⟩;obtain⟨i,ay,Vr⟩:∃ i,P.info? e=some i/\i.bytes=by_:=by
  unfold k7 at dM;cases ay:P.info? e with
  | none=>rw[ay] at dM; cases dM
  | some i=>rw[ay] at dM; exact⟨i,rfl,by simpa using dM⟩
 have xp:IntKind.i64.wrap li=li:=IntWalk.i64_in _ (by omega);have sq:IntKind.i64.wrap h8=h8:=IntWalk.i64_in _ (by omega);have lm:=DK am;unfold ci at dC;have t1:¬ (h8<0\/(281474976710656:Int)<(by_:Int)*h8) :=by omega
 have t2:¬ (li<0) :=by omega
 have t3:¬ (h8<li) :=by omega
 rw[ii];generalize fB:h8.toNat*z=N;by_cases tQ:N=0
 ·subst tQ;have gM:∀ f:Nat->Value,(Array.range 0).map f=#[] :=fun f=>by simp[Array.range]
  simp[gM,Instr.makeSlice,cB lm,Go.asInt,asIntOf,typeInfo,ay,Vr,xp,sq,t1,t2,t3,fQ aw,fB,newRow]
 ·simp[Instr.makeSlice,cB lm,Go.asInt,asIntOf,typeInfo,ay,Vr,xp,sq,t1,t2,t3,fQ aw,fB,tQ,ao,newRow]
theorem akO (rel:bP R B w h μ) {t:TypeId} {l c r:U} {JA yV:Value} {h' : aO} (hm:JB P h t l c=some (r,h')) (al:aQ w R h μ l JA) (ah:aQ w R h μ c yV) :
  ∃ v w' μ',(Instr.makeSlice t JA yV).run P w=.ok v w'/\dg w h μ w' h' μ'/\bP R B w' h' μ'/\aQ w' R h' μ' r v:=by
 unfold JB at hm;split at hm
 ·rename_i e li h8 am dO fF;obtain⟨kl,rfl⟩:=tg dO al;obtain⟨kc,rfl⟩:=tg fF ah;cases aw:cC P e with
  | none=>rw[aw] at hm; cases hm
  | some z=>
  cases dM:k7 P e with
  | none=>rw[aw,dM] at hm; cases hm
  | some by_=>
  cases jA:ik P e with
  | none=>rw[aw,dM,jA] at hm; cases hm
  | some zero=>
  rw[aw,dM,jA] at hm;simp only at hm;split at hm
  ·rename_i kh;obtain⟨ii,aJ,q4,Im,dC⟩:=kh;simp only[Option.some.injEq,Prod.mk.injEq] at hm;obtain⟨rfl,rfl⟩:=hm;obtain⟨bA,arr,fV,b0⟩:=X5 (w:=w) (R:=R) (h:=h) (μ:=μ) (kl:=kl) (kc:=kc) am aw dM jA ii aJ q4 Im dC;have aE:=He rel (cs:=dH zero h8.toNat) e b0.1 b0.2;rw[bA] at aE;obtain⟨a8,bh,b6⟩:=aE;refine⟨.slice (some ⟨w.heap.size,0,none⟩) li.toNat h8.toNat,_,_,fV,a8,bh,?_⟩;have:=aQ.aq (w:=w.alloc (.cells arr e)) (R:=R) (h:=h.push (.cells (h8.toNat*z) (dH zero h8.toNat))) (μ:=bB μ h.n (some ⟨w.heap.size,0,arr.size⟩))
    z h.n 0 li.toNat h8.toNat (h8.toNat*z) h8.toNat (dH zero h8.toNat) ⟨w.heap.size,0,arr.size⟩ (by simp[ep,fJ]) (by simp) (by omega) (by omega)
    (.inr ⟨by omega,awU _,by simp only; rw[b0.1,bA]; omega⟩)
   simpa using this
  ·cases hm
 ·cases hm
theorem akh {t u:TypeId} {ty:TypeId} {x c:U} {bH:Value} (ah:zS P t x=some c) (ag:aQ w R h μ x bH) :∃ v,(Builtin.len_ #[t] ty #[bH]).run P w=.ok v w/\aQ w R h μ c v:=by
 unfold zS at ah;split at ah<;>(try (simp only[Option.some.injEq] at ah; subst ah))
 ·rename_i s aM;cases ag;rename_i bs;exact⟨goInt bs.size,by simp[Builtin.len_,cB aM],by rw[show (bs.data.toList.length:Int)=bs.size from by simp]; exact .int _ _⟩
 ·rename_i n e aM;exact⟨goInt n,by simp[Builtin.len_,cB aM],.int _ _⟩
 ·rename_i e aM;cases ag;exact⟨goInt (0:Nat),by simp[Builtin.len_,cB aM],.int _ _⟩
 ·rename_i e z b off len cap sz aM;cases ag
  ·exact⟨goInt len,by simp[Builtin.len_,cB aM],.int _ _⟩
  ·exact⟨goInt len,by simp[Builtin.len_,cB aM],.int _ _⟩
  ·exact⟨goInt (0:Nat),by simp[Builtin.len_,cB aM],.int _ _⟩
 ·rename_i e z es aM;cases ag
  ·exact⟨goInt es.length,by simp[Builtin.len_,cB aM],.int _ _⟩
  ·exact⟨goInt (0:Nat),by simp[Builtin.len_,cB aM],.int _ _⟩
 ·rename_i k e aM;cases ag;exact⟨goInt 0,by simp[Builtin.len_,cB aM],.int _ _⟩
 ·cases ah
end

section
variable {P:Program} {w:World} {R:Nat->Prop} {B:Nat} {h:aO} {μ:cr}
theorem xZ {t:TypeId} {cs:List U} {vs:Array Value} {off:Nat} {c:U} (au:iB P t cs off=some c) (az:l7 w R h μ cs vs) :
  ∃ v,(∀ w2:World,(part t vs off).run P w2=.ok v w2)/\aQ w R h μ c v:=by
 unfold iB at au;cases pP:ev P t with
 | none=>rw[pP] at au; cases au
 | some b=>
  rw[pP] at au;cases b with
  | false=>
   simp only at au;obtain⟨v,ad,_,aj⟩:=az.2 off c au;exact⟨v,fun w2=>by simp[part,Ki pP,ad],aj⟩
  | true=>
   cases aC:cC P t with
   | none=>rw[aC] at au; cases au
   | some n=>
    rw[aC] at au;simp only at au;split at au
    ·rename_i dN;simp only[Option.some.injEq] at au;subst au;refine⟨.agg (vs.extract off (off+n)),fun w2=>by simp[part,Ki pP,fQ aC],l7.aH ⟨by simp; rw[az.1]; omega,fun j c ai=>?_⟩⟩;have ki:j<n:=by
      have:=(awQ.1 ai).1;rw[axd] at this; omega
     rw[axm ki,axv] at ai;obtain⟨v,ad,ae,aj⟩:=az.2 _ c ai;refine⟨v,?_,ae,aj⟩;rw[Array.getElem?_extract,if_pos (by rw[az.1]; omega)];exact ad
    ·cases au
theorem wx {cs:List U} {bH:Value} (ag:aQ w R h μ (.aH cs) bH) :∃ vs,bH=.agg vs/\l7 w R h μ cs vs:=by
 cases ag with
 | aH _ vs al ad ao=>
  refine⟨vs,rfl,al,fun j c ai=>?_⟩;have aL:j<vs.size:=by rw[al]; exact (awQ.1 ai).1
  exact⟨vs[j],by simp[aL],ad j _ (by simp[aL]),ao j c _ ai (by simp[aL])⟩
theorem aeM {t:TypeId} {cs:List U} {f:Nat} {fd:Field} {c:U} {bH:Value} (aF:y1 P t f=some fd) (au:iB P fd.type cs fd.offset=some c) (ag:aQ w R h μ (.aH cs) bH) :
  ∃ v,(Instr.field t bH f).run P w=.ok v w/\aQ w R h μ c v:=by
 obtain⟨fs,aM,q0⟩:=Ud aF;obtain⟨vs,rfl,az⟩:=wx ag;obtain⟨v,ad,ae⟩:=xZ (P:=P) au az;exact⟨v,by simp[Instr.field,cB aM,q0,asAgg,ad],ae⟩
theorem Ob {t:TypeId} {x eZ c:U} {bH Fq:Value} (ah:Cd P t x eZ=some c) (ag:aQ w R h μ x bH) (ay:aQ w R h μ eZ Fq) :
  ∃ v,(Instr.index t bH Fq).run P w=.ok v w/\aQ w R h μ c v:=by
 unfold Cd at ah;split at ah
 ·rename_i n e cs i aM ed;obtain⟨k,rfl⟩:=tg ed ay;cases aw:cC P e with
  | none=>rw[aw] at ah; cases ah
  | some z=>
   rw[aw] at ah;simp only at ah;split at ah
   ·rename_i af;obtain⟨vs,rfl,az⟩:=wx ag;obtain⟨v,ad,ae⟩:=xZ (P:=P) ah az;exact⟨v,by simp[Instr.index,asIntOf,cB aM,af,fQ aw,ad],ae⟩
   ·cases ah
 ·rename_i s i aM ed;obtain⟨k,rfl⟩:=tg ed ay;split at ah
  ·rename_i af;cases ag with
   | str bs=>
    cases Ic:bs.data.toList[i.toNat]? with
    | none=>rw[Ic] at ah; cases ah
    | some b=>
     rw[Ic] at ah;simp only[aw0,Option.some.injEq] at ah;subst ah;have aL:i.toNat<bs.size:=by have:=(awQ.1 Ic).1; simpa using this
     have fG:bs[i.toNat]? = some b:=by
      have ej:=(awQ.1 Ic).2;rw[getElem?_pos bs i.toNat aL];simp only[Option.some.injEq];rw[<-ej];rfl
     exact⟨.int .u8 b.toNat,by simp[Instr.index,asIntOf,cB aM,af,fG],.int _ _⟩
  ·cases ah
 ·cases ah
theorem adS (rel:bP R B w h μ) {t u ty:TypeId} {d x c:U} {LN bH:Value} {h' : aO} (ah:A4 P h t d x=some (c,h')) (bg:aQ w R h μ d LN) (ag:aQ w R h μ x bH) :
  ∃ v w',(Builtin.copy_ #[t,u] ty #[LN,bH]).run P w=.ok v w'/\dg w h μ w' h' μ/\bP R B w' h' μ/\aQ w' R h' μ c v:=by
 unfold A4 at ah;cases am:jc P t with
 | none=>rw[am] at ah; cases ah
 | some e=>
 rw[am] at ah;simp only at ah;cases aw:cC P e with
 | none=>rw[aw] at ah; cases ah
 | some z=>
 rw[aw] at ah;simp only at ah;cases ez:contents h z x with
 | none=>rw[ez] at ah; cases ah
 | some QF=>
 obtain⟨xs,n⟩:=QF;rw[ez] at ah;simp only at ah;have lm:=DK am;obtain⟨bp,bA,vs,b0,ml⟩:=wW (P:=P) rel ez ag;split at ah
 ·simp only[Option.some.injEq,Prod.mk.injEq] at ah;obtain⟨rfl,rfl⟩:=ah;cases bg;have aJ:=ml 0 (ax2 _) w (fun _=>rfl);refine⟨goInt (0:Nat),w,?_,.refl _ _ _,rel,.int _ _⟩;simp[Builtin.copy_,cB lm,bA,fQ aw,aJ]
 ·rename_i dI b off len cap sz;cases af:h.f b with
  | cells m cs=>
   rw[af] at ah;simp only at ah;split at ah
   ·rename_i Ex;obtain⟨rfl,rfl⟩:=Ex;simp only[Option.some.injEq,Prod.mk.injEq] at ah;obtain⟨rfl,rfl⟩:=ah;cases bg with
    | i3 _ _ _ _ a cs' ch bN hm=>
     have aJ:=ml 0 (ax2 _) w (fun _=>rfl);have ll:bf cs off []=cs:=by simp[bf]
     have kR:=rel.same (h':=h.set b (.cells m (bf cs off (xs.take (min n 0*z))))) (by
      rw[dZ,Nat.min_zero,ayU,ayb,ll];funext x;simp only[bB];split
      ·rename_i ag; rw[ag,af]
      ·rfl) rfl
     refine⟨goInt (0:Nat),w,?_,kR.1,kR.2,by rw[Nat.min_zero]; exact .int _ _⟩;simp[Builtin.copy_,cB lm,bA,fQ aw,aJ,storeCells,Result.andThen]
    | hO _ _ _ _ _ _ cap' a al c8 ax=>
     exfalso;rcases ax with ax | ⟨fY,cs',ax,aL⟩
     ·rw[ax] at af; cases af
     ·rw[ax] at af; cases af; omega
    | aq _ _ _ _ _ _ cap' cs' ch bN hm al av c8=>
     have ey:=rel.blk b ch hm;rw[af] at ey;obtain⟨Vw,ew,_⟩:=ey;have vr:min n len*z<=cap*z:=awX _ (by omega);have Wf:min n len*z<=n*z:=awX _ (by omega);have ln:(xs.take (min n len*z)).length=min n len*z:=by rw[axd]; omega
     have nw:max m (off+(xs.take (min n len*z)).length)=m:=by rw[ln]; omega
     obtain⟨w',ad,ae,aj⟩:=AA (P:=P) rel (cvs:=xs.take (min n len*z)) (vs:=vs.take (min n len*z)) (k:=off) af hm (by omega)
      (by rw[axd,axd,b0.1]) (by rw[nw]; omega) (fun j c ai=>by
       have aL:j<min n len*z:=by have:=(awQ.1 ai).1; rwa [ln] at this
       rw[axm aL] at ai ⊢;exact b0.2 j c ai)
     rw[nw] at ae aj;have aF:=ml (min n len) (by omega) w (fun _=>rfl);refine⟨goInt (min n len:Nat),w',?_,ae,aj,.int _ _⟩;have zs:Nat.min n len=min n len:=rfl;simp[Builtin.copy_,cB lm,bA,fQ aw,zs,aF,ad]
   ·cases ah
  | _=>rw[af] at ah; cases ah
 ·cases ah
theorem Ls:∀ (cs:List U) (vs:List Value) (bs:List UInt8),nV cs=some bs->vs.length=cs.length->
  (∀ (j:Nat) (c:U),cs[j]? = some c->∃ v:Value,vs[j]? = some v/\v.oneCell'=true/\aQ w R h μ c v)->
  ∃ ns:List Int,vs=ns.map (Value.int .u8)/\bs=ns.map fun n=>UInt8.ofNat n.toNat
 | [],[],bs,af,_,_=>by
  simp only[nV,Option.some.injEq] at af; subst af;exact⟨[],rfl,rfl⟩
 | [],_::_,_,_,al,_=>by simp at al
 | _::_,[],_,_,al,_=>by simp at al
 | c::cs,v::vs,bs,af,al,ao=>by
  obtain⟨v0,ko,_,vE⟩:=ao 0 c rfl;simp only[axh,Option.some.injEq] at ko;subst ko;cases vE with
  | int k n=>
   cases k<;>simp only[nV] at af<;>try (cases af; done)
   cases ld:nV cs with
   | none=>rw[ld] at af; cases af
   | some acW=>
    rw[ld] at af;simp only[aw0,Option.some.injEq] at af;subst af;obtain⟨ns,ad,ae⟩:=Ls cs vs acW ld (by simpa using al) (fun j c ai=>ao (j+1) c (by simpa using ai));exact⟨n::ns,by rw[ad]; rfl,by rw[ae]; rfl⟩
  | _=>simp[nV] at af
theorem Up:∀ (ns:List Int) (s:ByteArray),(ns.foldl (fun r n=>r.push (UInt8.ofNat n.toNat)) s).data.toList=s.data.toList++ns.map fun n=>UInt8.ofNat n.toNat
 | [],s=>by simp
 | n::ns,s=>by
  rw[azQ,Up ns];simp[ByteArray.push]
theorem adQ (rel:bP R B w h μ) {s d:TypeId} {x c:U} {bH:Value} (ah:yU P h s d x=some c) (ag:aQ w R h μ x bH) :
  ∃ v,(convert s d bH).run P w=.ok v w/\aQ w R h μ c v:=by
 unfold yU at ah;split at ah
 ·rename_i iH k k' n ak bg;simp only[Option.some.injEq] at ah; subst ah;cases ag;exact⟨.int k (k.wrap n),by simp[convert,cB ak,cB bg,Conv.intToInt],.int _ _⟩
 ·rename_i ff ak bg;simp only[Option.some.injEq] at ah; subst ah;cases ag with
  | str bs=>exact⟨.string bs,by simp[convert,cB ak,cB bg],.str _⟩
 ·rename_i e ak bg Wh;cases Je:P.underlying e with
  | none=>rw[Je] at ah; cases ah
  | some ar4=>
   rw[Je] at ah;split at ah
   ·rename_i heq;simp only[Option.some.injEq] at heq ah; subst heq ah;cases ag;refine⟨.string ByteArray.empty,by simp[convert,cB ak,cB bg,cB Je,Conv.bytesToString],?_⟩;exact .str ByteArray.empty
   ·rename_i heq zw;simp only[Option.some.injEq] at heq; subst heq;split at ah
    ·cases ah
    ·rename_i cs n ahP ez;cases ld:nV cs with
     | none=>rw[ld] at ah; cases ah
     | some bs=>
      rw[ld] at ah;simp only[aw0,Option.some.injEq] at ah; subst ah;obtain⟨bp,bA,vs,b0,ml⟩:=wW (P:=P) rel ez ag;have aF:=ml n (awU _) w (fun _=>rfl);obtain⟨ns,rfl,rfl⟩:=Ls cs vs bs ld b0.1 b0.2;have Fb:(ns.map (Value.int .u8)).take (n*1)=ns.map (Value.int .u8) :=awR (by rw[b0.1,bp]; exact awU _);rw[Fb] at aF;have MN:∃ a len cap,bH=.slice a len cap:=by
       cases ag<;>first | exact⟨_,_,_,rfl⟩ | (simp[contents] at ez; done) | (exact absurd rfl (ahP _))
      obtain⟨a,len,cap,rfl⟩:=MN;simp only[Builtin.lenOf,Sem.run_pure,Result.ok.injEq] at bA;obtain⟨rfl,_⟩:=bA;have agC:=Up ns ByteArray.empty;refine⟨.string (ns.foldl (fun r n=>r.push (UInt8.ofNat n.toNat)) ByteArray.empty),?_,?_⟩
      ·rw[run_convert_bytes_string w s d e a len cap ak Je bg];cases a with
       | none=>
        simp only[Builtin.firstCells,Sem.run_pure,Result.ok.injEq] at aF;have ix:ns=[] :=by
         have:=congrArg Array.toList aF.1;simpa using this.symm
        subst ix;simp[Conv.bytesToString]
       | some a=>
        simp only[Builtin.firstCells,ayt] at aF;exact run_bytesToString w a len cap ns aF
      ·have:(ns.foldl (fun r n=>r.push (UInt8.ofNat n.toNat)) ByteArray.empty).data.toList=ns.map fun n=>UInt8.ofNat n.toNat:=by rw[agC]; rfl
       rw[<-this];exact .str _
    ·cases ah
   ·cases ah
 ·cases ah
theorem PA (rel:bP R B w h μ) {w' : World} (af:RowKit.Below w.heap.size w w') (sa:w.drawn<=w'.drawn:=by first | exact awU _ | exact Nat.le_succ _) :dg w h μ w' h μ/\bP R B w' h μ:=by
 have e:dg w h μ w' h μ:=⟨⟨af.os,af.tape,af.output,af.size,fun k ar _=>af.block k ar,fun _ av=>.inl av,fun b sz cs m ad ae=>.inl ⟨cs,ad,ae⟩,fun _ _ ax=>ax,fun _ _ _ ad ae=>⟨ad,ae⟩,awU _,sa⟩,fun _ _ hm=>hm⟩
 refine⟨e,fun b m hm=>?_,rel.inj,rel.base,rel.fresh,rel.up,axy rel.size af.size,rel.lX⟩;cases al:live (h.f b) with
 | false=>cases ah:h.f b<;>first | trivial | (rw[ah] at al; cases al)
 | true=>exact (rel.blk b m hm).ext e.toExt0 (af.block _ (rel.lt al hm))
theorem ac7 (rel:bP R B w h μ) {s d:TypeId} {x c:U} {bH:Value} (ah:AR P s d x=some c) (ag:aQ w R h μ x bH) :
  ∃ v w',(convert s d bH).run P w=.ok v w'/\dg w h μ w' h μ/\bP R B w' h μ/\aQ w' R h μ c v:=by
 unfold AR at ah;split at ah
 ·rename_i iH e ff ak bg;split at ah
  ·rename_i aM;simp only[Option.some.injEq] at ah; subst ah;cases ag with
   | str bs=>
    have agi:RowKit.Below w.heap.size w (Lib.bytesWorld w e bs) :=⟨rfl,rfl,rfl,by rw[Lib.bytesWorld_size]; omega,fun k ar=>Lib.bytesWorld_at_old w e bs k ar⟩
    obtain⟨ad,ae⟩:=PA rel agi;refine⟨_,_,Lib.run_convert_string_bytes w s d e bs ak bg aM,ad,ae,?_⟩;have hL:bs.data.toList.length=bs.size:=by simp
    have gC:¬ Own h μ w.heap.size:=by
     rintro⟨b,m,al,hm,am⟩;have:=rel.lt al hm;omega
    have cZ:bs.size<=grownCap w bs.size 0 e:=grownCap_ge w bs.size 0 e;have:=aQ.a1 (w:=Lib.bytesWorld w e bs) (R:=R) (h:=h) (μ:=μ) 1 (bs.data.toList.map fun b=>[jP b]) w.heap.size 0 (grownCap w bs.size 0 e) (fun i _=>.int .u8 (bs.data.toList.getD i 0).toNat)
     (by simpa using cZ) (fun e am=>by obtain⟨b,_,rfl⟩:=axi.1 am; rfl)
     (fun i j ay ai=>by
      have gX:i<bs.size:=by simpa using ay
      have:j=0:=by omega
      subst this;exact⟨by simpa using Lib.bytesWorld_cell w e bs i gX,rfl,rel.up _ rel.size,gC⟩)
     (fun i e am j c ai=>by
      rw[awV] at am;cases af:bs.data.toList[i]? with
      | none=>rw[af] at am; cases am
      | some b=>
       rw[af] at am;simp only[aw0,Option.some.injEq] at am; subst am;cases j with
       | zero=>
        simp only[axh,Option.some.injEq] at ai; subst ai;have:bs.data.toList.getD i 0=b:=by simp[List.getD,af]
        rw[this];exact .int _ _
       | succ j=>simp at ai)
    rw[aw1,hL] at this;exact this
  ·cases ah
 ·cases ah
theorem adj {t ty:TypeId} {x c:U} {bH:Value} (ah:AV P t x=some c) (ag:aQ w R h μ x bH) :∃ v,(Builtin.cap_ #[t] ty #[bH]).run P w=.ok v w/\aQ w R h μ c v:=by
 unfold AV at ah;split at ah<;>(try (simp only[Option.some.injEq] at ah; subst ah))
 ·rename_i n e aM;exact⟨goInt n,by simp[Builtin.cap_,cB aM],.int _ _⟩
 ·rename_i e aM;cases ag;exact⟨goInt (0:Nat),by simp[Builtin.cap_,cB aM],.int _ _⟩
 ·cases ah
theorem ady (rel:bP R B w h μ) {t ty:TypeId} {x:U} {bH:Value} {h' : aO} (ah:AZ P h t x=some h') (ag:aQ w R h μ x bH) :
  ∃ w',(Builtin.clear_ #[t] ty #[bH]).run P w=.ok (.tuple #[]) w'/\dg w h μ w' h' μ/\bP R B w' h' μ:=by
 unfold AZ at ah;split at ah
 ·rename_i e aM;simp only[Option.some.injEq] at ah; subst ah;cases ag;exact⟨w,by simp[Builtin.clear_,cB aM],.refl _ _ _,rel⟩
 ·rename_i e z aM;simp only[Option.some.injEq] at ah; subst ah;cases ag<;>exact⟨w,by simp[Builtin.clear_,cB aM],.refl _ _ _,rel⟩
 ·rename_i e z b off len cap sz aM;split at ah
  ·rename_i BN;simp only[Option.some.injEq] at ah; subst ah;subst BN;cases ag<;>exact⟨w,by simp[Builtin.clear_,cB aM],.refl _ _ _,rel⟩
  ·rename_i BN;split at ah
   ·rename_i zero m cs aw af;split at ah
    ·rename_i Ex;obtain⟨rfl,rfl⟩:=Ex;simp only[Option.some.injEq] at ah; subst ah;cases ag with
     | i3=>exact absurd rfl BN
     | hO _ _ _ _ _ _ cap' a al c8 ax=>
      exfalso;rcases ax with ax | ⟨fY,cs',ax,aL⟩
      ·rw[ax] at af; cases af
      ·rw[ax] at af; cases af; omega
     | aq _ _ _ _ _ _ cap' cs' ch bN hm al av c8=>
      have ey:=rel.blk b ch hm;rw[af] at ey;obtain⟨Vw,ew,_⟩:=ey;obtain⟨v,ao,az⟩:=yC (P:=P) (w:=w) (R:=R) (h:=h) (μ:=μ) aw;have BW:=Kd az len;have vr:len*zero.length<=cap*zero.length:=awX _ al;have ra:(dH zero len).length=len*zero.length:=Ae len;have nw:max m (off+(dH zero len).length)=m:=by rw[ra]; omega
      have ii:v.cells.size=zero.length:=az.1;have Jg:(Builtin.zeroCells v.cells len)=(Array.range (len*zero.length)).map (v.cells[· % v.cells.size]!) :=by
       unfold Builtin.zeroCells;rw[ii]
      obtain⟨w',ad,ae,aj⟩:=AA (P:=P) rel (cvs:=dH zero len) (vs:=(Builtin.zeroCells v.cells len).toList) (k:=off) af hm (by omega)
       (by rw[Jg,ra]; simp) (by rw[nw]; omega) (fun j c ai=>by
        rw[Jg];obtain⟨u,a8,bh,b6⟩:=BW.2 j c ai;exact⟨u,by rw[ayd]; exact a8,bh,b6⟩)
      rw[nw] at ae aj;refine⟨w',?_,ae,aj⟩;cases bA:len with
      | zero=>exact absurd bA BN
      | succ auL=>
       rw[bA] at ad;simp[Builtin.clear_,cB aM,ao,ad]
    ·cases ah
   ·cases ah
 ·cases ah
theorem acr (rel:bP R B w h μ) {t u ty:TypeId} {k:IntKind} {s x c:U} {nL bH:Value} {h' : aO} (aM:P.underlying u=some (.int k)) (aE:Dl P h t s x=some (c,h')) (ak:aQ w R h μ s nL) (ag:aQ w R h μ x bH) :
  ∃ v w' μ',(Builtin.append_ #[t,u] ty #[nL,bH]).run P w=.ok v w'/\dg w h μ w' h' μ'/\bP R B w' h' μ'/\aQ w' R h' μ' c v:=by
 unfold Dl at aE;split at aE
 ·rename_i e n am ay;have lm:=DK am;obtain⟨sx,rfl⟩:=tg ay ag;split at aE
  ·rename_i z by_ zero aw dM jA;split at aE
   ·rename_i kh;obtain⟨ii,xi,atc,dC⟩:=kh;obtain⟨i,zv,sb,mu,kq,_⟩:=abH (P:=P) (w:=w) (R:=R) (h:=h) (μ:=μ) jA;have sn:i.size=z:=by simpa [cC,sb] using aw
    have mO:i.bytes=by_:=by simpa [k7,sb] using dM
    have B7:IntKind.i64.wrap n=n:=by
     simp[IntKind.wrap,IntKind.bits,IntKind.signed]; omega
    have aC:(n.toNat:Int)=n:=by omega
    have kk:¬ (n<0) :=by omega
    have asA:¬ (2 ^ 48<n*(by_:Int)) :=by
     have ad:((n.toNat*by_:Nat) :Int)=n*by_:=by rw[Int.natCast_mul,aC]
     have ae:((n.toNat*by_:Nat) :Int)<=((140737488355328:Nat) :Int) :=Int.ofNat_le.2 dC;rw[ad] at ae;omega
    have b0:l7 w R h μ (dH zero n.toNat) (Builtin.zeroCells zv.cells n.toNat) :=by
     obtain⟨v,ao,az⟩:=yC (P:=P) (w:=w) (R:=R) (h:=h) (μ:=μ) jA;have aiG:v=zv:=by
      have:=ao w;simp[zeroValue,typeInfo,sb,mu] at this;exact this.symm
     subst aiG;have BW:=Kd az n.toNat
     have Jg:(Builtin.zeroCells v.cells n.toNat)=(Array.range (n.toNat*zero.length)).map (v.cells[· % v.cells.size]!) :=by
      unfold Builtin.zeroCells;rw[az.1]
     rw[Jg];exact BW
    have ra:(dH zero n.toNat).length=n.toNat*z:=by rw[Ae,ii]
    have xc:∀ w2:World,(Go.asInt (.int sx n)).run P w2=.ok n w2:=fun w2=>rfl
    have w7:¬ (281474976710656<n*(by_:Int)) :=by omega
    have zK:∀ w2:World,(zeroValue e).run P w2=.ok zv w2:=fun w2=>by simp[zeroValue,typeInfo,sb,mu]
    have WX:n.toNat*z=0->Builtin.zeroCells zv.cells n.toNat=#[] :=fun aJ=>by
     apply azl;unfold Builtin.zeroCells;simp[kq,ii,aJ]
    refine Ri rel aw dM aE ak ra (vs:=(Builtin.zeroCells zv.cells n.toNat).toList) ⟨by simpa using b0.1,fun j c ai=>by
     obtain⟨v,a8,bh,b6⟩:=b0.2 j c ai;exact⟨v,by rw[ayd]; exact a8,bh,b6⟩⟩ (fun base sLen hk w' eA bE=>?_) (fun mV awO gX WY base sLen hk fZ av ax az af=>?_)
    ·by_cases aJ:n.toNat*z=0
     ·rw[WX aJ] at bE;cases base with
      | none=>
       subst bE;simp[Builtin.append_,xc,cB lm,cB aM,fQ aw,B7,kk,typeInfo,sb,mO,eA,w7,aJ]
      | some a=>
       simp only at bE;simp[Builtin.append_,xc,cB lm,cB aM,fQ aw,B7,kk,typeInfo,sb,mO,eA,w7,aJ,bE]
     ·cases base with
      | none=>
       subst bE;simp[Builtin.append_,xc,cB lm,cB aM,fQ aw,B7,kk,typeInfo,sb,mO,eA,w7,aJ,zK]
      | some a=>
       simp only at bE;simp[Builtin.append_,xc,cB lm,cB aM,fQ aw,B7,kk,typeInfo,sb,mO,eA,w7,aJ,zK,bE]
    ·rw[sb] at gX;cases gX;rw[mu] at WY;cases WY;have MP:¬ (281474976710656<Builtin.nextslicecap (sLen+n.toNat) hk*i.bytes) :=by
      have:=growslice_fits (need:=sLen+n.toNat) (old:=hk) (bytes:=i.bytes) ax az;omega
     have Wj:¬ (sLen+n.toNat<=hk) :=by omega
     have zt:¬ ((9223372036854775807:Int)<((sLen+n.toNat:Nat) :Int)) :=by
      have ad:(sLen+n.toNat)*1<=(sLen+n.toNat)*i.bytes:=Nat.mul_le_mul_left _ af;unfold ci at az;omega
     have Wg:¬ ((9223372036854775807:Int)<(sLen:Int)+max n 0) :=by omega
     rw[sn] at av;rw[mO] at MP;by_cases aJ:n.toNat*z=0
     ·have zq:(fZ++(Builtin.zeroCells zv.cells n.toNat).toList).toArray=fZ.toArray:=by rw[WX aJ]; simp
      rw[zq];simp[Builtin.append_,xc,cB lm,cB aM,fQ aw,B7,kk,typeInfo,sb,mO,Wj,w7,zt,Wg,MP,aJ,zK,av,Question.forced,newRow,grownCap]
     ·have zq:(fZ++(Builtin.zeroCells zv.cells n.toNat).toList).toArray=fZ.toArray++Builtin.zeroCells zv.cells n.toNat:=by simp
      rw[zq];simp[Builtin.append_,xc,cB lm,cB aM,fQ aw,B7,kk,typeInfo,sb,mO,Wj,w7,zt,Wg,MP,aJ,zK,av,Question.forced,newRow,grownCap]
   ·cases aE
  ·cases aE
 ·cases aE
end

section
variable {P:Program} {w:World} {R:Nat->Prop} {B:Nat} {h:aO} {μ:cr}
theorem acH {op:BinOp} {t:TypeId} {k k' : IntKind} {a b:Int} {c:U} (ah:cy op k a k' b=some c) :
  ∃ v,(binOp op t (.int k a) (.int k' b)).run P w=.ok v w/\aQ w R h μ c v:=by
 cases op
 case shl=>
  simp only[cy] at ah;split at ah
  ·cases ah
  ·rename_i af;simp only[Option.some.injEq] at ah; subst ah;exact⟨_,by simp[binOp,Op.shift,af],.int _ _⟩
 case shr=>
  simp only[cy] at ah;split at ah
  ·cases ah
  ·rename_i af;simp only[Option.some.injEq] at ah; subst ah;exact⟨_,by simp[binOp,Op.shift,af],.int _ _⟩
 case quo=>
  simp only[cy] at ah;split at ah
  ·rename_i af;obtain⟨rfl,af⟩:=af;simp only[Option.some.injEq] at ah; subst ah;exact⟨_,by simp[binOp,Op.intDiv,af],.int _ _⟩
  ·cases ah
 case rem=>
  simp only[cy] at ah;split at ah
  ·rename_i af;obtain⟨rfl,af⟩:=af;simp only[Option.some.injEq] at ah; subst ah;exact⟨_,by simp[binOp,Op.intDiv,af],.int _ _⟩
  ·cases ah
 all_goals
  simp only[cy] at ah;split at ah
  ·rename_i ar;subst ar;simp only[Option.some.injEq] at ah; subst ah
   first
    | (refine⟨_,?_,.int _ _⟩; unfold binOp; simp only[ne_eq,not_true_eq_false,if_false]; rfl)
    | (refine⟨_,?_,.bool _⟩; unfold binOp; simp only[ne_eq,not_true_eq_false,if_false]; rfl)
  ·cases ah
theorem toList_eq (s:ByteArray) :s.toList=s.data.toList:=by
 rw[ByteArray.toList_eq]
theorem acI {op:BinOp} {t:TypeId} {a b:ByteArray} {c:U} (ah:wD op a.data.toList b.data.toList=some c) :
  ∃ v,(binOp op t (.string a) (.string b)).run P w=.ok v w/\aQ w R h μ c v:=by
 cases op<;>simp only[wD] at ah<;>try (cases ah; done)
 case add=>
  split at ah
  ·rename_i dN;simp only[Option.some.injEq] at ah; subst ah;have ad:a.data.toList.length=a.size:=by simp
   have ae:b.data.toList.length=b.size:=by simp
   rw[ad,ae] at dN;have EP:¬ ((9223372036854775807:Int)<(a.size:Int)+(b.size:Int)) :=by omega
   have al:(a++b).data.toList=a.data.toList++b.data.toList:=by simp
   refine⟨.string (a++b),by simp[binOp,Op.stringOp,EP],?_⟩;rw[<-al];exact .str _
  ·cases ah
 all_goals
  simp only[Option.some.injEq] at ah; subst ah;exact⟨_,by simp[binOp,Op.stringOp,toList_eq],.bool _⟩
theorem aeB {d:Nat} {t:TypeId} {a b:Bool} (aM:P.underlying t=some .bool) :(Op.equalIn (d+1) t (.bool a) (.bool b)).run P w=.ok (a == b) w:=by
 simp[Op.equalIn,cB aM]
theorem aeC {d:Nat} {t:TypeId} {hz k:IntKind} {a b:Int} (aM:P.underlying t=some (.int hz)) :(Op.equalIn (d+1) t (.int k a) (.int k b)).run P w=.ok (a == b) w:=by
 simp[Op.equalIn,cB aM]
theorem aeD {d:Nat} {t:TypeId} {a b:ByteArray} (aM:P.underlying t=some .string) :(Op.equalIn (d+1) t (.string a) (.string b)).run P w=.ok (a.data.toList == b.data.toList) w:=by
 simp[Op.equalIn,cB aM,toList_eq,beq_toListBytes]
theorem LX {d:Nat} {t e:TypeId} {x y l c:Nat} {b:Option Addr} (aM:P.underlying t=some (.slice e)) :(Op.equalIn (d+1) t (.slice none x y) (.slice b l c)).run P w=.ok b.isNone w:=by
 simp[Op.equalIn,cB aM]
theorem T9 {d:Nat} {t e:TypeId} {x y l c:Nat} {a:Addr} (aM:P.underlying t=some (.slice e)) :(Op.equalIn (d+1) t (.slice (some a) l c) (.slice none x y)).run P w=.ok false w:=by
 simp[Op.equalIn,cB aM]
theorem LU {d:Nat} {xs bK:List U} {s1 s2:Array Value}
  (aR:∀ (t:TypeId) (x y:U) (b:Bool) (bH gx:Value),eH P d t x y=some b->aQ w R h μ x bH->aQ w R h μ y gx->(Op.equalIn d t bH gx).run P w=.ok b w)
  (tO:l7 w R h μ xs s1) (tP:l7 w R h μ bK s2) :∀ (l:List Field) (b:Bool),eH.eqFields P (eH P d) xs bK l=some b->(Op.eqFields d s1 s2 l).run P w=.ok b w
 | [],b,af=>by simp only[eH.eqFields,Option.some.injEq] at af; subst af; simp[Op.eqFields]
 | f::l,b,af=>by
  unfold eH.eqFields at af;unfold Op.eqFields;by_cases aF:f.name= "_"
  ·rw[if_pos aF] at af;simp[aF,LU aR tO tP l b af]
  ·rw[if_neg aF] at af;split at af
   ·rename_i a c aE ah;obtain⟨iN,ad,ae⟩:=xZ (P:=P) aE tO;obtain⟨eu,aj,aD⟩:=xZ (P:=P) ah tP;split at af
    ·rename_i heq;have:=aR f.type a c true iN eu heq ae aD;simp[aF,ad,aj,this,LU aR tO tP l b af]
    ·rename_i heq;have:=aR f.type a c false iN eu heq ae aD;simp only[Option.some.injEq] at af; subst af;simp[aF,ad,aj,this]
    ·cases af
   ·cases af
theorem T5 {d z:Nat} {e:TypeId} {xs bK:List U} {s1 s2:Array Value}
  (aR:∀ (t:TypeId) (x y:U) (b:Bool) (bH gx:Value),eH P d t x y=some b->aQ w R h μ x bH->aQ w R h μ y gx->(Op.equalIn d t bH gx).run P w=.ok b w)
  (tO:l7 w R h μ xs s1) (tP:l7 w R h μ bK s2) (f:Nat->Option Bool × Unit->Sem (ForInStep (Option Bool × Unit)))
  (aF:∀ (i:Nat) (iN eu:Value) (b:Bool) (r:Option Bool × Unit),(part e s1 (i*z)).run P w=.ok iN w->(part e s2 (i*z)).run P w=.ok eu w->(Op.equalIn d e iN eu).run P w=.ok b w->
   (f i r).run P w=.ok (if b then .yield (none,()) else .done (some false,())) w) :
  ∀ (n i:Nat) (b:Bool),eH.tq P (eH P d) e z xs bK n i=some b->(forIn (List.range' i n) (none,()) f).run P w=.ok (if b then (none,()) else (some false,())) w
 | 0,i,b,af=>by
  simp only[eH.tq,Option.some.injEq] at af; subst af;simp
 | n+1,i,b,af=>by
  unfold eH.tq at af;split at af
  ·rename_i a c aE ah;obtain⟨iN,ad,ae⟩:=xZ (P:=P) aE tO;obtain⟨eu,aj,aD⟩:=xZ (P:=P) ah tP;rw[List.range'_succ,List.forIn_cons];split at af
   ·rename_i heq;have aN:=aR e a c true iN eu heq ae aD;have aT:=aF i iN eu true (none,()) (ad w) (aj w) aN;simp only[Sem.run_bind,aT,if_true,Result.andThen_ok];exact T5 aR tO tP f aF n (i+1) b af
   ·rename_i heq;have aN:=aR e a c false iN eu heq ae aD;have aT:=aF i iN eu false (none,()) (ad w) (aj w) aN;simp only[Option.some.injEq] at af; subst af;simp[aT]
   ·cases af
  ·cases af
theorem run_equalIn_array {d n z:Nat} {t e:TypeId} {s1 s2:Array Value} (aM:P.underlying t=some (.array n e)) (aw:cC P e=some z) {b:Bool}
  (ar:∀ f:Nat->Option Bool × Unit->Sem (ForInStep (Option Bool × Unit)),
   (∀ (i:Nat) (iN eu:Value) (b:Bool) (r:Option Bool × Unit),(part e s1 (i*z)).run P w=.ok iN w->(part e s2 (i*z)).run P w=.ok eu w->(Op.equalIn d e iN eu).run P w=.ok b w->(f i r).run P w=.ok (if b then .yield (none,()) else .done (some false,())) w)->
   (forIn (List.range' 0 n) (none,()) f).run P w=.ok (if b then (none,()) else (some false,())) w) :
  (Op.equalIn (d+1) t (.agg s1) (.agg s2)).run P w=.ok b w:=by
 simp only[Op.equalIn,Sem.run_bind,cB aM,Result.andThen_ok,fQ aw];rw[Std.Legacy.Range.forIn_eq_forIn_range'];have az:List.range' ([:n] :Std.Legacy.Range).start ([:n] :Std.Legacy.Range).size ([:n] :Std.Legacy.Range).step=List.range' 0 n:=by simp[Std.Legacy.Range.size]
 rw[az,ar]
 ·cases b<;>simp
 ·intro i iN eu b r ad ae aj;cases b<;>simp[ad,ae,aj]
theorem LV:∀ (d:Nat) (t:TypeId) (x y:U) (b:Bool) (bH gx:Value),eH P d t x y=some b->aQ w R h μ x bH->aQ w R h μ y gx->
  (Op.equalIn d t bH gx).run P w=.ok b w:=by
 intro d
 induction d with
 | zero=>intro t x y b bH gx am; simp[eH] at am
 | succ d aR=>
  intro t x y b bH gx am ag aI;unfold eH at am;split at am
  ·rename_i a aZ aM;simp only[Option.some.injEq] at am; subst am;cases ag; cases aI;exact aeB aM
  ·rename_i hz k a k' aZ aM;split at am
   ·rename_i ar; subst ar;simp only[Option.some.injEq] at am; subst am;cases ag; cases aI;exact aeC aM
   ·cases am
  ·rename_i a aZ aM;simp only[Option.some.injEq] at am; subst am;cases ag; cases aI;exact aeD aM
  ·rename_i fs xs bK aM;split at am
   ·cases am
   ·rename_i bE;obtain⟨s1,rfl,tO⟩:=wx ag;obtain⟨s2,rfl,tP⟩:=wx aI;have aiv:P.stoodInHeld t=false:=by simpa using bE
    have q0:P.fieldsOf t=fs:=by simp[Program.fieldsOf,aM]
    rw[run_equalIn_struct w d t s1 s2 (by rw[q0]; exact aM) aiv,q0];exact LU aR tO tP _ _ am
  ·rename_i n e xs bK aM;cases aw:cC P e with
   | none=>rw[aw] at am; cases am
   | some z=>
    rw[aw] at am;simp only at am;obtain⟨s1,rfl,tO⟩:=wx ag;obtain⟨s2,rfl,tP⟩:=wx aI;exact run_equalIn_array aM aw (fun f aF=>T5 aR tO tP f aF n 0 b am)
  ·rename_i e aM;simp only[Option.some.injEq] at am; subst am;cases ag; cases aI;exact LX aM
  ·rename_i e z aZ off len cap sz aM;simp only[Option.some.injEq] at am; subst am;cases ag; cases aI<;>exact LX aM
  ·rename_i e z es aM;simp only[Option.some.injEq] at am; subst am;cases ag; cases aI<;>exact LX aM
  ·rename_i e z aZ off len cap sz aM;simp only[Option.some.injEq] at am; subst am;cases aI; cases ag<;>exact T9 aM
  ·rename_i e z es aM;simp only[Option.some.injEq] at am; subst am;cases aI; cases ag<;>exact T9 aM
  ·cases am
end

end Go.bV

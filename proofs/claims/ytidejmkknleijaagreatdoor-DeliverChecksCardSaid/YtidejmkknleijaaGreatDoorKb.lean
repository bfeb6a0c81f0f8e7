/-
  The canonical machine, part E: slices: what they hold, append, slicing, copy, make, len.
-/
import Derived.Test.YtidejmkknleijaaGreatDoorKa
import Derived.Lib.IndexBytes
import Derived.Laws.BytesString
import Derived.Lib.ConvBytes
set_option linter.unusedVariables false
set_option linter.unusedSimpArgs false
set_option linter.unnecessarySimpa false
namespace Go.ca
open Go
section
variable {P:Program} {w:World} {R:Nat->Prop} {B:Nat} {h:aW} {μ:cI}
theorem ol {α:Type} {z:Nat}:∀ {es:List (List α)},(∀ e,e∈es->e.length=z)->es.flatten.length=es.length*z
 | [],_=>by simp
 | e::es,aw=>by
  rw[akT,akf,aw e (by simp),ol (fun e ao=>aw e (by simp[ao])),akv,akK,am4]
theorem LK {α:Type} {z:Nat}:∀ {es:List (List α)} {j:Nat} {c:α},(∀ e,e∈es->e.length=z)->es.flatten[j]? = some c->
  ∃ i k e,j=i*z+k/\k<z/\es[i]? = some e/\e[k]? = some c
 | [],_,_,_,aj=>by simp at aj
 | e::es,j,c,aw,aj=>by
  have ao:=aw e (by simp);rw[akT] at aj;by_cases aO:j<e.length
  ·rw[aj8 aO] at aj;exact⟨0,j,e,by simp,by omega,rfl,aj⟩
  ·rw[akt (by omega)] at aj;obtain⟨i,k,e6,ad,af,al,aG⟩:=LK (fun e ao=>aw e (by simp[ao])) aj;exact⟨i+1,k,e6,by rw[akK]; omega,af,by simpa using al,aG⟩
def uX (w:World) (R:Nat->Prop) (h:aW) (μ:cI) (xs:List U) (vs:List Value) :Prop:=
 vs.length=xs.length/\∀ (j:Nat) (c:U),xs[j]? = some c->∃ v:Value,vs[j]? = some v/\v.oneCell'=true/\aP w R h μ c v
theorem Qu {w2:World} {xs:List U} {blk o:Nat} (lw:∀ a,w2.cell? a=w.cell? a)
  (ai:∀ (j:Nat) (c:U),xs[j]? = some c->∃ v:Value,w.cell? ⟨blk,o+j,none⟩=some v/\v.oneCell'=true/\aP w R h μ c v) :
  ∃ vs:List Value,uX w R h μ xs vs/\∀ k,k<=xs.length->∀ w2:World,(∀ a,w2.cell? a=w.cell? a)->(loadCells ⟨blk,o,none⟩ k).run P w2=.ok (vs.take k).toArray w2:=by
 have aq:∃ f:Nat->Value,∀ (j:Nat) (c:U),xs[j]? = some c->w.cell? ⟨blk,o+j,none⟩=some (f j)/\(f j).oneCell'=true/\aP w R h μ c (f j) :=by
  refine⟨fun j=>(w.cell? ⟨blk,o+j,none⟩).getD undef,fun j c aj=>?_⟩;obtain⟨v,ad,af,al⟩:=ai j c aj;simp only[ad,akO];exact⟨trivial,af,al⟩
 obtain⟨f,aI⟩:=aq;refine⟨(List.range xs.length).map f,⟨by simp,fun j c aj=>?_⟩,fun k ax w2 rD=>?_⟩
 ·have aO:j<xs.length:=(aj7.1 aj).1;exact⟨f j,by simp[aO],(aI j c aj).2⟩
 ·have:=run_loadCells_list (P:=P) w2 ⟨blk,o,none⟩ (((List.range xs.length).map f).take k) (fun j v aj=>by
   have fX:j<k:=by
    rcases akX j k with ad | ad
    ·exact ad
    ·rw[akp (by simp; omega)] at aj; cases aj
   rw[aku fX,akd] at aj;have iY:j<xs.length:=by omega
   rw[akL iY] at aj;simp only[akg,Option.some.injEq] at aj;rw[Addr.lk,<-aj,rD];exact (aI j _ (aka iY)).1)
  have am:(((List.range xs.length).map f).take k).length=k:=by simp; omega
  rw[am] at this;exact this
theorem vd (rel:bZ R B w h μ) {z n:Nat} {x:U} {bA:Value} {xs:List U} (ah:contents h z x=some (xs,n)) (ai:aP w R h μ x bA) :
  xs.length=n*z/\(Builtin.lenOf bA).run P w=.ok n w/\∃ vs:List Value,uX w R h μ xs vs ∧
   ∀ k,k<=n->∀ w2:World,(∀ a,w2.cell? a=w.cell? a)->(Builtin.firstCells z k bA).run P w2=.ok (vs.take (k*z)).toArray w2:=by
 cases ai with
 | aK=>
  simp only[contents,Option.some.injEq,Prod.mk.injEq] at ah;obtain⟨rfl,rfl⟩:=ah;exact⟨by simp,by simp[Builtin.lenOf],[],⟨rfl,fun j c aj=>by simp at aj⟩,fun k _ w2 _=>by simp[Builtin.firstCells]⟩
 | str bs=>
  simp only[contents] at ah;split at ah
  ·rename_i aw; subst aw;simp only[Option.some.injEq,Prod.mk.injEq] at ah;obtain⟨rfl,rfl⟩:=ah;refine⟨by simp,by simp[Builtin.lenOf],bs.data.toList.map fun b=>.int .u8 b.toNat,⟨by simp,fun j c aj=>?_⟩,fun k ax w2 _=>?_⟩
   ·rw[akd] at aj ⊢;cases ag:bs.data.toList[j]? with
    | none=>rw[ag] at aj; cases aj
    | some b=>
     rw[ag] at aj;simp only[akg,Option.some.injEq] at aj;subst aj;exact⟨_,rfl,rfl,.int _ _⟩
   ·have ai:(bs.extract 0 k).data.toList=bs.data.toList.take k:=by
     simp[ByteArray.extract,ByteArray.copySlice]
    have aL:(bs.extract 0 k).data=(bs.data.toList.take k).toArray:=by rw[<-ai]
    simp only[Builtin.firstCells,aL];simp
  ·cases ah
 | b1 dG es blk off cap eL am aw lw aq=>
  simp only[contents] at ah;split at ah
  ·rename_i r0; subst r0;simp only[Option.some.injEq,Prod.mk.injEq] at ah;obtain⟨rfl,rfl⟩:=ah;have bC:=ol aw;have cX:∀ (j:Nat) (c:U),es.flatten[j]? = some c->∃ v:Value,w.cell? ⟨blk,off+j,none⟩=some v/\v.oneCell'=true/\aP w R h μ c v:=by
    intro j c aj;obtain⟨i,k,e,rfl,ax,ao,Wc⟩:=LK aw aj;have aB:i<es.length:=(aj7.1 ao).1;have da:=lw i k aB ax;exact⟨eL i k,da.here,da.one,aq i e ao k c Wc⟩
   obtain⟨vs,ad,af⟩:=Qu (P:=P) (w2:=w) (fun _=>rfl) cX;refine⟨bC,by simp[Builtin.lenOf],vs,ad,fun k ax w2 rD=>?_⟩;have:=af (k*z) (by rw[bC]; exact akc _ ax) w2 rD;simp[Builtin.firstCells,this]
  ·cases ah
 | fw dG a cap=>
  simp only[contents] at ah;split at ah
  ·simp only[Option.some.injEq,Prod.mk.injEq] at ah;obtain⟨rfl,rfl⟩:=ah;exact⟨by simp,by simp[Builtin.lenOf],[],⟨rfl,fun j c aj=>by simp at aj⟩,fun k ax w2 _=>by
    obtain rfl:k=0:=by simpa using ax
    simp[Builtin.firstCells,loadCells,loadCellsFrom]⟩
  ·cases ah
 | ar dG b off len cap sz cap' cs m ag hm am au c3=>
  simp only[contents,ag,true_and] at ah;split at ah
  ·rename_i r0; subst r0;simp only[Option.some.injEq,Prod.mk.injEq] at ah;obtain⟨rfl,rfl⟩:=ah;have gj:=rel.blk b m hm;rw[ag] at gj;obtain⟨ad,af,arr,t,gu,al,aG,a6,bK⟩:=gj;have rP:len*z<=cap*z:=akc _ am;have bC:((cs.drop off).take (len*z)).length=len*z:=by
    rw[akB,alk]; omega
   have cX:∀ (j:Nat) (c:U),((cs.drop off).take (len*z))[j]? = some c->∃ v:Value,w.cell? ⟨m.r,(m.s+off)+j,none⟩=some v/\v.oneCell'=true/\aP w R h μ c v:=by
    intro j c aj;have aO:j<len*z:=by
     have:=(aj7.1 aj).1;rw[bC] at this; exact this
    rw[aku aO,akG] at aj;obtain⟨v,a2,bb,cr⟩:=bK _ c aj;exact⟨v,by simp[World.cell?,al,alW,a2],bb,cr⟩
   obtain⟨vs,b4,cx⟩:=Qu (P:=P) (w2:=w) (fun _=>rfl) cX;refine⟨bC,by simp[Builtin.lenOf],vs,b4,fun k ax w2 rD=>?_⟩;have:=cx (k*z) (by rw[bC]; exact akc _ ax) w2 rD;simp[Builtin.firstCells,this]
  ·cases ah
 | iT dG b off sz a cs m ag hm=>
  simp only[contents,ag,true_and] at ah;split at ah
  ·rename_i r0; subst r0;simp only[Option.some.injEq,Prod.mk.injEq,amh,als] at ah;obtain⟨rfl,rfl⟩:=ah;exact⟨by simp,by simp[Builtin.lenOf],[],⟨rfl,fun j c aj=>by simp at aj⟩,fun k ax w2 _=>by
    obtain rfl:k=0:=by simpa using ax
    simp[Builtin.firstCells,loadCells,loadCellsFrom]⟩
  ·cases ah
 | hZ dG b off len cap sz cap' a am MH aA=>
  unfold contents at ah;rcases aA with aA | ⟨hX,cs',aA,aO⟩
  ·simp[aA] at ah
  ·simp only[aA] at ah;split at ah
   ·omega
   ·cases ah
 | _=>simp[contents] at ah
theorem zg {t e:TypeId} (ao:jc P t=some e) :P.underlying t=some (.slice e) :=by
 unfold jc at ao;split at ao
 ·rename_i e6 aM; cases ao; exact aM
 ·cases ao
def DV (P:Program) (u:TypeId) :Prop:=∃ d,P.underlying u=some d/\∀ k,d≠.int k
theorem Ol (d:TypeDesc) (ax:∀ k,d≠.int k) :(match d with | .int _=>true | _=>false)=false:=by
 cases d with
 | int k=>exact absurd rfl (ax k)
 | _=>rfl
theorem run_append_fits {t u ty e:TypeId} {z n eD gC:Nat} {base:Option Addr} {bA:Value} {vs:List Value} {w' : World} (ao:P.underlying t=some (.slice e)) (aw:cC P e=some z) (aM:DV P u)
  (am:(Builtin.lenOf bA).run P w=.ok n w) (aI:(Builtin.firstCells z n bA).run P w=.ok vs.toArray w) (fg:eD+n<=gC)
  (bY:match base with | some a=>(storeCells (a.add (eD*z)) vs).run P w=.ok () w' | none=>w'=w) :
  (Builtin.append_ #[t,u] ty #[.slice base eD gC,bA]).run P w=.ok (.slice base (eD+n) gC) w':=by
 obtain⟨d,bh,ax⟩:=aM;have rG:=Ol d ax;cases base with
 | none=>
  subst bY;simp[Builtin.append_,cn ao,fO aw,cn bh,rG,am,fg,aI]
 | some a=>
  simp only at bY;simp[Builtin.append_,cn ao,fO aw,cn bh,rG,am,fg,aI,bY]
theorem abQ {t u ty e:TypeId} {i:TypeInfo} {zv:Value} {n eD gC:Nat} {base:Option Addr} {bA:Value} {fM vs:List Value} (ao:P.underlying t=some (.slice e)) (aB:P.info? e=some i) (lE:i.zero=some zv) (aM:DV P u)
  (am:(Builtin.lenOf bA).run P w=.ok n w) (aI:(Builtin.firstCells i.size n bA).run P w.drew=.ok vs.toArray w.drew) (au:(Builtin.firstCells i.size eD (.slice base eD gC)).run P w.drew=.ok fM.toArray w.drew)
  (oC:gC<eD+n) (ed:(eD+n)*i.bytes<=cF) (ag:0<i.bytes) :
  (Builtin.append_ #[t,u] ty #[.slice base eD gC,bA]).run P w =
   .ok (.slice (some ⟨w.heap.size,0,none⟩) (eD+n) (grownCap w (eD+n) gC e)) (w.drew.alloc (.cells ((fM++vs).toArray++Builtin.zeroCells zv.cells (grownCap w (eD+n) gC e - (eD+n))) e)) :=by
 obtain⟨d,bh,ax⟩:=aM;have rG:=Ol d ax;have aw:cC P e=some i.size:=by simp[cC,aB]
 have aD:¬ (eD+n<=gC) :=by omega
 have s7:¬ (281474976710656<Builtin.nextslicecap (eD+n) gC*i.bytes) :=by
  have:=growslice_fits oC ed;omega
 have l7:¬ (i.bytes=0) :=by omega
 simp[Builtin.append_,cn ao,fO aw,cn bh,rG,am,aD,typeInfo,aB,s7,l7,Question.forced,au,aI,zeroValue,lE,newRow,grownCap];rw[<-amT,List.append_toArray fM vs]
theorem dB.drew {h' : aW} {μ' : cI} {w' : World} (e:dB w h μ w' h' μ') :dB w h μ w' h' μ':=e
theorem acr {s:U} {nQ:Value} (ak:aP w R h μ s nQ) (ax:s=.aK\/(∃ z es,s=.b1 z es)\/∃ z b off len cap sz,s=.ar z b off len cap sz) :
  ∃ base eD gC,nQ=.slice base eD gC/\eD<=gC:=by
 cases ak<;>simp at ax
 ·exact⟨_,_,_,rfl,akb _⟩
 ·rename_i am au da;exact⟨_,_,_,rfl,by omega⟩
 ·rename_i am MH aA;exact⟨_,_,_,rfl,by omega⟩
 ·exact⟨_,_,_,rfl,akb _⟩
 ·rename_i am aw ah aq;exact⟨_,_,_,rfl,by omega⟩
 ·exact⟨_,_,_,rfl,alj _⟩
theorem aeb {e:TypeId} {z:Nat} (aw:yE P e=some z) :∃ i v,P.info? e=some i/\i.zero=some v/\v.cells.size=z:=by
 unfold yE at aw;cases aB:P.info? e with
 | none=>rw[aB] at aw; cases aw
 | some i=>
  rw[aB] at aw;simp only[al1] at aw;cases aq:i.zero with
  | none=>rw[aq] at aw; cases aw
  | some v=>rw[aq] at aw; exact⟨i,v,rfl,aq,by simpa using aw⟩
theorem zy {e:TypeId} {zv:Value} {z need cap:Nat} {xs:List U} {vs:List Value} (aw:zv.cells.size=z) (am:xs.length=need*z) (kL:uX w R h μ xs vs) (c3:need<=cap) :
  (vs.toArray++Builtin.zeroCells zv.cells (cap - need)).size=cap*z ∧
  ∀ (j:Nat) (c:U),xs[j]? = some c->∃ v:Value,(vs.toArray++Builtin.zeroCells zv.cells (cap - need))[j]? = some v/\v.oneCell'=true/\aP w R h μ c v:=by
 refine⟨?_,fun j c aj=>?_⟩
 ·have ad:(Builtin.zeroCells zv.cells (cap - need)).size=(cap - need)*z:=by simp[Builtin.zeroCells,aw]
  have af:need*z+(cap - need)*z=cap*z:=by rw[<-akS]; congr 1; omega
  rw[Array.size_append,ad,List.size_toArray,kL.1,am,af]
 ·obtain⟨v,ad,af,al⟩:=kL.2 j c aj;have aO:j<vs.length:=(aj7.1 ad).1;refine⟨v,?_,af,al⟩;rw[alE (by simpa using aO)];simpa using ad
theorem Ku (rel:bZ R B w h μ) {t u ty e:TypeId} {z by_ n:Nat} {s c:U} {nQ bA:Value} {h' : aW} {xs:List U} {vs:List Value} (aw:cC P e=some z) (ep:lV P e=some by_)
  (aC:wC P h e z by_ s xs n=some (c,h')) (ak:aP w R h μ s nQ) (bm:xs.length=n*z) (cX:uX w R h μ xs vs)
  (CR:∀ (base:Option Addr) (eD gC:Nat) (w' : World),eD+n<=gC->(match base with | some a=>(storeCells (a.add (eD*z)) vs).run P w=.ok () w' | none=>w'=w)->
   (Builtin.append_ #[t,u] ty #[.slice base eD gC,bA]).run P w=.ok (.slice base (eD+n) gC) w')
  (zT:∀ (i:TypeInfo) (zv:Value),P.info? e=some i->i.zero=some zv->∀ (base:Option Addr) (eD gC:Nat) (fM:List Value),(Builtin.firstCells i.size eD (.slice base eD gC)).run P w.drew=.ok fM.toArray w.drew->
   gC<eD+n->(eD+n)*i.bytes<=cF->0<i.bytes->(Builtin.append_ #[t,u] ty #[.slice base eD gC,bA]).run P w =
   .ok (.slice (some ⟨w.heap.size,0,none⟩) (eD+n) (grownCap w (eD+n) gC e)) (w.drew.alloc (.cells ((fM++vs).toArray++Builtin.zeroCells zv.cells (grownCap w (eD+n) gC e - (eD+n))) e))) :
  ∃ v w' μ',(Builtin.append_ #[t,u] ty #[nQ,bA]).run P w=.ok v w'/\dB w h μ w' h' μ'/\bZ R B w' h' μ'/\aP w' R h' μ' c v:=by
 unfold wC at aC;by_cases aD:n=0
 ·-- nothing is appended
  subst aD;simp only[if_true] at aC;have cR:(c,h')=(s,h) :=by
   split at aC<;>first | (simp only[Option.some.injEq] at aC; exact aC.symm) | cases aC
  have ax:s=.aK\/(∃ z es,s=.b1 z es)\/∃ z b off len cap sz,s=.ar z b off len cap sz:=by
   split at aC
   ·exact .inl rfl
   ·exact .inr (.inl ⟨_,_,rfl⟩)
   ·exact .inr (.inr ⟨_,_,_,_,_,_,rfl⟩)
   ·cases aC
  simp only[Prod.mk.injEq] at cR;obtain⟨rfl,rfl⟩:=cR;obtain⟨base,eD,gC,rfl,er⟩:=acr ak ax;have mf:vs=[] :=by
   have:vs.length=0:=by rw[cX.1,bm]; simp
   exact akH.1 this
  subst mf;have:=CR base eD gC w (by omega) (by cases base<;>simp[storeCells]);exact⟨_,w,μ,this,.refl _ _ _,rel,by simpa using ak⟩
 ·rw[if_neg aD] at aC;split at aC
  ·cases aC
  ·rename_i iX;simp only[not_or,Decidable.not_not] at iX;obtain⟨qJ,qt,kN⟩:=iX;obtain⟨i,zv,aB,lE,kh⟩:=aeb kN;have rX:i.size=z:=by simpa [cC,aB] using aw
   have l7:i.bytes=by_:=by simpa [lV,aB] using ep
   have Ye:0<z:=Nat.pos_of_ne_zero qJ;have Gz:∀ a,w.drew.cell? a=w.cell? a:=fun _=>rfl
   split at aC
   ·-- append to nil
    split at aC
    ·rename_i ed;simp only[Option.some.injEq,Prod.mk.injEq] at aC;obtain⟨rfl,rfl⟩:=aC;cases ak;have aA:=zT i zv aB lE none 0 0 [] (by simp[Builtin.firstCells]) (by omega) (by rw[l7]; simpa using ed) (by omega);have c3:n<=grownCap w (0+n) 0 e:=by have:=grownCap_ge w (0+n) 0 e; omega
     obtain⟨ke,oL⟩:=zy (e:=e) (zv:=zv) (need:=n) (cap:=grownCap w (0+n) 0 e) kh (by rw[bm]) cX c3;have av:=rel.push (w':=w.drew.alloc (.cells (vs.toArray++Builtin.zeroCells zv.cells (grownCap w (0+n) 0 e - n)) e)) xs _ e rfl rfl rfl rfl (by rw[ke,bm]; exact akc _ c3) oL;rw[bm] at av;refine⟨_,_,_,by simpa using aA,by simpa using av.1,by simpa using av.2,?_⟩;have:=aP.ar (w:=w.drew.alloc (.cells (vs.toArray++Builtin.zeroCells zv.cells (grownCap w (0+n) 0 e - n)) e)) (R:=R) (h:=h.push (.cells (n*z) xs)) (μ:=bH μ h.n (some ⟨w.heap.size,0,(vs.toArray++Builtin.zeroCells zv.cells (grownCap w (0+n) 0 e - n)).size⟩))
      z h.n 0 n n (n*z) (grownCap w (0+n) 0 e) xs ⟨w.heap.size,0,(vs.toArray++Builtin.zeroCells zv.cells (grownCap w (0+n) 0 e - n)).size⟩ (by simp[eH,fv]) (by simp) (akb _) (by omega) (.inr ⟨by omega,c3,by simp only; rw[ke]; omega⟩)
     simpa using this
    ·cases aC
   ·rename_i dG b off len cap sz;cases ag:h.f b with
    | cells m cs=>
     rw[ag] at aC;simp only at aC;split at aC
     ·rename_i zN;obtain⟨rfl,rfl,ed⟩:=zN;cases ak with
      | hZ _ _ _ _ _ _ cap' a am MH aA=>
       exfalso;rcases aA with aA | ⟨hX,cs',aA,aO⟩
       ·rw[aA] at ag; cases ag
       ·rw[aA] at ag; cases ag; omega
      | iT _ _ _ _ a cs' b2 bN hm=>
       rw[ag] at bN; cases bN;have td:=rel.pd hm;rw[if_neg (by omega),amh,als,als,ald,alf] at aC;have aA:=zT i zv aB lE (some a) 0 0 [] (by simp[Builtin.firstCells,loadCells,loadCellsFrom]) (by omega) (by rw[l7]; exact ed) (by omega);rw[alf] at aA;have c3:n<=grownCap w n 0 e:=grownCap_ge _ _ _ _;obtain⟨ke,oL⟩:=zy (e:=e) (zv:=zv) (need:=n) (cap:=grownCap w n 0 e) kh (by rw[bm]) cX c3;split at aC
       ·simp only[Option.some.injEq,Prod.mk.injEq] at aC;obtain⟨rfl,rfl⟩:=aC;have av:=rel.push (w':=w.drew.alloc (.cells (vs.toArray++Builtin.zeroCells zv.cells (grownCap w n 0 e - n)) e)) xs _ e rfl rfl rfl rfl (by rw[ke,bm]; exact akc _ c3) oL;rw[bm] at av;refine⟨_,_,_,by simpa using aA,by simpa using av.1,by simpa using av.2,?_⟩;have:=aP.ar (w:=w.drew.alloc (.cells (vs.toArray++Builtin.zeroCells zv.cells (grownCap w n 0 e - n)) e)) (R:=R) (h:=h.push (.cells (n*z) xs)) (μ:=bH μ h.n (some ⟨w.heap.size,0,(vs.toArray++Builtin.zeroCells zv.cells (grownCap w n 0 e - n)).size⟩))
         z h.n 0 n n (n*z) (grownCap w n 0 e) xs ⟨w.heap.size,0,(vs.toArray++Builtin.zeroCells zv.cells (grownCap w n 0 e - n)).size⟩ (by simp[eH,fv]) (by simp) (akb _) (by omega) (.inr ⟨by omega,c3,by simp only; rw[ke]; omega⟩)
        simpa using this
       ·rename_i GD;split at aC
        ·rename_i Dc;subst Dc;simp only[Option.some.injEq,Prod.mk.injEq] at aC;obtain⟨rfl,rfl⟩:=aC;have qv:m<n*z:=by
          have:1*1<=n*z:=Nat.mul_le_mul (by omega) Ye;omega
         have av:=rel.move (w':=w.drew.alloc (.cells (vs.toArray++Builtin.zeroCells zv.cells (grownCap w n 0 e - n)) e)) ag hm rfl rfl rfl rfl bm qv (by rw[ke]; exact akc _ c3) oL;refine⟨_,_,_,by simpa using aA,by simpa using av.1,by simpa using av.2,?_⟩;have:=aP.ar (w:=w.drew.alloc (.cells (vs.toArray++Builtin.zeroCells zv.cells (grownCap w n 0 e - n)) e)) (R:=R) (h:=h.set b (.cells (n*z) xs)) (μ:=bH μ b (some ⟨w.heap.size,0,(vs.toArray++Builtin.zeroCells zv.cells (grownCap w n 0 e - n)).size⟩))
          z b 0 n n (n*z) (grownCap w n 0 e) xs ⟨w.heap.size,0,(vs.toArray++Builtin.zeroCells zv.cells (grownCap w n 0 e - n)).size⟩ (by simp[eI,fx]) (by simp) (akb _) (by omega) (.inr ⟨by omega,c3,by simp only; rw[ke]; omega⟩)
         simpa using this
        ·simp only[Option.some.injEq,Prod.mk.injEq] at aC;obtain⟨rfl,rfl⟩:=aC;have av:=rel.push (w':=w.drew.alloc (.cells (vs.toArray++Builtin.zeroCells zv.cells (grownCap w n 0 e - n)) e)) xs _ e rfl rfl rfl rfl (by rw[ke,bm]; exact akc _ c3) oL;rw[bm] at av;have ax:=av.2.kill (b:=b) (sz:=m) (cs:=cs) (h':=(h.set b .dead).push (.cells (n*z) xs)) (by rw[eH,b8 _ _ _ _ (by omega)]; exact ag) (by rw[fv]; omega) (by
          rw[eH,eH,eI,fx];funext x;simp only[bH];by_cases ad:x=h.n
          ·rw[if_pos ad,if_neg (by omega),if_pos ad]
          ·rw[if_neg ad];split<;>rfl) rfl
         refine⟨_,_,_,by simpa using aA,by simpa using av.1.trans ax.1,by simpa using ax.2,?_⟩;have:=aP.ar (w:=w.drew.alloc (.cells (vs.toArray++Builtin.zeroCells zv.cells (grownCap w n 0 e - n)) e)) (R:=R) (h:=(h.set b .dead).push (.cells (n*z) xs)) (μ:=bH μ h.n (some ⟨w.heap.size,0,(vs.toArray++Builtin.zeroCells zv.cells (grownCap w n 0 e - n)).size⟩))
          z h.n 0 n n (n*z) (grownCap w n 0 e) xs ⟨w.heap.size,0,(vs.toArray++Builtin.zeroCells zv.cells (grownCap w n 0 e - n)).size⟩ (by rw[eH,fx,nr]) (by simp) (akb _) (by omega) (.inr ⟨by omega,c3,by simp only; rw[ke]; omega⟩)
         simpa using this
      | ar _ _ _ _ _ _ cap' cs' b2 bN hm am au da=>
       have gj:=rel.blk b b2 hm;rw[ag] at gj;obtain⟨MI,gH,_⟩:=gj;rw[ag] at bN; cases bN;have rP:len*z<=cap*z:=akc _ am;have MF:cap<=cap':=by rcases da with da | da<;>omega
       split at aC
       ·-- in place,within what the machine knows
        rename_i fg;simp only[Option.some.injEq,Prod.mk.injEq] at aC;obtain⟨rfl,rfl⟩:=aC;have Np:len*z+n*z<=cap*z:=by rw[<-akS]; exact akc _ fg
        have lA:max m (off+len*z+xs.length)=m:=by omega
        obtain⟨w',ad,af,al⟩:=yB (P:=P) rel (cvs:=xs) (vs:=vs) (k:=off+len*z) ag hm (by omega) cX.1 (by omega) cX.2;rw[lA] at af al;have bY:(storeCells ((⟨b2.r,b2.s+off,none⟩:Addr).add (len*z)) vs).run P w=.ok () w':=by rw[Addr.lk,alW]; exact ad
        refine⟨_,w',μ,CR (some ⟨b2.r,b2.s+off,none⟩) _ _ _ (by omega) bY,af,al,?_⟩;exact .ar z b off (len+n) cap m cap' _ b2 (by simp[eI,fx]; rfl) hm fg au da
       ·rename_i agu;split at aC
        ·-- beyond a slice whose end lies within the row: it moves
         rename_i agc;simp only[Option.some.injEq,Prod.mk.injEq] at aC;obtain⟨rfl,rfl⟩:=aC;have eP:cap'=cap:=by rcases da with da | da<;>omega
         subst eP;have ea:contents h z (.ar z b off len cap' m)=some ((cs.drop off).take (len*z),len) :=by simp[contents,ag]
         obtain⟨dF,_,fM,jg,z7⟩:=vd (P:=P) rel ea (aP.ar z b off len cap' m cap' cs b2 ag hm am au da);have z6:∀ w2:World,(∀ a,w2.cell? a=w.cell? a)->(Builtin.firstCells z len (.slice (some ⟨b2.r,b2.s+off,none⟩) len cap')).run P w2=.ok fM.toArray w2:=fun w2 nC=>by
          have:=z7 len (akb _) w2 nC
          rwa [aj9 (by rw[jg.1,dF]; exact akb _)] at this
         have aA:=zT i zv aB lE (some ⟨b2.r,b2.s+off,none⟩) len cap' fM (by rw[rX]; exact z6 w.drew Gz) (by omega) (by rw[l7]; exact ed) (by omega);have c3:len+n<=grownCap w (len+n) cap' e:=grownCap_ge _ _ _ _;have zL:uX w R h μ ((cs.drop off).take (len*z)++xs) (fM++vs) :=by
          refine⟨by simp[jg.1,cX.1],fun j c aj=>?_⟩;by_cases aO:j<((cs.drop off).take (len*z)).length
          ·rw[aj8 aO] at aj;rw[aj8 (by rw[jg.1]; exact aO)];exact jg.2 j c aj
          ·rw[akt (by omega)] at aj;rw[akt (by rw[jg.1]; omega),jg.1];exact cX.2 _ c aj
         have fu:((cs.drop off).take (len*z)++xs).length=(len+n)*z:=by rw[akf,dF,bm,akS]
         obtain⟨ke,oL⟩:=zy (e:=e) (zv:=zv) (need:=len+n) (cap:=grownCap w (len+n) cap' e) kh fu zL c3;have av:=rel.push (w':=w.drew.alloc (.cells ((fM++vs).toArray++Builtin.zeroCells zv.cells (grownCap w (len+n) cap' e - (len+n))) e)) _ _ e rfl rfl rfl rfl (by rw[ke,fu]; exact akc _ c3) oL;rw[fu] at av;refine⟨_,_,_,aA,av.1,av.2,?_⟩;have:=aP.ar (w:=w.drew.alloc (.cells ((fM++vs).toArray++Builtin.zeroCells zv.cells (grownCap w (len+n) cap' e - (len+n))) e)) (R:=R) (h:=h.push (.cells ((len+n)*z) ((cs.drop off).take (len*z)++xs))) (μ:=bH μ h.n (some ⟨w.heap.size,0,((fM++vs).toArray++Builtin.zeroCells zv.cells (grownCap w (len+n) cap' e - (len+n))).size⟩))
          z h.n 0 (len+n) (len+n) ((len+n)*z) (grownCap w (len+n) cap' e) _ ⟨w.heap.size,0,((fM++vs).toArray++Builtin.zeroCells zv.cells (grownCap w (len+n) cap' e - (len+n))).size⟩ (by simp[eH,fv]; rfl) (by simp) (akb _) (by omega) (.inr ⟨by omega,c3,by simp only; rw[ke]; omega⟩)
         simpa using this
        ·rename_i GD;split at aC
         ·-- beyond the row's end: in place,or it moves
          rename_i Dc;subst Dc;simp only[Option.some.injEq,Prod.mk.injEq] at aC;obtain⟨rfl,rfl⟩:=aC;obtain⟨V8,rH,MQ⟩:0+cap*z=m/\cap<=cap'/\b2.s+0+cap'*z<=b2.T:=by rcases da with da | da<;>omega
          have qv:m<(len+n)*z:=by
           have:(cap+1)*z<=(len+n)*z:=akc _ (by omega);rw[akS] at this;omega
          have X1:len*z+n*z=(len+n)*z:=by rw[akS]
          by_cases fg:len+n<=cap'
          ·have W8:(len+n)*z<=cap'*z:=akc _ fg;have lA:max m (len*z+xs.length)=(len+n)*z:=by omega
           obtain⟨w',ad,af,al⟩:=yB (P:=P) rel (cvs:=xs) (vs:=vs) (k:=len*z) ag hm (by omega) cX.1 (by omega) cX.2;rw[lA] at af al;have vW:bi cs (len*z) xs=cs.take (len*z)++xs:=by
            unfold bi;rw[ak3 (by omega),akQ]
           rw[vW] at af al;have bY:(storeCells ((⟨b2.r,b2.s+0,none⟩:Addr).add (len*z)) vs).run P w=.ok () w':=by rw[Addr.lk,alW]; simpa using ad
           refine⟨_,w',μ,CR (some ⟨b2.r,b2.s+0,none⟩) _ _ _ fg bY,af,al,?_⟩;exact .ar z b 0 (len+n) (len+n) ((len+n)*z) cap' _ b2 (by simp[eI,fx]; rfl) hm (akb _) (by omega) (.inr ⟨by omega,fg,MQ⟩)
          ·have ea:contents h z (.ar z b 0 len cap m)=some ((cs.drop 0).take (len*z),len) :=by simp[contents,ag]
           obtain⟨dF,_,fM,jg,z7⟩:=vd (P:=P) rel ea (aP.ar z b 0 len cap m cap' cs b2 ag hm am au da);have z6:∀ w2:World,(∀ a,w2.cell? a=w.cell? a)->(Builtin.firstCells z len (.slice (some ⟨b2.r,b2.s+0,none⟩) len cap')).run P w2=.ok fM.toArray w2:=fun w2 nC=>by
            have:=z7 len (akb _) w2 nC
            rwa [aj9 (by rw[jg.1,dF]; exact akb _)] at this
           rw[alH] at dF jg;have aA:=zT i zv aB lE (some ⟨b2.r,b2.s+0,none⟩) len cap' fM (by rw[rX]; exact z6 w.drew Gz) (by omega) (by rw[l7]; exact ed) (by omega);have c3:len+n<=grownCap w (len+n) cap' e:=grownCap_ge _ _ _ _;have zL:uX w R h μ (cs.take (len*z)++xs) (fM++vs) :=by
            refine⟨by simp[jg.1,cX.1],fun j c aj=>?_⟩;by_cases aO:j<(cs.take (len*z)).length
            ·rw[aj8 aO] at aj;rw[aj8 (by rw[jg.1]; exact aO)];exact jg.2 j c aj
            ·rw[akt (by omega)] at aj;rw[akt (by rw[jg.1]; omega),jg.1];exact cX.2 _ c aj
           have fu:(cs.take (len*z)++xs).length=(len+n)*z:=by rw[akf,dF,bm,akS]
           obtain⟨ke,oL⟩:=zy (e:=e) (zv:=zv) (need:=len+n) (cap:=grownCap w (len+n) cap' e) kh fu zL c3;have av:=rel.move (w':=w.drew.alloc (.cells ((fM++vs).toArray++Builtin.zeroCells zv.cells (grownCap w (len+n) cap' e - (len+n))) e)) ag hm rfl rfl rfl rfl fu qv (by rw[ke]; exact akc _ c3) oL;refine⟨_,_,_,aA,av.1,av.2,?_⟩;have:=aP.ar (w:=w.drew.alloc (.cells ((fM++vs).toArray++Builtin.zeroCells zv.cells (grownCap w (len+n) cap' e - (len+n))) e)) (R:=R) (h:=h.set b (.cells ((len+n)*z) (cs.take (len*z)++xs))) (μ:=bH μ b (some ⟨w.heap.size,0,((fM++vs).toArray++Builtin.zeroCells zv.cells (grownCap w (len+n) cap' e - (len+n))).size⟩))
            z b 0 (len+n) (len+n) ((len+n)*z) (grownCap w (len+n) cap' e) _ ⟨w.heap.size,0,((fM++vs).toArray++Builtin.zeroCells zv.cells (grownCap w (len+n) cap' e - (len+n))).size⟩ (by simp[eI,fx]; rfl) (by simp) (akb _) (by omega) (.inr ⟨by omega,c3,by simp only; rw[ke]; omega⟩)
           simpa using this
         ·-- beyond the row's end,from a place within it: a block of its own,in place or moved
          rename_i Dc;simp only[Option.some.injEq,Prod.mk.injEq] at aC;obtain⟨rfl,rfl⟩:=aC;obtain⟨V8,rH,MQ⟩:off+cap*z=m/\cap<=cap'/\b2.s+off+cap'*z<=b2.T:=by rcases da with da | da<;>omega
          have qv:m<off+(len+n)*z:=by
           have:(cap+1)*z<=(len+n)*z:=akc _ (by omega);rw[akS] at this;omega
          have X1:len*z+n*z=(len+n)*z:=by rw[akS]
          have td:=rel.pd hm;by_cases fg:len+n<=cap'
          ·have W8:(len+n)*z<=cap'*z:=akc _ fg;have lA:max m (off+len*z+xs.length)=off+(len+n)*z:=by omega
           obtain⟨w',ad,af,al⟩:=yB (P:=P) rel (cvs:=xs) (vs:=vs) (k:=off+len*z) ag hm (by omega) cX.1 (by omega) cX.2;rw[lA] at af al;have vW:(bi cs (off+len*z) xs).drop off=(cs.drop off).take (len*z)++xs:=by
            unfold bi;rw[ak3 (as:=cs) (by omega),akQ,alb (by simp; omega),ami];congr 2; omega
           have bY:(storeCells ((⟨b2.r,b2.s+off,none⟩:Addr).add (len*z)) vs).run P w=.ok () w':=by rw[Addr.lk,alW]; exact ad
           have rV:=al.abD (b:=b) (off:=off) (m:=b2) (h':=(h.set b .dead).push (.cells ((len+n)*z) ((cs.drop off).take (len*z)++xs))) (by rw[eI,nr]) hm (by omega) (by
            rw[eH,eI,eI,fx,fx,vW];have:off+(len+n)*z - off=(len+n)*z:=by omega
            rw[this];funext x;simp only[bH];split
            ·rfl
            ·split<;>rfl) rfl
           refine⟨_,w',_,CR (some ⟨b2.r,b2.s+off,none⟩) _ _ _ fg bY,af.trans rV.1,rV.2,?_⟩;exact .ar z h.n 0 (len+n) (len+n) ((len+n)*z) cap' _ ⟨b2.r,b2.s+off,b2.T⟩ (by rw[eH,fx,nr]) (by rw[fx]; simp) (akb _) (by omega) (.inr ⟨by omega,fg,by simpa using (by omega:b2.s+off+cap'*z<=b2.T)⟩)
          ·have ea:contents h z (.ar z b off len cap m)=some ((cs.drop off).take (len*z),len) :=by simp[contents,ag]
           obtain⟨dF,_,fM,jg,z7⟩:=vd (P:=P) rel ea (aP.ar z b off len cap m cap' cs b2 ag hm am au da);have z6:∀ w2:World,(∀ a,w2.cell? a=w.cell? a)->(Builtin.firstCells z len (.slice (some ⟨b2.r,b2.s+off,none⟩) len cap')).run P w2=.ok fM.toArray w2:=fun w2 nC=>by
            have:=z7 len (akb _) w2 nC
            rwa [aj9 (by rw[jg.1,dF]; exact akb _)] at this
           have aA:=zT i zv aB lE (some ⟨b2.r,b2.s+off,none⟩) len cap' fM (by rw[rX]; exact z6 w.drew Gz) (by omega) (by rw[l7]; exact ed) (by omega);have c3:len+n<=grownCap w (len+n) cap' e:=grownCap_ge _ _ _ _;have zL:uX w R h μ ((cs.drop off).take (len*z)++xs) (fM++vs) :=by
            refine⟨by simp[jg.1,cX.1],fun j c aj=>?_⟩;by_cases aO:j<((cs.drop off).take (len*z)).length
            ·rw[aj8 aO] at aj;rw[aj8 (by rw[jg.1]; exact aO)];exact jg.2 j c aj
            ·rw[akt (by omega)] at aj;rw[akt (by rw[jg.1]; omega),jg.1];exact cX.2 _ c aj
           have fu:((cs.drop off).take (len*z)++xs).length=(len+n)*z:=by rw[akf,dF,bm,akS]
           obtain⟨ke,oL⟩:=zy (e:=e) (zv:=zv) (need:=len+n) (cap:=grownCap w (len+n) cap' e) kh fu zL c3;have av:=rel.push (w':=w.drew.alloc (.cells ((fM++vs).toArray++Builtin.zeroCells zv.cells (grownCap w (len+n) cap' e - (len+n))) e)) _ _ e rfl rfl rfl rfl (by rw[ke,fu]; exact akc _ c3) oL;rw[fu] at av;have ax:=av.2.kill (b:=b) (sz:=m) (cs:=cs) (h':=(h.set b .dead).push (.cells ((len+n)*z) ((cs.drop off).take (len*z)++xs))) (by rw[eH,b8 _ _ _ _ (by omega)]; exact ag) (by rw[fv]; omega) (by
            rw[eH,eH,eI,fx];funext x;simp only[bH];by_cases ad:x=h.n
            ·rw[if_pos ad,if_neg (by omega),if_pos ad]
            ·rw[if_neg ad];split<;>rfl) rfl
           refine⟨_,_,_,aA,av.1.trans ax.1,ax.2,?_⟩;have:=aP.ar (w:=w.drew.alloc (.cells ((fM++vs).toArray++Builtin.zeroCells zv.cells (grownCap w (len+n) cap' e - (len+n))) e)) (R:=R) (h:=(h.set b .dead).push (.cells ((len+n)*z) ((cs.drop off).take (len*z)++xs))) (μ:=bH μ h.n (some ⟨w.heap.size,0,((fM++vs).toArray++Builtin.zeroCells zv.cells (grownCap w (len+n) cap' e - (len+n))).size⟩))
            z h.n 0 (len+n) (len+n) ((len+n)*z) (grownCap w (len+n) cap' e) _ ⟨w.heap.size,0,((fM++vs).toArray++Builtin.zeroCells zv.cells (grownCap w (len+n) cap' e - (len+n))).size⟩ (by rw[eH,fx,nr]) (by simp) (akb _) (by omega) (.inr ⟨by omega,c3,by simp only; rw[ke]; omega⟩)
           simpa using this
     ·cases aC
    | _=>rw[ag] at aC; cases aC
   ·cases aC
theorem SA (rel:bZ R B w h μ) {t u ty:TypeId} {s x c:U} {nQ bA:Value} {h' : aW} (aM:DV P u) (aC:wB P h t s x=some (c,h')) (ak:aP w R h μ s nQ) (ai:aP w R h μ x bA) :
  ∃ v w' μ',(Builtin.append_ #[t,u] ty #[nQ,bA]).run P w=.ok v w'/\dB w h μ w' h' μ'/\bZ R B w' h' μ'/\aP w' R h' μ' c v:=by
 unfold wB at aC;cases ao:jc P t with
 | none=>rw[ao] at aC; cases aC
 | some e=>
 have kH:=zg ao;rw[ao] at aC;simp only at aC;cases aw:cC P e with
 | none=>rw[aw] at aC; cases aC
 | some z=>
 cases ep:lV P e with
 | none=>rw[aw,ep] at aC; cases aC
 | some by_=>
 rw[aw,ep] at aC;simp only at aC;cases ah:contents h z x with
 | none=>rw[ah] at aC; cases aC
 | some JW=>
 obtain⟨xs,n⟩:=JW;rw[ah] at aC;simp only at aC;obtain⟨bm,bC,vs,cX,Wi⟩:=vd (P:=P) rel ah ai;have kC:∀ w2:World,(∀ a,w2.cell? a=w.cell? a)->(Builtin.firstCells z n bA).run P w2=.ok vs.toArray w2:=fun w2 nC=>by
  have:=Wi n (akb _) w2 nC
  rwa [aj9 (by rw[cX.1,bm]; exact akb _)] at this
 refine Ku rel aw ep aC ak bm cX (fun base eD gC w' fg bY=>run_append_fits kH aw aM bC (kC w (fun _=>rfl)) fg bY) (fun i zv aB lE base eD gC fM au aA ay ag=>?_);have rX:i.size=z:=by simpa [cC,aB] using aw
 exact abQ kH aB lE aM bC (by rw[rX]; exact kC w.drew (fun _=>rfl)) au aA ay ag
end

section
variable {P:Program} {w:World} {R:Nat->Prop} {B:Nat} {h:aW} {μ:cI}
theorem wE {x:U} {bA:Value} {y n Bu:Nat} {code:BoundsCode} (ag:jr x y=some n) (ai:aP w R h μ x bA) (aL:y<=Bu) :
  n<=y/\(Instr.sliceBound bA Bu code).run P w=.ok n w:=by
 unfold jr at ag;cases ai with
 | int k i=>
  simp only at ag;split at ag
  ·rename_i aB;simp only[Option.some.injEq] at ag;subst ag;refine⟨by omega,?_⟩;have:(0<=i/\i<=(Bu:Int)) :=⟨aB.1,by omega⟩
   simp[Instr.sliceBound,asIntOf,this]
  ·cases ag
 | _=>simp at ag
def uV (w:World) (R:Nat->Prop) (h:aW) (μ:cI) :Option U->Option Value->Prop
 | none,none=>True
 | some c,some v=>aP w R h μ c v
 | _,_=>False
theorem sN {cE aB cB:Option U} {pT fW tS:Option Value} {isS:Bool} {len cap cap' l m aR:Nat} (ag:gp len cap cE aB cB=some (l,aR,m)) (bC:len<=cap) (c3:cap<=cap')
  (ad:uV w R h μ cE pT) (af:uV w R h μ aB fW) (al:uV w R h μ cB tS) :
  l<=aR/\aR<=m/\m<=cap/\(cB=none->m=cap)/\(Instr.sliceBounds isS len cap' pT fW tS).run P w=.ok (l,aR,if cB.isSome then m else cap') w:=by
 unfold gp at ag;cases cB with
 | none=>
  cases tS with
  | some v=>exact al.elim
  | none=>
   simp only at ag;cases aB with
   | none=>
    cases fW with
    | some v=>exact af.elim
    | none=>
     simp only at ag;cases cE with
     | none=>
      cases pT with
      | some v=>exact ad.elim
      | none=>
       simp only[Option.some.injEq,Prod.mk.injEq] at ag;obtain⟨rfl,rfl,rfl⟩:=ag;exact⟨by omega,bC,akb _,fun _=>rfl,by simp[Instr.sliceBounds]⟩
     | some c=>
      cases pT with
      | none=>exact ad.elim
      | some v=>
       simp only at ag;cases am:jr c len with
       | none=>rw[am] at ag; cases ag
       | some l'=>
        rw[am] at ag;simp only[Option.some.injEq,Prod.mk.injEq] at ag;obtain⟨rfl,rfl,rfl⟩:=ag;have ai:=wE (P:=P) (code:=.sliceB) am ad (akb _);exact⟨ai.1,bC,akb _,fun _=>rfl,by simp[Instr.sliceBounds,ai.2]⟩
   | some Fv=>
    cases fW with
    | none=>exact af.elim
    | some adv=>
     simp only at ag;cases vD:jr Fv cap with
     | none=>rw[vD] at ag; cases ag
     | some h'=>
      rw[vD] at ag;simp only at ag;have ai:=wE (P:=P) (code:=if isS then .sliceAcap else .sliceAlen) vD af c3;cases cE with
      | none=>
       cases pT with
       | some v=>exact ad.elim
       | none=>
        simp only[Option.some.injEq,Prod.mk.injEq] at ag;obtain⟨rfl,rfl,rfl⟩:=ag;exact⟨by omega,ai.1,akb _,fun _=>rfl,by simp[Instr.sliceBounds,ai.2]⟩
      | some c=>
       cases pT with
       | none=>exact ad.elim
       | some v=>
        simp only at ag;cases am:jr c h' with
        | none=>rw[am] at ag; cases ag
        | some l'=>
         rw[am] at ag;simp only[Option.some.injEq,Prod.mk.injEq] at ag;obtain⟨rfl,rfl,rfl⟩:=ag;have aL:=wE (P:=P) (code:=.sliceB) am ad (akb _);exact⟨aL.1,ai.1,akb _,fun _=>rfl,by simp[Instr.sliceBounds,ai.2,aL.2]⟩
 | some TD=>
  cases tS with
  | none=>exact al.elim
  | some aj0=>
   simp only at ag;cases hm:jr TD cap with
   | none=>rw[hm] at ag; cases ag
   | some ck=>
    rw[hm] at ag;simp only at ag;have ai:=wE (P:=P) (code:=if isS then .slice3Acap else .slice3Alen) hm al c3;cases aB with
    | none=>cases ag
    | some Fv=>
     cases fW with
     | none=>exact af.elim
     | some adv=>
      simp only at ag;cases vD:jr Fv ck with
      | none=>rw[vD] at ag; cases ag
      | some h'=>
       rw[vD] at ag;simp only at ag;have aL:=wE (P:=P) (code:=.slice3B) vD af (akb _);cases cE with
       | none=>
        cases pT with
        | some v=>exact ad.elim
        | none=>
         simp only[Option.some.injEq,Prod.mk.injEq] at ag;obtain⟨rfl,rfl,rfl⟩:=ag;exact⟨by omega,aL.1,ai.1,(fun aI=>by cases aI),by simp[Instr.sliceBounds,ai.2,aL.2]⟩
       | some c=>
        cases pT with
        | none=>exact ad.elim
        | some v=>
         simp only at ag;cases am:jr c h' with
         | none=>rw[am] at ag; cases ag
         | some l'=>
          rw[am] at ag;simp only[Option.some.injEq,Prod.mk.injEq] at ag;obtain⟨rfl,rfl,rfl⟩:=ag;have aw:=wE (P:=P) (code:=.slice3C) am ad (akb _);exact⟨aw.1,aL.1,ai.1,(fun aI=>by cases aI),by simp[Instr.sliceBounds,ai.2,aL.2,aw.2]⟩
theorem K2 {z:Nat}:∀ (n:Nat) (cs:List U),(nm z n cs).length=n
 | 0,_=>rfl
 | n+1,cs=>by simp[nm,K2 n]
theorem K1 {z:Nat}:∀ (n:Nat) (cs:List U) (i:Nat),i<n->(nm z n cs)[i]? = some ((cs.drop (i*z)).take z)
 | 0,_,_,h=>by omega
 | n+1,cs,0,_=>by simp[nm]
 | n+1,cs,i+1,h=>by
  simp only[nm,akN];rw[K1 n _ i (by omega),amA];congr 3;rw[akK]; omega
theorem QI (rel:bZ R B w h μ) {z b off cap sz l aR m ck cap' : Nat} {cs:List U} {b2:M} {hasMax:Bool} (ag:h.f b=.cells sz cs) (hm:μ b=some b2) (au:off+cap*z<=sz)
  (da:(off+cap*z<sz/\cap'=cap)\/(off+cap*z=sz/\cap<=cap'/\b2.s+off+cap'*z<=b2.T)) (ad:l<=aR) (af:aR<=m) (al:m<=cap) (aG:hasMax=false->m=cap)
  (bT:ck=if hasMax then m else cap') (agn:m≠l) :
  aP w R h μ (.ar z b (off+l*z) (aR - l) (m - l) sz) (.slice (some ((⟨b2.r,b2.s+off,none⟩:Addr).add (l*z))) (aR - l) (ck - l)) :=by
 have gj:=rel.blk b b2 hm;rw[ag] at gj;have gH:=gj.2.1;rw[Addr.lk,alW];have aS:l*z+(m - l)*z=m*z:=by rw[<-akS]; congr 1; omega
 have bv:m*z<=cap*z:=akc _ al;refine .ar z b _ _ _ sz _ cs b2 ag hm (by omega) (by omega) ?_;cases hasMax with
 | false=>
  have xD:=aG rfl;have g3:ck=cap':=by simpa using bT
  rw[g3];rcases da with ⟨a2,bb⟩ | ⟨a2,bb,cr⟩
  ·rw[<-xD] at a2 bb;exact .inl ⟨by omega,by omega⟩
  ·rw[<-xD] at a2 bb;refine .inr ⟨by omega,by omega,?_⟩;have eR:l*z+(cap' - l)*z=cap'*z:=by rw[<-akS]; congr 1; omega
   omega
 | true=>
  have g3:ck=m:=by simpa using bT
  rw[g3];by_cases aO:off+l*z+(m - l)*z<sz
  ·exact .inl ⟨aO,rfl⟩
  ·exact .inr ⟨by omega,akb _,by omega⟩
theorem extract_toList (s:ByteArray) (a b:Nat) :(s.extract a b).data.toList=(s.data.toList.drop a).take (b - a) :=by
 simp[ByteArray.extract,ByteArray.copySlice,List.take_drop]
theorem aP.abP (z:Nat) (p:Prop) [Decidable p] (a b:Addr) (cap:Nat) :aP w R h μ (.b1 z []) (.slice (if p then some a else some b) 0 cap) :=by
 by_cases av:p
 ·rw[if_pos av]; exact .fw _ _ _
 ·rw[if_neg av]; exact .fw _ _ _
theorem aP.QG (z b off len cap sz cap' : Nat) (p:Prop) [Decidable p] (a ey:Addr) (am:len<=cap) (ah:cap<=cap') (aA:uS h b sz) :
  aP w R h μ (.ar z b off len cap sz) (.slice (if p then some a else some ey) len cap') :=by
 by_cases av:p
 ·rw[if_pos av]; exact .hZ _ _ _ _ _ _ _ _ am ah aA
 ·rw[if_neg av]; exact .hZ _ _ _ _ _ _ _ _ am ah aA
theorem acu (rel:bZ R B w h μ) {t:TypeId} {x c:U} {bA:Value} {cE aB cB:Option U} {pT fW tS:Option Value} (ak:Bf P t x cE aB cB=some c) (ai:aP w R h μ x bA)
  (ad:uV w R h μ cE pT) (af:uV w R h μ aB fW) (al:uV w R h μ cB tS) :
  ∃ v,(Instr.sliceAt t bA pT fW tS).run P w=.ok v w/\aP w R h μ c v:=by
 unfold Bf at ak;split at ak
 ·-- an array behind its address
  rename_i n e aM;cases aw:cC P e with
  | none=>rw[aw] at ak; cases ak
  | some z=>
  cases ag:gp n n cE aB cB with
  | none=>rw[aw,ag] at ak; cases ak
  | some r9=>
  obtain⟨l,aR,m⟩:=r9;rw[aw,ag] at ak;simp only at ak;obtain⟨b4,cx,eB,gU,h8⟩:=sN (P:=P) (isS:=false) ag (akb _) (akb _) ad af al;have Wz:(if cB.isSome=true then m else n)=m:=by
   cases cB with
   | none=>simp[gU rfl]
   | some v=>simp
  rw[Wz] at h8;split at ak
  ·rename_i b off sz;split at ak
   ·rename_i fg;have xO:∃ a,bA=.pointer (some a) :=by cases ai<;>exact⟨_,rfl⟩
    obtain⟨a,rfl⟩:=xO;refine⟨_,by simp[Instr.sliceAt,cn aM,Instr.sureAddr,h8,fO aw]; rfl,?_⟩;split at ak
    ·rename_i jA;simp only[Option.some.injEq] at ak; subst ak;have:aR - l=0:=by omega
     rw[this];exact .fw _ _ _
    ·rename_i jA;simp only[Option.some.injEq] at ak; subst ak;rw[if_neg jA];cases ai with
     | ptr _ _ _ cs b2 bN hm=>
      exact QI rel (cap:=m) (cap':=m) (hasMax:=true) bN hm fg (by
       have gj:=rel.blk b b2 hm;rw[bN] at gj;have gH:=gj.2.1;by_cases aO:off+m*z<sz
       ·exact .inl ⟨aO,rfl⟩
       ·exact .inr ⟨by omega,akb _,by omega⟩) b4 cx (akb _) (fun aI=>by cases aI) (by simp) jA
     | m9 _ _ _ _ aA=>exact .hZ _ _ _ _ _ _ _ _ (by omega) (akb _) aA
   ·cases ak
  ·rename_i cs off;split at ak
   ·rename_i fg;simp only[Option.some.injEq] at ak; subst ak;cases ai with
    | cg _ _ blk o eL ah aq=>
     refine⟨_,by simp[Instr.sliceAt,cn aM,Instr.sureAddr,h8,fO aw]; rfl,?_⟩;have hr:aR*z<=n*z:=akc _ (by omega);by_cases jA:m=l
     ·have aS:aR - l=0:=by omega
      rw[aS];exact .fw _ _ _
     ·rw[if_neg jA,Addr.lk];have am:=K2 (z:=z) (aR - l) (cs.drop (off+l*z));have l8:∀ i,i<aR - l->∀ j,j<z->off+l*z+(i*z+j)<cs.length:=by
       intro i fW j aj;have:(l+i+1)*z<=aR*z:=akc _ (by omega);rw[akS,akS] at this;omega
      have fh:∀ i e6,(nm z (aR - l) (cs.drop (off+l*z)))[i]? = some e6->i<aR - l/\e6=((cs.drop (off+l*z)).drop (i*z)).take z:=by
       intro i e6 gk;have fW:i<aR - l:=by
        have:=(aj7.1 gk).1;omega
       rw[K1 _ _ _ fW] at gk;simp only[Option.some.injEq] at gk;exact⟨fW,gk.symm⟩
      have:=aP.b1 (w:=w) (R:=R) (h:=h) (μ:=μ) z (nm z (aR - l) (cs.drop (off+l*z))) blk (o+off+l*z) (m - l) (fun i j=>eL (off+l*z+(i*z+j))) (by omega)
       (fun e6 gk=>by
        obtain⟨i,fW,rfl⟩:=List.getElem_of_mem gk;obtain⟨a2,bb⟩:=fh i _ (aka fW);rw[bb,akB,alk,alk];have:(l+i+1)*z<=aR*z:=akc _ (by omega);rw[akS,akS] at this;omega)
       (fun i j fW aj=>by
        have:=ah (off+l*z+(i*z+j)) (l8 i (by omega) j aj);have eR:o+off+l*z+(i*z+j)=o+(off+l*z+(i*z+j)) :=by omega
        rw[eR]; exact this)
       (fun i e6 gk j c aj=>by
        obtain⟨a2,rfl⟩:=fh i _ gk;have oD:j<z:=by
         have:=(aj7.1 aj).1;rw[akB] at this; omega
        rw[aku oD,akG,akG,] at aj;exact aq _ c aj)
      rw[am] at this;exact this
   ·cases ak
  ·cases ak
 ·-- a slice
  rename_i e aM;split at ak
  ·rename_i z dG b off len cap sz aw;split at ak
   ·rename_i r0; subst r0;cases ag:gp len cap cE aB cB with
    | none=>rw[ag] at ak; cases ak
    | some r9=>
    obtain⟨l,aR,m⟩:=r9;rw[ag] at ak;simp only[akg,Option.some.injEq] at ak;cases ai with
    | ar _ _ _ _ _ _ cap' cs b2 bN hm am au da=>
     have MF:cap<=cap':=by rcases da with da | da<;>omega
     obtain⟨b4,cx,eB,gU,h8⟩:=sN (P:=P) (isS:=true) ag am MF ad af al;refine⟨_,by simp[Instr.sliceAt,Instr.slice,cn aM,h8,fO aw]; rfl,?_⟩;split at ak
     ·rename_i jA;subst ak;have:aR - l=0:=by omega
      rw[this];by_cases qJ:(if cB.isSome=true then m else cap')=l
      ·rw[if_pos qJ,qJ,amj];exact .iT _ _ _ _ _ _ b2 bN hm
      ·rw[if_neg qJ];cases cB with
       | some v=>exact absurd (by simpa using jA) qJ
       | none=>
        have xD:=gU rfl;simp only[amv,ala,if_false] at qJ ⊢;have eQ:cap=l:=by omega
        have ao:off+cap*z=sz/\cap<=cap'/\b2.s+off+cap'*z<=b2.T:=by rcases da with da | da<;>omega
        have rP:l*z+(cap' - l)*z=cap'*z:=by rw[<-akS]; congr 1; omega
        subst eQ;rw[Addr.lk];have:=aP.ar (w:=w) (R:=R) (h:=h) (μ:=μ) z b (off+cap*z) 0 0 sz (cap' - cap) _ b2 bN hm (akb _) (by omega) (.inr ⟨by omega,by omega,by omega⟩)
        rwa [<-alW] at this
     ·rename_i jA;subst ak;have bW:¬ ((if cB.isSome=true then m else cap')=l) :=by
       cases cB with
       | none=>have:=gU rfl; simp; omega
       | some v=>simpa using jA
      rw[if_neg bW];exact QI rel (hasMax:=cB.isSome) bN hm au da b4 cx eB (fun aI=>gU (by simpa using aI)) rfl jA
    | iT _ _ _ _ a cs b2 bN hm=>
     obtain⟨b4,cx,eB,gU,h8⟩:=sN (P:=P) (isS:=true) ag (akb 0) (akb 0) ad af al;refine⟨_,by simp[Instr.sliceAt,Instr.slice,cn aM,h8,fO aw]; rfl,?_⟩;have lz:m=0:=by
      cases cB with
      | none=>exact gU rfl
      | some v=>simp at eB; omega
     have xB:l=0:=by omega
     have Wu:aR=0:=by omega
     subst lz xB Wu;simp only[if_true] at ak;subst ak;simp;exact .iT _ _ _ _ _ _ b2 bN hm
    | hZ _ _ _ _ _ _ cap' a am da aA=>
     obtain⟨b4,cx,eB,gU,h8⟩:=sN (P:=P) (isS:=true) ag am da ad af al;refine⟨_,by simp[Instr.sliceAt,Instr.slice,cn aM,h8,fO aw]; rfl,?_⟩;split at ak
     ·rename_i jA;subst ak;have:aR - l=0:=by omega
      rw[this];exact aP.QG _ _ _ _ _ _ _ _ _ _ (akb _) (alj _) aA
     ·rename_i jA;subst ak;have er:m<=(if cB.isSome=true then m else cap') :=by split<;>omega
      exact aP.QG _ _ _ _ _ _ _ _ _ _ (by omega) (by omega) aA
   ·cases ak
  ·rename_i z dG es aw;split at ak
   ·rename_i r0; subst r0;cases ag:gp es.length es.length cE aB cB with
    | none=>rw[ag] at ak; cases ak
    | some r9=>
    obtain⟨l,aR,m⟩:=r9;rw[ag] at ak;simp only[akg,Option.some.injEq] at ak;subst ak;cases ai with
    | b1 _ _ blk off cap eL am Ar ah aq=>
     obtain⟨b4,cx,eB,gU,h8⟩:=sN (P:=P) (isS:=true) ag (akb _) am ad af al;refine⟨_,by simp[Instr.sliceAt,Instr.slice,cn aM,h8,fO aw]; rfl,?_⟩;have bC:((es.drop l).take (aR - l)).length=aR - l:=by rw[akB,alk]; omega
     have er:aR<=(if cB.isSome=true then m else cap) :=by
      cases cB with
      | none=>simp only[amv,ala,if_false]; omega
      | some v=>simpa using cx
     by_cases jA:(if cB.isSome=true then m else cap)=l
     ·have aS:aR - l=0:=by omega
      rw[if_pos jA,aS,als];exact .fw _ _ _
     ·rw[if_neg jA,Addr.lk];have fh:∀ i e6,((es.drop l).take (aR - l))[i]? = some e6->i<aR - l/\es[l+i]? = some e6:=by
       intro i e6 gk;have fW:i<aR - l:=by
        have:=(aj7.1 gk).1;omega
       rw[aku fW,akG] at gk;exact⟨fW,gk⟩
      have:=aP.b1 (w:=w) (R:=R) (h:=h) (μ:=μ) z ((es.drop l).take (aR - l)) blk (off+l*z) ((if cB.isSome=true then m else cap) - l) (fun i j=>eL (l+i) j) (by omega)
       (fun e6 gk=>Ar e6 (alw (akD gk)))
       (fun i j fW aj=>by
        have:=ah (l+i) j (by omega) aj;have eR:off+l*z+(i*z+j)=off+((l+i)*z+j) :=by rw[akS]; omega
        rw[eR]; exact this)
       (fun i e6 gk j c aj=>aq (l+i) e6 (fh i e6 gk).2 j c aj)
      rw[bC] at this;exact this
    | fw _ a cap=>
     obtain⟨b4,cx,eB,gU,h8⟩:=sN (P:=P) (isS:=true) ag (akb _) (alj cap) ad af al;refine⟨_,by simp at h8; simp[Instr.sliceAt,Instr.slice,cn aM,h8,fO aw]; rfl,?_⟩;have aS:aR - l=0:=by simp at eB; omega
     rw[aS,als];exact aP.abP _ _ _ _ _
   ·cases ak
  ·rename_i z aw;cases ai;cases ag:gp 0 0 cE aB cB with
   | none=>rw[ag] at ak; cases ak
   | some r9=>
   obtain⟨l,aR,m⟩:=r9;rw[ag] at ak;simp only[akg,Option.some.injEq] at ak;subst ak;obtain⟨b4,cx,eB,gU,h8⟩:=sN (P:=P) (isS:=true) ag (akb _) (akb _) ad af al;obtain rfl:m=0:=by omega
   obtain rfl:aR=0:=by omega
   obtain rfl:l=0:=by omega
   refine⟨_,by simp[Instr.sliceAt,Instr.slice,cn aM,h8,fO aw]; rfl,?_⟩;exact .aK
  ·cases ak
 ·-- a string
  rename_i s aM;split at ak
  ·cases ai with
   | str bs=>
    cases ag:gp bs.data.toList.length bs.data.toList.length cE aB none with
    | none=>rw[ag] at ak; cases ak
    | some r9=>
    obtain⟨l,aR,m⟩:=r9;rw[ag] at ak;simp only[akg,Option.some.injEq] at ak;subst ak;cases tS with
    | some v=>exact al.elim
    | none=>
     have hv:bs.data.toList.length=bs.size:=by simp
     rw[hv] at ag;obtain⟨b4,cx,eB,gU,h8⟩:=sN (P:=P) (isS:=false) ag (akb _) (akb _) ad af al;refine⟨.string (bs.extract l aR),by simp[Instr.sliceAt,Instr.slice,cn aM,h8],?_⟩;rw[<-extract_toList];exact .str _
  ·cases ak
 ·cases ak
end

section
variable {P:Program} {w:World} {R:Nat->Prop} {B:Nat} {h:aW} {μ:cI}
def ks (w:World) (R:Nat->Prop) (h:aW) (μ:cI) (cs:List U) (arr:Array Value) :Prop:=
 arr.size=cs.length/\∀ (j:Nat) (c:U),cs[j]? = some c->∃ v:Value,arr[j]? = some v/\v.oneCell'=true/\aP w R h μ c v
theorem ks.aH {cs:List U} {arr:Array Value} (ay:ks w R h μ cs arr) :aP w R h μ (.aH cs) (.agg arr) :=by
 refine .aH _ _ ay.1 (fun j v aj=>?_) (fun j c v ah aj=>?_)
 ·have aO:j<cs.length:=by have:=(akI.1 aj).1; rw[<-ay.1]; exact this
  obtain⟨u,ad,af,_⟩:=ay.2 j _ (aka aO);rw[aj] at ad; cases ad; exact af
 ·obtain⟨u,ad,_,al⟩:=ay.2 j c ah;rw[aj] at ad; cases ad; exact al
theorem LM:∀ (l:List Value) (k off:Nat) (cells:Array Value),off+k+l.length<=cells.size->
  ((l.zipIdx k).foldl (fun cs (sU:Value × Nat)=>cs.setIfInBounds (off+sU.2) sU.1) cells).size=cells.size ∧
  ∀ j,((l.zipIdx k).foldl (fun cs (sU:Value × Nat)=>cs.setIfInBounds (off+sU.2) sU.1) cells)[j]? = if off+k<=j/\j<off+k+l.length then l[j - (off+k)]? else cells[j]?
 | [],k,off,cells,_=>⟨by simp,fun j=>by simp; omega⟩
 | v::l,k,off,cells,am=>by
  simp only[akv] at am;have aQ:=LM l (k+1) off (cells.setIfInBounds (off+k) v) (by simp; omega);simp only[List.zipIdx_cons,ang];refine⟨by rw[aQ.1]; simp,fun j=>?_⟩;rw[aQ.2 j];by_cases aj:off+(k+1)<=j/\j<off+(k+1)+l.length
  ·rw[if_pos aj,if_pos (by simp only[akv]; omega)];have:j - (off+k)=(j - (off+(k+1)))+1:=by omega
   rw[this,akN]
  ·rw[if_neg aj,alt];by_cases ao:off+k=j
   ·subst ao;rw[if_pos rfl,if_pos (by omega),if_pos (by simp only[akv]; omega)];simp
   ·rw[if_neg ao,if_neg (by simp only[akv]; omega)]
theorem Ce {ko:Nat->Option (Nat × Nat)}:∀ (parts:List (Nat × U)) (jQ:List (Nat × Value)) (cs:List U) (arr:Array Value) (cs' : List U),
  ht ko cs parts=some cs'->ks w R h μ cs arr->jQ.length=parts.length->(∀ (j:Nat) (p:Nat × U) (cf:Nat × Value),parts[j]? = some p->jQ[j]? = some cf->cf.1=p.1/\aP w R h μ p.2 cf.2)->
  ∃ kt,Instr.fill ko arr jQ=some kt/\ks w R h μ cs' kt
 | [],[],cs,arr,cs',aI,ay,_,_=>by
  simp only[ht,Option.some.injEq] at aI; subst aI;exact⟨arr,rfl,ay⟩
 | [],_::_,_,_,_,_,_,am,_=>by simp at am
 | _::_,[],_,_,_,_,_,am,_=>by simp at am
 | (i,c) ::parts,(mg,v) ::jQ,cs,arr,cs',aI,ay,am,av=>by
  obtain⟨rfl,aq⟩:=av 0 (i,c) (mg,v) rfl rfl;simp only at aq;unfold ht at aI;cases gT:ko mg with
  | none=>rw[gT] at aI; cases aI
  | some os=>
  obtain⟨off,size⟩:=os;cases ah:c.cells with
  | none=>rw[gT,ah] at aI; cases aI
  | some vs=>
  rw[gT,ah] at aI;simp only at aI;split at aI
  ·rename_i iX;obtain⟨hv,kL⟩:=B1 aq ah;have vK:v.cells.toList.length=vs.length:=by simpa using hv
   have rJ:=LM v.cells.toList 0 off arr (by rw[ay.1,vK]; omega);have Yd:v.cells.zipIdx.foldl (fun cs (x:Value × Nat)=>match x with | (c,j)=>cs.setIfInBounds (off+j) c) arr=(v.cells.toList.zipIdx 0).foldl (fun cs (sU:Value × Nat)=>cs.setIfInBounds (off+sU.2) sU.1) arr:=by
    rw[<-Array.foldl_toList];simp
   obtain⟨kt,ad,af⟩:=Ce parts jQ (bi cs off vs) (v.cells.zipIdx.foldl (fun cs (x:Value × Nat)=>match x with | (c,j)=>cs.setIfInBounds (off+j) c) arr) cs' aI (by
     rw[Yd];refine⟨by rw[rJ.1,ay.1,wm (by omega)]; omega,fun j x aj=>?_⟩;rw[rJ.2 j];rw[QP (by omega)] at aj;split at aj
     ·rename_i aO;rw[if_neg (by omega)];exact ay.2 j x aj
     ·split at aj
      ·rename_i ad af;rw[if_pos (by rw[vK]; omega)];obtain⟨u,a2,bb,cr⟩:=kL _ x aj;exact⟨u,by simpa using a2,bb,cr⟩
      ·rename_i ad af;rw[if_neg (by rw[vK]; omega)];exact ay.2 j x aj) (by simpa using am) (fun j p cf aj eX=>av (j+1) p cf (by simpa using aj) (by simpa using eX))
   refine⟨kt,?_,af⟩;have qz:¬ (v.cells.size≠size\/off+v.cells.size > arr.size) :=by rw[hv,ay.1]; omega
   simp only[Instr.fill,gT];rw[if_neg (by simpa using qz)];exact ad
  ·cases aI
theorem uO {t:TypeId} {z:List U} (aw:ho P t=some z) :∃ v,(∀ w2:World,(zeroValue t).run P w2=.ok v w2)/\ks w R h μ z v.cells:=by
 obtain⟨i,v,aB,aq,ak,ah⟩:=RV (w:=w) (R:=R) (h:=h) (μ:=μ) aw;exact⟨v,fun w2=>Qw aB aq,ak,ah⟩
theorem abU {fs:Array Field} (ak:(fs.toList.all fun f=>(cC P f.type).isSome)=true) :
  (fs.mapM fun f=>(do pure (f.offset,<-sizeOf f.type) :Sem (Nat × Nat))).run P w=.ok ((fs.toList.map fun f=>(f.offset,(cC P f.type).getD 0)).toArray) w:=by
 rw[Array.mapM_eq_mapM_toList];simp only[Sem.run_map];have:∀ l:List Field,(l.all fun f=>(cC P f.type).isSome)=true->(l.mapM fun f=>(do pure (f.offset,<-sizeOf f.type) :Sem (Nat × Nat))).run P w=.ok (l.map fun f=>(f.offset,(cC P f.type).getD 0)) w:=by
  intro l
  induction l with
  | nil=>intro _; simp
  | cons f l aQ=>
   intro am;simp only[anl,akh] at am;obtain⟨n,aD⟩:=am5.1 am.1;simp only[alI,Sem.run_bind,fO aD,Result.andThen_ok,Sem.run_pure,aQ am.2,akx,aD,akO]
 rw[this _ ak];rfl
theorem S5 {t:TypeId} {parts:List (Nat × U)} {jQ:Array (Nat × Value)} {c:U} (ag:yT P t parts=some c) (am:jQ.size=parts.length)
  (av:∀ (j:Nat) (p:Nat × U) (cf:Nat × Value),parts[j]? = some p->jQ[j]? = some cf->cf.1=p.1/\aP w R h μ p.2 cf.2) :
  ∃ v,(Instr.build t jQ).run P w=.ok v w/\aP w R h μ c v:=by
 unfold yT at ag;split at ag
 ·rename_i zero fs aw aM;split at ag
  ·cases ag
  ·rename_i hv;simp only[alX,Bool.not_eq_false] at hv;cases aI:ht (A1 P fs) zero parts with
   | none=>rw[aI] at ag; cases ag
   | some cs=>
    rw[aI] at ag;simp only[akg,Option.some.injEq] at ag; subst ag;obtain⟨v,aq,ay⟩:=uO (w:=w) (R:=R) (h:=h) (μ:=μ) aw;obtain⟨kt,ad,af⟩:=Ce parts jQ.toList zero v.cells cs aI ay (by simpa using am) (fun j p cf aj eX=>av j p cf aj (by simpa using eX));have Xy:(fun i=>((fs.toList.map fun f=>(f.offset,(cC P f.type).getD 0)).toArray)[i]?)=A1 P fs:=by
     funext i;simp only[A1];simp only[List.getElem?_toArray,akd,alT];cases CQ:fs[i]? with
     | none=>simp
     | some f=>
      rw[ak4] at hv;have:=hv f (by have:=Array.mem_of_getElem? CQ; simpa using this);obtain⟨n,aD⟩:=am5.1 this;simp[aD]
    refine⟨_,?_,af.aH⟩;simp only[Instr.build,Sem.run_bind,aq,Result.andThen_ok,cn aM,abU hv];rw[Xy,ad];simp
 ·rename_i zero n e aw aM;cases hv:cC P e with
  | none=>rw[hv] at ag; cases ag
  | some m=>
   rw[hv] at ag;simp only at ag;cases aI:ht (fun i=>some (i*m,m)) zero parts with
   | none=>rw[aI] at ag; cases ag
   | some cs=>
    rw[aI] at ag;simp only[akg,Option.some.injEq] at ag; subst ag;obtain⟨v,aq,ay⟩:=uO (w:=w) (R:=R) (h:=h) (μ:=μ) aw;obtain⟨kt,ad,af⟩:=Ce parts jQ.toList zero v.cells cs aI ay (by simpa using am) (fun j p cf aj eX=>av j p cf aj (by simpa using eX));refine⟨_,?_,af.aH⟩;simp only[Instr.build,Sem.run_bind,aq,Result.andThen_ok,cn aM,fO hv];rw[ad];simp
 ·cases ag
theorem wh {zero:List U}:∀ n,(dz zero n).length=n*zero.length
 | 0=>by simp[dz]
 | n+1=>by simp only[dz,akf,wh n,akK]; omega
theorem Qj {zero:List U}:∀ (n j:Nat) (c:U),(dz zero n)[j]? = some c->zero[j % zero.length]? = some c
 | 0,_,_,aj=>by simp[dz] at aj
 | n+1,j,c,aj=>by
  simp only[dz] at aj;by_cases aO:j<zero.length
  ·rw[aj8 aO] at aj
   rwa [akn aO]
  ·rw[akt (by omega)] at aj;have:=Qj n _ c aj
   rwa [<-Nat.mod_eq_sub_mod (by omega)] at this
theorem Ej {zero:List U} {z:Array Value} (ay:ks w R h μ zero z) (n:Nat) :ks w R h μ (dz zero n) ((Array.range (n*zero.length)).map (z[· % z.size]!)) :=by
 refine⟨by simp[wh],fun j c aj=>?_⟩;have aO:j<n*zero.length:=by
  have:=(aj7.1 aj).1
  rwa [wh] at this
 obtain⟨v,ad,af,al⟩:=ay.2 _ c (Qj n j c aj);refine⟨v,?_,af,al⟩;rw[<-ay.1] at ad;obtain⟨ag,rfl⟩:=akI.1 ad;simp[aO,ag]
theorem UD {z:Nat}:∀ (parts:List (Nat × U)) (a b:List U),ht (fun i=>some (i*z,z)) a parts=some b->b.length=a.length:=by
 intro parts
 induction parts with
 | nil=>intro a b gw; simp only[ht,Option.some.injEq] at gw; subst gw; rfl
 | cons p parts aQ=>
  intro a b gw;unfold ht at gw;split at gw
  ·rename_i off size vs gT tv;split at gw
   ·rw[aQ _ _ gw,wm (by omega)]; omega
   ·cases gw
  ·cases gw
theorem KP {t e:TypeId} {len z:Nat} {zero cs:List U} {parts:List (Nat × U)} {jQ:Array (Nat × Value)} (ao:jc P t=some e) (aw:cC P e=some z) (iw:ho P e=some zero) (kN:zero.length=z) (lA:len*z<=16777216)
  (aI:ht (fun i=>some (i*z,z)) (dz zero len) parts=some cs) (am:jQ.size=parts.length)
  (av:∀ (j:Nat) (p:Nat × U) (cf:Nat × Value),parts[j]? = some p->jQ[j]? = some cf->cf.1=p.1/\aP w R h μ p.2 cf.2) :
  cs.length=len*z/\∃ arr,(Instr.buildSlice t len jQ).run P w=.ok (.slice (some ⟨w.heap.size,0,none⟩) len len) (w.alloc (.cells arr e))/\ks w R h μ cs arr:=by
 obtain⟨v,aq,ay⟩:=uO (w:=w) (R:=R) (h:=h) (μ:=μ) iw;obtain⟨kt,ad,af⟩:=Ce parts jQ.toList _ _ cs aI (Ej ay len) (by simpa using am) (fun j p cf aj eX=>av j p cf aj (by simpa using eX));refine⟨by rw[UD _ _ _ aI,wh,kN],kt,?_,af⟩;have kH:=zg ao;have W1:¬ (len*z > 2 ^ 24) :=by omega
 simp only[Instr.buildSlice,Sem.run_bind,cn kH,Result.andThen_ok,fO aw,if_neg W1];rw[kN] at ad;generalize fC:len*z=N at ad;by_cases aF:N=0
 ·subst aF;have hS:∀ f:Nat->Value,(Array.range 0).map f=#[] :=fun f=>by simp[Array.range]
  rw[hS] at ad;simp[hS,ad,newRow]
 ·simp[aF,aq,ad,newRow]
theorem S4 (rel:bZ R B w h μ) {t:TypeId} {len:Nat} {parts:List (Nat × U)} {jQ:Array (Nat × Value)} {c:U} {h' : aW} (ag:BT P h t len parts=some (c,h')) (am:jQ.size=parts.length)
  (av:∀ (j:Nat) (p:Nat × U) (cf:Nat × Value),parts[j]? = some p->jQ[j]? = some cf->cf.1=p.1/\aP w R h μ p.2 cf.2) :
  ∃ v w' μ',(Instr.buildSlice t len jQ).run P w=.ok v w'/\dB w h μ w' h' μ'/\bZ R B w' h' μ'/\aP w' R h' μ' c v:=by
 unfold BT at ag;cases ao:jc P t with
 | none=>rw[ao] at ag; cases ag
 | some e=>
 rw[ao] at ag;simp only at ag;cases aw:cC P e with
 | none=>rw[aw] at ag; cases ag
 | some z=>
 cases iw:ho P e with
 | none=>rw[aw,iw] at ag; cases ag
 | some zero=>
 rw[aw,iw] at ag;simp only at ag;split at ag
 ·rename_i iX;obtain⟨kN,lA⟩:=iX;cases aI:ht (fun i=>some (i*z,z)) (dz zero len) parts with
  | none=>rw[aI] at ag; cases ag
  | some cs=>
   rw[aI] at ag;simp only[akg,Option.some.injEq,Prod.mk.injEq] at ag;obtain⟨rfl,rfl⟩:=ag;obtain⟨eQ,kt,lD,af⟩:=KP ao aw iw kN lA aI am av;have aC:=BJ rel (cs:=cs) (vs:=kt) e af.1 af.2;rw[eQ] at aC;obtain⟨a2,bb,cr⟩:=aC;refine⟨.slice (some ⟨w.heap.size,0,none⟩) len len,_,_,lD,a2,bb,?_⟩;have:=aP.ar (w:=w.alloc (.cells kt e)) (R:=R) (h:=h.push (.cells (len*z) cs)) (μ:=bH μ h.n (some ⟨w.heap.size,0,kt.size⟩)) z h.n 0 len len (len*z) len cs ⟨w.heap.size,0,kt.size⟩ (by simp[eH,fv]) (by simp) (akb _) (by omega)
    (.inr ⟨by omega,akb _,by simp only; rw[af.1,eQ]; omega⟩)
   simpa using this
 ·cases ag
theorem OH {t e:TypeId} {z by_:Nat} {zero:List U} {kl kc:IntKind} {li hb:Int} (ao:jc P t=some e) (aw:cC P e=some z) (ep:lV P e=some by_) (iw:ho P e=some zero) (kN:zero.length=z)
  (aF:0<=li) (z0:li<=hb) (CK:hb<9223372036854775808) (ed:by_*hb<=cF) :
  (dz zero hb.toNat).length=hb.toNat*z/\∃ arr,(Instr.makeSlice t (.int kl li) (.int kc hb)).run P w=.ok (.slice (some ⟨w.heap.size,0,none⟩) li.toNat hb.toNat) (w.alloc (.cells arr e))/\ks w R h μ (dz zero hb.toNat) arr:=by
 obtain⟨v,aq,ay⟩:=uO (w:=w) (R:=R) (h:=h) (μ:=μ) iw;have cX:=Ej ay hb.toNat
 refine⟨by rw[wh,kN],_,?_,cX⟩;obtain⟨i,aB,ME⟩:∃ i,P.info? e=some i/\i.bytes=by_:=by
  unfold lV at ep;cases aB:P.info? e with
  | none=>rw[aB] at ep; cases ep
  | some i=>rw[aB] at ep; exact⟨i,rfl,by simpa using ep⟩
 have pL:IntKind.i64.wrap li=li:=IntWalk.i64_in _ (by omega);have pK:IntKind.i64.wrap hb=hb:=IntWalk.i64_in _ (by omega);have kH:=zg ao;unfold cF at ed;have t1:¬ (hb<0\/(281474976710656:Int)<(by_:Int)*hb) :=by omega
 have t2:¬ (li<0) :=by omega
 have t3:¬ (hb<li) :=by omega
 rw[kN];generalize fC:hb.toNat*z=N;by_cases qJ:N=0
 ·subst qJ;have hS:∀ f:Nat->Value,(Array.range 0).map f=#[] :=fun f=>by simp[Array.range]
  simp[hS,Instr.makeSlice,cn kH,Go.asInt,asIntOf,typeInfo,aB,ME,pL,pK,t1,t2,t3,fO aw,fC,newRow]
 ·simp[Instr.makeSlice,cn kH,Go.asInt,asIntOf,typeInfo,aB,ME,pL,pK,t1,t2,t3,fO aw,fC,qJ,aq,newRow]
theorem Zq (rel:bZ R B w h μ) {t:TypeId} {l c r:U} {OE vg:Value} {h' : aW} (hm:DL P h t l c=some (r,h')) (am:aP w R h μ l OE) (ah:aP w R h μ c vg) :
  ∃ v w' μ',(Instr.makeSlice t OE vg).run P w=.ok v w'/\dB w h μ w' h' μ'/\bZ R B w' h' μ'/\aP w' R h' μ' r v:=by
 unfold DL at hm;split at hm
 ·rename_i e li hb ao cv fK;obtain⟨kl,rfl⟩:=qk cv am;obtain⟨kc,rfl⟩:=qk fK ah;cases aw:cC P e with
  | none=>rw[aw] at hm; cases hm
  | some z=>
  cases ep:lV P e with
  | none=>rw[aw,ep] at hm; cases hm
  | some by_=>
  cases iw:ho P e with
  | none=>rw[aw,ep,iw] at hm; cases hm
  | some zero=>
  rw[aw,ep,iw] at hm;simp only at hm;split at hm
  ·rename_i iX;obtain⟨kN,aF,z0,CK,ed⟩:=iX;simp only[Option.some.injEq,Prod.mk.injEq] at hm;obtain⟨rfl,rfl⟩:=hm;obtain⟨bC,arr,lD,cX⟩:=OH (w:=w) (R:=R) (h:=h) (μ:=μ) (kl:=kl) (kc:=kc) ao aw ep iw kN aF z0 CK ed;have aC:=BJ rel (cs:=dz zero hb.toNat) e cX.1 cX.2;rw[bC] at aC;obtain⟨a2,bb,cr⟩:=aC;refine⟨.slice (some ⟨w.heap.size,0,none⟩) li.toNat hb.toNat,_,_,lD,a2,bb,?_⟩;have:=aP.ar (w:=w.alloc (.cells arr e)) (R:=R) (h:=h.push (.cells (hb.toNat*z) (dz zero hb.toNat))) (μ:=bH μ h.n (some ⟨w.heap.size,0,arr.size⟩))
    z h.n 0 li.toNat hb.toNat (hb.toNat*z) hb.toNat (dz zero hb.toNat) ⟨w.heap.size,0,arr.size⟩ (by simp[eH,fv]) (by simp) (by omega) (by omega)
    (.inr ⟨by omega,akb _,by simp only; rw[cX.1,bC]; omega⟩)
   simpa using this
  ·cases hm
 ·cases hm
theorem Y5 {t u:TypeId} {ty:TypeId} {x c:U} {bA:Value} (ah:v5 P t x=some c) (ai:aP w R h μ x bA) :∃ v,(Builtin.len_ #[t] ty #[bA]).run P w=.ok v w/\aP w R h μ c v:=by
 unfold v5 at ah;split at ah<;>(try (simp only[Option.some.injEq] at ah; subst ah))
 ·rename_i s aM;cases ai;rename_i bs;exact⟨goInt bs.size,by simp[Builtin.len_,cn aM],by rw[show (bs.data.toList.length:Int)=bs.size from by simp]; exact .int _ _⟩
 ·rename_i n e aM;exact⟨goInt n,by simp[Builtin.len_,cn aM],.int _ _⟩
 ·rename_i e aM;cases ai;exact⟨goInt (0:Nat),by simp[Builtin.len_,cn aM],.int _ _⟩
 ·rename_i e z b off len cap sz aM;cases ai
  ·exact⟨goInt len,by simp[Builtin.len_,cn aM],.int _ _⟩
  ·exact⟨goInt len,by simp[Builtin.len_,cn aM],.int _ _⟩
  ·exact⟨goInt (0:Nat),by simp[Builtin.len_,cn aM],.int _ _⟩
 ·rename_i e z es aM;cases ai
  ·exact⟨goInt es.length,by simp[Builtin.len_,cn aM],.int _ _⟩
  ·exact⟨goInt (0:Nat),by simp[Builtin.len_,cn aM],.int _ _⟩
 ·rename_i k e aM;cases ai;exact⟨goInt 0,by simp[Builtin.len_,cn aM],.int _ _⟩
 ·cases ah
end

section
variable {P:Program} {w:World} {R:Nat->Prop} {B:Nat} {h:aW} {μ:cI}
theorem tZ {t:TypeId} {cs:List U} {vs:Array Value} {off:Nat} {c:U} (av:hz P t cs off=some c) (ay:ks w R h μ cs vs) :
  ∃ v,(∀ w2:World,(part t vs off).run P w2=.ok v w2)/\aP w R h μ c v:=by
 unfold hz at av;cases nv:dZ P t with
 | none=>rw[nv] at av; cases av
 | some b=>
  rw[nv] at av;cases b with
  | false=>
   simp only at av;obtain⟨v,ad,_,al⟩:=ay.2 off c av;exact⟨v,fun w2=>by simp[part,En nv,ad],al⟩
  | true=>
   cases aD:cC P t with
   | none=>rw[aD] at av; cases av
   | some n=>
    rw[aD] at av;simp only at av;split at av
    ·rename_i er;simp only[Option.some.injEq] at av;subst av;refine⟨.agg (vs.extract off (off+n)),fun w2=>by simp[part,En nv,fO aD],ks.aH ⟨by simp; rw[ay.1]; omega,fun j c aj=>?_⟩⟩;have iY:j<n:=by
      have:=(aj7.1 aj).1;rw[akB] at this; omega
     rw[aku iY,akG] at aj;obtain⟨v,ad,af,al⟩:=ay.2 _ c aj;refine⟨v,?_,af,al⟩;rw[Array.getElem?_extract,if_pos (by rw[ay.1]; omega)];exact ad
    ·cases av
theorem sI {cs:List U} {bA:Value} (ai:aP w R h μ (.aH cs) bA) :∃ vs,bA=.agg vs/\ks w R h μ cs vs:=by
 cases ai with
 | aH _ vs am ad aq=>
  refine⟨vs,rfl,am,fun j c aj=>?_⟩;have aO:j<vs.size:=by rw[am]; exact (aj7.1 aj).1
  exact⟨vs[j],by simp[aO],ad j _ (by simp[aO]),aq j c _ aj (by simp[aO])⟩
theorem Uz {t:TypeId} {cs:List U} {f:Nat} {fd:Field} {c:U} {bA:Value} (aI:vl P t f=some fd) (av:hz P fd.type cs fd.offset=some c) (ai:aP w R h μ (.aH cs) bA) :
  ∃ v,(Instr.field t bA f).run P w=.ok v w/\aP w R h μ c v:=by
 obtain⟨fs,aM,rJ⟩:=Lz aI;obtain⟨vs,rfl,ay⟩:=sI ai;obtain⟨v,ad,af⟩:=tZ (P:=P) av ay;exact⟨v,by simp[Instr.field,cn aM,rJ,asAgg,ad],af⟩
theorem HQ {t:TypeId} {x ew c:U} {bA Aw:Value} (ah:xW P t x ew=some c) (ai:aP w R h μ x bA) (aB:aP w R h μ ew Aw) :
  ∃ v,(Instr.index t bA Aw).run P w=.ok v w/\aP w R h μ c v:=by
 unfold xW at ah;split at ah
 ·rename_i n e cs i aM de;obtain⟨k,rfl⟩:=qk de aB;cases aw:cC P e with
  | none=>rw[aw] at ah; cases ah
  | some z=>
   rw[aw] at ah;simp only at ah;split at ah
   ·rename_i ag;obtain⟨vs,rfl,ay⟩:=sI ai;obtain⟨v,ad,af⟩:=tZ (P:=P) ah ay;exact⟨v,by simp[Instr.index,asIntOf,cn aM,ag,fO aw,ad],af⟩
   ·cases ah
 ·rename_i s i aM de;obtain⟨k,rfl⟩:=qk de aB;split at ah
  ·rename_i ag;cases ai with
   | str bs=>
    cases CE:bs.data.toList[i.toNat]? with
    | none=>rw[CE] at ah; cases ah
    | some b=>
     rw[CE] at ah;simp only[akg,Option.some.injEq] at ah;subst ah;have aO:i.toNat<bs.size:=by have:=(aj7.1 CE).1; simpa using this
     have fh:bs[i.toNat]? = some b:=by
      have ft:=(aj7.1 CE).2;rw[getElem?_pos bs i.toNat aO];simp only[Option.some.injEq];rw[<-ft];rfl
     exact⟨.int .u8 b.toNat,by simp[Instr.index,asIntOf,cn aM,ag,fh],.int _ _⟩
  ·cases ah
 ·cases ah
theorem TP (rel:bZ R B w h μ) {t u ty:TypeId} {d x c:U} {FF bA:Value} {h' : aW} (ah:wT P h t d x=some (c,h')) (bh:aP w R h μ d FF) (ai:aP w R h μ x bA) :
  ∃ v w',(Builtin.copy_ #[t,u] ty #[FF,bA]).run P w=.ok v w'/\dB w h μ w' h' μ/\bZ R B w' h' μ/\aP w' R h' μ c v:=by
 unfold wT at ah;cases ao:jc P t with
 | none=>rw[ao] at ah; cases ah
 | some e=>
 rw[ao] at ah;simp only at ah;cases aw:cC P e with
 | none=>rw[aw] at ah; cases ah
 | some z=>
 rw[aw] at ah;simp only at ah;cases ea:contents h z x with
 | none=>rw[ea] at ah; cases ah
 | some JW=>
 obtain⟨xs,n⟩:=JW;rw[ea] at ah;simp only at ah;have kH:=zg ao;obtain⟨bm,bC,vs,cX,kC⟩:=vd (P:=P) rel ea ai;split at ah
 ·simp only[Option.some.injEq,Prod.mk.injEq] at ah;obtain⟨rfl,rfl⟩:=ah;cases bh;have aF:=kC 0 (alj _) w (fun _=>rfl);refine⟨goInt (0:Nat),w,?_,.refl _ _ _,rel,.int _ _⟩;simp[Builtin.copy_,cn kH,bC,fO aw,aF]
 ·rename_i dG b off len cap sz;cases ag:h.f b with
  | cells m cs=>
   rw[ag] at ah;simp only at ah;split at ah
   ·rename_i zN;obtain⟨rfl,rfl⟩:=zN;simp only[Option.some.injEq,Prod.mk.injEq] at ah;obtain⟨rfl,rfl⟩:=ah;cases bh with
    | iT _ _ _ _ a cs' b2 bN hm=>
     have aF:=kC 0 (alj _) w (fun _=>rfl);have pG:bi cs off []=cs:=by simp[bi]
     have ji:=rel.same (h':=h.set b (.cells m (bi cs off (xs.take (min n 0*z))))) (by
      rw[eI,Nat.min_zero,amh,als,pG];funext x;simp only[bH];split
      ·rename_i ai; rw[ai,ag]
      ·rfl) rfl
     refine⟨goInt (0:Nat),w,?_,ji.1,ji.2,by rw[Nat.min_zero]; exact .int _ _⟩;simp[Builtin.copy_,cn kH,bC,fO aw,aF,storeCells,Result.andThen]
    | hZ _ _ _ _ _ _ cap' a am da aA=>
     exfalso;rcases aA with aA | ⟨hX,cs',aA,aO⟩
     ·rw[aA] at ag; cases ag
     ·rw[aA] at ag; cases ag; omega
    | ar _ _ _ _ _ _ cap' cs' b2 bN hm am au da=>
     have gj:=rel.blk b b2 hm;rw[ag] at gj;obtain⟨MI,gH,_⟩:=gj;have rP:min n len*z<=cap*z:=akc _ (by omega);have Np:min n len*z<=n*z:=akc _ (by omega);have kI:(xs.take (min n len*z)).length=min n len*z:=by rw[akB]; omega
     have lA:max m (off+(xs.take (min n len*z)).length)=m:=by rw[kI]; omega
     obtain⟨w',ad,af,al⟩:=yB (P:=P) rel (cvs:=xs.take (min n len*z)) (vs:=vs.take (min n len*z)) (k:=off) ag hm (by omega)
      (by rw[akB,akB,cX.1]) (by rw[lA]; omega) (fun j c aj=>by
       have aO:j<min n len*z:=by have:=(aj7.1 aj).1; rwa [kI] at this
       rw[aku aO] at aj ⊢;exact cX.2 j c aj)
     rw[lA] at af al;have aI:=kC (min n len) (by omega) w (fun _=>rfl);refine⟨goInt (min n len:Nat),w',?_,af,al,.int _ _⟩;have vO:Nat.min n len=min n len:=rfl;simp[Builtin.copy_,cn kH,bC,fO aw,vO,aI,ad]
   ·cases ah
  | _=>rw[ag] at ah; cases ah
 ·cases ah
theorem Fr:∀ (cs:List U) (vs:List Value) (bs:List UInt8),mN cs=some bs->vs.length=cs.length->
  (∀ (j:Nat) (c:U),cs[j]? = some c->∃ v:Value,vs[j]? = some v/\v.oneCell'=true/\aP w R h μ c v)->
  ∃ gA:List Int,vs=gA.map (Value.int .u8)/\bs=gA.map fun n=>UInt8.ofNat n.toNat
 | [],[],bs,ag,_,_=>by
  simp only[mN,Option.some.injEq] at ag; subst ag;exact⟨[],rfl,rfl⟩
 | [],_::_,_,_,am,_=>by simp at am
 | _::_,[],_,_,am,_=>by simp at am
 | c::cs,v::vs,bs,ag,am,aq=>by
  obtain⟨EE,mf,_,Aj⟩:=aq 0 c rfl;simp only[akA,Option.some.injEq] at mf;subst mf;cases Aj with
  | int k n=>
   cases k<;>simp only[mN] at ag<;>try (cases ag; done)
   cases rC:mN cs with
   | none=>rw[rC] at ag; cases ag
   | some SX=>
    rw[rC] at ag;simp only[akg,Option.some.injEq] at ag;subst ag;obtain⟨gA,ad,af⟩:=Fr cs vs SX rC (by simpa using am) (fun j c aj=>aq (j+1) c (by simpa using aj));exact⟨n::gA,by rw[ad]; rfl,by rw[af]; rfl⟩
  | _=>simp[mN] at ag
theorem LL:∀ (gA:List Int) (s:ByteArray),(gA.foldl (fun r n=>r.push (UInt8.ofNat n.toNat)) s).data.toList=s.data.toList++gA.map fun n=>UInt8.ofNat n.toNat
 | [],s=>by simp
 | n::gA,s=>by
  rw[ang,LL gA];simp[ByteArray.push]
theorem TM (rel:bZ R B w h μ) {s d:TypeId} {x c:U} {bA:Value} (ah:ve P h s d x=some c) (ai:aP w R h μ x bA) :
  ∃ v,(convert s d bA).run P w=.ok v w/\aP w R h μ c v:=by
 unfold ve at ah;split at ah
 ·rename_i hE k k' n ak bh;simp only[Option.some.injEq] at ah; subst ah;cases ai;exact⟨.int k (k.wrap n),by simp[convert,cn ak,cn bh,Conv.intToInt],.int _ _⟩
 ·rename_i Eo ak bh;simp only[Option.some.injEq] at ah; subst ah;cases ai with
  | str bs=>exact⟨.string bs,by simp[convert,cn ak,cn bh],.str _⟩
 ·rename_i e ak bh Nt;cases Dp:P.underlying e with
  | none=>rw[Dp] at ah; cases ah
  | some afy=>
   rw[Dp] at ah;split at ah
   ·rename_i heq;simp only[Option.some.injEq] at heq ah; subst heq ah;cases ai;refine⟨.string ByteArray.empty,by simp[convert,cn ak,cn bh,cn Dp,Conv.bytesToString],?_⟩;exact .str ByteArray.empty
   ·rename_i heq vR;simp only[Option.some.injEq] at heq; subst heq;split at ah
    ·cases ah
    ·rename_i cs n Xd ea;cases rC:mN cs with
     | none=>rw[rC] at ah; cases ah
     | some bs=>
      rw[rC] at ah;simp only[akg,Option.some.injEq] at ah; subst ah;obtain⟨bm,bC,vs,cX,kC⟩:=vd (P:=P) rel ea ai;have aI:=kC n (akb _) w (fun _=>rfl);obtain⟨gA,rfl,rfl⟩:=Fr cs vs bs rC cX.1 cX.2;have Ah:(gA.map (Value.int .u8)).take (n*1)=gA.map (Value.int .u8) :=aj9 (by rw[cX.1,bm]; exact akb _);rw[Ah] at aI;have GI:∃ a len cap,bA=.slice a len cap:=by
       cases ai<;>first | exact⟨_,_,_,rfl⟩ | (simp[contents] at ea; done) | (exact absurd rfl (Xd _))
      obtain⟨a,len,cap,rfl⟩:=GI;simp only[Builtin.lenOf,Sem.run_pure,Result.ok.injEq] at bC;obtain⟨rfl,_⟩:=bC;have V1:=LL gA ByteArray.empty;refine⟨.string (gA.foldl (fun r n=>r.push (UInt8.ofNat n.toNat)) ByteArray.empty),?_,?_⟩
      ·rw[run_convert_bytes_string w s d e a len cap ak Dp bh];cases a with
       | none=>
        simp only[Builtin.firstCells,Sem.run_pure,Result.ok.injEq] at aI;have kL:gA=[] :=by
         have:=congrArg Array.toList aI.1;simpa using this.symm
        subst kL;simp[Conv.bytesToString]
       | some a=>
        simp only[Builtin.firstCells,alM] at aI;exact run_bytesToString w a len cap gA aI
      ·have:(gA.foldl (fun r n=>r.push (UInt8.ofNat n.toNat)) ByteArray.empty).data.toList=gA.map fun n=>UInt8.ofNat n.toNat:=by rw[V1]; rfl
       rw[<-this];exact .str _
    ·cases ah
   ·cases ah
 ·cases ah
theorem abB (rel:bZ R B w h μ) {w' : World} (ag:RowKit.Below w.heap.size w w') (pw:w.drawn<=w'.drawn:=by first | exact akb _ | exact Nat.le_succ _) :dB w h μ w' h μ/\bZ R B w' h μ:=by
 have e:dB w h μ w' h μ:=⟨⟨ag.os,ag.tape,ag.output,ag.size,fun k ax _=>ag.block k ax,fun _ au=>.inl au,fun b sz cs m ad af=>.inl ⟨cs,ad,af⟩,fun _ _ aA=>aA,fun _ _ _ ad af=>⟨ad,af⟩,akb _,pw⟩,fun _ _ hm=>hm⟩
 refine⟨e,fun b m hm=>?_,rel.inj,rel.base,rel.fresh,rel.up,akV rel.size ag.size,rel.km⟩;cases am:live (h.f b) with
 | false=>cases ah:h.f b<;>first | trivial | (rw[ah] at am; cases am)
 | true=>exact (rel.blk b m hm).ext e.toExt0 (ag.block _ (rel.lt am hm))
theorem S9 (rel:bZ R B w h μ) {s d:TypeId} {x c:U} {bA:Value} (ah:wH P s d x=some c) (ai:aP w R h μ x bA) :
  ∃ v w',(convert s d bA).run P w=.ok v w'/\dB w h μ w' h μ/\bZ R B w' h μ/\aP w' R h μ c v:=by
 unfold wH at ah;split at ah
 ·rename_i hE e Eo ak bh;split at ah
  ·rename_i aM;simp only[Option.some.injEq] at ah; subst ah;cases ai with
   | str bs=>
    have VL:RowKit.Below w.heap.size w (Lib.bytesWorld w e bs) :=⟨rfl,rfl,rfl,by rw[Lib.bytesWorld_size]; omega,fun k ax=>Lib.bytesWorld_at_old w e bs k ax⟩
    obtain⟨ad,af⟩:=abB rel VL;refine⟨_,_,Lib.run_convert_string_bytes w s d e bs ak bh aM,ad,af,?_⟩;have hv:bs.data.toList.length=bs.size:=by simp
    have ir:¬ nc h μ w.heap.size:=by
     rintro⟨b,m,am,hm,ao⟩;have:=rel.lt am hm;omega
    have c3:bs.size<=grownCap w bs.size 0 e:=grownCap_ge w bs.size 0 e;have:=aP.b1 (w:=Lib.bytesWorld w e bs) (R:=R) (h:=h) (μ:=μ) 1 (bs.data.toList.map fun b=>[iK b]) w.heap.size 0 (grownCap w bs.size 0 e) (fun i _=>.int .u8 (bs.data.toList.getD i 0).toNat)
     (by simpa using c3) (fun e ao=>by obtain⟨b,_,rfl⟩:=akz.1 ao; rfl)
     (fun i j aB aj=>by
      have fW:i<bs.size:=by simpa using aB
      have:j=0:=by omega
      subst this;exact⟨by simpa using Lib.bytesWorld_cell w e bs i fW,rfl,rel.up _ rel.size,ir⟩)
     (fun i e ao j c aj=>by
      rw[akd] at ao;cases ag:bs.data.toList[i]? with
      | none=>rw[ag] at ao; cases ao
      | some b=>
       rw[ag] at ao;simp only[akg,Option.some.injEq] at ao; subst ao;cases j with
       | zero=>
        simp only[akA,Option.some.injEq] at aj; subst aj;have:bs.data.toList.getD i 0=b:=by simp[List.getD,ag]
        rw[this];exact .int _ _
       | succ j=>simp at aj)
    rw[aki,hv] at this;exact this
  ·cases ah
 ·cases ah
theorem Tk {t ty:TypeId} {x c:U} {bA:Value} (ah:wL P t x=some c) (ai:aP w R h μ x bA) :∃ v,(Builtin.cap_ #[t] ty #[bA]).run P w=.ok v w/\aP w R h μ c v:=by
 unfold wL at ah;split at ah<;>(try (simp only[Option.some.injEq] at ah; subst ah))
 ·rename_i n e aM;exact⟨goInt n,by simp[Builtin.cap_,cn aM],.int _ _⟩
 ·rename_i e aM;cases ai;exact⟨goInt (0:Nat),by simp[Builtin.cap_,cn aM],.int _ _⟩
 ·cases ah
theorem Tx (rel:bZ R B w h μ) {t ty:TypeId} {x:U} {bA:Value} {h' : aW} (ah:wN P h t x=some h') (ai:aP w R h μ x bA) :
  ∃ w',(Builtin.clear_ #[t] ty #[bA]).run P w=.ok (.tuple #[]) w'/\dB w h μ w' h' μ/\bZ R B w' h' μ:=by
 unfold wN at ah;split at ah
 ·rename_i e aM;simp only[Option.some.injEq] at ah; subst ah;cases ai;exact⟨w,by simp[Builtin.clear_,cn aM],.refl _ _ _,rel⟩
 ·rename_i e z aM;simp only[Option.some.injEq] at ah; subst ah;cases ai<;>exact⟨w,by simp[Builtin.clear_,cn aM],.refl _ _ _,rel⟩
 ·rename_i e z b off len cap sz aM;split at ah
  ·rename_i xB;simp only[Option.some.injEq] at ah; subst ah;subst xB;cases ai<;>exact⟨w,by simp[Builtin.clear_,cn aM],.refl _ _ _,rel⟩
  ·rename_i xB;split at ah
   ·rename_i zero m cs aw ag;split at ah
    ·rename_i zN;obtain⟨rfl,rfl⟩:=zN;simp only[Option.some.injEq] at ah; subst ah;cases ai with
     | iT=>exact absurd rfl xB
     | hZ _ _ _ _ _ _ cap' a am da aA=>
      exfalso;rcases aA with aA | ⟨hX,cs',aA,aO⟩
      ·rw[aA] at ag; cases ag
      ·rw[aA] at ag; cases ag; omega
     | ar _ _ _ _ _ _ cap' cs' b2 bN hm am au da=>
      have gj:=rel.blk b b2 hm;rw[ag] at gj;obtain⟨MI,gH,_⟩:=gj;obtain⟨v,aq,ay⟩:=uO (P:=P) (w:=w) (R:=R) (h:=h) (μ:=μ) aw;have Hk:=Ej ay len;have rP:len*zero.length<=cap*zero.length:=akc _ am;have pF:(dz zero len).length=len*zero.length:=wh len;have lA:max m (off+(dz zero len).length)=m:=by rw[pF]; omega
      have kN:v.cells.size=zero.length:=ay.1;have Dr:(Builtin.zeroCells v.cells len)=(Array.range (len*zero.length)).map (v.cells[· % v.cells.size]!) :=by
       unfold Builtin.zeroCells;rw[kN]
      obtain⟨w',ad,af,al⟩:=yB (P:=P) rel (cvs:=dz zero len) (vs:=(Builtin.zeroCells v.cells len).toList) (k:=off) ag hm (by omega)
       (by rw[Dr,pF]; simp) (by rw[lA]; omega) (fun j c aj=>by
        rw[Dr];obtain⟨u,a2,bb,cr⟩:=Hk.2 j c aj;exact⟨u,by rw[alT]; exact a2,bb,cr⟩)
      rw[lA] at af al;refine⟨w',?_,af,al⟩;cases bC:len with
      | zero=>exact absurd bC xB
      | succ ah2=>
       rw[bC] at ad;simp[Builtin.clear_,cn aM,aq,ad]
    ·cases ah
   ·cases ah
 ·cases ah
theorem Sz (rel:bZ R B w h μ) {t u ty:TypeId} {k:IntKind} {s x c:U} {nQ bA:Value} {h' : aW} (aM:P.underlying u=some (.int k)) (aC:yQ P h t s x=some (c,h')) (ak:aP w R h μ s nQ) (ai:aP w R h μ x bA) :
  ∃ v w' μ',(Builtin.append_ #[t,u] ty #[nQ,bA]).run P w=.ok v w'/\dB w h μ w' h' μ'/\bZ R B w' h' μ'/\aP w' R h' μ' c v:=by
 unfold yQ at aC;split at aC
 ·rename_i e n ao aB;have kH:=zg ao;obtain⟨pQ,rfl⟩:=qk aB ai;split at aC
  ·rename_i z by_ zero aw ep iw;split at aC
   ·rename_i iX;obtain⟨kN,tj,agt,ed⟩:=iX;obtain⟨i,zv,px,lE,kh,_⟩:=RV (P:=P) (w:=w) (R:=R) (h:=h) (μ:=μ) iw;have rX:i.size=z:=by simpa [cC,px] using aw
    have l7:i.bytes=by_:=by simpa [lV,px] using ep
    have xQ:IntKind.i64.wrap n=n:=by
     simp[IntKind.wrap,IntKind.bits,IntKind.signed]; omega
    have aD:(n.toNat:Int)=n:=by omega
    have iZ:¬ (n<0) :=by omega
    have afY:¬ (2 ^ 48<n*(by_:Int)) :=by
     have ad:((n.toNat*by_:Nat) :Int)=n*by_:=by rw[Int.natCast_mul,aD]
     have af:((n.toNat*by_:Nat) :Int)<=((140737488355328:Nat) :Int) :=Int.ofNat_le.2 ed;rw[ad] at af;omega
    have cX:ks w R h μ (dz zero n.toNat) (Builtin.zeroCells zv.cells n.toNat) :=by
     obtain⟨v,aq,ay⟩:=uO (P:=P) (w:=w) (R:=R) (h:=h) (μ:=μ) iw;have X7:v=zv:=by
      have:=aq w;simp[zeroValue,typeInfo,px,lE] at this;exact this.symm
     subst X7;have Hk:=Ej ay n.toNat
     have Dr:(Builtin.zeroCells v.cells n.toNat)=(Array.range (n.toNat*zero.length)).map (v.cells[· % v.cells.size]!) :=by
      unfold Builtin.zeroCells;rw[ay.1]
     rw[Dr];exact Hk
    have pF:(dz zero n.toNat).length=n.toNat*z:=by rw[wh,kN]
    have tc:∀ w2:World,(Go.asInt (.int pQ n)).run P w2=.ok n w2:=fun w2=>rfl
    have s7:¬ (281474976710656<n*(by_:Int)) :=by omega
    have vZ:∀ w2:World,(zeroValue e).run P w2=.ok zv w2:=fun w2=>by simp[zeroValue,typeInfo,px,lE]
    have Ob:n.toNat*z=0->Builtin.zeroCells zv.cells n.toNat=#[] :=fun aF=>by
     apply Array.eq_empty_of_size_eq_zero;unfold Builtin.zeroCells;simp[kh,kN,aF]
    refine Ku rel aw ep aC ak pF (vs:=(Builtin.zeroCells zv.cells n.toNat).toList) ⟨by simpa using cX.1,fun j c aj=>by
     obtain⟨v,a2,bb,cr⟩:=cX.2 j c aj;exact⟨v,by rw[alT]; exact a2,bb,cr⟩⟩ (fun base eD gC w' fg bY=>?_) (fun mg aj6 fW Oc base eD gC fM au aA ay ag=>?_)
    ·by_cases aF:n.toNat*z=0
     ·rw[Ob aF] at bY;cases base with
      | none=>
       subst bY;simp[Builtin.append_,tc,cn kH,cn aM,fO aw,xQ,iZ,typeInfo,px,l7,fg,s7,aF]
      | some a=>
       simp only at bY;simp[Builtin.append_,tc,cn kH,cn aM,fO aw,xQ,iZ,typeInfo,px,l7,fg,s7,aF,bY]
     ·cases base with
      | none=>
       subst bY;simp[Builtin.append_,tc,cn kH,cn aM,fO aw,xQ,iZ,typeInfo,px,l7,fg,s7,aF,vZ]
      | some a=>
       simp only at bY;simp[Builtin.append_,tc,cn kH,cn aM,fO aw,xQ,iZ,typeInfo,px,l7,fg,s7,aF,vZ,bY]
    ·rw[px] at fW;cases fW;rw[lE] at Oc;cases Oc;have GJ:¬ (281474976710656<Builtin.nextslicecap (eD+n.toNat) gC*i.bytes) :=by
      have:=growslice_fits (need:=eD+n.toNat) (old:=gC) (bytes:=i.bytes) aA ay;omega
     have Nv:¬ (eD+n.toNat<=gC) :=by omega
     have vP:¬ ((9223372036854775807:Int)<((eD+n.toNat:Nat) :Int)) :=by
      have ad:(eD+n.toNat)*1<=(eD+n.toNat)*i.bytes:=Nat.mul_le_mul_left _ ag;unfold cF at ay;omega
     have Nr:¬ ((9223372036854775807:Int)<(eD:Int)+max n 0) :=by omega
     rw[rX] at au;rw[l7] at GJ;by_cases aF:n.toNat*z=0
     ·have vK:(fM++(Builtin.zeroCells zv.cells n.toNat).toList).toArray=fM.toArray:=by rw[Ob aF]; simp
      rw[vK];simp[Builtin.append_,tc,cn kH,cn aM,fO aw,xQ,iZ,typeInfo,px,l7,Nv,s7,vP,Nr,GJ,aF,vZ,au,Question.forced,newRow,grownCap]
     ·have vK:(fM++(Builtin.zeroCells zv.cells n.toNat).toList).toArray=fM.toArray++Builtin.zeroCells zv.cells n.toNat:=by simp
      rw[vK];simp[Builtin.append_,tc,cn kH,cn aM,fO aw,xQ,iZ,typeInfo,px,l7,Nv,s7,vP,Nr,GJ,aF,vZ,au,Question.forced,newRow,grownCap]
   ·cases aC
  ·cases aC
 ·cases aC
end

section
variable {P:Program} {w:World} {R:Nat->Prop} {B:Nat} {h:aW} {μ:cI}
theorem SL {op:BinOp} {t:TypeId} {k k' : IntKind} {a b:Int} {c:U} (ah:cj op k a k' b=some c) :
  ∃ v,(binOp op t (.int k a) (.int k' b)).run P w=.ok v w/\aP w R h μ c v:=by
 cases op
 case shl=>
  simp only[cj] at ah;split at ah
  ·cases ah
  ·rename_i ag;simp only[Option.some.injEq] at ah; subst ah;exact⟨_,by simp[binOp,Op.shift,ag],.int _ _⟩
 case shr=>
  simp only[cj] at ah;split at ah
  ·cases ah
  ·rename_i ag;simp only[Option.some.injEq] at ah; subst ah;exact⟨_,by simp[binOp,Op.shift,ag],.int _ _⟩
 case quo=>
  simp only[cj] at ah;split at ah
  ·rename_i ag;obtain⟨rfl,ag⟩:=ag;simp only[Option.some.injEq] at ah; subst ah;exact⟨_,by simp[binOp,Op.intDiv,ag],.int _ _⟩
  ·cases ah
 case rem=>
  simp only[cj] at ah;split at ah
  ·rename_i ag;obtain⟨rfl,ag⟩:=ag;simp only[Option.some.injEq] at ah; subst ah;exact⟨_,by simp[binOp,Op.intDiv,ag],.int _ _⟩
  ·cases ah
 all_goals
  simp only[cj] at ah;split at ah
  ·rename_i ax;subst ax;simp only[Option.some.injEq] at ah; subst ah
   first
    | (refine⟨_,?_,.int _ _⟩; unfold binOp; simp only[ne_eq,not_true_eq_false,if_false]; rfl)
    | (refine⟨_,?_,.bool _⟩; unfold binOp; simp only[ne_eq,not_true_eq_false,if_false]; rfl)
  ·cases ah
theorem toList_eq (s:ByteArray) :s.toList=s.data.toList:=by
 rw[ByteArray.toList_eq]
theorem SM {op:BinOp} {t:TypeId} {a b:ByteArray} {c:U} (ah:sM op a.data.toList b.data.toList=some c) :
  ∃ v,(binOp op t (.string a) (.string b)).run P w=.ok v w/\aP w R h μ c v:=by
 cases op<;>simp only[sM] at ah<;>try (cases ah; done)
 case add=>
  split at ah
  ·rename_i er;simp only[Option.some.injEq] at ah; subst ah;have ad:a.data.toList.length=a.size:=by simp
   have af:b.data.toList.length=b.size:=by simp
   rw[ad,af] at er;have z1:¬ ((9223372036854775807:Int)<(a.size:Int)+(b.size:Int)) :=by omega
   have am:(a++b).data.toList=a.data.toList++b.data.toList:=by simp
   refine⟨.string (a++b),by simp[binOp,Op.stringOp,z1],?_⟩;rw[<-am];exact .str _
  ·cases ah
 all_goals
  simp only[Option.some.injEq] at ah; subst ah;exact⟨_,by simp[binOp,Op.stringOp,toList_eq],.bool _⟩
theorem Up {d:Nat} {t:TypeId} {a b:Bool} (aM:P.underlying t=some .bool) :(Op.equalIn (d+1) t (.bool a) (.bool b)).run P w=.ok (a == b) w:=by
 simp[Op.equalIn,cn aM]
theorem Uq {d:Nat} {t:TypeId} {iR k:IntKind} {a b:Int} (aM:P.underlying t=some (.int iR)) :(Op.equalIn (d+1) t (.int k a) (.int k b)).run P w=.ok (a == b) w:=by
 simp[Op.equalIn,cn aM]
theorem Ur {d:Nat} {t:TypeId} {a b:ByteArray} (aM:P.underlying t=some .string) :(Op.equalIn (d+1) t (.string a) (.string b)).run P w=.ok (a.data.toList == b.data.toList) w:=by
 simp[Op.equalIn,cn aM,toList_eq,beq_toListBytes]
theorem FO {d:Nat} {t e:TypeId} {x y l c:Nat} {b:Option Addr} (aM:P.underlying t=some (.slice e)) :(Op.equalIn (d+1) t (.slice none x y) (.slice b l c)).run P w=.ok b.isNone w:=by
 simp[Op.equalIn,cn aM]
theorem Lv {d:Nat} {t e:TypeId} {x y l c:Nat} {a:Addr} (aM:P.underlying t=some (.slice e)) :(Op.equalIn (d+1) t (.slice (some a) l c) (.slice none x y)).run P w=.ok false w:=by
 simp[Op.equalIn,cn aM]
theorem FL {d:Nat} {xs bL:List U} {p8 p9:Array Value}
  (aQ:∀ (t:TypeId) (x y:U) (b:Bool) (bA fz:Value),ek P d t x y=some b->aP w R h μ x bA->aP w R h μ y fz->(Op.equalIn d t bA fz).run P w=.ok b w)
  (qH:ks w R h μ xs p8) (qI:ks w R h μ bL p9) :∀ (l:List Field) (b:Bool),ek.eqFields P (ek P d) xs bL l=some b->(Op.eqFields d p8 p9 l).run P w=.ok b w
 | [],b,ag=>by simp only[ek.eqFields,Option.some.injEq] at ag; subst ag; simp[Op.eqFields]
 | f::l,b,ag=>by
  unfold ek.eqFields at ag;unfold Op.eqFields;by_cases aI:f.name= "_"
  ·rw[if_pos aI] at ag;simp[aI,FL aQ qH qI l b ag]
  ·rw[if_neg aI] at ag;split at ag
   ·rename_i a c aC ah;obtain⟨hK,ad,af⟩:=tZ (P:=P) aC qH;obtain⟨iV,al,aG⟩:=tZ (P:=P) ah qI;split at ag
    ·rename_i heq;have:=aQ f.type a c true hK iV heq af aG;simp[aI,ad,al,this,FL aQ qH qI l b ag]
    ·rename_i heq;have:=aQ f.type a c false hK iV heq af aG;simp only[Option.some.injEq] at ag; subst ag;simp[aI,ad,al,this]
    ·cases ag
   ·cases ag
theorem Ls {d z:Nat} {e:TypeId} {xs bL:List U} {p8 p9:Array Value}
  (aQ:∀ (t:TypeId) (x y:U) (b:Bool) (bA fz:Value),ek P d t x y=some b->aP w R h μ x bA->aP w R h μ y fz->(Op.equalIn d t bA fz).run P w=.ok b w)
  (qH:ks w R h μ xs p8) (qI:ks w R h μ bL p9) (f:Nat->Option Bool × Unit->Sem (ForInStep (Option Bool × Unit)))
  (aI:∀ (i:Nat) (hK iV:Value) (b:Bool) (r:Option Bool × Unit),(part e p8 (i*z)).run P w=.ok hK w->(part e p9 (i*z)).run P w=.ok iV w->(Op.equalIn d e hK iV).run P w=.ok b w->
   (f i r).run P w=.ok (if b then .yield (none,()) else .done (some false,())) w) :
  ∀ (n i:Nat) (b:Bool),ek.qq P (ek P d) e z xs bL n i=some b->(forIn (List.range' i n) (none,()) f).run P w=.ok (if b then (none,()) else (some false,())) w
 | 0,i,b,ag=>by
  simp only[ek.qq,Option.some.injEq] at ag; subst ag;simp
 | n+1,i,b,ag=>by
  unfold ek.qq at ag;split at ag
  ·rename_i a c aC ah;obtain⟨hK,ad,af⟩:=tZ (P:=P) aC qH;obtain⟨iV,al,aG⟩:=tZ (P:=P) ah qI;rw[List.range'_succ,List.forIn_cons];split at ag
   ·rename_i heq;have a8:=aQ e a c true hK iV heq af aG;have aR:=aI i hK iV true (none,()) (ad w) (al w) a8;simp only[Sem.run_bind,aR,if_true,Result.andThen_ok];exact Ls aQ qH qI f aI n (i+1) b ag
   ·rename_i heq;have a8:=aQ e a c false hK iV heq af aG;have aR:=aI i hK iV false (none,()) (ad w) (al w) a8;simp only[Option.some.injEq] at ag; subst ag;simp[aR]
   ·cases ag
  ·cases ag
theorem run_equalIn_array {d n z:Nat} {t e:TypeId} {p8 p9:Array Value} (aM:P.underlying t=some (.array n e)) (aw:cC P e=some z) {b:Bool}
  (ax:∀ f:Nat->Option Bool × Unit->Sem (ForInStep (Option Bool × Unit)),
   (∀ (i:Nat) (hK iV:Value) (b:Bool) (r:Option Bool × Unit),(part e p8 (i*z)).run P w=.ok hK w->(part e p9 (i*z)).run P w=.ok iV w->(Op.equalIn d e hK iV).run P w=.ok b w->(f i r).run P w=.ok (if b then .yield (none,()) else .done (some false,())) w)->
   (forIn (List.range' 0 n) (none,()) f).run P w=.ok (if b then (none,()) else (some false,())) w) :
  (Op.equalIn (d+1) t (.agg p8) (.agg p9)).run P w=.ok b w:=by
 simp only[Op.equalIn,Sem.run_bind,cn aM,Result.andThen_ok,fO aw];rw[Std.Legacy.Range.forIn_eq_forIn_range'];have ay:List.range' ([:n] :Std.Legacy.Range).start ([:n] :Std.Legacy.Range).size ([:n] :Std.Legacy.Range).step=List.range' 0 n:=by simp[Std.Legacy.Range.size]
 rw[ay,ax]
 ·cases b<;>simp
 ·intro i hK iV b r ad af al;cases b<;>simp[ad,af,al]
theorem FM:∀ (d:Nat) (t:TypeId) (x y:U) (b:Bool) (bA fz:Value),ek P d t x y=some b->aP w R h μ x bA->aP w R h μ y fz->
  (Op.equalIn d t bA fz).run P w=.ok b w:=by
 intro d
 induction d with
 | zero=>intro t x y b bA fz ao; simp[ek] at ao
 | succ d aQ=>
  intro t x y b bA fz ao ai aL;unfold ek at ao;split at ao
  ·rename_i a bc aM;simp only[Option.some.injEq] at ao; subst ao;cases ai; cases aL;exact Up aM
  ·rename_i iR k a k' bc aM;split at ao
   ·rename_i ax; subst ax;simp only[Option.some.injEq] at ao; subst ao;cases ai; cases aL;exact Uq aM
   ·cases ao
  ·rename_i a bc aM;simp only[Option.some.injEq] at ao; subst ao;cases ai; cases aL;exact Ur aM
  ·rename_i fs xs bL aM;split at ao
   ·cases ao
   ·rename_i bY;obtain⟨p8,rfl,qH⟩:=sI ai;obtain⟨p9,rfl,qI⟩:=sI aL;have XZ:P.stoodInHeld t=false:=by simpa using bY
    have rJ:P.fieldsOf t=fs:=by simp[Program.fieldsOf,aM]
    rw[run_equalIn_struct w d t p8 p9 (by rw[rJ]; exact aM) XZ,rJ];exact FL aQ qH qI _ _ ao
  ·rename_i n e xs bL aM;cases aw:cC P e with
   | none=>rw[aw] at ao; cases ao
   | some z=>
    rw[aw] at ao;simp only at ao;obtain⟨p8,rfl,qH⟩:=sI ai;obtain⟨p9,rfl,qI⟩:=sI aL;exact run_equalIn_array aM aw (fun f aI=>Ls aQ qH qI f aI n 0 b ao)
  ·rename_i e aM;simp only[Option.some.injEq] at ao; subst ao;cases ai; cases aL;exact FO aM
  ·rename_i e z bc off len cap sz aM;simp only[Option.some.injEq] at ao; subst ao;cases ai; cases aL<;>exact FO aM
  ·rename_i e z es aM;simp only[Option.some.injEq] at ao; subst ao;cases ai; cases aL<;>exact FO aM
  ·rename_i e z bc off len cap sz aM;simp only[Option.some.injEq] at ao; subst ao;cases aL; cases ai<;>exact Lv aM
  ·rename_i e z es aM;simp only[Option.some.injEq] at ao; subst ao;cases aL; cases ai<;>exact Lv aM
  ·cases ao
end

end Go.ca

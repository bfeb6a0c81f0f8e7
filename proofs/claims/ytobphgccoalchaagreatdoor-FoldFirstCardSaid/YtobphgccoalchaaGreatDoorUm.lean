/-
  The heads of a graph, in the program, walked (the end); both texts find the same ones.
-/
import Derived.Test.YtobphgccoalchaaGreatDoorUl
import Derived.Test.YtobphgccoalchaaGreatDoorRows
import Derived.Shelf.SlSortCmp.WholeK
import Derived.Shelf.SlGeneric
set_option linter.unusedVariables false
set_option linter.unusedSimpArgs false
set_option linter.unnecessarySimpa false
namespace Go.cb
open Go Go.Proofs
set_option maxRecDepth 100000
namespace Op
open gT
def rE (n k:Nat) :List Bool:=(List.range n).map fun i=>decide (i<k)
theorem ad5 (n k:Nat) :(rE n k).length=n:=by simp[rE]
theorem ad7 (n:Nat) :rE n 0=List.replicate n false:=by
 apply awM ; intro i;unfold rE;by_cases h:i<n
 ·rw[avV,awr h,List.getElem?_replicate,if_pos h]; simp
 ·rw[av5 (by simp; omega),av5 (by simp; omega)]
theorem ad6 {n k:Nat} (h:k<n) :(rE n k).set k true=rE n (k+1) :=by
 apply awM ; intro i;unfold rE;by_cases av:i<n
 ·by_cases e:k=i
  ·subst e;rw[av3 (by simp; omega),avV,awr av]; simp
  ·rw[av0 e,avV,avV,awr av];simp; omega
 ·rw[av5 (by simp; omega),av5 (by simp; omega)]
def lY (g:bc) (q m:Nat) :List Bool:=(List.range g.ids.l.length).map fun i=>yq g (b0 g.ids.l i) q&&!decide (b0 g.ids.l i∈(lc g.ops.l q).br.l.take m)
theorem LL (g:bc) (q m:Nat) :(lY g q m).length=g.ids.l.length:=by simp[lY]
theorem agi (g:bc) :rE g.ids.l.length g.ids.l.length=lY g 0 0:=by
 unfold rE lY;refine axr fun i av=>?_
 rw[aws] at av;rw[decide_eq_true av];simp[yq]
theorem agf (g:bc) (q:Nat) :lY g q (lc g.ops.l q).br.l.length=lY g (q+1) 0:=by
 unfold lY;refine axr fun i av=>?_
 rw[awi,aev]; simp
theorem agh {g:bc} (ai:hW g.ids.l) {q m i:Nat} {p:List B} (ay:(lc g.ops.l q).br.l[m]? = some p) (av:g.ids.l[i]? = some p) :(lY g q m).set i false=lY g q (m+1) :=by
 have c3:=(avP.1 av).1;apply awM ; intro t;unfold lY;have ci:(lc g.ops.l q).br.l.take (m+1)=(lc g.ops.l q).br.l.take m++[p] :=by rw[av7,ay]; rfl
 by_cases aI:t<g.ids.l.length
 ·obtain⟨y,ax,_⟩:=bx aI;by_cases e:i=t
  ·subst e;rw[av3 (by simp; omega),avV,awr aI,ci]; simp[av]
  ·rw[av0 e,avV,avV,awr aI,ci];have bI:y≠p:=fun h=>e (by subst h; exact ai i t y av ax)
   simp[ax,bI]
 ·rw[av5 (by simp; omega),av5 (by simp; omega)]
theorem XA (g:bc) :∀ k,k<=g.ids.l.length->kg g.ids.l (lY g g.ops.l.length 0) k=(g.ids.l.take k).filter (AY g)
 | 0,_=>rfl
 | k+1,hk=>by
  obtain⟨x,af,_⟩:=bx (l:=g.ids.l) (k:=k) (by omega);have h1:(lY g g.ops.l.length 0).getD k false=AY g x:=by
   rw[awe];unfold lY;rw[avV,awr (by omega)];simp[fL af,af]
  rw[Il,XA g k (by omega),h1,fL af,av7,af,axF];cases h:AY g x<;>simp[h]
structure sN (g:bc) (fV b:Nat) (S:List Bool) (l:am) :Prop where
 dV:l[0]? = some (.cells 2 [aK g.ids,bB g.ops])
 p:nK l fV g.ids.l
 w:bH 1 l (.ar 1 b 0 g.ids.l.length g.ids.l.length g.ids.l.length) b (S.map iF)
 ag:b<l.length
 hm:fV<b
 aD:0<fV
theorem sN.more {g:bc} {fV b:Nat} {S:List Bool} {l:am} (h:sN g fV b S l) (c:a7) :sN g fV b S (l++[c]) :=
 ⟨by rw[avQ (by have:=h.ag; omega)]; exact h.dV,h.p.frame (avQ h.p.lt),h.w.more _,by have:=h.ag; simp; omega,h.hm,h.aD⟩
theorem sN.set {g:bc} {fV b:Nat} {S:List Bool} {l:am} (h:sN g fV b S l) {i:Nat} {v:Bool} (av:i<S.length) :
  ∃ p l',ck (.ar 1) (.ar 1 b 0 g.ids.l.length g.ids.l.length g.ids.l.length) (.int .i64 (i:Int))=some p/\kH 1 l p (.bool v)=some l'/\sN g fV b (S.set i v) l':=by
 obtain⟨p,l',aV,a1,a3,a4,a5⟩:=Iy (enc:=iF) (x:=v) (X:=.bool v) rfl h.w (fun _ _=>rfl) av rfl;have h1:=h.hm;have ad:=h.aD;exact⟨p,l',aV,a1,by rw[a5 0 (by omega)]; exact h.dV,h.p.frame (a5 fV (by omega)),a3,by rw[a4]; exact h.ag,h.hm,h.aD⟩
def nE (g:bc) :ez:=if ep g=0 then dH (AU g) else none
set_option maxHeartbeats 8000000 in
theorem aoJ (g:bc) (aq:et g) :bz Tryz.prog GS 43 [cl g] (.bG [aK (nE g),.int .i64 (ep g)]) :=by
 refine bL Tryz.checked.mixed bE ?_;apply bp Tryz.func43 [];have az:cy=140737488355328:=rfl;have dh:=eK g.ids;have cz:=i7 g.ops;have ahd:=aq.cV;have aha:=aq.li;have c0:=zT g aq;have dL:cK (.ar 11) (bB g.ops)=some (.int .i64 g.ops.l.length) :=by simp[bB]
 have fE:cK (.ar 32) (aK g.ids)=some (.int .i64 g.ids.l.length) :=by simp[aK]
 unfold cl cP at c0;simp[cl,cP];refine a6 c0 (by simp[bd,U.closed,dh,cz]) ?_;by_cases aD:ep g=0
 ·have V:=mn aD;have dz:=jP V.c9;simp[aD];refine Yc g aq dz ?_;intro fV l1 mJ wX kW pE;have dV:l1[0]? = some (a7.cells 2 [aK g.ids,bB g.ops]) :=by rw[kW 0 (by simp)]; rfl
  obtain⟨aV,a1⟩:=Ez (z:=1) (by_:=1) (n:=g.ids.l.length) (k:=.i64) (k':=.i64) (zero:=[U.bool false]) (l:=l1) rfl (by omega) (by rw[az]; omega);obtain⟨N,fy⟩:∃ N,N=g.ids.l.length:=⟨_,rfl⟩
  simp only[axn] at aV a1;have dT:sN g fV l1.length (rE g.ids.l.length 0) (l1++[.cells g.ids.l.length (dN [.bool false] g.ids.l.length)]) :=by
   have h1:l1.length ≥ 1:=by simp at pE; omega
   refine⟨by rw[avQ (by omega)]; exact dV,mJ.frame (avQ mJ.lt),?_,by simp,mJ.lt,by simp at wX; omega⟩;rw[ad7,ayH]; exact a1
  simp[dV,fE,aV];obtain⟨b,ag⟩:∃ b,b=l1.length:=⟨_,rfl⟩
  rw[<-ag] at dT ⊢;refine cI g.ids.l.length (fun k ae l=>ae 1=.ptr 0 0 2/\ae 5=.mp fV/\ae 6=.ar 1 b 0 g.ids.l.length g.ids.l.length g.ids.l.length/\ae 24=.int .i64 g.ids.l.length/\ae 25=.int .i64 k/\sN g fV b (rE g.ids.l.length k) l) ?_ ⟨by simp,by simp,by simp,by simp,by simp,dT⟩;clear dT aV a1 dV kW mJ;rintro k ae l hk ⟨aP,bi,b8,nd,kR,dT⟩;obtain⟨ae,rfl⟩:=lj aP bi b8 nd kR;clear aP bi b8 nd kR;simp;refine jo (fun h=>?_) (fun h=>?_)
  ·simp only[decide_eq_true_eq] at h;have aR:IntKind.i64.wrap ((k:Int)+1)=((k+1:Nat) :Int) :=by rw[IntKind.wrap_i64]; omega
   obtain⟨p,l',dR,hl,o9⟩:=dT.set (i:=k) (v:=true) (by rw[ad5]; omega);rw[ad6 (by omega)] at o9;simp[dR,hl,aR];exact⟨by omega,o9⟩
  ·have h4:k=g.ids.l.length:=by simp at h; omega
   rw[h4,agi] at dT;have dV:=dT.dV;simp[h,dV,dL];refine cI g.ops.l.length (fun q ae l=>ae 1=.ptr 0 0 2/\ae 5=.mp fV/\ae 6=.ar 1 b 0 g.ids.l.length g.ids.l.length g.ids.l.length/\ae 33=bB g.ops/\ae 34=.int .i64 g.ops.l.length/\ae 35=.int .i64 q/\sN g fV b (lY g q 0) l) ?_ ⟨by simp,by simp,by simp,by simp,by simp,by simp,dT⟩;clear dT dV;rintro q ae l aW ⟨aP,bi,b8,wI,wJ,Dd,dT⟩;obtain⟨ae,rfl⟩:=vP aP bi b8 wI wJ Dd;clear aP bi b8 wI wJ Dd;simp;refine jo (fun ad=>?_) (fun ad=>?_)
   ·simp only[decide_eq_true_eq] at ad;obtain⟨o,ap,dd⟩:=bx (l:=g.ops.l) (k:=q) (by omega);have mR:=aq.ops o dd;have aR:IntKind.i64.wrap ((q:Int)+1)=((q+1:Nat) :Int) :=by rw[IntKind.wrap_i64]; omega
    have bN:ck (.ar 11) (bB g.ops) (.int .i64 (q:Int))=some (.b3 (a2 o) 0) :=by simp[bB,ap]
    have bY:(a2 o).length=11:=rfl;have ht:∀ h,(a2 o)[1]'h=aK o.br:=fun _=>rfl
    have oe:cK (.ar 32) (aK o.br)=some (.int .i64 o.br.l.length) :=by simp[aK]
    obtain⟨O,du⟩:∃ O,O=a2 o:=⟨_,rfl⟩
    rw[<-du] at bN bY ht;have hg:bt [U.int .u32 0,.aT,.int .u64 0,.int .u8 0,.str [],.int .u8 0,.int .i64 0,.int .u64 0,.str [],.int .u32 0,.int .u32 0] 0 O=O:=eM (by rw[bY]; rfl);have IC:∀ c:a7,(l++[c])[l.length]? = some c:=fun c=>ax2
    simp[bN,bY,ht,hg,oe,IC,avO];refine cI o.br.l.length (fun m ae l=>ae 1=.ptr 0 0 2/\ae 5=.mp fV/\ae 6=.ar 1 b 0 g.ids.l.length g.ids.l.length g.ids.l.length/\ae 33=bB g.ops/\ae 34=.int .i64 g.ops.l.length/\ae 35=.int .i64 q/\ae 40=aK o.br/\ae 41=.int .i64 o.br.l.length/\ae 42=.int .i64 m/\sN g fV b (lY g q m) l) ?_ ⟨by simp,by simp,by simp,by simp,by simp,by simp,by simp,by simp,by simp,dT.more _⟩;clear dT IC;rintro m ae l hm ⟨aP,bi,b8,wI,wJ,Dd,Uc,Ud,Ue,dT⟩;obtain⟨ae,rfl⟩:=aon aP bi b8 wI wJ Dd Uc Ud Ue;clear aP bi b8 wI wJ Dd Uc Ud Ue;simp;refine jo (fun aj=>?_) (fun aj=>?_)
    ·simp only[decide_eq_true_eq] at aj;obtain⟨p,ay,pG⟩:=bx (l:=o.br.l) (k:=m) (by omega);have jf:=mR.ids p pG;have gq:=cC jf;have asl:=mR.len;have bJ:IntKind.i64.wrap ((m:Int)+1)=((m+1:Nat) :Int) :=by rw[IntKind.wrap_i64]; omega
     obtain⟨i,av⟩:=avT.1 (V.Iv o dd p pG);have c3:=(avP.1 av).1;have ir:ck (.ar 32) (aK o.br) (.int .i64 (m:Int))=some (.b3 (aO p) 0) :=by simp[aK,ay]
     have GZ:=dT.more (.cells 32 (aO p));have hS:=GZ.p.look dz jf av;obtain⟨ak4,l',dR,hl,o9⟩:=GZ.set (i:=i) (v:=false) (by rw[LL]; omega);rw[agh dz (by rw[sk ap]; exact ay) av] at o9;obtain⟨P,mJ⟩:∃ P,P=aO p:=⟨_,rfl⟩
     rw[<-mJ] at ir gq hS hl;have aif:bt (rep 32 (U.int .u8 0)) 0 P=P:=eM (by rw[gq]; rfl);simp[ir,gq,aif,hS,dR,hl,bJ,avO];exact⟨by omega,o9⟩
    ·have kB:m=o.br.l.length:=by simp at aj; omega
     have iv:=agf g q;rw[sk ap] at iv;rw[kB,iv] at dT;simp[aj,aR];exact⟨by omega,dT⟩
   ·have ahS:q=g.ops.l.length:=by simp at ad; omega
    rw[ahS] at dT;have dV:=dT.dV;simp[ad,dV];have hw:=dT.w;refine aj7 g aq (seen:=lY g g.ops.l.length 0) (LL _ _ _) hw dT.ag (fun v l' e8=>?_);simp;have w0:kg g.ids.l (lY g g.ops.l.length 0) (lY g g.ops.l.length 0).length=AU g:=by
     rw[LL,XA g _ (avR _),awi]; rfl
    rw[w0] at e8;refine tU ?_ (aL (by rw[aD]) rfl);exact e8.rd e4 (nE g) (by unfold nE; rw[if_pos aD,ua]) (by unfold nE; rw[if_pos aD,ew])
 ·have kz:nE g=none:=by unfold nE; rw[if_neg aD]
  rw[kz];simp[aD];exact aL rfl rfl
end Op

end Go.cb

namespace Go.Proofs
open Go.Shelf
set_option maxRecDepth 100000
def Tryz.am5:Go.Shelf.Ren:=⟨fun | 6=>85 | 15=>135 | 14=>134 | 28=>188 | 29=>189 | 20=>180 | 21=>181 | 22=>182 | 23=>183 | 24=>184 | 25=>185 | 26=>186 | 27=>187 | 46=>228 | 47=>229 | 48=>230 | 49=>231 | 50=>232 | 57=>255 | n=>n,fun | 22=>29 | 24=>53 | 25=>142 | 3=>3 | 39=>194 | 0=>0 | 53=>76 | 55=>40 | 4=>4 | 46=>234 | 45=>233 | 50=>152 | 5=>5 | 9=>9 | 66=>269 | 70=>273 | 76=>291 | 77=>292 | n=>n,fun | n=>n⟩
theorem Tryz.am4:Go.Proofs.SlLaysF0.n6 Tryz.prog Tryz.am5 where
 mixed:=by kernel_rfl
 f6:=⟨ "slices.SortFunc[[]braid/api.Tag,braid/api.Tag]",by decide,Tryz.func85.trans (congrArg some (by kernel_rfl))⟩
 f14:=⟨ "slices.pdqsortCmpFunc[braid/api.Tag]",by decide,Tryz.func134.trans (congrArg some (by kernel_rfl))⟩
 f15:=Tryz.func135.trans (congrArg some (by kernel_rfl))
 f20:=⟨ "slices.insertionSortCmpFunc[braid/api.Tag]",by decide,Tryz.func180.trans (congrArg some (by kernel_rfl))⟩
 f21:=⟨ "slices.heapSortCmpFunc[braid/api.Tag]",by decide,Tryz.func181.trans (congrArg some (by kernel_rfl))⟩
 f22:=⟨ "slices.breakPatternsCmpFunc[braid/api.Tag]",by decide,Tryz.func182.trans (congrArg some (by kernel_rfl))⟩
 f23:=⟨ "slices.choosePivotCmpFunc[braid/api.Tag]",by decide,Tryz.func183.trans (congrArg some (by kernel_rfl))⟩
 f24:=⟨ "slices.reverseRangeCmpFunc[braid/api.Tag]",by decide,Tryz.func184.trans (congrArg some (by kernel_rfl))⟩
 f25:=⟨ "slices.partialInsertionSortCmpFunc[braid/api.Tag]",by decide,Tryz.func185.trans (congrArg some (by kernel_rfl))⟩
 f26:=⟨ "slices.partitionEqualCmpFunc[braid/api.Tag]",by decide,Tryz.func186.trans (congrArg some (by kernel_rfl))⟩
 f27:=⟨ "slices.partitionCmpFunc[braid/api.Tag]",by decide,Tryz.func187.trans (congrArg some (by kernel_rfl))⟩
 f28:=Tryz.func188.trans (congrArg some (by kernel_rfl))
 f29:=Tryz.func189.trans (congrArg some (by kernel_rfl))
 f46:=⟨ "slices.siftDownCmpFunc[braid/api.Tag]",by decide,Tryz.func228.trans (congrArg some (by kernel_rfl))⟩
 f47:=Tryz.func229.trans (congrArg some (by kernel_rfl))
 f48:=Tryz.func230.trans (congrArg some (by kernel_rfl))
 f49:=⟨ "slices.medianAdjacentCmpFunc[braid/api.Tag]",by decide,Tryz.func231.trans (congrArg some (by kernel_rfl))⟩
 f50:=⟨ "slices.medianCmpFunc[braid/api.Tag]",by decide,Tryz.func232.trans (congrArg some (by kernel_rfl))⟩
 f57:=⟨ "slices.order2CmpFunc[braid/api.Tag]",by decide,Tryz.func255.trans (congrArg some (by kernel_rfl))⟩
 t0:=Tryz.underlying0
 a0:=Tryz.isAgg0
 z0:=Tryz.sizeOf0
 v0:=Tryz.zeroValue0
 t3:=Tryz.underlying3
 a3:=Tryz.isAgg3
 z3:=Tryz.sizeOf3
 v3:=Tryz.zeroValue3
 t4:=Tryz.underlying4
 a4:=Tryz.isAgg4
 z4:=Tryz.sizeOf4
 v4:=Tryz.zeroValue4
 t5:=Tryz.underlying5
 a5:=Tryz.isAgg5
 z5:=Tryz.sizeOf5
 v5:=Tryz.zeroValue5
 t9:=Tryz.underlying9
 a9:=Tryz.isAgg9
 z9:=Tryz.sizeOf9
 v9:=Tryz.zeroValue9
 t22:=Tryz.underlying29
 a22:=Tryz.isAgg29
 z22:=Tryz.sizeOf29
 v22:=Tryz.zeroValue29
 t25:=Tryz.underlying142
 a25:=Tryz.isAgg142
 z25:=Tryz.sizeOf142
 v25:=Tryz.zeroValue142
 t39:=Tryz.underlying194
 a39:=Tryz.isAgg194
 z39:=Tryz.sizeOf194
 v39:=Tryz.zeroValue194
 t45:=Tryz.underlying233
 a45:=Tryz.isAgg233
 z45:=Tryz.sizeOf233
 v45:=Tryz.zeroValue233
 t46:=Tryz.underlying234
 a46:=Tryz.isAgg234
 z46:=Tryz.sizeOf234
 v46:=Tryz.zeroValue234
 t50:=Tryz.underlying152
 a50:=Tryz.isAgg152
 z50:=Tryz.sizeOf152
 v50:=Tryz.zeroValue152
 t53:=Tryz.underlying76
 a53:=Tryz.isAgg76
 z53:=Tryz.sizeOf76
 v53:=Tryz.zeroValue76
 t55:=Tryz.underlying40
 a55:=Tryz.isAgg40
 z55:=Tryz.sizeOf40
 v55:=Tryz.zeroValue40
 t66:=Tryz.underlying269
 a66:=Tryz.isAgg269
 z66:=Tryz.sizeOf269
 v66:=Tryz.zeroValue269
 t70:=Tryz.underlying273
 a70:=Tryz.isAgg273
 z70:=Tryz.sizeOf273
 v70:=Tryz.zeroValue273
 t76:=Tryz.underlying291
 a76:=Tryz.isAgg291
 z76:=Tryz.sizeOf291
 v76:=Tryz.zeroValue291
 t77:=Tryz.underlying292
 a77:=Tryz.isAgg292
 z77:=Tryz.sizeOf292
 v77:=Tryz.zeroValue292
end Go.Proofs

namespace Go.cb
open Go Go.Proofs Go.Sort Go.Shelf
set_option maxRecDepth 100000
namespace Op
open gT
abbrev v1:={t:bq // t.id.length=32}
instance:Inhabited v1:=⟨⟨⟨[],List.replicate 32 0#8⟩,by simp⟩⟩
def C1 (x:v1) :List U:=ca x.1
def wv (x y:v1) :Int:=jy x.1 y.1
theorem vt (a b:bq) :ltOf jy a b=e2 a b:=by
 unfold ltOf;cases h:e2 a b with
 | true=>exact decide_eq_true ((F7 a b).2 h)
 | false=>exact decide_eq_false fun aG=>by rw[(F7 a b).1 aG] at h; cases h
theorem ZX:SWO (ltOf wv) where
 irrefl x:=by show ltOf jy x.1 x.1=false; rw[vt]; exact zn _
 trans x y z:=by
  show ltOf jy x.1 y.1=true->ltOf jy y.1 z.1=true->ltOf jy x.1 z.1=true;rw[vt,vt,vt]; exact sd
 ntrans x y z:=by
  show ltOf jy x.1 y.1=false->ltOf jy y.1 z.1=false->ltOf jy x.1 z.1=false;rw[vt,vt,vt];intro h1 ad;cases aj:e2 x.1 z.1 with
  | false=>rfl
  | true=>
   by_cases aR:x.1=y.1
   ·rw[aR] at aj; rw[aj] at ad; cases ad
   ·by_cases bJ:y.1=z.1
    ·rw[bJ] at h1; rw[aj] at h1; cases h1
    ·have:=sd (sd aj (zo ad bJ)) (zo h1 aR);rw[zn] at this; cases this
theorem abK (x y:v1) (h1:ltOf wv x y=false) (ad:ltOf wv y x=false) :x=y:=by
 have dg:ltOf jy x.1 y.1=false:=h1;have gP:ltOf jy y.1 x.1=false:=ad;rw[vt] at dg gP;by_cases e:x.1=y.1
 ·exact Subtype.ext e
 ·rw[zo dg e] at gP; cases gP
theorem Tp (x:v1) :(C1 x).length=33:=mA x.2
theorem adB (x:v1) :∀ c∈C1 x,zB c=true:=fun c ah=>by
 rcases awA.1 ah with h | h
 ·rw[h]; rfl
 ·obtain⟨b,_,rfl⟩:=awf.1 h; rfl
theorem am3 {g:Nat} (KA:∀ args w,(callFunc g args).run Tryz.prog w=.ok (.enter g args) w) :FE Tryz.prog 85 g 33 (fun x=>(C1 x).map valOf) wv:=
 fun blk off cap d w rP hH hblk hh=>
  AnyQ.slices_SortFunc Tryz.am4 33 (by intro w; exact Tryz.isAgg53 w) (by intro w; exact Tryz.sizeOf53 w) _ (fun x=>by rw[av8,Tp]) (fun x v au=>by obtain⟨c,_,rfl⟩:=awf.1 au; exact Jj c) wv ZX g #[] blk off cap d w KA rP hH hblk hh
def m3 (l:List bq) :List bq:=l.mergeSort fun x y=>!e2 y x
theorem Z4:∀ {xs:List bq},hU xs->∃ bh:List v1,bh.map (·.1)=xs
 | [],_=>⟨[],rfl⟩
 | x::xs,h=>by
  obtain⟨bh,ax⟩:=Z4 (xs:=xs) fun i av=>h i (by simp[av])
  exact⟨⟨x,h x (by simp)⟩::bh,by simp[ax]⟩
theorem am9 (bh:List v1) :(sorted wv bh).map (·.1)=m3 (bh.map (·.1)) :=by
 unfold sorted m3;rw[List.map_mergeSort];intro a _ b _;show (!ltOf jy b.1 a.1)=(!e2 b.1 a.1)
 rw[vt]
theorem aln {z:Nat} {l l' : am} {v:U} {j:Nat} {es dK:List (List U)} (h:bH z l v j es) (h' : eA z l' v j dK) :bH z l' v j dK:=by
 cases h with
 | nil j=>have:=h'.tG; subst this; exact .nil j
 | ar j n cap sz cs es ag al aC aw ah db cd=>
  generalize au:U.ar z j 0 n cap sz=w at h';cases h' with
  | nil=>cases au
  | ar WU akD o5 acD anI hN ym gb hR oX iH ky af9 LJ=>
   injection au with _ aR bJ dF kP CU
   subst bJ dF kP CU;exact .ar j n cap sz hN _ gb hR oX iH ky (by omega) (by simpa using LJ)
theorem abZ (n:Q) :bz Tryz.prog GS 135 [dq n] (.int .i64 (ke n.toNat)) :=by
 refine bL Tryz.checked.mixed bE ?_;apply bp Tryz.func135 [];have h:=Xh n;simp;refine a6 h rfl ?_;simp;exact aL rfl rfl
theorem anS (f:U) (aF:f.closed=true) :bz Tryz.prog GS 180 [.aT,.int .i64 0,.int .i64 0,f] (.bG []) :=by
 refine bL Tryz.checked.mixed bE ?_;apply bp Tryz.func180 [];have b2:IntKind.i64.wrap 1=1:=by decide
 simp;refine cI 0 (fun _ ae l=>ae 2=.int .i64 0/\ae 8=.int .i64 1) ?_ ⟨by simp,by simp[b2]⟩;rintro k ae l hk ⟨aU,dj⟩;simp[aU,dj];exact aL rfl rfl
theorem anW (n:Int) (f:U) (aF:f.closed=true) :bz Tryz.prog GS 134 [.aT,.int .i64 0,.int .i64 0,.int .i64 n,f] (.bG []) :=by
 refine bL Tryz.checked.mixed bE ?_;apply bp Tryz.func134 [];have h:=anS f aF;have kk:IntKind.i64.wrap 0=0:=by decide
 simp;refine cI 0 (fun _ ae l=>ae 0=.aT/\ae 1=.int .i64 0/\ae 2=.int .i64 0/\ae 4=f) ?_ ⟨by simp,by simp,by simp,by simp⟩;rintro k ae l hk ⟨cf,aP,aU,bA⟩;simp[cf,aP,aU,bA,kk];refine a6 h (by simp[bd,U.closed,aF]) ?_;simp;exact aL rfl rfl
theorem an3:bz Tryz.prog GS 85 [.aT,.fn 86 [] []] (.bG []) :=by
 refine bL Tryz.checked.mixed bE ?_;apply bp Tryz.func85 [];have h:=abZ 0;have ad:=anW (ke (0:Q).toNat) (.fn 86 [] []) rfl;simp;refine a6 h rfl ?_;simp;refine a6 ad rfl ?_;simp;exact aL rfl rfl
theorem an2 {l:am} {v:U} {j:Nat} {xs:List bq} (af:hU xs) (al:xs.length<=1000000) (aC:cw v=xs.isEmpty) (h:bH 33 l v j (xs.map ca)) {K:U->am->Prop}
  (aY:∀ l',l'.length=l.length->(∀ b,v=.aT\/b≠j->l'[b]? = l[b]?)->bH 33 l' v j ((m3 xs).map ca)->K (.bG []) l') :c7 Tryz.prog GS 85 [v,.fn 86 [] []] l (c:=⟨K⟩) :=by
 by_cases gQ:xs=[]
 ·subst gQ;have MP:v=.aT:=jm.1 (by rw[aC]; rfl);subst MP;exact a6 an3 rfl (aY l rfl (fun _ _=>rfl) (by simpa [m3] using bH.nil j))
 ·obtain⟨bh,ax⟩:=Z4 af;have ao:bh.map C1=xs.map ca:=by rw[<-ax,axD]; rfl
  have ak:(sorted wv bh).map C1=(m3 xs).map ca:=by rw[<-ax,<-am9,axD]; rfl
  have cg:bh.length=xs.length:=by rw[<-ax]; simp
  have MP:v≠.aT:=fun au=>by subst au; rw[show cw .aT=true from rfl] at aC; exact gQ (by simpa using aC.symm)
  rw[<-ao] at h;exact ZB wv (am3 (by intro args w; exact enters_of Tryz.func86 (by kernel_rfl) rfl args w)) ZX abK Tp adB (fun x y=>Kk x.1 y.1 x.2 y.2) h.q (by omega) (fun og=>absurd (by rw[<-ax,og]; rfl) gQ)
   (fun l' h1 ad aj=>aY l' h1 (fun b ag=>ad b (ag.resolve_left MP)) (by rw[<-ak]; exact aln h aj))
theorem ZD (l:List bq) (y:bq) :y∈m3 l<->y∈l:=by unfold m3; exact List.mem_mergeSort
theorem ZC (l:List bq) :(m3 l).length=l.length:=by unfold m3; exact List.length_mergeSort l
theorem am6 {l:List bq} (aC:l.Nodup) :(m3 l).Pairwise fun a b=>e2 a b=true:=by
 have h1:(m3 l).Pairwise fun a b=>(!e2 b a)=true:=by
  unfold m3;refine ay0 (fun a b c h1 ad=>?_) (fun a b=>?_) l
  ·simp only[aw5] at *
   cases aj:e2 c a with
   | false=>rfl
   | true=>
    by_cases aR:b=c
    ·rw[aR] at h1; rw[aj] at h1; cases h1
    ·by_cases bJ:a=b
     ·rw[bJ] at aj; rw[aj] at ad; cases ad
     ·have:=sd (sd aj (zo h1 (Ne.symm bJ))) (zo ad (Ne.symm aR));rw[zn] at this; cases this
  ·cases h:e2 b a with
   | false=>rfl
   | true=>
    cases ad:e2 a b with
    | false=>rfl
    | true=>have:=sd h ad; rw[zn] at this; cases this
 have ad:(m3 l).Nodup:=(ayz l _).nodup_iff.2 aC;refine (h1.and ad).imp fun {a b} h=>?_
 have aj:e2 b a=false:=by simpa using h.1
 exact zo aj (Ne.symm h.2)
end Op

end Go.cb

namespace Go.cb
open Go Go.Proofs
set_option maxRecDepth 100000
namespace Op
open gT
theorem ab6 (t:bq) :U.beq (.aH (ca t)) (.aH (ca t))=true:=by
 show fD (.str t.key::aO t.id) (.str t.key::aO t.id)=true;have h:=J1 t.id;unfold aO;simp[fD,U.beq,h]
theorem KK {t:bq} (h:t.id.length=32) :lB Tryz.prog 53 (.aH (ca t))=true:=by
 have h1:r6 Tryz.prog 8 53=true:=by kernel_rfl
 have ad:eB Tryz.prog 53=some true:=by kernel_rfl
 have aj:cM Tryz.prog 53=some 33:=by kernel_rfl
 have aE:(ca t).all tP=true:=by
  rw[awG];intro c ah;rcases awA.1 ah with h | h
  ·rw[h]; rfl
  ·obtain⟨b,_,rfl⟩:=awf.1 h; rfl
 show (r6 Tryz.prog 8 53&&(match eB Tryz.prog 53,cM Tryz.prog 53 with | some true,some m=>Nat.beq (ca t).length m | _,_=>false)&&(ca t).all tP)=true;rw[h1,ad,aj,aE,mA h];rfl
theorem adN {a b:bq} (aA:a.id.length=32) (ag:b.id.length=32) :eZ Tryz.prog 10000 53 (.aH (ca a)) (.aH (ca b))=some (decide (a=b)) :=by
 rw[<-Qx aA ag];obtain⟨x,y,qn,oQ,uI⟩:=(Gj (P:=Tryz.prog) 20 10000 (by omega) 53 H0 Xd).2 _ _ (It aA) (It ag);have ad:eB Tryz.prog 53=some true:=by kernel_rfl
 simp only[lo,ad,Option.some.injEq] at qn oQ;subst qn; subst oQ;exact uI
inductive rm:List (U × U × Nat)->List bq->Prop
 | nil:rm [] []
 | cons {es:List (U × U × Nat)} {bT:List bq} {k:bq} (n:Nat) (hk:k.id.length=32) (h:rm es bT) :rm ((.aH (ca k),.bool true,n) ::es) (k::bT)
theorem rm.snoc {es:List (U × U × Nat)} {bT:List bq} (h:rm es bT) {k:bq} (hk:k.id.length=32) (n:Nat) :rm (es++[(.aH (ca k),.bool true,n)]) (bT++[k]) :=by
 induction h with
 | nil=>exact .cons n hk .nil
 | cons m fe h aJ=>exact .cons m fe aJ
theorem rm.modify {es:List (U × U × Nat)} {bT:List bq} (h:rm es bT) :∀ {i:Nat} {k:bq},bT[i]? = some k->rm (es.modify i fun e=>(.aH (ca k),.bool true,e.2.2)) bT:=by
 induction h with
 | nil=>intro i k h; simp at h
 | cons n hk h aJ=>
  intro i k av;cases i with
  | zero=>simp at av; subst av; exact .cons n hk h
  | succ i=>exact .cons n hk (aJ (by simpa using av))
theorem Gp {x:bq} (af:x.id.length=32) {es:List (U × U × Nat)} {bT:List bq} (h:rm es bT) :∀ c,(x∈bT->∃ i,bT[i]? = some x/\j1 Tryz.prog 53 (.aH (ca x)) es c=some (some (c+i,.bool true)))/\(x∉bT->j1 Tryz.prog 53 (.aH (ca x)) es c=some none) :=by
 induction h with
 | nil=>intro c; exact⟨fun h=>by simp at h,fun _=>rfl⟩
 | @cons es bT k n hk h aJ=>
  intro c;unfold j1;rw[KK hk];simp only;rw[adN af hk];by_cases ao:x=k
  ·subst ao;simp only[decide_true,ab6];exact⟨fun _=>⟨0,by simp⟩,fun h=>absurd (by simp) h⟩
  ·simp only[ao,decide_false];obtain⟨h1,ad⟩:=aJ (c+1);refine⟨fun hm=>?_,fun h=>ad (fun h'=>h (by simp[h']))⟩;obtain⟨i,av,aF⟩:=h1 (by simpa [ao] using hm);exact⟨i+1,by simpa using av,by rw[aF,show c+1+i=c+(i+1) by omega]⟩
structure nL (l:am) (j:Nat) (M:bq->Prop) :Prop where
 e:∃ es eX bT,l[j]? = some (.map es eX)/\rm es bT/\∀ x,x∈bT<->M x
open Classical in
theorem nL.look {l:am} {j:Nat} {M:bq->Prop} (h:nL l j M) {x:bq} (af:x.id.length=32) :xm Tryz.prog l 53 (.bool false) false (.mp j) (.aH (ca x))=some (.bool (decide (M x))) :=by
 obtain⟨es,eX,bT,h1,ad,aE⟩:=h.e;have aj:tC l (.mp j)=some es:=by simp[tC,h1]
 unfold xm;rw[aj];simp only[KK af];by_cases hm:x∈bT
 ·obtain⟨i,_,aF⟩:=(Gp af ad 0).1 hm;rw[aF];simp[(aE x).1 hm]
 ·rw[(Gp af ad 0).2 hm];have:¬ M x:=fun aG=>hm ((aE x).2 aG)
  simp[this]
theorem nL.put {l:am} {j:Nat} {M:bq->Prop} (h:nL l j M) {x:bq} (af:x.id.length=32) :∃ c,tD Tryz.prog l 53 (.mp j) (.aH (ca x)) (.bool true)=some (l.set j c)/\(∀ l' : am,l'[j]? = some c->nL l' j (fun y=>M y\/y=x)) :=by
 obtain⟨es,eX,bT,h1,ad,aE⟩:=h.e;unfold tD;simp only[h1,KK af];by_cases hm:x∈bT
 ·obtain⟨i,av,aF⟩:=(Gp af ad 0).1 hm;rw[aF];rw[axa];refine⟨_,rfl,fun l' dr=>⟨_,_,bT,dr,ad.modify av,fun y=>?_⟩⟩;rw[aE y];exact⟨.inl,fun aG=>aG.elim id fun e=>by rw[e]; exact (aE x).1 hm⟩
 ·rw[(Gp af ad 0).2 hm];refine⟨_,rfl,fun l' dr=>⟨_,_,_,dr,ad.snoc af eX,fun y=>?_⟩⟩;rw[awl,awd,aE y]
theorem nL.frame {l l' : am} {j:Nat} {M:bq->Prop} (h:nL l j M) (ai:l'[j]? = l[j]?) :nL l' j M:=by
 obtain⟨es,eX,bT,h1,ad,aE⟩:=h.e;exact⟨es,eX,bT,by rw[ai,h1],ad,aE⟩
theorem nL.lt {l:am} {j:Nat} {M:bq->Prop} (h:nL l j M) :j<l.length:=by
 obtain⟨es,eX,bT,h1,ad⟩:=h.e;exact (avP.1 h1).1
theorem akT (l:am) :nL (l++[.map [] 0]) l.length (fun _=>False) :=⟨[],0,[],by simp,.nil,fun x=>by simp⟩
theorem nL.iff {l:am} {j:Nat} {M N:bq->Prop} (h:nL l j M) (aG:∀ x,M x<->N x) :nL l j N:=by
 obtain⟨es,eX,bT,h1,ad,aE⟩:=h.e;exact⟨es,eX,bT,h1,ad,fun x=>(aE x).trans (aG x)⟩
def ph (g:bc) (m:Nat) (t:bq) :Prop:=∃ k o,k<m/\g.ops.l[k]? = some o/\o.act.kind=3#8/\o.act.key=t.key/\t.id∈i4 g k
def Ch (g:bc) (m:Nat) (key:List UInt8) (L:List (List B)) (t:bq) :Prop:=ph g m t\/(key=t.key/\t.id∈L)
theorem aeH {g:bc} {m:Nat} {o:bm} (ap:g.ops.l[m]? = some o) (hk:¬ o.act.kind=3#8) (t:bq) :ph g m t<->ph g (m+1) t:=by
 constructor
 ·rintro⟨k,cO,h1,ad⟩; exact⟨k,cO,by omega,ad⟩
 ·rintro⟨k,cO,h1,ad,aj,aE⟩;by_cases lw:k=m
  ·subst lw; rw[ap] at ad; obtain rfl:=Option.some.inj ad; exact absurd aj hk
  ·exact⟨k,cO,by omega,ad,aj,aE⟩
theorem aeI {g:bc} {m:Nat} {o:bm} (ap:g.ops.l[m]? = some o) (hk:o.act.kind=3#8) (t:bq) :Ch g m o.act.key (i4 g m) t<->ph g (m+1) t:=by
 constructor
 ·rintro (⟨k,cO,h1,ad⟩ | ⟨h1,ad⟩)
  ·exact⟨k,cO,by omega,ad⟩
  ·exact⟨m,o,by omega,ap,hk,h1,ad⟩
 ·rintro⟨k,cO,h1,ad,aj,aE,aX⟩;by_cases lw:k=m
  ·subst lw; rw[ap] at ad; obtain rfl:=Option.some.inj ad; exact .inr ⟨aE,aX⟩
  ·exact .inl ⟨k,cO,by omega,ad,aj,aE,aX⟩
theorem aeJ {g:bc} {m:Nat} {key:List UInt8} {L:List (List B)} {k:Nat} {x:List B} (af:L[k]? = some x) (t:bq) :(Ch g m key (L.take k) t\/t=⟨key,x⟩)<->Ch g m key (L.take (k+1)) t:=by
 unfold Ch;rw[av7,af,awl];simp only[Option.toList_some,awd];constructor
 ·rintro ((h | ⟨h1,ad⟩) | h)
  ·exact .inl h
  ·exact .inr ⟨h1,.inl ad⟩
  ·subst h; exact .inr ⟨rfl,.inr rfl⟩
 ·rintro (h | ⟨h1,ad | ad⟩)
  ·exact .inl (.inl h)
  ·exact .inl (.inr ⟨h1,ad⟩)
  ·right; cases t; simp_all
open Classical in
noncomputable def iO (g:bc) (m:Nat) :List bq:=(List.range m).flatMap fun k=>match g.ops.l[k]?,g.ids.l[k]? with
 | some o,some x=>if o.act.kind=2#8/\¬ ph g g.ops.l.length ⟨o.act.key,x⟩ then [⟨o.act.key,x⟩] else []
 | _,_=>[]
open Classical in
theorem JQ {g:bc} {m:Nat} {o:bm} {x:List B} (ap:g.ops.l[m]? = some o) (af:g.ids.l[m]? = some x) :iO g (m+1)=iO g m++(if o.act.kind=2#8/\¬ ph g g.ops.l.length ⟨o.act.key,x⟩ then [⟨o.act.key,x⟩] else []) :=by
 unfold iO;rw[axq,axB];simp[ap,af]
theorem JP {g:bc} {t:bq}:∀ {m:Nat},t∈iO g m<->∃ k o x,k<m/\g.ops.l[k]? = some o/\g.ids.l[k]? = some x/\o.act.kind=2#8/\¬ ph g g.ops.l.length ⟨o.act.key,x⟩/\t=⟨o.act.key,x⟩:=by
 intro m;unfold iO;rw[ayO];constructor
 ·rintro⟨k,hk,aI⟩;rw[aws] at hk;cases ap:g.ops.l[k]? with
  | none=>simp[ap] at aI
  | some o=>
   cases af:g.ids.l[k]? with
   | none=>simp[ap,af] at aI
   | some x=>
    simp only[ap,af] at aI;split at aI
    ·rename_i aG;rw[awd] at aI;exact⟨k,o,x,hk,ap,af,aG.1,aG.2,aI⟩
    ·simp at aI
 ·rintro⟨k,o,x,hk,ap,af,h1,ad,aj⟩;refine⟨k,aws.2 hk,?_⟩;simp only[ap,af];rw[if_pos ⟨h1,ad⟩,awd];exact aj
theorem FG (g:bc) :∀ m,(iO g m).length<=m
 | 0=>by simp[iO]
 | m+1=>by
  have aJ:=FG g m;cases ap:g.ops.l[m]? with
  | none=>unfold iO at *; rw[axq,axB]; simp[ap] at *; omega
  | some o=>
   cases af:g.ids.l[m]? with
   | none=>unfold iO at *; rw[axq,axB]; simp[ap,af] at *; omega
   | some x=>
    rw[JQ ap af,avW];split<;>simp<;>omega
theorem P3 {g:bc} (aq:et g) (m:Nat) :hU (iO g m) :=fun t aI=>by
 obtain⟨k,o,x,_,_,af,_,_,aj⟩:=JP.1 aI;rw[aj]; exact aq.ids x (avY af)
structure mv (g:bc) (M:bq->Prop) (l:am) :Prop where
 gw:l[0]? = some (.cells 2 [aK g.ids,bB g.ops])
 lG:l[1]? = some (.cells 1 [.aT])
 m:nL l 2 M
theorem mv.lt {g:bc} {M:bq->Prop} {l:am} (h:mv g M l) :3<=l.length:=h.m.lt
theorem mv.frame {g:bc} {M:bq->Prop} {l l' : am} (h:mv g M l) (aF:∀ b,b<3->l'[b]? = l[b]?) :mv g M l':=
 ⟨(aF 0 (by omega)).trans h.gw,(aF 1 (by omega)).trans h.lG,h.m.frame (aF 2 (by omega))⟩
theorem mv.more {g:bc} {M:bq->Prop} {l:am} (h:mv g M l) (x:am) :mv g M (l++x) :=h.frame fun b ag=>avQ (by have:=h.lt; omega)
theorem mv.iff {g:bc} {M N:bq->Prop} {l:am} (h:mv g M l) (aG:∀ x,M x<->N x) :mv g N l:=⟨h.gw,h.lG,h.m.iff aG⟩
structure abg (g:bc) (k:Nat) (ae:bg) (l:am) :Prop where
 aP:ae 1=.ptr 0 0 2
 aU:ae 2=.ptr 1 0 1
 a8:ae 3=.int .i64 0
 bi:ae 5=.mp 2
 nd:ae 24=bB g.ops
 kR:ae 25=.int .i64 g.ops.l.length
 mE:ae 26=.int .i64 k
 h:mv g (ph g k) l
structure abi (g:bc) (i:Nat) (o:bm) (b:Nat) (k:Nat) (ae:bg) (l:am) :Prop where
 aP:ae 1=.ptr 0 0 2
 aU:ae 2=.ptr 1 0 1
 a8:ae 3=.int .i64 0
 bi:ae 5=.mp 2
 dk:ae 7=.ptr b 0 11
 nd:ae 24=bB g.ops
 kR:ae 25=.int .i64 g.ops.l.length
 mE:ae 26=.int .i64 i
 uM:ae 45=aK (dH (i4 g i))
 uN:ae 46=.int .i64 (i4 g i).length
 uO:ae 47=.int .i64 k
 h:mv g (Ch g i o.act.key ((i4 g i).take k)) l
 fw:3<=b
 ag:l[b]? = some (.cells 11 (a2 o))
structure abh (g:bc) (b:Nat) (k:Nat) (ae:bg) (l:am) :Prop where
 aP:ae 1=.ptr 0 0 2
 aU:ae 2=.ptr 1 0 1
 a8:ae 3=.int .i64 0
 bi:ae 5=.mp 2
 gX:ae 12=.ptr b 0 1
 KT:ae 60=bB g.ops
 KU:ae 61=.int .i64 g.ops.l.length
 KV:ae 62=.int .i64 k
 h:mv g (ph g g.ops.l.length) l
 fw:3<=b
 ex:∃ v j,l[b]? = some (.cells 1 [v])/\bH 33 l v j ((iO g k).map ca)/\cw v=(iO g k).isEmpty/\(v=.aT\/b<j)
noncomputable def q4 (g:bc) :fh:=if ep g=0 then Fi (m3 (iO g g.ops.l.length)) else none
set_option maxHeartbeats 8000000 in
theorem aoO (g:bc) (aq:et g) :bz Tryz.prog GS 41 [cl g] (.bG [.aH [er (q4 g)],.int .i64 (ep g)]) :=by
 refine bL Tryz.checked.mixed bE ?_;apply bp Tryz.func41 [];have az:cy=140737488355328:=rfl;have dh:=eK g.ids;have cz:=i7 g.ops;have c0:=zT g aq;unfold cl cP at c0;have dL:cK (.ar 11) (bB g.ops)=some (.int .i64 g.ops.l.length) :=by simp[bB]
 simp[cl,cP];refine a6 c0 (by simp[bd,U.closed,dh,cz]) ?_;by_cases aD:ep g=0
 ·have V:=mn aD;have w1:=V.n60;have jh:=V.len;have afj:mv g (fun _=>False) [a7.cells 2 [aK g.ids,bB g.ops],.cells 1 [.aT],.map [] 0] :=⟨rfl,rfl,akT [a7.cells 2 [aK g.ids,bB g.ops],.cells 1 [.aT]]⟩
  simp[aD,dL];refine cI g.ops.l.length (abg g) ?_ ⟨by simp,by simp,by simp,by simp,by simp,by simp,by simp,afj.iff fun x=>⟨fun h=>h.elim,fun ⟨k,_,hk,_⟩=>by omega⟩⟩;rintro k ae l hk ⟨aP,aU,a8,bi,nd,kR,mE,hH⟩;obtain⟨ae,rfl⟩:=Ji aP aU a8 bi nd kR mE;clear aP aU a8 bi nd kR mE;by_cases cq:k<g.ops.l.length
  ·obtain⟨x,af,cE⟩:=bx (l:=g.ids.l) (k:=k) (by omega);obtain⟨o,ap,dd⟩:=bx cq;have ji:=aq.ids x cE;have bf:=cC ji;have aR:IntKind.i64.wrap ((k:Int)+1)=((k+1:Nat) :Int) :=by rw[IntKind.wrap_i64]; omega
   have ir:ck (.ar 32) (aK g.ids) (.int .i64 (k:Int))=some (.b3 (aO x) 0) :=by simp[aK,af]
   have bN:ck (.ar 11) (bB g.ops) (.int .i64 (k:Int))=some (.b3 (a2 o) 0) :=by simp[bB,ap]
   have bY:(a2 o).length=11:=rfl;have rI:∀ h,(a2 o)[3]'h=bF o.act.kind:=fun _=>rfl
   have rJ:∀ h,(a2 o)[4]'h=.str o.act.key:=fun _=>rfl
   have fQ:=e4 x;have yR:=CX o;have td:=P8 g aq V aD x k af;unfold cl cP at td;obtain⟨O,du⟩:∃ O,O=a2 o:=⟨_,rfl⟩
   obtain⟨Y,eD⟩:∃ Y,Y=aO x:=⟨_,rfl⟩
   rw[<-du] at bN bY rI rJ;rw[<-eD] at ir bf fQ td;obtain⟨Z,tc⟩:∃ Z,Z=[U.int .u32 0,.aT,.int .u64 0,.int .u8 0,.str [],.int .u8 0,.int .i64 0,.int .u64 0,.str [],.int .u32 0,.int .u32 0] :=⟨_,rfl⟩
   have rK:Z.length=11:=by rw[tc]; rfl
   have hg:bt Z 0 O=O:=eM (by rw[bY,rK]);have GL:=hH.more [.cells 11 O];have jK:∀ y z:a7,(l++[y]).set l.length z=l++[z] :=fun y z=>by rw[awz _ _ (avR _)]; simp
   have dV:=GL.gw;have lJ:∀ (X:am) h,(l++X)[0]'h=.cells 2 [aK g.ids,bB g.ops] :=fun X h=>by
    have:=(hH.more X).gw; rw[avP] at this; exact this.2
   have Ds:O.take 11=O:=avO (by omega);by_cases dn:o.act.kind=3#8
   ·have r2:=yR.2 dn;simp[cq,bN,bY,<-tc,rK,hg,jK,Ds,rI,rJ,r2,lJ,ir,bf,avO];refine a6 td (by simp[bd,U.closed,dh,cz,fQ]) ?_;have mO:cK (.ar 32) (aK (dH (i4 g k)))=some (.int .i64 (i4 g k).length) :=by simp[aK,ew]
    have gB:=FL g k;simp[mO];refine cI (i4 g k).length (abi g k o l.length) ?_ ⟨by simp,by simp,by simp,by simp,by simp,by simp,by simp,by simp,by simp,by simp,by simp,GL.iff fun t=>⟨.inl,fun h=>h.elim id fun h=>by simp at h⟩,hH.lt,by rw[<-du]; simp⟩;obtain⟨b,j5⟩:∃ b,b=l.length:=⟨_,rfl⟩
    rw[<-j5];clear hH GL jK dV lJ;rintro q ae l aW ⟨aP,aU,a8,bi,dk,nd,kR,mE,uM,uN,uO,hH,fw,ag⟩;obtain⟨ae,rfl⟩:=aam aP aU a8 bi dk nd kR mE uM uN uO;clear aP aU a8 bi dk nd kR mE uM uN uO;by_cases l8:q<(i4 g k).length
    ·obtain⟨y,ax,cr⟩:=bx l8;have mW:=aq.ids y (FM cr);have cg:=cC mW;have f1:IntKind.i64.wrap ((q:Int)+1)=((q+1:Nat) :Int) :=by rw[IntKind.wrap_i64]; omega
     have DJ:ck (.ar 32) (aK (dH (i4 g k))) (.int .i64 (q:Int))=some (.b3 (aO y) 0) :=by simp[aK,ew,ax]
     have tb:ca ⟨o.act.key,y⟩=.str o.act.key::aO y:=rfl;have go:=(hH.more [.cells 32 (aO y)]).m;obtain⟨c,ix,l4⟩:=go.put (x:=⟨o.act.key,y⟩) mW;rw[tb] at ix;rw[<-du] at ag;have eU:b<l.length:=(avP.1 ag).1;obtain⟨W,dT⟩:∃ W,W=aO y:=⟨_,rfl⟩
     rw[<-dT] at cg DJ tb ix go;have aig:bt (rep 32 (.int .u8 0)) 0 W=W:=eM (by rw[cg]; rfl);have jK:∀ y z:a7,(l++[y]).set l.length z=l++[z] :=fun y z=>by rw[awz _ _ (avR _)]; simp
     have b9:∀ X:am,(l++X)[b]? = some (.cells 11 O) :=fun X=>by rw[avQ eU]; exact ag
     simp[l8,DJ,cg,aig,jK,avO,b9,rJ,bY,ix,f1];have h5:∀ a,a≠2->((l++[a7.cells 32 W]).set 2 c)[a]? = (l++[a7.cells 32 W])[a]?:=fun a aA=>av0 (Ne.symm aA)
     have AL:=hH.more [.cells 32 W];refine⟨by simp,by simp,by simp,by simp,by simp,by simp,by simp,by simp,by simp,by simp,by simp,⟨(h5 0 (by omega)).trans AL.gw,(h5 1 (by omega)).trans AL.lG,?_⟩,fw,?_⟩
     ·refine (l4 _ (av3 (by have:=AL.lt; omega))).iff (aeJ ax)
     ·rw[h5 b (by omega),<-du]; exact b9 _
    ·have vc:q=(i4 g k).length:=by omega
     subst vc;rw[awi] at hH;simp[l8,aR];exact⟨cq,by simp,by simp,by simp,by simp,by simp,by simp,by simp,hH.iff (aeI ap dn)⟩
   ·have r2:¬ (u o.act.kind:Int)=3:=fun h=>dn (yR.1 h)
    simp[cq,bN,bY,<-tc,rK,hg,jK,Ds,rI,rJ,r2,aR];exact⟨by simp,by simp,by simp,by simp,by simp,by simp,by simp,GL.iff (aeH ap dn)⟩
  ·have gj:k=g.ops.l.length:=by omega
   subst gj;have lJ:∀ (X:am) h,(l++X)[0]'h=.cells 2 [aK g.ids,bB g.ops] :=fun X h=>by
    have:=(hH.more X).gw; rw[avP] at this; exact this.2
   simp[cq,lJ,dL];refine cI g.ops.l.length (abh g l.length) ?_ ⟨by simp,by simp,by simp,by simp,by simp,by simp,by simp,by simp,hH.more _,hH.lt,.aT,l.length+1,by simp,by simpa [iO] using bH.nil _,by simp[iO,cw],.inl rfl⟩;obtain⟨b,j5⟩:∃ b,b=l.length:=⟨_,rfl⟩
   rw[<-j5];clear hH lJ j5;rintro i ae l av ⟨aP,aU,a8,bi,gX,KT,KU,KV,hH,fw,v,j,ag,gK,w4,ai⟩;obtain⟨ae,rfl⟩:=aan aP aU a8 bi gX KT KU KV;clear aP aU a8 bi gX KT KU KV;have eU:b<l.length:=(avP.1 ag).1;have lJ:∀ (X:am) h,(l++X)[0]'h=.cells 2 [aK g.ids,bB g.ops] :=fun X h=>by
    have:=(hH.more X).gw; rw[avP] at this; exact this.2
   by_cases c3:i<g.ops.l.length
   ·obtain⟨x,af,cE⟩:=bx (l:=g.ids.l) (k:=i) (by omega);obtain⟨o,ap,dd⟩:=bx c3;have ji:=aq.ids x cE;have bf:=cC ji;have aR:IntKind.i64.wrap ((i:Int)+1)=((i+1:Nat) :Int) :=by rw[IntKind.wrap_i64]; omega
    have ir:ck (.ar 32) (aK g.ids) (.int .i64 (i:Int))=some (.b3 (aO x) 0) :=by simp[aK,af]
    have bN:ck (.ar 11) (bB g.ops) (.int .i64 (i:Int))=some (.b3 (a2 o) 0) :=by simp[bB,ap]
    have bY:(a2 o).length=11:=rfl;have rI:∀ h,(a2 o)[3]'h=bF o.act.kind:=fun _=>rfl
    have rJ:∀ h,(a2 o)[4]'h=.str o.act.key:=fun _=>rfl
    have yR:=CW o;have tb:ca ⟨o.act.key,x⟩=.str o.act.key::aO x:=rfl;have n5:(ca ⟨o.act.key,x⟩).length=33:=mA ji;have gB:=JQ ap af;obtain⟨O,du⟩:∃ O,O=a2 o:=⟨_,rfl⟩
    obtain⟨Y,eD⟩:∃ Y,Y=aO x:=⟨_,rfl⟩
    obtain⟨T,bM⟩:∃ T,T=ca ⟨o.act.key,x⟩:=⟨_,rfl⟩
    rw[<-du] at bN bY rI rJ;rw[<-eD] at ir bf tb;have hS:=(hH.more [a7.cells 11 O,.cells 33 T]).m.look (x:=⟨o.act.key,x⟩) ji;rw[<-bM] at tb n5 hS;obtain⟨Z,tc⟩:∃ Z,Z=[U.int .u32 0,.aT,.int .u64 0,.int .u8 0,.str [],.int .u8 0,.int .i64 0,.int .u64 0,.str [],.int .u32 0,.int .u32 0] :=⟨_,rfl⟩
    have rK:Z.length=11:=by rw[tc]; rfl
    have hg:bt Z 0 O=O:=eM (by rw[bY,rK]);have pI:bt (rep 32 (.int .u8 0)) 0 Y=Y:=eM (by rw[bf]; rfl);have y7:bt (U.str [] ::rep 32 (.int .u8 0)) 0 T=T:=I7 n5;have Ds:O.take 11=O:=avO (by omega);have UN:T.take 33=T:=avO (by omega);have jK:∀ y z:a7,(l++[y]).set l.length z=l++[z] :=fun y z=>by rw[awz _ _ (avR _)]; simp
    have VQ:∀ y z w:a7,(l++[w,y]).set (l.length+1) z=l++[w,z] :=fun y z w=>by rw[awz _ _ (by omega)]; simp
    have b9:∀ X:am,(l++X)[b]? = some (.cells 1 [v]) :=fun X=>by rw[avQ eU]; exact ag
    by_cases bP:o.act.kind=2#8
    ·have pK:=yR.2 bP;simp[c3,bN,bY,<-tc,rK,hg,jK,Ds,rI,rJ,pK,lJ,ir,bf,avO,pI,<-tb,n5,y7,VQ,hS];by_cases hm:ph g g.ops.l.length ⟨o.act.key,x⟩
     ·rw[if_neg (fun h=>h.2 hm),awp] at gB;simp[hm,aR];exact⟨c3,by simp,by simp,by simp,by simp,by simp,by simp,by simp,by simp,hH.more _,fw,v,j,b9 _,by rw[gB]; exact gK.more _,by rw[gB]; exact w4,ai⟩
     ·rw[if_pos ⟨bP,hm⟩] at gB;obtain⟨fr,pD⟩:∃ fr,fr=l++[a7.cells 11 O,a7.cells 33 T,a7.cells 33 T] :=⟨_,rfl⟩
      have ar3:fr.length=l.length+3:=by rw[pD]; simp
      have afM:=FG g i;have ahy:bH 33 fr v j ((iO g i).map ca) :=by rw[pD]; exact gK.more _
      obtain⟨aZ,bl,l',iK,kJ,rf,Fp,B6,aoi⟩:=Qd (by_:=48) ahy (x:=.ar 33 (l.length+2) 0 1 1 33) (xs:=[T]) (by rw[pD]; simp[dE,n5,UN]) (by simp[n5]) (by omega) (by omega) (by simp; omega);have fi:cw aZ=false:=by rw[aoi]; simp
      have iV:=kJ.cells;have afk:mv g (ph g g.ops.l.length) fr:=by rw[pD]; exact hH.more _
      have rL:fr[b]? = some (.cells 1 [v]) :=by rw[pD]; exact b9 _
      have bO:l'[b]? = some (.cells 1 [v]) :=by rw[Fp b (by omega) (ai.imp_right (by omega))]; exact rL
      rw[pD] at iK;simp[hm,b9,n5,UN,y7,iK,avO];refine dp.cx ?_;simp[iV,bO,aR];have bI:∀ a,a≠b->(l'.set b (.cells 1 [aZ]))[a]? = l'[a]?:=fun a aA=>av0 (Ne.symm aA)
      refine⟨c3,by simp,by simp,by simp,by simp,by simp,by simp,by simp,by simp,afk.frame fun a aA=>?_,fw,aZ,bl,av3 (by omega),?_,by rw[fi,gB]; simp,?_⟩
      ·rw[bI a (by omega),Fp a (by omega) (ai.imp_right (by omega))]
      ·have agX:bl≠b:=by
        rcases B6 with h | ⟨h1,ad⟩ | h
        ·omega
        ·have:=ai.resolve_left h1; omega
        ·rw[h] at fi; cases fi
       rw[gB,awm];have:bH 33 (l'.set b (.cells 1 [aZ])) aZ bl ((iO g i).map ca++[T]) :=kJ.frame fun _=>bI bl agX
       rw[bM] at this;exact this
      ·right;rcases B6 with h | ⟨h1,ad⟩ | h
       ·omega
       ·have:=ai.resolve_left h1; omega
       ·rw[h] at fi; cases fi
    ·have pK:¬ (u o.act.kind:Int)=2:=fun h=>bP (yR.1 h)
     simp[c3,bN,bY,<-tc,rK,hg,jK,Ds,rI,rJ,pK,lJ,ir,bf,avO,pI,<-tb,n5,y7,VQ,aR];rw[if_neg (fun h=>bP h.1),awp] at gB;exact⟨by simp,by simp,by simp,by simp,by simp,by simp,by simp,by simp,hH.more _,fw,v,j,b9 _,by rw[gB]; exact gK.more _,by rw[gB]; exact w4,ai⟩
   ·have ec:i=g.ops.l.length:=by omega
    subst ec;have afM:=FG g g.ops.l.length;simp[c3,ag];refine an2 (P3 aq _) (by omega) w4 gK (fun l' h1 ad aj=>?_);have bO:l'[b]? = some (.cells 1 [v]) :=by rw[ad b (ai.imp_right (by omega))]; exact ag
    have AL:mv g (ph g g.ops.l.length) l':=hH.frame fun a aA=>ad a (ai.imp_right (by omega))
    have lG:=AL.lG;have pD:=AL.lt;have iV:=aj.cells;have dR:∀ (y:a7),(l'.set 1 y)[1]? = some y:=fun y=>av3 (by omega)
    simp[bO,lG,dR];refine tU (xD ?_) (aL (by rw[aD]) rfl);unfold q4;rw[if_pos aD];have aE:bH 33 (l'.set 1 (.cells 1 [v])) v j ((m3 (iO g g.ops.l.length)).map ca) :=by
     rcases ai with e | e
     ·subst e;have:=aj.q.tG;rw[this]; exact .nil _
     ·exact aj.frame fun _=>av0 (by omega)
    exact aE.q.ow (fun x=>pp x) (Fi (m3 (iO g g.ops.l.length))) (by
     rw[w4,anF];have:=ZC (iO g g.ops.l.length);cases aX:m3 (iO g g.ops.l.length)<;>cases bw:iO g g.ops.l.length<;>simp_all) (Fj _)
 ·simp[aD];refine aL ?_ ?_
  ·unfold q4; rw[if_neg aD]; rfl
  ·simp[U.closed,bd,uE]
theorem ajt {g:bc} (V:iE g) {k:Nat} {o:bm} (ap:g.ops.l[k]? = some o) (bP:o.act.kind=2#8) :gM o.act.key=true:=by
 obtain⟨y,ax,_⟩:=bx (l:=g.ids.l) (k:=k) (by rw[V.len]; exact (avP.1 ap).1);have h1:=Tw (zS (V.jC k o y ap ax).1);rw[Cs bP,avU] at h1;exact h1.1
theorem abA {g:bc} (V:iE g) {m:Nat} {key:List UInt8} {x:List B} (af:g.ids.l[m]? = some x) :(⟨key,x⟩:bq)∉iO g m:=fun h=>by
 obtain⟨k,o,y,h1,_,aj,_,_,bw⟩:=JP.1 h;have:x=y:=congrArg bq.id bw;subst this;have:=jP V.c9 k m x aj af;omega
theorem P2 {g:bc} (V:iE g) :∀ {m:Nat},m<=g.ops.l.length->(iO g m).Nodup
 | 0,_=>by simp[iO]
 | m+1,hm=>by
  have aJ:=P2 V (m:=m) (by omega);obtain⟨o,ap,_⟩:=bx (l:=g.ops.l) (k:=m) (by omega);obtain⟨x,af,_⟩:=bx (l:=g.ids.l) (k:=m) (by rw[V.len]; omega);rw[JQ ap af];split
  ·rw[aw0];refine⟨aJ,by simp,fun a aA b ag e=>?_⟩;rw[awd] at ag;subst e;rw[ag] at aA;exact abA V af aA
  ·simpa using aJ
theorem akC {g:bc} (aq:et g) :hU (q4 g).l/\(q4 g).l.length<=g.ops.l.length:=by
 unfold q4;by_cases aD:ep g=0
 ·rw[if_pos aD,Fj];refine⟨fun t aI=>P3 aq _ t ((ZD _ _).1 aI),?_⟩;rw[ZC]; exact FG g _
 ·rw[if_neg aD]; exact⟨fun t aI=>(by cases aI),aw4 _⟩
noncomputable def kQ (g:bc) :cp:=if ep g=0 then ⟨g.ops.l.length,q4 g,nu g,nE g⟩ else eN
set_option maxHeartbeats 4000000 in
theorem aay (g:bc) (aq:et g) :bz Tryz.prog GS 12 [cl g] (.bG [.aH (fb (kQ g)),.int .i64 (ep g)]) :=by
 refine bL Tryz.checked.mixed bE ?_;apply bp Tryz.func12 [];have dh:=eK g.ids;have cz:=i7 g.ops;have dL:cK (.ar 11) (bB g.ops)=some (.int .i64 g.ops.l.length) :=by simp[bB]
 have h1:=aoO g aq;have ad:=aoQ g aq;have aj:=aoJ g aq;have cZ:=SQ (q4 g);have dJ:=Kh (nu g);have iQ:=An (nE g);unfold cl cP at h1 ad aj;simp[cl,cP];refine a6 h1 (by simp[bd,U.closed,dh,cz]) ?_;by_cases aD:ep g=0
 ·have aF:kQ g=⟨g.ops.l.length,q4 g,nu g,nE g⟩:=by unfold kQ; rw[if_pos aD]
  rw[aF];simp[aD,cZ,dL,bt];refine a6 ad (by simp[bd,U.closed,dh,cz]) ?_;simp[dJ,bt];refine a6 aj (by simp[bd,U.closed,dh,cz]) ?_;simp[iQ,bt];exact aL (by rw[aD]; rfl) (rz _ _)
 ·have aF:kQ g=eN:=by unfold kQ; rw[if_neg aD]
  rw[aF];simp[aD,cZ];exact aL rfl (rz eN _)
def o6 (g:bc) (l:List (List B)) (i:Nat) :Bool:=decide (b0 l i∈g.ids.l)&&(!decide (b0 l i∈l.take i)&&ks (l.take i) (mF g (b0 l i)).1.br.l)
theorem WI (a:List (List B)) {k:Nat} (h:k<=a.length) :fG (.ar 32) (aK (some a)) none (some (.int .i64 (k:Int))) none=some (aK (some (a.take k))) :=by
 exact OX (z:=32) (enc:=aO) (l:=a) (k:=.i64) (i:=(k:Int)) (by omega) (by omega)
structure qb (s:cp) (k:Nat) :Prop where
 ok:um s
 c6:s.c6=(k:Int)
 al:s.b5.l.length<=k
 aC:s.b5.l.Nodup
 nC:s.c8.l.length<=k
theorem anr:qb eN 0:=⟨XS,rfl,by simp[eN],List.Pairwise.nil,by simp[eN]⟩
theorem ank {l:List (List B)} (h:l.Nodup) :(BV l).Nodup:=by rw[<-O2 h]; exact (ayz l _).nodup_iff.2 h
theorem alR (s:hG) (o:bm) :(q6 s o).1.l.length<=s.l.length+1:=by
 rw[<-(IM s o).1];unfold iC;split
 ·split
  ·split
   ·simp
   ·rw[xG];unfold eV;split
    ·unfold iZ;split
     ·split
      ·simp
      ·omega
     ·rw[o0]; omega
    ·omega
  ·simp
 ·simp
theorem adX {s:cp} {k:Nat} (ak:qb s k) (hk:k<60) {g:bc} (aq:et g) (aD:ep g=0) {x:List B} (af:x.length=32) (ao:(AA s g x).2=0) :qb (AA s g x).1 (k+1) :=by
 have V:=mn aD;unfold AA at ao ⊢;by_cases hm:x∈g.ids.l
 ·rw[if_pos hm] at ao ⊢;obtain⟨i,av⟩:=avT.1 hm;obtain⟨o,ap,dd⟩:=bx (l:=g.ops.l) (k:=i) (by rw[<-V.len]; exact (avP.1 av).1);have mR:=aq.ops o dd;rw[rG V av ap] at ao ⊢;by_cases h1:x∈s.b5.l
  ·rw[if_pos h1] at ao; cases ao
  ·rw[if_neg h1] at ao ⊢;by_cases ad:s.c6=60
   ·rw[if_pos ad] at ao; cases ao
   ·rw[if_neg ad] at ao ⊢;unfold KI at ao ⊢;obtain⟨b,ag⟩:∃ b,b=dH (ik g (hf g.ids.l x)) :=⟨_,rfl⟩
    rw[<-ag] at ao ⊢;by_cases aj:(sO s.set o b).2=0
    ·rw[if_pos aj] at ao ⊢;by_cases aE:(q6 s.c8 o).2=0
     ·rw[if_pos aE] at ao ⊢;have wU:(s.b5.l.filter (k9 o)++[x]).Nodup:=by
       refine aw0.2 ⟨ak.aC.sublist axC,by simp,fun p ay q aW=>?_⟩;rw[awd.1 aW];exact fun e=>h1 (by rw[<-e]; exact (awP.1 ay).1)
      have ce:=abP s.set o b ak.ok.set ak.ok.ls;have bP:=alS s.c8 o ak.ok.c8 (by have:=ak.nC; omega) mR;have jn:(u1 s.b5.l o x).length<=k+1:=by
       show (BV _).length<=_;rw[ZA (avR _),avW];have:=axm (k9 o) s.b5.l;have:=ak.al;simp; omega
      refine⟨⟨?_,?_,?_,?_,?_,?_⟩,?_,jn,ank wU,?_⟩
      ·show hU (sO s.set o b).1.l; rw[<-(JT s.set o b).1]; exact ce.1
      ·show iz (q6 s.c8 o).1.l; rw[<-(IM s.c8 o).1]; exact bP.1
      ·intro z aw;have iH:z∈BV (s.b5.l.filter (k9 o)++[x]) :=aw;rw[Ff (avR _),awi] at iH;rcases awl.1 iH with e | e
       ·exact ak.ok.b5 z (awP.1 e).1
       ·rw[awd.1 e]; exact af
      ·show (sO s.set o b).1.l.length<=_; rw[<-(JT s.set o b).1]; exact ce.2
      ·show (q6 s.c8 o).1.l.length<=_; rw[<-(IM s.c8 o).1]; exact bP.2
      ·show (u1 s.b5.l o x).length<=_; omega
      ·show s.c6+1=_; rw[ak.c6]; omega
      ·have:=alR s.c8 o;have:=ak.nC;show (q6 s.c8 o).1.l.length<=_; omega
     ·rw[if_neg aE] at ao; exact absurd ao aE
    ·rw[if_neg aj] at ao; exact absurd ao aj
 ·rw[if_neg hm] at ao; cases ao
def p8 (l l' : am) :Prop:=l.length<=l'.length/\∀ b,b<l.length->l'[b]? = l[b]?
theorem p8.refl (l:am) :p8 l l:=⟨avR _,fun _ _=>rfl⟩
theorem p8.trans {l m n:am} (h:p8 l m) (ad:p8 m n) :p8 l n:=⟨axc h.1 ad.1,fun b ag=>by rw[ad.2 b (ayf ag h.1),h.2 b ag]⟩
def Jz (f:FuncId) (wk:List U) (l:am) (xs:List (List B)) (c:List B->Bool) :Prop:=
 ∀ p∈xs,∀ l1,p8 l l1->∀ K:U->am->Prop,(∀ b1,p8 l1 b1->K (.bool (c p)) b1)->c7 Tryz.prog GS f (.aH (aO p) ::wk) l1 (c:=⟨K⟩)
theorem ajH (a:List (List B)) (i:Nat) (av:i<=a.length) (aA:∀ z∈a,z.length=32) (gB:a.length<=1000000) {l:am} {bo FR:Nat} (h1:l[bo]? = some (.cells 1 [aK (some a)])) (ad:l[FR]? = some (.cells 1 [.int .i64 (i:Int)])) (xs:List (List B)) (af:∀ p∈xs,p.length=32) :
  Jz 69 [.ptr bo 0 1,.ptr FR 0 1] l xs (fun p=>!decide (p∈a.take i)) :=by
 intro p ay l1 ao K aY;apply bp Tryz.func69 [];have jf:=af p ay;have gq:=cC jf;have ahM:=e4 p;have q1:l1[bo]? = some (.cells 1 [aK (some a)]) :=by rw[ao.2 _ (eu h1)]; exact h1
 have ft:l1[FR]? = some (.cells 1 [.int .i64 (i:Int)]) :=by rw[ao.2 _ (eu ad)]; exact ad
 have aP:∀ c:a7,(l1++[c])[bo]? = some (.cells 1 [aK (some a)]) :=fun c=>by rw[avQ (eu q1)]; exact q1
 have aU:∀ c:a7,(l1++[c])[FR]? = some (.cells 1 [.int .i64 (i:Int)]) :=fun c=>by rw[avQ (eu ft)]; exact ft
 have te:=eK (some (a.take i));have ef:=WI a av;have ec:=Fw (some (a.take i)) (fun z aw=>aA z (awh aw)) (by show (a.take i).length<=_; rw[av1]; omega) p jf;simp[aP,aU,ef,gq,avO];refine a6 ec (by simp[bd,U.closed,te,ahM]) ?_;simp;exact aY _ ⟨by simp,fun b ag=>avQ ag⟩
theorem aiI (s:ez) (ak:gv s) (ef:s.l.length<=1000000) {f:FuncId} {wk:List U} {c:List B->Bool} (aF:hQ Tryz.prog f=true) {l:am} (h:Jz f wk l s.l c) {K:U->am->Prop}
  (aY:∀ (n:Int) l',p8 l l'->(0<=n<->s.l.any c=true)->K (.int .i64 n) l') :c7 Tryz.prog GS 117 [aK s,.fn f [] wk] l (c:=⟨K⟩) :=by
 apply bp Tryz.func117 [];have jK:cK (.ar 32) (aK s)=some (.int .i64 s.l.length) :=by simp[aK]
 simp[jK];refine cI s.l.length (fun k ae l1=>ae 0=aK s/\ae 1=.fn f [] wk/\ae 7=.int .i64 s.l.length/\ae 8=.int .i64 k/\p8 l l1/\∀ j y,j<k->s.l[j]? = some y->c y=false) ?_ ⟨by simp,by simp,by simp,by simp,p8.refl _,fun j _ ai=>by omega⟩;rintro k ae l1 hk ⟨cf,aP,dk,dj,ao,dM⟩;obtain⟨ae,rfl⟩:=i0 cf aP dk dj;clear cf aP dk dj;simp;refine jo (fun ad=>?_) (fun ad=>?_)
 ·simp only[decide_eq_true_eq] at ad;obtain⟨x,af,cE⟩:=bx (l:=s.l) (k:=k) (by omega);have bf:=cC (ak x cE);have aR:IntKind.i64.wrap ((k:Int)+1)=((k+1:Nat) :Int) :=by rw[IntKind.wrap_i64]; omega
  have bN:ck (.ar 32) (aK s) (.int .i64 (k:Int))=some (.b3 (aO x) 0) :=by simp[aK,af]
  have j6:=h x cE l1 ao;obtain⟨X,cv⟩:∃ X,X=aO x:=⟨_,rfl⟩
  rw[<-cv] at bN bf j6;simp[bN,bf,avO];refine⟨aF,j6 _ fun b1 ni=>?_⟩;cases ah:c x with
  | true=>
   simp;exact aY _ _ (ao.trans ni) ⟨fun _=>ayY.2 ⟨x,cE,ah⟩,fun _=>by omega⟩
  | false=>
   simp[aR];refine⟨ad,ao.trans ni,fun j y ai ax=>?_⟩;by_cases gc:j=k
   ·rw[gc,af] at ax; obtain rfl:=Option.some.inj ax; exact ah
   ·exact dM j y (by omega) ax
 ·simp[ad];have h4:k=s.l.length:=by simp at ad; omega
  refine aY _ _ ao ⟨fun h=>by omega,fun h=>?_⟩;obtain⟨y,ax,k4⟩:=ayY.1 h;obtain⟨j,ai⟩:=avT.1 ax;rw[dM j y (by rw[h4]; exact (avP.1 ai).1) ai] at k4; cases k4
theorem ac7 (s:ez) (ak:gv s) (ef:s.l.length<=1000000) {f:FuncId} {wk:List U} {c:List B->Bool} (aF:hQ Tryz.prog f=true) {l:am} (h:Jz f wk l s.l c) {K:U->am->Prop}
  (aY:∀ l',p8 l l'->K (.bool (s.l.any c)) l') :c7 Tryz.prog GS 71 [aK s,.fn f [] wk] l (c:=⟨K⟩) :=by
 apply bp Tryz.func71 [];simp;refine aiI s ak ef aF h fun n l' ao aC=>?_
 simp;have:decide (0<=n)=s.l.any c:=by
  rw[ayw,decide_eq_true_eq]; exact aC
 rw[this];exact aY _ ao
theorem BU (s t:cp) :q8 s t=true<->s.c6=t.c6/\s.set.l=t.set.l/\s.c8.l=t.c8.l/\s.b5.l=t.b5.l:=by
 unfold q8;simp only[avU,decide_eq_true_eq]
theorem ans {s t:cp} {k:Nat} (h:q8 s t=true) (ak:qb s k) :qb t k:=by
 obtain⟨h1,ad,aj,aE⟩:=(BU s t).1 h;refine⟨⟨by rw[<-ad]; exact ak.ok.set,by rw[<-aj]; exact ak.ok.c8,fun z aw=>ak.ok.b5 z (by rw[aE]; exact aw),by rw[<-ad]; exact ak.ok.ls,by rw[<-aj]; exact ak.ok.Ex,by rw[<-aE]; exact ak.ok.H4⟩,by rw[<-h1]; exact ak.c6,by rw[<-aE]; exact ak.al,by rw[<-aE]; exact ak.aC,by rw[<-aj]; exact ak.nC⟩
theorem adZ {s:cp} {k:Nat} (ak:qb s k) {g:bc} (aq:et g) (aD:ep g=0) {x:List B} (af:x.length=32) :
  q8 (i9 s g x).1 (AA s g x).1=true/\(i9 s g x).2=(AA s g x).2:=by
 have Dl:q8 eN eN=true:=by simp[q8]
 have V:=mn aD;unfold i9 AA;by_cases hm:x∈g.ids.l
 ·rw[if_pos hm,if_pos hm];obtain⟨i,av⟩:=avT.1 hm;obtain⟨o,ap,dd⟩:=bx (l:=g.ops.l) (k:=i) (by rw[<-V.len]; exact (avP.1 av).1);rw[rG V av ap,yg V.c9 av];by_cases ad:x∈s.b5.l
  ·rw[if_pos ad,if_pos ad]; exact⟨Dl,rfl⟩
  ·rw[if_neg ad,if_neg ad];by_cases aj:s.c6=60
   ·rw[if_pos aj,if_pos aj]; exact⟨Dl,rfl⟩
   ·rw[if_neg aj,if_neg aj];obtain⟨uS,_⟩:=v8 g aq V av;have j2:g.ids.l.length<=60:=by rw[V.len]; exact V.n60
    have u0:ga s.set o (dH (i4 g i))=ga s.set o (dH (ik g i)) :=Qe _ _ (fun p=>by
     rw[ew,ew];constructor
     ·intro h;obtain⟨j,ai⟩:=avT.1 (FM h);exact (uS.mem j p ai).2 ((Ae (jP V.c9) ai).1 h)
     ·intro h;obtain⟨j,ai⟩:=avT.1 (uS.sub p h);exact (Ae (jP V.c9) ai).2 ((uS.mem j p ai).1 h)) (by rw[ew]; have:=FL g i; omega) (by rw[ew]; have:=uS.len; omega)
    have wU:(s.b5.l.filter (k9 o)++[x]).Nodup:=by
     refine aw0.2 ⟨ak.aC.sublist axC,by simp,fun p ay q aW=>?_⟩;rw[awd.1 aW];exact fun e=>ad (by rw[<-e]; exact (awP.1 ay).1)
    have Hm:u2 s o x=u1 s.b5.l o x:=O2 wU;have cN:=JT s.set o (dH (ik g i));have gA:=IM s.c8 o;unfold yo KI;rw[u0,Hm,cN.2,gA.2];by_cases aE:(sO s.set o (dH (ik g i))).2=0
    ·rw[if_pos aE,if_pos aE];by_cases aX:(q6 s.c8 o).2=0
     ·rw[if_pos aX,if_pos aX];exact⟨(BU _ _).2 ⟨rfl,cN.1,gA.1,rfl⟩,rfl⟩
     ·rw[if_neg aX,if_neg aX]; exact⟨Dl,rfl⟩
    ·rw[if_neg aE,if_neg aE]; exact⟨Dl,rfl⟩
 ·rw[if_neg hm,if_neg hm]; exact⟨Dl,rfl⟩
theorem Zq {s t:cp} (h:q8 s t=true) :q8 t s=true:=by
 obtain⟨h1,ad,aj,aE⟩:=(BU s t).1 h;exact (BU t s).2 ⟨h1.symm,ad.symm,aj.symm,aE.symm⟩
theorem ad0 {s:cp} {k:Nat} (ak:qb s k) (hk:k<60) {g:bc} (aq:et g) (aD:ep g=0) {x:List B} (af:x.length=32) (ao:(i9 s g x).2=0) :qb (i9 s g x).1 (k+1) :=by
 obtain⟨h1,ad⟩:=adZ ak aq aD af;exact ans (Zq h1) (adX ak hk aq aD af (by rw[<-ad]; exact ao))
noncomputable def gG (g:bc) (l:List (List B)) :Nat->cp × Int
 | 0=>(eN,0)
 | k+1=>if (gG g l k).2=0 then (if o6 g l k=true then i9 (gG g l k).1 g (b0 l k) else (eN,32)) else gG g l k
theorem Oy {g:bc} {l:List (List B)} {k:Nat} (h:(gG g l k).2≠0) :∀ d,gG g l (k+d)=gG g l k
 | 0=>rfl
 | d+1=>by
  have aJ:=Oy h d;have e:gG g l (k+(d+1))=if (gG g l (k+d)).2=0 then (if o6 g l (k+d)=true then i9 (gG g l (k+d)).1 g (b0 l (k+d)) else (eN,32)) else gG g l (k+d) :=rfl
  rw[e,aJ,if_neg h]
theorem adY {s:cp} {g:bc} {x:List B} (ao:(i9 s g x).2≠0) :(i9 s g x).1=eN:=by
 unfold i9 at ao ⊢;split
 ·rename_i hm;rw[if_pos hm] at ao;split
  ·rfl
  ·rename_i h1;rw[if_neg h1] at ao;split
   ·rfl
   ·rename_i ad;rw[if_neg ad] at ao;unfold yo at ao ⊢;split
    ·rename_i aj;rw[if_pos aj] at ao;split
     ·rename_i aE;rw[if_pos aE] at ao; exact absurd rfl ao
     ·rfl
    ·rfl
 ·rfl
noncomputable def s4 (g:bc) (l:List (List B)) :cp × Int:=if ep g=0 then (if l.length=g.ids.l.length then gG g l l.length else (eN,32)) else (eN,ep g)
theorem aeh:hQ Tryz.prog 69=true:=by kernel_rfl
structure abo (g:bc) (s:ez) (k:Nat) (ae:bg) (l:am) :Prop where
 aU:ae 2=.ptr 0 0 2
 a8:ae 3=.ptr 1 0 1
 bA:ae 4=.ptr 2 0 4
 dk:ae 7=.ptr 3 0 4
 s8:ae 27=aK s
 KO:ae 28=.int .i64 s.l.length
 KP:ae 29=.int .i64 k
 dV:l[0]? = some (.cells 2 [aK g.ids,bB g.ops])
 q1:l[1]? = some (.cells 1 [aK s])
 ft:l[2]? = some (.cells 4 [.int .i64 0,.aT,.aT,.aT])
 iY:l[3]? = some (.cells 4 (fb (gG g s.l k).1))
 ao:(gG g s.l k).2=0
 ci:qb (gG g s.l k).1 k
set_option maxHeartbeats 8000000 in
theorem aoR (g:bc) (aq:et g) (s:ez) (ak:gv s) (ef:s.l.length<=1000000) :bz Tryz.prog GS 29 [cl g,aK s] (.bG [.aH (fb (s4 g s.l).1),.int .i64 (s4 g s.l).2]) :=by
 refine bL Tryz.checked.mixed bE ?_;apply bp Tryz.func29 [];have dh:=eK g.ids;have cz:=i7 g.ops;have cd:=eK s;have aha:=aq.li;have c0:=zT g aq;have jK:cK (.ar 32) (aK s)=some (.int .i64 s.l.length) :=by simp[aK]
 have fE:cK (.ar 32) (aK g.ids)=some (.int .i64 g.ids.l.length) :=by simp[aK]
 have fp:=An s;unfold cl cP at c0;simp[cl,cP,fp];refine a6 c0 (by simp[bd,U.closed,dh,cz]) ?_;by_cases aD:ep g=0
 ·have V:=mn aD;by_cases h1:s.l.length=g.ids.l.length
  ·have dg:(s.l.length:Int)=g.ids.l.length:=by omega
   have aF:s4 g s.l=gG g s.l s.l.length:=by unfold s4; rw[if_pos aD,if_pos h1]
   have l4:=alL;rw[show fb (⟨0,none,none,none⟩:cp)=[.int .i64 0,.aT,.aT,.aT] from rfl] at l4;have w1:s.l.length<=60:=by rw[h1,V.len]; exact V.n60
   rw[aF];simp[aD,jK,fE,dg];refine a6 l4 rfl ?_;simp[jK,bt];refine cI s.l.length (abo g s) ?_ ⟨by simp,by simp,by simp,by simp,by simp,by simp[dg],by simp,by simp,by simp,by simp,by simp[gG]; rfl,rfl,anr⟩;rintro k ae l hk ⟨aU,a8,bA,dk,s8,KO,KP,dV,q1,ft,iY,ao,ci⟩;obtain⟨ae,rfl⟩:=Ji aU a8 bA dk s8 KO KP;clear aU a8 bA dk s8 KO KP;simp;refine jo (fun h=>?_) (fun h=>?_)
   ·simp only[decide_eq_true_eq] at h;cases s with
    | none=>simp at h
    | some a=>
     have ag1:k<a.length:=h;have asb:a.length<=60:=w1;obtain⟨x,af,cE⟩:=bx (l:=a) (k:=k) h;have oo:=ak x cE;have bf:=cC oo;have gL:=e4 x;have gB:a.length<=1000000:=ef;have aR:IntKind.i64.wrap ((k:Int)+1)=((k+1:Nat) :Int) :=by rw[IntKind.wrap_i64]; omega
     have bN:ck (.ar 32) (aK (some a)) (.int .i64 (k:Int))=some (.b3 (aO x) 0) :=by simp[aK,af]
     have ed:=Th g aq aD x oo;have qG:4<=l.length:=by have:=eu iY; omega
     have ah7:=WI a (k:=k) (by omega);obtain⟨X,cv⟩:∃ X,X=aO x:=⟨_,rfl⟩
     rw[<-cv] at bN bf gL ed;have j8:bt (rep 32 (U.int .u8 0)) 0 X=X:=eM (by rw[bf]; rfl);unfold cl cP at ed;obtain⟨L,eT⟩:∃ L,L=l++[a7.cells 1 [.int .i64 (k:Int)],.cells 32 X] :=⟨_,rfl⟩
     have ng:L.length=l.length+2:=by rw[eT]; simp
     have lJ:L[0]? = some (.cells 2 [aK g.ids,bB g.ops]) :=by rw[eT,avQ (by omega)]; exact dV
     have dW:L[1]? = some (.cells 1 [aK (some a)]) :=by rw[eT,avQ (by omega)]; exact q1
     have fu:L[2]? = some (.cells 4 [.int .i64 0,.aT,.aT,.aT]) :=by rw[eT,avQ (by omega)]; exact ft
     have nx:L[3]? = some (.cells 4 (fb (gG g a k).1)) :=by rw[eT,avQ (by omega)]; exact iY
     have amp:L[l.length]? = some (.cells 1 [.int .i64 (k:Int)]) :=by rw[eT]; simp
     have tX:L[l.length+1]? = some (.cells 32 X) :=by rw[eT]; simp
     have kk:∀ c d:a7,(l++[c,d])[0]? = some (.cells 2 [aK g.ids,bB g.ops]) :=fun c d=>by rw[avQ (by omega)]; exact dV
     have ao1:∀ (c d:a7) (h:0<(l++[c,d]).length),(l++[c,d])[0]'h=.cells 2 [aK g.ids,bB g.ops] :=fun c d h=>(avP.1 (kk c d)).2
     simp[bN,bf,j8,kk,ao1,avO];rw[<-eT];refine a6 ed (by simp[bd,U.closed,dh,cz,gL]) ?_;have fk:∀ c:a7,(L++[c])[1]? = some (.cells 1 [aK (some a)]) :=fun c=>by rw[avQ (by omega)]; exact dW
     have dS:∀ c:a7,(L++[c])[2]? = some (.cells 4 [.int .i64 0,.aT,.aT,.aT]) :=fun c=>by rw[avQ (by omega)]; exact fu
     have Ft:∀ c:a7,(L++[c])[l.length]? = some (.cells 1 [.int .i64 (k:Int)]) :=fun c=>by rw[avQ (by omega)]; exact amp
     have Fu:∀ c:a7,(L++[c])[l.length+1]? = some (.cells 32 X) :=fun c=>by rw[avQ (by omega)]; exact tX
     have Jk:∀ c:a7,(L++[c])[L.length]? = some c:=fun c=>ax2
     have c1:o6 g a k=(decide (x∈g.ids.l)&&(!decide (x∈a.take k)&&ks (a.take k) (mF g x).1.br.l)) :=by unfold o6; rw[fL af]
     obtain⟨S,dQ⟩:∃ S,S=gG g a k:=⟨_,rfl⟩
     have gn:(gG g a k).2=0:=ao;have rY:qb (gG g a k).1 k:=ci;rw[<-dQ] at gn rY nx;have iv:gG g a (k+1)=if o6 g a k=true then i9 S.1 g x else (eN,32) :=by show (if _ then _ else _)=_; rw[<-dQ,if_pos gn,fL af]
     have oS:o6 g a k=false->gG g a a.length=(eN,32) :=fun e=>by
      rw[e,if_neg (by simp)] at iv;have:=Oy (g:=g) (l:=a) (k:=k+1) (by rw[iv]; simp) (a.length - (k+1));rw[show k+1+(a.length - (k+1))=a.length by omega,iv] at this;exact this
     have LB:o6 g a k=false->∀ z6:am,Rd z6 (.bG [.aH [.int .i64 0,.aT,.aT,.aT],.int .i64 32]) (.bG [.aH (fb (gG g (cQ.l (some a)) (cQ.l (some a)).length).1),.int .i64 (gG g (cQ.l (some a)) (cQ.l (some a)).length).2]) :=fun e z6=>by
      have:=oS e;show Rd z6 _ (.bG [.aH (fb (gG g a a.length).1),.int .i64 (gG g a a.length).2]);rw[this];exact aL rfl (rz eN _)
     have aau:∀ c y:a7,((L++[c]).set 2 y)[2]? = some y:=fun c y=>av3 (by simp; omega)
     by_cases hm:x∈g.ids.l
     ·obtain⟨i,av⟩:=avT.1 hm;obtain⟨o,ap,dd⟩:=bx (l:=g.ops.l) (k:=i) (by rw[<-V.len]; exact (avP.1 av).1);have mR:=aq.ops o dd;rw[rG V av ap,decide_eq_true hm,awL] at c1;rw[rG V av ap];have bY:(a2 o).length=11:=rfl;have ht:∀ h,(a2 o)[1]'h=aK o.br:=fun _=>rfl
      obtain⟨O,du⟩:∃ O,O=a2 o:=⟨_,rfl⟩
      simp only[<-du];rw[<-du] at bY ht;have hg:bt [U.int .u32 0,.aT,.int .u64 0,.int .u8 0,.str [],.int .u8 0,.int .i64 0,.int .u64 0,.str [],.int .u32 0,.int .u32 0] 0 O=O:=eM (by rw[bY]; rfl);have ahA:gv (some (a.take k)) :=fun z aw=>ak z (awh aw)
      have te:=eK (some (a.take k));have ec:=Fw (some (a.take k)) ahA (by show (a.take k).length<=_; rw[av1]; omega) x oo;rw[<-cv] at ec;simp only[cQ.zi] at ec;simp[bY,hg,fk,dS,Ft,Fu,Jk,ah7,bf,avO];refine a6 ec (by simp[bd,U.closed,te,gL]) ?_;by_cases aj:x∈a.take k
      ·rw[decide_eq_true aj] at c1;simp[aj,fk,dS,Ft,Fu,Jk,aau];exact LB c1 _
      ·rw[decide_eq_false aj] at c1;have ag7:=ajH a k (by omega) (fun z aw=>ak z aw) gB (fk (.cells 11 O)) (Ft (.cells 11 O)) o.br.l (fun p ay=>mR.ids p ay);simp[aj,bY,ht,fk,dS,Ft,Fu,Jk,avO];refine ac7 o.br mR.ids mR.len aeh ag7 (fun b1 ni=>?_);have afP:(o.br.l.any fun p=>!decide (p∈a.take k))=!ks (a.take k) o.br.l:=by
        unfold ks;rw[ayw,ayY,aw5,decide_eq_false_iff_not];constructor
        ·rintro⟨p,ay,aW⟩ aG;rw[decide_eq_true (aG p ay)] at aW; cases aW
        ·intro aG;refine Decidable.byContradiction fun aC=>aG fun p ay=>Decidable.byContradiction fun aW=>aC ⟨p,ay,by rw[decide_eq_false aW]; rfl⟩
       rw[afP];have arB:(L++[a7.cells 11 O]).length=L.length+1:=by simp
       have FA:b1[0]? = some (.cells 2 [aK g.ids,bB g.ops]) :=by rw[ni.2 0 (by omega),avQ (by omega)]; exact lJ
       have i1:b1[1]? = some (.cells 1 [aK (some a)]) :=by rw[ni.2 1 (by omega)]; exact fk _
       have kK:b1[2]? = some (.cells 4 [.int .i64 0,.aT,.aT,.aT]) :=by rw[ni.2 2 (by omega)]; exact dS _
       have sB:b1[3]? = some (.cells 4 (fb S.1)) :=by rw[ni.2 3 (by omega),avQ (by omega)]; exact nx
       have apk:b1[l.length+1]? = some (.cells 32 X) :=by rw[ni.2 _ (by omega)]; exact Fu _
       have hR:4<=b1.length:=by have:=ni.1; omega
       have aaJ:∀ y:a7,(b1.set 2 y)[2]? = some y:=fun y=>av3 (by omega)
       have api:∀ y:a7,(b1.set 3 y)[3]? = some y:=fun y=>av3 (by omega)
       cases aE:ks (a.take k) o.br.l with
       | false=>
        rw[aE] at c1;simp[kK,aaJ];exact LB c1 _
       | true=>
        rw[aE] at c1;have ahE:o6 g a k=true:=by rw[c1]; rfl
        rw[ahE,if_pos rfl] at iv;have iG:=TB S.1 rY.ok (by rw[rY.c6]; omega) (by rw[rY.c6]; omega) (by have:=rY.al; omega) g aq aD x oo;obtain⟨F,h3⟩:∃ F,F=i9 S.1 g x:=⟨_,rfl⟩
        rw[<-h3] at iG iv;obtain⟨C,nf⟩:∃ C,C=fb S.1:=⟨_,rfl⟩
        obtain⟨D,jD⟩:∃ D,D=fb F.1:=⟨_,rfl⟩
        have oR:C.length=4:=by rw[nf]; rfl
        have kS:D.length=4:=by rw[jD]; rfl
        have ae7:bd C=true:=by rw[nf]; exact sW _
        rw[<-nf,<-jD,<-cv] at iG;rw[<-nf] at sB;unfold cl cP at iG;have HL:bt C 0 D=D:=eM (by rw[kS,oR]);simp[FA,sB,apk,oR,bf,avO];refine a6 iG (by simp[bd,U.closed,ae7,dh,cz,gL]) ?_;by_cases aX:F.2=0
        ·simp[aX,sB,kS,oR,HL,aR,avO];refine⟨ag1,by simp,by simp,by simp,by simp,by simp,by simp,by simp,?_,?_,?_,?_,?_,?_⟩
         ·rw[av0 (by omega)]; exact FA
         ·rw[av0 (by omega)]; exact i1
         ·rw[av0 (by omega)]; exact kK
         ·show _=some (a7.cells 4 (fb (gG g a (k+1)).1));rw[iv,<-jD]; exact api _
         ·show (gG g a (k+1)).2=0;rw[iv]; exact aX
         ·show qb (gG g a (k+1)).1 (k+1);rw[iv,h3]; exact ad0 rY (by omega) aq aD oo (by rw[<-h3]; exact aX)
        ·have apj:∀ y z:a7,((b1.set 3 z).set 2 y)[2]? = some y:=fun y z=>av3 (by simp; omega)
         simp[aX,kK,sB,aaJ,apj,kS,oR,HL,avO];have Wq:=Oy (g:=g) (l:=a) (k:=k+1) (by rw[iv]; exact aX) (a.length - (k+1));rw[show k+1+(a.length - (k+1))=a.length by omega,iv] at Wq;have afc:F.1=eN:=by rw[h3]; exact adY (by rw[<-h3]; exact aX)
         show Rd _ _ (.bG [.aH (fb (gG g a a.length).1),.int .i64 (gG g a a.length).2]);rw[Wq,afc];exact aL rfl (rz eN _)
     ·rw[decide_eq_false hm,awR] at c1;have qE:mF g x=(Cd,6) :=by unfold mF; rw[if_neg hm]
      rw[qE];have aw:a2 Cd=[U.int .u32 0,.aT,.int .u64 0,.int .u8 0,.str [],.int .u8 0,.int .i64 0,.int .u64 0,.str [],.int .u32 0,.int .u32 0] :=rfl;have Vi:=oS c1;simp only[aw];simp[bt,fk,dS,Ft,Fu,Jk,aau];exact LB c1 _
   ·have h4:k=s.l.length:=by simp at h; omega
    obtain⟨C,nf⟩:∃ C,C=fb (gG g s.l k).1:=⟨_,rfl⟩
    have oR:C.length=4:=by rw[nf]; rfl
    have HL:bt [U.int .i64 0,.aT,.aT,.aT] 0 C=C:=eM (by rw[oR]; rfl);have qG:4<=l.length:=by have:=eu iY; omega
    have hl:∀ y:a7,(l.set 2 y)[2]? = some y:=fun y=>av3 (by omega)
    rw[<-nf] at iY;simp[h,iY,ft,hl,oR,HL,avO];rw[h4] at ao nf;exact aL (by rw[nf,ao]) (rz _ _)
  ·have dg:¬ (s.l.length:Int)=g.ids.l.length:=by omega
   have aF:s4 g s.l=(eN,32) :=by unfold s4; rw[if_pos aD,if_neg h1]
   rw[aF];simp[aD,jK,fE,dg];exact aL rfl (rz eN _)
 ·have aF:s4 g s.l=(eN,ep g) :=by unfold s4; rw[if_neg aD]
  rw[aF];simp[aD];exact aL rfl (rz eN _)
noncomputable def PC (g:bc) (key:List UInt8) :Nat->Bool
 | 0=>false
 | m+1=>PC g key m||(match g.ops.l[m]?,g.ids.l[m]? with | some o,some x=>decide (o.act.kind=2#8)&&(decide (o.act.key=key)&&!Dg g (ik g) key x g.ops.l.length) | _,_=>false)
structure apK (g:bc) (key:List UInt8) (T:fh) (K:Cj) (ak:Bool) (k:Nat) (ae:bg) (l:am) :Prop where
 aP:ae 1=.str key
 aU:ae 2=.ptr 0 0 2
 bi:ae 5=.bool true
 dj:ae 8=.bool ak
 fI:ae 10=Gh K
 gX:ae 12=.bool false
 aey:ae 14=.int .i64 k
 tH:∃ v,ae 13=v/\cu 1 To [.cells 2 [aK g.ids,bB g.ops],.cells 1 [er T]] l v ((List.range k).map (ik g)) (decide (k=0))
structure apL (g:bc) (key:List UInt8) (K:Cj) (ak:Bool) (v:U) (L:am) (k:Nat) (ae:bg) (l:am) :Prop where
 aP:ae 1=.str key
 aU:ae 2=.ptr 0 0 2
 bi:ae 5=.bool true
 dj:ae 8=.bool ak
 fI:ae 10=Gh K
 gX:ae 12=.bool (PC g key k)
 kx:ae 13=v
 s5:ae 15=.int .i64 k
 e:l=L
structure apM (g:bc) (key:List UInt8) (K:Cj) (ak:Bool) (v:U) (L:am) (i:Nat) (x:List B) (k:Nat) (ae:bg) (l:am) :Prop where
 aP:ae 1=.str key
 aU:ae 2=.ptr 0 0 2
 bi:ae 5=.bool true
 dj:ae 8=.bool ak
 fI:ae 10=Gh K
 gX:ae 12=.bool (PC g key i)
 kx:ae 13=v
 s5:ae 15=.int .i64 i
 qp:ae 16=.bool (!Dg g (ik g) key x k)
 lU:ae 17=.int .i64 k
 e:l=L
structure apN (key:List UInt8) (K:Cj) (ak w:Bool) (L:am) (k:Nat) (ae:bg) (l:am) :Prop where
 aP:ae 1=.str key
 bi:ae 5=.bool true
 dj:ae 8=.bool ak
 fI:ae 10=Gh K
 gX:ae 12=.bool w
 s6:ae 18=.bool (decide (key∈K.l.take k))
 s7:ae 19=.int .i64 k
 e:l=L
structure gU (g:bc) (out:List (List B)) :Prop where
 hA:out.Nodup
 sub:∀ x∈out,x∈g.ids.l
 pre:∀ (i:Nat) (x:List B) (j:Nat),out[i]? = some x->g.ids.l[j]? = some x->∀ p∈cT g.ops.l j,p∈out.take i
theorem Z6 (g:bc) :gU g [] :=⟨ay6,fun x h=>by simp at h,fun i x j h=>by simp at h⟩
theorem Z8 {g:bc} (dz:hW g.ids.l) {out:List (List B)} (h:gU g out) {j:Nat} {x:List B} (af:g.ids.l[j]? = some x) (aC:x∉out) (ay:∀ p∈cT g.ops.l j,p∈out) :gU g (out++[x]) :=by
 refine⟨?_,fun y ax=>?_,fun i y t av aI p qO=>?_⟩
 ·rw[aw0];exact⟨h.hA,by simp,fun a aA b ag e=>by rw[awd] at ag; subst e; rw[ag] at aA; exact aC aA⟩
 ·rw[awl,awd] at ax;rcases ax with ax | ax
  ·exact h.sub y ax
  ·rw[ax]; exact avY af
 ·by_cases c3:i<out.length
  ·rw[avQ c3] at av;rw[awg (by omega)];exact h.pre i y t av aI p qO
  ·have Vt:i=out.length:=by
    have:=(avP.1 av).1;simp at this; omega
   subst Vt;rw[av2 (avR _)] at av;simp at av;subst av;rw[dz t j x aI af] at qO;rw[awg (avR _),awi];exact ay p qO
theorem Je {g:bc} {out:List (List B)} (h:gU g out) :out.length<=g.ids.l.length:=zL h.hA h.sub
def nS (g:bc) (out:List (List B)) :Nat->List (List B)
 | 0=>[]
 | k+1=>nS g out k++(match g.ids.l[k]? with | some x=>if x∉out/\∀ p∈cT g.ops.l k,p∈out then [x] else [] | none=>[])
theorem Kf {g:bc} {out:List (List B)} {k:Nat} {x:List B} (h:g.ids.l[k]? = some x) :nS g out (k+1)=nS g out k++(if x∉out/\∀ p∈cT g.ops.l k,p∈out then [x] else []) :=by
 show nS g out k++(match g.ids.l[k]? with | some x=>if x∉out/\∀ p∈cT g.ops.l k,p∈out then [x] else [] | none=>[])=_;rw[h]
theorem Kd (g:bc) (out:List (List B)) :∀ k,(nS g out k).length<=k
 | 0=>avR _
 | k+1=>by
  have aJ:=Kd g out k;cases h:g.ids.l[k]? with
  | none=>
   show (nS g out k++(match g.ids.l[k]? with | some x=>if x∉out/\∀ p∈cT g.ops.l k,p∈out then [x] else [] | none=>[])).length<=k+1;rw[h]; simp; omega
  | some x=>
   rw[Kf h,avW];split<;>simp<;>omega
theorem Ke {g:bc} {out:List (List B)} {x:List B}:∀ {k:Nat},k<=g.ids.l.length->(x∈nS g out k<->∃ j,j<k/\g.ids.l[j]? = some x/\x∉out/\∀ p∈cT g.ops.l j,p∈out)
 | 0,_=>by simp[nS]
 | k+1,hk=>by
  have aJ:=Ke (g:=g) (out:=out) (x:=x) (k:=k) (by omega);obtain⟨y,ax,_⟩:=bx (l:=g.ids.l) (k:=k) (by omega);rw[Kf ax,awl,aJ];constructor
  ·rintro (⟨j,h1,ad⟩ | h)
   ·exact⟨j,by omega,ad⟩
   ·split at h
    ·rename_i aG;rw[awd] at h;subst h;exact⟨k,by omega,ax,aG⟩
    ·cases h
  ·rintro⟨j,h1,ad,aj⟩;by_cases gc:j=k
   ·subst gc;rw[ax] at ad; obtain rfl:=Option.some.inj ad;right; rw[if_pos aj]; simp
   ·exact .inl ⟨j,by omega,ad,aj⟩
theorem acB {g:bc} (V:iE g) {out:List (List B)} (h:gU g out) (al:out.length<g.ids.l.length) :nS g out g.ids.l.length≠[] :=by
 intro ao;have dM:∀ (j:Nat) (x:List B),g.ids.l[j]? = some x->x∉out->∃ p∈cT g.ops.l j,p∉out:=fun j x ai af=>by
  apply Classical.byContradiction;intro aG;have:x∈nS g out g.ids.l.length:=(Ke (avR _)).2 ⟨j,(avP.1 ai).1,ai,af,fun p ay=>Classical.byContradiction fun ahO=>aG ⟨p,ay,ahO⟩⟩;rw[ao] at this; cases this
 have eQ:∀ j,pg g.ids.l g.ops.l j->∀ x,g.ids.l[j]? = some x->x∈out:=by
  intro j aq
  induction aq with
  | mk j av ay jI aJ=>
   intro x af;apply Classical.byContradiction;intro oo;obtain⟨p,qO,jf⟩:=dM j x af oo;obtain⟨t,aI⟩:=avT.1 (ay p qO);exact jf (aJ p qO t aI p aI)
 have:g.ids.l.length<=out.length:=by
  have qJ:g.ids.l.Nodup:=by
   refine aww.2 fun i j av ai hu e=>?_
   have h1:=avS av;rw[e] at h1;have:=jP V.c9 i j _ h1 (avS ai);omega
  exact zL qJ fun x af=>by
   obtain⟨j,ai⟩:=avT.1 af;exact eQ j (V.all j (by rw[<-V.len]; exact (avP.1 ai).1)) x ai
 omega
def CV (n:Int) :List U:=[.int .i64 n]
def sZ (s:cQ Int) :U:=cB 1 CV s
theorem acX (s:cQ Int) :(sZ s).closed=true:=ws (fun _=>rfl) s
structure abl (g:bc) (s:cQ Int) (m:Nat) (ae:bg) (l:am) :Prop where
 aP:ae 1=sZ s
 aU:ae 2=.ptr 0 0 2
 ex:∃ out v,ae 5=v/\cu 32 aO [.cells 2 [aK g.ids,bB g.ops]] l v out out.isEmpty/\gU g out/\m=g.ids.l.length - out.length
structure abk (g:bc) (s:cQ Int) (L:am) (v:U) (out:List (List B)) (k:Nat) (ae:bg) (l:am) :Prop where
 aP:ae 1=sZ s
 aU:ae 2=.ptr 0 0 2
 bi:ae 5=v
 dk:ae 7=.int .i64 k
 ex:∃ w,ae 6=w/\cu 32 aO L l w (nS g out k) (nS g out k).isEmpty
set_option maxHeartbeats 8000000 in
theorem alC (g:bc) (aq:et g) (V:iE g) (s:cQ Int) :
  c7 Tryz.prog GS 34 [cl g,sZ s] [] (c:=⟨fun r l=>∃ out,gU g out/\out.length=g.ids.l.length/\Rd l r (aK (dH out))⟩) :=by
 apply bp Tryz.func34 [];have az:cy=140737488355328:=rfl;have dz:=jP V.c9;have w1:=V.n60;have jh:=V.len;have fE:cK (.ar 32) (aK g.ids)=some (.int .i64 g.ids.l.length) :=by simp[aK]
 have dL:cK (.ar 11) (bB g.ops)=some (.int .i64 g.ops.l.length) :=by simp[bB]
 have jK:cK (.ar 1) (sZ s)=some (.int .i64 s.l.length) :=q0 _;simp[cl,cP];refine vr (abl g s) ?_ g.ids.l.length _ _ ⟨by simp,by simp,[],.aT,by simp,by simpa using cu.nil,Z6 g,by simp⟩;rintro m ae l ⟨aP,aU,out,v,bi,e8,bM,hm⟩;obtain⟨ae,rfl⟩:=kj aP aU bi;clear aP aU bi;have l2:=e8.len;have dw:=Je bM;have gw:l[0]? = some (.cells 2 [aK g.ids,bB g.ops]) :=by rw[e8.same 0 (by simp)]; rfl
 have gC:1<=l.length:=by have:=e8.le; simpa using this
 by_cases LS:out.length<g.ids.l.length
 ·simp[l2,gw,fE,LS];refine cI g.ids.l.length (abk g s l v out) ?_ ⟨by simp,by simp,by simp,by simp,.aT,by simp,by simpa [nS] using cu.nil⟩;rintro k ae l1 hk ⟨aP,aU,bi,dk,w,b8,n9⟩;obtain⟨ae,rfl⟩:=lj aP aU bi b8 dk;clear aP aU bi b8 dk;have dV:l1[0]? = some (.cells 2 [aK g.ids,bB g.ops]) :=by rw[n9.same 0 (by omega)]; exact gw
  have Mn:=e8.frame n9.le n9.same;by_cases cq:k<g.ids.l.length
  ·obtain⟨x,af,cE⟩:=bx cq;obtain⟨o,ap,dd⟩:=bx (l:=g.ops.l) (k:=k) (by omega);have ji:=aq.ids x cE;have bf:=cC ji;have aR:IntKind.i64.wrap ((k:Int)+1)=((k+1:Nat) :Int) :=by rw[IntKind.wrap_i64]; omega
   have ir:ck (.ar 32) (aK g.ids) (.int .i64 (k:Int))=some (.b3 (aO x) 0) :=by simp[aK,af]
   have bN:ck (.ar 11) (bB g.ops) (.int .i64 (k:Int))=some (.b3 (a2 o) 0) :=by simp[bB,ap]
   have ht:(a2 o)[1]? = some (aK o.br) :=rfl;have fQ:=e4 x;have jF:=eK o.br;have pH:cT g.ops.l k=o.br.l:=lI ap;have cd:=Kf (out:=out) af;have ej:=Kd g out k;rw[pH] at cd;have Hz:gv (dH out) :=fun y ax=>by rw[ew] at ax; exact aq.ids y (bM.sub y ax)
   have ec:=YI (dH out) Hz (by rw[ew]; omega) x ji;have eQ:=Og (dH out) Hz (by rw[ew]; omega) o.br (aq.ops o dd).ids (aq.ops o dd).len;rw[ew] at ec eQ;have kD:=Mn.sq (fun x=>e4 x) (dH out) (by rw[ua]) (ew _);obtain⟨O,du⟩:∃ O,O=a2 o:=⟨_,rfl⟩
   obtain⟨Y,eD⟩:∃ Y,Y=aO x:=⟨_,rfl⟩
   rw[<-du] at bN ht;rw[<-eD] at ir bf fQ ec;have pI:bt (rep 32 (.int .u8 0)) 0 Y=Y:=eM (by rw[bf]; rfl);simp[dV,fE,cq,ir,bf,avO];refine iB ec (.cons kD (.cons (.same _ (by simp[U.closed,fQ])) .nil)) rfl ?_;by_cases oo:x∈out
   ·rw[if_neg (fun h=>h.1 oo),awp] at cd;simp[oo,aR];exact⟨cq,by simp,by simp,by simp,by simp,w,by simp,by rw[cd]; exact n9⟩
   ·simp[oo,dV,dL,bN,ht];refine iB eQ (.cons kD (.cons (.same _ jF) .nil)) rfl ?_;by_cases iG:∀ p∈o.br.l,p∈out
    ·have fo:ks out o.br.l=true:=by unfold ks; exact decide_eq_true iG
     rw[if_pos ⟨oo,iG⟩] at cd;obtain⟨w',l',iK,kJ,rf⟩:=NM (by_:=32) (n9.more [a7.cells 32 (aO x)]) x (b:=l1.length) (by simp) (by rw[<-eD]; exact bf) (by omega) (by omega) (by rw[az]; omega);rw[<-eD] at iK;simp[fo,dV,ir,bf,avO,pI,iK];refine dp.cx ?_;simp[aR];exact⟨cq,by simp,by simp,by simp,by simp,w',by simp,by rw[cd,show (nS g out k++[x]).isEmpty=false by simp]; exact kJ⟩
    ·have fo:ks out o.br.l=false:=by unfold ks; exact decide_eq_false iG
     rw[if_neg (fun h=>iG h.2),awp] at cd;simp[fo,aR];exact⟨cq,by simp,by simp,by simp,by simp,w,by simp,by rw[cd]; exact n9⟩
  ·have gj:k=g.ids.l.length:=by omega
   subst gj;have bI:=acB V bM LS;obtain⟨C,nf⟩:∃ C,C=nS g out g.ids.l.length:=⟨_,rfl⟩
   have fp:∀ y,y∈C->∃ j,g.ids.l[j]? = some y/\y∉out/\∀ p∈cT g.ops.l j,p∈out:=fun y ax=>by
    rw[nf] at ax;obtain⟨j,_,ad⟩:=(Ke (avR _)).1 ax;exact⟨j,ad⟩
   have ej:=Kd g out g.ids.l.length;rw[<-nf] at n9 bI ej;have Lf:0<C.length:=List.length_pos_iff.2 bI;have Lg:¬ (C.length:Int)=0:=by omega
   have mP:=n9.len;obtain⟨k8,akQ,_,_,_,_⟩:=id n9
   -- whichever is taken
   have fin:∀ a:Nat,a<C.length->∃ y p c x aZ l',C[a]? = some y/\y.length=32/\ck (.ar 32) w (.int .i64 (a:Int))=some p/\eW l1 p=some (c,x)/\x+32<=c.length/\(c.drop x).take 32=aO y ∧
     gx (l1++[a7.cells 32 (aO y)]) 32 32 v (.ar 32 l1.length 0 1 1 32)=some (aZ,l')/\cu 32 aO [.cells 2 [aK g.ids,bB g.ops]] l' aZ (out++[y]) false/\gU g (out++[y]) :=fun a aA=>by
    obtain⟨y,ax,cr⟩:=bx aA;obtain⟨j,ai,HS,aiy⟩:=fp y cr;have mW:=aq.ids y (avY ai);obtain⟨p,c,x,aV,a1,a3,a4⟩:=akQ.q.get (k:=.i64) (i:=a) (e:=aO y) (by rw[avV,ax]; rfl);obtain⟨aZ,l',iK,kJ,rf⟩:=NM (by_:=32) (Mn.more [a7.cells 32 (aO y)]) y (b:=l1.length) (by simp) (cC mW) (by omega) (by omega) (by rw[az]; omega);exact⟨y,p,c,x,aZ,l',ax,mW,aV,a1,a3,a4,iK,kJ,Z8 dz bM ai HS aiy⟩
   have Me:=Mn.len;by_cases y4:out.length<s.l.length
   ·obtain⟨q,aW,_⟩:=bx y4;have DJ:ck (.ar 1) (sZ s) (.int .i64 (out.length:Int))=some (.b3 (CV q) 0) :=by unfold sZ; rw[r1]; simp[aW]
    by_cases MA:0<q
    ·obtain⟨IJ,rfl⟩:=axg (Int.le_of_lt MA);have vc:0<IJ:=by omega
     have D1:=CA IJ (C.length:Int) (by omega);rw[awZ] at D1;obtain⟨y,p,c,x,aZ,l',ax,mW,aV,a1,a3,a4,iK,kJ,rf⟩:=fin (IJ % C.length) (axK _ Lf)
     have cg:=cC mW;obtain⟨Y,eD⟩:∃ Y,Y=aO y:=⟨_,rfl⟩
     rw[<-eD] at cg a4 iK;have pI:bt (rep 32 (.int .u8 0)) 0 Y=Y:=eM (by rw[cg]; rfl);obtain⟨a,afL⟩:∃ a,a=IJ % C.length:=⟨_,rfl⟩
     rw[<-afL] at aV D1;simp[dV,fE,mP,bI,Lg,l2,Me,jK,y4,DJ,CV,MA,vc,D1,aV,a1,a3,a4,cg,pI,avO,iK];refine dp.cx ?_;simp;exact⟨_,by simp; omega,by simp,by simp,out++[y],aZ,by simp,by rw[show (out++[y]).isEmpty=false by simp]; exact kJ,rf,rfl⟩
    ·obtain⟨y,p,c,x,aZ,l',ax,mW,aV,a1,a3,a4,iK,kJ,rf⟩:=fin 0 Lf;have cg:=cC mW;obtain⟨Y,eD⟩:∃ Y,Y=aO y:=⟨_,rfl⟩
     rw[<-eD] at cg a4 iK;have pI:bt (rep 32 (.int .u8 0)) 0 Y=Y:=eM (by rw[cg]; rfl);have ru:ck (.ar 32) w (.int .i64 0)=some p:=aV;simp[dV,fE,mP,bI,Lg,l2,Me,jK,y4,DJ,CV,MA,ru,a1,a3,a4,cg,pI,avO,iK];refine dp.cx ?_;simp;exact⟨_,by simp; omega,by simp,by simp,out++[y],aZ,by simp,by rw[show (out++[y]).isEmpty=false by simp]; exact kJ,rf,rfl⟩
   ·obtain⟨y,p,c,x,aZ,l',ax,mW,aV,a1,a3,a4,iK,kJ,rf⟩:=fin 0 Lf;have cg:=cC mW;obtain⟨Y,eD⟩:∃ Y,Y=aO y:=⟨_,rfl⟩
    rw[<-eD] at cg a4 iK;have pI:bt (rep 32 (.int .u8 0)) 0 Y=Y:=eM (by rw[cg]; rfl);have ru:ck (.ar 32) w (.int .i64 0)=some p:=aV;simp[dV,fE,mP,bI,Lg,l2,Me,jK,y4,ru,a1,a3,a4,cg,pI,avO,iK];refine dp.cx ?_;simp;exact⟨_,by simp; omega,by simp,by simp,out++[y],aZ,by simp,by rw[show (out++[y]).isEmpty=false by simp]; exact kJ,rf,rfl⟩
 ·simp[l2,gw,fE,LS];exact⟨out,bM,by omega,e8.rd (fun x=>e4 x) (dH out) (by rw[ua]) (ew _)⟩
theorem akK (g:bc) (aq:et g) (V:iE g) (s:cQ Int) :∃ out,gU g out/\out.length=g.ids.l.length/\bz Tryz.prog GS 34 [cl g,sZ s] (aK (dH out)) :=by
 obtain⟨r,l',AZ,dw,out,h1,ad,kD⟩:=alC g aq V s;exact⟨out,h1,ad,bL Tryz.checked.mixed bE ⟨r,l',AZ,dw,kD⟩⟩
theorem abI {g:bc} {out:List (List B)} (h:gU g out) {i m:Nat} {y:List B} (av:out[i]? = some y) (hm:g.ids.l[m]? = some y) :∀ {j:Nat},ii g.ids.l g.ops.l (cT g.ops.l m) j->∀ x,g.ids.l[j]? = some x->x∈out.take i:=by
 intro j az
 induction az with
 | start p j ay ai=>
  intro x af;rw[ai] at af; obtain rfl:=Option.some.inj af;exact h.pre i y m av hm p ay
 | step fU p j az ay ai aJ=>
  intro x af;rw[ai] at af; obtain rfl:=Option.some.inj af;have aW:∃ q,g.ids.l[fU]? = some q:=by
   cases az with
   | start bV _ gp dv=>exact⟨bV,dv⟩
   | step MX bV _ kZ gp dv=>exact⟨bV,dv⟩
  obtain⟨q,aW⟩:=aW;have ahX:=aJ q aW;obtain⟨a,aA⟩:=avT.1 ahX;have gB:=(avP.1 aA).1;rw[av1] at gB;rw[awb (by omega)] at aA;have:=h.pre a q fU aA aW p ay;exact awh (by rw[axd]; rw[awQ (by omega)]; exact this:p∈(out.take i).take a)
def x1 (g:bc) (D:List (List B)) (t:bq) :Prop:=∃ (j:Nat) (o:bm) (x:List B),x∈D/\g.ids.l[j]? = some x/\g.ops.l[j]? = some o/\o.act.kind=2#8/\t=⟨o.act.key,x⟩
def Aa (g:bc) (D:List (List B)) (t:bq) :Prop:=∃ (j:Nat) (o:bm) (x:List B),x∈D/\g.ids.l[j]? = some x/\g.ops.l[j]? = some o/\o.act.kind=3#8/\o.act.key=t.key/\t.id∈ik g j
structure x7 (g:bc) (out:List (List B)) (k:Nat) (s:fh) :Prop where
 ok:hU s.l
 jC:mG s.l=true
 len:s.l.length<=k
 mem:∀ t,t∈s.l<->x1 g (out.take k) t/\¬ Aa g (out.take k) t
theorem anp (g:bc) (out:List (List B)) :x7 g out 0 none:=
 ⟨fun t h=>(by cases h),rfl,avR _,fun t=>⟨fun h=>(by cases h),fun ⟨⟨j,o,x,af,_⟩,_⟩=>by simp at af⟩⟩
theorem Bx {out:List (List B)} {k:Nat} {x y:List B} (hk:out[k]? = some x) :y∈out.take (k+1)<->y∈out.take k\/y=x:=by
 rw[av7,hk,awl]; simp
theorem XM {out:List (List B)} (aC:out.Nodup) {k:Nat} {x:List B} (hk:out[k]? = some x) :x∉out.take k:=fun h=>by
 obtain⟨a,aA⟩:=avT.1 h;have gB:=(avP.1 aA).1;rw[av1] at gB;rw[awb (by omega)] at aA;obtain⟨h1,ad⟩:=avP.1 hk;obtain⟨aj,aE⟩:=avP.1 aA;exact aww.1 aC a k aj h1 (by omega) (aE.trans ad.symm)
theorem abB {g:bc} (dz:hW g.ids.l) {out:List (List B)} {k j:Nat} {x:List B} {o:bm} (hk:out[k]? = some x) (af:g.ids.l[j]? = some x) (ap:g.ops.l[j]? = some o) (t:bq) :x1 g (out.take (k+1)) t<->x1 g (out.take k) t\/(o.act.kind=2#8/\t=⟨o.act.key,x⟩) :=by
 constructor
 ·rintro⟨bl,cO,kn,h1,ad,aj,aE,aX⟩;rcases (Bx hk).1 h1 with h | h
  ·exact .inl ⟨bl,cO,kn,h,ad,aj,aE,aX⟩
  ·subst h;have:=dz bl j kn ad af;subst this;rw[ap] at aj; obtain rfl:=Option.some.inj aj;exact .inr ⟨aE,aX⟩
 ·rintro (⟨bl,cO,kn,h1,ad⟩ | ⟨h1,ad⟩)
  ·exact⟨bl,cO,kn,(Bx hk).2 (.inl h1),ad⟩
  ·exact⟨j,o,x,(Bx hk).2 (.inr rfl),af,ap,h1,ad⟩
theorem amb {g:bc} (dz:hW g.ids.l) {out:List (List B)} {k j:Nat} {x:List B} {o:bm} (hk:out[k]? = some x) (af:g.ids.l[j]? = some x) (ap:g.ops.l[j]? = some o) (t:bq) :Aa g (out.take (k+1)) t<->Aa g (out.take k) t\/(o.act.kind=3#8/\o.act.key=t.key/\t.id∈ik g j) :=by
 constructor
 ·rintro⟨bl,cO,kn,h1,ad,aj,aE,aX⟩;rcases (Bx hk).1 h1 with h | h
  ·exact .inl ⟨bl,cO,kn,h,ad,aj,aE,aX⟩
  ·subst h;have:=dz bl j kn ad af;subst this;rw[ap] at aj; obtain rfl:=Option.some.inj aj;exact .inr ⟨aE,aX⟩
 ·rintro (⟨bl,cO,kn,h1,ad⟩ | ⟨h1,ad⟩)
  ·exact⟨bl,cO,kn,(Bx hk).2 (.inl h1),ad⟩
  ·exact⟨j,o,x,(Bx hk).2 (.inr rfl),af,ap,h1,ad⟩
theorem anq {g:bc} (aq:et g) (V:iE g) {out:List (List B)} (bM:gU g out) {k j:Nat} {x:List B} {o:bm} {s:fh} (ak:x7 g out k s) (hk:out[k]? = some x) (af:g.ids.l[j]? = some x) (ap:g.ops.l[j]? = some o) :
  ∃ eH,ga s o (dH (ik g j))=(eH,0)/\x7 g out (k+1) eH:=by
 have dz:=jP V.c9;have cq:=(avP.1 hk).1;have w1:=V.n60;have jh:=V.len;have bY:=Je bM;have ef:=ak.len;have aD:kI s.l=0:=Tx (by omega) ak.jC;obtain⟨au,e1⟩:=V.jC j o x ap af;have h1:=zS au;obtain⟨aeY,_⟩:=v8 g aq V af;have ad:¬ 60<(dH (ik g j)).l.length:=by rw[ew]; have:=aeY.len; omega
 have AM:=abB dz hk af ap;have k0:=amb dz hk af ap;have Wz:=XM bM.hA hk;have ji:=aq.ids x (avY af);unfold ga;rw[if_pos aD,if_pos h1,if_neg ad];by_cases bP:o.act.kind=2#8
 ·rw[if_pos bP,e1];have l4:(⟨o.act.key,x⟩:bq)∉s.l:=fun h=>by
   obtain⟨⟨bl,cO,kn,aV,a1,a3,a4,a5⟩,_⟩:=(ak.mem _).1 h;have:x=kn:=congrArg bq.id a5;rw[<-this] at aV;exact Wz aV
  have aF:¬ rF s.l ⟨o.act.key,x⟩=true:=fun h=>l4 ((TZ ak.jC).1 h)
  refine⟨some (jk s.l (jz s.l ⟨o.act.key,x⟩) ⟨o.act.key,x⟩),by unfold nO; rw[if_neg aF,if_neg (by omega)],M7 ak.ok ji,aeN ak.jC l4 (ajt V ap bP),by rw[cQ.zi,M6]; omega,fun t=>?_⟩;rw[cQ.zi,aiK,ak.mem t,AM t,k0 t];have dn:¬ o.act.kind=3#8:=fun h=>by rw[bP] at h; cases h
  constructor
  ·rintro (h | ⟨aV,a1⟩)
   ·subst h;refine⟨.inr ⟨bP,rfl⟩,fun aG=>?_⟩;rcases aG with ⟨bl,cO,y,de,df,fw,m7,sR,FO⟩ | aG
    ·obtain⟨i,av⟩:=avT.1 de;have c3:=(avP.1 av).1;rw[av1] at c3;rw[awb (by omega)] at av;have az:=((v8 g aq V df).1.mem j x af).1 FO;have:=abI bM av df az x af;exact Wz (awh (by rw[axd,awQ (by omega)]; exact this:x∈(out.take k).take i))
    ·exact dn aG.1
   ·exact⟨.inl aV,fun aG=>aG.elim a1 fun aG=>dn aG.1⟩
  ·rintro⟨aV | aV,a1⟩
   ·exact .inr ⟨aV,fun aG=>a1 (.inl aG)⟩
   ·exact .inl aV.2
 ·rw[if_neg bP];have UU:∀ t,x1 g (out.take (k+1)) t<->x1 g (out.take k) t:=fun t=>by
   rw[AM t]; exact⟨fun h=>h.elim id fun h=>absurd h.1 bP,.inl⟩
  by_cases dn:o.act.kind=3#8
  ·rw[if_pos dn];have Bg:(Pb (fun l=>l.filter fun t=>!js o (dH (ik g j)) t) s).l=s.l.filter fun t=>!js o (dH (ik g j)) t:=by cases s<;>rfl
   refine⟨_,rfl,?_,?_,?_,fun t=>?_⟩
   ·rw[Bg]; exact fun t aI=>ak.ok t (awP.1 aI).1
   ·rw[Bg]; exact aeM ak.jC
   ·rw[Bg]; have:=axm (fun t=>!js o (dH (ik g j)) t) s.l; omega
   ·rw[Bg,awP,ak.mem t,UU t,k0 t];have ci:(!js o (dH (ik g j)) t)=true<->¬ (t.key=o.act.key/\t.id∈ik g j) :=by
     unfold js;rw[ew];simp;exact⟨fun h aA=>h.elim (fun h=>absurd aA h) id,fun h=>Classical.or_iff_not_imp_left.2 fun h'=>h (Classical.not_not.1 h')⟩
    rw[ci];constructor
    ·rintro⟨⟨aV,a1⟩,a3⟩;exact⟨aV,fun aG=>aG.elim a1 fun aG=>a3 ⟨aG.2.1.symm,aG.2.2⟩⟩
    ·rintro⟨aV,a1⟩;exact⟨⟨aV,fun aG=>a1 (.inl aG)⟩,fun aG=>a1 (.inr ⟨dn,aG.1.symm,aG.2⟩)⟩
  ·rw[if_neg dn];refine⟨_,rfl,ak.ok,ak.jC,by omega,fun t=>?_⟩;rw[ak.mem t,UU t,k0 t];exact⟨fun ⟨aV,a1⟩=>⟨aV,fun aG=>aG.elim a1 fun aG=>dn aG.1⟩,fun ⟨aV,a1⟩=>⟨aV,fun aG=>a1 (.inl aG)⟩⟩
theorem Po {g:bc} {out:List (List B)} (h:gU g out) (al:out.length=g.ids.l.length) {x:List B} (af:x∈g.ids.l) :x∈out:=by
 apply Classical.byContradiction;intro aC;have:=zL (a:=x::out) (b:=g.ids.l) (aya.2 ⟨aC,h.hA⟩) (fun y ax=>by
  rcases awA.1 ax with e | e
  ·rw[e]; exact af
  ·exact h.sub y e)
 simp at this; omega
theorem ano {g:bc} (aq:et g) (aD:ep g=0) {out:List (List B)} (bM:gU g out) (al:out.length=g.ids.l.length) {s:fh} (ak:x7 g out out.length s) :s.l=(q4 g).l:=by
 have V:=mn aD;have dz:=jP V.c9;unfold q4;rw[if_pos aD,Fj];have ly:=ak.mem;rw[awi] at ly;refine Fg (lt:=e2) zn (fun a b c h1 ad=>sd h1 ad) ((Dj _).1 ak.jC).2 (am6 (P2 V (avR _))) (fun t=>?_);rw[ZD,ly t,JP];have k0:∀ (key:List UInt8) (x:List B),x∈g.ids.l->(Aa g out ⟨key,x⟩<->ph g g.ops.l.length ⟨key,x⟩) :=fun key x cE=>by
  obtain⟨i,av⟩:=avT.1 cE;constructor
  ·rintro⟨j,o,y,aV,a1,a3,a4,a5,rv⟩;exact⟨j,o,(avP.1 a3).1,a3,a4,a5,(Ae dz av).2 (((v8 g aq V a1).1.mem i x av).1 rv)⟩
  ·rintro⟨j,o,aV,a1,a3,a4,a5⟩;obtain⟨y,ax,cr⟩:=bx (l:=g.ids.l) (k:=j) (by rw[V.len]; exact aV);exact⟨j,o,y,Po bM al cr,ax,a1,a3,a4,((v8 g aq V ax).1.mem i x av).2 ((Ae dz av).1 a5)⟩
 constructor
 ·rintro⟨⟨j,o,x,aV,a1,a3,a4,a5⟩,rv⟩;subst a5;exact⟨j,o,x,(avP.1 a3).1,a3,a1,a4,fun h=>rv ((k0 _ _ (avY a1)).2 h),rfl⟩
 ·rintro⟨j,o,x,aV,a1,a3,a4,a5,rv⟩;subst rv;have cE:=avY a3;exact⟨⟨j,o,x,Po bM al cE,a3,a1,a4,rfl⟩,fun h=>a5 ((k0 _ _ cE).1 h)⟩
def vW (C:b4->Prop) (r:b4) :Prop:=C r/\∀ q,C q->q.key=r.key->jR q r=false
structure vY (C:b4->Prop) (l:List b4) :Prop where
 jC:lV l=true
 mem:∀ r,r∈l<->vW C r
 all:∀ q,C q->∃ r∈l,r.key=q.key
theorem I0 {C D:b4->Prop} {l:List b4} (h:∀ r,C r<->D r) (al:vY C l) :vY D l:=by
 have:C=D:=funext fun r=>propext (h r)
 rw[<-this]; exact al
theorem amf:vY (fun _=>False) [] :=⟨rfl,fun r=>⟨fun h=>(by cases h),fun h=>h.1.elim⟩,fun q h=>h.elim⟩
theorem amg {C:b4->Prop} {l:List b4} {x:b4} (h:vY C l) (af:jr x=true) (e1:∀ q,C q->q.id≠x.id) :vY (fun r=>C r\/r=x) (iZ l x) :=by
 have jI:=h.jC;have ds:=h.mem;have h8:=h.all;have gl:=fun r=>Zu jI x r
 have yJ:∀ {r},vW C r->x.key≠r.key\/jR x r=false->vW (fun r=>C r\/r=x) r:=fun {r} ⟨h1,aj⟩ h=>⟨.inl h1,fun q aW hk=>by
  rcases aW with aW | rfl
  ·exact aj q aW hk
  ·exact h.resolve_left fun aC=>aC hk⟩
 have zb:∀ {r},vW (fun r=>C r\/r=x) r->r=x\/vW C r:=fun {r} ⟨h1,aj⟩=>by
  rcases h1 with h1 | h1
  ·exact .inr ⟨h1,fun q aW hk=>aj q (.inl aW) hk⟩
  ·exact .inl h1
 have hS:∀ {r},vW (fun r=>C r\/r=x) r->x.key=r.key->jR x r=false:=fun {r} h hk=>h.2 x (.inr rfl) hk
 suffices aG:(∀ r,r∈iZ l x<->vW (fun r=>C r\/r=x) r)/\(∀ q,(C q\/q=x)->∃ r∈iZ l x,r.key=q.key) from ⟨Uo jI af,aG.1,aG.2⟩
 by_cases qC:∃ y∈l,y.key=x.key
 ·obtain⟨y,ax,jM⟩:=qC;have cg:=(ds y).1 ax;cases al:jR x y with
  | true=>
   refine⟨fun r=>?_,fun q aW=>?_⟩
   ·rw[(gl r).1 y ax jM al];constructor
    ·rintro (e | ⟨h,hT⟩)
     ·refine⟨.inr e,fun q aW hk=>?_⟩;rw[e] at hk ⊢;rcases aW with aW | aW
      ·cases eP:jR q x with
       | false=>rfl
       | true=>
        have:=cg.2 q aW (by rw[hk,jM]);rw[Xs eP al] at this; cases this
      ·rw[aW]; exact Ic _
     ·exact yJ ((ds r).1 h) (.inl fun e=>hT e.symm)
    ·intro h;rcases zb h with e | e
     ·exact .inl e
     ·refine .inr ⟨(ds r).2 e,fun hT=>?_⟩;have h1:=hS h hT.symm;rw[AG jI ((ds r).2 e) ax (by rw[hT,jM]),al] at h1; cases h1
   ·by_cases e:q.key=x.key
    ·exact⟨x,((gl x).1 y ax jM al).2 (.inl rfl),e.symm⟩
    ·obtain⟨r,az,hT⟩:=h8 q (aW.resolve_right fun h=>e (by rw[h]));exact⟨r,((gl r).1 y ax jM al).2 (.inr ⟨az,by rw[hT]; exact e⟩),hT⟩
  | false=>
   rw[(gl x).2.1 y ax jM al];refine⟨fun r=>⟨fun h=>yJ ((ds r).1 h) ?_,fun h=>?_⟩,fun q aW=>?_⟩
   ·by_cases hT:r.key=x.key
    ·right;rw[AG jI h ax (by rw[hT,jM])]; exact al
    ·exact .inl fun e=>hT e.symm
   ·rcases zb h with e | e
    ·exfalso;have aX:=h.2 y (.inl cg.1) (by rw[e]; exact jM);rw[e] at aX;have:=Xr (e1 y cg.1) aX;rw[al] at this; cases this
    ·exact (ds r).2 e
   ·rcases aW with aW | aW
    ·exact h8 q aW
    ·exact⟨y,ax,by rw[aW]; exact jM⟩
 ·have dM:∀ y∈l,y.key≠x.key:=fun y ax e=>qC ⟨y,ax,e⟩
  refine⟨fun r=>?_,fun q aW=>?_⟩
  ·rw[(gl r).2.2 dM];constructor
   ·rintro (e | h)
    ·refine⟨.inr e,fun q aW hk=>?_⟩;rw[e] at hk ⊢;rcases aW with aW | aW
     ·obtain⟨p,ay,DW⟩:=h8 q aW;exact absurd (by rw[DW,hk]) (dM p ay)
     ·rw[aW]; exact Ic _
    ·exact yJ ((ds r).1 h) (.inl fun e=>dM r h e.symm)
   ·intro h;rcases zb h with e | e
    ·exact .inl e
    ·exact .inr ((ds r).2 e)
  ·rcases aW with aW | aW
   ·obtain⟨r,az,hT⟩:=h8 q aW;exact⟨r,((gl r).2.2 dM).2 (.inr az),hT⟩
   ·exact⟨x,((gl x).2.2 dM).2 (.inl rfl),by rw[aW]⟩
def Cf (g:bc) (D:List (List B)) (r:b4) :Prop:=∃ (j:Nat) (o:bm) (x:List B),x∈D/\g.ids.l[j]? = some x/\g.ops.l[j]? = some o/\o.act.kind=4#8/\r=gd o x
def FC (g:bc) (D:List (List B)) (x:List B) :Prop:=x∈D/\∀ y∈D,∀ j,g.ids.l[j]? = some y->x∉cT g.ops.l j
theorem ann {g:bc} {a b:List (List B)} {k:Nat} {s:fh} (h:a.take k=b.take k) (ak:x7 g a k s) :x7 g b k s:=⟨ak.ok,ak.jC,ak.len,by rw[<-h]; exact ak.mem⟩
structure kL (g:bc) (D:List (List B)) (s:cp) :Prop where
 c6:s.c6=(D.length:Int)
 set:x7 g D D.length s.set
 c8:vY (Cf g D) s.c8.l
 E5:iz s.c8.l
 nC:s.c8.l.length<=D.length
 ak:s.b5.l.Pairwise fun a b=>hz a b=true
 hm:∀ x,x∈s.b5.l<->FC g D x
theorem aer (g:bc) :kL g [] eN:=
 ⟨rfl,anp g [],I0 (fun r=>⟨fun h=>h.elim,fun ⟨j,o,x,h,_⟩=>by simp at h⟩) amf,fun r h=>(by cases h),avR _,List.Pairwise.nil,fun x=>⟨fun h=>(by cases h),fun h=>(by cases h.1)⟩⟩
theorem ajZ {l:List (List B)} (h:l.Pairwise fun a b=>hz a b=true) :l.Nodup:=h.imp fun {a b} h e=>by subst e; rw[Ib] at h; cases h
theorem kL.aC {g:bc} {D:List (List B)} {s:cp} (h:kL g D s) :s.b5.l.Nodup:=ajZ h.ak
theorem kL.al {g:bc} {D:List (List B)} {s:cp} (h:kL g D s) :s.b5.l.length<=D.length:=zL h.aC fun x af=>((h.hm x).1 af).1
theorem kL.st {g:bc} (aq:et g) {D:List (List B)} (bM:gU g D) {s:cp} (h:kL g D s) (jD:D.length<=1000000) :qb s D.length:=by
 have h1:=h.al;have ad:=h.set.len;have aj:=h.nC;exact⟨⟨h.set.ok,h.E5,fun x af=>aq.ids x (bM.sub x ((h.hm x).1 af).1),by omega,by omega,by omega⟩,h.c6,h1,h.aC,h.nC⟩
theorem anU {g:bc} {D:List (List B)} {x:List B} (h:gU g (D++[x])) :gU g D:=by
 refine⟨(aw0.1 h.hA).1,fun y ax=>h.sub y (axA _ ax),fun i y j av ai p ay=>?_⟩;have c3:=(avP.1 av).1;have:=h.pre i y j (by rw[avQ c3]; exact av) ai p ay
 rwa [awg (by omega)] at this
theorem Pp {g:bc} {D:List (List B)} (h:gU g D) {y:List B} (ax:y∈D) {j:Nat} (ai:g.ids.l[j]? = some y) {p:List B} (ay:p∈cT g.ops.l j) :p∈D:=by
 obtain⟨i,av⟩:=avT.1 ax;exact awh (h.pre i y j av ai p ay)
theorem Y0 {l:List b4} (h:l.length<=60) (aq:lV l=true) :lK l=0:=by
 unfold lK;rw[if_neg (by omega),if_pos aq]
theorem T4 {g:bc} (aq:et g) (aD:ep g=0) {D:List (List B)} {x:List B} (bM:gU g (D++[x])) {s:cp} (h:kL g D s) :∃ eH,i9 s g x=(eH,0)/\kL g (D++[x]) eH:=by
 have V:=mn aD;have dz:=jP V.c9;have w8:(D++[x])[D.length]? = some x:=by simp
 obtain⟨j,af⟩:=avT.1 (bM.sub x (by simp));have hm:=avY af;have ji:=aq.ids x hm;obtain⟨o,ap,dd⟩:=bx (l:=g.ops.l) (k:=j) (by rw[<-V.len]; exact (avP.1 af).1);have afE:=anU bM;have bn:=Je bM;rw[avW,List.length_singleton] at bn;have w1:=V.n60;have jh:=V.len;have Bp:x∉D:=fun aG=>(aw0.1 bM.hA).2.2 x aG x (by simp) rfl
 have Wx:x∉s.b5.l:=fun aG=>Bp ((h.hm x).1 aG).1
 obtain⟨au,e1⟩:=V.jC j o x ap af;have gk:=zS au;have ahJ:∀ p∈o.br.l,p∈D:=fun p ay=>by
  have:=bM.pre D.length x j w8 af p (by rw[lI ap]; exact ay)
  rwa [List.take_left] at this
 obtain⟨dR,oj,dQ⟩:=anq aq V bM (ann (by rw[List.take_left,awi]) h.set) w8 af ap;obtain⟨uS,_⟩:=v8 g aq V af;have j2:g.ids.l.length<=60:=by omega
 have u0:ga s.set o (dH (i4 g j))=ga s.set o (dH (ik g j)) :=Qe _ _ (fun p=>by
  rw[ew,ew];constructor
  ·intro h;obtain⟨bl,ai⟩:=avT.1 (FM h);exact (uS.mem bl p ai).2 ((Ae dz ai).1 h)
  ·intro h;obtain⟨bl,ai⟩:=avT.1 (uS.sub p h);exact (Ae dz ai).2 ((uS.mem bl p ai).1 h)) (by rw[ew]; have:=FL g j; omega) (by rw[ew]; have:=uS.len; omega)
 have mb:=h.nC;have ix:eV s.c8.l o x=eV s.c8.l o x:=rfl;have Mz:(eV s.c8.l o x).length<=D.length+1/\iz (eV s.c8.l o x)/\vY (Cf g (D++[x])) (eV s.c8.l o x) :=by
  have lX:∀ r,Cf g (D++[x]) r<->Cf g D r\/(o.act.kind=4#8/\r=gd o x) :=fun r=>by
   constructor
   ·rintro⟨bl,cO,kn,aV,a1,a3,a4,a5⟩;rw[awl,awd] at aV;rcases aV with aV | aV
    ·exact .inl ⟨bl,cO,kn,aV,a1,a3,a4,a5⟩
    ·subst aV;have:=dz bl j kn a1 af;subst this;rw[ap] at a3; obtain rfl:=Option.some.inj a3;exact .inr ⟨a4,a5⟩
   ·rintro (⟨bl,cO,kn,aV,a1⟩ | ⟨aV,a1⟩)
    ·exact⟨bl,cO,kn,axA _ aV,a1⟩
    ·exact⟨j,o,x,by simp,af,ap,aV,a1⟩
  unfold eV;by_cases dG:o.act.kind=4#8
  ·rw[if_pos dG];have:=OU (x:=gd o x) h.E5 ⟨ji,(aq.ops o dd).val⟩;refine⟨by omega,this.1,I0 (fun r=>?_) (amg h.c8 (Y8 V ap af dG) fun q ⟨bl,cO,kn,aV,a1,a3,a4,a5⟩ e=>?_)⟩
   ·rw[lX r]; exact⟨fun h=>h.imp id fun h=>⟨dG,h⟩,fun h=>h.imp id fun h=>h.2⟩
   ·rw[a5] at e;have bJ:kn=x:=e;rw[bJ] at aV; exact Bp aV
  ·rw[if_neg dG];exact⟨by omega,h.E5,I0 (fun r=>by rw[lX r]; exact⟨.inl,fun h=>h.elim id fun h=>absurd h.1 dG⟩) h.c8⟩
 have az:iC s.c8 o=(o8 s.c8 o,0) :=by
  unfold iC;rw[if_pos (Y0 (by omega) h.c8.jC),if_pos gk,e1,if_neg (by omega)]
 have wU:(s.b5.l.filter (k9 o)++[x]).Nodup:=by
  refine aw0.2 ⟨h.aC.sublist axC,by simp,fun p ay q aW=>?_⟩;rw[awd.1 aW];exact fun e=>Wx (by rw[<-e]; exact (awP.1 ay).1)
 have Hm:u2 s o x=BV (s.b5.l.filter (k9 o)++[x]) :=O2 wU;refine⟨⟨s.c6+1,dR,o8 s.c8 o,some (u2 s o x)⟩,?_,?_,?_,?_,?_,?_,?_,?_⟩
 ·unfold i9;have au:=h.c6;rw[if_pos hm,if_neg Wx,if_neg (by omega),rG V af ap,yg V.c9 af];unfold yo;rw[u0,oj,az,if_pos rfl,if_pos rfl]
 ·show s.c6+1=_;rw[h.c6,avW]; rfl
 ·rw[avW]; exact dQ
 ·show vY _ (o8 s.c8 o).l;rw[xG,e1]; exact Mz.2.2
 ·show iz (o8 s.c8 o).l;rw[xG,e1]; exact Mz.2.1
 ·show (o8 s.c8 o).l.length<=_;rw[xG,e1,avW]; exact Mz.1
 ·show (u2 s o x).Pairwise _;rw[Hm]; exact OZ xn Ey wU (avR _)
 ·intro y;show y∈u2 s o x<->_;rw[Hm,Ff (avR _),awi,awl,awP,awd,h.hm y,aw5,decide_eq_false_iff_not];unfold FC;constructor
  ·rintro (⟨⟨aV,a1⟩,a3⟩ | rfl)
   ·refine⟨axA _ aV,fun z aw bl ai=>?_⟩;rw[awl,awd] at aw;rcases aw with aw | aw
    ·exact a1 z aw bl ai
    ·subst aw;rw[dz bl j z ai af,lI ap]; exact a3
   ·refine⟨by simp,fun z aw bl ai ay=>?_⟩;rw[awl,awd] at aw;rcases aw with aw | aw
    ·exact Bp (Pp afE aw ai ay)
    ·subst aw;rw[dz bl j z ai af,lI ap] at ay;exact Bp (ahJ z ay)
  ·rintro⟨aV,a1⟩;rw[awl,awd] at aV;rcases aV with aV | aV
   ·exact .inl ⟨⟨aV,fun z aw=>a1 z (axA _ aw)⟩,by rw[<-lI ap]; exact a1 x (by simp) j af⟩
   ·exact .inr aV
theorem Z7 {g:bc} (aD:ep g=0) {l:List (List B)}:∀ {k:Nat},k<=l.length->(∀ i,i<k->o6 g l i=true)->gU g (l.take k)
 | 0,_,_=>Z6 g
 | k+1,hk,ap=>by
  have V:=mn aD;have aJ:=Z7 aD (k:=k) (by omega) fun i av=>ap i (by omega)
  obtain⟨x,af,cE⟩:=bx (l:=l) (k:=k) (by omega);have h1:=ap k (by omega);unfold o6 ks at h1;rw[fL af,avU,avU,aw5,decide_eq_true_eq,decide_eq_false_iff_not,decide_eq_true_eq] at h1;obtain⟨ad,aj,aE⟩:=h1;obtain⟨j,ai⟩:=avT.1 ad;obtain⟨o,y0,_⟩:=bx (l:=g.ops.l) (k:=j) (by rw[<-V.len]; exact (avP.1 ai).1);rw[rG V ai y0] at aE;rw[av7,af];exact Z8 (jP V.c9) aJ ai aj (by rw[lI y0]; exact aE)
theorem akF {g:bc} (aD:ep g=0) {l:List (List B)} (bM:gU g l) {k:Nat} (hk:k<l.length) :o6 g l k=true:=by
 have V:=mn aD;obtain⟨x,af,cE⟩:=bx hk;have hm:=bM.sub x cE;obtain⟨j,ai⟩:=avT.1 hm;obtain⟨o,y0,_⟩:=bx (l:=g.ops.l) (k:=j) (by rw[<-V.len]; exact (avP.1 ai).1);unfold o6 ks;rw[fL af,avU,avU,aw5,decide_eq_true_eq,decide_eq_false_iff_not,decide_eq_true_eq,rG V ai y0];exact⟨hm,XM bM.hA af,fun p ay=>bM.pre k x j af ai p (by rw[lI y0]; exact ay)⟩
theorem Zc {g:bc} (aq:et g) (aD:ep g=0) {l:List (List B)}:∀ {k:Nat},k<=l.length->(∀ i,i<k->o6 g l i=true)->∃ s,gG g l k=(s,0)/\kL g (l.take k) s
 | 0,_,_=>⟨eN,rfl,aer g⟩
 | k+1,hk,ap=>by
  obtain⟨s,h1,ad⟩:=Zc aq aD (k:=k) (by omega) fun i av=>ap i (by omega)
  obtain⟨x,af,cE⟩:=bx (l:=l) (k:=k) (by omega);have bM:=Z7 aD hk ap;have e:l.take (k+1)=l.take k++[x] :=by rw[av7,af]; rfl
  rw[e] at bM ⊢;obtain⟨eH,aj,aE⟩:=T4 aq aD bM ad;refine⟨eH,?_,aE⟩;show (if (gG g l k).2=0 then (if o6 g l k=true then i9 (gG g l k).1 g (b0 l k) else (eN,32)) else gG g l k)=_;rw[h1,if_pos rfl,if_pos (ap k (by omega)),fL af]; exact aj
theorem TW {g:bc} (aq:et g) :um (kQ g) :=by
 unfold kQ;by_cases aD:ep g=0
 ·have V:=mn aD;have h1:=akC aq;have ad:=EU aq V (avR _);have aC:=V.n60;have al:=V.len;have aR:(nu g).l=hj g g.ops.l.length:=by unfold nu; rw[if_pos aD,ew]
  have bJ:(nE g).l=AU g:=by unfold nE; rw[if_pos aD,ew]
  rw[if_pos aD];refine⟨h1.1,by show iz (nu g).l; rw[aR]; exact ad.2.1,fun z aw=>aq.ids z ?_,by have:=h1.2; show (q4 g).l.length<=_; omega,by show (nu g).l.length<=_; rw[aR]; have:=ad.2.2; omega,?_⟩
  ·have w9:z∈(nE g).l:=aw;rw[bJ] at w9; exact (awP.1 w9).1
  ·show (nE g).l.length<=_;rw[bJ];have:=axm (AY g) g.ids.l;unfold AU; omega
 ·rw[if_neg aD]; exact XS
theorem Zb {l:List (List B)} (h:c9 l=true) :l.Pairwise fun a b=>hz a b=true:=
 aww.2 fun i j av ai hu=>(sb _ _).2 (xH h hu (avS av) (avS ai))
theorem X6 {l:List (List B)} (h:l.Pairwise fun a b=>hz a b=true) :c9 l=true:=Ox fun k hk h1=>by
 have ad:=avS hk;have aj:=avS (l:=l) (i:=k - 1) (by omega);rw[fL ad,fL aj];exact (sb _ _).1 ((aww.1 h) (k - 1) k (by omega) hk (by omega))
theorem T2 {g:bc} (aq:et g) (aD:ep g=0) {D:List (List B)} (bM:gU g D) (al:D.length=g.ids.l.length) {s:cp} (h:kL g D s) :q8 s (kQ g)=true:=by
 have V:=mn aD;have jh:=V.len;have eQ:∀ x,x∈g.ids.l->x∈D:=fun x af=>Po bM al af
 unfold kQ;rw[if_pos aD];refine (BU _ _).2 ⟨?_,ano aq aD bM al h.set,?_,?_⟩
 ·show s.c6=(g.ops.l.length:Int); rw[h.c6]; omega
 ·show s.c8.l=(nu g).l;have e:(nu g).l=hj g g.ops.l.length:=by unfold nu; rw[if_pos aD,ew]
  rw[e];have ah:∀ q,Cf g D q<->∃ j,j<g.ops.l.length/\xO g j/\q=ox g j:=fun q=>by
   unfold xO ox;constructor
   ·rintro⟨j,o,x,aV,a1,a3,a4,a5⟩;exact⟨j,(avP.1 a3).1,by rw[sk a3]; exact a4,by rw[sk a3,fL a1]; exact a5⟩
   ·rintro⟨j,aV,a1,a3⟩;obtain⟨o,ap,_⟩:=bx aV;obtain⟨x,af,cE⟩:=bx (l:=g.ids.l) (k:=j) (by omega);rw[sk ap] at a1;rw[sk ap,fL af] at a3;exact⟨j,o,x,eQ x cE,af,ap,a1,a3⟩
  refine Fg (lt:=lC) (fun a=>vI a.key) Xq ((Di _).1 h.c8.jC).2 ((Di _).1 (EU aq V (avR _)).1).2 fun r=>?_
  rw[h.c8.mem,(Yv aq V (avR _)).1];unfold vW x4;rw[ah r];constructor
  ·rintro⟨⟨j,aV,a1,a3⟩,a4⟩;exact⟨j,aV,a1,a3,fun m hm ak hk=>a4 _ ((ah _).2 ⟨m,hm,ak,rfl⟩) hk⟩
  ·rintro⟨j,aV,a1,a3,a4⟩;refine⟨⟨j,aV,a1,a3⟩,fun q aW hk=>?_⟩;obtain⟨m,hm,ak,rfl⟩:=(ah q).1 aW;exact a4 m hm ak hk
 ·show s.b5.l=(nE g).l;have e:(nE g).l=AU g:=by unfold nE; rw[if_pos aD,ew]
  rw[e];unfold AU;refine Fg (lt:=hz) Ib xn h.ak ((Zb V.c9).sublist axC) fun x=>?_
  rw[h.hm,awP];unfold FC AY yq;rw[decide_eq_true_eq];constructor
  ·rintro⟨aV,a1⟩;refine⟨bM.sub x aV,fun j ai ay=>?_⟩;obtain⟨o,ap,_⟩:=bx ai;obtain⟨y,ax,cr⟩:=bx (l:=g.ids.l) (k:=j) (by omega);rw[sk ap] at ay;exact a1 y (eQ y cr) j ax (by rw[lI ap]; exact ay)
  ·rintro⟨aV,a1⟩;refine⟨eQ x aV,fun y ax j ai ay=>?_⟩;obtain⟨o,ap,_⟩:=bx (l:=g.ops.l) (k:=j) (by have:=(avP.1 ai).1; omega);have:=a1 j (avP.1 ap).1;rw[sk ap] at this;rw[lI ap] at ay;exact this ay
theorem T3 {g:bc} {D:List (List B)} (bM:gU g D) (jD:D.length<=60) {s:cp} (h:kL g D s) :ra s=0:=by
 have h1:=h.al;have ad:=h.set.len;have aj:=h.nC;have au:=h.c6;have bI:s.b5.l.length=0->D.length=0:=fun e=>by
  cases bC:D.getLast? with
  | none=>rw[List.getLast?_eq_none_iff] at bC; rw[bC]; rfl
  | some x=>
   obtain⟨E,e6⟩:=List.getLast?_eq_some_iff.1 bC;have af:x∈s.b5.l:=(h.hm x).2 ⟨by rw[e6]; simp,fun y ax j ai ay=>by
    obtain⟨i,av⟩:=avT.1 ax;have aE:=bM.pre i y j av ai x ay;have c3:=(avP.1 av).1;rw[e6,avW,List.length_singleton] at c3;rw[e6,awg (by omega)] at aE;have qJ:=bM.hA;rw[e6] at qJ;exact (aw0.1 qJ).2.2 x (awh aE) x (by simp) rfl⟩
   rw[awt.1 e] at af; cases af
 have jI:AH s=true:=by
  unfold AH uP;rw[Tx (by omega) h.set.jC,Y0 (by omega) h.c8.jC,X6 h.ak];rw[decide_eq_true (by omega:0<=s.c6),decide_eq_true (by omega:s.c6<=60),decide_eq_true (by omega:(s.b5.l.length:Int)<=s.c6)];by_cases e:s.b5.l.length=0
  ·have:=bI e;rw[decide_eq_false (by omega:¬ 0<s.c6)]; simp
  ·rw[decide_eq_false e]; simp
 unfold ra; rw[jI]; rfl
theorem amr {g:bc} (aq:et g) (aD:ep g=0) {D:List (List B)} (bM:gU g D) (al:D.length=g.ids.l.length) :∃ s,s4 g D=(s,0)/\kL g D s:=by
 obtain⟨s,h1,ad⟩:=Zc aq aD (avR D.length) fun i av=>akF aD bM av
 rw[awi] at ad;refine⟨s,?_,ad⟩;unfold s4;rw[if_pos aD,if_pos al,h1]
theorem an9 {ts:List TypeId} {cs:List U} (h:lR Tryz.prog (84::ts) cs) :∃ (s:cQ Int) (cs' : List U),cs=sZ s::cs'/\lR Tryz.prog ts cs':=by
 obtain⟨c,cs',rfl,h1,ad⟩:=Pr h;obtain⟨s,wD,ak,_,_,aj⟩:=Ps (e:=3) (z:=1) (enc:=CV) (Q:=fun _=>True) (by kernel_rfl) (by kernel_rfl) (fun r az=>by
  obtain⟨x,cs',rfl,_,_,aj⟩:=zP (k:=.i64) (by kernel_rfl) az;rw[Jg aj];exact⟨x,rfl,trivial⟩) (aag (by kernel_rfl) h1)
 cases ak;exact⟨s,cs',rfl,ad⟩
end Op

end Go.cb

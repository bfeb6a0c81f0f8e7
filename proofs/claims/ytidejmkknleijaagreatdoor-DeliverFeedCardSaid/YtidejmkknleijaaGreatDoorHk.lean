/-
  Graphs: their shape, walked.
-/
import Derived.Test.YtidejmkknleijaaGreatDoorHj
set_option linter.unusedVariables false
set_option linter.unusedSimpArgs false
set_option linter.unnecessarySimpa false
namespace Go.bV
open Go Go.Proofs
set_option maxRecDepth 100000
namespace Op
open hp
def kF (n:Int) :U:=.int .i64 n
theorem aai {l:List U} {i:Nat} {x:U} (h:i<l.length) :bf l i [x]=l.set i x:=by
 have:=qi (fun c:U=>c) l i x h;simpa using this
def cQ (g:bz) (wl:List Int) (vs:List U) (rest:ap) :ap:=.cells 2 [aA g.ids,bF g.ops] ::.cells g.ops.l.length (wl.map kF) ::.cells g.ops.l.length vs::rest
theorem wc {l:ap} {a b c:aV} (aJ:l[0]? = some a) (ad:l[1]? = some b) (ae:l[2]? = some c) :∃ r,l=a::b::c::r:=by
 match l,aJ,ad,ae with
 | cV::aZ::c'::r,aJ,ad,ae=>
  simp at aJ ad ae;subst aJ ad ae;exact⟨r,rfl⟩
theorem BT {g:bz} {w w' : List Int} {vs KB:List U} {r:ap}:∀ {b:Nat},3<=b->(cQ g w vs r)[b]? = (cQ g w' KB r)[b]?
 | 0,h=>by omega
 | 1,h=>by omega
 | 2,h=>by omega
 | b+3,_=>rfl
theorem No {g:bz} {w:List Int} {vs:List U} {r x:ap} {b:Nat} (h:b<(cQ g w vs r).length) :(cQ g w vs (r++x))[b]? = (cQ g w vs r)[b]?:=by
 show ((cQ g w vs r)++x)[b]? = _;exact awS h
structure aca (g:bz) (m q:Nat) (fg:U) (l:ap) :Prop where
 ex:∃ (vs:List U) (cx:List (List Nat)) (bl:Nat->Nat) (hN:Nat) (rest:ap),l=cQ g (e3 g.ops.l m) vs rest/\l6 l vs cx bl/\wm g.ids.l g.ops.l m q cx/\bL 1 l fg hN ((jI g.ops.l m).map h9) ∧
  cz fg=(jI g.ops.l m).isEmpty/\(jI g.ops.l m=[]\/(3<=hN/\py cx bl hN))
structure ab9 (g:bz) (m q:Nat) (fg:U) (b:Nat) (O:List U) (l:ap) :Prop where
 ex:∃ (vs:List U) (cx:List (List Nat)) (bl:Nat->Nat) (hN:Nat) (rest:ap),l=cQ g (e3 g.ops.l m) vs rest/\l6 l vs cx bl/\wm g.ids.l g.ops.l m q cx/\bL 1 l fg hN ((jI g.ops.l m).map h9) ∧
  cz fg=(jI g.ops.l m).isEmpty/\(jI g.ops.l m=[]\/(3<=hN/\py cx bl hN))/\l[b]? = some (.cells 11 O)/\3<=b/\py cx bl b
theorem Cv {cx:List (List Nat)} {l:ap} {vs:List U} {bl:Nat->Nat} {c:Nat} (fB:l6 l vs cx bl) (ah:c<3) :py cx bl c:=fun a row az bY=>by
 have aE:a<vs.length:=by rw[fB.rE]; exact (awQ.1 az).1
 have:=(fB.own a vs[a] row (awT aE) az).2.2.resolve_left bY;omega
theorem FZ {cx:List (List Nat)} {l:ap} {vs:List U} {bl:Nat->Nat} {c:Nat} (fB:l6 l vs cx bl) (ah:l.length<=c) :py cx bl c:=fun a row az bY=>by
 have:=fB.lt az bY;omega
structure tb (g:bz) (vs:List U) (cx:List (List Nat)) (bl:Nat->Nat) (W:List Int) (R:List Nat) (fg:U) (rest:ap) :Prop where
 ex:∃ hN,l6 (cQ g W vs rest) vs cx bl/\bL 1 (cQ g W vs rest) fg hN (R.map h9)/\cz fg=R.isEmpty/\(R=[]\/(3<=hN/\py cx bl hN))
theorem tb.setW {g:bz} {vs:List U} {cx:List (List Nat)} {bl:Nat->Nat} {W eV:List Int} {R:List Nat} {fg:U} {rest:ap} (h:tb g vs cx bl W R fg rest) :tb g vs cx bl eV R fg rest:=by
 obtain⟨hN,fB,jg,lO,mN⟩:=h;refine⟨⟨hN,fB.frame fun b af ⟨a,v7,ad,ae,aj⟩=>BT (ayY fun h=>Cv fB h a v7 ad ae aj),?_,lO,mN⟩⟩;by_cases bY:R=[]
 ·subst bY;rw[lr.1 lO];exact .nil _
 ·exact jg.frame fun _=>BT (mN.resolve_left bY).1
theorem tb.push {g:bz} {vs:List U} {cx:List (List Nat)} {bl:Nat->Nat} {W:List Int} {R:List Nat} {fg:U} {rest:ap} (h:tb g vs cx bl W R fg rest) (m:Nat) (dC:(R.length+1)*8<=ci) :
  ∃ v' dj,gK (cQ g W vs (rest++[.cells 1 [.int .i64 (m:Int)]])) 1 8 fg (.aq 1 (rest.length+3) 0 1 1 1)=some (v',cQ g W vs dj)/\tb g vs cx bl W (R++[m]) v' dj:=by
 obtain⟨hN,xa,H1,lO,mN⟩:=h;obtain⟨mW,zW,g1,gy⟩:∃ mW,bL 1 (cQ g W vs (rest++[.cells 1 [.int .i64 (m:Int)]])) fg mW (R.map h9)/\3<=mW/\py cx bl mW:=by
  by_cases bY:R=[]
  ·subst bY;rw[lr.1 lO];exact⟨(cQ g W vs (rest++[.cells 1 [.int .i64 (m:Int)]])).length,.nil _,by simp[cQ],FZ xa (by simp[cQ])⟩
  ·exact⟨hN,H1.more _,(mN.resolve_left bY).1,(mN.resolve_left bY).2⟩
 obtain⟨C0,Oj,br,aK,aW,a6,bi,bm,cD⟩:=oS (by_:=8) zW (x:=.aq 1 (rest.length+3) 0 1 1 1) (xs:=[h9 m]) (by simp[de,cQ,h9]) (by simp[h9]) (by omega) (by omega) (by simpa using dC);have ahx:(cQ g W vs (rest++[.cells 1 [.int .i64 (m:Int)]])).length=rest.length+4:=by simp[cQ]
 have IL:(cQ g W vs rest).length=rest.length+3:=by simp[cQ]
 obtain⟨dj,rfl⟩:∃ r,br=cQ g W vs r:=wc ((bi 0 (by omega) (by omega)).trans rfl) ((bi 1 (by omega) (by omega)).trans rfl) ((bi 2 (by omega) (by omega)).trans rfl);have NM:cz C0=false:=by
  cases aT:cz C0 with
  | true=>have:=(cD.1 (lr.1 aT)).2; cases this
  | false=>rfl
 refine⟨C0,dj,aK,⟨⟨Oj,?_,?_,?_,.inr ⟨?_,?_⟩⟩⟩⟩
 ·exact xa.frame fun b af ⟨a,v7,ad,ae,aj⟩=>(bi b (by omega) (fun e=>gy a v7 ad ae (by omega))).trans (No af)
 ·rw[axc]; exact aW
 ·rw[NM]; simp
 ·rcases bm with e | e<;>omega
 ·rcases bm with e | e
  ·rw[e]; exact gy
  ·exact FZ xa (by omega)
set_option maxHeartbeats 8000000 in
theorem aop (g:bz) (ax:ho g) (al:g.ids.l.length=g.ops.l.length) (o1:g.ops.l.length<=60) (aD:∀ o∈g.ops.l,o.bo.l.length<=4) :bw Tryz.prog GS 68 [df g] (.int .i64 (oH g.ids.l g.ops.l)) :=by
 refine bQ Tryz.checked.mixed bj ?_;apply bn Tryz.func68 [];have jZ:ci=140737488355328:=rfl;have fF:=dd g.ids;have ez:=mc g.ops;have lQ:=uS g;have cG:cp (.aq 11) (bF g.ops)=some (.int .i64 g.ops.l.length) :=by simp[bF]
 have dO:cp (.aq 32) (aA g.ids)=some (.int .i64 g.ops.l.length) :=by simp[aA,al]
 simp[df,b3];refine cl (g.ops.l.length - 1) (fun k σ l=>l=[.cells 2 [aA g.ids,bF g.ops]]/\σ 1=.ptr 0 0 2/\σ 3=.int .i64 ((k+1:Nat) :Int)/\∀ j,j<k+1->j<g.ids.l.length->1<=j->cj (b2 g.ids.l (j - 1)) (b2 g.ids.l j)<0) ?_ ⟨by simp,by simp,by simp,fun j ad _ ae=>by omega⟩;rintro k σ l ar ⟨rfl,aK,a6,ak⟩;obtain⟨σ,rfl⟩:=rD aK a6;clear aK a6;obtain⟨m,hm⟩:∃ m,m=k+1:=⟨_,rfl⟩
 rw[<-hm] at ak ⊢;by_cases aL:m<g.ops.l.length
 ·obtain⟨x,ag,c3⟩:=bJ (l:=g.ids.l) (k:=k) (by omega);obtain⟨y,aI,en⟩:=bJ (l:=g.ids.l) (k:=m) (by omega);have aS:IntKind.i64.wrap ((m:Int) - 1)=(k:Int) :=by rw[IntKind.wrap_i64]; omega
  have bt:IntKind.i64.wrap ((m:Int)+1)=((m+1:Nat) :Int) :=by rw[IntKind.wrap_i64]; omega
  have eZ:=gu ag;have tV:=gu aI;have ed:cN (.aq 32) (aA g.ids) (.int .i64 (k:Int))=some (.bM (a5 x) 0) :=by simp[aA,ag]
  have oc:cN (.aq 32) (aA g.ids) (.int .i64 (m:Int))=some (.bM (a5 y) 0) :=by simp[aA,aI]
  have bp:=dq (ax.ids x c3);have fI:=dq (ax.ids y en);have ft:=wQ x y (ax.ids x c3) (ax.ids y en);unfold gP at ft;change bw Tryz.prog GS 75 [.aH (a5 x),.aH (a5 y)] _ at ft;have n9:=g2 x;have o6:=g2 y;obtain⟨X,cW⟩:∃ X,X=a5 x:=⟨_,rfl⟩
  obtain⟨Y,he⟩:∃ Y,Y=a5 y:=⟨_,rfl⟩
  rw[<-cW] at ed bp ft n9;rw[<-he] at oc fI ft o6;simp[dO,aL,aS,ed,oc,bp,fI,awR];refine a7 ft (by simp[a4,U.closed,n9,o6]) ?_;by_cases ah:cj x y<0
  ·have cP:¬ (0<=cj x y) :=by omega
   simp[cP,bt];refine⟨by omega,fun j ad ae aj=>?_⟩;have fl:cj (b2 g.ids.l (j - 1)) (b2 g.ids.l j)<0:=by
    by_cases ai:j=m
    ·rw[ai,show m - 1=k by omega,eZ,tV]; exact ah
    ·exact ak j (by omega) ae aj
   simpa [b2] using fl
  ·have cP:0<=cj x y:=by omega
   simp[cP];refine aU (congrArg (U.int .i64) ?_) rfl;have cR:dR g.ids.l=false:=ZN (k:=m) (by omega) (by omega) (by rw[show m - 1=k by omega,eZ,tV]; exact ah);unfold oH;rw[cR]; rfl
 ·have az:dR g.ids.l=true:=Ke fun j ad ae=>ak j (by omega) ad ae
  have ai:=xx az;obtain⟨a8,_⟩:=FL (z:=1) (by_:=8) (n:=g.ops.l.length) (k:=.i64) (k':=.i64) (zero:=[U.int .i64 0]) (l:=[aV.cells 2 [aA g.ids,bF g.ops]]) rfl (by omega) (by rw[jZ]; omega);obtain⟨bh,_⟩:=FL (z:=1) (by_:=24) (n:=g.ops.l.length) (k:=.i64) (k':=.i64) (zero:=[U.aG]) (l:=[aV.cells 2 [aA g.ids,bF g.ops],aV.cells g.ops.l.length (List.replicate g.ops.l.length (U.int .i64 0))]) rfl (by omega) (by rw[jZ]; omega);simp only[ayt,ZF (α:=Nat)] at a8 bh;simp[dO,cG,aL,a8,bh];refine cl g.ops.l.length (fun m σ l=>σ 1=.ptr 0 0 2/\σ 4=.aq 1 1 0 g.ops.l.length g.ops.l.length g.ops.l.length/\σ 5=.aq 1 2 0 g.ops.l.length g.ops.l.length g.ops.l.length/\σ 45=bF g.ops/\σ 46=.int .i64 g.ops.l.length/\σ 47=.int .i64 m ∧
   aca g m 0 (σ 6) l/\∀ i,i<m->na g.ids.l (e1 g.ops.l i)=true) ?_ ?_
  ·rintro m σ l hm ⟨aK,bi,bm,DY,DZ,D0,g5,dE⟩;obtain⟨fg,cD⟩:∃ v,σ 6=v:=⟨_,rfl⟩
   rw[cD] at g5;obtain⟨σ,rfl⟩:=Qr aK bi bm cD DY DZ D0;clear aK bi bm cD DY DZ D0;by_cases oi:m<g.ops.l.length
   ·obtain⟨o,av,eQ⟩:=bJ oi;have aS:IntKind.i64.wrap ((m:Int)+1)=((m+1:Nat) :Int) :=by rw[IntKind.wrap_i64]; omega
    have bT:cN (.aq 11) (bF g.ops) (.int .i64 (m:Int))=some (.bM (bd o) 0) :=by simp[bF,av]
    have iw:=ax.ops o eQ;have fv:=aD o eQ;have xl:e1 g.ops.l m=o.bo.l:=Cy av;have g7:cp (.aq 32) (aA o.bo)=some (.int .i64 o.bo.l.length) :=by simp[aA]
    have pM:(bd o).length=11:=rfl;have o3:∀ h:1<(bd o).length,(bd o)[1]'h=aA o.bo:=fun _=>rfl
    obtain⟨O,eO⟩:∃ O,O=bd o:=⟨_,rfl⟩
    rw[<-eO] at bT pM o3;have so:bf [U.int .u32 0,.aG,.int .u64 0,.int .u8 0,.str [],.int .u8 0,.int .i64 0,.int .u64 0,.str [],.int .u32 0,.int .u32 0] 0 O=O:=gw (by rw[pM]; rfl);simp[oi,bT,pM,o3,g7,so,awR];obtain⟨wB,Ia⟩:∃ wB,wB=l.length:=⟨_,rfl⟩
    rw[<-Ia];refine cl o.bo.l.length (fun q σ l=>σ 1=.ptr 0 0 2/\σ 4=.aq 1 1 0 g.ops.l.length g.ops.l.length g.ops.l.length/\σ 5=.aq 1 2 0 g.ops.l.length g.ops.l.length g.ops.l.length/\σ 6=fg/\σ 7=.int .i64 m/\σ 8=.ptr wB 0 11/\σ 45=bF g.ops/\σ 46=.int .i64 g.ops.l.length/\σ 47=.int .i64 m ∧
     σ 53=aA o.bo/\σ 54=.int .i64 o.bo.l.length/\σ 55=.int .i64 q/\ab9 g m q fg wB O l/\∀ (j:Nat) (p:List B),j<q->o.bo.l[j]? = some p->p∈g.ids.l) ?_ ?_
    ·rintro q σ l aN ⟨aK,bi,bm,cD,ei,fT,DY,DZ,D0,UF,D1,D2,kg,vw⟩;obtain⟨σ,rfl⟩:=apF aK bi bm cD ei fT DY DZ D0 UF D1 D2;clear aK bi bm cD ei fT DY DZ D0 UF D1 D2;obtain⟨vs,cx,bl,hN,rest,rfl,fB,n3,jg,lO,mN,af,vd,agn⟩:=kg;by_cases E5:q<o.bo.l.length
     ·obtain⟨p,au,hg⟩:=bJ E5;have bt:IntKind.i64.wrap ((q:Int)+1)=((q+1:Nat) :Int) :=by rw[IntKind.wrap_i64]; omega
      have EJ:cN (.aq 32) (aA o.bo) (.int .i64 (q:Int))=some (.bM (a5 p) 0) :=by simp[aA,au]
      have Wu:=iw.ids p hg;have bp:=dq Wu;have n9:=g2 p;have BG:=aeS g ax az p Wu;unfold df b3 at BG lQ;obtain⟨X,cW⟩:∃ X,X=a5 p:=⟨_,rfl⟩
      rw[<-cW] at EJ bp n9 BG;have iU:bf (rep 32 (.int .u8 0)) 0 X=X:=gw (by rw[bp]; rfl);simp[cQ,E5,EJ,bp,iU,awR];refine a7 BG (by simp[a4,U.closed,n9,fF,ez]) ?_;by_cases E1:p∈g.ids.l
      ·obtain⟨qA,eP⟩:=aw3.1 E1;have agt:=LD az eP;have asL:=(awQ.1 eP).1;have asM:qA<g.ops.l.length:=by omega
       have kp:vs.length=g.ops.l.length:=by rw[fB.rE,n3.len]
       obtain⟨iN,B4,_⟩:=bJ (l:=vs) (k:=qA) (by omega);obtain⟨row,b0,_⟩:=bJ (l:=cx) (k:=qA) (by rw[n3.len]; omega);obtain⟨l1,hY⟩:∃ l1,l1=cQ g (e3 g.ops.l m) vs (rest++[.cells 32 X,.cells 1 [.int .i64 (m:Int)]]) :=⟨_,rfl⟩
       have HX:l6 l1 vs cx bl:=by rw[hY]; exact fB.more _
       have V2:l1.length=rest.length+5:=by rw[hY]; simp[cQ]
       have ra:=n3.Gf qA row b0;obtain⟨v',br,Fx,aK,aW,a6,bi,bm⟩:=HX.app (b:=rest.length+4) (k:=m) B4 b0 (by rw[hY]; simp[cQ]) (by omega) (by rw[jZ]; omega);have cI:=bm 0 (by omega) (Cv HX (by omega));have q1:=bm 1 (by omega) (Cv HX (by omega));have dn:=bm 2 (by omega) (Cv HX (by omega));obtain⟨dj,rfl⟩:∃ r,br=cQ g (e3 g.ops.l m) vs r:=wc (cI.1.trans (by rw[hY]; rfl)) (q1.1.trans (by rw[hY]; rfl)) (dn.1.trans (by rw[hY]; rfl));have IC:cN (.aq 1) (.aq 1 2 0 g.ops.l.length g.ops.l.length g.ops.l.length) (.int .i64 (qA:Int))=some (.ptr 2 qA g.ops.l.length) :=by
        simp only[cN];rw[if_pos ⟨trivial,by omega,by omega⟩];simp
       rw[hY] at aK;unfold cQ at aK;simp[E1,agt,IC,B4,aK];refine cU.b1 ?_;have aiz:bf vs qA [v']=vs.set qA v':=aai (by omega);simp[cQ,bi,IC,aiz,kp];have jy:∀ c,3<=c->c<(cQ g (e3 g.ops.l m) vs rest).length->py cx bl c->(cQ g (e3 g.ops.l m) (vs.set qA v') dj)[c]? = (cQ g (e3 g.ops.l m) vs rest)[c]?/\py (cx.set qA (row++[m])) Fx c:=by
        intro c aj eb av;obtain⟨bZ,ce⟩:=bm c (by simp[cQ] at eb; omega) av;exact⟨(BT aj).trans (bZ.trans (by rw[hY]; exact No eb)),ce⟩
       have MY:jI g.ops.l m≠[]->hN<(cQ g (e3 g.ops.l m) vs rest).length:=fun bY=>by
        rcases jg.lt with h | h
        ·rw[h] at lO;cases eN:jI g.ops.l m with
         | nil=>exact absurd eN bY
         | cons=>rw[eN] at lO; cases lO
        ·exact h
       have gq:=(awQ.1 af).1;obtain⟨f1,f2⟩:=jy wB vd gq agn;refine⟨by omega,E5,by rw[IntKind.wrap_i64]; omega,⟨⟨vs.set qA v',cx.set qA (row++[m]),Fx,hN,dj,rfl,?_,amj ai al n3 (by rw[xl]; exact au) eP b0,?_,lO,?_,f1.trans af,vd,f2⟩⟩,fun j cv fl iL=>?_⟩
       ·exact aW.frame fun b af ⟨a,v7,ad,ae,aj⟩=>by
         have aD:3<=b:=ayY fun h=>Cv aW h a v7 ad ae aj
         exact BT aD
       ·by_cases bY:jI g.ops.l m=[]
        ·rw[bY] at lO jg ⊢;rw[lr.1 lO];exact .nil _
        ·obtain⟨ad,ae⟩:=mN.resolve_left bY;exact jg.frame fun h=>(jy hN ad (MY bY) ae).1
       ·by_cases bY:jI g.ops.l m=[]
        ·exact .inl bY
        ·obtain⟨ad,ae⟩:=mN.resolve_left bY;exact .inr ⟨ad,(jy hN ad (MY bY) ae).2⟩
       ·by_cases ahn:j=q
        ·subst ahn; rw[au] at iL; obtain rfl:=Option.some.inj iL; exact E1
        ·exact vw j cv (by omega) iL
      ·simp[E1];refine aU (congrArg (U.int .i64) ?_) rfl;have cR:¬ xY g.ids.l g.ops.l=true:=fun h=>by
        have:=of_decide_eq_true h o eQ;exact E1 (of_decide_eq_true this p hg)
       unfold oH;rw[if_pos az,if_neg cR]
     ·have tJ:q=o.bo.l.length:=by omega
      rw[tJ] at n3;rw[<-xl] at n3;have U9:=amh n3 (by rw[xl]; exact fv);have kp:vs.length=g.ops.l.length:=by rw[fB.rE,n3.len]
      have WC:hj (cQ g (e3 g.ops.l m) vs rest) (.ptr wB 1 11)=some (O,1) :=by simp only[hj,af]; rfl
      have EH:cN (.aq 1) (.aq 1 1 0 g.ops.l.length g.ops.l.length g.ops.l.length) (.int .i64 (m:Int))=some (.ptr 1 m g.ops.l.length) :=by
       simp only[cN];rw[if_pos ⟨trivial,by omega,by omega⟩];simp
      have NG:mD 1 (cQ g (e3 g.ops.l m) vs rest) (.ptr 1 m g.ops.l.length) (.int .i64 o.bo.l.length)=some (cQ g (e3 g.ops.l (m+1)) vs rest) :=by
       have ad:(cQ g (e3 g.ops.l m) vs rest)[1]? = some (.cells g.ops.l.length ((e3 g.ops.l m).map kF)) :=rfl;simp only[mD,U.cells,ad];rw[if_pos (by simp; omega)];have ae:bf ((e3 g.ops.l m).map kF) m [U.int .i64 o.bo.l.length]=(e3 g.ops.l (m+1)).map kF:=by
        rw[<-aqy oi,xl];exact qi kF (e3 g.ops.l m) m _ (by rw[abA]; exact oi)
       rw[ae]; rfl
      have E6:hj (cQ g (e3 g.ops.l (m+1)) vs rest) (.ptr 1 m g.ops.l.length)=some ((e3 g.ops.l (m+1)).map kF,m) :=by
       have ad:(cQ g (e3 g.ops.l (m+1)) vs rest)[1]? = some (.cells g.ops.l.length ((e3 g.ops.l (m+1)).map kF)) :=rfl;simp only[hj,ad]; simp
      have IA:((e3 g.ops.l (m+1)).map kF)[m]? = some (.int .i64 o.bo.l.length) :=by
       rw[awV,KM oi,if_pos (by omega),xl]; rfl
      have asZ:∀ h:m<((e3 g.ops.l (m+1)).map kF).length,((e3 g.ops.l (m+1)).map kF)[m]'h=.int .i64 o.bo.l.length:=fun h=>(awQ.1 IA).2
      have U7:O[1]? = some (aA o.bo) :=by rw[awT (by rw[pM]; omega),o3]
      have xa:l6 (cQ g (e3 g.ops.l (m+1)) vs rest) vs cx bl:=fB.frame fun b af ⟨a,v7,ad,ae,aj⟩=>BT (ayY fun h=>Cv fB h a v7 ad ae aj)
      have H1:bL 1 (cQ g (e3 g.ops.l (m+1)) vs rest) fg hN ((jI g.ops.l m).map h9) :=by
       by_cases bY:jI g.ops.l m=[]
       ·rw[bY] at lO ⊢;rw[lr.1 lO];exact .nil _
       ·exact jg.frame fun _=>BT (mN.resolve_left bY).1
      have H6:∀ i,i<m+1->na g.ids.l (e1 g.ops.l i)=true:=fun i ay=>by
       by_cases ahe:i=m
       ·subst ahe;rw[xl];refine decide_eq_true fun p au=>?_
        obtain⟨j,fl⟩:=aw3.1 au;exact vw j p (by rw[tJ]; exact (awQ.1 fl).1) fl
       ·exact dE i (by omega)
      by_cases aw:o.bo.l.length=0
      ·have ahz:cp (.aq 32) (aA o.bo)=some (.int .i64 0) :=by rw[g7,aw]; rfl
       have aiw:mD 1 (cQ g (e3 g.ops.l m) vs rest) (.ptr 1 m g.ops.l.length) (.int .i64 0)=some (cQ g (e3 g.ops.l (m+1)) vs rest) :=by rw[aw] at NG; exact NG
       have ag2:((e3 g.ops.l (m+1)).map kF)[m]? = some (.int .i64 0) :=by rw[aw] at IA; exact IA
       have rb:jI g.ops.l (m+1)=jI g.ops.l m++[m] :=by
        rw[Zx,xl,axF.1 aw]; rfl
       obtain⟨mW,zW,g1,gy⟩:∃ mW,bL 1 (cQ g (e3 g.ops.l (m+1)) vs (rest++[.cells 1 [.int .i64 (m:Int)]])) fg mW ((jI g.ops.l m).map h9)/\3<=mW/\py cx bl mW:=by
        by_cases bY:jI g.ops.l m=[]
        ·rw[bY] at lO ⊢;rw[lr.1 lO];exact⟨(cQ g (e3 g.ops.l (m+1)) vs (rest++[.cells 1 [.int .i64 (m:Int)]])).length,.nil _,by simp[cQ],FZ xa (by simp[cQ])⟩
        ·exact⟨hN,H1.more _,(mN.resolve_left bY).1,(mN.resolve_left bY).2⟩
       have ra:(jI g.ops.l m).length<=m:=by
        have:=ax7 (fun k=>(e1 g.ops.l k).isEmpty) (List.range m);simpa [jI] using this
       obtain⟨C0,Oj,br,aK,aW,a6,bi,bm,cD⟩:=oS (by_:=8) zW (x:=.aq 1 (rest.length+3) 0 1 1 1) (xs:=[h9 m]) (by simp[de,cQ,h9]) (by simp[h9]) (by omega) (by omega) (by rw[jZ]; simp; omega);have ahx:(cQ g (e3 g.ops.l (m+1)) vs (rest++[.cells 1 [.int .i64 (m:Int)]])).length=rest.length+4:=by simp[cQ]
       obtain⟨dj,rfl⟩:∃ r,br=cQ g (e3 g.ops.l (m+1)) vs r:=wc ((bi 0 (by omega) (by omega)).trans rfl) ((bi 1 (by omega) (by omega)).trans rfl) ((bi 2 (by omega) (by omega)).trans rfl);have Nu:cQ g (e3 g.ops.l (m+1)) vs rest++[aV.cells 1 [.int .i64 (m:Int)]]=cQ g (e3 g.ops.l (m+1)) vs (rest++[.cells 1 [.int .i64 (m:Int)]]) :=rfl;have IL:(cQ g (e3 g.ops.l (m+1)) vs rest).length=rest.length+3:=by simp[cQ]
       simp[E5,WC,U7,ahz,EH,aiw,E6,ag2,Nu,IL,aK];refine cU.b1 ?_;simp;have NM:cz C0=false:=by
        cases aT:cz C0 with
        | true=>have:=(cD.1 (lr.1 aT)).2; cases this
        | false=>rfl
       refine⟨oi,by rw[IntKind.wrap_i64]; omega,⟨⟨vs,cx,bl,Oj,dj,rfl,?_,U9,?_,?_,.inr ⟨?_,?_⟩⟩⟩,H6⟩
       ·exact xa.frame fun b af ⟨a,v7,ad,ae,aj⟩=>(bi b (by omega) (fun e=>gy a v7 ad ae (by omega))).trans (No af)
       ·rw[rb,axc]; exact aW
       ·rw[NM,rb]; simp
       ·rcases bm with e | e<;>omega
       ·rcases bm with e | e
        ·rw[e]; exact gy
        ·exact FZ xa (by omega)
      ·have rb:jI g.ops.l (m+1)=jI g.ops.l m:=by
        rw[Zx,xl];have:o.bo.l.isEmpty=false:=by cases eN:o.bo.l with | nil=>rw[eN] at aw; exact absurd rfl aw | cons=>rfl
        rw[this]; simp
       simp[E5,WC,U7,g7,EH,NG,E6,IA,aw];exact⟨oi,by rw[IntKind.wrap_i64]; omega,⟨⟨vs,cx,bl,hN,rest,rfl,xa,U9,by rw[rb]; exact H1,by rw[rb]; exact lO,by rw[rb]; exact mN⟩⟩,H6⟩
    ·simp;obtain⟨vs,cx,bl,hN,rest,rfl,fB,n3,jg,lO,mN⟩:=g5;refine⟨⟨vs,cx,bl,hN,rest++[.cells 11 O],rfl,fB.more _,n3,jg.more _,lO,mN,by rw[Ia,aw6 (awU _)]; simp,by rw[Ia]; simp[cQ],FZ fB (by rw[Ia]; exact awU _)⟩⟩
   ·have oh:m=g.ops.l.length:=by omega
    subst oh;obtain⟨vs,cx,bl,ajD,anJ,rfl,w9,n3,Ei,afX,afW⟩:=g5;have Mi:=amg n3;have kp:vs.length=g.ops.l.length:=by rw[w9.rE,n3.len]
    have iT:xY g.ids.l g.ops.l=true:=decide_eq_true fun o eQ=>by
     obtain⟨j,fl⟩:=aw3.1 eQ;have:=dE j (awQ.1 fl).1
     rwa [Cy fl] at this
    have U5:=aj4 (ids:=g.ids.l) (ops:=g.ops.l) al;rw[<-aqx] at U5;have fU:tb g vs cx bl (e3 g.ops.l g.ops.l.length) (jI g.ops.l g.ops.l.length) fg anJ:=⟨⟨ajD,w9,Ei,afX,afW⟩⟩
    simp;refine cl g.ops.l.length (fun d σ l=>σ 1=.ptr 0 0 2/\σ 4=.aq 1 1 0 g.ops.l.length g.ops.l.length g.ops.l.length/\σ 5=.aq 1 2 0 g.ops.l.length g.ops.l.length g.ops.l.length/\σ 13=.int .i64 d ∧
     ∃ W R rest,l=cQ g W vs rest/\tb g vs cx bl W R (σ 6) rest/\s8 g.ids.l g.ops.l [] d 0 R W) ?_ ?_
    ·rintro d σ l bg ⟨aK,bi,bm,kM,W,R,rest,rfl,g5,aY⟩;obtain⟨fg,cD⟩:∃ v,σ 6=v:=⟨_,rfl⟩
     rw[cD] at g5;obtain⟨σ,rfl⟩:=k1 aK bi bm cD kM;clear aK bi bm cD kM;have Ej:cp (.aq 1) fg=some (.int .i64 R.length) :=by obtain⟨hN,_,jg,_⟩:=g5; have:=jg.len; simpa using this
     have lO:R.length<=g.ops.l.length:=by
      have:=wa (b:=List.range g.ops.l.length) aY.sG fun x ag=>axz.2 (aY.pH x ag).1
      simpa using this
     by_cases Iq:d<R.length
     ·obtain⟨a,aE,Vj⟩:=bJ Iq;have af6:=(aY.pH a Vj).1;have aS:IntKind.i64.wrap ((d:Int)+1)=((d+1:Nat) :Int) :=by rw[IntKind.wrap_i64]; omega
      obtain⟨row,b0,_⟩:=bJ (l:=cx) (k:=a) (by rw[n3.len]; exact af6);obtain⟨iN,B4,_⟩:=bJ (l:=vs) (k:=a) (by omega);obtain⟨hN,fB,jg,Vc,mN⟩:=g5;obtain⟨amb,SN,GQ,cT,dw,ke,qB⟩:=jg.q.get (k:=.i64) (i:=d) (e:=h9 a) (by rw[awV,aE]; rfl);have yP:=O1 (c:=.int .i64 (a:Int)) qB;have IC:cN (.aq 1) (.aq 1 2 0 g.ops.l.length g.ops.l.length g.ops.l.length) (.int .i64 (a:Int))=some (.ptr 2 a g.ops.l.length) :=by
       simp only[cN];rw[if_pos ⟨trivial,by omega,by omega⟩];simp
      have E7:∀ eV ul,hj (cQ g eV vs ul) (.ptr 2 a g.ops.l.length)=some (vs,a) :=fun eV ul=>by
       have ad:(cQ g eV vs ul)[2]? = some (.cells g.ops.l.length vs) :=rfl;simp only[hj,ad]; simp
      have NN:=(fB.own a iN row B4 b0).1;have aiE:cp (.aq 1) iN=some (.int .i64 row.length) :=by have:=NN.len; simpa using this
      have ra:=n3.Gf a row b0;simp[Ej,Iq,cT,dw,yP,IC,E7,B4,aiE];refine cl row.length (fun j σ l=>σ 1=.ptr 0 0 2/\σ 4=.aq 1 1 0 g.ops.l.length g.ops.l.length g.ops.l.length/\σ 5=.aq 1 2 0 g.ops.l.length g.ops.l.length g.ops.l.length/\σ 13=.int .i64 d/\σ 106=iN/\σ 107=.int .i64 row.length/\σ 108=.int .i64 j ∧
       ∃ W R rest,l=cQ g W vs rest/\tb g vs cx bl W R (σ 6) rest/\s8 g.ids.l g.ops.l row d j R W/\R[d]? = some a) ?_ ?_
      ·rintro j σ l MY ⟨aK,bi,bm,kM,Uw,Ux,Uy,W,R,rest,rfl,g5,aY,aE⟩;obtain⟨fg,cD⟩:∃ v,σ 6=v:=⟨_,rfl⟩
       rw[cD] at g5;obtain⟨σ,rfl⟩:=Kz aK bi bm cD kM Uw Ux Uy;clear aK bi bm cD kM Uw Ux Uy;by_cases et:j<row.length
       ·obtain⟨k,ar,iS⟩:=bJ et;have e6:=Mi.lt a row b0 k iS;obtain⟨x,ag,B9,atn,Ef⟩:=aj5 al ai Mi aY aE b0 ar;have ato:(e1 g.ops.l k).length<=4:=by
         obtain⟨dG,dT,ah1⟩:=bJ e6;rw[Cy dT]; exact aD dG ah1
        have aS:IntKind.i64.wrap ((j:Int)+1)=((j+1:Nat) :Int) :=by rw[IntKind.wrap_i64]; omega
        have bt:IntKind.i64.wrap (x - 1)=x - 1:=by rw[IntKind.wrap_i64]; omega
        obtain⟨hN,fB,jg,Vc,mN⟩:=id g5;have NN:=(fB.own a iN row B4 b0).1;obtain⟨amb,SN,GQ,cT,dw,ke,qB⟩:=NN.q.get (k:=.i64) (i:=j) (e:=h9 k) (by rw[awV,ar]; rfl);have yP:=O1 (c:=.int .i64 (k:Int)) qB;have EH:cN (.aq 1) (.aq 1 1 0 g.ops.l.length g.ops.l.length g.ops.l.length) (.int .i64 (k:Int))=some (.ptr 1 k g.ops.l.length) :=by
         simp only[cN];rw[if_pos ⟨trivial,by omega,by omega⟩];simp
        have asK:=aY.wl;have E6:hj (cQ g W vs rest) (.ptr 1 k g.ops.l.length)=some (W.map kF,k) :=by
         have ad:(cQ g W vs rest)[1]? = some (.cells g.ops.l.length (W.map kF)) :=rfl;simp only[hj,ad]; simp
        have fG:(W.map kF)[k]? = some (.int .i64 x) :=by rw[awV,ag]; rfl
        have bE:mD 1 (cQ g W vs rest) (.ptr 1 k g.ops.l.length) (.int .i64 (x - 1))=some (cQ g (W.set k (x - 1)) vs rest) :=by
         have ad:(cQ g W vs rest)[1]? = some (.cells g.ops.l.length (W.map kF)) :=rfl;simp only[mD,U.cells,ad];rw[if_pos (by simp; omega)];have ae:bf (W.map kF) k [U.int .i64 (x - 1)]=(W.set k (x - 1)).map kF:=qi kF W k _ (by omega);rw[ae]; rfl
        have E7:hj (cQ g (W.set k (x - 1)) vs rest) (.ptr 1 k g.ops.l.length)=some ((W.set k (x - 1)).map kF,k) :=by
         have ad:(cQ g (W.set k (x - 1)) vs rest)[1]? = some (.cells g.ops.l.length ((W.set k (x - 1)).map kF)) :=rfl;simp only[hj,ad]; simp
        have Iz:((W.set k (x - 1)).map kF)[k]? = some (.int .i64 (x - 1)) :=by rw[awV,axb (by omega)]; rfl
        have Bw:tb g vs cx bl (W.set k (x - 1)) R fg rest:=g5.setW;obtain⟨dU,H4⟩:∃ dU,dU=W.set k (x - 1) :=⟨_,rfl⟩
        rw[<-H4] at bE E7 Iz Bw Ef;by_cases aw:x - 1=0
        ·rw[if_pos aw] at Ef;have er:IntKind.i64.wrap (x - 1)=0:=by rw[bt]; exact aw
         rw[aw] at bE Iz;have asF:R.length<=g.ops.l.length:=by
          have:=wa (b:=List.range g.ops.l.length) aY.sG fun x ag=>axz.2 (aY.pH x ag).1
          simpa using this
         obtain⟨v',dj,iA,i0⟩:=Bw.push k (by rw[jZ]; omega);have Nu:cQ g dU vs rest++[aV.cells 1 [.int .i64 (k:Int)]]=cQ g dU vs (rest++[.cells 1 [.int .i64 (k:Int)]]) :=rfl;have IL:(cQ g dU vs rest).length=rest.length+3:=by simp[cQ]
         simp[et,cT,dw,yP,EH,E6,fG,er,bE,E7,Iz,Nu,IL,iA];refine cU.b1 ?_;simp[et,aS];exact⟨dU,R++[k],dj,rfl,i0,Ef,by rw[awS (awQ.1 aE).1]; exact aE⟩
        ·rw[if_neg aw] at Ef;simp[et,cT,dw,yP,EH,E6,fG,bt,bE,E7,Iz,aw,aS];exact⟨dU,R,rest,rfl,Bw,Ef,aE⟩
       ·have ahm:j=row.length:=by omega
        subst ahm;simp[et];exact⟨by omega,by rw[IntKind.wrap_i64]; omega,W,R,rest,rfl,g5,aj2 Mi aY aE b0⟩
      ·simp;exact⟨W,R,rest,rfl,⟨⟨hN,fB,jg,Vc,mN⟩⟩,aj3 aY,aE⟩
     ·have agE:d=R.length:=by have:=aY.dl; omega
      subst agE;obtain⟨g1,gy⟩:=aj1 al ai aY;by_cases q6:R.length<g.ops.l.length
      ·simp[Ej,Iq,cQ,cG,q6];refine aU (congrArg (U.int .i64) ?_) rfl;unfold oH;rw[if_pos az,if_pos iT,if_neg (fun h=>by have:=gy.2 h; omega)]
      ·simp[Ej,Iq,cQ,cG,q6];refine aU (congrArg (U.int .i64) ?_) rfl;unfold oH;rw[if_pos az,if_pos iT,if_pos (gy.1 (by omega))]
    ·simp;exact⟨_,_,_,rfl,fU,U5⟩
  ·simp;refine⟨⟨List.replicate g.ops.l.length .aG,List.replicate g.ops.l.length [],fun _=>0,0,[],?_,⟨by simp,fun a v row ao aii=>?_,fun a b m0 oy _ aE _ tF _=>?_⟩,ami _ _,.nil _,rfl,.inl rfl⟩⟩
   ·unfold cQ; rw[aqz,azd]; rfl
   ·have ad:=aye (awY ao);have ae:=aye (awY aii);subst ad ae;exact⟨.nil _,rfl,.inl rfl⟩
   ·exact absurd (aye (awY aE)) tF
set_option maxHeartbeats 4000000 in
theorem abj (g:bz) (ax:ho g) :bw Tryz.prog GS 38 [df g] (.int .i64 (hS g)) :=by
 refine bQ Tryz.checked.mixed bj ?_;apply bn Tryz.func38 [];have fF:=dd g.ids;have ez:=mc g.ops;have lQ:=uS g;have cG:cp (.aq 11) (bF g.ops)=some (.int .i64 g.ops.l.length) :=by simp[bF]
 have dO:cp (.aq 32) (aA g.ids)=some (.int .i64 g.ids.l.length) :=by simp[aA]
 have bA:=ax.cK;by_cases o1:60<(g.ops.l.length:Int)
 ·simp[df,b3,cG,o1];refine aU (congrArg (U.int .i64) ?_) rfl;unfold hS; rw[if_pos (by omega)]
 by_cases al:g.ids.l.length=g.ops.l.length
 ·have dx:(g.ids.l.length:Int)=(g.ops.l.length:Int) :=by omega
  simp[df,b3,cG,dO,o1,dx];refine cl g.ops.l.length (fun k σ l=>(∃ rest,l=.cells 2 [aA g.ids,bF g.ops] ::rest)/\σ 1=.ptr 0 0 2/\σ 19=bF g.ops/\σ 20=.int .i64 g.ops.l.length/\σ 21=.int .i64 k/\∀ j,j<k->nn g j=true) ?_ (by simp);rintro k σ l ar ⟨⟨rest,rfl⟩,aK,qS,UB,uY,ak⟩;obtain⟨σ,rfl⟩:=ij aK qS UB uY;clear aK qS UB uY;by_cases bD:k<g.ops.l.length
  ·obtain⟨o,av,eQ⟩:=bJ bD;obtain⟨x,ag,c3⟩:=bJ (l:=g.ids.l) (k:=k) (by omega);have lR:=HR av ag;have aS:IntKind.i64.wrap ((k:Int)+1)=((k+1:Nat) :Int) :=by rw[IntKind.wrap_i64]; omega
   have bT:cN (.aq 11) (bF g.ops) (.int .i64 (k:Int))=some (.bM (bd o) 0) :=by simp[bF,av]
   have zj:cN (.aq 32) (aA g.ids) (.int .i64 (k:Int))=some (.bM (a5 x) 0) :=by simp[aA,ag]
   have ao:=aqc o (ax.ops o eQ);have kN:=ap5 o (ax.ops o eQ);change bw Tryz.prog GS 55 [.aH (bd o)] (.bq [.aH (a5 (nC o)),.int .i64 (hC o)]) at kN;have o5:=mK o;have bp:=dq (ax.ids x c3);have w8:=dq (N2 o);have dP:(bd o).length=11:=rfl;have heq:=zM (N2 o) (ax.ids x c3);have hK:¬ nn g k=true->hS g=8:=fun h=>by
    unfold hS;rw[if_neg (by omega),if_pos al,if_neg fun aT=>h ((Bq g).1 aT k bD)]
   obtain⟨O,eO⟩:∃ O,O=bd o:=⟨_,rfl⟩
   obtain⟨X,cW⟩:∃ X,X=a5 x:=⟨_,rfl⟩
   obtain⟨I,lN⟩:∃ I,I=a5 (nC o) :=⟨_,rfl⟩
   rw[<-eO] at bT ao kN o5 dP;rw[<-cW] at zj bp heq;rw[<-lN] at kN heq w8;have so:bf [U.int .u32 0,.aG,.int .u64 0,.int .u8 0,.str [],.int .u8 0,.int .i64 0,.int .u64 0,.str [],.int .u32 0,.int .u32 0] 0 O=O:=gw (by rw[dP]; rfl);have NF:bf (rep 32 (.int .u8 0)) 0 I=I:=gw (by rw[w8]; rfl);simp[bD,bT,dP,so,awR];refine a7 kN (by simp[a4,U.closed,o5]) ?_;by_cases aJ:hC o=0
   ·by_cases ed:nC o=x
    ·simp[aJ,w8,NF,zj,bp,heq,ed,dP,awR];refine a7 ao (by simp[a4,U.closed,o5]) ?_;by_cases nB:sX o=0
     ·simp[nB,bD,aS];intro j ai;by_cases fu:j=k
      ·subst fu; rw[lR]; simp[nB,ed]
      ·exact ak j (by omega)
     ·have af:¬ nn g k=true:=fun h=>by rw[lR] at h; simp[nB] at h
      simp[nB];exact aU (congrArg (U.int .i64) (hK af).symm) rfl
    ·have af:¬ nn g k=true:=fun h=>by rw[lR] at h; simp[ed] at h
     simp[aJ,w8,NF,zj,bp,heq,ed,dP,awR];exact aU (congrArg (U.int .i64) (hK af).symm) rfl
   ·have af:¬ nn g k=true:=fun h=>by
     rw[lR,awZ,decide_eq_true_eq] at h;exact aJ (KA h.1)
    simp[aJ,w8,NF,zj,bp,heq,dP,awR];exact aU (congrArg (U.int .i64) (hK af).symm) rfl
  ·have lg:k=g.ops.l.length:=by omega
   have dE:y4 g=true:=(Bq g).2 fun j ai=>ak j (by omega)
   have aD:∀ o∈g.ops.l,o.bo.l.length<=4:=fun o eQ=>by
    obtain⟨j,ai⟩:=aw3.1 eQ;obtain⟨x,ag,_⟩:=bJ (l:=g.ids.l) (k:=j) (by have:=(awQ.1 ai).1; omega);have ad:=(Bq g).1 dE j (awQ.1 ai).1;rw[HR ai ag,awZ,decide_eq_true_eq] at ad;exact z5 (KA ad.1)
   have pY:=aop g ax al (by omega) aD;unfold df b3 at pY lQ;simp[bD];refine a7 pY (by simp[a4,lQ]) ?_;simp;refine aU (congrArg (U.int .i64) ?_) rfl;unfold hS;rw[if_neg (by omega),if_pos al,if_pos dE]
 ·have dx:¬ (g.ids.l.length:Int)=(g.ops.l.length:Int) :=by omega
  simp[df,b3,cG,dO,o1,dx];refine aU (congrArg (U.int .i64) ?_) rfl;unfold hS; rw[if_neg (by omega),if_neg al]
def u6 (o:bu) :Bool:=decide (20<o.bo.l.length)||(decide (100<o.act.key.length)||decide (100<o.act.val.text.length))
theorem amV (o:bu) :bw Tryz.prog GS 129 [.aH (bd o)] (.bool (u6 o)) :=by
 refine bQ Tryz.checked.mixed bj ?_;apply bn Tryz.func129 [];unfold u6;have g7:cp (.aq 32) (aA o.bo)=some (.int .i64 o.bo.l.length) :=by simp[aA]
 by_cases ad:20<o.bo.l.length
 ·have dX:(20:Int)<(o.bo.l.length:Int) :=by omega
  simp[bd,g7,ad,dX];exact aU rfl rfl
 ·have dX:¬ (20:Int)<(o.bo.l.length:Int) :=by omega
  by_cases ae:100<o.act.key.length
  ·have e5:(100:Int)<(o.act.key.length:Int) :=by omega
   simp[bd,g7,ad,dX,ae,e5];exact aU rfl rfl
  ·have e5:¬ (100:Int)<(o.act.key.length:Int) :=by omega
   simp[bd,g7,ad,dX,ae,e5];refine aU (congrArg U.bool ?_) rfl;by_cases aj:100<o.act.val.text.length
   ·have k9:(100:Int)<(o.act.val.text.length:Int) :=by omega
    simp[aj,k9]
   ·have k9:¬ (100:Int)<(o.act.val.text.length:Int) :=by omega
    simp[aj,k9]
def u5 (g:bz) :Bool:=decide (∃ o∈g.ops.l.take 71,u6 o=true)||(decide (16<g.ops.l.length/\g.ops.l.length<=60)||(decide (70<g.ops.l.length)||decide (70<g.ids.l.length)))
theorem amU (g:bz) :bw Tryz.prog GS 90 [df g] (.bool (u5 g)) :=by
 refine bQ Tryz.checked.mixed bj ?_;apply bn Tryz.func90 [];have cG:cp (.aq 11) (bF g.ops)=some (.int .i64 g.ops.l.length) :=by simp[bF]
 have dO:cp (.aq 32) (aA g.ids)=some (.int .i64 g.ids.l.length) :=by simp[aA]
 simp[df,b3];refine cl (min g.ops.l.length 71) (fun k σ l=>l=[.cells 2 [aA g.ids,bF g.ops]]/\σ 1=.ptr 0 0 2/\σ 3=.int .i64 k/\∀ (j:Nat) (o:bu),j<k->g.ops.l[j]? = some o->u6 o=false) ?_ (by simp);rintro k σ l ar ⟨rfl,aK,a6,ak⟩;obtain⟨σ,rfl⟩:=rD aK a6;clear aK a6;by_cases bD:k<g.ops.l.length
 ·by_cases VX:k<=70
  ·obtain⟨o,av,eQ⟩:=bJ bD;have aS:IntKind.i64.wrap ((k:Int)+1)=((k+1:Nat) :Int) :=by rw[IntKind.wrap_i64]; omega
   have bT:cN (.aq 11) (bF g.ops) (.int .i64 (k:Int))=some (.bM (bd o) 0) :=by simp[bF,av]
   have ao:=amV o;have o5:=mK o;have dP:(bd o).length=11:=rfl;have M0:(k:Int)<=70:=by omega
   have iS:k<min g.ops.l.length 71:=by omega
   obtain⟨O,eO⟩:∃ O,O=bd o:=⟨_,rfl⟩
   rw[<-eO] at bT ao o5 dP;simp[cG,bD,VX,M0,bT,dP,awR];refine a7 ao (by simp[a4,U.closed,o5]) ?_;by_cases ig:u6 o=true
   ·simp[ig];refine aU (congrArg U.bool ?_) rfl;unfold u5;rw[decide_eq_true ⟨o,awY (i:=k) (by rw[axm (by omega)]; exact av),ig⟩]; rfl
   ·rw[ayZ] at ig;simp[ig,aS];refine⟨by omega,fun j dG ai dT=>?_⟩;by_cases fu:j=k
    ·subst fu; rw[av] at dT; obtain rfl:=Option.some.inj dT; exact ig
    ·exact ak j dG (by omega) dT
  ·have M0:¬ (k:Int)<=70:=by omega
   have aC:¬ ∃ o∈g.ops.l.take 71,u6 o=true:=fun ⟨o,eQ,ig⟩=>by
    obtain⟨j,ai⟩:=aw3.1 eQ;have et:=(awQ.1 ai).1;rw[axd] at et;rw[axm (by omega)] at ai;rw[ak j o (by omega) ai] at ig; cases ig
   have a8:(16:Int)<(g.ops.l.length:Int) :=by omega
   have bh:¬ (g.ops.l.length:Int)<=60:=by omega
   have b6:(70:Int)<(g.ops.l.length:Int) :=by omega
   simp[cG,dO,bD,VX,M0,a8,bh,b6];refine aU (congrArg U.bool ?_) rfl;unfold u5;simp[show 70<g.ops.l.length by omega]
 ·have aC:¬ ∃ o∈g.ops.l.take 71,u6 o=true:=fun ⟨o,eQ,ig⟩=>by
   obtain⟨j,ai⟩:=aw3.1 eQ;have et:=(awQ.1 ai).1;rw[axd] at et;rw[axm (by omega)] at ai;rw[ak j o (by omega) ai] at ig; cases ig
  have ag3:u5 g=(decide (16<g.ops.l.length/\g.ops.l.length<=60)||(decide (70<g.ops.l.length)||decide (70<g.ids.l.length))) :=by
   unfold u5; rw[decide_eq_false aC]; rfl
  rw[ag3];have d1:decide ((16:Int)<(g.ops.l.length:Int))=decide (16<g.ops.l.length) :=by rw[decide_eq_decide]; omega
  have d2:decide ((g.ops.l.length:Int)<=60)=decide (g.ops.l.length<=60) :=by rw[decide_eq_decide]; omega
  have d3:decide ((70:Int)<(g.ops.l.length:Int))=decide (70<g.ops.l.length) :=by rw[decide_eq_decide]; omega
  have d4:decide ((70:Int)<(g.ids.l.length:Int))=decide (70<g.ids.l.length) :=by rw[decide_eq_decide]; omega
  by_cases a8:16<g.ops.l.length
  ·have ww:(16:Int)<(g.ops.l.length:Int) :=by omega
   by_cases bh:g.ops.l.length<=60
   ·have G7:(g.ops.l.length:Int)<=60:=by omega
    simp[cG,dO,bD,a8,ww,bh,G7];exact aU rfl rfl
   ·have G7:¬ (g.ops.l.length:Int)<=60:=by omega
    by_cases b6:70<g.ops.l.length
    ·have Dg:(70:Int)<(g.ops.l.length:Int) :=by omega
     simp[cG,dO,bD,a8,ww,bh,G7,b6,Dg];exact aU rfl rfl
    ·have Dg:¬ (70:Int)<(g.ops.l.length:Int) :=by omega
     simp[cG,dO,bD,a8,ww,bh,G7,b6,Dg];exact aU (congrArg U.bool d4) rfl
  ·have ww:¬ (16:Int)<(g.ops.l.length:Int) :=by omega
   have b6:¬ 70<g.ops.l.length:=by omega
   have Dg:¬ (70:Int)<(g.ops.l.length:Int) :=by omega
   simp[cG,dO,bD,a8,ww,b6,Dg];exact aU (congrArg U.bool d4) rfl
def gH (o:bu) :bu:={ o with bo:=some o.bo.l }
theorem aph {o:bu} (h:jr o) :jr (gH o) :=⟨h.ids,h.len,h.val,h.key⟩
theorem anj (o:bu) (av:jr o) :bw Tryz.prog GS 105 [.aH (bd o)] (.aH (bd (gH o))) :=by
 refine bQ Tryz.checked.mixed bj ?_;apply bn Tryz.func105 [];have az:ci=140737488355328:=rfl;have al:=av.len;have aw:∀ x∈o.bo.l,(a5 x).length=32:=fun x ag=>dq (av.ids x ag)
 have md:=Rd (enc:=a5) (by_:=32) [aV.cells 11 (bd o),aV.cells 11 [.int .u32 0,.aG,.int .u64 0,.int .u8 0,.str [],.int .u8 0,.int .i64 0,.int .u64 0,.str [],.int .u32 0,.int .u32 0]] o.bo aw (by omega) (by omega) (by rw[az]; omega);have hm:∀ x:dk,(aA x).cells=some [aA x] :=fun x=>by cases x<;>rfl
 have nr:=dd (some o.bo.l);simp only[bd,aA,axa,axB,axK,axT] at md;simp[bd,aA,md];refine cU.HO (by exact F0 aw rfl rfl) rfl ?_;have am:U.a1 32 (o.bo.l.map a5)=aA (some o.bo.l) :=rfl;simp[am,hm,bf];exact aU rfl (show (U.aH (bd (gH o))).closed=true by have:=mK (gH o); simpa [U.closed] using this)
def gG (g:bz) :bz:=⟨some g.ids.l,dz (g.ops.l.map gH)⟩
theorem aaW {g:bz} (h:ho g) :ho (gG g) :=by
 refine⟨h.ids,fun o av=>?_,h.li,?_⟩
 ·unfold gG at av;simp only[eI] at av;obtain⟨dG,dT,rfl⟩:=axi.1 av;exact aph (h.ops dG dT)
 ·unfold gG; simp only[eI]; simpa using h.cK
set_option maxHeartbeats 4000000 in
theorem Zr (g:bz) (ax:ho g) :bw Tryz.prog GS 77 [df g] (df (gG g)) :=by
 refine bQ Tryz.checked.mixed bj ?_;apply bn Tryz.func77 [[[0],[1],[2],[3],[4],[5],[6],[7,1]]];have az:ci=140737488355328:=rfl;have cG:cp (.aq 11) (bF g.ops)=some (.int .i64 g.ops.l.length) :=by simp[bF]
 have bA:=ax.cK;have dO:=ax.li;have aw:∀ x∈g.ids.l,(a5 x).length=32:=fun x ag=>dq (ax.ids x ag)
 have md:=Rd (enc:=a5) (by_:=32) [aV.cells 2 (b3 g),aV.cells 2 [.aG,.aG]] g.ids aw (by omega) (by omega) (by rw[az]; omega);have hm:∀ x:dk,(aA x).cells=some [aA x] :=fun x=>by cases x<;>rfl
 have fF:=dd (some g.ids.l);simp only[b3,aA,axa,axB,axK,axT] at md;simp[df,b3,aA,md];refine cU.HO (by exact F0 aw rfl rfl) rfl ?_;have am:U.a1 32 (g.ids.l.map a5)=aA (some g.ids.l) :=rfl;simp[am,hm,bf];refine cl g.ops.l.length (fun k σ l=>σ 1=.ptr 0 0 2/\σ 2=.ptr 1 0 2/\σ 3=.ptr 3 0 2/\σ 4=.int .i64 k/\∃ v j rest,l=.cells 2 [aA g.ids,bF g.ops] ::.cells 2 [.aG,.aG] ::.dead::.cells 2 [aA (some g.ids.l),v] ::rest ∧
  bL 11 l v j (((g.ops.l.take k).map gH).map bd)/\(v=.aG\/4<=j)/\cz v=(g.ops.l.take k).isEmpty) ?_ ?_
 ·rintro k σ l ar ⟨aK,aW,a6,bi,v,j,rest,rfl,gC,ai,gM⟩;obtain⟨σ,rfl⟩:=ij aK aW a6 bi;clear aK aW a6 bi;by_cases bD:k<g.ops.l.length
  ·obtain⟨o,av,eQ⟩:=bJ bD;have aS:IntKind.i64.wrap ((k:Int)+1)=((k+1:Nat) :Int) :=by rw[IntKind.wrap_i64]; omega
   have bT:cN (.aq 11) (bF g.ops) (.int .i64 (k:Int))=some (.bM (bd o) 0) :=by simp[bF,av]
   have ao:=anj o (ax.ops o eQ);have o5:=mK o;have dP:(bd o).length=11:=rfl;have EZ:(bd (gH o)).length=11:=rfl;have bE:g.ops.l.take (k+1)=g.ops.l.take k++[o] :=by rw[axe,av]; rfl
   obtain⟨v',cg,r',a8,bh,b6,eW⟩:=wz (by_:=112) (pre:=[.cells 2 [aA g.ids,bF g.ops],.cells 2 [.aG,.aG],.dead,.cells 2 [aA (some g.ids.l),v]]) (rest:=rest++[.cells 11 (bd (gH o))]) (gC.more _) ai (x:=.aq 11 (rest.length+1+1+1+1) 0 1 1 11) (xs:=[bd (gH o)])
    (by simp[de,EZ,awR]) (by simp[EZ]) (by omega) (by omega) (by rw[az]; simp; omega)
   obtain⟨O,eO⟩:∃ O,O=bd o:=⟨_,rfl⟩
   obtain⟨T,ew⟩:∃ T,T=bd (gH o) :=⟨_,rfl⟩
   rw[<-eO] at bT ao o5 dP;rw[<-ew] at ao EZ a8 bh;have aim:bf [U.int .u32 0,.aG,.int .u64 0,.int .u8 0,.str [],.int .u8 0,.int .i64 0,.int .u64 0,.str [],.int .u32 0,.int .u32 0] 0 T=T:=gw (by rw[EZ]; rfl);have p0:=bh.cells;simp only[axK,axT] at a8;simp[cG,bD,bT,dP,awR];refine a7 ao (by simp[a4,U.closed,o5]) ?_;simp[EZ,aim,a8];refine cU.b1 ?_;simp[p0,bf,aS];have b0:List.take (k+1) (List.map (bd ∘ gH) g.ops.l)=((g.ops.l.take k).map gH).map bd++[T] :=by rw[<-ay1,bE]; simp[ew]
   have fD:cz v'=false:=by rw[eW]; simp
   have MX:4<=cg:=by
    rcases b6 with h | h
    ·rw[h] at fD; cases fD
    ·simpa using h
   refine⟨bD,cg,?_,.inr MX,by rw[fD,bE]; simp⟩;rw[b0];refine bh.jS (.inr ?_);obtain⟨gD,rfl⟩:∃ gD,cg=gD+4:=⟨cg - 4,by omega⟩
   rfl
  ·have lg:k=g.ops.l.length:=by omega
   simp[cG,bD];rw[lg,axo] at gC gM;have mn:eK (aV.cells 2 [aA g.ids,bF g.ops] ::aV.cells 2 [aA (some g.ids.l),v] ::aV.dead::aV.cells 2 [aA (some g.ids.l),v] ::rest) v (bF (dz (g.ops.l.map gH))) :=by
    refine (gC.jS (l':=aV.cells 2 [aA g.ids,bF g.ops] ::aV.cells 2 [aA (some g.ids.l),v] ::aV.dead::aV.cells 2 [aA (some g.ids.l),v] ::rest) ?_).q.Ac (fun x=>mK x) (dz (g.ops.l.map gH)) (by rw[gM,ur]; simp) (eI _);rcases ai with h | h
    ·exact .inl h
    ·right;obtain⟨gD,rfl⟩:∃ gD,j=gD+4:=⟨j - 4,by omega⟩
     rfl
   refine .aH _ _ rfl fun j c c' ah cP=>?_
   rcases j with _ | _ | j
   ·simp[df,b3,gG] at ah cP; subst ah cP; exact .same _ fF
   ·simp[df,b3,gG] at ah cP; subst ah cP; exact mn
   ·simp at ah
 ·simp;exact⟨.aG,⟨rfl,rfl⟩,0,.nil 0,.inl rfl,rfl⟩
def yb (a b:bu) :Bool:=decide (a.hq=b.hq)&&(decide (a.bo.l=b.bo.l)&&(decide (a.iD=b.iD)&&(fN (kH a.act) (kH b.act)&&(decide (a.e=b.e)&&decide (a.s=b.s)))))
theorem aj0:tY Tryz.prog 20 92=some [.i .u32,.i .u32] :=by kernel_rfl
theorem an9 (a b c d:D) :fz Tryz.prog .eql 92 (.aH [bx a,bx b]) (.aH [bx c,bx d])=some (.bool (decide (a=c)&&decide (b=d))) :=by
 rw[Hj aj0 (by kernel_rfl) (by kernel_rfl) rfl rfl];simp[fN,U.beq]
theorem am9 (a b:bu) (aE:jr a) (af:jr b) :bw Tryz.prog GS 51 [.aH (bd a),.aH (bd b)] (.bool (yb a b)) :=by
 refine bQ Tryz.checked.mixed bj ?_;apply bn Tryz.func51 [];unfold yb;have r8:=dd a.bo;have MD:=dd b.bo;have kO:=PT a.bo b.bo aE.ids af.ids aE.len;have xb:=QY a.act b.act;have aio:=an9 a.e a.s b.e b.s;have Vj:(aA a.bo).cells=some [aA a.bo] :=by cases a.bo<;>rfl
 have asQ:(aA b.bo).cells=some [aA b.bo] :=by cases b.bo<;>rfl
 unfold kH at xb ⊢;simp[bd];by_cases ad:a.hq=b.hq
 ·simp[ad];refine a7 kO (by simp[a4,r8,MD]) ?_;by_cases ae:a.bo.l=b.bo.l
  ·by_cases aj:a.iD=b.iD
   ·cases aD:fN [bC a.act.kind,.str a.act.key,bC a.act.val.kind,.int .i64 a.act.val.num,ea a.act.val.bits,.str a.act.val.text] [bC b.act.kind,.str b.act.key,bC b.act.val.kind,.int .i64 b.act.val.num,ea b.act.val.bits,.str b.act.val.text] with
    | false=>
     rw[aD] at xb;simp[ad,ae,aj,xb];exact aU rfl rfl
    | true=>
     rw[aD] at xb;simp[ad,ae,aj,xb,aio];exact aU rfl rfl
   ·simp[ad,ae,aj];exact aU rfl rfl
  ·simp[ad,ae];exact aU rfl rfl
 ·simp[ad];exact aU rfl rfl
def kv (l:List bu) (k:Nat) :bu:=l.getD k ⟨0,none,0,⟨0,[],⟨0,0,0,[]⟩⟩,0,0⟩
theorem vX {l:List bu} {k:Nat} {o:bu} (h:l[k]? = some o) :kv l k=o:=by unfold kv; rw[aw7,h]; rfl
def sS (a b:bz) :Bool:=decide (a.ids.l=b.ids.l)&&(decide (a.ops.l.length=b.ops.l.length)&&decide (∀ k,k<a.ops.l.length->yb (kv a.ops.l k) (kv b.ops.l k)=true))
theorem am8 (a b:bz) (aE:ho a) (af:ho b) :bw Tryz.prog GS 22 [df a,df b] (.bool (sS a b)) :=by
 refine bQ Tryz.checked.mixed bj ?_;apply bn Tryz.func22 [];have r8:=dd a.ids;have MD:=dd b.ids;have kO:=PT a.ids b.ids aE.ids af.ids aE.li;have oe:cp (.aq 11) (bF a.ops)=some (.int .i64 a.ops.l.length) :=by simp[bF]
 have kj:cp (.aq 11) (bF b.ops)=some (.int .i64 b.ops.l.length) :=by simp[bF]
 have bA:=aE.cK;simp[df,b3];refine a7 kO (by simp[a4,r8,MD]) ?_;by_cases ad:a.ids.l=b.ids.l
 ·by_cases ae:a.ops.l.length=b.ops.l.length
  ·have e5:(a.ops.l.length:Int)=(b.ops.l.length:Int) :=by omega
   simp[ad,oe,kj,ae,e5];refine cl a.ops.l.length (fun k σ l=>l=[.cells 2 [aA a.ids,bF a.ops],.cells 2 [aA b.ids,bF b.ops]]/\σ 2=.ptr 0 0 2/\σ 3=.ptr 1 0 2/\σ 5=.int .i64 k/\∀ j,j<k->yb (kv a.ops.l j) (kv b.ops.l j)=true) ?_ (by simp);rintro k σ l ar ⟨rfl,aW,a6,bm,ak⟩;obtain⟨σ,rfl⟩:=lC aW a6 bm;clear aW a6 bm;by_cases bD:k<a.ops.l.length
   ·obtain⟨o,av,eQ⟩:=bJ bD;obtain⟨p,au,hg⟩:=bJ (l:=b.ops.l) (k:=k) (by omega);have aS:IntKind.i64.wrap ((k:Int)+1)=((k+1:Nat) :Int) :=by rw[IntKind.wrap_i64]; omega
    have bT:cN (.aq 11) (bF a.ops) (.int .i64 (k:Int))=some (.bM (bd o) 0) :=by simp[bF,av]
    have hv:cN (.aq 11) (bF b.ops) (.int .i64 (k:Int))=some (.bM (bd p) 0) :=by simp[bF,au]
    have ao:=am9 o p (aE.ops o eQ) (af.ops p hg);have ez:=mK o;have nr:=mK p;have dP:(bd o).length=11:=rfl;have fv:(bd p).length=11:=rfl;have H7:=vX av;have BB:=vX au;obtain⟨O,eO⟩:∃ O,O=bd o:=⟨_,rfl⟩
    obtain⟨Q,jf⟩:∃ Q,Q=bd p:=⟨_,rfl⟩
    rw[<-eO,<-jf] at ao;rw[<-eO] at bT ez dP;rw[<-jf] at hv nr fv;simp[oe,bD,bT,hv,dP,fv,awR];refine a7 ao (by simp[a4,U.closed,ez,nr]) ?_;by_cases kR:yb o p=true
    ·simp[kR,bD,aS];intro j ai;by_cases fu:j=k
     ·subst fu; rw[H7,BB]; exact kR
     ·exact ak j (by omega)
    ·rw[ayZ] at kR;simp[kR];refine aU (congrArg U.bool ?_) rfl;unfold sS;rw[decide_eq_false (fun h:∀ k,k<a.ops.l.length->yb (kv a.ops.l k) (kv b.ops.l k)=true=>by
      have:=h k bD;rw[H7,BB,kR] at this;cases this)]
     simp
   ·have lg:k=a.ops.l.length:=by omega
    simp[oe,bD];refine aU (congrArg U.bool ?_) rfl;unfold sS;rw[decide_eq_true ad,decide_eq_true ae,decide_eq_true fun j ai=>ak j (by omega)]; rfl
  ·have e5:¬ (a.ops.l.length:Int)=(b.ops.l.length:Int) :=by omega
   simp[ad,oe,kj,ae,e5];refine aU (congrArg U.bool ?_) rfl;unfold sS; rw[decide_eq_false ae]; simp
 ·simp[ad];refine aU (congrArg U.bool ?_) rfl;unfold sS; rw[decide_eq_false ad]; simp
structure KT (g:bz) :Prop where
 n60:g.ops.l.length<=60
 len:g.ids.l.length=g.ops.l.length
 afi:∀ (k:Nat) (o:bu) (x:List B),g.ops.l[k]? = some o->g.ids.l[k]? = some x->sX o=0/\nC o=x
 dR:dR g.ids.l=true
 alW:∀ o∈g.ops.l,∀ p∈o.bo.l,p∈g.ids.l
 all:∀ i,i<g.ops.l.length->rJ g.ids.l g.ops.l i
theorem Ct {g:bz} (h:hS g=0) :KT g:=by
 unfold hS at h;split at h
 ·cases h
 ·rename_i o1;split at h
  ·rename_i al;split at h
   ·rename_i lR;unfold oH at h;split at h
    ·rename_i az;split at h
     ·rename_i iT;split at h
      ·rename_i lk;refine⟨by omega,al,fun k o x av ag=>?_,az,fun o eQ p au=>?_,(YC al (xx az)).1 lk⟩
       ·have:=(Bq g).1 lR k (awQ.1 av).1;rw[HR av ag,awZ,decide_eq_true_eq,decide_eq_true_eq] at this;exact this
       ·exact of_decide_eq_true (of_decide_eq_true iT o eQ) p au
      ·cases h
     ·cases h
    ·cases h
   ·cases h
  ·cases h
def ri (ids:List (List B)) (seen:List Bool) (k:Nat) :List (List B) :=(List.range k).flatMap fun i=>if seen.getD i false=true then [b2 ids i] else []
theorem OM (ids:List (List B)) (seen:List Bool) (k:Nat) :ri ids seen (k+1)=ri ids seen k++(if seen.getD k false=true then [b2 ids k] else []) :=by
 unfold ri; rw[ayP,azs]; simp
theorem Ye (ids:List (List B)) (seen:List Bool) :∀ k,(ri ids seen k).length<=k
 | 0=>by simp[ri]
 | k+1=>by
  have:=Ye ids seen k;rw[OM,awW];split<;>simp<;>omega
theorem Rx:∀ l:List B,fN (l.map bC) (l.map bC)=true
 | []=>rfl
 | x::l=>by
  have ad:U.beq (bC x) (bC x)=true:=by simp[bC,U.beq]
  show (U.beq (bC x) (bC x)&&fN (l.map bC) (l.map bC))=true;rw[ad,Rx l]; rfl
theorem acF (x:List B) :U.beq (.aH (a5 x)) (.aH (a5 x))=true:=Rx x
theorem L3 {x:List B} (h:x.length=32) :mx Tryz.prog 61 (.aH (a5 x))=true:=by
 have ad:vN Tryz.prog 8 61=true:=by kernel_rfl
 have ae:ev Tryz.prog 61=some true:=by kernel_rfl
 have aj:cC Tryz.prog 61=some 32:=by kernel_rfl
 have aD:(x.map bC).all x0=true:=by rw[axx]; intro c ah; obtain⟨b,_,rfl⟩:=axi.1 ah; rfl
 show (vN Tryz.prog 8 61&&(match ev Tryz.prog 61,cC Tryz.prog 61 with | some true,some m=>Nat.beq (x.map bC).length m | _,_=>false)&&(x.map bC).all x0)=true;rw[ad,ae,aj,aD,aw1,h];rfl
theorem X9:∀ {a b:List B},a.map (fun x=>u x)=b.map (fun x=>u x)<->a=b
 | [],[]=>by simp
 | [],_::_=>by simp
 | _::_,[]=>by simp
 | x::a,y::b=>by
  rw[axk,axk,List.cons.injEq,List.cons.injEq,X9 (a:=a) (b:=b)];simp
theorem aeA {a b:List B} (aE:a.length=32) (af:b.length=32) {D:Nat}:eH Tryz.prog (D+2) 61 (.aH (a5 a)) (.aH (a5 b))=some (decide (a=b)) :=by
 have h:=T8 (P:=Tryz.prog) (t:=61) (e:=5) (k:=.u8) (n:=32) (by kernel_rfl) (by kernel_rfl) (by kernel_rfl) (by kernel_rfl) (x:=a.map fun x=>u x) (y:=b.map fun x=>u x) (by simp[aE]) (by simp[af]) (D:=D);rw[ayv,ayv] at h;unfold a5;rw[show a.map bC=a.map (U.int .u8 ∘ fun x=>u x) from rfl,show b.map bC=b.map (U.int .u8 ∘ fun x=>u x) from rfl,h];simp only[X9]
inductive s5:Nat->List (U × U × Nat)->List (List B)->Prop
 | nil (b:Nat) :s5 b [] []
 | cons {b:Nat} {es:List (U × U × Nat)} {cm:List (List B)} {k:List B} (n:Nat) (ar:k.length=32) (h:s5 (b+1) es cm) :s5 b ((.aH (a5 k),.int .i64 (b:Int),n) ::es) (k::cm)
theorem s5.len {b:Nat} {es:List (U × U × Nat)} {cm:List (List B)} (h:s5 b es cm) :es.length=cm.length:=by induction h<;>simp_all
theorem s5.snoc {b:Nat} {es:List (U × U × Nat)} {cm:List (List B)} (h:s5 b es cm) {k:List B} (ar:k.length=32) (n:Nat) :s5 b (es++[(.aH (a5 k),.int .i64 ((b+cm.length:Nat) :Int),n)]) (cm++[k]) :=by
 induction h with
 | nil b=>exact .cons n ar (.nil _)
 | @cons b es cm k' m fe h aR=>
  refine .cons m fe ?_;rw[show b+1+cm.length=b+(k'::cm).length by simp; omega] at aR;exact aR
theorem Ug {x:List B} (ag:x.length=32) {b:Nat} {es:List (U × U × Nat)} {cm:List (List B)} (h:s5 b es cm) :∀ c,(∀ i,cm[i]? = some x->(∀ j,j<i->cm[j]?≠some x)->lJ Tryz.prog 61 (.aH (a5 x)) es c=some (some (c+i,.int .i64 ((b+i:Nat) :Int))))/\(x∉cm->lJ Tryz.prog 61 (.aH (a5 x)) es c=some none) :=by
 induction h with
 | nil b=>intro c; exact⟨fun i h=>by simp at h,fun _=>rfl⟩
 | @cons b es cm k n ar h aR=>
  intro c;unfold lJ;rw[L3 ar];simp only;rw[show eH Tryz.prog 10000 61 (.aH (a5 x)) (.aH (a5 k))=some (decide (x=k)) from aeA ag ar (D:=9998)];by_cases am:x=k
  ·subst am;simp only[decide_true,acF];refine⟨fun i ay cR=>?_,fun h=>absurd (by simp) h⟩;cases i with
   | zero=>rfl
   | succ i=>exact absurd rfl (cR 0 (by omega))
  ·simp only[am,decide_false];obtain⟨ad,ae⟩:=aR (c+1);refine⟨fun i ay cR=>?_,fun h=>ae (fun h'=>h (by simp[h']))⟩;cases i with
   | zero=>simp at ay; exact absurd ay.symm am
   | succ i=>
    rw[ad i (by simpa using ay) (fun j ai=>by have:=cR (j+1) (by omega); simpa using this)];rw[show c+1+i=c+(i+1) by omega,show b+1+i=b+(i+1) by omega]
structure oQ (l:ap) (j:Nat) (cm:List (List B)) :Prop where
 e:∃ es fq,l[j]? = some (.map es fq)/\s5 0 es cm
theorem oQ.look {l:ap} {j:Nat} {cm:List (List B)} (h:oQ l j cm) (ai:oO cm) {x:List B} (ag:x.length=32) {i:Nat} (ay:cm[i]? = some x) :Ck Tryz.prog l 61 (.int .i64 0) false (.mp j) (.aH (a5 x))=some (.int .i64 (i:Int)) :=by
 obtain⟨es,fq,ad,ae⟩:=h.e;have aj:xL l (.mp j)=some es:=by simp[xL,ad]
 unfold Ck;rw[aj];simp only[L3 ag];rw[(Ug ag ae 0).1 i ay (fun t aX aT=>by have:=ai t i x aT ay; omega)];simp
theorem oQ.put {l:ap} {j:Nat} {cm:List (List B)} (h:oQ l j cm) {x:List B} (ag:x.length=32) (aC:x∉cm) :∃ c,xM Tryz.prog l 61 (.mp j) (.aH (a5 x)) (.int .i64 (cm.length:Int))=some (l.set j c)/\(∀ l' : ap,l'[j]? = some c->oQ l' j (cm++[x])) :=by
 obtain⟨es,fq,ad,ae⟩:=h.e;unfold xM;simp only[ad,L3 ag,(Ug ag ae 0).2 aC];exact⟨_,rfl,fun l' dx=>⟨_,_,dx,by have:=ae.snoc ag fq; rw[axV] at this; exact this⟩⟩
theorem oQ.frame {l l' : ap} {j:Nat} {cm:List (List B)} (h:oQ l j cm) (ai:l'[j]? = l[j]?) :oQ l' j cm:=by
 obtain⟨es,fq,ad,ae⟩:=h.e;exact⟨es,fq,by rw[ai,ad],ae⟩
theorem oQ.lt {l:ap} {j:Nat} {cm:List (List B)} (h:oQ l j cm) :j<l.length:=by
 obtain⟨es,fq,ad,ae⟩:=h.e;exact (awQ.1 ad).1
theorem akL {P:Program} {aB:Operand->U} {l:ap} {o:Operand} {k:IntKind} {n:Int} (h:aB o=.int k n) :bU P aB l (.vU (some o))=some (.mp l.length,l++[.map [] 0]) :=by
 show (match asInt (aB o) with | some _=>some (U.mp l.length,l++[aV.map [] 0]) | none=>none)=_;rw[h]; rfl
set_option maxHeartbeats 2000000 in
theorem amn (g:bz) (ax:ho g) (ai:oO g.ids.l) {l:ap} {K:U->ap->Prop} (aY:∀ j l',oQ l' j g.ids.l->l.length<=j->(∀ c,c<l.length->l'[c]? = l[c]?)->l.length<=l'.length->K (.mp j) l') :
  c5 Tryz.prog GS 71 [df g] l (c:=⟨K⟩) :=by
 apply bn Tryz.func71 [];have dO:=ax.li;have bW:cp (.aq 32) (aA g.ids)=some (.int .i64 g.ids.l.length) :=by simp[aA]
 simp[df,b3,bW];rw[akL (k:=.i64) (n:=g.ids.l.length) (by simp)];simp[bW];refine cl g.ids.l.length (fun k σ l'=>σ 3=.mp (l.length+1)/\σ 11=aA g.ids/\σ 12=.int .i64 g.ids.l.length/\σ 13=.int .i64 k/\oQ l' (l.length+1) (g.ids.l.take k)/\(∀ c,c<l.length->l'[c]? = l[c]?)) ?_ ?_
 ·rintro k σ l' ar ⟨a6,ht,kL,kM,n2,jy⟩;obtain⟨σ,rfl⟩:=ij a6 ht kL kM;clear a6 ht kL kM;by_cases bD:k<g.ids.l.length
  ·obtain⟨x,ag,c3⟩:=bJ bD;have aS:IntKind.i64.wrap ((k:Int)+1)=((k+1:Nat) :Int) :=by rw[IntKind.wrap_i64]; omega
   have hv:cN (.aq 32) (aA g.ids) (.int .i64 (k:Int))=some (.bM (a5 x) 0) :=by simp[aA,ag]
   have e7:=ax.ids x c3;have bp:=dq e7;have bE:g.ids.l.take (k+1)=g.ids.l.take k++[x] :=by rw[axe,ag]; rfl
   have cR:x∉g.ids.l.take k:=fun hm=>by
    obtain⟨t,aX⟩:=aw3.1 hm;have ln:=(awQ.1 aX).1;rw[axd] at ln;rw[axm (by omega)] at aX;have:=ai t k x aX ag; omega
   have aL:=n2.lt;have HZ:oQ (l'++[.cells 32 (a5 x)]) (l.length+1) (g.ids.l.take k) :=n2.frame (awS aL);obtain⟨c,bS,b7⟩:=HZ.put e7 cR;have vo:(g.ids.l.take k).length=k:=by rw[axd]; omega
   rw[vo] at bS;obtain⟨X,cW⟩:∃ X,X=a5 x:=⟨_,rfl⟩
   rw[<-cW] at hv bp bS;have iU:bf (rep 32 (.int .u8 0)) 0 X=X:=gw (by rw[bp]; rfl);simp[bD,hv,bp,iU,awR,bS,aS];refine⟨?_,fun c' cP=>?_⟩
   ·rw[bE];exact b7 _ (by rw[axb (by simp; omega)])
   ·rw[axg (by omega),awS (by omega)];exact jy c' cP
  ·have lg:k=g.ids.l.length:=by omega
   rw[lg,axo] at n2;simp[bD];exact aY _ _ n2 (by omega) jy (by have:=n2.lt; omega)
 ·simp;refine⟨⟨[],0,by simp,.nil 0⟩,fun c ah=>by rw[awS ah]⟩
inductive rQ (ids:List (List B)) (ops:List bu) (L:List (List B)) :Nat->Prop
 | start (p:List B) (j:Nat) (au:p∈L) (ai:ids[j]? = some p) :rQ ids ops L j
 | step (i:Nat) (p:List B) (j:Nat) (h:rQ ids ops L i) (au:p∈e1 ops i) (ai:ids[j]? = some p) :rQ ids ops L j
theorem rQ.mono {ids:List (List B)} {ops:List bu} {L QU:List (List B)} (ak:∀ p∈L,p∈QU) {i:Nat} (h:rQ ids ops L i) :rQ ids ops QU i:=by
 induction h with
 | start p j au ai=>exact .start p j (ak p au) ai
 | step i p j _ au ai aR=>exact .step i p j aR au ai
theorem rQ.under {ids:List (List B)} {ops:List bu} {L:List (List B)} {i:Nat} (ay:rQ ids ops L i) {j:Nat} (h:rQ ids ops (e1 ops i) j) :rQ ids ops L j:=by
 induction h with
 | start p j au ai=>exact .step i p j ay au ai
 | step mV p j _ au ai aR=>exact .step mV p j aR au ai
structure aqK (ids:List (List B)) (ops:List bu) (L:List (List B)) (S Dc:List Bool) :Prop where
 len:Dc.length=S.length
 mono:∀ (i:Nat),S[i]? = some true->Dc[i]? = some true
 st:∀ p∈L,∀ (j:Nat),ids[j]? = some p->Dc[j]? = some true
 new:∀ (i:Nat),Dc[i]? = some true->S[i]? = some true\/(rQ ids ops L i/\∀ p∈e1 ops i,∀ (j:Nat),ids[j]? = some p->Dc[j]? = some true)
theorem adn {l:ap} {p:U} {x:List U × Nat} (h:hj l p=some x) :nX p 0=some p:=by
 cases p<;>first | rfl | (exfalso; simp[hj] at h)
theorem ant {l:ap} {a b cV aZ:U} (ad:eK l a cV) (ae:eK l b aZ) :eK l (.bq [a,b]) (.bq [cV,aZ]) :=by
 refine .bq _ _ rfl fun j x GO ag mU=>?_
 rcases j with _ | _ | j
 ·simp at ag mU; subst ag mU; exact ad
 ·simp at ag mU; subst ag mU; exact ae
 ·simp at ag
def qO (g:bz) (x:List B) (m:Nat) :Bool:=decide (∀ j,j<m->x∉(kv g.ops.l j).bo.l)
theorem ae5 (g:bz) (x:List B) (m:Nat) :qO g x (m+1)=(qO g x m&&!decide (x∈(kv g.ops.l m).bo.l)) :=by
 unfold qO;rw[azp,awZ,decide_eq_true_eq,decide_eq_true_eq,ayD,decide_eq_false_iff_not];constructor
 ·intro h; exact⟨fun j ai=>h j (by omega),h m (by omega)⟩
 ·rintro⟨ad,ae⟩ j ai;by_cases e:j=m
  ·rw[e]; exact ae
  ·exact ad j (by omega)
abbrev mi (g:bz) (x:List B) :Bool:=qO g x g.ops.l.length
def ie (g:bz) :List (List B) :=g.ids.l.filter (mi g)
structure ab1 (g:bz) (fw:ap) (w:U) (seen:List Bool) (k:Nat) (σ:bc) (l:ap) :Prop where
 aK:σ 1=w
 aW:σ 2=.ptr fw.length 0 2
 fT:σ 8=.int .i64 seen.length
 g4:σ 9=.int .i64 k
 ex:∃ v,σ 5=v/\cJ 32 a5 (fw++[.cells 2 [aA g.ids,bF g.ops]]) l v (ri g.ids.l seen k) (ri g.ids.l seen k).isEmpty
set_option maxHeartbeats 4000000 in
theorem akQ (g:bz) (ax:ho g) {fw:ap} {w:U} {fE:Nat} {seen:List Bool} (ak:seen.length=g.ids.l.length) (aP:bL 1 fw w fE (seen.map oY)) (BL:fE<fw.length) {K:U->ap->Prop}
  (aY:∀ v l',cJ 32 a5 fw l' v (ri g.ids.l seen seen.length) (ri g.ids.l seen seen.length).isEmpty->K v l') :
  c5 Tryz.prog GS 206 [df g,w] fw (c:=⟨K⟩) :=by
 apply bn Tryz.func206 [];have az:ci=140737488355328:=rfl;have dO:=ax.li;have bW:cp (.aq 1) w=some (.int .i64 seen.length) :=by have:=aP.len; simpa using this
 simp[df,b3,bW];refine cl seen.length (ab1 g fw w seen) ?_ ⟨by simp,by simp,by simp,by simp,.aG,by simp,cJ.nil⟩;rintro k σ l ar ⟨aK,aW,fT,g4,v,bm,fC⟩;obtain⟨σ,rfl⟩:=k1 aK aW bm fT g4;clear aK aW bm fT g4;have cI:l[fw.length]? = some (.cells 2 [aA g.ids,bF g.ops]) :=by rw[fC.same _ (by simp)]; simp
 have xp:bL 1 l w fE (seen.map oY) :=aP.jS (.inr (by rw[fC.same _ (by simp; omega),awS BL]));by_cases bD:k<seen.length
 ·obtain⟨b,af,_⟩:=bJ bD;obtain⟨x,ag,c3⟩:=bJ (l:=g.ids.l) (k:=k) (by omega);have aS:IntKind.i64.wrap ((k:Int)+1)=((k+1:Nat) :Int) :=by rw[IntKind.wrap_i64]; omega
  obtain⟨p,cs,o,ka,jM,sY,rF⟩:=xp.q.get (k:=.i64) (i:=k) (e:=oY b) (by rw[awV,af]; rfl);have sZ:cs[o]? = some (.bool b) :=by
   have ae:((cs.drop o).take 1)[0]? = (oY b)[0]?:=by rw[rF]
   rw[axm (by omega)] at ae;simpa [oY] using ae
  have hv:cN (.aq 32) (aA g.ids) (.int .i64 (k:Int))=some (.bM (a5 x) 0) :=by simp[aA,ag]
  have E8:seen.getD k false=b:=by rw[aw7,af]; rfl
  have bp:=dq (ax.ids x c3);have kP:=Ye g.ids.l seen k;have E9:=OM g.ids.l seen k;have gy:=adn jM;rw[E8] at E9;cases b with
  | false=>
   simp at E9;simp[bD,ka,jM,sZ,gy,aS];exact⟨by simp,by simp,by simp,by simp,v,by simp,by rw[E9]; exact fC⟩
  | true=>
   rw[if_pos rfl,gu ag] at E9;obtain⟨v',FG,a8,ahV,SN⟩:=alG (by_:=32) (fC.more [aV.cells 32 (a5 x)]) x (b:=l.length) (by simp) bp (by omega) (by omega) (by rw[az]; omega);obtain⟨X,cW⟩:∃ X,X=a5 x:=⟨_,rfl⟩
   rw[<-cW] at hv bp a8;have iU:bf (rep 32 (.int .u8 0)) 0 X=X:=gw (by rw[bp]; rfl);simp[bD,ka,jM,sZ,gy,cI,hv,bp,iU,awR,a8];refine cU.b1 ?_;simp[bD,aS];exact⟨by simp,by simp,by simp,by simp,v',by simp,by rw[E9,show (ri g.ids.l seen k++[x]).isEmpty=false by simp]; exact ahV⟩
 ·have lg:k=seen.length:=by omega
  subst lg;simp[bD];exact aY _ _ (fC.base (by simp) (fun b af=>awS af))
def r4 (n k:Nat) :List Bool:=(List.range n).map fun i=>decide (i<k)
theorem aeN (n k:Nat) :(r4 n k).length=n:=by simp[r4]
theorem aeP (n:Nat) :r4 n 0=List.replicate n false:=by
 apply axE ; intro i;unfold r4;by_cases h:i<n
 ·rw[awV,axu h,azO,if_pos h]; simp
 ·rw[aw5 (by simp; omega),aw5 (by simp; omega)]
theorem aeO {n k:Nat} (h:k<n) :(r4 n k).set k true=r4 n (k+1) :=by
 apply axE ; intro i;unfold r4;by_cases ay:i<n
 ·by_cases e:k=i
  ·subst e;rw[axb (by simp; omega),awV,axu ay]; simp
  ·rw[axg e,awV,awV,axu ay];simp; omega
 ·rw[aw5 (by simp; omega),aw5 (by simp; omega)]
def mh (g:bz) (q m:Nat) :List Bool:=(List.range g.ids.l.length).map fun i=>qO g (b2 g.ids.l i) q&&!decide (b2 g.ids.l i∈(kv g.ops.l q).bo.l.take m)
theorem MH (g:bz) (q m:Nat) :(mh g q m).length=g.ids.l.length:=by simp[mh]
theorem agA (g:bz) :r4 g.ids.l.length g.ids.l.length=mh g 0 0:=by
 unfold r4 mh;refine ayi fun i ay=>?_
 rw[axz] at ay;rw[decide_eq_true ay];simp[qO]
theorem agy (g:bz) (q:Nat) :mh g q (kv g.ops.l q).bo.l.length=mh g (q+1) 0:=by
 unfold mh;refine ayi fun i ay=>?_
 rw[axo,ae5]; simp
theorem agz {g:bz} (ai:oO g.ids.l) {q m i:Nat} {p:List B} (au:(kv g.ops.l q).bo.l[m]? = some p) (ay:g.ids.l[i]? = some p) :(mh g q m).set i false=mh g q (m+1) :=by
 have ec:=(awQ.1 ay).1;apply axE ; intro t;unfold mh;have bE:(kv g.ops.l q).bo.l.take (m+1)=(kv g.ops.l q).bo.l.take m++[p] :=by rw[axe,au]; rfl
 by_cases aX:t<g.ids.l.length
 ·obtain⟨y,aI,_⟩:=bJ aX;by_cases e:i=t
  ·subst e;rw[axb (by simp; omega),awV,axu aX,bE]; simp[ay]
  ·rw[axg e,awV,awV,axu aX,bE];have bY:y≠p:=fun h=>e (by subst h; exact ai i t y ay aI)
   simp[aI,bY]
 ·rw[aw5 (by simp; omega),aw5 (by simp; omega)]
theorem Yd (g:bz) :∀ k,k<=g.ids.l.length->ri g.ids.l (mh g g.ops.l.length 0) k=(g.ids.l.take k).filter (mi g)
 | 0,_=>rfl
 | k+1,ar=>by
  obtain⟨x,ag,_⟩:=bJ (l:=g.ids.l) (k:=k) (by omega);have ad:(mh g g.ops.l.length 0).getD k false=mi g x:=by
   rw[aw7];unfold mh;rw[awV,axu (by omega)];simp[gu ag,ag]
  rw[OM,Yd g k (by omega),ad,gu ag,axe,ag,ax9];cases h:mi g x<;>simp[h]
structure te (g:bz) (mw b:Nat) (S:List Bool) (l:ap) :Prop where
 cI:l[0]? = some (.cells 2 [aA g.ids,bF g.ops])
 p:oQ l mw g.ids.l
 w:bL 1 l (.aq 1 b 0 g.ids.l.length g.ids.l.length g.ids.l.length) b (S.map oY)
 af:b<l.length
 hm:mw<b
 aJ:0<mw
theorem te.more {g:bz} {mw b:Nat} {S:List Bool} {l:ap} (h:te g mw b S l) (c:aV) :te g mw b S (l++[c]) :=
 ⟨by rw[awS (by have:=h.af; omega)]; exact h.cI,h.p.frame (awS h.p.lt),h.w.more _,by have:=h.af; simp; omega,h.hm,h.aJ⟩
theorem te.set {g:bz} {mw b:Nat} {S:List Bool} {l:ap} (h:te g mw b S l) {i:Nat} {v:Bool} (ay:i<S.length) :
  ∃ p l',cN (.aq 1) (.aq 1 b 0 g.ids.l.length g.ids.l.length g.ids.l.length) (.int .i64 (i:Int))=some p/\mD 1 l p (.bool v)=some l'/\te g mw b (S.set i v) l':=by
 obtain⟨p,l',a8,bh,b6,eW,gn⟩:=YF (enc:=oY) (x:=v) (X:=.bool v) rfl h.w (fun _ _=>rfl) ay rfl;have ad:=h.hm;have ae:=h.aJ;exact⟨p,l',a8,bh,by rw[gn 0 (by omega)]; exact h.cI,h.p.frame (gn mw (by omega)),b6,by rw[eW]; exact h.af,h.hm,h.aJ⟩
def yx (g:bz) :dk:=if hS g=0 then dz (ie g) else none
set_option maxHeartbeats 8000000 in
theorem ap4 (g:bz) (ax:ho g) :bw Tryz.prog GS 177 [df g] (.bq [aA (yx g),.int .i64 (hS g)]) :=by
 refine bQ Tryz.checked.mixed bj ?_;apply bn Tryz.func177 [];have az:ci=140737488355328:=rfl;have fF:=dd g.ids;have ez:=mc g.ops;have as7:=ax.cK;have as5:=ax.li;have fc:=abj g ax;have cG:cp (.aq 11) (bF g.ops)=some (.int .i64 g.ops.l.length) :=by simp[bF]
 have dO:cp (.aq 32) (aA g.ids)=some (.int .i64 g.ids.l.length) :=by simp[aA]
 unfold df b3 at fc;simp[df,b3];refine a7 fc (by simp[a4,U.closed,fF,ez]) ?_;by_cases aJ:hS g=0
 ·have V:=Ct aJ;have sd:=xx V.dR;simp[aJ];refine amn g ax sd ?_;intro mw l1 n2 BK jy BP;have cI:l1[0]? = some (aV.cells 2 [aA g.ids,bF g.ops]) :=by rw[jy 0 (by simp)]; rfl
  obtain⟨a8,bh⟩:=FL (z:=1) (by_:=1) (n:=g.ids.l.length) (k:=.i64) (k':=.i64) (zero:=[U.bool false]) (l:=l1) rfl (by omega) (by rw[az]; omega);obtain⟨N,fB⟩:∃ N,N=g.ids.l.length:=⟨_,rfl⟩
  simp only[ayt] at a8 bh;have eY:te g mw l1.length (r4 g.ids.l.length 0) (l1++[.cells g.ids.l.length (dH [.bool false] g.ids.l.length)]) :=by
   have ad:l1.length ≥ 1:=by simp at BP; omega
   refine⟨by rw[awS (by omega)]; exact cI,n2.frame (awS n2.lt),?_,by simp,n2.lt,by simp at BK; omega⟩;rw[aeP,azd]; exact bh
  simp[cI,dO,a8];obtain⟨b,af⟩:∃ b,b=l1.length:=⟨_,rfl⟩
  rw[<-af] at eY ⊢;refine cl g.ids.l.length (fun k σ l=>σ 1=.ptr 0 0 2/\σ 5=.mp mw/\σ 6=.aq 1 b 0 g.ids.l.length g.ids.l.length g.ids.l.length/\σ 24=.int .i64 g.ids.l.length/\σ 25=.int .i64 k/\te g mw b (r4 g.ids.l.length k) l) ?_ ⟨by simp,by simp,by simp,by simp,by simp,eY⟩;clear eY a8 bh cI jy n2;rintro k σ l ar ⟨aK,bm,cD,w5,u0,eY⟩;obtain⟨σ,rfl⟩:=k1 aK bm cD w5 u0;clear aK bm cD w5 u0;simp;refine nE (fun h=>?_) (fun h=>?_)
  ·simp only[decide_eq_true_eq] at h;have aS:IntKind.i64.wrap ((k:Int)+1)=((k+1:Nat) :Int) :=by rw[IntKind.wrap_i64]; omega
   obtain⟨p,l',c0,iC,kX⟩:=eY.set (i:=k) (v:=true) (by rw[aeN]; omega);rw[aeO (by omega)] at kX;simp[c0,iC,aS];exact⟨by omega,kX⟩
  ·have se:k=g.ids.l.length:=by simp at h; omega
   rw[se,agA] at eY;have cI:=eY.cI;simp[h,cI,cG];refine cl g.ops.l.length (fun q σ l=>σ 1=.ptr 0 0 2/\σ 5=.mp mw/\σ 6=.aq 1 b 0 g.ids.l.length g.ids.l.length g.ids.l.length/\σ 33=bF g.ops/\σ 34=.int .i64 g.ops.l.length/\σ 35=.int .i64 q/\te g mw b (mh g q 0) l) ?_ ⟨by simp,by simp,by simp,by simp,by simp,by simp,eY⟩;clear eY cI;rintro q σ l aN ⟨aK,bm,cD,jT,jU,u1,eY⟩;obtain⟨σ,rfl⟩:=we aK bm cD jT jU u1;clear aK bm cD jT jU u1;simp;refine nE (fun ae=>?_) (fun ae=>?_)
   ·simp only[decide_eq_true_eq] at ae;obtain⟨o,av,eQ⟩:=bJ (l:=g.ops.l) (k:=q) (by omega);have nx:=ax.ops o eQ;have aS:IntKind.i64.wrap ((q:Int)+1)=((q+1:Nat) :Int) :=by rw[IntKind.wrap_i64]; omega
    have bT:cN (.aq 11) (bF g.ops) (.int .i64 (q:Int))=some (.bM (bd o) 0) :=by simp[bF,av]
    have dP:(bd o).length=11:=rfl;have o3:∀ h,(bd o)[1]'h=aA o.bo:=fun _=>rfl
    have g7:cp (.aq 32) (aA o.bo)=some (.int .i64 o.bo.l.length) :=by simp[aA]
    obtain⟨O,eO⟩:∃ O,O=bd o:=⟨_,rfl⟩
    rw[<-eO] at bT dP o3;have so:bf [U.int .u32 0,.aG,.int .u64 0,.int .u8 0,.str [],.int .u8 0,.int .i64 0,.int .u64 0,.str [],.int .u32 0,.int .u32 0] 0 O=O:=gw (by rw[dP]; rfl);have YT:∀ c:aV,(l++[c])[l.length]? = some c:=fun c=>ayB
    simp[bT,dP,o3,so,g7,YT,awR];refine cl o.bo.l.length (fun m σ l=>σ 1=.ptr 0 0 2/\σ 5=.mp mw/\σ 6=.aq 1 b 0 g.ids.l.length g.ids.l.length g.ids.l.length/\σ 33=bF g.ops/\σ 34=.int .i64 g.ops.l.length/\σ 35=.int .i64 q/\σ 40=aA o.bo/\σ 41=.int .i64 o.bo.l.length/\σ 42=.int .i64 m/\te g mw b (mh g q m) l) ?_ ⟨by simp,by simp,by simp,by simp,by simp,by simp,by simp,by simp,by simp,eY.more _⟩;clear eY YT;rintro m σ l hm ⟨aK,bm,cD,jT,jU,u1,u2,u3,UC,eY⟩;obtain⟨σ,rfl⟩:=aa3 aK bm cD jT jU u1 u2 u3 UC;clear aK bm cD jT jU u1 u2 u3 UC;simp;refine nE (fun aj=>?_) (fun aj=>?_)
    ·simp only[decide_eq_true_eq] at aj;obtain⟨p,au,hg⟩:=bJ (l:=o.bo.l) (k:=m) (by omega);have iw:=nx.ids p hg;have fv:=dq iw;have ati:=nx.len;have bt:IntKind.i64.wrap ((m:Int)+1)=((m+1:Nat) :Int) :=by rw[IntKind.wrap_i64]; omega
     obtain⟨i,ay⟩:=aw3.1 (V.alW o eQ p hg);have ec:=(awQ.1 ay).1;have EJ:cN (.aq 32) (aA o.bo) (.int .i64 (m:Int))=some (.bM (a5 p) 0) :=by simp[aA,au]
     have H4:=eY.more (.cells 32 (a5 p));have vo:=H4.p.look sd iw ay;obtain⟨avL,l',c0,iC,kX⟩:=H4.set (i:=i) (v:=false) (by rw[MH]; omega);rw[agz sd (by rw[vX av]; exact au) ay] at kX;obtain⟨P,n2⟩:∃ P,P=a5 p:=⟨_,rfl⟩
     rw[<-n2] at EJ fv vo iC;have ait:bf (rep 32 (U.int .u8 0)) 0 P=P:=gw (by rw[fv]; rfl);simp[EJ,fv,ait,vo,c0,iC,bt,awR];exact⟨by omega,kX⟩
    ·have lj:m=o.bo.l.length:=by simp at aj; omega
     have hw:=agy g q;rw[vX av] at hw;rw[lj,hw] at eY;simp[aj,aS];exact⟨by omega,eY⟩
   ·have E4:q=g.ops.l.length:=by simp at ae; omega
    rw[E4] at eY;have cI:=eY.cI;simp[ae,cI];have aP:=eY.w;refine akQ g ax (seen:=mh g g.ops.l.length 0) (MH _ _ _) aP eY.af (fun v l' fC=>?_);simp;have Na:ri g.ids.l (mh g g.ops.l.length 0) (mh g g.ops.l.length 0).length=ie g:=by
     rw[MH,Yd g _ (awU _),axo]; rfl
    rw[Na] at fC;refine ant ?_ (aU (by rw[aJ]) rfl);exact fC.rd g2 (yx g) (by unfold yx; rw[if_pos aJ,ur]) (by unfold yx; rw[if_pos aJ,eI])
 ·have zg:yx g=none:=by unfold yx; rw[if_neg aJ]
  rw[zg];simp[aJ];exact aU rfl rfl
def qt (l l' : ap) :Prop:=l.length<=l'.length/\∀ b,b<l.length->l'[b]? = l[b]?
theorem qt.refl (l:ap) :qt l l:=⟨awU _,fun _ _=>rfl⟩
theorem qt.trans {l m n:ap} (h:qt l m) (ae:qt m n) :qt l n:=⟨axy h.1 ae.1,fun b af=>by rw[ae.2 b (ayy af h.1),h.2 b af]⟩
def GX (f:FuncId) (wJ:List U) (l:ap) (xs:List (List B)) (c:List B->Bool) :Prop:=
 ∀ p∈xs,∀ l1,qt l l1->∀ K:U->ap->Prop,(∀ br,qt l1 br->K (.bool (c p)) br)->c5 Tryz.prog GS f (.aH (a5 p) ::wJ) l1 (c:=⟨K⟩)
theorem ai4 (s:dk) (ak:ds s) (bW:s.l.length<=1000000) {f:FuncId} {wJ:List U} {c:List B->Bool} (aF:kK Tryz.prog f=true) {l:ap} (h:GX f wJ l s.l c) {K:U->ap->Prop}
  (aY:∀ (n:Int) l',qt l l'->(0<=n<->s.l.any c=true)->K (.int .i64 n) l') :c5 Tryz.prog GS 101 [aA s,.fn f [] wJ] l (c:=⟨K⟩) :=by
 apply bn Tryz.func101 [];have vq:cp (.aq 32) (aA s)=some (.int .i64 s.l.length) :=by simp[aA]
 simp[vq];refine cl s.l.length (fun k σ l1=>σ 0=aA s/\σ 1=.fn f [] wJ/\σ 7=.int .i64 s.l.length/\σ 8=.int .i64 k/\qt l l1/\∀ j y,j<k->s.l[j]? = some y->c y=false) ?_ ⟨by simp,by simp,by simp,by simp,qt.refl _,fun j _ ai=>by omega⟩;rintro k σ l1 ar ⟨ck,aK,ei,fT,am,cR⟩;obtain⟨σ,rfl⟩:=ij ck aK ei fT;clear ck aK ei fT;simp;refine nE (fun ae=>?_) (fun ae=>?_)
 ·simp only[decide_eq_true_eq] at ae;obtain⟨x,ag,c3⟩:=bJ (l:=s.l) (k:=k) (by omega);have bp:=dq (ak x c3);have aS:IntKind.i64.wrap ((k:Int)+1)=((k+1:Nat) :Int) :=by rw[IntKind.wrap_i64]; omega
  have bT:cN (.aq 32) (aA s) (.int .i64 (k:Int))=some (.bM (a5 x) 0) :=by simp[aA,ag]
  have xd:=h x c3 l1 am;obtain⟨X,cW⟩:∃ X,X=a5 x:=⟨_,rfl⟩
  rw[<-cW] at bT bp xd;simp[bT,bp,awR];refine⟨aF,xd _ fun br vh=>?_⟩;cases ah:c x with
  | true=>
   simp;exact aY _ _ (am.trans vh) ⟨fun _=>ayJ.2 ⟨x,c3,ah⟩,fun _=>by omega⟩
  | false=>
   simp[aS];refine⟨ae,am.trans vh,fun j y ai aI=>?_⟩;by_cases fu:j=k
   ·rw[fu,ag] at aI; obtain rfl:=Option.some.inj aI; exact ah
   ·exact cR j y (by omega) aI
 ·simp[ae];have se:k=s.l.length:=by simp at ae; omega
  refine aY _ _ am ⟨fun h=>by omega,fun h=>?_⟩;obtain⟨y,aI,lp⟩:=ayJ.1 h;obtain⟨j,ai⟩:=aw3.1 aI;rw[cR j y (by rw[se]; exact (awQ.1 ai).1) ai] at lp; cases lp
theorem TM (s:dk) (ak:ds s) (bW:s.l.length<=1000000) {f:FuncId} {wJ:List U} {c:List B->Bool} (aF:kK Tryz.prog f=true) {l:ap} (h:GX f wJ l s.l c) {K:U->ap->Prop}
  (aY:∀ l',qt l l'->K (.bool (s.l.any c)) l') :c5 Tryz.prog GS 97 [aA s,.fn f [] wJ] l (c:=⟨K⟩) :=by
 apply bn Tryz.func97 [];simp;refine ai4 s ak bW aF h fun n l' am aC=>?_
 simp;have:decide (0<=n)=s.l.any c:=by
  rw[azp,decide_eq_true_eq]; exact aC
 rw[this];exact aY _ am
end Op

end Go.bV

namespace Go.bV
open Go Go.Proofs
set_option maxRecDepth 100000
theorem ade {P:Program} {G:Nat->U} {f:FuncId} {args args2:List U} {h ae h' : aO} {r:U} (ah:rI P G f args2 ae r h') (iO:nS h ae) (al:args2.length=args.length)
  (ao:∀ (j:Nat) (c b7:U),args[j]? = some c->args2[j]? = some b7->nQ h ae c b7) :rI P G f args h r h':=by
 intro R B w μ vs rel g hL ix;refine (ah R B w μ vs (iO.rel rel) (g.ext (iO.ext w μ)) (by omega) (fun j b7 v ai gi=>?_)).mono ?_
 ·have et:=(awQ.1 ai).1;obtain⟨c,nq⟩:∃ c,args[j]? = some c:=⟨_,awT (by omega)⟩
  exact iO.qm rel (ao j c b7 nq ai) (ix j c v nq gi)
 ·rintro e w' ⟨v,μ',rfl,aS,da,nA⟩;exact⟨v,μ',rfl,(iO.ext w μ).trans aS,da,nA⟩
theorem Dx {P:Program} {G:Nat->U} (fO:P.follows .mixedOrders=true) (ir:∀ g,(G g).closed=true) {f:FuncId} {args args2:List U} {l br:ap} {K:U->ap->Prop} (iO:nS (bb l) (bb br)) (dN:l.length<=br.length) (al:args2.length=args.length)
  (ao:∀ (j:Nat) (c b7:U),args[j]? = some c->args2[j]? = some b7->nQ (bb l) (bb br) c b7) (h:c5 P G f args2 br (c:=⟨K⟩)) :c5 P G f args l (c:=⟨K⟩) :=by
 obtain⟨r,l',tx,BO,ar⟩:=h;exact⟨r,l',.ext (ade (Gr fO ir tx) iO al ao),axy dN BO,ar⟩
namespace Op
theorem F1 {α:Type} {z:Nat} {enc:α->List U} {l:ap} {v:U} {j:Nat} {xs:List α} (s:b8 α) (h:bL z l v j (xs.map enc)) (aC:cz v=s.isNone) (ak:s.l=xs) :
  ∃ br,nS (bb l) (bb br)/\nQ (bb l) (bb br) v (cc z enc s)/\br.length=l.length/\∀ b,(v=.aG\/b≠j)->br[b]? = l[b]?:=by
 cases s with
 | none=>
  have ao:v=.aG:=lr.1 (by rw[aC]; rfl);subst ao;exact⟨l,⟨rfl,fun b=>.inl rfl⟩,.same _,rfl,fun b _=>rfl⟩
 | some a=>
  have ao:cz v=false:=by rw[aC]; rfl
  have pX:a=xs:=ak;obtain⟨ad,ae⟩:=al9 h ao;refine⟨l.set j .dead,ad,by rw[pX]; exact ae,by simp,fun b af=>?_⟩;rcases af with e | e
  ·rw[e] at ao; cases ao
  ·exact axg (Ne.symm e)
end Op

end Go.bV

namespace Go.bV
open Go Go.Proofs
set_option maxRecDepth 100000
namespace Op
open hp
theorem acp {α:Type} {enc:α->List U} {z by_:Nat} (l:ap) (b:Nat) (me:l[b]? = some (.cells 0 [])) (s:b8 α) (h:∀ x∈s.l,(enc x).length=z) (aJ:z≠0) (af:by_≠0) (az:s.l.length*by_<=ci) :
  gK l z by_ (.aq z b 0 0 0 0) (cc z enc s)=some (.aq z b 0 s.l.length s.l.length (s.l.length*z),l.set b (.cells (s.l.length*z) (s.l.map enc).flatten)) :=by
 have hu:=w4 h;unfold gK;rw[wV];simp only[];unfold ja;by_cases aw:s.l.length=0
 ·have aJ:s.l=[] :=axF.1 aw;rw[aJ];obtain⟨gq,agh⟩:=awQ.1 me;have:l.set b (.cells 0 [])=l:=by rw[<-agh,List.set_getElem_self]
  simp[this]
 ·rw[if_neg aw,if_neg (by omega)];have bY:¬ s.l=[] :=fun h=>aw (by rw[h]; rfl)
  simp[az,aJ,aw,bY,me]
theorem akz (a:List B) :iz a a=false:=by
 cases h:iz a a with
 | false=>rfl
 | true=>rw[ov,rZ] at h; omega
theorem Jz (a b c:List B) (ad:iz a b=true) (ae:iz b c=true) :iz a c=true:=(ov _ _).2 (A3 a b c ((ov _ _).1 ad) ((ov _ _).1 ae))
theorem akA (a b:List B) (bY:a≠b) (h:iz a b=false) :iz b a=true:=by
 rw[ov,DC];rcases TC a b with ad | ad | ad
 ·rw[(ov a b).2 (by omega)] at h; cases h
 ·exact absurd (A2 ad) bY
 ·omega
theorem PE {l:List (List B)} (h:dR l=true) :l.Pairwise fun a b=>iz a b=true:=
 ay5.2 fun i j ay ai hf=>(ov _ _).2 (ru h hf (awT ay) (awT ai))
theorem YK {l:List (List B)} (h:l.Pairwise fun a b=>iz a b=true) :dR l=true:=Ke fun k ar ad=>by
 have ae:=awT ar;have aj:=awT (l:=l) (i:=k - 1) (by omega);rw[gu ae,gu aj];exact (ov _ _).1 ((ay5.1 h) (k - 1) k (by omega) ar (by omega))
section
variable {α:Type} {z:Nat} {enc:α->List U}
def kz (s:b8 α) (k:Nat) :b8 α:=match s with | none=>none | some a=>some (a.take k)
def m3 (s:b8 α) (k:Nat) :b8 α:=match s with | none=>none | some a=>some (a.drop k)
theorem us (s:b8 α) (k:Nat) :(kz s k).l=s.l.take k:=by cases s<;>simp[kz]
theorem yj (s:b8 α) (k:Nat) :(m3 s k).l=s.l.drop k:=by cases s<;>simp[m3]
theorem aaF {s:b8 α} {k:Nat} (h:k<=s.l.length) :fm (.aq z) (cc z enc s) none (some (.int .i64 (k:Int))) none=some (cc z enc (kz s k)) :=by
 cases s with
 | none=>
  have:k=0:=by simpa using h
  subst this; rfl
 | some a=>exact P3 (z:=z) (enc:=enc) (l:=a) (k:=.i64) (i:=(k:Int)) (by omega) (by have:k<=a.length:=h; omega)
theorem Qd {s:b8 α} {k:Nat} (h:k<=s.l.length) :fm (.aq z) (cc z enc s) (some (.int .i64 (k:Int))) none none=some (cc z enc (m3 s k)) :=by
 cases s with
 | none=>
  have:k=0:=by simpa using h
  subst this; rfl
 | some a=>exact Kp (z:=z) (enc:=enc) (l:=a) (k:=.i64) (i:=(k:Int)) (by omega) (by have:k<=a.length:=h; omega)
theorem amI {by_:Nat} {l:ap} {b c k:Nat} {s:b8 α} {x:α} (af:l[b]? = some (.cells 0 [])) (ah:l[c]? = some (.cells z (enc x))) (agf:b≠c) (ar:k<=s.l.length) (ak:∀ y∈s.l,(enc y).length=z) (ag:(enc x).length=z) (aJ:z≠0) (dM:by_≠0) (dC:(s.l.length+1)*by_<=ci) :
  gK l z by_ (.aq z b 0 0 0 0) (cc z enc (kz s k))=some (.aq z b 0 k k (k*z),l.set b (.cells (k*z) ((s.l.take k).map enc).flatten)) ∧
  gK (l.set b (.cells (k*z) ((s.l.take k).map enc).flatten)) z by_ (.aq z b 0 k k (k*z)) (.aq z c 0 1 1 z)=some (.aq z b 0 (k+1) (k+1) ((k+1)*z),l.set b (.cells ((k+1)*z) ((s.l.take k++[x]).map enc).flatten)) ∧
  gK (l.set b (.cells ((k+1)*z) ((s.l.take k++[x]).map enc).flatten)) z by_ (.aq z b 0 (k+1) (k+1) ((k+1)*z)) (cc z enc (m3 s k)) =
   some (.aq z b 0 (oq s.l k x).length (oq s.l k x).length ((oq s.l k x).length*z),l.set b (.cells ((oq s.l k x).length*z) ((oq s.l k x).map enc).flatten)) :=by
 have gq:=cd af;have bD:(s.l.take k).length=k:=by rw[axd]; omega
 have NY:∀ y∈s.l.take k,(enc y).length=z:=fun y aI=>ak y (axp aI)
 have dN:k*by_<=ci:=axy (awX _ (by omega)) dC;have IJ:(k+1)*by_<=ci:=axy (awX _ (by omega)) dC;refine⟨?_,?_,?_⟩
 ·have:=acp (enc:=enc) (by_:=by_) l b af (kz s k) (by rw[us]; exact NY) aJ dM (by rw[us,bD]; exact dN);rw[us,bD] at this;exact this
 ·have:=Dk (l:=l.set b (.cells (k*z) ((s.l.take k).map enc).flatten)) (z:=z) (by_:=by_) (b:=b) (n:=k) (m:=1) (sz:=k*z) (es:=(s.l.take k).map enc) (xs:=[enc x]) (x:=.aq z c 0 1 1 z)
   (axb gq) (by simp[de,axg agf,ah,ag,awR]) (by rw[aw1,bD]) rfl rfl (fun e am=>by obtain⟨y,aI,rfl⟩:=axi.1 am; exact NY y aI) aJ dM IJ
  rw[this,azN];simp
 ·have ji:(m3 s k).l.length=s.l.length - k:=by rw[yj,axP]
  have aC:k+1+(s.l.length - k)=(oq s.l k x).length:=by rw[Jm]; omega
  have:=Dk (l:=l.set b (.cells ((k+1)*z) ((s.l.take k++[x]).map enc).flatten)) (z:=z) (by_:=by_) (b:=b) (n:=k+1) (m:=s.l.length - k) (sz:=(k+1)*z) (es:=(s.l.take k++[x]).map enc) (xs:=(m3 s k).l.map enc) (x:=cc z enc (m3 s k))
   (axb gq) (by rw[wV,ji]) (by rw[aw1,awW,bD]; rfl) (by rw[aw1,ji]) rfl (fun e am=>by
    obtain⟨y,aI,rfl⟩:=axi.1 am;rcases axN.1 aI with h | h
    ·exact NY y h
    ·rw[axQ.1 h]; exact ag) aJ dM (by rw[aC,Jm]; exact dC)
  rw[this,azN,aC,yj,<-axc];unfold oq;simp
end
theorem TH (l:List (List B)) (x:List B) :jv l x<=l.length:=by unfold jv; exact (List.takeWhile_sublist _).length_le
theorem LG {x:List B}:∀ {l:List (List B)} {k:Nat} {y:List B},k<jv l x->l[k]? = some y->cj y x<0
 | [],k,y,_,h=>by simp at h
 | a::l,k,y,ar,h=>by
  unfold jv at ar;rw[ay4] at ar;by_cases aE:cj a x<0
  ·cases k with
   | zero=>simp at h; subst h; exact aE
   | succ k=>
    rw[decide_eq_true aE] at ar;simp at ar h;exact LG (l:=l) (by unfold jv; exact ar) h
  ·rw[decide_eq_false aE] at ar; simp at ar
theorem LF {x:List B}:∀ {l:List (List B)} {y:List B},l[jv l x]? = some y->¬ cj y x<0
 | [],y,h=>by simp at h
 | a::l,y,h=>by
  unfold jv at h;rw[ay4] at h;by_cases aE:cj a x<0
  ·rw[decide_eq_true aE] at h;simp at h;exact LF (l:=l) (by unfold jv; exact h)
  ·rw[decide_eq_false aE] at h; simp at h; subst h; exact aE
theorem anM {l:List (List B)} {x:List B} (h:dR l=true) (ag:x∉l) :dR (oq l (jv l x) x)=true:=by
 have au:=PE h;have dN:=TH l x;refine YK ?_;unfold oq;have aL:∀ y∈l.take (jv l x),iz y x=true:=fun y aI=>by
  obtain⟨k,ar⟩:=aw3.1 aI;have bD:=(awQ.1 ar).1;rw[axd] at bD;rw[axm (by omega)] at ar;exact (ov _ _).2 (LG (by omega) ar)
 have tA:∀ y∈l.drop (jv l x),iz x y=true:=fun y aI=>by
  have en:=ayu aI;obtain⟨k,ar⟩:=aw3.1 aI;rw[axv] at ar;obtain⟨z,aw,Ca⟩:=bJ (l:=l) (k:=jv l x) (by have:=(awQ.1 ar).1; omega);have ad:iz x z=true:=akA z x (fun e=>ag (by rw[<-e]; exact Ca)) (by
   cases ae:iz z x with
   | false=>rfl
   | true=>exact absurd ((ov _ _).1 ae) (LF aw))
  by_cases EL:k=0
  ·subst EL; rw[ayW,aw] at ar; obtain rfl:=Option.some.inj ar; exact ad
  ·exact Jz _ _ _ ad ((ov _ _).2 (ru h (show jv l x<jv l x+k by omega) aw ar))
 rw[azq];refine⟨au.sublist (azC _ _),azz.2 ⟨tA,au.sublist (List.drop_sublist _ _)⟩,fun a aE b af=>?_⟩;rcases axU.1 af with e | e
 ·rw[e]; exact aL a aE
 ·exact Jz _ _ _ (aL a aE) (tA b e)
def nD (l:List (List B)) (x:List B) :List (List B) :=if l[jv l x]? = some x then l else oq l (jv l x) x
def oJ (l:List (List B)) :Nat->List (List B)
 | 0=>[]
 | k+1=>nD (oJ l k) (b2 l k)
def CO (l:List (List B)) :List (List B) :=oJ l l.length
theorem ai7 {l:List (List B)} {x y:List B}:y∈nD l x<->y=x\/y∈l:=by
 unfold nD;split
 ·rename_i h;exact⟨.inr,fun ae=>ae.elim (fun e=>by rw[e]; exact awY h) id⟩
 ·exact Xb
theorem ai6 (l:List (List B)) (x:List B) :(nD l x).length<=l.length+1:=by
 unfold nD;split
 ·omega
 ·rw[Jm]; omega
theorem adI {l:List (List B)} (h:dR l=true) {x:List B} (ag:x∈l) :l[jv l x]? = some x:=by
 obtain⟨k,ar⟩:=aw3.1 ag;rw[LD h ar]; exact ar
theorem ai8 {l:List (List B)} (h:dR l=true) (x:List B) :dR (nD l x)=true:=by
 unfold nD;split
 ·exact h
 ·rename_i ae;exact anM h fun ag=>ae (adI h ag)
theorem P5 {l:List (List B)} {y:List B}:∀ {k:Nat},k<=l.length->(y∈oJ l k<->y∈l.take k)
 | 0,_=>by simp[oJ]
 | k+1,ar=>by
  obtain⟨x,ag,_⟩:=bJ (l:=l) (k:=k) (by omega);show y∈nD _ _<->_;rw[ai7,P5 (by omega),axe,ag,gu ag,axN];simp; exact or_comm
theorem P4 {l:List (List B)}:∀ {k:Nat},(oJ l k).length<=k
 | 0=>by simp[oJ]
 | k+1=>axy (ai6 _ _) (by have:=P4 (l:=l) (k:=k); omega)
theorem aal {l:List (List B)}:∀ {k:Nat},dR (oJ l k)=true
 | 0=>by unfold oJ dR; exact decide_eq_true fun k ar=>by simp at ar
 | k+1=>ai8 aal _
theorem aak {l:List (List B)} {y:List B}:y∈CO l<->y∈l:=by unfold CO; rw[P5 (awU _),axo]
theorem aoL (l:List (List B)) :dR (CO l)=true:=aal
theorem aaE {α:Type} {l:List α} (h:l≠[]) :dz l=some l:=by cases l with | nil=>exact absurd rfl h | cons=>rfl
set_option maxHeartbeats 8000000 in
theorem ang (s:dk) (ak:ds s) (al:s.l.length<=1000000) :bw Tryz.prog GS 79 [aA s] (aA (dz (CO s.l))) :=by
 refine bQ Tryz.checked.mixed bj ?_;apply bn Tryz.func79 [[],[],[[0],[1],[2],[3],[5],[6],[7],[8],[9],[11],[12],[13],[4,9,8],[10]]];have az:ci=140737488355328:=rfl;have vq:cp (.aq 32) (aA s)=some (.int .i64 s.l.length) :=by simp[aA]
 simp;refine cl s.l.length (fun k σ l=>σ 0=aA s/\σ 3=aA (dz (oJ s.l k))/\σ 4=.int .i64 k) ?_ ⟨by simp,by simp[oJ]; rfl,by simp⟩;rintro k σ l ar ⟨ck,a6,bi⟩;obtain⟨σ,rfl⟩:=lC ck a6 bi;clear ck a6 bi;have aS:IntKind.i64.wrap ((k:Int)+1)=((k+1:Nat) :Int) :=by rw[IntKind.wrap_i64]; omega
 by_cases bD:k<s.l.length
 ·obtain⟨x,ag,c3⟩:=bJ bD;have e7:=ak x c3;have bp:=dq e7;have fW:=g2 x;have bT:cN (.aq 32) (aA s) (.int .i64 (k:Int))=some (.bM (a5 x) 0) :=by simp[aA,ag]
  have eO:∀ y∈oJ s.l k,y.length=32:=fun y aI=>ak y (axp ((P5 (ayz bD)).1 aI))
  have pM:=P4 (l:=s.l) (k:=k);have hw:oJ s.l (k+1)=nD (oJ s.l k) x:=by show nD _ (b2 s.l k)=_; rw[gu ag]
  obtain⟨O,Mq⟩:∃ O,O=dz (oJ s.l k) :=⟨_,rfl⟩
  have U8:O.l=oJ s.l k:=by rw[Mq,eI]
  have afS:dz O.l=O:=by rw[U8,Mq]
  rw[<-U8] at eO pM hw;have cG:cp (.aq 32) (aA O)=some (.int .i64 O.l.length) :=by simp[aA]
  obtain⟨c,ah⟩:∃ c,c=jv O.l x:=⟨_,rfl⟩
  have eb:c<=O.l.length:=by rw[ah]; exact TH _ _
  have W2:∀ (j:Nat) (y:List B),O.l[j]? = some y->cN (.aq 32) (aA O) (.int .i64 (j:Int))=some (.bM (a5 y) 0) :=fun j y aI=>by simp[aA,aI]
  obtain⟨X,cW⟩:∃ X,X=a5 x:=⟨_,rfl⟩
  rw[<-cW] at bp fW bT;have hJ:X.take 32=X:=awR (by omega);rw[<-Mq];simp[vq,bD];refine cl c (fun j σ l'=>l'=l/\σ 0=aA s/\σ 3=aA O/\σ 4=.int .i64 k/\σ 5=.int .i64 j) ?_ ⟨rfl,by simp,by simp,by simp,by simp⟩;rintro j σ l' ai ⟨rfl,ck,a6,bi,bm⟩;obtain⟨σ,rfl⟩:=ij ck a6 bi bm;clear ck a6 bi bm;have bt:IntKind.i64.wrap ((j:Int)+1)=((j+1:Nat) :Int) :=by rw[IntKind.wrap_i64]; omega
  by_cases VV:j<c
  ·obtain⟨y,aI,en⟩:=bJ (l:=O.l) (k:=j) (by omega);have aL:cj y x<0:=LG (by rw[<-ah]; exact VV) aI;have et:j<O.l.length:=by omega
   have fI:=dq (eO y en);have lp:=g2 y;have ft:=Py y x (eO y en) e7;change bw Tryz.prog GS _ [.aH (a5 y),.aH (a5 x)] _ at ft;have hv:=W2 j y aI;rw[<-cW] at ft;obtain⟨Y,he⟩:∃ Y,Y=a5 y:=⟨_,rfl⟩
   rw[<-he] at hv fI lp ft;simp[cG,et,hv,fI,bT,bp,hJ,awR];refine a7 ft (by simp[a4,U.closed,fW,lp]) ?_;simp[aL,bt];exact VV
  ·have IF:j=c:=by omega
   have t1:fm (.aq 32) (aA O) none (some (.int .i64 (j:Int))) none=some (aA (kz O j)) :=aaF (by omega);have t2:fm (.aq 32) (aA O) (some (.int .i64 (j:Int))) none none=some (aA (m3 O j)) :=Qd (by omega);obtain⟨I,lN⟩:∃ I,I=oq O.l j x:=⟨_,rfl⟩
   obtain⟨QO,afF⟩:∃ QO,QO=((O.l.take j).map a5).flatten:=⟨_,rfl⟩
   obtain⟨QP,afG⟩:∃ QP,QP=((O.l.take j++[x]).map a5).flatten:=⟨_,rfl⟩
   have re:∀ y∈O.l,(a5 y).length=32:=fun y aI=>dq (eO y aI)
   obtain⟨iA,i0,z7⟩:=amI (enc:=a5) (z:=32) (by_:=32) (l:=l'++[.cells 0 [],.cells 32 X]) (b:=l'.length) (c:=l'.length+1) (k:=j) (s:=O) (x:=x) (by simp) (by rw[cW]; simp) (by omega) (by omega) re (by rw[<-cW]; exact bp) (by omega) (by omega) (by rw[az]; omega);change gK _ _ _ _ (aA _)=_ at iA z7;have lS:∀ c:aV,(l'++[aV.cells 0 [],.cells 32 X]).set l'.length c=l'++[c,.cells 32 X] :=fun c=>by simp
   simp only[<-lN,<-afF,<-afG,lS] at iA i0 z7;have U4:∀ y∈I,(a5 y).length=32:=fun y aI=>by
    rw[lN,Xb] at aI;rcases aI with h | h
    ·rw[h,<-cW]; exact bp
    ·exact re y h
   have U3:I≠[] :=fun h=>by have:=congrArg List.length h; rw[lN,Jm] at this; simp at this
   have U2:U.a1 32 (I.map a5)=aA (some I) :=rfl;have iU:bf (rep 32 (.int .u8 0)) 0 X=X:=gw (by rw[bp]; rfl);by_cases et:j<O.l.length
   ·obtain⟨y,aI,en⟩:=bJ et;have aL:¬ cj y x<0:=LF (by rw[<-ah,<-IF]; exact aI);have fI:=dq (eO y en);have lp:=g2 y;have ft:=Py y x (eO y en) e7;change bw Tryz.prog GS _ [.aH (a5 y),.aH (a5 x)] _ at ft;have hv:=W2 j y aI;have bY:=zM (eO y en) e7;have ki:¬ (j:Int)=O.l.length:=by omega
    have EK:¬ j=O.l.length:=by omega
    rw[<-cW] at ft bY;obtain⟨Y,he⟩:∃ Y,Y=a5 y:=⟨_,rfl⟩
    rw[<-he] at hv fI lp ft bY;simp[cG,et,hv,fI,bT,bp,hJ,awR];refine a7 ft (by simp[a4,U.closed,fW,lp]) ?_;by_cases Ff:y=x
    ·have pd:nD O.l x=O.l:=by unfold nD; rw[<-ah,<-IF,aI,Ff,if_pos rfl]
     have lh:¬ cj x x<0:=by rw[Ff] at aL; exact aL
     have sg:fz Tryz.prog .neq 61 (.aH Y) (.aH X)=some (.bool false) :=by rw[bY,decide_eq_true Ff]; rfl
     simp[aL,lh,cG,ki,EK,hv,fI,bT,bp,hJ,awR,sg,aS];exact⟨bD,by rw[hw,pd,afS]⟩
    ·have MT:nD O.l x=I:=by unfold nD; rw[<-ah,<-IF,aI,if_neg (fun h=>Ff (Option.some.inj h)),lN]
     have sg:fz Tryz.prog .neq 61 (.aH Y) (.aH X)=some (.bool true) :=by rw[bY,decide_eq_false Ff]; rfl
     simp[aL,cG,ki,EK,hv,fI,bT,bp,hJ,awR,sg,t1,t2,iU,iA];refine cU.b1 ?_;simp[i0,t2,bp,hJ];refine cU.b1 ?_;simp[z7];refine cU.HO (by exact F0 U4 rfl (by simp)) rfl ?_;simp[U2,aS];exact⟨bD,by rw[hw,MT,aaE U3]⟩
   ·have ki:(j:Int)=O.l.length:=by omega
    have EK:j=O.l.length:=by omega
    have MT:nD O.l x=I:=by unfold nD; rw[<-ah,<-IF,if_neg,lN]; rw[aw5 (by omega)]; simp
    rw[EK] at t1 t2 iA i0 z7;simp[cG,et,EK,bT,bp,hJ,awR,t1,t2,iU,iA];refine cU.b1 ?_;simp[i0,t2,bp,hJ];refine cU.b1 ?_;simp[z7];refine cU.HO (by exact F0 U4 rfl (by simp)) rfl ?_;simp[U2,aS];exact⟨bD,by rw[hw,MT,aaE U3]⟩
 ·have e6:k=s.l.length:=by omega
  subst e6;simp[vq];exact aU rfl (dd _)
structure h6 (l:ap) (cu b4:U) (e8 e9 n:Nat) (ids:List (List B)) (ops:List bu) :Prop where
 jo:bL 32 l cu e8 (ids.map a5)
 hB:bL 11 l b4 e9 (ops.map bd)
 jn:cz cu=ids.isEmpty
 rj:cz b4=ops.isEmpty
 cT:cu=.aG\/n<=e8
 dw:b4=.aG\/n<=e9
 ne:cu=.aG\/b4=.aG\/e8≠e9
theorem OZ (l:ap) (n:Nat) :h6 l .aG .aG 0 0 n [] [] :=⟨.nil 0,.nil 0,rfl,rfl,.inl rfl,.inl rfl,.inl rfl⟩
theorem h6.frame {l l' : ap} {cu b4:U} {e8 e9 n:Nat} {ids:List (List B)} {ops:List bu} (h:h6 l cu b4 e8 e9 n ids ops) (aF:∀ b,n<=b->b<l.length->l'[b]? = l[b]?) :h6 l' cu b4 e8 e9 n ids ops:=by
 refine⟨h.jo.jS ?_,h.hB.jS ?_,h.jn,h.rj,h.cT,h.dw,h.ne⟩
 ·rcases h.cT with e | e
  ·exact .inl e
  ·rcases h.jo.lt with bt | bt
   ·exact .inl bt
   ·exact .inr (aF _ e bt)
 ·rcases h.dw with e | e
  ·exact .inl e
  ·rcases h.hB.lt with bt | bt
   ·exact .inl bt
   ·exact .inr (aF _ e bt)
theorem h6.ids {l:ap} {cu b4:U} {e8 e9 n:Nat} {ids:List (List B)} {ops:List bu} (h:h6 l cu b4 e8 e9 n ids ops) {X:List U} {x:List B} (cW:X=a5 x) (ag:X.length=32) (aC:n<=l.length) (al:ids.length<=1000000) :
  ∃ v' cg l',gK (l++[.cells 32 X]) 32 32 cu (.aq 32 l.length 0 1 1 32)=some (v',l')/\h6 l' v' b4 cg e9 n (ids++[x]) ops/\l.length+1<=l'.length/\∀ b,b<n->l'[b]? = l[b]?:=by
 have az:ci=140737488355328:=rfl;obtain⟨v',cg,l',a8,bh,b6,eW,gn,hH⟩:=yO (by_:=32) (x:=.aq 32 l.length 0 1 1 32) (xs:=[X]) (h.jo.more [aV.cells 32 X]) (by simp[de,ag,awR]) (by simp[ag]) (by omega) (by omega) (by rw[az]; simp; omega);have fD:cz v'=false:=by rw[hH]; simp
 have jz:v'≠.aG:=fun e=>by rw[e] at fD; cases fD
 have hY:(l++[aV.cells 32 X]).length=l.length+1:=by simp
 have fl:n<=cg:=by
  rcases gn with e | ⟨aS,bt⟩ | e
  ·omega
  ·rw[bt]; exact h.cT.resolve_left aS
  ·exact absurd e jz
 have jy:∀ b,b<l.length->cu=.aG\/b≠e8->l'[b]? = l[b]?:=fun b af xj=>by
  rw[eW b (by omega) xj,awS af]
 refine⟨v',cg,l',a8,⟨?_,?_,by rw[fD]; simp,h.rj,.inr fl,h.dw,?_⟩,by omega,fun b af=>?_⟩
 ·rw[axc,axk,ayj,<-cW]; exact bh
 ·refine h.hB.jS ?_;rcases h.hB.lt with e | e
  ·exact .inl e
  ·by_cases fH:b4=.aG
   ·exact .inl fH
   ·refine .inr (jy _ e ?_);rcases h.ne with q | q | q
    ·exact .inl q
    ·exact absurd q fH
    ·exact .inr fun e=>q e.symm
 ·by_cases fH:b4=.aG
  ·exact .inr (.inl fH)
  ·refine .inr (.inr fun e=>?_);have ae:=h.hB.lt.resolve_left fH;rcases gn with q | ⟨q1,dn⟩ | q
   ·omega
   ·rcases h.ne with p | p | p
    ·exact q1 p
    ·exact fH p
    ·exact p (by omega)
   ·exact jz q
 ·refine jy b (by omega) ?_;rcases h.cT with e | e
  ·exact .inl e
  ·exact .inr (by omega)
theorem h6.ops {l:ap} {cu b4:U} {e8 e9 n:Nat} {ids:List (List B)} {ops:List bu} (h:h6 l cu b4 e8 e9 n ids ops) {O:List U} {o:bu} (eO:O=bd o) (aC:n<=l.length) (al:ops.length<=1000000) :
  ∃ v' cg l',gK (l++[.cells 11 O]) 11 112 b4 (.aq 11 l.length 0 1 1 11)=some (v',l')/\h6 l' cu v' e8 cg n ids (ops++[o])/\l.length+1<=l'.length/\∀ b,b<n->l'[b]? = l[b]?:=by
 have az:ci=140737488355328:=rfl;have ag:O.length=11:=by rw[eO]; rfl
 obtain⟨v',cg,l',a8,bh,b6,eW,gn,hH⟩:=yO (by_:=112) (x:=.aq 11 l.length 0 1 1 11) (xs:=[O]) (h.hB.more [aV.cells 11 O]) (by simp[de,ag,awR]) (by simp[ag]) (by omega) (by omega) (by rw[az]; simp; omega);have fD:cz v'=false:=by rw[hH]; simp
 have jz:v'≠.aG:=fun e=>by rw[e] at fD; cases fD
 have hY:(l++[aV.cells 11 O]).length=l.length+1:=by simp
 have fl:n<=cg:=by
  rcases gn with e | ⟨aS,bt⟩ | e
  ·omega
  ·rw[bt]; exact h.dw.resolve_left aS
  ·exact absurd e jz
 have jy:∀ b,b<l.length->b4=.aG\/b≠e9->l'[b]? = l[b]?:=fun b af xj=>by
  rw[eW b (by omega) xj,awS af]
 refine⟨v',cg,l',a8,⟨?_,?_,h.jn,by rw[fD]; simp,h.cT,.inr fl,?_⟩,by omega,fun b af=>?_⟩
 ·refine h.jo.jS ?_;rcases h.jo.lt with e | e
  ·exact .inl e
  ·by_cases fH:cu=.aG
   ·exact .inl fH
   ·refine .inr (jy _ e ?_);rcases h.ne with q | q | q
    ·exact absurd q fH
    ·exact .inl q
    ·exact .inr q
 ·rw[axc,axk,ayj,<-eO]; exact bh
 ·by_cases fH:cu=.aG
  ·exact .inl fH
  ·refine .inr (.inr fun e=>?_);have ae:=h.jo.lt.resolve_left fH;rcases gn with q | ⟨q1,dn⟩ | q
   ·omega
   ·rcases h.ne with p | p | p
    ·exact fH p
    ·exact q1 p
    ·exact p (by omega)
   ·exact jz q
 ·refine jy b (by omega) ?_;rcases h.dw with e | e
  ·exact .inl e
  ·exact .inr (by omega)
theorem z6 {z:Nat} {l:ap} {v:U} {j:Nat} {es:List (List U)} (h:bL z l v j es) :v.cells=some [v] :=by cases h<;>rfl
theorem nf (s:dk) :(aA s).cells=some [aA s] :=by cases s<;>rfl
theorem wL (s:b8 bu) :(bF s).cells=some [bF s] :=by cases s<;>rfl
theorem qT {α:Type} {a b c:α} {j:Nat} (h:[a,b][j]? = some c) :(j=0/\c=a)\/(j=1/\c=b) :=by
 match j,h with
 | 0,h=>left; simpa using h.symm
 | 1,h=>right; simpa using h.symm
 | j+2,h=>simp at h
theorem Bp {α:Type} {a c:α} {j:Nat} (h:[a][j]? = some c) :j=0/\c=a:=by
 match j,h with
 | 0,h=>simpa using h.symm
 | j+1,h=>simp at h
theorem h6.call {l:ap} {cu b4:U} {e8 e9 n:Nat} {ids:List (List B)} {ops:List bu} (h:h6 l cu b4 e8 e9 n ids ops) {f:FuncId} {K:U->ap->Prop}
  (ah:∀ br,br.length=l.length->(∀ b,b<n->br[b]? = l[b]?)->c5 Tryz.prog GS f [.aH [aA (dz ids),bF (dz ops)]] br (c:=⟨K⟩)) :c5 Tryz.prog GS f [.aH [cu,b4]] l (c:=⟨K⟩) :=by
 obtain⟨l1,bO,da,aS,f1⟩:=F1 (dz ids) h.jo (by rw[ur]; exact h.jn) (eI _);have hB:bL 11 l1 b4 e9 (ops.map bd) :=by
  refine h.hB.jS ?_;by_cases fH:b4=.aG
  ·exact .inl fH
  ·refine .inr (f1 _ ?_);rcases h.ne with q | q | q
   ·exact .inl q
   ·exact absurd q fH
   ·exact .inr fun e=>q e.symm
 obtain⟨br,w2,dj,bt,f2⟩:=F1 (dz ops) hB (by rw[ur]; exact h.rj) (eI _);refine Dx Tryz.checked.mixed bj (args2:=[.aH [aA (dz ids),b4]]) bO (by omega) rfl (fun j c b7 ad ae=>?_) (Dx Tryz.checked.mixed bj (args2:=[.aH [aA (dz ids),bF (dz ops)]]) w2 (by omega) rfl (fun j c b7 ad ae=>?_) (ah br (by omega) fun b af=>?_))
 ·obtain⟨rfl,rfl⟩:=Bp ad;obtain⟨_,rfl⟩:=Bp ae;refine .aH _ _ rfl fun j c c' ad ae=>?_
  rcases qT ad with ⟨rfl,rfl⟩ | ⟨rfl,rfl⟩
  ·rcases qT ae with ⟨_,rfl⟩ | ⟨h,_⟩
   ·exact da
   ·omega
  ·rcases qT ae with ⟨h,_⟩ | ⟨_,rfl⟩
   ·omega
   ·exact .same _
 ·obtain⟨rfl,rfl⟩:=Bp ad;obtain⟨_,rfl⟩:=Bp ae;refine .aH _ _ rfl fun j c c' ad ae=>?_
  rcases qT ad with ⟨rfl,rfl⟩ | ⟨rfl,rfl⟩
  ·rcases qT ae with ⟨_,rfl⟩ | ⟨h,_⟩
   ·exact .same _
   ·omega
  ·rcases qT ae with ⟨h,_⟩ | ⟨_,rfl⟩
   ·omega
   ·exact dj
 ·rw[f2 b ?_,f1 b ?_]
  ·rcases h.cT with e | e
   ·exact .inl e
   ·exact .inr (by omega)
  ·rcases h.dw with e | e
   ·exact .inl e
   ·exact .inr (by omega)
def jH (g:bz) :List (List B × bu) :=g.ids.l.zip g.ops.l
def l0 (g:bz) (L:List (List B)) (k:Nat) :List (List B × bu) :=((jH g).take k).filter fun p=>decide (p.1∈L)
def eX (l:List (List B × bu)) :bz:=⟨dz (l.map (·.1)),dz (l.map (·.2))⟩
def j6 (g:bz) (L:List (List B)) :bz:=gG (eX (l0 g L (jH g).length))
theorem amy {g:bz} {L:List (List B)} {k:Nat} {x:List B} {o:bu} (ag:g.ids.l[k]? = some x) (av:g.ops.l[k]? = some o) :l0 g L (k+1)=l0 g L k++if x∈L then [(x,o)] else [] :=by
 have au:(jH g)[k]? = some (x,o) :=by unfold jH; rw[ayr]; exact⟨ag,av⟩
 unfold l0;rw[axe,au,ax9];by_cases h:x∈L<;>simp[h]
theorem Y5 {g:bz} {L:List (List B)} {k:Nat}:(l0 g L k).length<=k:=axy (ax7 _ _) (by rw[axd]; omega)
theorem JZ {g:bz} {p:List B × bu} (h:p∈jH g) :p.1∈g.ids.l/\p.2∈g.ops.l:=by
 obtain⟨k,ar⟩:=aw3.1 h;unfold jH at ar;rw[ayr] at ar;exact⟨awY ar.1,awY ar.2⟩
theorem Mb {l:List (List B × bu)} (ad:∀ p∈l,p.1.length=32) (ae:∀ p∈l,jr p.2) (al:l.length<=1000000) :ho (eX l) :=by
 refine⟨fun x ag=>?_,fun o av=>?_,?_,?_⟩
 ·unfold eX at ag; simp only[eI] at ag;obtain⟨p,au,rfl⟩:=axi.1 ag;exact ad p au
 ·unfold eX at av; simp only[eI] at av;obtain⟨p,au,rfl⟩:=axi.1 av;exact ae p au
 ·unfold eX; simp only[eI]; rw[aw1]; exact al
 ·unfold eX; simp only[eI]; rw[aw1]; exact al
structure ab8 (g:bz) (L:dk) (k:Nat) (σ:bc) (l:ap) :Prop where
 aK:σ 1=aA L
 aW:σ 2=.ptr 0 0 2
 bi:σ 4=.ptr 1 0 2
 bm:σ 5=.ptr 2 0 2
 cD:σ 6=.int .i64 k
 ex:∃ cu b4 e8 e9 rest,l=.cells 2 [aA g.ids,bF g.ops] ::.cells 2 [.aG,.aG] ::.cells 2 [cu,b4] ::rest/\h6 l cu b4 e8 e9 3 ((l0 g L.l k).map (·.1)) ((l0 g L.l k).map (·.2))
set_option maxHeartbeats 8000000 in
theorem am5 (g:bz) (ax:ho g) (bA:g.ids.l.length=g.ops.l.length) (L:dk) (eN:ds L) (tv:L.l.length<=1000000) (aC:g.ids.l.length<=100000) :bw Tryz.prog GS 49 [df g,aA L] (df (j6 g L.l)) :=by
 refine bQ Tryz.checked.mixed bj ?_;apply bn Tryz.func49 [];have fF:=dd g.ids;have ez:=mc g.ops;have ags:=dd L;have dO:cp (.aq 32) (aA g.ids)=some (.int .i64 g.ids.l.length) :=by simp[aA]
 simp[df,b3];refine cl g.ids.l.length (ab8 g L) ?_ ⟨by simp,by simp,by simp,by simp,by simp,.aG,.aG,0,0,[],rfl,by simpa [l0] using OZ _ 3⟩;rintro k σ l ar ⟨aK,aW,bi,bm,cD,cu,b4,e8,e9,rest,rfl,jl⟩;obtain⟨σ,rfl⟩:=k1 aK aW bi bm cD;clear aK aW bi bm cD;have aS:IntKind.i64.wrap ((k:Int)+1)=((k+1:Nat) :Int) :=by rw[IntKind.wrap_i64]; omega
 have fv:=Y5 (g:=g) (L:=L.l) (k:=k);by_cases bD:k<g.ids.l.length
 ·obtain⟨x,ag,c3⟩:=bJ bD;obtain⟨o,av,eQ⟩:=bJ (l:=g.ops.l) (k:=k) (by omega);have e7:=ax.ids x c3;have bp:=dq e7;have fW:=g2 x;have dP:(bd o).length=11:=rfl;have bT:cN (.aq 32) (aA g.ids) (.int .i64 (k:Int))=some (.bM (a5 x) 0) :=by simp[aA,ag]
  have hv:cN (.aq 11) (bF g.ops) (.int .i64 (k:Int))=some (.bM (bd o) 0) :=by simp[bF,av]
  have eP:=CB L eN tv x e7;have kn:=amy (L:=L.l) ag av;have kk:=xy x L.l 0;obtain⟨eZ,ed⟩:∃ eZ,eZ=hy x L.l 0:=⟨_,rfl⟩
  obtain⟨X,cW⟩:∃ X,X=a5 x:=⟨_,rfl⟩
  obtain⟨O,eO⟩:∃ O,O=bd o:=⟨_,rfl⟩
  rw[<-ed] at eP kk;rw[<-cW] at eP bp fW bT;rw[<-eO] at hv dP;have hJ:X.take 32=X:=awR (by omega);have HY:O.take 11=O:=awR (by omega);have iU:bf (rep 32 (.int .u8 0)) 0 X=X:=gw (by rw[bp]; rfl);have so:bf [U.int .u32 0,.aG,.int .u64 0,.int .u8 0,.str [],.int .u8 0,.int .i64 0,.int .u64 0,.str [],.int .u32 0,.int .u32 0] 0 O=O:=gw (by rw[dP]; rfl);simp[dO,bD,bT,bp,hJ];refine a7 eP (by simp[a4,U.closed,ags,fW]) ?_;by_cases hm:x∈L.l
  ·have aJ:0<=eZ:=kk.2 hm;rw[if_pos hm] at kn;obtain⟨pt,xA,l',a8,bh,b6,eW⟩:=jl.ids cW bp (by simp) (by rw[aw1]; omega);obtain⟨da,rfl⟩:=wc (eW 0 (by omega)) (eW 1 (by omega)) (eW 2 (by omega));simp at a8;have ahW:h6 (.cells 2 [aA g.ids,bF g.ops] ::.cells 2 [.aG,.aG] ::.cells 2 [pt,b4] ::da) pt b4 xA e9 3 ((l0 g L.l k).map (·.1)++[x]) ((l0 g L.l k).map (·.2)) :=bh.frame fun b af _=>by
    match b,af with
    | b+3,_=>rfl
   obtain⟨sW,zO,br,bS,b7,hR,go⟩:=ahW.ops eO (by simp) (by rw[aw1]; omega);obtain⟨dj,rfl⟩:=wc (go 0 (by omega)) (go 1 (by omega)) (go 2 (by omega));simp at bS;have ahX:h6 (.cells 2 [aA g.ids,bF g.ops] ::.cells 2 [.aG,.aG] ::.cells 2 [pt,sW] ::dj) pt sW xA zO 3 ((l0 g L.l k).map (·.1)++[x]) ((l0 g L.l k).map (·.2)++[o]) :=b7.frame fun b af _=>by
    match b,af with
    | b+3,_=>rfl
   simp[aJ,bT,bp,hJ,iU,a8];refine cU.b1 ?_;simp[z6 bh.jo,bf,hv,dP,HY,so,bS];refine cU.b1 ?_;simp[z6 b7.hB,bf,aS];exact⟨bD,by simp,by simp,by simp,by simp,by simp,pt,sW,xA,zO,dj,rfl,by rw[kn,axc,axc]; exact ahX⟩
  ·have aJ:¬ 0<=eZ:=fun h=>hm (kk.1 h)
   rw[if_neg hm,axr] at kn;simp[aJ,aS];exact⟨bD,by simp,by simp,by simp,by simp,by simp,cu,b4,e8,e9,rest,rfl,by rw[kn]; exact jl⟩
 ·have e6:k=g.ids.l.length:=by omega
  subst e6;have vw:(jH g).length=g.ids.l.length:=by unfold jH; rw[List.length_zip]; omega
  have ag1:ho (eX (l0 g L.l g.ids.l.length)) :=Mb (fun p au=>ax.ids _ (JZ (axp (ax0.1 au).1)).1) (fun p au=>ax.ops _ (JZ (axp (ax0.1 au).1)).2) (by omega);have tM:=Zr _ ag1;have vz:j6 g L.l=gG (eX (l0 g L.l g.ids.l.length)) :=by unfold j6; rw[vw]
  rw[<-vz] at tM;have e0:=nf (j6 g L.l).ids;have eR:(bF (j6 g L.l).ops).cells=some [bF (j6 g L.l).ops] :=by cases (j6 g L.l).ops<;>rfl
  have bS:=dd (j6 g L.l).ids;have b7:=mc (j6 g L.l).ops;have hR:=dd (dz ((l0 g L.l g.ids.l.length).map (·.1)));have go:=mc (dz ((l0 g L.l g.ids.l.length).map (·.2)));unfold df b3 at tM;simp[dO];refine jl.call fun br q1 dn=>?_
  obtain⟨dj,rfl⟩:=wc (dn 0 (by omega)) (dn 1 (by omega)) (dn 2 (by omega));refine a7 tM (by simp[a4,U.closed,hR,go]) ?_;simp[bf];exact aU rfl (show (U.aH [aA (j6 g L.l).ids,bF (j6 g L.l).ops]).closed=true by simp[U.closed,a4,bS,b7])
def lw (g:bz) :Nat->List (List B)
 | 0=>[]
 | k+1=>lw g k++(kv g.ops.l k).bo.l
theorem OX {g:bz} {x:List B}:∀ {k:Nat},x∈lw g k<->∃ j,j<k/\x∈(kv g.ops.l j).bo.l
 | 0=>⟨fun h=>(by cases h),fun ⟨j,ai,_⟩=>by omega⟩
 | k+1=>by
  show x∈lw g k++_<->_;rw[axN,OX];constructor
  ·rintro (⟨j,ad,ae⟩ | h)
   ·exact⟨j,by omega,ae⟩
   ·exact⟨k,by omega,h⟩
  ·rintro⟨j,ad,ae⟩;by_cases e:j=k
   ·subst e; exact .inr ae
   ·exact .inl ⟨j,by omega,ae⟩
theorem Y3 {g:bz} (V:KT g) {k:Nat} {o:bu} (av:g.ops.l[k]? = some o) :o.bo.l.length<=4:=by
 obtain⟨x,ag,_⟩:=bJ (l:=g.ids.l) (k:=k) (by rw[V.len]; exact (awQ.1 av).1);exact z5 (KA (V.afi k o x av ag).1)
theorem OW {g:bz} (V:KT g) :∀ {k:Nat},k<=g.ops.l.length->(lw g k).length<=4*k
 | 0,_=>by simp[lw]
 | k+1,ar=>by
  obtain⟨o,av,_⟩:=bJ (l:=g.ops.l) (k:=k) (by omega);have:=OW V (k:=k) (by omega);have aD:=Y3 V av;show (lw g k++(kv g.ops.l k).bo.l).length<=_;rw[awW,vX av]; omega
theorem aln {g:bz} (ax:ho g) {k:Nat} (ar:k<=g.ops.l.length) :ds (dz (lw g k)) :=fun x ag=>by
 rw[eI,OX] at ag;obtain⟨j,ai,ag⟩:=ag;obtain⟨o,av,eQ⟩:=bJ (l:=g.ops.l) (k:=j) (by omega);rw[vX av] at ag;exact (ax.ops o eQ).ids x ag
structure acb (g:bz) (k:Nat) (σ:bc) (l:ap) :Prop where
 aK:σ 1=.ptr 0 0 2
 bi:σ 4=.aG
 bm:σ 5=.int .i64 k
 ex:∃ v j rest,l=.cells 2 [aA g.ids,bF g.ops] ::rest/\σ 3=v/\bL 32 l v j ((lw g k).map a5)/\(v=.aG\/1<=j)/\cz v=(lw g k).isEmpty
structure acd (g:bz) (w:U) (fE:Nat) (k:Nat) (σ:bc) (l:ap) :Prop where
 aK:σ 1=.ptr 0 0 2
 a6:σ 3=w
 cD:σ 6=.int .i64 k
 ex:∃ v j rest,l=.cells 2 [aA g.ids,bF g.ops] ::rest/\σ 4=v/\bL 32 l v j (((g.ids.l.take k).filter (mi g)).map a5)/\(v=.aG\/1<=j)/\cz v=((g.ids.l.take k).filter (mi g)).isEmpty/\bL 32 l w fE ((lw g g.ops.l.length).map a5)/\(v=.aG\/w=.aG\/j≠fE)
set_option maxHeartbeats 8000000 in
theorem ani (g:bz) (ax:ho g) (aJ:hS g=0) :bw Tryz.prog GS 133 [df g] (aA (dz (ie g))) :=by
 refine bQ Tryz.checked.mixed bj ?_;apply bn Tryz.func133 [];have az:ci=140737488355328:=rfl;have V:=Ct aJ;have Nc:=V.n60;have kp:=V.len;have cG:cp (.aq 11) (bF g.ops)=some (.int .i64 g.ops.l.length) :=by simp[bF]
 have dO:cp (.aq 32) (aA g.ids)=some (.int .i64 g.ids.l.length) :=by simp[aA]
 simp[df,b3];refine cl g.ops.l.length (acb g) ?_ ⟨by simp,by simp,by simp,.aG,0,[],rfl,by simp,.nil 0,.inl rfl,rfl⟩;rintro k σ l ar ⟨aK,bi,bm,v,j,rest,rfl,a6,gC,ai,gM⟩;obtain⟨σ,rfl⟩:=ij aK a6 bi bm;clear aK a6 bi bm;have aS:IntKind.i64.wrap ((k:Int)+1)=((k+1:Nat) :Int) :=by rw[IntKind.wrap_i64]; omega
 by_cases bD:k<g.ops.l.length
 ·obtain⟨o,av,eQ⟩:=bJ bD;have nx:=ax.ops o eQ;have bT:cN (.aq 11) (bF g.ops) (.int .i64 (k:Int))=some (.bM (bd o) 0) :=by simp[bF,av]
  have dP:(bd o).length=11:=rfl;have o3:∀ h,(bd o)[1]'h=aA o.bo:=fun _=>rfl
  have km:=OW V ar;have aD:=Y3 V av;have bE:lw g (k+1)=lw g k++o.bo.l:=by show lw g k++(kv g.ops.l k).bo.l=_; rw[vX av]
  obtain⟨v',cg,r',a8,bh,b6,eW⟩:=wz (by_:=32) (pre:=[.cells 2 [aA g.ids,bF g.ops]]) (rest:=rest) gC ai (x:=aA o.bo) (xs:=o.bo.l.map a5)
   (by simp[aA]) (fun e am=>by obtain⟨y,aI,rfl⟩:=axi.1 am; exact dq (nx.ids y aI)) (by omega) (by omega) (by rw[az]; simp; omega)
  simp only[axK,axT] at a8;obtain⟨O,eO⟩:∃ O,O=bd o:=⟨_,rfl⟩
  rw[<-eO] at bT dP;simp only[<-eO] at o3;simp[cG,bD,bT,dP,o3,a8];refine cU.b1 ?_;simp[aS];refine⟨bD,by simp,by simp,by simp,v',cg,r',rfl,by simp,?_,by simpa using b6,?_⟩
  ·rw[bE,axc]; exact bh
  ·rw[eW,gM,bE];cases lw g k<;>cases o.bo.l<;>simp
 ·have e6:k=g.ops.l.length:=by omega
  subst e6;clear ar bD aS;simp[cG];refine cl g.ids.l.length (acd g v j) ?_ ⟨by simp,by simp,by simp,.aG,0,rest,rfl,by simp,.nil 0,.inl rfl,rfl,gC,.inl rfl⟩;rintro k σ l ar ⟨aK,a6,cD,cu,e8,ZK,rfl,bi,pU,MV,Nd,E0,bY⟩;obtain⟨σ,rfl⟩:=ij aK a6 bi cD;clear aK a6 bi cD;have aS:IntKind.i64.wrap ((k:Int)+1)=((k+1:Nat) :Int) :=by rw[IntKind.wrap_i64]; omega
  by_cases bD:k<g.ids.l.length
  ·obtain⟨x,ag,c3⟩:=bJ bD;have e7:=ax.ids x c3;have bp:=dq e7;have fW:=g2 x;have bT:cN (.aq 32) (aA g.ids) (.int .i64 (k:Int))=some (.bM (a5 x) 0) :=by simp[aA,ag]
   have km:=OW V (awU g.ops.l.length);have eP:=CB (dz (lw g g.ops.l.length)) (aln ax (awU _)) (by rw[eI]; omega) x e7;rw[eI] at eP;have mn:=E0.q.x3 g2 (dz (lw g g.ops.l.length)) (by rw[ur]; exact gM) (eI _);have kk:=xy x (lw g g.ops.l.length) 0;have bE:g.ids.l.take (k+1)=g.ids.l.take k++[x] :=by rw[axe,ag]; rfl
   have VS:mi g x=true<->x∉lw g g.ops.l.length:=by
    unfold mi qO;rw[decide_eq_true_eq,OX];exact⟨fun h ⟨j,ai,ag⟩=>h j ai ag,fun h j ai ag=>h ⟨j,ai,ag⟩⟩
   obtain⟨eZ,ed⟩:∃ eZ,eZ=hy x (lw g g.ops.l.length) 0:=⟨_,rfl⟩
   obtain⟨X,cW⟩:∃ X,X=a5 x:=⟨_,rfl⟩
   rw[<-ed] at eP kk;rw[<-cW] at eP bT bp fW;have hJ:X.take 32=X:=awR (by omega);have iU:bf (rep 32 (.int .u8 0)) 0 X=X:=gw (by rw[bp]; rfl);simp[dO,bD,bT,bp,hJ];refine mA eP (.cons mn (.cons (.same _ (by simp[U.closed,fW])) .nil)) rfl ?_;by_cases hm:x∈lw g g.ops.l.length
   ·have aL:¬ eZ<0:=by have:=kk.2 hm; omega
    have aF:mi g x=false:=by
     cases h:mi g x with
     | false=>rfl
     | true=>exact absurd hm (VS.1 h)
    have hu:(g.ids.l.take (k+1)).filter (mi g)=(g.ids.l.take k).filter (mi g) :=by rw[bE,ax9]; simp[aF]
    simp[aL,aS];exact⟨bD,by simp,by simp,by simp,cu,e8,ZK,rfl,by simp,by rw[hu]; exact pU,MV,by rw[hu]; exact Nd,E0,bY⟩
   ·have aL:eZ<0:=by
     have:¬ 0<=eZ:=fun h=>hm (kk.1 h)
     omega
    have aF:=VS.2 hm;have hu:(g.ids.l.take (k+1)).filter (mi g)=(g.ids.l.take k).filter (mi g)++[x] :=by rw[bE,ax9]; simp[aF]
    have dN:((g.ids.l.take k).filter (mi g)).length<=1000000:=axy (ax7 _ _) (by rw[axd]; omega);obtain⟨v',cg,l',a8,bh,b6,eW,gn,hH⟩:=yO (by_:=32) (x:=.aq 32 (ZK.length+1) 0 1 1 32) (xs:=[X]) (pU.more [aV.cells 32 X]) (by simp[de,bp,awR]) (by simp[bp]) (by omega) (by omega) (by rw[az]; simp; omega);have fD:cz v'=false:=by rw[hH]; simp
    have jz:v'≠.aG:=fun e=>by rw[e] at fD; cases fD
    have f0:l'[0]? = some (.cells 2 [aA g.ids,bF g.ops]) :=by
     rw[eW 0 (by simp) (by rcases MV with e | e; exact .inl e; exact .inr (by omega))]; rfl
    obtain⟨r',rfl⟩:∃ r',l'=.cells 2 [aA g.ids,bF g.ops] ::r':=by
     cases l' with
     | nil=>simp at f0
     | cons c r=>simp at f0; subst f0; exact⟨r,rfl⟩
    have ww:=a8;simp at ww;simp[aL,bT,bp,hJ,iU,ww];refine cU.b1 ?_;simp[aS];refine⟨bD,by simp,by simp,by simp,v',cg,r',rfl,by simp,?_,?_,by rw[hu,fD]; simp,?_,?_⟩
    ·rw[hu,axc,axk,ayj,<-cW]; exact bh
    ·right;rcases gn with e | ⟨aS,bt⟩ | e
     ·simp at e; omega
     ·rw[bt]; exact MV.resolve_left aS
     ·exact absurd e jz
    ·refine E0.jS ?_;rcases E0.lt with e | e
     ·exact .inl e
     ·by_cases aP:v=.aG
      ·exact .inl aP
      ·right;rw[eW j (by simp at e ⊢; omega) (by rcases bY with q | q | q; exact .inl q; exact absurd q aP; exact .inr fun e=>q e.symm)];exact awS e
    ·by_cases aP:v=.aG
     ·exact .inr (.inl aP)
     ·refine .inr (.inr fun e=>?_);have ae:=E0.lt.resolve_left aP;rcases gn with q | ⟨q1,dn⟩ | q
      ·simp at q ae; omega
      ·rcases bY with p | p | p
       ·exact q1 p
       ·exact aP p
       ·exact p (by omega)
      ·exact jz q
  ·have e6:k=g.ids.l.length:=by omega
   rw[e6,axo] at pU Nd;simp[dO,bD];exact pU.q.Ac g2 (dz (ie g)) (by rw[Nd,ur]; rfl) (eI _)
end Op

end Go.bV

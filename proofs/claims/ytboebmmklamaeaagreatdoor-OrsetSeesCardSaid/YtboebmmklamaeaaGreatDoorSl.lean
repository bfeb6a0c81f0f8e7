/-
  Graphs: their shape, walked.
-/
import Derived.Test.YtboebmmklamaeaaGreatDoorSk
import Derived.Sort.Walk0
import Derived.Shelf.Spec.SlicesInsertGrow
set_option linter.unusedVariables false
set_option linter.unusedSimpArgs false
set_option linter.unnecessarySimpa false
namespace Go.cl
open Go Go.Proofs
set_option maxRecDepth 100000
namespace Op
open gX
def iy (n:Int) :ae:=.int .i64 n
theorem al0 {l:List ae} {i:Nat} {x:ae} (h:i<l.length) :bS l i [x]=l.set i x:=by
 have:=mr (fun c:ae=>c) l i x h;simpa using this
def cH (g:b2) (wl:List Int) (vs:List ae) (rest:au) :au:=.cells 2 [a8 g.ids,b8 g.ops] ::.cells g.ops.l.length (wl.map iy) ::.cells g.ops.l.length vs::rest
theorem Ng {l:au} {a b c:bg} (aQ:l[0]? = some a) (h1:l[1]? = some b) (af:l[2]? = some c) :∃ r,l=a::b::c::r:=by
 match l,aQ,h1,af with
 | eo::bo::c'::r,aQ,h1,af=>
  simp at aQ h1 af;subst aQ h1 af;exact⟨r,rfl⟩
theorem wY {g:b2} {w w' : List Int} {vs DQ:List ae} {r:au}:∀ {b:Nat},3<=b->(cH g w vs r)[b]? = (cH g w' DQ r)[b]?
 | 0,h=>by omega
 | 1,h=>by omega
 | 2,h=>by omega
 | b+3,_=>rfl
theorem Iz {g:b2} {w:List Int} {vs:List ae} {r x:au} {b:Nat} (h:b<(cH g w vs r).length) :(cH g w vs (r++x))[b]? = (cH g w vs r)[b]?:=by
 show ((cH g w vs r)++x)[b]? = _;exact List.getElem?_append_left h
structure abP (g:b2) (m q:Nat) (dj:ae) (l:au) :Prop where
 ex:∃ (vs:List ae) (cr:List (List Nat)) (dn:Nat->Nat) (gm:Nat) (rest:au),l=cH g (eg g.ops.l m) vs rest/\jI l vs cr dn/\sj g.ids.l g.ops.l m q cr/\bX 1 l dj gm ((hT g.ops.l m).map gD) ∧
  cT dj=(hT g.ops.l m).isEmpty/\(hT g.ops.l m=[]\/(3<=gm/\mE cr dn gm))
structure abO (g:b2) (m q:Nat) (dj:ae) (b:Nat) (O:List ae) (l:au) :Prop where
 ex:∃ (vs:List ae) (cr:List (List Nat)) (dn:Nat->Nat) (gm:Nat) (rest:au),l=cH g (eg g.ops.l m) vs rest/\jI l vs cr dn/\sj g.ids.l g.ops.l m q cr/\bX 1 l dj gm ((hT g.ops.l m).map gD) ∧
  cT dj=(hT g.ops.l m).isEmpty/\(hT g.ops.l m=[]\/(3<=gm/\mE cr dn gm))/\l[b]? = some (.cells 11 O)/\3<=b/\mE cr dn b
theorem xy {cr:List (List Nat)} {l:au} {vs:List ae} {dn:Nat->Nat} {c:Nat} (fh:jI l vs cr dn) (ak:c<3) :mE cr dn c:=fun a row aC b0=>by
 have aG:a<vs.length:=by rw[fh.mw]; exact (List.getElem?_eq_some_iff.1 aC).1
 have:=(fh.own a vs[a] row (List.getElem?_eq_getElem aG) aC).2.2.resolve_left b0;omega
theorem zM {cr:List (List Nat)} {l:au} {vs:List ae} {dn:Nat->Nat} {c:Nat} (fh:jI l vs cr dn) (ak:l.length<=c) :mE cr dn c:=fun a row aC b0=>by
 have:=fh.lt aC b0;omega
structure pz (g:b2) (vs:List ae) (cr:List (List Nat)) (dn:Nat->Nat) (W:List Int) (R:List Nat) (dj:ae) (rest:au) :Prop where
 ex:∃ gm,jI (cH g W vs rest) vs cr dn/\bX 1 (cH g W vs rest) dj gm (R.map gD)/\cT dj=R.isEmpty/\(R=[]\/(3<=gm/\mE cr dn gm))
theorem pz.setW {g:b2} {vs:List ae} {cr:List (List Nat)} {dn:Nat->Nat} {W qT:List Int} {R:List Nat} {dj:ae} {rest:au} (h:pz g vs cr dn W R dj rest) :pz g vs cr dn qT R dj rest:=by
 obtain⟨gm,fh,iT,jo,kj⟩:=h;refine⟨⟨gm,fh.frame fun b ai ⟨a,r7,h1,af,ap⟩=>wY (Nat.le_of_not_lt fun h=>xy fh h a r7 h1 af ap),?_,jo,kj⟩⟩;by_cases b0:R=[]
 ·subst b0;rw[i4.1 jo];exact .nil _
 ·exact iT.frame fun _=>wY (kj.resolve_left b0).1
theorem pz.push {g:b2} {vs:List ae} {cr:List (List Nat)} {dn:Nat->Nat} {W:List Int} {R:List Nat} {dj:ae} {rest:au} (h:pz g vs cr dn W R dj rest) (m:Nat) (ds:(R.length+1)*8<=cJ) :
  ∃ bf e8,ie (cH g W vs (rest++[.cells 1 [.int .i64 (m:Int)]])) 1 8 dj (.ao 1 (rest.length+3) 0 1 1 1)=some (bf,cH g W vs e8)/\pz g vs cr dn W (R++[m]) bf e8:=by
 obtain⟨gm,sR,BM,jo,kj⟩:=h;obtain⟨gl,JL,om,jH⟩:∃ gl,bX 1 (cH g W vs (rest++[.cells 1 [.int .i64 (m:Int)]])) dj gl (R.map gD)/\3<=gl/\mE cr dn gl:=by
  by_cases b0:R=[]
  ·subst b0;rw[i4.1 jo];exact⟨(cH g W vs (rest++[.cells 1 [.int .i64 (m:Int)]])).length,.nil _,by simp[cH],zM sR (by simp[cH])⟩
  ·exact⟨gm,BM.more _,(kj.resolve_left b0).1,(kj.resolve_left b0).2⟩
 obtain⟨pn,Js,cg,aV,aY,bd,bD,br,cj⟩:=mF (by_:=8) JL (x:=.ao 1 (rest.length+3) 0 1 1 1) (xs:=[gD m]) (by simp[df,cH,gD]) (by simp[gD]) (by omega) (by omega) (by simpa using ds);have In:(cH g W vs (rest++[.cells 1 [.int .i64 (m:Int)]])).length=rest.length+4:=by simp[cH]
 have Cl:(cH g W vs rest).length=rest.length+3:=by simp[cH]
 obtain⟨e8,rfl⟩:∃ r,cg=cH g W vs r:=Ng ((bD 0 (by omega) (by omega)).trans rfl) ((bD 1 (by omega) (by omega)).trans rfl) ((bD 2 (by omega) (by omega)).trans rfl);have I3:cT pn=false:=by
  cases aR:cT pn with
  | true=>have:=(cj.1 (i4.1 aR)).2; cases this
  | false=>rfl
 refine⟨pn,e8,aV,⟨⟨Js,?_,?_,?_,.inr ⟨?_,?_⟩⟩⟩⟩
 ·exact sR.frame fun b ai ⟨a,r7,h1,af,ap⟩=>(bD b (by omega) (fun e=>jH a r7 h1 af (by omega))).trans (Iz ai)
 ·rw[List.map_append]; exact aY
 ·rw[I3]; simp
 ·rcases br with e | e<;>omega
 ·rcases br with e | e
  ·rw[e]; exact jH
  ·exact zM sR (by omega)
set_option maxHeartbeats 8000000 in
theorem alF (g:b2) (az:fZ g) (aq:g.ids.l.length=g.ops.l.length) (oD:g.ops.l.length<=60) (aH:∀ o∈g.ops.l,o.bx.l.length<=4) :bT Tryz.prog GS 86 [c6 g] (.int .i64 (lN g.ids.l g.ops.l)) :=by
 refine ca Tryz.checked.mixed b3 ?_;apply bI QL Zh;unfold GJ Mo;have jR:cJ=140737488355328:=rfl;have eA:=f2 g.ids;have da:=lW g.ops;have mP:=A9 g;have dw:c9 (.ao 11) (b8 g.ops)=some (.int .i64 g.ops.l.length) :=by simp[b8]
 have h5:c9 (.ao 32) (a8 g.ids)=some (.int .i64 g.ops.l.length) :=by simp[a8,aq]
 simp[c6,dA];refine c0 (g.ops.l.length - 1) (fun k ah l=>l=[.cells 2 [a8 g.ids,b8 g.ops]]/\ah 1=.ptr 0 0 2/\ah 3=.int .i64 ((k+1:Nat) :Int)/\∀ j,j<k+1->j<g.ids.l.length->1<=j->cK (cc g.ids.l (j - 1)) (cc g.ids.l j)<0) ?_ ⟨by simp,by simp,by simp,fun j h1 _ af=>by omega⟩;rintro k ah l aE ⟨rfl,aV,bd,ar⟩;obtain⟨ah,rfl⟩:=oj aV bd;clear aV bd;obtain⟨m,hm⟩:∃ m,m=k+1:=⟨_,rfl⟩
 rw[<-hm] at ar ⊢;unfold VU;by_cases aN:m<g.ops.l.length
 ·obtain⟨x,aj,dV⟩:=ck (l:=g.ids.l) (k:=k) (by omega);obtain⟨y,aO,el⟩:=ck (l:=g.ids.l) (k:=m) (by omega);have a1:IntKind.i64.wrap ((m:Int) - 1)=(k:Int) :=by rw[IntKind.wrap_i64]; omega
  have b7:IntKind.i64.wrap ((m:Int)+1)=((m+1:Nat) :Int) :=by rw[IntKind.wrap_i64]; omega
  have hf:=hw aj;have qf:=hw aO;have fS:cO (.ao 32) (a8 g.ids) (.int .i64 (k:Int))=some (.cn (a2 x) 0) :=by simp[a8,aj]
  have yW:cO (.ao 32) (a8 g.ids) (.int .i64 (m:Int))=some (.cn (a2 y) 0) :=by simp[a8,aO]
  have bE:=dm (az.ids x dV);have fc:=dm (az.ids y el);have ih:=wg x y (az.ids x dV) (az.ids y el);unfold fj at ih;change bT Tryz.prog GS 121 [.aS (a2 x),.aS (a2 y)] _ at ih;have g4:=gZ x;have oK:=gZ y;obtain⟨X,dY⟩:∃ X,X=a2 x:=⟨_,rfl⟩
  obtain⟨Y,gj⟩:∃ Y,Y=a2 y:=⟨_,rfl⟩
  rw[<-dY] at fS bE ih g4;rw[<-gj] at yW fc ih oK;simp[h5,aN,a1,fS,yW,bE,fc,List.take_of_length_le];refine bv ih (by simp[bP,ae.closed,g4,oK]) ?_;by_cases ak:cK x y<0
  ·have ez:¬ (0<=cK x y) :=by omega
   simp[ez,b7];refine⟨by omega,fun j h1 af ap=>?_⟩;have et:cK (cc g.ids.l (j - 1)) (cc g.ids.l j)<0:=by
    by_cases am:j=m
    ·rw[am,show m - 1=k by omega,hf,qf]; exact ak
    ·exact ar j (by omega) af ap
   simpa [cc] using et
  ·have ez:0<=cK x y:=by omega
   simp[ez];refine aZ (congrArg (ae.int .i64) ?_) rfl;have eG:eU g.ids.l=false:=ZT (k:=m) (by omega) (by omega) (by rw[show m - 1=k by omega,hf,qf]; exact ak);unfold lN;rw[eG]; rfl
 ·have aC:eU g.ids.l=true:=ZU fun j h1 af=>ar j (by omega) h1 af
  have am:=th aC;obtain⟨bn,_⟩:=C1 (z:=1) (by_:=8) (n:=g.ops.l.length) (k:=.i64) (k':=.i64) (zero:=[ae.int .i64 0]) (l:=[bg.cells 2 [a8 g.ids,b8 g.ops]]) rfl (by omega) (by rw[jR]; omega);obtain⟨bA,_⟩:=C1 (z:=1) (by_:=24) (n:=g.ops.l.length) (k:=.i64) (k':=.i64) (zero:=[ae.a6]) (l:=[bg.cells 2 [a8 g.ids,b8 g.ops],bg.cells g.ops.l.length (List.replicate g.ops.l.length (ae.int .i64 0))]) rfl (by omega) (by rw[jR]; omega);simp only[Nat.mul_one,ME (α:=Nat)] at bn bA;simp[h5,dw,aN,bn,bA];refine c0 g.ops.l.length (fun m ah l=>ah 1=.ptr 0 0 2/\ah 4=.ao 1 1 0 g.ops.l.length g.ops.l.length g.ops.l.length/\ah 5=.ao 1 2 0 g.ops.l.length g.ops.l.length g.ops.l.length/\ah 45=b8 g.ops/\ah 46=.int .i64 g.ops.l.length/\ah 47=.int .i64 m ∧
   abP g m 0 (ah 6) l/\∀ i,i<m->qV g.ids.l (c7 g.ops.l i)=true) ?_ ?_
  ·rintro m ah l hm ⟨aV,bD,br,q9,ra,rb,kM,eP⟩;obtain⟨dj,cj⟩:∃ v,ah 6=v:=⟨_,rfl⟩
   rw[cj] at kM;obtain⟨ah,rfl⟩:=aaW aV bD br cj q9 ra rb;clear aV bD br cj q9 ra rb;unfold VW;by_cases mX:m<g.ops.l.length
   ·obtain⟨o,ay,ek⟩:=ck mX;have a1:IntKind.i64.wrap ((m:Int)+1)=((m+1:Nat) :Int) :=by rw[IntKind.wrap_i64]; omega
    have cQ:cO (.ao 11) (b8 g.ops) (.int .i64 (m:Int))=some (.cn (bl o) 0) :=by simp[b8,ay]
    have ma:=az.ops o ek;have fU:=aH o ek;have oU:c7 g.ops.l m=o.bx.l:=vx ay;have mW:c9 (.ao 32) (a8 o.bx)=some (.int .i64 o.bx.l.length) :=by simp[a8]
    have pQ:(bl o).length=11:=rfl;have ls:∀ h:1<(bl o).length,(bl o)[1]'h=a8 o.bx:=fun _=>rfl
    obtain⟨O,ej⟩:∃ O,O=bl o:=⟨_,rfl⟩
    rw[<-ej] at cQ pQ ls;have mb:bS [ae.int .u32 0,.a6,.int .u64 0,.int .u8 0,.str [],.int .u8 0,.int .i64 0,.int .u64 0,.str [],.int .u32 0,.int .u32 0] 0 O=O:=hb (by rw[pQ]; rfl);simp[mX,cQ,pQ,ls,mW,mb,List.take_of_length_le];obtain⟨v1,BP⟩:∃ v1,v1=l.length:=⟨_,rfl⟩
    rw[<-BP];refine c0 o.bx.l.length (fun q ah l=>ah 1=.ptr 0 0 2/\ah 4=.ao 1 1 0 g.ops.l.length g.ops.l.length g.ops.l.length/\ah 5=.ao 1 2 0 g.ops.l.length g.ops.l.length g.ops.l.length/\ah 6=dj/\ah 7=.int .i64 m/\ah 8=.ptr v1 0 11/\ah 45=b8 g.ops/\ah 46=.int .i64 g.ops.l.length/\ah 47=.int .i64 m ∧
     ah 53=a8 o.bx/\ah 54=.int .i64 o.bx.l.length/\ah 55=.int .i64 q/\abO g m q dj v1 O l/\∀ (j:Nat) (p:List B),j<q->o.bx.l[j]? = some p->p∈g.ids.l) ?_ ?_
    ·rintro q ah l bp ⟨aV,bD,br,cj,dU,ff,q9,ra,rb,Sg,Sh,Si,rg,u4⟩;obtain⟨ah,rfl⟩:=amU aV bD br cj dU ff q9 ra rb Sg Sh Si;clear aV bD br cj dU ff q9 ra rb Sg Sh Si;obtain⟨vs,cr,dn,gm,rest,rfl,fh,lu,iT,jo,kj,ai,ri,pU⟩:=rg;unfold VV;by_cases u5:q<o.bx.l.length
     ·obtain⟨p,aF,nX⟩:=ck u5;have b7:IntKind.i64.wrap ((q:Int)+1)=((q+1:Nat) :Int) :=by rw[IntKind.wrap_i64]; omega
      have g5:cO (.ao 32) (a8 o.bx) (.int .i64 (q:Int))=some (.cn (a2 p) 0) :=by simp[a8,aF]
      have T7:=ma.ids p nX;have bE:=dm T7;have g4:=gZ p;have wN:=aeg g az aC p T7;unfold c6 dA at wN mP;obtain⟨X,dY⟩:∃ X,X=a2 p:=⟨_,rfl⟩
      rw[<-dY] at g5 bE g4 wN;have rB:bS (rep 32 (.int .u8 0)) 0 X=X:=hb (by rw[bE]; rfl);simp[cH,u5,g5,bE,rB,List.take_of_length_le];refine bv wN (by simp[bP,ae.closed,g4,eA,da]) ?_;by_cases s9:p∈g.ids.l
      ·obtain⟨nx,fx⟩:=List.mem_iff_getElem?.1 s9;have afx:=Ri aC fx;have ap1:=(List.getElem?_eq_some_iff.1 fx).1;have ap2:nx<g.ops.l.length:=by omega
       have jz:vs.length=g.ops.l.length:=by rw[fh.mw,lu.len]
       obtain⟨hc,w9,_⟩:=ck (l:=vs) (k:=nx) (by omega);obtain⟨row,cB,_⟩:=ck (l:=cr) (k:=nx) (by rw[lu.len]; omega);obtain⟨l1,fF⟩:∃ l1,l1=cH g (eg g.ops.l m) vs (rest++[.cells 32 X,.cells 1 [.int .i64 (m:Int)]]) :=⟨_,rfl⟩
       have BJ:jI l1 vs cr dn:=by rw[fF]; exact fh.more _
       have Im:l1.length=rest.length+5:=by rw[fF]; simp[cH]
       have p5:=lu.z7 nx row cB;obtain⟨bf,cg,zy,aV,aY,bd,bD,br⟩:=BJ.app (b:=rest.length+4) (k:=m) w9 cB (by rw[fF]; simp[cH]) (by omega) (by rw[jR]; omega);have hy:=br 0 (by omega) (xy BJ (by omega));have q1:=br 1 (by omega) (xy BJ (by omega));have hz:=br 2 (by omega) (xy BJ (by omega));obtain⟨e8,rfl⟩:∃ r,cg=cH g (eg g.ops.l m) vs r:=Ng (hy.1.trans (by rw[fF]; rfl)) (q1.1.trans (by rw[fF]; rfl)) (hz.1.trans (by rw[fF]; rfl));have Cg:cO (.ao 1) (.ao 1 2 0 g.ops.l.length g.ops.l.length g.ops.l.length) (.int .i64 (nx:Int))=some (.ptr 2 nx g.ops.l.length) :=by
        simp only[cO];rw[if_pos ⟨trivial,by omega,by omega⟩];simp
       rw[fF] at aV;unfold cH at aV;simp[s9,afx,Cg,w9,aV];refine du.cM ?_;have ahs:bS vs nx [bf]=vs.set nx bf:=al0 (by omega);simp[cH,bD,Cg,ahs,jz];have lw:∀ c,3<=c->c<(cH g (eg g.ops.l m) vs rest).length->mE cr dn c->(cH g (eg g.ops.l m) (vs.set nx bf) e8)[c]? = (cH g (eg g.ops.l m) vs rest)[c]?/\mE (cr.set nx (row++[m])) zy c:=by
        intro c ap er ay;obtain⟨cd,ce⟩:=br c (by simp[cH] at er; omega) ay;exact⟨(wY ap).trans (cd.trans (by rw[fF]; exact Iz er)),ce⟩
       have Ih:hT g.ops.l m≠[]->gm<(cH g (eg g.ops.l m) vs rest).length:=fun b0=>by
        rcases iT.lt with h | h
        ·rw[h] at jo;cases f5:hT g.ops.l m with
         | nil=>exact absurd f5 b0
         | cons=>rw[f5] at jo; cases jo
        ·exact h
       have fi:=(List.getElem?_eq_some_iff.1 ai).1;obtain⟨h2,pL⟩:=lw v1 ri fi pU;refine⟨by omega,u5,by rw[IntKind.wrap_i64]; omega,⟨⟨vs.set nx bf,cr.set nx (row++[m]),zy,gm,e8,rfl,?_,ajU am aq lu (by rw[oU]; exact aF) fx cB,?_,jo,?_,h2.trans ai,ri,pL⟩⟩,fun j bV et fz=>?_⟩
       ·exact aY.frame fun b ai ⟨a,r7,h1,af,ap⟩=>by
         have aH:3<=b:=Nat.le_of_not_lt fun h=>xy aY h a r7 h1 af ap
         exact wY aH
       ·by_cases b0:hT g.ops.l m=[]
        ·rw[b0] at jo iT ⊢;rw[i4.1 jo];exact .nil _
        ·obtain⟨h1,af⟩:=kj.resolve_left b0;exact iT.frame fun h=>(lw gm h1 (Ih b0) af).1
       ·by_cases b0:hT g.ops.l m=[]
        ·exact .inl b0
        ·obtain⟨h1,af⟩:=kj.resolve_left b0;exact .inr ⟨h1,(lw gm h1 (Ih b0) af).2⟩
       ·by_cases agk:j=q
        ·subst agk; rw[aF] at fz; obtain rfl:=Option.some.inj fz; exact s9
        ·exact u4 j bV (by omega) fz
      ·simp[s9];refine aZ (congrArg (ae.int .i64) ?_) rfl;have eG:¬ tx g.ids.l g.ops.l=true:=fun h=>by
        have:=of_decide_eq_true h o ek;exact s9 (of_decide_eq_true this p nX)
       unfold lN;rw[if_pos aC,if_neg eG]
     ·have nY:q=o.bx.l.length:=by omega
      rw[nY] at lu;rw[<-oU] at lu;have SH:=ajS lu (by rw[oU]; exact fU);have jz:vs.length=g.ops.l.length:=by rw[fh.mw,lu.len]
      have Uf:d4 (cH g (eg g.ops.l m) vs rest) (.ptr v1 1 11)=some (O,1) :=by simp only[d4,ai]; rfl
      have yT:cO (.ao 1) (.ao 1 1 0 g.ops.l.length g.ops.l.length g.ops.l.length) (.int .i64 (m:Int))=some (.ptr 1 m g.ops.l.length) :=by
       simp only[cO];rw[if_pos ⟨trivial,by omega,by omega⟩];simp
      have IX:iJ 1 (cH g (eg g.ops.l m) vs rest) (.ptr 1 m g.ops.l.length) (.int .i64 o.bx.l.length)=some (cH g (eg g.ops.l (m+1)) vs rest) :=by
       have h1:(cH g (eg g.ops.l m) vs rest)[1]? = some (.cells g.ops.l.length ((eg g.ops.l m).map iy)) :=rfl;simp only[iJ,ae.cells,h1];rw[if_pos (by simp; omega)];have af:bS ((eg g.ops.l m).map iy) m [ae.int .i64 o.bx.l.length]=(eg g.ops.l (m+1)).map iy:=by
        rw[<-anG mX,oU];exact mr iy (eg g.ops.l m) m _ (by rw[abi]; exact mX)
       rw[af]; rfl
      have zd:d4 (cH g (eg g.ops.l (m+1)) vs rest) (.ptr 1 m g.ops.l.length)=some ((eg g.ops.l (m+1)).map iy,m) :=by
       have h1:(cH g (eg g.ops.l (m+1)) vs rest)[1]? = some (.cells g.ops.l.length ((eg g.ops.l (m+1)).map iy)) :=rfl;simp only[d4,h1]; simp
      have Cf:((eg g.ops.l (m+1)).map iy)[m]? = some (.int .i64 o.bx.l.length) :=by
       rw[List.getElem?_map,DX mX,if_pos (by omega),oU]; rfl
      have aql:∀ h:m<((eg g.ops.l (m+1)).map iy).length,((eg g.ops.l (m+1)).map iy)[m]'h=.int .i64 o.bx.l.length:=fun h=>(List.getElem?_eq_some_iff.1 Cf).2
      have SG:O[1]? = some (a8 o.bx) :=by rw[List.getElem?_eq_getElem (by rw[pQ]; omega),ls]
      have sR:jI (cH g (eg g.ops.l (m+1)) vs rest) vs cr dn:=fh.frame fun b ai ⟨a,r7,h1,af,ap⟩=>wY (Nat.le_of_not_lt fun h=>xy fh h a r7 h1 af ap)
      have BM:bX 1 (cH g (eg g.ops.l (m+1)) vs rest) dj gm ((hT g.ops.l m).map gD) :=by
       by_cases b0:hT g.ops.l m=[]
       ·rw[b0] at jo ⊢;rw[i4.1 jo];exact .nil _
       ·exact iT.frame fun _=>wY (kj.resolve_left b0).1
      have BN:∀ i,i<m+1->qV g.ids.l (c7 g.ops.l i)=true:=fun i aA=>by
       by_cases agb:i=m
       ·subst agb;rw[oU];refine decide_eq_true fun p aF=>?_
        obtain⟨j,et⟩:=List.mem_iff_getElem?.1 aF;exact u4 j p (by rw[nY]; exact (List.getElem?_eq_some_iff.1 et).1) et
       ·exact eP i (by omega)
      by_cases aB:o.bx.l.length=0
      ·have agv:c9 (.ao 32) (a8 o.bx)=some (.int .i64 0) :=by rw[mW,aB]; rfl
       have ahq:iJ 1 (cH g (eg g.ops.l m) vs rest) (.ptr 1 m g.ops.l.length) (.int .i64 0)=some (cH g (eg g.ops.l (m+1)) vs rest) :=by rw[aB] at IX; exact IX
       have af1:((eg g.ops.l (m+1)).map iy)[m]? = some (.int .i64 0) :=by rw[aB] at Cf; exact Cf
       have nZ:hT g.ops.l (m+1)=hT g.ops.l m++[m] :=by
        rw[ZG,oU,List.length_eq_zero_iff.1 aB]; rfl
       obtain⟨gl,JL,om,jH⟩:∃ gl,bX 1 (cH g (eg g.ops.l (m+1)) vs (rest++[.cells 1 [.int .i64 (m:Int)]])) dj gl ((hT g.ops.l m).map gD)/\3<=gl/\mE cr dn gl:=by
        by_cases b0:hT g.ops.l m=[]
        ·rw[b0] at jo ⊢;rw[i4.1 jo];exact⟨(cH g (eg g.ops.l (m+1)) vs (rest++[.cells 1 [.int .i64 (m:Int)]])).length,.nil _,by simp[cH],zM sR (by simp[cH])⟩
        ·exact⟨gm,BM.more _,(kj.resolve_left b0).1,(kj.resolve_left b0).2⟩
       have p5:(hT g.ops.l m).length<=m:=by
        have:=List.length_filter_le (fun k=>(c7 g.ops.l k).isEmpty) (List.range m);simpa [hT] using this
       obtain⟨pn,Js,cg,aV,aY,bd,bD,br,cj⟩:=mF (by_:=8) JL (x:=.ao 1 (rest.length+3) 0 1 1 1) (xs:=[gD m]) (by simp[df,cH,gD]) (by simp[gD]) (by omega) (by omega) (by rw[jR]; simp; omega);have In:(cH g (eg g.ops.l (m+1)) vs (rest++[.cells 1 [.int .i64 (m:Int)]])).length=rest.length+4:=by simp[cH]
       obtain⟨e8,rfl⟩:∃ r,cg=cH g (eg g.ops.l (m+1)) vs r:=Ng ((bD 0 (by omega) (by omega)).trans rfl) ((bD 1 (by omega) (by omega)).trans rfl) ((bD 2 (by omega) (by omega)).trans rfl);have IE:cH g (eg g.ops.l (m+1)) vs rest++[bg.cells 1 [.int .i64 (m:Int)]]=cH g (eg g.ops.l (m+1)) vs (rest++[.cells 1 [.int .i64 (m:Int)]]) :=rfl;have Cl:(cH g (eg g.ops.l (m+1)) vs rest).length=rest.length+3:=by simp[cH]
       simp[u5,Uf,SG,agv,yT,ahq,zd,af1,IE,Cl,aV];refine du.cM ?_;simp;have I3:cT pn=false:=by
        cases aR:cT pn with
        | true=>have:=(cj.1 (i4.1 aR)).2; cases this
        | false=>rfl
       refine⟨mX,by rw[IntKind.wrap_i64]; omega,⟨⟨vs,cr,dn,Js,e8,rfl,?_,SH,?_,?_,.inr ⟨?_,?_⟩⟩⟩,BN⟩
       ·exact sR.frame fun b ai ⟨a,r7,h1,af,ap⟩=>(bD b (by omega) (fun e=>jH a r7 h1 af (by omega))).trans (Iz ai)
       ·rw[nZ,List.map_append]; exact aY
       ·rw[I3,nZ]; simp
       ·rcases br with e | e<;>omega
       ·rcases br with e | e
        ·rw[e]; exact jH
        ·exact zM sR (by omega)
      ·have nZ:hT g.ops.l (m+1)=hT g.ops.l m:=by
        rw[ZG,oU];have:o.bx.l.isEmpty=false:=by cases f5:o.bx.l with | nil=>rw[f5] at aB; exact absurd rfl aB | cons=>rfl
        rw[this]; simp
       simp[u5,Uf,SG,mW,yT,IX,zd,Cf,aB];exact⟨mX,by rw[IntKind.wrap_i64]; omega,⟨⟨vs,cr,dn,gm,rest,rfl,sR,SH,by rw[nZ]; exact BM,by rw[nZ]; exact jo,by rw[nZ]; exact kj⟩⟩,BN⟩
    ·simp;obtain⟨vs,cr,dn,gm,rest,rfl,fh,lu,iT,jo,kj⟩:=kM;refine⟨⟨vs,cr,dn,gm,rest++[.cells 11 O],rfl,fh.more _,lu,iT.more _,jo,kj,by rw[BP,List.getElem?_append_right (Nat.le_refl _)]; simp,by rw[BP]; simp[cH],zM fh (by rw[BP]; exact Nat.le_refl _)⟩⟩
   ·have hv:m=g.ops.l.length:=by omega
    subst hv;obtain⟨vs,cr,dn,aik,ak8,rfl,SF,lu,ae4,ae7,ae6⟩:=kM;have HD:=ajR lu;have jz:vs.length=g.ops.l.length:=by rw[SF.mw,lu.len]
    have f9:tx g.ids.l g.ops.l=true:=decide_eq_true fun o ek=>by
     obtain⟨j,et⟩:=List.mem_iff_getElem?.1 ek;have:=eP j (List.getElem?_eq_some_iff.1 et).1
     rwa [vx et] at this
    have SD:=aix (ids:=g.ids.l) (ops:=g.ops.l) aq;rw[<-anF] at SD;have ae8:pz g vs cr dn (eg g.ops.l g.ops.l.length) (hT g.ops.l g.ops.l.length) dj ak8:=⟨⟨aik,SF,ae4,ae7,ae6⟩⟩
    simp;refine c0 g.ops.l.length (fun d ah l=>ah 1=.ptr 0 0 2/\ah 4=.ao 1 1 0 g.ops.l.length g.ops.l.length g.ops.l.length/\ah 5=.ao 1 2 0 g.ops.l.length g.ops.l.length g.ops.l.length/\ah 13=.int .i64 d ∧
     ∃ W R rest,l=cH g W vs rest/\pz g vs cr dn W R (ah 6) rest/\py g.ids.l g.ops.l [] d 0 R W) ?_ ?_
    ·rintro d ah l bJ ⟨aV,bD,br,lp,W,R,rest,rfl,kM,a7⟩;obtain⟨dj,cj⟩:∃ v,ah 6=v:=⟨_,rfl⟩
     rw[cj] at kM;obtain⟨ah,rfl⟩:=kC aV bD br cj lp;clear aV bD br cj lp;unfold VY;have HJ:c9 (.ao 1) dj=some (.int .i64 R.length) :=by obtain⟨gm,_,iT,_⟩:=kM; have:=iT.len; simpa using this
     have jo:R.length<=g.ops.l.length:=by
      have:=r9 (b:=List.range g.ops.l.length) a7.jX fun x aj=>List.mem_range.2 (a7.mK x aj).1
      simpa using this
     by_cases B4:d<R.length
     ·obtain⟨a,aG,SO⟩:=ck B4;have afh:=(a7.mK a SO).1;have a1:IntKind.i64.wrap ((d:Int)+1)=((d+1:Nat) :Int) :=by rw[IntKind.wrap_i64]; omega
      obtain⟨row,cB,_⟩:=ck (l:=cr) (k:=a) (by rw[lu.len]; exact afh);obtain⟨hc,w9,_⟩:=ck (l:=vs) (k:=a) (by omega);obtain⟨gm,fh,iT,SI,kj⟩:=kM;obtain⟨J7,Qs,xT,ei,dN,gy,ox⟩:=iT.q.get (k:=.i64) (i:=d) (e:=gD a) (by rw[List.getElem?_map,aG]; rfl);have vZ:=one_cell (c:=.int .i64 (a:Int)) ox;have Cg:cO (.ao 1) (.ao 1 2 0 g.ops.l.length g.ops.l.length g.ops.l.length) (.int .i64 (a:Int))=some (.ptr 2 a g.ops.l.length) :=by
       simp only[cO];rw[if_pos ⟨trivial,by omega,by omega⟩];simp
      have ze:∀ qT jY,d4 (cH g qT vs jY) (.ptr 2 a g.ops.l.length)=some (vs,a) :=fun qT jY=>by
       have h1:(cH g qT vs jY)[2]? = some (.cells g.ops.l.length vs) :=rfl;simp only[d4,h1]; simp
      have I5:=(fh.own a hc row w9 cB).1;have ahy:c9 (.ao 1) hc=some (.int .i64 row.length) :=by have:=I5.len; simpa using this
      have p5:=lu.z7 a row cB;simp[HJ,B4,ei,dN,vZ,Cg,ze,w9,ahy];refine c0 row.length (fun j ah l=>ah 1=.ptr 0 0 2/\ah 4=.ao 1 1 0 g.ops.l.length g.ops.l.length g.ops.l.length/\ah 5=.ao 1 2 0 g.ops.l.length g.ops.l.length g.ops.l.length/\ah 13=.int .i64 d/\ah 106=hc/\ah 107=.int .i64 row.length/\ah 108=.int .i64 j ∧
       ∃ W R rest,l=cH g W vs rest/\pz g vs cr dn W R (ah 6) rest/\py g.ids.l g.ops.l row d j R W/\R[d]? = some a) ?_ ?_
      ·rintro j ah l Ih ⟨aV,bD,br,lp,R7,R8,R9,W,R,rest,rfl,kM,a7,aG⟩;obtain⟨dj,cj⟩:∃ v,ah 6=v:=⟨_,rfl⟩
       rw[cj] at kM;obtain⟨ah,rfl⟩:=aaX aV bD br cj lp R7 R8 R9;clear aV bD br cj lp R7 R8 R9;unfold VX;by_cases eQ:j<row.length
       ·obtain⟨k,aE,ko⟩:=ck eQ;have fT:=HD.lt a row cB k ko;obtain⟨x,aj,xf,aqN,yG⟩:=aiy aq am HD a7 aG cB aE;have aqO:(c7 g.ops.l k).length<=4:=by
         obtain⟨ci,dr,T3⟩:=ck fT;rw[vx dr]; exact aH ci T3
        have a1:IntKind.i64.wrap ((j:Int)+1)=((j+1:Nat) :Int) :=by rw[IntKind.wrap_i64]; omega
        have b7:IntKind.i64.wrap (x - 1)=x - 1:=by rw[IntKind.wrap_i64]; omega
        obtain⟨gm,fh,iT,SI,kj⟩:=id kM;have I5:=(fh.own a hc row w9 cB).1;obtain⟨J7,Qs,xT,ei,dN,gy,ox⟩:=I5.q.get (k:=.i64) (i:=j) (e:=gD k) (by rw[List.getElem?_map,aE]; rfl);have vZ:=one_cell (c:=.int .i64 (k:Int)) ox;have yT:cO (.ao 1) (.ao 1 1 0 g.ops.l.length g.ops.l.length g.ops.l.length) (.int .i64 (k:Int))=some (.ptr 1 k g.ops.l.length) :=by
         simp only[cO];rw[if_pos ⟨trivial,by omega,by omega⟩];simp
        have ap0:=a7.wl;have zd:d4 (cH g W vs rest) (.ptr 1 k g.ops.l.length)=some (W.map iy,k) :=by
         have h1:(cH g W vs rest)[1]? = some (.cells g.ops.l.length (W.map iy)) :=rfl;simp only[d4,h1]; simp
        have eB:(W.map iy)[k]? = some (.int .i64 x) :=by rw[List.getElem?_map,aj]; rfl
        have cm:iJ 1 (cH g W vs rest) (.ptr 1 k g.ops.l.length) (.int .i64 (x - 1))=some (cH g (W.set k (x - 1)) vs rest) :=by
         have h1:(cH g W vs rest)[1]? = some (.cells g.ops.l.length (W.map iy)) :=rfl;simp only[iJ,ae.cells,h1];rw[if_pos (by simp; omega)];have af:bS (W.map iy) k [ae.int .i64 (x - 1)]=(W.set k (x - 1)).map iy:=mr iy W k _ (by omega);rw[af]; rfl
        have ze:d4 (cH g (W.set k (x - 1)) vs rest) (.ptr 1 k g.ops.l.length)=some ((W.set k (x - 1)).map iy,k) :=by
         have h1:(cH g (W.set k (x - 1)) vs rest)[1]? = some (.cells g.ops.l.length ((W.set k (x - 1)).map iy)) :=rfl;simp only[d4,h1]; simp
        have Ce:((W.set k (x - 1)).map iy)[k]? = some (.int .i64 (x - 1)) :=by rw[List.getElem?_map,List.getElem?_set_self (by omega)]; rfl
        have HK:pz g vs cr dn (W.set k (x - 1)) R dj rest:=kM.setW;obtain⟨hX,afa⟩:∃ hX,hX=W.set k (x - 1) :=⟨_,rfl⟩
        rw[<-afa] at cm ze Ce HK yG;by_cases aB:x - 1=0
        ·rw[if_pos aB] at yG;have dO:IntKind.i64.wrap (x - 1)=0:=by rw[b7]; exact aB
         rw[aB] at cm Ce;have apW:R.length<=g.ops.l.length:=by
          have:=r9 (b:=List.range g.ops.l.length) a7.jX fun x aj=>List.mem_range.2 (a7.mK x aj).1
          simpa using this
         obtain⟨bf,e8,m9,Df⟩:=HK.push k (by rw[jR]; omega);have IE:cH g hX vs rest++[bg.cells 1 [.int .i64 (k:Int)]]=cH g hX vs (rest++[.cells 1 [.int .i64 (k:Int)]]) :=rfl;have Cl:(cH g hX vs rest).length=rest.length+3:=by simp[cH]
         simp[eQ,ei,dN,vZ,yT,zd,eB,dO,cm,ze,Ce,IE,Cl,m9];refine du.cM ?_;simp[eQ,a1];exact⟨hX,R++[k],e8,rfl,Df,yG,by rw[List.getElem?_append_left (List.getElem?_eq_some_iff.1 aG).1]; exact aG⟩
        ·rw[if_neg aB] at yG;simp[eQ,ei,dN,vZ,yT,zd,eB,b7,cm,ze,Ce,aB,a1];exact⟨hX,R,rest,rfl,HK,yG,aG⟩
       ·have agj:j=row.length:=by omega
        subst agj;simp[eQ];exact⟨by omega,by rw[IntKind.wrap_i64]; omega,W,R,rest,rfl,kM,aiv HD a7 aG cB⟩
      ·simp;exact⟨W,R,rest,rfl,⟨⟨gm,fh,iT,SI,kj⟩⟩,aiw a7,aG⟩
     ·have afF:d=R.length:=by have:=a7.dl; omega
      subst afF;obtain⟨om,jH⟩:=aiu aq am a7;by_cases nQ:R.length<g.ops.l.length
      ·simp[HJ,B4,cH,dw,nQ];refine aZ (congrArg (ae.int .i64) ?_) rfl;unfold lN;rw[if_pos aC,if_pos f9,if_neg (fun h=>by have:=jH.2 h; omega)]
      ·simp[HJ,B4,cH,dw,nQ];refine aZ (congrArg (ae.int .i64) ?_) rfl;unfold lN;rw[if_pos aC,if_pos f9,if_pos (jH.1 (by omega))]
    ·simp;exact⟨_,_,_,rfl,ae8,SD⟩
  ·simp;refine⟨⟨List.replicate g.ops.l.length .a6,List.replicate g.ops.l.length [],fun _=>0,0,[],?_,⟨by simp,fun a v row ax ahe=>?_,fun a b kA lH _ aG _ Is _=>?_⟩,ajT _ _,.nil _,rfl,.inl rfl⟩⟩
   ·unfold cH; rw[anH,List.map_replicate]; rfl
   ·have h1:=List.eq_of_mem_replicate (List.mem_of_getElem? ax);have af:=List.eq_of_mem_replicate (List.mem_of_getElem? ahe);subst h1 af;exact⟨.nil _,rfl,.inl rfl⟩
   ·exact absurd (List.eq_of_mem_replicate (List.mem_of_getElem? aG)) Is
set_option maxHeartbeats 4000000 in
theorem aa8 (g:b2) (az:fZ g) :bT Tryz.prog GS 55 [c6 g] (.int .i64 (fQ g)) :=by
 refine ca Tryz.checked.mixed b3 ?_;apply bI Qn YU;unfold Gi L1;have eA:=f2 g.ids;have da:=lW g.ops;have mP:=A9 g;have dw:c9 (.ao 11) (b8 g.ops)=some (.int .i64 g.ops.l.length) :=by simp[b8]
 have h5:c9 (.ao 32) (a8 g.ids)=some (.int .i64 g.ids.l.length) :=by simp[a8]
 have bz:=az.cI;by_cases oD:60<(g.ops.l.length:Int)
 ·simp[c6,dA,dw,oD];refine aZ (congrArg (ae.int .i64) ?_) rfl;unfold fQ; rw[if_pos (by omega)]
 by_cases aq:g.ids.l.length=g.ops.l.length
 ·have cZ:(g.ids.l.length:Int)=(g.ops.l.length:Int) :=by omega
  simp[c6,dA,dw,h5,oD,cZ];refine c0 g.ops.l.length (fun k ah l=>(∃ rest,l=.cells 2 [a8 g.ids,b8 g.ops] ::rest)/\ah 1=.ptr 0 0 2/\ah 19=b8 g.ops/\ah 20=.int .i64 g.ops.l.length/\ah 21=.int .i64 k/\∀ j,j<k->kL g j=true) ?_ (by simp);rintro k ah l aE ⟨⟨rest,rfl⟩,aV,q7,Sc,q8,ar⟩;obtain⟨ah,rfl⟩:=j2 aV q7 Sc q8;clear aV q7 Sc q8;unfold VL;by_cases cC:k<g.ops.l.length
  ·obtain⟨o,ay,ek⟩:=ck cC;obtain⟨x,aj,dV⟩:=ck (l:=g.ids.l) (k:=k) (by omega);have pV:=By ay aj;have a1:IntKind.i64.wrap ((k:Int)+1)=((k+1:Nat) :Int) :=by rw[IntKind.wrap_i64]; omega
   have cQ:cO (.ao 11) (b8 g.ops) (.int .i64 (k:Int))=some (.cn (bl o) 0) :=by simp[b8,ay]
   have uR:cO (.ao 32) (a8 g.ids) (.int .i64 (k:Int))=some (.cn (a2 x) 0) :=by simp[a8,aj]
   have ax:=ann o (az.ops o ek);have jM:=ang o (az.ops o ek);change bT Tryz.prog GS 38 [.aS (bl o)] (.bU [.aS (a2 (kt o)),.int .i64 (fX o)]) at jM;have l5:=kb o;have bE:=dm (az.ids x dV);have yF:=dm (Jc o);have dh:(bl o).length=11:=rfl;have heq:=CL (Jc o) (az.ids x dV);have oG:¬ kL g k=true->fQ g=8:=fun h=>by
    unfold fQ;rw[if_neg (by omega),if_pos aq,if_neg fun aR=>h ((wA g).1 aR k cC)]
   obtain⟨O,ej⟩:∃ O,O=bl o:=⟨_,rfl⟩
   obtain⟨X,dY⟩:∃ X,X=a2 x:=⟨_,rfl⟩
   obtain⟨I,mL⟩:∃ I,I=a2 (kt o) :=⟨_,rfl⟩
   rw[<-ej] at cQ ax jM l5 dh;rw[<-dY] at uR bE heq;rw[<-mL] at jM heq yF;have mb:bS [ae.int .u32 0,.a6,.int .u64 0,.int .u8 0,.str [],.int .u8 0,.int .i64 0,.int .u64 0,.str [],.int .u32 0,.int .u32 0] 0 O=O:=hb (by rw[dh]; rfl);have IV:bS (rep 32 (.int .u8 0)) 0 I=I:=hb (by rw[yF]; rfl);simp[cC,cQ,dh,mb,List.take_of_length_le];refine bv jM (by simp[bP,ae.closed,l5]) ?_;by_cases aQ:fX o=0
   ·by_cases fS:kt o=x
    ·simp[aQ,yF,IV,uR,bE,heq,fS,dh,List.take_of_length_le];refine bv ax (by simp[bP,ae.closed,l5]) ?_;by_cases p8:po o=0
     ·simp[p8,cC,a1];intro j am;by_cases hu:j=k
      ·subst hu; rw[pV]; simp[p8,fS]
      ·exact ar j (by omega)
     ·have ai:¬ kL g k=true:=fun h=>by rw[pV] at h; simp[p8] at h
      simp[p8];exact aZ (congrArg (ae.int .i64) (oG ai).symm) rfl
    ·have ai:¬ kL g k=true:=fun h=>by rw[pV] at h; simp[fS] at h
     simp[aQ,yF,IV,uR,bE,heq,fS,dh,List.take_of_length_le];exact aZ (congrArg (ae.int .i64) (oG ai).symm) rfl
   ·have ai:¬ kL g k=true:=fun h=>by
     rw[pV,Bool.and_eq_true,decide_eq_true_eq] at h;exact aQ (DP h.1)
    simp[aQ,yF,IV,uR,bE,heq,dh,List.take_of_length_le];exact aZ (congrArg (ae.int .i64) (oG ai).symm) rfl
  ·have l7:k=g.ops.l.length:=by omega
   have eP:uz g=true:=(wA g).2 fun j am=>ar j (by omega)
   have aH:∀ o∈g.ops.l,o.bx.l.length<=4:=fun o ek=>by
    obtain⟨j,am⟩:=List.mem_iff_getElem?.1 ek;obtain⟨x,aj,_⟩:=ck (l:=g.ids.l) (k:=j) (by have:=(List.getElem?_eq_some_iff.1 am).1; omega);have h1:=(wA g).1 eP j (List.getElem?_eq_some_iff.1 am).1;rw[By am aj,Bool.and_eq_true,decide_eq_true_eq] at h1;exact xx (DP h1.1)
   have m0:=alF g az aq (by omega) aH;unfold c6 dA at m0 mP;simp[cC];refine bv m0 (by simp[bP,mP]) ?_;simp;refine aZ (congrArg (ae.int .i64) ?_) rfl;unfold fQ;rw[if_neg (by omega),if_pos aq,if_pos eP]
 ·have cZ:¬ (g.ids.l.length:Int)=(g.ops.l.length:Int) :=by omega
  simp[c6,dA,dw,h5,oD,cZ];refine aZ (congrArg (ae.int .i64) ?_) rfl;unfold fQ; rw[if_neg (by omega),if_neg aq]
def re (o:bH) :Bool:=decide (20<o.bx.l.length)||(decide (100<o.act.key.length)||decide (100<o.act.val.text.length))
theorem akp (o:bH) :bT Tryz.prog GS 53 [.aS (bl o)] (.bool (re o)) :=by
 refine ca Tryz.checked.mixed b3 ?_;apply bI Ql YS;unfold Gg LZ re;have mW:c9 (.ao 32) (a8 o.bx)=some (.int .i64 o.bx.l.length) :=by simp[a8]
 by_cases h1:20<o.bx.l.length
 ·have d8:(20:Int)<(o.bx.l.length:Int) :=by omega
  simp[bl,mW,h1,d8];exact aZ rfl rfl
 ·have d8:¬ (20:Int)<(o.bx.l.length:Int) :=by omega
  by_cases af:100<o.act.key.length
  ·have f3:(100:Int)<(o.act.key.length:Int) :=by omega
   simp[bl,mW,h1,d8,af,f3];exact aZ rfl rfl
  ·have f3:¬ (100:Int)<(o.act.key.length:Int) :=by omega
   simp[bl,mW,h1,d8,af,f3];refine aZ (congrArg ae.bool ?_) rfl;by_cases ap:100<o.act.val.text.length
   ·have sO:(100:Int)<(o.act.val.text.length:Int) :=by omega
    simp[ap,sO]
   ·have sO:¬ (100:Int)<(o.act.val.text.length:Int) :=by omega
    simp[ap,sO]
def sN (g:b2) :Bool:=decide (∃ o∈g.ops.l.take 71,re o=true)||(decide (16<g.ops.l.length/\g.ops.l.length<=60)||(decide (70<g.ops.l.length)||decide (70<g.ids.l.length)))
theorem ako (g:b2) :bT Tryz.prog GS 22 [c6 g] (.bool (sN g)) :=by
 refine ca Tryz.checked.mixed b3 ?_;apply bI P3 YA;unfold FZ LI;have dw:c9 (.ao 11) (b8 g.ops)=some (.int .i64 g.ops.l.length) :=by simp[b8]
 have h5:c9 (.ao 32) (a8 g.ids)=some (.int .i64 g.ids.l.length) :=by simp[a8]
 simp[c6,dA];refine c0 (min g.ops.l.length 71) (fun k ah l=>l=[.cells 2 [a8 g.ids,b8 g.ops]]/\ah 1=.ptr 0 0 2/\ah 3=.int .i64 k/\∀ (j:Nat) (o:bH),j<k->g.ops.l[j]? = some o->re o=false) ?_ (by simp);rintro k ah l aE ⟨rfl,aV,bd,ar⟩;obtain⟨ah,rfl⟩:=oj aV bd;clear aV bd;unfold Vw;by_cases cC:k<g.ops.l.length
 ·by_cases TB:k<=70
  ·obtain⟨o,ay,ek⟩:=ck cC;have a1:IntKind.i64.wrap ((k:Int)+1)=((k+1:Nat) :Int) :=by rw[IntKind.wrap_i64]; omega
   have cQ:cO (.ao 11) (b8 g.ops) (.int .i64 (k:Int))=some (.cn (bl o) 0) :=by simp[b8,ay]
   have ax:=akp o;have l5:=kb o;have dh:(bl o).length=11:=rfl;have Ij:(k:Int)<=70:=by omega
   have ko:k<min g.ops.l.length 71:=by omega
   obtain⟨O,ej⟩:∃ O,O=bl o:=⟨_,rfl⟩
   rw[<-ej] at cQ ax l5 dh;simp[dw,cC,TB,Ij,cQ,dh,List.take_of_length_le];refine bv ax (by simp[bP,ae.closed,l5]) ?_;by_cases mR:re o=true
   ·simp[mR];refine aZ (congrArg ae.bool ?_) rfl;unfold sN;rw[decide_eq_true ⟨o,List.mem_of_getElem? (i:=k) (by rw[List.getElem?_take_of_lt (by omega)]; exact ay),mR⟩]; rfl
   ·rw[Bool.not_eq_true] at mR;simp[mR,a1];refine⟨by omega,fun j ci am dr=>?_⟩;by_cases hu:j=k
    ·subst hu; rw[ay] at dr; obtain rfl:=Option.some.inj dr; exact mR
    ·exact ar j ci (by omega) dr
  ·have Ij:¬ (k:Int)<=70:=by omega
   have aI:¬ ∃ o∈g.ops.l.take 71,re o=true:=fun ⟨o,ek,mR⟩=>by
    obtain⟨j,am⟩:=List.mem_iff_getElem?.1 ek;have eQ:=(List.getElem?_eq_some_iff.1 am).1;rw[List.length_take] at eQ;rw[List.getElem?_take_of_lt (by omega)] at am;rw[ar j o (by omega) am] at mR; cases mR
   have bn:(16:Int)<(g.ops.l.length:Int) :=by omega
   have bA:¬ (g.ops.l.length:Int)<=60:=by omega
   have a3:(70:Int)<(g.ops.l.length:Int) :=by omega
   simp[dw,h5,cC,TB,Ij,bn,bA,a3];refine aZ (congrArg ae.bool ?_) rfl;unfold sN;simp[show 70<g.ops.l.length by omega]
 ·have aI:¬ ∃ o∈g.ops.l.take 71,re o=true:=fun ⟨o,ek,mR⟩=>by
   obtain⟨j,am⟩:=List.mem_iff_getElem?.1 ek;have eQ:=(List.getElem?_eq_some_iff.1 am).1;rw[List.length_take] at eQ;rw[List.getElem?_take_of_lt (by omega)] at am;rw[ar j o (by omega) am] at mR; cases mR
  have H8:sN g=(decide (16<g.ops.l.length/\g.ops.l.length<=60)||(decide (70<g.ops.l.length)||decide (70<g.ids.l.length))) :=by
   unfold sN; rw[decide_eq_false aI]; rfl
  rw[H8];have pI:decide ((16:Int)<(g.ops.l.length:Int))=decide (16<g.ops.l.length) :=by rw[decide_eq_decide]; omega
  have Rr:decide ((g.ops.l.length:Int)<=60)=decide (g.ops.l.length<=60) :=by rw[decide_eq_decide]; omega
  have Rs:decide ((70:Int)<(g.ops.l.length:Int))=decide (70<g.ops.l.length) :=by rw[decide_eq_decide]; omega
  have Rt:decide ((70:Int)<(g.ids.l.length:Int))=decide (70<g.ids.l.length) :=by rw[decide_eq_decide]; omega
  by_cases bn:16<g.ops.l.length
  ·have uj:(16:Int)<(g.ops.l.length:Int) :=by omega
   by_cases bA:g.ops.l.length<=60
   ·have AE:(g.ops.l.length:Int)<=60:=by omega
    simp[dw,h5,cC,bn,uj,bA,AE];exact aZ rfl rfl
   ·have AE:¬ (g.ops.l.length:Int)<=60:=by omega
    by_cases a3:70<g.ops.l.length
    ·have x1:(70:Int)<(g.ops.l.length:Int) :=by omega
     simp[dw,h5,cC,bn,uj,bA,AE,a3,x1];exact aZ rfl rfl
    ·have x1:¬ (70:Int)<(g.ops.l.length:Int) :=by omega
     simp[dw,h5,cC,bn,uj,bA,AE,a3,x1];exact aZ (congrArg ae.bool Rt) rfl
  ·have uj:¬ (16:Int)<(g.ops.l.length:Int) :=by omega
   have a3:¬ 70<g.ops.l.length:=by omega
   have x1:¬ (70:Int)<(g.ops.l.length:Int) :=by omega
   simp[dw,h5,cC,bn,uj,a3,x1];exact aZ (congrArg ae.bool Rt) rfl
def gV (o:bH) :bH:={ o with bx:=some o.bx.l }
theorem amE {o:bH} (h:iv o) :iv (gV o) :=⟨h.ids,h.len,h.val,h.key⟩
theorem akI (o:bH) (ay:iv o) :bT Tryz.prog GS 54 [.aS (bl o)] (.aS (bl (gV o))) :=by
 refine ca Tryz.checked.mixed b3 ?_;apply bI Qm YT;unfold Gh L0;have aC:cJ=140737488355328:=rfl;have aq:=ay.len;have aB:∀ x∈o.bx.l,(a2 x).length=32:=fun x aj=>dm (ay.ids x aj)
 have kN:=N3 (enc:=a2) (by_:=32) [bg.cells 11 (bl o),bg.cells 11 [.int .u32 0,.a6,.int .u64 0,.int .u8 0,.str [],.int .u8 0,.int .i64 0,.int .u64 0,.str [],.int .u32 0,.int .u32 0]] o.bx aB (by omega) (by omega) (by rw[aC]; omega);have hm:∀ x:fp,(a8 x).cells=some [a8 x] :=fun x=>by cases x<;>rfl
 have nK:=f2 (some o.bx.l);simp only[bl,a8,List.length_cons,List.length_nil,List.cons_append,List.nil_append] at kN;simp[bl,a8,kN];refine du.R5 (by exact J6 aB rfl rfl) rfl ?_;have aw:ae.b6 32 (o.bx.l.map a2)=a8 (some o.bx.l) :=rfl;simp[aw,hm,bS];exact aZ rfl (show (ae.aS (bl (gV o))).closed=true by have:=kb (gV o); simpa [ae.closed] using this)
def gb (g:b2) :b2:=⟨some g.ids.l,gq (g.ops.l.map gV)⟩
theorem amD {g:b2} (h:fZ g) :fZ (gb g) :=by
 refine⟨h.ids,fun o ay=>?_,h.li,?_⟩
 ·unfold gb at ay;simp only[iK] at ay;obtain⟨ci,dr,rfl⟩:=List.mem_map.1 ay;exact amE (h.ops ci dr)
 ·unfold gb; simp only[iK]; simpa using h.cI
set_option maxHeartbeats 4000000 in
theorem akH (g:b2) (az:fZ g) :bT Tryz.prog GS 23 [c6 g] (c6 (gb g)) :=by
 refine ca Tryz.checked.mixed b3 ?_;apply bI P4 YB;unfold F0 LJ;have aC:cJ=140737488355328:=rfl;have dw:c9 (.ao 11) (b8 g.ops)=some (.int .i64 g.ops.l.length) :=by simp[b8]
 have bz:=az.cI;have h5:=az.li;have aB:∀ x∈g.ids.l,(a2 x).length=32:=fun x aj=>dm (az.ids x aj)
 have kN:=N3 (enc:=a2) (by_:=32) [bg.cells 2 (dA g),bg.cells 2 [.a6,.a6]] g.ids aB (by omega) (by omega) (by rw[aC]; omega);have hm:∀ x:fp,(a8 x).cells=some [a8 x] :=fun x=>by cases x<;>rfl
 have eA:=f2 (some g.ids.l);simp only[dA,a8,List.length_cons,List.length_nil,List.cons_append,List.nil_append] at kN;simp[c6,dA,a8,kN];refine du.R5 (by exact J6 aB rfl rfl) rfl ?_;have aw:ae.b6 32 (g.ids.l.map a2)=a8 (some g.ids.l) :=rfl;simp[aw,hm,bS];refine c0 g.ops.l.length (fun k ah l=>ah 1=.ptr 0 0 2/\ah 2=.ptr 1 0 2/\ah 3=.ptr 3 0 2/\ah 4=.int .i64 k/\∃ v j rest,l=.cells 2 [a8 g.ids,b8 g.ops] ::.cells 2 [.a6,.a6] ::.dead::.cells 2 [a8 (some g.ids.l),v] ::rest ∧
  bX 11 l v j (((g.ops.l.take k).map gV).map bl)/\(v=.a6\/4<=j)/\cT v=(g.ops.l.take k).isEmpty) ?_ ?_
 ·rintro k ah l aE ⟨aV,aY,bd,bD,v,j,rest,rfl,hM,am,hL⟩;obtain⟨ah,rfl⟩:=j2 aV aY bd bD;clear aV aY bd bD;unfold Vx;by_cases cC:k<g.ops.l.length
  ·obtain⟨o,ay,ek⟩:=ck cC;have a1:IntKind.i64.wrap ((k:Int)+1)=((k+1:Nat) :Int) :=by rw[IntKind.wrap_i64]; omega
   have cQ:cO (.ao 11) (b8 g.ops) (.int .i64 (k:Int))=some (.cn (bl o) 0) :=by simp[b8,ay]
   have ax:=akI o (az.ops o ek);have l5:=kb o;have dh:(bl o).length=11:=rfl;have y9:(bl (gV o)).length=11:=rfl;have cm:g.ops.l.take (k+1)=g.ops.l.take k++[o] :=by rw[List.take_add_one,ay]; rfl
   obtain⟨bf,cD,cw,bn,bA,a3,a4⟩:=vY (by_:=112) (pre:=[.cells 2 [a8 g.ids,b8 g.ops],.cells 2 [.a6,.a6],.dead,.cells 2 [a8 (some g.ids.l),v]]) (rest:=rest++[.cells 11 (bl (gV o))]) (hM.more _) am (x:=.ao 11 (rest.length+1+1+1+1) 0 1 1 11) (xs:=[bl (gV o)])
    (by simp[df,y9,List.take_of_length_le]) (by simp[y9]) (by omega) (by omega) (by rw[aC]; simp; omega)
   obtain⟨O,ej⟩:∃ O,O=bl o:=⟨_,rfl⟩
   obtain⟨T,d9⟩:∃ T,T=bl (gV o) :=⟨_,rfl⟩
   rw[<-ej] at cQ ax l5 dh;rw[<-d9] at ax y9 bn bA;have ahi:bS [ae.int .u32 0,.a6,.int .u64 0,.int .u8 0,.str [],.int .u8 0,.int .i64 0,.int .u64 0,.str [],.int .u32 0,.int .u32 0] 0 T=T:=hb (by rw[y9]; rfl);have vc:=bA.cells;simp only[List.cons_append,List.nil_append] at bn;simp[dw,cC,cQ,dh,List.take_of_length_le];refine bv ax (by simp[bP,ae.closed,l5]) ?_;simp[y9,ahi,bn];refine du.cM ?_;simp[vc,bS,a1];have cB:List.take (k+1) (List.map (bl ∘ gV) g.ops.l)=((g.ops.l.take k).map gV).map bl++[T] :=by rw[<-List.map_take,cm]; simp[d9]
   have fW:cT bf=false:=by rw[a4]; simp
   have agf:4<=cD:=by
    rcases a3 with h | h
    ·rw[h] at fW; cases fW
    ·simpa using h
   refine⟨cC,cD,?_,.inr agf,by rw[fW,cm]; simp⟩;rw[cB];refine bA.uw (.inr ?_);obtain⟨k1,rfl⟩:∃ k1,cD=k1+4:=⟨cD - 4,by omega⟩
   rfl
  ·have l7:k=g.ops.l.length:=by omega
   simp[dw,cC];rw[l7,List.take_length] at hM hL;have kX:Rd (bg.cells 2 [a8 g.ids,b8 g.ops] ::bg.cells 2 [a8 (some g.ids.l),v] ::bg.dead::bg.cells 2 [a8 (some g.ids.l),v] ::rest) v (b8 (gq (g.ops.l.map gV))) :=by
    refine (hM.uw (l':=bg.cells 2 [a8 g.ids,b8 g.ops] ::bg.cells 2 [a8 (some g.ids.l),v] ::bg.dead::bg.cells 2 [a8 (some g.ids.l),v] ::rest) ?_).q.vC (fun x=>kb x) (gq (g.ops.l.map gV)) (by rw[hL,xJ]; simp) (iK _);rcases am with h | h
    ·exact .inl h
    ·right;obtain⟨k1,rfl⟩:∃ k1,j=k1+4:=⟨j - 4,by omega⟩
     rfl
   refine .aS _ _ rfl fun j c c' ak ez=>?_
   rcases j with _ | _ | j
   ·simp[c6,dA,gb] at ak ez; subst ak ez; exact .same _ eA
   ·simp[c6,dA,gb] at ak ez; subst ak ez; exact kX
   ·simp at ak
 ·simp;exact⟨.a6,⟨rfl,rfl⟩,0,.nil 0,.inl rfl,rfl⟩
def tL (a b:bH) :Bool:=decide (a.fP=b.fP)&&(decide (a.bx.l=b.bx.l)&&(decide (a.gT=b.gT)&&(eD (fR a.act) (fR b.act)&&(decide (a.e=b.e)&&decide (a.s=b.s)))))
theorem ait:o4 Tryz.prog 20 33=some [.i .u32,.i .u32] :=by kernel_rfl
theorem alr (a b c d:D) :fD Tryz.prog .eql 33 (.aS [bu a,bu b]) (.aS [bu c,bu d])=some (.bool (decide (a=c)&&decide (b=d))) :=by
 rw[AQ ait (by kernel_rfl) (by kernel_rfl) rfl rfl];simp[eD,ae.beq]
theorem akD (a b:bH) (aG:iv a) (ai:iv b) :bT Tryz.prog GS 59 [.aS (bl a),.aS (bl b)] (.bool (tL a b)) :=by
 refine ca Tryz.checked.mixed b3 ?_;apply bI Qr YY;unfold Gl L4 tL;have uL:=f2 a.bx;have HV:=f2 b.bx;have Ib:=Z8 a.bx b.bx aG.ids ai.ids aG.len;have sV:=NK a.act b.act;have ahk:=alr a.e a.s b.e b.s;have SO:(a8 a.bx).cells=some [a8 a.bx] :=by cases a.bx<;>rfl
 have ap8:(a8 b.bx).cells=some [a8 b.bx] :=by cases b.bx<;>rfl
 unfold fR at sV ⊢;simp[bl];by_cases h1:a.fP=b.fP
 ·simp[h1];refine bv Ib (by simp[bP,uL,HV]) ?_;by_cases af:a.bx.l=b.bx.l
  ·by_cases ap:a.gT=b.gT
   ·cases aH:eD [bG a.act.kind,.str a.act.key,bG a.act.val.kind,.int .i64 a.act.val.num,dz a.act.val.bits,.str a.act.val.text] [bG b.act.kind,.str b.act.key,bG b.act.val.kind,.int .i64 b.act.val.num,dz b.act.val.bits,.str b.act.val.text] with
    | false=>
     rw[aH] at sV;simp[h1,af,ap,sV];exact aZ rfl rfl
    | true=>
     rw[aH] at sV;simp[h1,af,ap,sV,ahk];exact aZ rfl rfl
   ·simp[h1,af,ap];exact aZ rfl rfl
  ·simp[h1,af];exact aZ rfl rfl
 ·simp[h1];exact aZ rfl rfl
theorem Z9 (a:bH) :tL a a=true:=by unfold tL; simp[fR,eD,ae.beq]
def tw (l:List bH) (k:Nat) :bH:=l.getD k ⟨0,none,0,⟨0,[],⟨0,0,0,[]⟩⟩,0,0⟩
theorem C9 {l:List bH} {k:Nat} {o:bH} (h:l[k]? = some o) :tw l k=o:=by unfold tw; rw[List.getD_eq_getElem?_getD,h]; rfl
def r8 (a b:b2) :Bool:=decide (a.ids.l=b.ids.l)&&(decide (a.ops.l.length=b.ops.l.length)&&decide (∀ k,k<a.ops.l.length->tL (tw a.ops.l k) (tw b.ops.l k)=true))
theorem akC (a b:b2) (aG:fZ a) (ai:fZ b) :bT Tryz.prog GS 26 [c6 a,c6 b] (.bool (r8 a b)) :=by
 refine ca Tryz.checked.mixed b3 ?_;apply bI P7 YE;unfold F3 LL;have uL:=f2 a.ids;have HV:=f2 b.ids;have Ib:=Z8 a.ids b.ids aG.ids ai.ids aG.li;have oQ:c9 (.ao 11) (b8 a.ops)=some (.int .i64 a.ops.l.length) :=by simp[b8]
 have nO:c9 (.ao 11) (b8 b.ops)=some (.int .i64 b.ops.l.length) :=by simp[b8]
 have bz:=aG.cI;simp[c6,dA];refine bv Ib (by simp[bP,uL,HV]) ?_;by_cases h1:a.ids.l=b.ids.l
 ·by_cases af:a.ops.l.length=b.ops.l.length
  ·have f3:(a.ops.l.length:Int)=(b.ops.l.length:Int) :=by omega
   simp[h1,oQ,nO,af,f3];refine c0 a.ops.l.length (fun k ah l=>l=[.cells 2 [a8 a.ids,b8 a.ops],.cells 2 [a8 b.ids,b8 b.ops]]/\ah 2=.ptr 0 0 2/\ah 3=.ptr 1 0 2/\ah 5=.int .i64 k/\∀ j,j<k->tL (tw a.ops.l j) (tw b.ops.l j)=true) ?_ (by simp);rintro k ah l aE ⟨rfl,aY,bd,br,ar⟩;obtain⟨ah,rfl⟩:=jG aY bd br;clear aY bd br;unfold VE;by_cases cC:k<a.ops.l.length
   ·obtain⟨o,ay,ek⟩:=ck cC;obtain⟨p,aF,nX⟩:=ck (l:=b.ops.l) (k:=k) (by omega);have a1:IntKind.i64.wrap ((k:Int)+1)=((k+1:Nat) :Int) :=by rw[IntKind.wrap_i64]; omega
    have cQ:cO (.ao 11) (b8 a.ops) (.int .i64 (k:Int))=some (.cn (bl o) 0) :=by simp[b8,ay]
    have oN:cO (.ao 11) (b8 b.ops) (.int .i64 (k:Int))=some (.cn (bl p) 0) :=by simp[b8,aF]
    have ax:=akD o p (aG.ops o ek) (ai.ops p nX);have da:=kb o;have nK:=kb p;have dh:(bl o).length=11:=rfl;have fU:(bl p).length=11:=rfl;have SP:=C9 ay;have BX:=C9 aF;obtain⟨O,ej⟩:∃ O,O=bl o:=⟨_,rfl⟩
    obtain⟨Q,BK⟩:∃ Q,Q=bl p:=⟨_,rfl⟩
    rw[<-ej,<-BK] at ax;rw[<-ej] at cQ da dh;rw[<-BK] at oN nK fU;simp[oQ,cC,cQ,oN,dh,fU,List.take_of_length_le];refine bv ax (by simp[bP,ae.closed,da,nK]) ?_;by_cases iX:tL o p=true
    ·simp[iX,cC,a1];intro j am;by_cases hu:j=k
     ·subst hu; rw[SP,BX]; exact iX
     ·exact ar j (by omega)
    ·rw[Bool.not_eq_true] at iX;simp[iX];refine aZ (congrArg ae.bool ?_) rfl;unfold r8;rw[decide_eq_false (fun h:∀ k,k<a.ops.l.length->tL (tw a.ops.l k) (tw b.ops.l k)=true=>by
      have:=h k cC;rw[SP,BX,iX] at this;cases this)]
     simp
   ·have l7:k=a.ops.l.length:=by omega
    simp[oQ,cC];refine aZ (congrArg ae.bool ?_) rfl;unfold r8;rw[decide_eq_true h1,decide_eq_true af,decide_eq_true fun j am=>ar j (by omega)]; rfl
  ·have f3:¬ (a.ops.l.length:Int)=(b.ops.l.length:Int) :=by omega
   simp[h1,oQ,nO,af,f3];refine aZ (congrArg ae.bool ?_) rfl;unfold r8; rw[decide_eq_false af]; simp
 ·simp[h1];refine aZ (congrArg ae.bool ?_) rfl;unfold r8; rw[decide_eq_false h1]; simp
theorem alu (a:b2) :r8 a a=true:=by unfold r8; simp[Z9]
structure nr (g:b2) :Prop where
 n60:g.ops.l.length<=60
 len:g.ids.l.length=g.ops.l.length
 aeB:∀ (k:Nat) (o:bH) (x:List B),g.ops.l[k]? = some o->g.ids.l[k]? = some x->po o=0/\kt o=x
 eU:eU g.ids.l=true
 J0:∀ o∈g.ops.l,∀ p∈o.bx.l,p∈g.ids.l
 all:∀ i,i<g.ops.l.length->ot g.ids.l g.ops.l i
theorem xv {g:b2} (h:fQ g=0) :nr g:=by
 unfold fQ at h;split at h
 ·cases h
 ·rename_i oD;split at h
  ·rename_i aq;split at h
   ·rename_i pV;unfold lN at h;split at h
    ·rename_i aC;split at h
     ·rename_i f9;split at h
      ·rename_i lz;refine⟨by omega,aq,fun k o x ay aj=>?_,aC,fun o ek p aF=>?_,(WI aq (th aC)).1 lz⟩
       ·have:=(wA g).1 pV k (List.getElem?_eq_some_iff.1 ay).1;rw[By ay aj,Bool.and_eq_true,decide_eq_true_eq,decide_eq_true_eq] at this;exact this
       ·exact of_decide_eq_true (of_decide_eq_true f9 o ek) p aF
      ·cases h
     ·cases h
    ·cases h
   ·cases h
  ·cases h
def CT (g:b2) (x:List B) :Int:=if fQ g=0 then (if x∈g.ids.l then (uq g.ids.l x:Int) else 0) else 0
def CS (g:b2) (x:List B) :Int:=if fQ g=0 then (if x∈g.ids.l then 0 else 6) else fQ g
set_option maxHeartbeats 2000000 in
theorem aiU (g:b2) (az:fZ g) (x:List B) (aj:x.length=32) :bT Tryz.prog GS 87 [c6 g,.aS (a2 x)] (.bU [.int .i64 (CT g x),.int .i64 (CS g x)]) :=by
 refine ca Tryz.checked.mixed b3 ?_;apply bI QM Zi;unfold GK Mp CT CS;have eA:=f2 g.ids;have da:=lW g.ops;have ea:=aa8 g az;have g4:=gZ x;have bE:=dm aj;unfold c6 dA at ea;by_cases aQ:fQ g=0
 ·have V:=xv aQ;have ar:=aac g.ids az.ids az.li x aj V.eU;obtain⟨X,dY⟩:∃ X,X=a2 x:=⟨_,rfl⟩
  rw[<-dY] at ar g4 bE ⊢;rw[aQ] at ea;simp[c6,dA,bE,List.take_of_length_le];refine bv ea (by simp[bP,ae.closed,eA,da]) ?_;simp[bE,List.take_of_length_le];refine bv ar (by simp[bP,ae.closed,eA,g4]) ?_;by_cases hm:x∈g.ids.l
  ·simp[hm,aQ];exact aZ rfl rfl
  ·simp[hm,aQ];exact aZ rfl rfl
 ·obtain⟨X,dY⟩:∃ X,X=a2 x:=⟨_,rfl⟩
  rw[<-dY] at g4 bE ⊢;simp[c6,dA,bE,List.take_of_length_le];refine bv ea (by simp[bP,ae.closed,eA,da]) ?_;simp[aQ];exact aZ rfl rfl
def lC (ids:List (List B)) (seen:List Bool) (k:Nat) :List (List B) :=(List.range k).flatMap fun i=>if seen.getD i false=true then [cc ids i] else []
theorem Wk (ids:List (List B)) (seen:List Bool) (k:Nat) :lC ids seen (k+1)=lC ids seen k++(if seen.getD k false=true then [cc ids k] else []) :=by
 unfold lC; rw[List.range_succ,List.flatMap_append]; simp
theorem JP (ids:List (List B)) (seen:List Bool) :∀ k,(lC ids seen k).length<=k
 | 0=>by simp[lC]
 | k+1=>by
  have:=JP ids seen k;rw[Wk,List.length_append];split<;>simp<;>omega
theorem Wj {ids:List (List B)} {seen:List Bool} {x:List B}:∀ {k:Nat},x∈lC ids seen k<->∃ i,i<k/\seen.getD i false=true/\cc ids i=x:=by
 intro k;unfold lC;rw[List.mem_flatMap];constructor
 ·rintro⟨i,aA,aj⟩;split at aj
  ·rename_i ar;rw[List.mem_singleton] at aj;exact⟨i,List.mem_range.1 aA,ar,aj.symm⟩
  ·cases aj
 ·rintro⟨i,aA,ar,aj⟩;exact⟨i,List.mem_range.2 aA,by rw[if_pos ar,aj]; simp⟩
set_option maxHeartbeats 2000000 in
theorem ai5 (g:b2) (az:fZ g) (seen:eh Bool) (ar:seen.l.length=g.ids.l.length) :bT Tryz.prog GS 88 [c6 g,cS 1 jk seen] (a8 (gq (lC g.ids.l seen.l seen.l.length))) :=by
 refine ca Tryz.checked.mixed b3 ?_;apply bI QN Zj;unfold GL Mq;have aC:cJ=140737488355328:=rfl;have h5:=az.li;have e7:c9 (.ao 1) (cS 1 jk seen)=some (.int .i64 seen.l.length) :=o6 _;simp[c6,dA,e7];refine c0 seen.l.length (fun k ah l=>ah 1=cS 1 jk seen/\ah 2=.ptr 0 0 2/\ah 8=.int .i64 seen.l.length/\ah 9=.int .i64 k/\∃ j rest,l=.cells 2 [a8 g.ids,b8 g.ops] ::rest ∧
  bX 32 l (ah 5) j ((lC g.ids.l seen.l k).map a2)/\(ah 5=.a6\/1<=j)/\cT (ah 5)=(lC g.ids.l seen.l k).isEmpty) ?_ ?_
 ·rintro k ah l aE ⟨aV,aY,ff,hs,j,rest,rfl,hM,am,hL⟩;obtain⟨v,br⟩:∃ v,ah 5=v:=⟨_,rfl⟩
  rw[br] at hM am hL;obtain⟨ah,rfl⟩:=kC aV aY br ff hs;clear aV aY br ff hs;unfold VZ;by_cases cC:k<seen.l.length
  ·obtain⟨b,ai,_⟩:=ck cC;obtain⟨x,aj,dV⟩:=ck (l:=g.ids.l) (k:=k) (by omega);have a1:IntKind.i64.wrap ((k:Int)+1)=((k+1:Nat) :Int) :=by rw[IntKind.wrap_i64]; omega
   have cQ:cO (.ao 1) (cS 1 jk seen) (.int .i64 (k:Int))=some (.cn [.bool b] 0) :=by rw[qc]; simp[ai,jk]
   have oN:cO (.ao 32) (a8 g.ids) (.int .i64 (k:Int))=some (.cn (a2 x) 0) :=by simp[a8,aj]
   have IR:seen.l.getD k false=b:=by rw[List.getD_eq_getElem?_getD,ai]; rfl
   have bE:=dm (az.ids x dV);have kU:=JP g.ids.l seen.l k;have w6:=Wk g.ids.l seen.l k;rw[IR] at w6;cases b with
   | false=>
    simp at w6;simp[cC,cQ,a1];rw[w6];exact⟨j,hM,am,hL⟩
   | true=>
    rw[if_pos rfl,hw aj] at w6;obtain⟨bf,cD,cw,bn,bA,a3,a4⟩:=vY (by_:=32) (pre:=[.cells 2 [a8 g.ids,b8 g.ops]]) (rest:=rest++[.cells 32 (a2 x)]) (hM.more _) am (x:=.ao 32 (rest.length+1) 0 1 1 32) (xs:=[a2 x])
     (by simp[df,bE,List.take_of_length_le]) (by simp[bE]) (by omega) (by omega) (by rw[aC]; simp; omega)
    have cB:(lC g.ids.l seen.l (k+1)).map a2=(lC g.ids.l seen.l k).map a2++[a2 x] :=by rw[w6]; simp
    obtain⟨X,dY⟩:∃ X,X=a2 x:=⟨_,rfl⟩
    rw[<-dY] at oN bE bn bA cB;have rB:bS (rep 32 (.int .u8 0)) 0 X=X:=hb (by rw[bE]; rfl);simp only[List.cons_append,List.nil_append] at bn;simp[cC,cQ,oN,bE,rB,List.take_of_length_le,bn];refine du.cM ?_;simp[cC,a1];refine⟨cD,by rw[cB]; exact bA,by simpa using a3,by rw[a4,w6]; simp⟩
  ·have l7:k=seen.l.length:=by omega
   subst l7;simp[cC];exact hM.q.vC (fun x=>gZ x) (gq _) (by rw[hL,xJ]) (iK _)
 ·have aQ:lC g.ids.l seen.l 0=[] :=rfl;simp[aQ];exact⟨⟨0,.nil 0⟩,rfl⟩
theorem Eu:∀ l:List B,eD (l.map bG) (l.map bG)=true
 | []=>rfl
 | x::l=>by
  have h1:ae.beq (bG x) (bG x)=true:=by simp[bG,ae.beq]
  show (ae.beq (bG x) (bG x)&&eD (l.map bG) (l.map bG))=true;rw[h1,Eu l]; rfl
theorem aci (x:List B) :ae.beq (.aS (a2 x)) (.aS (a2 x))=true:=Eu x
theorem Hj {x:List B} (h:x.length=32) :jB Tryz.prog 71 (.aS (a2 x))=true:=by
 have h1:o3 Tryz.prog 8 71=true:=by kernel_rfl
 have af:dM Tryz.prog 71=some true:=by kernel_rfl
 have ap:cv Tryz.prog 71=some 32:=by kernel_rfl
 have aH:(x.map bG).all qr=true:=by rw[List.all_eq_true]; intro c ak; obtain⟨b,_,rfl⟩:=List.mem_map.1 ak; rfl
 show (o3 Tryz.prog 8 71&&(match dM Tryz.prog 71,cv Tryz.prog 71 with | some true,some m=>Nat.beq (x.map bG).length m | _,_=>false)&&(x.map bG).all qr)=true;rw[h1,af,ap,aH,List.length_map,h];rfl
theorem Wg:∀ {a b:List B},a.map (fun x=>u x)=b.map (fun x=>u x)<->a=b
 | [],[]=>by simp
 | [],_::_=>by simp
 | _::_,[]=>by simp
 | x::a,y::b=>by
  rw[List.map_cons,List.map_cons,List.cons.injEq,List.cons.injEq,Wg (a:=a) (b:=b)];simp
theorem adY {a b:List B} (aG:a.length=32) (ai:b.length=32) {D:Nat}:dX Tryz.prog (D+2) 71 (.aS (a2 a)) (.aS (a2 b))=some (decide (a=b)) :=by
 have h:=ad0 (P:=Tryz.prog) (t:=71) (e:=5) (k:=.u8) (n:=32) (by kernel_rfl) (by kernel_rfl) (by kernel_rfl) (by kernel_rfl) (x:=a.map fun x=>u x) (y:=b.map fun x=>u x) (by simp[aG]) (by simp[ai]) (D:=D);rw[List.map_map,List.map_map] at h;unfold a2;rw[show a.map bG=a.map (ae.int .u8 ∘ fun x=>u x) from rfl,show b.map bG=b.map (ae.int .u8 ∘ fun x=>u x) from rfl,h];simp only[Wg]
inductive pv:Nat->List (ae × ae × Nat)->List (List B)->Prop
 | nil (b:Nat) :pv b [] []
 | cons {b:Nat} {es:List (ae × ae × Nat)} {bQ:List (List B)} {k:List B} (n:Nat) (aE:k.length=32) (h:pv (b+1) es bQ) :pv b ((.aS (a2 k),.int .i64 (b:Int),n) ::es) (k::bQ)
theorem pv.len {b:Nat} {es:List (ae × ae × Nat)} {bQ:List (List B)} (h:pv b es bQ) :es.length=bQ.length:=by induction h<;>simp_all
theorem pv.snoc {b:Nat} {es:List (ae × ae × Nat)} {bQ:List (List B)} (h:pv b es bQ) {k:List B} (aE:k.length=32) (n:Nat) :pv b (es++[(.aS (a2 k),.int .i64 ((b+bQ.length:Nat) :Int),n)]) (bQ++[k]) :=by
 induction h with
 | nil b=>exact .cons n aE (.nil _)
 | @cons b es bQ k' m eb h aK=>
  refine .cons m eb ?_;rw[show b+1+bQ.length=b+(k'::bQ).length by simp; omega] at aK;exact aK
theorem RS {x:List B} (aj:x.length=32) {b:Nat} {es:List (ae × ae × Nat)} {bQ:List (List B)} (h:pv b es bQ) :∀ c,(∀ i,bQ[i]? = some x->(∀ j,j<i->bQ[j]?≠some x)->ig Tryz.prog 71 (.aS (a2 x)) es c=some (some (c+i,.int .i64 ((b+i:Nat) :Int))))/\(x∉bQ->ig Tryz.prog 71 (.aS (a2 x)) es c=some none) :=by
 induction h with
 | nil b=>intro c; exact⟨fun i h=>by simp at h,fun _=>rfl⟩
 | @cons b es bQ k n aE h aK=>
  intro c;unfold ig;rw[Hj aE];simp only;rw[show dX Tryz.prog 10000 71 (.aS (a2 x)) (.aS (a2 k))=some (decide (x=k)) from adY aj aE (D:=9998)];by_cases aw:x=k
  ·subst aw;simp only[decide_true,aci];refine⟨fun i aA eG=>?_,fun h=>absurd (by simp) h⟩;cases i with
   | zero=>rfl
   | succ i=>exact absurd rfl (eG 0 (by omega))
  ·simp only[aw,decide_false];obtain⟨h1,af⟩:=aK (c+1);refine⟨fun i aA eG=>?_,fun h=>af (fun h'=>h (by simp[h']))⟩;cases i with
   | zero=>simp at aA; exact absurd aA.symm aw
   | succ i=>
    rw[h1 i (by simpa using aA) (fun j am=>by have:=eG (j+1) (by omega); simpa using this)];rw[show c+1+i=c+(i+1) by omega,show b+1+i=b+(i+1) by omega]
structure lT (l:au) (j:Nat) (bQ:List (List B)) :Prop where
 e:∃ es dW,l[j]? = some (.map es dW)/\pv 0 es bQ
theorem lT.look {l:au} {j:Nat} {bQ:List (List B)} (h:lT l j bQ) (am:iN bQ) {x:List B} (aj:x.length=32) {i:Nat} (aA:bQ[i]? = some x) :tp Tryz.prog l 71 (.int .i64 0) false (.mp j) (.aS (a2 x))=some (.int .i64 (i:Int)) :=by
 obtain⟨es,dW,h1,af⟩:=h.e;have ap:qh l (.mp j)=some es:=by simp[qh,h1]
 unfold tp;rw[ap];simp only[Hj aj];rw[(RS aj af 0).1 i aA (fun t aU aR=>by have:=am t i x aR aA; omega)];simp
theorem lT.put {l:au} {j:Nat} {bQ:List (List B)} (h:lT l j bQ) {x:List B} (aj:x.length=32) (aI:x∉bQ) :∃ c,qi Tryz.prog l 71 (.mp j) (.aS (a2 x)) (.int .i64 (bQ.length:Int))=some (l.set j c)/\(∀ l' : au,l'[j]? = some c->lT l' j (bQ++[x])) :=by
 obtain⟨es,dW,h1,af⟩:=h.e;unfold qi;simp only[h1,Hj aj,(RS aj af 0).2 aI];exact⟨_,rfl,fun l' cZ=>⟨_,_,cZ,by have:=af.snoc aj dW; rw[Nat.zero_add] at this; exact this⟩⟩
theorem lT.frame {l l' : au} {j:Nat} {bQ:List (List B)} (h:lT l j bQ) (am:l'[j]? = l[j]?) :lT l' j bQ:=by
 obtain⟨es,dW,h1,af⟩:=h.e;exact⟨es,dW,by rw[am,h1],af⟩
theorem lT.lt {l:au} {j:Nat} {bQ:List (List B)} (h:lT l j bQ) :j<l.length:=by
 obtain⟨es,dW,h1,af⟩:=h.e;exact (List.getElem?_eq_some_iff.1 h1).1
theorem ai1 {P:Program} {aD:Operand->ae} {l:au} {o:Operand} {k:IntKind} {n:Int} (h:aD o=.int k n) :bR P aD l (.o9 (some o))=some (.mp l.length,l++[.map [] 0]) :=by
 show (match asInt (aD o) with | some _=>some (ae.mp l.length,l++[bg.map [] 0]) | none=>none)=_;rw[h]; rfl
set_option maxHeartbeats 2000000 in
theorem ajV (g:b2) (az:fZ g) (am:iN g.ids.l) {l:au} {K:ae->au->Prop} (a7:∀ j l',lT l' j g.ids.l->l.length<=j->(∀ c,c<l.length->l'[c]? = l[c]?)->l.length<=l'.length->K (.mp j) l') :
  dB Tryz.prog GS 124 [c6 g] l (c:=⟨K⟩) :=by
 apply bI OZ Xw;unfold EW KH;have h5:=az.li;have e7:c9 (.ao 32) (a8 g.ids)=some (.int .i64 g.ids.l.length) :=by simp[a8]
 simp[c6,dA,e7];rw[ai1 (k:=.i64) (n:=g.ids.l.length) (by simp)];simp[e7];refine c0 g.ids.l.length (fun k ah l'=>ah 3=.mp (l.length+1)/\ah 11=a8 g.ids/\ah 12=.int .i64 g.ids.l.length/\ah 13=.int .i64 k/\lT l' (l.length+1) (g.ids.l.take k)/\(∀ c,c<l.length->l'[c]? = l[c]?)) ?_ ?_
 ·rintro k ah l' aE ⟨bd,iB,jm,lp,pR,lw⟩;obtain⟨ah,rfl⟩:=j2 bd iB jm lp;clear bd iB jm lp;unfold U1;by_cases cC:k<g.ids.l.length
  ·obtain⟨x,aj,dV⟩:=ck cC;have a1:IntKind.i64.wrap ((k:Int)+1)=((k+1:Nat) :Int) :=by rw[IntKind.wrap_i64]; omega
   have oN:cO (.ao 32) (a8 g.ids) (.int .i64 (k:Int))=some (.cn (a2 x) 0) :=by simp[a8,aj]
   have me:=az.ids x dV;have bE:=dm me;have cm:g.ids.l.take (k+1)=g.ids.l.take k++[x] :=by rw[List.take_add_one,aj]; rfl
   have eG:x∉g.ids.l.take k:=fun hm=>by
    obtain⟨t,aU⟩:=List.mem_iff_getElem?.1 hm;have jS:=(List.getElem?_eq_some_iff.1 aU).1;rw[List.length_take] at jS;rw[List.getElem?_take_of_lt (by omega)] at aU;have:=am t k x aU aj; omega
   have aN:=pR.lt;have ae3:lT (l'++[.cells 32 (a2 x)]) (l.length+1) (g.ids.l.take k) :=pR.frame (List.getElem?_append_left aN);obtain⟨c,cz,de⟩:=ae3.put me eG;have ju:(g.ids.l.take k).length=k:=by rw[List.length_take]; omega
   rw[ju] at cz;obtain⟨X,dY⟩:∃ X,X=a2 x:=⟨_,rfl⟩
   rw[<-dY] at oN bE cz;have rB:bS (rep 32 (.int .u8 0)) 0 X=X:=hb (by rw[bE]; rfl);simp[cC,oN,bE,rB,List.take_of_length_le,cz,a1];refine⟨?_,fun c' ez=>?_⟩
   ·rw[cm];exact de _ (by rw[List.getElem?_set_self (by simp; omega)])
   ·rw[List.getElem?_set_ne (by omega),List.getElem?_append_left (by omega)];exact lw c' ez
  ·have l7:k=g.ids.l.length:=by omega
   rw[l7,List.take_length] at pR;simp[cC];exact a7 _ _ pR (by omega) lw (by have:=pR.lt; omega)
 ·simp;refine⟨⟨[],0,by simp,.nil 0⟩,fun c ak=>by rw[List.getElem?_append_left ak]⟩
inductive hC (ids:List (List B)) (ops:List bH) (L:List (List B)) :Nat->Prop
 | start (p:List B) (j:Nat) (aF:p∈L) (am:ids[j]? = some p) :hC ids ops L j
 | step (i:Nat) (p:List B) (j:Nat) (h:hC ids ops L i) (aF:p∈c7 ops i) (am:ids[j]? = some p) :hC ids ops L j
theorem hC.mono {ids:List (List B)} {ops:List bH} {L NF:List (List B)} (ar:∀ p∈L,p∈NF) {i:Nat} (h:hC ids ops L i) :hC ids ops NF i:=by
 induction h with
 | start p j aF am=>exact .start p j (ar p aF) am
 | step i p j _ aF am aK=>exact .step i p j aK aF am
theorem hC.under {ids:List (List B)} {ops:List bH} {L:List (List B)} {i:Nat} (aA:hC ids ops L i) {j:Nat} (h:hC ids ops (c7 ops i) j) :hC ids ops L j:=by
 induction h with
 | start p j aF am=>exact .step i p j aA aF am
 | step i1 p j _ aF am aK=>exact .step i1 p j aK aF am
structure nv (ids:List (List B)) (ops:List bH) (L:List (List B)) (S gW:List Bool) :Prop where
 len:gW.length=S.length
 mono:∀ (i:Nat),S[i]? = some true->gW[i]? = some true
 st:∀ p∈L,∀ (j:Nat),ids[j]? = some p->gW[j]? = some true
 new:∀ (i:Nat),gW[i]? = some true->S[i]? = some true\/(hC ids ops L i/\∀ p∈c7 ops i,∀ (j:Nat),ids[j]? = some p->gW[j]? = some true)
theorem aa5 (ids:List (List B)) (ops:List bH) (S:List Bool) :nv ids ops [] S S:=⟨rfl,fun _ h=>h,fun p aF=>by simp at aF,fun _ h=>.inl h⟩
theorem aa6 {ids:List (List B)} {ops:List bH} {L:List (List B)} {p:List B} {S NH iw:List Bool} (h1:nv ids ops L S NH) (af:nv ids ops [p] NH iw) :nv ids ops (L++[p]) S iw:=by
 refine⟨af.len.trans h1.len,fun i h=>af.mono i (h1.mono i h),fun q bp j am=>?_,fun i h=>?_⟩
 ·rw[List.mem_append] at bp;rcases bp with bp | bp
  ·exact af.mono j (h1.st q bp j am)
  ·exact af.st q bp j am
 ·rcases af.new i h with ap | ⟨ap,aH⟩
  ·rcases h1.new i ap with bc | ⟨bc,bM⟩
   ·exact .inl bc
   ·exact .inr ⟨bc.mono fun q bp=>by simp[bp],fun q bp j am=>af.mono j (bM q bp j am)⟩
  ·exact .inr ⟨ap.mono fun q bp=>by simp at bp; simp[bp],aH⟩
theorem am8 {ids:List (List B)} {ops:List bH} (gk:iN ids) {p:List B} {i:Nat} {S:List Bool} (aA:ids[i]? = some p) (ar:S[i]? = some true) :nv ids ops [p] S S:=by
 refine⟨rfl,fun _ h=>h,fun q bp j am=>?_,fun _ h=>.inl h⟩;rw[List.mem_singleton] at bp;subst bp;rw[gk j i q am aA];exact ar
theorem am9 {ids:List (List B)} {ops:List bH} (gk:iN ids) {p:List B} {i:Nat} {S iw:List Bool} (aA:ids[i]? = some p) (aq:i<S.length) (h:nv ids ops (c7 ops i) (S.set i true) iw) :nv ids ops [p] S iw:=by
 have hit:iw[i]? = some true:=h.mono i (List.getElem?_set_self aq);have Ug:hC ids ops [p] i:=.start p i (by simp) aA;refine⟨by rw[h.len]; simp,fun j am=>h.mono j ?_,fun q bp j am=>?_,fun j am=>?_⟩
 ·by_cases iD:i=j
  ·subst iD; exact List.getElem?_set_self aq
  ·rw[List.getElem?_set_ne iD]; exact am
 ·rw[List.mem_singleton] at bp;subst bp;rw[gk j i q am aA];exact hit
 ·rcases h.new j am with h1 | ⟨h1,af⟩
  ·by_cases iD:i=j
   ·subst iD;exact .inr ⟨Ug,fun q bp t aU=>h.st q bp t aU⟩
   ·rw[List.getElem?_set_ne iD] at h1;exact .inl h1
  ·exact .inr ⟨Ug.under h1,af⟩
theorem am7 {ids:List (List B)} {ops:List bH} {L:List (List B)} {n:Nat} {S:List Bool} (h:nv ids ops L (List.replicate n false) S) (i:Nat) :S[i]? = some true<->hC ids ops L i:=by
 have eG:∀ (j:Nat),(List.replicate n false)[j]?≠some true:=fun j am=>by
  have:=List.eq_of_mem_replicate (List.mem_of_getElem? am);cases this
 constructor
 ·intro aA;rcases h.new i aA with h1 | ⟨h1,_⟩
  ·exact absurd h1 (eG i)
  ·exact h1
 ·intro aA
  induction aA with
  | start p j aF am=>exact h.st p aF j am
  | step i p j _ aF am aK=>
   rcases h.new i aK with h1 | ⟨_,af⟩
   ·exact absurd h1 (eG i)
   ·exact af p aF j am
structure mD (g:b2) (ey jj ji iQ fJ iE:Nat) (S:List Bool) (l:au) :Prop where
 a:l[ey]? = some (.cells 1 [.mp iE])
 s:l[jj]? = some (.cells 1 [.ao 1 fJ 0 g.ids.l.length g.ids.l.length g.ids.l.length])
 Bt:l[ji]? = some (.cells 2 [a8 g.ids,b8 g.ops])
 v:l[iQ]? = some (.cells 1 [.fn 125 [] [.ptr ey 0 1,.ptr jj 0 1,.ptr ji 0 2,.ptr iQ 0 1]])
 m:lT l iE g.ids.l
 r:l[fJ]? = some (.cells g.ids.l.length (S.map ae.bool))
 n:S.length=g.ids.l.length
 ne:fJ≠ey/\fJ≠jj/\fJ≠ji/\fJ≠iQ/\fJ≠iE
theorem mD.frame {g:b2} {ey jj ji iQ fJ iE:Nat} {S:List Bool} {l l' : au} (h:mD g ey jj ji iQ fJ iE S l) (aJ:∀ c,c<l.length->l'[c]? = l[c]?) :mD g ey jj ji iQ fJ iE S l':=by
 have lt:∀ {c:Nat} {x:bg},l[c]? = some x->c<l.length:=fun h=>(List.getElem?_eq_some_iff.1 h).1
 exact⟨(aJ _ (lt h.a)).trans h.a,(aJ _ (lt h.s)).trans h.s,(aJ _ (lt h.Bt)).trans h.Bt,(aJ _ (lt h.v)).trans h.v,h.m.frame (aJ _ h.m.lt),(aJ _ (lt h.r)).trans h.r,h.n,h.ne⟩
theorem mD.more {g:b2} {ey jj ji iQ fJ iE:Nat} {S:List Bool} {l:au} (h:mD g ey jj ji iQ fJ iE S l) (x:au) :mD g ey jj ji iQ fJ iE S (l++x) :=h.frame fun c ak=>List.getElem?_append_left ak
theorem mD.set {g:b2} {ey jj ji iQ fJ iE:Nat} {S:List Bool} {l:au} (h:mD g ey jj ji iQ fJ iE S l) (i:Nat) :mD g ey jj ji iQ fJ iE (S.set i true) (l.set fJ (.cells g.ids.l.length ((S.set i true).map ae.bool))) :=by
 obtain⟨lD,ql,rU,pc,jW⟩:=h.ne;have aq:fJ<l.length:=(List.getElem?_eq_some_iff.1 h.r).1;exact⟨by rw[List.getElem?_set_ne lD]; exact h.a,by rw[List.getElem?_set_ne ql]; exact h.s,by rw[List.getElem?_set_ne rU]; exact h.Bt,by rw[List.getElem?_set_ne pc]; exact h.v,h.m.frame (List.getElem?_set_ne jW),List.getElem?_set_self aq,by simpa using h.n,h.ne⟩
theorem R0:iS Tryz.prog 125=true:=by kernel_rfl
set_option maxHeartbeats 4000000 in
theorem am2 (g:b2) (az:fZ g) (V:nr g) (ey jj ji iQ fJ iE:Nat) :∀ (m:Nat) (S:List Bool) (l:au) (p:List B) (i:Nat) (K:ae->au->Prop),S.count false<=m->mD g ey jj ji iQ fJ iE S l->g.ids.l[i]? = some p->
  (∀ l' gW,nv g.ids.l g.ops.l [p] S gW->mD g ey jj ji iQ fJ iE gW l'->(∀ c,c<l.length->c≠fJ->l'[c]? = l[c]?)->l.length<=l'.length->gW.count false<=S.count false->K (.bU []) l')->
  dB Tryz.prog GS 125 [.aS (a2 p),.ptr ey 0 1,.ptr jj 0 1,.ptr ji 0 2,.ptr iQ 0 1] l (c:=⟨K⟩) :=by
 have gk:=th V.eU;intro m
 induction m using Nat.strongRecOn with
 | _ m aK=>
  intro S l p i K hm sT aA a7;apply bI O0 Xx;unfold EX KI;have nX:=List.mem_of_getElem? aA;have u2:=az.ids p nX;have d1:=(List.getElem?_eq_some_iff.1 aA).1;have ju:=(sT.more [.cells 32 (a2 p)]).m.look gk u2 aA;have bE:=dm u2;obtain⟨X,dY⟩:∃ X,X=a2 p:=⟨_,rfl⟩
  rw[<-dY] at ju bE ⊢;have uH:=sT.more [.cells 32 X];obtain⟨l1,fF⟩:∃ l1,l1=l++[bg.cells 32 X] :=⟨_,rfl⟩
  rw[<-fF] at uH ju;have afv:l1[l.length]? = some (.cells 32 X) :=by rw[fF]; simp
  have d3:d4 l1 (.ptr ey 0 1)=some ([.mp iE],0) :=by simp only[d4,uH.a]; simp
  have e8:d4 l1 (.ptr jj 0 1)=some ([.ao 1 fJ 0 g.ids.l.length g.ids.l.length g.ids.l.length],0) :=by simp only[d4,uH.s]; simp
  have Dp:d4 l1 (.ptr l.length 0 32)=some (X,0) :=by simp only[d4,afv]; simp
  have zV:d4 l1 (.ptr fJ i g.ids.l.length)=some (S.map ae.bool,i) :=by simp only[d4,uH.r]; simp
  have Tq:cO (.ao 1) (.ao 1 fJ 0 g.ids.l.length g.ids.l.length g.ids.l.length) (.int .i64 (i:Int))=some (.ptr fJ i g.ids.l.length) :=by
   simp only[cO];rw[if_pos ⟨trivial,by omega,by omega⟩];simp
  obtain⟨b,ai,_⟩:=ck (l:=S) (k:=i) (by rw[sT.n]; exact d1);have aqj:(S.map ae.bool)[i]? = some (.bool b) :=by rw[List.getElem?_map,ai]; rfl
  have Im:l1.length=l.length+1:=by rw[fF]; simp
  have Te:∀ c,c<l.length->c≠fJ->l1[c]? = l[c]?:=fun c ak _=>by rw[fF,List.getElem?_append_left ak]
  cases b with
  | true=>
   simp[bE,<-fF,d3,e8,Dp,ju,Tq,zV,ai,List.take_of_length_le];exact a7 l1 S (am8 gk aA ai) uH Te (by omega) (Nat.le_refl _)
  | false=>
   have cm:iJ 1 l1 (.ptr fJ i g.ids.l.length) (.bool true)=some (l1.set fJ (.cells g.ids.l.length ((S.set i true).map ae.bool))) :=by
    simp only[iJ,ae.cells,uH.r];rw[if_pos (by simp; omega)];have af:bS (S.map ae.bool) i [ae.bool true]=(S.set i true).map ae.bool:=mr ae.bool S i true (by rw[sT.n]; exact d1);rw[af]
   have HM:=uH.set i;obtain⟨cg,hK⟩:∃ cg,cg=l1.set fJ (.cells g.ids.l.length ((S.set i true).map ae.bool)) :=⟨_,rfl⟩
   rw[<-hK] at cm HM;have vy:d4 cg (.ptr ji 1 2)=some ([a8 g.ids,b8 g.ops],1) :=by simp only[d4,HM.Bt]; simp
   obtain⟨o,ay,ek⟩:=ck (l:=g.ops.l) (k:=i) (by rw[<-V.len]; exact d1);have cQ:cO (.ao 11) (b8 g.ops) (.int .i64 (i:Int))=some (.cn (bl o) 0) :=by simp[b8,ay]
   have pQ:(bl o).length=11:=rfl;have ls:(bl o)[1]? = some (a8 o.bx) :=rfl;have ma:=az.ops o ek;have fU:=ma.len;have mW:c9 (.ao 32) (a8 o.bx)=some (.int .i64 o.bx.l.length) :=by simp[a8]
   obtain⟨O,ej⟩:∃ O,O=bl o:=⟨_,rfl⟩
   rw[<-ej] at cQ pQ ls;have afX:∀ c,c<l.length->c≠fJ->cg[c]? = l[c]?:=fun c ak b0=>by rw[hK,List.getElem?_set_ne (Ne.symm b0)]; exact Te c ak b0
   have In:l.length<=cg.length:=by rw[hK]; simp; omega
   have aqd:(S.set i true).count false+1<=S.count false:=by
    have aga:i<S.length:=by rw[sT.n]; exact d1
    have rm:S[i]=false:=(List.getElem?_eq_some_iff.1 ai).2;have kq:0<S.count false:=List.count_pos_iff.2 (List.mem_of_getElem? ai);rw[List.count_set aga,rm];simp; omega
   simp[bE,<-fF,d3,e8,Dp,ju,Tq,zV,ai,List.take_of_length_le,cm,vy,cQ,ls,mW];refine c0 o.bx.l.length (fun q ah l'=>ah 4=.ptr iQ 0 1/\ah 24=a8 o.bx/\ah 25=.int .i64 o.bx.l.length/\ah 26=.int .i64 q/\∃ gW,nv g.ids.l g.ops.l (o.bx.l.take q) (S.set i true) gW/\mD g ey jj ji iQ fJ iE gW l' ∧
    (∀ c,c<l.length->c≠fJ->l'[c]? = l[c]?)/\l.length<=l'.length/\gW.count false<=(S.set i true).count false) ?_ ?_
   ·rintro q ah l' bp ⟨bD,mJ,kh,ki,gW,uJ,uG,lw,oR,aqf⟩;obtain⟨ah,rfl⟩:=j2 bD mJ kh ki;clear bD mJ kh ki;unfold U2;by_cases jQ:q<o.bx.l.length
    ·obtain⟨bV,fz,za⟩:=ck jQ;obtain⟨j,am⟩:=List.mem_iff_getElem?.1 (V.J0 o ek bV za);have a1:IntKind.i64.wrap ((q:Int)+1)=((q+1:Nat) :Int) :=by rw[IntKind.wrap_i64]; omega
     have g5:cO (.ao 32) (a8 o.bx) (.int .i64 (q:Int))=some (.cn (a2 bV) 0) :=by simp[a8,fz]
     have rF:=dm ((az.ops o ek).ids bV za);have uI:=uG.more [.cells 32 (a2 bV)];have tE:d4 (l'++[bg.cells 32 (a2 bV)]) (.ptr iQ 0 1)=some ([.fn 125 [] [.ptr ey 0 1,.ptr jj 0 1,.ptr ji 0 2,.ptr iQ 0 1]],0) :=by simp only[d4,uI.v]; simp
     have kO:=aK (m - 1) (by omega) gW (l'++[bg.cells 32 (a2 bV)]) bV j;obtain⟨qU,HN⟩:∃ qU,qU=a2 bV:=⟨_,rfl⟩
     rw[<-HN] at g5 rF uI tE kO;have rB:bS (rep 32 (.int .u8 0)) 0 qU=qU:=hb (by rw[rF]; rfl);simp[jQ,g5,rF,rB,List.take_of_length_le,tE];refine⟨R0,kO _ (by omega) uI am ?_⟩;intro eS D7 b4 w2 ef pp t1;simp[jQ,a1];refine⟨D7,?_,w2,fun c ak b0=>?_,by simp at pp; omega,by omega⟩
     ·rw[List.take_add_one,fz];exact aa6 uJ b4
     ·rw[ef c (by simp; omega) b0,List.getElem?_append_left (by omega)];exact lw c ak b0
    ·have nY:q=o.bx.l.length:=by omega
     rw[nY,List.take_length] at uJ;simp[jQ];exact a7 l' gW (am9 gk aA (by rw[sT.n]; exact d1) (by rw[vx ay]; exact uJ)) uG lw oR (by omega)
   ·simp;exact⟨S.set i true,aa5 _ _ _,HM,afX,In,Nat.le_refl _⟩
open Classical in
noncomputable def k6 (g:b2) (L:List (List B)) :List Bool:=(List.range g.ids.l.length).map fun i=>decide (hC g.ids.l g.ops.l L i)
theorem MA (g:b2) (L:List (List B)) :(k6 g L).length=g.ids.l.length:=by simp[k6]
open Classical in
theorem akN {g:b2} {L:List (List B)} {S:List Bool} (h:nv g.ids.l g.ops.l L (List.replicate g.ids.l.length false) S) :S=k6 g L:=by
 have bz:S.length=g.ids.l.length:=by rw[h.len]; simp
 apply List.ext_getElem?;intro i;by_cases aA:i<g.ids.l.length
 ·have h1:=am7 h i;obtain⟨b,ai,_⟩:=ck (l:=S) (k:=i) (by omega);rw[ai] at h1 ⊢;unfold k6;rw[List.getElem?_map,List.getElem?_range aA];simp only[Option.map_some,Option.some.injEq] at h1 ⊢;cases b with
  | true=>exact (decide_eq_true (h1.1 rfl)).symm
  | false=>exact (decide_eq_false fun aR=>by have:=h1.2 aR; cases this).symm
 ·rw[List.getElem?_eq_none (by omega),List.getElem?_eq_none (by rw[MA]; omega)]
set_option maxHeartbeats 4000000 in
theorem MC (g:b2) (az:fZ g) (V:nr g) (L:fp) (f5:hS L) (rh:L.l.length<=1000000) (d2:∀ p∈L.l,p∈g.ids.l) :bT Tryz.prog GS 89 [c6 g,a8 L] (cS 1 jk (some (k6 g L.l))) :=by
 refine ca Tryz.checked.mixed b3 ?_;apply bI QO Zk;unfold GM Mr;have aC:cJ=140737488355328:=rfl;have h5:=az.li;have agq:c9 (.ao 32) (a8 L)=some (.int .i64 L.l.length) :=by simp[a8]
 have agp:c9 (.ao 32) (a8 g.ids)=some (.int .i64 g.ids.l.length) :=by simp[a8]
 have gk:=th V.eU;simp[c6,dA];refine ajV g az gk ?_;intro iE l1 pR wR lw oR;obtain⟨d3,rfl⟩:∃ r,l1=bg.cells 2 [a8 g.ids,b8 g.ops] ::r:=zJ ((lw 0 (by simp)).trans rfl);obtain⟨bn,_⟩:=C1 (z:=1) (by_:=1) (n:=g.ids.l.length) (k:=.i64) (k':=.i64) (zero:=[ae.bool false]) (l:=(bg.cells 2 [a8 g.ids,b8 g.ops] ::d3)++[bg.cells 1 [.mp iE]]) rfl (by omega) (by rw[aC]; omega);simp only[Nat.mul_one,ME (α:=Nat),List.cons_append] at bn;simp[agp,agq,bn];obtain⟨ey,sX⟩:∃ ey,ey=d3.length+1:=⟨_,rfl⟩
 have q1:d3.length+1+1=ey+1:=by omega
 have hz:d3.length+2+1=ey+2:=by omega
 have r2:d3.length+3+1=ey+3:=by omega
 rw[q1,show ey+1+1=ey+2 from rfl,r2,<-sX];have Tx:=pR.lt;simp at Tx wR;refine c0 L.l.length (fun q ah l'=>ah 6=.ptr (ey+2) 0 1/\ah 7=.ptr (ey+3) 0 1/\ah 17=a8 L/\ah 18=.int .i64 L.l.length/\ah 19=.int .i64 q/\∃ gW,nv g.ids.l g.ops.l (L.l.take q) (List.replicate g.ids.l.length false) gW/\mD g ey (ey+2) 0 (ey+3) (ey+1) iE gW l') ?_ ?_
 ·rintro q ah l' bp ⟨cj,dU,q5,q6,q7,gW,uJ,uG⟩;obtain⟨ah,rfl⟩:=kC cj dU q5 q6 q7;clear cj dU q5 q6 q7;unfold V0;by_cases jQ:q<L.l.length
  ·obtain⟨bV,fz,za⟩:=ck jQ;obtain⟨j,am⟩:=List.mem_iff_getElem?.1 (d2 bV za);have a1:IntKind.i64.wrap ((q:Int)+1)=((q+1:Nat) :Int) :=by rw[IntKind.wrap_i64]; omega
   have g5:cO (.ao 32) (a8 L) (.int .i64 (q:Int))=some (.cn (a2 bV) 0) :=by simp[a8,fz]
   have rF:=dm (f5 bV za);have uI:=uG.more [.cells 32 (a2 bV)];have tE:d4 (l'++[bg.cells 32 (a2 bV)]) (.ptr (ey+3) 0 1)=some ([.fn 125 [] [.ptr ey 0 1,.ptr (ey+2) 0 1,.ptr 0 0 2,.ptr (ey+3) 0 1]],0) :=by simp only[d4,uI.v]; simp
   have kO:=am2 g az V ey (ey+2) 0 (ey+3) (ey+1) iE (gW.count false) gW (l'++[bg.cells 32 (a2 bV)]) bV j;obtain⟨qU,HN⟩:∃ qU,qU=a2 bV:=⟨_,rfl⟩
   rw[<-HN] at g5 rF uI tE kO;have rB:bS (rep 32 (.int .u8 0)) 0 qU=qU:=hb (by rw[rF]; rfl);simp[jQ,g5,rF,rB,List.take_of_length_le,tE];refine⟨R0,kO _ (Nat.le_refl _) uI am ?_⟩;intro eS D7 b4 w2 ef pp t1;simp[jQ,a1];exact⟨D7,by rw[List.take_add_one,fz]; exact aa6 uJ b4,w2⟩
  ·have nY:q=L.l.length:=by omega
   rw[nY,List.take_length] at uJ;have kM:=akN uJ;have vA:d4 l' (.ptr (ey+2) 0 1)=some ([.ao 1 (ey+1) 0 g.ids.l.length g.ids.l.length g.ids.l.length],0) :=by simp only[d4,uG.s]; simp
   simp[jQ,vA];rw[<-kM];have fE:(gW.map jk).flatten=gW.map ae.bool:=by
    have:∀ t:List Bool,(t.map jk).flatten=t.map ae.bool:=fun t=>by induction t with | nil=>rfl | cons b t aK=>simp[jk,aK]
    exact this gW
   have hM:bX 1 l' (.ao 1 (ey+1) 0 g.ids.l.length g.ids.l.length (g.ids.l.length*1)) (ey+1) (gW.map jk) :=J6 (fun _ _=>rfl) uG.n (by rw[Nat.mul_one,fE]; exact uG.r);rw[Nat.mul_one] at hM;exact hM.q.vC (fun _=>rfl) (some gW) rfl rfl
 ·simp;refine⟨List.replicate g.ids.l.length false,aa5 _ _ _,?_⟩;subst sX;refine⟨by simp,by simp,by simp,by simp,pR.frame (by rw[<-List.cons_append]; exact List.getElem?_append_left (by simpa using Tx)),by simp,by simp,by omega⟩
noncomputable def hY (g:b2) (i:Nat) :List (List B) :=lC g.ids.l (k6 g (c7 g.ops.l i)) g.ids.l.length
set_option maxHeartbeats 2000000 in
theorem ab5 (g:b2) (az:fZ g) (V:nr g) (aQ:fQ g=0) (x:List B) (i:Nat) (aA:g.ids.l[i]? = some x) :bT Tryz.prog GS 56 [c6 g,.aS (a2 x)] (.bU [a8 (gq (hY g i)),.int .i64 0]) :=by
 refine ca Tryz.checked.mixed b3 ?_;apply bI Qo YV;unfold Gj L2;have dV:=List.mem_of_getElem? aA;have aj:=az.ids x dV;have eA:=f2 g.ids;have da:=lW g.ops;have ju:=aiU g az x aj;have oR:CT g x=i:=by unfold CT; rw[if_pos aQ,if_pos dV,Ri V.eU aA]
 have dv:CS g x=0:=by unfold CS; rw[if_pos aQ,if_pos dV]
 rw[oR,dv] at ju;have g4:=gZ x;have bE:=dm aj;have d1:=(List.getElem?_eq_some_iff.1 aA).1;obtain⟨o,ay,ek⟩:=ck (l:=g.ops.l) (k:=i) (by rw[<-V.len]; exact d1);have cQ:cO (.ao 11) (b8 g.ops) (.int .i64 (i:Int))=some (.cn (bl o) 0) :=by simp[b8,ay]
 have ls:(bl o)[1]? = some (a8 o.bx) :=rfl;have IK:=MC g az V o.bx (az.ops o ek).ids (az.ops o ek).len (V.J0 o ek);have wU:=ai5 g az (some (k6 g o.bx.l)) (by simp[MA]);have yI:hY g i=lC g.ids.l (k6 g o.bx.l) (k6 g o.bx.l).length:=by unfold hY; rw[vx ay,MA]
 have S5:(cS 1 jk (some (k6 g o.bx.l))).closed=true:=we (fun _=>rfl) _;have nK:=f2 o.bx;obtain⟨X,dY⟩:∃ X,X=a2 x:=⟨_,rfl⟩
 obtain⟨O,ej⟩:∃ O,O=bl o:=⟨_,rfl⟩
 obtain⟨M,lr⟩:∃ M,M=cS 1 jk (some (k6 g o.bx.l)) :=⟨_,rfl⟩
 rw[<-dY] at ju g4 bE ⊢;rw[<-ej] at cQ ls;rw[<-lr] at IK wU S5;rw[eh.JE,<-yI] at wU;unfold c6 dA at ju IK wU;simp[c6,dA,bE,List.take_of_length_le];refine bv ju (by simp[bP,ae.closed,eA,da,g4]) ?_;simp[cQ,ls];refine bv IK (by simp[bP,ae.closed,eA,da,nK]) ?_;simp;refine bv wU (by simp[bP,ae.closed,eA,da,S5]) ?_;simp;exact aZ rfl (by simp[ae.closed,bP,f2])
theorem aii {l:List (List B)} (am:iN l) {i:Nat} {x:List B} (aA:l[i]? = some x) :mi x l 0=(i:Int) :=by
 have:=Jo (n:=0) aA (fun t z aU aB k0=>by subst k0; have:=am t i z aB aA; omega) rfl;simpa using this
theorem akx (g:b2) (az:fZ g) (am:iN g.ids.l) {i:Nat} {x:List B} {o:bH} (aA:g.ids.l[i]? = some x) (ay:g.ops.l[i]? = some o) :bT Tryz.prog GS 35 [c6 g,.aS (a2 x)] (.aS (bl o)) :=by
 refine ca Tryz.checked.mixed b3 ?_;apply bI Qd YK;unfold F9 LR;have aj:=az.ids x (List.mem_of_getElem? aA);have eA:=f2 g.ids;have g4:=gZ x;have bE:=dm aj;have fx:=Zw g.ids az.ids az.li x aj;rw[aii am aA] at fx;have d1:=(List.getElem?_eq_some_iff.1 ay).1;have dw:c9 (.ao 11) (b8 g.ops)=some (.int .i64 g.ops.l.length) :=by simp[b8]
 have cQ:cO (.ao 11) (b8 g.ops) (.int .i64 (i:Int))=some (.cn (bl o) 0) :=by simp[b8,ay]
 have dh:(bl o).length=11:=rfl;have da:=kb o;have h1:¬ (i:Int)<0:=by omega
 have af:¬ (g.ops.l.length:Int)<=(i:Int) :=by omega
 obtain⟨X,dY⟩:∃ X,X=a2 x:=⟨_,rfl⟩
 obtain⟨O,ej⟩:∃ O,O=bl o:=⟨_,rfl⟩
 rw[<-dY] at fx g4 bE ⊢;rw[<-ej] at cQ dh da ⊢;have mb:bS [ae.int .u32 0,.a6,.int .u64 0,.int .u8 0,.str [],.int .u8 0,.int .i64 0,.int .u64 0,.str [],.int .u32 0,.int .u32 0] 0 O=O:=hb (by rw[dh]; rfl);simp[c6,dA,bE,List.take_of_length_le];refine bv fx (by simp[bP,ae.closed,eA,g4]) ?_;simp[h1,af,d1,dw,cQ,dh,mb,List.take_of_length_le];exact aZ rfl (by simp[ae.closed,da])
structure x0 (ids:List (List B)) (ops:List bH) (i:Nat) (x:List B) (out next:List (List B)) :Prop where
 jX:out.Nodup
 k5:∀ p∈out,∃ j,ids[j]? = some p/\hC ids ops (c7 ops i) j
 pe:∀ q∈next,q=x\/q∈out
 pF:∀ q,(q=x\/q∈out)->q∉next->∀ (j:Nat),ids[j]? = some q->∀ p∈c7 ops j,p∈out
theorem anr {ids:List (List B)} {ops:List bH} {i:Nat} {x:List B}:x0 ids ops i x [] [x] :=
 ⟨List.nodup_nil,fun p aF=>by simp at aF,fun q bp=>by simp at bp; exact .inl bp,fun q bp aI=>by
  rcases bp with rfl | bp
  ·exact absurd (by simp) aI
  ·cases bp⟩
theorem anp {ids:List (List B)} {ops:List bH} {i:Nat} {x:List B} {out:List (List B)} (aA:ids[i]? = some x) (h:x0 ids ops i x out []) (j:Nat) (p:List B) (am:ids[j]? = some p) (gk:iN ids) :p∈out<->hC ids ops (c7 ops i) j:=by
 constructor
 ·intro aF;obtain⟨cD,et,aC⟩:=h.k5 p aF;rw[gk j cD p am et];exact aC
 ·intro aC;have:∀ {t:Nat},hC ids ops (c7 ops i) t->∀ q,ids[t]? = some q->q∈out:=by
   intro t aU
   induction aU with
   | start p j aF am=>
    intro q bp;rw[am] at bp;obtain rfl:=Option.some.inj bp;exact h.pF x (.inl rfl) (by simp) i aA p aF
   | step i1 p j aC aF am aK=>
    intro q bp;rw[am] at bp;obtain rfl:=Option.some.inj bp;have d1:∃ y,ids[i1]? = some y:=by
     cases aC with
     | start bV _ fz et=>exact⟨bV,et⟩
     | step UB bV _ jv fz et=>exact⟨bV,et⟩
    obtain⟨y,aO⟩:=d1;exact h.pF y (.inr (aK y aO)) (by simp) i1 aO p aF
  exact this aC p am
structure sm (ids:List (List B)) (ops:List bH) (i:Nat) (x:List B) (q:List B) (j k:Nat) (out next:List (List B)) :Prop where
 jX:out.Nodup
 k5:∀ p∈out,∃ t,ids[t]? = some p/\hC ids ops (c7 ops i) t
 Kk:q=x\/q∈out
 pe:∀ r∈next,r=x\/r∈out
 pF:∀ r,(r=x\/r∈out)->r∉next->r≠q->∀ (t:Nat),ids[t]? = some r->∀ p∈c7 ops t,p∈out
 Kg:∀ p∈(c7 ops j).take k,p∈out
theorem anv {ids:List (List B)} {ops:List bH} {i:Nat} {x q:List B} {j:Nat} {out next:List (List B)} (h:x0 ids ops i x out (q::next)) :sm ids ops i x q j 0 out next:=
 ⟨h.jX,h.k5,h.pe q (by simp),fun r aC=>h.pe r (by simp[aC]),fun r aC aI b0=>h.pF r aC (by simp[aI,b0]),fun p aF=>by simp at aF⟩
theorem ant {ids:List (List B)} {ops:List bH} (gk:iN ids) {i:Nat} {x q:List B} {j:Nat} {out next:List (List B)} (bp:ids[j]? = some q) (h:sm ids ops i x q j (c7 ops j).length out next) :x0 ids ops i x out next:=by
 refine⟨h.jX,h.k5,h.pe,fun r aC aI t aU p aF=>?_⟩;by_cases Ui:r=q
 ·subst Ui;rw[gk t j r aU bp] at aF;exact h.Kg p (by rw[List.take_length]; exact aF)
 ·exact h.pF r aC aI Ui t aU p aF
theorem anu {ids:List (List B)} {ops:List bH} {i:Nat} {x q:List B} {j k:Nat} {out next:List (List B)} {p:List B} (h:sm ids ops i x q j k out next) (aF:(c7 ops j)[k]? = some p) (ay:p∈out) :sm ids ops i x q j (k+1) out next:=by
 refine⟨h.jX,h.k5,h.Kk,h.pe,h.pF,fun r aC=>?_⟩;rw[List.take_add_one,aF,List.mem_append] at aC;rcases aC with aC | aC
 ·exact h.Kg r aC
 ·simp at aC; subst aC; exact ay
theorem abe {ids:List (List B)} {ops:List bH} (gk:iN ids) {i:Nat} {x q:List B} {j k:Nat} {out next:List (List B)} {p:List B} {t:Nat} (h:sm ids ops i x q j k out next) (aA:ids[i]? = some x) (bp:ids[j]? = some q) (aF:(c7 ops j)[k]? = some p) (aU:ids[t]? = some p) (ay:p∉out) :
  sm ids ops i x q j (k+1) (out++[p]) (next++[p]) :=by
 have nX:=List.mem_of_getElem? aF;refine⟨?_,fun r aC=>?_,h.Kk.imp_right fun aR=>by simp[aR],fun r aC=>?_,fun r aC aI b0 u aL bV fz=>?_,fun r aC=>?_⟩
 ·rw[List.nodup_append];refine⟨h.jX,by simp,fun a aG b ai e=>?_⟩;rw[List.mem_singleton] at ai;subst e;rw[ai] at aG;exact ay aG
 ·rw[List.mem_append,List.mem_singleton] at aC;rcases aC with aC | rfl
  ·exact h.k5 r aC
  ·refine⟨t,aU,?_⟩;rcases h.Kk with aha | ag9
   ·subst aha;rw[gk j i q bp aA] at nX;exact .start r t nX aU
   ·obtain⟨cD,et,jv⟩:=h.k5 q ag9;rw[gk cD j q et bp] at jv;exact .step j r t jv nX aU
 ·rw[List.mem_append,List.mem_singleton] at aC;rcases aC with aC | rfl
  ·exact (h.pe r aC).imp_right fun aR=>by simp[aR]
  ·exact .inr (by simp)
 ·have ahd:r≠p:=fun e=>aI (by simp[e])
  have jv:r=x\/r∈out:=aC.imp_right fun aR=>by
   rw[List.mem_append,List.mem_singleton] at aR;exact aR.resolve_right ahd
  have:=h.pF r jv (fun aR=>aI (by simp[aR])) b0 u aL bV fz;simp[this]
 ·rw[List.take_add_one,aF,List.mem_append] at aC;rcases aC with aC | aC
  ·have:=h.Kg r aC; simp[this]
  ·simp at aC; simp[aC]
theorem M8:∀ {a b:List (List B)},a.Nodup->(∀ x∈a,x∈b)->a.length<=b.length
 | [],_,_,_=>Nat.zero_le _
 | x::a,b,aI,ar=>by
  rw[List.nodup_cons] at aI;have aj:=ar x (by simp);have aK:=M8 (b:=b.erase x) aI.2 (fun y aO=>(List.mem_erase_of_ne (fun e=>aI.1 (by rw[<-e]; exact aO))).2 (ar y (by simp[aO])));rw[List.length_erase_of_mem aj] at aK;have:=List.length_pos_of_mem aj;simp; omega
structure mz (pre:au) (v5 dj:ae) (out next:List (List B)) (b:Nat) (rest:au) :Prop where
 ex:∃ fI gl,dR 32 (pre++rest) v5 fI (out.map a2)/\dR 32 (pre++rest) dj gl (next.map a2)/\(v5=.a6\/(pre.length<=fI/\fI≠gl/\fI≠b))/\pre.length<=gl/\gl≠b/\cT v5=out.isEmpty/\cT dj=false
theorem mz.aj5 {pre:au} {v5 dj:ae} {out next:List (List B)} {b:Nat} {rest:au} (h:mz pre v5 dj out next b rest) (ai:b<(pre++rest).length) {p:List B} (aF:p.length=32) (ds:(out.length+1)*32<=cJ) :
  ∃ bf cw,ie (pre++(rest++[.cells 32 (a2 p)])) 32 32 v5 (.ao 32 (pre.length+rest.length) 0 1 1 32)=some (bf,pre++cw)/\mz pre bf dj (out++[p]) next b cw/\(pre++cw)[b]? = (pre++rest)[b]?/\b<(pre++cw).length:=by
 obtain⟨fI,gl,hR,m4,bc,bM,uB,jW,n6⟩:=h;have fU:=dm aF;have hm:pre++(rest++[bg.cells 32 (a2 p)])=(pre++rest)++[bg.cells 32 (a2 p)] :=by rw[List.append_assoc]
 have JV:dR 32 (pre++(rest++[bg.cells 32 (a2 p)])) v5 fI (out.map a2) :=by rw[hm]; exact hR.more _
 have JW:dR 32 (pre++(rest++[bg.cells 32 (a2 p)])) dj gl (next.map a2) :=by rw[hm]; exact m4.more _
 obtain⟨bf,cD,cw,aV,aY,bd,bD,br,cj⟩:=N1 (by_:=32) JV (bc.imp_right fun h=>h.1) (x:=.ao 32 (pre.length+rest.length) 0 1 1 32) (xs:=[a2 p]) (by
  have:(pre++(rest++[bg.cells 32 (a2 p)]))[pre.length+rest.length]? = some (.cells 32 (a2 p)) :=by
   rw[hm,List.getElem?_append_right (by simp)]; simp
  simp only[df,this];simp[fU,List.take_of_length_le]) (by simp[fU]) (by omega) (by omega) (by simpa using ds)
 have fW:cT bf=false:=by rw[bD]; simp
 have b0:bf≠.a6:=fun e=>by rw[e] at fW; cases fW
 have oR:(pre++(rest++[bg.cells 32 (a2 p)])).length=(pre++rest).length+1:=by simp; omega
 have aqq:gl<(pre++rest).length:=by
  rcases m4.lt with e | e
  ·rw[e] at n6; cases n6
  ·exact e
 have f6:v5=.a6\/gl≠fI:=bc.imp_right fun h=>Ne.symm h.2.1
 have aea:v5=.a6\/b≠fI:=bc.imp_right fun h=>Ne.symm h.2.2
 have Kj:=br gl (by omega) f6;have qt:=br b (by omega) aea;have ay:(pre++(rest++[bg.cells 32 (a2 p)]))[b]? = (pre++rest)[b]?:=by rw[hm,List.getElem?_append_left ai]
 refine⟨bf,cw,aV,⟨⟨cD,gl,by rw[List.map_append]; exact aY,JW.uw (.inr Kj),.inr ⟨bd.resolve_left b0,?_,?_⟩,bM,uB,by rw[fW]; simp,n6⟩⟩,qt.trans ay,?_⟩
 ·rcases cj.resolve_left b0 with ⟨a1,b7⟩ | e
  ·rw[b7]; exact (bc.resolve_left a1).2.1
  ·omega
 ·rcases cj.resolve_left b0 with ⟨a1,b7⟩ | e
  ·rw[b7]; exact (bc.resolve_left a1).2.2
  ·omega
 ·have:=qt.trans ay;have fb:(pre++rest)[b]?≠none:=by rw[List.getElem?_eq_getElem ai]; simp
  rw[<-this] at fb;exact Nat.lt_of_not_le fun h=>fb (List.getElem?_eq_none h)
theorem mz.aj6 {pre:au} {v5 dj:ae} {out next:List (List B)} {b:Nat} {rest:au} (h:mz pre v5 dj out next b rest) (ai:b<(pre++rest).length) {p:List B} (aF:p.length=32) (ds:(next.length+1)*32<=cJ) :
  ∃ bf cw,ie (pre++(rest++[.cells 32 (a2 p)])) 32 32 dj (.ao 32 (pre.length+rest.length) 0 1 1 32)=some (bf,pre++cw)/\mz pre v5 bf out (next++[p]) b cw/\(pre++cw)[b]? = (pre++rest)[b]?/\b<(pre++cw).length:=by
 obtain⟨fI,gl,hR,m4,bc,bM,uB,jW,n6⟩:=h;have fU:=dm aF;have hm:pre++(rest++[bg.cells 32 (a2 p)])=(pre++rest)++[bg.cells 32 (a2 p)] :=by rw[List.append_assoc]
 have JV:dR 32 (pre++(rest++[bg.cells 32 (a2 p)])) v5 fI (out.map a2) :=by rw[hm]; exact hR.more _
 have JW:dR 32 (pre++(rest++[bg.cells 32 (a2 p)])) dj gl (next.map a2) :=by rw[hm]; exact m4.more _
 obtain⟨bf,cD,cw,aV,aY,bd,bD,br,cj⟩:=N1 (by_:=32) JW (.inr bM) (x:=.ao 32 (pre.length+rest.length) 0 1 1 32) (xs:=[a2 p]) (by
  have:(pre++(rest++[bg.cells 32 (a2 p)]))[pre.length+rest.length]? = some (.cells 32 (a2 p)) :=by
   rw[hm,List.getElem?_append_right (by simp)]; simp
  simp only[df,this];simp[fU,List.take_of_length_le]) (by simp[fU]) (by omega) (by omega) (by simpa using ds)
 have fW:cT bf=false:=by rw[bD]; simp
 have b0:bf≠.a6:=fun e=>by rw[e] at fW; cases fW
 have oR:(pre++(rest++[bg.cells 32 (a2 p)])).length=(pre++rest).length+1:=by simp; omega
 have qt:=br b (by omega) (.inr (Ne.symm uB));have ay:(pre++(rest++[bg.cells 32 (a2 p)]))[b]? = (pre++rest)[b]?:=by rw[hm,List.getElem?_append_left ai]
 have Tw:cD=gl\/(pre++rest).length+1<=cD:=(cj.resolve_left b0).imp (fun h=>h.2) (fun h=>by omega);refine⟨bf,cw,aV,⟨⟨fI,cD,?_,by rw[List.map_append]; exact aY,?_,bd.resolve_left b0,?_,jW,fW⟩⟩,qt.trans ay,?_⟩
 ·rcases bc with e | ⟨a1,b7,dO⟩
  ·subst e;rw[hR.xp]; exact .nil _
  ·refine JV.uw ?_;rcases hR.lt with e | e
   ·exact .inl e
   ·exact .inr (br fI (by omega) (.inr b7))
 ·rcases bc with e | ⟨a1,b7,dO⟩
  ·exact .inl e
  ·rcases hR.lt with e | e
   ·exact .inl e
   ·refine .inr ⟨a1,?_,dO⟩;rcases Tw with h | h<;>omega
 ·rcases Tw with h | h<;>omega
 ·have:=qt.trans ay;have fb:(pre++rest)[b]?≠none:=by rw[List.getElem?_eq_getElem ai]; simp
  rw[<-this] at fb;exact Nat.lt_of_not_le fun h=>fb (List.getElem?_eq_none h)
theorem mz.ans {pre:au} {v5 dj:ae} {out next:List (List B)} {b:Nat} {rest:au} (h:mz pre v5 dj out next b rest) (aF:1<=pre.length) :mz pre v5 dj out next 0 rest:=by
 obtain⟨fI,gl,hR,m4,bc,bM,uB,jW,n6⟩:=h;exact⟨⟨fI,gl,hR,m4,bc.imp_right fun h=>⟨h.1,h.2.1,by omega⟩,bM,by omega,jW,n6⟩⟩
theorem abb {ids:List (List B)} {ops:List bH} {i:Nat} {x q:List B} {j k:Nat} {out next:List (List B)} (h:sm ids ops i x q j k out next) :out.length<=ids.length:=M8 h.jX fun p aF=>by
 obtain⟨t,aU,_⟩:=h.k5 p aF;exact List.mem_of_getElem? aU
structure abn (g:b2) (pre:au) (o:bH) (b m i:Nat) (x q:List B) (j:Nat) (k:Nat) (ah:bj) (l:au) :Prop where
 aY:ah 2=.ptr 0 0 2
 dU:ah 7=.ptr b 0 11
 ff:ah 8=.int .i64 k
 ex:∃ out next rest,l=pre++rest/\mz pre (ah 5) (ah 6) out next b rest/\(pre++rest)[b]? = some (.cells 11 (bl o))/\sm g.ids.l g.ops.l i x q j k out next/\2*(g.ids.l.length - out.length)+next.length+1<=m
structure abo (g:b2) (pre:au) (i:Nat) (x:List B) (m:Nat) (ah:bj) (l:au) :Prop where
 aY:ah 2=.ptr 0 0 2
 ex:∃ out next rest,l=pre++rest/\mz pre (ah 5) (ah 6) out next 0 rest/\x0 g.ids.l g.ops.l i x out next/\m=2*(g.ids.l.length - out.length)+next.length
 le:m<=1000
set_option maxHeartbeats 8000000 in
theorem abV (g:b2) (az:fZ g) (V:nr g) {i:Nat} {x:List B} (aA:g.ids.l[i]? = some x) :
  dB Tryz.prog GS 29 [c6 g,.aS (a2 x)] [] (c:=⟨fun r l=>∃ out,(∀ (j:Nat) (p:List B),g.ids.l[j]? = some p->(p∈out<->hC g.ids.l g.ops.l (c7 g.ops.l i) j))/\(∀ p∈out,p∈g.ids.l)/\out.length<=g.ids.l.length/\Rd l r (a8 (gq out))⟩) :=by
 apply bI P9 YG;unfold F5 LN;have aC:cJ=140737488355328:=rfl;have h5:=az.li;have gk:=th V.eU;have aj:=az.ids x (List.mem_of_getElem? aA);have bE:=dm aj;have eA:=f2 g.ids;have da:=lW g.ops;have TS:=V.n60;have bz:=V.len;obtain⟨pre,Cr⟩:∃ pre,pre=[bg.cells 2 [a8 g.ids,b8 g.ops],bg.cells 32 (a2 x)] :=⟨_,rfl⟩
 have p4:pre.length=2:=by rw[Cr]; rfl
 have kW:∀ rest,d4 (pre++rest) (.ptr 0 0 2)=some ([a8 g.ids,b8 g.ops],0) :=fun rest=>by rw[Cr]; simp
 have oE:mz pre .a6 (.ao 32 2 0 1 1 32) [] [x] 0 [.cells 32 (a2 x)] :=by
  refine⟨⟨0,2,.nil 0,?_,.inl rfl,by omega,by omega,rfl,rfl⟩⟩;refine bX.q (.ao 2 1 1 32 (a2 x) _ (by rw[Cr]; rfl) bE rfl (fun e aw=>by simp at aw; rw[aw]; exact bE) (Nat.le_refl _) (by omega) ?_);rw[List.take_of_length_le (by rw[bE]; omega)]; simp
 have ahp:bS (rep 32 (.int .u8 0)) 0 (a2 x)=a2 x:=hb (by rw[bE]; rfl);simp[c6,dA,bE,ahp,List.take_of_length_le];refine vm (abo g pre i x) ?_ (2*g.ids.l.length+1) _ _ ?_
 ·rintro m ah l ⟨aY,⟨out,next,rest,rfl,cA,eO,hm⟩,fG⟩;obtain⟨v5,br⟩:∃ v,ah 5=v:=⟨_,rfl⟩
  obtain⟨dj,cj⟩:∃ v,ah 6=v:=⟨_,rfl⟩
  rw[br,cj] at cA;obtain⟨ah,rfl⟩:=jG aY br cj;clear aY br cj;unfold VH;obtain⟨fI,gl,hR,m4,bc,bM,uB,jW,n6⟩:=id cA.ex;have TE:c9 (.ao 32) dj=some (.int .i64 next.length) :=by have:=m4.len; simpa using this
  cases next with
  | nil=>
   simp[TE];refine⟨out,fun j p am=>anp aA eO j p am gk,fun p aF=>?_,?_,?_⟩
   ·obtain⟨t,aU,_⟩:=eO.k5 p aF;exact List.mem_of_getElem? aU
   ·exact M8 eO.jX fun p aF=>by
     obtain⟨t,aU,_⟩:=eO.k5 p aF;exact List.mem_of_getElem? aU
   ·exact hR.vC (fun x=>gZ x) (gq out) (by rw[jW,xJ]) (iK _)
  | cons q pe=>
   have Uc:q∈g.ids.l:=by
    rcases eO.pe q (by simp) with e | e
    ·rw[e]; exact List.mem_of_getElem? aA
    ·obtain⟨t,aU,_⟩:=eO.k5 q e; exact List.mem_of_getElem? aU
   obtain⟨j,am⟩:=List.mem_iff_getElem?.1 Uc;have eQ:=(List.getElem?_eq_some_iff.1 am).1;obtain⟨o,ay,ek⟩:=ck (l:=g.ops.l) (k:=j) (by rw[<-V.len]; exact eQ);have ag5:=az.ids q Uc;have jQ:=dm ag5;have f9:=akx g az gk am ay;have dh:(bl o).length=11:=rfl;have ls:(bl o)[1]? = some (a8 o.bx) :=rfl;have ma:=az.ops o ek;have aqI:=ma.len;have mW:c9 (.ao 32) (a8 o.bx)=some (.int .i64 o.bx.l.length) :=by simp[a8]
   have oU:c7 g.ops.l j=o.bx.l:=vx ay;obtain⟨J7,Qs,xT,bn,bA,a3,a4⟩:=m4.get (k:=.i64) (i:=0) (e:=a2 q) (by simp);obtain⟨pn,ei,dN,gy⟩:=m4.from n6 (k:=.i64) (i:=1) (by simp);have uj:cO (.ao 32) dj (.int .i64 0)=some J7:=bn;have Eo:fN (.ao 32) dj (some (.int .i64 1)) none none=some pn:=ei;obtain⟨O,ej⟩:∃ O,O=bl o:=⟨_,rfl⟩
   obtain⟨Q,BK⟩:∃ Q,Q=a2 q:=⟨_,rfl⟩
   have S4:=gZ q;rw[<-ej] at f9 dh ls;rw[<-BK] at a4 f9 S4 jQ;unfold c6 dA at f9;obtain⟨b,ai⟩:∃ b,b=pre.length+rest.length:=⟨_,rfl⟩
   have fi:(pre++rest).length=b:=by rw[ai]; simp
   obtain⟨Z,pT⟩:∃ Z,Z=[ae.int .u32 0,.a6,.int .u64 0,.int .u8 0,.str [],.int .u8 0,.int .i64 0,.int .u64 0,.str [],.int .u32 0,.int .u32 0] :=⟨_,rfl⟩
   have oF:Z.length=11:=by rw[pT]; rfl
   have mb:bS Z 0 O=O:=hb (by rw[dh,oF]);have dZ:∀ y,(pre++(rest++[y]))[b]? = some y:=fun y=>by rw[ai,<-List.append_assoc,List.getElem?_append_right (by simp)]; simp
   have nJ:∀ y z:bg,(pre++(rest++[y])).set b z=pre++(rest++[z]) :=fun y z=>by rw[ai,<-List.append_assoc,List.set_append_right _ _ (by simp)]; simp
   have cm:iJ 11 (pre++(rest++[bg.cells 11 Z])) (.ptr b 0 11) (.aS O)=some (pre++(rest++[bg.cells 11 O])) :=by
    simp only[aao,dZ,Q4,Option.bind_some,al9];rw[if_pos (by simp[dh]),nJ,mb]
   simp[TE,kW,uj,bA,a3,a4,jQ,List.take_of_length_le,<-pT,<-ai,oF];refine bv f9 (by simp[bP,ae.closed,eA,da,S4]) ?_;have CC:=cm;simp only[aao,Q4,Option.bind_some] at CC;have aqp:gl<b:=by
    rcases m4.lt with e | e
    ·rw[e] at n6; cases n6
    ·rw[fi] at e; exact e
   have rf:mz pre v5 pn out pe b (rest++[bg.cells 11 O]) :=by
    refine⟨⟨fI,gl,?_,?_,?_,bM,by omega,jW,gy⟩⟩
    ·rw[<-List.append_assoc]; exact hR.more _
    ·rw[<-List.append_assoc];have:dR 32 (pre++rest) pn gl (pe.map a2) :=by simpa using dN
     exact this.more _
    ·rcases bc with e | ⟨a1,b7,dO⟩
     ·exact .inl e
     ·rcases hR.lt with e | e
      ·exact .inl e
      ·exact .inr ⟨a1,b7,by rw[fi] at e; omega⟩
   simp[fi,dZ,CC,Eo,oF,<-ai,nJ,mb,dh];refine c0 o.bx.l.length (abn g pre o b m i x q j) ?_ ⟨by simp,by simp,by simp,out,pe,_,rfl,by simpa using rf,by rw[<-ej]; exact dZ _,anv eO,by simp at hm; omega⟩;clear cA eO hm hR m4 bc bM uB jW n6 rf;rintro k ah l aE ⟨aY,dU,ff,out,next,rest,rfl,cA,pU,sU,ag2⟩;obtain⟨v5,br⟩:∃ v,ah 5=v:=⟨_,rfl⟩
   obtain⟨dj,cj⟩:∃ v,ah 6=v:=⟨_,rfl⟩
   rw[br,cj] at cA;obtain⟨ah,rfl⟩:=kC aY br cj dU ff;clear aY br cj dU ff;unfold VG;rw[<-ej] at pU;have ap9:=pU;by_cases cC:k<o.bx.l.length
   ·obtain⟨p,aF,nX⟩:=ck cC;have s9:=V.J0 o ek p nX;obtain⟨t,aU⟩:=List.mem_iff_getElem?.1 s9;have u2:=az.ids p s9;have fU:=dm u2;have a1:IntKind.i64.wrap ((k:Int)+1)=((k+1:Nat) :Int) :=by rw[IntKind.wrap_i64]; omega
    have g5:cO (.ao 32) (a8 o.bx) (.int .i64 (k:Int))=some (.cn (a2 p) 0) :=by simp[a8,aF]
    obtain⟨fI,gl,hR,m4,bc,bM,uB,jW,n6⟩:=id cA.ex;have kX:=hR.qx (enc:=a2) (xs:=out) (fun x=>gZ x) (gq out) (by rw[jW,xJ]) (iK _);have aqD:=abb sU;have dG:hS (gq out) :=fun y aO=>by
     rw[iK] at aO;obtain⟨u,aL,_⟩:=sU.k5 y aO;exact az.ids y (List.mem_of_getElem? aL)
    have d2:=Zz (gq out) dG (by rw[iK]; omega) p u2;rw[iK] at d2;have nK:=gZ p;have IC:(c7 g.ops.l j)[k]? = some p:=by rw[oU]; exact aF
    obtain⟨Y,gj⟩:∃ Y,Y=a2 p:=⟨_,rfl⟩
    rw[<-gj] at d2 g5 fU nK;have u7:bS (rep 32 (.int .u8 0)) 0 Y=Y:=hb (by rw[fU]; rfl);simp[mW,pU,ls,cC,g5,fU,List.take_of_length_le];refine ja d2 (.cons kX (.cons (.same _ (by simp[ae.closed,nK])) .nil)) rfl ?_;by_cases ma:p∈out
    ·simp[ma,a1];exact⟨cC,by simp,by simp,by simp,out,next,rest,rfl,by simpa using cA,by rw[<-ej]; exact pU,anu sU IC ma,ag2⟩
    ·have afp:b<(pre++rest).length:=(List.getElem?_eq_some_iff.1 pU).1;have aqE:out.length+1<=g.ids.l.length:=abb (abe gk sU aA am IC aU ma) |> fun h=>by simpa using h
     obtain⟨auk,Dp,j0,k8,Am,An⟩:=cA.aj5 afp u2 (by rw[aC]; omega);obtain⟨pn,zV,b4,w2,ef,pp⟩:=k8.aj6 An u2 (by rw[aC]; omega);have SU:(pre++Dp)[b]? = some (.cells 11 O) :=by rw[Am]; exact pU
     have afr:(pre++zV)[b]? = some (.cells 11 O) :=by rw[ef]; exact SU
     rw[<-gj] at j0 b4;simp[ma,pU,ls,g5,fU,u7,List.take_of_length_le,j0];refine du.cM ?_;simp[SU,ls,g5,fU,u7,List.take_of_length_le,b4];refine du.cM ?_;simp[a1];exact⟨cC,by simp,by simp,by simp,out++[p],next++[p],zV,rfl,by simpa using w2,by rw[<-ej]; exact afr,abe gk sU aA am IC aU ma,by simp; omega⟩
   ·simp[mW,pU,ls,cC];have ago:k=(c7 g.ops.l j).length:=by rw[oU]; omega
    rw[ago] at sU;exact⟨_,by omega,by simp,⟨out,next,rest,rfl,by simpa using cA.ans (by omega),ant gk am sU,rfl⟩,by omega⟩
 ·exact⟨by simp,⟨[],[x],[.cells 32 (a2 x)],by rw[Cr]; rfl,by simpa using oE,anr,by simp⟩,by omega⟩
structure bw where
 key:List UInt8
 id:List B
 deriving DecidableEq
def cW (t:bw) :List ae:=.str t.key::a2 t.id
abbrev j7:=eh bw
def gE (s:j7) :ae:=cS 33 cW s
def m7 (l:List bw) :Prop:=∀ t∈l,t.id.length=32
theorem oC {t:bw} (h:t.id.length=32) :(cW t).length=33:=by simp[cW,dm h]
theorem ul (t:bw) :bP (cW t)=true:=by simp[cW,bP,ae.closed,gZ]
theorem wd (s:j7) :(gE s).closed=true:=we ul s
abbrev lK (a b:List UInt8) :Bool:=Go.Op.bytesLess a b
theorem vG (a b:List UInt8) :lK a b=true<->a<b:=by unfold lK; rw[Go.Proofs.bytesLess_eq]; simp
@[simp] theorem aoC (a b:List UInt8) :oy .lss a b=some (.bool (lK a b)) :=id rfl
@[simp] theorem aoB (a b:List UInt8) :oy .gtr a b=some (.bool (!(lK a b||decide (a=b)))) :=by
 by_cases h:a=b<;>simp[oy,h]
def yi (a b:List UInt8) :Int:=if lK a b then -1 else if a=b then 0 else 1
theorem Wr (a:List UInt8) :bT Tryz.prog GS 112 [.str a] (.bool false) :=by
 refine ca Tryz.checked.mixed b3 ?_;apply bI OO Xm;unfold EM Kx;simp;exact aZ rfl rfl
theorem adh (a b:List UInt8) :bT Tryz.prog GS 75 [.str a,.str b] (.int .i64 (yi a b)) :=by
 refine ca Tryz.checked.mixed b3 ?_;apply bI QF Zb;unfold GC Mi yi;simp;refine bv (Wr a) rfl ?_;simp;refine bv (Wr b) rfl ?_;cases h1:lK a b with
 | true=>
  simp[h1];exact aZ rfl rfl
 | false=>
  by_cases af:a=b
  ·subst af;simp[h1];exact aZ rfl rfl
  ·simp[h1,af];exact aZ rfl rfl
def Db (a b:Int) :Int:=if a=0 then b else a
theorem akR {l:au} {b:Nat} {x y:Int} (h:l[b]? = some (.cells 2 [.int .i64 x,.int .i64 y])) :fa (bW l) (.ao 1 b 0 2 2 2) (.b6 1 [[.int .i64 x],[.int .i64 y]]) :=by
 refine zX (rest:=[]) (es:=[[.int .i64 x],[.int .i64 y]]) (by simpa using h) rfl (by simp) (by simp[bP,ae.closed])
theorem ajB (x y:Int) :bT Tryz.prog GS 74 [.b6 1 [[.int .i64 x],[.int .i64 y]]] (.int .i64 (Db x y)) :=by
 refine ca Tryz.checked.mixed b3 ?_;apply bI QE Za;unfold Gz Mh Db;simp;obtain⟨X,dY⟩:∃ X,X=ae.b6 1 [[.int .i64 x],[.int .i64 y]] :=⟨_,rfl⟩
 rw[<-dY];refine c0 2 (fun k ah l=>ah 3=.int .i64 0/\ah 6=X/\ah 7=.int .i64 2/\ah 8=.int .i64 k/\(1<=k->x=0)/\(2<=k->y=0)) ?_ (by simp[dY]);rintro k ah l aE ⟨bd,cj,dU,ff,h1,af⟩;obtain⟨ah,rfl⟩:=j2 bd cj dU ff;clear bd cj dU ff;unfold VS;rcases k with _ | _ | k
 ·by_cases aj:x=0
  ·simp[dY,aj]; exact rfl
  ·simp[dY,aj]; exact aZ rfl rfl
 ·have aj:=h1 (by omega);by_cases aO:y=0
  ·simp[dY,aj,aO]; exact rfl
  ·simp[dY,aj,aO]; exact aZ rfl rfl
 ·obtain rfl:k=0:=by omega
  have aj:=h1 (by omega);have aO:=af (by omega);simp[dY,aj,aO]; exact aZ rfl rfl
def kI (a b:bw) :Int:=Db (yi a.key b.key) (cK a.id b.id)
def ec (a b:bw) :Bool:=if a.key=b.key then decide (cK a.id b.id<0) else lK a.key b.key
theorem WL {l:au} {j:Nat} {c:ae} {a:List B} (aG:a.length=32) (am:l[j]? = some (.cells 33 (c::a2 a))) :dR 1 l (.ao 1 j 1 32 32 33) j (a.map b9) :=by
 refine .ao j 1 32 32 33 (c::a2 a) _ am (by simp[a2,aG]) (by simp[aG]) (fun e aw=>?_) (Nat.le_refl _) (by omega) ?_
 ·obtain⟨x,_,rfl⟩:=List.mem_map.1 aw; rfl
 ·simp only[List.drop_succ_cons,List.drop_zero];rw[List.take_of_length_le (by simp[a2,aG]),wq]; rfl
theorem adi (a b:bw) (aG:a.id.length=32) (ai:b.id.length=32) :bT Tryz.prog GS 41 [.aS (cW a),.aS (cW b)] (.int .i64 (kI a b)) :=by
 refine ca Tryz.checked.mixed b3 ?_;apply bI Qf YM;unfold Gb LU kI;have h1:=dm aG;have af:=dm ai;simp[cW,h1,af];refine bv (adh _ _) rfl ?_;have ak:=Oe (some a.id) (some b.id) (by simp[aG,ai]);simp;refine ja ak ?_ rfl ?_
 ·exact .cons ((WL (j:=0) (c:=.str a.key) aG rfl).qx (fun _=>rfl) (some a.id) rfl rfl) (.cons ((WL (j:=1) (c:=.str b.key) ai rfl).qx (fun _=>rfl) (some b.id) rfl rfl) .nil)
 ·simp;refine ja (ajB (yi a.key b.key) (cK a.id b.id)) (.cons (akR (by simp)) .nil) rfl ?_;simp;exact aZ rfl rfl
theorem aiP (a b:bw) (aG:a.id.length=32) (ai:b.id.length=32) :bT Tryz.prog GS 52 [.aS (cW a),.aS (cW b)] (.bool (ec a b)) :=by
 refine ca Tryz.checked.mixed b3 ?_;apply bI Qk YR;unfold Gf LY ec;have h1:=dm aG;have af:=dm ai;have ak:=ZI a.id b.id aG ai;by_cases aE:a.key=b.key
 ·simp[cW,h1,af,aE,List.take_of_length_le];refine bv ak (by have:=gZ a.id; have:=gZ b.id; simp_all [bP,ae.closed,fj,a2]) ?_;simp;exact aZ (by rw[if_pos aE]) rfl
 ·simp[cW,h1,af,aE];exact aZ rfl rfl
def Ha (k:List UInt8) :List ae:=[.str k]
def afi (l:List bw) (k:List UInt8) :Bool:=decide (k∈l.map bw.key)
theorem Rg (a b:bw) :(kI a b<0)<->ec a b=true:=by
 unfold kI yi Db ec;by_cases h:a.key=b.key
 ·have aA:lK b.key b.key=false:=by
   cases ai:lK b.key b.key with
   | false=>rfl
   | true=>exact absurd ((vG _ _).1 ai) (List.lt_irrefl _)
  simp[h,aA]
 ·cases ai:lK a.key b.key with
  | true=>simp[h]
  | false=>simp[h]
def pm (l:List bw) (k:Nat) :bw:=l.getD k ⟨[],[]⟩
theorem sb {l:List bw} {k:Nat} {x:bw} (h:l[k]? = some x) :pm l k=x:=by
 unfold pm; rw[List.getD_eq_getElem?_getD,h]; rfl
def yA (l:List bw) (k:Nat) :Bool:=g9 (pm l k).key&&(decide (k=0)||ec (pm l (k - 1)) (pm l k))
def pO (l:List bw) :Bool:=decide (∀ k,k<l.length->yA l k=true)
def aml (l:List bw) :Int:=if 60<l.length then 4 else if pO l then 0 else 8
theorem aeF {l:List bw} (h:∀ k,k<l.length->yA l k=true) :pO l=true:=decide_eq_true h
theorem aaj {E:List ae} (h:E.length=33) :bS (ae.str [] ::rep 32 (.int .u8 0)) 0 E=E:=hb (by rw[h]; rfl)
abbrev vi (l:List (List UInt8)) (k:Nat) :List UInt8:=l.getD k []
def adv (l:List (List UInt8)) (m:Nat) :List (List UInt8) :=(List.range m).flatMap fun k=>if k=0\/vi l k≠vi l (k - 1) then [vi l k] else []
structure anO (l:au) (v:ae) (xs:List (List UInt8)) (k:Nat) (ah:bj) (l1:au) :Prop where
 cP:ah 0=v
 bd:ah 3=.int .i64 ((k+1:Nat) :Int)
 aq:l1=l
 ar:∀ j,1<=j->j<k+1->vi xs j≠vi xs (j - 1)
structure anN (l:au) (v dx:ae) (j:Nat) (xs:List (List UInt8)) (m i:Nat) (ah:bj) (cg:au) :Prop where
 cP:ah 0=v
 bD:ah 4=dx
 br:ah 5=.int .i64 ((i+1:Nat) :Int)
 ex:∃ (k:Nat) (bm:List (List UInt8)),ah 3=.int .i64 (k:Int)/\bX 1 cg v j (bm.map Ha)/\bm.length=xs.length/\(∀ y∈bm,y.length=y.length)/\bm.take k=adv xs (m+i+1)/\k<=m+i/\(∀ t,m+i<=t->vi bm t=vi xs t)/\cg.length=l.length/\∀ b,b≠j->cg[b]? = l[b]?
theorem akV {l:au} {a b eo bo:ae} (h1:Rd l a eo) (af:Rd l b bo) :Rd l (.bU [a,b]) (.bU [eo,bo]) :=by
 refine .bU _ _ rfl fun j x DY aj rE=>?_
 rcases j with _ | _ | j
 ·simp at aj rE; subst aj rE; exact h1
 ·simp at aj rE; subst aj rE; exact af
 ·simp at aj
theorem akU {l:au} {a eo:ae} (h1:Rd l a eo) :Rd l (.aS [a]) (.aS [eo]) :=by
 refine .aS _ _ rfl fun j x DY aj rE=>?_
 rcases j with _ | j
 ·simp at aj rE; subst aj rE; exact h1
 ·simp at aj
structure anT (s:j7) (k:Nat) (ah:bj) (l:au) :Prop where
 apJ:ah 14=gE s
 Bs:ah 15=.int .i64 s.l.length
 ux:ah 16=.int .i64 k
 rX:∃ v,ah 5=v/\cq 1 Ha [.cells 1 [gE s]] l v ((s.l.map bw.key).take k) (decide (k=0))
def aks (l:List bw) (m:Nat) :List (List UInt8) :=(List.range m).flatMap fun k=>if afi (l.take k) (pm l k).key then [] else [(pm l k).key]
structure anU (s:j7) (k:Nat) (ah:bj) (l:au) :Prop where
 aV:ah 1=.ptr 0 0 1
 br:ah 5=.int .i64 k
 rX:∃ v,ah 4=v/\cq 1 Ha [.cells 1 [gE s]] l v (aks s.l k) (decide (k=0))
def CN:List kE:=.s::List.replicate 32 (.i .u8)
theorem US:o4 Tryz.prog 20 77=some CN:=by kernel_rfl
theorem C8 {t:bw} (h:t.id.length=32) :hg CN (cW t)=true:=by
 unfold CN cW;have:=xu t.id;rw[h] at this;simp only[hg,DM,Bool.true_and];exact this
theorem On {a b:bw} (aG:a.id.length=32) (ai:b.id.length=32) :eD (cW a) (cW b)=decide (a=b) :=by
 unfold cW a2;simp only[eD,ae.beq];rw[AP a.id b.id (by omega)];cases a; cases b;simp only[bw.mk.injEq];rename_i cd dP ce en;by_cases h1:cd=ce<;>by_cases af:dP=en<;>simp[h1,af]
theorem amk {a b:bw} (aG:a.id.length=32) (ai:b.id.length=32) :fD Tryz.prog .neq 77 (.aS (cW a)) (.aS (cW b))=some (.bool (!decide (a=b))) :=by
 rw[Ev US (by kernel_rfl) (by kernel_rfl) (C8 aG) (C8 ai),On aG ai]
theorem alw (a b:j7) (aG:m7 a.l) (ai:m7 b.l) (aq:a.l.length<=1000000) :bT Tryz.prog GS 20 [.aS [gE a],.aS [gE b]] (.bool (decide (a.l=b.l))) :=by
 refine ca Tryz.checked.mixed b3 ?_;apply bI P2 Yz;unfold FU LC;have oQ:c9 (.ao 33) (gE a)=some (.int .i64 a.l.length) :=by simp[gE]
 have nO:c9 (.ao 33) (gE b)=some (.int .i64 b.l.length) :=by simp[gE]
 by_cases h1:a.l.length=b.l.length
 ·have d8:((a.l.length:Int)=b.l.length) :=by omega
  simp[oQ,nO,h1];refine c0 a.l.length (fun k ah l=>l=[.cells 1 [gE a],.cells 1 [gE b]]/\ah 2=.ptr 0 0 1/\ah 3=.ptr 1 0 1/\ah 5=.int .i64 k/\∀ j,j<k->a.l[j]? = b.l[j]?) ?_ (by simp);rintro k ah l aE ⟨rfl,aY,bd,br,ar⟩;obtain⟨s,rfl⟩:=jG aY bd br;clear aY bd br;unfold Vv;simp[oQ];refine rM (fun h=>?_) (fun h=>?_)
  ·simp only[decide_eq_true_eq] at h;obtain⟨x,aj,dV⟩:=ck h;obtain⟨y,aO,el⟩:=ck (l:=b.l) (k:=k) (by omega);have a1:IntKind.i64.wrap ((k:Int)+1)=((k+1:Nat) :Int) :=by rw[IntKind.wrap_i64]; omega
   have cQ:cO (.ao 33) (gE a) (.int .i64 (k:Int))=some (.cn (cW x) 0) :=by simp[gE,aj]
   have oN:cO (.ao 33) (gE b) (.int .i64 (k:Int))=some (.cn (cW y) 0) :=by simp[gE,aO]
   have bE:=oC (aG x dV);have fc:=oC (ai y el);have b0:=amk (aG x dV) (ai y el);obtain⟨X,dY⟩:∃ X,X=cW x:=⟨_,rfl⟩
   obtain⟨Y,gj⟩:∃ Y,Y=cW y:=⟨_,rfl⟩
   rw[<-dY] at cQ bE b0;rw[<-gj] at oN fc b0;simp[cQ,oN,bE,fc,List.take_of_length_le,b0];by_cases aw:x=y
   ·simp[aw,a1];refine⟨by omega,fun j am=>?_⟩;by_cases hu:j=k
    ·subst hu; rw[aj,aO,aw]
    ·exact ar j (by omega)
   ·simp[aw];refine aZ (congrArg ae.bool (decide_eq_false fun f7=>aw ?_).symm) rfl;rw[f7,aO] at aj; exact (Option.some.inj aj).symm
  ·simp[h];have s3:k=a.l.length:=by simp at h; omega
   refine aZ (congrArg ae.bool (decide_eq_true ?_).symm) rfl;apply List.ext_getElem?;intro j;by_cases am:j<a.l.length
   ·exact ar j (by omega)
   ·rw[List.getElem?_eq_none (by omega),List.getElem?_eq_none (by omega)]
 ·have d8:¬ ((a.l.length:Int)=b.l.length) :=by omega
  simp[oQ,nO,h1,d8];exact aZ (by rw[decide_eq_false (fun f7=>h1 (by rw[f7]))]) rfl
end Op
end Go.cl

namespace Go.cl
open Go Go.Proofs Go.Shelf Go.RowKit Go.Lib
set_option maxRecDepth 100000
set_option maxHeartbeats 4000000
theorem ah4 (base:Option Addr) (n c eL gw iL:Nat) (r:Value) (w w' : World) (aI:n<=c) (pP:n<=4611686018427387904) (hL:base=none->n=0/\c=0)
  (g8:(Builtin.append_ #[22,22] 22 #[.slice base n c,.slice (some ⟨gw,iL,none⟩) 1 eL]).run Tryz.prog w=.ok r w') :
  Calls Tryz.prog 42 #[.slice base n c,.int .i64 n,.slice (some ⟨gw,iL,none⟩) 1 eL] w fun e w2=>e=.returned r/\w2=w':=by
 have Nn:=Tryz.underlying22;have mixed:=Tryz.checked.mixed
 go_enter Tryz.func42,Tryz.ntmps42
 cases base with
 | none=>
  obtain⟨aQ,h1⟩:=hL rfl;subst aQ h1
  go_wp2_with (at_builtin; refine Lib.wpList_append_run _ rfl _ _ _ _ rfl _ _ rfl rfl _ _ g8 ?_)
  go_ret
  exact⟨rfl,rfl⟩
 | some a=>
  obtain⟨ab,an2,an4⟩:=a
  go_wp2_with (at_builtin; refine Lib.wpList_append_run _ rfl _ _ _ _ rfl _ _ rfl rfl _ _ g8 ?_)
  all_goals (go_ret; exact⟨rfl,rfl⟩)
theorem ah7 (b off n c i gw iL eL:Nat) (cd ce:Value) (w j8 hX:World) (DI eW:TypeId) (tl xk:Nat) (aA:i<n) (ds:n+1<=c) (pP:n<=4611686018427387904) (m1:gw≠b)
  (ahj:w.shape? gw=some (DI,tl)) (IR:w.shape? b=some (eW,xk)) (agm:xk≠0) (H4:w.frozen? ⟨gw,iL,none⟩=false) (yQ:w.frozen? ⟨gw,tl,none⟩=false)
  (sY:(Builtin.copy_ #[22,22] 3 #[.slice (some ⟨b,off+(i+1)*33,none⟩) (n - i) (c - (i+1)),.slice (some ⟨b,off+i*33,none⟩) (n+1 - i) (c - i)]).run Tryz.prog w.drew=.ok cd j8)
  (sZ:(Builtin.copy_ #[22,22] 3 #[.slice (some ⟨b,off+i*33,none⟩) (n+1 - i) (c - i),.slice (some ⟨gw,iL,none⟩) 1 eL]).run Tryz.prog j8=.ok ce hX) :
  Calls Tryz.prog 42 #[.slice (some ⟨b,off,none⟩) n c,.int .i64 i,.slice (some ⟨gw,iL,none⟩) 1 eL] w fun e w2=>e=.returned (.slice (some ⟨b,off,none⟩) (n+1) c)/\w2=hX:=by
 have Nn:=Tryz.underlying22;have z0:∀ w,(Go.sizeOf 77).run Tryz.prog w=.ok 33 w:=fun w=>e4 (by kernel_rfl)
 have mixed:=Tryz.checked.mixed;have Ix:∀ JF sy,(callFunc 77 #[.slice (some ⟨gw,iL,none⟩) 1 eL,.slice (some ⟨b,off+(i+1)*33,none⟩) JF sy]).run Tryz.prog w=.ok (.value (.bool false)) w:=fun JF sy=>by
  rw[run_callFunc_extern Tryz.func77 (by kernel_rfl) (by kernel_rfl) (by kernel_rfl) (e:=Extern.SlicesOverlaps.overlaps #[22,22] #[4]) (by kernel_rfl),
   Lib.run_overlaps_apart w 22 4 77 Nn 33 z0 ⟨gw,iL,none⟩ ⟨b,off+(i+1)*33,none⟩ 1 eL JF sy m1 DI eW tl xk ahj IR agm H4 yQ]
  rfl
 have kr:¬ ((i:Int)=(n:Int)) :=by omega
 have iZ:IntKind.i64.wrap ((i:Int)+1)=(i:Int)+1:=by rw[IntKind.wrap_i64]; omega
 have lB:IntKind.i64.wrap ((n:Int)+1)=(n:Int)+1:=by rw[IntKind.wrap_i64]; omega
 have gG:(0:Int)<=(i:Int)+1:=by omega
 have d2:i<=n:=by omega
 have Un:((i:Int)+1).toNat=i+1:=by omega
 have e6:¬ (c=i+1) :=by omega
 have ri:(i:Int)<=(n:Int)+1:=by omega
 have ap3:¬ (c=i) :=by omega
 have ap5:¬ ((c:Int)<(n:Int)+1) :=by omega
 go_enter Tryz.func42,Tryz.ntmps42
 go_wp2_with (simp only[Ix])
 go_region_law_o (refine step_copy_runI rfl _ _ 22 22 rfl _ _ (by simp[Act.eval,Act.put]) (by simp[Act.eval,Act.put]) sY ?_)
 go_wp2_with (at_builtin; refine wpList_copy_runI _ rfl _ _ 22 22 rfl _ _ rfl rfl sZ ?_)
 go_ret
 exact⟨rfl,rfl⟩
theorem ah5 (b off n c i gw iL eL N G:Nat) (cd ce:Value) (w xZ j8 hX:World) (aA:i<n) (It:n<=c) (ds:c<n+1) (jn:n+1<=G) (pP:n<=4611686018427387904)
  (kN:(Builtin.append_ #[22,3] 22 #[.slice (some ⟨b,off,none⟩) i c,.int .i64 ((n:Int)+1 - (i:Int))]).run Tryz.prog w=.ok (.slice (some ⟨N,0,none⟩) (n+1) G) xZ)
  (sY:(Builtin.copy_ #[22,22] 3 #[.slice (some ⟨N,i*33,none⟩) (n+1 - i) (G - i),.slice (some ⟨gw,iL,none⟩) 1 eL]).run Tryz.prog xZ=.ok cd j8)
  (sZ:(Builtin.copy_ #[22,22] 3 #[.slice (some ⟨N,(i+1)*33,none⟩) (n - i) (G - (i+1)),.slice (some ⟨b,off+i*33,none⟩) (n - i) (c - i)]).run Tryz.prog j8.drew=.ok ce hX) :
  Calls Tryz.prog 42 #[.slice (some ⟨b,off,none⟩) n c,.int .i64 i,.slice (some ⟨gw,iL,none⟩) 1 eL] w fun e w2=>e=.returned (.slice (some ⟨N,0,none⟩) (n+1) G)/\w2=hX:=by
 have Nn:=Tryz.underlying22;have z0:∀ w,(Go.sizeOf 77).run Tryz.prog w=.ok 33 w:=fun w=>e4 (by kernel_rfl)
 have mixed:=Tryz.checked.mixed;have kr:¬ ((i:Int)=(n:Int)) :=by omega
 have iZ:IntKind.i64.wrap ((i:Int)+1)=(i:Int)+1:=by rw[IntKind.wrap_i64]; omega
 have lB:IntKind.i64.wrap ((n:Int)+1)=(n:Int)+1:=by rw[IntKind.wrap_i64]; omega
 have aqM:IntKind.i64.wrap ((n:Int)+1 - (i:Int))=(n:Int)+1 - (i:Int) :=by rw[IntKind.wrap_i64]; omega
 have gG:(0:Int)<=(i:Int)+1:=by omega
 have d2:i<=n:=by omega
 have Un:((i:Int)+1).toNat=i+1:=by omega
 have apS:¬ (G=i) :=by omega
 have apT:¬ (G=i+1) :=by omega
 have eA:¬ (c=i) :=by omega
 have Uz:(c:Int)<(n:Int)+1:=by omega
 have ri:(i:Int)<=(n:Int) :=by omega
 have ap6:(i:Int)<=(c:Int) :=by omega
 go_enter Tryz.func42,Tryz.ntmps42
 go_wp2_with (first
  | (at_builtin; refine Lib.wpList_append_run _ rfl _ _ _ _ rfl _ _ rfl rfl _ _ kN ?_)
  | (at_builtin; refine wpList_copy_runI _ rfl _ _ 22 22 rfl _ _ rfl rfl sY ?_))
 go_region_law_o (refine step_copy_runI rfl _ _ 22 22 rfl _ _ (by simp[Act.eval,Act.put]) (by simp[Act.eval,Act.put]) sZ ?_)
 go_wp2
 go_ret
 exact⟨rfl,rfl⟩
theorem ahZ:AA Tryz.prog 42 22 3 77 33:=
 ⟨Tryz.underlying22,Tryz.underlying3,ah4,ah7,ah5⟩
theorem ahW {G:Nat->ae} (args:List ae) (h:aM) (r:ae) (h' : aM) (aj:rI 33 48 args h=some (r,h')) :qJ Tryz.prog G 42 args h r h':=
 ahX ahZ (by kernel_rfl) (by kernel_rfl) (by kernel_rfl) (by omega) (by omega) (by kernel_rfl) args h r h' aj
def Jl (f:FuncId) :Option (Nat × Nat) :=match Nat.beq f 42 with | true=>some (33,48) | false=>none
theorem ahV (f:FuncId) (z by_:Nat) (h:Jl f=some (z,by_)) (args:List ae) (aF:aM) (r:ae) (fz:aM) (aj:rI z by_ args aF=some (r,fz)) :qJ Tryz.prog GS f args aF r fz:=by
 unfold Jl at h;split at h
 ·rename_i ai;have aJ:=Nat.eq_of_beq_eq_true ai;subst aJ;cases h;exact ahW args aF r fz aj
 cases h
instance aqU:qN Tryz.prog GS:=⟨Jl,ahV⟩
end Go.cl

namespace Go.cl
open Go Go.Proofs
set_option maxRecDepth 100000
namespace Op
open gX
def pG (l:List bw) (x:bw) :Nat:=(l.takeWhile fun t=>ec t x).length
theorem Rj (x:bw) :∀ {l:List bw} {p:Nat},p<=l.length->(∀ (t:Nat) (y:bw),t<p->l[t]? = some y->ec y x=true)->(∀ y,l[p]? = some y->ec y x=false)->pG l x=p
 | [],p,aF,_,_=>by simp at aF; subst aF; rfl
 | y::l,0,_,_,af=>by
  have:=af y (by simp);unfold pG;rw[List.takeWhile_cons,this]; rfl
 | y::l,p+1,aF,h1,af=>by
  have aO:=h1 0 y (by omega) (by simp);have aK:=Rj x (l:=l) (p:=p) (by simpa using aF) (fun t z aU aB=>h1 (t+1) z (by omega) (by simpa using aB)) (fun z aB=>af z (by simpa using aB));unfold pG at aK ⊢;rw[List.takeWhile_cons,aO];simpa using aK
def ai8 (l:List bw) (x:bw) :Prop:=∀ (i j:Nat) (a b:bw),i<=j->l[i]? = some a->l[j]? = some b->ec b x=true->ec a x=true
structure anM (s:j7) (X:List ae) (x:bw) (m:Nat) (ah:bj) (l:au) :Prop where
 ex:∃ (i j:Nat),j - i=m/\i<=j/\j<=s.l.length/\l=[.cells 33 X]/\ah 0=gE s/\ah 2=.fn 41 [] []/\ah 4=.ptr 0 0 33/\ah 8=.int .i64 s.l.length/\ah 9=.int .i64 i/\ah 10=.int .i64 j ∧
  (∀ (t:Nat) (y:bw),t<i->s.l[t]? = some y->ec y x=true)/\(∀ (t:Nat) (y:bw),j<=t->s.l[t]? = some y->ec y x=false)
end Op
end Go.cl

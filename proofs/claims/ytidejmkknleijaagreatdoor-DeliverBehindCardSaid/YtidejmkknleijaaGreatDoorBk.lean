/-
  Graphs: their shape, walked.
-/
import Derived.Test.YtidejmkknleijaaGreatDoorBj
set_option linter.unusedVariables false
set_option linter.unusedSimpArgs false
set_option linter.unnecessarySimpa false
namespace Go.b0
open Go Go.Proofs
set_option maxRecDepth 100000
namespace Op
open hl
def ko (n:Int) :U:=.int .i64 n
theorem Yq {l:List U} {i:Nat} {x:U} (h:i<l.length) :a8 l i [x]=l.set i x:=by
 have:=pD (fun c:U=>c) l i x h;simpa using this
def cN (g:bp) (wl:List Int) (vs:List U) (rest:ao) :ao:=.cells 2 [aB g.ids,bx g.ops] ::.cells g.ops.l.length (wl.map ko) ::.cells g.ops.l.length vs::rest
theorem vb {l:ao} {a b c:aV} (aI:l[0]? = some a) (ad:l[1]? = some b) (ae:l[2]? = some c) :∃ r,l=a::b::c::r:=by
 match l,aI,ad,ae with
 | dj::bg::c'::r,aI,ad,ae=>
  simp at aI ad ae;subst aI ad ae;exact⟨r,rfl⟩
theorem AK {g:bp} {w w' : List Int} {vs I6:List U} {r:ao}:∀ {b:Nat},3<=b->(cN g w vs r)[b]? = (cN g w' I6 r)[b]?
 | 0,h=>by omega
 | 1,h=>by omega
 | 2,h=>by omega
 | b+3,_=>rfl
theorem LJ {g:bp} {w:List Int} {vs:List U} {r x:ao} {b:Nat} (h:b<(cN g w vs r).length) :(cN g w vs (r++x))[b]? = (cN g w vs r)[b]?:=by
 show ((cN g w vs r)++x)[b]? = _;exact aum h
structure aah (g:bp) (m q:Nat) (fg:U) (l:ao) :Prop where
 ex:∃ (vs:List U) (cr:List (List Nat)) (bm:Nat->Nat) (hG:Nat) (rest:ao),l=cN g (e9 g.ops.l m) vs rest/\lE l vs cr bm/\vl g.ids.l g.ops.l m q cr/\bK 1 l fg hG ((jt g.ops.l m).map h3) ∧
  cF fg=(jt g.ops.l m).isEmpty/\(jt g.ops.l m=[]\/(3<=hG/\oW cr bm hG))
structure aag (g:bp) (m q:Nat) (fg:U) (b:Nat) (O:List U) (l:ao) :Prop where
 ex:∃ (vs:List U) (cr:List (List Nat)) (bm:Nat->Nat) (hG:Nat) (rest:ao),l=cN g (e9 g.ops.l m) vs rest/\lE l vs cr bm/\vl g.ids.l g.ops.l m q cr/\bK 1 l fg hG ((jt g.ops.l m).map h3) ∧
  cF fg=(jt g.ops.l m).isEmpty/\(jt g.ops.l m=[]\/(3<=hG/\oW cr bm hG))/\l[b]? = some (.cells 11 O)/\3<=b/\oW cr bm b
theorem Bk {cr:List (List Nat)} {l:ao} {vs:List U} {bm:Nat->Nat} {c:Nat} (fe:lE l vs cr bm) (ah:c<3) :oW cr bm c:=fun a row az bP=>by
 have aC:a<vs.length:=by rw[fe.qO]; exact (auk.1 az).1
 have:=(fe.own a vs[a] row (auo aC) az).2.2.resolve_left bP;omega
theorem EJ {cr:List (List Nat)} {l:ao} {vs:List U} {bm:Nat->Nat} {c:Nat} (fe:lE l vs cr bm) (ah:l.length<=c) :oW cr bm c:=fun a row az bP=>by
 have:=fe.lt az bP;omega
structure sl (g:bp) (vs:List U) (cr:List (List Nat)) (bm:Nat->Nat) (W:List Int) (R:List Nat) (fg:U) (rest:ao) :Prop where
 ex:∃ hG,lE (cN g W vs rest) vs cr bm/\bK 1 (cN g W vs rest) fg hG (R.map h3)/\cF fg=R.isEmpty/\(R=[]\/(3<=hG/\oW cr bm hG))
theorem sl.setW {g:bp} {vs:List U} {cr:List (List Nat)} {bm:Nat->Nat} {W e2:List Int} {R:List Nat} {fg:U} {rest:ao} (h:sl g vs cr bm W R fg rest) :sl g vs cr bm e2 R fg rest:=by
 obtain⟨hG,fe,i5,ll,mh⟩:=h;refine⟨⟨hG,fe.frame fun b ag ⟨a,u7,ad,ae,aj⟩=>AK (aws fun h=>Bk fe h a u7 ad ae aj),?_,ll,mh⟩⟩;by_cases bP:R=[]
 ·subst bP;rw[kZ.1 ll];exact .nil _
 ·exact i5.frame fun _=>AK (mh.resolve_left bP).1
theorem sl.push {g:bp} {vs:List U} {cr:List (List Nat)} {bm:Nat->Nat} {W:List Int} {R:List Nat} {fg:U} {rest:ao} (h:sl g vs cr bm W R fg rest) (m:Nat) (dL:(R.length+1)*8<=cw) :
  ∃ a6 dY,gX (cN g W vs (rest++[.cells 1 [.int .i64 (m:Int)]])) 1 8 fg (.aq 1 (rest.length+3) 0 1 1 1)=some (a6,cN g W vs dY)/\sl g vs cr bm W (R++[m]) a6 dY:=by
 obtain⟨hG,v6,Gu,ll,mh⟩:=h;obtain⟨mx,yX,gw,fV⟩:∃ mx,bK 1 (cN g W vs (rest++[.cells 1 [.int .i64 (m:Int)]])) fg mx (R.map h3)/\3<=mx/\oW cr bm mx:=by
  by_cases bP:R=[]
  ·subst bP;rw[kZ.1 ll];exact⟨(cN g W vs (rest++[.cells 1 [.int .i64 (m:Int)]])).length,.nil _,by simp[cN],EJ v6 (by simp[cN])⟩
  ·exact⟨hG,Gu.more _,(mh.resolve_left bP).1,(mh.resolve_left bP).2⟩
 obtain⟨BM,MI,bj,aK,aU,a1,bl,bo,cu⟩:=o0 (by_:=8) yX (x:=.aq 1 (rest.length+3) 0 1 1 1) (xs:=[h3 m]) (by simp[dD,cN,h3]) (by simp[h3]) (by omega) (by omega) (by simpa using dL);have afD:(cN g W vs (rest++[.cells 1 [.int .i64 (m:Int)]])).length=rest.length+4:=by simp[cN]
 have Hg:(cN g W vs rest).length=rest.length+3:=by simp[cN]
 obtain⟨dY,rfl⟩:∃ r,bj=cN g W vs r:=vb ((bl 0 (by omega) (by omega)).trans rfl) ((bl 1 (by omega) (by omega)).trans rfl) ((bl 2 (by omega) (by omega)).trans rfl);have Ma:cF BM=false:=by
  cases aS:cF BM with
  | true=>have:=(cu.1 (kZ.1 aS)).2; cases this
  | false=>rfl
 refine⟨BM,dY,aK,⟨⟨MI,?_,?_,?_,.inr ⟨?_,?_⟩⟩⟩⟩
 ·exact v6.frame fun b ag ⟨a,u7,ad,ae,aj⟩=>(bl b (by omega) (fun e=>fV a u7 ad ae (by omega))).trans (LJ ag)
 ·rw[auH]; exact aU
 ·rw[Ma]; simp
 ·rcases bo with e | e<;>omega
 ·rcases bo with e | e
  ·rw[e]; exact fV
  ·exact EJ v6 (by omega)
set_option maxHeartbeats 8000000 in
theorem alY (g:bp) (aw:gn g) (al:g.ids.l.length=g.ops.l.length) (o9:g.ops.l.length<=60) (aG:∀ o∈g.ops.l,o.bi.l.length<=4) :bz Tryz.prog GS 68 [cH g] (.int .i64 (mF g.ids.l g.ops.l)) :=by
 refine bX Tryz.checked.mixed bn ?_;apply bq Tryz.func68 [];have lW:cw=140737488355328:=rfl;have fj:=dd g.ids;have dJ:=jE g.ops;have ln:=su g;have cM:ce (.aq 11) (bx g.ops)=some (.int .i64 g.ops.l.length) :=by simp[bx]
 have dp:ce (.aq 32) (aB g.ids)=some (.int .i64 g.ops.l.length) :=by simp[aB,al]
 simp[cH,bR];refine cl (g.ops.l.length - 1) (fun k σ l=>l=[.cells 2 [aB g.ids,bx g.ops]]/\σ 1=.ptr 0 0 2/\σ 3=.int .i64 ((k+1:Nat) :Int)/\∀ j,j<k+1->j<g.ids.l.length->1<=j->cg (b1 g.ids.l (j - 1)) (b1 g.ids.l j)<0) ?_ ⟨by simp,by simp,by simp,fun j ad _ ae=>by omega⟩;rintro k σ l ar ⟨rfl,aK,a1,ak⟩;obtain⟨σ,rfl⟩:=pG aK a1;clear aK a1;obtain⟨m,hm⟩:∃ m,m=k+1:=⟨_,rfl⟩
 rw[<-hm] at ak ⊢;by_cases aL:m<g.ops.l.length
 ·obtain⟨x,af,cT⟩:=bI (l:=g.ids.l) (k:=k) (by omega);obtain⟨y,aJ,eL⟩:=bI (l:=g.ids.l) (k:=m) (by omega);have aP:IntKind.i64.wrap ((m:Int) - 1)=(k:Int) :=by rw[IntKind.wrap_i64]; omega
  have bw:IntKind.i64.wrap ((m:Int)+1)=((m+1:Nat) :Int) :=by rw[IntKind.wrap_i64]; omega
  have e6:=gi af;have s1:=gi aJ;have ds:cL (.aq 32) (aB g.ids) (.int .i64 (k:Int))=some (.bM (aY x) 0) :=by simp[aB,af]
  have lp:cL (.aq 32) (aB g.ids) (.int .i64 (m:Int))=some (.bM (aY y) 0) :=by simp[aB,aJ]
  have bd:=c2 (aw.ids x cT);have fI:=c2 (aw.ids y eL);have fp:=vN x y (aw.ids x cT) (aw.ids y eL);unfold gF at fp;change bz Tryz.prog GS 75 [.aF (aY x),.aF (aY y)] _ at fp;have lP:=fE x;have oz:=fE y;obtain⟨X,cn⟩:∃ X,X=aY x:=⟨_,rfl⟩
  obtain⟨Y,fY⟩:∃ Y,Y=aY y:=⟨_,rfl⟩
  rw[<-cn] at ds bd fp lP;rw[<-fY] at lp fI fp oz;simp[dp,aL,aP,ds,lp,bd,fI,aul];refine a4 fp (by simp[a5,U.closed,lP,oz]) ?_;by_cases ah:cg x y<0
  ·have eB:¬ (0<=cg x y) :=by omega
   simp[eB,bw];refine⟨by omega,fun j ad ae aj=>?_⟩;have eD:cg (b1 g.ids.l (j - 1)) (b1 g.ids.l j)<0:=by
    by_cases ai:j=m
    ·rw[ai,show m - 1=k by omega,e6,s1]; exact ah
    ·exact ak j (by omega) ae aj
   simpa [b1] using eD
  ·have eB:0<=cg x y:=by omega
   simp[eB];refine aQ (congrArg (U.int .i64) ?_) rfl;have cR:di g.ids.l=false:=XV (k:=m) (by omega) (by omega) (by rw[show m - 1=k by omega,e6,s1]; exact ah);unfold mF;rw[cR]; rfl
 ·have az:di g.ids.l=true:=IG fun j ad ae=>ak j (by omega) ad ae
  have ai:=qs az;obtain⟨a2,_⟩:=Ew (z:=1) (by_:=8) (n:=g.ops.l.length) (k:=.i64) (k':=.i64) (zero:=[U.int .i64 0]) (l:=[aV.cells 2 [aB g.ids,bx g.ops]]) rfl (by omega) (by rw[lW]; omega);obtain⟨a9,_⟩:=Ew (z:=1) (by_:=24) (n:=g.ops.l.length) (k:=.i64) (k':=.i64) (zero:=[U.aH]) (l:=[aV.cells 2 [aB g.ids,bx g.ops],aV.cells g.ops.l.length (List.replicate g.ops.l.length (U.int .i64 0))]) rfl (by omega) (by rw[lW]; omega);simp only[avX,XN (α:=Nat)] at a2 a9;simp[dp,cM,aL,a2,a9];refine cl g.ops.l.length (fun m σ l=>σ 1=.ptr 0 0 2/\σ 4=.aq 1 1 0 g.ops.l.length g.ops.l.length g.ops.l.length/\σ 5=.aq 1 2 0 g.ops.l.length g.ops.l.length g.ops.l.length/\σ 45=bx g.ops/\σ 46=.int .i64 g.ops.l.length/\σ 47=.int .i64 m ∧
   aah g m 0 (σ 6) l/\∀ i,i<m->k9 g.ids.l (eO g.ops.l i)=true) ?_ ?_
  ·rintro m σ l hm ⟨aK,bl,bo,CO,CP,CQ,h6,dV⟩;obtain⟨fg,cu⟩:∃ v,σ 6=v:=⟨_,rfl⟩
   rw[cu] at h6;obtain⟨σ,rfl⟩:=Fc aK bl bo cu CO CP CQ;clear aK bl bo cu CO CP CQ;by_cases nL:m<g.ops.l.length
   ·obtain⟨o,au,en⟩:=bI nL;have aP:IntKind.i64.wrap ((m:Int)+1)=((m+1:Nat) :Int) :=by rw[IntKind.wrap_i64]; omega
    have bY:cL (.aq 11) (bx g.ops) (.int .i64 (m:Int))=some (.bM (a3 o) 0) :=by simp[bx,au]
    have hD:=aw.ops o en;have gE:=aG o en;have wi:eO g.ops.l m=o.bi.l:=tf au;have gb:ce (.aq 32) (aB o.bi)=some (.int .i64 o.bi.l.length) :=by simp[aB]
    have mY:(a3 o).length=11:=rfl;have kO:∀ h:1<(a3 o).length,(a3 o)[1]'h=aB o.bi:=fun _=>rfl
    obtain⟨O,eu⟩:∃ O,O=a3 o:=⟨_,rfl⟩
    rw[<-eu] at bY mY kO;have kU:a8 [U.int .u32 0,.aH,.int .u64 0,.int .u8 0,.str [],.int .u8 0,.int .i64 0,.int .u64 0,.str [],.int .u32 0,.int .u32 0] 0 O=O:=gq (by rw[mY]; rfl);simp[nL,bY,mY,kO,gb,kU,aul];obtain⟨zI,GF⟩:∃ zI,zI=l.length:=⟨_,rfl⟩
    rw[<-GF];refine cl o.bi.l.length (fun q σ l=>σ 1=.ptr 0 0 2/\σ 4=.aq 1 1 0 g.ops.l.length g.ops.l.length g.ops.l.length/\σ 5=.aq 1 2 0 g.ops.l.length g.ops.l.length g.ops.l.length/\σ 6=fg/\σ 7=.int .i64 m/\σ 8=.ptr zI 0 11/\σ 45=bx g.ops/\σ 46=.int .i64 g.ops.l.length/\σ 47=.int .i64 m ∧
     σ 53=aB o.bi/\σ 54=.int .i64 o.bi.l.length/\σ 55=.int .i64 q/\aag g m q fg zI O l/\∀ (j:Nat) (p:List B),j<q->o.bi.l[j]? = some p->p∈g.ids.l) ?_ ?_
    ·rintro q σ l a7 ⟨aK,bl,bo,cu,dU,e4,CO,CP,CQ,SY,CR,CS,j0,yI⟩;obtain⟨σ,rfl⟩:=am7 aK bl bo cu dU e4 CO CP CQ SY CR CS;clear aK bl bo cu dU e4 CO CP CQ SY CR CS;obtain⟨vs,cr,bm,hG,rest,rfl,fe,nF,i5,ll,mh,ag,uk,aeq⟩:=j0;by_cases DP:q<o.bi.l.length
     ·obtain⟨p,av,gS⟩:=bI DP;have bw:IntKind.i64.wrap ((q:Int)+1)=((q+1:Nat) :Int) :=by rw[IntKind.wrap_i64]; omega
      have Dw:cL (.aq 32) (aB o.bi) (.int .i64 (q:Int))=some (.bM (aY p) 0) :=by simp[aB,av]
      have UG:=hD.ids p gS;have bd:=c2 UG;have lP:=fE p;have AC:=SA g aw az p UG;unfold cH bR at AC ln;obtain⟨X,cn⟩:∃ X,X=aY p:=⟨_,rfl⟩
      rw[<-cn] at Dw bd lP AC;have hE:a8 (rep 32 (.int .u8 0)) 0 X=X:=gq (by rw[bd]; rfl);simp[cN,DP,Dw,bd,hE,aul];refine a4 AC (by simp[a5,U.closed,lP,fj,dJ]) ?_;by_cases DN:p∈g.ids.l
      ·obtain⟨pT,ez⟩:=aur.1 DN;have aev:=Cr az ez;have aqa:=(auk.1 ez).1;have aqb:pT<g.ops.l.length:=by omega
       have iL:vs.length=g.ops.l.length:=by rw[fe.qO,nF.len]
       obtain⟨iF,AQ,_⟩:=bI (l:=vs) (k:=pT) (by omega);obtain⟨row,cA,_⟩:=bI (l:=cr) (k:=pT) (by rw[nF.len]; omega);obtain⟨l1,hR⟩:∃ l1,l1=cN g (e9 g.ops.l m) vs (rest++[.cells 32 X,.cells 1 [.int .i64 (m:Int)]]) :=⟨_,rfl⟩
       have Gq:lE l1 vs cr bm:=by rw[hR]; exact fe.more _
       have Uh:l1.length=rest.length+5:=by rw[hR]; simp[cN]
       have pi:=nF.EX pT row cA;obtain⟨a6,bj,Eh,aK,aU,a1,bl,bo⟩:=Gq.app (b:=rest.length+4) (k:=m) AQ cA (by rw[hR]; simp[cN]) (by omega) (by rw[lW]; omega);have cy:=bo 0 (by omega) (Bk Gq (by omega));have q1:=bo 1 (by omega) (Bk Gq (by omega));have cV:=bo 2 (by omega) (Bk Gq (by omega));obtain⟨dY,rfl⟩:∃ r,bj=cN g (e9 g.ops.l m) vs r:=vb (cy.1.trans (by rw[hR]; rfl)) (q1.1.trans (by rw[hR]; rfl)) (cV.1.trans (by rw[hR]; rfl));have G8:cL (.aq 1) (.aq 1 2 0 g.ops.l.length g.ops.l.length g.ops.l.length) (.int .i64 (pT:Int))=some (.ptr 2 pT g.ops.l.length) :=by
        simp only[cL];rw[if_pos ⟨trivial,by omega,by omega⟩];simp
       rw[hR] at aK;unfold cN at aK;simp[DN,aev,G8,AQ,aK];refine c7.cd ?_;have agP:a8 vs pT [a6]=vs.set pT a6:=Yq (by omega);simp[cN,bl,G8,agP,iL];have iy:∀ c,3<=c->c<(cN g (e9 g.ops.l m) vs rest).length->oW cr bm c->(cN g (e9 g.ops.l m) (vs.set pT a6) dY)[c]? = (cN g (e9 g.ops.l m) vs rest)[c]?/\oW (cr.set pT (row++[m])) Eh c:=by
        intro c aj ea au;obtain⟨bZ,cc⟩:=bo c (by simp[cN] at ea; omega) au;exact⟨(AK aj).trans (bZ.trans (by rw[hR]; exact LJ ea)),cc⟩
       have Ln:jt g.ops.l m≠[]->hG<(cN g (e9 g.ops.l m) vs rest).length:=fun bP=>by
        rcases i5.lt with h | h
        ·rw[h] at ll;cases dA:jt g.ops.l m with
         | nil=>exact absurd dA bP
         | cons=>rw[dA] at ll; cases ll
        ·exact h
       have fP:=(auk.1 ag).1;obtain⟨f1,f2⟩:=iy zI uk fP aeq;refine⟨by omega,DP,by rw[IntKind.wrap_i64]; omega,⟨⟨vs.set pT a6,cr.set pT (row++[m]),Eh,hG,dY,rfl,?_,akk ai al nF (by rw[wi]; exact av) ez cA,?_,ll,?_,f1.trans ag,uk,f2⟩⟩,fun j cp eD iC=>?_⟩
       ·exact aU.frame fun b ag ⟨a,u7,ad,ae,aj⟩=>by
         have aG:3<=b:=aws fun h=>Bk aU h a u7 ad ae aj
         exact AK aG
       ·by_cases bP:jt g.ops.l m=[]
        ·rw[bP] at ll i5 ⊢;rw[kZ.1 ll];exact .nil _
        ·obtain⟨ad,ae⟩:=mh.resolve_left bP;exact i5.frame fun h=>(iy hG ad (Ln bP) ae).1
       ·by_cases bP:jt g.ops.l m=[]
        ·exact .inl bP
        ·obtain⟨ad,ae⟩:=mh.resolve_left bP;exact .inr ⟨ad,(iy hG ad (Ln bP) ae).2⟩
       ·by_cases afr:j=q
        ·subst afr; rw[av] at iC; obtain rfl:=Option.some.inj iC; exact DN
        ·exact yI j cp (by omega) iC
      ·simp[DN];refine aQ (congrArg (U.int .i64) ?_) rfl;have cR:¬ uZ g.ids.l g.ops.l=true:=fun h=>by
        have:=of_decide_eq_true h o en;exact DN (of_decide_eq_true this p gS)
       unfold mF;rw[if_pos az,if_neg cR]
     ·have wj:q=o.bi.l.length:=by omega
      rw[wj] at nF;rw[<-wi] at nF;have Tp:=aki nF (by rw[wi]; exact gE);have iL:vs.length=g.ops.l.length:=by rw[fe.qO,nF.len]
      have UO:hg (cN g (e9 g.ops.l m) vs rest) (.ptr zI 1 11)=some (O,1) :=by simp only[hg,ag]; rfl
      have Du:cL (.aq 1) (.aq 1 1 0 g.ops.l.length g.ops.l.length g.ops.l.length) (.int .i64 (m:Int))=some (.ptr 1 m g.ops.l.length) :=by
       simp only[cL];rw[if_pos ⟨trivial,by omega,by omega⟩];simp
      have L4:l9 1 (cN g (e9 g.ops.l m) vs rest) (.ptr 1 m g.ops.l.length) (.int .i64 o.bi.l.length)=some (cN g (e9 g.ops.l (m+1)) vs rest) :=by
       have ad:(cN g (e9 g.ops.l m) vs rest)[1]? = some (.cells g.ops.l.length ((e9 g.ops.l m).map ko)) :=rfl;simp only[l9,U.cells,ad];rw[if_pos (by simp; omega)];have ae:a8 ((e9 g.ops.l m).map ko) m [U.int .i64 o.bi.l.length]=(e9 g.ops.l (m+1)).map ko:=by
        rw[<-anZ nL,wi];exact pD ko (e9 g.ops.l m) m _ (by rw[ZC]; exact nL)
       rw[ae]; rfl
      have DQ:hg (cN g (e9 g.ops.l (m+1)) vs rest) (.ptr 1 m g.ops.l.length)=some ((e9 g.ops.l (m+1)).map ko,m) :=by
       have ad:(cN g (e9 g.ops.l (m+1)) vs rest)[1]? = some (.cells g.ops.l.length ((e9 g.ops.l (m+1)).map ko)) :=rfl;simp only[hg,ad]; simp
      have G6:((e9 g.ops.l (m+1)).map ko)[m]? = some (.int .i64 o.bi.l.length) :=by
       rw[auq,Jf nL,if_pos (by omega),wi]; rfl
      have aqp:∀ h:m<((e9 g.ops.l (m+1)).map ko).length,((e9 g.ops.l (m+1)).map ko)[m]'h=.int .i64 o.bi.l.length:=fun h=>(auk.1 G6).2
      have Tn:O[1]? = some (aB o.bi) :=by rw[auo (by rw[mY]; omega),kO]
      have v6:lE (cN g (e9 g.ops.l (m+1)) vs rest) vs cr bm:=fe.frame fun b ag ⟨a,u7,ad,ae,aj⟩=>AK (aws fun h=>Bk fe h a u7 ad ae aj)
      have Gu:bK 1 (cN g (e9 g.ops.l (m+1)) vs rest) fg hG ((jt g.ops.l m).map h3) :=by
       by_cases bP:jt g.ops.l m=[]
       ·rw[bP] at ll ⊢;rw[kZ.1 ll];exact .nil _
       ·exact i5.frame fun _=>AK (mh.resolve_left bP).1
      have Gy:∀ i,i<m+1->k9 g.ids.l (eO g.ops.l i)=true:=fun i ay=>by
       by_cases afh:i=m
       ·subst afh;rw[wi];refine decide_eq_true fun p av=>?_
        obtain⟨j,eD⟩:=aur.1 av;exact yI j p (by rw[wj]; exact (auk.1 eD).1) eD
       ·exact dV i (by omega)
      by_cases ax:o.bi.l.length=0
      ·have afF:ce (.aq 32) (aB o.bi)=some (.int .i64 0) :=by rw[gb,ax]; rfl
       have agM:l9 1 (cN g (e9 g.ops.l m) vs rest) (.ptr 1 m g.ops.l.length) (.int .i64 0)=some (cN g (e9 g.ops.l (m+1)) vs rest) :=by rw[ax] at L4; exact L4
       have ae5:((e9 g.ops.l (m+1)).map ko)[m]? = some (.int .i64 0) :=by rw[ax] at G6; exact G6
       have qm:jt g.ops.l (m+1)=jt g.ops.l m++[m] :=by
        rw[XF,wi,au4.1 ax]; rfl
       obtain⟨mx,yX,gw,fV⟩:∃ mx,bK 1 (cN g (e9 g.ops.l (m+1)) vs (rest++[.cells 1 [.int .i64 (m:Int)]])) fg mx ((jt g.ops.l m).map h3)/\3<=mx/\oW cr bm mx:=by
        by_cases bP:jt g.ops.l m=[]
        ·rw[bP] at ll ⊢;rw[kZ.1 ll];exact⟨(cN g (e9 g.ops.l (m+1)) vs (rest++[.cells 1 [.int .i64 (m:Int)]])).length,.nil _,by simp[cN],EJ v6 (by simp[cN])⟩
        ·exact⟨hG,Gu.more _,(mh.resolve_left bP).1,(mh.resolve_left bP).2⟩
       have pi:(jt g.ops.l m).length<=m:=by
        have:=avE (fun k=>(eO g.ops.l k).isEmpty) (List.range m);simpa [jt] using this
       obtain⟨BM,MI,bj,aK,aU,a1,bl,bo,cu⟩:=o0 (by_:=8) yX (x:=.aq 1 (rest.length+3) 0 1 1 1) (xs:=[h3 m]) (by simp[dD,cN,h3]) (by simp[h3]) (by omega) (by omega) (by rw[lW]; simp; omega);have afD:(cN g (e9 g.ops.l (m+1)) vs (rest++[.cells 1 [.int .i64 (m:Int)]])).length=rest.length+4:=by simp[cN]
       obtain⟨dY,rfl⟩:∃ r,bj=cN g (e9 g.ops.l (m+1)) vs r:=vb ((bl 0 (by omega) (by omega)).trans rfl) ((bl 1 (by omega) (by omega)).trans rfl) ((bl 2 (by omega) (by omega)).trans rfl);have LR:cN g (e9 g.ops.l (m+1)) vs rest++[aV.cells 1 [.int .i64 (m:Int)]]=cN g (e9 g.ops.l (m+1)) vs (rest++[.cells 1 [.int .i64 (m:Int)]]) :=rfl;have Hg:(cN g (e9 g.ops.l (m+1)) vs rest).length=rest.length+3:=by simp[cN]
       simp[DP,UO,Tn,afF,Du,agM,DQ,ae5,LR,Hg,aK];refine c7.cd ?_;simp;have Ma:cF BM=false:=by
        cases aS:cF BM with
        | true=>have:=(cu.1 (kZ.1 aS)).2; cases this
        | false=>rfl
       refine⟨nL,by rw[IntKind.wrap_i64]; omega,⟨⟨vs,cr,bm,MI,dY,rfl,?_,Tp,?_,?_,.inr ⟨?_,?_⟩⟩⟩,Gy⟩
       ·exact v6.frame fun b ag ⟨a,u7,ad,ae,aj⟩=>(bl b (by omega) (fun e=>fV a u7 ad ae (by omega))).trans (LJ ag)
       ·rw[qm,auH]; exact aU
       ·rw[Ma,qm]; simp
       ·rcases bo with e | e<;>omega
       ·rcases bo with e | e
        ·rw[e]; exact fV
        ·exact EJ v6 (by omega)
      ·have qm:jt g.ops.l (m+1)=jt g.ops.l m:=by
        rw[XF,wi];have:o.bi.l.isEmpty=false:=by cases dA:o.bi.l with | nil=>rw[dA] at ax; exact absurd rfl ax | cons=>rfl
        rw[this]; simp
       simp[DP,UO,Tn,gb,Du,L4,DQ,G6,ax];exact⟨nL,by rw[IntKind.wrap_i64]; omega,⟨⟨vs,cr,bm,hG,rest,rfl,v6,Tp,by rw[qm]; exact Gu,by rw[qm]; exact ll,by rw[qm]; exact mh⟩⟩,Gy⟩
    ·simp;obtain⟨vs,cr,bm,hG,rest,rfl,fe,nF,i5,ll,mh⟩:=h6;refine⟨⟨vs,cr,bm,hG,rest++[.cells 11 O],rfl,fe.more _,nF,i5.more _,ll,mh,by rw[GF,auJ (aun _)]; simp,by rw[GF]; simp[cN],EJ fe (by rw[GF]; exact aun _)⟩⟩
   ·have nK:m=g.ops.l.length:=by omega
    subst nK;obtain⟨vs,cr,bm,ahR,alr,rfl,v5,nF,yc,ad1,ad0⟩:=h6;have KF:=akh nF;have iL:vs.length=g.ops.l.length:=by rw[v5.qO,nF.len]
    have iK:uZ g.ids.l g.ops.l=true:=decide_eq_true fun o en=>by
     obtain⟨j,eD⟩:=aur.1 en;have:=dV j (auk.1 eD).1
     rwa [tf eD] at this
    have Tk:=aik (ids:=g.ids.l) (ops:=g.ops.l) al;rw[<-anY] at Tk;have fO:sl g vs cr bm (e9 g.ops.l g.ops.l.length) (jt g.ops.l g.ops.l.length) fg alr:=⟨⟨ahR,v5,yc,ad1,ad0⟩⟩
    simp;refine cl g.ops.l.length (fun d σ l=>σ 1=.ptr 0 0 2/\σ 4=.aq 1 1 0 g.ops.l.length g.ops.l.length g.ops.l.length/\σ 5=.aq 1 2 0 g.ops.l.length g.ops.l.length g.ops.l.length/\σ 13=.int .i64 d ∧
     ∃ W R rest,l=cN g W vs rest/\sl g vs cr bm W R (σ 6) rest/\sj g.ids.l g.ops.l [] d 0 R W) ?_ ?_
    ·rintro d σ l bf ⟨aK,bl,bo,lM,W,R,rest,rfl,h6,aT⟩;obtain⟨fg,cu⟩:∃ v,σ 6=v:=⟨_,rfl⟩
     rw[cu] at h6;obtain⟨σ,rfl⟩:=lC aK bl bo cu lM;clear aK bl bo cu lM;have C7:ce (.aq 1) fg=some (.int .i64 R.length) :=by obtain⟨hG,_,i5,_⟩:=h6; have:=i5.len; simpa using this
     have ll:R.length<=g.ops.l.length:=by
      have:=u9 (b:=List.range g.ops.l.length) aT.nU fun x af=>auZ.2 (aT.o7 x af).1
      simpa using this
     by_cases GV:d<R.length
     ·obtain⟨a,aC,Ty⟩:=bI GV;have aea:=(aT.o7 a Ty).1;have aP:IntKind.i64.wrap ((d:Int)+1)=((d+1:Nat) :Int) :=by rw[IntKind.wrap_i64]; omega
      obtain⟨row,cA,_⟩:=bI (l:=cr) (k:=a) (by rw[nF.len]; exact aea);obtain⟨iF,AQ,_⟩:=bI (l:=vs) (k:=a) (by omega);obtain⟨hG,fe,i5,Ts,mh⟩:=h6;obtain⟨akb,Rc,Fo,c1,dx,lc,q5⟩:=i5.q.get (k:=.i64) (i:=d) (e:=h3 a) (by rw[auq,aC]; rfl);have zH:=Nk (c:=.int .i64 (a:Int)) q5;have G8:cL (.aq 1) (.aq 1 2 0 g.ops.l.length g.ops.l.length g.ops.l.length) (.int .i64 (a:Int))=some (.ptr 2 a g.ops.l.length) :=by
       simp only[cL];rw[if_pos ⟨trivial,by omega,by omega⟩];simp
      have DR:∀ e2 tk,hg (cN g e2 vs tk) (.ptr 2 a g.ops.l.length)=some (vs,a) :=fun e2 tk=>by
       have ad:(cN g e2 vs tk)[2]? = some (.cells g.ops.l.length vs) :=rfl;simp only[hg,ad]; simp
      have Mb:=(fe.own a iF row AQ cA).1;have agU:ce (.aq 1) iF=some (.int .i64 row.length) :=by have:=Mb.len; simpa using this
      have pi:=nF.EX a row cA;simp[C7,GV,c1,dx,zH,G8,DR,AQ,agU];refine cl row.length (fun j σ l=>σ 1=.ptr 0 0 2/\σ 4=.aq 1 1 0 g.ops.l.length g.ops.l.length g.ops.l.length/\σ 5=.aq 1 2 0 g.ops.l.length g.ops.l.length g.ops.l.length/\σ 13=.int .i64 d/\σ 106=iF/\σ 107=.int .i64 row.length/\σ 108=.int .i64 j ∧
       ∃ W R rest,l=cN g W vs rest/\sl g vs cr bm W R (σ 6) rest/\sj g.ids.l g.ops.l row d j R W/\R[d]? = some a) ?_ ?_
      ·rintro j σ l Ln ⟨aK,bl,bo,lM,SO,SP,SQ,W,R,rest,rfl,h6,aT,aC⟩;obtain⟨fg,cu⟩:∃ v,σ 6=v:=⟨_,rfl⟩
       rw[cu] at h6;obtain⟨σ,rfl⟩:=Y6 aK bl bo cu lM SO SP SQ;clear aK bl bo cu lM SO SP SQ;by_cases eK:j<row.length
       ·obtain⟨k,ar,rr⟩:=bI eK;have dK:=KF.lt a row cA k rr;obtain⟨x,af,AW,aqN,C4⟩:=ail al ai KF aT aC cA ar;have aqO:(eO g.ops.l k).length<=4:=by
         obtain⟨dw,dE,agc⟩:=bI dK;rw[tf dE]; exact aG dw agc
        have aP:IntKind.i64.wrap ((j:Int)+1)=((j+1:Nat) :Int) :=by rw[IntKind.wrap_i64]; omega
        have bw:IntKind.i64.wrap (x - 1)=x - 1:=by rw[IntKind.wrap_i64]; omega
        obtain⟨hG,fe,i5,Ts,mh⟩:=id h6;have Mb:=(fe.own a iF row AQ cA).1;obtain⟨akb,Rc,Fo,c1,dx,lc,q5⟩:=Mb.q.get (k:=.i64) (i:=j) (e:=h3 k) (by rw[auq,ar]; rfl);have zH:=Nk (c:=.int .i64 (k:Int)) q5;have Du:cL (.aq 1) (.aq 1 1 0 g.ops.l.length g.ops.l.length g.ops.l.length) (.int .i64 (k:Int))=some (.ptr 1 k g.ops.l.length) :=by
         simp only[cL];rw[if_pos ⟨trivial,by omega,by omega⟩];simp
        have ap9:=aT.wl;have DQ:hg (cN g W vs rest) (.ptr 1 k g.ops.l.length)=some (W.map ko,k) :=by
         have ad:(cN g W vs rest)[1]? = some (.cells g.ops.l.length (W.map ko)) :=rfl;simp only[hg,ad]; simp
        have fv:(W.map ko)[k]? = some (.int .i64 x) :=by rw[auq,af]; rfl
        have b5:l9 1 (cN g W vs rest) (.ptr 1 k g.ops.l.length) (.int .i64 (x - 1))=some (cN g (W.set k (x - 1)) vs rest) :=by
         have ad:(cN g W vs rest)[1]? = some (.cells g.ops.l.length (W.map ko)) :=rfl;simp only[l9,U.cells,ad];rw[if_pos (by simp; omega)];have ae:a8 (W.map ko) k [U.int .i64 (x - 1)]=(W.set k (x - 1)).map ko:=pD ko W k _ (by omega);rw[ae]; rfl
        have DR:hg (cN g (W.set k (x - 1)) vs rest) (.ptr 1 k g.ops.l.length)=some ((W.set k (x - 1)).map ko,k) :=by
         have ad:(cN g (W.set k (x - 1)) vs rest)[1]? = some (.cells g.ops.l.length ((W.set k (x - 1)).map ko)) :=rfl;simp only[hg,ad]; simp
        have G5:((W.set k (x - 1)).map ko)[k]? = some (.int .i64 (x - 1)) :=by rw[auq,auz (by omega)]; rfl
        have Aq:sl g vs cr bm (W.set k (x - 1)) R fg rest:=h6.setW;obtain⟨dP,Gx⟩:∃ dP,dP=W.set k (x - 1) :=⟨_,rfl⟩
        rw[<-Gx] at b5 DR G5 Aq C4;by_cases ax:x - 1=0
        ·rw[if_pos ax] at C4;have e3:IntKind.i64.wrap (x - 1)=0:=by rw[bw]; exact ax
         rw[ax] at b5 G5;have ap4:R.length<=g.ops.l.length:=by
          have:=u9 (b:=List.range g.ops.l.length) aT.nU fun x af=>auZ.2 (aT.o7 x af).1
          simpa using this
         obtain⟨a6,dY,iS,jr⟩:=Aq.push k (by rw[lW]; omega);have LR:cN g dP vs rest++[aV.cells 1 [.int .i64 (k:Int)]]=cN g dP vs (rest++[.cells 1 [.int .i64 (k:Int)]]) :=rfl;have Hg:(cN g dP vs rest).length=rest.length+3:=by simp[cN]
         simp[eK,c1,dx,zH,Du,DQ,fv,e3,b5,DR,G5,LR,Hg,iS];refine c7.cd ?_;simp[eK,aP];exact⟨dP,R++[k],dY,rfl,jr,C4,by rw[aum (auk.1 aC).1]; exact aC⟩
        ·rw[if_neg ax] at C4;simp[eK,c1,dx,zH,Du,DQ,fv,bw,b5,DR,G5,ax,aP];exact⟨dP,R,rest,rfl,Aq,C4,aC⟩
       ·have afq:j=row.length:=by omega
        subst afq;simp[eK];exact⟨by omega,by rw[IntKind.wrap_i64]; omega,W,R,rest,rfl,h6,aii KF aT aC cA⟩
      ·simp;exact⟨W,R,rest,rfl,⟨⟨hG,fe,i5,Ts,mh⟩⟩,aij aT,aC⟩
     ·have aeH:d=R.length:=by have:=aT.dl; omega
      subst aeH;obtain⟨gw,fV⟩:=aih al ai aT;by_cases qh:R.length<g.ops.l.length
      ·simp[C7,GV,cN,cM,qh];refine aQ (congrArg (U.int .i64) ?_) rfl;unfold mF;rw[if_pos az,if_pos iK,if_neg (fun h=>by have:=fV.2 h; omega)]
      ·simp[C7,GV,cN,cM,qh];refine aQ (congrArg (U.int .i64) ?_) rfl;unfold mF;rw[if_pos az,if_pos iK,if_pos (fV.1 (by omega))]
    ·simp;exact⟨_,_,_,rfl,fO,Tk⟩
  ·simp;refine⟨⟨List.replicate g.ops.l.length .aH,List.replicate g.ops.l.length [],fun _=>0,0,[],?_,⟨by simp,fun a v row ap agx=>?_,fun a b mC nY _ aC _ sM _=>?_⟩,akj _ _,.nil _,rfl,.inl rfl⟩⟩
   ·unfold cN; rw[an0,awE]; rfl
   ·have ad:=avK (aut ap);have ae:=avK (aut agx);subst ad ae;exact⟨.nil _,rfl,.inl rfl⟩
   ·exact absurd (avK (aut aC)) sM
set_option maxHeartbeats 4000000 in
theorem Fi (g:bp) (aw:gn g) :bz Tryz.prog GS 38 [cH g] (.int .i64 (gp g)) :=by
 refine bX Tryz.checked.mixed bn ?_;apply bq Tryz.func38 [];have fj:=dd g.ids;have dJ:=jE g.ops;have ln:=su g;have cM:ce (.aq 11) (bx g.ops)=some (.int .i64 g.ops.l.length) :=by simp[bx]
 have dp:ce (.aq 32) (aB g.ids)=some (.int .i64 g.ids.l.length) :=by simp[aB]
 have bC:=aw.cJ;by_cases o9:60<(g.ops.l.length:Int)
 ·simp[cH,bR,cM,o9];refine aQ (congrArg (U.int .i64) ?_) rfl;unfold gp; rw[if_pos (by omega)]
 by_cases al:g.ids.l.length=g.ops.l.length
 ·have dt:(g.ids.l.length:Int)=(g.ops.l.length:Int) :=by omega
  simp[cH,bR,cM,dp,o9,dt];refine cl g.ops.l.length (fun k σ l=>(∃ rest,l=.cells 2 [aB g.ids,bx g.ops] ::rest)/\σ 1=.ptr 0 0 2/\σ 19=bx g.ops/\σ 20=.int .i64 g.ops.l.length/\σ 21=.int .i64 k/\∀ j,j<k->mX g j=true) ?_ (by simp);rintro k σ l ar ⟨⟨rest,rfl⟩,aK,p5,CM,tX,ak⟩;obtain⟨σ,rfl⟩:=iE aK p5 CM tX;clear aK p5 CM tX;by_cases bv:k<g.ops.l.length
  ·obtain⟨o,au,en⟩:=bI bv;obtain⟨x,af,cT⟩:=bI (l:=g.ids.l) (k:=k) (by omega);have lo:=CV au af;have aP:IntKind.i64.wrap ((k:Int)+1)=((k+1:Nat) :Int) :=by rw[IntKind.wrap_i64]; omega
   have bY:cL (.aq 11) (bx g.ops) (.int .i64 (k:Int))=some (.bM (a3 o) 0) :=by simp[bx,au]
   have yn:cL (.aq 32) (aB g.ids) (.int .i64 (k:Int))=some (.bM (aY x) 0) :=by simp[aB,af]
   have ap:=anG o (aw.ops o en);have kt:=anz o (aw.ops o en);change bz Tryz.prog GS 55 [.aF (a3 o)] (.bt [.aF (aY (m8 o)),.int .i64 (hw o)]) at kt;have oy:=kM o;have bd:=c2 (aw.ids x cT);have C3:=c2 (Mq o);have cS:(a3 o).length=11:=rfl;have heq:=wy (Mq o) (aw.ids x cT);have ik:¬ mX g k=true->gp g=8:=fun h=>by
    unfold gp;rw[if_neg (by omega),if_pos al,if_neg fun aS=>h ((x6 g).1 aS k bv)]
   obtain⟨O,eu⟩:∃ O,O=a3 o:=⟨_,rfl⟩
   obtain⟨X,cn⟩:∃ X,X=aY x:=⟨_,rfl⟩
   obtain⟨I,nE⟩:∃ I,I=aY (m8 o) :=⟨_,rfl⟩
   rw[<-eu] at bY ap kt oy cS;rw[<-cn] at yn bd heq;rw[<-nE] at kt heq C3;have kU:a8 [U.int .u32 0,.aH,.int .u64 0,.int .u8 0,.str [],.int .u8 0,.int .i64 0,.int .u64 0,.str [],.int .u32 0,.int .u32 0] 0 O=O:=gq (by rw[cS]; rfl);have L3:a8 (rep 32 (.int .u8 0)) 0 I=I:=gq (by rw[C3]; rfl);simp[bv,bY,cS,kU,aul];refine a4 kt (by simp[a5,U.closed,oy]) ?_;by_cases aI:hw o=0
   ·by_cases ds:m8 o=x
    ·simp[aI,C3,L3,yn,bd,heq,ds,cS,aul];refine a4 ap (by simp[a5,U.closed,oy]) ?_;by_cases oF:sa o=0
     ·simp[oF,bv,aP];intro j ai;by_cases gR:j=k
      ·subst gR; rw[lo]; simp[oF,ds]
      ·exact ak j (by omega)
     ·have ag:¬ mX g k=true:=fun h=>by rw[lo] at h; simp[oF] at h
      simp[oF];exact aQ (congrArg (U.int .i64) (ik ag).symm) rfl
    ·have ag:¬ mX g k=true:=fun h=>by rw[lo] at h; simp[ds] at h
     simp[aI,C3,L3,yn,bd,heq,ds,cS,aul];exact aQ (congrArg (U.int .i64) (ik ag).symm) rfl
   ·have ag:¬ mX g k=true:=fun h=>by
     rw[lo,aus,decide_eq_true_eq] at h;exact aI (I5 h.1)
    simp[aI,C3,L3,yn,bd,heq,cS,aul];exact aQ (congrArg (U.int .i64) (ik ag).symm) rfl
  ·have lU:k=g.ops.l.length:=by omega
   have dV:x5 g=true:=(x6 g).2 fun j ai=>ak j (by omega)
   have aG:∀ o∈g.ops.l,o.bi.l.length<=4:=fun o en=>by
    obtain⟨j,ai⟩:=aur.1 en;obtain⟨x,af,_⟩:=bI (l:=g.ids.l) (k:=j) (by have:=(auk.1 ai).1; omega);have ad:=(x6 g).1 dV j (auk.1 ai).1;rw[CV ai af,aus,decide_eq_true_eq] at ad;exact y6 (I5 ad.1)
   have pj:=alY g aw al (by omega) aG;unfold cH bR at pj ln;simp[bv];refine a4 pj (by simp[a5,ln]) ?_;simp;refine aQ (congrArg (U.int .i64) ?_) rfl;unfold gp;rw[if_neg (by omega),if_pos al,if_pos dV]
 ·have dt:¬ (g.ids.l.length:Int)=(g.ops.l.length:Int) :=by omega
  simp[cH,bR,cM,dp,o9,dt];refine aQ (congrArg (U.int .i64) ?_) rfl;unfold gp; rw[if_neg (by omega),if_neg al]
def ud (o:br) :Bool:=decide (20<o.bi.l.length)||(decide (100<o.act.key.length)||decide (100<o.act.val.text.length))
theorem akH (o:br) :bz Tryz.prog GS 129 [.aF (a3 o)] (.bool (ud o)) :=by
 refine bX Tryz.checked.mixed bn ?_;apply bq Tryz.func129 [];unfold ud;have gb:ce (.aq 32) (aB o.bi)=some (.int .i64 o.bi.l.length) :=by simp[aB]
 by_cases ad:20<o.bi.l.length
 ·have ef:(20:Int)<(o.bi.l.length:Int) :=by omega
  simp[a3,gb,ad,ef];exact aQ rfl rfl
 ·have ef:¬ (20:Int)<(o.bi.l.length:Int) :=by omega
  by_cases ae:100<o.act.key.length
  ·have gC:(100:Int)<(o.act.key.length:Int) :=by omega
   simp[a3,gb,ad,ef,ae,gC];exact aQ rfl rfl
  ·have gC:¬ (100:Int)<(o.act.key.length:Int) :=by omega
   simp[a3,gb,ad,ef,ae,gC];refine aQ (congrArg U.bool ?_) rfl;by_cases aj:100<o.act.val.text.length
   ·have p8:(100:Int)<(o.act.val.text.length:Int) :=by omega
    simp[aj,p8]
   ·have p8:¬ (100:Int)<(o.act.val.text.length:Int) :=by omega
    simp[aj,p8]
def uc (g:bp) :Bool:=decide (∃ o∈g.ops.l.take 71,ud o=true)||(decide (16<g.ops.l.length/\g.ops.l.length<=60)||(decide (70<g.ops.l.length)||decide (70<g.ids.l.length)))
theorem akG (g:bp) :bz Tryz.prog GS 90 [cH g] (.bool (uc g)) :=by
 refine bX Tryz.checked.mixed bn ?_;apply bq Tryz.func90 [];have cM:ce (.aq 11) (bx g.ops)=some (.int .i64 g.ops.l.length) :=by simp[bx]
 have dp:ce (.aq 32) (aB g.ids)=some (.int .i64 g.ids.l.length) :=by simp[aB]
 simp[cH,bR];refine cl (min g.ops.l.length 71) (fun k σ l=>l=[.cells 2 [aB g.ids,bx g.ops]]/\σ 1=.ptr 0 0 2/\σ 3=.int .i64 k/\∀ (j:Nat) (o:br),j<k->g.ops.l[j]? = some o->ud o=false) ?_ (by simp);rintro k σ l ar ⟨rfl,aK,a1,ak⟩;obtain⟨σ,rfl⟩:=pG aK a1;clear aK a1;by_cases bv:k<g.ops.l.length
 ·by_cases Ud:k<=70
  ·obtain⟨o,au,en⟩:=bI bv;have aP:IntKind.i64.wrap ((k:Int)+1)=((k+1:Nat) :Int) :=by rw[IntKind.wrap_i64]; omega
   have bY:cL (.aq 11) (bx g.ops) (.int .i64 (k:Int))=some (.bM (a3 o) 0) :=by simp[bx,au]
   have ap:=akH o;have oy:=kM o;have cS:(a3 o).length=11:=rfl;have Lp:(k:Int)<=70:=by omega
   have rr:k<min g.ops.l.length 71:=by omega
   obtain⟨O,eu⟩:∃ O,O=a3 o:=⟨_,rfl⟩
   rw[<-eu] at bY ap oy cS;simp[cM,bv,Ud,Lp,bY,cS,aul];refine a4 ap (by simp[a5,U.closed,oy]) ?_;by_cases hq:ud o=true
   ·simp[hq];refine aQ (congrArg U.bool ?_) rfl;unfold uc;rw[decide_eq_true ⟨o,aut (i:=k) (by rw[auI (by omega)]; exact au),hq⟩]; rfl
   ·rw[awt] at hq;simp[hq,aP];refine⟨by omega,fun j dw ai dE=>?_⟩;by_cases gR:j=k
    ·subst gR; rw[au] at dE; obtain rfl:=Option.some.inj dE; exact hq
    ·exact ak j dw (by omega) dE
  ·have Lp:¬ (k:Int)<=70:=by omega
   have aD:¬ ∃ o∈g.ops.l.take 71,ud o=true:=fun ⟨o,en,hq⟩=>by
    obtain⟨j,ai⟩:=aur.1 en;have eK:=(auk.1 ai).1;rw[auA] at eK;rw[auI (by omega)] at ai;rw[ak j o (by omega) ai] at hq; cases hq
   have a2:(16:Int)<(g.ops.l.length:Int) :=by omega
   have a9:¬ (g.ops.l.length:Int)<=60:=by omega
   have bV:(70:Int)<(g.ops.l.length:Int) :=by omega
   simp[cM,dp,bv,Ud,Lp,a2,a9,bV];refine aQ (congrArg U.bool ?_) rfl;unfold uc;simp[show 70<g.ops.l.length by omega]
 ·have aD:¬ ∃ o∈g.ops.l.take 71,ud o=true:=fun ⟨o,en,hq⟩=>by
   obtain⟨j,ai⟩:=aur.1 en;have eK:=(auk.1 ai).1;rw[auA] at eK;rw[auI (by omega)] at ai;rw[ak j o (by omega) ai] at hq; cases hq
  have ae6:uc g=(decide (16<g.ops.l.length/\g.ops.l.length<=60)||(decide (70<g.ops.l.length)||decide (70<g.ids.l.length))) :=by
   unfold uc; rw[decide_eq_false aD]; rfl
  rw[ae6];have d1:decide ((16:Int)<(g.ops.l.length:Int))=decide (16<g.ops.l.length) :=by rw[decide_eq_decide]; omega
  have d2:decide ((g.ops.l.length:Int)<=60)=decide (g.ops.l.length<=60) :=by rw[decide_eq_decide]; omega
  have d3:decide ((70:Int)<(g.ops.l.length:Int))=decide (70<g.ops.l.length) :=by rw[decide_eq_decide]; omega
  have d4:decide ((70:Int)<(g.ids.l.length:Int))=decide (70<g.ids.l.length) :=by rw[decide_eq_decide]; omega
  by_cases a2:16<g.ops.l.length
  ·have vu:(16:Int)<(g.ops.l.length:Int) :=by omega
   by_cases a9:g.ops.l.length<=60
   ·have vv:(g.ops.l.length:Int)<=60:=by omega
    simp[cM,dp,bv,a2,vu,a9,vv];exact aQ rfl rfl
   ·have vv:¬ (g.ops.l.length:Int)<=60:=by omega
    by_cases bV:70<g.ops.l.length
    ·have B4:(70:Int)<(g.ops.l.length:Int) :=by omega
     simp[cM,dp,bv,a2,vu,a9,vv,bV,B4];exact aQ rfl rfl
    ·have B4:¬ (70:Int)<(g.ops.l.length:Int) :=by omega
     simp[cM,dp,bv,a2,vu,a9,vv,bV,B4];exact aQ (congrArg U.bool d4) rfl
  ·have vu:¬ (16:Int)<(g.ops.l.length:Int) :=by omega
   have bV:¬ 70<g.ops.l.length:=by omega
   have B4:¬ (70:Int)<(g.ops.l.length:Int) :=by omega
   simp[cM,dp,bv,a2,vu,bV,B4];exact aQ (congrArg U.bool d4) rfl
def gv (o:br) :br:={ o with bi:=some o.bi.l }
theorem amN {o:br} (h:iY o) :iY (gv o) :=⟨h.ids,h.len,h.val,h.key⟩
theorem ak4 (o:br) (au:iY o) :bz Tryz.prog GS 105 [.aF (a3 o)] (.aF (a3 (gv o))) :=by
 refine bX Tryz.checked.mixed bn ?_;apply bq Tryz.func105 [];have az:cw=140737488355328:=rfl;have al:=au.len;have ax:∀ x∈o.bi.l,(aY x).length=32:=fun x af=>c2 (au.ids x af)
 have j1:=Pv (enc:=aY) (by_:=32) [aV.cells 11 (a3 o),aV.cells 11 [.int .u32 0,.aH,.int .u64 0,.int .u8 0,.str [],.int .u8 0,.int .i64 0,.int .u64 0,.str [],.int .u32 0,.int .u32 0]] o.bi ax (by omega) (by omega) (by rw[az]; omega);have hm:∀ x:dv,(aB x).cells=some [aB x] :=fun x=>by cases x<;>rfl
 have i6:=dd (some o.bi.l);simp only[a3,aB,auF,au1,avj,avp] at j1;simp[a3,aB,j1];refine c7.CI (by exact Bl ax rfl rfl) rfl ?_;have am:U.aZ 32 (o.bi.l.map aY)=aB (some o.bi.l) :=rfl;simp[am,hm,a8];exact aQ rfl (show (U.aF (a3 (gv o))).closed=true by have:=kM (gv o); simpa [U.closed] using this)
def gu (g:bp) :bp:=⟨some g.ids.l,dm (g.ops.l.map gv)⟩
theorem YZ {g:bp} (h:gn g) :gn (gu g) :=by
 refine⟨h.ids,fun o au=>?_,h.li,?_⟩
 ·unfold gu at au;simp only[ec] at au;obtain⟨dw,dE,rfl⟩:=auR.1 au;exact amN (h.ops dw dE)
 ·unfold gu; simp only[ec]; simpa using h.cJ
set_option maxHeartbeats 4000000 in
theorem Xy (g:bp) (aw:gn g) :bz Tryz.prog GS 77 [cH g] (cH (gu g)) :=by
 refine bX Tryz.checked.mixed bn ?_;apply bq Tryz.func77 [[[0],[1],[2],[3],[4],[5],[6],[7,1]]];have az:cw=140737488355328:=rfl;have cM:ce (.aq 11) (bx g.ops)=some (.int .i64 g.ops.l.length) :=by simp[bx]
 have bC:=aw.cJ;have dp:=aw.li;have ax:∀ x∈g.ids.l,(aY x).length=32:=fun x af=>c2 (aw.ids x af)
 have j1:=Pv (enc:=aY) (by_:=32) [aV.cells 2 (bR g),aV.cells 2 [.aH,.aH]] g.ids ax (by omega) (by omega) (by rw[az]; omega);have hm:∀ x:dv,(aB x).cells=some [aB x] :=fun x=>by cases x<;>rfl
 have fj:=dd (some g.ids.l);simp only[bR,aB,auF,au1,avj,avp] at j1;simp[cH,bR,aB,j1];refine c7.CI (by exact Bl ax rfl rfl) rfl ?_;have am:U.aZ 32 (g.ids.l.map aY)=aB (some g.ids.l) :=rfl;simp[am,hm,a8];refine cl g.ops.l.length (fun k σ l=>σ 1=.ptr 0 0 2/\σ 2=.ptr 1 0 2/\σ 3=.ptr 3 0 2/\σ 4=.int .i64 k/\∃ v j rest,l=.cells 2 [aB g.ids,bx g.ops] ::.cells 2 [.aH,.aH] ::.dead::.cells 2 [aB (some g.ids.l),v] ::rest ∧
  bK 11 l v j (((g.ops.l.take k).map gv).map a3)/\(v=.aH\/4<=j)/\cF v=(g.ops.l.take k).isEmpty) ?_ ?_
 ·rintro k σ l ar ⟨aK,aU,a1,bl,v,j,rest,rfl,kT,ai,iA⟩;obtain⟨σ,rfl⟩:=iE aK aU a1 bl;clear aK aU a1 bl;by_cases bv:k<g.ops.l.length
  ·obtain⟨o,au,en⟩:=bI bv;have aP:IntKind.i64.wrap ((k:Int)+1)=((k+1:Nat) :Int) :=by rw[IntKind.wrap_i64]; omega
   have bY:cL (.aq 11) (bx g.ops) (.int .i64 (k:Int))=some (.bM (a3 o) 0) :=by simp[bx,au]
   have ap:=ak4 o (aw.ops o en);have oy:=kM o;have cS:(a3 o).length=11:=rfl;have DK:(a3 (gv o)).length=11:=rfl;have b5:g.ops.l.take (k+1)=g.ops.l.take k++[o] :=by rw[auP,au]; rfl
   obtain⟨a6,b7,cB,a2,a9,bV,ey⟩:=xP (by_:=112) (pre:=[.cells 2 [aB g.ids,bx g.ops],.cells 2 [.aH,.aH],.dead,.cells 2 [aB (some g.ids.l),v]]) (rest:=rest++[.cells 11 (a3 (gv o))]) (kT.more _) ai (x:=.aq 11 (rest.length+1+1+1+1) 0 1 1 11) (xs:=[a3 (gv o)])
    (by simp[dD,DK,aul]) (by simp[DK]) (by omega) (by omega) (by rw[az]; simp; omega)
   obtain⟨O,eu⟩:∃ O,O=a3 o:=⟨_,rfl⟩
   obtain⟨T,dI⟩:∃ T,T=a3 (gv o) :=⟨_,rfl⟩
   rw[<-eu] at bY ap oy cS;rw[<-dI] at ap DK a2 a9;have agB:a8 [U.int .u32 0,.aH,.int .u64 0,.int .u8 0,.str [],.int .u8 0,.int .i64 0,.int .u64 0,.str [],.int .u32 0,.int .u32 0] 0 T=T:=gq (by rw[DK]; rfl);have rI:=a9.cells;simp only[avj,avp] at a2;simp[cM,bv,bY,cS,aul];refine a4 ap (by simp[a5,U.closed,oy]) ?_;simp[DK,agB,a2];refine c7.cd ?_;simp[rI,a8,aP];have cA:List.take (k+1) (List.map (a3 ∘ gv) g.ops.l)=((g.ops.l.take k).map gv).map a3++[T] :=by rw[<-awK,b5]; simp[dI]
   have fw:cF a6=false:=by rw[ey]; simp
   have afo:4<=b7:=by
    rcases bV with h | h
    ·rw[h] at fw; cases fw
    ·simpa using h
   refine⟨bv,b7,?_,.inr afo,by rw[fw,b5]; simp⟩;rw[cA];refine a9.lg (.inr ?_);obtain⟨j9,rfl⟩:∃ j9,b7=j9+4:=⟨b7 - 4,by omega⟩
   rfl
  ·have lU:k=g.ops.l.length:=by omega
   simp[cM,bv];rw[lU,auU] at kT iA;have m6:jz (aV.cells 2 [aB g.ids,bx g.ops] ::aV.cells 2 [aB (some g.ids.l),v] ::aV.dead::aV.cells 2 [aB (some g.ids.l),v] ::rest) v (bx (dm (g.ops.l.map gv))) :=by
    refine (kT.lg (l':=aV.cells 2 [aB g.ids,bx g.ops] ::aV.cells 2 [aB (some g.ids.l),v] ::aV.dead::aV.cells 2 [aB (some g.ids.l),v] ::rest) ?_).q.u5 (fun x=>kM x) (dm (g.ops.l.map gv)) (by rw[iA,qI]; simp) (ec _);rcases ai with h | h
    ·exact .inl h
    ·right;obtain⟨j9,rfl⟩:∃ j9,j=j9+4:=⟨j - 4,by omega⟩
     rfl
   refine .aF _ _ rfl fun j c c' ah eB=>?_
   rcases j with _ | _ | j
   ·simp[cH,bR,gu] at ah eB; subst ah eB; exact .same _ fj
   ·simp[cH,bR,gu] at ah eB; subst ah eB; exact m6
   ·simp at ah
 ·simp;exact⟨.aH,⟨rfl,rfl⟩,0,.nil 0,.inl rfl,rfl⟩
def w8 (a b:br) :Bool:=decide (a.hn=b.hn)&&(decide (a.bi.l=b.bi.l)&&(decide (a.ir=b.ir)&&(fC (kq a.act) (kq b.act)&&(decide (a.e=b.e)&&decide (a.s=b.s)))))
theorem aie:s4 Tryz.prog 20 92=some [.i .u32,.i .u32] :=by kernel_rfl
theorem alL (a b c d:D) :gN Tryz.prog .eql 92 (.aF [bu a,bu b]) (.aF [bu c,bu d])=some (.bool (decide (a=c)&&decide (b=d))) :=by
 rw[FJ aie (by kernel_rfl) (by kernel_rfl) rfl rfl];simp[fC,U.beq]
theorem akV (a b:br) (aC:iY a) (ag:iY b) :bz Tryz.prog GS 51 [.aF (a3 a),.aF (a3 b)] (.bool (w8 a b)) :=by
 refine bX Tryz.checked.mixed bn ?_;apply bq Tryz.func51 [];unfold w8;have rk:=dd a.bi;have K1:=dd b.bi;have Li:=N4 a.bi b.bi aC.ids ag.ids aC.len;have v8:=Pg a.act b.act;have agE:=alL a.e a.s b.e b.s;have Ty:(aB a.bi).cells=some [aB a.bi] :=by cases a.bi<;>rfl
 have aqf:(aB b.bi).cells=some [aB b.bi] :=by cases b.bi<;>rfl
 unfold kq at v8 ⊢;simp[a3];by_cases ad:a.hn=b.hn
 ·simp[ad];refine a4 Li (by simp[a5,rk,K1]) ?_;by_cases ae:a.bi.l=b.bi.l
  ·by_cases aj:a.ir=b.ir
   ·cases aG:fC [bA a.act.kind,.str a.act.key,bA a.act.val.kind,.int .i64 a.act.val.num,dS a.act.val.bits,.str a.act.val.text] [bA b.act.kind,.str b.act.key,bA b.act.val.kind,.int .i64 b.act.val.num,dS b.act.val.bits,.str b.act.val.text] with
    | false=>
     rw[aG] at v8;simp[ad,ae,aj,v8];exact aQ rfl rfl
    | true=>
     rw[aG] at v8;simp[ad,ae,aj,v8,agE];exact aQ rfl rfl
   ·simp[ad,ae,aj];exact aQ rfl rfl
  ·simp[ad,ae];exact aQ rfl rfl
 ·simp[ad];exact aQ rfl rfl
def jS (l:List br) (k:Nat) :br:=l.getD k ⟨0,none,0,⟨0,[],⟨0,0,0,[]⟩⟩,0,0⟩
theorem ta {l:List br} {k:Nat} {o:br} (h:l[k]? = some o) :jS l k=o:=by unfold jS; rw[auB,h]; rfl
def r5 (a b:bp) :Bool:=decide (a.ids.l=b.ids.l)&&(decide (a.ops.l.length=b.ops.l.length)&&decide (∀ k,k<a.ops.l.length->w8 (jS a.ops.l k) (jS b.ops.l k)=true))
theorem akU (a b:bp) (aC:gn a) (ag:gn b) :bz Tryz.prog GS 22 [cH a,cH b] (.bool (r5 a b)) :=by
 refine bX Tryz.checked.mixed bn ?_;apply bq Tryz.func22 [];have rk:=dd a.ids;have K1:=dd b.ids;have Li:=N4 a.ids b.ids aC.ids ag.ids aC.li;have nJ:ce (.aq 11) (bx a.ops)=some (.int .i64 a.ops.l.length) :=by simp[bx]
 have j5:ce (.aq 11) (bx b.ops)=some (.int .i64 b.ops.l.length) :=by simp[bx]
 have bC:=aC.cJ;simp[cH,bR];refine a4 Li (by simp[a5,rk,K1]) ?_;by_cases ad:a.ids.l=b.ids.l
 ·by_cases ae:a.ops.l.length=b.ops.l.length
  ·have gC:(a.ops.l.length:Int)=(b.ops.l.length:Int) :=by omega
   simp[ad,nJ,j5,ae,gC];refine cl a.ops.l.length (fun k σ l=>l=[.cells 2 [aB a.ids,bx a.ops],.cells 2 [aB b.ids,bx b.ops]]/\σ 2=.ptr 0 0 2/\σ 3=.ptr 1 0 2/\σ 5=.int .i64 k/\∀ j,j<k->w8 (jS a.ops.l j) (jS b.ops.l j)=true) ?_ (by simp);rintro k σ l ar ⟨rfl,aU,a1,bo,ak⟩;obtain⟨σ,rfl⟩:=lB aU a1 bo;clear aU a1 bo;by_cases bv:k<a.ops.l.length
   ·obtain⟨o,au,en⟩:=bI bv;obtain⟨p,av,gS⟩:=bI (l:=b.ops.l) (k:=k) (by omega);have aP:IntKind.i64.wrap ((k:Int)+1)=((k+1:Nat) :Int) :=by rw[IntKind.wrap_i64]; omega
    have bY:cL (.aq 11) (bx a.ops) (.int .i64 (k:Int))=some (.bM (a3 o) 0) :=by simp[bx,au]
    have hr:cL (.aq 11) (bx b.ops) (.int .i64 (k:Int))=some (.bM (a3 p) 0) :=by simp[bx,av]
    have ap:=akV o p (aC.ops o en) (ag.ops p gS);have dJ:=kM o;have i6:=kM p;have cS:(a3 o).length=11:=rfl;have gE:(a3 p).length=11:=rfl;have Gz:=ta au;have GM:=ta av;obtain⟨O,eu⟩:∃ O,O=a3 o:=⟨_,rfl⟩
    obtain⟨Q,jh⟩:∃ Q,Q=a3 p:=⟨_,rfl⟩
    rw[<-eu,<-jh] at ap;rw[<-eu] at bY dJ cS;rw[<-jh] at hr i6 gE;simp[nJ,bv,bY,hr,cS,gE,aul];refine a4 ap (by simp[a5,U.closed,dJ,i6]) ?_;by_cases j7:w8 o p=true
    ·simp[j7,bv,aP];intro j ai;by_cases gR:j=k
     ·subst gR; rw[Gz,GM]; exact j7
     ·exact ak j (by omega)
    ·rw[awt] at j7;simp[j7];refine aQ (congrArg U.bool ?_) rfl;unfold r5;rw[decide_eq_false (fun h:∀ k,k<a.ops.l.length->w8 (jS a.ops.l k) (jS b.ops.l k)=true=>by
      have:=h k bv;rw[Gz,GM,j7] at this;cases this)]
     simp
   ·have lU:k=a.ops.l.length:=by omega
    simp[nJ,bv];refine aQ (congrArg U.bool ?_) rfl;unfold r5;rw[decide_eq_true ad,decide_eq_true ae,decide_eq_true fun j ai=>ak j (by omega)]; rfl
  ·have gC:¬ (a.ops.l.length:Int)=(b.ops.l.length:Int) :=by omega
   simp[ad,nJ,j5,ae,gC];refine aQ (congrArg U.bool ?_) rfl;unfold r5; rw[decide_eq_false ae]; simp
 ·simp[ad];refine aQ (congrArg U.bool ?_) rfl;unfold r5; rw[decide_eq_false ad]; simp
structure tG (g:bp) :Prop where
 n60:g.ops.l.length<=60
 len:g.ids.l.length=g.ops.l.length
 S4:∀ (k:Nat) (o:br) (x:List B),g.ops.l[k]? = some o->g.ids.l[k]? = some x->sa o=0/\m8 o=x
 di:di g.ids.l=true
 ajW:∀ o∈g.ops.l,∀ p∈o.bi.l,p∈g.ids.l
 all:∀ i,i<g.ops.l.length->pN g.ids.l g.ops.l i
theorem nW {g:bp} (h:gp g=0) :tG g:=by
 unfold gp at h;split at h
 ·cases h
 ·rename_i o9;split at h
  ·rename_i al;split at h
   ·rename_i lo;unfold mF at h;split at h
    ·rename_i az;split at h
     ·rename_i iK;split at h
      ·rename_i kS;refine⟨by omega,al,fun k o x au af=>?_,az,fun o en p av=>?_,(Np al (qs az)).1 kS⟩
       ·have:=(x6 g).1 lo k (auk.1 au).1;rw[CV au af,aus,decide_eq_true_eq,decide_eq_true_eq] at this;exact this
       ·exact of_decide_eq_true (of_decide_eq_true iK o en) p av
      ·cases h
     ·cases h
    ·cases h
   ·cases h
  ·cases h
def qw (ids:List (List B)) (seen:List Bool) (k:Nat) :List (List B) :=(List.range k).flatMap fun i=>if seen.getD i false=true then [b1 ids i] else []
theorem M8 (ids:List (List B)) (seen:List Bool) (k:Nat) :qw ids seen (k+1)=qw ids seen k++(if seen.getD k false=true then [b1 ids k] else []) :=by
 unfold qw; rw[awk,awV]; simp
theorem Wo (ids:List (List B)) (seen:List Bool) :∀ k,(qw ids seen k).length<=k
 | 0=>by simp[qw]
 | k+1=>by
  have:=Wo ids seen k;rw[M8,auu];split<;>simp<;>omega
theorem PV:∀ l:List B,fC (l.map bA) (l.map bA)=true
 | []=>rfl
 | x::l=>by
  have ad:U.beq (bA x) (bA x)=true:=by simp[bA,U.beq]
  show (U.beq (bA x) (bA x)&&fC (l.map bA) (l.map bA))=true;rw[ad,PV l]; rfl
theorem aaI (x:List B) :U.beq (.aF (aY x)) (.aF (aY x))=true:=PV x
theorem Gd {x:List B} (h:x.length=32) :l4 Tryz.prog 61 (.aF (aY x))=true:=by
 have ad:uO Tryz.prog 8 61=true:=by kernel_rfl
 have ae:eJ Tryz.prog 61=some true:=by kernel_rfl
 have aj:cz Tryz.prog 61=some 32:=by kernel_rfl
 have aG:(x.map bA).all wV=true:=by rw[ava]; intro c ah; obtain⟨b,_,rfl⟩:=auR.1 ah; rfl
 show (uO Tryz.prog 8 61&&(match eJ Tryz.prog 61,cz Tryz.prog 61 with | some true,some m=>Nat.beq (x.map bA).length m | _,_=>false)&&(x.map bA).all wV)=true;rw[ad,ae,aj,aG,auw,h];rfl
theorem Wj:∀ {a b:List B},a.map (fun x=>u x)=b.map (fun x=>u x)<->a=b
 | [],[]=>by simp
 | [],_::_=>by simp
 | _::_,[]=>by simp
 | x::a,y::b=>by
  rw[auL,auL,List.cons.injEq,List.cons.injEq,Wj (a:=a) (b:=b)];simp
theorem acy {a b:List B} (aC:a.length=32) (ag:b.length=32) {D:Nat}:eU Tryz.prog (D+2) 61 (.aF (aY a)) (.aF (aY b))=some (decide (a=b)) :=by
 have h:=acz (P:=Tryz.prog) (t:=61) (e:=5) (k:=.u8) (n:=32) (by kernel_rfl) (by kernel_rfl) (by kernel_rfl) (by kernel_rfl) (x:=a.map fun x=>u x) (y:=b.map fun x=>u x) (by simp[aC]) (by simp[ag]) (D:=D);rw[av9,av9] at h;unfold aY;rw[show a.map bA=a.map (U.int .u8 ∘ fun x=>u x) from rfl,show b.map bA=b.map (U.int .u8 ∘ fun x=>u x) from rfl,h];simp only[Wj]
inductive sg:Nat->List (U × U × Nat)->List (List B)->Prop
 | nil (b:Nat) :sg b [] []
 | cons {b:Nat} {es:List (U × U × Nat)} {b8:List (List B)} {k:List B} (n:Nat) (ar:k.length=32) (h:sg (b+1) es b8) :sg b ((.aF (aY k),.int .i64 (b:Int),n) ::es) (k::b8)
theorem sg.len {b:Nat} {es:List (U × U × Nat)} {b8:List (List B)} (h:sg b es b8) :es.length=b8.length:=by induction h<;>simp_all
theorem sg.snoc {b:Nat} {es:List (U × U × Nat)} {b8:List (List B)} (h:sg b es b8) {k:List B} (ar:k.length=32) (n:Nat) :sg b (es++[(.aF (aY k),.int .i64 ((b+b8.length:Nat) :Int),n)]) (b8++[k]) :=by
 induction h with
 | nil b=>exact .cons n ar (.nil _)
 | @cons b es b8 k' m ff h aR=>
  refine .cons m ff ?_;rw[show b+1+b8.length=b+(k'::b8).length by simp; omega] at aR;exact aR
theorem Ks {x:List B} (af:x.length=32) {b:Nat} {es:List (U × U × Nat)} {b8:List (List B)} (h:sg b es b8) :∀ c,(∀ i,b8[i]? = some x->(∀ j,j<i->b8[j]?≠some x)->lf Tryz.prog 61 (.aF (aY x)) es c=some (some (c+i,.int .i64 ((b+i:Nat) :Int))))/\(x∉b8->lf Tryz.prog 61 (.aF (aY x)) es c=some none) :=by
 induction h with
 | nil b=>intro c; exact⟨fun i h=>by simp at h,fun _=>rfl⟩
 | @cons b es b8 k n ar h aR=>
  intro c;unfold lf;rw[Gd ar];simp only;rw[show eU Tryz.prog 10000 61 (.aF (aY x)) (.aF (aY k))=some (decide (x=k)) from acy af ar (D:=9998)];by_cases am:x=k
  ·subst am;simp only[decide_true,aaI];refine⟨fun i ay cR=>?_,fun h=>absurd (by simp) h⟩;cases i with
   | zero=>rfl
   | succ i=>exact absurd rfl (cR 0 (by omega))
  ·simp only[am,decide_false];obtain⟨ad,ae⟩:=aR (c+1);refine⟨fun i ay cR=>?_,fun h=>ae (fun h'=>h (by simp[h']))⟩;cases i with
   | zero=>simp at ay; exact absurd ay.symm am
   | succ i=>
    rw[ad i (by simpa using ay) (fun j ai=>by have:=cR (j+1) (by omega); simpa using this)];rw[show c+1+i=c+(i+1) by omega,show b+1+i=b+(i+1) by omega]
structure kI (l:ao) (j:Nat) (b8:List (List B)) :Prop where
 e:∃ es eh,l[j]? = some (.map es eh)/\sg 0 es b8
theorem kI.look {l:ao} {j:Nat} {b8:List (List B)} (h:kI l j b8) (ai:mJ b8) {x:List B} (af:x.length=32) {i:Nat} (ay:b8[i]? = some x) :wI Tryz.prog l 61 (.int .i64 0) false (.mp j) (.aF (aY x))=some (.int .i64 (i:Int)) :=by
 obtain⟨es,eh,ad,ae⟩:=h.e;have aj:s7 l (.mp j)=some es:=by simp[s7,ad]
 unfold wI;rw[aj];simp only[Gd af];rw[(Ks af ae 0).1 i ay (fun t aW aS=>by have:=ai t i x aS ay; omega)];simp
theorem kI.put {l:ao} {j:Nat} {b8:List (List B)} (h:kI l j b8) {x:List B} (af:x.length=32) (aD:x∉b8) :∃ c,wJ Tryz.prog l 61 (.mp j) (.aF (aY x)) (.int .i64 (b8.length:Int))=some (l.set j c)/\(∀ l' : ao,l'[j]? = some c->kI l' j (b8++[x])) :=by
 obtain⟨es,eh,ad,ae⟩:=h.e;unfold wJ;simp only[ad,Gd af,(Ks af ae 0).2 aD];exact⟨_,rfl,fun l' dt=>⟨_,_,dt,by have:=ae.snoc af eh; rw[avz] at this; exact this⟩⟩
theorem kI.frame {l l' : ao} {j:Nat} {b8:List (List B)} (h:kI l j b8) (ai:l'[j]? = l[j]?) :kI l' j b8:=by
 obtain⟨es,eh,ad,ae⟩:=h.e;exact⟨es,eh,by rw[ai,ad],ae⟩
theorem kI.lt {l:ao} {j:Nat} {b8:List (List B)} (h:kI l j b8) :j<l.length:=by
 obtain⟨es,eh,ad,ae⟩:=h.e;exact (auk.1 ad).1
theorem aiU {P:Program} {aA:Operand->U} {l:ao} {o:Operand} {k:IntKind} {n:Int} (h:aA o=.int k n) :bT P aA l (.uV (some o))=some (.mp l.length,l++[.map [] 0]) :=by
 show (match asInt (aA o) with | some _=>some (U.mp l.length,l++[aV.map [] 0]) | none=>none)=_;rw[h]; rfl
set_option maxHeartbeats 2000000 in
theorem W0 (g:bp) (aw:gn g) (ai:mJ g.ids.l) {l:ao} {K:U->ao->Prop} (aT:∀ j l',kI l' j g.ids.l->l.length<=j->(∀ c,c<l.length->l'[c]? = l[c]?)->l.length<=l'.length->K (.mp j) l') :
  c0 Tryz.prog GS 71 [cH g] l (c:=⟨K⟩) :=by
 apply bq Tryz.func71 [];have dp:=aw.li;have bS:ce (.aq 32) (aB g.ids)=some (.int .i64 g.ids.l.length) :=by simp[aB]
 simp[cH,bR,bS];rw[aiU (k:=.i64) (n:=g.ids.l.length) (by simp)];simp[bS];refine cl g.ids.l.length (fun k σ l'=>σ 3=.mp (l.length+1)/\σ 11=aB g.ids/\σ 12=.int .i64 g.ids.l.length/\σ 13=.int .i64 k/\kI l' (l.length+1) (g.ids.l.take k)/\(∀ c,c<l.length->l'[c]? = l[c]?)) ?_ ?_
 ·rintro k σ l' ar ⟨a1,jI,lL,lM,lN,iy⟩;obtain⟨σ,rfl⟩:=iE a1 jI lL lM;clear a1 jI lL lM;by_cases bv:k<g.ids.l.length
  ·obtain⟨x,af,cT⟩:=bI bv;have aP:IntKind.i64.wrap ((k:Int)+1)=((k+1:Nat) :Int) :=by rw[IntKind.wrap_i64]; omega
   have hr:cL (.aq 32) (aB g.ids) (.int .i64 (k:Int))=some (.bM (aY x) 0) :=by simp[aB,af]
   have eW:=aw.ids x cT;have bd:=c2 eW;have b5:g.ids.l.take (k+1)=g.ids.l.take k++[x] :=by rw[auP,af]; rfl
   have cR:x∉g.ids.l.take k:=fun hm=>by
    obtain⟨t,aW⟩:=aur.1 hm;have lY:=(auk.1 aW).1;rw[auA] at lY;rw[auI (by omega)] at aW;have:=ai t k x aW af; omega
   have aL:=lN.lt;have v7:kI (l'++[.cells 32 (aY x)]) (l.length+1) (g.ids.l.take k) :=lN.frame (aum aL);obtain⟨c,b3,b9⟩:=v7.put eW cR;have ru:(g.ids.l.take k).length=k:=by rw[auA]; omega
   rw[ru] at b3;obtain⟨X,cn⟩:∃ X,X=aY x:=⟨_,rfl⟩
   rw[<-cn] at hr bd b3;have hE:a8 (rep 32 (.int .u8 0)) 0 X=X:=gq (by rw[bd]; rfl);simp[bv,hr,bd,hE,aul,b3,aP];refine⟨?_,fun c' eB=>?_⟩
   ·rw[b5];exact b9 _ (by rw[auz (by simp; omega)])
   ·rw[auy (by omega),aum (by omega)];exact iy c' eB
  ·have lU:k=g.ids.l.length:=by omega
   rw[lU,auU] at lN;simp[bv];exact aT _ _ lN (by omega) iy (by have:=lN.lt; omega)
 ·simp;refine⟨⟨[],0,by simp,.nil 0⟩,fun c ah=>by rw[aum ah]⟩
inductive qY (ids:List (List B)) (ops:List br) (L:List (List B)) :Nat->Prop
 | start (p:List B) (j:Nat) (av:p∈L) (ai:ids[j]? = some p) :qY ids ops L j
 | step (i:Nat) (p:List B) (j:Nat) (h:qY ids ops L i) (av:p∈eO ops i) (ai:ids[j]? = some p) :qY ids ops L j
theorem qY.mono {ids:List (List B)} {ops:List br} {L Pb:List (List B)} (ak:∀ p∈L,p∈Pb) {i:Nat} (h:qY ids ops L i) :qY ids ops Pb i:=by
 induction h with
 | start p j av ai=>exact .start p j (ak p av) ai
 | step i p j _ av ai aR=>exact .step i p j aR av ai
theorem qY.under {ids:List (List B)} {ops:List br} {L:List (List B)} {i:Nat} (ay:qY ids ops L i) {j:Nat} (h:qY ids ops (eO ops i) j) :qY ids ops L j:=by
 induction h with
 | start p j av ai=>exact .step i p j ay av ai
 | step mw p j _ av ai aR=>exact .step mw p j aR av ai
structure aob (ids:List (List B)) (ops:List br) (L:List (List B)) (S B0:List Bool) :Prop where
 len:B0.length=S.length
 mono:∀ (i:Nat),S[i]? = some true->B0[i]? = some true
 st:∀ p∈L,∀ (j:Nat),ids[j]? = some p->B0[j]? = some true
 new:∀ (i:Nat),B0[i]? = some true->S[i]? = some true\/(qY ids ops L i/\∀ p∈eO ops i,∀ (j:Nat),ids[j]? = some p->B0[j]? = some true)
theorem abm {l:ao} {p:U} {x:List U × Nat} (h:hg l p=some x) :nx p 0=some p:=by
 cases p<;>first | rfl | (exfalso; simp[hg] at h)
theorem IA {l:ao} {a b dj bg:U} (ad:jz l a dj) (ae:jz l b bg) :jz l (.bt [a,b]) (.bt [dj,bg]) :=by
 refine .bt _ _ rfl fun j x OS af pl=>?_
 rcases j with _ | _ | j
 ·simp at af pl; subst af pl; exact ad
 ·simp at af pl; subst af pl; exact ae
 ·simp at af
def p3 (g:bp) (x:List B) (m:Nat) :Bool:=decide (∀ j,j<m->x∉(jS g.ops.l j).bi.l)
theorem ac4 (g:bp) (x:List B) (m:Nat) :p3 g x (m+1)=(p3 g x m&&!decide (x∈(jS g.ops.l m).bi.l)) :=by
 unfold p3;rw[awS,aus,decide_eq_true_eq,decide_eq_true_eq,av4,decide_eq_false_iff_not];constructor
 ·intro h; exact⟨fun j ai=>h j (by omega),h m (by omega)⟩
 ·rintro⟨ad,ae⟩ j ai;by_cases e:j=m
  ·rw[e]; exact ae
  ·exact ad j (by omega)
abbrev lR (g:bp) (x:List B) :Bool:=p3 g x g.ops.l.length
def h7 (g:bp) :List (List B) :=g.ids.l.filter (lR g)
structure Z6 (g:bp) (fk:ao) (w:U) (seen:List Bool) (k:Nat) (σ:bc) (l:ao) :Prop where
 aK:σ 1=w
 aU:σ 2=.ptr fk.length 0 2
 e4:σ 8=.int .i64 seen.length
 gZ:σ 9=.int .i64 k
 ex:∃ v,σ 5=v/\cI 32 aY (fk++[.cells 2 [aB g.ids,bx g.ops]]) l v (qw g.ids.l seen k) (qw g.ids.l seen k).isEmpty
set_option maxHeartbeats 4000000 in
theorem aiZ (g:bp) (aw:gn g) {fk:ao} {w:U} {gd:Nat} {seen:List Bool} (ak:seen.length=g.ids.l.length) (aX:bK 1 fk w gd (seen.map oo)) (AF:gd<fk.length) {K:U->ao->Prop}
  (aT:∀ v l',cI 32 aY fk l' v (qw g.ids.l seen seen.length) (qw g.ids.l seen seen.length).isEmpty->K v l') :
  c0 Tryz.prog GS 206 [cH g,w] fk (c:=⟨K⟩) :=by
 apply bq Tryz.func206 [];have az:cw=140737488355328:=rfl;have dp:=aw.li;have bS:ce (.aq 1) w=some (.int .i64 seen.length) :=by have:=aX.len; simpa using this
 simp[cH,bR,bS];refine cl seen.length (Z6 g fk w seen) ?_ ⟨by simp,by simp,by simp,by simp,.aH,by simp,cI.nil⟩;rintro k σ l ar ⟨aK,aU,e4,gZ,v,bo,eV⟩;obtain⟨σ,rfl⟩:=lC aK aU bo e4 gZ;clear aK aU bo e4 gZ;have cy:l[fk.length]? = some (.cells 2 [aB g.ids,bx g.ops]) :=by rw[eV.same _ (by simp)]; simp
 have wq:bK 1 l w gd (seen.map oo) :=aX.lg (.inr (by rw[eV.same _ (by simp; omega),aum AF]));by_cases bv:k<seen.length
 ·obtain⟨b,ag,_⟩:=bI bv;obtain⟨x,af,cT⟩:=bI (l:=g.ids.l) (k:=k) (by omega);have aP:IntKind.i64.wrap ((k:Int)+1)=((k+1:Nat) :Int) :=by rw[IntKind.wrap_i64]; omega
  obtain⟨p,cs,o,jW,jX,tv,qP⟩:=wq.q.get (k:=.i64) (i:=k) (e:=oo b) (by rw[auq,ag]; rfl);have sb:cs[o]? = some (.bool b) :=by
   have ae:((cs.drop o).take 1)[0]? = (oo b)[0]?:=by rw[qP]
   rw[auI (by omega)] at ae;simpa [oo] using ae
  have hr:cL (.aq 32) (aB g.ids) (.int .i64 (k:Int))=some (.bM (aY x) 0) :=by simp[aB,af]
  have DS:seen.getD k false=b:=by rw[auB,ag]; rfl
  have bd:=c2 (aw.ids x cT);have j6:=Wo g.ids.l seen k;have DT:=M8 g.ids.l seen k;have fV:=abm jX;rw[DS] at DT;cases b with
  | false=>
   simp at DT;simp[bv,jW,jX,sb,fV,aP];exact⟨by simp,by simp,by simp,by simp,v,by simp,by rw[DT]; exact eV⟩
  | true=>
   rw[if_pos rfl,gi af] at DT;obtain⟨a6,Er,a2,af6,Rc⟩:=ajK (by_:=32) (eV.more [aV.cells 32 (aY x)]) x (b:=l.length) (by simp) bd (by omega) (by omega) (by rw[az]; omega);obtain⟨X,cn⟩:∃ X,X=aY x:=⟨_,rfl⟩
   rw[<-cn] at hr bd a2;have hE:a8 (rep 32 (.int .u8 0)) 0 X=X:=gq (by rw[bd]; rfl);simp[bv,jW,jX,sb,fV,cy,hr,bd,hE,aul,a2];refine c7.cd ?_;simp[bv,aP];exact⟨by simp,by simp,by simp,by simp,a6,by simp,by rw[DT,show (qw g.ids.l seen k++[x]).isEmpty=false by simp]; exact af6⟩
 ·have lU:k=seen.length:=by omega
  subst lU;simp[bv];exact aT _ _ (eV.base (by simp) (fun b ag=>aum ag))
def rc (n k:Nat) :List Bool:=(List.range n).map fun i=>decide (i<k)
theorem acL (n k:Nat) :(rc n k).length=n:=by simp[rc]
theorem acN (n:Nat) :rc n 0=List.replicate n false:=by
 apply avf ; intro i;unfold rc;by_cases h:i<n
 ·rw[auq,auX h,axk,if_pos h]; simp
 ·rw[auC (by simp; omega),auC (by simp; omega)]
theorem acM {n k:Nat} (h:k<n) :(rc n k).set k true=rc n (k+1) :=by
 apply avf ; intro i;unfold rc;by_cases ay:i<n
 ·by_cases e:k=i
  ·subst e;rw[auz (by simp; omega),auq,auX ay]; simp
  ·rw[auy e,auq,auq,auX ay];simp; omega
 ·rw[auC (by simp; omega),auC (by simp; omega)]
def lQ (g:bp) (q m:Nat) :List Bool:=(List.range g.ids.l.length).map fun i=>p3 g (b1 g.ids.l i) q&&!decide (b1 g.ids.l i∈(jS g.ops.l q).bi.l.take m)
theorem K6 (g:bp) (q m:Nat) :(lQ g q m).length=g.ids.l.length:=by simp[lQ]
theorem aeD (g:bp) :rc g.ids.l.length g.ids.l.length=lQ g 0 0:=by
 unfold rc lQ;refine avO fun i ay=>?_
 rw[auZ] at ay;rw[decide_eq_true ay];simp[p3]
theorem aeB (g:bp) (q:Nat) :lQ g q (jS g.ops.l q).bi.l.length=lQ g (q+1) 0:=by
 unfold lQ;refine avO fun i ay=>?_
 rw[auU,ac4]; simp
theorem aeC {g:bp} (ai:mJ g.ids.l) {q m i:Nat} {p:List B} (av:(jS g.ops.l q).bi.l[m]? = some p) (ay:g.ids.l[i]? = some p) :(lQ g q m).set i false=lQ g q (m+1) :=by
 have dH:=(auk.1 ay).1;apply avf ; intro t;unfold lQ;have b5:(jS g.ops.l q).bi.l.take (m+1)=(jS g.ops.l q).bi.l.take m++[p] :=by rw[auP,av]; rfl
 by_cases aW:t<g.ids.l.length
 ·obtain⟨y,aJ,_⟩:=bI aW;by_cases e:i=t
  ·subst e;rw[auz (by simp; omega),auq,auX aW,b5]; simp[ay]
  ·rw[auy e,auq,auq,auX aW,b5];have bP:y≠p:=fun h=>e (by subst h; exact ai i t y ay aJ)
   simp[aJ,bP]
 ·rw[auC (by simp; omega),auC (by simp; omega)]
theorem Wn (g:bp) :∀ k,k<=g.ids.l.length->qw g.ids.l (lQ g g.ops.l.length 0) k=(g.ids.l.take k).filter (lR g)
 | 0,_=>rfl
 | k+1,ar=>by
  obtain⟨x,af,_⟩:=bI (l:=g.ids.l) (k:=k) (by omega);have ad:(lQ g g.ops.l.length 0).getD k false=lR g x:=by
   rw[auB];unfold lQ;rw[auq,auX (by omega)];simp[gi af,af]
  rw[M8,Wn g k (by omega),ad,gi af,auP,af,avV];cases h:lR g x<;>simp[h]
structure sn (g:bp) (hd b:Nat) (S:List Bool) (l:ao) :Prop where
 cy:l[0]? = some (.cells 2 [aB g.ids,bx g.ops])
 p:kI l hd g.ids.l
 w:bK 1 l (.aq 1 b 0 g.ids.l.length g.ids.l.length g.ids.l.length) b (S.map oo)
 ag:b<l.length
 hm:hd<b
 aI:0<hd
theorem sn.more {g:bp} {hd b:Nat} {S:List Bool} {l:ao} (h:sn g hd b S l) (c:aV) :sn g hd b S (l++[c]) :=
 ⟨by rw[aum (by have:=h.ag; omega)]; exact h.cy,h.p.frame (aum h.p.lt),h.w.more _,by have:=h.ag; simp; omega,h.hm,h.aI⟩
theorem sn.set {g:bp} {hd b:Nat} {S:List Bool} {l:ao} (h:sn g hd b S l) {i:Nat} {v:Bool} (ay:i<S.length) :
  ∃ p l',cL (.aq 1) (.aq 1 b 0 g.ids.l.length g.ids.l.length g.ids.l.length) (.int .i64 (i:Int))=some p/\l9 1 l p (.bool v)=some l'/\sn g hd b (S.set i v) l':=by
 obtain⟨p,l',a2,a9,bV,ey,go⟩:=WP (enc:=oo) (x:=v) (X:=.bool v) rfl h.w (fun _ _=>rfl) ay rfl;have ad:=h.hm;have ae:=h.aI;exact⟨p,l',a2,a9,by rw[go 0 (by omega)]; exact h.cy,h.p.frame (go hd (by omega)),bV,by rw[ey]; exact h.ag,h.hm,h.aI⟩
def xw (g:bp) :dv:=if gp g=0 then dm (h7 g) else none
set_option maxHeartbeats 8000000 in
theorem anx (g:bp) (aw:gn g) :bz Tryz.prog GS 177 [cH g] (.bt [aB (xw g),.int .i64 (gp g)]) :=by
 refine bX Tryz.checked.mixed bn ?_;apply bq Tryz.func177 [];have az:cw=140737488355328:=rfl;have fj:=dd g.ids;have dJ:=jE g.ops;have aqz:=aw.cJ;have aqx:=aw.li;have ei:=Fi g aw;have cM:ce (.aq 11) (bx g.ops)=some (.int .i64 g.ops.l.length) :=by simp[bx]
 have dp:ce (.aq 32) (aB g.ids)=some (.int .i64 g.ids.l.length) :=by simp[aB]
 unfold cH bR at ei;simp[cH,bR];refine a4 ei (by simp[a5,U.closed,fj,dJ]) ?_;by_cases aI:gp g=0
 ·have V:=nW aI;have nH:=qs V.di;simp[aI];refine W0 g aw nH ?_;intro hd l1 lN yq iy yw;have cy:l1[0]? = some (aV.cells 2 [aB g.ids,bx g.ops]) :=by rw[iy 0 (by simp)]; rfl
  obtain⟨a2,a9⟩:=Ew (z:=1) (by_:=1) (n:=g.ids.l.length) (k:=.i64) (k':=.i64) (zero:=[U.bool false]) (l:=l1) rfl (by omega) (by rw[az]; omega);obtain⟨N,fe⟩:∃ N,N=g.ids.l.length:=⟨_,rfl⟩
  simp only[avX] at a2 a9;have e5:sn g hd l1.length (rc g.ids.l.length 0) (l1++[.cells g.ids.l.length (dC [.bool false] g.ids.l.length)]) :=by
   have ad:l1.length ≥ 1:=by simp at yw; omega
   refine⟨by rw[aum (by omega)]; exact cy,lN.frame (aum lN.lt),?_,by simp,lN.lt,by simp at yq; omega⟩;rw[acN,awE]; exact a9
  simp[cy,dp,a2];obtain⟨b,ag⟩:∃ b,b=l1.length:=⟨_,rfl⟩
  rw[<-ag] at e5 ⊢;refine cl g.ids.l.length (fun k σ l=>σ 1=.ptr 0 0 2/\σ 5=.mp hd/\σ 6=.aq 1 b 0 g.ids.l.length g.ids.l.length g.ids.l.length/\σ 24=.int .i64 g.ids.l.length/\σ 25=.int .i64 k/\sn g hd b (rc g.ids.l.length k) l) ?_ ⟨by simp,by simp,by simp,by simp,by simp,e5⟩;clear e5 a2 a9 cy iy lN;rintro k σ l ar ⟨aK,bo,cu,v0,ua,e5⟩;obtain⟨σ,rfl⟩:=lC aK bo cu v0 ua;clear aK bo cu v0 ua;simp;refine pm (fun h=>?_) (fun h=>?_)
  ·simp only[decide_eq_true_eq] at h;have aP:IntKind.i64.wrap ((k:Int)+1)=((k+1:Nat) :Int) :=by rw[IntKind.wrap_i64]; omega
   obtain⟨p,l',cY,hX,kD⟩:=e5.set (i:=k) (v:=true) (by rw[acL]; omega);rw[acM (by omega)] at kD;simp[cY,hX,aP];exact⟨by omega,kD⟩
  ·have rq:k=g.ids.l.length:=by simp at h; omega
   rw[rq,aeD] at e5;have cy:=e5.cy;simp[h,cy,cM];refine cl g.ops.l.length (fun q σ l=>σ 1=.ptr 0 0 2/\σ 5=.mp hd/\σ 6=.aq 1 b 0 g.ids.l.length g.ids.l.length g.ids.l.length/\σ 33=bx g.ops/\σ 34=.int .i64 g.ops.l.length/\σ 35=.int .i64 q/\sn g hd b (lQ g q 0) l) ?_ ⟨by simp,by simp,by simp,by simp,by simp,by simp,e5⟩;clear e5 cy;rintro q σ l a7 ⟨aK,bo,cu,re,rf,CN,e5⟩;obtain⟨σ,rfl⟩:=xm aK bo cu re rf CN;clear aK bo cu re rf CN;simp;refine pm (fun ae=>?_) (fun ae=>?_)
   ·simp only[decide_eq_true_eq] at ae;obtain⟨o,au,en⟩:=bI (l:=g.ops.l) (k:=q) (by omega);have lV:=aw.ops o en;have aP:IntKind.i64.wrap ((q:Int)+1)=((q+1:Nat) :Int) :=by rw[IntKind.wrap_i64]; omega
    have bY:cL (.aq 11) (bx g.ops) (.int .i64 (q:Int))=some (.bM (a3 o) 0) :=by simp[bx,au]
    have cS:(a3 o).length=11:=rfl;have kO:∀ h,(a3 o)[1]'h=aB o.bi:=fun _=>rfl
    have gb:ce (.aq 32) (aB o.bi)=some (.int .i64 o.bi.l.length) :=by simp[aB]
    obtain⟨O,eu⟩:∃ O,O=a3 o:=⟨_,rfl⟩
    rw[<-eu] at bY cS kO;have kU:a8 [U.int .u32 0,.aH,.int .u64 0,.int .u8 0,.str [],.int .u8 0,.int .i64 0,.int .u64 0,.str [],.int .u32 0,.int .u32 0] 0 O=O:=gq (by rw[cS]; rfl);have W3:∀ c:aV,(l++[c])[l.length]? = some c:=fun c=>avo
    simp[bY,cS,kO,kU,gb,W3,aul];refine cl o.bi.l.length (fun m σ l=>σ 1=.ptr 0 0 2/\σ 5=.mp hd/\σ 6=.aq 1 b 0 g.ids.l.length g.ids.l.length g.ids.l.length/\σ 33=bx g.ops/\σ 34=.int .i64 g.ops.l.length/\σ 35=.int .i64 q/\σ 40=aB o.bi/\σ 41=.int .i64 o.bi.l.length/\σ 42=.int .i64 m/\sn g hd b (lQ g q m) l) ?_ ⟨by simp,by simp,by simp,by simp,by simp,by simp,by simp,by simp,by simp,e5.more _⟩;clear e5 W3;rintro m σ l hm ⟨aK,bo,cu,re,rf,CN,Af,Ag,SV,e5⟩;obtain⟨σ,rfl⟩:=Y7 aK bo cu re rf CN Af Ag SV;clear aK bo cu re rf CN Af Ag SV;simp;refine pm (fun aj=>?_) (fun aj=>?_)
    ·simp only[decide_eq_true_eq] at aj;obtain⟨p,av,gS⟩:=bI (l:=o.bi.l) (k:=m) (by omega);have hD:=lV.ids p gS;have gE:=c2 hD;have aqI:=lV.len;have bw:IntKind.i64.wrap ((m:Int)+1)=((m+1:Nat) :Int) :=by rw[IntKind.wrap_i64]; omega
     obtain⟨i,ay⟩:=aur.1 (V.ajW o en p gS);have dH:=(auk.1 ay).1;have Dw:cL (.aq 32) (aB o.bi) (.int .i64 (m:Int))=some (.bM (aY p) 0) :=by simp[aB,av]
     have Gx:=e5.more (.cells 32 (aY p));have ru:=Gx.p.look nH hD ay;obtain⟨atf,l',cY,hX,kD⟩:=Gx.set (i:=i) (v:=false) (by rw[K6]; omega);rw[aeC nH (by rw[ta au]; exact av) ay] at kD;obtain⟨P,lN⟩:∃ P,P=aY p:=⟨_,rfl⟩
     rw[<-lN] at Dw gE ru hX;have agJ:a8 (rep 32 (U.int .u8 0)) 0 P=P:=gq (by rw[gE]; rfl);simp[Dw,gE,agJ,ru,cY,hX,bw,aul];exact⟨by omega,kD⟩
    ·have ku:m=o.bi.l.length:=by simp at aj; omega
     have kv:=aeB g q;rw[ta au] at kv;rw[ku,kv] at e5;simp[aj,aP];exact⟨by omega,e5⟩
   ·have ago:q=g.ops.l.length:=by simp at ae; omega
    rw[ago] at e5;have cy:=e5.cy;simp[ae,cy];have aX:=e5.w;refine aiZ g aw (seen:=lQ g g.ops.l.length 0) (K6 _ _ _) aX e5.ag (fun v l' eV=>?_);simp;have LA:qw g.ids.l (lQ g g.ops.l.length 0) (lQ g g.ops.l.length 0).length=h7 g:=by
     rw[K6,Wn g _ (aun _),auU]; rfl
    rw[LA] at eV;refine IA ?_ (aQ (by rw[aI]) rfl);exact eV.rd fE (xw g) (by unfold xw; rw[if_pos aI,qI]) (by unfold xw; rw[if_pos aI,ec])
 ·have yk:xw g=none:=by unfold xw; rw[if_neg aI]
  rw[yk];simp[aI];exact aQ rfl rfl
def mc (l l' : ao) :Prop:=l.length<=l'.length/\∀ b,b<l.length->l'[b]? = l[b]?
theorem mc.refl (l:ao) :mc l l:=⟨aun _,fun _ _=>rfl⟩
theorem mc.trans {l m n:ao} (h:mc l m) (ae:mc m n) :mc l n:=⟨au7 h.1 ae.1,fun b ag=>by rw[ae.2 b (avU ag h.1),h.2 b ag]⟩
def xD (f:FuncId) (mR:List U) (l:ao) (xs:List (List B)) (c:List B->Bool) :Prop:=
 ∀ p∈xs,∀ l1,mc l l1->∀ K:U->ao->Prop,(∀ bj,mc l1 bj->K (.bool (c p)) bj)->c0 Tryz.prog GS f (.aF (aY p) ::mR) l1 (c:=⟨K⟩)
theorem ahi (s:dv) (ak:eQ s) (bS:s.l.length<=1000000) {f:FuncId} {mR:List U} {c:List B->Bool} (aE:jH Tryz.prog f=true) {l:ao} (h:xD f mR l s.l c) {K:U->ao->Prop}
  (aT:∀ (n:Int) l',mc l l'->(0<=n<->s.l.any c=true)->K (.int .i64 n) l') :c0 Tryz.prog GS 101 [aB s,.fn f [] mR] l (c:=⟨K⟩) :=by
 apply bq Tryz.func101 [];have ux:ce (.aq 32) (aB s)=some (.int .i64 s.l.length) :=by simp[aB]
 simp[ux];refine cl s.l.length (fun k σ l1=>σ 0=aB s/\σ 1=.fn f [] mR/\σ 7=.int .i64 s.l.length/\σ 8=.int .i64 k/\mc l l1/\∀ j y,j<k->s.l[j]? = some y->c y=false) ?_ ⟨by simp,by simp,by simp,by simp,mc.refl _,fun j _ ai=>by omega⟩;rintro k σ l1 ar ⟨cb,aK,dU,e4,am,cR⟩;obtain⟨σ,rfl⟩:=iE cb aK dU e4;clear cb aK dU e4;simp;refine pm (fun ae=>?_) (fun ae=>?_)
 ·simp only[decide_eq_true_eq] at ae;obtain⟨x,af,cT⟩:=bI (l:=s.l) (k:=k) (by omega);have bd:=c2 (ak x cT);have aP:IntKind.i64.wrap ((k:Int)+1)=((k+1:Nat) :Int) :=by rw[IntKind.wrap_i64]; omega
  have bY:cL (.aq 32) (aB s) (.int .i64 (k:Int))=some (.bM (aY x) 0) :=by simp[aB,af]
  have ox:=h x cT l1 am;obtain⟨X,cn⟩:∃ X,X=aY x:=⟨_,rfl⟩
  rw[<-cn] at bY bd ox;simp[bY,bd,aul];refine⟨aE,ox _ fun bj mm=>?_⟩;cases ah:c x with
  | true=>
   simp;exact aT _ _ (am.trans mm) ⟨fun _=>awc.2 ⟨x,cT,ah⟩,fun _=>by omega⟩
  | false=>
   simp[aP];refine⟨ae,am.trans mm,fun j y ai aJ=>?_⟩;by_cases gR:j=k
   ·rw[gR,af] at aJ; obtain rfl:=Option.some.inj aJ; exact ah
   ·exact cR j y (by omega) aJ
 ·simp[ae];have rq:k=s.l.length:=by simp at ae; omega
  refine aT _ _ am ⟨fun h=>by omega,fun h=>?_⟩;obtain⟨y,aJ,kX⟩:=awc.1 h;obtain⟨j,ai⟩:=aur.1 aJ;rw[cR j y (by rw[rq]; exact (auk.1 ai).1) ai] at kX; cases kX
theorem R6 (s:dv) (ak:eQ s) (bS:s.l.length<=1000000) {f:FuncId} {mR:List U} {c:List B->Bool} (aE:jH Tryz.prog f=true) {l:ao} (h:xD f mR l s.l c) {K:U->ao->Prop}
  (aT:∀ l',mc l l'->K (.bool (s.l.any c)) l') :c0 Tryz.prog GS 97 [aB s,.fn f [] mR] l (c:=⟨K⟩) :=by
 apply bq Tryz.func97 [];simp;refine ahi s ak bS aE h fun n l' am aD=>?_
 simp;have:decide (0<=n)=s.l.any c:=by
  rw[awS,decide_eq_true_eq]; exact aD
 rw[this];exact aT _ am
end Op

end Go.b0

namespace Go.b0
open Go Go.Proofs
set_option maxRecDepth 100000
theorem abd {P:Program} {G:Nat->U} {f:FuncId} {args args2:List U} {h ae h' : aN} {r:U} (ah:qS P G f args2 ae r h') (iG:nr h ae) (al:args2.length=args.length)
  (ap:∀ (j:Nat) (c b9:U),args[j]? = some c->args2[j]? = some b9->np h ae c b9) :qS P G f args h r h':=by
 intro R B w μ vs rel g h9 jm;refine (ah R B w μ vs (iG.rel rel) (g.ext (iG.ext w μ)) (by omega) (fun j b9 v ai ga=>?_)).mono ?_
 ·have eK:=(auk.1 ai).1;obtain⟨c,m1⟩:∃ c,args[j]? = some c:=⟨_,auo (by omega)⟩
  exact iG.pH rel (ap j c b9 m1 ai) (jm j c v m1 ga)
 ·rintro e w' ⟨v,μ',rfl,aP,dh,m7⟩;exact⟨v,μ',rfl,(iG.ext w μ).trans aP,dh,m7⟩
theorem FR {P:Program} {G:Nat->U} (fH:P.follows .mixedOrders=true) (ij:∀ g,(G g).closed=true) {f:FuncId} {args args2:List U} {l bj:ao} {K:U->ao->Prop} (iG:nr (bb l) (bb bj)) (dO:l.length<=bj.length) (al:args2.length=args.length)
  (ap:∀ (j:Nat) (c b9:U),args[j]? = some c->args2[j]? = some b9->np (bb l) (bb bj) c b9) (h:c0 P G f args2 bj (c:=⟨K⟩)) :c0 P G f args l (c:=⟨K⟩) :=by
 obtain⟨r,l',sD,AI,ar⟩:=h;exact⟨r,l',.ext (abd (E5 fH ij sD) iG al ap),au7 dO AI,ar⟩
namespace Op
theorem Io {α:Type} {z:Nat} {enc:α->List U} {l:ao} {v:U} {j:Nat} {xs:List α} (s:db α) (h:bK z l v j (xs.map enc)) (aD:cF v=s.isNone) (ak:s.l=xs) :
  ∃ bj,nr (bb l) (bb bj)/\np (bb l) (bb bj) v (cE z enc s)/\bj.length=l.length/\∀ b,(v=.aH\/b≠j)->bj[b]? = l[b]?:=by
 cases s with
 | none=>
  have ap:v=.aH:=kZ.1 (by rw[aD]; rfl);subst ap;exact⟨l,⟨rfl,fun b=>.inl rfl⟩,.same _,rfl,fun b _=>rfl⟩
 | some a=>
  have ap:cF v=false:=by rw[aD]; rfl
  have rD:a=xs:=ak;obtain⟨ad,ae⟩:=aj9 h ap;refine⟨l.set j .dead,ad,by rw[rD]; exact ae,by simp,fun b ag=>?_⟩;rcases ag with e | e
  ·rw[e] at ap; cases ap
  ·exact auy (Ne.symm e)
end Op

end Go.b0

namespace Go.b0
open Go Go.Proofs
set_option maxRecDepth 100000
namespace Op
open hl
theorem Pw {α:Type} {enc:α->List U} {z by_:Nat} (l:ao) (b:Nat) (ow:l[b]? = some (.cells 0 [])) (s:db α) (h:∀ x∈s.l,(enc x).length=z) (aI:z≠0) (ag:by_≠0) (az:s.l.length*by_<=cw) :
  gX l z by_ (.aq z b 0 0 0 0) (cE z enc s)=some (.aq z b 0 s.l.length s.l.length (s.l.length*z),l.set b (.cells (s.l.length*z) (s.l.map enc).flatten)) :=by
 have hp:=x2 h;unfold gX;rw[vS];simp only[];unfold jB;by_cases ax:s.l.length=0
 ·have aI:s.l=[] :=au4.1 ax;rw[aI];obtain⟨fP,aek⟩:=auk.1 ow;have:l.set b (.cells 0 [])=l:=by rw[<-aek,List.set_getElem_self]
  simp[this]
 ·rw[if_neg ax,if_neg (by omega)];have bP:¬ s.l=[] :=fun h=>ax (by rw[h]; rfl)
  simp[az,aI,ax,bP,ow]
theorem Wc (a:List B) :ib a a=false:=by
 cases h:ib a a with
 | false=>rfl
 | true=>rw[nT,q7] at h; omega
theorem H2 (a b c:List B) (ad:ib a b=true) (ae:ib b c=true) :ib a c=true:=(nT _ _).2 (zY a b c ((nT _ _).1 ad) ((nT _ _).1 ae))
theorem aiL (a b:List B) (bP:a≠b) (h:ib a b=false) :ib b a=true:=by
 rw[nT,Cp];rcases RV a b with ad | ad | ad
 ·rw[(nT a b).2 (by omega)] at h; cases h
 ·exact absurd (zX ad) bP
 ·omega
theorem EW {l:List (List B)} (h:di l=true) :l.Pairwise fun a b=>ib a b=true:=
 avW.2 fun i j ay ai mo=>(nT _ _).2 (qD h mo (auo ay) (auo ai))
theorem Nr {l:List (List B)} (h:l.Pairwise fun a b=>ib a b=true) :di l=true:=IG fun k ar ad=>by
 have ae:=auo ar;have aj:=auo (l:=l) (i:=k - 1) (by omega);rw[gi ae,gi aj];exact (nT _ _).1 ((avW.1 h) (k - 1) k (by omega) ar (by omega))
section
variable {α:Type} {z:Nat} {enc:α->List U}
def gV (s:db α) (k:Nat) :db α:=match s with | none=>none | some a=>some (a.take k)
def jv (s:db α) (k:Nat) :db α:=match s with | none=>none | some a=>some (a.drop k)
theorem mG (s:db α) (k:Nat) :(gV s k).l=s.l.take k:=by cases s<;>simp[gV]
theorem tn (s:db α) (k:Nat) :(jv s k).l=s.l.drop k:=by cases s<;>simp[jv]
theorem YN {s:db α} {k:Nat} (h:k<=s.l.length) :fl (.aq z) (cE z enc s) none (some (.int .i64 (k:Int))) none=some (cE z enc (gV s k)) :=by
 cases s with
 | none=>
  have:k=0:=by simpa using h
  subst this; rfl
 | some a=>exact Yl (z:=z) (enc:=enc) (l:=a) (k:=.i64) (i:=(k:Int)) (by omega) (by have:k<=a.length:=h; omega)
theorem Ot {s:db α} {k:Nat} (h:k<=s.l.length) :fl (.aq z) (cE z enc s) (some (.int .i64 (k:Int))) none none=some (cE z enc (jv s k)) :=by
 cases s with
 | none=>
  have:k=0:=by simpa using h
  subst this; rfl
 | some a=>exact Yi (z:=z) (enc:=enc) (l:=a) (k:=.i64) (i:=(k:Int)) (by omega) (by have:k<=a.length:=h; omega)
theorem akv {by_:Nat} {l:ao} {b c k:Nat} {s:db α} {x:α} (ag:l[b]? = some (.cells 0 [])) (ah:l[c]? = some (.cells z (enc x))) (aej:b≠c) (ar:k<=s.l.length) (ak:∀ y∈s.l,(enc y).length=z) (af:(enc x).length=z) (aI:z≠0) (dQ:by_≠0) (dL:(s.l.length+1)*by_<=cw) :
  gX l z by_ (.aq z b 0 0 0 0) (cE z enc (gV s k))=some (.aq z b 0 k k (k*z),l.set b (.cells (k*z) ((s.l.take k).map enc).flatten)) ∧
  gX (l.set b (.cells (k*z) ((s.l.take k).map enc).flatten)) z by_ (.aq z b 0 k k (k*z)) (.aq z c 0 1 1 z)=some (.aq z b 0 (k+1) (k+1) ((k+1)*z),l.set b (.cells ((k+1)*z) ((s.l.take k++[x]).map enc).flatten)) ∧
  gX (l.set b (.cells ((k+1)*z) ((s.l.take k++[x]).map enc).flatten)) z by_ (.aq z b 0 (k+1) (k+1) ((k+1)*z)) (cE z enc (jv s k)) =
   some (.aq z b 0 (nQ s.l k x).length (nQ s.l k x).length ((nQ s.l k x).length*z),l.set b (.cells ((nQ s.l k x).length*z) ((nQ s.l k x).map enc).flatten)) :=by
 have fP:=b6 ag;have bv:(s.l.take k).length=k:=by rw[auA]; omega
 have Ml:∀ y∈s.l.take k,(enc y).length=z:=fun y aJ=>ak y (auG aJ)
 have dO:k*by_<=cw:=au7 (aup _ (by omega)) dL;have He:(k+1)*by_<=cw:=au7 (aup _ (by omega)) dL;refine⟨?_,?_,?_⟩
 ·have:=Pw (enc:=enc) (by_:=by_) l b ag (gV s k) (by rw[mG]; exact Ml) aI dQ (by rw[mG,bv]; exact dO);rw[mG,bv] at this;exact this
 ·have:=Px (l:=l.set b (.cells (k*z) ((s.l.take k).map enc).flatten)) (z:=z) (by_:=by_) (b:=b) (n:=k) (m:=1) (sz:=k*z) (es:=(s.l.take k).map enc) (xs:=[enc x]) (x:=.aq z c 0 1 1 z)
   (auz fP) (by simp[dD,auy aej,ah,af,aul]) (by rw[auw,bv]) rfl rfl (fun e am=>by obtain⟨y,aJ,rfl⟩:=auR.1 am; exact Ml y aJ) aI dQ He
  rw[this,List.set_set];simp
 ·have iJ:(jv s k).l.length=s.l.length - k:=by rw[tn,avh]
  have aD:k+1+(s.l.length - k)=(nQ s.l k x).length:=by rw[HQ]; omega
  have:=Px (l:=l.set b (.cells ((k+1)*z) ((s.l.take k++[x]).map enc).flatten)) (z:=z) (by_:=by_) (b:=b) (n:=k+1) (m:=s.l.length - k) (sz:=(k+1)*z) (es:=(s.l.take k++[x]).map enc) (xs:=(jv s k).l.map enc) (x:=cE z enc (jv s k))
   (auz fP) (by rw[vS,iJ]) (by rw[auw,auu,bv]; rfl) (by rw[auw,iJ]) rfl (fun e am=>by
    obtain⟨y,aJ,rfl⟩:=auR.1 am;rcases avi.1 aJ with h | h
    ·exact Ml y h
    ·rw[avk.1 h]; exact af) aI dQ (by rw[aD,HQ]; exact dL)
  rw[this,List.set_set,aD,tn,<-auH];unfold nQ;simp
end
theorem R0 (l:List (List B)) (x:List B) :i2 l x<=l.length:=by unfold i2; exact (List.takeWhile_sublist _).length_le
theorem J3 {x:List B}:∀ {l:List (List B)} {k:Nat} {y:List B},k<i2 l x->l[k]? = some y->cg y x<0
 | [],k,y,_,h=>by simp at h
 | a::l,k,y,ar,h=>by
  unfold i2 at ar;rw[awv] at ar;by_cases aC:cg a x<0
  ·cases k with
   | zero=>simp at h; subst h; exact aC
   | succ k=>
    rw[decide_eq_true aC] at ar;simp at ar h;exact J3 (l:=l) (by unfold i2; exact ar) h
  ·rw[decide_eq_false aC] at ar; simp at ar
theorem J2 {x:List B}:∀ {l:List (List B)} {y:List B},l[i2 l x]? = some y->¬ cg y x<0
 | [],y,h=>by simp at h
 | a::l,y,h=>by
  unfold i2 at h;rw[awv] at h;by_cases aC:cg a x<0
  ·rw[decide_eq_true aC] at h;simp at h;exact J2 (l:=l) (by unfold i2; exact h)
  ·rw[decide_eq_false aC] at h; simp at h; subst h; exact aC
theorem alt {l:List (List B)} {x:List B} (h:di l=true) (af:x∉l) :di (nQ l (i2 l x) x)=true:=by
 have av:=EW h;have dO:=R0 l x;refine Nr ?_;unfold nQ;have aL:∀ y∈l.take (i2 l x),ib y x=true:=fun y aJ=>by
  obtain⟨k,ar⟩:=aur.1 aJ;have bv:=(auk.1 ar).1;rw[auA] at bv;rw[auI (by omega)] at ar;exact (nT _ _).2 (J3 (by omega) ar)
 have sE:∀ y∈l.drop (i2 l x),ib x y=true:=fun y aJ=>by
  have eL:=avL aJ;obtain⟨k,ar⟩:=aur.1 aJ;rw[auY] at ar;obtain⟨z,ax,AZ⟩:=bI (l:=l) (k:=i2 l x) (by have:=(auk.1 ar).1; omega);have ad:ib x z=true:=aiL z x (fun e=>af (by rw[<-e]; exact AZ)) (by
   cases ae:ib z x with
   | false=>rfl
   | true=>exact absurd ((nT _ _).1 ae) (J2 ax))
  by_cases jM:k=0
  ·subst jM; rw[awA,ax] at ar; obtain rfl:=Option.some.inj ar; exact ad
  ·exact H2 _ _ _ ad ((nT _ _).2 (qD h (show i2 l x<i2 l x+k by omega) ax ar))
 rw[awT];refine⟨av.sublist (awH _ _),aw4.2 ⟨sE,av.sublist (List.drop_sublist _ _)⟩,fun a aC b ag=>?_⟩;rcases avn.1 ag with e | e
 ·rw[e]; exact aL a aC
 ·exact H2 _ _ _ (aL a aC) (sE b e)
theorem aiK {l:List (List B)} (h:l.Pairwise fun a b=>ib a b=true) :l.Nodup:=h.imp fun {a b} h e=>by subst e; rw[Wc] at h; cases h
def m9 (l:List (List B)) (x:List B) :List (List B) :=if l[i2 l x]? = some x then l else nQ l (i2 l x) x
def n9 (l:List (List B)) :Nat->List (List B)
 | 0=>[]
 | k+1=>m9 (n9 l k) (b1 l k)
def BC (l:List (List B)) :List (List B) :=n9 l l.length
theorem ahm {l:List (List B)} {x y:List B}:y∈m9 l x<->y=x\/y∈l:=by
 unfold m9;split
 ·rename_i h;exact⟨.inr,fun ae=>ae.elim (fun e=>by rw[e]; exact aut h) id⟩
 ·exact Vi
theorem ahl (l:List (List B)) (x:List B) :(m9 l x).length<=l.length+1:=by
 unfold m9;split
 ·omega
 ·rw[HQ]; omega
theorem abD {l:List (List B)} (h:di l=true) {x:List B} (af:x∈l) :l[i2 l x]? = some x:=by
 obtain⟨k,ar⟩:=aur.1 af;rw[Cr h ar]; exact ar
theorem ahn {l:List (List B)} (h:di l=true) (x:List B) :di (m9 l x)=true:=by
 unfold m9;split
 ·exact h
 ·rename_i ae;exact alt h fun af=>ae (abD h af)
theorem Oi {l:List (List B)} {y:List B}:∀ {k:Nat},k<=l.length->(y∈n9 l k<->y∈l.take k)
 | 0,_=>by simp[n9]
 | k+1,ar=>by
  obtain⟨x,af,_⟩:=bI (l:=l) (k:=k) (by omega);show y∈m9 _ _<->_;rw[ahm,Oi (by omega),auP,af,gi af,avi];simp; exact or_comm
theorem Oh {l:List (List B)}:∀ {k:Nat},(n9 l k).length<=k
 | 0=>by simp[n9]
 | k+1=>au7 (ahl _ _) (by have:=Oh (l:=l) (k:=k); omega)
theorem Yt {l:List (List B)}:∀ {k:Nat},di (n9 l k)=true
 | 0=>by unfold n9 di; exact decide_eq_true fun k ar=>by simp at ar
 | k+1=>ahn Yt _
theorem Ys {l:List (List B)} {y:List B}:y∈BC l<->y∈l:=by unfold BC; rw[Oi (aun _),auU]
theorem amh (l:List (List B)) :di (BC l)=true:=Yt
theorem YM {α:Type} {l:List α} (h:l≠[]) :dm l=some l:=by cases l with | nil=>exact absurd rfl h | cons=>rfl
set_option maxHeartbeats 8000000 in
theorem ak1 (s:dv) (ak:eQ s) (al:s.l.length<=1000000) :bz Tryz.prog GS 79 [aB s] (aB (dm (BC s.l))) :=by
 refine bX Tryz.checked.mixed bn ?_;apply bq Tryz.func79 [[],[],[[0],[1],[2],[3],[5],[6],[7],[8],[9],[11],[12],[13],[4,9,8],[10]]];have az:cw=140737488355328:=rfl;have ux:ce (.aq 32) (aB s)=some (.int .i64 s.l.length) :=by simp[aB]
 simp;refine cl s.l.length (fun k σ l=>σ 0=aB s/\σ 3=aB (dm (n9 s.l k))/\σ 4=.int .i64 k) ?_ ⟨by simp,by simp[n9]; rfl,by simp⟩;rintro k σ l ar ⟨cb,a1,bl⟩;obtain⟨σ,rfl⟩:=lB cb a1 bl;clear cb a1 bl;have aP:IntKind.i64.wrap ((k:Int)+1)=((k+1:Nat) :Int) :=by rw[IntKind.wrap_i64]; omega
 by_cases bv:k<s.l.length
 ·obtain⟨x,af,cT⟩:=bI bv;have eW:=ak x cT;have bd:=c2 eW;have eX:=fE x;have bY:cL (.aq 32) (aB s) (.int .i64 (k:Int))=some (.bM (aY x) 0) :=by simp[aB,af]
  have eu:∀ y∈n9 s.l k,y.length=32:=fun y aJ=>ak y (auG ((Oi (avY bv)).1 aJ))
  have mY:=Oh (l:=s.l) (k:=k);have kv:n9 s.l (k+1)=m9 (n9 s.l k) x:=by show m9 _ (b1 s.l k)=_; rw[gi af]
  obtain⟨O,KN⟩:∃ O,O=dm (n9 s.l k) :=⟨_,rfl⟩
  have To:O.l=n9 s.l k:=by rw[KN,ec]
  have adS:dm O.l=O:=by rw[To,KN]
  rw[<-To] at eu mY kv;have cM:ce (.aq 32) (aB O)=some (.int .i64 O.l.length) :=by simp[aB]
  obtain⟨c,ah⟩:∃ c,c=i2 O.l x:=⟨_,rfl⟩
  have ea:c<=O.l.length:=by rw[ah]; exact R0 _ _
  have Vc:∀ (j:Nat) (y:List B),O.l[j]? = some y->cL (.aq 32) (aB O) (.int .i64 (j:Int))=some (.bM (aY y) 0) :=fun j y aJ=>by simp[aB,aJ]
  obtain⟨X,cn⟩:∃ X,X=aY x:=⟨_,rfl⟩
  rw[<-cn] at bd eX bY;have fG:X.take 32=X:=aul (by omega);rw[<-KN];simp[ux,bv];refine cl c (fun j σ l'=>l'=l/\σ 0=aB s/\σ 3=aB O/\σ 4=.int .i64 k/\σ 5=.int .i64 j) ?_ ⟨rfl,by simp,by simp,by simp,by simp⟩;rintro j σ l' ai ⟨rfl,cb,a1,bl,bo⟩;obtain⟨σ,rfl⟩:=iE cb a1 bl bo;clear cb a1 bl bo;have bw:IntKind.i64.wrap ((j:Int)+1)=((j+1:Nat) :Int) :=by rw[IntKind.wrap_i64]; omega
  by_cases Ub:j<c
  ·obtain⟨y,aJ,eL⟩:=bI (l:=O.l) (k:=j) (by omega);have aL:cg y x<0:=J3 (by rw[<-ah]; exact Ub) aJ;have eK:j<O.l.length:=by omega
   have fI:=c2 (eu y eL);have kX:=fE y;have fp:=NK y x (eu y eL) eW;change bz Tryz.prog GS _ [.aF (aY y),.aF (aY x)] _ at fp;have hr:=Vc j y aJ;rw[<-cn] at fp;obtain⟨Y,fY⟩:∃ Y,Y=aY y:=⟨_,rfl⟩
   rw[<-fY] at hr fI kX fp;simp[cM,eK,hr,fI,bY,bd,fG,aul];refine a4 fp (by simp[a5,U.closed,eX,kX]) ?_;simp[aL,bw];exact Ub
  ·have Ha:j=c:=by omega
   have t1:fl (.aq 32) (aB O) none (some (.int .i64 (j:Int))) none=some (aB (gV O j)) :=YN (by omega);have t2:fl (.aq 32) (aB O) (some (.int .i64 (j:Int))) none none=some (aB (jv O j)) :=Ot (by omega);obtain⟨I,nE⟩:∃ I,I=nQ O.l j x:=⟨_,rfl⟩
   obtain⟨O3,adD⟩:∃ O3,O3=((O.l.take j).map aY).flatten:=⟨_,rfl⟩
   obtain⟨O4,adE⟩:∃ O4,O4=((O.l.take j++[x]).map aY).flatten:=⟨_,rfl⟩
   have qp:∀ y∈O.l,(aY y).length=32:=fun y aJ=>c2 (eu y aJ)
   obtain⟨iS,jr,y7⟩:=akv (enc:=aY) (z:=32) (by_:=32) (l:=l'++[.cells 0 [],.cells 32 X]) (b:=l'.length) (c:=l'.length+1) (k:=j) (s:=O) (x:=x) (by simp) (by rw[cn]; simp) (by omega) (by omega) qp (by rw[<-cn]; exact bd) (by omega) (by omega) (by rw[az]; omega);change gX _ _ _ _ (aB _)=_ at iS y7;have lr:∀ c:aV,(l'++[aV.cells 0 [],.cells 32 X]).set l'.length c=l'++[c,.cells 32 X] :=fun c=>by simp
   simp only[<-nE,<-adD,<-adE,lr] at iS jr y7;have Tj:∀ y∈I,(aY y).length=32:=fun y aJ=>by
    rw[nE,Vi] at aJ;rcases aJ with h | h
    ·rw[h,<-cn]; exact bd
    ·exact qp y h
   have Ti:I≠[] :=fun h=>by have:=congrArg List.length h; rw[nE,HQ] at this; simp at this
   have Gp:U.aZ 32 (I.map aY)=aB (some I) :=rfl;have hE:a8 (rep 32 (.int .u8 0)) 0 X=X:=gq (by rw[bd]; rfl);by_cases eK:j<O.l.length
   ·obtain⟨y,aJ,eL⟩:=bI eK;have aL:¬ cg y x<0:=J2 (by rw[<-ah,<-Ha]; exact aJ);have fI:=c2 (eu y eL);have kX:=fE y;have fp:=NK y x (eu y eL) eW;change bz Tryz.prog GS _ [.aF (aY y),.aF (aY x)] _ at fp;have hr:=Vc j y aJ;have bP:=wy (eu y eL) eW;have j4:¬ (j:Int)=O.l.length:=by omega
    have Dx:¬ j=O.l.length:=by omega
    rw[<-cn] at fp bP;obtain⟨Y,fY⟩:∃ Y,Y=aY y:=⟨_,rfl⟩
    rw[<-fY] at hr fI kX fp bP;simp[cM,eK,hr,fI,bY,bd,fG,aul];refine a4 fp (by simp[a5,U.closed,eX,kX]) ?_;by_cases DZ:y=x
    ·have sQ:m9 O.l x=O.l:=by unfold m9; rw[<-ah,<-Ha,aJ,DZ,if_pos rfl]
     have kQ:¬ cg x x<0:=by rw[DZ] at aL; exact aL
     have ry:gN Tryz.prog .neq 61 (.aF Y) (.aF X)=some (.bool false) :=by rw[bP,decide_eq_true DZ]; rfl
     simp[aL,kQ,cM,j4,Dx,hr,fI,bY,bd,fG,aul,ry,aP];exact⟨bv,by rw[kv,sQ,adS]⟩
    ·have Lk:m9 O.l x=I:=by unfold m9; rw[<-ah,<-Ha,aJ,if_neg (fun h=>DZ (Option.some.inj h)),nE]
     have ry:gN Tryz.prog .neq 61 (.aF Y) (.aF X)=some (.bool true) :=by rw[bP,decide_eq_false DZ]; rfl
     simp[aL,cM,j4,Dx,hr,fI,bY,bd,fG,aul,ry,t1,t2,hE,iS];refine c7.cd ?_;simp[jr,t2,bd,fG];refine c7.cd ?_;simp[y7];refine c7.CI (by exact Bl Tj rfl (by simp)) rfl ?_;simp[Gp,aP];exact⟨bv,by rw[kv,Lk,YM Ti]⟩
   ·have j4:(j:Int)=O.l.length:=by omega
    have Dx:j=O.l.length:=by omega
    have Lk:m9 O.l x=I:=by unfold m9; rw[<-ah,<-Ha,if_neg,nE]; rw[auC (by omega)]; simp
    rw[Dx] at t1 t2 iS jr y7;simp[cM,eK,Dx,bY,bd,fG,aul,t1,t2,hE,iS];refine c7.cd ?_;simp[jr,t2,bd,fG];refine c7.cd ?_;simp[y7];refine c7.CI (by exact Bl Tj rfl (by simp)) rfl ?_;simp[Gp,aP];exact⟨bv,by rw[kv,Lk,YM Ti]⟩
 ·have dK:k=s.l.length:=by omega
  subst dK;simp[ux];exact aQ rfl (dd _)
structure hk (l:ao) (ch bU:U) (eN eE n:Nat) (ids:List (List B)) (ops:List br) :Prop where
 hS:bK 32 l ch eN (ids.map aY)
 gI:bK 11 l bU eE (ops.map a3)
 iP:cF ch=ids.isEmpty
 mz:cF bU=ops.isEmpty
 c1:ch=.aH\/n<=eN
 dx:bU=.aH\/n<=eE
 ne:ch=.aH\/bU=.aH\/eN≠eE
theorem Ii (l:ao) (n:Nat) :hk l .aH .aH 0 0 n [] [] :=⟨.nil 0,.nil 0,rfl,rfl,.inl rfl,.inl rfl,.inl rfl⟩
theorem hk.frame {l l' : ao} {ch bU:U} {eN eE n:Nat} {ids:List (List B)} {ops:List br} (h:hk l ch bU eN eE n ids ops) (aE:∀ b,n<=b->b<l.length->l'[b]? = l[b]?) :hk l' ch bU eN eE n ids ops:=by
 refine⟨h.hS.lg ?_,h.gI.lg ?_,h.iP,h.mz,h.c1,h.dx,h.ne⟩
 ·rcases h.c1 with e | e
  ·exact .inl e
  ·rcases h.hS.lt with bw | bw
   ·exact .inl bw
   ·exact .inr (aE _ e bw)
 ·rcases h.dx with e | e
  ·exact .inl e
  ·rcases h.gI.lt with bw | bw
   ·exact .inl bw
   ·exact .inr (aE _ e bw)
theorem hk.ids {l:ao} {ch bU:U} {eN eE n:Nat} {ids:List (List B)} {ops:List br} (h:hk l ch bU eN eE n ids ops) {X:List U} {x:List B} (cn:X=aY x) (af:X.length=32) (aD:n<=l.length) (al:ids.length<=1000000) :
  ∃ a6 b7 l',gX (l++[.cells 32 X]) 32 32 ch (.aq 32 l.length 0 1 1 32)=some (a6,l')/\hk l' a6 bU b7 eE n (ids++[x]) ops/\l.length+1<=l'.length/\∀ b,b<n->l'[b]? = l[b]?:=by
 have az:cw=140737488355328:=rfl;obtain⟨a6,b7,l',a2,a9,bV,ey,go,g6⟩:=xO (by_:=32) (x:=.aq 32 l.length 0 1 1 32) (xs:=[X]) (h.hS.more [aV.cells 32 X]) (by simp[dD,af,aul]) (by simp[af]) (by omega) (by omega) (by rw[az]; simp; omega);have fw:cF a6=false:=by rw[g6]; simp
 have jl:a6≠.aH:=fun e=>by rw[e] at fw; cases fw
 have hR:(l++[aV.cells 32 X]).length=l.length+1:=by simp
 have eD:n<=b7:=by
  rcases go with e | ⟨aP,bw⟩ | e
  ·omega
  ·rw[bw]; exact h.c1.resolve_left aP
  ·exact absurd e jl
 have iy:∀ b,b<l.length->ch=.aH\/b≠eN->l'[b]? = l[b]?:=fun b ag we=>by
  rw[ey b (by omega) we,aum ag]
 refine⟨a6,b7,l',a2,⟨?_,?_,by rw[fw]; simp,h.mz,.inr eD,h.dx,?_⟩,by omega,fun b ag=>?_⟩
 ·rw[auH,auL,avP,<-cn]; exact a9
 ·refine h.gI.lg ?_;rcases h.gI.lt with e | e
  ·exact .inl e
  ·by_cases gh:bU=.aH
   ·exact .inl gh
   ·refine .inr (iy _ e ?_);rcases h.ne with q | q | q
    ·exact .inl q
    ·exact absurd q gh
    ·exact .inr fun e=>q e.symm
 ·by_cases gh:bU=.aH
  ·exact .inr (.inl gh)
  ·refine .inr (.inr fun e=>?_);have ae:=h.gI.lt.resolve_left gh;rcases go with q | ⟨q1,cV⟩ | q
   ·omega
   ·rcases h.ne with p | p | p
    ·exact q1 p
    ·exact gh p
    ·exact p (by omega)
   ·exact jl q
 ·refine iy b (by omega) ?_;rcases h.c1 with e | e
  ·exact .inl e
  ·exact .inr (by omega)
theorem hk.ops {l:ao} {ch bU:U} {eN eE n:Nat} {ids:List (List B)} {ops:List br} (h:hk l ch bU eN eE n ids ops) {O:List U} {o:br} (eu:O=a3 o) (aD:n<=l.length) (al:ops.length<=1000000) :
  ∃ a6 b7 l',gX (l++[.cells 11 O]) 11 112 bU (.aq 11 l.length 0 1 1 11)=some (a6,l')/\hk l' ch a6 eN b7 n ids (ops++[o])/\l.length+1<=l'.length/\∀ b,b<n->l'[b]? = l[b]?:=by
 have az:cw=140737488355328:=rfl;have af:O.length=11:=by rw[eu]; rfl
 obtain⟨a6,b7,l',a2,a9,bV,ey,go,g6⟩:=xO (by_:=112) (x:=.aq 11 l.length 0 1 1 11) (xs:=[O]) (h.gI.more [aV.cells 11 O]) (by simp[dD,af,aul]) (by simp[af]) (by omega) (by omega) (by rw[az]; simp; omega);have fw:cF a6=false:=by rw[g6]; simp
 have jl:a6≠.aH:=fun e=>by rw[e] at fw; cases fw
 have hR:(l++[aV.cells 11 O]).length=l.length+1:=by simp
 have eD:n<=b7:=by
  rcases go with e | ⟨aP,bw⟩ | e
  ·omega
  ·rw[bw]; exact h.dx.resolve_left aP
  ·exact absurd e jl
 have iy:∀ b,b<l.length->bU=.aH\/b≠eE->l'[b]? = l[b]?:=fun b ag we=>by
  rw[ey b (by omega) we,aum ag]
 refine⟨a6,b7,l',a2,⟨?_,?_,h.iP,by rw[fw]; simp,h.c1,.inr eD,?_⟩,by omega,fun b ag=>?_⟩
 ·refine h.hS.lg ?_;rcases h.hS.lt with e | e
  ·exact .inl e
  ·by_cases gh:ch=.aH
   ·exact .inl gh
   ·refine .inr (iy _ e ?_);rcases h.ne with q | q | q
    ·exact absurd q gh
    ·exact .inl q
    ·exact .inr q
 ·rw[auH,auL,avP,<-eu]; exact a9
 ·by_cases gh:ch=.aH
  ·exact .inl gh
  ·refine .inr (.inr fun e=>?_);have ae:=h.hS.lt.resolve_left gh;rcases go with q | ⟨q1,cV⟩ | q
   ·omega
   ·rcases h.ne with p | p | p
    ·exact gh p
    ·exact q1 p
    ·exact p (by omega)
   ·exact jl q
 ·refine iy b (by omega) ?_;rcases h.dx with e | e
  ·exact .inl e
  ·exact .inr (by omega)
theorem r0 {z:Nat} {l:ao} {v:U} {j:Nat} {es:List (List U)} (h:bK z l v j es) :v.cells=some [v] :=by cases h<;>rfl
theorem kp (s:dv) :(aB s).cells=some [aB s] :=by cases s<;>rfl
theorem o3 (s:db br) :(bx s).cells=some [bx s] :=by cases s<;>rfl
theorem p6 {α:Type} {a b c:α} {j:Nat} (h:[a,b][j]? = some c) :(j=0/\c=a)\/(j=1/\c=b) :=by
 match j,h with
 | 0,h=>left; simpa using h.symm
 | 1,h=>right; simpa using h.symm
 | j+2,h=>simp at h
theorem Ak {α:Type} {a c:α} {j:Nat} (h:[a][j]? = some c) :j=0/\c=a:=by
 match j,h with
 | 0,h=>simpa using h.symm
 | j+1,h=>simp at h
theorem hk.call {l:ao} {ch bU:U} {eN eE n:Nat} {ids:List (List B)} {ops:List br} (h:hk l ch bU eN eE n ids ops) {f:FuncId} {K:U->ao->Prop}
  (ah:∀ bj,bj.length=l.length->(∀ b,b<n->bj[b]? = l[b]?)->c0 Tryz.prog GS f [.aF [aB (dm ids),bx (dm ops)]] bj (c:=⟨K⟩)) :c0 Tryz.prog GS f [.aF [ch,bU]] l (c:=⟨K⟩) :=by
 obtain⟨l1,bL,dh,aP,f1⟩:=Io (dm ids) h.hS (by rw[qI]; exact h.iP) (ec _);have gI:bK 11 l1 bU eE (ops.map a3) :=by
  refine h.gI.lg ?_;by_cases gh:bU=.aH
  ·exact .inl gh
  ·refine .inr (f1 _ ?_);rcases h.ne with q | q | q
   ·exact .inl q
   ·exact absurd q gh
   ·exact .inr fun e=>q e.symm
 obtain⟨bj,w2,dY,bw,f2⟩:=Io (dm ops) gI (by rw[qI]; exact h.mz) (ec _);refine FR Tryz.checked.mixed bn (args2:=[.aF [aB (dm ids),bU]]) bL (by omega) rfl (fun j c b9 ad ae=>?_) (FR Tryz.checked.mixed bn (args2:=[.aF [aB (dm ids),bx (dm ops)]]) w2 (by omega) rfl (fun j c b9 ad ae=>?_) (ah bj (by omega) fun b ag=>?_))
 ·obtain⟨rfl,rfl⟩:=Ak ad;obtain⟨_,rfl⟩:=Ak ae;refine .aF _ _ rfl fun j c c' ad ae=>?_
  rcases p6 ad with ⟨rfl,rfl⟩ | ⟨rfl,rfl⟩
  ·rcases p6 ae with ⟨_,rfl⟩ | ⟨h,_⟩
   ·exact dh
   ·omega
  ·rcases p6 ae with ⟨h,_⟩ | ⟨_,rfl⟩
   ·omega
   ·exact .same _
 ·obtain⟨rfl,rfl⟩:=Ak ad;obtain⟨_,rfl⟩:=Ak ae;refine .aF _ _ rfl fun j c c' ad ae=>?_
  rcases p6 ad with ⟨rfl,rfl⟩ | ⟨rfl,rfl⟩
  ·rcases p6 ae with ⟨_,rfl⟩ | ⟨h,_⟩
   ·exact .same _
   ·omega
  ·rcases p6 ae with ⟨h,_⟩ | ⟨_,rfl⟩
   ·omega
   ·exact dY
 ·rw[f2 b ?_,f1 b ?_]
  ·rcases h.c1 with e | e
   ·exact .inl e
   ·exact .inr (by omega)
  ·rcases h.dx with e | e
   ·exact .inl e
   ·exact .inr (by omega)
def gj (g:bp) :List (List B × br) :=g.ids.l.zip g.ops.l
def hx (g:bp) (L:List (List B)) (k:Nat) :List (List B × br) :=((gj g).take k).filter fun p=>decide (p.1∈L)
def dy (l:List (List B × br)) :bp:=⟨dm (l.map (·.1)),dm (l.map (·.2))⟩
def jT (g:bp) (L:List (List B)) :bp:=gu (dy (hx g L (gj g).length))
theorem Xe {g:bp} {L:List (List B)} {k:Nat} {x:List B} {o:br} (af:g.ids.l[k]? = some x) (au:g.ops.l[k]? = some o) :hx g L (k+1)=hx g L k++if x∈L then [(x,o)] else [] :=by
 have av:(gj g)[k]? = some (x,o) :=by unfold gj; rw[avB]; exact⟨af,au⟩
 unfold hx;rw[auP,av,avV];by_cases h:x∈L<;>simp[h]
theorem NB {g:bp} {L:List (List B)} {k:Nat}:(hx g L k).length<=k:=au7 (avE _ _) (by rw[auA]; omega)
theorem Bo {g:bp} {p:List B × br} (h:p∈gj g) :p.1∈g.ids.l/\p.2∈g.ops.l:=by
 obtain⟨k,ar⟩:=aur.1 h;unfold gj at ar;rw[avB] at ar;exact⟨aut ar.1,aut ar.2⟩
theorem Gj {l:List (List B × br)} (ad:∀ p∈l,p.1.length=32) (ae:∀ p∈l,iY p.2) (al:l.length<=1000000) :gn (dy l) :=by
 refine⟨fun x af=>?_,fun o au=>?_,?_,?_⟩
 ·unfold dy at af; simp only[ec] at af;obtain⟨p,av,rfl⟩:=auR.1 af;exact ad p av
 ·unfold dy at au; simp only[ec] at au;obtain⟨p,av,rfl⟩:=auR.1 au;exact ae p av
 ·unfold dy; simp only[ec]; rw[auw]; exact al
 ·unfold dy; simp only[ec]; rw[auw]; exact al
structure aaf (g:bp) (L:dv) (k:Nat) (σ:bc) (l:ao) :Prop where
 aK:σ 1=aB L
 aU:σ 2=.ptr 0 0 2
 bl:σ 4=.ptr 1 0 2
 bo:σ 5=.ptr 2 0 2
 cu:σ 6=.int .i64 k
 ex:∃ ch bU eN eE rest,l=.cells 2 [aB g.ids,bx g.ops] ::.cells 2 [.aH,.aH] ::.cells 2 [ch,bU] ::rest/\hk l ch bU eN eE 3 ((hx g L.l k).map (·.1)) ((hx g L.l k).map (·.2))
set_option maxHeartbeats 8000000 in
theorem akR (g:bp) (aw:gn g) (bC:g.ids.l.length=g.ops.l.length) (L:dv) (dA:eQ L) (ri:L.l.length<=1000000) (aD:g.ids.l.length<=100000) :bz Tryz.prog GS 49 [cH g,aB L] (cH (jT g L.l)) :=by
 refine bX Tryz.checked.mixed bn ?_;apply bq Tryz.func49 [];have fj:=dd g.ids;have dJ:=jE g.ops;have aeu:=dd L;have dp:ce (.aq 32) (aB g.ids)=some (.int .i64 g.ids.l.length) :=by simp[aB]
 simp[cH,bR];refine cl g.ids.l.length (aaf g L) ?_ ⟨by simp,by simp,by simp,by simp,by simp,.aH,.aH,0,0,[],rfl,by simpa [hx] using Ii _ 3⟩;rintro k σ l ar ⟨aK,aU,bl,bo,cu,ch,bU,eN,eE,rest,rfl,hs⟩;obtain⟨σ,rfl⟩:=lC aK aU bl bo cu;clear aK aU bl bo cu;have aP:IntKind.i64.wrap ((k:Int)+1)=((k+1:Nat) :Int) :=by rw[IntKind.wrap_i64]; omega
 have gE:=NB (g:=g) (L:=L.l) (k:=k);by_cases bv:k<g.ids.l.length
 ·obtain⟨x,af,cT⟩:=bI bv;obtain⟨o,au,en⟩:=bI (l:=g.ops.l) (k:=k) (by omega);have eW:=aw.ids x cT;have bd:=c2 eW;have eX:=fE x;have cS:(a3 o).length=11:=rfl;have bY:cL (.aq 32) (aB g.ids) (.int .i64 (k:Int))=some (.bM (aY x) 0) :=by simp[aB,af]
  have hr:cL (.aq 11) (bx g.ops) (.int .i64 (k:Int))=some (.bM (a3 o) 0) :=by simp[bx,au]
  have ez:=zc L dA ri x eW;have jk:=Xe (L:=L.l) af au;have jj:=uL x L.l 0;obtain⟨e6,ds⟩:∃ e6,e6=g3 x L.l 0:=⟨_,rfl⟩
  obtain⟨X,cn⟩:∃ X,X=aY x:=⟨_,rfl⟩
  obtain⟨O,eu⟩:∃ O,O=a3 o:=⟨_,rfl⟩
  rw[<-ds] at ez jj;rw[<-cn] at ez bd eX bY;rw[<-eu] at hr cS;have fG:X.take 32=X:=aul (by omega);have Ap:O.take 11=O:=aul (by omega);have hE:a8 (rep 32 (.int .u8 0)) 0 X=X:=gq (by rw[bd]; rfl);have kU:a8 [U.int .u32 0,.aH,.int .u64 0,.int .u8 0,.str [],.int .u8 0,.int .i64 0,.int .u64 0,.str [],.int .u32 0,.int .u32 0] 0 O=O:=gq (by rw[cS]; rfl);simp[dp,bv,bY,bd,fG];refine a4 ez (by simp[a5,U.closed,aeu,eX]) ?_;by_cases hm:x∈L.l
  ·have aI:0<=e6:=jj.2 hm;rw[if_pos hm] at jk;obtain⟨jx,rM,l',a2,a9,bV,ey⟩:=hs.ids cn bd (by simp) (by rw[auw]; omega);obtain⟨dh,rfl⟩:=vb (ey 0 (by omega)) (ey 1 (by omega)) (ey 2 (by omega));simp at a2;have af7:hk (.cells 2 [aB g.ids,bx g.ops] ::.cells 2 [.aH,.aH] ::.cells 2 [jx,bU] ::dh) jx bU rM eE 3 ((hx g L.l k).map (·.1)++[x]) ((hx g L.l k).map (·.2)) :=a9.frame fun b ag _=>by
    match b,ag with
    | b+3,_=>rfl
   obtain⟨ob,uM,bj,b3,b9,ho,fD⟩:=af7.ops eu (by simp) (by rw[auw]; omega);obtain⟨dY,rfl⟩:=vb (fD 0 (by omega)) (fD 1 (by omega)) (fD 2 (by omega));simp at b3;have af8:hk (.cells 2 [aB g.ids,bx g.ops] ::.cells 2 [.aH,.aH] ::.cells 2 [jx,ob] ::dY) jx ob rM uM 3 ((hx g L.l k).map (·.1)++[x]) ((hx g L.l k).map (·.2)++[o]) :=b9.frame fun b ag _=>by
    match b,ag with
    | b+3,_=>rfl
   simp[aI,bY,bd,fG,hE,a2];refine c7.cd ?_;simp[r0 a9.hS,a8,hr,cS,Ap,kU,b3];refine c7.cd ?_;simp[r0 b9.gI,a8,aP];exact⟨bv,by simp,by simp,by simp,by simp,by simp,jx,ob,rM,uM,dY,rfl,by rw[jk,auH,auH]; exact af8⟩
  ·have aI:¬ 0<=e6:=fun h=>hm (jj.1 h)
   rw[if_neg hm,auV] at jk;simp[aI,aP];exact⟨bv,by simp,by simp,by simp,by simp,by simp,ch,bU,eN,eE,rest,rfl,by rw[jk]; exact hs⟩
 ·have dK:k=g.ids.l.length:=by omega
  subst dK;have yI:(gj g).length=g.ids.l.length:=by unfold gj; rw[axo]; omega
  have ae4:gn (dy (hx g L.l g.ids.l.length)) :=Gj (fun p av=>aw.ids _ (Bo (auG (ave.1 av).1)).1) (fun p av=>aw.ops _ (Bo (auG (ave.1 av).1)).2) (by omega);have pk:=Xy _ ae4;have uC:jT g L.l=gu (dy (hx g L.l g.ids.l.length)) :=by unfold jT; rw[yI]
  rw[<-uC] at pk;have eo:=kp (jT g L.l).ids;have ej:(bx (jT g L.l).ops).cells=some [bx (jT g L.l).ops] :=by cases (jT g L.l).ops<;>rfl
  have b3:=dd (jT g L.l).ids;have b9:=jE (jT g L.l).ops;have ho:=dd (dm ((hx g L.l g.ids.l.length).map (·.1)));have fD:=jE (dm ((hx g L.l g.ids.l.length).map (·.2)));unfold cH bR at pk;simp[dp];refine hs.call fun bj q1 cV=>?_
  obtain⟨dY,rfl⟩:=vb (cV 0 (by omega)) (cV 1 (by omega)) (cV 2 (by omega));refine a4 pk (by simp[a5,U.closed,ho,fD]) ?_;simp[a8];exact aQ rfl (show (U.aF [aB (jT g L.l).ids,bx (jT g L.l).ops]).closed=true by simp[U.closed,a5,b3,b9])
def k1 (g:bp) :Nat->List (List B)
 | 0=>[]
 | k+1=>k1 g k++(jS g.ops.l k).bi.l
theorem Nh {g:bp} {x:List B}:∀ {k:Nat},x∈k1 g k<->∃ j,j<k/\x∈(jS g.ops.l j).bi.l
 | 0=>⟨fun h=>(by cases h),fun ⟨j,ai,_⟩=>by omega⟩
 | k+1=>by
  show x∈k1 g k++_<->_;rw[avi,Nh];constructor
  ·rintro (⟨j,ad,ae⟩ | h)
   ·exact⟨j,by omega,ae⟩
   ·exact⟨k,by omega,h⟩
  ·rintro⟨j,ad,ae⟩;by_cases e:j=k
   ·subst e; exact .inr ae
   ·exact .inl ⟨j,by omega,ae⟩
theorem NA {g:bp} (V:tG g) {k:Nat} {o:br} (au:g.ops.l[k]? = some o) :o.bi.l.length<=4:=by
 obtain⟨x,af,_⟩:=bI (l:=g.ids.l) (k:=k) (by rw[V.len]; exact (auk.1 au).1);exact y6 (I5 (V.S4 k o x au af).1)
theorem Ng {g:bp} (V:tG g) :∀ {k:Nat},k<=g.ops.l.length->(k1 g k).length<=4*k
 | 0,_=>by simp[k1]
 | k+1,ar=>by
  obtain⟨o,au,_⟩:=bI (l:=g.ops.l) (k:=k) (by omega);have:=Ng V (k:=k) (by omega);have aG:=NA V au;show (k1 g k++(jS g.ops.l k).bi.l).length<=_;rw[auu,ta au]; omega
theorem ajs {g:bp} (aw:gn g) {k:Nat} (ar:k<=g.ops.l.length) :eQ (dm (k1 g k)) :=fun x af=>by
 rw[ec,Nh] at af;obtain⟨j,ai,af⟩:=af;obtain⟨o,au,en⟩:=bI (l:=g.ops.l) (k:=j) (by omega);rw[ta au] at af;exact (aw.ops o en).ids x af
structure aai (g:bp) (k:Nat) (σ:bc) (l:ao) :Prop where
 aK:σ 1=.ptr 0 0 2
 bl:σ 4=.aH
 bo:σ 5=.int .i64 k
 ex:∃ v j rest,l=.cells 2 [aB g.ids,bx g.ops] ::rest/\σ 3=v/\bK 32 l v j ((k1 g k).map aY)/\(v=.aH\/1<=j)/\cF v=(k1 g k).isEmpty
structure aaj (g:bp) (w:U) (gd:Nat) (k:Nat) (σ:bc) (l:ao) :Prop where
 aK:σ 1=.ptr 0 0 2
 a1:σ 3=w
 cu:σ 6=.int .i64 k
 ex:∃ v j rest,l=.cells 2 [aB g.ids,bx g.ops] ::rest/\σ 4=v/\bK 32 l v j (((g.ids.l.take k).filter (lR g)).map aY)/\(v=.aH\/1<=j)/\cF v=((g.ids.l.take k).filter (lR g)).isEmpty/\bK 32 l w gd ((k1 g g.ops.l.length).map aY)/\(v=.aH\/w=.aH\/j≠gd)
set_option maxHeartbeats 8000000 in
theorem ak3 (g:bp) (aw:gn g) (aI:gp g=0) :bz Tryz.prog GS 133 [cH g] (aB (dm (h7 g))) :=by
 refine bX Tryz.checked.mixed bn ?_;apply bq Tryz.func133 [];have az:cw=140737488355328:=rfl;have V:=nW aI;have DH:=V.n60;have iL:=V.len;have cM:ce (.aq 11) (bx g.ops)=some (.int .i64 g.ops.l.length) :=by simp[bx]
 have dp:ce (.aq 32) (aB g.ids)=some (.int .i64 g.ids.l.length) :=by simp[aB]
 simp[cH,bR];refine cl g.ops.l.length (aai g) ?_ ⟨by simp,by simp,by simp,.aH,0,[],rfl,by simp,.nil 0,.inl rfl,rfl⟩;rintro k σ l ar ⟨aK,bl,bo,v,j,rest,rfl,a1,kT,ai,iA⟩;obtain⟨σ,rfl⟩:=iE aK a1 bl bo;clear aK a1 bl bo;have aP:IntKind.i64.wrap ((k:Int)+1)=((k+1:Nat) :Int) :=by rw[IntKind.wrap_i64]; omega
 by_cases bv:k<g.ops.l.length
 ·obtain⟨o,au,en⟩:=bI bv;have lV:=aw.ops o en;have bY:cL (.aq 11) (bx g.ops) (.int .i64 (k:Int))=some (.bM (a3 o) 0) :=by simp[bx,au]
  have cS:(a3 o).length=11:=rfl;have kO:∀ h,(a3 o)[1]'h=aB o.bi:=fun _=>rfl
  have kR:=Ng V ar;have aG:=NA V au;have b5:k1 g (k+1)=k1 g k++o.bi.l:=by show k1 g k++(jS g.ops.l k).bi.l=_; rw[ta au]
  obtain⟨a6,b7,cB,a2,a9,bV,ey⟩:=xP (by_:=32) (pre:=[.cells 2 [aB g.ids,bx g.ops]]) (rest:=rest) kT ai (x:=aB o.bi) (xs:=o.bi.l.map aY)
   (by simp[aB]) (fun e am=>by obtain⟨y,aJ,rfl⟩:=auR.1 am; exact c2 (lV.ids y aJ)) (by omega) (by omega) (by rw[az]; simp; omega)
  simp only[avj,avp] at a2;obtain⟨O,eu⟩:∃ O,O=a3 o:=⟨_,rfl⟩
  rw[<-eu] at bY cS;simp only[<-eu] at kO;simp[cM,bv,bY,cS,kO,a2];refine c7.cd ?_;simp[aP];refine⟨bv,by simp,by simp,by simp,a6,b7,cB,rfl,by simp,?_,by simpa using bV,?_⟩
  ·rw[b5,auH]; exact a9
  ·rw[ey,iA,b5];cases k1 g k<;>cases o.bi.l<;>simp
 ·have dK:k=g.ops.l.length:=by omega
  subst dK;clear ar bv aP;simp[cM];refine cl g.ids.l.length (aaj g v j) ?_ ⟨by simp,by simp,by simp,.aH,0,rest,rfl,by simp,.nil 0,.inl rfl,rfl,kT,.inl rfl⟩;rintro k σ l ar ⟨aK,a1,cu,ch,eN,XS,rfl,bl,Hr,Ll,LC,DM,bP⟩;obtain⟨σ,rfl⟩:=iE aK a1 bl cu;clear aK a1 bl cu;have aP:IntKind.i64.wrap ((k:Int)+1)=((k+1:Nat) :Int) :=by rw[IntKind.wrap_i64]; omega
  by_cases bv:k<g.ids.l.length
  ·obtain⟨x,af,cT⟩:=bI bv;have eW:=aw.ids x cT;have bd:=c2 eW;have eX:=fE x;have bY:cL (.aq 32) (aB g.ids) (.int .i64 (k:Int))=some (.bM (aY x) 0) :=by simp[aB,af]
   have kR:=Ng V (aun g.ops.l.length);have ez:=zc (dm (k1 g g.ops.l.length)) (ajs aw (aun _)) (by rw[ec]; omega) x eW;rw[ec] at ez;have m6:=DM.q.wZ fE (dm (k1 g g.ops.l.length)) (by rw[qI]; exact iA) (ec _);have jj:=uL x (k1 g g.ops.l.length) 0;have b5:g.ids.l.take (k+1)=g.ids.l.take k++[x] :=by rw[auP,af]; rfl
   have T7:lR g x=true<->x∉k1 g g.ops.l.length:=by
    unfold lR p3;rw[decide_eq_true_eq,Nh];exact⟨fun h ⟨j,ai,af⟩=>h j ai af,fun h j ai af=>h ⟨j,ai,af⟩⟩
   obtain⟨e6,ds⟩:∃ e6,e6=g3 x (k1 g g.ops.l.length) 0:=⟨_,rfl⟩
   obtain⟨X,cn⟩:∃ X,X=aY x:=⟨_,rfl⟩
   rw[<-ds] at ez jj;rw[<-cn] at ez bY bd eX;have fG:X.take 32=X:=aul (by omega);have hE:a8 (rep 32 (.int .u8 0)) 0 X=X:=gq (by rw[bd]; rfl);simp[dp,bv,bY,bd,fG];refine l7 ez (.cons m6 (.cons (.same _ (by simp[U.closed,eX])) .nil)) rfl ?_;by_cases hm:x∈k1 g g.ops.l.length
   ·have aL:¬ e6<0:=by have:=jj.2 hm; omega
    have aE:lR g x=false:=by
     cases h:lR g x with
     | false=>rfl
     | true=>exact absurd hm (T7.1 h)
    have hp:(g.ids.l.take (k+1)).filter (lR g)=(g.ids.l.take k).filter (lR g) :=by rw[b5,avV]; simp[aE]
    simp[aL,aP];exact⟨bv,by simp,by simp,by simp,ch,eN,XS,rfl,by simp,by rw[hp]; exact Hr,Ll,by rw[hp]; exact LC,DM,bP⟩
   ·have aL:e6<0:=by
     have:¬ 0<=e6:=fun h=>hm (jj.1 h)
     omega
    have aE:=T7.2 hm;have hp:(g.ids.l.take (k+1)).filter (lR g)=(g.ids.l.take k).filter (lR g)++[x] :=by rw[b5,avV]; simp[aE]
    have dO:((g.ids.l.take k).filter (lR g)).length<=1000000:=au7 (avE _ _) (by rw[auA]; omega);obtain⟨a6,b7,l',a2,a9,bV,ey,go,g6⟩:=xO (by_:=32) (x:=.aq 32 (XS.length+1) 0 1 1 32) (xs:=[X]) (Hr.more [aV.cells 32 X]) (by simp[dD,bd,aul]) (by simp[bd]) (by omega) (by omega) (by rw[az]; simp; omega);have fw:cF a6=false:=by rw[g6]; simp
    have jl:a6≠.aH:=fun e=>by rw[e] at fw; cases fw
    have f0:l'[0]? = some (.cells 2 [aB g.ids,bx g.ops]) :=by
     rw[ey 0 (by simp) (by rcases Ll with e | e; exact .inl e; exact .inr (by omega))]; rfl
    obtain⟨cB,rfl⟩:∃ cB,l'=.cells 2 [aB g.ids,bx g.ops] ::cB:=by
     cases l' with
     | nil=>simp at f0
     | cons c r=>simp at f0; subst f0; exact⟨r,rfl⟩
    have vu:=a2;simp at vu;simp[aL,bY,bd,fG,hE,vu];refine c7.cd ?_;simp[aP];refine⟨bv,by simp,by simp,by simp,a6,b7,cB,rfl,by simp,?_,?_,by rw[hp,fw]; simp,?_,?_⟩
    ·rw[hp,auH,auL,avP,<-cn]; exact a9
    ·right;rcases go with e | ⟨aP,bw⟩ | e
     ·simp at e; omega
     ·rw[bw]; exact Ll.resolve_left aP
     ·exact absurd e jl
    ·refine DM.lg ?_;rcases DM.lt with e | e
     ·exact .inl e
     ·by_cases aX:v=.aH
      ·exact .inl aX
      ·right;rw[ey j (by simp at e ⊢; omega) (by rcases bP with q | q | q; exact .inl q; exact absurd q aX; exact .inr fun e=>q e.symm)];exact aum e
    ·by_cases aX:v=.aH
     ·exact .inr (.inl aX)
     ·refine .inr (.inr fun e=>?_);have ae:=DM.lt.resolve_left aX;rcases go with q | ⟨q1,cV⟩ | q
      ·simp at q ae; omega
      ·rcases bP with p | p | p
       ·exact q1 p
       ·exact aX p
       ·exact p (by omega)
      ·exact jl q
  ·have dK:k=g.ids.l.length:=by omega
   rw[dK,auU] at Hr LC;simp[dp,bv];exact Hr.q.u5 fE (dm (h7 g)) (by rw[LC,qI]; rfl) (ec _)
end Op

end Go.b0

/-
  Graphs: their shape, walked.
-/
import Derived.Test.YtidejmkknleijaaGreatDoorFj
set_option linter.unusedVariables false
set_option linter.unusedSimpArgs false
set_option linter.unnecessarySimpa false
namespace Go.bY
open Go Go.Proofs
set_option maxRecDepth 100000
namespace Op
open hl
def j4 (n:Int) :U:=.int .i64 n
theorem XA {l:List U} {i:Nat} {x:U} (h:i<l.length) :bg l i [x]=l.set i x:=by
 have:=pb (fun c:U=>c) l i x h;simpa using this
def cI (g:bt) (wl:List Int) (vs:List U) (rest:ao) :ao:=.cells 2 [aD g.ids,bC g.ops] ::.cells g.ops.l.length (wl.map j4) ::.cells g.ops.l.length vs::rest
theorem uz {l:ao} {a b c:aY} (aI:l[0]? = some a) (ad:l[1]? = some b) (ae:l[2]? = some c) :∃ r,l=a::b::c::r:=by
 match l,aI,ad,ae with
 | c9::bc::c'::r,aI,ad,ae=>
  simp at aI ad ae;subst aI ad ae;exact⟨r,rfl⟩
theorem Ac {g:bt} {w w' : List Int} {vs Ip:List U} {r:ao}:∀ {b:Nat},3<=b->(cI g w vs r)[b]? = (cI g w' Ip r)[b]?
 | 0,h=>by omega
 | 1,h=>by omega
 | 2,h=>by omega
 | b+3,_=>rfl
theorem Lb {g:bt} {w:List Int} {vs:List U} {r x:ao} {b:Nat} (h:b<(cI g w vs r).length) :(cI g w vs (r++x))[b]? = (cI g w vs r)[b]?:=by
 show ((cI g w vs r)++x)[b]? = _;exact as2 h
structure Zj (g:bt) (m q:Nat) (e6:U) (l:ao) :Prop where
 ex:∃ (vs:List U) (cl:List (List Nat)) (bf:Nat->Nat) (hr:Nat) (rest:ao),l=cI g (eT g.ops.l m) vs rest/\lr l vs cl bf/\uK g.ids.l g.ops.l m q cl/\bO 1 l e6 hr ((jk g.ops.l m).map hP) ∧
  cD e6=(jk g.ops.l m).isEmpty/\(jk g.ops.l m=[]\/(3<=hr/\oB cl bf hr))
structure Zi (g:bt) (m q:Nat) (e6:U) (b:Nat) (O:List U) (l:ao) :Prop where
 ex:∃ (vs:List U) (cl:List (List Nat)) (bf:Nat->Nat) (hr:Nat) (rest:ao),l=cI g (eT g.ops.l m) vs rest/\lr l vs cl bf/\uK g.ids.l g.ops.l m q cl/\bO 1 l e6 hr ((jk g.ops.l m).map hP) ∧
  cD e6=(jk g.ops.l m).isEmpty/\(jk g.ops.l m=[]\/(3<=hr/\oB cl bf hr))/\l[b]? = some (.cells 11 O)/\3<=b/\oB cl bf b
theorem AN {cl:List (List Nat)} {l:ao} {vs:List U} {bf:Nat->Nat} {c:Nat} (fo:lr l vs cl bf) (ah:c<3) :oB cl bf c:=fun a row ay bV=>by
 have aB:a<vs.length:=by rw[fo.qn]; exact (as0.1 ay).1
 have:=(fo.own a vs[a] row (as4 aB) ay).2.2.resolve_left bV;omega
theorem D9 {cl:List (List Nat)} {l:ao} {vs:List U} {bf:Nat->Nat} {c:Nat} (fo:lr l vs cl bf) (ah:l.length<=c) :oB cl bf c:=fun a row ay bV=>by
 have:=fo.lt ay bV;omega
structure rR (g:bt) (vs:List U) (cl:List (List Nat)) (bf:Nat->Nat) (W:List Int) (R:List Nat) (e6:U) (rest:ao) :Prop where
 ex:∃ hr,lr (cI g W vs rest) vs cl bf/\bO 1 (cI g W vs rest) e6 hr (R.map hP)/\cD e6=R.isEmpty/\(R=[]\/(3<=hr/\oB cl bf hr))
theorem rR.setW {g:bt} {vs:List U} {cl:List (List Nat)} {bf:Nat->Nat} {W eK:List Int} {R:List Nat} {e6:U} {rest:ao} (h:rR g vs cl bf W R e6 rest) :rR g vs cl bf eK R e6 rest:=by
 obtain⟨hr,fo,iW,k1,l7⟩:=h;refine⟨⟨hr,fo.frame fun b af ⟨a,uv,ad,ae,aj⟩=>Ac (au2 fun h=>AN fo h a uv ad ae aj),?_,k1,l7⟩⟩;by_cases bV:R=[]
 ·subst bV;rw[kK.1 k1];exact .nil _
 ·exact iW.frame fun _=>Ac (l7.resolve_left bV).1
theorem rR.push {g:bt} {vs:List U} {cl:List (List Nat)} {bf:Nat->Nat} {W:List Int} {R:List Nat} {e6:U} {rest:ao} (h:rR g vs cl bf W R e6 rest) (m:Nat) (dy:(R.length+1)*8<=ct) :
  ∃ a3 dU,gT (cI g W vs (rest++[.cells 1 [.int .i64 (m:Int)]])) 1 8 e6 (.aq 1 (rest.length+3) 0 1 1 1)=some (a3,cI g W vs dU)/\rR g vs cl bf W (R++[m]) a3 dU:=by
 obtain⟨hr,vt,FW,k1,l7⟩:=h;obtain⟨md,yl,gA,fU⟩:∃ md,bO 1 (cI g W vs (rest++[.cells 1 [.int .i64 (m:Int)]])) e6 md (R.map hP)/\3<=md/\oB cl bf md:=by
  by_cases bV:R=[]
  ·subst bV;rw[kK.1 k1];exact⟨(cI g W vs (rest++[.cells 1 [.int .i64 (m:Int)]])).length,.nil _,by simp[cI],D9 vt (by simp[cI])⟩
  ·exact⟨hr,FW.more _,(l7.resolve_left bV).1,(l7.resolve_left bV).2⟩
 obtain⟨Bh,L9,bo,aO,aT,aZ,bi,bm,cw⟩:=oE (by_:=8) yl (x:=.aq 1 (rest.length+3) 0 1 1 1) (xs:=[hP m]) (by simp[ds,cI,hP]) (by simp[hP]) (by omega) (by omega) (by simpa using dy);have aev:(cI g W vs (rest++[.cells 1 [.int .i64 (m:Int)]])).length=rest.length+4:=by simp[cI]
 have GF:(cI g W vs rest).length=rest.length+3:=by simp[cI]
 obtain⟨dU,rfl⟩:∃ r,bo=cI g W vs r:=uz ((bi 0 (by omega) (by omega)).trans rfl) ((bi 1 (by omega) (by omega)).trans rfl) ((bi 2 (by omega) (by omega)).trans rfl);have LC:cD Bh=false:=by
  cases aR:cD Bh with
  | true=>have:=(cw.1 (kK.1 aR)).2; cases this
  | false=>rfl
 refine⟨Bh,dU,aO,⟨⟨L9,?_,?_,?_,.inr ⟨?_,?_⟩⟩⟩⟩
 ·exact vt.frame fun b af ⟨a,uv,ad,ae,aj⟩=>(bi b (by omega) (fun e=>fU a uv ad ae (by omega))).trans (Lb af)
 ·rw[atn]; exact aT
 ·rw[LC]; simp
 ·rcases bm with e | e<;>omega
 ·rcases bm with e | e
  ·rw[e]; exact fU
  ·exact D9 vt (by omega)
set_option maxHeartbeats 8000000 in
theorem akF (g:bt) (aw:g8 g) (al:g.ids.l.length=g.ops.l.length) (qN:g.ops.l.length<=60) (aF:∀ o∈g.ops.l,o.bh.l.length<=4) :bA Tryz.prog GS 68 [c4 g] (.int .i64 (nI g.ids.l g.ops.l)) :=by
 refine bW Tryz.checked.mixed bl ?_;apply bq Tryz.func68 [];have lK:ct=140737488355328:=rfl;have fW:=dw g.ids;have eg:=lz g.ops;have k3:=te g;have cV:cv (.aq 11) (bC g.ops)=some (.int .i64 g.ops.l.length) :=by simp[bC]
 have cT:cv (.aq 32) (aD g.ids)=some (.int .i64 g.ops.l.length) :=by simp[aD,al]
 simp[c4,bX];refine cB (g.ops.l.length - 1) (fun k σ l=>l=[.cells 2 [aD g.ids,bC g.ops]]/\σ 1=.ptr 0 0 2/\σ 3=.int .i64 ((k+1:Nat) :Int)/\∀ j,j<k+1->j<g.ids.l.length->1<=j->ca (bT g.ids.l (j - 1)) (bT g.ids.l j)<0) ?_ ⟨by simp,by simp,by simp,fun j ad _ ae=>by omega⟩;rintro k σ l ar ⟨rfl,aO,aZ,ak⟩;obtain⟨σ,rfl⟩:=qm aO aZ;clear aO aZ;obtain⟨m,hm⟩:∃ m,m=k+1:=⟨_,rfl⟩
 rw[<-hm] at ak ⊢;by_cases aK:m<g.ops.l.length
 ·obtain⟨x,ag,dp⟩:=bP (l:=g.ids.l) (k:=k) (by omega);obtain⟨y,aJ,er⟩:=bP (l:=g.ids.l) (k:=m) (by omega);have aQ:IntKind.i64.wrap ((m:Int) - 1)=(k:Int) :=by rw[IntKind.wrap_i64]; omega
  have bx:IntKind.i64.wrap ((m:Int)+1)=((m+1:Nat) :Int) :=by rw[IntKind.wrap_i64]; omega
  have eP:=fB ag;have ss:=fB aJ;have dP:cN (.aq 32) (aD g.ids) (.int .i64 (k:Int))=some (.bK (a1 x) 0) :=by simp[aD,ag]
  have nm:cN (.aq 32) (aD g.ids) (.int .i64 (m:Int))=some (.bK (a1 y) 0) :=by simp[aD,aJ]
  have bn:=de (aw.ids x dp);have fA:=de (aw.ids y er);have ff:=vc x y (aw.ids x dp) (aw.ids y er);unfold gp at ff;change bA Tryz.prog GS 75 [.aG (a1 x),.aG (a1 y)] _ at ff;have ni:=gK x;have n9:=gK y;obtain⟨X,cM⟩:∃ X,X=a1 x:=⟨_,rfl⟩
  obtain⟨Y,gX⟩:∃ Y,Y=a1 y:=⟨_,rfl⟩
  rw[<-cM] at dP bn ff ni;rw[<-gX] at nm fA ff n9;simp[cT,aK,aQ,dP,nm,bn,fA,as1];refine a4 ff (by simp[a5,U.closed,ni,n9]) ?_;by_cases ah:ca x y<0
  ·have ef:¬ (0<=ca x y) :=by omega
   simp[ef,bx];refine⟨by omega,fun j ad ae aj=>?_⟩;have fp:ca (bT g.ids.l (j - 1)) (bT g.ids.l j)<0:=by
    by_cases ai:j=m
    ·rw[ai,show m - 1=k by omega,eP,ss]; exact ah
    ·exact ak j (by omega) ae aj
   simpa [bT] using fp
  ·have ef:0<=ca x y:=by omega
   simp[ef];refine aP (congrArg (U.int .i64) ?_) rfl;have cU:dA g.ids.l=false:=Xa (k:=m) (by omega) (by omega) (by rw[show m - 1=k by omega,eP,ss]; exact ah);unfold nI;rw[cU]; rfl
 ·have ay:dA g.ids.l=true:=H5 fun j ad ae=>ak j (by omega) ad ae
  have ai:=vS ay;obtain⟨a2,_⟩:=DW (z:=1) (by_:=8) (n:=g.ops.l.length) (k:=.i64) (k':=.i64) (zero:=[U.int .i64 0]) (l:=[aY.cells 2 [aD g.ids,bC g.ops]]) rfl (by omega) (by rw[lK]; omega);obtain⟨bd,_⟩:=DW (z:=1) (by_:=24) (n:=g.ops.l.length) (k:=.i64) (k':=.i64) (zero:=[U.aH]) (l:=[aY.cells 2 [aD g.ids,bC g.ops],aY.cells g.ops.l.length (List.replicate g.ops.l.length (U.int .i64 0))]) rfl (by omega) (by rw[lK]; omega);simp only[aux,W2 (α:=Nat)] at a2 bd;simp[cT,cV,aK,a2,bd];refine cB g.ops.l.length (fun m σ l=>σ 1=.ptr 0 0 2/\σ 4=.aq 1 1 0 g.ops.l.length g.ops.l.length g.ops.l.length/\σ 5=.aq 1 2 0 g.ops.l.length g.ops.l.length g.ops.l.length/\σ 45=bC g.ops/\σ 46=.int .i64 g.ops.l.length/\σ 47=.int .i64 m ∧
   Zj g m 0 (σ 6) l/\∀ i,i<m->mr g.ids.l (eR g.ops.l i)=true) ?_ ?_
  ·rintro m σ l hm ⟨aO,bi,bm,Cf,Cg,Ch,hS,dL⟩;obtain⟨e6,cw⟩:∃ v,σ 6=v:=⟨_,rfl⟩
   rw[cw] at hS;obtain⟨σ,rfl⟩:=Yf aO bi bm cw Cf Cg Ch;clear aO bi bm cw Cf Cg Ch;by_cases k6:m<g.ops.l.length
   ·obtain⟨o,au,eF⟩:=bP k6;have aQ:IntKind.i64.wrap ((m:Int)+1)=((m+1:Nat) :Int) :=by rw[IntKind.wrap_i64]; omega
    have bZ:cN (.aq 11) (bC g.ops) (.int .i64 (m:Int))=some (.bK (a9 o) 0) :=by simp[bC,au]
    have h8:=aw.ops o eF;have gZ:=aF o eF;have vF:eR g.ops.l m=o.bh.l:=AQ au;have gO:cv (.aq 32) (aD o.bh)=some (.int .i64 o.bh.l.length) :=by simp[aD]
    have oO:(a9 o).length=11:=rfl;have n1:∀ h:1<(a9 o).length,(a9 o)[1]'h=aD o.bh:=fun _=>rfl
    obtain⟨O,eD⟩:∃ O,O=a9 o:=⟨_,rfl⟩
    rw[<-eD] at bZ oO n1;have q9:bg [U.int .u32 0,.aH,.int .u64 0,.int .u8 0,.str [],.int .u8 0,.int .i64 0,.int .u64 0,.str [],.int .u32 0,.int .u32 0] 0 O=O:=hu (by rw[oO]; rfl);simp[k6,bZ,oO,n1,gO,q9,as1];obtain⟨y5,F5⟩:∃ y5,y5=l.length:=⟨_,rfl⟩
    rw[<-F5];refine cB o.bh.l.length (fun q σ l=>σ 1=.ptr 0 0 2/\σ 4=.aq 1 1 0 g.ops.l.length g.ops.l.length g.ops.l.length/\σ 5=.aq 1 2 0 g.ops.l.length g.ops.l.length g.ops.l.length/\σ 6=e6/\σ 7=.int .i64 m/\σ 8=.ptr y5 0 11/\σ 45=bC g.ops/\σ 46=.int .i64 g.ops.l.length/\σ 47=.int .i64 m ∧
     σ 53=aD o.bh/\σ 54=.int .i64 o.bh.l.length/\σ 55=.int .i64 q/\Zi g m q e6 y5 O l/\∀ (j:Nat) (p:List B),j<q->o.bh.l[j]? = some p->p∈g.ids.l) ?_ ?_
    ·rintro q σ l bj ⟨aO,bi,bm,cw,fe,gc,Cf,Cg,Ch,Sd,Ci,Cj,jI,Df⟩;obtain⟨σ,rfl⟩:=alP aO bi bm cw fe gc Cf Cg Ch Sd Ci Cj;clear aO bi bm cw fe gc Cf Cg Ch Sd Ci Cj;obtain⟨vs,cl,bf,hr,rest,rfl,fo,nh,iW,k1,l7,af,tv,adk⟩:=jI;by_cases Dh:q<o.bh.l.length
     ·obtain⟨p,av,g0⟩:=bP Dh;have bx:IntKind.i64.wrap ((q:Int)+1)=((q+1:Nat) :Int) :=by rw[IntKind.wrap_i64]; omega
      have CW:cN (.aq 32) (aD o.bh) (.int .i64 (q:Int))=some (.bK (a1 p) 0) :=by simp[aD,av]
      have TY:=h8.ids p g0;have bn:=de TY;have ni:=gK p;have z0:=abQ g aw ay p TY;unfold c4 bX at z0 k3;obtain⟨X,cM⟩:∃ X,X=a1 p:=⟨_,rfl⟩
      rw[<-cM] at CW bn ni z0;have iE:bg (rep 32 (.int .u8 0)) 0 X=X:=hu (by rw[bn]; rfl);simp[cI,Dh,CW,bn,iE,as1];refine a4 z0 (by simp[a5,U.closed,ni,fW,eg]) ?_;by_cases De:p∈g.ids.l
      ·obtain⟨pr,eE⟩:=atc.1 De;have adq:=Js ay eE;have aoS:=(as0.1 eE).1;have aoT:pr<g.ops.l.length:=by omega
       have jQ:vs.length=g.ops.l.length:=by rw[fo.qn,nh.len]
       obtain⟨iw,Ak,_⟩:=bP (l:=vs) (k:=pr) (by omega);obtain⟨row,cJ,_⟩:=bP (l:=cl) (k:=pr) (by rw[nh.len]; omega);obtain⟨l1,hD⟩:∃ l1,l1=cI g (eT g.ops.l m) vs (rest++[.cells 32 X,.cells 1 [.int .i64 (m:Int)]]) :=⟨_,rfl⟩
       have FS:lr l1 vs cl bf:=by rw[hD]; exact fo.more _
       have Tz:l1.length=rest.length+5:=by rw[hD]; simp[cI]
       have q5:=nh.Eo pr row cJ;obtain⟨a3,bo,DI,aO,aT,aZ,bi,bm⟩:=FS.app (b:=rest.length+4) (k:=m) Ak cJ (by rw[hD]; simp[cI]) (by omega) (by rw[lK]; omega);have cE:=bm 0 (by omega) (AN FS (by omega));have q1:=bm 1 (by omega) (AN FS (by omega));have db:=bm 2 (by omega) (AN FS (by omega));obtain⟨dU,rfl⟩:∃ r,bo=cI g (eT g.ops.l m) vs r:=uz (cE.1.trans (by rw[hD]; rfl)) (q1.1.trans (by rw[hD]; rfl)) (db.1.trans (by rw[hD]; rfl));have Gu:cN (.aq 1) (.aq 1 2 0 g.ops.l.length g.ops.l.length g.ops.l.length) (.int .i64 (pr:Int))=some (.ptr 2 pr g.ops.l.length) :=by
        simp only[cN];rw[if_pos ⟨trivial,by omega,by omega⟩];simp
       rw[hD] at aO;unfold cI at aO;simp[De,adq,Gu,Ak,aO];refine c8.cb ?_;have afA:bg vs pr [a3]=vs.set pr a3:=XA (by omega);simp[cI,bi,Gu,afA,jQ];have jK:∀ c,3<=c->c<(cI g (eT g.ops.l m) vs rest).length->oB cl bf c->(cI g (eT g.ops.l m) (vs.set pr a3) dU)[c]? = (cI g (eT g.ops.l m) vs rest)[c]?/\oB (cl.set pr (row++[m])) DI c:=by
        intro c aj ew au;obtain⟨bU,b8⟩:=bm c (by simp[cI] at ew; omega) au;exact⟨(Ac aj).trans (bU.trans (by rw[hD]; exact Lb ew)),b8⟩
       have KP:jk g.ops.l m≠[]->hr<(cI g (eT g.ops.l m) vs rest).length:=fun bV=>by
        rcases iW.lt with h | h
        ·rw[h] at k1;cases eV:jk g.ops.l m with
         | nil=>exact absurd eV bV
         | cons=>rw[eV] at k1; cases k1
        ·exact h
       have fV:=(as0.1 af).1;obtain⟨f1,f2⟩:=jK y5 tv fV adk;refine⟨by omega,Dh,by rw[IntKind.wrap_i64]; omega,⟨⟨vs.set pr a3,cl.set pr (row++[m]),DI,hr,dU,rfl,?_,aiY ai al nh (by rw[vF]; exact av) eE cJ,?_,k1,?_,f1.trans af,tv,f2⟩⟩,fun j ci fp ir=>?_⟩
       ·exact aT.frame fun b af ⟨a,uv,ad,ae,aj⟩=>by
         have aF:3<=b:=au2 fun h=>AN aT h a uv ad ae aj
         exact Ac aF
       ·by_cases bV:jk g.ops.l m=[]
        ·rw[bV] at k1 iW ⊢;rw[kK.1 k1];exact .nil _
        ·obtain⟨ad,ae⟩:=l7.resolve_left bV;exact iW.frame fun h=>(jK hr ad (KP bV) ae).1
       ·by_cases bV:jk g.ops.l m=[]
        ·exact .inl bV
        ·obtain⟨ad,ae⟩:=l7.resolve_left bV;exact .inr ⟨ad,(jK hr ad (KP bV) ae).2⟩
       ·by_cases ael:j=q
        ·subst ael; rw[av] at ir; obtain rfl:=Option.some.inj ir; exact De
        ·exact Df j ci (by omega) ir
      ·simp[De];refine aP (congrArg (U.int .i64) ?_) rfl;have cU:¬ wi g.ids.l g.ops.l=true:=fun h=>by
        have:=of_decide_eq_true h o eF;exact De (of_decide_eq_true this p g0)
       unfold nI;rw[if_pos ay,if_neg cU]
     ·have vG:q=o.bh.l.length:=by omega
      rw[vG] at nh;rw[<-vF] at nh;have SE:=aiW nh (by rw[vF]; exact gZ);have jQ:vs.length=g.ops.l.length:=by rw[fo.qn,nh.len]
      have T6:g4 (cI g (eT g.ops.l m) vs rest) (.ptr y5 1 11)=some (O,1) :=by simp only[g4,af]; rfl
      have CU:cN (.aq 1) (.aq 1 1 0 g.ops.l.length g.ops.l.length g.ops.l.length) (.int .i64 (m:Int))=some (.ptr 1 m g.ops.l.length) :=by
       simp only[cN];rw[if_pos ⟨trivial,by omega,by omega⟩];simp
      have Lv:lX 1 (cI g (eT g.ops.l m) vs rest) (.ptr 1 m g.ops.l.length) (.int .i64 o.bh.l.length)=some (cI g (eT g.ops.l (m+1)) vs rest) :=by
       have ad:(cI g (eT g.ops.l m) vs rest)[1]? = some (.cells g.ops.l.length ((eT g.ops.l m).map j4)) :=rfl;simp only[lX,U.cells,ad];rw[if_pos (by simp; omega)];have ae:bg ((eT g.ops.l m).map j4) m [U.int .i64 o.bh.l.length]=(eT g.ops.l (m+1)).map j4:=by
        rw[<-amJ k6,vF];exact pb j4 (eT g.ops.l m) m _ (by rw[YK]; exact k6)
       rw[ae]; rfl
      have Di:g4 (cI g (eT g.ops.l (m+1)) vs rest) (.ptr 1 m g.ops.l.length)=some ((eT g.ops.l (m+1)).map j4,m) :=by
       have ad:(cI g (eT g.ops.l (m+1)) vs rest)[1]? = some (.cells g.ops.l.length ((eT g.ops.l (m+1)).map j4)) :=rfl;simp only[g4,ad]; simp
      have Gs:((eT g.ops.l (m+1)).map j4)[m]? = some (.int .i64 o.bh.l.length) :=by
       rw[as5,ID k6,if_pos (by omega),vF]; rfl
      have ao7:∀ h:m<((eT g.ops.l (m+1)).map j4).length,((eT g.ops.l (m+1)).map j4)[m]'h=.int .i64 o.bh.l.length:=fun h=>(as0.1 Gs).2
      have SC:O[1]? = some (aD o.bh) :=by rw[as4 (by rw[oO]; omega),n1]
      have vt:lr (cI g (eT g.ops.l (m+1)) vs rest) vs cl bf:=fo.frame fun b af ⟨a,uv,ad,ae,aj⟩=>Ac (au2 fun h=>AN fo h a uv ad ae aj)
      have FW:bO 1 (cI g (eT g.ops.l (m+1)) vs rest) e6 hr ((jk g.ops.l m).map hP) :=by
       by_cases bV:jk g.ops.l m=[]
       ·rw[bV] at k1 ⊢;rw[kK.1 k1];exact .nil _
       ·exact iW.frame fun _=>Ac (l7.resolve_left bV).1
      have F1:∀ i,i<m+1->mr g.ids.l (eR g.ops.l i)=true:=fun i az=>by
       by_cases aec:i=m
       ·subst aec;rw[vF];refine decide_eq_true fun p av=>?_
        obtain⟨j,fp⟩:=atc.1 av;exact Df j p (by rw[vG]; exact (as0.1 fp).1) fp
       ·exact dL i (by omega)
      by_cases ax:o.bh.l.length=0
      ·have aex:cv (.aq 32) (aD o.bh)=some (.int .i64 0) :=by rw[gO,ax]; rfl
       have afx:lX 1 (cI g (eT g.ops.l m) vs rest) (.ptr 1 m g.ops.l.length) (.int .i64 0)=some (cI g (eT g.ops.l (m+1)) vs rest) :=by rw[ax] at Lv; exact Lv
       have adZ:((eT g.ops.l (m+1)).map j4)[m]? = some (.int .i64 0) :=by rw[ax] at Gs; exact Gs
       have pY:jk g.ops.l (m+1)=jk g.ops.l m++[m] :=by
        rw[WU,vF,atI.1 ax]; rfl
       obtain⟨md,yl,gA,fU⟩:∃ md,bO 1 (cI g (eT g.ops.l (m+1)) vs (rest++[.cells 1 [.int .i64 (m:Int)]])) e6 md ((jk g.ops.l m).map hP)/\3<=md/\oB cl bf md:=by
        by_cases bV:jk g.ops.l m=[]
        ·rw[bV] at k1 ⊢;rw[kK.1 k1];exact⟨(cI g (eT g.ops.l (m+1)) vs (rest++[.cells 1 [.int .i64 (m:Int)]])).length,.nil _,by simp[cI],D9 vt (by simp[cI])⟩
        ·exact⟨hr,FW.more _,(l7.resolve_left bV).1,(l7.resolve_left bV).2⟩
       have q5:(jk g.ops.l m).length<=m:=by
        have:=aul (fun k=>(eR g.ops.l k).isEmpty) (List.range m);simpa [jk] using this
       obtain⟨Bh,L9,bo,aO,aT,aZ,bi,bm,cw⟩:=oE (by_:=8) yl (x:=.aq 1 (rest.length+3) 0 1 1 1) (xs:=[hP m]) (by simp[ds,cI,hP]) (by simp[hP]) (by omega) (by omega) (by rw[lK]; simp; omega);have aev:(cI g (eT g.ops.l (m+1)) vs (rest++[.cells 1 [.int .i64 (m:Int)]])).length=rest.length+4:=by simp[cI]
       obtain⟨dU,rfl⟩:∃ r,bo=cI g (eT g.ops.l (m+1)) vs r:=uz ((bi 0 (by omega) (by omega)).trans rfl) ((bi 1 (by omega) (by omega)).trans rfl) ((bi 2 (by omega) (by omega)).trans rfl);have Li:cI g (eT g.ops.l (m+1)) vs rest++[aY.cells 1 [.int .i64 (m:Int)]]=cI g (eT g.ops.l (m+1)) vs (rest++[.cells 1 [.int .i64 (m:Int)]]) :=rfl;have GF:(cI g (eT g.ops.l (m+1)) vs rest).length=rest.length+3:=by simp[cI]
       simp[Dh,T6,SC,aex,CU,afx,Di,adZ,Li,GF,aO];refine c8.cb ?_;simp;have LC:cD Bh=false:=by
        cases aR:cD Bh with
        | true=>have:=(cw.1 (kK.1 aR)).2; cases this
        | false=>rfl
       refine⟨k6,by rw[IntKind.wrap_i64]; omega,⟨⟨vs,cl,bf,L9,dU,rfl,?_,SE,?_,?_,.inr ⟨?_,?_⟩⟩⟩,F1⟩
       ·exact vt.frame fun b af ⟨a,uv,ad,ae,aj⟩=>(bi b (by omega) (fun e=>fU a uv ad ae (by omega))).trans (Lb af)
       ·rw[pY,atn]; exact aT
       ·rw[LC,pY]; simp
       ·rcases bm with e | e<;>omega
       ·rcases bm with e | e
        ·rw[e]; exact fU
        ·exact D9 vt (by omega)
      ·have pY:jk g.ops.l (m+1)=jk g.ops.l m:=by
        rw[WU,vF];have:o.bh.l.isEmpty=false:=by cases eV:o.bh.l with | nil=>rw[eV] at ax; exact absurd rfl ax | cons=>rfl
        rw[this]; simp
       simp[Dh,T6,SC,gO,CU,Lv,Di,Gs,ax];exact⟨k6,by rw[IntKind.wrap_i64]; omega,⟨⟨vs,cl,bf,hr,rest,rfl,vt,SE,by rw[pY]; exact FW,by rw[pY]; exact k1,by rw[pY]; exact l7⟩⟩,F1⟩
    ·simp;obtain⟨vs,cl,bf,hr,rest,rfl,fo,nh,iW,k1,l7⟩:=hS;refine⟨⟨vs,cl,bf,hr,rest++[.cells 11 O],rfl,fo.more _,nh,iW.more _,k1,l7,by rw[F5,atl (as3 _)]; simp,by rw[F5]; simp[cI],D9 fo (by rw[F5]; exact as3 _)⟩⟩
   ·have nq:m=g.ops.l.length:=by omega
    subst nq;obtain⟨vs,cl,bf,agB,aj7,rfl,vr,nh,Cy,acU,acT⟩:=hS;have J8:=aiV nh;have jQ:vs.length=g.ops.l.length:=by rw[vr.qn,nh.len]
    have iD:wi g.ids.l g.ops.l=true:=decide_eq_true fun o eF=>by
     obtain⟨j,fp⟩:=atc.1 eF;have:=dL j (as0.1 fp).1
     rwa [AQ fp] at this
    have SA:=ag2 (ids:=g.ids.l) (ops:=g.ops.l) al;rw[<-amI] at SA;have fH:rR g vs cl bf (eT g.ops.l g.ops.l.length) (jk g.ops.l g.ops.l.length) e6 aj7:=⟨⟨agB,vr,Cy,acU,acT⟩⟩
    simp;refine cB g.ops.l.length (fun d σ l=>σ 1=.ptr 0 0 2/\σ 4=.aq 1 1 0 g.ops.l.length g.ops.l.length g.ops.l.length/\σ 5=.aq 1 2 0 g.ops.l.length g.ops.l.length g.ops.l.length/\σ 13=.int .i64 d ∧
     ∃ W R rest,l=cI g W vs rest/\rR g vs cl bf W R (σ 6) rest/\rP g.ids.l g.ops.l [] d 0 R W) ?_ ?_
    ·rintro d σ l bb ⟨aO,bi,bm,lC,W,R,rest,rfl,hS,aU⟩;obtain⟨e6,cw⟩:∃ v,σ 6=v:=⟨_,rfl⟩
     rw[cw] at hS;obtain⟨σ,rfl⟩:=lo aO bi bm cw lC;clear aO bi bm cw lC;have Cz:cv (.aq 1) e6=some (.int .i64 R.length) :=by obtain⟨hr,_,iW,_⟩:=hS; have:=iW.len; simpa using this
     have k1:R.length<=g.ops.l.length:=by
      have:=ux (b:=List.range g.ops.l.length) aU.sC fun x ag=>atA.2 (aU.oK x ag).1
      simpa using this
     by_cases Gj:d<R.length
     ·obtain⟨a,aB,SO⟩:=bP Gj;have ac3:=(aU.oK a SO).1;have aQ:IntKind.i64.wrap ((d:Int)+1)=((d+1:Nat) :Int) :=by rw[IntKind.wrap_i64]; omega
      obtain⟨row,cJ,_⟩:=bP (l:=cl) (k:=a) (by rw[nh.len]; exact ac3);obtain⟨iw,Ak,_⟩:=bP (l:=vs) (k:=a) (by omega);obtain⟨hr,fo,iW,SH,l7⟩:=hS;obtain⟨aiQ,Qt,EQ,cX,dC,kW,qC⟩:=iW.q.get (k:=.i64) (i:=d) (e:=hP a) (by rw[as5,aB]; rfl);have y4:=MM (c:=.int .i64 (a:Int)) qC;have Gu:cN (.aq 1) (.aq 1 2 0 g.ops.l.length g.ops.l.length g.ops.l.length) (.int .i64 (a:Int))=some (.ptr 2 a g.ops.l.length) :=by
       simp only[cN];rw[if_pos ⟨trivial,by omega,by omega⟩];simp
      have Dj:∀ eK sM,g4 (cI g eK vs sM) (.ptr 2 a g.ops.l.length)=some (vs,a) :=fun eK sM=>by
       have ad:(cI g eK vs sM)[2]? = some (.cells g.ops.l.length vs) :=rfl;simp only[g4,ad]; simp
      have LD:=(fo.own a iw row Ak cJ).1;have afF:cv (.aq 1) iw=some (.int .i64 row.length) :=by have:=LD.len; simpa using this
      have q5:=nh.Eo a row cJ;simp[Cz,Gj,cX,dC,y4,Gu,Dj,Ak,afF];refine cB row.length (fun j σ l=>σ 1=.ptr 0 0 2/\σ 4=.aq 1 1 0 g.ops.l.length g.ops.l.length g.ops.l.length/\σ 5=.aq 1 2 0 g.ops.l.length g.ops.l.length g.ops.l.length/\σ 13=.int .i64 d/\σ 106=iw/\σ 107=.int .i64 row.length/\σ 108=.int .i64 j ∧
       ∃ W R rest,l=cI g W vs rest/\rR g vs cl bf W R (σ 6) rest/\rP g.ids.l g.ops.l row d j R W/\R[d]? = some a) ?_ ?_
      ·rintro j σ l KP ⟨aO,bi,bm,lC,R3,R4,R5,W,R,rest,rfl,hS,aU,aB⟩;obtain⟨e6,cw⟩:∃ v,σ 6=v:=⟨_,rfl⟩
       rw[cw] at hS;obtain⟨σ,rfl⟩:=Yg aO bi bm cw lC R3 R4 R5;clear aO bi bm cw lC R3 R4 R5;by_cases eO:j<row.length
       ·obtain⟨k,ar,qW⟩:=bP eO;have e5:=J8.lt a row cJ k qW;obtain⟨x,ag,Ao,apv,Cv⟩:=ag3 al ai J8 aU aB cJ ar;have apw:(eR g.ops.l k).length<=4:=by
         obtain⟨dt,dE,ae1⟩:=bP e5;rw[AQ dE]; exact aF dt ae1
        have aQ:IntKind.i64.wrap ((j:Int)+1)=((j+1:Nat) :Int) :=by rw[IntKind.wrap_i64]; omega
        have bx:IntKind.i64.wrap (x - 1)=x - 1:=by rw[IntKind.wrap_i64]; omega
        obtain⟨hr,fo,iW,SH,l7⟩:=id hS;have LD:=(fo.own a iw row Ak cJ).1;obtain⟨aiQ,Qt,EQ,cX,dC,kW,qC⟩:=LD.q.get (k:=.i64) (i:=j) (e:=hP k) (by rw[as5,ar]; rfl);have y4:=MM (c:=.int .i64 (k:Int)) qC;have CU:cN (.aq 1) (.aq 1 1 0 g.ops.l.length g.ops.l.length g.ops.l.length) (.int .i64 (k:Int))=some (.ptr 1 k g.ops.l.length) :=by
         simp only[cN];rw[if_pos ⟨trivial,by omega,by omega⟩];simp
        have aoR:=aU.wl;have Di:g4 (cI g W vs rest) (.ptr 1 k g.ops.l.length)=some (W.map j4,k) :=by
         have ad:(cI g W vs rest)[1]? = some (.cells g.ops.l.length (W.map j4)) :=rfl;simp only[g4,ad]; simp
        have fI:(W.map j4)[k]? = some (.int .i64 x) :=by rw[as5,ag]; rfl
        have b3:lX 1 (cI g W vs rest) (.ptr 1 k g.ops.l.length) (.int .i64 (x - 1))=some (cI g (W.set k (x - 1)) vs rest) :=by
         have ad:(cI g W vs rest)[1]? = some (.cells g.ops.l.length (W.map j4)) :=rfl;simp only[lX,U.cells,ad];rw[if_pos (by simp; omega)];have ae:bg (W.map j4) k [U.int .i64 (x - 1)]=(W.set k (x - 1)).map j4:=pb j4 W k _ (by omega);rw[ae]; rfl
        have Dj:g4 (cI g (W.set k (x - 1)) vs rest) (.ptr 1 k g.ops.l.length)=some ((W.set k (x - 1)).map j4,k) :=by
         have ad:(cI g (W.set k (x - 1)) vs rest)[1]? = some (.cells g.ops.l.length ((W.set k (x - 1)).map j4)) :=rfl;simp only[g4,ad]; simp
        have Gr:((W.set k (x - 1)).map j4)[k]? = some (.int .i64 (x - 1)) :=by rw[as5,atj (by omega)]; rfl
        have zR:rR g vs cl bf (W.set k (x - 1)) R e6 rest:=hS.setW;obtain⟨dG,FZ⟩:∃ dG,dG=W.set k (x - 1) :=⟨_,rfl⟩
        rw[<-FZ] at b3 Dj Gr zR Cv;by_cases ax:x - 1=0
        ·rw[if_pos ax] at Cv;have fc:IntKind.i64.wrap (x - 1)=0:=by rw[bx]; exact ax
         rw[ax] at b3 Gr;have aoM:R.length<=g.ops.l.length:=by
          have:=ux (b:=List.range g.ops.l.length) aU.sC fun x ag=>atA.2 (aU.oK x ag).1
          simpa using this
         obtain⟨a3,dU,iK,jh⟩:=zR.push k (by rw[lK]; omega);have Li:cI g dG vs rest++[aY.cells 1 [.int .i64 (k:Int)]]=cI g dG vs (rest++[.cells 1 [.int .i64 (k:Int)]]) :=rfl;have GF:(cI g dG vs rest).length=rest.length+3:=by simp[cI]
         simp[eO,cX,dC,y4,CU,Di,fI,fc,b3,Dj,Gr,Li,GF,iK];refine c8.cb ?_;simp[eO,aQ];exact⟨dG,R++[k],dU,rfl,jh,Cv,by rw[as2 (as0.1 aB).1]; exact aB⟩
        ·rw[if_neg ax] at Cv;simp[eO,cX,dC,y4,CU,Di,fI,bx,b3,Dj,Gr,ax,aQ];exact⟨dG,R,rest,rfl,zR,Cv,aB⟩
       ·have aek:j=row.length:=by omega
        subst aek;simp[eO];exact⟨by omega,by rw[IntKind.wrap_i64]; omega,W,R,rest,rfl,hS,ag0 J8 aU aB cJ⟩
      ·simp;exact⟨W,R,rest,rfl,⟨⟨hr,fo,iW,SH,l7⟩⟩,ag1 aU,aB⟩
     ·have adB:d=R.length:=by have:=aU.dl; omega
      subst adB;obtain⟨gA,fU⟩:=agZ al ai aU;by_cases pS:R.length<g.ops.l.length
      ·simp[Cz,Gj,cI,cV,pS];refine aP (congrArg (U.int .i64) ?_) rfl;unfold nI;rw[if_pos ay,if_pos iD,if_neg (fun h=>by have:=fU.2 h; omega)]
      ·simp[Cz,Gj,cI,cV,pS];refine aP (congrArg (U.int .i64) ?_) rfl;unfold nI;rw[if_pos ay,if_pos iD,if_pos (fU.1 (by omega))]
    ·simp;exact⟨_,_,_,rfl,fH,SA⟩
  ·simp;refine⟨⟨List.replicate g.ops.l.length .aH,List.replicate g.ops.l.length [],fun _=>0,0,[],?_,⟨by simp,fun a v row ap afk=>?_,fun a b mh nB _ aB _ sd _=>?_⟩,aiX _ _,.nil _,rfl,.inl rfl⟩⟩
   ·unfold cI; rw[amK,avj]; rfl
   ·have ad:=aum (ata ap);have ae:=aum (ata afk);subst ad ae;exact⟨.nil _,rfl,.inl rfl⟩
   ·exact absurd (aum (ata aB)) sd
set_option maxHeartbeats 4000000 in
theorem Yu (g:bt) (aw:g8 g) :bA Tryz.prog GS 38 [c4 g] (.int .i64 (hz g)) :=by
 refine bW Tryz.checked.mixed bl ?_;apply bq Tryz.func38 [];have fW:=dw g.ids;have eg:=lz g.ops;have k3:=te g;have cV:cv (.aq 11) (bC g.ops)=some (.int .i64 g.ops.l.length) :=by simp[bC]
 have cT:cv (.aq 32) (aD g.ids)=some (.int .i64 g.ids.l.length) :=by simp[aD]
 have bD:=aw.cG;by_cases qN:60<(g.ops.l.length:Int)
 ·simp[c4,bX,cV,qN];refine aP (congrArg (U.int .i64) ?_) rfl;unfold hz; rw[if_pos (by omega)]
 by_cases al:g.ids.l.length=g.ops.l.length
 ·have dj:(g.ids.l.length:Int)=(g.ops.l.length:Int) :=by omega
  simp[c4,bX,cV,cT,qN,dj];refine cB g.ops.l.length (fun k σ l=>(∃ rest,l=.cells 2 [aD g.ids,bC g.ops] ::rest)/\σ 1=.ptr 0 0 2/\σ 19=bC g.ops/\σ 20=.int .i64 g.ops.l.length/\σ 21=.int .i64 k/\∀ j,j<k->mB g j=true) ?_ (by simp);rintro k σ l ar ⟨⟨rest,rfl⟩,aO,pH,R8,ti,ak⟩;obtain⟨σ,rfl⟩:=i2 aO pH R8 ti;clear aO pH R8 ti;by_cases bB:k<g.ops.l.length
  ·obtain⟨o,au,eF⟩:=bP bB;obtain⟨x,ag,dp⟩:=bP (l:=g.ids.l) (k:=k) (by omega);have k4:=FM au ag;have aQ:IntKind.i64.wrap ((k:Int)+1)=((k+1:Nat) :Int) :=by rw[IntKind.wrap_i64]; omega
   have bZ:cN (.aq 11) (bC g.ops) (.int .i64 (k:Int))=some (.bK (a9 o) 0) :=by simp[bC,au]
   have xO:cN (.aq 32) (aD g.ids) (.int .i64 (k:Int))=some (.bK (a1 x) 0) :=by simp[aD,ag]
   have ap:=amm o (aw.ops o eF);have hV:=amf o (aw.ops o eF);change bA Tryz.prog GS 55 [.aG (a9 o)] (.bv [.aG (a1 (mO o)),.int .i64 (hh o)]) at hV;have n5:=l3 o;have bn:=de (aw.ids x dp);have Cu:=de (LS o);have dF:(a9 o).length=11:=rfl;have heq:=yc (LS o) (aw.ids x dp);have h5:¬ mB g k=true->hz g=8:=fun h=>by
    unfold hz;rw[if_neg (by omega),if_pos al,if_neg fun aR=>h ((zK g).1 aR k bB)]
   obtain⟨O,eD⟩:∃ O,O=a9 o:=⟨_,rfl⟩
   obtain⟨X,cM⟩:∃ X,X=a1 x:=⟨_,rfl⟩
   obtain⟨I,nf⟩:∃ I,I=a1 (mO o) :=⟨_,rfl⟩
   rw[<-eD] at bZ ap hV n5 dF;rw[<-cM] at xO bn heq;rw[<-nf] at hV heq Cu;have q9:bg [U.int .u32 0,.aH,.int .u64 0,.int .u8 0,.str [],.int .u8 0,.int .i64 0,.int .u64 0,.str [],.int .u32 0,.int .u32 0] 0 O=O:=hu (by rw[dF]; rfl);have Lu:bg (rep 32 (.int .u8 0)) 0 I=I:=hu (by rw[Cu]; rfl);simp[bB,bZ,dF,q9,as1];refine a4 hV (by simp[a5,U.closed,n5]) ?_;by_cases aI:hh o=0
   ·by_cases dP:mO o=x
    ·simp[aI,Cu,Lu,xO,bn,heq,dP,dF,as1];refine a4 ap (by simp[a5,U.closed,n5]) ?_;by_cases oh:rH o=0
     ·simp[oh,bB,aQ];intro j ai;by_cases gG:j=k
      ·subst gG; rw[k4]; simp[oh,dP]
      ·exact ak j (by omega)
     ·have af:¬ mB g k=true:=fun h=>by rw[k4] at h; simp[oh] at h
      simp[oh];exact aP (congrArg (U.int .i64) (h5 af).symm) rfl
    ·have af:¬ mB g k=true:=fun h=>by rw[k4] at h; simp[dP] at h
     simp[aI,Cu,Lu,xO,bn,heq,dP,dF,as1];exact aP (congrArg (U.int .i64) (h5 af).symm) rfl
   ·have af:¬ mB g k=true:=fun h=>by
     rw[k4,as7,decide_eq_true_eq] at h;exact aI (Io h.1)
    simp[aI,Cu,Lu,xO,bn,heq,dF,as1];exact aP (congrArg (U.int .i64) (h5 af).symm) rfl
  ·have mI:k=g.ops.l.length:=by omega
   have dL:xw g=true:=(zK g).2 fun j ai=>ak j (by omega)
   have aF:∀ o∈g.ops.l,o.bh.l.length<=4:=fun o eF=>by
    obtain⟨j,ai⟩:=atc.1 eF;obtain⟨x,ag,_⟩:=bP (l:=g.ids.l) (k:=j) (by have:=(as0.1 ai).1; omega);have ad:=(zK g).1 dL j (as0.1 ai).1;rw[FM ai ag,as7,decide_eq_true_eq] at ad;exact yu (Io ad.1)
   have oV:=akF g aw al (by omega) aF;unfold c4 bX at oV k3;simp[bB];refine a4 oV (by simp[a5,k3]) ?_;simp;refine aP (congrArg (U.int .i64) ?_) rfl;unfold hz;rw[if_neg (by omega),if_pos al,if_pos dL]
 ·have dj:¬ (g.ids.l.length:Int)=(g.ops.l.length:Int) :=by omega
  simp[c4,bX,cV,cT,qN,dj];refine aP (congrArg (U.int .i64) ?_) rfl;unfold hz; rw[if_neg (by omega),if_neg al]
def tn (o:bp) :Bool:=decide (20<o.bh.l.length)||(decide (100<o.act.key.length)||decide (100<o.act.val.text.length))
theorem ajm (o:bp) :bA Tryz.prog GS 129 [.aG (a9 o)] (.bool (tn o)) :=by
 refine bW Tryz.checked.mixed bl ?_;apply bq Tryz.func129 [];unfold tn;have gO:cv (.aq 32) (aD o.bh)=some (.int .i64 o.bh.l.length) :=by simp[aD]
 by_cases ad:20<o.bh.l.length
 ·have dH:(20:Int)<(o.bh.l.length:Int) :=by omega
  simp[a9,gO,ad,dH];exact aP rfl rfl
 ·have dH:¬ (20:Int)<(o.bh.l.length:Int) :=by omega
  by_cases ae:100<o.act.key.length
  ·have go:(100:Int)<(o.act.key.length:Int) :=by omega
   simp[a9,gO,ad,dH,ae,go];exact aP rfl rfl
  ·have go:¬ (100:Int)<(o.act.key.length:Int) :=by omega
   simp[a9,gO,ad,dH,ae,go];refine aP (congrArg U.bool ?_) rfl;by_cases aj:100<o.act.val.text.length
   ·have mC:(100:Int)<(o.act.val.text.length:Int) :=by omega
    simp[aj,mC]
   ·have mC:¬ (100:Int)<(o.act.val.text.length:Int) :=by omega
    simp[aj,mC]
def tm (g:bt) :Bool:=decide (∃ o∈g.ops.l.take 71,tn o=true)||(decide (16<g.ops.l.length/\g.ops.l.length<=60)||(decide (70<g.ops.l.length)||decide (70<g.ids.l.length)))
theorem ajl (g:bt) :bA Tryz.prog GS 90 [c4 g] (.bool (tm g)) :=by
 refine bW Tryz.checked.mixed bl ?_;apply bq Tryz.func90 [];have cV:cv (.aq 11) (bC g.ops)=some (.int .i64 g.ops.l.length) :=by simp[bC]
 have cT:cv (.aq 32) (aD g.ids)=some (.int .i64 g.ids.l.length) :=by simp[aD]
 simp[c4,bX];refine cB (min g.ops.l.length 71) (fun k σ l=>l=[.cells 2 [aD g.ids,bC g.ops]]/\σ 1=.ptr 0 0 2/\σ 3=.int .i64 k/\∀ (j:Nat) (o:bp),j<k->g.ops.l[j]? = some o->tn o=false) ?_ (by simp);rintro k σ l ar ⟨rfl,aO,aZ,ak⟩;obtain⟨σ,rfl⟩:=qm aO aZ;clear aO aZ;by_cases bB:k<g.ops.l.length
 ·by_cases Tu:k<=70
  ·obtain⟨o,au,eF⟩:=bP bB;have aQ:IntKind.i64.wrap ((k:Int)+1)=((k+1:Nat) :Int) :=by rw[IntKind.wrap_i64]; omega
   have bZ:cN (.aq 11) (bC g.ops) (.int .i64 (k:Int))=some (.bK (a9 o) 0) :=by simp[bC,au]
   have ap:=ajm o;have n5:=l3 o;have dF:(a9 o).length=11:=rfl;have KR:(k:Int)<=70:=by omega
   have qW:k<min g.ops.l.length 71:=by omega
   obtain⟨O,eD⟩:∃ O,O=a9 o:=⟨_,rfl⟩
   rw[<-eD] at bZ ap n5 dF;simp[cV,bB,Tu,KR,bZ,dF,as1];refine a4 ap (by simp[a5,U.closed,n5]) ?_;by_cases iC:tn o=true
   ·simp[iC];refine aP (congrArg U.bool ?_) rfl;unfold tm;rw[decide_eq_true ⟨o,ata (i:=k) (by rw[atp (by omega)]; exact au),iC⟩]; rfl
   ·rw[au3] at iC;simp[iC,aQ];refine⟨by omega,fun j dt ai dE=>?_⟩;by_cases gG:j=k
    ·subst gG; rw[au] at dE; obtain rfl:=Option.some.inj dE; exact iC
    ·exact ak j dt (by omega) dE
  ·have KR:¬ (k:Int)<=70:=by omega
   have aC:¬ ∃ o∈g.ops.l.take 71,tn o=true:=fun ⟨o,eF,iC⟩=>by
    obtain⟨j,ai⟩:=atc.1 eF;have eO:=(as0.1 ai).1;rw[ati] at eO;rw[atp (by omega)] at ai;rw[ak j o (by omega) ai] at iC; cases iC
   have a2:(16:Int)<(g.ops.l.length:Int) :=by omega
   have bd:¬ (g.ops.l.length:Int)<=60:=by omega
   have b4:(70:Int)<(g.ops.l.length:Int) :=by omega
   simp[cV,cT,bB,Tu,KR,a2,bd,b4];refine aP (congrArg U.bool ?_) rfl;unfold tm;simp[show 70<g.ops.l.length by omega]
 ·have aC:¬ ∃ o∈g.ops.l.take 71,tn o=true:=fun ⟨o,eF,iC⟩=>by
   obtain⟨j,ai⟩:=atc.1 eF;have eO:=(as0.1 ai).1;rw[ati] at eO;rw[atp (by omega)] at ai;rw[ak j o (by omega) ai] at iC; cases iC
  have ad1:tm g=(decide (16<g.ops.l.length/\g.ops.l.length<=60)||(decide (70<g.ops.l.length)||decide (70<g.ids.l.length))) :=by
   unfold tm; rw[decide_eq_false aC]; rfl
  rw[ad1];have d1:decide ((16:Int)<(g.ops.l.length:Int))=decide (16<g.ops.l.length) :=by rw[decide_eq_decide]; omega
  have d2:decide ((g.ops.l.length:Int)<=60)=decide (g.ops.l.length<=60) :=by rw[decide_eq_decide]; omega
  have d3:decide ((70:Int)<(g.ops.l.length:Int))=decide (70<g.ops.l.length) :=by rw[decide_eq_decide]; omega
  have d4:decide ((70:Int)<(g.ids.l.length:Int))=decide (70<g.ids.l.length) :=by rw[decide_eq_decide]; omega
  by_cases a2:16<g.ops.l.length
  ·have uS:(16:Int)<(g.ops.l.length:Int) :=by omega
   by_cases bd:g.ops.l.length<=60
   ·have E2:(g.ops.l.length:Int)<=60:=by omega
    simp[cV,cT,bB,a2,uS,bd,E2];exact aP rfl rfl
   ·have E2:¬ (g.ops.l.length:Int)<=60:=by omega
    by_cases b4:70<g.ops.l.length
    ·have By:(70:Int)<(g.ops.l.length:Int) :=by omega
     simp[cV,cT,bB,a2,uS,bd,E2,b4,By];exact aP rfl rfl
    ·have By:¬ (70:Int)<(g.ops.l.length:Int) :=by omega
     simp[cV,cT,bB,a2,uS,bd,E2,b4,By];exact aP (congrArg U.bool d4) rfl
  ·have uS:¬ (16:Int)<(g.ops.l.length:Int) :=by omega
   have b4:¬ 70<g.ops.l.length:=by omega
   have By:¬ (70:Int)<(g.ops.l.length:Int) :=by omega
   simp[cV,cT,bB,a2,uS,b4,By];exact aP (congrArg U.bool d4) rfl
def gj (o:bp) :bp:={ o with bh:=some o.bh.l }
theorem alu {o:bp} (h:i3 o) :i3 (gj o) :=⟨h.ids,h.len,h.val,h.key⟩
theorem ajJ (o:bp) (au:i3 o) :bA Tryz.prog GS 105 [.aG (a9 o)] (.aG (a9 (gj o))) :=by
 refine bW Tryz.checked.mixed bl ?_;apply bq Tryz.func105 [];have ay:ct=140737488355328:=rfl;have al:=au.len;have ax:∀ x∈o.bh.l,(a1 x).length=32:=fun x ag=>de (au.ids x ag)
 have lE:=OP (enc:=a1) (by_:=32) [aY.cells 11 (a9 o),aY.cells 11 [.int .u32 0,.aH,.int .u64 0,.int .u8 0,.str [],.int .u8 0,.int .i64 0,.int .u64 0,.str [],.int .u32 0,.int .u32 0]] o.bh ax (by omega) (by omega) (by rw[ay]; omega);have hm:∀ x:dr,(aD x).cells=some [aD x] :=fun x=>by cases x<;>rfl
 have mG:=dw (some o.bh.l);simp only[a9,aD,atk,atF,atV,at1] at lE;simp[a9,aD,lE];refine c8.FI (by exact Ea ax rfl rfl) rfl ?_;have am:U.aX 32 (o.bh.l.map a1)=aD (some o.bh.l) :=rfl;simp[am,hm,bg];exact aP rfl (show (U.aG (a9 (gj o))).closed=true by have:=l3 (gj o); simpa [U.closed] using this)
def gi (g:bt) :bt:=⟨some g.ids.l,dk (g.ops.l.map gj)⟩
theorem X8 {g:bt} (h:g8 g) :g8 (gi g) :=by
 refine⟨h.ids,fun o au=>?_,h.li,?_⟩
 ·unfold gi at au;simp only[ey] at au;obtain⟨dt,dE,rfl⟩:=atx.1 au;exact alu (h.ops dt dE)
 ·unfold gi; simp only[ey]; simpa using h.cG
set_option maxHeartbeats 4000000 in
theorem WO (g:bt) (aw:g8 g) :bA Tryz.prog GS 77 [c4 g] (c4 (gi g)) :=by
 refine bW Tryz.checked.mixed bl ?_;apply bq Tryz.func77 [[[0],[1],[2],[3],[4],[5],[6],[7,1]]];have ay:ct=140737488355328:=rfl;have cV:cv (.aq 11) (bC g.ops)=some (.int .i64 g.ops.l.length) :=by simp[bC]
 have bD:=aw.cG;have cT:=aw.li;have ax:∀ x∈g.ids.l,(a1 x).length=32:=fun x ag=>de (aw.ids x ag)
 have lE:=OP (enc:=a1) (by_:=32) [aY.cells 2 (bX g),aY.cells 2 [.aH,.aH]] g.ids ax (by omega) (by omega) (by rw[ay]; omega);have hm:∀ x:dr,(aD x).cells=some [aD x] :=fun x=>by cases x<;>rfl
 have fW:=dw (some g.ids.l);simp only[bX,aD,atk,atF,atV,at1] at lE;simp[c4,bX,aD,lE];refine c8.FI (by exact Ea ax rfl rfl) rfl ?_;have am:U.aX 32 (g.ids.l.map a1)=aD (some g.ids.l) :=rfl;simp[am,hm,bg];refine cB g.ops.l.length (fun k σ l=>σ 1=.ptr 0 0 2/\σ 2=.ptr 1 0 2/\σ 3=.ptr 3 0 2/\σ 4=.int .i64 k/\∃ v j rest,l=.cells 2 [aD g.ids,bC g.ops] ::.cells 2 [.aH,.aH] ::.dead::.cells 2 [aD (some g.ids.l),v] ::rest ∧
  bO 11 l v j (((g.ops.l.take k).map gj).map a9)/\(v=.aH\/4<=j)/\cD v=(g.ops.l.take k).isEmpty) ?_ ?_
 ·rintro k σ l ar ⟨aO,aT,aZ,bi,v,j,rest,rfl,kF,ai,ip⟩;obtain⟨σ,rfl⟩:=i2 aO aT aZ bi;clear aO aT aZ bi;by_cases bB:k<g.ops.l.length
  ·obtain⟨o,au,eF⟩:=bP bB;have aQ:IntKind.i64.wrap ((k:Int)+1)=((k+1:Nat) :Int) :=by rw[IntKind.wrap_i64]; omega
   have bZ:cN (.aq 11) (bC g.ops) (.int .i64 (k:Int))=some (.bK (a9 o) 0) :=by simp[bC,au]
   have ap:=ajJ o (aw.ops o eF);have n5:=l3 o;have dF:(a9 o).length=11:=rfl;have Db:(a9 (gj o)).length=11:=rfl;have b3:g.ops.l.take (k+1)=g.ops.l.take k++[o] :=by rw[atu,au]; rfl
   obtain⟨a3,cn,cx,a2,bd,b4,e0⟩:=xe (by_:=112) (pre:=[.cells 2 [aD g.ids,bC g.ops],.cells 2 [.aH,.aH],.dead,.cells 2 [aD (some g.ids.l),v]]) (rest:=rest++[.cells 11 (a9 (gj o))]) (kF.more _) ai (x:=.aq 11 (rest.length+1+1+1+1) 0 1 1 11) (xs:=[a9 (gj o)])
    (by simp[ds,Db,as1]) (by simp[Db]) (by omega) (by omega) (by rw[ay]; simp; omega)
   obtain⟨O,eD⟩:∃ O,O=a9 o:=⟨_,rfl⟩
   obtain⟨T,eM⟩:∃ T,T=a9 (gj o) :=⟨_,rfl⟩
   rw[<-eD] at bZ ap n5 dF;rw[<-eM] at ap Db a2 bd;have afo:bg [U.int .u32 0,.aH,.int .u64 0,.int .u8 0,.str [],.int .u8 0,.int .i64 0,.int .u64 0,.str [],.int .u32 0,.int .u32 0] 0 T=T:=hu (by rw[Db]; rfl);have rc:=bd.cells;simp only[atV,at1] at a2;simp[cV,bB,bZ,dF,as1];refine a4 ap (by simp[a5,U.closed,n5]) ?_;simp[Db,afo,a2];refine c8.cb ?_;simp[rc,bg,aQ];have cJ:List.take (k+1) (List.map (a9 ∘ gj) g.ops.l)=((g.ops.l.take k).map gj).map a9++[T] :=by rw[<-avp,b3]; simp[eM]
   have fr:cD a3=false:=by rw[e0]; simp
   have aei:4<=cn:=by
    rcases b4 with h | h
    ·rw[h] at fr; cases fr
    ·simpa using h
   refine⟨bB,cn,?_,.inr aei,by rw[fr,b3]; simp⟩;rw[cJ];refine bd.lA (.inr ?_);obtain⟨jS,rfl⟩:∃ jS,cn=jS+4:=⟨cn - 4,by omega⟩
   rfl
  ·have mI:k=g.ops.l.length:=by omega
   simp[cV,bB];rw[mI,aty] at kF ip;have mM:jo (aY.cells 2 [aD g.ids,bC g.ops] ::aY.cells 2 [aD (some g.ids.l),v] ::aY.dead::aY.cells 2 [aD (some g.ids.l),v] ::rest) v (bC (dk (g.ops.l.map gj))) :=by
    refine (kF.lA (l':=aY.cells 2 [aD g.ids,bC g.ops] ::aY.cells 2 [aD (some g.ids.l),v] ::aY.dead::aY.cells 2 [aD (some g.ids.l),v] ::rest) ?_).q.AZ (fun x=>l3 x) (dk (g.ops.l.map gj)) (by rw[ip,sP]; simp) (ey _);rcases ai with h | h
    ·exact .inl h
    ·right;obtain⟨jS,rfl⟩:∃ jS,j=jS+4:=⟨j - 4,by omega⟩
     rfl
   refine .aG _ _ rfl fun j c c' ah ef=>?_
   rcases j with _ | _ | j
   ·simp[c4,bX,gi] at ah ef; subst ah ef; exact .same _ fW
   ·simp[c4,bX,gi] at ah ef; subst ah ef; exact mM
   ·simp at ah
 ·simp;exact⟨.aH,⟨rfl,rfl⟩,0,.nil 0,.inl rfl,rfl⟩
def wy (a b:bp) :Bool:=decide (a.g9=b.g9)&&(decide (a.bh.l=b.bh.l)&&(decide (a.ig=b.ig)&&(fx (j5 a.act) (j5 b.act)&&(decide (a.e=b.e)&&decide (a.s=b.s)))))
theorem agY:sw Tryz.prog 20 92=some [.i .u32,.i .u32] :=by kernel_rfl
theorem akr (a b c d:D) :gD Tryz.prog .eql 92 (.aG [br a,br b]) (.aG [br c,br d])=some (.bool (decide (a=c)&&decide (b=d))) :=by
 rw[Ff agY (by kernel_rfl) (by kernel_rfl) rfl rfl];simp[fx,U.beq]
theorem ajA (a b:bp) (aB:i3 a) (af:i3 b) :bA Tryz.prog GS 51 [.aG (a9 a),.aG (a9 b)] (.bool (wy a b)) :=by
 refine bW Tryz.checked.mixed bl ?_;apply bq Tryz.func51 [];unfold wy;have qR:=dw a.bh;have Ku:=dw b.bh;have KJ:=Ia a.bh b.bh aB.ids af.ids aB.len;have vu:=OA a.act b.act;have afp:=akr a.e a.s b.e b.s;have SO:(aD a.bh).cells=some [aD a.bh] :=by cases a.bh<;>rfl
 have aoX:(aD b.bh).cells=some [aD b.bh] :=by cases b.bh<;>rfl
 unfold j5 at vu ⊢;simp[a9];by_cases ad:a.g9=b.g9
 ·simp[ad];refine a4 KJ (by simp[a5,qR,Ku]) ?_;by_cases ae:a.bh.l=b.bh.l
  ·by_cases aj:a.ig=b.ig
   ·cases aF:fx [bz a.act.kind,.str a.act.key,bz a.act.val.kind,.int .i64 a.act.val.num,dN a.act.val.bits,.str a.act.val.text] [bz b.act.kind,.str b.act.key,bz b.act.val.kind,.int .i64 b.act.val.num,dN b.act.val.bits,.str b.act.val.text] with
    | false=>
     rw[aF] at vu;simp[ad,ae,aj,vu];exact aP rfl rfl
    | true=>
     rw[aF] at vu;simp[ad,ae,aj,vu,afp];exact aP rfl rfl
   ·simp[ad,ae,aj];exact aP rfl rfl
  ·simp[ad,ae];exact aP rfl rfl
 ·simp[ad];exact aP rfl rfl
def jV (l:List bp) (k:Nat) :bp:=l.getD k ⟨0,none,0,⟨0,[],⟨0,0,0,[]⟩⟩,0,0⟩
theorem ul {l:List bp} {k:Nat} {o:bp} (h:l[k]? = some o) :jV l k=o:=by unfold jV; rw[atf,h]; rfl
def rB (a b:bt) :Bool:=decide (a.ids.l=b.ids.l)&&(decide (a.ops.l.length=b.ops.l.length)&&decide (∀ k,k<a.ops.l.length->wy (jV a.ops.l k) (jV b.ops.l k)=true))
theorem ajz (a b:bt) (aB:g8 a) (af:g8 b) :bA Tryz.prog GS 22 [c4 a,c4 b] (.bool (rB a b)) :=by
 refine bW Tryz.checked.mixed bl ?_;apply bq Tryz.func22 [];have qR:=dw a.ids;have Ku:=dw b.ids;have KJ:=Ia a.ids b.ids aB.ids af.ids aB.li;have np:cv (.aq 11) (bC a.ops)=some (.int .i64 a.ops.l.length) :=by simp[bC]
 have jN:cv (.aq 11) (bC b.ops)=some (.int .i64 b.ops.l.length) :=by simp[bC]
 have bD:=aB.cG;simp[c4,bX];refine a4 KJ (by simp[a5,qR,Ku]) ?_;by_cases ad:a.ids.l=b.ids.l
 ·by_cases ae:a.ops.l.length=b.ops.l.length
  ·have go:(a.ops.l.length:Int)=(b.ops.l.length:Int) :=by omega
   simp[ad,np,jN,ae,go];refine cB a.ops.l.length (fun k σ l=>l=[.cells 2 [aD a.ids,bC a.ops],.cells 2 [aD b.ids,bC b.ops]]/\σ 2=.ptr 0 0 2/\σ 3=.ptr 1 0 2/\σ 5=.int .i64 k/\∀ j,j<k->wy (jV a.ops.l j) (jV b.ops.l j)=true) ?_ (by simp);rintro k σ l ar ⟨rfl,aT,aZ,bm,ak⟩;obtain⟨σ,rfl⟩:=ln aT aZ bm;clear aT aZ bm;by_cases bB:k<a.ops.l.length
   ·obtain⟨o,au,eF⟩:=bP bB;obtain⟨p,av,g0⟩:=bP (l:=b.ops.l) (k:=k) (by omega);have aQ:IntKind.i64.wrap ((k:Int)+1)=((k+1:Nat) :Int) :=by rw[IntKind.wrap_i64]; omega
    have bZ:cN (.aq 11) (bC a.ops) (.int .i64 (k:Int))=some (.bK (a9 o) 0) :=by simp[bC,au]
    have hc:cN (.aq 11) (bC b.ops) (.int .i64 (k:Int))=some (.bK (a9 p) 0) :=by simp[bC,av]
    have ap:=ajA o p (aB.ops o eF) (af.ops p g0);have eg:=l3 o;have mG:=l3 p;have dF:(a9 o).length=11:=rfl;have gZ:(a9 p).length=11:=rfl;have F2:=ul au;have Gc:=ul av;obtain⟨O,eD⟩:∃ O,O=a9 o:=⟨_,rfl⟩
    obtain⟨Q,kx⟩:∃ Q,Q=a9 p:=⟨_,rfl⟩
    rw[<-eD,<-kx] at ap;rw[<-eD] at bZ eg dF;rw[<-kx] at hc mG gZ;simp[np,bB,bZ,hc,dF,gZ,as1];refine a4 ap (by simp[a5,U.closed,eg,mG]) ?_;by_cases kf:wy o p=true
    ·simp[kf,bB,aQ];intro j ai;by_cases gG:j=k
     ·subst gG; rw[F2,Gc]; exact kf
     ·exact ak j (by omega)
    ·rw[au3] at kf;simp[kf];refine aP (congrArg U.bool ?_) rfl;unfold rB;rw[decide_eq_false (fun h:∀ k,k<a.ops.l.length->wy (jV a.ops.l k) (jV b.ops.l k)=true=>by
      have:=h k bB;rw[F2,Gc,kf] at this;cases this)]
     simp
   ·have mI:k=a.ops.l.length:=by omega
    simp[np,bB];refine aP (congrArg U.bool ?_) rfl;unfold rB;rw[decide_eq_true ad,decide_eq_true ae,decide_eq_true fun j ai=>ak j (by omega)]; rfl
  ·have go:¬ (a.ops.l.length:Int)=(b.ops.l.length:Int) :=by omega
   simp[ad,np,jN,ae,go];refine aP (congrArg U.bool ?_) rfl;unfold rB; rw[decide_eq_false ae]; simp
 ·simp[ad];refine aP (congrArg U.bool ?_) rfl;unfold rB; rw[decide_eq_false ad]; simp
structure IJ (g:bt) :Prop where
 n60:g.ops.l.length<=60
 len:g.ids.l.length=g.ops.l.length
 acg:∀ (k:Nat) (o:bp) (x:List B),g.ops.l[k]? = some o->g.ids.l[k]? = some x->rH o=0/\mO o=x
 dA:dA g.ids.l=true
 aiC:∀ o∈g.ops.l,∀ p∈o.bh.l,p∈g.ids.l
 all:∀ i,i<g.ops.l.length->qr g.ids.l g.ops.l i
theorem AL {g:bt} (h:hz g=0) :IJ g:=by
 unfold hz at h;split at h
 ·cases h
 ·rename_i qN;split at h
  ·rename_i al;split at h
   ·rename_i k4;unfold nI at h;split at h
    ·rename_i ay;split at h
     ·rename_i iD;split at h
      ·rename_i kE;refine⟨by omega,al,fun k o x au ag=>?_,ay,fun o eF p av=>?_,(V1 al (vS ay)).1 kE⟩
       ·have:=(zK g).1 k4 k (as0.1 au).1;rw[FM au ag,as7,decide_eq_true_eq,decide_eq_true_eq] at this;exact this
       ·exact of_decide_eq_true (of_decide_eq_true iD o eF) p av
      ·cases h
     ·cases h
    ·cases h
   ·cases h
  ·cases h
def p4 (ids:List (List B)) (seen:List Bool) (k:Nat) :List (List B) :=(List.range k).flatMap fun i=>if seen.getD i false=true then [bT ids i] else []
theorem Mz (ids:List (List B)) (seen:List Bool) (k:Nat) :p4 ids seen (k+1)=p4 ids seen k++(if seen.getD k false=true then [bT ids k] else []) :=by
 unfold p4; rw[auT,avB]; simp
theorem VF (ids:List (List B)) (seen:List Bool) :∀ k,(p4 ids seen k).length<=k
 | 0=>by simp[p4]
 | k+1=>by
  have:=VF ids seen k;rw[Mz,as8];split<;>simp<;>omega
theorem Pc:∀ l:List B,fx (l.map bz) (l.map bz)=true
 | []=>rfl
 | x::l=>by
  have ad:U.beq (bz x) (bz x)=true:=by simp[bz,U.beq]
  show (U.beq (bz x) (bz x)&&fx (l.map bz) (l.map bz))=true;rw[ad,Pc l]; rfl
theorem ZL (x:List B) :U.beq (.aG (a1 x)) (.aG (a1 x))=true:=Pc x
theorem JU {x:List B} (h:x.length=32) :lS Tryz.prog 61 (.aG (a1 x))=true:=by
 have ad:ua Tryz.prog 8 61=true:=by kernel_rfl
 have ae:eo Tryz.prog 61=some true:=by kernel_rfl
 have aj:cu Tryz.prog 61=some 32:=by kernel_rfl
 have aF:(x.map bz).all wk=true:=by rw[atN]; intro c ah; obtain⟨b,_,rfl⟩:=atx.1 ah; rfl
 show (ua Tryz.prog 8 61&&(match eo Tryz.prog 61,cu Tryz.prog 61 with | some true,some m=>Nat.beq (x.map bz).length m | _,_=>false)&&(x.map bz).all wk)=true;rw[ad,ae,aj,aF,ate,h];rfl
theorem VA:∀ {a b:List B},a.map (fun x=>u x)=b.map (fun x=>u x)<->a=b
 | [],[]=>by simp
 | [],_::_=>by simp
 | _::_,[]=>by simp
 | x::a,y::b=>by
  rw[atr,atr,List.cons.injEq,List.cons.injEq,VA (a:=a) (b:=b)];simp
theorem aby {a b:List B} (aB:a.length=32) (af:b.length=32) {D:Nat}:eC Tryz.prog (D+2) 61 (.aG (a1 a)) (.aG (a1 b))=some (decide (a=b)) :=by
 have h:=abz (P:=Tryz.prog) (t:=61) (e:=5) (k:=.u8) (n:=32) (by kernel_rfl) (by kernel_rfl) (by kernel_rfl) (by kernel_rfl) (x:=a.map fun x=>u x) (y:=b.map fun x=>u x) (by simp[aB]) (by simp[af]) (D:=D);rw[auJ,auJ] at h;unfold a1;rw[show a.map bz=a.map (U.int .u8 ∘ fun x=>u x) from rfl,show b.map bz=b.map (U.int .u8 ∘ fun x=>u x) from rfl,h];simp only[VA]
inductive rM:Nat->List (U × U × Nat)->List (List B)->Prop
 | nil (b:Nat) :rM b [] []
 | cons {b:Nat} {es:List (U × U × Nat)} {cc:List (List B)} {k:List B} (n:Nat) (ar:k.length=32) (h:rM (b+1) es cc) :rM b ((.aG (a1 k),.int .i64 (b:Int),n) ::es) (k::cc)
theorem rM.len {b:Nat} {es:List (U × U × Nat)} {cc:List (List B)} (h:rM b es cc) :es.length=cc.length:=by induction h<;>simp_all
theorem rM.snoc {b:Nat} {es:List (U × U × Nat)} {cc:List (List B)} (h:rM b es cc) {k:List B} (ar:k.length=32) (n:Nat) :rM b (es++[(.aG (a1 k),.int .i64 ((b+cc.length:Nat) :Int),n)]) (cc++[k]) :=by
 induction h with
 | nil b=>exact .cons n ar (.nil _)
 | @cons b es cc k' m e4 h aS=>
  refine .cons m e4 ?_;rw[show b+1+cc.length=b+(k'::cc).length by simp; omega] at aS;exact aS
theorem RO {x:List B} (ag:x.length=32) {b:Nat} {es:List (U × U × Nat)} {cc:List (List B)} (h:rM b es cc) :∀ c,(∀ i,cc[i]? = some x->(∀ j,j<i->cc[j]?≠some x)->kY Tryz.prog 61 (.aG (a1 x)) es c=some (some (c+i,.int .i64 ((b+i:Nat) :Int))))/\(x∉cc->kY Tryz.prog 61 (.aG (a1 x)) es c=some none) :=by
 induction h with
 | nil b=>intro c; exact⟨fun i h=>by simp at h,fun _=>rfl⟩
 | @cons b es cc k n ar h aS=>
  intro c;unfold kY;rw[JU ar];simp only;rw[show eC Tryz.prog 10000 61 (.aG (a1 x)) (.aG (a1 k))=some (decide (x=k)) from aby ag ar (D:=9998)];by_cases am:x=k
  ·subst am;simp only[decide_true,ZL];refine⟨fun i az cU=>?_,fun h=>absurd (by simp) h⟩;cases i with
   | zero=>rfl
   | succ i=>exact absurd rfl (cU 0 (by omega))
  ·simp only[am,decide_false];obtain⟨ad,ae⟩:=aS (c+1);refine⟨fun i az cU=>?_,fun h=>ae (fun h'=>h (by simp[h']))⟩;cases i with
   | zero=>simp at az; exact absurd az.symm am
   | succ i=>
    rw[ad i (by simpa using az) (fun j ai=>by have:=cU (j+1) (by omega); simpa using this)];rw[show c+1+i=c+(i+1) by omega,show b+1+i=b+(i+1) by omega]
structure nP (l:ao) (j:Nat) (cc:List (List B)) :Prop where
 e:∃ es fb,l[j]? = some (.map es fb)/\rM 0 es cc
theorem nP.look {l:ao} {j:Nat} {cc:List (List B)} (h:nP l j cc) (ai:nO cc) {x:List B} (ag:x.length=32) {i:Nat} (az:cc[i]? = some x) :AC Tryz.prog l 61 (.int .i64 0) false (.mp j) (.aG (a1 x))=some (.int .i64 (i:Int)) :=by
 obtain⟨es,fb,ad,ae⟩:=h.e;have aj:v5 l (.mp j)=some es:=by simp[v5,ad]
 unfold AC;rw[aj];simp only[JU ag];rw[(RO ag ae 0).1 i az (fun t aV aR=>by have:=ai t i x aR az; omega)];simp
theorem nP.put {l:ao} {j:Nat} {cc:List (List B)} (h:nP l j cc) {x:List B} (ag:x.length=32) (aC:x∉cc) :∃ c,v6 Tryz.prog l 61 (.mp j) (.aG (a1 x)) (.int .i64 (cc.length:Int))=some (l.set j c)/\(∀ l' : ao,l'[j]? = some c->nP l' j (cc++[x])) :=by
 obtain⟨es,fb,ad,ae⟩:=h.e;unfold v6;simp only[ad,JU ag,(RO ag ae 0).2 aC];exact⟨_,rfl,fun l' dj=>⟨_,_,dj,by have:=ae.snoc ag fb; rw[aue] at this; exact this⟩⟩
theorem nP.frame {l l' : ao} {j:Nat} {cc:List (List B)} (h:nP l j cc) (ai:l'[j]? = l[j]?) :nP l' j cc:=by
 obtain⟨es,fb,ad,ae⟩:=h.e;exact⟨es,fb,by rw[ai,ad],ae⟩
theorem nP.lt {l:ao} {j:Nat} {cc:List (List B)} (h:nP l j cc) :j<l.length:=by
 obtain⟨es,fb,ad,ae⟩:=h.e;exact (as0.1 ad).1
theorem ahB {P:Program} {aA:Operand->U} {l:ao} {o:Operand} {k:IntKind} {n:Int} (h:aA o=.int k n) :bN P aA l (.ui (some o))=some (.mp l.length,l++[.map [] 0]) :=by
 show (match asInt (aA o) with | some _=>some (U.mp l.length,l++[aY.map [] 0]) | none=>none)=_;rw[h]; rfl
set_option maxHeartbeats 2000000 in
theorem aiZ (g:bt) (aw:g8 g) (ai:nO g.ids.l) {l:ao} {K:U->ao->Prop} (aU:∀ j l',nP l' j g.ids.l->l.length<=j->(∀ c,c<l.length->l'[c]? = l[c]?)->l.length<=l'.length->K (.mp j) l') :
  dh Tryz.prog GS 71 [c4 g] l (c:=⟨K⟩) :=by
 apply bq Tryz.func71 [];have cT:=aw.li;have bS:cv (.aq 32) (aD g.ids)=some (.int .i64 g.ids.l.length) :=by simp[aD]
 simp[c4,bX,bS];rw[ahB (k:=.i64) (n:=g.ids.l.length) (by simp)];simp[bS];refine cB g.ids.l.length (fun k σ l'=>σ 3=.mp (l.length+1)/\σ 11=aD g.ids/\σ 12=.int .i64 g.ids.l.length/\σ 13=.int .i64 k/\nP l' (l.length+1) (g.ids.l.take k)/\(∀ c,c<l.length->l'[c]? = l[c]?)) ?_ ?_
 ·rintro k σ l' ar ⟨aZ,kw,lB,lC,ng,jK⟩;obtain⟨σ,rfl⟩:=i2 aZ kw lB lC;clear aZ kw lB lC;by_cases bB:k<g.ids.l.length
  ·obtain⟨x,ag,dp⟩:=bP bB;have aQ:IntKind.i64.wrap ((k:Int)+1)=((k+1:Nat) :Int) :=by rw[IntKind.wrap_i64]; omega
   have hc:cN (.aq 32) (aD g.ids) (.int .i64 (k:Int))=some (.bK (a1 x) 0) :=by simp[aD,ag]
   have fY:=aw.ids x dp;have bn:=de fY;have b3:g.ids.l.take (k+1)=g.ids.l.take k++[x] :=by rw[atu,ag]; rfl
   have cU:x∉g.ids.l.take k:=fun hm=>by
    obtain⟨t,aV⟩:=atc.1 hm;have lM:=(as0.1 aV).1;rw[ati] at lM;rw[atp (by omega)] at aV;have:=ai t k x aV ag; omega
   have aK:=ng.lt;have FU:nP (l'++[.cells 32 (a1 x)]) (l.length+1) (g.ids.l.take k) :=ng.frame (as2 aK);obtain⟨c,b0,b5⟩:=FU.put fY cU;have tK:(g.ids.l.take k).length=k:=by rw[ati]; omega
   rw[tK] at b0;obtain⟨X,cM⟩:∃ X,X=a1 x:=⟨_,rfl⟩
   rw[<-cM] at hc bn b0;have iE:bg (rep 32 (.int .u8 0)) 0 X=X:=hu (by rw[bn]; rfl);simp[bB,hc,bn,iE,as1,b0,aQ];refine⟨?_,fun c' ef=>?_⟩
   ·rw[b3];exact b5 _ (by rw[atj (by simp; omega)])
   ·rw[ato (by omega),as2 (by omega)];exact jK c' ef
  ·have mI:k=g.ids.l.length:=by omega
   rw[mI,aty] at ng;simp[bB];exact aU _ _ ng (by omega) jK (by have:=ng.lt; omega)
 ·simp;refine⟨⟨[],0,by simp,.nil 0⟩,fun c ah=>by rw[as2 ah]⟩
inductive qw (ids:List (List B)) (ops:List bp) (L:List (List B)) :Nat->Prop
 | start (p:List B) (j:Nat) (av:p∈L) (ai:ids[j]? = some p) :qw ids ops L j
 | step (i:Nat) (p:List B) (j:Nat) (h:qw ids ops L i) (av:p∈eR ops i) (ai:ids[j]? = some p) :qw ids ops L j
theorem qw.mono {ids:List (List B)} {ops:List bp} {L Ow:List (List B)} (ak:∀ p∈L,p∈Ow) {i:Nat} (h:qw ids ops L i) :qw ids ops Ow i:=by
 induction h with
 | start p j av ai=>exact .start p j (ak p av) ai
 | step i p j _ av ai aS=>exact .step i p j aS av ai
theorem qw.under {ids:List (List B)} {ops:List bp} {L:List (List B)} {i:Nat} (az:qw ids ops L i) {j:Nat} (h:qw ids ops (eR ops i) j) :qw ids ops L j:=by
 induction h with
 | start p j av ai=>exact .step i p j az av ai
 | step mc p j _ av ai aS=>exact .step mc p j aS av ai
structure amU (ids:List (List B)) (ops:List bp) (L:List (List B)) (S Bv:List Bool) :Prop where
 len:Bv.length=S.length
 mono:∀ (i:Nat),S[i]? = some true->Bv[i]? = some true
 st:∀ p∈L,∀ (j:Nat),ids[j]? = some p->Bv[j]? = some true
 new:∀ (i:Nat),Bv[i]? = some true->S[i]? = some true\/(qw ids ops L i/\∀ p∈eR ops i,∀ (j:Nat),ids[j]? = some p->Bv[j]? = some true)
theorem aaq {l:ao} {p:U} {x:List U × Nat} (h:g4 l p=some x) :m7 p 0=some p:=by
 cases p<;>first | rfl | (exfalso; simp[g4] at h)
theorem ajT {l:ao} {a b c9 bc:U} (ad:jo l a c9) (ae:jo l b bc) :jo l (.bv [a,b]) (.bv [c9,bc]) :=by
 refine .bv _ _ rfl fun j x Oc ag sk=>?_
 rcases j with _ | _ | j
 ·simp at ag sk; subst ag sk; exact ad
 ·simp at ag sk; subst ag sk; exact ae
 ·simp at ag
def pE (g:bt) (x:List B) (m:Nat) :Bool:=decide (∀ j,j<m->x∉(jV g.ops.l j).bh.l)
theorem ab3 (g:bt) (x:List B) (m:Nat) :pE g x (m+1)=(pE g x m&&!decide (x∈(jV g.ops.l m).bh.l)) :=by
 unfold pE;rw[avx,as7,decide_eq_true_eq,decide_eq_true_eq,auE,decide_eq_false_iff_not];constructor
 ·intro h; exact⟨fun j ai=>h j (by omega),h m (by omega)⟩
 ·rintro⟨ad,ae⟩ j ai;by_cases e:j=m
  ·rw[e]; exact ae
  ·exact ad j (by omega)
abbrev lH (g:bt) (x:List B) :Bool:=pE g x g.ops.l.length
def hU (g:bt) :List (List B) :=g.ids.l.filter (lH g)
structure Za (g:bt) (fh:ao) (w:U) (seen:List Bool) (k:Nat) (σ:a8) (l:ao) :Prop where
 aO:σ 1=w
 aT:σ 2=.ptr fh.length 0 2
 gc:σ 8=.int .i64 seen.length
 h3:σ 9=.int .i64 k
 ex:∃ v,σ 5=v/\cF 32 a1 (fh++[.cells 2 [aD g.ids,bC g.ops]]) l v (p4 g.ids.l seen k) (p4 g.ids.l seen k).isEmpty
set_option maxHeartbeats 4000000 in
theorem ahG (g:bt) (aw:g8 g) {fh:ao} {w:U} {fS:Nat} {seen:List Bool} (ak:seen.length=g.ids.l.length) (aW:bO 1 fh w fS (seen.map nX)) (z4:fS<fh.length) {K:U->ao->Prop}
  (aU:∀ v l',cF 32 a1 fh l' v (p4 g.ids.l seen seen.length) (p4 g.ids.l seen seen.length).isEmpty->K v l') :
  dh Tryz.prog GS 206 [c4 g,w] fh (c:=⟨K⟩) :=by
 apply bq Tryz.func206 [];have ay:ct=140737488355328:=rfl;have cT:=aw.li;have bS:cv (.aq 1) w=some (.int .i64 seen.length) :=by have:=aW.len; simpa using this
 simp[c4,bX,bS];refine cB seen.length (Za g fh w seen) ?_ ⟨by simp,by simp,by simp,by simp,.aH,by simp,cF.nil⟩;rintro k σ l ar ⟨aO,aT,gc,h3,v,bm,fq⟩;obtain⟨σ,rfl⟩:=lo aO aT bm gc h3;clear aO aT bm gc h3;have cE:l[fh.length]? = some (.cells 2 [aD g.ids,bC g.ops]) :=by rw[fq.same _ (by simp)]; simp
 have vL:bO 1 l w fS (seen.map nX) :=aW.lA (.inr (by rw[fq.same _ (by simp; omega),as2 z4]));by_cases bB:k<seen.length
 ·obtain⟨b,af,_⟩:=bP bB;obtain⟨x,ag,dp⟩:=bP (l:=g.ids.l) (k:=k) (by omega);have aQ:IntKind.i64.wrap ((k:Int)+1)=((k+1:Nat) :Int) :=by rw[IntKind.wrap_i64]; omega
  obtain⟨p,cs,o,jF,lp,Bn,qo⟩:=vL.q.get (k:=.i64) (i:=k) (e:=nX b) (by rw[as5,af]; rfl);have rI:cs[o]? = some (.bool b) :=by
   have ae:((cs.drop o).take 1)[0]? = (nX b)[0]?:=by rw[qo]
   rw[atp (by omega)] at ae;simpa [nX] using ae
  have hc:cN (.aq 32) (aD g.ids) (.int .i64 (k:Int))=some (.bK (a1 x) 0) :=by simp[aD,ag]
  have Dk:seen.getD k false=b:=by rw[atf,af]; rfl
  have bn:=de (aw.ids x dp);have kC:=VF g.ids.l seen k;have Dl:=Mz g.ids.l seen k;have fU:=aaq lp;rw[Dk] at Dl;cases b with
  | false=>
   simp at Dl;simp[bB,jF,lp,rI,fU,aQ];exact⟨by simp,by simp,by simp,by simp,v,by simp,by rw[Dl]; exact fq⟩
  | true=>
   rw[if_pos rfl,fB ag] at Dl;obtain⟨a3,DR,a2,aeV,Qt⟩:=aip (by_:=32) (fq.more [aY.cells 32 (a1 x)]) x (b:=l.length) (by simp) bn (by omega) (by omega) (by rw[ay]; omega);obtain⟨X,cM⟩:∃ X,X=a1 x:=⟨_,rfl⟩
   rw[<-cM] at hc bn a2;have iE:bg (rep 32 (.int .u8 0)) 0 X=X:=hu (by rw[bn]; rfl);simp[bB,jF,lp,rI,fU,cE,hc,bn,iE,as1,a2];refine c8.cb ?_;simp[bB,aQ];exact⟨by simp,by simp,by simp,by simp,a3,by simp,by rw[Dl,show (p4 g.ids.l seen k++[x]).isEmpty=false by simp]; exact aeV⟩
 ·have mI:k=seen.length:=by omega
  subst mI;simp[bB];exact aU _ _ (fq.base (by simp) (fun b af=>as2 af))
def qK (n k:Nat) :List Bool:=(List.range n).map fun i=>decide (i<k)
theorem abL (n k:Nat) :(qK n k).length=n:=by simp[qK]
theorem abN (n:Nat) :qK n 0=List.replicate n false:=by
 apply atO ; intro i;unfold qK;by_cases h:i<n
 ·rw[as5,atC h,avX,if_pos h]; simp
 ·rw[atd (by simp; omega),atd (by simp; omega)]
theorem abM {n k:Nat} (h:k<n) :(qK n k).set k true=qK n (k+1) :=by
 apply atO ; intro i;unfold qK;by_cases az:i<n
 ·by_cases e:k=i
  ·subst e;rw[atj (by simp; omega),as5,atC az]; simp
  ·rw[ato e,as5,as5,atC az];simp; omega
 ·rw[atd (by simp; omega),atd (by simp; omega)]
def lG (g:bt) (q m:Nat) :List Bool:=(List.range g.ids.l.length).map fun i=>pE g (bT g.ids.l i) q&&!decide (bT g.ids.l i∈(jV g.ops.l q).bh.l.take m)
theorem Ky (g:bt) (q m:Nat) :(lG g q m).length=g.ids.l.length:=by simp[lG]
theorem adx (g:bt) :qK g.ids.l.length g.ids.l.length=lG g 0 0:=by
 unfold qK lG;refine aup fun i az=>?_
 rw[atA] at az;rw[decide_eq_true az];simp[pE]
theorem adv (g:bt) (q:Nat) :lG g q (jV g.ops.l q).bh.l.length=lG g (q+1) 0:=by
 unfold lG;refine aup fun i az=>?_
 rw[aty,ab3]; simp
theorem adw {g:bt} (ai:nO g.ids.l) {q m i:Nat} {p:List B} (av:(jV g.ops.l q).bh.l[m]? = some p) (az:g.ids.l[i]? = some p) :(lG g q m).set i false=lG g q (m+1) :=by
 have dS:=(as0.1 az).1;apply atO ; intro t;unfold lG;have b3:(jV g.ops.l q).bh.l.take (m+1)=(jV g.ops.l q).bh.l.take m++[p] :=by rw[atu,av]; rfl
 by_cases aV:t<g.ids.l.length
 ·obtain⟨y,aJ,_⟩:=bP aV;by_cases e:i=t
  ·subst e;rw[atj (by simp; omega),as5,atC aV,b3]; simp[az]
  ·rw[ato e,as5,as5,atC aV,b3];have bV:y≠p:=fun h=>e (by subst h; exact ai i t y az aJ)
   simp[aJ,bV]
 ·rw[atd (by simp; omega),atd (by simp; omega)]
theorem VE (g:bt) :∀ k,k<=g.ids.l.length->p4 g.ids.l (lG g g.ops.l.length 0) k=(g.ids.l.take k).filter (lH g)
 | 0,_=>rfl
 | k+1,ar=>by
  obtain⟨x,ag,_⟩:=bP (l:=g.ids.l) (k:=k) (by omega);have ad:(lG g g.ops.l.length 0).getD k false=lH g x:=by
   rw[atf];unfold lG;rw[as5,atC (by omega)];simp[fB ag,ag]
  rw[Mz,VE g k (by omega),ad,fB ag,atu,ag,auv];cases h:lH g x<;>simp[h]
structure rU (g:bt) (lR b:Nat) (S:List Bool) (l:ao) :Prop where
 cE:l[0]? = some (.cells 2 [aD g.ids,bC g.ops])
 p:nP l lR g.ids.l
 w:bO 1 l (.aq 1 b 0 g.ids.l.length g.ids.l.length g.ids.l.length) b (S.map nX)
 af:b<l.length
 hm:lR<b
 aI:0<lR
theorem rU.more {g:bt} {lR b:Nat} {S:List Bool} {l:ao} (h:rU g lR b S l) (c:aY) :rU g lR b S (l++[c]) :=
 ⟨by rw[as2 (by have:=h.af; omega)]; exact h.cE,h.p.frame (as2 h.p.lt),h.w.more _,by have:=h.af; simp; omega,h.hm,h.aI⟩
theorem rU.set {g:bt} {lR b:Nat} {S:List Bool} {l:ao} (h:rU g lR b S l) {i:Nat} {v:Bool} (az:i<S.length) :
  ∃ p l',cN (.aq 1) (.aq 1 b 0 g.ids.l.length g.ids.l.length g.ids.l.length) (.int .i64 (i:Int))=some p/\lX 1 l p (.bool v)=some l'/\rU g lR b (S.set i v) l':=by
 obtain⟨p,l',a2,bd,b4,e0,gB⟩:=V4 (enc:=nX) (x:=v) (X:=.bool v) rfl h.w (fun _ _=>rfl) az rfl;have ad:=h.hm;have ae:=h.aI;exact⟨p,l',a2,bd,by rw[gB 0 (by omega)]; exact h.cE,h.p.frame (gB lR (by omega)),b4,by rw[e0]; exact h.af,h.hm,h.aI⟩
def wU (g:bt) :dr:=if hz g=0 then dk (hU g) else none
set_option maxHeartbeats 8000000 in
theorem ame (g:bt) (aw:g8 g) :bA Tryz.prog GS 177 [c4 g] (.bv [aD (wU g),.int .i64 (hz g)]) :=by
 refine bW Tryz.checked.mixed bl ?_;apply bq Tryz.func177 [];have ay:ct=140737488355328:=rfl;have fW:=dw g.ids;have eg:=lz g.ops;have apf:=aw.cG;have apd:=aw.li;have e2:=Yu g aw;have cV:cv (.aq 11) (bC g.ops)=some (.int .i64 g.ops.l.length) :=by simp[bC]
 have cT:cv (.aq 32) (aD g.ids)=some (.int .i64 g.ids.l.length) :=by simp[aD]
 unfold c4 bX at e2;simp[c4,bX];refine a4 e2 (by simp[a5,U.closed,fW,eg]) ?_;by_cases aI:hz g=0
 ·have V:=AL aI;have qU:=vS V.dA;simp[aI];refine aiZ g aw qU ?_;intro lR l1 ng z3 jK z8;have cE:l1[0]? = some (aY.cells 2 [aD g.ids,bC g.ops]) :=by rw[jK 0 (by simp)]; rfl
  obtain⟨a2,bd⟩:=DW (z:=1) (by_:=1) (n:=g.ids.l.length) (k:=.i64) (k':=.i64) (zero:=[U.bool false]) (l:=l1) rfl (by omega) (by rw[ay]; omega);obtain⟨N,fo⟩:∃ N,N=g.ids.l.length:=⟨_,rfl⟩
  simp only[aux] at a2 bd;have eN:rU g lR l1.length (qK g.ids.l.length 0) (l1++[.cells g.ids.l.length (dx [.bool false] g.ids.l.length)]) :=by
   have ad:l1.length ≥ 1:=by simp at z8; omega
   refine⟨by rw[as2 (by omega)]; exact cE,ng.frame (as2 ng.lt),?_,by simp,ng.lt,by simp at z3; omega⟩;rw[abN,avj]; exact bd
  simp[cE,cT,a2];obtain⟨b,af⟩:∃ b,b=l1.length:=⟨_,rfl⟩
  rw[<-af] at eN ⊢;refine cB g.ids.l.length (fun k σ l=>σ 1=.ptr 0 0 2/\σ 5=.mp lR/\σ 6=.aq 1 b 0 g.ids.l.length g.ids.l.length g.ids.l.length/\σ 24=.int .i64 g.ids.l.length/\σ 25=.int .i64 k/\rU g lR b (qK g.ids.l.length k) l) ?_ ⟨by simp,by simp,by simp,by simp,by simp,eN⟩;clear eN a2 bd cE jK ng;rintro k σ l ar ⟨aO,bm,cw,vn,tk,eN⟩;obtain⟨σ,rfl⟩:=lo aO bm cw vn tk;clear aO bm cw vn tk;simp;refine oX (fun h=>?_) (fun h=>?_)
  ·simp only[decide_eq_true_eq] at h;have aQ:IntKind.i64.wrap ((k:Int)+1)=((k+1:Nat) :Int) :=by rw[IntKind.wrap_i64]; omega
   obtain⟨p,l',cQ,ie,kn⟩:=eN.set (i:=k) (v:=true) (by rw[abL]; omega);rw[abM (by omega)] at kn;simp[cQ,ie,aQ];exact⟨by omega,kn⟩
  ·have qV:k=g.ids.l.length:=by simp at h; omega
   rw[qV,adx] at eN;have cE:=eN.cE;simp[h,cE,cV];refine cB g.ops.l.length (fun q σ l=>σ 1=.ptr 0 0 2/\σ 5=.mp lR/\σ 6=.aq 1 b 0 g.ids.l.length g.ids.l.length g.ids.l.length/\σ 33=bC g.ops/\σ 34=.int .i64 g.ops.l.length/\σ 35=.int .i64 q/\rU g lR b (lG g q 0) l) ?_ ⟨by simp,by simp,by simp,by simp,by simp,by simp,eN⟩;clear eN cE;rintro q σ l bj ⟨aO,bm,cw,qL,qM,Ce,eN⟩;obtain⟨σ,rfl⟩:=wL aO bm cw qL qM Ce;clear aO bm cw qL qM Ce;simp;refine oX (fun ae=>?_) (fun ae=>?_)
   ·simp only[decide_eq_true_eq] at ae;obtain⟨o,au,eF⟩:=bP (l:=g.ops.l) (k:=q) (by omega);have mL:=aw.ops o eF;have aQ:IntKind.i64.wrap ((q:Int)+1)=((q+1:Nat) :Int) :=by rw[IntKind.wrap_i64]; omega
    have bZ:cN (.aq 11) (bC g.ops) (.int .i64 (q:Int))=some (.bK (a9 o) 0) :=by simp[bC,au]
    have dF:(a9 o).length=11:=rfl;have n1:∀ h,(a9 o)[1]'h=aD o.bh:=fun _=>rfl
    have gO:cv (.aq 32) (aD o.bh)=some (.int .i64 o.bh.l.length) :=by simp[aD]
    obtain⟨O,eD⟩:∃ O,O=a9 o:=⟨_,rfl⟩
    rw[<-eD] at bZ dF n1;have q9:bg [U.int .u32 0,.aH,.int .u64 0,.int .u8 0,.str [],.int .u8 0,.int .i64 0,.int .u64 0,.str [],.int .u32 0,.int .u32 0] 0 O=O:=hu (by rw[dF]; rfl);have Wg:∀ c:aY,(l++[c])[l.length]? = some c:=fun c=>au0
    simp[bZ,dF,n1,q9,gO,Wg,as1];refine cB o.bh.l.length (fun m σ l=>σ 1=.ptr 0 0 2/\σ 5=.mp lR/\σ 6=.aq 1 b 0 g.ids.l.length g.ids.l.length g.ids.l.length/\σ 33=bC g.ops/\σ 34=.int .i64 g.ops.l.length/\σ 35=.int .i64 q/\σ 40=aD o.bh/\σ 41=.int .i64 o.bh.l.length/\σ 42=.int .i64 m/\rU g lR b (lG g q m) l) ?_ ⟨by simp,by simp,by simp,by simp,by simp,by simp,by simp,by simp,by simp,eN.more _⟩;clear eN Wg;rintro m σ l hm ⟨aO,bm,cw,qL,qM,Ce,JY,JZ,Sa,eN⟩;obtain⟨σ,rfl⟩:=Yh aO bm cw qL qM Ce JY JZ Sa;clear aO bm cw qL qM Ce JY JZ Sa;simp;refine oX (fun aj=>?_) (fun aj=>?_)
    ·simp only[decide_eq_true_eq] at aj;obtain⟨p,av,g0⟩:=bP (l:=o.bh.l) (k:=m) (by omega);have h8:=mL.ids p g0;have gZ:=de h8;have apq:=mL.len;have bx:IntKind.i64.wrap ((m:Int)+1)=((m+1:Nat) :Int) :=by rw[IntKind.wrap_i64]; omega
     obtain⟨i,az⟩:=atc.1 (V.aiC o eF p g0);have dS:=(as0.1 az).1;have CW:cN (.aq 32) (aD o.bh) (.int .i64 (m:Int))=some (.bK (a1 p) 0) :=by simp[aD,av]
     have FZ:=eN.more (.cells 32 (a1 p));have tK:=FZ.p.look qU h8 az;obtain⟨arV,l',cQ,ie,kn⟩:=FZ.set (i:=i) (v:=false) (by rw[Ky]; omega);rw[adw qU (by rw[ul au]; exact av) az] at kn;obtain⟨P,ng⟩:∃ P,P=a1 p:=⟨_,rfl⟩
     rw[<-ng] at CW gZ tK ie;have afu:bg (rep 32 (U.int .u8 0)) 0 P=P:=hu (by rw[gZ]; rfl);simp[CW,gZ,afu,tK,cQ,ie,bx,as1];exact⟨by omega,kn⟩
    ·have kB:m=o.bh.l.length:=by simp at aj; omega
     have ka:=adv g q;rw[ul au] at ka;rw[kB,ka] at eN;simp[aj,aQ];exact⟨by omega,eN⟩
   ·have afb:q=g.ops.l.length:=by simp at ae; omega
    rw[afb] at eN;have cE:=eN.cE;simp[ae,cE];have aW:=eN.w;refine ahG g aw (seen:=lG g g.ops.l.length 0) (Ky _ _ _) aW eN.af (fun v l' fq=>?_);simp;have K2:p4 g.ids.l (lG g g.ops.l.length 0) (lG g g.ops.l.length 0).length=hU g:=by
     rw[Ky,VE g _ (as3 _),aty]; rfl
    rw[K2] at fq;refine ajT ?_ (aP (by rw[aI]) rfl);exact fq.rd gK (wU g) (by unfold wU; rw[if_pos aI,sP]) (by unfold wU; rw[if_pos aI,ey])
 ·have xL:wU g=none:=by unfold wU; rw[if_neg aI]
  rw[xL];simp[aI];exact aP rfl rfl
def pk (l l' : ao) :Prop:=l.length<=l'.length/\∀ b,b<l.length->l'[b]? = l[b]?
theorem pk.refl (l:ao) :pk l l:=⟨as3 _,fun _ _=>rfl⟩
theorem pk.trans {l m n:ao} (h:pk l m) (ae:pk m n) :pk l n:=⟨atR h.1 ae.1,fun b af=>by rw[ae.2 b (auB af h.1),h.2 b af]⟩
def EU (f:FuncId) (u4:List U) (l:ao) (xs:List (List B)) (c:List B->Bool) :Prop:=
 ∀ p∈xs,∀ l1,pk l l1->∀ K:U->ao->Prop,(∀ bo,pk l1 bo->K (.bool (c p)) bo)->dh Tryz.prog GS f (.aG (a1 p) ::u4) l1 (c:=⟨K⟩)
theorem af1 (s:dr) (ak:eu s) (bS:s.l.length<=1000000) {f:FuncId} {u4:List U} {c:List B->Bool} (aE:j8 Tryz.prog f=true) {l:ao} (h:EU f u4 l s.l c) {K:U->ao->Prop}
  (aU:∀ (n:Int) l',pk l l'->(0<=n<->s.l.any c=true)->K (.int .i64 n) l') :dh Tryz.prog GS 101 [aD s,.fn f [] u4] l (c:=⟨K⟩) :=by
 apply bq Tryz.func101 [];have tL:cv (.aq 32) (aD s)=some (.int .i64 s.l.length) :=by simp[aD]
 simp[tL];refine cB s.l.length (fun k σ l1=>σ 0=aD s/\σ 1=.fn f [] u4/\σ 7=.int .i64 s.l.length/\σ 8=.int .i64 k/\pk l l1/\∀ j y,j<k->s.l[j]? = some y->c y=false) ?_ ⟨by simp,by simp,by simp,by simp,pk.refl _,fun j _ ai=>by omega⟩;rintro k σ l1 ar ⟨ce,aO,fe,gc,am,cU⟩;obtain⟨σ,rfl⟩:=i2 ce aO fe gc;clear ce aO fe gc;simp;refine oX (fun ae=>?_) (fun ae=>?_)
 ·simp only[decide_eq_true_eq] at ae;obtain⟨x,ag,dp⟩:=bP (l:=s.l) (k:=k) (by omega);have bn:=de (ak x dp);have aQ:IntKind.i64.wrap ((k:Int)+1)=((k+1:Nat) :Int) :=by rw[IntKind.wrap_i64]; omega
  have bZ:cN (.aq 32) (aD s) (.int .i64 (k:Int))=some (.bK (a1 x) 0) :=by simp[aD,ag]
  have vw:=h x dp l1 am;obtain⟨X,cM⟩:∃ X,X=a1 x:=⟨_,rfl⟩
  rw[<-cM] at bZ bn vw;simp[bZ,bn,as1];refine⟨aE,vw _ fun bo tC=>?_⟩;cases ah:c x with
  | true=>
   simp;exact aU _ _ (am.trans tC) ⟨fun _=>auM.2 ⟨x,dp,ah⟩,fun _=>by omega⟩
  | false=>
   simp[aQ];refine⟨ae,am.trans tC,fun j y ai aJ=>?_⟩;by_cases gG:j=k
   ·rw[gG,ag] at aJ; obtain rfl:=Option.some.inj aJ; exact ah
   ·exact cU j y (by omega) aJ
 ·simp[ae];have qV:k=s.l.length:=by simp at ae; omega
  refine aU _ _ am ⟨fun h=>by omega,fun h=>?_⟩;obtain⟨y,aJ,kI⟩:=auM.1 h;obtain⟨j,ai⟩:=atc.1 aJ;rw[cU j y (by rw[qV]; exact (as0.1 ai).1) ai] at kI; cases kI
theorem Rl (s:dr) (ak:eu s) (bS:s.l.length<=1000000) {f:FuncId} {u4:List U} {c:List B->Bool} (aE:j8 Tryz.prog f=true) {l:ao} (h:EU f u4 l s.l c) {K:U->ao->Prop}
  (aU:∀ l',pk l l'->K (.bool (s.l.any c)) l') :dh Tryz.prog GS 97 [aD s,.fn f [] u4] l (c:=⟨K⟩) :=by
 apply bq Tryz.func97 [];simp;refine af1 s ak bS aE h fun n l' am aC=>?_
 simp;have:decide (0<=n)=s.l.any c:=by
  rw[avx,decide_eq_true_eq]; exact aC
 rw[this];exact aU _ am
end Op

end Go.bY

namespace Go.bY
open Go Go.Proofs
set_option maxRecDepth 100000
theorem aah {P:Program} {G:Nat->U} {f:FuncId} {args args2:List U} {h ae h' : aM} {r:U} (ah:qq P G f args2 ae r h') (ix:m2 h ae) (al:args2.length=args.length)
  (ap:∀ (j:Nat) (c b5:U),args[j]? = some c->args2[j]? = some b5->m0 h ae c b5) :qq P G f args h r h':=by
 intro R B w μ vs rel g hX jb;refine (ah R B w μ vs (ix.rel rel) (g.ext (ix.ext w μ)) (by omega) (fun j b5 v ai fQ=>?_)).mono ?_
 ·have eO:=(as0.1 ai).1;obtain⟨c,mF⟩:∃ c,args[j]? = some c:=⟨_,as4 (by omega)⟩
  exact ix.pe rel (ap j c b5 mF ai) (jb j c v mF fQ)
 ·rintro e w' ⟨v,μ',rfl,aQ,c7,mN⟩;exact⟨v,μ',rfl,(ix.ext w μ).trans aQ,c7,mN⟩
theorem Fo {P:Program} {G:Nat->U} (fz:P.follows .mixedOrders=true) (h4:∀ g,(G g).closed=true) {f:FuncId} {args args2:List U} {l bo:ao} {K:U->ao->Prop} (ix:m2 (a7 l) (a7 bo)) (dY:l.length<=bo.length) (al:args2.length=args.length)
  (ap:∀ (j:Nat) (c b5:U),args[j]? = some c->args2[j]? = some b5->m0 (a7 l) (a7 bo) c b5) (h:dh P G f args2 bo (c:=⟨K⟩)) :dh P G f args l (c:=⟨K⟩) :=by
 obtain⟨r,l',r5,z7,ar⟩:=h;exact⟨r,l',.ext (aah (Ey fz h4 r5) ix al ap),atR dY z7,ar⟩
namespace Op
theorem HM {α:Type} {z:Nat} {enc:α->List U} {l:ao} {v:U} {j:Nat} {xs:List α} (s:c3 α) (h:bO z l v j (xs.map enc)) (aC:cD v=s.isNone) (ak:s.l=xs) :
  ∃ bo,m2 (a7 l) (a7 bo)/\m0 (a7 l) (a7 bo) v (cA z enc s)/\bo.length=l.length/\∀ b,(v=.aH\/b≠j)->bo[b]? = l[b]?:=by
 cases s with
 | none=>
  have ap:v=.aH:=kK.1 (by rw[aC]; rfl);subst ap;exact⟨l,⟨rfl,fun b=>.inl rfl⟩,.same _,rfl,fun b _=>rfl⟩
 | some a=>
  have ap:cD v=false:=by rw[aC]; rfl
  have q6:a=xs:=ak;obtain⟨ad,ae⟩:=aiO h ap;refine⟨l.set j .dead,ad,by rw[q6]; exact ae,by simp,fun b af=>?_⟩;rcases af with e | e
  ·rw[e] at ap; cases ap
  ·exact ato (Ne.symm e)
end Op

end Go.bY

namespace Go.bY
open Go Go.Proofs
set_option maxRecDepth 100000
namespace Op
open hl
theorem Zx {α:Type} {enc:α->List U} {z by_:Nat} (l:ao) (b:Nat) (n4:l[b]? = some (.cells 0 [])) (s:c3 α) (h:∀ x∈s.l,(enc x).length=z) (aI:z≠0) (af:by_≠0) (ay:s.l.length*by_<=ct) :
  gT l z by_ (.aq z b 0 0 0 0) (cA z enc s)=some (.aq z b 0 s.l.length s.l.length (s.l.length*z),l.set b (.cells (s.l.length*z) (s.l.map enc).flatten)) :=by
 have eW:=xt h;unfold gT;rw[vh];simp only[];unfold jq;by_cases ax:s.l.length=0
 ·have aI:s.l=[] :=atI.1 ax;rw[aI];obtain⟨fV,ade⟩:=as0.1 n4;have:l.set b (.cells 0 [])=l:=by rw[<-ade,List.set_getElem_self]
  simp[this]
 ·rw[if_neg ax,if_neg (by omega)];have bV:¬ s.l=[] :=fun h=>ax (by rw[h]; rfl)
  simp[ay,aI,ax,bV,n4]
theorem ahs (a:List B) :ib a a=false:=by
 cases h:ib a a with
 | false=>rfl
 | true=>rw[nz,qE] at h; omega
theorem Ht (a b c:List B) (ad:ib a b=true) (ae:ib b c=true) :ib a c=true:=(nz _ _).2 (zm a b c ((nz _ _).1 ad) ((nz _ _).1 ae))
theorem aht (a b:List B) (bV:a≠b) (h:ib a b=false) :ib b a=true:=by
 rw[nz,BS];rcases Rb a b with ad | ad | ad
 ·rw[(nz a b).2 (by omega)] at h; cases h
 ·exact absurd (zl ad) bV
 ·omega
theorem Nf {l:List (List B)} (h:dA l=true) :l.Pairwise fun a b=>ib a b=true:=
 au9.2 fun i j az ai nk=>(nz _ _).2 (qc h nk (as4 az) (as4 ai))
theorem V8 {l:List (List B)} (h:l.Pairwise fun a b=>ib a b=true) :dA l=true:=H5 fun k ar ad=>by
 have ae:=as4 ar;have aj:=as4 (l:=l) (i:=k - 1) (by omega);rw[fB ae,fB aj];exact (nz _ _).1 ((au9.1 h) (k - 1) k (by omega) ar (by omega))
section
variable {α:Type} {z:Nat} {enc:α->List U}
def gw (s:c3 α) (k:Nat) :c3 α:=match s with | none=>none | some a=>some (a.take k)
def qg (s:c3 α) (k:Nat) :c3 α:=match s with | none=>none | some a=>some (a.drop k)
theorem ll (s:c3 α) (k:Nat) :(gw s k).l=s.l.take k:=by cases s<;>simp[gw]
theorem EB (s:c3 α) (k:Nat) :(qg s k).l=s.l.drop k:=by cases s<;>simp[qg]
theorem XW {s:c3 α} {k:Nat} (h:k<=s.l.length) :fF (.aq z) (cA z enc s) none (some (.int .i64 (k:Int))) none=some (cA z enc (gw s k)) :=by
 cases s with
 | none=>
  have:k=0:=by simpa using h
  subst this; rfl
 | some a=>exact Xw (z:=z) (enc:=enc) (l:=a) (k:=.i64) (i:=(k:Int)) (by omega) (by have:k<=a.length:=h; omega)
theorem XV {s:c3 α} {k:Nat} (h:k<=s.l.length) :fF (.aq z) (cA z enc s) (some (.int .i64 (k:Int))) none none=some (cA z enc (qg s k)) :=by
 cases s with
 | none=>
  have:k=0:=by simpa using h
  subst this; rfl
 | some a=>exact Xu (z:=z) (enc:=enc) (l:=a) (k:=.i64) (i:=(k:Int)) (by omega) (by have:k<=a.length:=h; omega)
theorem aja {by_:Nat} {l:ao} {b c k:Nat} {s:c3 α} {x:α} (af:l[b]? = some (.cells 0 [])) (ah:l[c]? = some (.cells z (enc x))) (adc:b≠c) (ar:k<=s.l.length) (ak:∀ y∈s.l,(enc y).length=z) (ag:(enc x).length=z) (aI:z≠0) (dI:by_≠0) (dy:(s.l.length+1)*by_<=ct) :
  gT l z by_ (.aq z b 0 0 0 0) (cA z enc (gw s k))=some (.aq z b 0 k k (k*z),l.set b (.cells (k*z) ((s.l.take k).map enc).flatten)) ∧
  gT (l.set b (.cells (k*z) ((s.l.take k).map enc).flatten)) z by_ (.aq z b 0 k k (k*z)) (.aq z c 0 1 1 z)=some (.aq z b 0 (k+1) (k+1) ((k+1)*z),l.set b (.cells ((k+1)*z) ((s.l.take k++[x]).map enc).flatten)) ∧
  gT (l.set b (.cells ((k+1)*z) ((s.l.take k++[x]).map enc).flatten)) z by_ (.aq z b 0 (k+1) (k+1) ((k+1)*z)) (cA z enc (qg s k)) =
   some (.aq z b 0 (nw s.l k x).length (nw s.l k x).length ((nw s.l k x).length*z),l.set b (.cells ((nw s.l k x).length*z) ((nw s.l k x).map enc).flatten)) :=by
 have fV:=cp af;have bB:(s.l.take k).length=k:=by rw[ati]; omega
 have LO:∀ y∈s.l.take k,(enc y).length=z:=fun y aJ=>ak y (atw aJ)
 have dY:k*by_<=ct:=atR (as6 _ (by omega)) dy;have GC:(k+1)*by_<=ct:=atR (as6 _ (by omega)) dy;refine⟨?_,?_,?_⟩
 ·have:=Zx (enc:=enc) (by_:=by_) l b af (gw s k) (by rw[ll]; exact LO) aI dI (by rw[ll,bB]; exact dY);rw[ll,bB] at this;exact this
 ·have:=OQ (l:=l.set b (.cells (k*z) ((s.l.take k).map enc).flatten)) (z:=z) (by_:=by_) (b:=b) (n:=k) (m:=1) (sz:=k*z) (es:=(s.l.take k).map enc) (xs:=[enc x]) (x:=.aq z c 0 1 1 z)
   (atj fV) (by simp[ds,ato adc,ah,ag,as1]) (by rw[ate,bB]) rfl rfl (fun e am=>by obtain⟨y,aJ,rfl⟩:=atx.1 am; exact LO y aJ) aI dI GC
  rw[this,List.set_set];simp
 ·have e3:(qg s k).l.length=s.l.length - k:=by rw[EB,at7]
  have aC:k+1+(s.l.length - k)=(nw s.l k x).length:=by rw[Hg]; omega
  have:=OQ (l:=l.set b (.cells ((k+1)*z) ((s.l.take k++[x]).map enc).flatten)) (z:=z) (by_:=by_) (b:=b) (n:=k+1) (m:=s.l.length - k) (sz:=(k+1)*z) (es:=(s.l.take k++[x]).map enc) (xs:=(qg s k).l.map enc) (x:=cA z enc (qg s k))
   (atj fV) (by rw[vh,e3]) (by rw[ate,as8,bB]; rfl) (by rw[ate,e3]) rfl (fun e am=>by
    obtain⟨y,aJ,rfl⟩:=atx.1 am;rcases atU.1 aJ with h | h
    ·exact LO y h
    ·rw[atX.1 h]; exact ag) aI dI (by rw[aC,Hg]; exact dy)
  rw[this,List.set_set,aC,EB,<-atn];unfold nw;simp
end
theorem Rg (l:List (List B)) (x:List B) :i7 l x<=l.length:=by unfold i7; exact (List.takeWhile_sublist _).length_le
theorem Ju {x:List B}:∀ {l:List (List B)} {k:Nat} {y:List B},k<i7 l x->l[k]? = some y->ca y x<0
 | [],k,y,_,h=>by simp at h
 | a::l,k,y,ar,h=>by
  unfold i7 at ar;rw[au7] at ar;by_cases aB:ca a x<0
  ·cases k with
   | zero=>simp at h; subst h; exact aB
   | succ k=>
    rw[decide_eq_true aB] at ar;simp at ar h;exact Ju (l:=l) (by unfold i7; exact ar) h
  ·rw[decide_eq_false aB] at ar; simp at ar
theorem Jt {x:List B}:∀ {l:List (List B)} {y:List B},l[i7 l x]? = some y->¬ ca y x<0
 | [],y,h=>by simp at h
 | a::l,y,h=>by
  unfold i7 at h;rw[au7] at h;by_cases aB:ca a x<0
  ·rw[decide_eq_true aB] at h;simp at h;exact Jt (l:=l) (by unfold i7; exact h)
  ·rw[decide_eq_false aB] at h; simp at h; subst h; exact aB
theorem aj9 {l:List (List B)} {x:List B} (h:dA l=true) (ag:x∉l) :dA (nw l (i7 l x) x)=true:=by
 have av:=Nf h;have dY:=Rg l x;refine V8 ?_;unfold nw;have aK:∀ y∈l.take (i7 l x),ib y x=true:=fun y aJ=>by
  obtain⟨k,ar⟩:=atc.1 aJ;have bB:=(as0.1 ar).1;rw[ati] at bB;rw[atp (by omega)] at ar;exact (nz _ _).2 (Ju (by omega) ar)
 have r6:∀ y∈l.drop (i7 l x),ib x y=true:=fun y aJ=>by
  have er:=au1 aJ;obtain⟨k,ar⟩:=atc.1 aJ;rw[atH] at ar;obtain⟨z,ax,Aq⟩:=bP (l:=l) (k:=i7 l x) (by have:=(as0.1 ar).1; omega);have ad:ib x z=true:=aht z x (fun e=>ag (by rw[<-e]; exact Aq)) (by
   cases ae:ib z x with
   | false=>rfl
   | true=>exact absurd ((nz _ _).1 ae) (Jt ax))
  by_cases CY:k=0
  ·subst CY; rw[ave,ax] at ar; obtain rfl:=Option.some.inj ar; exact ad
  ·exact Ht _ _ _ ad ((nz _ _).2 (qc h (show i7 l x<i7 l x+k by omega) ax ar))
 rw[avy];refine⟨av.sublist (avM _ _),avJ.2 ⟨r6,av.sublist (List.drop_sublist _ _)⟩,fun a aB b af=>?_⟩;rcases at0.1 af with e | e
 ·rw[e]; exact aK a aB
 ·exact Ht _ _ _ (aK a aB) (r6 b e)
def mP (l:List (List B)) (x:List B) :List (List B) :=if l[i7 l x]? = some x then l else nw l (i7 l x) x
def nK (l:List (List B)) :Nat->List (List B)
 | 0=>[]
 | k+1=>mP (nK l k) (bT l k)
def A7 (l:List (List B)) :List (List B) :=nK l l.length
theorem af4 {l:List (List B)} {x y:List B}:y∈mP l x<->y=x\/y∈l:=by
 unfold mP;split
 ·rename_i h;exact⟨.inr,fun ae=>ae.elim (fun e=>by rw[e]; exact ata h) id⟩
 ·exact UD
theorem af3 (l:List (List B)) (x:List B) :(mP l x).length<=l.length+1:=by
 unfold mP;split
 ·omega
 ·rw[Hg]; omega
theorem aaG {l:List (List B)} (h:dA l=true) {x:List B} (ag:x∈l) :l[i7 l x]? = some x:=by
 obtain⟨k,ar⟩:=atc.1 ag;rw[Js h ar]; exact ar
theorem af5 {l:List (List B)} (h:dA l=true) (x:List B) :dA (mP l x)=true:=by
 unfold mP;split
 ·exact h
 ·rename_i ae;exact aj9 h fun ag=>ae (aaG h ag)
theorem NE {l:List (List B)} {y:List B}:∀ {k:Nat},k<=l.length->(y∈nK l k<->y∈l.take k)
 | 0,_=>by simp[nK]
 | k+1,ar=>by
  obtain⟨x,ag,_⟩:=bP (l:=l) (k:=k) (by omega);show y∈mP _ _<->_;rw[af4,NE (by omega),atu,ag,fB ag,atU];simp; exact or_comm
theorem ND {l:List (List B)}:∀ {k:Nat},(nK l k).length<=k
 | 0=>by simp[nK]
 | k+1=>atR (af3 _ _) (by have:=ND (l:=l) (k:=k); omega)
theorem XD {l:List (List B)}:∀ {k:Nat},dA (nK l k)=true
 | 0=>by unfold nK dA; exact decide_eq_true fun k ar=>by simp at ar
 | k+1=>af5 XD _
theorem XC {l:List (List B)} {y:List B}:y∈A7 l<->y∈l:=by unfold A7; rw[NE (as3 _),aty]
theorem ak1 (l:List (List B)) :dA (A7 l)=true:=XD
theorem XU {α:Type} {l:List α} (h:l≠[]) :dk l=some l:=by cases l with | nil=>exact absurd rfl h | cons=>rfl
set_option maxHeartbeats 8000000 in
theorem ajG (s:dr) (ak:eu s) (al:s.l.length<=1000000) :bA Tryz.prog GS 79 [aD s] (aD (dk (A7 s.l))) :=by
 refine bW Tryz.checked.mixed bl ?_;apply bq Tryz.func79 [[],[],[[0],[1],[2],[3],[5],[6],[7],[8],[9],[11],[12],[13],[4,9,8],[10]]];have ay:ct=140737488355328:=rfl;have tL:cv (.aq 32) (aD s)=some (.int .i64 s.l.length) :=by simp[aD]
 simp;refine cB s.l.length (fun k σ l=>σ 0=aD s/\σ 3=aD (dk (nK s.l k))/\σ 4=.int .i64 k) ?_ ⟨by simp,by simp[nK]; rfl,by simp⟩;rintro k σ l ar ⟨ce,aZ,bi⟩;obtain⟨σ,rfl⟩:=ln ce aZ bi;clear ce aZ bi;have aQ:IntKind.i64.wrap ((k:Int)+1)=((k+1:Nat) :Int) :=by rw[IntKind.wrap_i64]; omega
 by_cases bB:k<s.l.length
 ·obtain⟨x,ag,dp⟩:=bP bB;have fY:=ak x dp;have bn:=de fY;have fK:=gK x;have bZ:cN (.aq 32) (aD s) (.int .i64 (k:Int))=some (.bK (a1 x) 0) :=by simp[aD,ag]
  have eD:∀ y∈nK s.l k,y.length=32:=fun y aJ=>ak y (atw ((NE (auC bB)).1 aJ))
  have oO:=ND (l:=s.l) (k:=k);have ka:nK s.l (k+1)=mP (nK s.l k) x:=by show mP _ (bT s.l k)=_; rw[fB ag]
  obtain⟨O,Kg⟩:∃ O,O=dk (nK s.l k) :=⟨_,rfl⟩
  have SD:O.l=nK s.l k:=by rw[Kg,ey]
  have acP:dk O.l=O:=by rw[SD,Kg]
  rw[<-SD] at eD oO ka;have cV:cv (.aq 32) (aD O)=some (.int .i64 O.l.length) :=by simp[aD]
  obtain⟨c,ah⟩:∃ c,c=i7 O.l x:=⟨_,rfl⟩
  have ew:c<=O.l.length:=by rw[ah]; exact Rg _ _
  have Uv:∀ (j:Nat) (y:List B),O.l[j]? = some y->cN (.aq 32) (aD O) (.int .i64 (j:Int))=some (.bK (a1 y) 0) :=fun j y aJ=>by simp[aD,aJ]
  obtain⟨X,cM⟩:∃ X,X=a1 x:=⟨_,rfl⟩
  rw[<-cM] at bn fK bZ;have hp:X.take 32=X:=as1 (by omega);rw[<-Kg];simp[tL,bB];refine cB c (fun j σ l'=>l'=l/\σ 0=aD s/\σ 3=aD O/\σ 4=.int .i64 k/\σ 5=.int .i64 j) ?_ ⟨rfl,by simp,by simp,by simp,by simp⟩;rintro j σ l' ai ⟨rfl,ce,aZ,bi,bm⟩;obtain⟨σ,rfl⟩:=i2 ce aZ bi bm;clear ce aZ bi bm;have bx:IntKind.i64.wrap ((j:Int)+1)=((j+1:Nat) :Int) :=by rw[IntKind.wrap_i64]; omega
  by_cases Ts:j<c
  ·obtain⟨y,aJ,er⟩:=bP (l:=O.l) (k:=j) (by omega);have aK:ca y x<0:=Ju (by rw[<-ah]; exact Ts) aJ;have eO:j<O.l.length:=by omega
   have fA:=de (eD y er);have kI:=gK y;have ff:=M8 y x (eD y er) fY;change bA Tryz.prog GS _ [.aG (a1 y),.aG (a1 x)] _ at ff;have hc:=Uv j y aJ;rw[<-cM] at ff;obtain⟨Y,gX⟩:∃ Y,Y=a1 y:=⟨_,rfl⟩
   rw[<-gX] at hc fA kI ff;simp[cV,eO,hc,fA,bZ,bn,hp,as1];refine a4 ff (by simp[a5,U.closed,fK,kI]) ?_;simp[aK,bx];exact Ts
  ·have Gw:j=c:=by omega
   have t1:fF (.aq 32) (aD O) none (some (.int .i64 (j:Int))) none=some (aD (gw O j)) :=XW (by omega);have t2:fF (.aq 32) (aD O) (some (.int .i64 (j:Int))) none none=some (aD (qg O j)) :=XV (by omega);obtain⟨I,nf⟩:∃ I,I=nw O.l j x:=⟨_,rfl⟩
   obtain⟨Oo,Cs⟩:∃ Oo,Oo=((O.l.take j).map a1).flatten:=⟨_,rfl⟩
   obtain⟨Oq,acD⟩:∃ Oq,Oq=((O.l.take j++[x]).map a1).flatten:=⟨_,rfl⟩
   have p0:∀ y∈O.l,(a1 y).length=32:=fun y aJ=>de (eD y aJ)
   obtain⟨iK,jh,yw⟩:=aja (enc:=a1) (z:=32) (by_:=32) (l:=l'++[.cells 0 [],.cells 32 X]) (b:=l'.length) (c:=l'.length+1) (k:=j) (s:=O) (x:=x) (by simp) (by rw[cM]; simp) (by omega) (by omega) p0 (by rw[<-cM]; exact bn) (by omega) (by omega) (by rw[ay]; omega);change gT _ _ _ _ (aD _)=_ at iK yw;have k8:∀ c:aY,(l'++[aY.cells 0 [],.cells 32 X]).set l'.length c=l'++[c,.cells 32 X] :=fun c=>by simp
   simp only[<-nf,<-Cs,<-acD,k8] at iK jh yw;have Sz:∀ y∈I,(a1 y).length=32:=fun y aJ=>by
    rw[nf,UD] at aJ;rcases aJ with h | h
    ·rw[h,<-cM]; exact bn
    ·exact p0 y h
   have Sy:I≠[] :=fun h=>by have:=congrArg List.length h; rw[nf,Hg] at this; simp at this
   have Sx:U.aX 32 (I.map a1)=aD (some I) :=rfl;have iE:bg (rep 32 (.int .u8 0)) 0 X=X:=hu (by rw[bn]; rfl);by_cases eO:j<O.l.length
   ·obtain⟨y,aJ,er⟩:=bP eO;have aK:¬ ca y x<0:=Jt (by rw[<-ah,<-Gw]; exact aJ);have fA:=de (eD y er);have kI:=gK y;have ff:=M8 y x (eD y er) fY;change bA Tryz.prog GS _ [.aG (a1 y),.aG (a1 x)] _ at ff;have hc:=Uv j y aJ;have bV:=yc (eD y er) fY;have jM:¬ (j:Int)=O.l.length:=by omega
    have CX:¬ j=O.l.length:=by omega
    rw[<-cM] at ff bV;obtain⟨Y,gX⟩:∃ Y,Y=a1 y:=⟨_,rfl⟩
    rw[<-gX] at hc fA kI ff bV;simp[cV,eO,hc,fA,bZ,bn,hp,as1];refine a4 ff (by simp[a5,U.closed,fK,kI]) ?_;by_cases Dr:y=x
    ·have sg:mP O.l x=O.l:=by unfold mP; rw[<-ah,<-Gw,aJ,Dr,if_pos rfl]
     have kA:¬ ca x x<0:=by rw[Dr] at aK; exact aK
     have qY:gD Tryz.prog .neq 61 (.aG Y) (.aG X)=some (.bool false) :=by rw[bV,decide_eq_true Dr]; rfl
     simp[aK,kA,cV,jM,CX,hc,fA,bZ,bn,hp,as1,qY,aQ];exact⟨bB,by rw[ka,sg,acP]⟩
    ·have KL:mP O.l x=I:=by unfold mP; rw[<-ah,<-Gw,aJ,if_neg (fun h=>Dr (Option.some.inj h)),nf]
     have qY:gD Tryz.prog .neq 61 (.aG Y) (.aG X)=some (.bool true) :=by rw[bV,decide_eq_false Dr]; rfl
     simp[aK,cV,jM,CX,hc,fA,bZ,bn,hp,as1,qY,t1,t2,iE,iK];refine c8.cb ?_;simp[jh,t2,bn,hp];refine c8.cb ?_;simp[yw];refine c8.FI (by exact Ea Sz rfl (by simp)) rfl ?_;simp[Sx,aQ];exact⟨bB,by rw[ka,KL,XU Sy]⟩
   ·have jM:(j:Int)=O.l.length:=by omega
    have CX:j=O.l.length:=by omega
    have KL:mP O.l x=I:=by unfold mP; rw[<-ah,<-Gw,if_neg,nf]; rw[atd (by omega)]; simp
    rw[CX] at t1 t2 iK jh yw;simp[cV,eO,CX,bZ,bn,hp,as1,t1,t2,iE,iK];refine c8.cb ?_;simp[jh,t2,bn,hp];refine c8.cb ?_;simp[yw];refine c8.FI (by exact Ea Sz rfl (by simp)) rfl ?_;simp[Sx,aQ];exact⟨bB,by rw[ka,KL,XU Sy]⟩
 ·have e5:k=s.l.length:=by omega
  subst e5;simp[tL];exact aP rfl (dw _)
structure hL (l:ao) (cj b2:U) (eX eY n:Nat) (ids:List (List B)) (ops:List bp) :Prop where
 iv:bO 32 l cj eX (ids.map a1)
 gP:bO 11 l b2 eY (ops.map a9)
 kh:cD cj=ids.isEmpty
 p5:cD b2=ops.isEmpty
 cX:cj=.aH\/n<=eX
 dC:b2=.aH\/n<=eY
 ne:cj=.aH\/b2=.aH\/eX≠eY
theorem MK (l:ao) (n:Nat) :hL l .aH .aH 0 0 n [] [] :=⟨.nil 0,.nil 0,rfl,rfl,.inl rfl,.inl rfl,.inl rfl⟩
theorem hL.frame {l l' : ao} {cj b2:U} {eX eY n:Nat} {ids:List (List B)} {ops:List bp} (h:hL l cj b2 eX eY n ids ops) (aE:∀ b,n<=b->b<l.length->l'[b]? = l[b]?) :hL l' cj b2 eX eY n ids ops:=by
 refine⟨h.iv.lA ?_,h.gP.lA ?_,h.kh,h.p5,h.cX,h.dC,h.ne⟩
 ·rcases h.cX with e | e
  ·exact .inl e
  ·rcases h.iv.lt with bx | bx
   ·exact .inl bx
   ·exact .inr (aE _ e bx)
 ·rcases h.dC with e | e
  ·exact .inl e
  ·rcases h.gP.lt with bx | bx
   ·exact .inl bx
   ·exact .inr (aE _ e bx)
theorem hL.ids {l:ao} {cj b2:U} {eX eY n:Nat} {ids:List (List B)} {ops:List bp} (h:hL l cj b2 eX eY n ids ops) {X:List U} {x:List B} (cM:X=a1 x) (ag:X.length=32) (aC:n<=l.length) (al:ids.length<=1000000) :
  ∃ a3 cn l',gT (l++[.cells 32 X]) 32 32 cj (.aq 32 l.length 0 1 1 32)=some (a3,l')/\hL l' a3 b2 cn eY n (ids++[x]) ops/\l.length+1<=l'.length/\∀ b,b<n->l'[b]? = l[b]?:=by
 have ay:ct=140737488355328:=rfl;obtain⟨a3,cn,l',a2,bd,b4,e0,gB,ho⟩:=xd (by_:=32) (x:=.aq 32 l.length 0 1 1 32) (xs:=[X]) (h.iv.more [aY.cells 32 X]) (by simp[ds,ag,as1]) (by simp[ag]) (by omega) (by omega) (by rw[ay]; simp; omega);have fr:cD a3=false:=by rw[ho]; simp
 have ja:a3≠.aH:=fun e=>by rw[e] at fr; cases fr
 have hD:(l++[aY.cells 32 X]).length=l.length+1:=by simp
 have fp:n<=cn:=by
  rcases gB with e | ⟨aQ,bx⟩ | e
  ·omega
  ·rw[bx]; exact h.cX.resolve_left aQ
  ·exact absurd e ja
 have jK:∀ b,b<l.length->cj=.aH\/b≠eX->l'[b]? = l[b]?:=fun b af vD=>by
  rw[e0 b (by omega) vD,as2 af]
 refine⟨a3,cn,l',a2,⟨?_,?_,by rw[fr]; simp,h.p5,.inr fp,h.dC,?_⟩,by omega,fun b af=>?_⟩
 ·rw[atn,atr,auq,<-cM]; exact bd
 ·refine h.gP.lA ?_;rcases h.gP.lt with e | e
  ·exact .inl e
  ·by_cases fX:b2=.aH
   ·exact .inl fX
   ·refine .inr (jK _ e ?_);rcases h.ne with q | q | q
    ·exact .inl q
    ·exact absurd q fX
    ·exact .inr fun e=>q e.symm
 ·by_cases fX:b2=.aH
  ·exact .inr (.inl fX)
  ·refine .inr (.inr fun e=>?_);have ae:=h.gP.lt.resolve_left fX;rcases gB with q | ⟨q1,db⟩ | q
   ·omega
   ·rcases h.ne with p | p | p
    ·exact q1 p
    ·exact fX p
    ·exact p (by omega)
   ·exact ja q
 ·refine jK b (by omega) ?_;rcases h.cX with e | e
  ·exact .inl e
  ·exact .inr (by omega)
theorem hL.ops {l:ao} {cj b2:U} {eX eY n:Nat} {ids:List (List B)} {ops:List bp} (h:hL l cj b2 eX eY n ids ops) {O:List U} {o:bp} (eD:O=a9 o) (aC:n<=l.length) (al:ops.length<=1000000) :
  ∃ a3 cn l',gT (l++[.cells 11 O]) 11 112 b2 (.aq 11 l.length 0 1 1 11)=some (a3,l')/\hL l' cj a3 eX cn n ids (ops++[o])/\l.length+1<=l'.length/\∀ b,b<n->l'[b]? = l[b]?:=by
 have ay:ct=140737488355328:=rfl;have ag:O.length=11:=by rw[eD]; rfl
 obtain⟨a3,cn,l',a2,bd,b4,e0,gB,ho⟩:=xd (by_:=112) (x:=.aq 11 l.length 0 1 1 11) (xs:=[O]) (h.gP.more [aY.cells 11 O]) (by simp[ds,ag,as1]) (by simp[ag]) (by omega) (by omega) (by rw[ay]; simp; omega);have fr:cD a3=false:=by rw[ho]; simp
 have ja:a3≠.aH:=fun e=>by rw[e] at fr; cases fr
 have hD:(l++[aY.cells 11 O]).length=l.length+1:=by simp
 have fp:n<=cn:=by
  rcases gB with e | ⟨aQ,bx⟩ | e
  ·omega
  ·rw[bx]; exact h.dC.resolve_left aQ
  ·exact absurd e ja
 have jK:∀ b,b<l.length->b2=.aH\/b≠eY->l'[b]? = l[b]?:=fun b af vD=>by
  rw[e0 b (by omega) vD,as2 af]
 refine⟨a3,cn,l',a2,⟨?_,?_,h.kh,by rw[fr]; simp,h.cX,.inr fp,?_⟩,by omega,fun b af=>?_⟩
 ·refine h.iv.lA ?_;rcases h.iv.lt with e | e
  ·exact .inl e
  ·by_cases fX:cj=.aH
   ·exact .inl fX
   ·refine .inr (jK _ e ?_);rcases h.ne with q | q | q
    ·exact absurd q fX
    ·exact .inl q
    ·exact .inr q
 ·rw[atn,atr,auq,<-eD]; exact bd
 ·by_cases fX:cj=.aH
  ·exact .inl fX
  ·refine .inr (.inr fun e=>?_);have ae:=h.iv.lt.resolve_left fX;rcases gB with q | ⟨q1,db⟩ | q
   ·omega
   ·rcases h.ne with p | p | p
    ·exact fX p
    ·exact q1 p
    ·exact p (by omega)
   ·exact ja q
 ·refine jK b (by omega) ?_;rcases h.dC with e | e
  ·exact .inl e
  ·exact .inr (by omega)
theorem yv {z:Nat} {l:ao} {v:U} {j:Nat} {es:List (List U)} (h:bO z l v j es) :v.cells=some [v] :=by cases h<;>rfl
theorem nU (s:dr) :(aD s).cells=some [aD s] :=by cases s<;>rfl
theorem u6 (s:c3 bp) :(bC s).cells=some [bC s] :=by cases s<;>rfl
theorem pI {α:Type} {a b c:α} {j:Nat} (h:[a,b][j]? = some c) :(j=0/\c=a)\/(j=1/\c=b) :=by
 match j,h with
 | 0,h=>left; simpa using h.symm
 | 1,h=>right; simpa using h.symm
 | j+2,h=>simp at h
theorem zJ {α:Type} {a c:α} {j:Nat} (h:[a][j]? = some c) :j=0/\c=a:=by
 match j,h with
 | 0,h=>simpa using h.symm
 | j+1,h=>simp at h
theorem hL.call {l:ao} {cj b2:U} {eX eY n:Nat} {ids:List (List B)} {ops:List bp} (h:hL l cj b2 eX eY n ids ops) {f:FuncId} {K:U->ao->Prop}
  (ah:∀ bo,bo.length=l.length->(∀ b,b<n->bo[b]? = l[b]?)->dh Tryz.prog GS f [.aG [aD (dk ids),bC (dk ops)]] bo (c:=⟨K⟩)) :dh Tryz.prog GS f [.aG [cj,b2]] l (c:=⟨K⟩) :=by
 obtain⟨l1,bL,c7,aQ,f1⟩:=HM (dk ids) h.iv (by rw[sP]; exact h.kh) (ey _);have gP:bO 11 l1 b2 eY (ops.map a9) :=by
  refine h.gP.lA ?_;by_cases fX:b2=.aH
  ·exact .inl fX
  ·refine .inr (f1 _ ?_);rcases h.ne with q | q | q
   ·exact .inl q
   ·exact absurd q fX
   ·exact .inr fun e=>q e.symm
 obtain⟨bo,w2,dU,bx,f2⟩:=HM (dk ops) gP (by rw[sP]; exact h.p5) (ey _);refine Fo Tryz.checked.mixed bl (args2:=[.aG [aD (dk ids),b2]]) bL (by omega) rfl (fun j c b5 ad ae=>?_) (Fo Tryz.checked.mixed bl (args2:=[.aG [aD (dk ids),bC (dk ops)]]) w2 (by omega) rfl (fun j c b5 ad ae=>?_) (ah bo (by omega) fun b af=>?_))
 ·obtain⟨rfl,rfl⟩:=zJ ad;obtain⟨_,rfl⟩:=zJ ae;refine .aG _ _ rfl fun j c c' ad ae=>?_
  rcases pI ad with ⟨rfl,rfl⟩ | ⟨rfl,rfl⟩
  ·rcases pI ae with ⟨_,rfl⟩ | ⟨h,_⟩
   ·exact c7
   ·omega
  ·rcases pI ae with ⟨h,_⟩ | ⟨_,rfl⟩
   ·omega
   ·exact .same _
 ·obtain⟨rfl,rfl⟩:=zJ ad;obtain⟨_,rfl⟩:=zJ ae;refine .aG _ _ rfl fun j c c' ad ae=>?_
  rcases pI ad with ⟨rfl,rfl⟩ | ⟨rfl,rfl⟩
  ·rcases pI ae with ⟨_,rfl⟩ | ⟨h,_⟩
   ·exact .same _
   ·omega
  ·rcases pI ae with ⟨h,_⟩ | ⟨_,rfl⟩
   ·omega
   ·exact dU
 ·rw[f2 b ?_,f1 b ?_]
  ·rcases h.cX with e | e
   ·exact .inl e
   ·exact .inr (by omega)
  ·rcases h.dC with e | e
   ·exact .inl e
   ·exact .inr (by omega)
def jj (g:bt) :List (List B × bp) :=g.ids.l.zip g.ops.l
def lj (g:bt) (L:List (List B)) (k:Nat) :List (List B × bp) :=((jj g).take k).filter fun p=>decide (p.1∈L)
def eL (l:List (List B × bp)) :bt:=⟨dk (l.map (·.1)),dk (l.map (·.2))⟩
def jC (g:bt) (L:List (List B)) :bt:=gi (eL (lj g L (jj g).length))
theorem ai5 {g:bt} {L:List (List B)} {k:Nat} {x:List B} {o:bp} (ag:g.ids.l[k]? = some x) (au:g.ops.l[k]? = some o) :lj g L (k+1)=lj g L k++if x∈L then [(x,o)] else [] :=by
 have av:(jj g)[k]? = some (x,o) :=by unfold jj; rw[auw]; exact⟨ag,au⟩
 unfold lj;rw[atu,av,auv];by_cases h:x∈L<;>simp[h]
theorem Ws {g:bt} {L:List (List B)} {k:Nat}:(lj g L k).length<=k:=atR (aul _ _) (by rw[ati]; omega)
theorem HS {g:bt} {p:List B × bp} (h:p∈jj g) :p.1∈g.ids.l/\p.2∈g.ops.l:=by
 obtain⟨k,ar⟩:=atc.1 h;unfold jj at ar;rw[auw] at ar;exact⟨ata ar.1,ata ar.2⟩
theorem J1 {l:List (List B × bp)} (ad:∀ p∈l,p.1.length=32) (ae:∀ p∈l,i3 p.2) (al:l.length<=1000000) :g8 (eL l) :=by
 refine⟨fun x ag=>?_,fun o au=>?_,?_,?_⟩
 ·unfold eL at ag; simp only[ey] at ag;obtain⟨p,av,rfl⟩:=atx.1 ag;exact ad p av
 ·unfold eL at au; simp only[ey] at au;obtain⟨p,av,rfl⟩:=atx.1 au;exact ae p av
 ·unfold eL; simp only[ey]; rw[ate]; exact al
 ·unfold eL; simp only[ey]; rw[ate]; exact al
structure Zh (g:bt) (L:dr) (k:Nat) (σ:a8) (l:ao) :Prop where
 aO:σ 1=aD L
 aT:σ 2=.ptr 0 0 2
 bi:σ 4=.ptr 1 0 2
 bm:σ 5=.ptr 2 0 2
 cw:σ 6=.int .i64 k
 ex:∃ cj b2 eX eY rest,l=.cells 2 [aD g.ids,bC g.ops] ::.cells 2 [.aH,.aH] ::.cells 2 [cj,b2] ::rest/\hL l cj b2 eX eY 3 ((lj g L.l k).map (·.1)) ((lj g L.l k).map (·.2))
set_option maxHeartbeats 8000000 in
theorem ajw (g:bt) (aw:g8 g) (bD:g.ids.l.length=g.ops.l.length) (L:dr) (eV:eu L) (r3:L.l.length<=1000000) (aC:g.ids.l.length<=100000) :bA Tryz.prog GS 49 [c4 g,aD L] (c4 (jC g L.l)) :=by
 refine bW Tryz.checked.mixed bl ?_;apply bq Tryz.func49 [];have fW:=dw g.ids;have eg:=lz g.ops;have ado:=dw L;have cT:cv (.aq 32) (aD g.ids)=some (.int .i64 g.ids.l.length) :=by simp[aD]
 simp[c4,bX];refine cB g.ids.l.length (Zh g L) ?_ ⟨by simp,by simp,by simp,by simp,by simp,.aH,.aH,0,0,[],rfl,by simpa [lj] using MK _ 3⟩;rintro k σ l ar ⟨aO,aT,bi,bm,cw,cj,b2,eX,eY,rest,rfl,iY⟩;obtain⟨σ,rfl⟩:=lo aO aT bi bm cw;clear aO aT bi bm cw;have aQ:IntKind.i64.wrap ((k:Int)+1)=((k+1:Nat) :Int) :=by rw[IntKind.wrap_i64]; omega
 have gZ:=Ws (g:=g) (L:=L.l) (k:=k);by_cases bB:k<g.ids.l.length
 ·obtain⟨x,ag,dp⟩:=bP bB;obtain⟨o,au,eF⟩:=bP (l:=g.ops.l) (k:=k) (by omega);have fY:=aw.ids x dp;have bn:=de fY;have fK:=gK x;have dF:(a9 o).length=11:=rfl;have bZ:cN (.aq 32) (aD g.ids) (.int .i64 (k:Int))=some (.bK (a1 x) 0) :=by simp[aD,ag]
  have hc:cN (.aq 11) (bC g.ops) (.int .i64 (k:Int))=some (.bK (a9 o) 0) :=by simp[bC,au]
  have eE:=AV L eV r3 x fY;have k9:=ai5 (L:=L.l) ag au;have jO:=vU x L.l 0;obtain⟨eP,dP⟩:∃ eP,eP=he x L.l 0:=⟨_,rfl⟩
  obtain⟨X,cM⟩:∃ X,X=a1 x:=⟨_,rfl⟩
  obtain⟨O,eD⟩:∃ O,O=a9 o:=⟨_,rfl⟩
  rw[<-dP] at eE jO;rw[<-cM] at eE bn fK bZ;rw[<-eD] at hc dF;have hp:X.take 32=X:=as1 (by omega);have FT:O.take 11=O:=as1 (by omega);have iE:bg (rep 32 (.int .u8 0)) 0 X=X:=hu (by rw[bn]; rfl);have q9:bg [U.int .u32 0,.aH,.int .u64 0,.int .u8 0,.str [],.int .u8 0,.int .i64 0,.int .u64 0,.str [],.int .u32 0,.int .u32 0] 0 O=O:=hu (by rw[dF]; rfl);simp[cT,bB,bZ,bn,hp];refine a4 eE (by simp[a5,U.closed,ado,fK]) ?_;by_cases hm:x∈L.l
  ·have aI:0<=eP:=jO.2 hm;rw[if_pos hm] at k9;obtain⟨ow,vV,l',a2,bd,b4,e0⟩:=iY.ids cM bn (by simp) (by rw[ate]; omega);obtain⟨c7,rfl⟩:=uz (e0 0 (by omega)) (e0 1 (by omega)) (e0 2 (by omega));simp at a2;have aeW:hL (.cells 2 [aD g.ids,bC g.ops] ::.cells 2 [.aH,.aH] ::.cells 2 [ow,b2] ::c7) ow b2 vV eY 3 ((lj g L.l k).map (·.1)++[x]) ((lj g L.l k).map (·.2)) :=bd.frame fun b af _=>by
    match b,af with
    | b+3,_=>rfl
   obtain⟨rF,ye,bo,b0,b5,ik,gJ⟩:=aeW.ops eD (by simp) (by rw[ate]; omega);obtain⟨dU,rfl⟩:=uz (gJ 0 (by omega)) (gJ 1 (by omega)) (gJ 2 (by omega));simp at b0;have aeX:hL (.cells 2 [aD g.ids,bC g.ops] ::.cells 2 [.aH,.aH] ::.cells 2 [ow,rF] ::dU) ow rF vV ye 3 ((lj g L.l k).map (·.1)++[x]) ((lj g L.l k).map (·.2)++[o]) :=b5.frame fun b af _=>by
    match b,af with
    | b+3,_=>rfl
   simp[aI,bZ,bn,hp,iE,a2];refine c8.cb ?_;simp[yv bd.iv,bg,hc,dF,FT,q9,b0];refine c8.cb ?_;simp[yv b5.gP,bg,aQ];exact⟨bB,by simp,by simp,by simp,by simp,by simp,ow,rF,vV,ye,dU,rfl,by rw[k9,atn,atn]; exact aeX⟩
  ·have aI:¬ 0<=eP:=fun h=>hm (jO.1 h)
   rw[if_neg hm,atB] at k9;simp[aI,aQ];exact⟨bB,by simp,by simp,by simp,by simp,by simp,cj,b2,eX,eY,rest,rfl,by rw[k9]; exact iY⟩
 ·have e5:k=g.ids.l.length:=by omega
  subst e5;have Df:(jj g).length=g.ids.l.length:=by unfold jj; rw[List.length_zip]; omega
  have adY:g8 (eL (lj g L.l g.ids.l.length)) :=J1 (fun p av=>aw.ids _ (HS (atw (at6.1 av).1)).1) (fun p av=>aw.ops _ (HS (atw (at6.1 av).1)).2) (by omega);have si:=WO _ adY;have tR:jC g L.l=gi (eL (lj g L.l g.ids.l.length)) :=by unfold jC; rw[Df]
  rw[<-tR] at si;have eQ:=nU (jC g L.l).ids;have eG:(bC (jC g L.l).ops).cells=some [bC (jC g L.l).ops] :=by cases (jC g L.l).ops<;>rfl
  have b0:=dw (jC g L.l).ids;have b5:=lz (jC g L.l).ops;have ik:=dw (dk ((lj g L.l g.ids.l.length).map (·.1)));have gJ:=lz (dk ((lj g L.l g.ids.l.length).map (·.2)));unfold c4 bX at si;simp[cT];refine iY.call fun bo q1 db=>?_
  obtain⟨dU,rfl⟩:=uz (db 0 (by omega)) (db 1 (by omega)) (db 2 (by omega));refine a4 si (by simp[a5,U.closed,ik,gJ]) ?_;simp[bg];exact aP rfl (show (U.aG [aD (jC g L.l).ids,bC (jC g L.l).ops]).closed=true by simp[U.closed,a5,b0,b5])
def kN (g:bt) :Nat->List (List B)
 | 0=>[]
 | k+1=>kN g k++(jV g.ops.l k).bh.l
theorem MI {g:bt} {x:List B}:∀ {k:Nat},x∈kN g k<->∃ j,j<k/\x∈(jV g.ops.l j).bh.l
 | 0=>⟨fun h=>(by cases h),fun ⟨j,ai,_⟩=>by omega⟩
 | k+1=>by
  show x∈kN g k++_<->_;rw[atU,MI];constructor
  ·rintro (⟨j,ad,ae⟩ | h)
   ·exact⟨j,by omega,ae⟩
   ·exact⟨k,by omega,h⟩
  ·rintro⟨j,ad,ae⟩;by_cases e:j=k
   ·subst e; exact .inr ae
   ·exact .inl ⟨j,by omega,ae⟩
theorem Wq {g:bt} (V:IJ g) {k:Nat} {o:bp} (au:g.ops.l[k]? = some o) :o.bh.l.length<=4:=by
 obtain⟨x,ag,_⟩:=bP (l:=g.ids.l) (k:=k) (by rw[V.len]; exact (as0.1 au).1);exact yu (Io (V.acg k o x au ag).1)
theorem MH {g:bt} (V:IJ g) :∀ {k:Nat},k<=g.ops.l.length->(kN g k).length<=4*k
 | 0,_=>by simp[kN]
 | k+1,ar=>by
  obtain⟨o,au,_⟩:=bP (l:=g.ops.l) (k:=k) (by omega);have:=MH V (k:=k) (by omega);have aF:=Wq V au;show (kN g k++(jV g.ops.l k).bh.l).length<=_;rw[as8,ul au]; omega
theorem ah7 {g:bt} (aw:g8 g) {k:Nat} (ar:k<=g.ops.l.length) :eu (dk (kN g k)) :=fun x ag=>by
 rw[ey,MI] at ag;obtain⟨j,ai,ag⟩:=ag;obtain⟨o,au,eF⟩:=bP (l:=g.ops.l) (k:=j) (by omega);rw[ul au] at ag;exact (aw.ops o eF).ids x ag
structure Zk (g:bt) (k:Nat) (σ:a8) (l:ao) :Prop where
 aO:σ 1=.ptr 0 0 2
 bi:σ 4=.aH
 bm:σ 5=.int .i64 k
 ex:∃ v j rest,l=.cells 2 [aD g.ids,bC g.ops] ::rest/\σ 3=v/\bO 32 l v j ((kN g k).map a1)/\(v=.aH\/1<=j)/\cD v=(kN g k).isEmpty
structure Zl (g:bt) (w:U) (fS:Nat) (k:Nat) (σ:a8) (l:ao) :Prop where
 aO:σ 1=.ptr 0 0 2
 aZ:σ 3=w
 cw:σ 6=.int .i64 k
 ex:∃ v j rest,l=.cells 2 [aD g.ids,bC g.ops] ::rest/\σ 4=v/\bO 32 l v j (((g.ids.l.take k).filter (lH g)).map a1)/\(v=.aH\/1<=j)/\cD v=((g.ids.l.take k).filter (lH g)).isEmpty/\bO 32 l w fS ((kN g g.ops.l.length).map a1)/\(v=.aH\/w=.aH\/j≠fS)
set_option maxHeartbeats 8000000 in
theorem ajI (g:bt) (aw:g8 g) (aI:hz g=0) :bA Tryz.prog GS 133 [c4 g] (aD (dk (hU g))) :=by
 refine bW Tryz.checked.mixed bl ?_;apply bq Tryz.func133 [];have ay:ct=140737488355328:=rfl;have V:=AL aI;have K4:=V.n60;have jQ:=V.len;have cV:cv (.aq 11) (bC g.ops)=some (.int .i64 g.ops.l.length) :=by simp[bC]
 have cT:cv (.aq 32) (aD g.ids)=some (.int .i64 g.ids.l.length) :=by simp[aD]
 simp[c4,bX];refine cB g.ops.l.length (Zk g) ?_ ⟨by simp,by simp,by simp,.aH,0,[],rfl,by simp,.nil 0,.inl rfl,rfl⟩;rintro k σ l ar ⟨aO,bi,bm,v,j,rest,rfl,aZ,kF,ai,ip⟩;obtain⟨σ,rfl⟩:=i2 aO aZ bi bm;clear aO aZ bi bm;have aQ:IntKind.i64.wrap ((k:Int)+1)=((k+1:Nat) :Int) :=by rw[IntKind.wrap_i64]; omega
 by_cases bB:k<g.ops.l.length
 ·obtain⟨o,au,eF⟩:=bP bB;have mL:=aw.ops o eF;have bZ:cN (.aq 11) (bC g.ops) (.int .i64 (k:Int))=some (.bK (a9 o) 0) :=by simp[bC,au]
  have dF:(a9 o).length=11:=rfl;have n1:∀ h,(a9 o)[1]'h=aD o.bh:=fun _=>rfl
  have kD:=MH V ar;have aF:=Wq V au;have b3:kN g (k+1)=kN g k++o.bh.l:=by show kN g k++(jV g.ops.l k).bh.l=_; rw[ul au]
  obtain⟨a3,cn,cx,a2,bd,b4,e0⟩:=xe (by_:=32) (pre:=[.cells 2 [aD g.ids,bC g.ops]]) (rest:=rest) kF ai (x:=aD o.bh) (xs:=o.bh.l.map a1)
   (by simp[aD]) (fun e am=>by obtain⟨y,aJ,rfl⟩:=atx.1 am; exact de (mL.ids y aJ)) (by omega) (by omega) (by rw[ay]; simp; omega)
  simp only[atV,at1] at a2;obtain⟨O,eD⟩:∃ O,O=a9 o:=⟨_,rfl⟩
  rw[<-eD] at bZ dF;simp only[<-eD] at n1;simp[cV,bB,bZ,dF,n1,a2];refine c8.cb ?_;simp[aQ];refine⟨bB,by simp,by simp,by simp,a3,cn,cx,rfl,by simp,?_,by simpa using b4,?_⟩
  ·rw[b3,atn]; exact bd
  ·rw[e0,ip,b3];cases kN g k<;>cases o.bh.l<;>simp
 ·have e5:k=g.ops.l.length:=by omega
  subst e5;clear ar bB aQ;simp[cV];refine cB g.ids.l.length (Zl g v j) ?_ ⟨by simp,by simp,by simp,.aH,0,rest,rfl,by simp,.nil 0,.inl rfl,rfl,kF,.inl rfl⟩;rintro k σ l ar ⟨aO,aZ,cw,cj,eX,W7,rfl,bi,GO,KN,K5,Dd,bV⟩;obtain⟨σ,rfl⟩:=i2 aO aZ bi cw;clear aO aZ bi cw;have aQ:IntKind.i64.wrap ((k:Int)+1)=((k+1:Nat) :Int) :=by rw[IntKind.wrap_i64]; omega
  by_cases bB:k<g.ids.l.length
  ·obtain⟨x,ag,dp⟩:=bP bB;have fY:=aw.ids x dp;have bn:=de fY;have fK:=gK x;have bZ:cN (.aq 32) (aD g.ids) (.int .i64 (k:Int))=some (.bK (a1 x) 0) :=by simp[aD,ag]
   have kD:=MH V (as3 g.ops.l.length);have eE:=AV (dk (kN g g.ops.l.length)) (ah7 aw (as3 _)) (by rw[ey]; omega) x fY;rw[ey] at eE;have mM:=Dd.q.wo gK (dk (kN g g.ops.l.length)) (by rw[sP]; exact ip) (ey _);have jO:=vU x (kN g g.ops.l.length) 0;have b3:g.ids.l.take (k+1)=g.ids.l.take k++[x] :=by rw[atu,ag]; rfl
   have To:lH g x=true<->x∉kN g g.ops.l.length:=by
    unfold lH pE;rw[decide_eq_true_eq,MI];exact⟨fun h ⟨j,ai,ag⟩=>h j ai ag,fun h j ai ag=>h ⟨j,ai,ag⟩⟩
   obtain⟨eP,dP⟩:∃ eP,eP=he x (kN g g.ops.l.length) 0:=⟨_,rfl⟩
   obtain⟨X,cM⟩:∃ X,X=a1 x:=⟨_,rfl⟩
   rw[<-dP] at eE jO;rw[<-cM] at eE bZ bn fK;have hp:X.take 32=X:=as1 (by omega);have iE:bg (rep 32 (.int .u8 0)) 0 X=X:=hu (by rw[bn]; rfl);simp[cT,bB,bZ,bn,hp];refine lV eE (.cons mM (.cons (.same _ (by simp[U.closed,fK])) .nil)) rfl ?_;by_cases hm:x∈kN g g.ops.l.length
   ·have aK:¬ eP<0:=by have:=jO.2 hm; omega
    have aE:lH g x=false:=by
     cases h:lH g x with
     | false=>rfl
     | true=>exact absurd hm (To.1 h)
    have eW:(g.ids.l.take (k+1)).filter (lH g)=(g.ids.l.take k).filter (lH g) :=by rw[b3,auv]; simp[aE]
    simp[aK,aQ];exact⟨bB,by simp,by simp,by simp,cj,eX,W7,rfl,by simp,by rw[eW]; exact GO,KN,by rw[eW]; exact K5,Dd,bV⟩
   ·have aK:eP<0:=by
     have:¬ 0<=eP:=fun h=>hm (jO.1 h)
     omega
    have aE:=To.2 hm;have eW:(g.ids.l.take (k+1)).filter (lH g)=(g.ids.l.take k).filter (lH g)++[x] :=by rw[b3,auv]; simp[aE]
    have dY:((g.ids.l.take k).filter (lH g)).length<=1000000:=atR (aul _ _) (by rw[ati]; omega);obtain⟨a3,cn,l',a2,bd,b4,e0,gB,ho⟩:=xd (by_:=32) (x:=.aq 32 (W7.length+1) 0 1 1 32) (xs:=[X]) (GO.more [aY.cells 32 X]) (by simp[ds,bn,as1]) (by simp[bn]) (by omega) (by omega) (by rw[ay]; simp; omega);have fr:cD a3=false:=by rw[ho]; simp
    have ja:a3≠.aH:=fun e=>by rw[e] at fr; cases fr
    have f0:l'[0]? = some (.cells 2 [aD g.ids,bC g.ops]) :=by
     rw[e0 0 (by simp) (by rcases KN with e | e; exact .inl e; exact .inr (by omega))]; rfl
    obtain⟨cx,rfl⟩:∃ cx,l'=.cells 2 [aD g.ids,bC g.ops] ::cx:=by
     cases l' with
     | nil=>simp at f0
     | cons c r=>simp at f0; subst f0; exact⟨r,rfl⟩
    have uS:=a2;simp at uS;simp[aK,bZ,bn,hp,iE,uS];refine c8.cb ?_;simp[aQ];refine⟨bB,by simp,by simp,by simp,a3,cn,cx,rfl,by simp,?_,?_,by rw[eW,fr]; simp,?_,?_⟩
    ·rw[eW,atn,atr,auq,<-cM]; exact bd
    ·right;rcases gB with e | ⟨aQ,bx⟩ | e
     ·simp at e; omega
     ·rw[bx]; exact KN.resolve_left aQ
     ·exact absurd e ja
    ·refine Dd.lA ?_;rcases Dd.lt with e | e
     ·exact .inl e
     ·by_cases aW:v=.aH
      ·exact .inl aW
      ·right;rw[e0 j (by simp at e ⊢; omega) (by rcases bV with q | q | q; exact .inl q; exact absurd q aW; exact .inr fun e=>q e.symm)];exact as2 e
    ·by_cases aW:v=.aH
     ·exact .inr (.inl aW)
     ·refine .inr (.inr fun e=>?_);have ae:=Dd.lt.resolve_left aW;rcases gB with q | ⟨q1,db⟩ | q
      ·simp at q ae; omega
      ·rcases bV with p | p | p
       ·exact q1 p
       ·exact aW p
       ·exact p (by omega)
      ·exact ja q
  ·have e5:k=g.ids.l.length:=by omega
   rw[e5,aty] at GO K5;simp[cT,bB];exact GO.q.AZ gK (dk (hU g)) (by rw[K5,sP]; rfl) (ey _)
end Op

end Go.bY

/-
  Graphs: a visit, walked; it calls itself.
-/
import Derived.Test.YtobphgccoalchaaGreatDoorOj
import Derived.Sort.Walk0
import Derived.Shelf.Spec.SlicesInsertGrow
import Derived.Test.YtobphgccoalchaaGreatDoorRows
import Derived.Shelf.SlSortCmp.WholeK
import Derived.Shelf.SlGeneric
set_option linter.unusedVariables false
set_option linter.unusedSimpArgs false
set_option linter.unnecessarySimpa false
namespace Go.cb
open Go Go.Proofs
set_option maxRecDepth 100000
namespace Op
open g3
structure oN (g:bi) (fj kX kW ks gS fL:Nat) (S:List Bool) (l:ao) :Prop where
 a:l[fj]? = some (.cells 1 [.mp fL])
 s:l[kX]? = some (.cells 1 [.au 1 gS 0 g.ids.l.length g.ids.l.length g.ids.l.length])
 FF:l[kW]? = some (.cells 2 [aR g.ids,bZ g.ops])
 v:l[ks]? = some (.cells 1 [.fn 179 [] [.ptr fj 0 1,.ptr kX 0 1,.ptr kW 0 2,.ptr ks 0 1]])
 m:nf l fL g.ids.l
 r:l[gS]? = some (.cells g.ids.l.length (S.map U.bool))
 n:S.length=g.ids.l.length
 ne:gS≠fj/\gS≠kX/\gS≠kW/\gS≠ks/\gS≠fL
theorem oN.frame {g:bi} {fj kX kW ks gS fL:Nat} {S:List Bool} {l l' : ao} (h:oN g fj kX kW ks gS fL S l) (aD:∀ c,c<l.length->l'[c]? = l[c]?) :oN g fj kX kW ks gS fL S l':=by
 have lt:∀ {c:Nat} {x:a2},l[c]? = some x->c<l.length:=fun h=>(atU.1 h).1
 exact⟨(aD _ (lt h.a)).trans h.a,(aD _ (lt h.s)).trans h.s,(aD _ (lt h.FF)).trans h.FF,(aD _ (lt h.v)).trans h.v,h.m.frame (aD _ h.m.lt),(aD _ (lt h.r)).trans h.r,h.n,h.ne⟩
theorem oN.more {g:bi} {fj kX kW ks gS fL:Nat} {S:List Bool} {l:ao} (h:oN g fj kX kW ks gS fL S l) (x:ao) :oN g fj kX kW ks gS fL S (l++x) :=h.frame fun c ah=>atV ah
theorem oN.set {g:bi} {fj kX kW ks gS fL:Nat} {S:List Bool} {l:ao} (h:oN g fj kX kW ks gS fL S l) (i:Nat) :oN g fj kX kW ks gS fL (S.set i true) (l.set gS (.cells g.ids.l.length ((S.set i true).map U.bool))) :=by
 obtain⟨lR,ow,uW,ta,lS⟩:=h.ne;have al:gS<l.length:=(atU.1 h.r).1;exact⟨by rw[at5 lR]; exact h.a,by rw[at5 ow]; exact h.s,by rw[at5 uW]; exact h.FF,by rw[at5 ta]; exact h.v,h.m.frame (at5 lS),at9 al,by simpa using h.n,h.ne⟩
theorem SI:hE Tryz.prog 179=true:=by kernel_rfl
set_option maxHeartbeats 4000000 in
theorem amx (g:bi) (ar:ft g) (V:kU g) (fj kX kW ks gS fL:Nat) :∀ (m:Nat) (S:List Bool) (l:ao) (p:List B) (i:Nat) (K:U->ao->Prop),S.count false<=m->oN g fj kX kW ks gS fL S l->g.ids.l[i]? = some p->
  (∀ l' hX,pR g.ids.l g.ops.l [p] S hX->oN g fj kX kW ks gS fL hX l'->(∀ c,c<l.length->c≠gS->l'[c]? = l[c]?)->l.length<=l'.length->hX.count false<=S.count false->K (.bE []) l')->
  cY Tryz.prog GS 179 [.aJ (aS p),.ptr fj 0 1,.ptr kX 0 1,.ptr kW 0 2,.ptr ks 0 1] l (c:=⟨K⟩) :=by
 have et:=mu V.dO;intro m
 induction m using Nat.strongRecOn with
 | _ m aI=>
  intro S l p i K hm we av aV;apply bm Tryz.func179 [];have pf:=at3 av;have yx:=ar.ids p pf;have c7:=(atU.1 av).1;have ik:=(we.more [.cells 32 (aS p)]).m.look et yx av;have bf:=cM yx;obtain⟨X,cQ⟩:∃ X,X=aS p:=⟨_,rfl⟩
  rw[<-cQ] at ik bf ⊢;have x3:=we.more [.cells 32 X];obtain⟨l1,gk⟩:∃ l1,l1=l++[a2.cells 32 X] :=⟨_,rfl⟩
  rw[<-gk] at x3 ik;have aet:l1[l.length]? = some (.cells 32 X) :=by rw[gk]; simp
  have dJ:eM l1 (.ptr fj 0 1)=some ([.mp fL],0) :=by simp only[eM,x3.a]; simp
  have fg:eM l1 (.ptr kX 0 1)=some ([.au 1 gS 0 g.ids.l.length g.ids.l.length g.ids.l.length],0) :=by simp only[eM,x3.s]; simp
  have tm:eM l1 (.ptr l.length 0 32)=some (X,0) :=by simp only[eM,aet]; simp
  have tn:eM l1 (.ptr gS i g.ids.l.length)=some (S.map U.bool,i) :=by simp only[eM,x3.r]; simp
  have Ud:cg (.au 1) (.au 1 gS 0 g.ids.l.length g.ids.l.length g.ids.l.length) (.int .i64 (i:Int))=some (.ptr gS i g.ids.l.length) :=by
   simp only[cg];rw[if_pos ⟨trivial,by omega,by omega⟩];simp
  obtain⟨b,ag,_⟩:=bx (l:=S) (k:=i) (by rw[we.n]; exact c7);have apX:(S.map U.bool)[i]? = some (.bool b) :=by rw[at0,ag]; rfl
  have K7:l1.length=l.length+1:=by rw[gk]; simp
  have T4:∀ c,c<l.length->c≠gS->l1[c]? = l[c]?:=fun c ah _=>by rw[gk,atV ah]
  cases b with
  | true=>
   simp[bf,<-gk,dJ,fg,tm,ik,Ud,tn,ag,atT];exact aV l1 S (amD et av ag) x3 T4 (by omega) (atW _)
  | false=>
   have ch:km 1 l1 (.ptr gS i g.ids.l.length) (.bool true)=some (l1.set gS (.cells g.ids.l.length ((S.set i true).map U.bool))) :=by
    simp only[km,U.cells,x3.r];rw[if_pos (by simp; omega)];have ad:bu (S.map U.bool) i [U.bool true]=(S.set i true).map U.bool:=oE U.bool S i true (by rw[we.n]; exact c7);rw[ad]
   have Kt:=x3.set i;obtain⟨bX,g0⟩:∃ bX,bX=l1.set gS (.cells g.ids.l.length ((S.set i true).map U.bool)) :=⟨_,rfl⟩
   rw[<-g0] at ch Kt;have m3:eM bX (.ptr kW 1 2)=some ([aR g.ids,bZ g.ops],1) :=by simp only[eM,Kt.FF]; simp
   obtain⟨o,ap,dD⟩:=bx (l:=g.ops.l) (k:=i) (by rw[<-V.len]; exact c7);have bW:cg (.au 11) (bZ g.ops) (.int .i64 (i:Int))=some (.b3 (bd o) 0) :=by simp[bZ,ap]
   have sG:(bd o).length=11:=rfl;have hh:(bd o)[1]? = some (aR o.bp) :=rfl;have k4:=ar.ops o dD;have gy:=k4.len;have nG:cz (.au 32) (aR o.bp)=some (.int .i64 o.bp.l.length) :=by simp[aR]
   obtain⟨O,dX⟩:∃ O,O=bd o:=⟨_,rfl⟩
   rw[<-dX] at bW sG hh;have aeW:∀ c,c<l.length->c≠gS->bX[c]? = l[c]?:=fun c ah bz=>by rw[g0,at5 (Ne.symm bz)]; exact T4 c ah bz
   have K8:l.length<=bX.length:=by rw[g0]; simp; omega
   have apS:(S.set i true).count false+1<=S.count false:=by
    have afc:i<S.length:=by rw[we.n]; exact c7
    have nD:S[i]=false:=(atU.1 ag).2;have jr:0<S.count false:=awG.2 (at3 ag);rw[List.count_set afc,nD];simp; omega
   simp[bf,<-gk,dJ,fg,tm,ik,Ud,tn,ag,atT,ch,m3,bW,hh,nG];refine cF o.bp.l.length (fun q ae l'=>ae 4=.ptr ks 0 1/\ae 24=aR o.bp/\ae 25=.int .i64 o.bp.l.length/\ae 26=.int .i64 q/\∃ hX,pR g.ids.l g.ops.l (o.bp.l.take q) (S.set i true) hX/\oN g fj kX kW ks gS fL hX l' ∧
    (∀ c,c<l.length->c≠gS->l'[c]? = l[c]?)/\l.length<=l'.length/\hX.count false<=(S.set i true).count false) ?_ ?_
   ·rintro q ae l' aZ ⟨bD,mJ,ku,ma,hX,x5,x2,kz,pd,wi⟩;obtain⟨ae,rfl⟩:=iw bD mJ ku ma;clear bD mJ ku ma;by_cases lG:q<o.bp.l.length
    ·obtain⟨bS,gc,Dd⟩:=bx lG;obtain⟨j,ai⟩:=atZ.1 (V.HC o dD bS Dd);have aQ:IntKind.i64.wrap ((q:Int)+1)=((q+1:Nat) :Int) :=by rw[IntKind.wrap_i64]; omega
     have h4:cg (.au 32) (aR o.bp) (.int .i64 (q:Int))=some (.b3 (aS bS) 0) :=by simp[aR,gc]
     have uH:=cM ((ar.ops o dD).ids bS Dd);have x4:=x2.more [.cells 32 (aS bS)];have w1:eM (l'++[a2.cells 32 (aS bS)]) (.ptr ks 0 1)=some ([.fn 179 [] [.ptr fj 0 1,.ptr kX 0 1,.ptr kW 0 2,.ptr ks 0 1]],0) :=by simp only[eM,x4.v]; simp
     have jL:=aI (m - 1) (by omega) hX (l'++[a2.cells 32 (aS bS)]) bS j;obtain⟨tQ,Kv⟩:∃ tQ,tQ=aS bS:=⟨_,rfl⟩
     rw[<-Kv] at h4 uH x4 w1 jL;have nJ:bu (rep 32 (.int .u8 0)) 0 tQ=tQ:=fi (by rw[uH]; rfl);simp[lG,h4,uH,nJ,atT,w1];refine⟨SI,jL _ (by omega) x4 ai ?_⟩;intro fe IF b1 w2 ei n0 qS;simp[lG,aQ];refine⟨IF,?_,w2,fun c ah bz=>?_,by simp at n0; omega,by omega⟩
     ·rw[aud,gc];exact Y8 x5 b1
     ·rw[ei c (by simp; omega) bz,atV (by omega)];exact kz c ah bz
    ·have qt:q=o.bp.l.length:=by omega
     rw[qt,aun] at x5;simp[lG];exact aV l' hX (amE et av (by rw[we.n]; exact c7) (by rw[m1 ap]; exact x5)) x2 kz pd (by omega)
   ·simp;exact⟨S.set i true,Y7 _ _ _,Kt,aeW,K8,atW _⟩
open Classical in
noncomputable def px (g:bi) (L:List (List B)) :List Bool:=(List.range g.ids.l.length).map fun i=>decide (jc g.ids.l g.ops.l L i)
theorem Nd (g:bi) (L:List (List B)) :(px g L).length=g.ids.l.length:=by simp[px]
open Classical in
theorem aj4 {g:bi} {L:List (List B)} {S:List Bool} (h:pR g.ids.l g.ops.l L (List.replicate g.ids.l.length false) S) :S=px g L:=by
 have bl:S.length=g.ids.l.length:=by rw[h.len]; simp
 apply auD;intro i;by_cases av:i<g.ids.l.length
 ·have h1:=amC h i;obtain⟨b,ag,_⟩:=bx (l:=S) (k:=i) (by omega);rw[ag] at h1 ⊢;unfold px;rw[at0,auw av];simp only[at1,Option.some.injEq] at h1 ⊢;cases b with
  | true=>exact (decide_eq_true (h1.1 rfl)).symm
  | false=>exact (decide_eq_false fun aG=>by have:=h1.2 aG; cases this).symm
 ·rw[at6 (by omega),at6 (by rw[Nd]; omega)]
set_option maxHeartbeats 4000000 in
theorem Ng (g:bi) (ar:ft g) (V:kU g) (L:ez) (e6:fU L) (mK:L.l.length<=1000000) (dQ:∀ p∈L.l,p∈g.ids.l) :bw Tryz.prog GS 133 [cS g,aR L] (cI 1 ig (some (px g L.l))) :=by
 refine bK Tryz.checked.mixed bB ?_;apply bm Tryz.func133 [];have az:cK=140737488355328:=rfl;have gx:=ar.li;have afr:cz (.au 32) (aR L)=some (.int .i64 L.l.length) :=by simp[aR]
 have afq:cz (.au 32) (aR g.ids)=some (.int .i64 g.ids.l.length) :=by simp[aR]
 have et:=mu V.dO;simp[cS,ds];refine WU g ar et ?_;intro fL l1 md wn kz pd;obtain⟨dJ,rfl⟩:∃ r,l1=a2.cells 2 [aR g.ids,bZ g.ops] ::r:=DX ((kz 0 (by simp)).trans rfl);obtain⟨aX,_⟩:=DN (z:=1) (by_:=1) (n:=g.ids.l.length) (k:=.i64) (k':=.i64) (zero:=[U.bool false]) (l:=(a2.cells 2 [aR g.ids,bZ g.ops] ::dJ)++[a2.cells 1 [.mp fL]]) rfl (by omega) (by rw[az]; omega);simp only[avo,Nk (α:=Nat),au5] at aX;simp[afq,afr,aX];obtain⟨fj,TH⟩:∃ fj,fj=dJ.length+1:=⟨_,rfl⟩
 have q1:dJ.length+1+1=fj+1:=by omega
 have ff:dJ.length+2+1=fj+2:=by omega
 have iJ:dJ.length+3+1=fj+3:=by omega
 rw[q1,show fj+1+1=fj+2 from rfl,iJ,<-TH];have Uk:=md.lt;simp at Uk wn;refine cF L.l.length (fun q ae l'=>ae 6=.ptr (fj+2) 0 1/\ae 7=.ptr (fj+3) 0 1/\ae 17=aR L/\ae 18=.int .i64 L.l.length/\ae 19=.int .i64 q/\∃ hX,pR g.ids.l g.ops.l (L.l.take q) (List.replicate g.ids.l.length false) hX/\oN g fj (fj+2) 0 (fj+3) (fj+1) fL hX l') ?_ ?_
 ·rintro q ae l' aZ ⟨cd,dC,od,sB,sC,hX,x5,x2⟩;obtain⟨ae,rfl⟩:=lk cd dC od sB sC;clear cd dC od sB sC;by_cases lG:q<L.l.length
  ·obtain⟨bS,gc,Dd⟩:=bx lG;obtain⟨j,ai⟩:=atZ.1 (dQ bS Dd);have aQ:IntKind.i64.wrap ((q:Int)+1)=((q+1:Nat) :Int) :=by rw[IntKind.wrap_i64]; omega
   have h4:cg (.au 32) (aR L) (.int .i64 (q:Int))=some (.b3 (aS bS) 0) :=by simp[aR,gc]
   have uH:=cM (e6 bS Dd);have x4:=x2.more [.cells 32 (aS bS)];have w1:eM (l'++[a2.cells 32 (aS bS)]) (.ptr (fj+3) 0 1)=some ([.fn 179 [] [.ptr fj 0 1,.ptr (fj+2) 0 1,.ptr 0 0 2,.ptr (fj+3) 0 1]],0) :=by simp only[eM,x4.v]; simp
   have jL:=amx g ar V fj (fj+2) 0 (fj+3) (fj+1) fL (hX.count false) hX (l'++[a2.cells 32 (aS bS)]) bS j;obtain⟨tQ,Kv⟩:∃ tQ,tQ=aS bS:=⟨_,rfl⟩
   rw[<-Kv] at h4 uH x4 w1 jL;have nJ:bu (rep 32 (.int .u8 0)) 0 tQ=tQ:=fi (by rw[uH]; rfl);simp[lG,h4,uH,nJ,atT,w1];refine⟨SI,jL _ (atW _) x4 ai ?_⟩;intro fe IF b1 w2 ei n0 qS;simp[lG,aQ];exact⟨IF,by rw[aud,gc]; exact Y8 x5 b1,w2⟩
  ·have qt:q=L.l.length:=by omega
   rw[qt,aun] at x5;have j9:=aj4 x5;have y5:eM l' (.ptr (fj+2) 0 1)=some ([.au 1 (fj+1) 0 g.ids.l.length g.ids.l.length g.ids.l.length],0) :=by simp only[eM,x2.s]; simp
   simp[lG,y5];rw[<-j9];have fc:(hX.map ig).flatten=hX.map U.bool:=by
    have:∀ t:List Bool,(t.map ig).flatten=t.map U.bool:=fun t=>by induction t with | nil=>rfl | cons b t aI=>simp[ig,aI]
    exact this hX
   have hF:bG 1 l' (.au 1 (fj+1) 0 g.ids.l.length g.ids.l.length (g.ids.l.length*1)) (fj+1) (hX.map ig) :=ai6 (fun _ _=>rfl) x2.n (by rw[avo,fc]; exact x2.r);rw[avo] at hF;exact hF.q.oA (fun _=>rfl) (some hX) rfl rfl
 ·simp;refine⟨List.replicate g.ids.l.length false,Y7 _ _ _,?_⟩;subst TH;refine⟨by simp,by simp,by simp,by simp,md.frame (by rw[<-au5]; exact atV (by simpa using Uk)),by simp,by simp,by omega⟩
noncomputable def iO (g:bi) (i:Nat) :List (List B) :=jT g.ids.l (px g (c4 g.ops.l i)) g.ids.l.length
set_option maxHeartbeats 2000000 in
theorem OZ (g:bi) (ar:ft g) (V:kU g) (aE:eK g=0) (x:List B) (i:Nat) (av:g.ids.l[i]? = some x) :bw Tryz.prog GS 84 [cS g,.aJ (aS x)] (.bE [aR (ew (iO g i)),.int .i64 0]) :=by
 refine bK Tryz.checked.mixed bB ?_;apply bm Tryz.func84 [[[0],[1],[2],[3],[4],[5],[6],[7],[8,0]]];have cC:=at3 av;have af:=ar.ids x cC;have dx:=e5 g.ids;have cD:=lu g.ops;have ik:=aic g ar x af;have pd:He g x=i:=by unfold He; rw[if_pos aE,if_pos cC,xI V.dO av]
 have dR:Hd g x=0:=by unfold Hd; rw[if_pos aE,if_pos cC]
 rw[pd,dR] at ik;have gj:=fE x;have bf:=cM af;have c7:=(atU.1 av).1;obtain⟨o,ap,dD⟩:=bx (l:=g.ops.l) (k:=i) (by rw[<-V.len]; exact c7);have bW:cg (.au 11) (bZ g.ops) (.int .i64 (i:Int))=some (.b3 (bd o) 0) :=by simp[bZ,ap]
 have hh:(bd o)[1]? = some (aR o.bp) :=rfl;have De:=Ng g ar V o.bp (ar.ops o dD).ids (ar.ops o dD).len (V.HC o dD);have ws:=aiq g ar (some (px g o.bp.l)) (by simp[Nd]);have sK:iO g i=jT g.ids.l (px g o.bp.l) (px g o.bp.l).length:=by unfold iO; rw[m1 ap,Nd]
 have mN:(cI 1 ig (some (px g o.bp.l))).closed=true:=vK (fun _=>rfl) _;have jN:=e5 o.bp;obtain⟨X,cQ⟩:∃ X,X=aS x:=⟨_,rfl⟩
 obtain⟨O,dX⟩:∃ O,O=bd o:=⟨_,rfl⟩
 obtain⟨M,ny⟩:∃ M,M=cI 1 ig (some (px g o.bp.l)) :=⟨_,rfl⟩
 rw[<-cQ] at ik gj bf ⊢;rw[<-dX] at bW hh;rw[<-ny] at De ws mN;rw[c6.yN,<-sK] at ws;unfold cS ds at ik De ws;simp[cS,ds,bf,atT];refine a1 ik (by simp[bg,U.closed,dx,cD,gj]) ?_;simp[bW,hh];refine a1 De (by simp[bg,U.closed,dx,cD,jN]) ?_;simp;refine a1 ws (by simp[bg,U.closed,dx,cD,mN]) ?_;simp;exact aK rfl (by simp[U.closed,bg,e5])
theorem ahu {l:List (List B)} (ai:iL l) {i:Nat} {x:List B} (av:l[i]? = some x) :i3 x l 0=(i:Int) :=by
 have:=AP (n:=0) av (fun t z aH aw lO=>by subst lO; have:=ai t i z aw av; omega) rfl;simpa using this
theorem ajM (g:bi) (ar:ft g) (ai:iL g.ids.l) {i:Nat} {x:List B} {o:bq} (av:g.ids.l[i]? = some x) (ap:g.ops.l[i]? = some o) :bw Tryz.prog GS 35 [cS g,.aJ (aS x)] (.aJ (bd o)) :=by
 refine bK Tryz.checked.mixed bB ?_;apply bm Tryz.func35 [];have af:=ar.ids x (at3 av);have dx:=e5 g.ids;have gj:=fE x;have bf:=cM af;have fI:=Xn g.ids ar.ids ar.li x af;rw[ahu ai av] at fI;have c7:=(atU.1 ap).1;have eC:cz (.au 11) (bZ g.ops)=some (.int .i64 g.ops.l.length) :=by simp[bZ]
 have bW:cg (.au 11) (bZ g.ops) (.int .i64 (i:Int))=some (.b3 (bd o) 0) :=by simp[bZ,ap]
 have cl:(bd o).length=11:=rfl;have cD:=l6 o;have h1:¬ (i:Int)<0:=by omega
 have ad:¬ (g.ops.l.length:Int)<=(i:Int) :=by omega
 obtain⟨X,cQ⟩:∃ X,X=aS x:=⟨_,rfl⟩
 obtain⟨O,dX⟩:∃ O,O=bd o:=⟨_,rfl⟩
 rw[<-cQ] at fI gj bf ⊢;rw[<-dX] at bW cl cD ⊢;have il:bu [U.int .u32 0,.aW,.int .u64 0,.int .u8 0,.str [],.int .u8 0,.int .i64 0,.int .u64 0,.str [],.int .u32 0,.int .u32 0] 0 O=O:=fi (by rw[cl]; rfl);simp[cS,ds,bf,atT];refine a1 fI (by simp[bg,U.closed,dx,gj]) ?_;simp[h1,ad,c7,eC,bW,cl,il,atT];exact aK rfl (by simp[U.closed,cD])
structure BN (ids:List (List B)) (ops:List bq) (i:Nat) (x:List B) (out next:List (List B)) :Prop where
 h8:out.Nodup
 m5:∀ p∈out,∃ j,ids[j]? = some p/\jc ids ops (c4 ops i) j
 rU:∀ q∈next,q=x\/q∈out
 sq:∀ q,(q=x\/q∈out)->q∉next->∀ (j:Nat),ids[j]? = some q->∀ p∈c4 ops j,p∈out
theorem am4 {ids:List (List B)} {ops:List bq} {i:Nat} {x:List B}:BN ids ops i x [] [x] :=
 ⟨aw9,fun p ay=>by simp at ay,fun q aZ=>by simp at aZ; exact .inl aZ,fun q aZ aC=>by
  rcases aZ with rfl | aZ
  ·exact absurd (by simp) aC
  ·cases aZ⟩
theorem am2 {ids:List (List B)} {ops:List bq} {i:Nat} {x:List B} {out:List (List B)} (av:ids[i]? = some x) (h:BN ids ops i x out []) (j:Nat) (p:List B) (ai:ids[j]? = some p) (et:iL ids) :p∈out<->jc ids ops (c4 ops i) j:=by
 constructor
 ·intro ay;obtain⟨bM,eB,az⟩:=h.m5 p ay;rw[et j bM p ai eB];exact az
 ·intro az;have:∀ {t:Nat},jc ids ops (c4 ops i) t->∀ q,ids[t]? = some q->q∈out:=by
   intro t aH
   induction aH with
   | start p j ay ai=>
    intro q aZ;rw[ai] at aZ;obtain rfl:=Option.some.inj aZ;exact h.sq x (.inl rfl) (by simp) i av p ay
   | step jx p j az ay ai aI=>
    intro q aZ;rw[ai] at aZ;obtain rfl:=Option.some.inj aZ;have c7:∃ y,ids[jx]? = some y:=by
     cases az with
     | start bS _ gc eB=>exact⟨bS,eB⟩
     | step LV bS _ kB gc eB=>exact⟨bS,eB⟩
    obtain⟨y,aA⟩:=c7;exact h.sq y (.inr (aI y aA)) (by simp) jx aA p ay
  exact this az p ai
structure vv (ids:List (List B)) (ops:List bq) (i:Nat) (x:List B) (q:List B) (j k:Nat) (out next:List (List B)) :Prop where
 h8:out.Nodup
 m5:∀ p∈out,∃ t,ids[t]? = some p/\jc ids ops (c4 ops i) t
 M7:q=x\/q∈out
 rU:∀ r∈next,r=x\/r∈out
 sq:∀ r,(r=x\/r∈out)->r∉next->r≠q->∀ (t:Nat),ids[t]? = some r->∀ p∈c4 ops t,p∈out
 M4:∀ p∈(c4 ops j).take k,p∈out
theorem am9 {ids:List (List B)} {ops:List bq} {i:Nat} {x q:List B} {j:Nat} {out next:List (List B)} (h:BN ids ops i x out (q::next)) :vv ids ops i x q j 0 out next:=
 ⟨h.h8,h.m5,h.rU q (by simp),fun r az=>h.rU r (by simp[az]),fun r az aC bz=>h.sq r az (by simp[aC,bz]),fun p ay=>by simp at ay⟩
theorem am7 {ids:List (List B)} {ops:List bq} (et:iL ids) {i:Nat} {x q:List B} {j:Nat} {out next:List (List B)} (aZ:ids[j]? = some q) (h:vv ids ops i x q j (c4 ops j).length out next) :BN ids ops i x out next:=by
 refine⟨h.h8,h.m5,h.rU,fun r az aC t aH p ay=>?_⟩;by_cases U3:r=q
 ·subst U3;rw[et t j r aH aZ] at ay;exact h.M4 p (by rw[aun]; exact ay)
 ·exact h.sq r az aC U3 t aH p ay
theorem am8 {ids:List (List B)} {ops:List bq} {i:Nat} {x q:List B} {j k:Nat} {out next:List (List B)} {p:List B} (h:vv ids ops i x q j k out next) (ay:(c4 ops j)[k]? = some p) (ap:p∈out) :vv ids ops i x q j (k+1) out next:=by
 refine⟨h.h8,h.m5,h.M7,h.rU,h.sq,fun r az=>?_⟩;rw[aud,ay,aup] at az;rcases az with az | az
 ·exact h.M4 r az
 ·simp at az; subst az; exact ap
theorem Ze {ids:List (List B)} {ops:List bq} (et:iL ids) {i:Nat} {x q:List B} {j k:Nat} {out next:List (List B)} {p:List B} {t:Nat} (h:vv ids ops i x q j k out next) (av:ids[i]? = some x) (aZ:ids[j]? = some q) (ay:(c4 ops j)[k]? = some p) (aH:ids[t]? = some p) (ap:p∉out) :
  vv ids ops i x q j (k+1) (out++[p]) (next++[p]) :=by
 have pf:=at3 ay;refine⟨?_,fun r az=>?_,h.M7.imp_right fun aG=>by simp[aG],fun r az=>?_,fun r az aC bz u aL bS gc=>?_,fun r az=>?_⟩
 ·rw[au1];refine⟨h.h8,by simp,fun a ax b ag e=>?_⟩;rw[aui] at ag;subst e;rw[ag] at ax;exact ap ax
 ·rw[aup,aui] at az;rcases az with az | rfl
  ·exact h.m5 r az
  ·refine⟨t,aH,?_⟩;rcases h.M7 with agl | agk
   ·subst agl;rw[et j i q aZ av] at pf;exact .start r t pf aH
   ·obtain⟨bM,eB,kB⟩:=h.m5 q agk;rw[et bM j q eB aZ] at kB;exact .step j r t kB pf aH
 ·rw[aup,aui] at az;rcases az with az | rfl
  ·exact (h.rU r az).imp_right fun aG=>by simp[aG]
  ·exact .inr (by simp)
 ·have Di:r≠p:=fun e=>aC (by simp[e])
  have kB:r=x\/r∈out:=az.imp_right fun aG=>by
   rw[aup,aui] at aG;exact aG.resolve_right Di
  have:=h.sq r kB (fun aG=>aC (by simp[aG])) bz u aL bS gc;simp[this]
 ·rw[aud,ay,aup] at az;rcases az with az | az
  ·have:=h.M4 r az; simp[this]
  ·simp at az; simp[az]
theorem zc:∀ {a b:List (List B)},a.Nodup->(∀ x∈a,x∈b)->a.length<=b.length
 | [],_,_,_=>au7 _
 | x::a,b,aC,ak=>by
  rw[awb] at aC;have af:=ak x (by simp);have aI:=zc (b:=b.erase x) aC.2 (fun y aA=>(List.mem_erase_of_ne (fun e=>aC.1 (by rw[<-e]; exact aA))).2 (ak y (by simp[aA])));rw[awX af] at aI;have:=List.length_pos_of_mem af;simp; omega
structure oI (pre:ao) (v5 dK:U) (out next:List (List B)) (b:Nat) (rest:ao) :Prop where
 ex:∃ gR hp,en 32 (pre++rest) v5 gR (out.map aS)/\en 32 (pre++rest) dK hp (next.map aS)/\(v5=.aW\/(pre.length<=gR/\gR≠hp/\gR≠b))/\pre.length<=hp/\hp≠b/\cx v5=out.isEmpty/\cx dK=false
theorem oI.ajq {pre:ao} {v5 dK:U} {out next:List (List B)} {b:Nat} {rest:ao} (h:oI pre v5 dK out next b rest) (ag:b<(pre++rest).length) {p:List B} (ay:p.length=32) (dN:(out.length+1)*32<=cK) :
  ∃ aY ct,iP (pre++(rest++[.cells 32 (aS p)])) 32 32 v5 (.au 32 (pre.length+rest.length) 0 1 1 32)=some (aY,pre++ct)/\oI pre aY dK (out++[p]) next b ct/\(pre++ct)[b]? = (pre++rest)[b]?/\b<(pre++ct).length:=by
 obtain⟨gR,hp,i5,pp,aU,bt,xW,lS,n6⟩:=h;have gy:=cM ay;have hm:pre++(rest++[a2.cells 32 (aS p)])=(pre++rest)++[a2.cells 32 (aS p)] :=by rw[aut]
 have MF:en 32 (pre++(rest++[a2.cells 32 (aS p)])) v5 gR (out.map aS) :=by rw[hm]; exact i5.more _
 have MG:en 32 (pre++(rest++[a2.cells 32 (aS p)])) dK hp (next.map aS) :=by rw[hm]; exact pp.more _
 obtain⟨aY,bM,ct,aM,aT,a7,bD,bh,cd⟩:=O3 (by_:=32) MF (aU.imp_right fun h=>h.1) (x:=.au 32 (pre.length+rest.length) 0 1 1 32) (xs:=[aS p]) (by
  have:(pre++(rest++[a2.cells 32 (aS p)]))[pre.length+rest.length]? = some (.cells 32 (aS p)) :=by
   rw[hm,at8 (by simp)]; simp
  simp only[dM,this];simp[gy,atT]) (by simp[gy]) (by omega) (by omega) (by simpa using dN)
 have gl:cx aY=false:=by rw[bD]; simp
 have bz:aY≠.aW:=fun e=>by rw[e] at gl; cases gl
 have pd:(pre++(rest++[a2.cells 32 (aS p)])).length=(pre++rest).length+1:=by simp; omega
 have ap3:hp<(pre++rest).length:=by
  rcases pp.lt with e | e
  ·rw[e] at n6; cases n6
  ·exact e
 have f6:v5=.aW\/hp≠gR:=aU.imp_right fun h=>Ne.symm h.2.1
 have acA:v5=.aW\/b≠gR:=aU.imp_right fun h=>Ne.symm h.2.2
 have Ba:=bh hp (by omega) f6;have D9:=bh b (by omega) acA;have ap:(pre++(rest++[a2.cells 32 (aS p)]))[b]? = (pre++rest)[b]?:=by rw[hm,atV ag]
 refine⟨aY,ct,aM,⟨⟨bM,hp,by rw[auq]; exact aT,MG.oV (.inr Ba),.inr ⟨a7.resolve_left bz,?_,?_⟩,bt,xW,by rw[gl]; simp,n6⟩⟩,D9.trans ap,?_⟩
 ·rcases cd.resolve_left bz with ⟨aQ,bF⟩ | e
  ·rw[bF]; exact (aU.resolve_left aQ).2.1
  ·omega
 ·rcases cd.resolve_left bz with ⟨aQ,bF⟩ | e
  ·rw[bF]; exact (aU.resolve_left aQ).2.2
  ·omega
 ·have:=D9.trans ap;have eG:(pre++rest)[b]?≠none:=by rw[atX ag]; simp
  rw[<-this] at eG;exact Nat.lt_of_not_le fun h=>eG (at6 h)
theorem oI.ajr {pre:ao} {v5 dK:U} {out next:List (List B)} {b:Nat} {rest:ao} (h:oI pre v5 dK out next b rest) (ag:b<(pre++rest).length) {p:List B} (ay:p.length=32) (dN:(next.length+1)*32<=cK) :
  ∃ aY ct,iP (pre++(rest++[.cells 32 (aS p)])) 32 32 dK (.au 32 (pre.length+rest.length) 0 1 1 32)=some (aY,pre++ct)/\oI pre v5 aY out (next++[p]) b ct/\(pre++ct)[b]? = (pre++rest)[b]?/\b<(pre++ct).length:=by
 obtain⟨gR,hp,i5,pp,aU,bt,xW,lS,n6⟩:=h;have gy:=cM ay;have hm:pre++(rest++[a2.cells 32 (aS p)])=(pre++rest)++[a2.cells 32 (aS p)] :=by rw[aut]
 have MF:en 32 (pre++(rest++[a2.cells 32 (aS p)])) v5 gR (out.map aS) :=by rw[hm]; exact i5.more _
 have MG:en 32 (pre++(rest++[a2.cells 32 (aS p)])) dK hp (next.map aS) :=by rw[hm]; exact pp.more _
 obtain⟨aY,bM,ct,aM,aT,a7,bD,bh,cd⟩:=O3 (by_:=32) MG (.inr bt) (x:=.au 32 (pre.length+rest.length) 0 1 1 32) (xs:=[aS p]) (by
  have:(pre++(rest++[a2.cells 32 (aS p)]))[pre.length+rest.length]? = some (.cells 32 (aS p)) :=by
   rw[hm,at8 (by simp)]; simp
  simp only[dM,this];simp[gy,atT]) (by simp[gy]) (by omega) (by omega) (by simpa using dN)
 have gl:cx aY=false:=by rw[bD]; simp
 have bz:aY≠.aW:=fun e=>by rw[e] at gl; cases gl
 have pd:(pre++(rest++[a2.cells 32 (aS p)])).length=(pre++rest).length+1:=by simp; omega
 have D9:=bh b (by omega) (.inr (Ne.symm xW));have ap:(pre++(rest++[a2.cells 32 (aS p)]))[b]? = (pre++rest)[b]?:=by rw[hm,atV ag]
 have Uj:bM=hp\/(pre++rest).length+1<=bM:=(cd.resolve_left bz).imp (fun h=>h.2) (fun h=>by omega);refine⟨aY,ct,aM,⟨⟨gR,bM,?_,by rw[auq]; exact aT,?_,a7.resolve_left bz,?_,lS,gl⟩⟩,D9.trans ap,?_⟩
 ·rcases aU with e | ⟨aQ,bF,dn⟩
  ·subst e;rw[i5.tc]; exact .nil _
  ·refine MF.oV ?_;rcases i5.lt with e | e
   ·exact .inl e
   ·exact .inr (bh gR (by omega) (.inr bF))
 ·rcases aU with e | ⟨aQ,bF,dn⟩
  ·exact .inl e
  ·rcases i5.lt with e | e
   ·exact .inl e
   ·refine .inr ⟨aQ,?_,dn⟩;rcases Uj with h | h<;>omega
 ·rcases Uj with h | h<;>omega
 ·have:=D9.trans ap;have eG:(pre++rest)[b]?≠none:=by rw[atX ag]; simp
  rw[<-this] at eG;exact Nat.lt_of_not_le fun h=>eG (at6 h)
theorem oI.am6 {pre:ao} {v5 dK:U} {out next:List (List B)} {b:Nat} {rest:ao} (h:oI pre v5 dK out next b rest) (ay:1<=pre.length) :oI pre v5 dK out next 0 rest:=by
 obtain⟨gR,hp,i5,pp,aU,bt,xW,lS,n6⟩:=h;exact⟨⟨gR,hp,i5,pp,aU.imp_right fun h=>⟨h.1,h.2.1,by omega⟩,bt,by omega,lS,n6⟩⟩
theorem Zc {ids:List (List B)} {ops:List bq} {i:Nat} {x q:List B} {j k:Nat} {out next:List (List B)} (h:vv ids ops i x q j k out next) :out.length<=ids.length:=zc h.h8 fun p ay=>by
 obtain⟨t,aH,_⟩:=h.m5 p ay;exact at3 aH
structure Zn (g:bi) (pre:ao) (o:bq) (b m i:Nat) (x q:List B) (j:Nat) (k:Nat) (ae:a8) (l:ao) :Prop where
 aT:ae 2=.ptr 0 0 2
 dC:ae 7=.ptr b 0 11
 dw:ae 8=.int .i64 k
 ex:∃ out next rest,l=pre++rest/\oI pre (ae 5) (ae 6) out next b rest/\(pre++rest)[b]? = some (.cells 11 (bd o))/\vv g.ids.l g.ops.l i x q j k out next/\2*(g.ids.l.length - out.length)+next.length+1<=m
structure Zo (g:bi) (pre:ao) (i:Nat) (x:List B) (m:Nat) (ae:a8) (l:ao) :Prop where
 aT:ae 2=.ptr 0 0 2
 ex:∃ out next rest,l=pre++rest/\oI pre (ae 5) (ae 6) out next 0 rest/\BN g.ids.l g.ops.l i x out next/\m=2*(g.ids.l.length - out.length)+next.length
 le:m<=1000
set_option maxHeartbeats 8000000 in
theorem Z3 (g:bi) (ar:ft g) (V:kU g) {i:Nat} {x:List B} (av:g.ids.l[i]? = some x) :
  cY Tryz.prog GS 101 [cS g,.aJ (aS x)] [] (c:=⟨fun r l=>∃ out,(∀ (j:Nat) (p:List B),g.ids.l[j]? = some p->(p∈out<->jc g.ids.l g.ops.l (c4 g.ops.l i) j))/\(∀ p∈out,p∈g.ids.l)/\out.length<=g.ids.l.length/\Rd l r (aR (ew out))⟩) :=by
 apply bm Tryz.func101 [[[0],[1],[2],[3],[5],[4,5]]];have az:cK=140737488355328:=rfl;have gx:=ar.li;have et:=mu V.dO;have af:=ar.ids x (at3 av);have bf:=cM af;have dx:=e5 g.ids;have cD:=lu g.ops;have yr:=V.n60;have bl:=V.len;obtain⟨pre,GD⟩:∃ pre,pre=[a2.cells 2 [aR g.ids,bZ g.ops],a2.cells 32 (aS x)] :=⟨_,rfl⟩
 have sS:pre.length=2:=by rw[GD]; rfl
 have lI:∀ rest,eM (pre++rest) (.ptr 0 0 2)=some ([aR g.ids,bZ g.ops],0) :=fun rest=>by rw[GD]; simp
 have xX:oI pre .aW (.au 32 2 0 1 1 32) [] [x] 0 [.cells 32 (aS x)] :=by
  refine⟨⟨0,2,.nil 0,?_,.inl rfl,by omega,by omega,rfl,rfl⟩⟩;refine bG.q (.au 2 1 1 32 (aS x) _ (by rw[GD]; rfl) bf rfl (fun e am=>by simp at am; rw[am]; exact bf) (atW _) (by omega) ?_);rw[atT (by rw[bf]; omega)]; simp
 have AA:bu (rep 32 (.int .u8 0)) 0 (aS x)=aS x:=fi (by rw[bf]; rfl);simp[cS,ds,bf,AA,atT];refine uS (Zo g pre i x) ?_ (2*g.ids.l.length+1) _ _ ?_
 ·rintro m ae l ⟨aT,⟨out,next,rest,rfl,cL,dG,hm⟩,gb⟩;obtain⟨v5,bh⟩:∃ v,ae 5=v:=⟨_,rfl⟩
  obtain⟨dK,cd⟩:∃ v,ae 6=v:=⟨_,rfl⟩
  rw[bh,cd] at cL;obtain⟨ae,rfl⟩:=kQ aT bh cd;clear aT bh cd;obtain⟨gR,hp,i5,pp,aU,bt,xW,lS,n6⟩:=id cL.ex;have Us:cz (.au 32) dK=some (.int .i64 next.length) :=by have:=pp.len; simpa using this
  cases next with
  | nil=>
   simp[Us];refine⟨out,fun j p ai=>am2 av dG j p ai et,fun p ay=>?_,?_,?_⟩
   ·obtain⟨t,aH,_⟩:=dG.m5 p ay;exact at3 aH
   ·exact zc dG.h8 fun p ay=>by
     obtain⟨t,aH,_⟩:=dG.m5 p ay;exact at3 aH
   ·exact i5.oA (fun x=>fE x) (ew out) (by rw[lS,vc]) (fq _)
  | cons q rU=>
   have UW:q∈g.ids.l:=by
    rcases dG.rU q (by simp) with e | e
    ·rw[e]; exact at3 av
    ·obtain⟨t,aH,_⟩:=dG.m5 q e; exact at3 aH
   obtain⟨j,ai⟩:=atZ.1 UW;have eX:=(atU.1 ai).1;obtain⟨o,ap,dD⟩:=bx (l:=g.ops.l) (k:=j) (by rw[<-V.len]; exact eX);have age:=ar.ids q UW;have lG:=cM age;have gO:=ajM g ar et ai ap;have cl:(bd o).length=11:=rfl;have hh:(bd o)[1]? = some (aR o.bp) :=rfl;have k4:=ar.ops o dD;have aqm:=k4.len;have nG:cz (.au 32) (aR o.bp)=some (.int .i64 o.bp.l.length) :=by simp[aR]
   have pg:c4 g.ops.l j=o.bp.l:=m1 ap;obtain⟨MT,xF,By,aX,a6,a3,a4⟩:=pp.get (k:=.i64) (i:=0) (e:=aS q) (by simp);obtain⟨r5,dW,dB,gg⟩:=pp.from n6 (k:=.i64) (i:=1) (by simp);have q2:cg (.au 32) dK (.int .i64 0)=some MT:=aX;have aas:gq (.au 32) dK (some (.int .i64 1)) none none=some r5:=dW;obtain⟨O,dX⟩:∃ O,O=bd o:=⟨_,rfl⟩
   obtain⟨Q,adV⟩:∃ Q,Q=aS q:=⟨_,rfl⟩
   have Gd:=fE q;rw[<-dX] at gO cl hh;rw[<-adV] at a4 gO Gd lG;unfold cS ds at gO;obtain⟨b,ag⟩:∃ b,b=pre.length+rest.length:=⟨_,rfl⟩
   have fb:(pre++rest).length=b:=by rw[ag]; simp
   obtain⟨Z,sJ⟩:∃ Z,Z=[U.int .u32 0,.aW,.int .u64 0,.int .u8 0,.str [],.int .u8 0,.int .i64 0,.int .u64 0,.str [],.int .u32 0,.int .u32 0] :=⟨_,rfl⟩
   have ri:Z.length=11:=by rw[sJ]; rfl
   have il:bu Z 0 O=O:=fi (by rw[cl,ri]);have eR:∀ y,(pre++(rest++[y]))[b]? = some y:=fun y=>by rw[ag,<-aut,at8 (by simp)]; simp
   have p9:∀ y z:a2,(pre++(rest++[y])).set b z=pre++(rest++[z]) :=fun y z=>by rw[ag,<-aut,auA _ _ (by simp)]; simp
   have ch:km 11 (pre++(rest++[a2.cells 11 Z])) (.ptr b 0 11) (.aJ O)=some (pre++(rest++[a2.cells 11 O])) :=by
    simp only[Yo,eR,RG,avy,alE];rw[if_pos (by simp[cl]),p9,il]
   simp[Us,lI,q2,a6,a3,a4,lG,atT,<-sJ,<-ag,ri];refine a1 gO (by simp[bg,U.closed,dx,cD,Gd]) ?_;have rB:=ch;simp only[Yo,RG,avy] at rB;have K0:hp<b:=by
    rcases pp.lt with e | e
    ·rw[e] at n6; cases n6
    ·rw[fb] at e; exact e
   have Tj:oI pre v5 r5 out rU b (rest++[a2.cells 11 O]) :=by
    refine⟨⟨gR,hp,?_,?_,?_,bt,by omega,lS,gg⟩⟩
    ·rw[<-aut]; exact i5.more _
    ·rw[<-aut];have:en 32 (pre++rest) r5 hp (rU.map aS) :=by simpa using dB
     exact this.more _
    ·rcases aU with e | ⟨aQ,bF,dn⟩
     ·exact .inl e
     ·rcases i5.lt with e | e
      ·exact .inl e
      ·exact .inr ⟨aQ,bF,by rw[fb] at e; omega⟩
   simp[fb,eR,rB,aas,ri,<-ag,p9,il,cl];refine cF o.bp.l.length (Zn g pre o b m i x q j) ?_ ⟨by simp,by simp,by simp,out,rU,_,rfl,by simpa using Tj,by rw[<-dX]; exact eR _,am9 dG,by simp at hm; omega⟩;clear cL dG hm i5 pp aU bt xW lS n6 Tj;rintro k ae l hk ⟨aT,dC,dw,out,next,rest,rfl,cL,p8,wg,aga⟩;obtain⟨v5,bh⟩:∃ v,ae 5=v:=⟨_,rfl⟩
   obtain⟨dK,cd⟩:∃ v,ae 6=v:=⟨_,rfl⟩
   rw[bh,cd] at cL;obtain⟨ae,rfl⟩:=lk aT bh cd dC dw;clear aT bh cd dC dw;rw[<-dX] at p8;have apP:=p8;by_cases cZ:k<o.bp.l.length
   ·obtain⟨p,ay,pf⟩:=bx cZ;have wx:=V.HC o dD p pf;obtain⟨t,aH⟩:=atZ.1 wx;have yx:=ar.ids p wx;have gy:=cM yx;have aQ:IntKind.i64.wrap ((k:Int)+1)=((k+1:Nat) :Int) :=by rw[IntKind.wrap_i64]; omega
    have h4:cg (.au 32) (aR o.bp) (.int .i64 (k:Int))=some (.b3 (aS p) 0) :=by simp[aR,ay]
    obtain⟨gR,hp,i5,pp,aU,bt,xW,lS,n6⟩:=id cL.ex;have k6:=i5.m6 (enc:=aS) (xs:=out) (fun x=>fE x) (ew out) (by rw[lS,vc]) (fq _);have aqg:=Zc wg;have df:fU (ew out) :=fun y aA=>by
     rw[fq] at aA;obtain⟨u,aL,_⟩:=wg.m5 y aA;exact ar.ids y (at3 aL)
    have dQ:=Xq (ew out) df (by rw[fq]; omega) p yx;rw[fq] at dQ;have jN:=fE p;have Dc:(c4 g.ops.l j)[k]? = some p:=by rw[pg]; exact ay
    obtain⟨Y,ef⟩:∃ Y,Y=aS p:=⟨_,rfl⟩
    rw[<-ef] at dQ h4 gy jN;have pl:bu (rep 32 (.int .u8 0)) 0 Y=Y:=fi (by rw[gy]; rfl);simp[nG,p8,hh,cZ,h4,gy,atT];refine ia dQ (.cons k6 (.cons (.same _ (by simp[U.closed,jN])) .nil)) rfl ?_;by_cases k4:p∈out
    ·simp[k4,aQ];exact⟨cZ,by simp,by simp,by simp,out,next,rest,rfl,by simpa using cL,by rw[<-dX]; exact p8,am8 wg Dc k4,aga⟩
    ·have aem:b<(pre++rest).length:=(atU.1 p8).1;have aqh:out.length+1<=g.ids.l.length:=Zc (Ze et wg av ai Dc aH k4) |> fun h=>by simpa using h
     obtain⟨atN,tm,iu,kn,qN,Ez⟩:=cL.ajq aem yx (by rw[az]; omega);obtain⟨r5,tn,b1,w2,ei,n0⟩:=kn.ajr Ez yx (by rw[az]; omega);have TL:(pre++tm)[b]? = some (.cells 11 O) :=by rw[qN]; exact p8
     have aeo:(pre++tn)[b]? = some (.cells 11 O) :=by rw[ei]; exact TL
     rw[<-ef] at iu b1;simp[k4,p8,hh,h4,gy,pl,atT,iu];refine dT.cy ?_;simp[TL,hh,h4,gy,pl,atT,b1];refine dT.cy ?_;simp[aQ];exact⟨cZ,by simp,by simp,by simp,out++[p],next++[p],tn,rfl,by simpa using w2,by rw[<-dX]; exact aeo,Ze et wg av ai Dc aH k4,by simp; omega⟩
   ·simp[nG,p8,hh,cZ];have afp:k=(c4 g.ops.l j).length:=by rw[pg]; omega
    rw[afp] at wg;exact⟨_,by omega,by simp,⟨out,next,rest,rfl,by simpa using cL.am6 (by omega),am7 et ai wg,rfl⟩,by omega⟩
 ·exact⟨by simp,⟨[],[x],[.cells 32 (aS x)],by rw[GD]; rfl,by simpa using xX,am4,by simp⟩,by omega⟩
structure bn where
 key:List UInt8
 id:List B
 deriving DecidableEq
def b0 (t:bn) :List U:=.str t.key::aS t.id
abbrev eU:=c6 bn
def dg (s:eU) :U:=cI 33 b0 s
def g7 (l:List bn) :Prop:=∀ t∈l,t.id.length=32
theorem kZ {t:bn} (h:t.id.length=32) :(b0 t).length=33:=by simp[b0,cM h]
theorem oT (t:bn) :bg (b0 t)=true:=by simp[b0,bg,U.closed,fE]
theorem ss (s:eU) :(dg s).closed=true:=vK oT s
abbrev fh (a b:List UInt8) :Bool:=Go.Op.bytesLess a b
theorem tx (a b:List UInt8) :fh a b=true<->a<b:=by unfold fh; rw[Go.Proofs.bytesLess_eq]; simp
@[simp] theorem aor (a b:List UInt8) :oR .lss a b=some (.bool (fh a b)) :=id rfl
@[simp] theorem aoq (a b:List UInt8) :oR .gtr a b=some (.bool (!(fh a b||decide (a=b)))) :=by
 by_cases h:a=b<;>simp[oR,h]
def pX (a b:List UInt8) :Int:=if fh a b then -1 else if a=b then 0 else 1
theorem Wq (a:List UInt8) :bw Tryz.prog GS 190 [.str a] (.bool false) :=by
 refine bK Tryz.checked.mixed bB ?_;apply bm Tryz.func190 [];simp;exact aK rfl rfl
theorem RQ (a b:List UInt8) :bw Tryz.prog GS 137 [.str a,.str b] (.int .i64 (pX a b)) :=by
 refine bK Tryz.checked.mixed bB ?_;apply bm Tryz.func137 [];unfold pX;simp;refine a1 (Wq a) rfl ?_;simp;refine a1 (Wq b) rfl ?_;cases h1:fh a b with
 | true=>
  simp[h1];exact aK rfl rfl
 | false=>
  by_cases ad:a=b
  ·subst ad;simp[h1];exact aK rfl rfl
  ·simp[h1,ad];exact aK rfl rfl
def wV (a b:Int) :Int:=if a=0 then b else a
theorem Xx {l:ao} {b:Nat} {x y:Int} (h:l[b]? = some (.cells 2 [.int .i64 x,.int .i64 y])) :fX (bU l) (.au 1 b 0 2 2 2) (.bR 1 [[.int .i64 x],[.int .i64 y]]) :=by
 refine Eb (rest:=[]) (es:=[[.int .i64 x],[.int .i64 y]]) (by simpa using h) rfl (by simp) (by simp[bg,U.closed])
theorem WF (x y:Int) :bw Tryz.prog GS 136 [.bR 1 [[.int .i64 x],[.int .i64 y]]] (.int .i64 (wV x y)) :=by
 refine bK Tryz.checked.mixed bB ?_;apply bm Tryz.func136 [];unfold wV;simp;obtain⟨X,cQ⟩:∃ X,X=U.bR 1 [[.int .i64 x],[.int .i64 y]] :=⟨_,rfl⟩
 rw[<-cQ];refine cF 2 (fun k ae l=>ae 3=.int .i64 0/\ae 6=X/\ae 7=.int .i64 2/\ae 8=.int .i64 k/\(1<=k->x=0)/\(2<=k->y=0)) ?_ (by simp[cQ]);rintro k ae l hk ⟨a7,cd,dC,dw,h1,ad⟩;obtain⟨ae,rfl⟩:=iw a7 cd dC dw;clear a7 cd dC dw;rcases k with _ | _ | k
 ·by_cases af:x=0
  ·simp[cQ,af]; exact rfl
  ·simp[cQ,af]; exact aK rfl rfl
 ·have af:=h1 (by omega);by_cases aA:y=0
  ·simp[cQ,af,aA]; exact rfl
  ·simp[cQ,af,aA]; exact aK rfl rfl
 ·obtain rfl:k=0:=by omega
  have af:=h1 (by omega);have aA:=ad (by omega);simp[cQ,af,aA]; exact aK rfl rfl
def jg (a b:bn) :Int:=wV (pX a.key b.key) (cq a.id b.id)
def eS (a b:bn) :Bool:=if a.key=b.key then decide (cq a.id b.id<0) else fh a.key b.key
theorem WJ {l:ao} {j:Nat} {c:U} {a:List B} (ax:a.length=32) (ai:l[j]? = some (.cells 33 (c::aS a))) :en 1 l (.au 1 j 1 32 32 33) j (a.map cc) :=by
 refine .au j 1 32 32 33 (c::aS a) _ ai (by simp[aS,ax]) (by simp[ax]) (fun e am=>?_) (atW _) (by omega) ?_
 ·obtain⟨x,_,rfl⟩:=auo.1 am; rfl
 ·simp only[awB,au3];rw[atT (by simp[aS,ax]),xN]; rfl
theorem Jp (a b:bn) (ax:a.id.length=32) (ag:b.id.length=32) :bw Tryz.prog GS 86 [.aJ (b0 a),.aJ (b0 b)] (.int .i64 (jg a b)) :=by
 refine bK Tryz.checked.mixed bB ?_;apply bm Tryz.func86 [[[0],[1],[2],[3],[5],[6],[7],[8],[4]]];unfold jg;have h1:=cM ax;have ad:=cM ag;simp[b0,h1,ad];refine a1 (RQ _ _) rfl ?_;have ah:=E0 (some a.id) (some b.id) (by simp[ax,ag]);simp;refine ia ah ?_ rfl ?_
 ·exact .cons ((WJ (j:=0) (c:=.str a.key) ax rfl).m6 (fun _=>rfl) (some a.id) rfl rfl) (.cons ((WJ (j:=1) (c:=.str b.key) ag rfl).m6 (fun _=>rfl) (some b.id) rfl rfl) .nil)
 ·simp;refine ia (WF (pX a.key b.key) (cq a.id b.id)) (.cons (Xx (by simp)) .nil) rfl ?_;simp;exact aK rfl rfl
theorem ah7 (a b:bn) (ax:a.id.length=32) (ag:b.id.length=32) :bw Tryz.prog GS 109 [.aJ (b0 a),.aJ (b0 b)] (.bool (eS a b)) :=by
 refine bK Tryz.checked.mixed bB ?_;apply bm Tryz.func109 [];unfold eS;have h1:=cM ax;have ad:=cM ag;have ah:=XC a.id b.id ax ag;by_cases hk:a.key=b.key
 ·simp[b0,h1,ad,hk,atT];refine a1 ah (by have:=fE a.id; have:=fE b.id; simp_all [bg,U.closed,fz,aS]) ?_;simp;exact aK (by rw[if_pos hk]) rfl
 ·simp[b0,h1,ad,hk];exact aK rfl rfl
abbrev BG:=c6 (List UInt8)
def Fr (k:List UInt8) :List U:=[.str k]
def Fv (s:BG) :U:=cI 1 Fr s
def aeb (l:List bn) (k:List UInt8) :Bool:=decide (k∈l.map bn.key)
theorem Fk (a b:bn) :(jg a b<0)<->eS a b=true:=by
 unfold jg pX wV eS;by_cases h:a.key=b.key
 ·have av:fh b.key b.key=false:=by
   cases ag:fh b.key b.key with
   | false=>rfl
   | true=>exact absurd ((tx _ _).1 ag) (axa _)
  simp[h,av]
 ·cases ag:fh a.key b.key with
  | true=>simp[h]
  | false=>simp[h]
def pB (l:List bn) (k:Nat) :bn:=l.getD k ⟨[],[]⟩
theorem nZ {l:List bn} {k:Nat} {x:bn} (h:l[k]? = some x) :pB l k=x:=by
 unfold pB; rw[aug,h]; rfl
def p4 (l:List bn) (k:Nat) :Bool:=gA (pB l k).key&&(decide (k=0)||eS (pB l (k - 1)) (pB l k))
def mb (l:List bn) :Bool:=decide (∀ k,k<l.length->p4 l k=true)
def lh (l:List bn) :Int:=if 60<l.length then 4 else if mb l then 0 else 8
theorem J7 {l:List bn} (h:∀ k,k<l.length->p4 l k=true) :mb l=true:=decide_eq_true h
theorem FL {l:List bn} {k:Nat} (hk:k<l.length) (h:p4 l k=false) :mb l=false:=decide_eq_false fun aG=>by rw[aG k hk] at h; cases h
theorem OQ (k:List UInt8) :j1 ⟨2#8,k,oH⟩=gA k:=by
 rw[BP rfl];have:nN oH=true:=by decide
 simp[this]
theorem H7 {E:List U} (h:E.length=33) :bu (U.str [] ::rep 32 (.int .u8 0)) 0 E=E:=fi (by rw[h]; rfl)
theorem amX (s:eU) (ap:g7 s.l) (al:s.l.length<=1000000) :bw Tryz.prog GS 58 [.aJ [dg s]] (.int .i64 (lh s.l)) :=by
 refine bK Tryz.checked.mixed bB ?_;apply bm Tryz.func58 [];unfold lh;have bl:cz (.au 33) (dg s)=some (.int .i64 s.l.length) :=by simp[dg]
 by_cases h1:60<s.l.length
 ·have cN:(60:Int)<(s.l.length:Int) :=by omega
  simp[bl,cN];exact aK (by rw[if_pos h1]) rfl
 ·have cN:¬ (60:Int)<(s.l.length:Int) :=by omega
  simp[bl,cN];refine cF s.l.length (fun k ae l=>(∃ r,l=.cells 1 [dg s] ::r)/\ae 1=.ptr 0 0 1/\ae 10=dg s/\ae 11=.int .i64 s.l.length/\ae 12=.int .i64 k/\∀ j,j<k->p4 s.l j=true) ?_ (by simp);rintro k ae l hk ⟨⟨r,rfl⟩,aM,fS,h2,fx,ak⟩;obtain⟨ae,rfl⟩:=iw aM fS h2 fx;clear aM fS h2 fx;simp;refine ip (fun h=>?_) (fun h=>?_)
  ·simp only[decide_eq_true_eq] at h;obtain⟨y,aA,cm⟩:=bx (l:=s.l) (k:=k) (by omega);have b8:=kZ (ap y cm);have aQ:IntKind.i64.wrap ((k:Int)+1)=((k+1:Nat) :Int) :=by rw[IntKind.wrap_i64]; omega
   have bF:1<=k->IntKind.i64.wrap ((k:Int) - 1)=((k - 1:Nat) :Int) :=fun h=>by rw[IntKind.wrap_i64]; omega
   have ur:=Jo ⟨2#8,y.key,oH⟩;rw[OQ] at ur;have dY:p4 s.l k=(gA y.key&&(decide (k=0)||eS (pB s.l (k - 1)) y)) :=by unfold p4; rw[nZ aA]
   have js:=H7 b8;obtain⟨E,eQ⟩:∃ E,E=aS y.id:=⟨_,rfl⟩
   have xZ:b0 y=.str y.key::E:=by rw[eQ]; rfl
   have uo:E.length=32:=by rw[eQ]; exact cM (ap y cm)
   have Kk:bg E=true:=by rw[eQ]; exact fE _
   rw[xZ] at b8 js;simp[dg,aA,xZ,uo,js,atT];refine a1 ur rfl ?_;cases aU:gA y.key with
   | false=>
    rw[aU,auV] at dY;simp[gD];exact aK (by rw[if_neg h1,FL h dY]; rfl) rfl
   | true=>
    rw[aU,auQ] at dY;rcases k with _ | k
    ·simp[gD,aQ];exact⟨by omega,rfl,by rw[IntKind.wrap_i64]; omega,by rw[dY]; rfl⟩
    ·obtain⟨x,af,cC⟩:=bx (l:=s.l) (k:=k) (by omega);have bf:=kZ (ap x cC);have dn:IntKind.i64.wrap (k:Int)=(k:Int) :=by rw[IntKind.wrap_i64]; omega
     have jr:(0:Int)<(k:Int)+1:=by omega
     have gi:=Jp x y (ap x cC) (ap y cm);rw[xZ] at gi;simp only[avB,nZ af,av8,awy,and_false,decide_false,av7] at dY;simp[gD,jr,af,bf,dn,uo,atT];refine a1 gi (by simp[bg,U.closed,Kk,oT]) ?_;have qa:=Fk x y;by_cases bt:jg x y<0
     ·rw[qa.1 bt] at dY;have wa:¬ (0:Int)<=jg x y:=by omega
      simp[wa,aQ];refine⟨by omega,rfl,by rw[IntKind.wrap_i64]; omega,fun j ai=>?_⟩;by_cases fk:j=k+1
      ·rw[fk,dY]
      ·exact ak j (by omega)
     ·have wa:(0:Int)<=jg x y:=by omega
      have c8:eS x y=false:=by
       cases ed:eS x y with
       | false=>rfl
       | true=>exact absurd (qa.2 ed) bt
      rw[c8] at dY;simp[wa];exact aK (by rw[if_neg h1,FL h dY]; rfl) rfl
  ·simp[h];have hj:k=s.l.length:=by simp at h; omega
   exact aK (by rw[if_neg h1,if_pos (J7 fun j ai=>ak j (by omega))]) rfl
abbrev yK (l:List (List UInt8)) (k:Nat) :List UInt8:=l.getD k []
def abJ (l:List (List UInt8)) (m:Nat) :List (List UInt8) :=(List.range m).flatMap fun k=>if k=0\/yK l k≠yK l (k - 1) then [yK l k] else []
structure anu (l:ao) (v:U) (xs:List (List UInt8)) (k:Nat) (ae:a8) (l1:ao) :Prop where
 ca:ae 0=v
 a7:ae 3=.int .i64 ((k+1:Nat) :Int)
 al:l1=l
 ak:∀ j,1<=j->j<k+1->yK xs j≠yK xs (j - 1)
structure ant (l:ao) (v dF:U) (j:Nat) (xs:List (List UInt8)) (m i:Nat) (ae:a8) (bX:ao) :Prop where
 ca:ae 0=v
 bD:ae 4=dF
 bh:ae 5=.int .i64 ((i+1:Nat) :Int)
 ex:∃ (k:Nat) (bc:List (List UInt8)),ae 3=.int .i64 (k:Int)/\bG 1 bX v j (bc.map Fr)/\bc.length=xs.length/\(∀ y∈bc,y.length=y.length)/\bc.take k=abJ xs (m+i+1)/\k<=m+i/\(∀ t,m+i<=t->yK bc t=yK xs t)/\bX.length=l.length/\∀ b,b≠j->bX[b]? = l[b]?
theorem tt {l:ao} {a b e9 br:U} (h1:Rd l a e9) (ad:Rd l b br) :Rd l (.bE [a,b]) (.bE [e9,br]) :=by
 refine .bE _ _ rfl fun j x jX af yH=>?_
 rcases j with _ | _ | j
 ·simp at af yH; subst af yH; exact h1
 ·simp at af yH; subst af yH; exact ad
 ·simp at af
theorem w4 {l:ao} {a e9:U} (h1:Rd l a e9) :Rd l (.aJ [a]) (.aJ [e9]) :=by
 refine .aJ _ _ rfl fun j x jX af yH=>?_
 rcases j with _ | j
 ·simp at af yH; subst af yH; exact h1
 ·simp at af
structure anA (s:eU) (k:Nat) (ae:a8) (l:ao) :Prop where
 ac9:ae 14=dg s
 sA:ae 15=.int .i64 s.l.length
 p3:ae 16=.int .i64 k
 td:∃ v,ae 5=v/\cn 1 Fr [.cells 1 [dg s]] l v ((s.l.map bn.key).take k) (decide (k=0))
theorem ajX (s:eU) (ap:g7 s.l) (al:s.l.length<=1000000) :bw Tryz.prog GS 62 [.aJ [dg s]] (.int .i64 (lh s.l)) :=by
 refine bK Tryz.checked.mixed bB ?_;apply bm Tryz.func62 [];unfold lh;have bl:cz (.au 33) (dg s)=some (.int .i64 s.l.length) :=by simp[dg]
 by_cases h1:60<s.l.length
 ·have cN:(60:Int)<(s.l.length:Int) :=by omega
  simp[bl,cN];exact aK (by rw[if_pos h1]) rfl
 ·have cN:¬ (60:Int)<(s.l.length:Int) :=by omega
  simp[bl,cN];refine cF s.l.length (fun k ae l=>l=[.cells 1 [dg s]]/\ae 1=.ptr 0 0 1/\ae 3=.int .i64 k/\∀ j,j<k->p4 s.l j=true) ?_ (by simp);rintro k ae l hk ⟨rfl,aM,a7,ak⟩;obtain⟨ae,rfl⟩:=pE aM a7;clear aM a7;simp[bl];refine ip (fun h=>?_) (fun h=>?_)
  ·simp only[decide_eq_true_eq] at h;obtain⟨y,aA,cm⟩:=bx (l:=s.l) (k:=k) (by omega);have b8:=kZ (ap y cm);have aQ:IntKind.i64.wrap ((k:Int)+1)=((k+1:Nat) :Int) :=by rw[IntKind.wrap_i64]; omega
   have ur:=DQ y.key;have dY:p4 s.l k=(gA y.key&&(decide (k=0)||eS (pB s.l (k - 1)) y)) :=by unfold p4; rw[nZ aA]
   obtain⟨E,eQ⟩:∃ E,E=aS y.id:=⟨_,rfl⟩
   have xZ:b0 y=.str y.key::E:=by rw[eQ]; rfl
   have uo:E.length=32:=by rw[eQ]; exact cM (ap y cm)
   have Kk:bg E=true:=by rw[eQ]; exact fE _
   simp[dg,aA,xZ];refine a1 ur rfl ?_;cases aU:gA y.key with
   | false=>
    rw[aU,auV] at dY;simp;exact aK (by rw[if_neg h1,FL h dY]; rfl) rfl
   | true=>
    rw[aU,auQ] at dY;rcases k with _ | k
    ·simp[aQ,dg]
     and_intros<;>first | omega | rfl | (rw[IntKind.wrap_i64]; omega) | (rw[dY]; rfl)
    ·obtain⟨x,af,cC⟩:=bx (l:=s.l) (k:=k) (by omega);have bf:=kZ (ap x cC);have dn:IntKind.i64.wrap (k:Int)=(k:Int) :=by rw[IntKind.wrap_i64]; omega
     have jr:(0:Int)<(k:Int)+1:=by omega
     have gi:=ah7 x y (ap x cC) (ap y cm);rw[xZ] at gi;simp only[avB,nZ af,av8,awy,and_false,decide_false,av7] at dY;simp[jr,af,aA,xZ,bf,dn,uo,atT];refine⟨by omega,?_⟩;refine a1 gi (by simp[bg,U.closed,Kk,oT]) ?_;cases bt:eS x y with
     | true=>
      rw[bt] at dY;simp[aQ];refine⟨by omega,rfl,by rw[IntKind.wrap_i64]; omega,fun j ai=>?_⟩;by_cases fk:j=k+1
      ·rw[fk,dY]
      ·exact ak j (by omega)
     | false=>
      rw[bt] at dY;simp;exact aK (by rw[if_neg h1,FL h dY]; rfl) rfl
  ·simp[h];have hj:k=s.l.length:=by simp at h; omega
   exact aK (by rw[if_neg h1,if_pos (J7 fun j ai=>ak j (by omega))]) rfl
def ajI (l:List bn) (m:Nat) :List (List UInt8) :=(List.range m).flatMap fun k=>if aeb (l.take k) (pB l k).key then [] else [(pB l k).key]
structure anB (s:eU) (k:Nat) (ae:a8) (l:ao) :Prop where
 aM:ae 1=.ptr 0 0 1
 bh:ae 5=.int .i64 k
 td:∃ v,ae 4=v/\cn 1 Fr [.cells 1 [dg s]] l v (ajI s.l k) (decide (k=0))
def G8:List l2:=.s::List.replicate 32 (.i .u8)
theorem VU:rL Tryz.prog 20 53=some G8:=by kernel_rfl
theorem HA {t:bn} (h:t.id.length=32) :hT G8 (b0 t)=true:=by
 unfold G8 b0;have:=y0 t.id;rw[h] at this;simp only[hT,Ew,auQ];exact this
theorem Po {a b:bn} (ax:a.id.length=32) (ag:b.id.length=32) :fu (b0 a) (b0 b)=decide (a=b) :=by
 unfold b0 aS;simp only[fu,U.beq];rw[BT a.id b.id (by omega)];cases a; cases b;simp only[bn.mk.injEq];rename_i b6 ej bJ eZ;by_cases h1:b6=bJ<;>by_cases ad:ej=eZ<;>simp[h1,ad]
theorem YB {a b:bn} (ax:a.id.length=32) (ag:b.id.length=32) :gv Tryz.prog .neq 53 (.aJ (b0 a)) (.aJ (b0 b))=some (.bool (!decide (a=b))) :=by
 rw[E4 VU (by kernel_rfl) (by kernel_rfl) (HA ax) (HA ag),Po ax ag]
theorem akL (a b:eU) (ax:g7 a.l) (ag:g7 b.l) (al:a.l.length<=1000000) :bw Tryz.prog GS 56 [.aJ [dg a],.aJ [dg b]] (.bool (decide (a.l=b.l))) :=by
 refine bK Tryz.checked.mixed bB ?_;apply bm Tryz.func56 [];have ij:cz (.au 33) (dg a)=some (.int .i64 a.l.length) :=by simp[dg]
 have jp:cz (.au 33) (dg b)=some (.int .i64 b.l.length) :=by simp[dg]
 by_cases h1:a.l.length=b.l.length
 ·have cN:((a.l.length:Int)=b.l.length) :=by omega
  simp[ij,jp,h1];refine cF a.l.length (fun k ae l=>l=[.cells 1 [dg a],.cells 1 [dg b]]/\ae 2=.ptr 0 0 1/\ae 3=.ptr 1 0 1/\ae 5=.int .i64 k/\∀ j,j<k->a.l[j]? = b.l[j]?) ?_ (by simp);rintro k ae l hk ⟨rfl,aT,a7,bh,ak⟩;obtain⟨s,rfl⟩:=kQ aT a7 bh;clear aT a7 bh;simp[ij];refine ip (fun h=>?_) (fun h=>?_)
  ·simp only[decide_eq_true_eq] at h;obtain⟨x,af,cC⟩:=bx h;obtain⟨y,aA,cm⟩:=bx (l:=b.l) (k:=k) (by omega);have aQ:IntKind.i64.wrap ((k:Int)+1)=((k+1:Nat) :Int) :=by rw[IntKind.wrap_i64]; omega
   have bW:cg (.au 33) (dg a) (.int .i64 (k:Int))=some (.b3 (b0 x) 0) :=by simp[dg,af]
   have ii:cg (.au 33) (dg b) (.int .i64 (k:Int))=some (.b3 (b0 y) 0) :=by simp[dg,aA]
   have bf:=kZ (ax x cC);have b8:=kZ (ag y cm);have bz:=YB (ax x cC) (ag y cm);obtain⟨X,cQ⟩:∃ X,X=b0 x:=⟨_,rfl⟩
   obtain⟨Y,ef⟩:∃ Y,Y=b0 y:=⟨_,rfl⟩
   rw[<-cQ] at bW bf bz;rw[<-ef] at ii b8 bz;simp[bW,ii,bf,b8,atT,bz];by_cases am:x=y
   ·simp[am,aQ];refine⟨by omega,fun j ai=>?_⟩;by_cases fk:j=k
    ·subst fk; rw[af,aA,am]
    ·exact ak j (by omega)
   ·simp[am];refine aK (congrArg U.bool (decide_eq_false fun eg=>am ?_).symm) rfl;rw[eg,aA] at af; exact (Option.some.inj af).symm
  ·simp[h];have hj:k=a.l.length:=by simp at h; omega
   refine aK (congrArg U.bool (decide_eq_true ?_).symm) rfl;apply auD;intro j;by_cases ai:j<a.l.length
   ·exact ak j (by omega)
   ·rw[at6 (by omega),at6 (by omega)]
 ·have cN:¬ ((a.l.length:Int)=b.l.length) :=by omega
  simp[ij,jp,h1,cN];exact aK (by rw[decide_eq_false (fun eg=>h1 (by rw[eg]))]) rfl
end Op

end Go.cb

namespace Go.cb
open Go Go.Proofs Go.Shelf Go.RowKit Go.Lib
set_option maxRecDepth 100000
set_option maxHeartbeats 4000000
theorem ahd (base:Option Addr) (n c eF fl gZ:Nat) (r:Value) (w w' : World) (aC:n<=c) (oY:n<=4611686018427387904) (hn:base=none->n=0/\c=0)
  (ho:(Builtin.append_ #[32,32] 32 #[.slice base n c,.slice (some ⟨fl,gZ,none⟩) 1 eF]).run Tryz.prog w=.ok r w') :
  Calls Tryz.prog 138 #[.slice base n c,.int .i64 n,.slice (some ⟨fl,gZ,none⟩) 1 eF] w fun e w2=>e=.returned r/\w2=w':=by
 have zg:=Tryz.underlying32;have mixed:=Tryz.checked.mixed
 go_enter Tryz.func138,Tryz.ntmps138
 cases base with
 | none=>
  obtain⟨aE,h1⟩:=hn rfl;subst aE h1
  go_wp2_with (at_builtin; refine Lib.wpList_append_run _ rfl _ _ _ _ rfl _ _ rfl rfl _ _ ho ?_)
  go_ret
  exact⟨rfl,rfl⟩
 | some a=>
  obtain⟨ab,aak,aar⟩:=a
  go_wp2_with (at_builtin; refine Lib.wpList_append_run _ rfl _ _ _ _ rfl _ _ rfl rfl _ _ ho ?_)
  all_goals (go_ret; exact⟨rfl,rfl⟩)
theorem ahi (b off n c i fl gZ eF:Nat) (b6 bJ:Value) (w je hx:World) (zd fr:TypeId) (qz s6:Nat) (av:i<n) (dN:n+1<=c) (oY:n<=4611686018427387904) (nK:fl≠b)
  (yA:w.shape? fl=some (zd,qz)) (yB:w.shape? b=some (fr,s6)) (K4:s6≠0) (o7:w.frozen? ⟨fl,gZ,none⟩=false) (yh:w.frozen? ⟨fl,qz,none⟩=false)
  (qb:(Builtin.copy_ #[32,32] 3 #[.slice (some ⟨b,off+(i+1)*38,none⟩) (n - i) (c - (i+1)),.slice (some ⟨b,off+i*38,none⟩) (n+1 - i) (c - i)]).run Tryz.prog w.drew=.ok b6 je)
  (qc:(Builtin.copy_ #[32,32] 3 #[.slice (some ⟨b,off+i*38,none⟩) (n+1 - i) (c - i),.slice (some ⟨fl,gZ,none⟩) 1 eF]).run Tryz.prog je=.ok bJ hx) :
  Calls Tryz.prog 138 #[.slice (some ⟨b,off,none⟩) n c,.int .i64 i,.slice (some ⟨fl,gZ,none⟩) 1 eF] w fun e w2=>e=.returned (.slice (some ⟨b,off,none⟩) (n+1) c)/\w2=hx:=by
 have zg:=Tryz.underlying32;have z0:∀ w,(Go.sizeOf 50).run Tryz.prog w=.ok 38 w:=fun w=>fG (by kernel_rfl)
 have mixed:=Tryz.checked.mixed;have Da:∀ yO pV,(callFunc 191 #[.slice (some ⟨fl,gZ,none⟩) 1 eF,.slice (some ⟨b,off+(i+1)*38,none⟩) yO pV]).run Tryz.prog w=.ok (.value (.bool false)) w:=fun yO pV=>by
  rw[run_callFunc_extern Tryz.func191 (by kernel_rfl) (by kernel_rfl) (by kernel_rfl) (e:=Extern.SlicesOverlaps.overlaps #[32,32] #[4]) (by kernel_rfl),
   Lib.run_overlaps_apart w 32 4 50 zg 38 z0 ⟨fl,gZ,none⟩ ⟨b,off+(i+1)*38,none⟩ 1 eF yO pV nK zd fr qz s6 yA yB K4 o7 yh]
  rfl
 have iY:¬ ((i:Int)=(n:Int)) :=by omega
 have jP:IntKind.i64.wrap ((i:Int)+1)=(i:Int)+1:=by rw[IntKind.wrap_i64]; omega
 have mq:IntKind.i64.wrap ((n:Int)+1)=(n:Int)+1:=by rw[IntKind.wrap_i64]; omega
 have gM:(0:Int)<=(i:Int)+1:=by omega
 have dQ:i<=n:=by omega
 have GX:((i:Int)+1).toNat=i+1:=by omega
 have fT:¬ (c=i+1) :=by omega
 have rj:(i:Int)<=(n:Int)+1:=by omega
 have aef:¬ (c=i) :=by omega
 have aeg:¬ ((c:Int)<(n:Int)+1) :=by omega
 go_enter Tryz.func138,Tryz.ntmps138
 go_wp2_with (simp only[Da])
 go_region_law_o (refine step_copy_runI rfl _ _ 32 32 rfl _ _ (by simp[Act.eval,Act.put]) (by simp[Act.eval,Act.put]) qb ?_)
 go_wp2_with (at_builtin; refine wpList_copy_runI _ rfl _ _ 32 32 rfl _ _ rfl rfl qc ?_)
 go_ret
 exact⟨rfl,rfl⟩
theorem ahf (b off n c i fl gZ eF N G:Nat) (b6 bJ:Value) (w vt je hx:World) (av:i<n) (Gx:n<=c) (dN:c<n+1) (kw:n+1<=G) (oY:n<=4611686018427387904)
  (mL:(Builtin.append_ #[32,3] 32 #[.slice (some ⟨b,off,none⟩) i c,.int .i64 ((n:Int)+1 - (i:Int))]).run Tryz.prog w=.ok (.slice (some ⟨N,0,none⟩) (n+1) G) vt)
  (qb:(Builtin.copy_ #[32,32] 3 #[.slice (some ⟨N,i*38,none⟩) (n+1 - i) (G - i),.slice (some ⟨fl,gZ,none⟩) 1 eF]).run Tryz.prog vt=.ok b6 je)
  (qc:(Builtin.copy_ #[32,32] 3 #[.slice (some ⟨N,(i+1)*38,none⟩) (n - i) (G - (i+1)),.slice (some ⟨b,off+i*38,none⟩) (n - i) (c - i)]).run Tryz.prog je.drew=.ok bJ hx) :
  Calls Tryz.prog 138 #[.slice (some ⟨b,off,none⟩) n c,.int .i64 i,.slice (some ⟨fl,gZ,none⟩) 1 eF] w fun e w2=>e=.returned (.slice (some ⟨N,0,none⟩) (n+1) G)/\w2=hx:=by
 have zg:=Tryz.underlying32;have z0:∀ w,(Go.sizeOf 50).run Tryz.prog w=.ok 38 w:=fun w=>fG (by kernel_rfl)
 have mixed:=Tryz.checked.mixed;have iY:¬ ((i:Int)=(n:Int)) :=by omega
 have jP:IntKind.i64.wrap ((i:Int)+1)=(i:Int)+1:=by rw[IntKind.wrap_i64]; omega
 have mq:IntKind.i64.wrap ((n:Int)+1)=(n:Int)+1:=by rw[IntKind.wrap_i64]; omega
 have agL:IntKind.i64.wrap ((n:Int)+1 - (i:Int))=(n:Int)+1 - (i:Int) :=by rw[IntKind.wrap_i64]; omega
 have gM:(0:Int)<=(i:Int)+1:=by omega
 have dQ:i<=n:=by omega
 have GX:((i:Int)+1).toNat=i+1:=by omega
 have adL:¬ (G=i) :=by omega
 have adM:¬ (G=i+1) :=by omega
 have dx:¬ (c=i) :=by omega
 have LU:(c:Int)<(n:Int)+1:=by omega
 have rj:(i:Int)<=(n:Int) :=by omega
 have aeh:(i:Int)<=(c:Int) :=by omega
 go_enter Tryz.func138,Tryz.ntmps138
 go_wp2_with (first
  | (at_builtin; refine Lib.wpList_append_run _ rfl _ _ _ _ rfl _ _ rfl rfl _ _ mL ?_)
  | (at_builtin; refine wpList_copy_runI _ rfl _ _ 32 32 rfl _ _ rfl rfl qb ?_))
 go_region_law_o (refine step_copy_runI rfl _ _ 32 32 rfl _ _ (by simp[Act.eval,Act.put]) (by simp[Act.eval,Act.put]) qc ?_)
 go_wp2
 go_ret
 exact⟨rfl,rfl⟩
theorem L8:BF Tryz.prog 138 32 3 50 38:=
 ⟨Tryz.underlying32,Tryz.underlying3,ahd,ahi,ahf⟩
theorem ag4 {G:Nat->U} (args:List U) (h:aO) (r:U) (h' : aO) (af:s3 38 96 args h=some (r,h')) :sd Tryz.prog G 138 args h r h':=
 Vw L8 (by kernel_rfl) (by kernel_rfl) (by kernel_rfl) (by omega) (by omega) (by kernel_rfl) args h r h' af
theorem ahe (base:Option Addr) (n c eF fl gZ:Nat) (r:Value) (w w' : World) (aC:n<=c) (oY:n<=4611686018427387904) (hn:base=none->n=0/\c=0)
  (ho:(Builtin.append_ #[29,29] 29 #[.slice base n c,.slice (some ⟨fl,gZ,none⟩) 1 eF]).run Tryz.prog w=.ok r w') :
  Calls Tryz.prog 152 #[.slice base n c,.int .i64 n,.slice (some ⟨fl,gZ,none⟩) 1 eF] w fun e w2=>e=.returned r/\w2=w':=by
 have zg:=Tryz.underlying29;have mixed:=Tryz.checked.mixed
 go_enter Tryz.func152,Tryz.ntmps152
 cases base with
 | none=>
  obtain⟨aE,h1⟩:=hn rfl;subst aE h1
  go_wp2_with (at_builtin; refine Lib.wpList_append_run _ rfl _ _ _ _ rfl _ _ rfl rfl _ _ ho ?_)
  go_ret
  exact⟨rfl,rfl⟩
 | some a=>
  obtain⟨ab,aak,aar⟩:=a
  go_wp2_with (at_builtin; refine Lib.wpList_append_run _ rfl _ _ _ _ rfl _ _ rfl rfl _ _ ho ?_)
  all_goals (go_ret; exact⟨rfl,rfl⟩)
theorem ahj (b off n c i fl gZ eF:Nat) (b6 bJ:Value) (w je hx:World) (zd fr:TypeId) (qz s6:Nat) (av:i<n) (dN:n+1<=c) (oY:n<=4611686018427387904) (nK:fl≠b)
  (yA:w.shape? fl=some (zd,qz)) (yB:w.shape? b=some (fr,s6)) (K4:s6≠0) (o7:w.frozen? ⟨fl,gZ,none⟩=false) (yh:w.frozen? ⟨fl,qz,none⟩=false)
  (qb:(Builtin.copy_ #[29,29] 3 #[.slice (some ⟨b,off+(i+1)*33,none⟩) (n - i) (c - (i+1)),.slice (some ⟨b,off+i*33,none⟩) (n+1 - i) (c - i)]).run Tryz.prog w.drew=.ok b6 je)
  (qc:(Builtin.copy_ #[29,29] 3 #[.slice (some ⟨b,off+i*33,none⟩) (n+1 - i) (c - i),.slice (some ⟨fl,gZ,none⟩) 1 eF]).run Tryz.prog je=.ok bJ hx) :
  Calls Tryz.prog 152 #[.slice (some ⟨b,off,none⟩) n c,.int .i64 i,.slice (some ⟨fl,gZ,none⟩) 1 eF] w fun e w2=>e=.returned (.slice (some ⟨b,off,none⟩) (n+1) c)/\w2=hx:=by
 have zg:=Tryz.underlying29;have z0:∀ w,(Go.sizeOf 53).run Tryz.prog w=.ok 33 w:=fun w=>fG (by kernel_rfl)
 have mixed:=Tryz.checked.mixed;have Da:∀ yO pV,(callFunc 207 #[.slice (some ⟨fl,gZ,none⟩) 1 eF,.slice (some ⟨b,off+(i+1)*33,none⟩) yO pV]).run Tryz.prog w=.ok (.value (.bool false)) w:=fun yO pV=>by
  rw[run_callFunc_extern Tryz.func207 (by kernel_rfl) (by kernel_rfl) (by kernel_rfl) (e:=Extern.SlicesOverlaps.overlaps #[29,29] #[4]) (by kernel_rfl),
   Lib.run_overlaps_apart w 29 4 53 zg 33 z0 ⟨fl,gZ,none⟩ ⟨b,off+(i+1)*33,none⟩ 1 eF yO pV nK zd fr qz s6 yA yB K4 o7 yh]
  rfl
 have iY:¬ ((i:Int)=(n:Int)) :=by omega
 have jP:IntKind.i64.wrap ((i:Int)+1)=(i:Int)+1:=by rw[IntKind.wrap_i64]; omega
 have mq:IntKind.i64.wrap ((n:Int)+1)=(n:Int)+1:=by rw[IntKind.wrap_i64]; omega
 have gM:(0:Int)<=(i:Int)+1:=by omega
 have dQ:i<=n:=by omega
 have GX:((i:Int)+1).toNat=i+1:=by omega
 have fT:¬ (c=i+1) :=by omega
 have rj:(i:Int)<=(n:Int)+1:=by omega
 have aef:¬ (c=i) :=by omega
 have aeg:¬ ((c:Int)<(n:Int)+1) :=by omega
 go_enter Tryz.func152,Tryz.ntmps152
 go_wp2_with (simp only[Da])
 go_region_law_o (refine step_copy_runI rfl _ _ 29 29 rfl _ _ (by simp[Act.eval,Act.put]) (by simp[Act.eval,Act.put]) qb ?_)
 go_wp2_with (at_builtin; refine wpList_copy_runI _ rfl _ _ 29 29 rfl _ _ rfl rfl qc ?_)
 go_ret
 exact⟨rfl,rfl⟩
theorem ahg (b off n c i fl gZ eF N G:Nat) (b6 bJ:Value) (w vt je hx:World) (av:i<n) (Gx:n<=c) (dN:c<n+1) (kw:n+1<=G) (oY:n<=4611686018427387904)
  (mL:(Builtin.append_ #[29,3] 29 #[.slice (some ⟨b,off,none⟩) i c,.int .i64 ((n:Int)+1 - (i:Int))]).run Tryz.prog w=.ok (.slice (some ⟨N,0,none⟩) (n+1) G) vt)
  (qb:(Builtin.copy_ #[29,29] 3 #[.slice (some ⟨N,i*33,none⟩) (n+1 - i) (G - i),.slice (some ⟨fl,gZ,none⟩) 1 eF]).run Tryz.prog vt=.ok b6 je)
  (qc:(Builtin.copy_ #[29,29] 3 #[.slice (some ⟨N,(i+1)*33,none⟩) (n - i) (G - (i+1)),.slice (some ⟨b,off+i*33,none⟩) (n - i) (c - i)]).run Tryz.prog je.drew=.ok bJ hx) :
  Calls Tryz.prog 152 #[.slice (some ⟨b,off,none⟩) n c,.int .i64 i,.slice (some ⟨fl,gZ,none⟩) 1 eF] w fun e w2=>e=.returned (.slice (some ⟨N,0,none⟩) (n+1) G)/\w2=hx:=by
 have zg:=Tryz.underlying29;have z0:∀ w,(Go.sizeOf 53).run Tryz.prog w=.ok 33 w:=fun w=>fG (by kernel_rfl)
 have mixed:=Tryz.checked.mixed;have iY:¬ ((i:Int)=(n:Int)) :=by omega
 have jP:IntKind.i64.wrap ((i:Int)+1)=(i:Int)+1:=by rw[IntKind.wrap_i64]; omega
 have mq:IntKind.i64.wrap ((n:Int)+1)=(n:Int)+1:=by rw[IntKind.wrap_i64]; omega
 have agL:IntKind.i64.wrap ((n:Int)+1 - (i:Int))=(n:Int)+1 - (i:Int) :=by rw[IntKind.wrap_i64]; omega
 have gM:(0:Int)<=(i:Int)+1:=by omega
 have dQ:i<=n:=by omega
 have GX:((i:Int)+1).toNat=i+1:=by omega
 have adL:¬ (G=i) :=by omega
 have adM:¬ (G=i+1) :=by omega
 have dx:¬ (c=i) :=by omega
 have LU:(c:Int)<(n:Int)+1:=by omega
 have rj:(i:Int)<=(n:Int) :=by omega
 have aeh:(i:Int)<=(c:Int) :=by omega
 go_enter Tryz.func152,Tryz.ntmps152
 go_wp2_with (first
  | (at_builtin; refine Lib.wpList_append_run _ rfl _ _ _ _ rfl _ _ rfl rfl _ _ mL ?_)
  | (at_builtin; refine wpList_copy_runI _ rfl _ _ 29 29 rfl _ _ rfl rfl qb ?_))
 go_region_law_o (refine step_copy_runI rfl _ _ 29 29 rfl _ _ (by simp[Act.eval,Act.put]) (by simp[Act.eval,Act.put]) qc ?_)
 go_wp2
 go_ret
 exact⟨rfl,rfl⟩
theorem L9:BF Tryz.prog 152 29 3 53 33:=
 ⟨Tryz.underlying29,Tryz.underlying3,ahe,ahj,ahg⟩
theorem ag5 {G:Nat->U} (args:List U) (h:aO) (r:U) (h' : aO) (af:s3 33 48 args h=some (r,h')) :sd Tryz.prog G 152 args h r h':=
 Vw L9 (by kernel_rfl) (by kernel_rfl) (by kernel_rfl) (by omega) (by omega) (by kernel_rfl) args h r h' af
def L7 (f:FuncId) :Option (Nat × Nat) :=match Nat.beq f 138 with | true=>some (38,96) | false=>match Nat.beq f 152 with | true=>some (33,48) | false=>none
theorem ag3 (f:FuncId) (z by_:Nat) (h:L7 f=some (z,by_)) (args:List U) (ay:aO) (r:U) (gc:aO) (af:s3 z by_ args ay=some (r,gc)) :sd Tryz.prog GS f args ay r gc:=by
 unfold L7 at h;split at h
 ·rename_i ag;have aD:=auP ag;subst aD;cases h;exact ag4 args ay r gc af
 split at h
 ·rename_i ag;have aD:=auP ag;subst aD;cases h;exact ag5 args ay r gc af
 cases h
instance aqw:qX Tryz.prog GS:=⟨L7,ag3⟩
end Go.cb

namespace Go.cb
open Go Go.Proofs
set_option maxRecDepth 100000
namespace Op
open g3
theorem Wn (s:eU) :gv Tryz.prog .eql 29 (cI 33 b0 s) .aW=some (.bool s.isNone) :=E3 (e:=53) (by kernel_rfl) 33 b0 s
theorem Cu {l:List bn} (h:g7 l) :((l.map b0).flatten).length=l.length*33:=by
 rw[l8 (z:=33) (fun e am=>by obtain⟨y,aA,rfl⟩:=auo.1 am; exact kZ (h y aA)),auh]
theorem MS {l:ao} {b n:Nat} {a:List bn} (ax:g7 a) (aC:a.length=n) (ag:l[b]? = some (.cells (n*33) (a.map b0).flatten)) :bG 33 l (.au 33 b 0 n n (n*33)) b (a.map b0) :=by
 have fc:=Cu ax;refine .au b n n (n*33) _ _ ag (by rw[fc,aC]) (by simp[aC]) (fun e am=>?_) (atW _) (atW _) ?_
 ·obtain⟨y,aA,rfl⟩:=auo.1 am; exact kZ (ax y aA)
 ·rw[atT (by rw[fc,aC]; omega)]
theorem abq (s:eU) (ap:g7 s.l) (ak:s.l.length<=1000000) {l:ao} {K:U->ao->Prop} (aE:s=none->K .aW l)
  (h1:∀ a,s=some a->K (.au 33 l.length 0 a.length a.length (a.length*33)) (l++[.cells (a.length*33) (a.map b0).flatten])) :
  cY Tryz.prog GS 150 [dg s] l (c:=⟨K⟩) :=by
 apply bm Tryz.func150 [];have az:cK=140737488355328:=rfl;cases s with
 | none=>
  simp[dg,Wn];exact aE rfl
 | some a=>
  simp at ak;have fc:=Cu (l:=a) ap;have mL:iP (l++[a2.cells 0 []]) 33 48 (.au 33 l.length 0 0 0 0) (cI 33 b0 (some a))=some (.au 33 l.length 0 a.length a.length (a.length*33),l++[.cells (a.length*33) (a.map b0).flatten]) :=by
   unfold iP;rw[zM];simp only[c6.yN];unfold iB;by_cases aw:a.length=0
   ·have:a=[] :=auE.1 aw;subst this;simp
   ·rw[if_neg aw,if_neg (by omega)];simp[az];exact⟨by omega,fun h=>by simp[h]⟩
  simp[dg,Wn,mL];refine dT.cy ?_;simp;exact h1 a rfl
theorem aiW (a b:Int) :wV a b=0<->a=0/\b=0:=by
 unfold wV;by_cases h:a=0<;>simp[h]
theorem RR (a b:List UInt8) :pX a b=0<->a=b:=by
 unfold pX;cases h:fh a b with
 | true=>
  have h1:=(tx _ _).1 h;simp;rintro rfl;exact absurd h1 (axa _)
 | false=>
  by_cases ad:a=b<;>simp[ad]
theorem abw (a b:bn) :jg a b=0<->a=b:=by
 unfold jg;rw[aiW,RR];constructor
 ·rintro⟨h1,ad⟩;have:=su ad;cases a; cases b; simp_all
 ·rintro rfl;exact⟨rfl,oU _⟩
def jh (l:List bn) (x:bn) :Nat:=(l.takeWhile fun t=>eS t x).length
theorem Fl (x:bn) :∀ {l:List bn} {p:Nat},p<=l.length->(∀ (t:Nat) (y:bn),t<p->l[t]? = some y->eS y x=true)->(∀ y,l[p]? = some y->eS y x=false)->jh l x=p
 | [],p,ay,_,_=>by simp at ay; subst ay; rfl
 | y::l,0,_,_,ad=>by
  have:=ad y (by simp);unfold jh;rw[avu,this]; rfl
 | y::l,p+1,ay,h1,ad=>by
  have aA:=h1 0 y (by omega) (by simp);have aI:=Fl x (l:=l) (p:=p) (by simpa using ay) (fun t z aH aw=>h1 (t+1) z (by omega) (by simpa using aw)) (fun z aw=>ad z (by simpa using aw));unfold jh at aI ⊢;rw[avu,aA];simpa using aI
def rc (l:List bn) (x:bn) :Bool:=decide (jh l x<l.length)&&decide (pB l (jh l x)=x)
def Wk (l:List bn) (x:bn) :Prop:=∀ (i j:Nat) (a b:bn),i<=j->l[i]? = some a->l[j]? = some b->eS b x=true->eS a x=true
theorem Ya (n:Nat) (h:n<9223372036854775808) :cu .shr .u64 (n:Int) .u64 1=some (.int .u64 ((n / 2:Nat) :Int)) :=by
 have:=tU (BitVec.ofNat 64 n) .u64 1;have aL:(u (BitVec.ofNat 64 n) :Int)=n:=by unfold u; rw[auc,at7 (by omega)]
 have aq:(u (BitVec.ofNat 64 n >>> 1) :Int)=((n / 2:Nat) :Int) :=by
  unfold u; rw[auL,auc,at7 (by omega),auk]
 rw[aL,aq] at this;exact this
structure Zt (s:eU) (X:List U) (x:bn) (m:Nat) (ae:a8) (l:ao) :Prop where
 ex:∃ (i j:Nat),j - i=m/\i<=j/\j<=s.l.length/\l=[.cells 33 X]/\ae 0=dg s/\ae 2=.fn 86 [] []/\ae 4=.ptr 0 0 33/\ae 8=.int .i64 s.l.length/\ae 9=.int .i64 i/\ae 10=.int .i64 j ∧
  (∀ (t:Nat) (y:bn),t<i->s.l[t]? = some y->eS y x=true)/\(∀ (t:Nat) (y:bn),j<=t->s.l[t]? = some y->eS y x=false)
theorem SF:hE Tryz.prog 86=true:=by kernel_rfl
theorem X7 (s:eU) (ap:g7 s.l) (al:s.l.length<=1000000) (x:bn) (af:x.id.length=32) (hm:Wk s.l x) :
  bw Tryz.prog GS 151 [dg s,.aJ (b0 x),.fn 86 [] []] (.bE [.int .i64 (jh s.l x),.bool (rc s.l x)]) :=by
 refine bK Tryz.checked.mixed bB ?_;apply bm Tryz.func151 [];have bl:cz (.au 33) (dg s)=some (.int .i64 s.l.length) :=by simp[dg]
 have bf:=kZ af;have jv:=oT x;have gi:∀ y∈s.l,bw Tryz.prog GS 86 [.aJ (b0 y),.aJ (b0 x)] (.int .i64 (jg y x)) :=fun y aA=>Jp y x (ap y aA) af
 obtain⟨X,cQ⟩:∃ X,X=b0 x:=⟨_,rfl⟩
 rw[<-cQ] at bf jv gi ⊢;simp[bl];refine uS (Zt s X x) ?_ s.l.length _ _ ⟨0,s.l.length,by omega,by omega,by omega,by simp[bf],by simp,by simp,by simp[bf],by simp,by simp,by simp,fun t y h=>by omega,fun t y h ad=>by rw[at6 h] at ad; cases ad⟩;rintro m ae l ⟨i,j,gb,hi,eX,rfl,ca,aT,bD,dw,gL,fS,h1,ad⟩;obtain⟨ae,rfl⟩:=zi ca aT bD dw gL fS;clear ca aT bD dw gL fS;by_cases aN:i<j
 ·obtain⟨h,aG⟩:∃ h,h=(i+j) / 2:=⟨_,rfl⟩
  have b1:IntKind.i64.wrap ((i:Int)+j)=((i+j:Nat) :Int) :=by rw[IntKind.wrap_i64]; omega
  have w2:IntKind.u64.wrap ((i+j:Nat) :Int)=((i+j:Nat) :Int) :=by rw[vh,avh]; unfold u; rw[auc,at7 (by omega)]
  have ei:=Ya (i+j) (by omega);have n0:IntKind.i64.wrap (h:Int)=(h:Int) :=by rw[IntKind.wrap_i64]; omega
  have qS:IntKind.i64.wrap ((h:Int)+1)=((h+1:Nat) :Int) :=by rw[IntKind.wrap_i64]; omega
  have iX:(i:Int)<(j:Int) :=by omega
  rw[<-aG] at ei;obtain⟨y,aA,cm⟩:=bx (l:=s.l) (k:=h) (by omega);have b8:=kZ (ap y cm);have oo:=oT y;have bW:cg (.au 33) (dg s) (.int .i64 (h:Int))=some (.b3 (b0 y) 0) :=by simp[dg,aA]
  have jm:=gi y cm;have qa:=Fk y x;obtain⟨Y,ef⟩:∃ Y,Y=b0 y:=⟨_,rfl⟩
  rw[<-ef] at b8 oo bW jm;obtain⟨N,fv⟩:∃ N,N=i+j:=⟨_,rfl⟩
  rw[<-fv] at b1 w2 ei;simp[aN,b1,w2,ei,n0,bW,b8,bf,atT];refine⟨SF,a1 jm (by simp[bg,U.closed,oo,jv]) ?_⟩;by_cases bt:jg y x<0
  ·simp[bt,qS];refine⟨j - (h+1),by omega,h+1,j,rfl,by omega,by omega,by simp,by simp,by simp,by simp,by simp,by simp,by simp,fun t z aH aw=>?_,ad⟩;exact hm t h z y (by omega) aw aA (qa.1 bt)
  ·simp[bt];refine⟨h - i,by omega,i,h,rfl,by omega,by omega,by simp,by simp,by simp,by simp,by simp,by simp,by simp,h1,fun t z aH aw=>?_⟩;cases c8:eS z x with
   | false=>rfl
   | true=>exact absurd (qa.2 (hm h t y z aH aA aw c8)) bt
 ·have iX:¬ (i:Int)<(j:Int) :=by omega
  obtain rfl:i=j:=by omega
  have ah:=Fl x (l:=s.l) (p:=i) eX h1 (fun y aA=>ad i y (atW _) aA);by_cases c7:i<s.l.length
  ·have KX:(i:Int)<(s.l.length:Int) :=by omega
   obtain⟨y,aA,cm⟩:=bx (l:=s.l) (k:=i) c7;have b8:=kZ (ap y cm);have oo:=oT y;have bW:cg (.au 33) (dg s) (.int .i64 (i:Int))=some (.b3 (b0 y) 0) :=by simp[dg,aA]
   have jm:=gi y cm;have CV:=abw y x;obtain⟨Y,ef⟩:∃ Y,Y=b0 y:=⟨_,rfl⟩
   rw[<-ef] at b8 oo bW jm;simp[c7,bW,b8,bf,atT];refine⟨SF,a1 jm (by simp[bg,U.closed,oo,jv]) ?_⟩;simp;refine aK ?_ rfl;unfold rc;rw[ah,nZ aA,decide_eq_true c7,auQ];simp[CV]
  ·have KX:¬ (i:Int)<(s.l.length:Int) :=by omega
   simp[c7];refine aK ?_ rfl;unfold rc;rw[ah,decide_eq_false c7,auV]
def i0 (l:List bn) (i:Nat) (x:bn) :List bn:=l.take i++x::l.drop i
theorem L5 (l:List bn) (i:Nat) (x:bn) :(i0 l i x).length=l.length+1:=by
 unfold i0; simp; omega
theorem L6 {l:List bn} {i:Nat} {x:bn} (h:g7 l) (af:x.id.length=32) :g7 (i0 l i x) :=by
 intro t aH;unfold i0 at aH;rcases aup.1 aH with h1 | h1
 ·exact h t (aur h1)
 ·rcases auG.1 h1 with ad | ad
  ·rw[ad]; exact af
  ·exact h t (avC ad)
theorem ahb {l:ao} {b bv n i:Nat} {a:List bn} {x:bn} (ax:g7 a) (af:x.id.length=32) (aC:a.length=n) (ag:l[b]? = some (.cells (n*33) (a.map b0).flatten)) (h3:l[bv]? = some (.cells 33 (b0 x))) (bz:bv≠b) (av:i<=n) (ol:n<=1000000)
  {K:U->ao->Prop} (aV:K (.au 33 l.length 0 (n+1) (n+1) ((n+1)*33)) (l.set b .dead++[.cells ((n+1)*33) ((i0 a i x).map b0).flatten])) :
  cY Tryz.prog GS 152 [.au 33 b 0 n n (n*33),.int .i64 i,.au 33 bv 0 1 1 33] l (c:=⟨K⟩) :=by
 have fb:=e1 ag;have ak:=Mb (P:=Tryz.prog) (G:=GS) (h:=bU l) L9 (by kernel_rfl) (by kernel_rfl) (show iQ Tryz.prog 53=some 48 by kernel_rfl) (by omega) (by omega) (by kernel_rfl) (b:=b) (bv:=bv) (len:=n) (cap:=n) (i:=i) (lY.2 ag) (lY.2 h3) bz av (atW _) (by unfold cK; omega);rw[vk,n2 _ fb,lo,av3 (by omega)] at ak;refine⟨_,_,.ext ak,by simp,?_⟩;have fc:=Cu ax;have bF:a.map b0=(a.take i).map b0++(a.drop i).map b0:=by rw[<-auq,auz]
 have GV:((a.take i).map b0).flatten.length=i*33:=by
  rw[Cu (fun t aH=>ax t (aur aH)),aue,ava (by omega)]
 have Ai:((a.drop i).map b0).flatten.length=(n - i)*33:=by
  rw[Cu (fun t aH=>ax t (avC aH)),au4,aC]
 have cE:lP 33 (a.map b0).flatten (b0 x) i n=((i0 a i x).map b0).flatten:=by
  unfold lP i0;have h1:((a.map b0).flatten).take (i*33)=((a.take i).map b0).flatten:=by
   rw[bF,auM,auj (by omega),atT (by omega)]
  have ad:((a.map b0).flatten).drop (i*33)=((a.drop i).map b0).flatten:=by
   rw[bF,auM,auH (by omega),au2 (by omega),auT]
  have aj:(((a.drop i).map b0).flatten).take ((n - i)*33)=((a.drop i).map b0).flatten:=atT (by omega);have aF:((a.map b0).flatten).drop ((n+1)*33)=[] :=au2 (by rw[fc,aC]; omega);rw[h1,ad,aj,aF,auu];simp
 rw[cE];exact aV
theorem ag7 {l:ao} {bv:Nat} {x:bn} (h3:l[bv]? = some (.cells 33 (b0 x))) {K:U->ao->Prop} (aV:K (.au 33 l.length 0 1 1 33) (l++[.cells 33 (b0 x)])) :
  cY Tryz.prog GS 152 [.aW,.int .i64 0,.au 33 bv 0 1 1 33] l (c:=⟨K⟩) :=by
 have ak:=Ma (P:=Tryz.prog) (G:=GS) (h:=bU l) L9 (by kernel_rfl) (by kernel_rfl) (show iQ Tryz.prog 53=some 48 by kernel_rfl) (by omega) (by omega) (by kernel_rfl) (bv:=bv) (lY.2 h3) (by unfold cK; omega);rw[vk,lo] at ak;exact⟨_,_,.ext ak,by simp,aV⟩
structure qW (j:Nat) (l l' : ao) :Prop where
 le:l.length<=l'.length
 same:∀ b,b<l.length->b≠j->l'[b]? = l[b]?
theorem qW.refl (j:Nat) (l:ao) :qW j l l:=⟨atW _,fun _ _ _=>rfl⟩
theorem qW.trans {j:Nat} {a b c:ao} (h1:qW j a b) (ad:qW j b c) :qW j a c:=⟨by have:=h1.le; have:=ad.le; omega,fun x af ai=>by rw[ad.same x (by have:=h1.le; omega) ai]; exact h1.same x af ai⟩
def Ix (g:FuncId) (cap:List U) (j:Nat) (eE:ao) (xs:List bn) (p:bn->Bool) :Prop:=
 ∀ x∈xs,∀ l,qW j eE l->∀ K:U->ao->Prop,(∀ l',l.length<=l'.length->(∀ b,b<l.length->l'[b]? = l[b]?)->K (.bool (p x)) l')->cY Tryz.prog GS g ([]++[.aJ (b0 x)]++cap) l (c:=⟨K⟩)
structure ZD (eE:ao) (v:U) (g:FuncId) (cap:List U) (xs:List bn) (p:bn->Bool) (k:Nat) (ae:a8) (l:ao) :Prop where
 ca:ae 0=v
 aM:ae 1=.fn g [] cap
 dC:ae 7=.int .i64 xs.length
 dw:ae 8=.int .i64 k
 ak:∀ (j:Nat) (z:bn),j<k->xs[j]? = some z->p z=false
 le:eE.length<=l.length
 same:∀ b,b<eE.length->l[b]? = eE[b]?
theorem agZ {g:FuncId} {cap:List U} {j:Nat} {l:ao} {v:U} {xs:List bn} {p:bn->Bool} (ar:hE Tryz.prog g=true) (ap:bG 33 l v j (xs.map b0)) (aw:g7 xs) (aC:xs.length<=1000000) (ay:Ix g cap j l xs p)
  {K:U->ao->Prop} (aV:∀ n l',(n=-1/\(∀ z∈xs,p z=false)\/∃ k:Nat,n=(k:Int)/\k<xs.length/\(∀ (i:Nat) (z:bn),i<k->xs[i]? = some z->p z=false)/\∀ y,xs[k]? = some y->p y=true)->l.length<=l'.length->(∀ b,b<l.length->l'[b]? = l[b]?)->K (.int .i64 n) l') :
  cY Tryz.prog GS 209 [v,.fn g [] cap] l (c:=⟨K⟩) :=by
 apply bm Tryz.func209 [];have bl:=ap.len;rw[auh] at bl;simp[bl];refine cF xs.length (ZD l v g cap xs p) ?_ ⟨by simp,by simp,by simp,by simp,fun j z h=>by omega,atW _,fun _ _=>rfl⟩;rintro k ae l1 hk ⟨ca,aM,dC,dw,ak,dR,gP⟩;obtain⟨ae,rfl⟩:=iw ca aM dC dw;clear ca aM dC dw;simp;refine ip (fun h=>?_) (fun h=>?_)
 ·simp only[decide_eq_true_eq] at h;obtain⟨y,aA,cm⟩:=bx (l:=xs) (k:=k) (by omega);have aQ:IntKind.i64.wrap ((k:Int)+1)=((k+1:Nat) :Int) :=by rw[IntKind.wrap_i64]; omega
  have Lj:bG 33 l1 v j (xs.map b0) :=ap.frame fun ai=>gP j ai
  obtain⟨q,cs,o,aX,a6,a3,a4⟩:=Lj.q.get (k:=.i64) (i:=k) (e:=b0 y) (by rw[at0,aA]; rfl);simp[aX,a6,a3,a4];refine⟨ar,?_⟩;have:=ay y cm l1 ⟨dR,fun b ag _=>gP b ag⟩;simp at this;refine this _ fun bX h1 ad=>?_
  cases aU:p y with
  | true=>
   simp;refine aV _ _ (.inr ⟨k,rfl,h,fun i z av aw=>ak i z av aw,fun w hw=>?_⟩) (by omega) (fun b ag=>by rw[ad b (by omega)]; exact gP b ag);rw[aA] at hw; obtain rfl:=Option.some.inj hw; exact aU
  | false=>
   simp[aQ];refine⟨by omega,by simp,by simp,by simp,by simp,fun i z av aw=>?_,by omega,fun b ag=>by rw[ad b (by omega)]; exact gP b ag⟩;by_cases mh:i=k
   ·rw[mh,aA] at aw; obtain rfl:=Option.some.inj aw; exact aU
   ·exact ak i z (by omega) aw
 ·simp[h];have hj:k=xs.length:=by simp at h; omega
  refine aV _ _ (.inl ⟨rfl,fun z aw=>?_⟩) dR gP;obtain⟨i,av⟩:=atZ.1 aw;exact ak i z (by rw[hj]; exact (atU.1 av).1) av
structure Zz (eE:ao) (v:U) (g:FuncId) (cap:List U) (j:Nat) (xs:List bn) (p:bn->Bool) (k:Nat) (ae:a8) (l:ao) :Prop where
 ca:ae 0=v
 aM:ae 1=.fn g [] cap
 cd:ae 6=.int .i64 k
 apx:qW j eE l
 ex:∃ (q:Nat) (bc:List bn),ae 5=.int .i64 (q:Int)/\bG 33 l v j (bc.map b0)/\bc.length=xs.length/\g7 bc/\bc.take q=(xs.take k).filter (fun t=>!p t)/\q<k/\∀ t,k<=t->bc[t]? = xs[t]?
theorem Ss {p:bn->Bool} {l:List bn} (h:∀ z∈l,p z=false) :l.filter (fun t=>!p t)=l:=by
 rw[List.filter_eq_self];intro a ax; rw[h a ax]; rfl
theorem acJ {p:bn->Bool} {l:List bn} {k:Nat} (h:∀ (i:Nat) (z:bn),i<k->l[i]? = some z->p z=false) :(l.take k).filter (fun t=>!p t)=l.take k:=by
 refine Ss fun z aw=>?_
 obtain⟨i,av⟩:=atZ.1 aw;have c7:=(atU.1 av).1;rw[aue] at c7;rw[aum (by omega)] at av;exact h i z (by omega) av
theorem acI {p:bn->Bool} {l:List bn} {k:Nat} {y:bn} (h:l[k]? = some y) :(l.take (k+1)).filter (fun t=>!p t)=(l.take k).filter (fun t=>!p t)++(if p y then [] else [y]) :=by
 rw[aud,h,avG];cases ay:p y<;>simp[ay]
set_option maxHeartbeats 1000000 in
theorem R4 {g:FuncId} {cap:List U} {j:Nat} {l:ao} {v:U} {xs:List bn} {p:bn->Bool} (ar:hE Tryz.prog g=true) (ap:bG 33 l v j (xs.map b0)) (aw:g7 xs) (aC:xs.length<=1000000) (ay:Ix g cap j l xs p)
  {K:U->ao->Prop} (aV:∀ r l',bG 33 l' r j ((xs.filter fun t=>!p t).map b0)->qW j l l'->cx r=cx v->K r l') :
  cY Tryz.prog GS 153 [v,.fn g [] cap] l (c:=⟨K⟩) :=by
 apply bm Tryz.func153 [];have bl:=ap.len;rw[auh] at bl;simp;refine agZ ar ap aw aC ay fun n l1 aex dR gP=>?_
 rcases aex with ⟨rfl,eH⟩ | ⟨gT,rfl,rs,eC,fI⟩
 ·simp;refine aV _ _ ?_ ⟨dR,fun b ag _=>gP b ag⟩ rfl;rw[Ss eH];exact ap.frame fun ai=>gP j ai
 ·have bz:¬ ((gT:Int)=-1) :=by omega
  have aQ:IntKind.i64.wrap ((gT:Int)+1)=((gT+1:Nat) :Int) :=by rw[IntKind.wrap_i64]; omega
  have Lj:bG 33 l1 v j (xs.map b0) :=ap.frame fun ai=>gP j ai
  have aq:cx v=false:=by
   cases wv:cx v with
   | false=>rfl
   | true=>
    have:=i2.1 wv;subst this;have:=ap.q.tc;rw[au6] at this;rw[this] at rs; simp at rs
  simp[bz,aQ];refine cF (xs.length - (gT+1)) (fun m=>Zz l v g cap j xs p (gT+1+m)) ?_ ⟨by simp,by simp,by simp,⟨dR,fun b ag _=>gP b ag⟩,gT,xs,by simp,Lj,rfl,aw,?_,by omega,fun _ _=>rfl⟩
  ·rintro m ae bX hm ⟨ca,aM,cd,mQ,q,bc,bh,aZ,b8,uI,iG,uA,pj⟩;obtain⟨k,hk⟩:∃ k,k=gT+1+m:=⟨_,rfl⟩
   rw[show gT+1+(m+1)=k+1 by omega];rw[<-hk] at cd iG uA pj;obtain⟨ae,rfl⟩:=iw ca aM bh cd;clear ca aM bh cd;have Lb:=aZ.len;rw[auh,b8] at Lb;by_cases aN:k<xs.length
   ·have iX:(k:Int)<(xs.length:Int) :=by omega
    obtain⟨y,aA,cm⟩:=bx (l:=xs) (k:=k) aN;have Vk:=aw y cm;have CQ:=kZ Vk;have js:=H7 CQ;have bF:IntKind.i64.wrap ((k:Int)+1)=((k+1:Nat) :Int) :=by rw[IntKind.wrap_i64]; omega
    have dn:IntKind.i64.wrap ((q:Int)+1)=((q+1:Nat) :Int) :=by rw[IntKind.wrap_i64]; omega
    have jw:bc[k]? = some y:=by rw[pj k (atW _)]; exact aA
    obtain⟨aji,cs,o,aX,a6,a3,a4⟩:=aZ.q.get (k:=.i64) (i:=k) (e:=b0 y) (by rw[at0,jw]; rfl);have ae2:qW j l (bX++[a2.cells 33 (b0 y)]) :=⟨by have:=mQ.le; simp; omega,fun b ag gN=>by rw[atV (by have:=mQ.le; omega)]; exact mQ.same b ag gN⟩
    have jL:=ay y cm _ ae2;have mP:=acI (p:=p) aA;have U5:=fun (kK:ao) (h:bG 33 kK v j (bc.map b0))=>HF (X:=.aJ (b0 y)) rfl h (fun t aH=>kZ (uI t aH)) (k:=q) (x:=y) (by omega) CQ
    simp at jL;obtain⟨Y,ef⟩:∃ Y,Y=b0 y:=⟨_,rfl⟩
    rw[<-ef] at CQ js a4 jL U5;simp[Lb,iX,aX,a6,a3,a4,CQ,js,atT];refine⟨ar,?_⟩;refine jL _ fun kK h1 ad=>?_
    have ap5:bX.length<kK.length:=by omega
    have U4:∀ b,b<bX.length->kK[b]? = bX[b]?:=fun b ag=>by rw[ad b (by omega),atV ag]
    have Ay:bG 33 kK v j (bc.map b0) :=aZ.frame fun ai=>U4 j ai
    have aee:kK[bX.length]? = some (.cells 33 Y) :=by rw[ad _ (by simp)]; simp
    have KU:qW j l kK:=⟨by have:=mQ.le; omega,fun b ag gN=>by rw[U4 b (by have:=mQ.le; omega)]; exact mQ.same b ag gN⟩
    cases aU:p y with
    | true=>
     rw[aU,if_pos rfl,auu] at mP;simp[bF];refine⟨by omega,by simp,by simp,by simp,KU,q,bc,by simp,Ay,b8,uI,by rw[mP]; exact iG,by omega,fun t aH=>pj t (by omega)⟩
    | false=>
     rw[aU,if_neg (by simp)] at mP;obtain⟨WN,Mp,na,ix,z3,z4,z5⟩:=U5 kK Ay;simp[aee,CQ,na,ix,bF,dn,atT];refine⟨by omega,by simp,by simp,by simp,⟨by have:=KU.le; omega,fun b ag gN=>by rw[z5 b gN]; exact KU.same b ag gN⟩,q+1,bc.set q y,by simp,z3,by simp[b8],fun t aH=>?_,?_,by omega,fun t aH=>?_⟩
     ·rcases avl aH with h | h
      ·exact uI _ h
      ·rw[h]; exact Vk
     ·have Oc:(bc.take q).length=q:=by rw[aue]; omega
      rw[avw,if_pos (by omega),avN,Oc,atT (by omega),show q+1 - q=1 by omega,mP,<-iG]; simp
     ·rw[at5 (by omega)]; exact pj t (by omega)
   ·have iX:¬ (k:Int)<(xs.length:Int) :=by omega
    have cZ:k=xs.length:=by omega
    obtain⟨v3,fe,r,na,ix,z3,z4,z5,anq,OE⟩:=ai3 (z:=33) (zr:=U.str [] ::rep 32 (.int .u8 0)) rfl aZ (k:=q) (by omega);simp[Lb,iX,na,ix,z3];rw[cZ,aun] at iG;rw[iG] at z4;exact aV _ _ z4 ⟨by have:=mQ.le; omega,fun b ag gN=>by rw[OE b gN]; exact mQ.same b ag gN⟩ (by rw[z5,aq])
  ·rw[aud,avG,acJ eC];obtain⟨y,aA,_⟩:=bx (l:=xs) (k:=gT) rs;have:=fI y aA;rw[aA]; simp[this]
theorem Ek {a b c:List UInt8} (h1:fh a b=true) (ad:fh b c=true) :fh a c=true:=
 (tx _ _).2 (List.lt_trans ((tx _ _).1 h1) ((tx _ _).1 ad))
theorem u7 (a:List UInt8) :fh a a=false:=by
 cases h:fh a a with
 | false=>rfl
 | true=>exact absurd ((tx _ _).1 h) (axa _)
theorem rP {a b c:bn} (h1:eS a b=true) (ad:eS b c=true) :eS a c=true:=by
 unfold eS at *
 by_cases aQ:a.key=b.key
 ·rw[if_pos aQ] at h1;by_cases bF:b.key=c.key
  ·rw[if_pos bF] at ad;rw[if_pos (aQ.trans bF)];simp only[decide_eq_true_eq] at *
   exact ua _ _ _ h1 ad
  ·rw[if_neg bF] at ad;rw[if_neg (fun h=>bF (aQ.symm.trans h)),aQ]; exact ad
 ·rw[if_neg aQ] at h1;by_cases bF:b.key=c.key
  ·rw[if_neg (fun h=>aQ (h.trans bF.symm)),<-bF]; exact h1
  ·rw[if_neg bF] at ad;have:=Ek h1 ad;rw[if_neg (fun h=>by rw[h,u7] at this; cases this)]; exact this
theorem yS (a:bn) :eS a a=false:=by
 unfold eS;rw[if_pos rfl,oU]; rfl
theorem yT {a b:bn} (h1:eS a b=false) (ad:a≠b) :eS b a=true:=by
 unfold eS at *
 by_cases aQ:a.key=b.key
 ·rw[if_pos aQ] at h1;rw[if_pos aQ.symm];have aj:=q5 a.id b.id;have aF:=Cb a.id b.id;simp only[decide_eq_false_iff_not,decide_eq_true_eq] at *
  have aU:cq a.id b.id≠0:=fun h=>ad (by
   have:=su h;cases a; cases b; simp_all)
  omega
 ·rw[if_neg aQ] at h1;rw[if_neg (fun h=>aQ h.symm)];rw[tx];have aj:¬ a.key<b.key:=fun h=>by rw[(tx _ _).2 h] at h1; cases h1
  by_cases h:b.key<a.key
  ·exact h
  ·exact absurd (aw1 (aw8.1 h) (aw8.1 aj)) aQ
theorem J6 {l:List bn} (h:lh l=0) :l.length<=60/\mb l=true:=by
 unfold lh at h;split at h
 ·cases h
 ·split at h
  ·rename_i h1 ad; exact⟨by omega,ad⟩
  ·cases h
theorem Ta {l:List bn} (h:mb l=true) {i:Nat} {a b:bn} (ax:l[i]? = some a) (ag:l[i+1]? = some b) :eS a b=true:=by
 have h1:=(of_decide_eq_true h) (i+1) (atU.1 ag).1;unfold p4 at h1;rw[avB,nZ ax,nZ ag,atY] at h1;simpa using h1.2
theorem FM {l:List bn} (h:mb l=true) :∀ {d i:Nat} {a b:bn},l[i]? = some a->l[i+d+1]? = some b->eS a b=true
 | 0,i,a,b,ax,ag=>Ta h ax ag
 | d+1,i,a,b,ax,ag=>by
  obtain⟨c,ah,_⟩:=bx (l:=l) (k:=i+d+1) (by have:=(atU.1 ag).1; omega);exact rP (FM h ax ah) (Ta h ah ag)
theorem S8 {l:List bn} (h:mb l=true) (x:bn) :Wk l x:=by
 intro i j a b hi ax ag aN;by_cases am:i=j
 ·subst am; rw[ax] at ag; cases ag; exact aN
 ·exact rP (FM h (d:=j - i - 1) ax (by rw[show i+(j - i - 1)+1=j by omega]; exact ag)) aN
def nj (s:eU) (x:bn) :eU × Int:=if rc s.l x then (none,14) else if s.l.length=60 then (none,18) else (some (i0 s.l (jh s.l x) x),0)
def i8 (o:bq) (b:ez) (t:bn) :Bool:=decide (t.key=o.act.key)&&decide (t.id∈b.l)
def N3 (f:List bn->List bn) (s:eU) :eU:=match s with | none=>none | some l=>some (f l)
def fQ (s:eU) (o:bq) (b:ez) :eU × Int:=
 if lh s.l=0 then (if fA o=0 then (if 60<b.l.length then (none,4) else
  (if o.act.kind=2#8 then nj s ⟨o.act.key,dZ o⟩ else if o.act.kind=3#8 then (N3 (fun l=>l.filter fun t=>!i8 o b t) s,0) else (s,0))) else (none,8)) else (none,lh s.l)
theorem SH:hE Tryz.prog 154=true:=by kernel_rfl
theorem alI (o:bq) (b:ez) (ag:fU b) (fb:b.l.length<=1000000) {j bo bb:Nat} {l:ao} {xs:List bn} (aw:g7 xs) (h1:l[bo]? = some (.cells 11 (bd o))) (ad:l[bb]? = some (.cells 1 [aR b])) (Gr:bo≠j) (jo:bb≠j) :
  Ix 154 [.ptr bo 0 11,.ptr bb 0 1] j l xs (i8 o b) :=by
 intro x af l1 ar K aV;apply bm Tryz.func154 [];have cN:l1[bo]? = some (.cells 11 (bd o)) :=by rw[ar.same _ (e1 h1) Gr]; exact h1
 have gE:l1[bb]? = some (.cells 1 [aR b]) :=by rw[ar.same _ (e1 ad) jo]; exact ad
 have gk:=e1 cN;have g0:=e1 gE;have fm:=cM (aw x af);have Gb:=e5 b;have gj:=fE x.id;have dQ:=EG b ag fb x.id (aw x af);have aM:∀ c:a2,(l1++[c])[bo]? = some (.cells 11 (bd o)) :=fun c=>by rw[atV gk]; exact cN
 have aT:∀ c:a2,(l1++[c])[bb]? = some (.cells 1 [aR b]) :=fun c=>by rw[atV g0]; exact gE
 have uf:=aM;simp[bd] at uf;by_cases hk:x.key=o.act.key
 ·simp[b0,uf,aT,hk,fm,atT];refine a1 dQ (by simp[bg,U.closed,Gb,gj]) ?_;simp;have:i8 o b x=decide (x.id∈b.l) :=by unfold i8; rw[decide_eq_true hk,auQ]
  rw[<-this];exact aV _ (by simp) fun b ag=>atV ag
 ·simp[b0,uf,hk];have:i8 o b x=false:=by unfold i8; rw[decide_eq_false hk,auV]
  rw[<-this];exact aV _ (by simp) fun b ag=>atV ag
theorem Ck (o:bq) :((u o.act.kind:Int)=2)<->o.act.kind=2#8:=r4 o.act.kind 2#8
theorem Cl (o:bq) :((u o.act.kind:Int)=3)<->o.act.kind=3#8:=r4 o.act.kind 3#8
theorem G5 (o:bq) :(dZ o).length=32:=by
 unfold dZ; split
 ·exact va _
 ·simp
set_option maxHeartbeats 1000000 in
theorem amH (s:eU) (o:bq) (b:ez) (ak:g7 s.l) (ec:s.l.length<=1000000) (ap:ko o) (ag:fU b) (fb:b.l.length<=1000000) :
  bw Tryz.prog GS 97 [.aJ [dg s],.aJ (bd o),aR b] (.bE [.aJ [dg (fQ s o b).1],.int .i64 (fQ s o b).2]) :=by
 refine bK Tryz.checked.mixed bB ?_;apply bm Tryz.func97 [];have ci:=ss s;have cD:=l6 o;have Gb:=e5 b;have dh:=amX s ak ec;have fm:=Ou o ap;have c7:=G5 o;have x7:(aR b).cells=some [aR b] :=by cases b<;>rfl
 have TK:cz (.au 32) (aR b)=some (.int .i64 b.l.length) :=by simp[aR]
 by_cases aE:lh s.l=0
 ·by_cases h1:fA o=0
  ·obtain⟨D,jk⟩:∃ D,D=(dZ o).map bC:=⟨_,rfl⟩
   have lz:D.length=32:=by rw[jk,auh,c7]
   have Tk:bg D=true:=by rw[jk]; exact lr bC (fun _=>rfl) _
   have rz:bu (rep 32 (.int .u8 0)) 0 D=D:=fi (by rw[lz]; rfl);unfold fz at fm;rw[<-jk] at fm;simp[bd,x7];refine a1 dh (by simp[bg,U.closed,ci]) ?_;simp[aE];refine a1 fm (show bg [U.aJ (bd o)]=true by simp[bg,U.closed,cD]) ?_;simp[h1,lz,rz,TK,atT];by_cases ad:60<b.l.length
   ·have gE:(60:Int)<(b.l.length:Int) :=by omega
    have ax:fQ s o b=(none,4) :=by unfold fQ; rw[if_pos aE,if_pos h1,if_pos ad]
    rw[ax];simp[gE];exact aK rfl rfl
   ·have gE:¬ (60:Int)<(b.l.length:Int) :=by omega
    simp[gE];have kb:=(J6 aE).2;obtain⟨x,af⟩:∃ x:bn,x=⟨o.act.key,dZ o⟩:=⟨_,rfl⟩
    have mU:x.id.length=32:=by rw[af]; exact c7
    have sP:=S8 kb x;have cQ:b0 x=.str o.act.key::D:=by rw[af,jk]; rfl
    have CP:=kZ mU;have jv:=oT x;rw[cQ] at CP;have AA:=H7 CP;refine abq s ak ec (fun aC=>?_) (fun a yA=>?_)
    ·subst aC;by_cases bJ:o.act.kind=2#8
     ·have pm:=(Ck o).2 bJ;have ax:fQ none o b=nj none x:=by unfold fQ; rw[if_pos aE,if_pos h1,if_neg ad,if_pos bJ,af]
      have hN:=X7 none (by simp[g7]) (by simp) x mU sP;have Af:jh (c6.l (none:eU)) x=0:=rfl;have qg:rc (c6.l (none:eU)) x=false:=rfl;have x6:nj none x=(some (i0 [] 0 x),0) :=rfl;rw[Af,qg,cQ] at hN;rw[ax,x6];simp[pm,lz,rz,AA,atT];refine a1 hN (by simp[bg,U.closed,Tk,dg,cI]) ?_;simp[lz,rz,AA,atT];refine ag7 (bv:=7) (x:=x) (by rw[cQ]; rfl) ?_;simp;have hF:∀ l:ao,l[8]? = some (.cells 33 (b0 x))->Rd l (.au 33 8 0 1 1 33) (dg (some (i0 [] 0 x))) :=fun l h=>by
       have h1:=MS (l:=l) (b:=8) (n:=1) (a:=[x]) (by intro t aH; simp at aH; subst aH; exact mU) rfl (by simpa using h);exact h1.q.oA oT (some [x]) rfl rfl
      exact tt (w4 (hF _ (by simp))) (.same _ rfl)
     ·have pm:¬ (u o.act.kind:Int)=2:=fun h=>bJ ((Ck o).1 h)
      by_cases c0:o.act.kind=3#8
      ·have rG:=(Cl o).2 c0;have ax:fQ none o b=(none,0) :=by unfold fQ; rw[if_pos aE,if_pos h1,if_neg ad,if_neg bJ,if_pos c0]; rfl
       rw[ax];simp[pm,rG];refine R4 (j:=100) (xs:=[]) (p:=i8 o b) SH (.nil 100) (by simp[g7]) (by simp) (fun x af=>by cases af) fun r l' az mQ Lh=>?_
       obtain rfl:=i2.1 Lh;have D8:l'[5]? = some (.cells 1 [.aW]) :=by rw[mQ.same 5 (by simp) (by omega)]; rfl
       have iJ:l'[3]? = some (.cells 1 [.aW]) :=by rw[mQ.same 3 (by simp) (by omega)]; rfl
       have Ba:6<=l'.length:=by have:=mQ.le; simpa using this
       have NI:(l'.set 5 (.cells 1 [.aW]))[5]? = some (.cells 1 [.aW]) :=at9 (by omega);have oD:(l'.set 5 (.cells 1 [.aW]))[3]? = some (.cells 1 [.aW]) :=by rw[at5 (by omega)]; exact iJ
       have NH:((l'.set 5 (.cells 1 [.aW])).set 3 (.cells 1 [.aW]))[3]? = some (.cells 1 [.aW]) :=at9 (by simp; omega);simp[D8,NI,oD,NH];exact aK rfl rfl
      ·have rG:¬ (u o.act.kind:Int)=3:=fun h=>c0 ((Cl o).1 h)
       have ax:fQ none o b=(none,0) :=by unfold fQ; rw[if_pos aE,if_pos h1,if_neg ad,if_neg bJ,if_neg c0]
       rw[ax];simp[pm,rG];exact aK rfl rfl
    ·subst yA;obtain⟨n,aC⟩:∃ n,n=a.length:=⟨_,rfl⟩
     have rx:n<=1000000:=by rw[aC]; exact ec
     rw[<-aC];have Lk:∀ (l:ao) (b:Nat),l[b]? = some (.cells (n*33) (a.map b0).flatten)->bG 33 l (.au 33 b 0 n n (n*33)) b (a.map b0) :=fun l b h=>MS ak aC.symm h
     have agt:cz (.au 33) (.au 33 5 0 n n (n*33))=some (.int .i64 n) :=rfl;by_cases bJ:o.act.kind=2#8
     ·have pm:=(Ck o).2 bJ;have ax:fQ (some a) o b=nj (some a) x:=by unfold fQ; rw[if_pos aE,if_pos h1,if_neg ad,if_pos bJ,af]
      have hN:=X7 (some a) ak ec x mU sP;rw[cQ] at hN;rw[ax];simp[pm,lz,rz,AA,atT];refine ia hN (.cons ((Lk _ 5 (by rfl)).m6 oT (some a) rfl rfl) (.cons (.same _ (by rw[cQ] at jv; exact jv)) (.cons (.same _ rfl) .nil))) rfl ?_;cases qg:rc (c6.l (some a:eU)) x with
      | true=>
       have x6:nj (some a) x=(none,14) :=by unfold nj; rw[qg]; rfl
       rw[x6];simp;exact aK rfl rfl
      | false=>
       by_cases kv:n=60
       ·have x6:nj (some a) x=(none,18) :=by
         unfold nj; rw[qg,if_neg (by simp),if_pos (show (c6.l (some a)).length=60 by rw[<-kv,aC]; rfl)]
        rw[x6];have Th:(n:Int)=60:=by omega
        simp[kv];exact aK rfl rfl
       ·have x6:nj (some a) x=(some (i0 a (jh a x) x),0) :=by
         unfold nj; rw[qg,if_neg (by simp),if_neg (show ¬ (c6.l (some a)).length=60 by rw[show (c6.l (some a)).length=n from aC.symm]; exact kv)]; rfl
        rw[x6];have Th:¬ (n:Int)=60:=by omega
        have qa:jh a x<=n:=by rw[aC]; unfold jh; exact (List.takeWhile_sublist _).length_le
        simp[agt,Th,lz,rz,AA,atT];refine ahb (b:=5) (bv:=8) (a:=a) (x:=x) ak mU aC.symm rfl (by rw[cQ]; rfl) (by omega) qa rx ?_;simp;have hF:∀ l:ao,l[9]? = some (.cells ((n+1)*33) ((i0 a (jh a x) x).map b0).flatten)->Rd l (.au 33 9 0 (n+1) (n+1) ((n+1)*33)) (dg (some (i0 a (jh a x) x))) :=fun l h=>by
         have h1:=MS (l:=l) (b:=9) (n:=n+1) (a:=i0 a (jh a x) x) (L6 ak mU) (by rw[L5,aC]) h;exact h1.q.oA oT (some _) rfl rfl
        exact tt (w4 (hF _ (by simp))) (.same _ rfl)
     ·have pm:¬ (u o.act.kind:Int)=2:=fun h=>bJ ((Ck o).1 h)
      by_cases c0:o.act.kind=3#8
      ·have rG:=(Cl o).2 c0;have ax:fQ (some a) o b=(some (a.filter fun t=>!i8 o b t),0) :=by unfold fQ; rw[if_pos aE,if_pos h1,if_neg ad,if_neg bJ,if_pos c0]; rfl
       rw[ax];simp[pm,rG];refine R4 (j:=5) (xs:=a) (p:=i8 o b) SH (Lk _ 5 (by rfl)) ak ec (alI o b ag fb (bo:=1) (bb:=2) ak rfl rfl (by omega) (by omega)) fun r l' az mQ Lh=>?_
       have De:=az.cells;have Ba:l'[6]? = some (.cells 1 [.au 33 5 0 n n (n*33)]) :=by rw[mQ.same 6 (by simp) (by omega)]; rfl
       have iJ:l'[3]? = some (.cells 1 [.aW]) :=by rw[mQ.same 3 (by simp) (by omega)]; rfl
       have Xh:7<=l'.length:=by have:=mQ.le; simpa using this
       have NI:(l'.set 6 (.cells 1 [r]))[6]? = some (.cells 1 [r]) :=at9 (by omega);have oD:(l'.set 6 (.cells 1 [r]))[3]? = some (.cells 1 [.aW]) :=by rw[at5 (by omega)]; exact iJ
       have NH:((l'.set 6 (.cells 1 [r])).set 3 (.cells 1 [r]))[3]? = some (.cells 1 [r]) :=at9 (by simp; omega);simp[De,Ba,NI,oD,NH,bu];have lI:bG 33 ((l'.set 6 (.cells 1 [r])).set 3 (.cells 1 [r])) r 5 ((a.filter fun t=>!i8 o b t).map b0) :=az.frame fun _=>by
        rw[at5 (by omega),at5 (by omega)]
       exact tt (w4 (lI.q.oA oT (some _) (by rw[Lh]; rfl) rfl)) (.same _ rfl)
      ·have rG:¬ (u o.act.kind:Int)=3:=fun h=>c0 ((Cl o).1 h)
       have ax:fQ (some a) o b=(some a,0) :=by unfold fQ; rw[if_pos aE,if_pos h1,if_neg ad,if_neg bJ,if_neg c0]
       rw[ax];simp[pm,rG];exact tt (w4 ((Lk _ 5 (by simp)).q.oA oT (some a) rfl rfl)) (.same _ rfl)
  ·have ax:fQ s o b=(none,8) :=by unfold fQ; rw[if_pos aE,if_neg h1]
   rw[ax];have uE:bu (rep 32 (.int .u8 0)) 0 ((dZ o).map bC)=(dZ o).map bC:=fi (by rw[auh,c7]; rfl);simp[bd,x7];refine a1 dh (by simp[bg,U.closed,ci]) ?_;simp[aE];refine a1 fm (show bg [U.aJ (bd o)]=true by simp[bg,U.closed,cD]) ?_;simp[h1,fz,c7,uE,TK];exact aK rfl rfl
 ·have ax:fQ s o b=(none,lh s.l) :=by unfold fQ; rw[if_neg aE]
  rw[ax];simp[bd,x7];refine a1 dh (by simp[bg,U.closed,ci]) ?_;simp[aE];exact aK rfl rfl
def pt (l:List bn) (x:bn) :Nat->Nat
 | 0=>0
 | i+1=>if eS x (pB l i) then pt l x i else i+1
theorem HK (l:List bn) (x:bn) :∀ i,pt l x i<=i
 | 0=>atW _
 | i+1=>by
  unfold pt;split
  ·have:=HK l x i; omega
  ·exact atW _
def HN (l:List bn) (x:bn) :List bn:=i0 l (pt l x l.length) x
structure anG (l:ao) (a:List bn) (x:bn) (m:Nat) (ae:a8) (l1:ao) :Prop where
 ex:∃ (i:Nat) (v:U),i=m/\i<=a.length/\ae 5=v/\ae 6=.int .i64 (i:Int)/\cn 33 b0 l l1 v (i0 a i x) false/\pt a x i=pt a x a.length
def ES (s:eU) (x:bn) :eU × Int:=if x∈s.l then (none,14) else if s.l.length=60 then (none,18) else (some (HN s.l x),0)
def yM (o:bq) (b:ez) (t:bn) :Bool:=decide (¬ o.act.kind=3#8)||(decide (¬ t.key=o.act.key)||!decide (t.id∈b.l))
def Et (l:List bn) :eU:=match l with | []=>none | a::r=>some (a::r)
theorem Eu (l:List bn) :(Et l).l=l:=by cases l<;>rfl
theorem alL (l:List bn) :(Et l).isNone=l.isEmpty:=by cases l<;>rfl
def sl (s:eU) (o:bq) (b:ez) :eU × Int:=
 if lh s.l=0 then (if fA o=0 then (if 60<b.l.length then (none,4) else
  (if o.act.kind=2#8 then ES s ⟨o.act.key,dZ o⟩ else (Et (s.l.filter (yM o b)),0))) else (none,8)) else (none,lh s.l)
structure ans (s:eU) (x:bn) (L:ao) (k:Nat) (ae:a8) (l:ao) :Prop where
 al:l=L
 a7:ae 3=.ptr 0 0 1
 cd:ae 6=.ptr 2 0 1
 dw:ae 8=.ptr 3 0 33
 gL:ae 9=.int .i64 k
 ak:∀ (j:Nat) (t:bn),j<k->s.l[j]? = some t->t≠x
structure ZW (s:eU) (o:bq) (b:ez) (k:Nat) (l:ao) :Prop where
 ex:∃ v j,l[3]? = some (.cells 1 [v])/\bG 33 l v j (((s.l.take k).filter (yM o b)).map b0)/\(v=.aW\/4<=j)/\cx v=((s.l.take k).filter (yM o b)).isEmpty
 len:4<=l.length
 gf:l[0]? = some (.cells 1 [dg s])
 oy:l[1]? = some (.cells 11 (bd o))
 wX:l[2]? = some (.cells 1 [.aW])
structure anJ (s:eU) (o:bq) (b:ez) (k:Nat) (ae:a8) (l:ao) :Prop where
 aT:ae 2=aR b
 a7:ae 3=.ptr 0 0 1
 bD:ae 4=.ptr 1 0 11
 cd:ae 6=.ptr 2 0 1
 fS:ae 10=.ptr 3 0 1
 h2:ae 11=.int .i64 k
 h:ZW s o b k l
theorem M2 (l:List bn) (x:bn) :∀ (n i:Nat),pt l x n<=i->i<n->eS x (pB l i)=true
 | 0,i,_,h=>by omega
 | n+1,i,h1,ad=>by
  unfold pt at h1;split at h1
  ·rename_i h;by_cases av:i=n
   ·rw[av]; exact h
   ·exact M2 l x n i h1 (by omega)
  ·omega
theorem WZ (l:List bn) (x:bn) :∀ (n i:Nat),pt l x n=i+1->eS x (pB l i)=false
 | 0,i,h=>by cases h
 | n+1,i,h1=>by
  unfold pt at h1;split at h1
  ·exact WZ l x n i h1
  ·rename_i h;obtain rfl:n=i:=by omega
   exact Bool.eq_false_iff.2 h
theorem W0 {l:List bn} {x:bn} (ar:mb l=true) (af:x∉l) :pt l x l.length=jh l x:=by
 refine (Fl x (HK l x l.length) (fun t y aH aA=>?_) (fun y aA=>?_)).symm
 ·obtain⟨i,av⟩:∃ i,pt l x l.length=i+1:=⟨pt l x l.length - 1,by omega⟩
  have dR:=HK l x l.length;obtain⟨z,aw,sZ⟩:=bx (l:=l) (k:=i) (by omega);have h1:=WZ l x l.length i av;rw[nZ aw] at h1;have ad:=yT h1 (fun h=>af (by rw[h]; exact sZ));exact S8 ar x t i y z (by omega) aA aw ad
 ·have aN:=(atU.1 aA).1;have h1:=M2 l x l.length _ (atW _) aN;rw[nZ aA] at h1;cases ad:eS y x with
  | false=>rfl
  | true=>have:=rP h1 ad; rw[yS] at this; cases this
theorem SL {l:List bn} {x:bn} (ar:mb l=true) :rc l x=true<->x∈l:=by
 unfold rc;rw[atY,decide_eq_true_eq,decide_eq_true_eq];constructor
 ·rintro⟨h1,ad⟩;obtain⟨z,aw,sZ⟩:=bx (l:=l) (k:=jh l x) h1;rw[nZ aw] at ad;rw[<-ad]; exact sZ
 ·intro hm;obtain⟨j,ai⟩:=atZ.1 hm;have aN:=(atU.1 ai).1;have ah:=Fl x (l:=l) (p:=j) (by omega) (fun t y aH aA=>FM ar (d:=j - t - 1) aA (by rw[show t+(j - t - 1)+1=j by omega]; exact ai)) (fun y aA=>by
   rw[ai] at aA; obtain rfl:=Option.some.inj aA; exact yS _)
  rw[ah];exact⟨aN,nZ ai⟩
theorem Z8 (s:eU) (x:bn) (ar:mb s.l=true) :(nj s x).1.l=(ES s x).1.l/\(nj s x).2=(ES s x).2:=by
 unfold nj ES;have aD:=SL (x:=x) ar;by_cases hm:x∈s.l
 ·rw[aD.2 hm,if_pos rfl,if_pos hm]; exact⟨rfl,rfl⟩
 ·have aeU:rc s.l x=false:=by
   cases h:rc s.l x with
   | false=>rfl
   | true=>exact absurd (aD.1 h) hm
  rw[aeU,if_neg (by simp),if_neg hm];split
  ·exact⟨rfl,rfl⟩
  ·refine⟨?_,rfl⟩;show i0 s.l (jh s.l x) x=HN s.l x;unfold HN;rw[W0 ar hm]
theorem IX (s:eU) (o:bq) (b:ez) :(fQ s o b).1.l=(sl s o b).1.l/\(fQ s o b).2=(sl s o b).2:=by
 unfold fQ sl;by_cases aE:lh s.l=0
 ·rw[if_pos aE,if_pos aE];have ar:=(J6 aE).2;by_cases h1:fA o=0
  ·rw[if_pos h1,if_pos h1];by_cases ad:60<b.l.length
   ·rw[if_pos ad,if_pos ad]; exact⟨rfl,rfl⟩
   ·rw[if_neg ad,if_neg ad];by_cases bJ:o.act.kind=2#8
    ·rw[if_pos bJ,if_pos bJ]; exact Z8 s _ ar
    ·rw[if_neg bJ,if_neg bJ];by_cases c0:o.act.kind=3#8
     ·rw[if_pos c0];refine⟨?_,rfl⟩;have sN:∀ t,yM o b t=!i8 o b t:=fun t=>by
       unfold yM i8;by_cases aQ:t.key=o.act.key<;>by_cases bF:t.id∈b.l<;>simp[c0,aQ,bF]
      rw[Eu];show (N3 (fun l=>l.filter fun t=>!i8 o b t) s).l=_;cases s with
      | none=>rfl
      | some a=>
       show a.filter (fun t=>!i8 o b t)=a.filter (yM o b);congr 1;funext t; exact (sN t).symm
     ·rw[if_neg c0];refine⟨?_,rfl⟩;rw[Eu];show s.l=_;rw[List.filter_eq_self.2];intro t _;unfold yM; simp[c0]
  ·rw[if_neg h1,if_neg h1]; exact⟨rfl,rfl⟩
 ·rw[if_neg aE,if_neg aE]; exact⟨rfl,rfl⟩
end Op

end Go.cb

namespace Go.cb
open Go Go.Proofs Go.RowKit
set_option maxRecDepth 100000
namespace Op
open g3
theorem aam (s:eU) (o:bq) (b:ez) (ak:g7 s.l) (al:s.l.length<=1000000) :g7 (fQ s o b).1.l/\(fQ s o b).1.l.length<=1000000:=by
 have aE:g7 (c6.l (none:eU))/\(c6.l (none:eU)).length<=1000000:=⟨fun t aH=>(by cases aH),by simp⟩
 unfold fQ;split
 ·rename_i aH;have kv:=(J6 aH).1;split
  ·split
   ·exact aE
   ·split
    ·unfold nj;split
     ·exact aE
     ·split
      ·exact aE
      ·refine⟨L6 ak (G5 o),?_⟩;show (i0 s.l _ _).length<=_;rw[L5]; omega
    ·split
     ·cases s with
      | none=>exact aE
      | some a=>
       refine⟨fun t aH=>ak t (auS.1 aH).1,?_⟩;have:=avm (fun t=>!i8 o b t) a;exact avn this al
     ·exact⟨ak,al⟩
  ·exact aE
 ·exact aE
theorem CF (l:List bn) :mb l=true<->(∀ t∈l,gA t.key=true)/\l.Pairwise fun a b=>eS a b=true:=by
 constructor
 ·intro h;refine⟨fun t aH=>?_,auO.2 fun i j av ai hi=>?_⟩
  ·obtain⟨k,hk⟩:=atZ.1 aH;have h1:=(of_decide_eq_true h) k (atU.1 hk).1;unfold p4 at h1;rw[nZ hk,atY] at h1;exact h1.1
  ·exact FM h (d:=j - i - 1) (atX av) (by rw[show i+(j - i - 1)+1=j by omega]; exact atX ai)
 ·rintro⟨h1,ad⟩;refine J7 fun k hk=>?_
  unfold p4;have aA:=atX hk;rw[nZ aA,h1 _ (awo hk),auQ];by_cases rs:k=0
  ·simp[rs]
  ·have af:=atX (l:=l) (i:=k - 1) (by omega);rw[nZ af,(auO.1 ad) (k - 1) k (by omega) hk (by omega)]; simp
theorem adp {l:List bn} {x:bn} (ar:mb l=true) (af:x∉l) (hk:gA x.key=true) :mb (i0 l (jh l x) x)=true:=by
 obtain⟨h1,ad⟩:=(CF l).1 ar;have ay:=W0 ar af;have dR:=HK l x l.length;refine (CF _).2 ⟨fun t aH=>?_,?_⟩
 ·unfold i0 at aH;rcases aup.1 aH with h | h
  ·exact h1 t (aur h)
  ·rcases auG.1 h with h | h
   ·rw[h]; exact hk
   ·exact h1 t (avC h)
 ·have eC:∀ a∈l.take (jh l x),eS a x=true:=fun a ax=>by
   have aQ:l.takeWhile (fun t=>eS t x)=l.take (jh l x) :=aw3.1 (aws _);rw[<-aQ] at ax;have:=List.all_takeWhile (l:=l) (p:=fun t=>eS t x);exact auK.1 this a ax
  have sM:∀ b∈l.drop (jh l x),eS x b=true:=fun b ag=>by
   obtain⟨j,ai⟩:=atZ.1 ag;rw[auC] at ai;have:=M2 l x l.length (jh l x+j) (by omega) (atU.1 ai).1;rw[nZ ai] at this; exact this
  unfold i0;rw[av4];refine⟨ad.sublist (awk _ _),avV.2 ⟨sM,ad.sublist (List.drop_sublist _ _)⟩,fun a ax b ag=>?_⟩;rcases auG.1 ag with h | h
  ·rw[h]; exact eC a ax
  ·exact rP (eC a ax) (sM b h)
theorem ado {l:List bn} {p:bn->Bool} (ar:mb l=true) :mb (l.filter p)=true:=by
 obtain⟨h1,ad⟩:=(CF l).1 ar;exact (CF _).2 ⟨fun t aH=>h1 t (auS.1 aH).1,ad.sublist avE⟩
theorem Sl {l:List bn} (h1:l.length<=60) (ad:mb l=true) :lh l=0:=by
 unfold lh; rw[if_neg (by omega),ad]; rfl
def adm (o:bq) (b:ez) (t:bn) :Bool:=decide (o.act.kind=3#8)&&i8 o b t
structure anw (s:eU) (o:bq) (b:ez) (t:List bn) :Prop where
 ok:lh t=0
 mem:∀ x∈s.l,decide (x∈t)=!adm o b x
 new:∀ x∈t,x∉s.l->o.act.kind=2#8/\x=⟨o.act.key,dZ o⟩
 cnt:∃ p:Nat,(o.act.kind=2#8->p<t.length/\∀ (i:Nat) (y:bn),t[i]? = some y->(y∉s.l<->i=p))/\(o.act.kind≠2#8->∀ x∈t,x∈s.l)
theorem ag2 {l:List bn} {i:Nat} {x y:bn}:y∈i0 l i x<->y=x\/y∈l:=by
 unfold i0;rw[aup,auG];have:y∈l<->y∈l.take i\/y∈l.drop i:=by rw[<-aup,auz]
 rw[this];constructor
 ·rintro (h | h | h)
  ·exact .inr (.inl h)
  ·exact .inl h
  ·exact .inr (.inr h)
 ·rintro (h | h | h)
  ·exact .inr (.inl h)
  ·exact .inl h
  ·exact .inr (.inr h)
end Op

end Go.cb

namespace Go.cb
open Go Go.Proofs
set_option maxRecDepth 100000
namespace Op
open g3
structure Iv (g:bi) (i:Nat) (out:List (List B)) :Prop where
 mem:∀ (j:Nat) (p:List B),g.ids.l[j]? = some p->(p∈out<->jc g.ids.l g.ops.l (c4 g.ops.l i) j)
 sub:∀ p∈out,p∈g.ids.l
 len:out.length<=g.ids.l.length
theorem Z4 (g:bi) (ar:ft g) (V:kU g) {i:Nat} {x:List B} (av:g.ids.l[i]? = some x) :∃ out,Iv g i out/\bw Tryz.prog GS 101 [cS g,.aJ (aS x)] (aR (ew out)) :=by
 obtain⟨r,l',Al,dR,out,h1,ad,aj,k6⟩:=Z3 g ar V av;exact⟨out,⟨h1,ad,aj⟩,bK Tryz.checked.mixed bB ⟨r,l',Al,dR,k6⟩⟩
open Classical in
noncomputable def iz (g:bi) (i:Nat) :List (List B) :=if h:∃ out,Iv g i out/\bw Tryz.prog GS 101 [cS g,.aJ (aS (b2 g.ids.l i))] (aR (ew out)) then h.choose else []
theorem zy (g:bi) (ar:ft g) (V:kU g) {i:Nat} {x:List B} (av:g.ids.l[i]? = some x) :Iv g i (iz g i)/\bw Tryz.prog GS 101 [cS g,.aJ (aS x)] (aR (ew (iz g i))) :=by
 have h:=Z4 g ar V av;have af:b2 g.ids.l i=x:=fK av;rw[<-af] at h ⊢;unfold iz;rw[dif_pos h];exact h.choose_spec
def aki (o:bq) (k:List UInt8) :Bool:=decide (o.act.kind=3#8)&&decide (o.act.key=k)
def CC (g:bi) (A:Nat->List (List B)) (k:List UInt8) (x:List B) :Nat->Bool
 | 0=>false
 | m+1=>CC g A k x m||(match g.ops.l[m]? with | some o=>aki o k&&decide (x∈A m) | none=>false)
def alC (g:bi) (A:Nat->List (List B)) (o:bq) (x:List B) :Bool:=decide (o.act.kind=2#8)&&!CC g A o.act.key x g.ops.l.length
def DS (g:bi) (A:Nat->List (List B)) :Nat->eU
 | 0=>none
 | m+1=>match g.ops.l[m]?,g.ids.l[m]? with
  | some o,some x=>if alC g A o x=true then some (HN (DS g A m).l ⟨o.act.key,x⟩) else DS g A m
  | _,_=>DS g A m
def Sc (L:List (List B)) :List U:=[aR (ew L)]
theorem RF (s:eU) :(dg s).cells=some [dg s] :=by cases s<;>rfl
structure anD (g:bi) (k:Nat) (ae:a8) (l:ao) :Prop where
 aM:ae 1=.ptr 0 0 2
 aT:ae 2=.ptr 1 0 1
 a7:ae 3=.int .i64 0
 bh:ae 5=.int .i64 k
 td:∃ v,ae 4=v/\cn 1 Sc [.cells 2 [aR g.ids,bZ g.ops],.cells 1 [.aW]] l v ((List.range k).map (iz g)) (decide (k=0))
structure anE (g:bi) (BH:ao) (v4:U) (k:Nat) (ae:a8) (l:ao) :Prop where
 aM:ae 1=.ptr 0 0 2
 aT:ae 2=.ptr 1 0 1
 a7:ae 3=.int .i64 0
 bD:ae 4=v4
 cd:ae 6=.ptr BH.length 0 1
 dC:ae 7=.int .i64 k
 ex:∃ m,l=BH++.cells 1 [dg (DS g (iz g) k)] ::m
structure anF (g:bi) (BH:ao) (v4:U) (i:Nat) (o:bq) (x:List B) (b:Nat) (k:Nat) (ae:a8) (l:ao) :Prop where
 aM:ae 1=.ptr 0 0 2
 aT:ae 2=.ptr 1 0 1
 a7:ae 3=.int .i64 0
 bD:ae 4=v4
 cd:ae 6=.ptr BH.length 0 1
 dC:ae 7=.int .i64 i
 dw:ae 8=.ptr b 0 6
 gL:ae 9=.bool (CC g (iz g) o.act.key x k)
 fS:ae 10=.int .i64 k
 ex:∃ m,l=BH++.cells 1 [dg (DS g (iz g) i)] ::m/\l[b]? = some (.cells 6 (lv o.act))
theorem EW (g:bi) (i:Nat) :(iO g i).length<=g.ids.l.length:=Hq _ _ _
theorem EX {g:bi} {i:Nat} {x:List B} (h:x∈iO g i) :x∈g.ids.l:=by
 unfold iO at h;obtain⟨j,ai,_,rfl⟩:=Wi.1 h;obtain⟨y,aA,cm⟩:=bx ai;rw[fK aA]; exact cm
theorem ade {α:Type} {l:List α} {i:Nat} {d x:α} (h:l[i]? = some x) :l.getD i d=x:=by rw[aug,h]; rfl
open Classical in
theorem zA {g:bi} (ai:iL g.ids.l) {i j:Nat} {p:List B} (ay:g.ids.l[j]? = some p) :p∈iO g i<->jc g.ids.l g.ops.l (c4 g.ops.l i) j:=by
 have az:∀ t,t<g.ids.l.length->(px g (c4 g.ops.l i)).getD t false=decide (jc g.ids.l g.ops.l (c4 g.ops.l i) t) :=fun t aH=>by
  apply ade;unfold px;rw[at0,auw aH]; rfl
 unfold iO;rw[Wi];constructor
 ·rintro⟨t,aH,h1,ad⟩;rw[az t aH] at h1;obtain⟨y,aA,_⟩:=bx aH;rw[fK aA] at ad;subst ad;rw[ai j t y ay aA];exact of_decide_eq_true h1
 ·intro h;have al:=(atU.1 ay).1;exact⟨j,al,by rw[az j al]; exact decide_eq_true h,fK ay⟩
structure II (g:bi) :Prop where
 ids:fU g.ids
 ops:∀ o∈g.ops.l,IJ o
theorem amb {ts:List TypeId} {cs:List U} (h:mE Tryz.prog (25::ts) cs) :∃ (g:bi) (cs' : List U),cs=cS g::cs'/\II g/\mE Tryz.prog ts cs':=by
 obtain⟨c,cs',rfl,h1,ad⟩:=YR h;obtain⟨cs,rfl,aj⟩:=amd (by kernel_rfl) h1;have aF:=Ey (fs:=[22,23]) (by kernel_rfl) aj;obtain⟨i,_,rfl,av,aU⟩:=YU aF;obtain⟨s,_,rfl,_,ap,bt⟩:=Oh (e:=82) (z:=11) (enc:=bd) (Q:=IJ) (by kernel_rfl) (by kernel_rfl) (fun r az=>by
  obtain⟨x,_,rfl,af,aj⟩:=ami az;rw[Ig aj,auu];exact⟨x,rfl,af⟩) aU
 rw[Ig bt];exact⟨⟨i,s⟩,cs',rfl,⟨av,ap⟩,ad⟩
theorem aiT {g:bi} (h:II g) (ar:v6 g=false) :ft g:=by
 unfold v6 at ar;simp only[Bool.or_eq_false_iff,decide_eq_false_iff_not] at ar;obtain⟨h1,ad,aj,aF⟩:=ar;refine⟨h.ids,fun o ap=>?_,by omega,by omega⟩;have aU:¬ uk o=true:=fun aG=>h1 ⟨o,by rw[atT (by omega)]; exact ap,aG⟩
 unfold uk at aU;simp only[avT,decide_eq_true_eq,not_or] at aU;have aH:=h.ops o ap;exact⟨aH.ids,by omega,⟨aH.lR,aH.ow,by omega⟩,by omega⟩
end Op

end Go.cb

namespace Go.Proofs
open Go.Shelf
set_option maxRecDepth 100000
def Tryz.ala:Go.Shelf.Ren:=⟨fun | 6=>99 | 15=>135 | 14=>156 | 28=>188 | 29=>189 | 20=>210 | 21=>211 | 22=>212 | 23=>213 | 24=>214 | 25=>215 | 26=>216 | 27=>217 | 46=>248 | 47=>229 | 48=>230 | 49=>249 | 50=>250 | 57=>263 | n=>n,fun | 22=>22 | 24=>48 | 25=>115 | 3=>3 | 39=>194 | 0=>0 | 53=>76 | 55=>40 | 4=>4 | 46=>234 | 45=>233 | 50=>152 | 5=>5 | 9=>9 | 66=>269 | 70=>273 | 76=>291 | 77=>292 | n=>n,fun | n=>n⟩
theorem Tryz.ak8:Go.Proofs.SlLaysF0.n6 Tryz.prog Tryz.ala where
 mixed:=by kernel_rfl
 f6:=⟨ "slices.SortFunc[[]braid/api.ID,braid/api.ID]",by decide,Tryz.func99.trans (congrArg some (by kernel_rfl))⟩
 f14:=⟨ "slices.pdqsortCmpFunc[braid/api.ID]",by decide,Tryz.func156.trans (congrArg some (by kernel_rfl))⟩
 f15:=Tryz.func135.trans (congrArg some (by kernel_rfl))
 f20:=⟨ "slices.insertionSortCmpFunc[braid/api.ID]",by decide,Tryz.func210.trans (congrArg some (by kernel_rfl))⟩
 f21:=⟨ "slices.heapSortCmpFunc[braid/api.ID]",by decide,Tryz.func211.trans (congrArg some (by kernel_rfl))⟩
 f22:=⟨ "slices.breakPatternsCmpFunc[braid/api.ID]",by decide,Tryz.func212.trans (congrArg some (by kernel_rfl))⟩
 f23:=⟨ "slices.choosePivotCmpFunc[braid/api.ID]",by decide,Tryz.func213.trans (congrArg some (by kernel_rfl))⟩
 f24:=⟨ "slices.reverseRangeCmpFunc[braid/api.ID]",by decide,Tryz.func214.trans (congrArg some (by kernel_rfl))⟩
 f25:=⟨ "slices.partialInsertionSortCmpFunc[braid/api.ID]",by decide,Tryz.func215.trans (congrArg some (by kernel_rfl))⟩
 f26:=⟨ "slices.partitionEqualCmpFunc[braid/api.ID]",by decide,Tryz.func216.trans (congrArg some (by kernel_rfl))⟩
 f27:=⟨ "slices.partitionCmpFunc[braid/api.ID]",by decide,Tryz.func217.trans (congrArg some (by kernel_rfl))⟩
 f28:=Tryz.func188.trans (congrArg some (by kernel_rfl))
 f29:=Tryz.func189.trans (congrArg some (by kernel_rfl))
 f46:=⟨ "slices.siftDownCmpFunc[braid/api.ID]",by decide,Tryz.func248.trans (congrArg some (by kernel_rfl))⟩
 f47:=Tryz.func229.trans (congrArg some (by kernel_rfl))
 f48:=Tryz.func230.trans (congrArg some (by kernel_rfl))
 f49:=⟨ "slices.medianAdjacentCmpFunc[braid/api.ID]",by decide,Tryz.func249.trans (congrArg some (by kernel_rfl))⟩
 f50:=⟨ "slices.medianCmpFunc[braid/api.ID]",by decide,Tryz.func250.trans (congrArg some (by kernel_rfl))⟩
 f57:=⟨ "slices.order2CmpFunc[braid/api.ID]",by decide,Tryz.func263.trans (congrArg some (by kernel_rfl))⟩
 t0:=Tryz.underlying0
 a0:=Tryz.isAgg0
 z0:=Tryz.sizeOf0
 v0:=Tryz.zeroValue0
 t3:=Tryz.underlying3
 a3:=Tryz.isAgg3
 z3:=Tryz.sizeOf3
 v3:=Tryz.zeroValue3
 t4:=Tryz.underlying4
 a4:=Tryz.isAgg4
 z4:=Tryz.sizeOf4
 v4:=Tryz.zeroValue4
 t5:=Tryz.underlying5
 a5:=Tryz.isAgg5
 z5:=Tryz.sizeOf5
 v5:=Tryz.zeroValue5
 t9:=Tryz.underlying9
 a9:=Tryz.isAgg9
 z9:=Tryz.sizeOf9
 v9:=Tryz.zeroValue9
 t22:=Tryz.underlying22
 a22:=Tryz.isAgg22
 z22:=Tryz.sizeOf22
 v22:=Tryz.zeroValue22
 t25:=Tryz.underlying115
 a25:=Tryz.isAgg115
 z25:=Tryz.sizeOf115
 v25:=Tryz.zeroValue115
 t39:=Tryz.underlying194
 a39:=Tryz.isAgg194
 z39:=Tryz.sizeOf194
 v39:=Tryz.zeroValue194
 t45:=Tryz.underlying233
 a45:=Tryz.isAgg233
 z45:=Tryz.sizeOf233
 v45:=Tryz.zeroValue233
 t46:=Tryz.underlying234
 a46:=Tryz.isAgg234
 z46:=Tryz.sizeOf234
 v46:=Tryz.zeroValue234
 t50:=Tryz.underlying152
 a50:=Tryz.isAgg152
 z50:=Tryz.sizeOf152
 v50:=Tryz.zeroValue152
 t53:=Tryz.underlying76
 a53:=Tryz.isAgg76
 z53:=Tryz.sizeOf76
 v53:=Tryz.zeroValue76
 t55:=Tryz.underlying40
 a55:=Tryz.isAgg40
 z55:=Tryz.sizeOf40
 v55:=Tryz.zeroValue40
 t66:=Tryz.underlying269
 a66:=Tryz.isAgg269
 z66:=Tryz.sizeOf269
 v66:=Tryz.zeroValue269
 t70:=Tryz.underlying273
 a70:=Tryz.isAgg273
 z70:=Tryz.sizeOf273
 v70:=Tryz.zeroValue273
 t76:=Tryz.underlying291
 a76:=Tryz.isAgg291
 z76:=Tryz.sizeOf291
 v76:=Tryz.zeroValue291
 t77:=Tryz.underlying292
 a77:=Tryz.isAgg292
 z77:=Tryz.sizeOf292
 v77:=Tryz.zeroValue292
end Go.Proofs

namespace Go.cb
open Go Go.Proofs Go.Sort Go.Shelf
set_option maxRecDepth 100000
open g3
abbrev vl:={l:List B // l.length=32}
instance:Inhabited vl:=⟨⟨List.replicate 32 0#8,by simp⟩⟩
def zT (x:vl) :List U:=x.1.map bC
def vN (x y:vl) :Int:=cq x.1 y.1
theorem YA:SWO (ltOf vN) where
 irrefl x:=N5.irrefl x.1
 trans x y z:=N5.trans x.1 y.1 z.1
 ntrans x y z:=N5.ntrans x.1 y.1 z.1
theorem aai (x y:vl) (h1:ltOf vN x y=false) (ad:ltOf vN y x=false) :x=y:=Subtype.ext (aaj x.1 y.1 h1 ad)
theorem Se (x:vl) :(zT x).length=32:=by unfold zT; rw[auh,x.2]
theorem ab5 (x:vl) :∀ c∈zT x,y1 c=true:=fun c ah=>by obtain⟨b,_,rfl⟩:=auo.1 ah; rfl
theorem ak9 {g:Nat} (JC:∀ args w,(callFunc g args).run Tryz.prog w=.ok (.enter g args) w) :EO Tryz.prog 99 g 32 (fun x=>(zT x).map valOf) vN:=
 fun blk off cap d w rn hH hblk g5=>
  AnyQ.slices_SortFunc Tryz.ak8 32 (by intro w; exact Tryz.isAgg48 w) (by intro w; exact Tryz.sizeOf48 w) _ (fun x=>by rw[auh,Se]) (fun x v aq=>by obtain⟨c,_,rfl⟩:=auo.1 aq; exact Ij c) vN YA g #[] blk off cap d w JC rn hH hblk g5
end Go.cb

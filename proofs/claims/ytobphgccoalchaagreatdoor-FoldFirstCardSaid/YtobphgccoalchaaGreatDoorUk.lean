/-
  Graphs: what a search from a list of ids marks (plain).
-/
import Derived.Test.YtobphgccoalchaaGreatDoorUj
import Derived.Sort.Walk0
import Derived.Shelf.Spec.SlicesInsertGrow
import Derived.Test.YtobphgccoalchaaGreatDoorRows
import Derived.Shelf.SlSortCmp.WholeK
import Derived.Shelf.SlGeneric
set_option linter.unusedVariables false
set_option linter.unusedSimpArgs false
set_option linter.unnecessarySimpa false
namespace Go.cb
open Go Go.Proofs
set_option maxRecDepth 100000
namespace Op
open gT
inductive ii (ids:List (List B)) (ops:List bm) (L:List (List B)) :Nat->Prop
 | start (p:List B) (j:Nat) (ay:p∈L) (ai:ids[j]? = some p) :ii ids ops L j
 | step (i:Nat) (p:List B) (j:Nat) (h:ii ids ops L i) (ay:p∈cT ops i) (ai:ids[j]? = some p) :ii ids ops L j
theorem ii.mono {ids:List (List B)} {ops:List bm} {L z6:List (List B)} (ak:∀ p∈L,p∈z6) {i:Nat} (h:ii ids ops L i) :ii ids ops z6 i:=by
 induction h with
 | start p j ay ai=>exact .start p j (ak p ay) ai
 | step i p j _ ay ai aJ=>exact .step i p j aJ ay ai
theorem ii.under {ids:List (List B)} {ops:List bm} {L:List (List B)} {i:Nat} (av:ii ids ops L i) {j:Nat} (h:ii ids ops (cT ops i) j) :ii ids ops L j:=by
 induction h with
 | start p j ay ai=>exact .step i p j av ay ai
 | step fU p j _ ay ai aJ=>exact .step fU p j aJ ay ai
structure qd (ids:List (List B)) (ops:List bm) (L:List (List B)) (S ij:List Bool) :Prop where
 len:ij.length=S.length
 mono:∀ (i:Nat),S[i]? = some true->ij[i]? = some true
 st:∀ p∈L,∀ (j:Nat),ids[j]? = some p->ij[j]? = some true
 new:∀ (i:Nat),ij[i]? = some true->S[i]? = some true\/(ii ids ops L i/\∀ p∈cT ops i,∀ (j:Nat),ids[j]? = some p->ij[j]? = some true)
theorem aav (ids:List (List B)) (ops:List bm) (S:List Bool) :qd ids ops [] S S:=⟨rfl,fun _ h=>h,fun p ay=>by simp at ay,fun _ h=>.inl h⟩
theorem aaw {ids:List (List B)} {ops:List bm} {L:List (List B)} {p:List B} {S PT kp:List Bool} (h1:qd ids ops L S PT) (ad:qd ids ops [p] PT kp) :qd ids ops (L++[p]) S kp:=by
 refine⟨ad.len.trans h1.len,fun i h=>ad.mono i (h1.mono i h),fun q aW j ai=>?_,fun i h=>?_⟩
 ·rw[awl] at aW;rcases aW with aW | aW
  ·exact ad.mono j (h1.st q aW j ai)
  ·exact ad.st q aW j ai
 ·rcases ad.new i h with aj | ⟨aj,aE⟩
  ·rcases h1.new i aj with aX | ⟨aX,bw⟩
   ·exact .inl aX
   ·exact .inr ⟨aX.mono fun q aW=>by simp[aW],fun q aW j ai=>ad.mono j (bw q aW j ai)⟩
  ·exact .inr ⟨aj.mono fun q aW=>by simp at aW; simp[aW],aE⟩
theorem aoA {ids:List (List B)} {ops:List bm} (dz:hW ids) {p:List B} {i:Nat} {S:List Bool} (av:ids[i]? = some p) (ak:S[i]? = some true) :qd ids ops [p] S S:=by
 refine⟨rfl,fun _ h=>h,fun q aW j ai=>?_,fun _ h=>.inl h⟩;rw[awd] at aW;subst aW;rw[dz j i q ai av];exact ak
theorem aoB {ids:List (List B)} {ops:List bm} (dz:hW ids) {p:List B} {i:Nat} {S kp:List Bool} (av:ids[i]? = some p) (al:i<S.length) (h:qd ids ops (cT ops i) (S.set i true) kp) :qd ids ops [p] S kp:=by
 have hit:kp[i]? = some true:=h.mono i (av3 al);have Wi:ii ids ops [p] i:=.start p i (by simp) av;refine⟨by rw[h.len]; simp,fun j ai=>h.mono j ?_,fun q aW j ai=>?_,fun j ai=>?_⟩
 ·by_cases hu:i=j
  ·subst hu; exact av3 al
  ·rw[av0 hu]; exact ai
 ·rw[awd] at aW;subst aW;rw[dz j i q ai av];exact hit
 ·rcases h.new j ai with h1 | ⟨h1,ad⟩
  ·by_cases hu:i=j
   ·subst hu;exact .inr ⟨Wi,fun q aW t aI=>h.st q aW t aI⟩
   ·rw[av0 hu] at h1;exact .inl h1
  ·exact .inr ⟨Wi.under h1,ad⟩
theorem aoz {ids:List (List B)} {ops:List bm} {L:List (List B)} {n:Nat} {S:List Bool} (h:qd ids ops L (List.replicate n false) S) (i:Nat) :S[i]? = some true<->ii ids ops L i:=by
 have dM:∀ (j:Nat),(List.replicate n false)[j]?≠some true:=fun j ai=>by
  have:=axe (avY ai);cases this
 constructor
 ·intro av;rcases h.new i av with h1 | ⟨h1,_⟩
  ·exact absurd h1 (dM i)
  ·exact h1
 ·intro av
  induction av with
  | start p j ay ai=>exact h.st p ay j ai
  | step i p j _ ay ai aJ=>
   rcases h.new i aJ with h1 | ⟨_,ad⟩
   ·exact absurd h1 (dM i)
   ·exact ad p ay j ai
structure pj (g:bc) (fx lq lp kO g2 fV:Nat) (S:List Bool) (l:am) :Prop where
 a:l[fx]? = some (.cells 1 [.mp fV])
 s:l[lq]? = some (.cells 1 [.ar 1 g2 0 g.ids.l.length g.ids.l.length g.ids.l.length])
 Gt:l[lp]? = some (.cells 2 [aK g.ids,bB g.ops])
 v:l[kO]? = some (.cells 1 [.fn 179 [] [.ptr fx 0 1,.ptr lq 0 1,.ptr lp 0 2,.ptr kO 0 1]])
 m:nK l fV g.ids.l
 r:l[g2]? = some (.cells g.ids.l.length (S.map U.bool))
 n:S.length=g.ids.l.length
 ne:g2≠fx/\g2≠lq/\g2≠lp/\g2≠kO/\g2≠fV
theorem pj.frame {g:bc} {fx lq lp kO g2 fV:Nat} {S:List Bool} {l l' : am} (h:pj g fx lq lp kO g2 fV S l) (aF:∀ c,c<l.length->l'[c]? = l[c]?) :pj g fx lq lp kO g2 fV S l':=by
 have lt:∀ {c:Nat} {x:a7},l[c]? = some x->c<l.length:=fun h=>(avP.1 h).1
 exact⟨(aF _ (lt h.a)).trans h.a,(aF _ (lt h.s)).trans h.s,(aF _ (lt h.Gt)).trans h.Gt,(aF _ (lt h.v)).trans h.v,h.m.frame (aF _ h.m.lt),(aF _ (lt h.r)).trans h.r,h.n,h.ne⟩
theorem pj.more {g:bc} {fx lq lp kO g2 fV:Nat} {S:List Bool} {l:am} (h:pj g fx lq lp kO g2 fV S l) (x:am) :pj g fx lq lp kO g2 fV S (l++x) :=h.frame fun c ah=>avQ ah
theorem pj.set {g:bc} {fx lq lp kO g2 fV:Nat} {S:List Bool} {l:am} (h:pj g fx lq lp kO g2 fV S l) (i:Nat) :pj g fx lq lp kO g2 fV (S.set i true) (l.set g2 (.cells g.ids.l.length ((S.set i true).map U.bool))) :=by
 obtain⟨mj,o5,vw,tE,ml⟩:=h.ne;have al:g2<l.length:=(avP.1 h.r).1;exact⟨by rw[av0 mj]; exact h.a,by rw[av0 o5]; exact h.s,by rw[av0 vw]; exact h.Gt,by rw[av0 tE]; exact h.v,h.m.frame (av0 ml),av3 al,by simpa using h.n,h.ne⟩
theorem TV:hQ Tryz.prog 179=true:=by kernel_rfl
set_option maxHeartbeats 4000000 in
theorem aou (g:bc) (aq:et g) (V:iE g) (fx lq lp kO g2 fV:Nat) :∀ (m:Nat) (S:List Bool) (l:am) (p:List B) (i:Nat) (K:U->am->Prop),S.count false<=m->pj g fx lq lp kO g2 fV S l->g.ids.l[i]? = some p->
  (∀ l' ij,qd g.ids.l g.ops.l [p] S ij->pj g fx lq lp kO g2 fV ij l'->(∀ c,c<l.length->c≠g2->l'[c]? = l[c]?)->l.length<=l'.length->ij.count false<=S.count false->K (.bG []) l')->
  c7 Tryz.prog GS 179 [.aH (aO p),.ptr fx 0 1,.ptr lq 0 1,.ptr lp 0 2,.ptr kO 0 1] l (c:=⟨K⟩) :=by
 have dz:=jP V.c9;intro m
 induction m using Nat.strongRecOn with
 | _ m aJ=>
  intro S l p i K hm wR av aY;apply bp Tryz.func179 [];have pG:=avY av;have y2:=aq.ids p pG;have c3:=(avP.1 av).1;have hS:=(wR.more [.cells 32 (aO p)]).m.look dz y2 av;have bf:=cC y2;obtain⟨X,cv⟩:∃ X,X=aO p:=⟨_,rfl⟩
  rw[<-cv] at hS bf ⊢;have yB:=wR.more [.cells 32 X];obtain⟨l1,gC⟩:∃ l1,l1=l++[a7.cells 32 X] :=⟨_,rfl⟩
  rw[<-gC] at yB hS;have af8:l1[l.length]? = some (.cells 32 X) :=by rw[gC]; simp
  have dW:eW l1 (.ptr fx 0 1)=some ([.mp fV],0) :=by simp only[eW,yB.a]; simp
  have fu:eW l1 (.ptr lq 0 1)=some ([.ar 1 g2 0 g.ids.l.length g.ids.l.length g.ids.l.length],0) :=by simp only[eW,yB.s]; simp
  have tQ:eW l1 (.ptr l.length 0 32)=some (X,0) :=by simp only[eW,af8]; simp
  have tR:eW l1 (.ptr g2 i g.ids.l.length)=some (S.map U.bool,i) :=by simp only[eW,yB.r]; simp
  have Vs:ck (.ar 1) (.ar 1 g2 0 g.ids.l.length g.ids.l.length g.ids.l.length) (.int .i64 (i:Int))=some (.ptr g2 i g.ids.l.length) :=by
   simp only[ck];rw[if_pos ⟨trivial,by omega,by omega⟩];simp
  obtain⟨b,ag,_⟩:=bx (l:=S) (k:=i) (by rw[wR.n]; exact c3);have arV:(S.map U.bool)[i]? = some (.bool b) :=by rw[avV,ag]; rfl
  have L9:l1.length=l.length+1:=by rw[gC]; simp
  have Vj:∀ c,c<l.length->c≠g2->l1[c]? = l[c]?:=fun c ah _=>by rw[gC,avQ ah]
  cases b with
  | true=>
   simp[bf,<-gC,dW,fu,tQ,hS,Vs,tR,ag,avO];exact aY l1 S (aoA dz av ag) yB Vj (by omega) (avR _)
  | false=>
   have ci:kH 1 l1 (.ptr g2 i g.ids.l.length) (.bool true)=some (l1.set g2 (.cells g.ids.l.length ((S.set i true).map U.bool))) :=by
    simp only[kH,U.cells,yB.r];rw[if_pos (by simp; omega)];have ad:bt (S.map U.bool) i [U.bool true]=(S.set i true).map U.bool:=pa U.bool S i true (by rw[wR.n]; exact c3);rw[ad]
   have Lr:=yB.set i;obtain⟨b1,hR⟩:∃ b1,b1=l1.set g2 (.cells g.ids.l.length ((S.set i true).map U.bool)) :=⟨_,rfl⟩
   rw[<-hR] at ci Lr;have nx:eW b1 (.ptr lp 1 2)=some ([aK g.ids,bB g.ops],1) :=by simp only[eW,Lr.Gt]; simp
   obtain⟨o,ap,dd⟩:=bx (l:=g.ops.l) (k:=i) (by rw[<-V.len]; exact c3);have bN:ck (.ar 11) (bB g.ops) (.int .i64 (i:Int))=some (.b3 (a2 o) 0) :=by simp[bB,ap]
   have n2:(a2 o).length=11:=rfl;have ht:(a2 o)[1]? = some (aK o.br) :=rfl;have jf:=aq.ops o dd;have gq:=jf.len;have oe:cK (.ar 32) (aK o.br)=some (.int .i64 o.br.l.length) :=by simp[aK]
   obtain⟨O,du⟩:∃ O,O=a2 o:=⟨_,rfl⟩
   rw[<-du] at bN n2 ht;have agA:∀ c,c<l.length->c≠g2->b1[c]? = l[c]?:=fun c ah bI=>by rw[hR,av0 (Ne.symm bI)]; exact Vj c ah bI
   have Ma:l.length<=b1.length:=by rw[hR]; simp; omega
   have arQ:(S.set i true).count false+1<=S.count false:=by
    have agQ:i<S.length:=by rw[wR.n]; exact c3
    have l0:S[i]=false:=(avP.1 ag).2;have jL:0<S.count false:=ayD.2 (avY ag);rw[List.count_set agQ,l0];simp; omega
   simp[bf,<-gC,dW,fu,tQ,hS,Vs,tR,ag,avO,ci,nx,bN,ht,oe];refine cI o.br.l.length (fun q ae l'=>ae 4=.ptr kO 0 1/\ae 24=aK o.br/\ae 25=.int .i64 o.br.l.length/\ae 26=.int .i64 q/\∃ ij,qd g.ids.l g.ops.l (o.br.l.take q) (S.set i true) ij/\pj g fx lq lp kO g2 fV ij l' ∧
    (∀ c,c<l.length->c≠g2->l'[c]? = l[c]?)/\l.length<=l'.length/\ij.count false<=(S.set i true).count false) ?_ ?_
   ·rintro q ae l' aW ⟨bA,nd,kR,mE,ij,yD,yA,kW,pE,te⟩;obtain⟨ae,rfl⟩:=i0 bA nd kR mE;clear bA nd kR mE;by_cases l8:q<o.br.l.length
    ·obtain⟨bV,gp,DX⟩:=bx l8;obtain⟨j,ai⟩:=avT.1 (V.Iv o dd bV DX);have aR:IntKind.i64.wrap ((q:Int)+1)=((q+1:Nat) :Int) :=by rw[IntKind.wrap_i64]; omega
     have ir:ck (.ar 32) (aK o.br) (.int .i64 (q:Int))=some (.b3 (aO bV) 0) :=by simp[aK,gp]
     have vh:=cC ((aq.ops o dd).ids bV DX);have yC:=yA.more [.cells 32 (aO bV)];have xB:eW (l'++[a7.cells 32 (aO bV)]) (.ptr kO 0 1)=some ([.fn 179 [] [.ptr fx 0 1,.ptr lq 0 1,.ptr lp 0 2,.ptr kO 0 1]],0) :=by simp only[eW,yC.v]; simp
     have j6:=aJ (m - 1) (by omega) ij (l'++[a7.cells 32 (aO bV)]) bV j;obtain⟨uw,Lt⟩:∃ uw,uw=aO bV:=⟨_,rfl⟩
     rw[<-Lt] at ir vh yC xB j6;have j8:bt (rep 32 (.int .u8 0)) 0 uw=uw:=eM (by rw[vh]; rfl);simp[l8,ir,vh,j8,avO,xB];refine⟨TV,j6 _ (by omega) yC ai ?_⟩;intro fr JF b2 w2 eh oH rj;simp[l8,aR];refine⟨JF,?_,w2,fun c ah bI=>?_,by simp at oH; omega,by omega⟩
     ·rw[av7,gp];exact aaw yD b2
     ·rw[eh c (by simp; omega) bI,avQ (by omega)];exact kW c ah bI
    ·have qP:q=o.br.l.length:=by omega
     rw[qP,awi] at yD;simp[l8];exact aY l' ij (aoB dz av (by rw[wR.n]; exact c3) (by rw[lI ap]; exact yD)) yA kW pE (by omega)
   ·simp;exact⟨S.set i true,aav _ _ _,Lr,agA,Ma,avR _⟩
open Classical in
noncomputable def pV (g:bc) (L:List (List B)) :List Bool:=(List.range g.ids.l.length).map fun i=>decide (ii g.ids.l g.ops.l L i)
theorem Ol (g:bc) (L:List (List B)) :(pV g L).length=g.ids.l.length:=by simp[pV]
open Classical in
theorem alU {g:bc} {L:List (List B)} {S:List Bool} (h:qd g.ids.l g.ops.l L (List.replicate g.ids.l.length false) S) :S=pV g L:=by
 have bn:S.length=g.ids.l.length:=by rw[h.len]; simp
 apply awM;intro i;by_cases av:i<g.ids.l.length
 ·have h1:=aoz h i;obtain⟨b,ag,_⟩:=bx (l:=S) (k:=i) (by omega);rw[ag] at h1 ⊢;unfold pV;rw[avV,awr av];simp only[avZ,Option.some.injEq] at h1 ⊢;cases b with
  | true=>exact (decide_eq_true (h1.1 rfl)).symm
  | false=>exact (decide_eq_false fun aG=>by have:=h1.2 aG; cases this).symm
 ·rw[av5 (by omega),av5 (by rw[Ol]; omega)]
set_option maxHeartbeats 4000000 in
theorem On (g:bc) (aq:et g) (V:iE g) (L:ez) (eT:gv L) (ng:L.l.length<=1000000) (ec:∀ p∈L.l,p∈g.ids.l) :bz Tryz.prog GS 133 [cl g,aK L] (cB 1 iF (some (pV g L.l))) :=by
 refine bL Tryz.checked.mixed bE ?_;apply bp Tryz.func133 [];have az:cy=140737488355328:=rfl;have fE:=aq.li;have ag5:cK (.ar 32) (aK L)=some (.int .i64 L.l.length) :=by simp[aK]
 have Hr:cK (.ar 32) (aK g.ids)=some (.int .i64 g.ids.l.length) :=by simp[aK]
 have dz:=jP V.c9;simp[cl,cP];refine Yc g aq dz ?_;intro fV l1 mJ wX kW pE;obtain⟨dW,rfl⟩:∃ r,l1=a7.cells 2 [aK g.ids,bB g.ops] ::r:=EK ((kW 0 (by simp)).trans rfl);obtain⟨aV,_⟩:=Ez (z:=1) (by_:=1) (n:=g.ids.l.length) (k:=.i64) (k':=.i64) (zero:=[U.bool false]) (l:=(a7.cells 2 [aK g.ids,bB g.ops] ::dW)++[a7.cells 1 [.mp fV]]) rfl (by omega) (by rw[az]; omega);simp only[axn,Ou (α:=Nat),awN] at aV;simp[Hr,ag5,aV];obtain⟨fx,UX⟩:∃ fx,fx=dW.length+1:=⟨_,rfl⟩
 have q1:dW.length+1+1=fx+1:=by omega
 have ft:dW.length+2+1=fx+2:=by omega
 have iY:dW.length+3+1=fx+3:=by omega
 rw[q1,show fx+1+1=fx+2 from rfl,iY,<-UX];have Vz:=mJ.lt;simp at Vz wX;refine cI L.l.length (fun q ae l'=>ae 6=.ptr (fx+2) 0 1/\ae 7=.ptr (fx+3) 0 1/\ae 17=aK L/\ae 18=.int .i64 L.l.length/\ae 19=.int .i64 q/\∃ ij,qd g.ids.l g.ops.l (L.l.take q) (List.replicate g.ids.l.length false) ij/\pj g fx (fx+2) 0 (fx+3) (fx+1) fV ij l') ?_ ?_
 ·rintro q ae l' aW ⟨b8,dk,lU,s6,s7,ij,yD,yA⟩;obtain⟨ae,rfl⟩:=lj b8 dk lU s6 s7;clear b8 dk lU s6 s7;by_cases l8:q<L.l.length
  ·obtain⟨bV,gp,DX⟩:=bx l8;obtain⟨j,ai⟩:=avT.1 (ec bV DX);have aR:IntKind.i64.wrap ((q:Int)+1)=((q+1:Nat) :Int) :=by rw[IntKind.wrap_i64]; omega
   have ir:ck (.ar 32) (aK L) (.int .i64 (q:Int))=some (.b3 (aO bV) 0) :=by simp[aK,gp]
   have vh:=cC (eT bV DX);have yC:=yA.more [.cells 32 (aO bV)];have xB:eW (l'++[a7.cells 32 (aO bV)]) (.ptr (fx+3) 0 1)=some ([.fn 179 [] [.ptr fx 0 1,.ptr (fx+2) 0 1,.ptr 0 0 2,.ptr (fx+3) 0 1]],0) :=by simp only[eW,yC.v]; simp
   have j6:=aou g aq V fx (fx+2) 0 (fx+3) (fx+1) fV (ij.count false) ij (l'++[a7.cells 32 (aO bV)]) bV j;obtain⟨uw,Lt⟩:∃ uw,uw=aO bV:=⟨_,rfl⟩
   rw[<-Lt] at ir vh yC xB j6;have j8:bt (rep 32 (.int .u8 0)) 0 uw=uw:=eM (by rw[vh]; rfl);simp[l8,ir,vh,j8,avO,xB];refine⟨TV,j6 _ (avR _) yC ai ?_⟩;intro fr JF b2 w2 eh oH rj;simp[l8,aR];exact⟨JF,by rw[av7,gp]; exact aaw yD b2,w2⟩
  ·have qP:q=L.l.length:=by omega
   rw[qP,awi] at yD;have dQ:=alU yD;have zF:eW l' (.ptr (fx+2) 0 1)=some ([.ar 1 (fx+1) 0 g.ids.l.length g.ids.l.length g.ids.l.length],0) :=by simp only[eW,yA.s]; simp
   simp[l8,zF];rw[<-dQ];have fc:(ij.map iF).flatten=ij.map U.bool:=by
    have:∀ t:List Bool,(t.map iF).flatten=t.map U.bool:=fun t=>by induction t with | nil=>rfl | cons b t aJ=>simp[iF,aJ]
    exact this ij
   have gK:bH 1 l' (.ar 1 (fx+1) 0 g.ids.l.length g.ids.l.length (g.ids.l.length*1)) (fx+1) (ij.map iF) :=EN (fun _ _=>rfl) yA.n (by rw[axn,fc]; exact yA.r);rw[axn] at gK;exact gK.q.ow (fun _=>rfl) (some ij) rfl rfl
 ·simp;refine⟨List.replicate g.ids.l.length false,aav _ _ _,?_⟩;subst UX;refine⟨by simp,by simp,by simp,by simp,mJ.frame (by rw[<-awN]; exact avQ (by simpa using Vz)),by simp,by simp,by omega⟩
noncomputable def i4 (g:bc) (i:Nat) :List (List B) :=kg g.ids.l (pV g (cT g.ops.l i)) g.ids.l.length
set_option maxHeartbeats 2000000 in
theorem P8 (g:bc) (aq:et g) (V:iE g) (aD:ep g=0) (x:List B) (i:Nat) (av:g.ids.l[i]? = some x) :bz Tryz.prog GS 84 [cl g,.aH (aO x)] (.bG [aK (dH (i4 g i)),.int .i64 0]) :=by
 refine bL Tryz.checked.mixed bE ?_;apply bp Tryz.func84 [[[0],[1],[2],[3],[4],[5],[6],[7],[8,0]]];have cE:=avY av;have af:=aq.ids x cE;have dh:=eK g.ids;have cz:=i7 g.ops;have hS:=ajU g aq x af;have pE:H7 g x=i:=by unfold H7; rw[if_pos aD,if_pos cE,yg V.c9 av]
 have dw:H6 g x=0:=by unfold H6; rw[if_pos aD,if_pos cE]
 rw[pE,dw] at hS;have fQ:=e4 x;have bf:=cC af;have c3:=(avP.1 av).1;obtain⟨o,ap,dd⟩:=bx (l:=g.ops.l) (k:=i) (by rw[<-V.len]; exact c3);have bN:ck (.ar 11) (bB g.ops) (.int .i64 (i:Int))=some (.b3 (a2 o) 0) :=by simp[bB,ap]
 have ht:(a2 o)[1]? = some (aK o.br) :=rfl;have DY:=On g aq V o.br (aq.ops o dd).ids (aq.ops o dd).len (V.Iv o dd);have w0:=aj8 g aq (some (pV g o.br.l)) (by simp[Ol]);have td:i4 g i=kg g.ids.l (pV g o.br.l) (pV g o.br.l).length:=by unfold i4; rw[lI ap,Ol]
 have lX:(cB 1 iF (some (pV g o.br.l))).closed=true:=ws (fun _=>rfl) _;have jF:=eK o.br;obtain⟨X,cv⟩:∃ X,X=aO x:=⟨_,rfl⟩
 obtain⟨O,du⟩:∃ O,O=a2 o:=⟨_,rfl⟩
 obtain⟨M,n1⟩:∃ M,M=cB 1 iF (some (pV g o.br.l)) :=⟨_,rfl⟩
 rw[<-cv] at hS fQ bf ⊢;rw[<-du] at bN ht;rw[<-n1] at DY w0 lX;rw[cQ.zi,<-td] at w0;unfold cl cP at hS DY w0;simp[cl,cP,bf,avO];refine a6 hS (by simp[bd,U.closed,dh,cz,fQ]) ?_;simp[bN,ht];refine a6 DY (by simp[bd,U.closed,dh,cz,jF]) ?_;simp;refine a6 w0 (by simp[bd,U.closed,dh,cz,lX]) ?_;simp;exact aL rfl (by simp[U.closed,bd,eK])
theorem ajc {l:List (List B)} (ai:hW l) {i:Nat} {x:List B} (av:l[i]? = some x) :iJ x l 0=(i:Int) :=by
 have:=Bu (n:=0) av (fun t z aI aw mg=>by subst mg; have:=ai t i z aw av; omega) rfl;simpa using this
theorem YK (g:bc) (aq:et g) (ai:hW g.ids.l) {i:Nat} {x:List B} {o:bm} (av:g.ids.l[i]? = some x) (ap:g.ops.l[i]? = some o) :bz Tryz.prog GS 35 [cl g,.aH (aO x)] (.aH (a2 o)) :=by
 refine bL Tryz.checked.mixed bE ?_;apply bp Tryz.func35 [];have af:=aq.ids x (avY av);have dh:=eK g.ids;have fQ:=e4 x;have bf:=cC af;have fA:=Oh g.ids aq.ids aq.li x af;rw[ajc ai av] at fA;have c3:=(avP.1 ap).1;have dL:cK (.ar 11) (bB g.ops)=some (.int .i64 g.ops.l.length) :=by simp[bB]
 have bN:ck (.ar 11) (bB g.ops) (.int .i64 (i:Int))=some (.b3 (a2 o) 0) :=by simp[bB,ap]
 have bY:(a2 o).length=11:=rfl;have cz:=i6 o;have h1:¬ (i:Int)<0:=by omega
 have ad:¬ (g.ops.l.length:Int)<=(i:Int) :=by omega
 obtain⟨X,cv⟩:∃ X,X=aO x:=⟨_,rfl⟩
 obtain⟨O,du⟩:∃ O,O=a2 o:=⟨_,rfl⟩
 rw[<-cv] at fA fQ bf ⊢;rw[<-du] at bN bY cz ⊢;have hg:bt [U.int .u32 0,.aT,.int .u64 0,.int .u8 0,.str [],.int .u8 0,.int .i64 0,.int .u64 0,.str [],.int .u32 0,.int .u32 0] 0 O=O:=eM (by rw[bY]; rfl);simp[cl,cP,bf,avO];refine a6 fA (by simp[bd,U.closed,dh,fQ]) ?_;simp[h1,ad,c3,dL,bN,bY,hg,avO];exact aL rfl (by simp[U.closed,cz])
structure Cq (ids:List (List B)) (ops:List bm) (i:Nat) (x:List B) (out next:List (List B)) :Prop where
 hA:out.Nodup
 nz:∀ p∈out,∃ j,ids[j]? = some p/\ii ids ops (cT ops i) j
 si:∀ q∈next,q=x\/q∈out
 sU:∀ q,(q=x\/q∈out)->q∉next->∀ (j:Nat),ids[j]? = some q->∀ p∈cT ops j,p∈out
theorem ao0 {ids:List (List B)} {ops:List bm} {i:Nat} {x:List B}:Cq ids ops i x [] [x] :=
 ⟨ay6,fun p ay=>by simp at ay,fun q aW=>by simp at aW; exact .inl aW,fun q aW aC=>by
  rcases aW with rfl | aW
  ·exact absurd (by simp) aC
  ·cases aW⟩
theorem aoY {ids:List (List B)} {ops:List bm} {i:Nat} {x:List B} {out:List (List B)} (av:ids[i]? = some x) (h:Cq ids ops i x out []) (j:Nat) (p:List B) (ai:ids[j]? = some p) (dz:hW ids) :p∈out<->ii ids ops (cT ops i) j:=by
 constructor
 ·intro ay;obtain⟨bl,dv,az⟩:=h.nz p ay;rw[dz j bl p ai dv];exact az
 ·intro az;have:∀ {t:Nat},ii ids ops (cT ops i) t->∀ q,ids[t]? = some q->q∈out:=by
   intro t aI
   induction aI with
   | start p j ay ai=>
    intro q aW;rw[ai] at aW;obtain rfl:=Option.some.inj aW;exact h.sU x (.inl rfl) (by simp) i av p ay
   | step fU p j az ay ai aJ=>
    intro q aW;rw[ai] at aW;obtain rfl:=Option.some.inj aW;have c3:∃ y,ids[fU]? = some y:=by
     cases az with
     | start bV _ gp dv=>exact⟨bV,dv⟩
     | step MX bV _ kZ gp dv=>exact⟨bV,dv⟩
    obtain⟨y,ax⟩:=c3;exact h.sU y (.inr (aJ y ax)) (by simp) fU ax p ay
  exact this az p ai
structure v7 (ids:List (List B)) (ops:List bm) (i:Nat) (x:List B) (q:List B) (j k:Nat) (out next:List (List B)) :Prop where
 hA:out.Nodup
 nz:∀ p∈out,∃ t,ids[t]? = some p/\ii ids ops (cT ops i) t
 Od:q=x\/q∈out
 si:∀ r∈next,r=x\/r∈out
 sU:∀ r,(r=x\/r∈out)->r∉next->r≠q->∀ (t:Nat),ids[t]? = some r->∀ p∈cT ops t,p∈out
 Oa:∀ p∈(cT ops j).take k,p∈out
theorem ao5 {ids:List (List B)} {ops:List bm} {i:Nat} {x q:List B} {j:Nat} {out next:List (List B)} (h:Cq ids ops i x out (q::next)) :v7 ids ops i x q j 0 out next:=
 ⟨h.hA,h.nz,h.si q (by simp),fun r az=>h.si r (by simp[az]),fun r az aC bI=>h.sU r az (by simp[aC,bI]),fun p ay=>by simp at ay⟩
theorem ao3 {ids:List (List B)} {ops:List bm} (dz:hW ids) {i:Nat} {x q:List B} {j:Nat} {out next:List (List B)} (aW:ids[j]? = some q) (h:v7 ids ops i x q j (cT ops j).length out next) :Cq ids ops i x out next:=by
 refine⟨h.hA,h.nz,h.si,fun r az aC t aI p ay=>?_⟩;by_cases Wk:r=q
 ·subst Wk;rw[dz t j r aI aW] at ay;exact h.Oa p (by rw[awi]; exact ay)
 ·exact h.sU r az aC Wk t aI p ay
theorem ao4 {ids:List (List B)} {ops:List bm} {i:Nat} {x q:List B} {j k:Nat} {out next:List (List B)} {p:List B} (h:v7 ids ops i x q j k out next) (ay:(cT ops j)[k]? = some p) (ap:p∈out) :v7 ids ops i x q j (k+1) out next:=by
 refine⟨h.hA,h.nz,h.Od,h.si,h.sU,fun r az=>?_⟩;rw[av7,ay,awl] at az;rcases az with az | az
 ·exact h.Oa r az
 ·simp at az; subst az; exact ap
theorem aaE {ids:List (List B)} {ops:List bm} (dz:hW ids) {i:Nat} {x q:List B} {j k:Nat} {out next:List (List B)} {p:List B} {t:Nat} (h:v7 ids ops i x q j k out next) (av:ids[i]? = some x) (aW:ids[j]? = some q) (ay:(cT ops j)[k]? = some p) (aI:ids[t]? = some p) (ap:p∉out) :
  v7 ids ops i x q j (k+1) (out++[p]) (next++[p]) :=by
 have pG:=avY ay;refine⟨?_,fun r az=>?_,h.Od.imp_right fun aG=>by simp[aG],fun r az=>?_,fun r az aC bI u aN bV gp=>?_,fun r az=>?_⟩
 ·rw[aw0];refine⟨h.hA,by simp,fun a aA b ag e=>?_⟩;rw[awd] at ag;subst e;rw[ag] at aA;exact ap aA
 ·rw[awl,awd] at az;rcases az with az | rfl
  ·exact h.nz r az
  ·refine⟨t,aI,?_⟩;rcases h.Od with ahZ | ahY
   ·subst ahZ;rw[dz j i q aW av] at pG;exact .start r t pG aI
   ·obtain⟨bl,dv,kZ⟩:=h.nz q ahY;rw[dz bl j q dv aW] at kZ;exact .step j r t kZ pG aI
 ·rw[awl,awd] at az;rcases az with az | rfl
  ·exact (h.si r az).imp_right fun aG=>by simp[aG]
  ·exact .inr (by simp)
 ·have D2:r≠p:=fun e=>aC (by simp[e])
  have kZ:r=x\/r∈out:=az.imp_right fun aG=>by
   rw[awl,awd] at aG;exact aG.resolve_right D2
  have:=h.sU r kZ (fun aG=>aC (by simp[aG])) bI u aN bV gp;simp[this]
 ·rw[av7,ay,awl] at az;rcases az with az | az
  ·have:=h.Oa r az; simp[this]
  ·simp at az; simp[az]
theorem zL:∀ {a b:List (List B)},a.Nodup->(∀ x∈a,x∈b)->a.length<=b.length
 | [],_,_,_=>aw4 _
 | x::a,b,aC,ak=>by
  rw[aya] at aC;have af:=ak x (by simp);have aJ:=zL (b:=b.erase x) aC.2 (fun y ax=>(List.mem_erase_of_ne (fun e=>aC.1 (by rw[<-e]; exact ax))).2 (ak y (by simp[ax])));rw[ayT af] at aJ;have:=List.length_pos_of_mem af;simp; omega
structure pe (pre:am) (v5 dX:U) (out next:List (List B)) (b:Nat) (rest:am) :Prop where
 ex:∃ g1 hx,eA 32 (pre++rest) v5 g1 (out.map aO)/\eA 32 (pre++rest) dX hx (next.map aO)/\(v5=.aT\/(pre.length<=g1/\g1≠hx/\g1≠b))/\pre.length<=hx/\hx≠b/\cw v5=out.isEmpty/\cw dX=false
theorem pe.ale {pre:am} {v5 dX:U} {out next:List (List B)} {b:Nat} {rest:am} (h:pe pre v5 dX out next b rest) (ag:b<(pre++rest).length) {p:List B} (ay:p.length=32) (dA:(out.length+1)*32<=cy) :
  ∃ aZ ct,gx (pre++(rest++[.cells 32 (aO p)])) 32 32 v5 (.ar 32 (pre.length+rest.length) 0 1 1 32)=some (aZ,pre++ct)/\pe pre aZ dX (out++[p]) next b ct/\(pre++ct)[b]? = (pre++rest)[b]?/\b<(pre++ct).length:=by
 obtain⟨g1,hx,jp,pN,aX,bw,yu,ml,n6⟩:=h;have gq:=cC ay;have hm:pre++(rest++[a7.cells 32 (aO p)])=(pre++rest)++[a7.cells 32 (aO p)] :=by rw[awo]
 have NK:eA 32 (pre++(rest++[a7.cells 32 (aO p)])) v5 g1 (out.map aO) :=by rw[hm]; exact jp.more _
 have NL:eA 32 (pre++(rest++[a7.cells 32 (aO p)])) dX hx (next.map aO) :=by rw[hm]; exact pN.more _
 obtain⟨aZ,bl,ct,aP,aU,a8,bA,bi,b8⟩:=Qc (by_:=32) NK (aX.imp_right fun h=>h.1) (x:=.ar 32 (pre.length+rest.length) 0 1 1 32) (xs:=[aO p]) (by
  have:(pre++(rest++[a7.cells 32 (aO p)]))[pre.length+rest.length]? = some (.cells 32 (aO p)) :=by
   rw[hm,av2 (by simp)]; simp
  simp only[dE,this];simp[gq,avO]) (by simp[gq]) (by omega) (by omega) (by simpa using dA)
 have fi:cw aZ=false:=by rw[bA]; simp
 have bI:aZ≠.aT:=fun e=>by rw[e] at fi; cases fi
 have pE:(pre++(rest++[a7.cells 32 (aO p)])).length=(pre++rest).length+1:=by simp; omega
 have ar1:hx<(pre++rest).length:=by
  rcases pN.lt with e | e
  ·rw[e] at n6; cases n6
  ·exact e
 have f6:v5=.aT\/hx≠g1:=aX.imp_right fun h=>Ne.symm h.2.1
 have ad1:v5=.aT\/b≠g1:=aX.imp_right fun h=>Ne.symm h.2.2
 have BN:=bi hx (by omega) f6;have EX:=bi b (by omega) ad1;have ap:(pre++(rest++[a7.cells 32 (aO p)]))[b]? = (pre++rest)[b]?:=by rw[hm,avQ ag]
 refine⟨aZ,ct,aP,⟨⟨bl,hx,by rw[awm]; exact aU,NL.nZ (.inr BN),.inr ⟨a8.resolve_left bI,?_,?_⟩,bw,yu,by rw[fi]; simp,n6⟩⟩,EX.trans ap,?_⟩
 ·rcases b8.resolve_left bI with ⟨aR,bJ⟩ | e
  ·rw[bJ]; exact (aX.resolve_left aR).2.1
  ·omega
 ·rcases b8.resolve_left bI with ⟨aR,bJ⟩ | e
  ·rw[bJ]; exact (aX.resolve_left aR).2.2
  ·omega
 ·have:=EX.trans ap;have eP:(pre++rest)[b]?≠none:=by rw[avS ag]; simp
  rw[<-this] at eP;exact Nat.lt_of_not_le fun h=>eP (av5 h)
theorem pe.alf {pre:am} {v5 dX:U} {out next:List (List B)} {b:Nat} {rest:am} (h:pe pre v5 dX out next b rest) (ag:b<(pre++rest).length) {p:List B} (ay:p.length=32) (dA:(next.length+1)*32<=cy) :
  ∃ aZ ct,gx (pre++(rest++[.cells 32 (aO p)])) 32 32 dX (.ar 32 (pre.length+rest.length) 0 1 1 32)=some (aZ,pre++ct)/\pe pre v5 aZ out (next++[p]) b ct/\(pre++ct)[b]? = (pre++rest)[b]?/\b<(pre++ct).length:=by
 obtain⟨g1,hx,jp,pN,aX,bw,yu,ml,n6⟩:=h;have gq:=cC ay;have hm:pre++(rest++[a7.cells 32 (aO p)])=(pre++rest)++[a7.cells 32 (aO p)] :=by rw[awo]
 have NK:eA 32 (pre++(rest++[a7.cells 32 (aO p)])) v5 g1 (out.map aO) :=by rw[hm]; exact jp.more _
 have NL:eA 32 (pre++(rest++[a7.cells 32 (aO p)])) dX hx (next.map aO) :=by rw[hm]; exact pN.more _
 obtain⟨aZ,bl,ct,aP,aU,a8,bA,bi,b8⟩:=Qc (by_:=32) NL (.inr bw) (x:=.ar 32 (pre.length+rest.length) 0 1 1 32) (xs:=[aO p]) (by
  have:(pre++(rest++[a7.cells 32 (aO p)]))[pre.length+rest.length]? = some (.cells 32 (aO p)) :=by
   rw[hm,av2 (by simp)]; simp
  simp only[dE,this];simp[gq,avO]) (by simp[gq]) (by omega) (by omega) (by simpa using dA)
 have fi:cw aZ=false:=by rw[bA]; simp
 have bI:aZ≠.aT:=fun e=>by rw[e] at fi; cases fi
 have pE:(pre++(rest++[a7.cells 32 (aO p)])).length=(pre++rest).length+1:=by simp; omega
 have EX:=bi b (by omega) (.inr (Ne.symm yu));have ap:(pre++(rest++[a7.cells 32 (aO p)]))[b]? = (pre++rest)[b]?:=by rw[hm,avQ ag]
 have Vy:bl=hx\/(pre++rest).length+1<=bl:=(b8.resolve_left bI).imp (fun h=>h.2) (fun h=>by omega);refine⟨aZ,ct,aP,⟨⟨g1,bl,?_,by rw[awm]; exact aU,?_,a8.resolve_left bI,?_,ml,fi⟩⟩,EX.trans ap,?_⟩
 ·rcases aX with e | ⟨aR,bJ,dF⟩
  ·subst e;rw[jp.tG]; exact .nil _
  ·refine NK.nZ ?_;rcases jp.lt with e | e
   ·exact .inl e
   ·exact .inr (bi g1 (by omega) (.inr bJ))
 ·rcases aX with e | ⟨aR,bJ,dF⟩
  ·exact .inl e
  ·rcases jp.lt with e | e
   ·exact .inl e
   ·refine .inr ⟨aR,?_,dF⟩;rcases Vy with h | h<;>omega
 ·rcases Vy with h | h<;>omega
 ·have:=EX.trans ap;have eP:(pre++rest)[b]?≠none:=by rw[avS ag]; simp
  rw[<-this] at eP;exact Nat.lt_of_not_le fun h=>eP (av5 h)
theorem pe.ao2 {pre:am} {v5 dX:U} {out next:List (List B)} {b:Nat} {rest:am} (h:pe pre v5 dX out next b rest) (ay:1<=pre.length) :pe pre v5 dX out next 0 rest:=by
 obtain⟨g1,hx,jp,pN,aX,bw,yu,ml,n6⟩:=h;exact⟨⟨g1,hx,jp,pN,aX.imp_right fun h=>⟨h.1,h.2.1,by omega⟩,bw,by omega,ml,n6⟩⟩
theorem aaC {ids:List (List B)} {ops:List bm} {i:Nat} {x q:List B} {j k:Nat} {out next:List (List B)} (h:v7 ids ops i x q j k out next) :out.length<=ids.length:=zL h.hA fun p ay=>by
 obtain⟨t,aI,_⟩:=h.nz p ay;exact avY aI
structure aaN (g:bc) (pre:am) (o:bm) (b m i:Nat) (x q:List B) (j:Nat) (k:Nat) (ae:bg) (l:am) :Prop where
 aU:ae 2=.ptr 0 0 2
 dk:ae 7=.ptr b 0 11
 dj:ae 8=.int .i64 k
 ex:∃ out next rest,l=pre++rest/\pe pre (ae 5) (ae 6) out next b rest/\(pre++rest)[b]? = some (.cells 11 (a2 o))/\v7 g.ids.l g.ops.l i x q j k out next/\2*(g.ids.l.length - out.length)+next.length+1<=m
structure aaO (g:bc) (pre:am) (i:Nat) (x:List B) (m:Nat) (ae:bg) (l:am) :Prop where
 aU:ae 2=.ptr 0 0 2
 ex:∃ out next rest,l=pre++rest/\pe pre (ae 5) (ae 6) out next 0 rest/\Cq g.ids.l g.ops.l i x out next/\m=2*(g.ids.l.length - out.length)+next.length
 le:m<=1000
set_option maxHeartbeats 8000000 in
theorem aby (g:bc) (aq:et g) (V:iE g) {i:Nat} {x:List B} (av:g.ids.l[i]? = some x) :
  c7 Tryz.prog GS 101 [cl g,.aH (aO x)] [] (c:=⟨fun r l=>∃ out,(∀ (j:Nat) (p:List B),g.ids.l[j]? = some p->(p∈out<->ii g.ids.l g.ops.l (cT g.ops.l i) j))/\(∀ p∈out,p∈g.ids.l)/\out.length<=g.ids.l.length/\Rd l r (aK (dH out))⟩) :=by
 apply bp Tryz.func101 [[[0],[1],[2],[3],[5],[4,5]]];have az:cy=140737488355328:=rfl;have fE:=aq.li;have dz:=jP V.c9;have af:=aq.ids x (avY av);have bf:=cC af;have dh:=eK g.ids;have cz:=i7 g.ops;have w1:=V.n60;have bn:=V.len;obtain⟨pre,HC⟩:∃ pre,pre=[a7.cells 2 [aK g.ids,bB g.ops],a7.cells 32 (aO x)] :=⟨_,rfl⟩
 have tm:pre.length=2:=by rw[HC]; rfl
 have ma:∀ rest,eW (pre++rest) (.ptr 0 0 2)=some ([aK g.ids,bB g.ops],0) :=fun rest=>by rw[HC]; simp
 have yv:pe pre .aT (.ar 32 2 0 1 1 32) [] [x] 0 [.cells 32 (aO x)] :=by
  refine⟨⟨0,2,.nil 0,?_,.inl rfl,by omega,by omega,rfl,rfl⟩⟩;refine bH.q (.ar 2 1 1 32 (aO x) _ (by rw[HC]; rfl) bf rfl (fun e ao=>by simp at ao; rw[ao]; exact bf) (avR _) (by omega) ?_);rw[avO (by rw[bf]; omega)]; simp
 have Bf:bt (rep 32 (.int .u8 0)) 0 (aO x)=aO x:=eM (by rw[bf]; rfl);simp[cl,cP,bf,Bf,avO];refine vr (aaO g pre i x) ?_ (2*g.ids.l.length+1) _ _ ?_
 ·rintro m ae l ⟨aU,⟨out,next,rest,rfl,cN,dT,hm⟩,go⟩;obtain⟨v5,bi⟩:∃ v,ae 5=v:=⟨_,rfl⟩
  obtain⟨dX,b8⟩:∃ v,ae 6=v:=⟨_,rfl⟩
  rw[bi,b8] at cN;obtain⟨ae,rfl⟩:=kj aU bi b8;clear aU bi b8;obtain⟨g1,hx,jp,pN,aX,bw,yu,ml,n6⟩:=id cN.ex;have VI:cK (.ar 32) dX=some (.int .i64 next.length) :=by have:=pN.len; simpa using this
  cases next with
  | nil=>
   simp[VI];refine⟨out,fun j p ai=>aoY av dT j p ai dz,fun p ay=>?_,?_,?_⟩
   ·obtain⟨t,aI,_⟩:=dT.nz p ay;exact avY aI
   ·exact zL dT.hA fun p ay=>by
     obtain⟨t,aI,_⟩:=dT.nz p ay;exact avY aI
   ·exact jp.ow (fun x=>e4 x) (dH out) (by rw[ml,ua]) (ew _)
  | cons q si=>
   have Wd:q∈g.ids.l:=by
    rcases dT.si q (by simp) with e | e
    ·rw[e]; exact avY av
    ·obtain⟨t,aI,_⟩:=dT.nz q e; exact avY aI
   obtain⟨j,ai⟩:=avT.1 Wd;have e7:=(avP.1 ai).1;obtain⟨o,ap,dd⟩:=bx (l:=g.ops.l) (k:=j) (by rw[<-V.len]; exact e7);have ahT:=aq.ids q Wd;have l8:=cC ahT;have gk:=YK g aq dz ai ap;have bY:(a2 o).length=11:=rfl;have ht:(a2 o)[1]? = some (aK o.br) :=rfl;have jf:=aq.ops o dd;have asm:=jf.len;have oe:cK (.ar 32) (aK o.br)=some (.int .i64 o.br.l.length) :=by simp[aK]
   have pH:cT g.ops.l j=o.br.l:=lI ap;obtain⟨zA,CF,Cb,aV,a1,a3,a4⟩:=pN.get (k:=.i64) (i:=0) (e:=aO q) (by simp);obtain⟨sx,de,df,fw⟩:=pN.from n6 (k:=.i64) (i:=1) (by simp);have ru:ck (.ar 32) dX (.int .i64 0)=some zA:=aV;have abX:fG (.ar 32) dX (some (.int .i64 1)) none none=some sx:=de;obtain⟨O,du⟩:∃ O,O=a2 o:=⟨_,rfl⟩
   obtain⟨Q,afz⟩:∃ Q,Q=aO q:=⟨_,rfl⟩
   have Va:=e4 q;rw[<-du] at gk bY ht;rw[<-afz] at a4 gk Va l8;unfold cl cP at gk;obtain⟨b,ag⟩:∃ b,b=pre.length+rest.length:=⟨_,rfl⟩
   have eU:(pre++rest).length=b:=by rw[ag]; simp
   obtain⟨Z,tc⟩:∃ Z,Z=[U.int .u32 0,.aT,.int .u64 0,.int .u8 0,.str [],.int .u8 0,.int .i64 0,.int .u64 0,.str [],.int .u32 0,.int .u32 0] :=⟨_,rfl⟩
   have rK:Z.length=11:=by rw[tc]; rfl
   have hg:bt Z 0 O=O:=eM (by rw[bY,rK]);have e0:∀ y,(pre++(rest++[y]))[b]? = some y:=fun y=>by rw[ag,<-awo,av2 (by simp)]; simp
   have qw:∀ y z:a7,(pre++(rest++[y])).set b z=pre++(rest++[z]) :=fun y z=>by rw[ag,<-awo,awz _ _ (by simp)]; simp
   have ci:kH 11 (pre++(rest++[a7.cells 11 Z])) (.ptr b 0 11) (.aH O)=some (pre++(rest++[a7.cells 11 O])) :=by
    simp only[ZJ,e0,SR,axv,anw];rw[if_pos (by simp[bY]),qw,hg]
   simp[VI,ma,ru,a1,a3,a4,l8,avO,<-tc,<-ag,rK];refine a6 gk (by simp[bd,U.closed,dh,cz,Va]) ?_;have rY:=ci;simp only[ZJ,SR,axv] at rY;have L2:hx<b:=by
    rcases pN.lt with e | e
    ·rw[e] at n6; cases n6
    ·rw[eU] at e; exact e
   have AJ:pe pre v5 sx out si b (rest++[a7.cells 11 O]) :=by
    refine⟨⟨g1,hx,?_,?_,?_,bw,by omega,ml,fw⟩⟩
    ·rw[<-awo]; exact jp.more _
    ·rw[<-awo];have:eA 32 (pre++rest) sx hx (si.map aO) :=by simpa using df
     exact this.more _
    ·rcases aX with e | ⟨aR,bJ,dF⟩
     ·exact .inl e
     ·rcases jp.lt with e | e
      ·exact .inl e
      ·exact .inr ⟨aR,bJ,by rw[eU] at e; omega⟩
   simp[eU,e0,rY,abX,rK,<-ag,qw,hg,bY];refine cI o.br.l.length (aaN g pre o b m i x q j) ?_ ⟨by simp,by simp,by simp,out,si,_,rfl,by simpa using AJ,by rw[<-du]; exact e0 _,ao5 dT,by simp at hm; omega⟩;clear cN dT hm jp pN aX bw yu ml n6 AJ;rintro k ae l hk ⟨aU,dk,dj,out,next,rest,rfl,cN,qv,wS,ahP⟩;obtain⟨v5,bi⟩:∃ v,ae 5=v:=⟨_,rfl⟩
   obtain⟨dX,b8⟩:∃ v,ae 6=v:=⟨_,rfl⟩
   rw[bi,b8] at cN;obtain⟨ae,rfl⟩:=lj aU bi b8 dk dj;clear aU bi b8 dk dj;rw[<-du] at qv;have arM:=qv;by_cases cq:k<o.br.l.length
   ·obtain⟨p,ay,pG⟩:=bx cq;have rV:=V.Iv o dd p pG;obtain⟨t,aI⟩:=avT.1 rV;have y2:=aq.ids p rV;have gq:=cC y2;have aR:IntKind.i64.wrap ((k:Int)+1)=((k+1:Nat) :Int) :=by rw[IntKind.wrap_i64]; omega
    have ir:ck (.ar 32) (aK o.br) (.int .i64 (k:Int))=some (.b3 (aO p) 0) :=by simp[aK,ay]
    obtain⟨g1,hx,jp,pN,aX,bw,yu,ml,n6⟩:=id cN.ex;have kD:=jp.nA (enc:=aO) (xs:=out) (fun x=>e4 x) (dH out) (by rw[ml,ua]) (ew _);have ase:=aaC wS;have c1:gv (dH out) :=fun y ax=>by
     rw[ew] at ax;obtain⟨u,aN,_⟩:=wS.nz y ax;exact aq.ids y (avY aN)
    have ec:=YI (dH out) c1 (by rw[ew]; omega) p y2;rw[ew] at ec;have jF:=e4 p;have DW:(cT g.ops.l j)[k]? = some p:=by rw[pH]; exact ay
    obtain⟨Y,eD⟩:∃ Y,Y=aO p:=⟨_,rfl⟩
    rw[<-eD] at ec ir gq jF;have pI:bt (rep 32 (.int .u8 0)) 0 Y=Y:=eM (by rw[gq]; rfl);simp[oe,qv,ht,cq,ir,gq,avO];refine iB ec (.cons kD (.cons (.same _ (by simp[U.closed,jF])) .nil)) rfl ?_;by_cases jf:p∈out
    ·simp[jf,aR];exact⟨cq,by simp,by simp,by simp,out,next,rest,rfl,by simpa using cN,by rw[<-du]; exact qv,ao4 wS DW jf,ahP⟩
    ·have af1:b<(pre++rest).length:=(avP.1 qv).1;have asf:out.length+1<=g.ids.l.length:=aaC (aaE dz wS av ai DW aI jf) |> fun h=>by simpa using h
     obtain⟨avI,tQ,iK,kJ,rf,Fp⟩:=cN.ale af1 y2 (by rw[az]; omega);obtain⟨sx,tR,b2,w2,eh,oH⟩:=kJ.alf Fp y2 (by rw[az]; omega);have U1:(pre++tQ)[b]? = some (.cells 11 O) :=by rw[rf]; exact qv
     have af3:(pre++tR)[b]? = some (.cells 11 O) :=by rw[eh]; exact U1
     rw[<-eD] at iK b2;simp[jf,qv,ht,ir,gq,pI,avO,iK];refine dp.cx ?_;simp[U1,ht,ir,gq,pI,avO,b2];refine dp.cx ?_;simp[aR];exact⟨cq,by simp,by simp,by simp,out++[p],next++[p],tR,rfl,by simpa using w2,by rw[<-du]; exact af3,aaE dz wS av ai DW aI jf,by simp; omega⟩
   ·simp[oe,qv,ht,cq];have ag3:k=(cT g.ops.l j).length:=by rw[pH]; omega
    rw[ag3] at wS;exact⟨_,by omega,by simp,⟨out,next,rest,rfl,by simpa using cN.ao2 (by omega),ao3 dz ai wS,rfl⟩,by omega⟩
 ·exact⟨by simp,⟨[],[x],[.cells 32 (aO x)],by rw[HC]; rfl,by simpa using yv,ao0,by simp⟩,by omega⟩
structure bq where
 key:List UInt8
 id:List B
 deriving DecidableEq
def ca (t:bq) :List U:=.str t.key::aO t.id
abbrev fh:=cQ bq
def er (s:fh) :U:=cB 33 ca s
def hU (l:List bq) :Prop:=∀ t∈l,t.id.length=32
theorem mA {t:bq} (h:t.id.length=32) :(ca t).length=33:=by simp[ca,cC h]
theorem pp (t:bq) :bd (ca t)=true:=by simp[ca,bd,U.closed,e4]
theorem uE (s:fh) :(er s).closed=true:=ws pp s
abbrev fv (a b:List UInt8) :Bool:=Go.Op.bytesLess a b
theorem tY (a b:List UInt8) :fv a b=true<->a<b:=by unfold fv; rw[Go.Proofs.bytesLess_eq]; simp
@[simp] theorem aql (a b:List UInt8) :pn .lss a b=some (.bool (fv a b)) :=id rfl
@[simp] theorem aqk (a b:List UInt8) :pn .gtr a b=some (.bool (!(fv a b||decide (a=b)))) :=by
 by_cases h:a=b<;>simp[pn,h]
def qj (a b:List UInt8) :Int:=if fv a b then -1 else if a=b then 0 else 1
theorem XJ (a:List UInt8) :bz Tryz.prog GS 190 [.str a] (.bool false) :=by
 refine bL Tryz.checked.mixed bE ?_;apply bp Tryz.func190 [];simp;exact aL rfl rfl
theorem S2 (a b:List UInt8) :bz Tryz.prog GS 137 [.str a,.str b] (.int .i64 (qj a b)) :=by
 refine bL Tryz.checked.mixed bE ?_;apply bp Tryz.func137 [];unfold qj;simp;refine a6 (XJ a) rfl ?_;simp;refine a6 (XJ b) rfl ?_;cases h1:fv a b with
 | true=>
  simp[h1];exact aL rfl rfl
 | false=>
  by_cases ad:a=b
  ·subst ad;simp[h1];exact aL rfl rfl
  ·simp[h1,ad];exact aL rfl rfl
def xw (a b:Int) :Int:=if a=0 then b else a
theorem YS {l:am} {b:Nat} {x y:Int} (h:l[b]? = some (.cells 2 [.int .i64 x,.int .i64 y])) :gh (bW l) (.ar 1 b 0 2 2 2) (.bQ 1 [[.int .i64 x],[.int .i64 y]]) :=by
 refine EZ (rest:=[]) (es:=[[.int .i64 x],[.int .i64 y]]) (by simpa using h) rfl (by simp) (by simp[bd,U.closed])
theorem XZ (x y:Int) :bz Tryz.prog GS 136 [.bQ 1 [[.int .i64 x],[.int .i64 y]]] (.int .i64 (xw x y)) :=by
 refine bL Tryz.checked.mixed bE ?_;apply bp Tryz.func136 [];unfold xw;simp;obtain⟨X,cv⟩:∃ X,X=U.bQ 1 [[.int .i64 x],[.int .i64 y]] :=⟨_,rfl⟩
 rw[<-cv];refine cI 2 (fun k ae l=>ae 3=.int .i64 0/\ae 6=X/\ae 7=.int .i64 2/\ae 8=.int .i64 k/\(1<=k->x=0)/\(2<=k->y=0)) ?_ (by simp[cv]);rintro k ae l hk ⟨a8,b8,dk,dj,h1,ad⟩;obtain⟨ae,rfl⟩:=i0 a8 b8 dk dj;clear a8 b8 dk dj;rcases k with _ | _ | k
 ·by_cases af:x=0
  ·simp[cv,af]; exact rfl
  ·simp[cv,af]; exact aL rfl rfl
 ·have af:=h1 (by omega);by_cases ax:y=0
  ·simp[cv,af,ax]; exact rfl
  ·simp[cv,af,ax]; exact aL rfl rfl
 ·obtain rfl:k=0:=by omega
  have af:=h1 (by omega);have ax:=ad (by omega);simp[cv,af,ax]; exact aL rfl rfl
def jy (a b:bq) :Int:=xw (qj a.key b.key) (cj a.id b.id)
def e2 (a b:bq) :Bool:=if a.key=b.key then decide (cj a.id b.id<0) else fv a.key b.key
theorem X2 {l:am} {j:Nat} {c:U} {a:List B} (aA:a.length=32) (ai:l[j]? = some (.cells 33 (c::aO a))) :eA 1 l (.ar 1 j 1 32 32 33) j (a.map ch) :=by
 refine .ar j 1 32 32 33 (c::aO a) _ ai (by simp[aO,aA]) (by simp[aA]) (fun e ao=>?_) (avR _) (by omega) ?_
 ·obtain⟨x,_,rfl⟩:=awf.1 ao; rfl
 ·simp only[ayy,aw2];rw[avO (by simp[aO,aA]),yk]; rfl
theorem Kk (a b:bq) (aA:a.id.length=32) (ag:b.id.length=32) :bz Tryz.prog GS 86 [.aH (ca a),.aH (ca b)] (.int .i64 (jy a b)) :=by
 refine bL Tryz.checked.mixed bE ?_;apply bp Tryz.func86 [[[0],[1],[2],[3],[5],[6],[7],[8],[4]]];unfold jy;have h1:=cC aA;have ad:=cC ag;simp[ca,h1,ad];refine a6 (S2 _ _) rfl ?_;have ah:=FP (some a.id) (some b.id) (by simp[aA,ag]);simp;refine iB ah ?_ rfl ?_
 ·exact .cons ((X2 (j:=0) (c:=.str a.key) aA rfl).nA (fun _=>rfl) (some a.id) rfl rfl) (.cons ((X2 (j:=1) (c:=.str b.key) ag rfl).nA (fun _=>rfl) (some b.id) rfl rfl) .nil)
 ·simp;refine iB (XZ (qj a.key b.key) (cj a.id b.id)) (.cons (YS (by simp)) .nil) rfl ?_;simp;exact aL rfl rfl
theorem ajP (a b:bq) (aA:a.id.length=32) (ag:b.id.length=32) :bz Tryz.prog GS 109 [.aH (ca a),.aH (ca b)] (.bool (e2 a b)) :=by
 refine bL Tryz.checked.mixed bE ?_;apply bp Tryz.func109 [];unfold e2;have h1:=cC aA;have ad:=cC ag;have ah:=IR a.id b.id aA ag;by_cases hk:a.key=b.key
 ·simp[ca,h1,ad,hk,avO];refine a6 ah (by have:=e4 a.id; have:=e4 b.id; simp_all [bd,U.closed,fF,aO]) ?_;simp;exact aL (by rw[if_pos hk]) rfl
 ·simp[ca,h1,ad,hk];exact aL rfl rfl
abbrev Cj:=cQ (List UInt8)
def Gd (k:List UInt8) :List U:=[.str k]
def Gh (s:Cj) :U:=cB 1 Gd s
def afQ (l:List bq) (k:List UInt8) :Bool:=decide (k∈l.map bq.key)
theorem F7 (a b:bq) :(jy a b<0)<->e2 a b=true:=by
 unfold jy qj xw e2;by_cases h:a.key=b.key
 ·have av:fv b.key b.key=false:=by
   cases ag:fv b.key b.key with
   | false=>rfl
   | true=>exact absurd ((tY _ _).1 ag) (ay7 _)
  simp[h,av]
 ·cases ag:fv a.key b.key with
  | true=>simp[h]
  | false=>simp[h]
def pZ (l:List bq) (k:Nat) :bq:=l.getD k ⟨[],[]⟩
theorem oF {l:List bq} {k:Nat} {x:bq} (h:l[k]? = some x) :pZ l k=x:=by
 unfold pZ; rw[awe,h]; rfl
def qq (l:List bq) (k:Nat) :Bool:=gM (pZ l k).key&&(decide (k=0)||e2 (pZ l (k - 1)) (pZ l k))
def mG (l:List bq) :Bool:=decide (∀ k,k<l.length->qq l k=true)
def kI (l:List bq) :Int:=if 60<l.length then 4 else if mG l then 0 else 8
theorem K3 {l:List bq} (h:∀ k,k<l.length->qq l k=true) :mG l=true:=decide_eq_true h
theorem Gy {l:List bq} {k:Nat} (hk:k<l.length) (h:qq l k=false) :mG l=false:=decide_eq_false fun aG=>by rw[aG k hk] at h; cases h
theorem P0 (k:List UInt8) :kr ⟨2#8,k,pd⟩=gM k:=by
 rw[Cs rfl];have:oq pd=true:=by decide
 simp[this]
theorem I7 {E:List U} (h:E.length=33) :bt (U.str [] ::rep 32 (.int .u8 0)) 0 E=E:=eM (by rw[h]; rfl)
theorem aaB (s:fh) (ap:hU s.l) (al:s.l.length<=1000000) :bz Tryz.prog GS 58 [.aH [er s]] (.int .i64 (kI s.l)) :=by
 refine bL Tryz.checked.mixed bE ?_;apply bp Tryz.func58 [];unfold kI;have bn:cK (.ar 33) (er s)=some (.int .i64 s.l.length) :=by simp[er]
 by_cases h1:60<s.l.length
 ·have dg:(60:Int)<(s.l.length:Int) :=by omega
  simp[bn,dg];exact aL (by rw[if_pos h1]) rfl
 ·have dg:¬ (60:Int)<(s.l.length:Int) :=by omega
  simp[bn,dg];refine cI s.l.length (fun k ae l=>(∃ r,l=.cells 1 [er s] ::r)/\ae 1=.ptr 0 0 1/\ae 10=er s/\ae 11=.int .i64 s.l.length/\ae 12=.int .i64 k/\∀ j,j<k->qq s.l j=true) ?_ (by simp);rintro k ae l hk ⟨⟨r,rfl⟩,aP,fI,ip,gX,ak⟩;obtain⟨ae,rfl⟩:=i0 aP fI ip gX;clear aP fI ip gX;simp;refine jo (fun h=>?_) (fun h=>?_)
  ·simp only[decide_eq_true_eq] at h;obtain⟨y,ax,cr⟩:=bx (l:=s.l) (k:=k) (by omega);have cg:=mA (ap y cr);have aR:IntKind.i64.wrap ((k:Int)+1)=((k+1:Nat) :Int) :=by rw[IntKind.wrap_i64]; omega
   have bJ:1<=k->IntKind.i64.wrap ((k:Int) - 1)=((k - 1:Nat) :Int) :=fun h=>by rw[IntKind.wrap_i64]; omega
   have uZ:=Kj ⟨2#8,y.key,pd⟩;rw[P0] at uZ;have ek:qq s.l k=(gM y.key&&(decide (k=0)||e2 (pZ s.l (k - 1)) y)) :=by unfold qq; rw[oF ax]
   have jg:=I7 cg;obtain⟨E,e6⟩:∃ E,E=aO y.id:=⟨_,rfl⟩
   have yx:ca y=.str y.key::E:=by rw[e6]; rfl
   have uV:E.length=32:=by rw[e6]; exact cC (ap y cr)
   have Lh:bd E=true:=by rw[e6]; exact e4 _
   rw[yx] at cg jg;simp[er,ax,yx,uV,jg,avO];refine a6 uZ rfl ?_;cases aX:gM y.key with
   | false=>
    rw[aX,awR] at ek;simp[gI];exact aL (by rw[if_neg h1,Gy h ek]; rfl) rfl
   | true=>
    rw[aX,awL] at ek;rcases k with _ | k
    ·simp[gI,aR];exact⟨by omega,rfl,by rw[IntKind.wrap_i64]; omega,by rw[ek]; rfl⟩
    ·obtain⟨x,af,cE⟩:=bx (l:=s.l) (k:=k) (by omega);have bf:=mA (ap x cE);have dF:IntKind.i64.wrap (k:Int)=(k:Int) :=by rw[IntKind.wrap_i64]; omega
     have jL:(0:Int)<(k:Int)+1:=by omega
     have fp:=Kk x y (ap x cE) (ap y cr);rw[yx] at fp;simp only[axz,oF af,ax7,ayv,and_false,decide_false,ax5] at ek;simp[gI,jL,af,bf,dF,uV,avO];refine a6 fp (by simp[bd,U.closed,Lh,pp]) ?_;have qx:=F7 x y;by_cases bw:jy x y<0
     ·rw[qx.1 bw] at ek;have wP:¬ (0:Int)<=jy x y:=by omega
      simp[wP,aR];refine⟨by omega,rfl,by rw[IntKind.wrap_i64]; omega,fun j ai=>?_⟩;by_cases gc:j=k+1
      ·rw[gc,ek]
      ·exact ak j (by omega)
     ·have wP:(0:Int)<=jy x y:=by omega
      have c5:e2 x y=false:=by
       cases dZ:e2 x y with
       | false=>rfl
       | true=>exact absurd (qx.2 dZ) bw
      rw[c5] at ek;simp[wP];exact aL (by rw[if_neg h1,Gy h ek]; rfl) rfl
  ·simp[h];have h4:k=s.l.length:=by simp at h; omega
   exact aL (by rw[if_neg h1,if_pos (K3 fun j ai=>ak j (by omega))]) rfl
abbrev zf (l:List (List UInt8)) (k:Nat) :List UInt8:=l.getD k []
def adg (l:List (List UInt8)) (m:Nat) :List (List UInt8) :=(List.range m).flatMap fun k=>if k=0\/zf l k≠zf l (k - 1) then [zf l k] else []
structure apq (l:am) (v:U) (xs:List (List UInt8)) (k:Nat) (ae:bg) (l1:am) :Prop where
 cf:ae 0=v
 a8:ae 3=.int .i64 ((k+1:Nat) :Int)
 al:l1=l
 ak:∀ j,1<=j->j<k+1->zf xs j≠zf xs (j - 1)
structure apo (l:am) (v dS:U) (j:Nat) (xs:List (List UInt8)) (m i:Nat) (ae:bg) (b1:am) :Prop where
 cf:ae 0=v
 bA:ae 4=dS
 bi:ae 5=.int .i64 ((i+1:Nat) :Int)
 ex:∃ (k:Nat) (bh:List (List UInt8)),ae 3=.int .i64 (k:Int)/\bH 1 b1 v j (bh.map Gd)/\bh.length=xs.length/\(∀ y∈bh,y.length=y.length)/\bh.take k=adg xs (m+i+1)/\k<=m+i/\(∀ t,m+i<=t->zf bh t=zf xs t)/\b1.length=l.length/\∀ b,b≠j->b1[b]? = l[b]?
theorem tU {l:am} {a b fl bu:U} (h1:Rd l a fl) (ad:Rd l b bu) :Rd l (.bG [a,b]) (.bG [fl,bu]) :=by
 refine .bG _ _ rfl fun j x kn af zd=>?_
 rcases j with _ | _ | j
 ·simp at af zd; subst af zd; exact h1
 ·simp at af zd; subst af zd; exact ad
 ·simp at af
theorem xD {l:am} {a fl:U} (h1:Rd l a fl) :Rd l (.aH [a]) (.aH [fl]) :=by
 refine .aH _ _ rfl fun j x kn af zd=>?_
 rcases j with _ | j
 ·simp at af zd; subst af zd; exact h1
 ·simp at af
structure apv (s:fh) (k:Nat) (ae:bg) (l:am) :Prop where
 aey:ae 14=er s
 s5:ae 15=.int .i64 s.l.length
 qp:ae 16=.int .i64 k
 tH:∃ v,ae 5=v/\cu 1 Gd [.cells 1 [er s]] l v ((s.l.map bq.key).take k) (decide (k=0))
theorem alM (s:fh) (ap:hU s.l) (al:s.l.length<=1000000) :bz Tryz.prog GS 62 [.aH [er s]] (.int .i64 (kI s.l)) :=by
 refine bL Tryz.checked.mixed bE ?_;apply bp Tryz.func62 [];unfold kI;have bn:cK (.ar 33) (er s)=some (.int .i64 s.l.length) :=by simp[er]
 by_cases h1:60<s.l.length
 ·have dg:(60:Int)<(s.l.length:Int) :=by omega
  simp[bn,dg];exact aL (by rw[if_pos h1]) rfl
 ·have dg:¬ (60:Int)<(s.l.length:Int) :=by omega
  simp[bn,dg];refine cI s.l.length (fun k ae l=>l=[.cells 1 [er s]]/\ae 1=.ptr 0 0 1/\ae 3=.int .i64 k/\∀ j,j<k->qq s.l j=true) ?_ (by simp);rintro k ae l hk ⟨rfl,aP,a8,ak⟩;obtain⟨ae,rfl⟩:=p2 aP a8;clear aP a8;simp[bn];refine jo (fun h=>?_) (fun h=>?_)
  ·simp only[decide_eq_true_eq] at h;obtain⟨y,ax,cr⟩:=bx (l:=s.l) (k:=k) (by omega);have cg:=mA (ap y cr);have aR:IntKind.i64.wrap ((k:Int)+1)=((k+1:Nat) :Int) :=by rw[IntKind.wrap_i64]; omega
   have uZ:=EC y.key;have ek:qq s.l k=(gM y.key&&(decide (k=0)||e2 (pZ s.l (k - 1)) y)) :=by unfold qq; rw[oF ax]
   obtain⟨E,e6⟩:∃ E,E=aO y.id:=⟨_,rfl⟩
   have yx:ca y=.str y.key::E:=by rw[e6]; rfl
   have uV:E.length=32:=by rw[e6]; exact cC (ap y cr)
   have Lh:bd E=true:=by rw[e6]; exact e4 _
   simp[er,ax,yx];refine a6 uZ rfl ?_;cases aX:gM y.key with
   | false=>
    rw[aX,awR] at ek;simp;exact aL (by rw[if_neg h1,Gy h ek]; rfl) rfl
   | true=>
    rw[aX,awL] at ek;rcases k with _ | k
    ·simp[aR,er]
     and_intros<;>first | omega | rfl | (rw[IntKind.wrap_i64]; omega) | (rw[ek]; rfl)
    ·obtain⟨x,af,cE⟩:=bx (l:=s.l) (k:=k) (by omega);have bf:=mA (ap x cE);have dF:IntKind.i64.wrap (k:Int)=(k:Int) :=by rw[IntKind.wrap_i64]; omega
     have jL:(0:Int)<(k:Int)+1:=by omega
     have fp:=ajP x y (ap x cE) (ap y cr);rw[yx] at fp;simp only[axz,oF af,ax7,ayv,and_false,decide_false,ax5] at ek;simp[jL,af,ax,yx,bf,dF,uV,avO];refine⟨by omega,?_⟩;refine a6 fp (by simp[bd,U.closed,Lh,pp]) ?_;cases bw:e2 x y with
     | true=>
      rw[bw] at ek;simp[aR];refine⟨by omega,rfl,by rw[IntKind.wrap_i64]; omega,fun j ai=>?_⟩;by_cases gc:j=k+1
      ·rw[gc,ek]
      ·exact ak j (by omega)
     | false=>
      rw[bw] at ek;simp;exact aL (by rw[if_neg h1,Gy h ek]; rfl) rfl
  ·simp[h];have h4:k=s.l.length:=by simp at h; omega
   exact aL (by rw[if_neg h1,if_pos (K3 fun j ai=>ak j (by omega))]) rfl
def alx (l:List bq) (m:Nat) :List (List UInt8) :=(List.range m).flatMap fun k=>if afQ (l.take k) (pZ l k).key then [] else [(pZ l k).key]
structure apw (s:fh) (k:Nat) (ae:bg) (l:am) :Prop where
 aP:ae 1=.ptr 0 0 1
 bi:ae 5=.int .i64 k
 tH:∃ v,ae 4=v/\cu 1 Gd [.cells 1 [er s]] l v (alx s.l k) (decide (k=0))
def H0:List mx:=.s::List.replicate 32 (.i .u8)
theorem Xd:r7 Tryz.prog 20 53=some H0:=by kernel_rfl
theorem It {t:bq} (h:t.id.length=32) :ib H0 (ca t)=true:=by
 unfold H0 ca;have:=zx t.id;rw[h] at this;simp only[ib,Fl,awL];exact this
theorem Qx {a b:bq} (aA:a.id.length=32) (ag:b.id.length=32) :fD (ca a) (ca b)=decide (a=b) :=by
 unfold ca aO;simp only[fD,U.beq];rw[Cw a.id b.id (by omega)];cases a; cases b;simp only[bq.mk.injEq];rename_i ce ev bP e9;by_cases h1:ce=bP<;>by_cases ad:ev=e9<;>simp[h1,ad]
theorem anJ {a b:bq} (aA:a.id.length=32) (ag:b.id.length=32) :gH Tryz.prog .neq 53 (.aH (ca a)) (.aH (ca b))=some (.bool (!decide (a=b))) :=by
 rw[FT Xd (by kernel_rfl) (by kernel_rfl) (It aA) (It ag),Qx aA ag]
theorem amD (a b:fh) (aA:hU a.l) (ag:hU b.l) (al:a.l.length<=1000000) :bz Tryz.prog GS 56 [.aH [er a],.aH [er b]] (.bool (decide (a.l=b.l))) :=by
 refine bL Tryz.checked.mixed bE ?_;apply bp Tryz.func56 [];have mO:cK (.ar 33) (er a)=some (.int .i64 a.l.length) :=by simp[er]
 have oW:cK (.ar 33) (er b)=some (.int .i64 b.l.length) :=by simp[er]
 by_cases h1:a.l.length=b.l.length
 ·have dg:((a.l.length:Int)=b.l.length) :=by omega
  simp[mO,oW,h1];refine cI a.l.length (fun k ae l=>l=[.cells 1 [er a],.cells 1 [er b]]/\ae 2=.ptr 0 0 1/\ae 3=.ptr 1 0 1/\ae 5=.int .i64 k/\∀ j,j<k->a.l[j]? = b.l[j]?) ?_ (by simp);rintro k ae l hk ⟨rfl,aU,a8,bi,ak⟩;obtain⟨s,rfl⟩:=kj aU a8 bi;clear aU a8 bi;simp[mO];refine jo (fun h=>?_) (fun h=>?_)
  ·simp only[decide_eq_true_eq] at h;obtain⟨x,af,cE⟩:=bx h;obtain⟨y,ax,cr⟩:=bx (l:=b.l) (k:=k) (by omega);have aR:IntKind.i64.wrap ((k:Int)+1)=((k+1:Nat) :Int) :=by rw[IntKind.wrap_i64]; omega
   have bN:ck (.ar 33) (er a) (.int .i64 (k:Int))=some (.b3 (ca x) 0) :=by simp[er,af]
   have lv:ck (.ar 33) (er b) (.int .i64 (k:Int))=some (.b3 (ca y) 0) :=by simp[er,ax]
   have bf:=mA (aA x cE);have cg:=mA (ag y cr);have bI:=anJ (aA x cE) (ag y cr);obtain⟨X,cv⟩:∃ X,X=ca x:=⟨_,rfl⟩
   obtain⟨Y,eD⟩:∃ Y,Y=ca y:=⟨_,rfl⟩
   rw[<-cv] at bN bf bI;rw[<-eD] at lv cg bI;simp[bN,lv,bf,cg,avO,bI];by_cases ao:x=y
   ·simp[ao,aR];refine⟨by omega,fun j ai=>?_⟩;by_cases gc:j=k
    ·subst gc; rw[af,ax,ao]
    ·exact ak j (by omega)
   ·simp[ao];refine aL (congrArg U.bool (decide_eq_false fun fo=>ao ?_).symm) rfl;rw[fo,ax] at af; exact (Option.some.inj af).symm
  ·simp[h];have h4:k=a.l.length:=by simp at h; omega
   refine aL (congrArg U.bool (decide_eq_true ?_).symm) rfl;apply awM;intro j;by_cases ai:j<a.l.length
   ·exact ak j (by omega)
   ·rw[av5 (by omega),av5 (by omega)]
 ·have dg:¬ ((a.l.length:Int)=b.l.length) :=by omega
  simp[mO,oW,h1,dg];exact aL (by rw[decide_eq_false (fun fo=>h1 (by rw[fo]))]) rfl
end Op

end Go.cb

namespace Go.cb
open Go Go.Proofs Go.Shelf Go.RowKit Go.Lib
set_option maxRecDepth 100000
set_option maxHeartbeats 4000000
theorem aiV (base:Option Addr) (n c eO fz g9:Nat) (r:Value) (w w' : World) (aC:n<=c) (pt:n<=4611686018427387904) (gQ:base=none->n=0/\c=0)
  (hv:(Builtin.append_ #[32,32] 32 #[.slice base n c,.slice (some ⟨fz,g9,none⟩) 1 eO]).run Tryz.prog w=.ok r w') :
  Calls Tryz.prog 138 #[.slice base n c,.int .i64 n,.slice (some ⟨fz,g9,none⟩) 1 eO] w fun e w2=>e=.returned r/\w2=w':=by
 have zQ:=Tryz.underlying32;have mixed:=Tryz.checked.mixed
 go_enter Tryz.func138,Tryz.ntmps138
 cases base with
 | none=>
  obtain⟨aD,h1⟩:=gQ rfl;subst aD h1
  go_wp2_with (at_builtin; refine Lib.wpList_append_run _ rfl _ _ _ _ rfl _ _ rfl rfl _ _ hv ?_)
  go_ret
  exact⟨rfl,rfl⟩
 | some a=>
  obtain⟨ab,abN,abW⟩:=a
  go_wp2_with (at_builtin; refine Lib.wpList_append_run _ rfl _ _ _ _ rfl _ _ rfl rfl _ _ hv ?_)
  all_goals (go_ret; exact⟨rfl,rfl⟩)
theorem ai0 (b off n c i fz g9 eO:Nat) (ce bP:Value) (w jw hI:World) (zM fC:TypeId) (qY tA:Nat) (av:i<n) (dA:n+1<=c) (pt:n<=4611686018427387904) (om:fz≠b)
  (y5:w.shape? fz=some (zM,qY)) (y6:w.shape? b=some (fC,tA)) (L6:tA≠0) (kz:w.frozen? ⟨fz,g9,none⟩=false) (yN:w.frozen? ⟨fz,qY,none⟩=false)
  (qy:(Builtin.copy_ #[32,32] 3 #[.slice (some ⟨b,off+(i+1)*38,none⟩) (n - i) (c - (i+1)),.slice (some ⟨b,off+i*38,none⟩) (n+1 - i) (c - i)]).run Tryz.prog w.drew=.ok ce jw)
  (qz:(Builtin.copy_ #[32,32] 3 #[.slice (some ⟨b,off+i*38,none⟩) (n+1 - i) (c - i),.slice (some ⟨fz,g9,none⟩) 1 eO]).run Tryz.prog jw=.ok bP hI) :
  Calls Tryz.prog 138 #[.slice (some ⟨b,off,none⟩) n c,.int .i64 i,.slice (some ⟨fz,g9,none⟩) 1 eO] w fun e w2=>e=.returned (.slice (some ⟨b,off,none⟩) (n+1) c)/\w2=hI:=by
 have zQ:=Tryz.underlying32;have z0:∀ w,(Go.sizeOf 50).run Tryz.prog w=.ok 38 w:=fun w=>fS (by kernel_rfl)
 have mixed:=Tryz.checked.mixed;have DU:∀ zj qh,(callFunc 191 #[.slice (some ⟨fz,g9,none⟩) 1 eO,.slice (some ⟨b,off+(i+1)*38,none⟩) zj qh]).run Tryz.prog w=.ok (.value (.bool false)) w:=fun zj qh=>by
  rw[run_callFunc_extern Tryz.func191 (by kernel_rfl) (by kernel_rfl) (by kernel_rfl) (e:=Extern.SlicesOverlaps.overlaps #[32,32] #[4]) (by kernel_rfl),
   Lib.run_overlaps_apart w 32 4 50 zQ 38 z0 ⟨fz,g9,none⟩ ⟨b,off+(i+1)*38,none⟩ 1 eO zj qh om zM fC qY tA y5 y6 L6 kz yN]
  rfl
 have iH:¬ ((i:Int)=(n:Int)) :=by omega
 have j9:IntKind.i64.wrap ((i:Int)+1)=(i:Int)+1:=by rw[IntKind.wrap_i64]; omega
 have mV:IntKind.i64.wrap ((n:Int)+1)=(n:Int)+1:=by rw[IntKind.wrap_i64]; omega
 have gY:(0:Int)<=(i:Int)+1:=by omega
 have ec:i<=n:=by omega
 have HP:((i:Int)+1).toNat=i+1:=by omega
 have gb:¬ (c=i+1) :=by omega
 have rL:(i:Int)<=(n:Int)+1:=by omega
 have afU:¬ (c=i) :=by omega
 have afV:¬ ((c:Int)<(n:Int)+1) :=by omega
 go_enter Tryz.func138,Tryz.ntmps138
 go_wp2_with (simp only[DU])
 go_region_law_o (refine step_copy_runI rfl _ _ 32 32 rfl _ _ (by simp[Act.eval,Act.put]) (by simp[Act.eval,Act.put]) qy ?_)
 go_wp2_with (at_builtin; refine wpList_copy_runI _ rfl _ _ 32 32 rfl _ _ rfl rfl qz ?_)
 go_ret
 exact⟨rfl,rfl⟩
theorem aiX (b off n c i fz g9 eO N G:Nat) (ce bP:Value) (w v2 jw hI:World) (av:i<n) (Hy:n<=c) (dA:c<n+1) (kT:n+1<=G) (pt:n<=4611686018427387904)
  (j4:(Builtin.append_ #[32,3] 32 #[.slice (some ⟨b,off,none⟩) i c,.int .i64 ((n:Int)+1 - (i:Int))]).run Tryz.prog w=.ok (.slice (some ⟨N,0,none⟩) (n+1) G) v2)
  (qy:(Builtin.copy_ #[32,32] 3 #[.slice (some ⟨N,i*38,none⟩) (n+1 - i) (G - i),.slice (some ⟨fz,g9,none⟩) 1 eO]).run Tryz.prog v2=.ok ce jw)
  (qz:(Builtin.copy_ #[32,32] 3 #[.slice (some ⟨N,(i+1)*38,none⟩) (n - i) (G - (i+1)),.slice (some ⟨b,off+i*38,none⟩) (n - i) (c - i)]).run Tryz.prog jw.drew=.ok bP hI) :
  Calls Tryz.prog 138 #[.slice (some ⟨b,off,none⟩) n c,.int .i64 i,.slice (some ⟨fz,g9,none⟩) 1 eO] w fun e w2=>e=.returned (.slice (some ⟨N,0,none⟩) (n+1) G)/\w2=hI:=by
 have zQ:=Tryz.underlying32;have z0:∀ w,(Go.sizeOf 50).run Tryz.prog w=.ok 38 w:=fun w=>fS (by kernel_rfl)
 have mixed:=Tryz.checked.mixed;have iH:¬ ((i:Int)=(n:Int)) :=by omega
 have j9:IntKind.i64.wrap ((i:Int)+1)=(i:Int)+1:=by rw[IntKind.wrap_i64]; omega
 have mV:IntKind.i64.wrap ((n:Int)+1)=(n:Int)+1:=by rw[IntKind.wrap_i64]; omega
 have ait:IntKind.i64.wrap ((n:Int)+1 - (i:Int))=(n:Int)+1 - (i:Int) :=by rw[IntKind.wrap_i64]; omega
 have gY:(0:Int)<=(i:Int)+1:=by omega
 have ec:i<=n:=by omega
 have HP:((i:Int)+1).toNat=i+1:=by omega
 have afh:¬ (G=i) :=by omega
 have afi:¬ (G=i+1) :=by omega
 have dh:¬ (c=i) :=by omega
 have MV:(c:Int)<(n:Int)+1:=by omega
 have rL:(i:Int)<=(n:Int) :=by omega
 have afW:(i:Int)<=(c:Int) :=by omega
 go_enter Tryz.func138,Tryz.ntmps138
 go_wp2_with (first
  | (at_builtin; refine Lib.wpList_append_run _ rfl _ _ _ _ rfl _ _ rfl rfl _ _ j4 ?_)
  | (at_builtin; refine wpList_copy_runI _ rfl _ _ 32 32 rfl _ _ rfl rfl qy ?_))
 go_region_law_o (refine step_copy_runI rfl _ _ 32 32 rfl _ _ (by simp[Act.eval,Act.put]) (by simp[Act.eval,Act.put]) qz ?_)
 go_wp2
 go_ret
 exact⟨rfl,rfl⟩
theorem M9:Ci Tryz.prog 138 32 3 50 38:=
 ⟨Tryz.underlying32,Tryz.underlying3,aiV,ai0,aiX⟩
theorem aiM {G:Nat->U} (args:List U) (h:aQ) (r:U) (h' : aQ) (af:tx 38 96 args h=some (r,h')) :sG Tryz.prog G 138 args h r h':=
 WQ M9 (by kernel_rfl) (by kernel_rfl) (by kernel_rfl) (by omega) (by omega) (by kernel_rfl) args h r h' af
theorem aiW (base:Option Addr) (n c eO fz g9:Nat) (r:Value) (w w' : World) (aC:n<=c) (pt:n<=4611686018427387904) (gQ:base=none->n=0/\c=0)
  (hv:(Builtin.append_ #[29,29] 29 #[.slice base n c,.slice (some ⟨fz,g9,none⟩) 1 eO]).run Tryz.prog w=.ok r w') :
  Calls Tryz.prog 152 #[.slice base n c,.int .i64 n,.slice (some ⟨fz,g9,none⟩) 1 eO] w fun e w2=>e=.returned r/\w2=w':=by
 have zQ:=Tryz.underlying29;have mixed:=Tryz.checked.mixed
 go_enter Tryz.func152,Tryz.ntmps152
 cases base with
 | none=>
  obtain⟨aD,h1⟩:=gQ rfl;subst aD h1
  go_wp2_with (at_builtin; refine Lib.wpList_append_run _ rfl _ _ _ _ rfl _ _ rfl rfl _ _ hv ?_)
  go_ret
  exact⟨rfl,rfl⟩
 | some a=>
  obtain⟨ab,abN,abW⟩:=a
  go_wp2_with (at_builtin; refine Lib.wpList_append_run _ rfl _ _ _ _ rfl _ _ rfl rfl _ _ hv ?_)
  all_goals (go_ret; exact⟨rfl,rfl⟩)
theorem ai1 (b off n c i fz g9 eO:Nat) (ce bP:Value) (w jw hI:World) (zM fC:TypeId) (qY tA:Nat) (av:i<n) (dA:n+1<=c) (pt:n<=4611686018427387904) (om:fz≠b)
  (y5:w.shape? fz=some (zM,qY)) (y6:w.shape? b=some (fC,tA)) (L6:tA≠0) (kz:w.frozen? ⟨fz,g9,none⟩=false) (yN:w.frozen? ⟨fz,qY,none⟩=false)
  (qy:(Builtin.copy_ #[29,29] 3 #[.slice (some ⟨b,off+(i+1)*33,none⟩) (n - i) (c - (i+1)),.slice (some ⟨b,off+i*33,none⟩) (n+1 - i) (c - i)]).run Tryz.prog w.drew=.ok ce jw)
  (qz:(Builtin.copy_ #[29,29] 3 #[.slice (some ⟨b,off+i*33,none⟩) (n+1 - i) (c - i),.slice (some ⟨fz,g9,none⟩) 1 eO]).run Tryz.prog jw=.ok bP hI) :
  Calls Tryz.prog 152 #[.slice (some ⟨b,off,none⟩) n c,.int .i64 i,.slice (some ⟨fz,g9,none⟩) 1 eO] w fun e w2=>e=.returned (.slice (some ⟨b,off,none⟩) (n+1) c)/\w2=hI:=by
 have zQ:=Tryz.underlying29;have z0:∀ w,(Go.sizeOf 53).run Tryz.prog w=.ok 33 w:=fun w=>fS (by kernel_rfl)
 have mixed:=Tryz.checked.mixed;have DU:∀ zj qh,(callFunc 207 #[.slice (some ⟨fz,g9,none⟩) 1 eO,.slice (some ⟨b,off+(i+1)*33,none⟩) zj qh]).run Tryz.prog w=.ok (.value (.bool false)) w:=fun zj qh=>by
  rw[run_callFunc_extern Tryz.func207 (by kernel_rfl) (by kernel_rfl) (by kernel_rfl) (e:=Extern.SlicesOverlaps.overlaps #[29,29] #[4]) (by kernel_rfl),
   Lib.run_overlaps_apart w 29 4 53 zQ 33 z0 ⟨fz,g9,none⟩ ⟨b,off+(i+1)*33,none⟩ 1 eO zj qh om zM fC qY tA y5 y6 L6 kz yN]
  rfl
 have iH:¬ ((i:Int)=(n:Int)) :=by omega
 have j9:IntKind.i64.wrap ((i:Int)+1)=(i:Int)+1:=by rw[IntKind.wrap_i64]; omega
 have mV:IntKind.i64.wrap ((n:Int)+1)=(n:Int)+1:=by rw[IntKind.wrap_i64]; omega
 have gY:(0:Int)<=(i:Int)+1:=by omega
 have ec:i<=n:=by omega
 have HP:((i:Int)+1).toNat=i+1:=by omega
 have gb:¬ (c=i+1) :=by omega
 have rL:(i:Int)<=(n:Int)+1:=by omega
 have afU:¬ (c=i) :=by omega
 have afV:¬ ((c:Int)<(n:Int)+1) :=by omega
 go_enter Tryz.func152,Tryz.ntmps152
 go_wp2_with (simp only[DU])
 go_region_law_o (refine step_copy_runI rfl _ _ 29 29 rfl _ _ (by simp[Act.eval,Act.put]) (by simp[Act.eval,Act.put]) qy ?_)
 go_wp2_with (at_builtin; refine wpList_copy_runI _ rfl _ _ 29 29 rfl _ _ rfl rfl qz ?_)
 go_ret
 exact⟨rfl,rfl⟩
theorem aiY (b off n c i fz g9 eO N G:Nat) (ce bP:Value) (w v2 jw hI:World) (av:i<n) (Hy:n<=c) (dA:c<n+1) (kT:n+1<=G) (pt:n<=4611686018427387904)
  (j4:(Builtin.append_ #[29,3] 29 #[.slice (some ⟨b,off,none⟩) i c,.int .i64 ((n:Int)+1 - (i:Int))]).run Tryz.prog w=.ok (.slice (some ⟨N,0,none⟩) (n+1) G) v2)
  (qy:(Builtin.copy_ #[29,29] 3 #[.slice (some ⟨N,i*33,none⟩) (n+1 - i) (G - i),.slice (some ⟨fz,g9,none⟩) 1 eO]).run Tryz.prog v2=.ok ce jw)
  (qz:(Builtin.copy_ #[29,29] 3 #[.slice (some ⟨N,(i+1)*33,none⟩) (n - i) (G - (i+1)),.slice (some ⟨b,off+i*33,none⟩) (n - i) (c - i)]).run Tryz.prog jw.drew=.ok bP hI) :
  Calls Tryz.prog 152 #[.slice (some ⟨b,off,none⟩) n c,.int .i64 i,.slice (some ⟨fz,g9,none⟩) 1 eO] w fun e w2=>e=.returned (.slice (some ⟨N,0,none⟩) (n+1) G)/\w2=hI:=by
 have zQ:=Tryz.underlying29;have z0:∀ w,(Go.sizeOf 53).run Tryz.prog w=.ok 33 w:=fun w=>fS (by kernel_rfl)
 have mixed:=Tryz.checked.mixed;have iH:¬ ((i:Int)=(n:Int)) :=by omega
 have j9:IntKind.i64.wrap ((i:Int)+1)=(i:Int)+1:=by rw[IntKind.wrap_i64]; omega
 have mV:IntKind.i64.wrap ((n:Int)+1)=(n:Int)+1:=by rw[IntKind.wrap_i64]; omega
 have ait:IntKind.i64.wrap ((n:Int)+1 - (i:Int))=(n:Int)+1 - (i:Int) :=by rw[IntKind.wrap_i64]; omega
 have gY:(0:Int)<=(i:Int)+1:=by omega
 have ec:i<=n:=by omega
 have HP:((i:Int)+1).toNat=i+1:=by omega
 have afh:¬ (G=i) :=by omega
 have afi:¬ (G=i+1) :=by omega
 have dh:¬ (c=i) :=by omega
 have MV:(c:Int)<(n:Int)+1:=by omega
 have rL:(i:Int)<=(n:Int) :=by omega
 have afW:(i:Int)<=(c:Int) :=by omega
 go_enter Tryz.func152,Tryz.ntmps152
 go_wp2_with (first
  | (at_builtin; refine Lib.wpList_append_run _ rfl _ _ _ _ rfl _ _ rfl rfl _ _ j4 ?_)
  | (at_builtin; refine wpList_copy_runI _ rfl _ _ 29 29 rfl _ _ rfl rfl qy ?_))
 go_region_law_o (refine step_copy_runI rfl _ _ 29 29 rfl _ _ (by simp[Act.eval,Act.put]) (by simp[Act.eval,Act.put]) qz ?_)
 go_wp2
 go_ret
 exact⟨rfl,rfl⟩
theorem Na:Ci Tryz.prog 152 29 3 53 33:=
 ⟨Tryz.underlying29,Tryz.underlying3,aiW,ai1,aiY⟩
theorem aiN {G:Nat->U} (args:List U) (h:aQ) (r:U) (h' : aQ) (af:tx 33 48 args h=some (r,h')) :sG Tryz.prog G 152 args h r h':=
 WQ Na (by kernel_rfl) (by kernel_rfl) (by kernel_rfl) (by omega) (by omega) (by kernel_rfl) args h r h' af
def M8 (f:FuncId) :Option (Nat × Nat) :=match Nat.beq f 138 with | true=>some (38,96) | false=>match Nat.beq f 152 with | true=>some (33,48) | false=>none
theorem aiL (f:FuncId) (z by_:Nat) (h:M8 f=some (z,by_)) (args:List U) (ay:aQ) (r:U) (gp:aQ) (af:tx z by_ args ay=some (r,gp)) :sG Tryz.prog GS f args ay r gp:=by
 unfold M8 at h;split at h
 ·rename_i ag;have aF:=awK ag;subst aF;cases h;exact aiM args ay r gp af
 split at h
 ·rename_i ag;have aF:=awK ag;subst aF;cases h;exact aiN args ay r gp af
 cases h
instance asw:rp Tryz.prog GS:=⟨M8,aiL⟩
end Go.cb

namespace Go.cb
open Go Go.Proofs
set_option maxRecDepth 100000
namespace Op
open gT
theorem XG (s:fh) :gH Tryz.prog .eql 29 (cB 33 ca s) .aT=some (.bool s.isNone) :=FS (e:=53) (by kernel_rfl) 33 ca s
theorem C6 {l:List bq} (h:hU l) :((l.map ca).flatten).length=l.length*33:=by
 rw[mC (z:=33) (fun e ao=>by obtain⟨y,ax,rfl⟩:=awf.1 ao; exact mA (h y ax)),av8]
theorem NY {l:am} {b n:Nat} {a:List bq} (aA:hU a) (aC:a.length=n) (ag:l[b]? = some (.cells (n*33) (a.map ca).flatten)) :bH 33 l (.ar 33 b 0 n n (n*33)) b (a.map ca) :=by
 have fc:=C6 aA;refine .ar b n n (n*33) _ _ ag (by rw[fc,aC]) (by simp[aC]) (fun e ao=>?_) (avR _) (avR _) ?_
 ·obtain⟨y,ax,rfl⟩:=awf.1 ao; exact mA (aA y ax)
 ·rw[avO (by rw[fc,aC]; omega)]
theorem acV (s:fh) (ap:hU s.l) (ak:s.l.length<=1000000) {l:am} {K:U->am->Prop} (aD:s=none->K .aT l)
  (h1:∀ a,s=some a->K (.ar 33 l.length 0 a.length a.length (a.length*33)) (l++[.cells (a.length*33) (a.map ca).flatten])) :
  c7 Tryz.prog GS 150 [er s] l (c:=⟨K⟩) :=by
 apply bp Tryz.func150 [];have az:cy=140737488355328:=rfl;cases s with
 | none=>
  simp[er,XG];exact aD rfl
 | some a=>
  simp at ak;have fc:=C6 (l:=a) ap;have j4:gx (l++[a7.cells 0 []]) 33 48 (.ar 33 l.length 0 0 0 0) (cB 33 ca (some a))=some (.ar 33 l.length 0 a.length a.length (a.length*33),l++[.cells (a.length*33) (a.map ca).flatten]) :=by
   unfold gx;rw[uG];simp only[cQ.zi];unfold hJ;by_cases aw:a.length=0
   ·have:a=[] :=awt.1 aw;subst this;simp
   ·rw[if_neg aw,if_neg (by omega)];simp[az];exact⟨by omega,fun h=>by simp[h]⟩
  simp[er,XG,j4];refine dp.cx ?_;simp;exact h1 a rfl
theorem akJ (a b:Int) :xw a b=0<->a=0/\b=0:=by
 unfold xw;by_cases h:a=0<;>simp[h]
theorem S3 (a b:List UInt8) :qj a b=0<->a=b:=by
 unfold qj;cases h:fv a b with
 | true=>
  have h1:=(tY _ _).1 h;simp;rintro rfl;exact absurd h1 (ay7 _)
 | false=>
  by_cases ad:a=b<;>simp[ad]
theorem ac2 (a b:bq) :jy a b=0<->a=b:=by
 unfold jy;rw[akJ,S3];constructor
 ·rintro⟨h1,ad⟩;have:=sX ad;cases a; cases b; simp_all
 ·rintro rfl;exact⟨rfl,pq _⟩
def jz (l:List bq) (x:bq) :Nat:=(l.takeWhile fun t=>e2 t x).length
theorem F8 (x:bq) :∀ {l:List bq} {p:Nat},p<=l.length->(∀ (t:Nat) (y:bq),t<p->l[t]? = some y->e2 y x=true)->(∀ y,l[p]? = some y->e2 y x=false)->jz l x=p
 | [],p,ay,_,_=>by simp at ay; subst ay; rfl
 | y::l,0,_,_,ad=>by
  have:=ad y (by simp);unfold jz;rw[aw7,this]; rfl
 | y::l,p+1,ay,h1,ad=>by
  have ax:=h1 0 y (by omega) (by simp);have aJ:=F8 x (l:=l) (p:=p) (by simpa using ay) (fun t z aI aw=>h1 (t+1) z (by omega) (by simpa using aw)) (fun z aw=>ad z (by simpa using aw));unfold jz at aJ ⊢;rw[aw7,ax];simpa using aJ
def rF (l:List bq) (x:bq) :Bool:=decide (jz l x<l.length)&&decide (pZ l (jz l x)=x)
def XD (l:List bq) (x:bq) :Prop:=∀ (i j:Nat) (a b:bq),i<=j->l[i]? = some a->l[j]? = some b->e2 b x=true->e2 a x=true
theorem Zv (n:Nat) (h:n<9223372036854775808) :cD .shr .u64 (n:Int) .u64 1=some (.int .u64 ((n / 2:Nat) :Int)) :=by
 have:=uA (BitVec.ofNat 64 n) .u64 1;have aN:(u (BitVec.ofNat 64 n) :Int)=n:=by unfold u; rw[awc,av4 (by omega)]
 have au:(u (BitVec.ofNat 64 n >>> 1) :Int)=((n / 2:Nat) :Int) :=by
  unfold u; rw[awH,awc,av4 (by omega),awj]
 rw[aN,au] at this;exact this
structure aaT (s:fh) (X:List U) (x:bq) (m:Nat) (ae:bg) (l:am) :Prop where
 ex:∃ (i j:Nat),j - i=m/\i<=j/\j<=s.l.length/\l=[.cells 33 X]/\ae 0=er s/\ae 2=.fn 86 [] []/\ae 4=.ptr 0 0 33/\ae 8=.int .i64 s.l.length/\ae 9=.int .i64 i/\ae 10=.int .i64 j ∧
  (∀ (t:Nat) (y:bq),t<i->s.l[t]? = some y->e2 y x=true)/\(∀ (t:Nat) (y:bq),j<=t->s.l[t]? = some y->e2 y x=false)
theorem TS:hQ Tryz.prog 86=true:=by kernel_rfl
theorem Zs (s:fh) (ap:hU s.l) (al:s.l.length<=1000000) (x:bq) (af:x.id.length=32) (hm:XD s.l x) :
  bz Tryz.prog GS 151 [er s,.aH (ca x),.fn 86 [] []] (.bG [.int .i64 (jz s.l x),.bool (rF s.l x)]) :=by
 refine bL Tryz.checked.mixed bE ?_;apply bp Tryz.func151 [];have bn:cK (.ar 33) (er s)=some (.int .i64 s.l.length) :=by simp[er]
 have bf:=mA af;have gL:=pp x;have fp:∀ y∈s.l,bz Tryz.prog GS 86 [.aH (ca y),.aH (ca x)] (.int .i64 (jy y x)) :=fun y ax=>Kk y x (ap y ax) af
 obtain⟨X,cv⟩:∃ X,X=ca x:=⟨_,rfl⟩
 rw[<-cv] at bf gL fp ⊢;simp[bn];refine vr (aaT s X x) ?_ s.l.length _ _ ⟨0,s.l.length,by omega,by omega,by omega,by simp[bf],by simp,by simp,by simp[bf],by simp,by simp,by simp,fun t y h=>by omega,fun t y h ad=>by rw[av5 h] at ad; cases ad⟩;rintro m ae l ⟨i,j,go,hu,e7,rfl,cf,aU,bA,dj,gJ,fI,h1,ad⟩;obtain⟨ae,rfl⟩:=vP cf aU bA dj gJ fI;clear cf aU bA dj gJ fI;by_cases aM:i<j
 ·obtain⟨h,aG⟩:∃ h,h=(i+j) / 2:=⟨_,rfl⟩
  have b2:IntKind.i64.wrap ((i:Int)+j)=((i+j:Nat) :Int) :=by rw[IntKind.wrap_i64]; omega
  have w2:IntKind.u64.wrap ((i+j:Nat) :Int)=((i+j:Nat) :Int) :=by rw[vR,axh]; unfold u; rw[awc,av4 (by omega)]
  have eh:=Zv (i+j) (by omega);have oH:IntKind.i64.wrap (h:Int)=(h:Int) :=by rw[IntKind.wrap_i64]; omega
  have rj:IntKind.i64.wrap ((h:Int)+1)=((h+1:Nat) :Int) :=by rw[IntKind.wrap_i64]; omega
  have jd:(i:Int)<(j:Int) :=by omega
  rw[<-aG] at eh;obtain⟨y,ax,cr⟩:=bx (l:=s.l) (k:=h) (by omega);have cg:=mA (ap y cr);have k4:=pp y;have bN:ck (.ar 33) (er s) (.int .i64 (h:Int))=some (.b3 (ca y) 0) :=by simp[er,ax]
  have jG:=fp y cr;have qx:=F7 y x;obtain⟨Y,eD⟩:∃ Y,Y=ca y:=⟨_,rfl⟩
  rw[<-eD] at cg k4 bN jG;obtain⟨N,fy⟩:∃ N,N=i+j:=⟨_,rfl⟩
  rw[<-fy] at b2 w2 eh;simp[aM,b2,w2,eh,oH,bN,cg,bf,avO];refine⟨TS,a6 jG (by simp[bd,U.closed,k4,gL]) ?_⟩;by_cases bw:jy y x<0
  ·simp[bw,rj];refine⟨j - (h+1),by omega,h+1,j,rfl,by omega,by omega,by simp,by simp,by simp,by simp,by simp,by simp,by simp,fun t z aI aw=>?_,ad⟩;exact hm t h z y (by omega) aw ax (qx.1 bw)
  ·simp[bw];refine⟨h - i,by omega,i,h,rfl,by omega,by omega,by simp,by simp,by simp,by simp,by simp,by simp,by simp,h1,fun t z aI aw=>?_⟩;cases c5:e2 z x with
   | false=>rfl
   | true=>exact absurd (qx.2 (hm h t y z aI ax aw c5)) bw
 ·have jd:¬ (i:Int)<(j:Int) :=by omega
  obtain rfl:i=j:=by omega
  have ah:=F8 x (l:=s.l) (p:=i) e7 h1 (fun y ax=>ad i y (avR _) ax);by_cases c3:i<s.l.length
  ·have LZ:(i:Int)<(s.l.length:Int) :=by omega
   obtain⟨y,ax,cr⟩:=bx (l:=s.l) (k:=i) c3;have cg:=mA (ap y cr);have k4:=pp y;have bN:ck (.ar 33) (er s) (.int .i64 (i:Int))=some (.b3 (ca y) 0) :=by simp[er,ax]
   have jG:=fp y cr;have DC:=ac2 y x;obtain⟨Y,eD⟩:∃ Y,Y=ca y:=⟨_,rfl⟩
   rw[<-eD] at cg k4 bN jG;simp[c3,bN,cg,bf,avO];refine⟨TS,a6 jG (by simp[bd,U.closed,k4,gL]) ?_⟩;simp;refine aL ?_ rfl;unfold rF;rw[ah,oF ax,decide_eq_true c3,awL];simp[DC]
  ·have LZ:¬ (i:Int)<(s.l.length:Int) :=by omega
   simp[c3];refine aL ?_ rfl;unfold rF;rw[ah,decide_eq_false c3,awR]
def jk (l:List bq) (i:Nat) (x:bq) :List bq:=l.take i++x::l.drop i
theorem M6 (l:List bq) (i:Nat) (x:bq) :(jk l i x).length=l.length+1:=by
 unfold jk; simp; omega
theorem M7 {l:List bq} {i:Nat} {x:bq} (h:hU l) (af:x.id.length=32) :hU (jk l i x) :=by
 intro t aI;unfold jk at aI;rcases awl.1 aI with h1 | h1
 ·exact h t (awh h1)
 ·rcases awA.1 h1 with ad | ad
  ·rw[ad]; exact af
  ·exact h t (axo ad)
theorem aiT {l:am} {b bv n i:Nat} {a:List bq} {x:bq} (aA:hU a) (af:x.id.length=32) (aC:a.length=n) (ag:l[b]? = some (.cells (n*33) (a.map ca).flatten)) (iq:l[bv]? = some (.cells 33 (ca x))) (bI:bv≠b) (av:i<=n) (oX:n<=1000000)
  {K:U->am->Prop} (aY:K (.ar 33 l.length 0 (n+1) (n+1) ((n+1)*33)) (l.set b .dead++[.cells ((n+1)*33) ((jk a i x).map ca).flatten])) :
  c7 Tryz.prog GS 152 [.ar 33 b 0 n n (n*33),.int .i64 i,.ar 33 bv 0 1 1 33] l (c:=⟨K⟩) :=by
 have eU:=eu ag;have ak:=Nc (P:=Tryz.prog) (G:=GS) (h:=bW l) Na (by kernel_rfl) (by kernel_rfl) (show i5 Tryz.prog 53=some 48 by kernel_rfl) (by omega) (by omega) (by kernel_rfl) (b:=b) (bv:=bv) (len:=n) (cap:=n) (i:=i) (ln.2 ag) (ln.2 iq) bI av (avR _) (by unfold cy; omega);rw[vU,oK _ eU,lO,ax3 (by omega)] at ak;refine⟨_,_,.ext ak,by simp,?_⟩;have fc:=C6 aA;have bJ:a.map ca=(a.take i).map ca++(a.drop i).map ca:=by rw[<-awm,awy]
 have HO:((a.take i).map ca).flatten.length=i*33:=by
  rw[C6 (fun t aI=>aA t (awh aI)),av1,awQ (by omega)]
 have AW:((a.drop i).map ca).flatten.length=(n - i)*33:=by
  rw[C6 (fun t aI=>aA t (axo aI)),awW,aC]
 have cJ:mh 33 (a.map ca).flatten (ca x) i n=((jk a i x).map ca).flatten:=by
  unfold mh jk;have h1:((a.map ca).flatten).take (i*33)=((a.take i).map ca).flatten:=by
   rw[bJ,awC,awg (by omega),avO (by omega)]
  have ad:((a.map ca).flatten).drop (i*33)=((a.drop i).map ca).flatten:=by
   rw[bJ,awC,awE (by omega),aw1 (by omega),awI]
  have aj:(((a.drop i).map ca).flatten).take ((n - i)*33)=((a.drop i).map ca).flatten:=avO (by omega);have aE:((a.map ca).flatten).drop ((n+1)*33)=[] :=aw1 (by rw[fc,aC]; omega);rw[h1,ad,aj,aE,awp];simp
 rw[cJ];exact aY
theorem aiP {l:am} {bv:Nat} {x:bq} (iq:l[bv]? = some (.cells 33 (ca x))) {K:U->am->Prop} (aY:K (.ar 33 l.length 0 1 1 33) (l++[.cells 33 (ca x)])) :
  c7 Tryz.prog GS 152 [.aT,.int .i64 0,.ar 33 bv 0 1 1 33] l (c:=⟨K⟩) :=by
 have ak:=Nb (P:=Tryz.prog) (G:=GS) (h:=bW l) Na (by kernel_rfl) (by kernel_rfl) (show i5 Tryz.prog 53=some 48 by kernel_rfl) (by omega) (by omega) (by kernel_rfl) (bv:=bv) (ln.2 iq) (by unfold cy; omega);rw[vU,lO] at ak;exact⟨_,_,.ext ak,by simp,aY⟩
structure rn (j:Nat) (l l' : am) :Prop where
 le:l.length<=l'.length
 same:∀ b,b<l.length->b≠j->l'[b]? = l[b]?
theorem rn.refl (j:Nat) (l:am) :rn j l l:=⟨avR _,fun _ _ _=>rfl⟩
theorem rn.trans {j:Nat} {a b c:am} (h1:rn j a b) (ad:rn j b c) :rn j a c:=⟨by have:=h1.le; have:=ad.le; omega,fun x af ai=>by rw[ad.same x (by have:=h1.le; omega) ai]; exact h1.same x af ai⟩
def Jy (g:FuncId) (cap:List U) (j:Nat) (eL:am) (xs:List bq) (p:bq->Bool) :Prop:=
 ∀ x∈xs,∀ l,rn j eL l->∀ K:U->am->Prop,(∀ l',l.length<=l'.length->(∀ b,b<l.length->l'[b]? = l[b]?)->K (.bool (p x)) l')->c7 Tryz.prog GS g ([]++[.aH (ca x)]++cap) l (c:=⟨K⟩)
structure aa5 (eL:am) (v:U) (g:FuncId) (cap:List U) (xs:List bq) (p:bq->Bool) (k:Nat) (ae:bg) (l:am) :Prop where
 cf:ae 0=v
 aP:ae 1=.fn g [] cap
 dk:ae 7=.int .i64 xs.length
 dj:ae 8=.int .i64 k
 ak:∀ (j:Nat) (z:bq),j<k->xs[j]? = some z->p z=false
 le:eL.length<=l.length
 same:∀ b,b<eL.length->l[b]? = eL[b]?
theorem aiH {g:FuncId} {cap:List U} {j:Nat} {l:am} {v:U} {xs:List bq} {p:bq->Bool} (aq:hQ Tryz.prog g=true) (ap:bH 33 l v j (xs.map ca)) (aw:hU xs) (aC:xs.length<=1000000) (ay:Jy g cap j l xs p)
  {K:U->am->Prop} (aY:∀ n l',(n=-1/\(∀ z∈xs,p z=false)\/∃ k:Nat,n=(k:Int)/\k<xs.length/\(∀ (i:Nat) (z:bq),i<k->xs[i]? = some z->p z=false)/\∀ y,xs[k]? = some y->p y=true)->l.length<=l'.length->(∀ b,b<l.length->l'[b]? = l[b]?)->K (.int .i64 n) l') :
  c7 Tryz.prog GS 209 [v,.fn g [] cap] l (c:=⟨K⟩) :=by
 apply bp Tryz.func209 [];have bn:=ap.len;rw[av8] at bn;simp[bn];refine cI xs.length (aa5 l v g cap xs p) ?_ ⟨by simp,by simp,by simp,by simp,fun j z h=>by omega,avR _,fun _ _=>rfl⟩;rintro k ae l1 hk ⟨cf,aP,dk,dj,ak,dw,gl⟩;obtain⟨ae,rfl⟩:=i0 cf aP dk dj;clear cf aP dk dj;simp;refine jo (fun h=>?_) (fun h=>?_)
 ·simp only[decide_eq_true_eq] at h;obtain⟨y,ax,cr⟩:=bx (l:=xs) (k:=k) (by omega);have aR:IntKind.i64.wrap ((k:Int)+1)=((k+1:Nat) :Int) :=by rw[IntKind.wrap_i64]; omega
  have Ml:bH 33 l1 v j (xs.map ca) :=ap.frame fun ai=>gl j ai
  obtain⟨q,cs,o,aV,a1,a3,a4⟩:=Ml.q.get (k:=.i64) (i:=k) (e:=ca y) (by rw[avV,ax]; rfl);simp[aV,a1,a3,a4];refine⟨aq,?_⟩;have:=ay y cr l1 ⟨dw,fun b ag _=>gl b ag⟩;simp at this;refine this _ fun b1 h1 ad=>?_
  cases aX:p y with
  | true=>
   simp;refine aY _ _ (.inr ⟨k,rfl,h,fun i z av aw=>ak i z av aw,fun w hw=>?_⟩) (by omega) (fun b ag=>by rw[ad b (by omega)]; exact gl b ag);rw[ax] at hw; obtain rfl:=Option.some.inj hw; exact aX
  | false=>
   simp[aR];refine⟨by omega,by simp,by simp,by simp,by simp,fun i z av aw=>?_,by omega,fun b ag=>by rw[ad b (by omega)]; exact gl b ag⟩;by_cases mN:i=k
   ·rw[mN,ax] at aw; obtain rfl:=Option.some.inj aw; exact aX
   ·exact ak i z (by omega) aw
 ·simp[h];have h4:k=xs.length:=by simp at h; omega
  refine aY _ _ (.inl ⟨rfl,fun z aw=>?_⟩) dw gl;obtain⟨i,av⟩:=avT.1 aw;exact ak i z (by rw[h4]; exact (avP.1 av).1) av
structure aaZ (eL:am) (v:U) (g:FuncId) (cap:List U) (j:Nat) (xs:List bq) (p:bq->Bool) (k:Nat) (ae:bg) (l:am) :Prop where
 cf:ae 0=v
 aP:ae 1=.fn g [] cap
 b8:ae 6=.int .i64 k
 art:rn j eL l
 ex:∃ (q:Nat) (bh:List bq),ae 5=.int .i64 (q:Int)/\bH 33 l v j (bh.map ca)/\bh.length=xs.length/\hU bh/\bh.take q=(xs.take k).filter (fun t=>!p t)/\q<k/\∀ t,k<=t->bh[t]? = xs[t]?
theorem TF {p:bq->Bool} {l:List bq} (h:∀ z∈l,p z=false) :l.filter (fun t=>!p t)=l:=by
 rw[List.filter_eq_self];intro a aA; rw[h a aA]; rfl
theorem aea {p:bq->Bool} {l:List bq} {k:Nat} (h:∀ (i:Nat) (z:bq),i<k->l[i]? = some z->p z=false) :(l.take k).filter (fun t=>!p t)=l.take k:=by
 refine TF fun z aw=>?_
 obtain⟨i,av⟩:=avT.1 aw;have c3:=(avP.1 av).1;rw[av1] at c3;rw[awb (by omega)] at av;exact h i z (by omega) av
theorem ad9 {p:bq->Bool} {l:List bq} {k:Nat} {y:bq} (h:l[k]? = some y) :(l.take (k+1)).filter (fun t=>!p t)=(l.take k).filter (fun t=>!p t)++(if p y then [] else [y]) :=by
 rw[av7,h,axF];cases ay:p y<;>simp[ay]
set_option maxHeartbeats 1000000 in
theorem Tg {g:FuncId} {cap:List U} {j:Nat} {l:am} {v:U} {xs:List bq} {p:bq->Bool} (aq:hQ Tryz.prog g=true) (ap:bH 33 l v j (xs.map ca)) (aw:hU xs) (aC:xs.length<=1000000) (ay:Jy g cap j l xs p)
  {K:U->am->Prop} (aY:∀ r l',bH 33 l' r j ((xs.filter fun t=>!p t).map ca)->rn j l l'->cw r=cw v->K r l') :
  c7 Tryz.prog GS 153 [v,.fn g [] cap] l (c:=⟨K⟩) :=by
 apply bp Tryz.func153 [];have bn:=ap.len;rw[av8] at bn;simp;refine aiH aq ap aw aC ay fun n l1 aga dw gl=>?_
 rcases aga with ⟨rfl,eQ⟩ | ⟨g3,rfl,pB,dL,fA⟩
 ·simp;refine aY _ _ ?_ ⟨dw,fun b ag _=>gl b ag⟩ rfl;rw[TF eQ];exact ap.frame fun ai=>gl j ai
 ·have bI:¬ ((g3:Int)=-1) :=by omega
  have aR:IntKind.i64.wrap ((g3:Int)+1)=((g3+1:Nat) :Int) :=by rw[IntKind.wrap_i64]; omega
  have Ml:bH 33 l1 v j (xs.map ca) :=ap.frame fun ai=>gl j ai
  have au:cw v=false:=by
   cases w4:cw v with
   | false=>rfl
   | true=>
    have:=jm.1 w4;subst this;have:=ap.q.tG;rw[aw3] at this;rw[this] at pB; simp at pB
  simp[bI,aR];refine cI (xs.length - (g3+1)) (fun m=>aaZ l v g cap j xs p (g3+1+m)) ?_ ⟨by simp,by simp,by simp,⟨dw,fun b ag _=>gl b ag⟩,g3,xs,by simp,Ml,rfl,aw,?_,by omega,fun _ _=>rfl⟩
  ·rintro m ae b1 hm ⟨cf,aP,b8,nk,q,bh,bi,aW,cg,vi,hb,vb,mc⟩;obtain⟨k,hk⟩:∃ k,k=g3+1+m:=⟨_,rfl⟩
   rw[show g3+1+(m+1)=k+1 by omega];rw[<-hk] at b8 hb vb mc;obtain⟨ae,rfl⟩:=i0 cf aP bi b8;clear cf aP bi b8;have Md:=aW.len;rw[av8,cg] at Md;by_cases aM:k<xs.length
   ·have jd:(k:Int)<(xs.length:Int) :=by omega
    obtain⟨y,ax,cr⟩:=bx (l:=xs) (k:=k) aM;have WB:=aw y cr;have Dx:=mA WB;have jg:=I7 Dx;have bJ:IntKind.i64.wrap ((k:Int)+1)=((k+1:Nat) :Int) :=by rw[IntKind.wrap_i64]; omega
    have dF:IntKind.i64.wrap ((q:Int)+1)=((q+1:Nat) :Int) :=by rw[IntKind.wrap_i64]; omega
    have jM:bh[k]? = some y:=by rw[mc k (avR _)]; exact ax
    obtain⟨ak4,cs,o,aV,a1,a3,a4⟩:=aW.q.get (k:=.i64) (i:=k) (e:=ca y) (by rw[avV,jM]; rfl);have agG:rn j l (b1++[a7.cells 33 (ca y)]) :=⟨by have:=nk.le; simp; omega,fun b ag gZ=>by rw[avQ (by have:=nk.le; omega)]; exact nk.same b ag gZ⟩
    have j6:=ay y cr _ agG;have nj:=ad9 (p:=p) ax;have Wm:=fun (la:am) (h:bH 33 la v j (bh.map ca))=>Iy (X:=.aH (ca y)) rfl h (fun t aI=>mA (vi t aI)) (k:=q) (x:=y) (by omega) Dx
    simp at j6;obtain⟨Y,eD⟩:∃ Y,Y=ca y:=⟨_,rfl⟩
    rw[<-eD] at Dx jg a4 j6 Wm;simp[Md,jd,aV,a1,a3,a4,Dx,jg,avO];refine⟨aq,?_⟩;refine j6 _ fun la h1 ad=>?_
    have ar2:b1.length<la.length:=by omega
    have Wl:∀ b,b<b1.length->la[b]? = b1[b]?:=fun b ag=>by rw[ad b (by omega),avQ ag]
    have Bc:bH 33 la v j (bh.map ca) :=aW.frame fun ai=>Wl j ai
    have afT:la[b1.length]? = some (.cells 33 Y) :=by rw[ad _ (by simp)]; simp
    have LW:rn j l la:=⟨by have:=nk.le; omega,fun b ag gZ=>by rw[Wl b (by have:=nk.le; omega)]; exact nk.same b ag gZ⟩
    cases aX:p y with
    | true=>
     rw[aX,if_pos rfl,awp] at nj;simp[bJ];refine⟨by omega,by simp,by simp,by simp,LW,q,bh,by simp,Bc,cg,vi,by rw[nj]; exact hb,by omega,fun t aI=>mc t (by omega)⟩
    | false=>
     rw[aX,if_neg (by simp)] at nj;obtain⟨EP,Nt,nF,iM,z3,z4,z5⟩:=Wm la Bc;simp[afT,Dx,nF,iM,bJ,dF,avO];refine⟨by omega,by simp,by simp,by simp,⟨by have:=LW.le; omega,fun b ag gZ=>by rw[z5 b gZ]; exact LW.same b ag gZ⟩,q+1,bh.set q y,by simp,z3,by simp[cg],fun t aI=>?_,?_,by omega,fun t aI=>?_⟩
     ·rcases axl aI with h | h
      ·exact vi _ h
      ·rw[h]; exact WB
     ·have Pm:(bh.take q).length=q:=by rw[av1]; omega
      rw[axt,if_pos (by omega),axN,Pm,avO (by omega),show q+1 - q=1 by omega,nj,<-hb]; simp
     ·rw[av0 (by omega)]; exact mc t (by omega)
   ·have jd:¬ (k:Int)<(xs.length:Int) :=by omega
    have cq:k=xs.length:=by omega
    obtain⟨v3,fr,r,nF,iM,z3,z4,z5,apl,PK⟩:=akR (z:=33) (zr:=U.str [] ::rep 32 (.int .u8 0)) rfl aW (k:=q) (by omega);simp[Md,jd,nF,iM,z3];rw[cq,awi] at hb;rw[hb] at z4;exact aY _ _ z4 ⟨by have:=nk.le; omega,fun b ag gZ=>by rw[PK b gZ]; exact nk.same b ag gZ⟩ (by rw[z5,au])
  ·rw[av7,axF,aea dL];obtain⟨y,ax,_⟩:=bx (l:=xs) (k:=g3) pB;have:=fA y ax;rw[ax]; simp[this]
theorem E9 {a b c:List UInt8} (h1:fv a b=true) (ad:fv b c=true) :fv a c=true:=
 (tY _ _).2 (List.lt_trans ((tY _ _).1 h1) ((tY _ _).1 ad))
theorem vI (a:List UInt8) :fv a a=false:=by
 cases h:fv a a with
 | false=>rfl
 | true=>exact absurd ((tY _ _).1 h) (ay7 _)
theorem sd {a b c:bq} (h1:e2 a b=true) (ad:e2 b c=true) :e2 a c=true:=by
 unfold e2 at *
 by_cases aR:a.key=b.key
 ·rw[if_pos aR] at h1;by_cases bJ:b.key=c.key
  ·rw[if_pos bJ] at ad;rw[if_pos (aR.trans bJ)];simp only[decide_eq_true_eq] at *
   exact uF _ _ _ h1 ad
  ·rw[if_neg bJ] at ad;rw[if_neg (fun h=>bJ (aR.symm.trans h)),aR]; exact ad
 ·rw[if_neg aR] at h1;by_cases bJ:b.key=c.key
  ·rw[if_neg (fun h=>aR (h.trans bJ.symm)),<-bJ]; exact h1
  ·rw[if_neg bJ] at ad;have:=E9 h1 ad;rw[if_neg (fun h=>by rw[h,vI] at this; cases this)]; exact this
theorem zn (a:bq) :e2 a a=false:=by
 unfold e2;rw[if_pos rfl,pq]; rfl
theorem zo {a b:bq} (h1:e2 a b=false) (ad:a≠b) :e2 b a=true:=by
 unfold e2 at *
 by_cases aR:a.key=b.key
 ·rw[if_pos aR] at h1;rw[if_pos aR.symm];have aj:=rA a.id b.id;have aE:=CN a.id b.id;simp only[decide_eq_false_iff_not,decide_eq_true_eq] at *
  have aX:cj a.id b.id≠0:=fun h=>ad (by
   have:=sX h;cases a; cases b; simp_all)
  omega
 ·rw[if_neg aR] at h1;rw[if_neg (fun h=>aR h.symm)];rw[tY];have aj:¬ a.key<b.key:=fun h=>by rw[(tY _ _).2 h] at h1; cases h1
  by_cases h:b.key<a.key
  ·exact h
  ·exact absurd (ayX (ay4.1 h) (ay4.1 aj)) aR
theorem K2 {l:List bq} (h:kI l=0) :l.length<=60/\mG l=true:=by
 unfold kI at h;split at h
 ·cases h
 ·split at h
  ·rename_i h1 ad; exact⟨by omega,ad⟩
  ·cases h
theorem Up {l:List bq} (h:mG l=true) {i:Nat} {a b:bq} (aA:l[i]? = some a) (ag:l[i+1]? = some b) :e2 a b=true:=by
 have h1:=(of_decide_eq_true h) (i+1) (avP.1 ag).1;unfold qq at h1;rw[axz,oF aA,oF ag,avU] at h1;simpa using h1.2
theorem Gz {l:List bq} (h:mG l=true) :∀ {d i:Nat} {a b:bq},l[i]? = some a->l[i+d+1]? = some b->e2 a b=true
 | 0,i,a,b,aA,ag=>Up h aA ag
 | d+1,i,a,b,aA,ag=>by
  obtain⟨c,ah,_⟩:=bx (l:=l) (k:=i+d+1) (by have:=(avP.1 ag).1; omega);exact sd (Gz h aA ah) (Up h ah ag)
theorem Un {l:List bq} (h:mG l=true) (x:bq) :XD l x:=by
 intro i j a b hu aA ag aM;by_cases ao:i=j
 ·subst ao; rw[aA] at ag; cases ag; exact aM
 ·exact sd (Gz h (d:=j - i - 1) aA (by rw[show i+(j - i - 1)+1=j by omega]; exact ag)) aM
def nO (s:fh) (x:bq) :fh × Int:=if rF s.l x then (none,14) else if s.l.length=60 then (none,18) else (some (jk s.l (jz s.l x) x),0)
def js (o:bm) (b:ez) (t:bq) :Bool:=decide (t.key=o.act.key)&&decide (t.id∈b.l)
def Pb (f:List bq->List bq) (s:fh) :fh:=match s with | none=>none | some l=>some (f l)
def ga (s:fh) (o:bm) (b:ez) :fh × Int:=
 if kI s.l=0 then (if fM o=0 then (if 60<b.l.length then (none,4) else
  (if o.act.kind=2#8 then nO s ⟨o.act.key,cH o⟩ else if o.act.kind=3#8 then (Pb (fun l=>l.filter fun t=>!js o b t) s,0) else (s,0))) else (none,8)) else (none,kI s.l)
theorem TU:hQ Tryz.prog 154=true:=by kernel_rfl
theorem anB (o:bm) (b:ez) (ag:gv b) (eU:b.l.length<=1000000) {j bo bb:Nat} {l:am} {xs:List bq} (aw:hU xs) (h1:l[bo]? = some (.cells 11 (a2 o))) (ad:l[bb]? = some (.cells 1 [aK b])) (A3:bo≠j) (jJ:bb≠j) :
  Jy 154 [.ptr bo 0 11,.ptr bb 0 1] j l xs (js o b) :=by
 intro x af l1 aq K aY;apply bp Tryz.func154 [];have dg:l1[bo]? = some (.cells 11 (a2 o)) :=by rw[aq.same _ (eu h1) A3]; exact h1
 have gP:l1[bb]? = some (.cells 1 [aK b]) :=by rw[aq.same _ (eu ad) jJ]; exact ad
 have gC:=eu dg;have hR:=eu gP;have e1:=cC (aw x af);have Hc:=eK b;have fQ:=e4 x.id;have ec:=Fw b ag eU x.id (aw x af);have aP:∀ c:a7,(l1++[c])[bo]? = some (.cells 11 (a2 o)) :=fun c=>by rw[avQ gC]; exact dg
 have aU:∀ c:a7,(l1++[c])[bb]? = some (.cells 1 [aK b]) :=fun c=>by rw[avQ hR]; exact gP
 have uK:=aP;simp[a2] at uK;by_cases hk:x.key=o.act.key
 ·simp[ca,uK,aU,hk,e1,avO];refine a6 ec (by simp[bd,U.closed,Hc,fQ]) ?_;simp;have:js o b x=decide (x.id∈b.l) :=by unfold js; rw[decide_eq_true hk,awL]
  rw[<-this];exact aY _ (by simp) fun b ag=>avQ ag
 ·simp[ca,uK,hk];have:js o b x=false:=by unfold js; rw[decide_eq_false hk,awR]
  rw[<-this];exact aY _ (by simp) fun b ag=>avQ ag
theorem CW (o:bm) :((u o.act.kind:Int)=2)<->o.act.kind=2#8:=sw o.act.kind 2#8
theorem CX (o:bm) :((u o.act.kind:Int)=3)<->o.act.kind=3#8:=sw o.act.kind 3#8
theorem HY (o:bm) :(cH o).length=32:=by
 unfold cH; split
 ·exact vJ _
 ·simp
set_option maxHeartbeats 1000000 in
theorem aoE (s:fh) (o:bm) (b:ez) (ak:hU s.l) (ef:s.l.length<=1000000) (ap:hX o) (ag:gv b) (eU:b.l.length<=1000000) :
  bz Tryz.prog GS 97 [.aH [er s],.aH (a2 o),aK b] (.bG [.aH [er (ga s o b).1],.int .i64 (ga s o b).2]) :=by
 refine bL Tryz.checked.mixed bE ?_;apply bp Tryz.func97 [];have cd:=uE s;have cz:=i6 o;have Hc:=eK b;have c0:=aaB s ak ef;have e1:=PB o ap;have c3:=HY o;have u0:(aK b).cells=some [aK b] :=by cases b<;>rfl
 have U0:cK (.ar 32) (aK b)=some (.int .i64 b.l.length) :=by simp[aK]
 by_cases aD:kI s.l=0
 ·by_cases h1:fM o=0
  ·obtain⟨D,jD⟩:∃ D,D=(cH o).map bF:=⟨_,rfl⟩
   have kS:D.length=32:=by rw[jD,av8,c3]
   have Ux:bd D=true:=by rw[jD]; exact lS bF (fun _=>rfl) _
   have rW:bt (rep 32 (.int .u8 0)) 0 D=D:=eM (by rw[kS]; rfl);unfold fF at e1;rw[<-jD] at e1;simp[a2,u0];refine a6 c0 (by simp[bd,U.closed,cd]) ?_;simp[aD];refine a6 e1 (show bd [U.aH (a2 o)]=true by simp[bd,U.closed,cz]) ?_;simp[h1,kS,rW,U0,avO];by_cases ad:60<b.l.length
   ·have gP:(60:Int)<(b.l.length:Int) :=by omega
    have aA:ga s o b=(none,4) :=by unfold ga; rw[if_pos aD,if_pos h1,if_pos ad]
    rw[aA];simp[gP];exact aL rfl rfl
   ·have gP:¬ (60:Int)<(b.l.length:Int) :=by omega
    simp[gP];have jI:=(K2 aD).2;obtain⟨x,af⟩:∃ x:bq,x=⟨o.act.key,cH o⟩:=⟨_,rfl⟩
    have nq:x.id.length=32:=by rw[af]; exact c3
    have tj:=Un jI x;have cv:ca x=.str o.act.key::D:=by rw[af,jD]; rfl
    have qu:=mA nq;have gL:=pp x;rw[cv] at qu;have Bf:=I7 qu;refine acV s ak ef (fun aC=>?_) (fun a y5=>?_)
    ·subst aC;by_cases bP:o.act.kind=2#8
     ·have pK:=(CW o).2 bP;have aA:ga none o b=nO none x:=by unfold ga; rw[if_pos aD,if_pos h1,if_neg ad,if_pos bP,af]
      have h5:=Zs none (by simp[hU]) (by simp) x nq tj;have AR:jz (cQ.l (none:fh)) x=0:=rfl;have qD:rF (cQ.l (none:fh)) x=false:=rfl;have yE:nO none x=(some (jk [] 0 x),0) :=rfl;rw[AR,qD,cv] at h5;rw[aA,yE];simp[pK,kS,rW,Bf,avO];refine a6 h5 (by simp[bd,U.closed,Ux,er,cB]) ?_;simp[kS,rW,Bf,avO];refine aiP (bv:=7) (x:=x) (by rw[cv]; rfl) ?_;simp;have gK:∀ l:am,l[8]? = some (.cells 33 (ca x))->Rd l (.ar 33 8 0 1 1 33) (er (some (jk [] 0 x))) :=fun l h=>by
       have h1:=NY (l:=l) (b:=8) (n:=1) (a:=[x]) (by intro t aI; simp at aI; subst aI; exact nq) rfl (by simpa using h);exact h1.q.ow pp (some [x]) rfl rfl
      exact tU (xD (gK _ (by simp))) (.same _ rfl)
     ·have pK:¬ (u o.act.kind:Int)=2:=fun h=>bP ((CW o).1 h)
      by_cases dn:o.act.kind=3#8
      ·have r2:=(CX o).2 dn;have aA:ga none o b=(none,0) :=by unfold ga; rw[if_pos aD,if_pos h1,if_neg ad,if_neg bP,if_pos dn]; rfl
       rw[aA];simp[pK,r2];refine Tg (j:=100) (xs:=[]) (p:=js o b) TU (.nil 100) (by simp[hU]) (by simp) (fun x af=>by cases af) fun r l' az nk Mj=>?_
       obtain rfl:=jm.1 Mj;have EW:l'[5]? = some (.cells 1 [.aT]) :=by rw[nk.same 5 (by simp) (by omega)]; rfl
       have iY:l'[3]? = some (.cells 1 [.aT]) :=by rw[nk.same 3 (by simp) (by omega)]; rfl
       have BN:6<=l'.length:=by have:=nk.le; simpa using this
       have OP:(l'.set 5 (.cells 1 [.aT]))[5]? = some (.cells 1 [.aT]) :=av3 (by omega);have o9:(l'.set 5 (.cells 1 [.aT]))[3]? = some (.cells 1 [.aT]) :=by rw[av0 (by omega)]; exact iY
       have OO:((l'.set 5 (.cells 1 [.aT])).set 3 (.cells 1 [.aT]))[3]? = some (.cells 1 [.aT]) :=av3 (by simp; omega);simp[EW,OP,o9,OO];exact aL rfl rfl
      ·have r2:¬ (u o.act.kind:Int)=3:=fun h=>dn ((CX o).1 h)
       have aA:ga none o b=(none,0) :=by unfold ga; rw[if_pos aD,if_pos h1,if_neg ad,if_neg bP,if_neg dn]
       rw[aA];simp[pK,r2];exact aL rfl rfl
    ·subst y5;obtain⟨n,aC⟩:∃ n,n=a.length:=⟨_,rfl⟩
     have rT:n<=1000000:=by rw[aC]; exact ef
     rw[<-aC];have Mm:∀ (l:am) (b:Nat),l[b]? = some (.cells (n*33) (a.map ca).flatten)->bH 33 l (.ar 33 b 0 n n (n*33)) b (a.map ca) :=fun l b h=>NY ak aC.symm h
     have ah8:cK (.ar 33) (.ar 33 5 0 n n (n*33))=some (.int .i64 n) :=rfl;by_cases bP:o.act.kind=2#8
     ·have pK:=(CW o).2 bP;have aA:ga (some a) o b=nO (some a) x:=by unfold ga; rw[if_pos aD,if_pos h1,if_neg ad,if_pos bP,af]
      have h5:=Zs (some a) ak ef x nq tj;rw[cv] at h5;rw[aA];simp[pK,kS,rW,Bf,avO];refine iB h5 (.cons ((Mm _ 5 (by rfl)).nA pp (some a) rfl rfl) (.cons (.same _ (by rw[cv] at gL; exact gL)) (.cons (.same _ rfl) .nil))) rfl ?_;cases qD:rF (cQ.l (some a:fh)) x with
      | true=>
       have yE:nO (some a) x=(none,14) :=by unfold nO; rw[qD]; rfl
       rw[yE];simp;exact aL rfl rfl
      | false=>
       by_cases j2:n=60
       ·have yE:nO (some a) x=(none,18) :=by
         unfold nO; rw[qD,if_neg (by simp),if_pos (show (cQ.l (some a)).length=60 by rw[<-j2,aC]; rfl)]
        rw[yE];have GF:(n:Int)=60:=by omega
        simp[j2];exact aL rfl rfl
       ·have yE:nO (some a) x=(some (jk a (jz a x) x),0) :=by
         unfold nO; rw[qD,if_neg (by simp),if_neg (show ¬ (cQ.l (some a)).length=60 by rw[show (cQ.l (some a)).length=n from aC.symm]; exact j2)]; rfl
        rw[yE];have GF:¬ (n:Int)=60:=by omega
        have qx:jz a x<=n:=by rw[aC]; unfold jz; exact (List.takeWhile_sublist _).length_le
        simp[ah8,GF,kS,rW,Bf,avO];refine aiT (b:=5) (bv:=8) (a:=a) (x:=x) ak nq aC.symm rfl (by rw[cv]; rfl) (by omega) qx rT ?_;simp;have gK:∀ l:am,l[9]? = some (.cells ((n+1)*33) ((jk a (jz a x) x).map ca).flatten)->Rd l (.ar 33 9 0 (n+1) (n+1) ((n+1)*33)) (er (some (jk a (jz a x) x))) :=fun l h=>by
         have h1:=NY (l:=l) (b:=9) (n:=n+1) (a:=jk a (jz a x) x) (M7 ak nq) (by rw[M6,aC]) h;exact h1.q.ow pp (some _) rfl rfl
        exact tU (xD (gK _ (by simp))) (.same _ rfl)
     ·have pK:¬ (u o.act.kind:Int)=2:=fun h=>bP ((CW o).1 h)
      by_cases dn:o.act.kind=3#8
      ·have r2:=(CX o).2 dn;have aA:ga (some a) o b=(some (a.filter fun t=>!js o b t),0) :=by unfold ga; rw[if_pos aD,if_pos h1,if_neg ad,if_neg bP,if_pos dn]; rfl
       rw[aA];simp[pK,r2];refine Tg (j:=5) (xs:=a) (p:=js o b) TU (Mm _ 5 (by rfl)) ak ef (anB o b ag eU (bo:=1) (bb:=2) ak rfl rfl (by omega) (by omega)) fun r l' az nk Mj=>?_
       have DY:=az.cells;have BN:l'[6]? = some (.cells 1 [.ar 33 5 0 n n (n*33)]) :=by rw[nk.same 6 (by simp) (by omega)]; rfl
       have iY:l'[3]? = some (.cells 1 [.aT]) :=by rw[nk.same 3 (by simp) (by omega)]; rfl
       have YA:7<=l'.length:=by have:=nk.le; simpa using this
       have OP:(l'.set 6 (.cells 1 [r]))[6]? = some (.cells 1 [r]) :=av3 (by omega);have o9:(l'.set 6 (.cells 1 [r]))[3]? = some (.cells 1 [.aT]) :=by rw[av0 (by omega)]; exact iY
       have OO:((l'.set 6 (.cells 1 [r])).set 3 (.cells 1 [r]))[3]? = some (.cells 1 [r]) :=av3 (by simp; omega);simp[DY,BN,OP,o9,OO,bt];have ma:bH 33 ((l'.set 6 (.cells 1 [r])).set 3 (.cells 1 [r])) r 5 ((a.filter fun t=>!js o b t).map ca) :=az.frame fun _=>by
        rw[av0 (by omega),av0 (by omega)]
       exact tU (xD (ma.q.ow pp (some _) (by rw[Mj]; rfl) rfl)) (.same _ rfl)
      ·have r2:¬ (u o.act.kind:Int)=3:=fun h=>dn ((CX o).1 h)
       have aA:ga (some a) o b=(some a,0) :=by unfold ga; rw[if_pos aD,if_pos h1,if_neg ad,if_neg bP,if_neg dn]
       rw[aA];simp[pK,r2];exact tU (xD ((Mm _ 5 (by simp)).q.ow pp (some a) rfl rfl)) (.same _ rfl)
  ·have aA:ga s o b=(none,8) :=by unfold ga; rw[if_pos aD,if_neg h1]
   rw[aA];have ve:bt (rep 32 (.int .u8 0)) 0 ((cH o).map bF)=(cH o).map bF:=eM (by rw[av8,c3]; rfl);simp[a2,u0];refine a6 c0 (by simp[bd,U.closed,cd]) ?_;simp[aD];refine a6 e1 (show bd [U.aH (a2 o)]=true by simp[bd,U.closed,cz]) ?_;simp[h1,fF,c3,ve,U0];exact aL rfl rfl
 ·have aA:ga s o b=(none,kI s.l) :=by unfold ga; rw[if_neg aD]
  rw[aA];simp[a2,u0];refine a6 c0 (by simp[bd,U.closed,cd]) ?_;simp[aD];exact aL rfl rfl
def pR (l:List bq) (x:bq) :Nat->Nat
 | 0=>0
 | i+1=>if e2 x (pZ l i) then pR l x i else i+1
theorem IE (l:List bq) (x:bq) :∀ i,pR l x i<=i
 | 0=>avR _
 | i+1=>by
  unfold pR;split
  ·have:=IE l x i; omega
  ·exact avR _
def IH (l:List bq) (x:bq) :List bq:=jk l (pR l x l.length) x
structure apA (l:am) (a:List bq) (x:bq) (m:Nat) (ae:bg) (l1:am) :Prop where
 ex:∃ (i:Nat) (v:U),i=m/\i<=a.length/\ae 5=v/\ae 6=.int .i64 (i:Int)/\cu 33 ca l l1 v (jk a i x) false/\pR a x i=pR a x a.length
def FH (s:fh) (x:bq) :fh × Int:=if x∈s.l then (none,14) else if s.l.length=60 then (none,18) else (some (IH s.l x),0)
def zh (o:bm) (b:ez) (t:bq) :Bool:=decide (¬ o.act.kind=3#8)||(decide (¬ t.key=o.act.key)||!decide (t.id∈b.l))
def Fi (l:List bq) :fh:=match l with | []=>none | a::r=>some (a::r)
theorem Fj (l:List bq) :(Fi l).l=l:=by cases l<;>rfl
theorem anF (l:List bq) :(Fi l).isNone=l.isEmpty:=by cases l<;>rfl
def sO (s:fh) (o:bm) (b:ez) :fh × Int:=
 if kI s.l=0 then (if fM o=0 then (if 60<b.l.length then (none,4) else
  (if o.act.kind=2#8 then FH s ⟨o.act.key,cH o⟩ else (Fi (s.l.filter (zh o b)),0))) else (none,8)) else (none,kI s.l)
structure apn (s:fh) (x:bq) (L:am) (k:Nat) (ae:bg) (l:am) :Prop where
 al:l=L
 a8:ae 3=.ptr 0 0 1
 b8:ae 6=.ptr 2 0 1
 dj:ae 8=.ptr 3 0 33
 gJ:ae 9=.int .i64 k
 ak:∀ (j:Nat) (t:bq),j<k->s.l[j]? = some t->t≠x
structure abr (s:fh) (o:bm) (b:ez) (k:Nat) (l:am) :Prop where
 ex:∃ v j,l[3]? = some (.cells 1 [v])/\bH 33 l v j (((s.l.take k).filter (zh o b)).map ca)/\(v=.aT\/4<=j)/\cw v=((s.l.take k).filter (zh o b)).isEmpty
 len:4<=l.length
 gw:l[0]? = some (.cells 1 [er s])
 lG:l[1]? = some (.cells 11 (a2 o))
 sl:l[2]? = some (.cells 1 [.aT])
structure apD (s:fh) (o:bm) (b:ez) (k:Nat) (ae:bg) (l:am) :Prop where
 aU:ae 2=aK b
 a8:ae 3=.ptr 0 0 1
 bA:ae 4=.ptr 1 0 11
 b8:ae 6=.ptr 2 0 1
 fI:ae 10=.ptr 3 0 1
 ip:ae 11=.int .i64 k
 h:abr s o b k l
theorem N8 (l:List bq) (x:bq) :∀ (n i:Nat),pR l x n<=i->i<n->e2 x (pZ l i)=true
 | 0,i,_,h=>by omega
 | n+1,i,h1,ad=>by
  unfold pR at h1;split at h1
  ·rename_i h;by_cases av:i=n
   ·rw[av]; exact h
   ·exact N8 l x n i h1 (by omega)
  ·omega
theorem Yh (l:List bq) (x:bq) :∀ (n i:Nat),pR l x n=i+1->e2 x (pZ l i)=false
 | 0,i,h=>by cases h
 | n+1,i,h1=>by
  unfold pR at h1;split at h1
  ·exact Yh l x n i h1
  ·rename_i h;obtain rfl:n=i:=by omega
   exact Bool.eq_false_iff.2 h
theorem Yi {l:List bq} {x:bq} (aq:mG l=true) (af:x∉l) :pR l x l.length=jz l x:=by
 refine (F8 x (IE l x l.length) (fun t y aI ax=>?_) (fun y ax=>?_)).symm
 ·obtain⟨i,av⟩:∃ i,pR l x l.length=i+1:=⟨pR l x l.length - 1,by omega⟩
  have dw:=IE l x l.length;obtain⟨z,aw,qX⟩:=bx (l:=l) (k:=i) (by omega);have h1:=Yh l x l.length i av;rw[oF aw] at h1;have ad:=zo h1 (fun h=>af (by rw[h]; exact qX));exact Un aq x t i y z (by omega) ax aw ad
 ·have aM:=(avP.1 ax).1;have h1:=N8 l x l.length _ (avR _) aM;rw[oF ax] at h1;cases ad:e2 y x with
  | false=>rfl
  | true=>have:=sd h1 ad; rw[zn] at this; cases this
theorem TZ {l:List bq} {x:bq} (aq:mG l=true) :rF l x=true<->x∈l:=by
 unfold rF;rw[avU,decide_eq_true_eq,decide_eq_true_eq];constructor
 ·rintro⟨h1,ad⟩;obtain⟨z,aw,qX⟩:=bx (l:=l) (k:=jz l x) h1;rw[oF aw] at ad;rw[<-ad]; exact qX
 ·intro hm;obtain⟨j,ai⟩:=avT.1 hm;have aM:=(avP.1 ai).1;have ah:=F8 x (l:=l) (p:=j) (by omega) (fun t y aI ax=>Gz aq (d:=j - t - 1) ax (by rw[show t+(j - t - 1)+1=j by omega]; exact ai)) (fun y ax=>by
   rw[ai] at ax; obtain rfl:=Option.some.inj ax; exact zn _)
  rw[ah];exact⟨aM,oF ai⟩
theorem abD (s:fh) (x:bq) (aq:mG s.l=true) :(nO s x).1.l=(FH s x).1.l/\(nO s x).2=(FH s x).2:=by
 unfold nO FH;have aF:=TZ (x:=x) aq;by_cases hm:x∈s.l
 ·rw[aF.2 hm,if_pos rfl,if_pos hm]; exact⟨rfl,rfl⟩
 ·have agy:rF s.l x=false:=by
   cases h:rF s.l x with
   | false=>rfl
   | true=>exact absurd (aF.1 h) hm
  rw[agy,if_neg (by simp),if_neg hm];split
  ·exact⟨rfl,rfl⟩
  ·refine⟨?_,rfl⟩;show jk s.l (jz s.l x) x=IH s.l x;unfold IH;rw[Yi aq hm]
theorem JT (s:fh) (o:bm) (b:ez) :(ga s o b).1.l=(sO s o b).1.l/\(ga s o b).2=(sO s o b).2:=by
 unfold ga sO;by_cases aD:kI s.l=0
 ·rw[if_pos aD,if_pos aD];have aq:=(K2 aD).2;by_cases h1:fM o=0
  ·rw[if_pos h1,if_pos h1];by_cases ad:60<b.l.length
   ·rw[if_pos ad,if_pos ad]; exact⟨rfl,rfl⟩
   ·rw[if_neg ad,if_neg ad];by_cases bP:o.act.kind=2#8
    ·rw[if_pos bP,if_pos bP]; exact abD s _ aq
    ·rw[if_neg bP,if_neg bP];by_cases dn:o.act.kind=3#8
     ·rw[if_pos dn];refine⟨?_,rfl⟩;have th:∀ t,zh o b t=!js o b t:=fun t=>by
       unfold zh js;by_cases aR:t.key=o.act.key<;>by_cases bJ:t.id∈b.l<;>simp[dn,aR,bJ]
      rw[Fj];show (Pb (fun l=>l.filter fun t=>!js o b t) s).l=_;cases s with
      | none=>rfl
      | some a=>
       show a.filter (fun t=>!js o b t)=a.filter (zh o b);congr 1;funext t; exact (th t).symm
     ·rw[if_neg dn];refine⟨?_,rfl⟩;rw[Fj];show s.l=_;rw[List.filter_eq_self.2];intro t _;unfold zh; simp[dn]
  ·rw[if_neg h1,if_neg h1]; exact⟨rfl,rfl⟩
 ·rw[if_neg aD,if_neg aD]; exact⟨rfl,rfl⟩
end Op

end Go.cb

namespace Go.cb
open Go Go.Proofs Go.RowKit
set_option maxRecDepth 100000
namespace Op
open gT
theorem abP (s:fh) (o:bm) (b:ez) (ak:hU s.l) (al:s.l.length<=1000000) :hU (ga s o b).1.l/\(ga s o b).1.l.length<=1000000:=by
 have aD:hU (cQ.l (none:fh))/\(cQ.l (none:fh)).length<=1000000:=⟨fun t aI=>(by cases aI),by simp⟩
 unfold ga;split
 ·rename_i aI;have j2:=(K2 aI).1;split
  ·split
   ·exact aD
   ·split
    ·unfold nO;split
     ·exact aD
     ·split
      ·exact aD
      ·refine⟨M7 ak (HY o),?_⟩;show (jk s.l _ _).length<=_;rw[M6]; omega
    ·split
     ·cases s with
      | none=>exact aD
      | some a=>
       refine⟨fun t aI=>ak t (awP.1 aI).1,?_⟩;have:=axm (fun t=>!js o b t) a;exact axc this al
     ·exact⟨ak,al⟩
  ·exact aD
 ·exact aD
theorem Dj (l:List bq) :mG l=true<->(∀ t∈l,gM t.key=true)/\l.Pairwise fun a b=>e2 a b=true:=by
 constructor
 ·intro h;refine⟨fun t aI=>?_,aww.2 fun i j av ai hu=>?_⟩
  ·obtain⟨k,hk⟩:=avT.1 aI;have h1:=(of_decide_eq_true h) k (avP.1 hk).1;unfold qq at h1;rw[oF hk,avU] at h1;exact h1.1
  ·exact Gz h (d:=j - i - 1) (avS av) (by rw[show i+(j - i - 1)+1=j by omega]; exact avS ai)
 ·rintro⟨h1,ad⟩;refine K3 fun k hk=>?_
  unfold qq;have ax:=avS hk;rw[oF ax,h1 _ (aym hk),awL];by_cases pB:k=0
  ·simp[pB]
  ·have af:=avS (l:=l) (i:=k - 1) (by omega);rw[oF af,(aww.1 ad) (k - 1) k (by omega) hk (by omega)]; simp
theorem aeN {l:List bq} {x:bq} (aq:mG l=true) (af:x∉l) (hk:gM x.key=true) :mG (jk l (jz l x) x)=true:=by
 obtain⟨h1,ad⟩:=(Dj l).1 aq;have ay:=Yi aq af;have dw:=IE l x l.length;refine (Dj _).2 ⟨fun t aI=>?_,?_⟩
 ·unfold jk at aI;rcases awl.1 aI with h | h
  ·exact h1 t (awh h)
  ·rcases awA.1 h with h | h
   ·rw[h]; exact hk
   ·exact h1 t (axo h)
 ·have dL:∀ a∈l.take (jz l x),e2 a x=true:=fun a aA=>by
   have aR:l.takeWhile (fun t=>e2 t x)=l.take (jz l x) :=ayZ.1 (ayq _);rw[<-aR] at aA;have:=List.all_takeWhile (l:=l) (p:=fun t=>e2 t x);exact awG.1 this a aA
  have tg:∀ b∈l.drop (jz l x),e2 x b=true:=fun b ag=>by
   obtain⟨j,ai⟩:=avT.1 ag;rw[awv] at ai;have:=N8 l x l.length (jz l x+j) (by omega) (avP.1 ai).1;rw[oF ai] at this; exact this
  unfold jk;rw[axL];refine⟨ad.sublist (axI _ _),axE.2 ⟨tg,ad.sublist (List.drop_sublist _ _)⟩,fun a aA b ag=>?_⟩;rcases awA.1 ag with h | h
  ·rw[h]; exact dL a aA
  ·exact sd (dL a aA) (tg b h)
theorem aeM {l:List bq} {p:bq->Bool} (aq:mG l=true) :mG (l.filter p)=true:=by
 obtain⟨h1,ad⟩:=(Dj l).1 aq;exact (Dj _).2 ⟨fun t aI=>h1 t (awP.1 aI).1,ad.sublist axC⟩
theorem Tx {l:List bq} (h1:l.length<=60) (ad:mG l=true) :kI l=0:=by
 unfold kI; rw[if_neg (by omega),ad]; rfl
def aeK (o:bm) (b:ez) (t:bq) :Bool:=decide (o.act.kind=3#8)&&js o b t
structure aps (s:fh) (o:bm) (b:ez) (t:List bq) :Prop where
 ok:kI t=0
 mem:∀ x∈s.l,decide (x∈t)=!aeK o b x
 new:∀ x∈t,x∉s.l->o.act.kind=2#8/\x=⟨o.act.key,cH o⟩
 cnt:∃ p:Nat,(o.act.kind=2#8->p<t.length/\∀ (i:Nat) (y:bq),t[i]? = some y->(y∉s.l<->i=p))/\(o.act.kind≠2#8->∀ x∈t,x∈s.l)
theorem aiK {l:List bq} {i:Nat} {x y:bq}:y∈jk l i x<->y=x\/y∈l:=by
 unfold jk;rw[awl,awA];have:y∈l<->y∈l.take i\/y∈l.drop i:=by rw[<-awl,awy]
 rw[this];constructor
 ·rintro (h | h | h)
  ·exact .inr (.inl h)
  ·exact .inl h
  ·exact .inr (.inr h)
 ·rintro (h | h | h)
  ·exact .inr (.inl h)
  ·exact .inl h
  ·exact .inr (.inr h)
end Op

end Go.cb

namespace Go.cb
open Go Go.Proofs
set_option maxRecDepth 100000
namespace Op
open gT
structure Jw (g:bc) (i:Nat) (out:List (List B)) :Prop where
 mem:∀ (j:Nat) (p:List B),g.ids.l[j]? = some p->(p∈out<->ii g.ids.l g.ops.l (cT g.ops.l i) j)
 sub:∀ p∈out,p∈g.ids.l
 len:out.length<=g.ids.l.length
theorem abz (g:bc) (aq:et g) (V:iE g) {i:Nat} {x:List B} (av:g.ids.l[i]? = some x) :∃ out,Jw g i out/\bz Tryz.prog GS 101 [cl g,.aH (aO x)] (aK (dH out)) :=by
 obtain⟨r,l',AZ,dw,out,h1,ad,aj,kD⟩:=aby g aq V av;exact⟨out,⟨h1,ad,aj⟩,bL Tryz.checked.mixed bE ⟨r,l',AZ,dw,kD⟩⟩
open Classical in
noncomputable def ik (g:bc) (i:Nat) :List (List B) :=if h:∃ out,Jw g i out/\bz Tryz.prog GS 101 [cl g,.aH (aO (b0 g.ids.l i))] (aK (dH out)) then h.choose else []
theorem v8 (g:bc) (aq:et g) (V:iE g) {i:Nat} {x:List B} (av:g.ids.l[i]? = some x) :Jw g i (ik g i)/\bz Tryz.prog GS 101 [cl g,.aH (aO x)] (aK (dH (ik g i))) :=by
 have h:=abz g aq V av;have af:b0 g.ids.l i=x:=fL av;rw[<-af] at h ⊢;unfold ik;rw[dif_pos h];exact h.choose_spec
def ama (o:bm) (k:List UInt8) :Bool:=decide (o.act.kind=3#8)&&decide (o.act.key=k)
def Dg (g:bc) (A:Nat->List (List B)) (k:List UInt8) (x:List B) :Nat->Bool
 | 0=>false
 | m+1=>Dg g A k x m||(match g.ops.l[m]? with | some o=>ama o k&&decide (x∈A m) | none=>false)
def anu (g:bc) (A:Nat->List (List B)) (o:bm) (x:List B) :Bool:=decide (o.act.kind=2#8)&&!Dg g A o.act.key x g.ops.l.length
def EF (g:bc) (A:Nat->List (List B)) :Nat->fh
 | 0=>none
 | m+1=>match g.ops.l[m]?,g.ids.l[m]? with
  | some o,some x=>if anu g A o x=true then some (IH (EF g A m).l ⟨o.act.key,x⟩) else EF g A m
  | _,_=>EF g A m
def To (L:List (List B)) :List U:=[aK (dH L)]
theorem SQ (s:fh) :(er s).cells=some [er s] :=by cases s<;>rfl
structure apx (g:bc) (k:Nat) (ae:bg) (l:am) :Prop where
 aP:ae 1=.ptr 0 0 2
 aU:ae 2=.ptr 1 0 1
 a8:ae 3=.int .i64 0
 bi:ae 5=.int .i64 k
 tH:∃ v,ae 4=v/\cu 1 To [.cells 2 [aK g.ids,bB g.ops],.cells 1 [.aT]] l v ((List.range k).map (ik g)) (decide (k=0))
structure apy (g:bc) (Ck:am) (v4:U) (k:Nat) (ae:bg) (l:am) :Prop where
 aP:ae 1=.ptr 0 0 2
 aU:ae 2=.ptr 1 0 1
 a8:ae 3=.int .i64 0
 bA:ae 4=v4
 b8:ae 6=.ptr Ck.length 0 1
 dk:ae 7=.int .i64 k
 ex:∃ m,l=Ck++.cells 1 [er (EF g (ik g) k)] ::m
structure apz (g:bc) (Ck:am) (v4:U) (i:Nat) (o:bm) (x:List B) (b:Nat) (k:Nat) (ae:bg) (l:am) :Prop where
 aP:ae 1=.ptr 0 0 2
 aU:ae 2=.ptr 1 0 1
 a8:ae 3=.int .i64 0
 bA:ae 4=v4
 b8:ae 6=.ptr Ck.length 0 1
 dk:ae 7=.int .i64 i
 dj:ae 8=.ptr b 0 6
 gJ:ae 9=.bool (Dg g (ik g) o.act.key x k)
 fI:ae 10=.int .i64 k
 ex:∃ m,l=Ck++.cells 1 [er (EF g (ik g) i)] ::m/\l[b]? = some (.cells 6 (lT o.act))
theorem FL (g:bc) (i:Nat) :(i4 g i).length<=g.ids.l.length:=Ik _ _ _
theorem FM {g:bc} {i:Nat} {x:List B} (h:x∈i4 g i) :x∈g.ids.l:=by
 unfold i4 at h;obtain⟨j,ai,_,rfl⟩:=XB.1 h;obtain⟨y,ax,cr⟩:=bx ai;rw[fL ax]; exact cr
theorem aeC {α:Type} {l:List α} {i:Nat} {d x:α} (h:l[i]? = some x) :l.getD i d=x:=by rw[awe,h]; rfl
open Classical in
theorem Ae {g:bc} (ai:hW g.ids.l) {i j:Nat} {p:List B} (ay:g.ids.l[j]? = some p) :p∈i4 g i<->ii g.ids.l g.ops.l (cT g.ops.l i) j:=by
 have az:∀ t,t<g.ids.l.length->(pV g (cT g.ops.l i)).getD t false=decide (ii g.ids.l g.ops.l (cT g.ops.l i) t) :=fun t aI=>by
  apply aeC;unfold pV;rw[avV,awr aI]; rfl
 unfold i4;rw[XB];constructor
 ·rintro⟨t,aI,h1,ad⟩;rw[az t aI] at h1;obtain⟨y,ax,_⟩:=bx aI;rw[fL ax] at ad;subst ad;rw[ai j t y ay ax];exact of_decide_eq_true h1
 ·intro h;have al:=(avP.1 ay).1;exact⟨j,al,by rw[az j al]; exact decide_eq_true h,fL ay⟩
structure JI (g:bc) :Prop where
 ids:gv g.ids
 ops:∀ o∈g.ops.l,JJ o
theorem an7 {ts:List TypeId} {cs:List U} (h:lR Tryz.prog (25::ts) cs) :∃ (g:bc) (cs' : List U),cs=cl g::cs'/\JI g/\lR Tryz.prog ts cs':=by
 obtain⟨c,cs',rfl,h1,ad⟩:=Pr h;obtain⟨cs,rfl,aj⟩:=aob (by kernel_rfl) h1;have aE:=Fo (fs:=[22,23]) (by kernel_rfl) aj;obtain⟨i,_,rfl,av,aX⟩:=aai aE;obtain⟨s,_,rfl,_,ap,bw⟩:=Ps (e:=82) (z:=11) (enc:=a2) (Q:=JJ) (by kernel_rfl) (by kernel_rfl) (fun r az=>by
  obtain⟨x,_,rfl,af,aj⟩:=aof az;rw[Jg aj,awp];exact⟨x,rfl,af⟩) aX
 rw[Jg bw];exact⟨⟨i,s⟩,cs',rfl,⟨av,ap⟩,ad⟩
theorem akE {g:bc} (h:JI g) (aq:wM g=false) :et g:=by
 unfold wM at aq;simp only[Bool.or_eq_false_iff,decide_eq_false_iff_not] at aq;obtain⟨h1,ad,aj,aE⟩:=aq;refine⟨h.ids,fun o ap=>?_,by omega,by omega⟩;have aX:¬ uQ o=true:=fun aG=>h1 ⟨o,by rw[avO (by omega)]; exact ap,aG⟩
 unfold uQ at aX;simp only[axT,decide_eq_true_eq,not_or] at aX;have aI:=h.ops o ap;exact⟨aI.ids,by omega,⟨aI.mj,aI.o5,by omega⟩,by omega⟩
end Op

end Go.cb

namespace Go.Proofs
open Go.Shelf
set_option maxRecDepth 100000
def Tryz.am2:Go.Shelf.Ren:=⟨fun | 6=>99 | 15=>135 | 14=>156 | 28=>188 | 29=>189 | 20=>210 | 21=>211 | 22=>212 | 23=>213 | 24=>214 | 25=>215 | 26=>216 | 27=>217 | 46=>248 | 47=>229 | 48=>230 | 49=>249 | 50=>250 | 57=>263 | n=>n,fun | 22=>22 | 24=>48 | 25=>115 | 3=>3 | 39=>194 | 0=>0 | 53=>76 | 55=>40 | 4=>4 | 46=>234 | 45=>233 | 50=>152 | 5=>5 | 9=>9 | 66=>269 | 70=>273 | 76=>291 | 77=>292 | n=>n,fun | n=>n⟩
theorem Tryz.am0:Go.Proofs.SlLaysF0.n6 Tryz.prog Tryz.am2 where
 mixed:=by kernel_rfl
 f6:=⟨ "slices.SortFunc[[]braid/api.ID,braid/api.ID]",by decide,Tryz.func99.trans (congrArg some (by kernel_rfl))⟩
 f14:=⟨ "slices.pdqsortCmpFunc[braid/api.ID]",by decide,Tryz.func156.trans (congrArg some (by kernel_rfl))⟩
 f15:=Tryz.func135.trans (congrArg some (by kernel_rfl))
 f20:=⟨ "slices.insertionSortCmpFunc[braid/api.ID]",by decide,Tryz.func210.trans (congrArg some (by kernel_rfl))⟩
 f21:=⟨ "slices.heapSortCmpFunc[braid/api.ID]",by decide,Tryz.func211.trans (congrArg some (by kernel_rfl))⟩
 f22:=⟨ "slices.breakPatternsCmpFunc[braid/api.ID]",by decide,Tryz.func212.trans (congrArg some (by kernel_rfl))⟩
 f23:=⟨ "slices.choosePivotCmpFunc[braid/api.ID]",by decide,Tryz.func213.trans (congrArg some (by kernel_rfl))⟩
 f24:=⟨ "slices.reverseRangeCmpFunc[braid/api.ID]",by decide,Tryz.func214.trans (congrArg some (by kernel_rfl))⟩
 f25:=⟨ "slices.partialInsertionSortCmpFunc[braid/api.ID]",by decide,Tryz.func215.trans (congrArg some (by kernel_rfl))⟩
 f26:=⟨ "slices.partitionEqualCmpFunc[braid/api.ID]",by decide,Tryz.func216.trans (congrArg some (by kernel_rfl))⟩
 f27:=⟨ "slices.partitionCmpFunc[braid/api.ID]",by decide,Tryz.func217.trans (congrArg some (by kernel_rfl))⟩
 f28:=Tryz.func188.trans (congrArg some (by kernel_rfl))
 f29:=Tryz.func189.trans (congrArg some (by kernel_rfl))
 f46:=⟨ "slices.siftDownCmpFunc[braid/api.ID]",by decide,Tryz.func248.trans (congrArg some (by kernel_rfl))⟩
 f47:=Tryz.func229.trans (congrArg some (by kernel_rfl))
 f48:=Tryz.func230.trans (congrArg some (by kernel_rfl))
 f49:=⟨ "slices.medianAdjacentCmpFunc[braid/api.ID]",by decide,Tryz.func249.trans (congrArg some (by kernel_rfl))⟩
 f50:=⟨ "slices.medianCmpFunc[braid/api.ID]",by decide,Tryz.func250.trans (congrArg some (by kernel_rfl))⟩
 f57:=⟨ "slices.order2CmpFunc[braid/api.ID]",by decide,Tryz.func263.trans (congrArg some (by kernel_rfl))⟩
 t0:=Tryz.underlying0
 a0:=Tryz.isAgg0
 z0:=Tryz.sizeOf0
 v0:=Tryz.zeroValue0
 t3:=Tryz.underlying3
 a3:=Tryz.isAgg3
 z3:=Tryz.sizeOf3
 v3:=Tryz.zeroValue3
 t4:=Tryz.underlying4
 a4:=Tryz.isAgg4
 z4:=Tryz.sizeOf4
 v4:=Tryz.zeroValue4
 t5:=Tryz.underlying5
 a5:=Tryz.isAgg5
 z5:=Tryz.sizeOf5
 v5:=Tryz.zeroValue5
 t9:=Tryz.underlying9
 a9:=Tryz.isAgg9
 z9:=Tryz.sizeOf9
 v9:=Tryz.zeroValue9
 t22:=Tryz.underlying22
 a22:=Tryz.isAgg22
 z22:=Tryz.sizeOf22
 v22:=Tryz.zeroValue22
 t25:=Tryz.underlying115
 a25:=Tryz.isAgg115
 z25:=Tryz.sizeOf115
 v25:=Tryz.zeroValue115
 t39:=Tryz.underlying194
 a39:=Tryz.isAgg194
 z39:=Tryz.sizeOf194
 v39:=Tryz.zeroValue194
 t45:=Tryz.underlying233
 a45:=Tryz.isAgg233
 z45:=Tryz.sizeOf233
 v45:=Tryz.zeroValue233
 t46:=Tryz.underlying234
 a46:=Tryz.isAgg234
 z46:=Tryz.sizeOf234
 v46:=Tryz.zeroValue234
 t50:=Tryz.underlying152
 a50:=Tryz.isAgg152
 z50:=Tryz.sizeOf152
 v50:=Tryz.zeroValue152
 t53:=Tryz.underlying76
 a53:=Tryz.isAgg76
 z53:=Tryz.sizeOf76
 v53:=Tryz.zeroValue76
 t55:=Tryz.underlying40
 a55:=Tryz.isAgg40
 z55:=Tryz.sizeOf40
 v55:=Tryz.zeroValue40
 t66:=Tryz.underlying269
 a66:=Tryz.isAgg269
 z66:=Tryz.sizeOf269
 v66:=Tryz.zeroValue269
 t70:=Tryz.underlying273
 a70:=Tryz.isAgg273
 z70:=Tryz.sizeOf273
 v70:=Tryz.zeroValue273
 t76:=Tryz.underlying291
 a76:=Tryz.isAgg291
 z76:=Tryz.sizeOf291
 v76:=Tryz.zeroValue291
 t77:=Tryz.underlying292
 a77:=Tryz.isAgg292
 z77:=Tryz.sizeOf292
 v77:=Tryz.zeroValue292
end Go.Proofs

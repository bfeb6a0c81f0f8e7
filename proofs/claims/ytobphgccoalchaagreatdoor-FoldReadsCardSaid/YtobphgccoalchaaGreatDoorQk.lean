/-
  Graphs: a visit, walked; it calls itself.
-/
import Derived.Test.YtobphgccoalchaaGreatDoorQj
import Derived.Sort.Walk0
import Derived.Shelf.Spec.SlicesInsertGrow
import Derived.Test.YtobphgccoalchaaGreatDoorRows
import Derived.Shelf.SlSortCmp.WholeK
import Derived.Shelf.SlGeneric
set_option linter.unusedVariables false
set_option linter.unusedSimpArgs false
set_option linter.unnecessarySimpa false
namespace Go.b2
open Go Go.Proofs
set_option maxRecDepth 100000
namespace Op
open gh
structure oq (g:bg) (eT ky kx jZ gC ft:Nat) (S:List Bool) (l:am) :Prop where
 a:l[eT]? = some (.cells 1 [.mp ft])
 s:l[ky]? = some (.cells 1 [.au 1 gC 0 g.ids.l.length g.ids.l.length g.ids.l.length])
 E4:l[kx]? = some (.cells 2 [aU g.ids,b4 g.ops])
 v:l[jZ]? = some (.cells 1 [.fn 179 [] [.ptr eT 0 1,.ptr ky 0 1,.ptr kx 0 2,.ptr jZ 0 1]])
 m:mK l ft g.ids.l
 r:l[gC]? = some (.cells g.ids.l.length (S.map U.bool))
 n:S.length=g.ids.l.length
 ne:gC≠eT/\gC≠ky/\gC≠kx/\gC≠jZ/\gC≠ft
theorem oq.frame {g:bg} {eT ky kx jZ gC ft:Nat} {S:List Bool} {l l' : am} (h:oq g eT ky kx jZ gC ft S l) (aD:∀ c,c<l.length->l'[c]? = l[c]?) :oq g eT ky kx jZ gC ft S l':=by
 have lt:∀ {c:Nat} {x:a2},l[c]? = some x->c<l.length:=fun h=>(atq.1 h).1
 exact⟨(aD _ (lt h.a)).trans h.a,(aD _ (lt h.s)).trans h.s,(aD _ (lt h.E4)).trans h.E4,(aD _ (lt h.v)).trans h.v,h.m.frame (aD _ h.m.lt),(aD _ (lt h.r)).trans h.r,h.n,h.ne⟩
theorem oq.more {g:bg} {eT ky kx jZ gC ft:Nat} {S:List Bool} {l:am} (h:oq g eT ky kx jZ gC ft S l) (x:am) :oq g eT ky kx jZ gC ft S (l++x) :=h.frame fun c ah=>ats ah
theorem oq.set {g:bg} {eT ky kx jZ gC ft:Nat} {S:List Bool} {l:am} (h:oq g eT ky kx jZ gC ft S l) (i:Nat) :oq g eT ky kx jZ gC ft (S.set i true) (l.set gC (.cells g.ids.l.length ((S.set i true).map U.bool))) :=by
 obtain⟨lj,n2,uB,sN,lk⟩:=h.ne;have ak:gC<l.length:=(atq.1 h.r).1;exact⟨by rw[atF lj]; exact h.a,by rw[atF n2]; exact h.s,by rw[atF uB]; exact h.E4,by rw[atF sN]; exact h.v,h.m.frame (atF lk),atO ak,by simpa using h.n,h.ne⟩
theorem R2:je Tryz.prog 179=true:=by kernel_rfl
set_option maxHeartbeats 4000000 in
theorem alT (g:bg) (ar:fG g) (V:kv g) (eT ky kx jZ gC ft:Nat) :∀ (m:Nat) (S:List Bool) (l:am) (p:List B) (i:Nat) (K:U->am->Prop),S.count false<=m->oq g eT ky kx jZ gC ft S l->g.ids.l[i]? = some p->
  (∀ l' hJ,pr g.ids.l g.ops.l [p] S hJ->oq g eT ky kx jZ gC ft hJ l'->(∀ c,c<l.length->c≠gC->l'[c]? = l[c]?)->l.length<=l'.length->hJ.count false<=S.count false->K (.bG []) l')->
  c7 Tryz.prog GS 179 [.aM (aR p),.ptr eT 0 1,.ptr ky 0 1,.ptr kx 0 2,.ptr jZ 0 1] l (c:=⟨K⟩) :=by
 have dY:=nl V.dN;intro m
 induction m using Nat.strongRecOn with
 | _ m aH=>
  intro S l p i K hm m4 av aV;apply bj Tryz.func179 [];have oS:=atz av;have x3:=ar.ids p oS;have du:=(atq.1 av).1;have h9:=(m4.more [.cells 32 (aR p)]).m.look dY x3 av;have bn:=cQ x3;obtain⟨X,cT⟩:∃ X,X=aR p:=⟨_,rfl⟩
  rw[<-cT] at h9 bn ⊢;have xB:=m4.more [.cells 32 X];obtain⟨l1,fW⟩:∃ l1,l1=l++[a2.cells 32 X] :=⟨_,rfl⟩
  rw[<-fW] at xB h9;have adN:l1[l.length]? = some (.cells 32 X) :=by rw[fW]; simp
  have ec:eo l1 (.ptr eT 0 1)=some ([.mp ft],0) :=by simp only[eo,xB.a]; simp
  have fg:eo l1 (.ptr ky 0 1)=some ([.au 1 gC 0 g.ids.l.length g.ids.l.length g.ids.l.length],0) :=by simp only[eo,xB.s]; simp
  have AI:eo l1 (.ptr l.length 0 32)=some (X,0) :=by simp only[eo,adN]; simp
  have yB:eo l1 (.ptr gC i g.ids.l.length)=some (S.map U.bool,i) :=by simp only[eo,xB.r]; simp
  have FT:cj (.au 1) (.au 1 gC 0 g.ids.l.length g.ids.l.length g.ids.l.length) (.int .i64 (i:Int))=some (.ptr gC i g.ids.l.length) :=by
   simp only[cj];rw[if_pos ⟨trivial,by omega,by omega⟩];simp
  obtain⟨b,ag,_⟩:=bA (l:=S) (k:=i) (by rw[m4.n]; exact du);have aps:(S.map U.bool)[i]? = some (.bool b) :=by rw[atw,ag]; rfl
  have Ks:l1.length=l.length+1:=by rw[fW]; simp
  have Tv:∀ c,c<l.length->c≠gC->l1[c]? = l[c]?:=fun c ah _=>by rw[fW,ats ah]
  cases b with
  | true=>
   simp[bn,<-fW,ec,fg,AI,h9,FT,yB,ag,atr];exact aV l1 S (alZ dY av ag) xB Tv (by omega) (att _)
  | false=>
   have cw:jT 1 l1 (.ptr gC i g.ids.l.length) (.bool true)=some (l1.set gC (.cells g.ids.l.length ((S.set i true).map U.bool))) :=by
    simp only[jT,U.cells,xB.r];rw[if_pos (by simp; omega)];have ad:bz (S.map U.bool) i [U.bool true]=(S.set i true).map U.bool:=oa U.bool S i true (by rw[m4.n]; exact du);rw[ad]
   have JS:=xB.set i;obtain⟨b5,gX⟩:∃ b5,b5=l1.set gC (.cells g.ids.l.length ((S.set i true).map U.bool)) :=⟨_,rfl⟩
   rw[<-gX] at cw JS;have pa:eo b5 (.ptr kx 1 2)=some ([aU g.ids,b4 g.ops],1) :=by simp only[eo,JS.E4]; simp
   obtain⟨o,ap,dZ⟩:=bA (l:=g.ops.l) (k:=i) (by rw[<-V.len]; exact du);have cc:cj (.au 11) (b4 g.ops) (.int .i64 (i:Int))=some (.b6 (bl o) 0) :=by simp[b4,ap]
   have sf:(bl o).length=11:=rfl;have jL:(bl o)[1]? = some (aU o.bo) :=rfl;have mj:=ar.ops o dZ;have gy:=mj.len;have nb:cP (.au 32) (aU o.bo)=some (.int .i64 o.bo.l.length) :=by simp[aU]
   obtain⟨O,eS⟩:∃ O,O=bl o:=⟨_,rfl⟩
   rw[<-eS] at cc sf jL;have aec:∀ c,c<l.length->c≠gC->b5[c]? = l[c]?:=fun c ah bx=>by rw[gX,atF (Ne.symm bx)]; exact Tv c ah bx
   have Kt:l.length<=b5.length:=by rw[gX]; simp; omega
   have apm:(S.set i true).count false+1<=S.count false:=by
    have aer:i<S.length:=by rw[m4.n]; exact du
    have pT:S[i]=false:=(atq.1 ag).2;have kH:0<S.count false:=av8.2 (atz ag);rw[List.count_set aer,pT];simp; omega
   simp[bn,<-fW,ec,fg,AI,h9,FT,yB,ag,atr,cw,pa,cc,jL,nb];refine cF o.bo.l.length (fun q ae l'=>ae 4=.ptr jZ 0 1/\ae 24=aU o.bo/\ae 25=.int .i64 o.bo.l.length/\ae 26=.int .i64 q/\∃ hJ,pr g.ids.l g.ops.l (o.bo.l.take q) (S.set i true) hJ/\oq g eT ky kx jZ gC ft hJ l' ∧
    (∀ c,c<l.length->c≠gC->l'[c]? = l[c]?)/\l.length<=l'.length/\hJ.count false<=(S.set i true).count false) ?_ ?_
   ·rintro q ae l' aZ ⟨bu,mb,j2,lB,hJ,xD,xA,iB,oO,FJ⟩;obtain⟨ae,rfl⟩:=iv bu mb j2 lB;clear bu mb j2 lB;by_cases k5:q<o.bo.l.length
    ·obtain⟨bI,fR,CM⟩:=bA k5;obtain⟨j,ai⟩:=atx.1 (V.G6 o dZ bI CM);have aQ:IntKind.i64.wrap ((q:Int)+1)=((q+1:Nat) :Int) :=by rw[IntKind.wrap_i64]; omega
     have hS:cj (.au 32) (aU o.bo) (.int .i64 (q:Int))=some (.b6 (aR bI) 0) :=by simp[aU,fR]
     have ul:=cQ ((ar.ops o dZ).ids bI CM);have xC:=xA.more [.cells 32 (aR bI)];have wy:eo (l'++[a2.cells 32 (aR bI)]) (.ptr jZ 0 1)=some ([.fn 179 [] [.ptr eT 0 1,.ptr ky 0 1,.ptr kx 0 2,.ptr jZ 0 1]],0) :=by simp only[eo,xC.v]; simp
     have pM:=aH (m - 1) (by omega) hJ (l'++[a2.cells 32 (aR bI)]) bI j;obtain⟨tu,JT⟩:∃ tu,tu=aR bI:=⟨_,rfl⟩
     rw[<-JT] at hS ul xC wy pM;have oX:bz (rep 32 (.int .u8 0)) 0 tu=tu:=fE (by rw[ul]; rfl);simp[k5,hS,ul,oX,atr,wy];refine⟨R2,pM _ (by omega) xC ai ?_⟩;intro dU H5 bW w2 ef ph te;simp[k5,aQ];refine⟨H5,?_,w2,fun c ah bx=>?_,by simp at ph; omega,by omega⟩
     ·rw[atJ,fR];exact Yq xD bW
     ·rw[ef c (by simp; omega) bx,ats (by omega)];exact iB c ah bx
    ·have p2:q=o.bo.l.length:=by omega
     rw[p2,atW] at xD;simp[k5];exact aV l' hJ (al0 dY av (by rw[m4.n]; exact du) (by rw[my ap]; exact xD)) xA iB oO (by omega)
   ·simp;exact⟨S.set i true,Yp _ _ _,JS,aec,Kt,att _⟩
open Classical in
noncomputable def pb (g:bg) (L:List (List B)) :List Bool:=(List.range g.ids.l.length).map fun i=>decide (iL g.ids.l g.ops.l L i)
theorem MB (g:bg) (L:List (List B)) :(pb g L).length=g.ids.l.length:=by simp[pb]
open Classical in
theorem ajo {g:bg} {L:List (List B)} {S:List Bool} (h:pr g.ids.l g.ops.l L (List.replicate g.ids.l.length false) S) :S=pb g L:=by
 have bh:S.length=g.ids.l.length:=by rw[h.len]; simp
 apply auk;intro i;by_cases av:i<g.ids.l.length
 ·have h1:=alY h i;obtain⟨b,ag,_⟩:=bA (l:=S) (k:=i) (by omega);rw[ag] at h1 ⊢;unfold pb;rw[atw,at3 av];simp only[atA,Option.some.injEq] at h1 ⊢;cases b with
  | true=>exact (decide_eq_true (h1.1 rfl)).symm
  | false=>exact (decide_eq_false fun aG=>by have:=h1.2 aG; cases this).symm
 ·rw[atG (by omega),atG (by rw[MB]; omega)]
set_option maxHeartbeats 4000000 in
theorem MD (g:bg) (ar:fG g) (V:kv g) (L:fq) (fJ:h0 L) (m0:L.l.length<=1000000) (eG:∀ p∈L.l,p∈g.ids.l) :bw Tryz.prog GS 133 [db g,aU L] (cK 1 h7 (some (pb g L.l))) :=by
 refine bP Tryz.checked.mixed bC ?_;apply bj Tryz.func133 [];have ax:ct=140737488355328:=rfl;have gN:=ar.li;have aeG:cP (.au 32) (aU L)=some (.int .i64 L.l.length) :=by simp[aU]
 have aeF:cP (.au 32) (aU g.ids)=some (.int .i64 g.ids.l.length) :=by simp[aU]
 have dY:=nl V.dN;simp[db,dS];refine Wl g ar dY ?_;intro ft l1 lD vL iB oO;obtain⟨ec,rfl⟩:∃ r,l1=a2.cells 2 [aU g.ids,b4 g.ops] ::r:=Dt ((iB 0 (by simp)).trans rfl);obtain⟨aS,_⟩:=Dj (z:=1) (by_:=1) (n:=g.ids.l.length) (k:=.i64) (k':=.i64) (zero:=[U.bool false]) (l:=(a2.cells 2 [aU g.ids,b4 g.ops] ::ec)++[a2.cells 1 [.mp ft]]) rfl (by omega) (by rw[ax]; omega);simp only[auW,MH (α:=Nat),auM] at aS;simp[aeF,aeG,aS];obtain⟨eT,Ta⟩:∃ eT,eT=ec.length+1:=⟨_,rfl⟩
 have q1:ec.length+1+1=eT+1:=by omega
 have gn:ec.length+2+1=eT+2:=by omega
 have kP:ec.length+3+1=eT+3:=by omega
 rw[q1,show eT+1+1=eT+2 from rfl,kP,<-Ta];have TM:=lD.lt;simp at TM vL;refine cF L.l.length (fun q ae l'=>ae 6=.ptr (eT+2) 0 1/\ae 7=.ptr (eT+3) 0 1/\ae 17=aU L/\ae 18=.int .i64 L.l.length/\ae 19=.int .i64 q/\∃ hJ,pr g.ids.l g.ops.l (L.l.take q) (List.replicate g.ids.l.length false) hJ/\oq g eT (eT+2) 0 (eT+3) (eT+1) ft hJ l') ?_ ?_
 ·rintro q ae l' aZ ⟨ch,ei,nO,r9,sa,hJ,xD,xA⟩;obtain⟨ae,rfl⟩:=kU ch ei nO r9 sa;clear ch ei nO r9 sa;by_cases k5:q<L.l.length
  ·obtain⟨bI,fR,CM⟩:=bA k5;obtain⟨j,ai⟩:=atx.1 (eG bI CM);have aQ:IntKind.i64.wrap ((q:Int)+1)=((q+1:Nat) :Int) :=by rw[IntKind.wrap_i64]; omega
   have hS:cj (.au 32) (aU L) (.int .i64 (q:Int))=some (.b6 (aR bI) 0) :=by simp[aU,fR]
   have ul:=cQ (fJ bI CM);have xC:=xA.more [.cells 32 (aR bI)];have wy:eo (l'++[a2.cells 32 (aR bI)]) (.ptr (eT+3) 0 1)=some ([.fn 179 [] [.ptr eT 0 1,.ptr (eT+2) 0 1,.ptr 0 0 2,.ptr (eT+3) 0 1]],0) :=by simp only[eo,xC.v]; simp
   have pM:=alT g ar V eT (eT+2) 0 (eT+3) (eT+1) ft (hJ.count false) hJ (l'++[a2.cells 32 (aR bI)]) bI j;obtain⟨tu,JT⟩:∃ tu,tu=aR bI:=⟨_,rfl⟩
   rw[<-JT] at hS ul xC wy pM;have oX:bz (rep 32 (.int .u8 0)) 0 tu=tu:=fE (by rw[ul]; rfl);simp[k5,hS,ul,oX,atr,wy];refine⟨R2,pM _ (att _) xC ai ?_⟩;intro dU H5 bW w2 ef ph te;simp[k5,aQ];exact⟨H5,by rw[atJ,fR]; exact Yq xD bW,w2⟩
  ·have p2:q=L.l.length:=by omega
   rw[p2,atW] at xD;have jf:=ajo xD;have yC:eo l' (.ptr (eT+2) 0 1)=some ([.au 1 (eT+1) 0 g.ids.l.length g.ids.l.length g.ids.l.length],0) :=by simp only[eo,xA.s]; simp
   simp[k5,yC];rw[<-jf];have fL:(hJ.map h7).flatten=hJ.map U.bool:=by
    have:∀ t:List Bool,(t.map h7).flatten=t.map U.bool:=fun t=>by induction t with | nil=>rfl | cons b t aH=>simp[h7,aH]
    exact this hJ
   have j7:bJ 1 l' (.au 1 (eT+1) 0 g.ids.l.length g.ids.l.length (g.ids.l.length*1)) (eT+1) (hJ.map h7) :=mx (fun _ _=>rfl) xA.n (by rw[auW,fL]; exact xA.r);rw[auW] at j7;exact j7.q.yD (fun _=>rfl) (some hJ) rfl rfl
 ·simp;refine⟨List.replicate g.ids.l.length false,Yp _ _ _,?_⟩;subst Ta;refine⟨by simp,by simp,by simp,by simp,lD.frame (by rw[<-auM]; exact ats (by simpa using TM)),by simp,by simp,by omega⟩
noncomputable def jG (g:bg) (i:Nat) :List (List B) :=js g.ids.l (pb g (cU g.ops.l i)) g.ids.l.length
set_option maxHeartbeats 2000000 in
theorem Zu (g:bg) (ar:fG g) (V:kv g) (aE:eW g=0) (x:List B) (i:Nat) (av:g.ids.l[i]? = some x) :bw Tryz.prog GS 84 [db g,.aM (aR x)] (.bG [aU (fp (jG g i)),.int .i64 0]) :=by
 refine bP Tryz.checked.mixed bC ?_;apply bj Tryz.func84 [[[0],[1],[2],[3],[4],[5],[6],[7],[8,0]]];have cX:=atz av;have af:=ar.ids x cX;have eN:=gM g.ids;have dj:=mU g.ops;have h9:=ahq g ar x af;have oO:GF g x=i:=by unfold GF; rw[if_pos aE,if_pos cX,EF V.dN av]
 have dO:GD g x=0:=by unfold GD; rw[if_pos aE,if_pos cX]
 rw[oO,dO] at h9;have iA:=g6 x;have bn:=cQ af;have du:=(atq.1 av).1;obtain⟨o,ap,dZ⟩:=bA (l:=g.ops.l) (k:=i) (by rw[<-V.len]; exact du);have cc:cj (.au 11) (b4 g.ops) (.int .i64 (i:Int))=some (.b6 (bl o) 0) :=by simp[b4,ap]
 have jL:(bl o)[1]? = some (aU o.bo) :=rfl;have KT:=MD g ar V o.bo (ar.ops o dZ).ids (ar.ops o dZ).len (V.G6 o dZ);have vQ:=ahE g ar (some (pb g o.bo.l)) (by simp[MB]);have Ck:jG g i=js g.ids.l (pb g o.bo.l) (pb g o.bo.l).length:=by unfold jG; rw[my ap,MB]
 have m7:(cK 1 h7 (some (pb g o.bo.l))).closed=true:=vj (fun _=>rfl) _;have sl:=gM o.bo;obtain⟨X,cT⟩:∃ X,X=aR x:=⟨_,rfl⟩
 obtain⟨O,eS⟩:∃ O,O=bl o:=⟨_,rfl⟩
 obtain⟨M,m1⟩:∃ M,M=cK 1 h7 (some (pb g o.bo.l)) :=⟨_,rfl⟩
 rw[<-cT] at h9 iA bn ⊢;rw[<-eS] at cc jL;rw[<-m1] at KT vQ m7;rw[dR.Gy,<-Ck] at vQ;unfold db dS at h9 KT vQ;simp[db,dS,bn,atr];refine bf h9 (by simp[bm,U.closed,eN,dj,iA]) ?_;simp[cc,jL];refine bf KT (by simp[bm,U.closed,eN,dj,sl]) ?_;simp;refine bf vQ (by simp[bm,U.closed,eN,dj,m7]) ?_;simp;exact aP rfl (by simp[U.closed,bm,gM])
theorem agE {l:List (List B)} (ai:iw l) {i:Nat} {x:List B} (av:l[i]? = some x) :hW x l 0=(i:Int) :=by
 have:=yg (n:=0) av (fun t z aI aw lf=>by subst lf; have:=ai t i z aw av; omega) rfl;simpa using this
theorem ajb (g:bg) (ar:fG g) (ai:iw g.ids.l) {i:Nat} {x:List B} {o:bp} (av:g.ids.l[i]? = some x) (ap:g.ops.l[i]? = some o) :bw Tryz.prog GS 35 [db g,.aM (aR x)] (.aM (bl o)) :=by
 refine bP Tryz.checked.mixed bC ?_;apply bj Tryz.func35 [];have af:=ar.ids x (atz av);have eN:=gM g.ids;have iA:=g6 x;have bn:=cQ af;have fK:=WJ g.ids ar.ids ar.li x af;rw[agE ai av] at fK;have du:=(atq.1 ap).1;have ew:cP (.au 11) (b4 g.ops)=some (.int .i64 g.ops.l.length) :=by simp[b4]
 have cc:cj (.au 11) (b4 g.ops) (.int .i64 (i:Int))=some (.b6 (bl o) 0) :=by simp[b4,ap]
 have di:(bl o).length=11:=rfl;have dj:=pA o;have h1:¬ (i:Int)<0:=by omega
 have ad:¬ (g.ops.l.length:Int)<=(i:Int) :=by omega
 obtain⟨X,cT⟩:∃ X,X=aR x:=⟨_,rfl⟩
 obtain⟨O,eS⟩:∃ O,O=bl o:=⟨_,rfl⟩
 rw[<-cT] at fK iA bn ⊢;rw[<-eS] at cc di dj ⊢;have k9:bz [U.int .u32 0,.a1,.int .u64 0,.int .u8 0,.str [],.int .u8 0,.int .i64 0,.int .u64 0,.str [],.int .u32 0,.int .u32 0] 0 O=O:=fE (by rw[di]; rfl);simp[db,dS,bn,atr];refine bf fK (by simp[bm,U.closed,eN,iA]) ?_;simp[h1,ad,du,ew,cc,di,k9,atr];exact aP rfl (by simp[U.closed,dj])
structure Bj (ids:List (List B)) (ops:List bp) (i:Nat) (x:List B) (out next:List (List B)) :Prop where
 hY:out.Nodup
 mB:∀ p∈out,∃ j,ids[j]? = some p/\iL ids ops (cU ops i) j
 ru:∀ q∈next,q=x\/q∈out
 r2:∀ q,(q=x\/q∈out)->q∉next->∀ (j:Nat),ids[j]? = some q->∀ p∈cU ops j,p∈out
theorem ams {ids:List (List B)} {ops:List bp} {i:Nat} {x:List B}:Bj ids ops i x [] [x] :=
 ⟨awC,fun p ay=>by simp at ay,fun q aZ=>by simp at aZ; exact .inl aZ,fun q aZ aC=>by
  rcases aZ with rfl | aZ
  ·exact absurd (by simp) aC
  ·cases aZ⟩
theorem amq {ids:List (List B)} {ops:List bp} {i:Nat} {x:List B} {out:List (List B)} (av:ids[i]? = some x) (h:Bj ids ops i x out []) (j:Nat) (p:List B) (ai:ids[j]? = some p) (dY:iw ids) :p∈out<->iL ids ops (cU ops i) j:=by
 constructor
 ·intro ay;obtain⟨bX,ej,ax⟩:=h.mB p ay;rw[dY j bX p ai ej];exact ax
 ·intro ax;have:∀ {t:Nat},iL ids ops (cU ops i) t->∀ q,ids[t]? = some q->q∈out:=by
   intro t aI
   induction aI with
   | start p j ay ai=>
    intro q aZ;rw[ai] at aZ;obtain rfl:=Option.some.inj aZ;exact h.r2 x (.inl rfl) (by simp) i av p ay
   | step iZ p j ax ay ai aH=>
    intro q aZ;rw[ai] at aZ;obtain rfl:=Option.some.inj aZ;have du:∃ y,ids[iZ]? = some y:=by
     cases ax with
     | start bI _ fR ej=>exact⟨bI,ej⟩
     | step Lg bI _ j8 fR ej=>exact⟨bI,ej⟩
    obtain⟨y,az⟩:=du;exact h.r2 y (.inr (aH y az)) (by simp) iZ az p ay
  exact this ax p ai
structure u4 (ids:List (List B)) (ops:List bp) (i:Nat) (x:List B) (q:List B) (j k:Nat) (out next:List (List B)) :Prop where
 hY:out.Nodup
 mB:∀ p∈out,∃ t,ids[t]? = some p/\iL ids ops (cU ops i) t
 Mv:q=x\/q∈out
 ru:∀ r∈next,r=x\/r∈out
 r2:∀ r,(r=x\/r∈out)->r∉next->r≠q->∀ (t:Nat),ids[t]? = some r->∀ p∈cU ops t,p∈out
 Ms:∀ p∈(cU ops j).take k,p∈out
theorem amw {ids:List (List B)} {ops:List bp} {i:Nat} {x q:List B} {j:Nat} {out next:List (List B)} (h:Bj ids ops i x out (q::next)) :u4 ids ops i x q j 0 out next:=
 ⟨h.hY,h.mB,h.ru q (by simp),fun r ax=>h.ru r (by simp[ax]),fun r ax aC bx=>h.r2 r ax (by simp[aC,bx]),fun p ay=>by simp at ay⟩
theorem amu {ids:List (List B)} {ops:List bp} (dY:iw ids) {i:Nat} {x q:List B} {j:Nat} {out next:List (List B)} (aZ:ids[j]? = some q) (h:u4 ids ops i x q j (cU ops j).length out next) :Bj ids ops i x out next:=by
 refine⟨h.hY,h.mB,h.ru,fun r ax aC t aI p ay=>?_⟩;by_cases Uy:r=q
 ·subst Uy;rw[dY t j r aI aZ] at ay;exact h.Ms p (by rw[atW]; exact ay)
 ·exact h.r2 r ax aC Uy t aI p ay
theorem amv {ids:List (List B)} {ops:List bp} {i:Nat} {x q:List B} {j k:Nat} {out next:List (List B)} {p:List B} (h:u4 ids ops i x q j k out next) (ay:(cU ops j)[k]? = some p) (ap:p∈out) :u4 ids ops i x q j (k+1) out next:=by
 refine⟨h.hY,h.mB,h.Mv,h.ru,h.r2,fun r ax=>?_⟩;rw[atJ,ay,atQ] at ax;rcases ax with ax | ax
 ·exact h.Ms r ax
 ·simp at ax; subst ax; exact ap
theorem Yx {ids:List (List B)} {ops:List bp} (dY:iw ids) {i:Nat} {x q:List B} {j k:Nat} {out next:List (List B)} {p:List B} {t:Nat} (h:u4 ids ops i x q j k out next) (av:ids[i]? = some x) (aZ:ids[j]? = some q) (ay:(cU ops j)[k]? = some p) (aI:ids[t]? = some p) (ap:p∉out) :
  u4 ids ops i x q j (k+1) (out++[p]) (next++[p]) :=by
 have oS:=atz ay;refine⟨?_,fun r ax=>?_,h.Mv.imp_right fun aG=>by simp[aG],fun r ax=>?_,fun r ax aC bx u aJ bI fR=>?_,fun r ax=>?_⟩
 ·rw[auD];refine⟨h.hY,by simp,fun a aB b ag e=>?_⟩;rw[atM] at ag;subst e;rw[ag] at aB;exact ap aB
 ·rw[atQ,atM] at ax;rcases ax with ax | rfl
  ·exact h.mB r ax
  ·refine⟨t,aI,?_⟩;rcases h.Mv with aft | afs
   ·subst aft;rw[dY j i q aZ av] at oS;exact .start r t oS aI
   ·obtain⟨bX,ej,j8⟩:=h.mB q afs;rw[dY bX j q ej aZ] at j8;exact .step j r t j8 oS aI
 ·rw[atQ,atM] at ax;rcases ax with ax | rfl
  ·exact (h.ru r ax).imp_right fun aG=>by simp[aG]
  ·exact .inr (by simp)
 ·have afw:r≠p:=fun e=>aC (by simp[e])
  have j8:r=x\/r∈out:=ax.imp_right fun aG=>by
   rw[atQ,atM] at aG;exact aG.resolve_right afw
  have:=h.r2 r j8 (fun aG=>aC (by simp[aG])) bx u aJ bI fR;simp[this]
 ·rw[atJ,ay,atQ] at ax;rcases ax with ax | ax
  ·have:=h.Ms r ax; simp[this]
  ·simp at ax; simp[ax]
theorem yM:∀ {a b:List (List B)},a.Nodup->(∀ x∈a,x∈b)->a.length<=b.length
 | [],_,_,_=>auy _
 | x::a,b,aC,al=>by
  rw[avF] at aC;have af:=al x (by simp);have aH:=yM (b:=b.erase x) aC.2 (fun y az=>(List.mem_erase_of_ne (fun e=>aC.1 (by rw[<-e]; exact az))).2 (al y (by simp[az])));rw[awr af] at aH;have:=List.length_pos_of_mem af;simp; omega
structure oh (pre:am) (v5 dw:U) (out next:List (List B)) (b:Nat) (rest:am) :Prop where
 ex:∃ gB g8,dQ 32 (pre++rest) v5 gB (out.map aR)/\dQ 32 (pre++rest) dw g8 (next.map aR)/\(v5=.a1\/(pre.length<=gB/\gB≠g8/\gB≠b))/\pre.length<=g8/\g8≠b/\cD v5=out.isEmpty/\cD dw=false
theorem oh.aiL {pre:am} {v5 dw:U} {out next:List (List B)} {b:Nat} {rest:am} (h:oh pre v5 dw out next b rest) (ag:b<(pre++rest).length) {p:List B} (ay:p.length=32) (df:(out.length+1)*32<=ct) :
  ∃ aY cr,fz (pre++(rest++[.cells 32 (aR p)])) 32 32 v5 (.au 32 (pre.length+rest.length) 0 1 1 32)=some (aY,pre++cr)/\oh pre aY dw (out++[p]) next b cr/\(pre++cr)[b]? = (pre++rest)[b]?/\b<(pre++cr).length:=by
 obtain⟨gB,g8,iG,o2,aW,bt,xt,lk,n6⟩:=h;have gy:=cQ ay;have hm:pre++(rest++[a2.cells 32 (aR p)])=(pre++rest)++[a2.cells 32 (aR p)] :=by rw[at1]
 have L5:dQ 32 (pre++(rest++[a2.cells 32 (aR p)])) v5 gB (out.map aR) :=by rw[hm]; exact iG.more _
 have L6:dQ 32 (pre++(rest++[a2.cells 32 (aR p)])) dw g8 (next.map aR) :=by rw[hm]; exact o2.more _
 obtain⟨aY,bX,cr,aL,aT,a8,bu,bc,ch⟩:=Oq (by_:=32) L5 (aW.imp_right fun h=>h.1) (x:=.au 32 (pre.length+rest.length) 0 1 1 32) (xs:=[aR p]) (by
  have:(pre++(rest++[a2.cells 32 (aR p)]))[pre.length+rest.length]? = some (.cells 32 (aR p)) :=by
   rw[hm,atC (by simp)]; simp
  simp only[dp,this];simp[gy,atr]) (by simp[gy]) (by omega) (by omega) (by simpa using df)
 have hu:cD aY=false:=by rw[bu]; simp
 have bx:aY≠.a1:=fun e=>by rw[e] at hu; cases hu
 have oO:(pre++(rest++[a2.cells 32 (aR p)])).length=(pre++rest).length+1:=by simp; omega
 have apz:g8<(pre++rest).length:=by
  rcases o2.lt with e | e
  ·rw[e] at n6; cases n6
  ·exact e
 have f6:v5=.a1\/g8≠gB:=aW.imp_right fun h=>Ne.symm h.2.1
 have abK:v5=.a1\/b≠gB:=aW.imp_right fun h=>Ne.symm h.2.2
 have uI:=bc g8 (by omega) f6;have DE:=bc b (by omega) abK;have ap:(pre++(rest++[a2.cells 32 (aR p)]))[b]? = (pre++rest)[b]?:=by rw[hm,ats ag]
 refine⟨aY,cr,aL,⟨⟨bX,g8,by rw[atX]; exact aT,L6.vx (.inr uI),.inr ⟨a8.resolve_left bx,?_,?_⟩,bt,xt,by rw[hu]; simp,n6⟩⟩,DE.trans ap,?_⟩
 ·rcases ch.resolve_left bx with ⟨aQ,bF⟩ | e
  ·rw[bF]; exact (aW.resolve_left aQ).2.1
  ·omega
 ·rcases ch.resolve_left bx with ⟨aQ,bF⟩ | e
  ·rw[bF]; exact (aW.resolve_left aQ).2.2
  ·omega
 ·have:=DE.trans ap;have eX:(pre++rest)[b]?≠none:=by rw[atu ag]; simp
  rw[<-this] at eX;exact Nat.lt_of_not_le fun h=>eX (atG h)
theorem oh.aiM {pre:am} {v5 dw:U} {out next:List (List B)} {b:Nat} {rest:am} (h:oh pre v5 dw out next b rest) (ag:b<(pre++rest).length) {p:List B} (ay:p.length=32) (df:(next.length+1)*32<=ct) :
  ∃ aY cr,fz (pre++(rest++[.cells 32 (aR p)])) 32 32 dw (.au 32 (pre.length+rest.length) 0 1 1 32)=some (aY,pre++cr)/\oh pre v5 aY out (next++[p]) b cr/\(pre++cr)[b]? = (pre++rest)[b]?/\b<(pre++cr).length:=by
 obtain⟨gB,g8,iG,o2,aW,bt,xt,lk,n6⟩:=h;have gy:=cQ ay;have hm:pre++(rest++[a2.cells 32 (aR p)])=(pre++rest)++[a2.cells 32 (aR p)] :=by rw[at1]
 have L5:dQ 32 (pre++(rest++[a2.cells 32 (aR p)])) v5 gB (out.map aR) :=by rw[hm]; exact iG.more _
 have L6:dQ 32 (pre++(rest++[a2.cells 32 (aR p)])) dw g8 (next.map aR) :=by rw[hm]; exact o2.more _
 obtain⟨aY,bX,cr,aL,aT,a8,bu,bc,ch⟩:=Oq (by_:=32) L6 (.inr bt) (x:=.au 32 (pre.length+rest.length) 0 1 1 32) (xs:=[aR p]) (by
  have:(pre++(rest++[a2.cells 32 (aR p)]))[pre.length+rest.length]? = some (.cells 32 (aR p)) :=by
   rw[hm,atC (by simp)]; simp
  simp only[dp,this];simp[gy,atr]) (by simp[gy]) (by omega) (by omega) (by simpa using df)
 have hu:cD aY=false:=by rw[bu]; simp
 have bx:aY≠.a1:=fun e=>by rw[e] at hu; cases hu
 have oO:(pre++(rest++[a2.cells 32 (aR p)])).length=(pre++rest).length+1:=by simp; omega
 have DE:=bc b (by omega) (.inr (Ne.symm xt));have ap:(pre++(rest++[a2.cells 32 (aR p)]))[b]? = (pre++rest)[b]?:=by rw[hm,ats ag]
 have TL:bX=g8\/(pre++rest).length+1<=bX:=(ch.resolve_left bx).imp (fun h=>h.2) (fun h=>by omega);refine⟨aY,cr,aL,⟨⟨gB,bX,?_,by rw[atX]; exact aT,?_,a8.resolve_left bx,?_,lk,hu⟩⟩,DE.trans ap,?_⟩
 ·rcases aW with e | ⟨aQ,bF,dz⟩
  ·subst e;rw[iG.uD]; exact .nil _
  ·refine L5.vx ?_;rcases iG.lt with e | e
   ·exact .inl e
   ·exact .inr (bc gB (by omega) (.inr bF))
 ·rcases aW with e | ⟨aQ,bF,dz⟩
  ·exact .inl e
  ·rcases iG.lt with e | e
   ·exact .inl e
   ·refine .inr ⟨aQ,?_,dz⟩;rcases TL with h | h<;>omega
 ·rcases TL with h | h<;>omega
 ·have:=DE.trans ap;have eX:(pre++rest)[b]?≠none:=by rw[atu ag]; simp
  rw[<-this] at eX;exact Nat.lt_of_not_le fun h=>eX (atG h)
theorem oh.amt {pre:am} {v5 dw:U} {out next:List (List B)} {b:Nat} {rest:am} (h:oh pre v5 dw out next b rest) (ay:1<=pre.length) :oh pre v5 dw out next 0 rest:=by
 obtain⟨gB,g8,iG,o2,aW,bt,xt,lk,n6⟩:=h;exact⟨⟨gB,g8,iG,o2,aW.imp_right fun h=>⟨h.1,h.2.1,by omega⟩,bt,by omega,lk,n6⟩⟩
theorem Yv {ids:List (List B)} {ops:List bp} {i:Nat} {x q:List B} {j k:Nat} {out next:List (List B)} (h:u4 ids ops i x q j k out next) :out.length<=ids.length:=yM h.hY fun p ay=>by
 obtain⟨t,aI,_⟩:=h.mB p ay;exact atz aI
structure YH (g:bg) (pre:am) (o:bp) (b m i:Nat) (x q:List B) (j:Nat) (k:Nat) (ae:a7) (l:am) :Prop where
 aT:ae 2=.ptr 0 0 2
 ei:ae 7=.ptr b 0 11
 eu:ae 8=.int .i64 k
 ex:∃ out next rest,l=pre++rest/\oh pre (ae 5) (ae 6) out next b rest/\(pre++rest)[b]? = some (.cells 11 (bl o))/\u4 g.ids.l g.ops.l i x q j k out next/\2*(g.ids.l.length - out.length)+next.length+1<=m
structure YI (g:bg) (pre:am) (i:Nat) (x:List B) (m:Nat) (ae:a7) (l:am) :Prop where
 aT:ae 2=.ptr 0 0 2
 ex:∃ out next rest,l=pre++rest/\oh pre (ae 5) (ae 6) out next 0 rest/\Bj g.ids.l g.ops.l i x out next/\m=2*(g.ids.l.length - out.length)+next.length
 le:m<=1000
set_option maxHeartbeats 8000000 in
theorem Zk (g:bg) (ar:fG g) (V:kv g) {i:Nat} {x:List B} (av:g.ids.l[i]? = some x) :
  c7 Tryz.prog GS 101 [db g,.aM (aR x)] [] (c:=⟨fun r l=>∃ out,(∀ (j:Nat) (p:List B),g.ids.l[j]? = some p->(p∈out<->iL g.ids.l g.ops.l (cU g.ops.l i) j))/\(∀ p∈out,p∈g.ids.l)/\out.length<=g.ids.l.length/\Rd l r (aU (fp out))⟩) :=by
 apply bj Tryz.func101 [[[0],[1],[2],[3],[5],[4,5]]];have ax:ct=140737488355328:=rfl;have gN:=ar.li;have dY:=nl V.dN;have af:=ar.ids x (atz av);have bn:=cQ af;have eN:=gM g.ids;have dj:=mU g.ops;have F0:=V.n60;have bh:=V.len;obtain⟨pre,F5⟩:∃ pre,pre=[a2.cells 2 [aU g.ids,b4 g.ops],a2.cells 32 (aR x)] :=⟨_,rfl⟩
 have ss:pre.length=2:=by rw[F5]; rfl
 have ml:∀ rest,eo (pre++rest) (.ptr 0 0 2)=some ([aU g.ids,b4 g.ops],0) :=fun rest=>by rw[F5]; simp
 have xu:oh pre .a1 (.au 32 2 0 1 1 32) [] [x] 0 [.cells 32 (aR x)] :=by
  refine⟨⟨0,2,.nil 0,?_,.inl rfl,by omega,by omega,rfl,rfl⟩⟩;refine bJ.q (.au 2 1 1 32 (aR x) _ (by rw[F5]; rfl) bn rfl (fun e ao=>by simp at ao; rw[ao]; exact bn) (att _) (by omega) ?_);rw[atr (by rw[bn]; omega)]; simp
 have afI:bz (rep 32 (.int .u8 0)) 0 (aR x)=aR x:=fE (by rw[bn]; rfl);simp[db,dS,bn,afI,atr];refine wj (YI g pre i x) ?_ (2*g.ids.l.length+1) _ _ ?_
 ·rintro m ae l ⟨aT,⟨out,next,rest,rfl,cz,dt,hm⟩,fD⟩;obtain⟨v5,bc⟩:∃ v,ae 5=v:=⟨_,rfl⟩
  obtain⟨dw,ch⟩:∃ v,ae 6=v:=⟨_,rfl⟩
  rw[bc,ch] at cz;obtain⟨ae,rfl⟩:=kq aT bc ch;clear aT bc ch;obtain⟨gB,g8,iG,o2,aW,bt,xt,lk,n6⟩:=id cz.ex;have TW:cP (.au 32) dw=some (.int .i64 next.length) :=by have:=o2.len; simpa using this
  cases next with
  | nil=>
   simp[TW];refine⟨out,fun j p ai=>amq av dt j p ai dY,fun p ay=>?_,?_,?_⟩
   ·obtain⟨t,aI,_⟩:=dt.mB p ay;exact atz aI
   ·exact yM dt.hY fun p ay=>by
     obtain⟨t,aI,_⟩:=dt.mB p ay;exact atz aI
   ·exact iG.yD (fun x=>g6 x) (fp out) (by rw[lk,uQ]) (gQ _)
  | cons q ru=>
   have Ur:q∈g.ids.l:=by
    rcases dt.ru q (by simp) with e | e
    ·rw[e]; exact atz av
    ·obtain⟨t,aI,_⟩:=dt.mB q e; exact atz aI
   obtain⟨j,ai⟩:=atx.1 Ur;have eO:=(atq.1 ai).1;obtain⟨o,ap,dZ⟩:=bA (l:=g.ops.l) (k:=j) (by rw[<-V.len]; exact eO);have afn:=ar.ids q Ur;have k5:=cQ afn;have gx:=ajb g ar dY ai ap;have di:(bl o).length=11:=rfl;have jL:(bl o)[1]? = some (aU o.bo) :=rfl;have mj:=ar.ops o dZ;have apQ:=mj.len;have nb:cP (.au 32) (aU o.bo)=some (.int .i64 o.bo.l.length) :=by simp[aU]
   have oT:cU g.ops.l j=o.bo.l:=my ap;obtain⟨Mh,h6,A6,aS,aX,a3,a4⟩:=o2.get (k:=.i64) (i:=0) (e:=aR q) (by simp);obtain⟨rI,dM,dy,gL⟩:=o2.from n6 (k:=.i64) (i:=1) (by simp);have qD:cj (.au 32) dw (.int .i64 0)=some Mh:=aS;have ZH:gg (.au 32) dw (some (.int .i64 1)) none none=some rI:=dM;obtain⟨O,eS⟩:∃ O,O=bl o:=⟨_,rfl⟩
   obtain⟨Q,adc⟩:∃ Q,Q=aR q:=⟨_,rfl⟩
   have Tn:=g6 q;rw[<-eS] at gx di jL;rw[<-adc] at a4 gx Tn k5;unfold db dS at gx;obtain⟨b,ag⟩:∃ b,b=pre.length+rest.length:=⟨_,rfl⟩
   have fB:(pre++rest).length=b:=by rw[ag]; simp
   obtain⟨Z,sj⟩:∃ Z,Z=[U.int .u32 0,.a1,.int .u64 0,.int .u8 0,.str [],.int .u8 0,.int .i64 0,.int .u64 0,.str [],.int .u32 0,.int .u32 0] :=⟨_,rfl⟩
   have qQ:Z.length=11:=by rw[sj]; rfl
   have k9:bz Z 0 O=O:=fE (by rw[di,qQ]);have eD:∀ y,(pre++(rest++[y]))[b]? = some y:=fun y=>by rw[ag,<-at1,atC (by simp)]; simp
   have pL:∀ y z:a2,(pre++(rest++[y])).set b z=pre++(rest++[z]) :=fun y z=>by rw[ag,<-at1,at8 _ _ (by simp)]; simp
   have cw:jT 11 (pre++(rest++[a2.cells 11 Z])) (.ptr b 0 11) (.aM O)=some (pre++(rest++[a2.cells 11 O])) :=by
    simp only[XF,eD,Q5,au5,akU];rw[if_pos (by simp[di]),pL,k9]
   simp[TW,ml,qD,aX,a3,a4,k5,atr,<-sj,<-ag,qQ];refine bf gx (by simp[bm,U.closed,eN,dj,Tn]) ?_;have Gf:=cw;simp only[XF,Q5,au5] at Gf;have apy:g8<b:=by
    rcases o2.lt with e | e
    ·rw[e] at n6; cases n6
    ·rw[fB] at e; exact e
   have xv:oh pre v5 rI out ru b (rest++[a2.cells 11 O]) :=by
    refine⟨⟨gB,g8,?_,?_,?_,bt,by omega,lk,gL⟩⟩
    ·rw[<-at1]; exact iG.more _
    ·rw[<-at1];have:dQ 32 (pre++rest) rI g8 (ru.map aR) :=by simpa using dy
     exact this.more _
    ·rcases aW with e | ⟨aQ,bF,dz⟩
     ·exact .inl e
     ·rcases iG.lt with e | e
      ·exact .inl e
      ·exact .inr ⟨aQ,bF,by rw[fB] at e; omega⟩
   simp[fB,eD,Gf,ZH,qQ,<-ag,pL,k9,di];refine cF o.bo.l.length (YH g pre o b m i x q j) ?_ ⟨by simp,by simp,by simp,out,ru,_,rfl,by simpa using xv,by rw[<-eS]; exact eD _,amw dt,by simp at hm; omega⟩;clear cz dt hm iG o2 aW bt xt lk n6 xv;rintro k ae l hk ⟨aT,ei,eu,out,next,rest,rfl,cz,sk,vH,afj⟩;obtain⟨v5,bc⟩:∃ v,ae 5=v:=⟨_,rfl⟩
   obtain⟨dw,ch⟩:∃ v,ae 6=v:=⟨_,rfl⟩
   rw[bc,ch] at cz;obtain⟨ae,rfl⟩:=kU aT bc ch ei eu;clear aT bc ch ei eu;rw[<-eS] at sk;have api:=sk;by_cases cI:k<o.bo.l.length
   ·obtain⟨p,ay,oS⟩:=bA cI;have vU:=V.G6 o dZ p oS;obtain⟨t,aI⟩:=atx.1 vU;have x3:=ar.ids p vU;have gy:=cQ x3;have aQ:IntKind.i64.wrap ((k:Int)+1)=((k+1:Nat) :Int) :=by rw[IntKind.wrap_i64]; omega
    have hS:cj (.au 32) (aU o.bo) (.int .i64 (k:Int))=some (.b6 (aR p) 0) :=by simp[aU,ay]
    obtain⟨gB,g8,iG,o2,aW,bt,xt,lk,n6⟩:=id cz.ex;have kJ:=iG.nr (enc:=aR) (xs:=out) (fun x=>g6 x) (fp out) (by rw[lk,uQ]) (gQ _);have apK:=Yv vH;have dG:h0 (fp out) :=fun y az=>by
     rw[gQ] at az;obtain⟨u,aJ,_⟩:=vH.mB y az;exact ar.ids y (atz aJ)
    have eG:=WM (fp out) dG (by rw[gQ]; omega) p x3;rw[gQ] at eG;have sl:=g6 p;have CL:(cU g.ops.l j)[k]? = some p:=by rw[oT]; exact ay
    obtain⟨Y,ev⟩:∃ Y,Y=aR p:=⟨_,rfl⟩
    rw[<-ev] at eG hS gy sl;have oY:bz (rep 32 (.int .u8 0)) 0 Y=Y:=fE (by rw[gy]; rfl);simp[nb,sk,jL,cI,hS,gy,atr];refine ie eG (.cons kJ (.cons (.same _ (by simp[U.closed,sl])) .nil)) rfl ?_;by_cases mj:p∈out
    ·simp[mj,aQ];exact⟨cI,by simp,by simp,by simp,out,next,rest,rfl,by simpa using cz,by rw[<-eS]; exact sk,amv vH CL mj,afj⟩
    ·have adG:b<(pre++rest).length:=(atq.1 sk).1;have apL:out.length+1<=g.ids.l.length:=Yv (Yx dY vH av ai CL aI mj) |> fun h=>by simpa using h
     obtain⟨atk,AI,ig,jU,qr,D3⟩:=cz.aiL adG x3 (by rw[ax]; omega);obtain⟨rI,yB,bW,w2,ef,ph⟩:=jU.aiM D3 x3 (by rw[ax]; omega);have Td:(pre++AI)[b]? = some (.cells 11 O) :=by rw[qr]; exact sk
     have adI:(pre++yB)[b]? = some (.cells 11 O) :=by rw[ef]; exact Td
     rw[<-ev] at ig bW;simp[mj,sk,jL,hS,gy,oY,atr,ig];refine c0.cq ?_;simp[Td,jL,hS,gy,oY,atr,bW];refine c0.cq ?_;simp[aQ];exact⟨cI,by simp,by simp,by simp,out++[p],next++[p],yB,rfl,by simpa using w2,by rw[<-eS]; exact adI,Yx dY vH av ai CL aI mj,by simp; omega⟩
   ·simp[nb,sk,jL,cI];have aeE:k=(cU g.ops.l j).length:=by rw[oT]; omega
    rw[aeE] at vH;exact⟨_,by omega,by simp,⟨out,next,rest,rfl,by simpa using cz.amt (by omega),amu dY ai vH,rfl⟩,by omega⟩
 ·exact⟨by simp,⟨[],[x],[.cells 32 (aR x)],by rw[F5]; rfl,by simpa using xu,ams,by simp⟩,by omega⟩
structure bd where
 key:List UInt8
 id:List B
 deriving DecidableEq
def c5 (t:bd) :List U:=.str t.key::aR t.id
abbrev gq:=dR bd
def eh (s:gq) :U:=cK 33 c5 s
def mv (l:List bd) :Prop:=∀ t∈l,t.id.length=32
theorem nN {t:bd} (h:t.id.length=32) :(c5 t).length=33:=by simp[c5,cQ h]
theorem IL (t:bd) :bm (c5 t)=true:=by simp[c5,bm,U.closed,g6]
theorem qG (s:gq) :(eh s).closed=true:=vj IL s
abbrev e7 (a b:List UInt8) :Bool:=Go.Op.bytesLess a b
theorem s6 (a b:List UInt8) :e7 a b=true<->a<b:=by unfold e7; rw[Go.Proofs.bytesLess_eq]; simp
@[simp] theorem anQ (a b:List UInt8) :pu .lss a b=some (.bool (e7 a b)) :=id rfl
@[simp] theorem anP (a b:List UInt8) :pu .gtr a b=some (.bool (!(e7 a b||decide (a=b)))) :=by
 by_cases h:a=b<;>simp[pu,h]
def pB (a b:List UInt8) :Int:=if e7 a b then -1 else if a=b then 0 else 1
theorem VT (a:List UInt8) :bw Tryz.prog GS 190 [.str a] (.bool false) :=by
 refine bP Tryz.checked.mixed bC ?_;apply bj Tryz.func190 [];simp;exact aP rfl rfl
theorem Rh (a b:List UInt8) :bw Tryz.prog GS 137 [.str a,.str b] (.int .i64 (pB a b)) :=by
 refine bP Tryz.checked.mixed bC ?_;apply bj Tryz.func137 [];unfold pB;simp;refine bf (VT a) rfl ?_;simp;refine bf (VT b) rfl ?_;cases h1:e7 a b with
 | true=>
  simp[h1];exact aP rfl rfl
 | false=>
  by_cases ad:a=b
  ·subst ad;simp[h1];exact aP rfl rfl
  ·simp[h1,ad];exact aP rfl rfl
def AB (a b:Int) :Int:=if a=0 then b else a
theorem WT {l:am} {b:Nat} {x y:Int} (h:l[b]? = some (.cells 2 [.int .i64 x,.int .i64 y])) :fH (bU l) (.au 1 b 0 2 2 2) (.bD 1 [[.int .i64 x],[.int .i64 y]]) :=by
 refine DH (rest:=[]) (es:=[[.int .i64 x],[.int .i64 y]]) (by simpa using h) rfl (by simp) (by simp[bm,U.closed])
theorem V7 (x y:Int) :bw Tryz.prog GS 136 [.bD 1 [[.int .i64 x],[.int .i64 y]]] (.int .i64 (AB x y)) :=by
 refine bP Tryz.checked.mixed bC ?_;apply bj Tryz.func136 [];unfold AB;simp;obtain⟨X,cT⟩:∃ X,X=U.bD 1 [[.int .i64 x],[.int .i64 y]] :=⟨_,rfl⟩
 rw[<-cT];refine cF 2 (fun k ae l=>ae 3=.int .i64 0/\ae 6=X/\ae 7=.int .i64 2/\ae 8=.int .i64 k/\(1<=k->x=0)/\(2<=k->y=0)) ?_ (by simp[cT]);rintro k ae l hk ⟨a8,ch,ei,eu,h1,ad⟩;obtain⟨ae,rfl⟩:=iv a8 ch ei eu;clear a8 ch ei eu;rcases k with _ | _ | k
 ·by_cases af:x=0
  ·simp[cT,af]; exact rfl
  ·simp[cT,af]; exact aP rfl rfl
 ·have af:=h1 (by omega);by_cases az:y=0
  ·simp[cT,af,az]; exact rfl
  ·simp[cT,af,az]; exact aP rfl rfl
 ·obtain rfl:k=0:=by omega
  have af:=h1 (by omega);have az:=ad (by omega);simp[cT,af,az]; exact aP rfl rfl
def kz (a b:bd) :Int:=AB (pB a.key b.key) (cl a.id b.id)
def eP (a b:bd) :Bool:=if a.key=b.key then decide (cl a.id b.id<0) else e7 a.key b.key
theorem Wb {l:am} {j:Nat} {c:U} {a:List B} (aB:a.length=32) (ai:l[j]? = some (.cells 33 (c::aR a))) :dQ 1 l (.au 1 j 1 32 32 33) j (a.map b7) :=by
 refine .au j 1 32 32 33 (c::aR a) _ ai (by simp[aR,aB]) (by simp[aB]) (fun e ao=>?_) (att _) (by omega) ?_
 ·obtain⟨x,_,rfl⟩:=atV.1 ao; rfl
 ·simp only[av4,auv];rw[atr (by simp[aR,aB]),xi]; rfl
theorem Ri (a b:bd) (aB:a.id.length=32) (ag:b.id.length=32) :bw Tryz.prog GS 86 [.aM (c5 a),.aM (c5 b)] (.int .i64 (kz a b)) :=by
 refine bP Tryz.checked.mixed bC ?_;apply bj Tryz.func86 [[[0],[1],[2],[3],[5],[6],[7],[8],[4]]];unfold kz;have h1:=cQ aB;have ad:=cQ ag;simp[c5,h1,ad];refine bf (Rh _ _) rfl ?_;have ah:=Eo (some a.id) (some b.id) (by simp[aB,ag]);simp;refine ie ah ?_ rfl ?_
 ·exact .cons ((Wb (j:=0) (c:=.str a.key) aB rfl).nr (fun _=>rfl) (some a.id) rfl rfl) (.cons ((Wb (j:=1) (c:=.str b.key) ag rfl).nr (fun _=>rfl) (some b.id) rfl rfl) .nil)
 ·simp;refine ie (V7 (pB a.key b.key) (cl a.id b.id)) (.cons (WT (by simp)) .nil) rfl ?_;simp;exact aP rfl rfl
abbrev pn:=dR (List UInt8)
def j1 (k:List UInt8) :List U:=[.str k]
def qK (s:pn) :U:=cK 1 j1 s
theorem Q9 (s:pn) :(qK s).closed=true:=vj (fun _=>rfl) s
theorem amc (s:pn) (ak:s.l.length<=1000000) (x:List UInt8) :bw Tryz.prog GS 141 [qK s,.str x] (.int .i64 (hW x s.l 0)) :=by
 refine bP Tryz.checked.mixed bC ?_;apply bj Tryz.func141 [];simp[qK];refine cF s.l.length (fun k ae l=>ae 0=cK 1 j1 s/\ae 1=.str x/\ae 7=.int .i64 s.l.length/\ae 8=.int .i64 k/\∀ (j:Nat) (z:List UInt8),j<k->s.l[j]? = some z->z≠x) ?_ (by simp[qK]);rintro k ae l hk ⟨b8,aL,ei,eu,al⟩;obtain⟨ae,rfl⟩:=iv b8 aL ei eu;clear b8 aL ei eu;simp;refine kk (fun h=>?_) (fun h=>?_)
 ·simp only[decide_eq_true_eq] at h;obtain⟨y,az,cO⟩:=bA (l:=s.l) (k:=k) (by omega);have aQ:IntKind.i64.wrap ((k:Int)+1)=((k+1:Nat) :Int) :=by rw[IntKind.wrap_i64]; omega
  by_cases ao:x=y
  ·have fa:=yg (n:=0) az al ao.symm;simp[az,j1,ao];exact aP (by rw[<-ao,fa]; simp) rfl
  ·simp[az,j1,ao,aQ];refine⟨by omega,fun j z ai aw=>?_⟩;by_cases fQ:j=k
   ·subst fQ; rw[az] at aw; obtain rfl:=Option.some.inj aw; exact fun h=>ao h.symm
   ·exact al j z (by omega) aw
 ·simp[h];have jj:k=s.l.length:=by simp at h; omega
  exact aP (by rw[Gt fun j z aw=>al j z (by rw[jj]; exact (atq.1 aw).1) aw]) rfl
theorem amb (s:pn) (ak:s.l.length<=1000000) (x:List UInt8) :bw Tryz.prog GS 91 [qK s,.str x] (.bool (decide (x∈s.l))) :=by
 refine bP Tryz.checked.mixed bC ?_;apply bj Tryz.func91 [];simp;refine bf (amc s ak x) (by have:=Q9 s; simp_all [bm,U.closed]) ?_;simp;exact aP (congrArg U.bool (by simp only[yh])) rfl
def oD (l:List bd) (k:List UInt8) :Bool:=decide (k∈l.map bd.key)
theorem S8 {l:List bd} {k:List UInt8} {t:bd} (h:t∈l) (hk:t.key=k) :oD l k=true:=decide_eq_true (by rw[<-hk]; exact auS h)
theorem ads {l:List bd} {k:List UInt8} (h:∀ t∈l,t.key≠k) :oD l k=false:=decide_eq_false fun hm=>by
 obtain⟨z,aw,CZ⟩:=atV.1 hm;exact h z aw CZ
theorem ai4 (s:gq) (ap:mv s.l) (ak:s.l.length<=1000000) (x:List UInt8) :bw Tryz.prog GS 14 [eh s,.str x] (.bool (oD s.l x)) :=by
 refine bP Tryz.checked.mixed bC ?_;apply bj Tryz.func14 [];simp[eh];refine cF s.l.length (fun k ae l=>ae 0=cK 33 c5 s/\ae 1=.str x/\ae 5=.int .i64 k/\∀ (j:Nat) (z:bd),j<k->s.l[j]? = some z->z.key≠x) ?_ (by simp[eh]);rintro k ae l hk ⟨b8,aL,bc,al⟩;obtain⟨ae,rfl⟩:=kq b8 aL bc;clear b8 aL bc;simp;refine kk (fun h=>?_) (fun h=>?_)
 ·simp only[decide_eq_true_eq] at h;obtain⟨y,az,cO⟩:=bA (l:=s.l) (k:=k) (by omega);have aQ:IntKind.i64.wrap ((k:Int)+1)=((k+1:Nat) :Int) :=by rw[IntKind.wrap_i64]; omega
  by_cases ao:y.key=x
  ·simp[az,c5,ao];exact aP (congrArg U.bool (S8 cO ao).symm) rfl
  ·simp[az,c5,ao,aQ];refine⟨by omega,fun j z ai aw=>?_⟩;by_cases fQ:j=k
   ·subst fQ; rw[az] at aw; obtain rfl:=Option.some.inj aw; exact ao
   ·exact al j z (by omega) aw
 ·simp[h];have jj:k=s.l.length:=by simp at h; omega
  refine aP (congrArg U.bool (ads fun z aw=>?_).symm) rfl;obtain⟨j,ai⟩:=atx.1 aw;exact al j z (by rw[jj]; exact (atq.1 ai).1) ai
theorem IP (a b:bd) :(kz a b<0)<->eP a b=true:=by
 unfold kz pB AB eP;by_cases h:a.key=b.key
 ·have av:e7 b.key b.key=false:=by
   cases ag:e7 b.key b.key with
   | false=>rfl
   | true=>exact absurd ((s6 _ _).1 ag) (awD _)
  simp[h,av]
 ·cases ag:e7 a.key b.key with
  | true=>simp[h]
  | false=>simp[h]
def oc (l:List bd) (k:Nat) :bd:=l.getD k ⟨[],[]⟩
theorem od {l:List bd} {k:Nat} {x:bd} (h:l[k]? = some x) :oc l k=x:=by
 unfold oc; rw[atE,h]; rfl
def tO (l:List bd) (k:Nat) :Bool:=gP (oc l k).key&&(decide (k=0)||eP (oc l (k - 1)) (oc l k))
def k0 (l:List bd) :Bool:=decide (∀ k,k<l.length->tO l k=true)
def jw (l:List bd) :Int:=if 60<l.length then 4 else if k0 l then 0 else 8
theorem Sw {l:List bd} (h:∀ k,k<l.length->tO l k=true) :k0 l=true:=decide_eq_true h
theorem Su {l:List bd} {k:Nat} (hk:k<l.length) (h:tO l k=false) :k0 l=false:=decide_eq_false fun aG=>by rw[aG k hk] at h; cases h
theorem Oa (k:List UInt8) :jF ⟨2#8,k,ij⟩=gP k:=by
 rw[Bm rfl];have:nm ij=true:=by decide
 simp[this]
theorem M8 {E:List U} (h:E.length=33) :bz (U.str [] ::rep 32 (.int .u8 0)) 0 E=E:=fE (by rw[h]; rfl)
theorem Yu (s:gq) (ap:mv s.l) (ak:s.l.length<=1000000) :bw Tryz.prog GS 58 [.aM [eh s]] (.int .i64 (jw s.l)) :=by
 refine bP Tryz.checked.mixed bC ?_;apply bj Tryz.func58 [];unfold jw;have bh:cP (.au 33) (eh s)=some (.int .i64 s.l.length) :=by simp[eh]
 by_cases h1:60<s.l.length
 ·have dC:(60:Int)<(s.l.length:Int) :=by omega
  simp[bh,dC];exact aP (by rw[if_pos h1]) rfl
 ·have dC:¬ (60:Int)<(s.l.length:Int) :=by omega
  simp[bh,dC];refine cF s.l.length (fun k ae l=>(∃ r,l=.cells 1 [eh s] ::r)/\ae 1=.ptr 0 0 1/\ae 10=eh s/\ae 11=.int .i64 s.l.length/\ae 12=.int .i64 k/\∀ j,j<k->tO s.l j=true) ?_ (by simp);rintro k ae l hk ⟨⟨r,rfl⟩,aL,gc,hQ,fA,al⟩;obtain⟨ae,rfl⟩:=iv aL gc hQ fA;clear aL gc hQ fA;simp;refine kk (fun h=>?_) (fun h=>?_)
  ·simp only[decide_eq_true_eq] at h;obtain⟨y,az,cO⟩:=bA (l:=s.l) (k:=k) (by omega);have cx:=nN (ap y cO);have aQ:IntKind.i64.wrap ((k:Int)+1)=((k+1:Nat) :Int) :=by rw[IntKind.wrap_i64]; omega
   have bF:1<=k->IntKind.i64.wrap ((k:Int) - 1)=((k - 1:Nat) :Int) :=fun h=>by rw[IntKind.wrap_i64]; omega
   have Cj:=IJ ⟨2#8,y.key,ij⟩;rw[Oa] at Cj;have gl:tO s.l k=(gP y.key&&(decide (k=0)||eP (oc s.l (k - 1)) y)) :=by unfold tO; rw[od az]
   have k8:=M8 cx;obtain⟨E,eB⟩:∃ E,E=aR y.id:=⟨_,rfl⟩
   have zG:c5 y=.str y.key::E:=by rw[eB]; rfl
   have tT:E.length=32:=by rw[eB]; exact cQ (ap y cO)
   have ac1:bm E=true:=by rw[eB]; exact g6 _
   rw[zG] at cx k8;simp[eh,az,zG,tT,k8,atr];refine bf Cj rfl ?_;cases aW:gP y.key with
   | false=>
    rw[aW,au8] at gl;simp[hO];exact aP (by rw[if_neg h1,Su h gl]; rfl) rfl
   | true=>
    rw[aW,auu] at gl;rcases k with _ | k
    ·simp[hO,aQ];exact⟨by omega,rfl,by rw[IntKind.wrap_i64]; omega,by rw[gl]; rfl⟩
    ·obtain⟨x,af,cX⟩:=bA (l:=s.l) (k:=k) (by omega);have bn:=nN (ap x cX);have dz:IntKind.i64.wrap (k:Int)=(k:Int) :=by rw[IntKind.wrap_i64]; omega
     have kH:(0:Int)<(k:Int)+1:=by omega
     have hR:=Ri x y (ap x cX) (ap y cO);rw[zG] at hR;simp only[avp,od af,Nat.add_eq_zero_iff,Nat.one_ne_zero,and_false,decide_false,awe] at gl;simp[hO,kH,af,bn,dz,tT,atr];refine bf hR (by simp[bm,U.closed,ac1,IL]) ?_;have xF:=IP x y;by_cases bt:kz x y<0
     ·rw[xF.1 bt] at gl;have vE:¬ (0:Int)<=kz x y:=by omega
      simp[vE,aQ];refine⟨by omega,rfl,by rw[IntKind.wrap_i64]; omega,fun j ai=>?_⟩;by_cases fQ:j=k+1
      ·rw[fQ,gl]
      ·exact al j (by omega)
     ·have vE:(0:Int)<=kz x y:=by omega
      have dq:eP x y=false:=by
       cases eA:eP x y with
       | false=>rfl
       | true=>exact absurd (xF.2 eA) bt
      rw[dq] at gl;simp[vE];exact aP (by rw[if_neg h1,Su h gl]; rfl) rfl
  ·simp[h];have jj:k=s.l.length:=by simp at h; omega
   exact aP (by rw[if_neg h1,if_pos (Sw fun j ai=>al j (by omega))]) rfl
abbrev hX (l:List (List UInt8)) (k:Nat) :List UInt8:=l.getD k []
def pC (l:List (List UInt8)) (m:Nat) :List (List UInt8) :=(List.range m).flatMap fun k=>if k=0\/hX l k≠hX l (k - 1) then [hX l k] else []
def r5 (l:List (List UInt8)) :List (List UInt8) :=pC l l.length
theorem BN (l:List (List UInt8)) (m:Nat) :pC l (m+1)=pC l m++(if m=0\/hX l m≠hX l (m - 1) then [hX l m] else []) :=by
 unfold pC; rw[auK,auR]; simp
theorem Rs (l:List (List UInt8)) :∀ m,(pC l m).length<=m
 | 0=>by simp[pC]
 | m+1=>by
  have:=Rs l m;rw[BN,atB];split<;>simp<;>omega
theorem EI {l:List (List UInt8)}:∀ {m},m<=l.length->(∀ k,1<=k->k<m->hX l k≠hX l (k - 1))->pC l m=l.take m
 | 0,_,_=>by simp[pC]
 | m+1,hm,h=>by
  rw[BN,EI (by omega) (fun k h1 ad=>h k h1 (by omega)),atJ,if_pos (by
   by_cases aE:m=0
   ·exact .inl aE
   ·exact .inr (h m (by omega) (by omega)))]
  congr 1;unfold hX;rw[atE,atu (by omega)];rfl
theorem Vp {a:List (List UInt8)} {k:Nat} (h:k<a.length) :(a.map j1)[k]? = some (j1 (hX a k)) :=by
 rw[atw];unfold hX;rw[atE,atu h];rfl
theorem UZ {a:List (List UInt8)} {k:Nat} (h:k<a.length) :hX a k∈a:=by
 unfold hX;rw[atE,atu h];exact avy h
structure YT (l:am) (v:U) (xs:List (List UInt8)) (k:Nat) (ae:a7) (l1:am) :Prop where
 b8:ae 0=v
 a8:ae 3=.int .i64 ((k+1:Nat) :Int)
 ak:l1=l
 al:∀ j,1<=j->j<k+1->hX xs j≠hX xs (j - 1)
structure YS (l:am) (v dJ:U) (j:Nat) (xs:List (List UInt8)) (m i:Nat) (ae:a7) (b5:am) :Prop where
 b8:ae 0=v
 bu:ae 4=dJ
 bc:ae 5=.int .i64 ((i+1:Nat) :Int)
 ex:∃ (k:Nat) (a6:List (List UInt8)),ae 3=.int .i64 (k:Int)/\bJ 1 b5 v j (a6.map j1)/\a6.length=xs.length/\(∀ y∈a6,y.length=y.length)/\a6.take k=pC xs (m+i+1)/\k<=m+i/\(∀ t,m+i<=t->hX a6 t=hX xs t)/\b5.length=l.length/\∀ b,b≠j->b5[b]? = l[b]?
theorem U0 {l:am} {v:U} {j:Nat} {a6:List (List UInt8)} (h:dQ 1 l v j (a6.map j1)) {k:Nat} (hk:k<a6.length) :
  ∃ p cs o,cj (.au 1) v (.int .i64 (k:Int))=some p/\eo l p=some (cs,o)/\cs[o]? = some (.str (hX a6 k)) :=by
 obtain⟨p,cs,o,h1,ad,aj,aF⟩:=h.get (k:=.i64) (Vp hk);refine⟨p,cs,o,h1,ad,?_⟩;have:=congrArg (fun l=>l[0]?) aF;simp only[avK,at6,j1] at this;simpa using this
theorem U1 {l:am} {v:U} {j m:Nat} {a6:List (List UInt8)} (h:dQ 1 l v j ((a6.map j1).drop m)) {k:Nat} (hk:m+k<a6.length) :
  ∃ p cs o,cj (.au 1) v (.int .i64 (k:Int))=some p/\eo l p=some (cs,o)/\cs[o]? = some (.str (hX a6 (m+k))) :=by
 obtain⟨p,cs,o,h1,ad,aj,aF⟩:=h.get (k:=.i64) (i:=k) (e:=j1 (hX a6 (m+k))) (by rw[at6]; exact Vp hk);refine⟨p,cs,o,h1,ad,?_⟩;have:=congrArg (fun l=>l[0]?) aF;simp only[avK,at6,j1] at this;simpa using this
theorem aaK {dT l:am} {v:U} {xs:List (List UInt8)} {fT:Bool} (h:cf 1 j1 dT l v xs fT) (af:∀ x∈xs,x.length=x.length) (aC:xs.length<=1000000) {K:U->am->Prop} (aV:∀ r l',cf 1 j1 dT l' r (r5 xs) fT->K r l') :
  c7 Tryz.prog GS 140 [v] l (c:=⟨K⟩) :=by
 apply bj Tryz.func140 [];have bh:=h.len;by_cases ad:xs.length<2
 ·have gS:(xs.length:Int)<2:=by omega
  have sm:r5 xs=xs:=by
   unfold r5;rw[EI (att _) (fun k h1 aj=>by omega),atW]
  simp[bh,gS];exact aV _ _ (by rw[sm]; exact h)
 ·have gS:¬ (xs.length:Int)<2:=by omega
  simp[bh,gS];refine cF (xs.length - 1) (YT l v xs) ?_ ⟨by simp,by simp,rfl,fun j h1 aj=>by omega⟩;rintro k ae l1 hk ⟨b8,a8,rfl,al⟩;obtain⟨ae,rfl⟩:=qu b8 a8;clear b8 a8;obtain⟨m,hm⟩:∃ m,m=k+1:=⟨_,rfl⟩
  rw[<-hm] at al ⊢;by_cases aK:m<xs.length
  ·have aQ:IntKind.i64.wrap ((m:Int) - 1)=(k:Int) :=by rw[IntKind.wrap_i64]; omega
   have bF:IntKind.i64.wrap ((m:Int)+1)=((m+1:Nat) :Int) :=by rw[IntKind.wrap_i64]; omega
   have iX:(m:Int)<(xs.length:Int) :=by omega
   obtain⟨j,ap,mi⟩:=h;obtain⟨np,ca,yu,aS,aX,a4⟩:=U0 ap.q aK;obtain⟨uG,cy,n3,dM,dy,lw⟩:=U0 ap.q (k:=k) (by omega);obtain⟨X,cT⟩:∃ X,X=hX xs m:=⟨_,rfl⟩
   obtain⟨Y,ev⟩:∃ Y,Y=hX xs k:=⟨_,rfl⟩
   rw[<-cT] at a4;rw[<-ev] at lw;by_cases ao:X=Y
   ·have qY:decide (X=Y)=true:=decide_eq_true ao;have aq:cD v=false:=by
     cases vS:cD v with
     | false=>rfl
     | true=>
      have:=i3.1 vS;subst this;have:=ap.q.uD;rw[aux] at this;rw[this] at aK; simp at aK
    obtain⟨dJ,c9,hE,_⟩:=ap.q.from aq (k:=.i64) (i:=m) (by simp; omega);have aE:pC xs m=xs.take m:=EI (by omega) al;have h1:pC xs (m+1)=xs.take m:=by rw[BN,if_neg (fun h=>h.elim (fun aE=>by omega) (fun ad=>ad (by rw[<-cT,show m - 1=k by omega,<-ev]; exact ao))),aE,atZ]
    simp[bh,iX,aQ,aS,aX,a4,dM,dy,lw,ao,c9];refine cF (xs.length - m - 1) (YS l1 v dJ j xs m) ?_ ⟨by simp,by simp,by simp,m,xs,by simp,ap,rfl,af,h1.symm,by omega,fun t _=>rfl,rfl,fun b _=>rfl⟩;rintro i ae b5 av ⟨b8,bu,bc,q,a6,a8,aZ,cx,sB,ir,vV,oV,xV,iB⟩;obtain⟨ae,rfl⟩:=iv b8 a8 bu bc;clear b8 a8 bu bc;obtain⟨c6,Kj⟩:∃ c6,c6=i+1:=⟨_,rfl⟩
    rw[<-Kj];obtain⟨alN,DQ,yI,_⟩:=aZ.q.from aq (k:=.i64) (i:=m) (by simp; omega);rw[c9] at DQ;obtain rfl:=Option.some.inj DQ;have gX:=yI.len;rw[auw,atU,cx] at gX;by_cases oP:c6<xs.length - m
    ·have tZ:(c6:Int)<((xs.length - m:Nat) :Int) :=by omega
     have bW:IntKind.i64.wrap ((c6:Int) - 1)=(i:Int) :=by rw[IntKind.wrap_i64]; omega
     have w2:IntKind.i64.wrap ((c6:Int)+1)=((c6+1:Nat) :Int) :=by rw[IntKind.wrap_i64]; omega
     have ef:IntKind.i64.wrap ((q:Int)+1)=((q+1:Nat) :Int) :=by rw[IntKind.wrap_i64]; omega
     obtain⟨Mg,eV,qe,ii,jA,mG⟩:=U1 yI (k:=c6) (by omega);obtain⟨aiq,e1,sP,ku,nB,yW⟩:=U1 yI (k:=i) (by omega);have q8:=sB _ (UZ (a:=a6) (k:=m+c6) (by omega));have ke:=sB _ (UZ (a:=a6) (k:=m+i) (by omega));have q4:=oV (m+c6) (by omega);have ug:=oV (m+i) (by omega);have bq:=BN xs (m+c6);rw[show m+c6 - 1=m+i by omega] at bq;obtain⟨l2,JU⟩:∃ X,X=hX a6 (m+c6) :=⟨_,rfl⟩
     obtain⟨w8,Ci⟩:∃ Y,Y=hX a6 (m+i) :=⟨_,rfl⟩
     rw[<-JU] at mG q8 q4;rw[<-Ci] at yW ug;rw[<-q4,<-ug] at bq;rw[show m+i+1=m+c6 by omega] at ir;by_cases oH:l2=w8
     ·have uc:decide (l2=w8)=true:=decide_eq_true oH;rw[if_neg (fun h=>h.elim (fun aE=>by omega) (fun ad=>ad oH)),atZ] at bq;simp[gX,tZ,bW,ii,jA,mG,ku,nB,yW,oH,w2];exact⟨by omega,by simp,by simp,by simp,q,a6,by simp,aZ,cx,sB,by rw[bq]; exact ir,by omega,fun t aI=>oV t (by omega),xV,iB⟩
     ·have uc:decide (l2=w8)=false:=decide_eq_false oH;rw[if_pos (.inr oH)] at bq;obtain⟨We,dU,hI,fO,z3,z4,z5⟩:=G9 (X:=.str l2) rfl aZ (fun _ _=>rfl) (k:=q) (x:=l2) (by omega) rfl;simp[gX,tZ,bW,ii,jA,mG,ku,nB,yW,oH,w2,ef,hI,fO];have Nv:(a6.take q).length=q:=by rw[atN]; omega
      have nh:(a6.set q l2).take (q+1)=a6.take q++[l2] :=by
       rw[au3,if_pos (by omega),avg,Nv,atr (by omega),show q+1 - q=1 by omega]; simp
      refine⟨by omega,by simp,by simp,by simp,q+1,a6.set q l2,by simp,z3,by simp[cx],fun y az=>?_,by rw[nh,bq,ir],by omega,fun t aI=>?_,by omega,fun b ag=>(z5 b ag).trans (iB b ag)⟩
      ·rcases auU az with h | h
       ·exact sB _ h
       ·rw[h]
      ·have:=oV t (by omega);unfold hX at this ⊢;rw[atE,atF (by omega),<-atE];exact this
    ·have tZ:¬ (c6:Int)<((xs.length - m:Nat) :Int) :=by omega
     obtain⟨v3,dU,r,hI,fO,z3,z4,z5,amJ,NV⟩:=ail (z:=1) (zr:=[.str []]) rfl aZ (k:=q) (by omega);simp[gX,tZ,hI,fO,z3];obtain⟨aL,aT,a8,bu⟩:=mi;have CB:dT.length<=j:=a8.resolve_left (fun h=>by rw[h] at aq; cases aq);have Cu:m+i+1=xs.length:=by omega
     rw[Cu] at ir;refine aV _ _ ⟨j,by unfold r5; rw[<-ir]; exact z4,by omega,fun b ag=>?_,.inr CB,by rw[z5,<-bu,aq]⟩;rw[NV b (by omega),iB b (by omega)];exact aT b ag
   ·have qY:decide (X=Y)=false:=decide_eq_false ao;simp[bh,iX,aQ,aS,aX,a4,dM,dy,lw,ao,bF];refine⟨by omega,by simp,by simp[hm],rfl,fun t h1 ad=>?_⟩;by_cases aI:t=m
    ·rw[aI,<-cT,show m - 1=k by omega,<-ev]; exact ao
    ·exact al t h1 (by omega)
  ·have iX:¬ (m:Int)<(xs.length:Int) :=by omega
   have sm:r5 xs=xs:=by
    unfold r5;rw[EI (att _) (fun k h1 aj=>al k h1 (by omega)),atW]
   simp[bh,iX];exact aV _ _ (by rw[sm]; exact h)
theorem Hn {l:am} {a b eQ bi:U} (h1:Rd l a eQ) (ad:Rd l b bi) :Rd l (.bG [a,b]) (.bG [eQ,bi]) :=by
 refine .bG _ _ rfl fun j x jz af sx=>?_
 rcases j with _ | _ | j
 ·simp at af sx; subst af sx; exact h1
 ·simp at af sx; subst af sx; exact ad
 ·simp at af
theorem WW {l:am} {a eQ:U} (h1:Rd l a eQ) :Rd l (.aM [a]) (.aM [eQ]) :=by
 refine .aM _ _ rfl fun j x jz af sx=>?_
 rcases j with _ | j
 ·simp at af sx; subst af sx; exact h1
 ·simp at af
theorem aiK {l l1:am} {v:U} {a:List (List UInt8)} {fT:Bool} (h:cf 1 j1 l l1 v a fT) (x:List UInt8) (df:a.length<=1000000000) :
  ∃ aY l',fz (l1++[.cells 1 [.str x]]) 1 16 v (.au 1 l1.length 0 1 1 1)=some (aY,l')/\cf 1 j1 l l' aY (a++[x]) false:=by
 have ax:ct=140737488355328:=rfl;obtain⟨aY,l',aL,aT,_⟩:=(h.more [.cells 1 [.str x]]).app (by_:=16) (x:=.au 1 l1.length 0 1 1 1) (xs:=[x]) (by simp[dp,j1]) (by simp[j1]) (by omega) (by omega) (by rw[ax]; simp; omega);exact⟨aY,l',aL,by simpa using aT⟩
def A1 (l:List bd) :pn:=if l=[] then none else some (r5 (l.map bd.key))
theorem ag0 (l:List bd) (k:Nat) :((l.map bd.key).take k).length<=l.length:=by simp; omega
structure YX (s:gq) (k:Nat) (ae:a7) (l:am) :Prop where
 E3:ae 14=eh s
 ox:ae 15=.int .i64 s.l.length
 mZ:ae 16=.int .i64 k
 sQ:∃ v,ae 5=v/\cf 1 j1 [.cells 1 [eh s]] l v ((s.l.map bd.key).take k) (decide (k=0))
def us (l:List bd) :pn:=if jw l=0 then A1 l else none
theorem amd (s:gq) (ap:mv s.l) (ak:s.l.length<=1000000) :bw Tryz.prog GS 90 [.aM [eh s]] (.bG [qK (us s.l),.int .i64 (jw s.l)]) :=by
 refine bP Tryz.checked.mixed bC ?_;apply bj Tryz.func90 [];unfold us;have bh:cP (.au 33) (eh s)=some (.int .i64 s.l.length) :=by simp[eh]
 have dE:=qG s;have dr:=Yu s ap ak;simp;refine bf dr (by simp[bm,U.closed,dE]) ?_;by_cases aE:jw s.l=0
 ·simp[aE,bh];refine cF s.l.length (YX s) ?_ ⟨by simp,by simp,by simp,.a1,by simp,by simpa using cf.nil⟩;rintro k ae l hk ⟨E3,ox,mZ,v,bc,en⟩;obtain⟨ae,rfl⟩:=iv bc E3 ox mZ;clear bc E3 ox mZ;simp;refine kk (fun h=>?_) (fun h=>?_)
  ·simp only[decide_eq_true_eq] at h;obtain⟨y,az,cO⟩:=bA (l:=s.l) (k:=k) (by omega);have cx:=nN (ap y cO);have aQ:IntKind.i64.wrap ((k:Int)+1)=((k+1:Nat) :Int) :=by rw[IntKind.wrap_i64]; omega
   have k8:=M8 cx;obtain⟨E,eB⟩:∃ E,E=aR y.id:=⟨_,rfl⟩
   have zG:c5 y=.str y.key::E:=by rw[eB]; rfl
   have tT:E.length=32:=by rw[eB]; exact cQ (ap y cO)
   rw[zG] at cx k8;have cI:=ag0 s.l k;obtain⟨aY,l',aS,aX⟩:=aiK (en.more [.cells 33 (.str y.key::E)]) y.key (by omega);have nh:(s.l.map bd.key).take (k+1)=(s.l.map bd.key).take k++[y.key] :=by rw[atJ,atw,az]; rfl
   simp at aS;simp[eh,az,zG,tT,k8,aS,atr];refine c0.cq ?_;simp[aQ];refine⟨by omega,by simp[eh],by simp,by simp,aY,by simp,by rw[nh]; simpa using aX⟩
  ·simp[h];have jj:k=s.l.length:=by simp at h; omega
   have aI:(s.l.map bd.key).take k=s.l.map bd.key:=atr (by simp[jj]);rw[aI] at en;refine aaK en (fun _ _=>rfl) (by simp; omega) fun r b5 ad=>?_
   simp;rw[if_pos aE,aE];refine Hn (ad.rd (fun _=>rfl) (A1 s.l) ?_ ?_) (.same _ rfl)
   ·rw[jj]; unfold A1;cases e4:s.l with
    | nil=>rfl
    | cons a r=>simp
   ·unfold A1;split
    ·rename_i ao; rw[ao]; rfl
    ·rfl
 ·simp[aE];exact aP (by simp[qK,cK]) rfl
def zI (l:List bd) (k:List UInt8) :Bool:=decide (k∈(us l).l)
theorem aaW (l:List (List UInt8)) :(r5 l).length<=l.length:=Rs l _
theorem agZ (l:List bd) :(us l).l.length<=l.length:=by
 have:=aaW (l.map bd.key);unfold us A1;split
 ·split
  ·simp
  ·simpa using this
 ·simp
theorem al7 (s:gq) (ap:mv s.l) (ak:s.l.length<=1000000) (x:List UInt8) :bw Tryz.prog GS 44 [.aM [eh s],.str x] (.bG [.bool (zI s.l x),.int .i64 (jw s.l)]) :=by
 refine bP Tryz.checked.mixed bC ?_;apply bj Tryz.func44 [];unfold zI;have dE:=qG s;have TU:=Q9 (us s.l);have cI:=agZ s.l;simp;refine bf (amd s ap ak) (by simp[bm,U.closed,dE]) ?_;simp;refine bf (amb (us s.l) (by omega) x) (by simp[bm,U.closed,TU]) ?_;simp;exact aP rfl rfl
def J0 (l:List bd) (k:List UInt8) :Bool:=decide (jw l=0)&&oD l k
def sZ (l:List bd) (m:Nat) :List (List UInt8) :=(List.range m).flatMap fun k=>if oD (l.take k) (oc l k).key then [] else [(oc l k).key]
theorem WN (l:List bd) (m:Nat) :sZ l (m+1)=sZ l m++(if oD (l.take m) (oc l m).key then [] else [(oc l m).key]) :=by
 unfold sZ; rw[auK,auR]; simp
def Mz (l:List bd) :pn:=if l=[] then none else some (sZ l l.length)
def LK (l:List bd) :pn:=if jw l=0 then Mz l else none
structure amV (s:gq) (k:Nat) (ae:a7) (l:am) :Prop where
 aL:ae 1=.ptr 0 0 1
 bc:ae 5=.int .i64 k
 sQ:∃ v,ae 4=v/\cf 1 j1 [.cells 1 [eh s]] l v (sZ s.l k) (decide (k=0))
def Gv:List lv:=.s::List.replicate 32 (.i .u8)
theorem Vn:rg Tryz.prog 20 53=some Gv:=by kernel_rfl
theorem G4 {t:bd} (h:t.id.length=32) :hB Gv (c5 t)=true:=by
 unfold Gv c5;have:=yw t.id;rw[h] at this;simp only[hB,DZ,auu];exact this
theorem OL {a b:bd} (aB:a.id.length=32) (ag:b.id.length=32) :eU (c5 a) (c5 b)=decide (a=b) :=by
 unfold c5 aR;simp only[eU,U.beq];rw[Br a.id b.id (by omega)];cases a; cases b;simp only[bd.mk.injEq];rename_i b9 c6 b0 eH;by_cases h1:b9=b0<;>by_cases ad:c6=eH<;>simp[h1,ad]
theorem ak3 {a b:bd} (aB:a.id.length=32) (ag:b.id.length=32) :gi Tryz.prog .neq 53 (.aM (c5 a)) (.aM (c5 b))=some (.bool (!decide (a=b))) :=by
 rw[Er Vn (by kernel_rfl) (by kernel_rfl) (G4 aB) (G4 ag),OL aB ag]
end Op

end Go.b2

namespace Go.b2
open Go Go.Proofs Go.Shelf Go.RowKit Go.Lib
set_option maxRecDepth 100000
set_option maxHeartbeats 4000000
theorem agn (base:Option Addr) (n c ep e0 gJ:Nat) (r:Value) (w w' : World) (aC:n<=c) (oA:n<=4611686018427387904) (hU:base=none->n=0/\c=0)
  (g7:(Builtin.append_ #[32,32] 32 #[.slice base n c,.slice (some ⟨e0,gJ,none⟩) 1 ep]).run Tryz.prog w=.ok r w') :
  Calls Tryz.prog 138 #[.slice base n c,.int .i64 n,.slice (some ⟨e0,gJ,none⟩) 1 ep] w fun e w2=>e=.returned r/\w2=w':=by
 have yQ:=Tryz.underlying32;have mixed:=Tryz.checked.mixed
 go_enter Tryz.func138,Tryz.ntmps138
 cases base with
 | none=>
  obtain⟨aE,h1⟩:=hU rfl;subst aE h1
  go_wp2_with (at_builtin; refine Lib.wpList_append_run _ rfl _ _ _ _ rfl _ _ rfl rfl _ _ g7 ?_)
  go_ret
  exact⟨rfl,rfl⟩
 | some a=>
  obtain⟨ab,Zx,ZG⟩:=a
  go_wp2_with (at_builtin; refine Lib.wpList_append_run _ rfl _ _ _ _ rfl _ _ rfl rfl _ _ g7 ?_)
  all_goals (go_ret; exact⟨rfl,rfl⟩)
theorem ags (b off n c i e0 gJ ep:Nat) (b9 b0:Value) (w iN hf:World) (yN e8:TypeId) (p9 sJ:Nat) (av:i<n) (df:n+1<=c) (oA:n<=4611686018427387904) (ni:e0≠b)
  (KW:w.shape? e0=some (yN,p9)) (x7:w.shape? b=some (e8,sJ)) (Kq:sJ≠0) (tW:w.frozen? ⟨e0,gJ,none⟩=false) (xN:w.frozen? ⟨e0,p9,none⟩=false)
  (pN:(Builtin.copy_ #[32,32] 3 #[.slice (some ⟨b,off+(i+1)*38,none⟩) (n - i) (c - (i+1)),.slice (some ⟨b,off+i*38,none⟩) (n+1 - i) (c - i)]).run Tryz.prog w.drew=.ok b9 iN)
  (pO:(Builtin.copy_ #[32,32] 3 #[.slice (some ⟨b,off+i*38,none⟩) (n+1 - i) (c - i),.slice (some ⟨e0,gJ,none⟩) 1 ep]).run Tryz.prog iN=.ok b0 hf) :
  Calls Tryz.prog 138 #[.slice (some ⟨b,off,none⟩) n c,.int .i64 i,.slice (some ⟨e0,gJ,none⟩) 1 ep] w fun e w2=>e=.returned (.slice (some ⟨b,off,none⟩) (n+1) c)/\w2=hf:=by
 have yQ:=Tryz.underlying32;have z0:∀ w,(Go.sizeOf 50).run Tryz.prog w=.ok 38 w:=fun w=>fm (by kernel_rfl)
 have mixed:=Tryz.checked.mixed;have CJ:∀ yj px,(callFunc 191 #[.slice (some ⟨e0,gJ,none⟩) 1 ep,.slice (some ⟨b,off+(i+1)*38,none⟩) yj px]).run Tryz.prog w=.ok (.value (.bool false)) w:=fun yj px=>by
  rw[run_callFunc_extern Tryz.func191 (by kernel_rfl) (by kernel_rfl) (by kernel_rfl) (e:=Extern.SlicesOverlaps.overlaps #[32,32] #[4]) (by kernel_rfl),
   Lib.run_overlaps_apart w 32 4 50 yQ 38 z0 ⟨e0,gJ,none⟩ ⟨b,off+(i+1)*38,none⟩ 1 ep yj px ni yN e8 p9 sJ KW x7 Kq tW xN]
  rfl
 have ke:¬ ((i:Int)=(n:Int)) :=by omega
 have jo:IntKind.i64.wrap ((i:Int)+1)=(i:Int)+1:=by rw[IntKind.wrap_i64]; omega
 have lO:IntKind.i64.wrap ((n:Int)+1)=(n:Int)+1:=by rw[IntKind.wrap_i64]; omega
 have fk:(0:Int)<=(i:Int)+1:=by omega
 have eG:i<=n:=by omega
 have Gj:((i:Int)+1).toNat=i+1:=by omega
 have e9:¬ (c=i+1) :=by omega
 have mc:(i:Int)<=(n:Int)+1:=by omega
 have adw:¬ (c=i) :=by omega
 have adx:¬ ((c:Int)<(n:Int)+1) :=by omega
 go_enter Tryz.func138,Tryz.ntmps138
 go_wp2_with (simp only[CJ])
 go_region_law_o (refine step_copy_runI rfl _ _ 32 32 rfl _ _ (by simp[Act.eval,Act.put]) (by simp[Act.eval,Act.put]) pN ?_)
 go_wp2_with (at_builtin; refine wpList_copy_runI _ rfl _ _ 32 32 rfl _ _ rfl rfl pO ?_)
 go_ret
 exact⟨rfl,rfl⟩
theorem agp (b off n c i e0 gJ ep N G:Nat) (b9 b0:Value) (w u2 iN hf:World) (av:i<n) (F1:n<=c) (df:c<n+1) (j3:n+1<=G) (oA:n<=4611686018427387904)
  (pK:(Builtin.append_ #[32,3] 32 #[.slice (some ⟨b,off,none⟩) i c,.int .i64 ((n:Int)+1 - (i:Int))]).run Tryz.prog w=.ok (.slice (some ⟨N,0,none⟩) (n+1) G) u2)
  (pN:(Builtin.copy_ #[32,32] 3 #[.slice (some ⟨N,i*38,none⟩) (n+1 - i) (G - i),.slice (some ⟨e0,gJ,none⟩) 1 ep]).run Tryz.prog u2=.ok b9 iN)
  (pO:(Builtin.copy_ #[32,32] 3 #[.slice (some ⟨N,(i+1)*38,none⟩) (n - i) (G - (i+1)),.slice (some ⟨b,off+i*38,none⟩) (n - i) (c - i)]).run Tryz.prog iN.drew=.ok b0 hf) :
  Calls Tryz.prog 138 #[.slice (some ⟨b,off,none⟩) n c,.int .i64 i,.slice (some ⟨e0,gJ,none⟩) 1 ep] w fun e w2=>e=.returned (.slice (some ⟨N,0,none⟩) (n+1) G)/\w2=hf:=by
 have yQ:=Tryz.underlying32;have z0:∀ w,(Go.sizeOf 50).run Tryz.prog w=.ok 38 w:=fun w=>fm (by kernel_rfl)
 have mixed:=Tryz.checked.mixed;have ke:¬ ((i:Int)=(n:Int)) :=by omega
 have jo:IntKind.i64.wrap ((i:Int)+1)=(i:Int)+1:=by rw[IntKind.wrap_i64]; omega
 have lO:IntKind.i64.wrap ((n:Int)+1)=(n:Int)+1:=by rw[IntKind.wrap_i64]; omega
 have afT:IntKind.i64.wrap ((n:Int)+1 - (i:Int))=(n:Int)+1 - (i:Int) :=by rw[IntKind.wrap_i64]; omega
 have fk:(0:Int)<=(i:Int)+1:=by omega
 have eG:i<=n:=by omega
 have Gj:((i:Int)+1).toNat=i+1:=by omega
 have ac2:¬ (G=i) :=by omega
 have ac3:¬ (G=i+1) :=by omega
 have eN:¬ (c=i) :=by omega
 have Lf:(c:Int)<(n:Int)+1:=by omega
 have mc:(i:Int)<=(n:Int) :=by omega
 have ady:(i:Int)<=(c:Int) :=by omega
 go_enter Tryz.func138,Tryz.ntmps138
 go_wp2_with (first
  | (at_builtin; refine Lib.wpList_append_run _ rfl _ _ _ _ rfl _ _ rfl rfl _ _ pK ?_)
  | (at_builtin; refine wpList_copy_runI _ rfl _ _ 32 32 rfl _ _ rfl rfl pN ?_))
 go_region_law_o (refine step_copy_runI rfl _ _ 32 32 rfl _ _ (by simp[Act.eval,Act.put]) (by simp[Act.eval,Act.put]) pO ?_)
 go_wp2
 go_ret
 exact⟨rfl,rfl⟩
theorem Lt:Bd Tryz.prog 138 32 3 50 38:=
 ⟨Tryz.underlying32,Tryz.underlying3,agn,ags,agp⟩
theorem age {G:Nat->U} (args:List U) (h:aN) (r:U) (h' : aN) (af:sG 38 96 args h=some (r,h')) :rP Tryz.prog G 138 args h r h':=
 UR Lt (by kernel_rfl) (by kernel_rfl) (by kernel_rfl) (by omega) (by omega) (by kernel_rfl) args h r h' af
theorem ago (base:Option Addr) (n c ep e0 gJ:Nat) (r:Value) (w w' : World) (aC:n<=c) (oA:n<=4611686018427387904) (hU:base=none->n=0/\c=0)
  (g7:(Builtin.append_ #[29,29] 29 #[.slice base n c,.slice (some ⟨e0,gJ,none⟩) 1 ep]).run Tryz.prog w=.ok r w') :
  Calls Tryz.prog 152 #[.slice base n c,.int .i64 n,.slice (some ⟨e0,gJ,none⟩) 1 ep] w fun e w2=>e=.returned r/\w2=w':=by
 have yQ:=Tryz.underlying29;have mixed:=Tryz.checked.mixed
 go_enter Tryz.func152,Tryz.ntmps152
 cases base with
 | none=>
  obtain⟨aE,h1⟩:=hU rfl;subst aE h1
  go_wp2_with (at_builtin; refine Lib.wpList_append_run _ rfl _ _ _ _ rfl _ _ rfl rfl _ _ g7 ?_)
  go_ret
  exact⟨rfl,rfl⟩
 | some a=>
  obtain⟨ab,Zx,ZG⟩:=a
  go_wp2_with (at_builtin; refine Lib.wpList_append_run _ rfl _ _ _ _ rfl _ _ rfl rfl _ _ g7 ?_)
  all_goals (go_ret; exact⟨rfl,rfl⟩)
theorem agt (b off n c i e0 gJ ep:Nat) (b9 b0:Value) (w iN hf:World) (yN e8:TypeId) (p9 sJ:Nat) (av:i<n) (df:n+1<=c) (oA:n<=4611686018427387904) (ni:e0≠b)
  (KW:w.shape? e0=some (yN,p9)) (x7:w.shape? b=some (e8,sJ)) (Kq:sJ≠0) (tW:w.frozen? ⟨e0,gJ,none⟩=false) (xN:w.frozen? ⟨e0,p9,none⟩=false)
  (pN:(Builtin.copy_ #[29,29] 3 #[.slice (some ⟨b,off+(i+1)*33,none⟩) (n - i) (c - (i+1)),.slice (some ⟨b,off+i*33,none⟩) (n+1 - i) (c - i)]).run Tryz.prog w.drew=.ok b9 iN)
  (pO:(Builtin.copy_ #[29,29] 3 #[.slice (some ⟨b,off+i*33,none⟩) (n+1 - i) (c - i),.slice (some ⟨e0,gJ,none⟩) 1 ep]).run Tryz.prog iN=.ok b0 hf) :
  Calls Tryz.prog 152 #[.slice (some ⟨b,off,none⟩) n c,.int .i64 i,.slice (some ⟨e0,gJ,none⟩) 1 ep] w fun e w2=>e=.returned (.slice (some ⟨b,off,none⟩) (n+1) c)/\w2=hf:=by
 have yQ:=Tryz.underlying29;have z0:∀ w,(Go.sizeOf 53).run Tryz.prog w=.ok 33 w:=fun w=>fm (by kernel_rfl)
 have mixed:=Tryz.checked.mixed;have CJ:∀ yj px,(callFunc 207 #[.slice (some ⟨e0,gJ,none⟩) 1 ep,.slice (some ⟨b,off+(i+1)*33,none⟩) yj px]).run Tryz.prog w=.ok (.value (.bool false)) w:=fun yj px=>by
  rw[run_callFunc_extern Tryz.func207 (by kernel_rfl) (by kernel_rfl) (by kernel_rfl) (e:=Extern.SlicesOverlaps.overlaps #[29,29] #[4]) (by kernel_rfl),
   Lib.run_overlaps_apart w 29 4 53 yQ 33 z0 ⟨e0,gJ,none⟩ ⟨b,off+(i+1)*33,none⟩ 1 ep yj px ni yN e8 p9 sJ KW x7 Kq tW xN]
  rfl
 have ke:¬ ((i:Int)=(n:Int)) :=by omega
 have jo:IntKind.i64.wrap ((i:Int)+1)=(i:Int)+1:=by rw[IntKind.wrap_i64]; omega
 have lO:IntKind.i64.wrap ((n:Int)+1)=(n:Int)+1:=by rw[IntKind.wrap_i64]; omega
 have fk:(0:Int)<=(i:Int)+1:=by omega
 have eG:i<=n:=by omega
 have Gj:((i:Int)+1).toNat=i+1:=by omega
 have e9:¬ (c=i+1) :=by omega
 have mc:(i:Int)<=(n:Int)+1:=by omega
 have adw:¬ (c=i) :=by omega
 have adx:¬ ((c:Int)<(n:Int)+1) :=by omega
 go_enter Tryz.func152,Tryz.ntmps152
 go_wp2_with (simp only[CJ])
 go_region_law_o (refine step_copy_runI rfl _ _ 29 29 rfl _ _ (by simp[Act.eval,Act.put]) (by simp[Act.eval,Act.put]) pN ?_)
 go_wp2_with (at_builtin; refine wpList_copy_runI _ rfl _ _ 29 29 rfl _ _ rfl rfl pO ?_)
 go_ret
 exact⟨rfl,rfl⟩
theorem agq (b off n c i e0 gJ ep N G:Nat) (b9 b0:Value) (w u2 iN hf:World) (av:i<n) (F1:n<=c) (df:c<n+1) (j3:n+1<=G) (oA:n<=4611686018427387904)
  (pK:(Builtin.append_ #[29,3] 29 #[.slice (some ⟨b,off,none⟩) i c,.int .i64 ((n:Int)+1 - (i:Int))]).run Tryz.prog w=.ok (.slice (some ⟨N,0,none⟩) (n+1) G) u2)
  (pN:(Builtin.copy_ #[29,29] 3 #[.slice (some ⟨N,i*33,none⟩) (n+1 - i) (G - i),.slice (some ⟨e0,gJ,none⟩) 1 ep]).run Tryz.prog u2=.ok b9 iN)
  (pO:(Builtin.copy_ #[29,29] 3 #[.slice (some ⟨N,(i+1)*33,none⟩) (n - i) (G - (i+1)),.slice (some ⟨b,off+i*33,none⟩) (n - i) (c - i)]).run Tryz.prog iN.drew=.ok b0 hf) :
  Calls Tryz.prog 152 #[.slice (some ⟨b,off,none⟩) n c,.int .i64 i,.slice (some ⟨e0,gJ,none⟩) 1 ep] w fun e w2=>e=.returned (.slice (some ⟨N,0,none⟩) (n+1) G)/\w2=hf:=by
 have yQ:=Tryz.underlying29;have z0:∀ w,(Go.sizeOf 53).run Tryz.prog w=.ok 33 w:=fun w=>fm (by kernel_rfl)
 have mixed:=Tryz.checked.mixed;have ke:¬ ((i:Int)=(n:Int)) :=by omega
 have jo:IntKind.i64.wrap ((i:Int)+1)=(i:Int)+1:=by rw[IntKind.wrap_i64]; omega
 have lO:IntKind.i64.wrap ((n:Int)+1)=(n:Int)+1:=by rw[IntKind.wrap_i64]; omega
 have afT:IntKind.i64.wrap ((n:Int)+1 - (i:Int))=(n:Int)+1 - (i:Int) :=by rw[IntKind.wrap_i64]; omega
 have fk:(0:Int)<=(i:Int)+1:=by omega
 have eG:i<=n:=by omega
 have Gj:((i:Int)+1).toNat=i+1:=by omega
 have ac2:¬ (G=i) :=by omega
 have ac3:¬ (G=i+1) :=by omega
 have eN:¬ (c=i) :=by omega
 have Lf:(c:Int)<(n:Int)+1:=by omega
 have mc:(i:Int)<=(n:Int) :=by omega
 have ady:(i:Int)<=(c:Int) :=by omega
 go_enter Tryz.func152,Tryz.ntmps152
 go_wp2_with (first
  | (at_builtin; refine Lib.wpList_append_run _ rfl _ _ _ _ rfl _ _ rfl rfl _ _ pK ?_)
  | (at_builtin; refine wpList_copy_runI _ rfl _ _ 29 29 rfl _ _ rfl rfl pN ?_))
 go_region_law_o (refine step_copy_runI rfl _ _ 29 29 rfl _ _ (by simp[Act.eval,Act.put]) (by simp[Act.eval,Act.put]) pO ?_)
 go_wp2
 go_ret
 exact⟨rfl,rfl⟩
theorem agi:Bd Tryz.prog 152 29 3 53 33:=
 ⟨Tryz.underlying29,Tryz.underlying3,ago,agt,agq⟩
theorem agf {G:Nat->U} (args:List U) (h:aN) (r:U) (h' : aN) (af:sG 33 48 args h=some (r,h')) :rP Tryz.prog G 152 args h r h':=
 UR agi (by kernel_rfl) (by kernel_rfl) (by kernel_rfl) (by omega) (by omega) (by kernel_rfl) args h r h' af
def Ls (f:FuncId) :Option (Nat × Nat) :=match Nat.beq f 138 with | true=>some (38,96) | false=>match Nat.beq f 152 with | true=>some (33,48) | false=>none
theorem agd (f:FuncId) (z by_:Nat) (h:Ls f=some (z,by_)) (args:List U) (ay:aN) (r:U) (fR:aN) (af:sG z by_ args ay=some (r,fR)) :rP Tryz.prog GS f args ay r fR:=by
 unfold Ls at h;split at h
 ·rename_i ag;have aD:=auj ag;subst aD;cases h;exact age args ay r fR af
 split at h
 ·rename_i ag;have aD:=auj ag;subst aD;cases h;exact agf args ay r fR af
 cases h
instance ap1:qz Tryz.prog GS:=⟨Ls,agd⟩
end Go.b2

namespace Go.b2
open Go Go.Proofs
set_option maxRecDepth 100000
namespace Op
open gh
theorem aaH (a b:List UInt8) :pB a b=0<->a=b:=by
 unfold pB;cases h:e7 a b with
 | true=>
  have h1:=(s6 _ _).1 h;simp;rintro rfl;exact absurd h1 (awD _)
 | false=>
  by_cases ad:a=b<;>simp[ad]
def nJ (l:List bd) (x:bd) :Nat:=(l.takeWhile fun t=>eP t x).length
theorem IV (x:bd) :∀ {l:List bd} {p:Nat},p<=l.length->(∀ (t:Nat) (y:bd),t<p->l[t]? = some y->eP y x=true)->(∀ y,l[p]? = some y->eP y x=false)->nJ l x=p
 | [],p,ay,_,_=>by simp at ay; subst ay; rfl
 | y::l,0,_,_,ad=>by
  have:=ad y (by simp);unfold nJ;rw[au1,this]; rfl
 | y::l,p+1,ay,h1,ad=>by
  have az:=h1 0 y (by omega) (by simp);have aH:=IV x (l:=l) (p:=p) (by simpa using ay) (fun t z aI aw=>h1 (t+1) z (by omega) (by simpa using aw)) (fun z aw=>ad z (by simpa using aw));unfold nJ at aH ⊢;rw[au1,az];simpa using aH
def E1 (l:List bd) (x:bd) :Bool:=decide (nJ l x<l.length)&&decide (oc l (nJ l x)=x)
def ahH (l:List bd) (x:bd) :Prop:=∀ (i j:Nat) (a b:bd),i<=j->l[i]? = some a->l[j]? = some b->eP b x=true->eP a x=true
theorem akh (n:Nat) (h:n<9223372036854775808) :cm .shr .u64 (n:Int) .u64 1=some (.int .u64 ((n / 2:Nat) :Int)) :=by
 have:=tz (BitVec.ofNat 64 n) .u64 1;have aJ:(u (BitVec.ofNat 64 n) :Int)=n:=by unfold u; rw[atK,atD (by omega)]
 have aq:(u (BitVec.ofNat 64 n >>> 1) :Int)=((n / 2:Nat) :Int) :=by
  unfold u; rw[auf,atK,atD (by omega),atR]
 rw[aJ,aq] at this;exact this
structure amN (s:gq) (X:List U) (x:bd) (m:Nat) (ae:a7) (l:am) :Prop where
 ex:∃ (i j:Nat),j - i=m/\i<=j/\j<=s.l.length/\l=[.cells 33 X]/\ae 0=eh s/\ae 2=.fn 86 [] []/\ae 4=.ptr 0 0 33/\ae 8=.int .i64 s.l.length/\ae 9=.int .i64 i/\ae 10=.int .i64 j ∧
  (∀ (t:Nat) (y:bd),t<i->s.l[t]? = some y->eP y x=true)/\(∀ (t:Nat) (y:bd),j<=t->s.l[t]? = some y->eP y x=false)
def oZ (l:List bd) (i:Nat) (x:bd) :List bd:=l.take i++x::l.drop i
theorem aga (l:List bd) (i:Nat) (x:bd) :(oZ l i x).length=l.length+1:=by
 unfold oZ; simp; omega
theorem agc {l:List bd} {i:Nat} {x:bd} (h:mv l) (af:x.id.length=32) :mv (oZ l i x) :=by
 intro t aI;unfold oZ at aI;rcases atQ.1 aI with h1 | h1
 ·exact h t (at0 h1)
 ·rcases aub.1 h1 with ad | ad
  ·rw[ad]; exact af
  ·exact h t (avc ad)
structure w0 (j:Nat) (l l' : am) :Prop where
 le:l.length<=l'.length
 same:∀ b,b<l.length->b≠j->l'[b]? = l[b]?
theorem w0.refl (j:Nat) (l:am) :w0 j l l:=⟨att _,fun _ _ _=>rfl⟩
theorem w0.trans {j:Nat} {a b c:am} (h1:w0 j a b) (ad:w0 j b c) :w0 j a c:=⟨by have:=h1.le; have:=ad.le; omega,fun x af ai=>by rw[ad.same x (by have:=h1.le; omega) ai]; exact h1.same x af ai⟩
structure amU (dT:am) (v:U) (g:FuncId) (cap:List U) (xs:List bd) (p:bd->Bool) (k:Nat) (ae:a7) (l:am) :Prop where
 b8:ae 0=v
 aL:ae 1=.fn g [] cap
 ei:ae 7=.int .i64 xs.length
 eu:ae 8=.int .i64 k
 al:∀ (j:Nat) (z:bd),j<k->xs[j]? = some z->p z=false
 le:dT.length<=l.length
 same:∀ b,b<dT.length->l[b]? = dT[b]?
structure amO (dT:am) (v:U) (g:FuncId) (cap:List U) (j:Nat) (xs:List bd) (p:bd->Bool) (k:Nat) (ae:a7) (l:am) :Prop where
 b8:ae 0=v
 aL:ae 1=.fn g [] cap
 ch:ae 6=.int .i64 k
 ao1:w0 j dT l
 ex:∃ (q:Nat) (a6:List bd),ae 5=.int .i64 (q:Int)/\bJ 33 l v j (a6.map c5)/\a6.length=xs.length/\mv a6/\a6.take q=(xs.take k).filter (fun t=>!p t)/\q<k/\∀ t,k<=t->a6[t]? = xs[t]?
theorem AP {a b c:List UInt8} (h1:e7 a b=true) (ad:e7 b c=true) :e7 a c=true:=
 (s6 _ _).2 (List.lt_trans ((s6 _ _).1 h1) ((s6 _ _).1 ad))
theorem ql (a:List UInt8) :e7 a a=false:=by
 cases h:e7 a a with
 | false=>rfl
 | true=>exact absurd ((s6 _ _).1 h) (awD _)
theorem rm {a b c:bd} (h1:eP a b=true) (ad:eP b c=true) :eP a c=true:=by
 unfold eP at *
 by_cases aQ:a.key=b.key
 ·rw[if_pos aQ] at h1;by_cases bF:b.key=c.key
  ·rw[if_pos bF] at ad;rw[if_pos (aQ.trans bF)];simp only[decide_eq_true_eq] at *
   exact xc _ _ _ h1 ad
  ·rw[if_neg bF] at ad;rw[if_neg (fun h=>bF (aQ.symm.trans h)),aQ]; exact ad
 ·rw[if_neg aQ] at h1;by_cases bF:b.key=c.key
  ·rw[if_neg (fun h=>aQ (h.trans bF.symm)),<-bF]; exact h1
  ·rw[if_neg bF] at ad;have:=AP h1 ad;rw[if_neg (fun h=>by rw[h,ql] at this; cases this)]; exact this
theorem yn (a:bd) :eP a a=false:=by
 unfold eP;rw[if_pos rfl,qH]; rfl
theorem yo {a b:bd} (h1:eP a b=false) (ad:a≠b) :eP b a=true:=by
 unfold eP at *
 by_cases aQ:a.key=b.key
 ·rw[if_pos aQ] at h1;rw[if_pos aQ.symm];have aj:=xb a.id b.id;have aF:=IM a.id b.id;simp only[decide_eq_false_iff_not,decide_eq_true_eq] at *
  have aW:cl a.id b.id≠0:=fun h=>ad (by
   have:=zk h;cases a; cases b; simp_all)
  omega
 ·rw[if_neg aQ] at h1;rw[if_neg (fun h=>aQ h.symm)];rw[s6];have aj:¬ a.key<b.key:=fun h=>by rw[(s6 _ _).2 h] at h1; cases h1
  by_cases h:b.key<a.key
  ·exact h
  ·exact absurd (awv (awB.1 h) (awB.1 aj)) aQ
theorem acw {l:List bd} (h:jw l=0) :l.length<=60/\k0 l=true:=by
 unfold jw at h;split at h
 ·cases h
 ·split at h
  ·rename_i h1 ad; exact⟨by omega,ad⟩
  ·cases h
theorem Js {l:List bd} (h:k0 l=true) {i:Nat} {a b:bd} (aB:l[i]? = some a) (ag:l[i+1]? = some b) :eP a b=true:=by
 have h1:=(of_decide_eq_true h) (i+1) (atq.1 ag).1;unfold tO at h1;rw[avp,od aB,od ag,atv] at h1;simpa using h1.2
theorem Cb {l:List bd} (h:k0 l=true) :∀ {d i:Nat} {a b:bd},l[i]? = some a->l[i+d+1]? = some b->eP a b=true
 | 0,i,a,b,aB,ag=>Js h aB ag
 | d+1,i,a,b,aB,ag=>by
  obtain⟨c,ah,_⟩:=bA (l:=l) (k:=i+d+1) (by have:=(atq.1 ag).1; omega);exact rm (Cb h aB ah) (Js h ah ag)
theorem acz {l:List bd} (h:k0 l=true) (x:bd) :ahH l x:=by
 intro i j a b ho aB ag aK;by_cases ao:i=j
 ·subst ao; rw[aB] at ag; cases ag; exact aK
 ·exact rm (Cb h (d:=j - i - 1) aB (by rw[show i+(j - i - 1)+1=j by omega]; exact ag)) aK
def Oe (s:gq) (x:bd) :gq × Int:=if E1 s.l x then (none,14) else if s.l.length=60 then (none,18) else (some (oZ s.l (nJ s.l x) x),0)
def s8 (o:bp) (b:fq) (t:bd) :Bool:=decide (t.key=o.act.key)&&decide (t.id∈b.l)
def XQ (f:List bd->List bd) (s:gq) :gq:=match s with | none=>none | some l=>some (f l)
def rX (s:gq) (o:bp) (b:fq) :gq × Int:=
 if jw s.l=0 then (if fY o=0 then (if 60<b.l.length then (none,4) else
  (if o.act.kind=2#8 then Oe s ⟨o.act.key,jQ o⟩ else if o.act.kind=3#8 then (XQ (fun l=>l.filter fun t=>!s8 o b t) s,0) else (s,0))) else (none,8)) else (none,jw s.l)
theorem abg (o:bp) :((u o.act.kind:Int)=2)<->o.act.kind=2#8:=rH o.act.kind 2#8
theorem abh (o:bp) :((u o.act.kind:Int)=3)<->o.act.kind=3#8:=rH o.act.kind 3#8
def o6 (l:List bd) (x:bd) :Nat->Nat
 | 0=>0
 | i+1=>if eP x (oc l i) then o6 l x i else i+1
theorem He (l:List bd) (x:bd) :∀ i,o6 l x i<=i
 | 0=>att _
 | i+1=>by
  unfold o6;split
  ·have:=He l x i; omega
  ·exact att _
def aiQ (l:List bd) (x:bd) :List bd:=oZ l (o6 l x l.length) x
structure amZ (l:am) (a:List bd) (x:bd) (m:Nat) (ae:a7) (l1:am) :Prop where
 ex:∃ (i:Nat) (v:U),i=m/\i<=a.length/\ae 5=v/\ae 6=.int .i64 (i:Int)/\cf 33 c5 l l1 v (oZ a i x) false/\o6 a x i=o6 a x a.length
def Vi (o:bp) (b:fq) (t:bd) :Bool:=decide (¬ o.act.kind=3#8)||(decide (¬ t.key=o.act.key)||!decide (t.id∈b.l))
def HF (l:List bd) :gq:=match l with | []=>none | a::r=>some (a::r)
theorem Nk (l:List bd) :(HF l).l=l:=by cases l<;>rfl
theorem ak0 (l:List bd) :(HF l).isNone=l.isEmpty:=by cases l<;>rfl
structure amM (s:gq) (x:bd) (L:am) (k:Nat) (ae:a7) (l:am) :Prop where
 ak:l=L
 a8:ae 3=.ptr 0 0 1
 ch:ae 6=.ptr 2 0 1
 eu:ae 8=.ptr 3 0 33
 hn:ae 9=.int .i64 k
 al:∀ (j:Nat) (t:bd),j<k->s.l[j]? = some t->t≠x
structure Zf (s:gq) (o:bp) (b:fq) (k:Nat) (l:am) :Prop where
 ex:∃ v j,l[3]? = some (.cells 1 [v])/\bJ 33 l v j (((s.l.take k).filter (Vi o b)).map c5)/\(v=.a1\/4<=j)/\cD v=((s.l.take k).filter (Vi o b)).isEmpty
 len:4<=l.length
 fU:l[0]? = some (.cells 1 [eh s])
 np:l[1]? = some (.cells 11 (bl o))
 uG:l[2]? = some (.cells 1 [.a1])
structure am3 (s:gq) (o:bp) (b:fq) (k:Nat) (ae:a7) (l:am) :Prop where
 aT:ae 2=aU b
 a8:ae 3=.ptr 0 0 1
 bu:ae 4=.ptr 1 0 11
 ch:ae 6=.ptr 2 0 1
 gc:ae 10=.ptr 3 0 1
 hQ:ae 11=.int .i64 k
 h:Zf s o b k l
theorem Mq (l:List bd) (x:bd) :∀ (n i:Nat),o6 l x n<=i->i<n->eP x (oc l i)=true
 | 0,i,_,h=>by omega
 | n+1,i,h1,ad=>by
  unfold o6 at h1;split at h1
  ·rename_i h;by_cases av:i=n
   ·rw[av]; exact h
   ·exact Mq l x n i h1 (by omega)
  ·omega
theorem Wq (l:List bd) (x:bd) :∀ (n i:Nat),o6 l x n=i+1->eP x (oc l i)=false
 | 0,i,h=>by cases h
 | n+1,i,h1=>by
  unfold o6 at h1;split at h1
  ·exact Wq l x n i h1
  ·rename_i h;obtain rfl:n=i:=by omega
   exact avb.2 h
theorem aiz {l:List bd} {x:bd} (ar:k0 l=true) (af:x∉l) :o6 l x l.length=nJ l x:=by
 refine (IV x (He l x l.length) (fun t y aI az=>?_) (fun y az=>?_)).symm
 ·obtain⟨i,av⟩:∃ i,o6 l x l.length=i+1:=⟨o6 l x l.length - 1,by omega⟩
  have dO:=He l x l.length;obtain⟨z,aw,sD⟩:=bA (l:=l) (k:=i) (by omega);have h1:=Wq l x l.length i av;rw[od aw] at h1;have ad:=yo h1 (fun h=>af (by rw[h]; exact sD));exact acz ar x t i y z (by omega) az aw ad
 ·have aK:=(atq.1 az).1;have h1:=Mq l x l.length _ (att _) aK;rw[od az] at h1;cases ad:eP y x with
  | false=>rfl
  | true=>have:=rm h1 ad; rw[yn] at this; cases this
theorem ab8 {l:List bd} {x:bd} (ar:k0 l=true) :E1 l x=true<->x∈l:=by
 unfold E1;rw[atv,decide_eq_true_eq,decide_eq_true_eq];constructor
 ·rintro⟨h1,ad⟩;obtain⟨z,aw,sD⟩:=bA (l:=l) (k:=nJ l x) h1;rw[od aw] at ad;rw[<-ad]; exact sD
 ·intro hm;obtain⟨j,ai⟩:=atx.1 hm;have aK:=(atq.1 ai).1;have ah:=IV x (l:=l) (p:=j) (by omega) (fun t y aI az=>Cb ar (d:=j - t - 1) az (by rw[show t+(j - t - 1)+1=j by omega]; exact ai)) (fun y az=>by
   rw[ai] at az; obtain rfl:=Option.some.inj az; exact yn _)
  rw[ah];exact⟨aK,od ai⟩
theorem Vk {a b:bd} (h:eP a b=true) :a.key=b.key\/e7 a.key b.key=true:=by
 unfold eP at h;by_cases e:a.key=b.key
 ·exact .inl e
 ·rw[if_neg e] at h; exact .inr h
theorem agY {l:List bd} (ar:k0 l=true) {k:Nat} {y:bd} (az:l[k]? = some y) :oD (l.take k) y.key=true<->∃ x,1<=k/\l[k - 1]? = some x/\x.key=y.key:=by
 constructor
 ·intro h;unfold oD at h;rw[decide_eq_true_eq] at h;obtain⟨z,aw,CZ⟩:=atV.1 h;obtain⟨i,av⟩:=atx.1 aw;have du:=(atq.1 av).1;rw[atN] at du;rw[atP (by omega)] at av;have vM:1<=k:=by omega
  have cI:=(atq.1 az).1;obtain⟨x,af,_⟩:=bA (l:=l) (k:=k - 1) (by omega);refine⟨x,vM,af,?_⟩;have h1:=Vk (Js ar af (by rw[show k - 1+1=k by omega]; exact az));rcases h1 with h1 | h1
  ·exact h1
  ·exfalso;by_cases kE:i=k - 1
   ·rw[kE,af] at av; obtain rfl:=Option.some.inj av;rw[CZ,ql] at h1; cases h1
   ·have ad:=Vk (Cb ar (d:=k - 1 - i - 1) av (by rw[show i+(k - 1 - i - 1)+1=k - 1 by omega]; exact af));rcases ad with ad | ad
    ·rw[<-ad,CZ,ql] at h1; cases h1
    ·have:=AP ad h1;rw[CZ,ql] at this; cases this
 ·rintro⟨x,vM,af,Ai⟩;exact S8 (atx.2 ⟨k - 1,by rw[atP (by omega)]; exact af⟩) Ai
theorem LD {l:List bd} {k:Nat} {y:bd} (az:l[k]? = some y) :hX (l.map bd.key) k=y.key:=by
 unfold hX; rw[atE,atw,az]; rfl
theorem Vl {l:List bd} (ar:k0 l=true) :∀ m,m<=l.length->pC (l.map bd.key) m=sZ l m
 | 0,_=>rfl
 | m+1,h=>by
  obtain⟨y,az,_⟩:=bA (l:=l) (k:=m) (by omega);rw[BN,WN,Vl ar m (by omega),LD az,od az];congr 1;have aC:=agY ar az;by_cases aG:oD (l.take m) y.key=true
  ·rw[if_pos aG];obtain⟨x,vM,af,Ai⟩:=aC.1 aG;rw[if_neg];rintro (aE | aE)
   ·omega
   ·exact aE (by rw[LD af,Ai])
  ·rw[if_neg aG,if_pos];by_cases aE:m=0
   ·exact .inl aE
   ·right;intro ao;obtain⟨x,af,_⟩:=bA (l:=l) (k:=m - 1) (by omega);rw[LD af] at ao;exact aG (aC.2 ⟨x,by omega,af,ao.symm⟩)
theorem ag1 (l:List bd) :(us l).l=(LK l).l:=by
 unfold us LK;by_cases aE:jw l=0
 ·rw[if_pos aE,if_pos aE];have ar:=(acw aE).2;unfold A1 Mz;by_cases ak:l=[]
  ·rw[if_pos ak,if_pos ak]
  ·rw[if_neg ak,if_neg ak];show r5 (l.map bd.key)=sZ l l.length;unfold r5;rw[atU];exact Vl ar l.length (att _)
 ·rw[if_neg aE,if_neg aE]
theorem VL {l:List bd} {k:List UInt8}:∀ m,m<=l.length->(k∈sZ l m<->k∈(l.take m).map bd.key)
 | 0,_=>by simp[sZ]
 | m+1,h=>by
  obtain⟨y,az,_⟩:=bA (l:=l) (k:=m) (by omega);rw[WN,atQ,VL m (by omega),od az,atJ,az,atX,atQ];by_cases aG:oD (l.take m) y.key=true
  ·rw[if_pos aG];unfold oD at aG;rw[decide_eq_true_eq] at aG;simp;rintro rfl;simpa using aG
  ·rw[if_neg aG];simp
theorem adt (l:List bd) (k:List UInt8) :zI l k=J0 l k:=by
 unfold zI J0;rw[ag1];unfold LK;by_cases aE:jw l=0
 ·rw[if_pos aE,decide_eq_true aE,auu];unfold Mz oD;by_cases ak:l=[]
  ·rw[if_pos ak,ak]; simp
  ·rw[if_neg ak];have:=VL (l:=l) (k:=k) l.length (att _);rw[atW] at this;show decide (k∈sZ l l.length)=_;simp only[this]
 ·rw[if_neg aE,decide_eq_false aE]; simp
end Op

end Go.b2

namespace Go.b2
open Go Go.Proofs Go.RowKit
set_option maxRecDepth 100000
namespace Op
open gh
theorem Ca (l:List bd) :k0 l=true<->(∀ t∈l,gP t.key=true)/\l.Pairwise fun a b=>eP a b=true:=by
 constructor
 ·intro h;refine⟨fun t aI=>?_,aui.2 fun i j av ai ho=>?_⟩
  ·obtain⟨k,hk⟩:=atx.1 aI;have h1:=(of_decide_eq_true h) k (atq.1 hk).1;unfold tO at h1;rw[od hk,atv] at h1;exact h1.1
  ·exact Cb h (d:=j - i - 1) (atu av) (by rw[show i+(j - i - 1)+1=j by omega]; exact atu ai)
 ·rintro⟨h1,ad⟩;refine Sw fun k hk=>?_
  unfold tO;have az:=atu hk;rw[od az,h1 _ (avy hk),auu];by_cases xP:k=0
  ·simp[xP]
  ·have af:=atu (l:=l) (i:=k - 1) (by omega);rw[od af,(aui.1 ad) (k - 1) k (by omega) hk (by omega)]; simp
theorem acy {l:List bd} {x:bd} (ar:k0 l=true) (af:x∉l) (hk:gP x.key=true) :k0 (oZ l (nJ l x) x)=true:=by
 obtain⟨h1,ad⟩:=(Ca l).1 ar;have ay:=aiz ar af;have dO:=He l x l.length;refine (Ca _).2 ⟨fun t aI=>?_,?_⟩
 ·unfold oZ at aI;rcases atQ.1 aI with h | h
  ·exact h1 t (at0 h)
  ·rcases aub.1 h with h | h
   ·rw[h]; exact hk
   ·exact h1 t (avc h)
 ·have ew:∀ a∈l.take (nJ l x),eP a x=true:=fun a aB=>by
   have aQ:l.takeWhile (fun t=>eP t x)=l.take (nJ l x) :=aww.1 (avX _);rw[<-aQ] at aB;have:=List.all_takeWhile (l:=l) (p:=fun t=>eP t x);exact aue.1 this a aB
  have so:∀ b∈l.drop (nJ l x),eP x b=true:=fun b ag=>by
   obtain⟨j,ai⟩:=atx.1 ag;rw[at6] at ai;have:=Mq l x l.length (nJ l x+j) (by omega) (atq.1 ai).1;rw[od ai] at this; exact this
  unfold oZ;rw[avz];refine⟨ad.sublist (avO _ _),avq.2 ⟨so,ad.sublist (List.drop_sublist _ _)⟩,fun a aB b ag=>?_⟩;rcases aub.1 ag with h | h
  ·rw[h]; exact ew a aB
  ·exact rm (ew a aB) (so b h)
theorem acx {l:List bd} {p:bd->Bool} (ar:k0 l=true) :k0 (l.filter p)=true:=by
 obtain⟨h1,ad⟩:=(Ca l).1 ar;exact (Ca _).2 ⟨fun t aI=>h1 t (auI.1 aI).1,ad.sublist avC⟩
theorem RJ {l:List bd} (h1:l.length<=60) (ad:k0 l=true) :jw l=0:=by
 unfold jw; rw[if_neg (by omega),ad]; rfl
def acu (o:bp) (b:fq) (t:bd) :Bool:=decide (o.act.kind=3#8)&&s8 o b t
structure amR (s:gq) (o:bp) (b:fq) (t:List bd) :Prop where
 ok:jw t=0
 mem:∀ x∈s.l,decide (x∈t)=!acu o b x
 new:∀ x∈t,x∉s.l->o.act.kind=2#8/\x=⟨o.act.key,jQ o⟩
 cnt:∃ p:Nat,(o.act.kind=2#8->p<t.length/\∀ (i:Nat) (y:bd),t[i]? = some y->(y∉s.l<->i=p))/\(o.act.kind≠2#8->∀ x∈t,x∈s.l)
theorem agb {l:List bd} {i:Nat} {x y:bd}:y∈oZ l i x<->y=x\/y∈l:=by
 unfold oZ;rw[atQ,aub];have:y∈l<->y∈l.take i\/y∈l.drop i:=by rw[<-atQ,auc]
 rw[this];constructor
 ·rintro (h | h | h)
  ·exact .inr (.inl h)
  ·exact .inl h
  ·exact .inr (.inr h)
 ·rintro (h | h | h)
  ·exact .inr (.inl h)
  ·exact .inl h
  ·exact .inr (.inr h)
end Op

end Go.b2

namespace Go.b2
open Go Go.Proofs
set_option maxRecDepth 100000
namespace Op
open gh
structure HW (g:bg) (i:Nat) (out:List (List B)) :Prop where
 mem:∀ (j:Nat) (p:List B),g.ids.l[j]? = some p->(p∈out<->iL g.ids.l g.ops.l (cU g.ops.l i) j)
 sub:∀ p∈out,p∈g.ids.l
 len:out.length<=g.ids.l.length
theorem Zl (g:bg) (ar:fG g) (V:kv g) {i:Nat} {x:List B} (av:g.ids.l[i]? = some x) :∃ out,HW g i out/\bw Tryz.prog GS 101 [db g,.aM (aR x)] (aU (fp out)) :=by
 obtain⟨r,l',zQ,dO,out,h1,ad,aj,kJ⟩:=Zk g ar V av;exact⟨out,⟨h1,ad,aj⟩,bP Tryz.checked.mixed bC ⟨r,l',zQ,dO,kJ⟩⟩
open Classical in
noncomputable def jY (g:bg) (i:Nat) :List (List B) :=if h:∃ out,HW g i out/\bw Tryz.prog GS 101 [db g,.aM (aR (bV g.ids.l i))] (aU (fp out)) then h.choose else []
theorem Bl (g:bg) (ar:fG g) (V:kv g) {i:Nat} {x:List B} (av:g.ids.l[i]? = some x) :HW g i (jY g i)/\bw Tryz.prog GS 101 [db g,.aM (aR x)] (aU (fp (jY g i))) :=by
 have h:=Zl g ar V av;have af:bV g.ids.l i=x:=fr av;rw[<-af] at h ⊢;unfold jY;rw[dif_pos h];exact h.choose_spec
def ajF (o:bp) (k:List UInt8) :Bool:=decide (o.act.kind=3#8)&&decide (o.act.key=k)
def B8 (g:bg) (A:Nat->List (List B)) (k:List UInt8) (x:List B) :Nat->Bool
 | 0=>false
 | m+1=>B8 g A k x m||(match g.ops.l[m]? with | some o=>ajF o k&&decide (x∈A m) | none=>false)
def akS (g:bg) (A:Nat->List (List B)) (o:bp) (x:List B) :Bool:=decide (o.act.kind=2#8)&&!B8 g A o.act.key x g.ops.l.length
def Do (g:bg) (A:Nat->List (List B)) :Nat->gq
 | 0=>none
 | m+1=>match g.ops.l[m]?,g.ids.l[m]? with
  | some o,some x=>if akS g A o x=true then some (aiQ (Do g A m).l ⟨o.act.key,x⟩) else Do g A m
  | _,_=>Do g A m
def RB (L:List (List B)) :List U:=[aU (fp L)]
theorem BD (s:gq) :(eh s).cells=some [eh s] :=by cases s<;>rfl
structure amW (g:bg) (k:Nat) (ae:a7) (l:am) :Prop where
 aL:ae 1=.ptr 0 0 2
 aT:ae 2=.ptr 1 0 1
 a8:ae 3=.int .i64 0
 bc:ae 5=.int .i64 k
 sQ:∃ v,ae 4=v/\cf 1 RB [.cells 2 [aU g.ids,b4 g.ops],.cells 1 [.a1]] l v ((List.range k).map (jY g)) (decide (k=0))
structure amX (g:bg) (Be:am) (v4:U) (k:Nat) (ae:a7) (l:am) :Prop where
 aL:ae 1=.ptr 0 0 2
 aT:ae 2=.ptr 1 0 1
 a8:ae 3=.int .i64 0
 bu:ae 4=v4
 ch:ae 6=.ptr Be.length 0 1
 ei:ae 7=.int .i64 k
 ex:∃ m,l=Be++.cells 1 [eh (Do g (jY g) k)] ::m
structure amY (g:bg) (Be:am) (v4:U) (i:Nat) (o:bp) (x:List B) (b:Nat) (k:Nat) (ae:a7) (l:am) :Prop where
 aL:ae 1=.ptr 0 0 2
 aT:ae 2=.ptr 1 0 1
 a8:ae 3=.int .i64 0
 bu:ae 4=v4
 ch:ae 6=.ptr Be.length 0 1
 ei:ae 7=.int .i64 i
 eu:ae 8=.ptr b 0 6
 hn:ae 9=.bool (B8 g (jY g) o.act.key x k)
 gc:ae 10=.int .i64 k
 ex:∃ m,l=Be++.cells 1 [eh (Do g (jY g) i)] ::m/\l[b]? = some (.cells 6 (kX o.act))
theorem Oj (g:bg) (i:Nat) :(jG g i).length<=g.ids.l.length:=GU _ _ _
theorem Ol {g:bg} {i:Nat} {x:List B} (h:x∈jG g i) :x∈g.ids.l:=by
 unfold jG at h;obtain⟨j,ai,_,rfl⟩:=VO.1 h;obtain⟨y,az,cO⟩:=bA ai;rw[fr az]; exact cO
theorem acl {α:Type} {l:List α} {i:Nat} {d x:α} (h:l[i]? = some x) :l.getD i d=x:=by rw[atE,h]; rfl
open Classical in
theorem El {g:bg} (ai:iw g.ids.l) {i j:Nat} {p:List B} (ay:g.ids.l[j]? = some p) :p∈jG g i<->iL g.ids.l g.ops.l (cU g.ops.l i) j:=by
 have ax:∀ t,t<g.ids.l.length->(pb g (cU g.ops.l i)).getD t false=decide (iL g.ids.l g.ops.l (cU g.ops.l i) t) :=fun t aI=>by
  apply acl;unfold pb;rw[atw,at3 aI]; rfl
 unfold jG;rw[VO];constructor
 ·rintro⟨t,aI,h1,ad⟩;rw[ax t aI] at h1;obtain⟨y,az,_⟩:=bA aI;rw[fr az] at ad;subst ad;rw[ai j t y ay az];exact of_decide_eq_true h1
 ·intro h;have ak:=(atq.1 ay).1;exact⟨j,ak,by rw[ax j ak]; exact decide_eq_true h,fr ay⟩
structure H9 (g:bg) :Prop where
 ids:h0 g.ids
 ops:∀ o∈g.ops.l,Ia o
theorem alv {ts:List TypeId} {cs:List U} (h:l0 Tryz.prog (25::ts) cs) :∃ (g:bg) (cs' : List U),cs=db g::cs'/\H9 g/\l0 Tryz.prog ts cs':=by
 obtain⟨c,cs',rfl,h1,ad⟩:=X7 h;obtain⟨cs,rfl,aj⟩:=aly (by kernel_rfl) h1;have aF:=D2 (fs:=[22,23]) (by kernel_rfl) aj;obtain⟨i,_,rfl,av,aW⟩:=X9 aF;obtain⟨s,_,rfl,_,ap,bt⟩:=Ya (e:=82) (z:=11) (enc:=bl) (Q:=Ia) (by kernel_rfl) (by kernel_rfl) (fun r ax=>by
  obtain⟨x,_,rfl,af,aj⟩:=alD ax;rw[NA aj,atZ];exact⟨x,rfl,af⟩) aW
 rw[NA bt];exact⟨⟨i,s⟩,cs',rfl,⟨av,ap⟩,ad⟩
theorem aib {g:bg} (h:H9 g) (ar:vB g=false) :fG g:=by
 unfold vB at ar;simp only[Bool.or_eq_false_iff,decide_eq_false_iff_not] at ar;obtain⟨h1,ad,aj,aF⟩:=ar;refine⟨h.ids,fun o ap=>?_,by omega,by omega⟩;have aW:¬ tQ o=true:=fun aG=>h1 ⟨o,by rw[atr (by omega)]; exact ap,aG⟩
 unfold tQ at aW;simp only[avm,decide_eq_true_eq,not_or] at aW;have aI:=h.ops o ap;exact⟨aI.ids,by omega,⟨aI.lj,aI.n2,by omega⟩,by omega⟩
end Op

end Go.b2

namespace Go.b2
open Go Go.Proofs Go.Sort Go.Shelf
set_option maxRecDepth 100000
open gh
abbrev YW:={l:List B // l.length=32}
instance:Inhabited YW:=⟨⟨List.replicate 32 0#8,by simp⟩⟩
end Go.b2

namespace Go.b2
open Go Go.Proofs
set_option maxRecDepth 100000
namespace Op
open gh
structure bR where
 key:List UInt8
 val:gK
 c3:Q
 id:List B
instance:DecidableEq gK:=fun a b=>decidable_of_iff (a.kind=b.kind/\a.num=b.num/\a.bits=b.bits/\a.text=b.text) (by cases a; cases b; simp)
instance:DecidableEq bR:=fun a b=>decidable_of_iff (a.key=b.key/\a.val=b.val/\a.c3=b.c3/\a.id=b.id) (by cases a; cases b; simp)
def cd (r:bR) :List U:=.str r.key::bB r.val.kind::.int .i64 r.val.num::c4 r.val.bits::.str r.val.text::c4 r.c3::aR r.id
abbrev jW:=dR bR
def dA (s:jW) :U:=cK 38 cd s
structure y3 (r:bR) :Prop where
 id:r.id.length=32
 val:Ay r.val
def ju (l:List bR) :Prop:=∀ r∈l,y3 r
theorem iQ {r:bR} (h:r.id.length=32) :(cd r).length=38:=by simp[cd,cQ h]
theorem zj (r:bR) :bm (cd r)=true:=by simp[cd,bm,U.closed,g6]
theorem tD (s:jW) :(dA s).closed=true:=vj zj s
def mC (l:List bR) (k:Nat) :bR:=l.getD k ⟨[],ij,0,[]⟩
theorem mD {l:List bR} {k:Nat} {x:bR} (h:l[k]? = some x) :mC l k=x:=by
 unfold mC; rw[atE,h]; rfl
def DW (x:Q) :Bool:=decide (x.toNat<=1000000000000)
def nt (r:bR) :Bool:=gP r.key&&(jx r.val&&DW r.c3)
def tP (l:List bR) (k:Nat) :Bool:=nt (mC l k)&&(decide (k=0)||e7 (mC l (k - 1)).key (mC l k).key)
def kZ (l:List bR) :Bool:=decide (∀ k,k<l.length->tP l k=true)
def lm (l:List bR) :Int:=if 60<l.length then 4 else if kZ l then 0 else 8
theorem St {l:List bR} (h:∀ k,k<l.length->tP l k=true) :kZ l=true:=decide_eq_true h
theorem Fc {l:List bR} {k:Nat} (hk:k<l.length) (h:tP l k=false) :kZ l=false:=decide_eq_false fun aG=>by rw[aG k hk] at h; cases h
theorem XA {E:List U} (h:E.length=38) :bz (U.str [] ::.int .u8 0::.int .i64 0::.int .u64 0::.str [] ::.int .u64 0::rep 32 (.int .u8 0)) 0 E=E:=fE (by rw[h]; rfl)
theorem abj (x:Q) :((1000000000000:Int)<u x)<->DW x=false:=by
 unfold DW u;rw[decide_eq_false_iff_not];omega
theorem M2 (a b:List UInt8) :e7 a b=false<->¬ a<b:=by
 rw[<-s6]; simp
set_option maxHeartbeats 4000000 in
theorem Yt (s:jW) (ap:ju s.l) (ak:s.l.length<=1000000) :bw Tryz.prog GS 59 [.aM [dA s]] (.int .i64 (lm s.l)) :=by
 refine bP Tryz.checked.mixed bC ?_;apply bj Tryz.func59 [];unfold lm;have bh:cP (.au 38) (dA s)=some (.int .i64 s.l.length) :=by simp[dA]
 by_cases h1:60<s.l.length
 ·have dC:(60:Int)<(s.l.length:Int) :=by omega
  simp[bh,dC];exact aP (by rw[if_pos h1]) rfl
 ·have dC:¬ (60:Int)<(s.l.length:Int) :=by omega
  simp[bh,dC];refine cF s.l.length (fun k ae l=>(∃ r,l=.cells 1 [dA s] ::r)/\ae 1=.ptr 0 0 1/\ae 10=dA s/\ae 11=.int .i64 s.l.length/\ae 12=.int .i64 k/\∀ j,j<k->tP s.l j=true) ?_ (by simp);rintro k ae l hk ⟨⟨r,rfl⟩,aL,gc,hQ,fA,al⟩;obtain⟨ae,rfl⟩:=iv aL gc hQ fA;clear aL gc hQ fA;simp;refine kk (fun h=>?_) (fun h=>?_)
  ·simp only[decide_eq_true_eq] at h;obtain⟨y,az,cO⟩:=bA (l:=s.l) (k:=k) (by omega);have cx:=iQ (ap y cO).id;have aQ:IntKind.i64.wrap ((k:Int)+1)=((k+1:Nat) :Int) :=by rw[IntKind.wrap_i64]; omega
   have Cj:=IJ ⟨2#8,y.key,ij⟩;rw[Oa] at Cj;have nj:=NG y.val;have gl:tP s.l k=(nt y&&(decide (k=0)||e7 (mC s.l (k - 1)).key y.key)) :=by unfold tP; rw[mD az]
   have cc:cj (.au 38) (dA s) (.int .i64 (k:Int))=some (.b6 (cd y) 0) :=by simp[dA,az]
   have k8:=XA cx;have ci:(cd y).take 38=cd y:=atr (by omega);have vG:∀ h,(cd y)[0]'h=.str y.key:=fun _=>rfl
   have Fo:∀ h,(cd y)[5]'h=c4 y.c3:=fun _=>rfl
   have JO:((cd y).tail).take 4=cW y.val:=rfl;have pT:=abj y.c3;have jM:bm (cW y.val)=true:=by simp[cW,bm,U.closed]
   obtain⟨R,gT⟩:∃ R,R=cd y:=⟨_,rfl⟩
   obtain⟨am5,adi⟩:∃ V,V=cW y.val:=⟨_,rfl⟩
   rw[<-gT] at cx cc k8 ci vG Fo JO;rw[<-adi] at nj JO jM;simp[cc,cx,k8,ci,vG];refine bf Cj rfl ?_;cases aW:gP y.key with
   | false=>
    have:nt y=false:=by unfold nt; rw[aW]; rfl
    rw[this,au8] at gl;simp[hO];exact aP (by rw[if_neg h1,Fc h gl]; rfl) rfl
   | true=>
    simp[hO,cx,JO];refine bf nj (by simp[bm,U.closed,jM]) ?_;cases bt:jx y.val with
    | false=>
     have:nt y=false:=by unfold nt; rw[aW,bt]; rfl
     rw[this,au8] at gl;simp[hO];exact aP (by rw[if_neg h1,Fc h gl]; rfl) rfl
    | true=>
     cases dq:DW y.c3 with
     | false=>
      have:nt y=false:=by unfold nt; rw[aW,bt,dq]; rfl
      rw[this,au8] at gl;have se:=pT.2 dq;simp[hO,cx,Fo,se];exact aP (by rw[if_neg h1,Fc h gl]; rfl) rfl
     | true=>
      have se:¬ (1000000000000:Int)<u y.c3:=fun h=>by rw[pT.1 h] at dq; cases dq
      have:nt y=true:=by unfold nt; rw[aW,bt,dq]; rfl
      rw[this,auu] at gl;rcases k with _ | k
      ·simp[hO,cx,Fo,se,aQ];exact⟨by omega,by rw[IntKind.wrap_i64]; omega,by rw[gl]; rfl⟩
      ·obtain⟨x,af,cX⟩:=bA (l:=s.l) (k:=k) (by omega);have fa:cj (.au 38) (dA s) (.int .i64 (k:Int))=some (.b6 (cd x) 0) :=by simp[dA,af]
       have S1:(cd x)[0]? = some (.str x.key) :=rfl;obtain⟨ang,adl⟩:∃ X,X=cd x:=⟨_,rfl⟩
       rw[<-adl] at fa S1;have dz:IntKind.i64.wrap (k:Int)=(k:Int) :=by rw[IntKind.wrap_i64]; omega
       have kH:(0:Int)<(k:Int)+1:=by omega
       simp only[avp,mD af,Nat.add_eq_zero_iff,Nat.one_ne_zero,and_false,decide_false,awe] at gl;simp[hO,cx,Fo,se,kH,dz,fa,S1,vG];have adF:pu .geq x.key y.key=some (.bool (!e7 x.key y.key)) :=rfl;rw[adF];cases eA:e7 x.key y.key with
       | true=>
        rw[eA] at gl;simp[aQ];refine⟨by omega,by rw[IntKind.wrap_i64]; omega,fun j ai=>?_⟩;by_cases fQ:j=k+1
        ·rw[fQ,gl]
        ·exact al j (by omega)
       | false=>
        rw[eA] at gl;simp;exact aP (by rw[if_neg h1,Fc h gl]; rfl) rfl
  ·simp[h];have jj:k=s.l.length:=by simp at h; omega
   exact aP (by rw[if_neg h1,if_pos (St fun j ai=>al j (by omega))]) rfl
def BK (a b:Q) :Int:=if a.toNat<b.toNat then -1 else if b.toNat<a.toNat then 1 else 0
theorem VU (a:Q) :bw Tryz.prog GS 234 [c4 a] (.bool false) :=by
 refine bP Tryz.checked.mixed bC ?_;apply bj Tryz.func234 [];simp;exact aP rfl rfl
theorem aaI (a b:Q) :bw Tryz.prog GS 193 [c4 a,c4 b] (.int .i64 (BK a b)) :=by
 refine bP Tryz.checked.mixed bC ?_;apply bj Tryz.func193 [];unfold BK;simp;refine bf (VU a) rfl ?_;simp;refine bf (VU b) rfl ?_;by_cases h1:a.toNat<b.toNat
 ·simp[h1,c4,u];exact aP rfl rfl
 ·by_cases ad:b.toNat<a.toNat
  ·simp[h1,ad,c4,u];exact aP rfl rfl
  ·simp[h1,ad,c4,u];exact aP rfl rfl
def qb (s:Q) (x:List B) (t:Q) (y:List B) :Bool:=decide (t.toNat<s.toNat)||(decide (s=t)&&decide (0<cl x y))
theorem ahe (s:Q) (x:List B) (t:Q) (y:List B) :(0<AB (BK s t) (cl x y))<->qb s x t y=true:=by
 unfold AB BK qb;by_cases h1:s.toNat<t.toNat
 ·have ad:s≠t:=fun h=>by rw[h] at h1; omega
  simp[h1,ad]; omega
 ·by_cases ad:t.toNat<s.toNat
  ·simp[h1,ad]
  ·have aj:s=t:=atH (by omega);simp[aj]
theorem Wc {l:am} {j:Nat} {r:bR} (aB:r.id.length=32) (ai:l[j]? = some (.cells 38 (cd r))) :dQ 1 l (.au 1 j 6 32 32 38) j (r.id.map b7) :=by
 refine .au j 6 32 32 38 (cd r) _ ai (iQ aB) (by simp[aB]) (fun e ao=>?_) (att _) (by omega) ?_
 ·obtain⟨x,_,rfl⟩:=atV.1 ao; rfl
 ·simp only[cd,av4,auv];rw[atr (by simp[aR,aB]),xi]; rfl
theorem ame (a b:bR) (aB:a.id.length=32) (ag:b.id.length=32) :bw Tryz.prog GS 139 [.aM (cd a),.aM (cd b)] (.bool (qb a.c3 a.id b.c3 b.id)) :=by
 refine bP Tryz.checked.mixed bC ?_;apply bj Tryz.func139 [[[0],[1],[2],[3],[5],[6],[7],[8],[4]]];have h1:=iQ aB;have ad:=iQ ag;have aj:=cQ aB;have aF:=cQ ag;have Jy:∀ h,(cd a)[5]'h=c4 a.c3:=fun _=>rfl
 have JB:∀ h,(cd b)[5]'h=c4 b.c3:=fun _=>rfl
 simp[h1,ad,Jy,JB];refine bf (aaI _ _) rfl ?_;have ah:=Eo (some a.id) (some b.id) (by simp[aB,ag]);simp;refine ie ah ?_ rfl ?_
 ·exact .cons ((Wc (j:=0) (r:=a) aB rfl).nr (fun _=>rfl) (some a.id) rfl rfl) (.cons ((Wc (j:=1) (r:=b) ag rfl).nr (fun _=>rfl) (some b.id) rfl rfl) .nil)
 ·simp;refine ie (V7 (BK a.c3 b.c3) (cl a.id b.id)) (.cons (WT (by simp)) .nil) rfl ?_;have ak:=ahe a.c3 a.id b.c3 b.id;simp;refine aP (congrArg U.bool ?_) rfl;rw[Bool.eq_iff_iff,decide_eq_true_eq]; exact ak
theorem aiX (s:jW) (ap:ju s.l) (ak:s.l.length<=1000000) (x:List UInt8) :bw Tryz.prog GS 15 [dA s,.str x] (.int .i64 (hW x (s.l.map bR.key) 0)) :=by
 refine bP Tryz.checked.mixed bC ?_;apply bj Tryz.func15 [];have bh:cP (.au 38) (dA s)=some (.int .i64 s.l.length) :=by simp[dA]
 simp;refine cF s.l.length (fun k ae l=>ae 0=dA s/\ae 1=.str x/\ae 5=.int .i64 k/\∀ (j:Nat) (z:List UInt8),j<k->(s.l.map bR.key)[j]? = some z->z≠x) ?_ (by simp);rintro k ae l hk ⟨b8,aL,bc,al⟩;obtain⟨ae,rfl⟩:=kq b8 aL bc;clear b8 aL bc;by_cases cI:k<s.l.length
 ·obtain⟨y,az,cO⟩:=bA cI;have aQ:IntKind.i64.wrap ((k:Int)+1)=((k+1:Nat) :Int) :=by rw[IntKind.wrap_i64]; omega
  have cc:cj (.au 38) (dA s) (.int .i64 (k:Int))=some (.b6 (cd y) 0) :=by simp[dA,az]
  have JV:(cd y)[0]? = some (.str y.key) :=rfl;have iD:(s.l.map bR.key)[k]? = some y.key:=by rw[atw,az]; rfl
  obtain⟨Y,ev⟩:∃ Y,Y=cd y:=⟨_,rfl⟩
  rw[<-ev] at cc JV;by_cases ao:y.key=x
  ·have fa:=yg (n:=0) iD al ao;simp[bh,cI,cc,JV,ao];exact aP (by rw[fa]; simp) rfl
  ·simp[bh,cI,cc,JV,ao,aQ];intro j z ai A7 afX aw;have p8:(s.l.map bR.key)[j]? = some z:=by rw[atw,afX,<-aw]; rfl
   by_cases fQ:j=k
   ·subst fQ; rw[iD] at p8; obtain rfl:=Option.some.inj p8; exact ao
   ·exact al j z (by omega) p8
 ·have gW:k=s.l.length:=by omega
  simp[bh,cI];exact aP (by rw[Gt fun j z aw=>al j z (by have:=(atq.1 aw).1; simp at this; omega) aw]) rfl
def LG:List lv:=.s::.i .u8::.i .i64::.i .u64::.s::.i .u64::List.replicate 32 (.i .u8)
theorem ag4:rg Tryz.prog 20 50=some LG:=by kernel_rfl
theorem V0 {r:bR} (h:r.id.length=32) :hB LG (cd r)=true:=by
 unfold LG cd;have:=yw r.id;rw[h] at this;simp only[hB,DZ,auu];exact this
theorem ZO {a b:bR} (aB:a.id.length=32) (ag:b.id.length=32) :eU (cd a) (cd b)=decide (a=b) :=by
 unfold cd aR;simp only[eU,U.beq];rw[Br a.id b.id (by omega)];obtain⟨b9,⟨fx,lj,dM,t1⟩,c9,c6⟩:=a;obtain⟨b0,⟨dJ,n2,dy,t2⟩,hE,eH⟩:=b;simp only[bR.mk.injEq,gK.mk.injEq];by_cases h1:b9=b0<;>by_cases ad:fx=dJ<;>by_cases aj:lj=n2<;>by_cases aF:dM=dy<;>by_cases aW:t1=t2<;>by_cases bt:c9=hE<;>by_cases dq:c6=eH<;>simp[h1,ad,aj,aF,aW,bt,dq]
theorem ai8 {a b:bR} (aB:a.id.length=32) (ag:b.id.length=32) :gi Tryz.prog .neq 50 (.aM (cd a)) (.aM (cd b))=some (.bool (!decide (a=b))) :=by
 rw[Er ag4 (by kernel_rfl) (by kernel_rfl) (V0 aB) (V0 ag),ZO aB ag]
theorem agW (r:bR) (h:r.id.length=32) :bw Tryz.prog GS 93 [.aM (cd r)] (.str r.key) :=by
 refine bP Tryz.checked.mixed bC ?_;apply bj Tryz.func93 [];have h1:=iQ h;have vG:∀ h,(cd r)[0]'h=.str r.key:=fun _=>rfl
 obtain⟨R,gT⟩:∃ R,R=cd r:=⟨_,rfl⟩
 rw[<-gT] at h1 vG ⊢;simp[h1,vG];exact aP rfl rfl
theorem abW:je Tryz.prog 93=true:=by kernel_rfl
theorem R1:je Tryz.prog 143=true:=by kernel_rfl
theorem RQ (r:bR) (h:r.id.length=32) (k:List UInt8) {b:Nat} {l:am} (ag:l[b]? = some (.cells 1 [.fn 93 [] []])) {K:U->am->Prop} (aV:K (.int .i64 (pB r.key k)) (l++[.cells 38 (cd r)])) :
  c7 Tryz.prog GS 143 [.aM (cd r),.str k,.ptr b 0 1] l (c:=⟨K⟩) :=by
 apply bj Tryz.func143 [];have h1:=iQ h;have TV:=agW r h;have m7:=zj r;obtain⟨R,gT⟩:∃ R,R=cd r:=⟨_,rfl⟩
 rw[<-gT] at h1 TV m7 aV ⊢;have fB:b<l.length:=(atq.1 ag).1;have e9:(l++[a2.cells 38 R])[b]? = some (.cells 1 [.fn 93 [] []]) :=by rw[ats fB]; exact ag
 simp[h1,e9,atr];refine⟨abW,bf TV (by simp[bm,U.closed,m7]) ?_⟩;simp;refine bf (Rh _ _) rfl ?_;simpa using aV
def eJ (l:List bR) (x:List UInt8) :Nat:=(l.takeWhile fun t=>e7 t.key x).length
theorem Rl (x:List UInt8) :∀ {l:List bR} {p:Nat},p<=l.length->(∀ (t:Nat) (y:bR),t<p->l[t]? = some y->e7 y.key x=true)->(∀ y,l[p]? = some y->e7 y.key x=false)->eJ l x=p
 | [],p,ay,_,_=>by simp at ay; subst ay; rfl
 | y::l,0,_,_,ad=>by
  have:=ad y rfl;unfold eJ;rw[au1,this]; rfl
 | y::l,p+1,ay,h1,ad=>by
  have:=h1 0 y (by omega) rfl;have aH:=Rl x (l:=l) (p:=p) (by simpa using ay) (fun t z aI aw=>h1 (t+1) z (by omega) (by simpa using aw)) (fun z aw=>ad z (by simpa using aw));unfold eJ at *
  rw[au1,this];simp[aH]
def hP (l:List bR) (x:List UInt8) :Bool:=decide (eJ l x<l.length)&&decide ((mC l (eJ l x)).key=x)
def GX (l:List bR) (x:List UInt8) :Prop:=∀ (i j:Nat) (a b:bR),i<=j->l[i]? = some a->l[j]? = some b->e7 b.key x=true->e7 a.key x=true
theorem aaG (a b:List UInt8) :(pB a b<0)<->e7 a b=true:=by
 unfold pB;by_cases h:e7 a b=true
 ·simp[h]
 ·rw[if_neg h];simp[h];split<;>omega
structure YO (s:jW) (x:List UInt8) (m:Nat) (ae:a7) (l:am) :Prop where
 ex:∃ (i j:Nat) (r:am),j - i=m/\i<=j/\j<=s.l.length/\l=.cells 1 [.fn 93 [] []] ::r/\ae 0=dA s/\ae 1=.str x/\ae 2=.fn 143 [] [.ptr 0 0 1]/\ae 8=.int .i64 s.l.length/\ae 9=.int .i64 i/\ae 10=.int .i64 j ∧
  (∀ (t:Nat) (y:bR),t<i->s.l[t]? = some y->e7 y.key x=true)/\(∀ (t:Nat) (y:bR),j<=t->s.l[t]? = some y->e7 y.key x=false)
theorem aj9 (s:jW) (ap:ju s.l) (ak:s.l.length<=1000000) (x:List UInt8) (hm:GX s.l x) {K:U->am->Prop} (aV:∀ l',K (.bG [.int .i64 (eJ s.l x),.bool (hP s.l x)]) l') :
  c7 Tryz.prog GS 142 [dA s,.str x,.fn 143 [] [.ptr 0 0 1]] [.cells 1 [.fn 93 [] []]] (c:=⟨K⟩) :=by
 apply bj Tryz.func142 [];have bh:cP (.au 38) (dA s)=some (.int .i64 s.l.length) :=by simp[dA]
 simp[bh];refine wj (YO s x) ?_ s.l.length _ _ ⟨0,s.l.length,[],by omega,by omega,by omega,rfl,by simp,by simp,by simp,by simp,by simp,by simp,fun t y h=>by omega,fun t y h ad=>by rw[atG h] at ad; cases ad⟩;rintro m ae l ⟨i,j,r,fD,ho,eO,rfl,b8,aL,aT,eu,hn,gc,h1,ad⟩;obtain⟨ae,rfl⟩:=AZ b8 aL aT eu hn gc;clear b8 aL aT eu hn gc;by_cases aK:i<j
 ·obtain⟨h,aG⟩:∃ h,h=(i+j) / 2:=⟨_,rfl⟩
  have bW:IntKind.i64.wrap ((i:Int)+j)=((i+j:Nat) :Int) :=by rw[IntKind.wrap_i64]; omega
  have w2:IntKind.u64.wrap ((i+j:Nat) :Int)=((i+j:Nat) :Int) :=by rw[wX,auX]; unfold u; rw[atK,atD (by omega)]
  have ef:=akh (i+j) (by omega);have ph:IntKind.i64.wrap (h:Int)=(h:Int) :=by rw[IntKind.wrap_i64]; omega
  have te:IntKind.i64.wrap ((h:Int)+1)=((h+1:Nat) :Int) :=by rw[IntKind.wrap_i64]; omega
  rw[<-aG] at ef;obtain⟨y,az,cO⟩:=bA (l:=s.l) (k:=h) (by omega);have cx:=iQ (ap y cO).id;have cc:cj (.au 38) (dA s) (.int .i64 (h:Int))=some (.b6 (cd y) 0) :=by simp[dA,az]
  have xF:=aaG y.key x;have xM:=fun (K:U->am->Prop)=>RQ y (ap y cO).id x (b:=0) (l:=.cells 1 [.fn 93 [] []] ::r) (K:=K) rfl
  obtain⟨Y,ev⟩:∃ Y,Y=cd y:=⟨_,rfl⟩
  rw[<-ev] at cx cc xM;obtain⟨N,fj⟩:∃ N,N=i+j:=⟨_,rfl⟩
  rw[<-fj] at bW w2 ef;simp[aK,bW,w2,ef,ph,cc,cx,atr];refine⟨R1,xM _ ?_⟩;by_cases bt:pB y.key x<0
  ·simp[bt,te];refine⟨j - (h+1),by omega,h+1,j,_,rfl,by omega,by omega,rfl,by simp,by simp,by simp,by simp,by simp,by simp,fun t z aI aw=>?_,ad⟩;exact hm t h z y (by omega) aw az (xF.1 bt)
  ·simp[bt];refine⟨h - i,by omega,i,h,_,rfl,by omega,by omega,rfl,by simp,by simp,by simp,by simp,by simp,by simp,h1,fun t z aI aw=>?_⟩;cases dq:e7 z.key x with
   | false=>rfl
   | true=>exact absurd (xF.2 (hm h t y z aI az aw dq)) bt
 ·obtain rfl:i=j:=by omega
  have ah:=Rl x (l:=s.l) (p:=i) eO h1 (fun y az=>ad i y (att _) az);by_cases du:i<s.l.length
  ·obtain⟨y,az,cO⟩:=bA (l:=s.l) (k:=i) du;have cx:=iQ (ap y cO).id;have cc:cj (.au 38) (dA s) (.int .i64 (i:Int))=some (.b6 (cd y) 0) :=by simp[dA,az]
   have J7:=aaH y.key x;have xM:=fun (K:U->am->Prop)=>RQ y (ap y cO).id x (b:=0) (l:=.cells 1 [.fn 93 [] []] ::r) (K:=K) rfl
   obtain⟨Y,ev⟩:∃ Y,Y=cd y:=⟨_,rfl⟩
   rw[<-ev] at cx cc xM;simp[du,cc,cx,atr];refine⟨R1,xM _ ?_⟩;simp;have:hP s.l x=decide (pB y.key x=0) :=by
    unfold hP;rw[ah,mD az,decide_eq_true du,auu,decide_eq_decide];exact J7.symm
   rw[<-ah,<-this];exact aV _
  ·simp[du];have:hP s.l x=false:=by
    unfold hP;rw[ah,decide_eq_false du,au8]
   rw[<-this,<-ah];exact aV _
theorem RU (s:jW) (ap:ju s.l) (ak:s.l.length<=1000000) (x:List UInt8) (hm:GX s.l x) :
  bw Tryz.prog GS 92 [dA s,.fn 93 [] [],.str x] (.bG [.int .i64 (eJ s.l x),.bool (hP s.l x)]) :=by
 refine bP Tryz.checked.mixed bC ?_;apply bj Tryz.func92 [];simp;refine aj9 s ap ak x hm fun l'=>?_
 simp;exact aP rfl rfl
end Op

end Go.b2

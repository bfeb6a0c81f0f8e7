/-
  Graphs: their shape, walked.
-/
import Derived.Test.YtobphgccoalchaaGreatDoorRi
import Derived.Sort.Walk0
import Derived.Shelf.Spec.SlicesInsertGrow
set_option linter.unusedVariables false
set_option linter.unusedSimpArgs false
set_option linter.unnecessarySimpa false
namespace Go.cf
open Go Go.Proofs
set_option maxRecDepth 100000
namespace Op
open gZ
def kI (n:Int) :ad:=.int .i64 n
theorem ajq {l:List ad} {i:Nat} {x:ad} (h:i<l.length) :bt l i [x]=l.set i x:=by
 have:=oW (fun c:ad=>c) l i x h;simpa using this
def cW (g:bc) (wl:List Int) (vs:List ad) (rest:ap) :ap:=.cells 2 [aN g.ids,bM g.ops] ::.cells g.ops.l.length (wl.map kI) ::.cells g.ops.l.length vs::rest
theorem Ow {l:ap} {a b c:aY} (aB:l[0]? = some a) (h1:l[1]? = some b) (ae:l[2]? = some c) :∃ r,l=a::b::c::r:=by
 match l,aB,h1,ae with
 | fc::bw::c'::r,aB,h1,ae=>
  simp at aB h1 ae;subst aB h1 ae;exact⟨r,rfl⟩
theorem AR {g:bc} {w w' : List Int} {vs IQ:List ad} {r:ap}:∀ {b:Nat},3<=b->(cW g w vs r)[b]? = (cW g w' IQ r)[b]?
 | 0,h=>by omega
 | 1,h=>by omega
 | 2,h=>by omega
 | b+3,_=>rfl
theorem LI {g:bc} {w:List Int} {vs:List ad} {r x:ap} {b:Nat} (h:b<(cW g w vs r).length) :(cW g w vs (r++x))[b]? = (cW g w vs r)[b]?:=by
 show ((cW g w vs r)++x)[b]? = _;exact arZ h
structure Yc (g:bc) (m q:Nat) (dP:ad) (l:ap) :Prop where
 ex:∃ (vs:List ad) (cC:List (List Nat)) (dU:Nat->Nat) (hP:Nat) (rest:ap),l=cW g (fb g.ops.l m) vs rest/\l4 l vs cC dU/\vy g.ids.l g.ops.l m q cC/\bB 1 l dP hP ((jI g.ops.l m).map hX) ∧
  cx dP=(jI g.ops.l m).isEmpty/\(jI g.ops.l m=[]\/(3<=hP/\o9 cC dU hP))
structure Yb (g:bc) (m q:Nat) (dP:ad) (b:Nat) (O:List ad) (l:ap) :Prop where
 ex:∃ (vs:List ad) (cC:List (List Nat)) (dU:Nat->Nat) (hP:Nat) (rest:ap),l=cW g (fb g.ops.l m) vs rest/\l4 l vs cC dU/\vy g.ids.l g.ops.l m q cC/\bB 1 l dP hP ((jI g.ops.l m).map hX) ∧
  cx dP=(jI g.ops.l m).isEmpty/\(jI g.ops.l m=[]\/(3<=hP/\o9 cC dU hP))/\l[b]? = some (.cells 11 O)/\3<=b/\o9 cC dU b
theorem Bw {cC:List (List Nat)} {l:ap} {vs:List ad} {dU:Nat->Nat} {c:Nat} (fQ:l4 l vs cC dU) (ah:c<3) :o9 cC dU c:=fun a row aA bU=>by
 have az:a<vs.length:=by rw[fQ.oZ]; exact (arY.1 aA).1
 have:=(fQ.own a vs[a] row (ar1 az) aA).2.2.resolve_left bU;omega
theorem Ec {cC:List (List Nat)} {l:ap} {vs:List ad} {dU:Nat->Nat} {c:Nat} (fQ:l4 l vs cC dU) (ah:l.length<=c) :o9 cC dU c:=fun a row aA bU=>by
 have:=fQ.lt aA bU;omega
structure sE (g:bc) (vs:List ad) (cC:List (List Nat)) (dU:Nat->Nat) (W:List Int) (R:List Nat) (dP:ad) (rest:ap) :Prop where
 ex:∃ hP,l4 (cW g W vs rest) vs cC dU/\bB 1 (cW g W vs rest) dP hP (R.map hX)/\cx dP=R.isEmpty/\(R=[]\/(3<=hP/\o9 cC dU hP))
theorem sE.setW {g:bc} {vs:List ad} {cC:List (List Nat)} {dU:Nat->Nat} {W ud:List Int} {R:List Nat} {dP:ad} {rest:ap} (h:sE g vs cC dU W R dP rest) :sE g vs cC dU ud R dP rest:=by
 obtain⟨hP,fQ,gu,lH,mT⟩:=h;refine⟨⟨hP,fQ.frame fun b ag ⟨a,vh,h1,ae,al⟩=>AR (avm fun h=>Bw fQ h a vh h1 ae al),?_,lH,mT⟩⟩;by_cases bU:R=[]
 ·subst bU;rw[jC.1 lH];exact .nil _
 ·exact gu.frame fun _=>AR (mT.resolve_left bU).1
theorem sE.push {g:bc} {vs:List ad} {cC:List (List Nat)} {dU:Nat->Nat} {W:List Int} {R:List Nat} {dP:ad} {rest:ap} (h:sE g vs cC dU W R dP rest) (m:Nat) (dO:(R.length+1)*8<=cK) :
  ∃ a8 fp,i1 (cW g W vs (rest++[.cells 1 [.int .i64 (m:Int)]])) 1 8 dP (.au 1 (rest.length+3) 0 1 1 1)=some (a8,cW g W vs fp)/\sE g vs cC dU W (R++[m]) a8 fp:=by
 obtain⟨hP,wk,Gg,lH,mT⟩:=h;obtain⟨gM,MS,k0,h4⟩:∃ gM,bB 1 (cW g W vs (rest++[.cells 1 [.int .i64 (m:Int)]])) dP gM (R.map hX)/\3<=gM/\o9 cC dU gM:=by
  by_cases bU:R=[]
  ·subst bU;rw[jC.1 lH];exact⟨(cW g W vs (rest++[.cells 1 [.int .i64 (m:Int)]])).length,.nil _,by simp[cW],Ec wk (by simp[cW])⟩
  ·exact⟨hP,Gg.more _,(mT.resolve_left bU).1,(mT.resolve_left bU).2⟩
 obtain⟨sp,Mz,bQ,aL,aT,a7,bp,bf,bT⟩:=pb (by_:=8) MS (x:=.au 1 (rest.length+3) 0 1 1 1) (xs:=[hX m]) (by simp[dA,cW,hX]) (by simp[hX]) (by omega) (by omega) (by simpa using dO);have Lr:(cW g W vs (rest++[.cells 1 [.int .i64 (m:Int)]])).length=rest.length+4:=by simp[cW]
 have GV:(cW g W vs rest).length=rest.length+3:=by simp[cW]
 obtain⟨fp,rfl⟩:∃ r,bQ=cW g W vs r:=Ow ((bp 0 (by omega) (by omega)).trans rfl) ((bp 1 (by omega) (by omega)).trans rfl) ((bp 2 (by omega) (by omega)).trans rfl);have L7:cx sp=false:=by
  cases aH:cx sp with
  | true=>have:=(bT.1 (jC.1 aH)).2; cases this
  | false=>rfl
 refine⟨sp,fp,aL,⟨⟨Mz,?_,?_,?_,.inr ⟨?_,?_⟩⟩⟩⟩
 ·exact wk.frame fun b ag ⟨a,vh,h1,ae,al⟩=>(bp b (by omega) (fun e=>h4 a vh h1 ae (by omega))).trans (LI ag)
 ·rw[asv]; exact aT
 ·rw[L7]; simp
 ·rcases bf with e | e<;>omega
 ·rcases bf with e | e
  ·rw[e]; exact h4
  ·exact Ec wk (by omega)
set_option maxHeartbeats 8000000 in
theorem ai0 (g:bc) (ar:ei g) (am:g.ids.l.length=g.ops.l.length) (iM:g.ops.l.length<=60) (aE:∀ o∈g.ops.l,o.br.l.length<=4) :bx Tryz.prog GS 96 [cn g] (.int .i64 (q9 g.ids.l g.ops.l)) :=by
 refine bH Tryz.checked.mixed bD ?_;apply bm Tryz.func96 [];have ml:cK=140737488355328:=rfl;have cJ:=eb g.ids;have b6:=jo g.ops;have pp:=Fq g;have dv:cz (.au 11) (bM g.ops)=some (.int .i64 g.ops.l.length) :=by simp[bM]
 have g5:cz (.au 32) (aN g.ids)=some (.int .i64 g.ops.l.length) :=by simp[aN,am]
 simp[cn,cV];refine cw (g.ops.l.length - 1) (fun k af l=>l=[.cells 2 [aN g.ids,bM g.ops]]/\af 1=.ptr 0 0 2/\af 3=.int .i64 ((k+1:Nat) :Int)/\∀ j,j<k+1->j<g.ids.l.length->1<=j->cu (b2 g.ids.l (j - 1)) (b2 g.ids.l j)<0) ?_ ⟨by simp,by simp,by simp,fun j h1 _ ae=>by omega⟩;rintro k af l hk ⟨rfl,aL,a7,ak⟩;obtain⟨af,rfl⟩:=nE aL a7;clear aL a7;obtain⟨m,hm⟩:∃ m,m=k+1:=⟨_,rfl⟩
 rw[<-hm] at ak ⊢;by_cases aM:m<g.ops.l.length
 ·obtain⟨x,ai,cE⟩:=bu (l:=g.ids.l) (k:=k) (by omega);obtain⟨y,ay,ch⟩:=bu (l:=g.ids.l) (k:=m) (by omega);have aR:IntKind.i64.wrap ((m:Int) - 1)=(k:Int) :=by rw[IntKind.wrap_i64]; omega
  have bE:IntKind.i64.wrap ((m:Int)+1)=((m+1:Nat) :Int) :=by rw[IntKind.wrap_i64]; omega
  have iT:=fJ ai;have tk:=fJ ay;have fF:cd (.au 32) (aN g.ids) (.int .i64 (k:Int))=some (.b0 (aQ x) 0) :=by simp[aN,ai]
  have De:cd (.au 32) (aN g.ids) (.int .i64 (m:Int))=some (.b0 (aQ y) 0) :=by simp[aN,ay]
  have a2:=cA (ar.ids x cE);have b4:=cA (ar.ids y ch);have gV:=z7 x y (ar.ids x cE) (ar.ids y ch);unfold fD at gV;change bx Tryz.prog GS 149 [.aI (aQ x),.aI (aQ y)] _ at gV;have eF:=eP x;have hY:=eP y;obtain⟨X,b3⟩:∃ X,X=aQ x:=⟨_,rfl⟩
  obtain⟨Y,dC⟩:∃ Y,Y=aQ y:=⟨_,rfl⟩
  rw[<-b3] at fF a2 gV eF;rw[<-dC] at De b4 gV hY;simp[g5,aM,aR,fF,De,a2,b4,arX];refine aW gV (by simp[aZ,ad.closed,eF,hY]) ?_;by_cases ah:cu x y<0
  ·have gv:¬ (0<=cu x y) :=by omega
   simp[gv,bE];refine⟨by omega,fun j h1 ae al=>?_⟩;have ep:cu (b2 g.ids.l (j - 1)) (b2 g.ids.l j)<0:=by
    by_cases aj:j=m
    ·rw[aj,show m - 1=k by omega,iT,tk]; exact ah
    ·exact ak j (by omega) ae al
   simpa [b2] using ep
  ·have gv:0<=cu x y:=by omega
   simp[gv];refine aK (congrArg (ad.int .i64) ?_) rfl;have dY:ea g.ids.l=false:=V6 (k:=m) (by omega) (by omega) (by rw[show m - 1=k by omega,iT,tk]; exact ah);unfold q9;rw[dY]; rfl
 ·have aA:ea g.ids.l=true:=V7 fun j h1 ae=>ak j (by omega) h1 ae
  have aj:=m3 aA;obtain⟨aX,_⟩:=D1 (z:=1) (by_:=8) (n:=g.ops.l.length) (k:=.i64) (k':=.i64) (zero:=[ad.int .i64 0]) (l:=[aY.cells 2 [aN g.ids,bM g.ops]]) rfl (by omega) (by rw[ml]; omega);obtain⟨bg,_⟩:=D1 (z:=1) (by_:=24) (n:=g.ops.l.length) (k:=.i64) (k':=.i64) (zero:=[ad.aV]) (l:=[aY.cells 2 [aN g.ids,bM g.ops],aY.cells g.ops.l.length (List.replicate g.ops.l.length (ad.int .i64 0))]) rfl (by omega) (by rw[ml]; omega);simp only[atC,NH (α:=Nat)] at aX bg;simp[g5,dv,aM,aX,bg];refine cw g.ops.l.length (fun m af l=>af 1=.ptr 0 0 2/\af 4=.au 1 1 0 g.ops.l.length g.ops.l.length g.ops.l.length/\af 5=.au 1 2 0 g.ops.l.length g.ops.l.length g.ops.l.length/\af 45=bM g.ops/\af 46=.int .i64 g.ops.l.length/\af 47=.int .i64 m ∧
   Yc g m 0 (af 6) l/\∀ i,i<m->mH g.ids.l (dB g.ops.l i)=true) ?_ ?_
  ·rintro m af l hm ⟨aL,bp,bf,uu,uv,uw,i4,fg⟩;obtain⟨dP,bT⟩:∃ v,af 6=v:=⟨_,rfl⟩
   rw[bT] at i4;obtain⟨af,rfl⟩:=EK aL bp bf bT uu uv uw;clear aL bp bf bT uu uv uw;by_cases py:m<g.ops.l.length
   ·obtain⟨o,aq,ds⟩:=bu py;have aR:IntKind.i64.wrap ((m:Int)+1)=((m+1:Nat) :Int) :=by rw[IntKind.wrap_i64]; omega
    have bG:cd (.au 11) (bM g.ops) (.int .i64 (m:Int))=some (.b0 (a1 o) 0) :=by simp[bM,aq]
    have iN:=ar.ops o ds;have gL:=aE o ds;have rX:dB g.ops.l m=o.br.l:=q2 aq;have n1:cz (.au 32) (aN o.br)=some (.int .i64 o.br.l.length) :=by simp[aN]
    have sZ:(a1 o).length=11:=rfl;have gC:∀ h:1<(a1 o).length,(a1 o)[1]'h=aN o.br:=fun _=>rfl
    obtain⟨O,dn⟩:∃ O,O=a1 o:=⟨_,rfl⟩
    rw[<-dn] at bG sZ gC;have hs:bt [ad.int .u32 0,.aV,.int .u64 0,.int .u8 0,.str [],.int .u8 0,.int .i64 0,.int .u64 0,.str [],.int .u32 0,.int .u32 0] 0 O=O:=ek (by rw[sZ]; rfl);simp[py,bG,sZ,gC,n1,hs,arX];obtain⟨zQ,Gp⟩:∃ zQ,zQ=l.length:=⟨_,rfl⟩
    rw[<-Gp];refine cw o.br.l.length (fun q af l=>af 1=.ptr 0 0 2/\af 4=.au 1 1 0 g.ops.l.length g.ops.l.length g.ops.l.length/\af 5=.au 1 2 0 g.ops.l.length g.ops.l.length g.ops.l.length/\af 6=dP/\af 7=.int .i64 m/\af 8=.ptr zQ 0 11/\af 45=bM g.ops/\af 46=.int .i64 g.ops.l.length/\af 47=.int .i64 m ∧
     af 53=aN o.br/\af 54=.int .i64 o.br.l.length/\af 55=.int .i64 q/\Yb g m q dP zQ O l/\∀ (j:Nat) (p:List B),j<q->o.br.l[j]? = some p->p∈g.ids.l) ?_ ?_
    ·rintro q af l bd ⟨aL,bp,bf,bT,dh,de,uu,uv,uw,Rh,Ri,Rj,pk,mj⟩;obtain⟨af,rfl⟩:=akt aL bp bf bT dh de uu uv uw Rh Ri Rj;clear aL bp bf bT dh de uu uv uw Rh Ri Rj;obtain⟨vs,cC,dU,hP,rest,rfl,fQ,nX,gu,lH,mT,ag,rE,oH⟩:=pk;by_cases yR:q<o.br.l.length
     ·obtain⟨p,aC,pz⟩:=bu yR;have bE:IntKind.i64.wrap ((q:Int)+1)=((q+1:Nat) :Int) :=by rw[IntKind.wrap_i64]; omega
      have hM:cd (.au 32) (aN o.br) (.int .i64 (q:Int))=some (.b0 (aQ p) 0) :=by simp[aN,aC]
      have Tb:=iN.ids p pz;have a2:=cA Tb;have eF:=eP p;have AG:=QM g ar aA p Tb;unfold cn cV at AG pp;obtain⟨X,b3⟩:∃ X,X=aQ p:=⟨_,rfl⟩
      rw[<-b3] at hM a2 eF AG;have m0:bt (rep 32 (.int .u8 0)) 0 X=X:=ek (by rw[a2]; rfl);simp[cW,yR,hM,a2,m0,arX];refine aW AG (by simp[aZ,ad.closed,eF,cJ,b6]) ?_;by_cases wK:p∈g.ids.l
      ·obtain⟨kG,eB⟩:=ar6.1 wK;have acG:=vU aA eB;have anJ:=(arY.1 eB).1;have anK:kG<g.ops.l.length:=by omega
       have kS:vs.length=g.ops.l.length:=by rw[fQ.oZ,nX.len]
       obtain⟨iJ,A2,_⟩:=bu (l:=vs) (k:=kG) (by omega);obtain⟨row,cI,_⟩:=bu (l:=cC) (k:=kG) (by rw[nX.len]; omega);obtain⟨l1,gj⟩:∃ l1,l1=cW g (fb g.ops.l m) vs (rest++[.cells 32 X,.cells 1 [.int .i64 (m:Int)]]) :=⟨_,rfl⟩
       have Gd:l4 l1 vs cC dU:=by rw[gj]; exact fQ.more _
       have Lp:l1.length=rest.length+5:=by rw[gj]; simp[cW]
       have mn:=nX.pQ kG row cI;obtain⟨a8,bQ,DO,aL,aT,a7,bp,bf⟩:=Gd.app (b:=rest.length+4) (k:=m) A2 cI (by rw[gj]; simp[cW]) (by omega) (by rw[ml]; omega);have dK:=bf 0 (by omega) (Bw Gd (by omega));have q1:=bf 1 (by omega) (Bw Gd (by omega));have dE:=bf 2 (by omega) (Bw Gd (by omega));obtain⟨fp,rfl⟩:∃ r,bQ=cW g (fb g.ops.l m) vs r:=Ow (dK.1.trans (by rw[gj]; rfl)) (q1.1.trans (by rw[gj]; rfl)) (dE.1.trans (by rw[gj]; rfl));have GN:cd (.au 1) (.au 1 2 0 g.ops.l.length g.ops.l.length g.ops.l.length) (.int .i64 (kG:Int))=some (.ptr 2 kG g.ops.l.length) :=by
        simp only[cd];rw[if_pos ⟨trivial,by omega,by omega⟩];simp
       rw[gj] at aL;unfold cW at aL;simp[wK,acG,GN,A2,aL];refine dt.cy ?_;have AZ:bt vs kG [a8]=vs.set kG a8:=ajq (by omega);simp[cW,bp,GN,AZ,kS];have k8:∀ c,3<=c->c<(cW g (fb g.ops.l m) vs rest).length->o9 cC dU c->(cW g (fb g.ops.l m) (vs.set kG a8) fp)[c]? = (cW g (fb g.ops.l m) vs rest)[c]?/\o9 (cC.set kG (row++[m])) DO c:=by
        intro c al eE aq;obtain⟨ce,bI⟩:=bf c (by simp[cW] at eE; omega) aq;exact⟨(AR al).trans (ce.trans (by rw[gj]; exact LI eE)),bI⟩
       have Lk:jI g.ops.l m≠[]->hP<(cW g (fb g.ops.l m) vs rest).length:=fun bU=>by
        rcases gu.lt with h | h
        ·rw[h] at lH;cases dS:jI g.ops.l m with
         | nil=>exact absurd dS bU
         | cons=>rw[dS] at lH; cases lH
        ·exact h
       have eC:=(arY.1 ag).1;obtain⟨f1,f2⟩:=k8 zQ rE eC oH;refine⟨by omega,yR,by rw[IntKind.wrap_i64]; omega,⟨⟨vs.set kG a8,cC.set kG (row++[m]),DO,hP,fp,rfl,?_,ag9 aj am nX (by rw[rX]; exact aC) eB cI,?_,lH,?_,f1.trans ag,rE,f2⟩⟩,fun j bZ ep gy=>?_⟩
       ·exact aT.frame fun b ag ⟨a,vh,h1,ae,al⟩=>by
         have aE:3<=b:=avm fun h=>Bw aT h a vh h1 ae al
         exact AR aE
       ·by_cases bU:jI g.ops.l m=[]
        ·rw[bU] at lH gu ⊢;rw[jC.1 lH];exact .nil _
        ·obtain⟨h1,ae⟩:=mT.resolve_left bU;exact gu.frame fun h=>(k8 hP h1 (Lk bU) ae).1
       ·by_cases bU:jI g.ops.l m=[]
        ·exact .inl bU
        ·obtain⟨h1,ae⟩:=mT.resolve_left bU;exact .inr ⟨h1,(k8 hP h1 (Lk bU) ae).2⟩
       ·by_cases ads:j=q
        ·subst ads; rw[aC] at gy; obtain rfl:=Option.some.inj gy; exact wK
        ·exact mj j bZ (by omega) gy
      ·simp[wK];refine aK (congrArg (ad.int .i64) ?_) rfl;have dY:¬ Ea g.ids.l g.ops.l=true:=fun h=>by
        have:=of_decide_eq_true h o ds;exact wK (of_decide_eq_true this p pz)
       unfold q9;rw[if_pos aA,if_neg dY]
     ·have qK:q=o.br.l.length:=by omega
      rw[qK] at nX;rw[<-rX] at nX;have RI:=ag7 nX (by rw[rX]; exact gL);have kS:vs.length=g.ops.l.length:=by rw[fQ.oZ,nX.len]
      have Tk:eZ (cW g (fb g.ops.l m) vs rest) (.ptr zQ 1 11)=some (O,1) :=by simp only[eZ,ag]; rfl
      have Da:cd (.au 1) (.au 1 1 0 g.ops.l.length g.ops.l.length g.ops.l.length) (.int .i64 (m:Int))=some (.ptr 1 m g.ops.l.length) :=by
       simp only[cd];rw[if_pos ⟨trivial,by omega,by omega⟩];simp
      have LZ:kw 1 (cW g (fb g.ops.l m) vs rest) (.ptr 1 m g.ops.l.length) (.int .i64 o.br.l.length)=some (cW g (fb g.ops.l (m+1)) vs rest) :=by
       have h1:(cW g (fb g.ops.l m) vs rest)[1]? = some (.cells g.ops.l.length ((fb g.ops.l m).map kI)) :=rfl;simp only[kw,ad.cells,h1];rw[if_pos (by simp; omega)];have ae:bt ((fb g.ops.l m).map kI) m [ad.int .i64 o.br.l.length]=(fb g.ops.l (m+1)).map kI:=by
        rw[<-aln py,rX];exact oW kI (fb g.ops.l m) m _ (by rw[Xt]; exact py)
       rw[ae]; rfl
      have Dv:eZ (cW g (fb g.ops.l (m+1)) vs rest) (.ptr 1 m g.ops.l.length)=some ((fb g.ops.l (m+1)).map kI,m) :=by
       have h1:(cW g (fb g.ops.l (m+1)) vs rest)[1]? = some (.cells g.ops.l.length ((fb g.ops.l (m+1)).map kI)) :=rfl;simp only[eZ,h1]; simp
      have GL:((fb g.ops.l (m+1)).map kI)[m]? = some (.int .i64 o.br.l.length) :=by
       rw[ar5,IZ py,if_pos (by omega),rX]; rfl
      have an0:∀ h:m<((fb g.ops.l (m+1)).map kI).length,((fb g.ops.l (m+1)).map kI)[m]'h=.int .i64 o.br.l.length:=fun h=>(arY.1 GL).2
      have RH:O[1]? = some (aN o.br) :=by rw[ar1 (by rw[sZ]; omega),gC]
      have wk:l4 (cW g (fb g.ops.l (m+1)) vs rest) vs cC dU:=fQ.frame fun b ag ⟨a,vh,h1,ae,al⟩=>AR (avm fun h=>Bw fQ h a vh h1 ae al)
      have Gg:bB 1 (cW g (fb g.ops.l (m+1)) vs rest) dP hP ((jI g.ops.l m).map hX) :=by
       by_cases bU:jI g.ops.l m=[]
       ·rw[bU] at lH ⊢;rw[jC.1 lH];exact .nil _
       ·exact gu.frame fun _=>AR (mT.resolve_left bU).1
      have Gm:∀ i,i<m+1->mH g.ids.l (dB g.ops.l i)=true:=fun i ax=>by
       by_cases adl:i=m
       ·subst adl;rw[rX];refine decide_eq_true fun p aC=>?_
        obtain⟨j,ep⟩:=ar6.1 aC;exact mj j p (by rw[qK]; exact (arY.1 ep).1) ep
       ·exact fg i (by omega)
      by_cases av:o.br.l.length=0
      ·have adF:cz (.au 32) (aN o.br)=some (.int .i64 0) :=by rw[n1,av]; rfl
       have aeA:kw 1 (cW g (fb g.ops.l m) vs rest) (.ptr 1 m g.ops.l.length) (.int .i64 0)=some (cW g (fb g.ops.l (m+1)) vs rest) :=by rw[av] at LZ; exact LZ
       have ac7:((fb g.ops.l (m+1)).map kI)[m]? = some (.int .i64 0) :=by rw[av] at GL; exact GL
       have qL:jI g.ops.l (m+1)=jI g.ops.l m++[m] :=by
        rw[VR,rX,asF.1 av]; rfl
       obtain⟨gM,MS,k0,h4⟩:∃ gM,bB 1 (cW g (fb g.ops.l (m+1)) vs (rest++[.cells 1 [.int .i64 (m:Int)]])) dP gM ((jI g.ops.l m).map hX)/\3<=gM/\o9 cC dU gM:=by
        by_cases bU:jI g.ops.l m=[]
        ·rw[bU] at lH ⊢;rw[jC.1 lH];exact⟨(cW g (fb g.ops.l (m+1)) vs (rest++[.cells 1 [.int .i64 (m:Int)]])).length,.nil _,by simp[cW],Ec wk (by simp[cW])⟩
        ·exact⟨hP,Gg.more _,(mT.resolve_left bU).1,(mT.resolve_left bU).2⟩
       have mn:(jI g.ops.l m).length<=m:=by
        have:=atc (fun k=>(dB g.ops.l k).isEmpty) (List.range m);simpa [jI] using this
       obtain⟨sp,Mz,bQ,aL,aT,a7,bp,bf,bT⟩:=pb (by_:=8) MS (x:=.au 1 (rest.length+3) 0 1 1 1) (xs:=[hX m]) (by simp[dA,cW,hX]) (by simp[hX]) (by omega) (by omega) (by rw[ml]; simp; omega);have Lr:(cW g (fb g.ops.l (m+1)) vs (rest++[.cells 1 [.int .i64 (m:Int)]])).length=rest.length+4:=by simp[cW]
       obtain⟨fp,rfl⟩:∃ r,bQ=cW g (fb g.ops.l (m+1)) vs r:=Ow ((bp 0 (by omega) (by omega)).trans rfl) ((bp 1 (by omega) (by omega)).trans rfl) ((bp 2 (by omega) (by omega)).trans rfl);have LN:cW g (fb g.ops.l (m+1)) vs rest++[aY.cells 1 [.int .i64 (m:Int)]]=cW g (fb g.ops.l (m+1)) vs (rest++[.cells 1 [.int .i64 (m:Int)]]) :=rfl;have GV:(cW g (fb g.ops.l (m+1)) vs rest).length=rest.length+3:=by simp[cW]
       simp[yR,Tk,RH,adF,Da,aeA,Dv,ac7,LN,GV,aL];refine dt.cy ?_;simp;have L7:cx sp=false:=by
        cases aH:cx sp with
        | true=>have:=(bT.1 (jC.1 aH)).2; cases this
        | false=>rfl
       refine⟨py,by rw[IntKind.wrap_i64]; omega,⟨⟨vs,cC,dU,Mz,fp,rfl,?_,RI,?_,?_,.inr ⟨?_,?_⟩⟩⟩,Gm⟩
       ·exact wk.frame fun b ag ⟨a,vh,h1,ae,al⟩=>(bp b (by omega) (fun e=>h4 a vh h1 ae (by omega))).trans (LI ag)
       ·rw[qL,asv]; exact aT
       ·rw[L7,qL]; simp
       ·rcases bf with e | e<;>omega
       ·rcases bf with e | e
        ·rw[e]; exact h4
        ·exact Ec wk (by omega)
      ·have qL:jI g.ops.l (m+1)=jI g.ops.l m:=by
        rw[VR,rX];have:o.br.l.isEmpty=false:=by cases dS:o.br.l with | nil=>rw[dS] at av; exact absurd rfl av | cons=>rfl
        rw[this]; simp
       simp[yR,Tk,RH,n1,Da,LZ,Dv,GL,av];exact⟨py,by rw[IntKind.wrap_i64]; omega,⟨⟨vs,cC,dU,hP,rest,rfl,wk,RI,by rw[qL]; exact Gg,by rw[qL]; exact lH,by rw[qL]; exact mT⟩⟩,Gm⟩
    ·simp;obtain⟨vs,cC,dU,hP,rest,rfl,fQ,nX,gu,lH,mT⟩:=i4;refine⟨⟨vs,cC,dU,hP,rest++[.cells 11 O],rfl,fQ.more _,nX,gu.more _,lH,mT,by rw[Gp,ar8 (ar0 _)]; simp,by rw[Gp]; simp[cW],Ec fQ (by rw[Gp]; exact ar0 _)⟩⟩
   ·have i7:m=g.ops.l.length:=by omega
    subst i7;obtain⟨vs,cC,dU,afy,aiq,rfl,RG,nX,qo,ab5,ab4⟩:=i4;have Kw:=ag6 nX;have kS:vs.length=g.ops.l.length:=by rw[RG.oZ,nX.len]
    have fC:Ea g.ids.l g.ops.l=true:=decide_eq_true fun o ds=>by
     obtain⟨j,ep⟩:=ar6.1 ds;have:=fg j (arY.1 ep).1
     rwa [q2 ep] at this
    have RE:=afL (ids:=g.ids.l) (ops:=g.ops.l) am;rw[<-alm] at RE;have ab6:sE g vs cC dU (fb g.ops.l g.ops.l.length) (jI g.ops.l g.ops.l.length) dP aiq:=⟨⟨afy,RG,qo,ab5,ab4⟩⟩
    simp;refine cw g.ops.l.length (fun d af l=>af 1=.ptr 0 0 2/\af 4=.au 1 1 0 g.ops.l.length g.ops.l.length g.ops.l.length/\af 5=.au 1 2 0 g.ops.l.length g.ops.l.length g.ops.l.length/\af 13=.int .i64 d ∧
     ∃ W R rest,l=cW g W vs rest/\sE g vs cC dU W R (af 6) rest/\sB g.ids.l g.ops.l [] d 0 R W) ?_ ?_
    ·rintro d af l bN ⟨aL,bp,bf,mO,W,R,rest,rfl,i4,bl⟩;obtain⟨dP,bT⟩:∃ v,af 6=v:=⟨_,rfl⟩
     rw[bT] at i4;obtain⟨af,rfl⟩:=ky aL bp bf bT mO;clear aL bp bf bT mO;have KK:cz (.au 1) dP=some (.int .i64 R.length) :=by obtain⟨hP,_,gu,_⟩:=i4; have:=gu.len; simpa using this
     have lH:R.length<=g.ops.l.length:=by
      have:=vl (b:=List.range g.ops.l.length) bl.jG fun x ai=>asJ.2 (bl.ph x ai).1
      simpa using this
     by_cases qt:d<R.length
     ·obtain⟨a,az,acf⟩:=bu qt;have acg:=(bl.ph a acf).1;have aR:IntKind.i64.wrap ((d:Int)+1)=((d+1:Nat) :Int) :=by rw[IntKind.wrap_i64]; omega
      obtain⟨row,cI,_⟩:=bu (l:=cC) (k:=a) (by rw[nX.len]; exact acg);obtain⟨iJ,A2,_⟩:=bu (l:=vs) (k:=a) (by omega);obtain⟨hP,fQ,gu,RJ,mT⟩:=i4;obtain⟨Nf,Cj,BV,dx,di,gA,mI⟩:=gu.q.get (k:=.i64) (i:=d) (e:=hX a) (by rw[ar5,az]; rfl);have p6:=one_cell (c:=.int .i64 (a:Int)) mI;have GN:cd (.au 1) (.au 1 2 0 g.ops.l.length g.ops.l.length g.ops.l.length) (.int .i64 (a:Int))=some (.ptr 2 a g.ops.l.length) :=by
       simp only[cd];rw[if_pos ⟨trivial,by omega,by omega⟩];simp
      have Dw:∀ ud mC,eZ (cW g ud vs mC) (.ptr 2 a g.ops.l.length)=some (vs,a) :=fun ud mC=>by
       have h1:(cW g ud vs mC)[2]? = some (.cells g.ops.l.length vs) :=rfl;simp only[eZ,h1]; simp
      have L8:=(fQ.own a iJ row A2 cI).1;have aeI:cz (.au 1) iJ=some (.int .i64 row.length) :=by have:=L8.len; simpa using this
      have mn:=nX.pQ a row cI;simp[KK,qt,dx,di,p6,GN,Dw,A2,aeI];refine cw row.length (fun j af l=>af 1=.ptr 0 0 2/\af 4=.au 1 1 0 g.ops.l.length g.ops.l.length g.ops.l.length/\af 5=.au 1 2 0 g.ops.l.length g.ops.l.length g.ops.l.length/\af 13=.int .i64 d/\af 106=iJ/\af 107=.int .i64 row.length/\af 108=.int .i64 j ∧
       ∃ W R rest,l=cW g W vs rest/\sE g vs cC dU W R (af 6) rest/\sB g.ids.l g.ops.l row d j R W/\R[d]? = some a) ?_ ?_
      ·rintro j af l Lk ⟨aL,bp,bf,mO,Q6,Q7,Q8,W,R,rest,rfl,i4,bl,az⟩;obtain⟨dP,bT⟩:∃ v,af 6=v:=⟨_,rfl⟩
       rw[bT] at i4;obtain⟨af,rfl⟩:=Xa aL bp bf bT mO Q6 Q7 Q8;clear aL bp bf bT mO Q6 Q7 Q8;by_cases e3:j<row.length
       ·obtain⟨k,hk,mX⟩:=bu e3;have g4:=Kw.lt a row cI k mX;obtain⟨x,ai,A7,aou,CW⟩:=afM am aj Kw bl az cI hk;have aov:(dB g.ops.l k).length<=4:=by
         obtain⟨ck,er,S7⟩:=bu g4;rw[q2 er]; exact aE ck S7
        have aR:IntKind.i64.wrap ((j:Int)+1)=((j+1:Nat) :Int) :=by rw[IntKind.wrap_i64]; omega
        have bE:IntKind.i64.wrap (x - 1)=x - 1:=by rw[IntKind.wrap_i64]; omega
        obtain⟨hP,fQ,gu,RJ,mT⟩:=id i4;have L8:=(fQ.own a iJ row A2 cI).1;obtain⟨Nf,Cj,BV,dx,di,gA,mI⟩:=L8.q.get (k:=.i64) (i:=j) (e:=hX k) (by rw[ar5,hk]; rfl);have p6:=one_cell (c:=.int .i64 (k:Int)) mI;have Da:cd (.au 1) (.au 1 1 0 g.ops.l.length g.ops.l.length g.ops.l.length) (.int .i64 (k:Int))=some (.ptr 1 k g.ops.l.length) :=by
         simp only[cd];rw[if_pos ⟨trivial,by omega,by omega⟩];simp
        have anI:=bl.wl;have Dv:eZ (cW g W vs rest) (.ptr 1 k g.ops.l.length)=some (W.map kI,k) :=by
         have h1:(cW g W vs rest)[1]? = some (.cells g.ops.l.length (W.map kI)) :=rfl;simp only[eZ,h1]; simp
        have ec:(W.map kI)[k]? = some (.int .i64 x) :=by rw[ar5,ai]; rfl
        have b1:kw 1 (cW g W vs rest) (.ptr 1 k g.ops.l.length) (.int .i64 (x - 1))=some (cW g (W.set k (x - 1)) vs rest) :=by
         have h1:(cW g W vs rest)[1]? = some (.cells g.ops.l.length (W.map kI)) :=rfl;simp only[kw,ad.cells,h1];rw[if_pos (by simp; omega)];have ae:bt (W.map kI) k [ad.int .i64 (x - 1)]=(W.set k (x - 1)).map kI:=oW kI W k _ (by omega);rw[ae]; rfl
        have Dw:eZ (cW g (W.set k (x - 1)) vs rest) (.ptr 1 k g.ops.l.length)=some ((W.set k (x - 1)).map kI,k) :=by
         have h1:(cW g (W.set k (x - 1)) vs rest)[1]? = some (.cells g.ops.l.length ((W.set k (x - 1)).map kI)) :=rfl;simp only[eZ,h1]; simp
        have GK:((W.set k (x - 1)).map kI)[k]? = some (.int .i64 (x - 1)) :=by rw[ar5,ar9 (by omega)]; rfl
        have KL:sE g vs cC dU (W.set k (x - 1)) R dP rest:=i4.setW;obtain⟨hT,Gi⟩:∃ hT,hT=W.set k (x - 1) :=⟨_,rfl⟩
        rw[<-Gi] at b1 Dw GK KL CW;by_cases av:x - 1=0
        ·rw[if_pos av] at CW;have c4:IntKind.i64.wrap (x - 1)=0:=by rw[bE]; exact av
         rw[av] at b1 GK;have anC:R.length<=g.ops.l.length:=by
          have:=vl (b:=List.range g.ops.l.length) bl.jG fun x ai=>asJ.2 (bl.ph x ai).1
          simpa using this
         obtain⟨a8,fp,lV,sj⟩:=KL.push k (by rw[ml]; omega);have LN:cW g hT vs rest++[aY.cells 1 [.int .i64 (k:Int)]]=cW g hT vs (rest++[.cells 1 [.int .i64 (k:Int)]]) :=rfl;have GV:(cW g hT vs rest).length=rest.length+3:=by simp[cW]
         simp[e3,dx,di,p6,Da,Dv,ec,c4,b1,Dw,GK,LN,GV,lV];refine dt.cy ?_;simp[e3,aR];exact⟨hT,R++[k],fp,rfl,sj,CW,by rw[arZ (arY.1 az).1]; exact az⟩
        ·rw[if_neg av] at CW;simp[e3,dx,di,p6,Da,Dv,ec,bE,b1,Dw,GK,av,aR];exact⟨hT,R,rest,rfl,KL,CW,az⟩
       ·have adr:j=row.length:=by omega
        subst adr;simp[e3];exact⟨by omega,by rw[IntKind.wrap_i64]; omega,W,R,rest,rfl,i4,afJ Kw bl az cI⟩
      ·simp;exact⟨W,R,rest,rfl,⟨⟨hP,fQ,gu,RJ,mT⟩⟩,afK bl,az⟩
     ·have acO:d=R.length:=by have:=bl.dl; omega
      subst acO;obtain⟨k0,h4⟩:=afI am aj bl;by_cases qD:R.length<g.ops.l.length
      ·simp[KK,qt,cW,dv,qD];refine aK (congrArg (ad.int .i64) ?_) rfl;unfold q9;rw[if_pos aA,if_pos fC,if_neg (fun h=>by have:=h4.2 h; omega)]
      ·simp[KK,qt,cW,dv,qD];refine aK (congrArg (ad.int .i64) ?_) rfl;unfold q9;rw[if_pos aA,if_pos fC,if_pos (h4.1 (by omega))]
    ·simp;exact⟨_,_,_,rfl,ab6,RE⟩
  ·simp;refine⟨⟨List.replicate g.ops.l.length .aV,List.replicate g.ops.l.length [],fun _=>0,0,[],?_,⟨by simp,fun a v row aw aer=>?_,fun a b m9 oe _ az _ Ly _=>?_⟩,ag8 _ _,.nil _,rfl,.inl rfl⟩⟩
   ·unfold cW; rw[alo,au6]; rfl
   ·have h1:=atv (ar4 aw);have ae:=atv (ar4 aer);subst h1 ae;exact⟨.nil _,rfl,.inl rfl⟩
   ·exact absurd (atv (ar4 az)) Ly
set_option maxHeartbeats 4000000 in
theorem BR (g:bc) (ar:ei g) :bx Tryz.prog GS 52 [cn g] (.int .i64 (dm g)) :=by
 refine bH Tryz.checked.mixed bD ?_;apply bm Tryz.func52 [];have cJ:=eb g.ids;have b6:=jo g.ops;have pp:=Fq g;have dv:cz (.au 11) (bM g.ops)=some (.int .i64 g.ops.l.length) :=by simp[bM]
 have g5:cz (.au 32) (aN g.ids)=some (.int .i64 g.ids.l.length) :=by simp[aN]
 have bn:=ar.c0;by_cases iM:60<(g.ops.l.length:Int)
 ·simp[cn,cV,dv,iM];refine aK (congrArg (ad.int .i64) ?_) rfl;unfold dm; rw[if_pos (by omega)]
 by_cases am:g.ids.l.length=g.ops.l.length
 ·have dp:(g.ids.l.length:Int)=(g.ops.l.length:Int) :=by omega
  simp[cn,cV,dv,g5,iM,dp];refine cw g.ops.l.length (fun k af l=>(∃ rest,l=.cells 2 [aN g.ids,bM g.ops] ::rest)/\af 1=.ptr 0 0 2/\af 19=bM g.ops/\af 20=.int .i64 g.ops.l.length/\af 21=.int .i64 k/\∀ j,j<k->pi g j=true) ?_ (by simp);rintro k af l hk ⟨⟨rest,rfl⟩,aL,sT,Rb,ut,ak⟩;obtain⟨af,rfl⟩:=jh aL sT Rb ut;clear aL sT Rb ut;by_cases cH:k<g.ops.l.length
  ·obtain⟨o,aq,ds⟩:=bu cH;obtain⟨x,ai,cE⟩:=bu (l:=g.ids.l) (k:=k) (by omega);have ef:=FY aq ai;have aR:IntKind.i64.wrap ((k:Int)+1)=((k+1:Nat) :Int) :=by rw[IntKind.wrap_i64]; omega
   have bG:cd (.au 11) (bM g.ops) (.int .i64 (k:Int))=some (.b0 (a1 o) 0) :=by simp[bM,aq]
   have yx:cd (.au 32) (aN g.ids) (.int .i64 (k:Int))=some (.b0 (aQ x) 0) :=by simp[aN,ai]
   have aw:=ak3 o (ar.ops o ds);have fv:=ON o (ar.ops o ds);change bx Tryz.prog GS 94 [.aI (a1 o)] (.bJ [.aI (aQ (cQ o)),.int .i64 (fy o)]) at fv;have rK:=k5 o;have a2:=cA (ar.ids x cE);have CV:=cA (Mf o);have bO:(a1 o).length=11:=rfl;have heq:=Hr (Mf o) (ar.ids x cE);have mc:¬ pi g k=true->dm g=8:=fun h=>by
    unfold dm;rw[if_neg (by omega),if_pos am,if_neg fun aH=>h ((Al g).1 aH k cH)]
   obtain⟨O,dn⟩:∃ O,O=a1 o:=⟨_,rfl⟩
   obtain⟨X,b3⟩:∃ X,X=aQ x:=⟨_,rfl⟩
   obtain⟨I,uz⟩:∃ I,I=aQ (cQ o) :=⟨_,rfl⟩
   rw[<-dn] at bG aw fv rK bO;rw[<-b3] at yx a2 heq;rw[<-uz] at fv heq CV;have hs:bt [ad.int .u32 0,.aV,.int .u64 0,.int .u8 0,.str [],.int .u8 0,.int .i64 0,.int .u64 0,.str [],.int .u32 0,.int .u32 0] 0 O=O:=ek (by rw[bO]; rfl);have LY:bt (rep 32 (.int .u8 0)) 0 I=I:=ek (by rw[CV]; rfl);simp[cH,bG,bO,hs,arX];refine aW fv (by simp[aZ,ad.closed,rK]) ?_;by_cases aB:fy o=0
   ·by_cases fF:cQ o=x
    ·simp[aB,CV,LY,yx,a2,heq,fF,bO,arX];refine aW aw (by simp[aZ,ad.closed,rK]) ?_;by_cases ta:rf o=0
     ·simp[ta,cH,aR];intro j aj;by_cases fB:j=k
      ·subst fB; rw[ef]; simp[ta,fF]
      ·exact ak j (by omega)
     ·have ag:¬ pi g k=true:=fun h=>by rw[ef] at h; simp[ta] at h
      simp[ta];exact aK (congrArg (ad.int .i64) (mc ag).symm) rfl
    ·have ag:¬ pi g k=true:=fun h=>by rw[ef] at h; simp[fF] at h
     simp[aB,CV,LY,yx,a2,heq,fF,bO,arX];exact aK (congrArg (ad.int .i64) (mc ag).symm) rfl
   ·have ag:¬ pi g k=true:=fun h=>by
     rw[ef,ar3,decide_eq_true_eq] at h;exact aB (BQ h.1)
    simp[aB,CV,LY,yx,a2,heq,bO,arX];exact aK (congrArg (ad.int .i64) (mc ag).symm) rfl
  ·have mg:k=g.ops.l.length:=by omega
   have fg:FX g=true:=(Al g).2 fun j aj=>ak j (by omega)
   have aE:∀ o∈g.ops.l,o.br.l.length<=4:=fun o ds=>by
    obtain⟨j,aj⟩:=ar6.1 ds;obtain⟨x,ai,_⟩:=bu (l:=g.ids.l) (k:=j) (by have:=(arY.1 aj).1; omega);have h1:=(Al g).1 fg j (arY.1 aj).1;rw[FY aj ai,ar3,decide_eq_true_eq] at h1;exact xc (BQ h1.1)
   have pC:=ai0 g ar am (by omega) aE;unfold cn cV at pC pp;simp[cH];refine aW pC (by simp[aZ,pp]) ?_;simp;refine aK (congrArg (ad.int .i64) ?_) rfl;unfold dm;rw[if_neg (by omega),if_pos am,if_pos fg]
 ·have dp:¬ (g.ids.l.length:Int)=(g.ops.l.length:Int) :=by omega
  simp[cn,cV,dv,g5,iM,dp];refine aK (congrArg (ad.int .i64) ?_) rfl;unfold dm; rw[if_neg (by omega),if_neg am]
def ux (o:bq) :Bool:=decide (20<o.br.l.length)||(decide (100<o.act.key.length)||decide (100<o.act.val.text.length))
theorem ahC (o:bq) :bx Tryz.prog GS 38 [.aI (a1 o)] (.bool (ux o)) :=by
 refine bH Tryz.checked.mixed bD ?_;apply bm Tryz.func38 [];unfold ux;have n1:cz (.au 32) (aN o.br)=some (.int .i64 o.br.l.length) :=by simp[aN]
 by_cases h1:20<o.br.l.length
 ·have c3:(20:Int)<(o.br.l.length:Int) :=by omega
  simp[a1,n1,h1,c3];exact aK rfl rfl
 ·have c3:¬ (20:Int)<(o.br.l.length:Int) :=by omega
  by_cases ae:100<o.act.key.length
  ·have gh:(100:Int)<(o.act.key.length:Int) :=by omega
   simp[a1,n1,h1,c3,ae,gh];exact aK rfl rfl
  ·have gh:¬ (100:Int)<(o.act.key.length:Int) :=by omega
   simp[a1,n1,h1,c3,ae,gh];refine aK (congrArg ad.bool ?_) rfl;by_cases al:100<o.act.val.text.length
   ·have wh:(100:Int)<(o.act.val.text.length:Int) :=by omega
    simp[al,wh]
   ·have wh:¬ (100:Int)<(o.act.val.text.length:Int) :=by omega
    simp[al,wh]
def we (g:bc) :Bool:=decide (∃ o∈g.ops.l.take 71,ux o=true)||(decide (16<g.ops.l.length/\g.ops.l.length<=60)||(decide (70<g.ops.l.length)||decide (70<g.ids.l.length)))
theorem ahB (g:bc) :bx Tryz.prog GS 10 [cn g] (.bool (we g)) :=by
 refine bH Tryz.checked.mixed bD ?_;apply bm Tryz.func10 [];have dv:cz (.au 11) (bM g.ops)=some (.int .i64 g.ops.l.length) :=by simp[bM]
 have g5:cz (.au 32) (aN g.ids)=some (.int .i64 g.ids.l.length) :=by simp[aN]
 simp[cn,cV];refine cw (min g.ops.l.length 71) (fun k af l=>l=[.cells 2 [aN g.ids,bM g.ops]]/\af 1=.ptr 0 0 2/\af 3=.int .i64 k/\∀ (j:Nat) (o:bq),j<k->g.ops.l[j]? = some o->ux o=false) ?_ (by simp);rintro k af l hk ⟨rfl,aL,a7,ak⟩;obtain⟨af,rfl⟩:=nE aL a7;clear aL a7;by_cases cH:k<g.ops.l.length
 ·by_cases SF:k<=70
  ·obtain⟨o,aq,ds⟩:=bu cH;have aR:IntKind.i64.wrap ((k:Int)+1)=((k+1:Nat) :Int) :=by rw[IntKind.wrap_i64]; omega
   have bG:cd (.au 11) (bM g.ops) (.int .i64 (k:Int))=some (.b0 (a1 o) 0) :=by simp[bM,aq]
   have aw:=ahC o;have rK:=k5 o;have bO:(a1 o).length=11:=rfl;have Lm:(k:Int)<=70:=by omega
   have mX:k<min g.ops.l.length 71:=by omega
   obtain⟨O,dn⟩:∃ O,O=a1 o:=⟨_,rfl⟩
   rw[<-dn] at bG aw rK bO;simp[dv,cH,SF,Lm,bG,bO,arX];refine aW aw (by simp[aZ,ad.closed,rK]) ?_;by_cases pr:ux o=true
   ·simp[pr];refine aK (congrArg ad.bool ?_) rfl;unfold we;rw[decide_eq_true ⟨o,ar4 (i:=k) (by rw[asf (by omega)]; exact aq),pr⟩]; rfl
   ·rw[auN] at pr;simp[pr,aR];refine⟨by omega,fun j ck aj er=>?_⟩;by_cases fB:j=k
    ·subst fB; rw[aq] at er; obtain rfl:=Option.some.inj er; exact pr
    ·exact ak j ck (by omega) er
  ·have Lm:¬ (k:Int)<=70:=by omega
   have aF:¬ ∃ o∈g.ops.l.take 71,ux o=true:=fun ⟨o,ds,pr⟩=>by
    obtain⟨j,aj⟩:=ar6.1 ds;have e3:=(arY.1 aj).1;rw[asc] at e3;rw[asf (by omega)] at aj;rw[ak j o (by omega) aj] at pr; cases pr
   have aX:(16:Int)<(g.ops.l.length:Int) :=by omega
   have bg:¬ (g.ops.l.length:Int)<=60:=by omega
   have a3:(70:Int)<(g.ops.l.length:Int) :=by omega
   simp[dv,g5,cH,SF,Lm,aX,bg,a3];refine aK (congrArg ad.bool ?_) rfl;unfold we;simp[show 70<g.ops.l.length by omega]
 ·have aF:¬ ∃ o∈g.ops.l.take 71,ux o=true:=fun ⟨o,ds,pr⟩=>by
   obtain⟨j,aj⟩:=ar6.1 ds;have e3:=(arY.1 aj).1;rw[asc] at e3;rw[asf (by omega)] at aj;rw[ak j o (by omega) aj] at pr; cases pr
  have ac8:we g=(decide (16<g.ops.l.length/\g.ops.l.length<=60)||(decide (70<g.ops.l.length)||decide (70<g.ids.l.length))) :=by
   unfold we; rw[decide_eq_false aF]; rfl
  rw[ac8];have d1:decide ((16:Int)<(g.ops.l.length:Int))=decide (16<g.ops.l.length) :=by rw[decide_eq_decide]; omega
  have d2:decide ((g.ops.l.length:Int)<=60)=decide (g.ops.l.length<=60) :=by rw[decide_eq_decide]; omega
  have d3:decide ((70:Int)<(g.ops.l.length:Int))=decide (70<g.ops.l.length) :=by rw[decide_eq_decide]; omega
  have d4:decide ((70:Int)<(g.ids.l.length:Int))=decide (70<g.ids.l.length) :=by rw[decide_eq_decide]; omega
  by_cases aX:16<g.ops.l.length
  ·have xR:(16:Int)<(g.ops.l.length:Int) :=by omega
   by_cases bg:g.ops.l.length<=60
   ·have E1:(g.ops.l.length:Int)<=60:=by omega
    simp[dv,g5,cH,aX,xR,bg,E1];exact aK rfl rfl
   ·have E1:¬ (g.ops.l.length:Int)<=60:=by omega
    by_cases a3:70<g.ops.l.length
    ·have B7:(70:Int)<(g.ops.l.length:Int) :=by omega
     simp[dv,g5,cH,aX,xR,bg,E1,a3,B7];exact aK rfl rfl
    ·have B7:¬ (70:Int)<(g.ops.l.length:Int) :=by omega
     simp[dv,g5,cH,aX,xR,bg,E1,a3,B7];exact aK (congrArg ad.bool d4) rfl
  ·have xR:¬ (16:Int)<(g.ops.l.length:Int) :=by omega
   have a3:¬ 70<g.ops.l.length:=by omega
   have B7:¬ (70:Int)<(g.ops.l.length:Int) :=by omega
   simp[dv,g5,cH,aX,xR,a3,B7];exact aK (congrArg ad.bool d4) rfl
def BO (o:bq) :bq:={ o with br:=some o.br.l }
def IK (g:bc) :bc:=⟨some g.ids.l,dW (g.ops.l.map BO)⟩
def Iy (a b:bq) :Bool:=decide (a.hq=b.hq)&&(decide (a.br.l=b.br.l)&&(decide (a.cl=b.cl)&&(fk (he a.act) (he b.act)&&(decide (a.e=b.e)&&decide (a.s=b.s)))))
theorem Wm (a:bq) :Iy a a=true:=by unfold Iy; simp[he,fk,ad.beq]
def iU (l:List bq) (k:Nat) :bq:=l.getD k ⟨0,none,0,⟨0,[],⟨0,0,0,[]⟩⟩,0,0⟩
theorem oR {l:List bq} {k:Nat} {o:bq} (h:l[k]? = some o) :iU l k=o:=by unfold iU; rw[asq,h]; rfl
def BE (a b:bc) :Bool:=decide (a.ids.l=b.ids.l)&&(decide (a.ops.l.length=b.ops.l.length)&&decide (∀ k,k<a.ops.l.length->Iy (iU a.ops.l k) (iU b.ops.l k)=true))
theorem aiL (a:bc) :BE a a=true:=by unfold BE; simp[Wm]
structure kB (g:bc) :Prop where
 n60:g.ops.l.length<=60
 len:g.ids.l.length=g.ops.l.length
 oE:∀ (k:Nat) (o:bq) (x:List B),g.ops.l[k]? = some o->g.ids.l[k]? = some x->rf o=0/\cQ o=x
 ea:ea g.ids.l=true
 H7:∀ o∈g.ops.l,∀ p∈o.br.l,p∈g.ids.l
 all:∀ i,i<g.ops.l.length->rk g.ids.l g.ops.l i
theorem kX {g:bc} (h:dm g=0) :kB g:=by
 unfold dm at h;split at h
 ·cases h
 ·rename_i iM;split at h
  ·rename_i am;split at h
   ·rename_i ef;unfold q9 at h;split at h
    ·rename_i aA;split at h
     ·rename_i fC;split at h
      ·rename_i n4;refine⟨by omega,am,fun k o x aq ai=>?_,aA,fun o ds p aC=>?_,(UT am (m3 aA)).1 n4⟩
       ·have:=(Al g).1 ef k (arY.1 aq).1;rw[FY aq ai,ar3,decide_eq_true_eq,decide_eq_true_eq] at this;exact this
       ·exact of_decide_eq_true (of_decide_eq_true fC o ds) p aC
      ·cases h
     ·cases h
    ·cases h
   ·cases h
  ·cases h
def HL (g:bc) (x:List B) :Int:=if dm g=0 then (if x∈g.ids.l then (ru g.ids.l x:Int) else 0) else 0
def HK (g:bc) (x:List B) :Int:=if dm g=0 then (if x∈g.ids.l then 0 else 6) else dm g
set_option maxHeartbeats 2000000 in
theorem af5 (g:bc) (ar:ei g) (x:List B) (ai:x.length=32) :bx Tryz.prog GS 132 [cn g,.aI (aQ x)] (.bJ [.int .i64 (HL g x),.int .i64 (HK g x)]) :=by
 refine bH Tryz.checked.mixed bD ?_;apply bm Tryz.func132 [];unfold HL HK;have cJ:=eb g.ids;have b6:=jo g.ops;have cO:=BR g ar;have eF:=eP x;have a2:=cA ai;unfold cn cV at cO;by_cases aB:dm g=0
 ·have V:=kX aB;have ak:=Wn g.ids ar.ids ar.li x ai V.ea;obtain⟨X,b3⟩:∃ X,X=aQ x:=⟨_,rfl⟩
  rw[<-b3] at ak eF a2 ⊢;rw[aB] at cO;simp[cn,cV,a2,arX];refine aW cO (by simp[aZ,ad.closed,cJ,b6]) ?_;simp[a2,arX];refine aW ak (by simp[aZ,ad.closed,cJ,eF]) ?_;by_cases hm:x∈g.ids.l
  ·simp[hm,aB];exact aK rfl rfl
  ·simp[hm,aB];exact aK rfl rfl
 ·obtain⟨X,b3⟩:∃ X,X=aQ x:=⟨_,rfl⟩
  rw[<-b3] at eF a2 ⊢;simp[cn,cV,a2,arX];refine aW cO (by simp[aZ,ad.closed,cJ,b6]) ?_;simp[aB];exact aK rfl rfl
def kt (ids:List (List B)) (seen:List Bool) (k:Nat) :List (List B) :=(List.range k).flatMap fun i=>if seen.getD i false=true then [b2 ids i] else []
theorem HV (ids:List (List B)) (seen:List Bool) (k:Nat) :kt ids seen (k+1)=kt ids seen k++(if seen.getD k false=true then [b2 ids k] else []) :=by
 unfold kt; rw[atA,atS]; simp
theorem HU (ids:List (List B)) (seen:List Bool) :∀ k,(kt ids seen k).length<=k
 | 0=>by simp[kt]
 | k+1=>by
  have:=HU ids seen k;rw[HV,asa];split<;>simp<;>omega
theorem Up {ids:List (List B)} {seen:List Bool} {x:List B}:∀ {k:Nat},x∈kt ids seen k<->∃ i,i<k/\seen.getD i false=true/\b2 ids i=x:=by
 intro k;unfold kt;rw[avf];constructor
 ·rintro⟨i,ax,ai⟩;split at ai
  ·rename_i ak;rw[asl] at ai;exact⟨i,asJ.1 ax,ak,ai.symm⟩
  ·cases ai
 ·rintro⟨i,ax,ak,ai⟩;exact⟨i,asJ.2 ax,by rw[if_pos ak,ai]; simp⟩
set_option maxHeartbeats 2000000 in
theorem agk (g:bc) (ar:ei g) (seen:dg Bool) (ak:seen.l.length=g.ids.l.length) :bx Tryz.prog GS 89 [cn g,cL 1 iK seen] (aN (dW (kt g.ids.l seen.l seen.l.length))) :=by
 refine bH Tryz.checked.mixed bD ?_;apply bm Tryz.func89 [];have aA:cK=140737488355328:=rfl;have g5:=ar.li;have db:cz (.au 1) (cL 1 iK seen)=some (.int .i64 seen.l.length) :=r6 _;simp[cn,cV,db];refine cw seen.l.length (fun k af l=>af 1=cL 1 iK seen/\af 2=.ptr 0 0 2/\af 8=.int .i64 seen.l.length/\af 9=.int .i64 k/\∃ j rest,l=.cells 2 [aN g.ids,bM g.ops] ::rest ∧
  bB 32 l (af 5) j ((kt g.ids.l seen.l k).map aQ)/\(af 5=.aV\/1<=j)/\cx (af 5)=(kt g.ids.l seen.l k).isEmpty) ?_ ?_
 ·rintro k af l hk ⟨aL,aT,de,fP,j,rest,rfl,e4,aj,gx⟩;obtain⟨v,bf⟩:∃ v,af 5=v:=⟨_,rfl⟩
  rw[bf] at e4 aj gx;obtain⟨af,rfl⟩:=ky aL aT bf de fP;clear aL aT bf de fP;by_cases cH:k<seen.l.length
  ·obtain⟨b,ag,_⟩:=bu cH;obtain⟨x,ai,cE⟩:=bu (l:=g.ids.l) (k:=k) (by omega);have aR:IntKind.i64.wrap ((k:Int)+1)=((k+1:Nat) :Int) :=by rw[IntKind.wrap_i64]; omega
   have bG:cd (.au 1) (cL 1 iK seen) (.int .i64 (k:Int))=some (.b0 [.bool b] 0) :=by rw[th]; simp[ag,iK]
   have jw:cd (.au 32) (aN g.ids) (.int .i64 (k:Int))=some (.b0 (aQ x) 0) :=by simp[aN,ai]
   have yV:seen.l.getD k false=b:=by rw[asq,ag]; rfl
   have a2:=cA (ar.ids x cE);have mZ:=HU g.ids.l seen.l k;have qO:=HV g.ids.l seen.l k;rw[yV] at qO;cases b with
   | false=>
    simp at qO;simp[cH,bG,aR];rw[qO];exact⟨j,e4,aj,gx⟩
   | true=>
    rw[if_pos rfl,fJ ai] at qO;obtain⟨a8,bK,dI,aX,bg,a3,a4⟩:=sH (by_:=32) (pre:=[.cells 2 [aN g.ids,bM g.ops]]) (rest:=rest++[.cells 32 (aQ x)]) (e4.more _) aj (x:=.au 32 (rest.length+1) 0 1 1 32) (xs:=[aQ x])
     (by simp[dA,a2,arX]) (by simp[a2]) (by omega) (by omega) (by rw[aA]; simp; omega)
    have cI:(kt g.ids.l seen.l (k+1)).map aQ=(kt g.ids.l seen.l k).map aQ++[aQ x] :=by rw[qO]; simp
    obtain⟨X,b3⟩:∃ X,X=aQ x:=⟨_,rfl⟩
    rw[<-b3] at jw a2 aX bg cI;have m0:bt (rep 32 (.int .u8 0)) 0 X=X:=ek (by rw[a2]; rfl);simp only[as5,asO] at aX;simp[cH,bG,jw,a2,m0,arX,aX];refine dt.cy ?_;simp[cH,aR];refine⟨bK,by rw[cI]; exact bg,by simpa using a3,by rw[a4,qO]; simp⟩
  ·have mg:k=seen.l.length:=by omega
   subst mg;simp[cH];exact e4.q.lZ (fun x=>eP x) (dW _) (by rw[gx,xv]) (fM _)
 ·have aB:kt g.ids.l seen.l 0=[] :=rfl;simp[aB];exact⟨⟨0,.nil 0⟩,rfl⟩
theorem Ju:∀ l:List B,fk (l.map bA) (l.map bA)=true
 | []=>rfl
 | x::l=>by
  have h1:ad.beq (bA x) (bA x)=true:=by simp[bA,ad.beq]
  show (ad.beq (bA x) (bA x)&&fk (l.map bA) (l.map bA))=true;rw[h1,Ju l]; rfl
theorem YO (x:List B) :ad.beq (.aI (aQ x)) (.aI (aQ x))=true:=Ju x
theorem J8 {x:List B} (h:x.length=32) :nx Tryz.prog 48 (.aI (aQ x))=true:=by
 have h1:r3 Tryz.prog 8 48=true:=by kernel_rfl
 have ae:eA Tryz.prog 48=some true:=by kernel_rfl
 have al:cG Tryz.prog 48=some 32:=by kernel_rfl
 have aE:(x.map bA).all tD=true:=by rw[asZ]; intro c ah; obtain⟨b,_,rfl⟩:=asr.1 ah; rfl
 show (r3 Tryz.prog 8 48&&(match eA Tryz.prog 48,cG Tryz.prog 48 with | some true,some m=>Nat.beq (x.map bA).length m | _,_=>false)&&(x.map bA).all tD)=true;rw[h1,ae,al,aE,asi,h];rfl
theorem Ul:∀ {a b:List B},a.map (fun x=>u x)=b.map (fun x=>u x)<->a=b
 | [],[]=>by simp
 | [],_::_=>by simp
 | _::_,[]=>by simp
 | x::a,y::b=>by
  rw[ast,ast,List.cons.injEq,List.cons.injEq,Ul (a:=a) (b:=b)];simp
theorem aat {a b:List B} (az:a.length=32) (ag:b.length=32) {D:Nat}:eW Tryz.prog (D+2) 48 (.aI (aQ a)) (.aI (aQ b))=some (decide (a=b)) :=by
 have h:=aav (P:=Tryz.prog) (t:=48) (e:=5) (k:=.u8) (n:=32) (by kernel_rfl) (by kernel_rfl) (by kernel_rfl) (by kernel_rfl) (x:=a.map fun x=>u x) (y:=b.map fun x=>u x) (by simp[az]) (by simp[ag]) (D:=D);rw[atV,atV] at h;unfold aQ;rw[show a.map bA=a.map (ad.int .u8 ∘ fun x=>u x) from rfl,show b.map bA=b.map (ad.int .u8 ∘ fun x=>u x) from rfl,h];simp only[Ul]
inductive sw:Nat->List (ad × ad × Nat)->List (List B)->Prop
 | nil (b:Nat) :sw b [] []
 | cons {b:Nat} {es:List (ad × ad × Nat)} {bW:List (List B)} {k:List B} (n:Nat) (hk:k.length=32) (h:sw (b+1) es bW) :sw b ((.aI (aQ k),.int .i64 (b:Int),n) ::es) (k::bW)
theorem sw.len {b:Nat} {es:List (ad × ad × Nat)} {bW:List (List B)} (h:sw b es bW) :es.length=bW.length:=by induction h<;>simp_all
theorem sw.snoc {b:Nat} {es:List (ad × ad × Nat)} {bW:List (List B)} (h:sw b es bW) {k:List B} (hk:k.length=32) (n:Nat) :sw b (es++[(.aI (aQ k),.int .i64 ((b+bW.length:Nat) :Int),n)]) (bW++[k]) :=by
 induction h with
 | nil b=>exact .cons n hk (.nil _)
 | @cons b es bW k' m e9 h aO=>
  refine .cons m e9 ?_;rw[show b+1+bW.length=b+(k'::bW).length by simp; omega] at aO;exact aO
theorem QK {x:List B} (ai:x.length=32) {b:Nat} {es:List (ad × ad × Nat)} {bW:List (List B)} (h:sw b es bW) :∀ c,(∀ i,bW[i]? = some x->(∀ j,j<i->bW[j]?≠some x)->lF Tryz.prog 48 (.aI (aQ x)) es c=some (some (c+i,.int .i64 ((b+i:Nat) :Int))))/\(x∉bW->lF Tryz.prog 48 (.aI (aQ x)) es c=some none) :=by
 induction h with
 | nil b=>intro c; exact⟨fun i h=>by simp at h,fun _=>rfl⟩
 | @cons b es bW k n hk h aO=>
  intro c;unfold lF;rw[J8 hk];simp only;rw[show eW Tryz.prog 10000 48 (.aI (aQ x)) (.aI (aQ k))=some (decide (x=k)) from aat ai hk (D:=9998)];by_cases ao:x=k
  ·subst ao;simp only[decide_true,YO];refine⟨fun i ax dY=>?_,fun h=>absurd (by simp) h⟩;cases i with
   | zero=>rfl
   | succ i=>exact absurd rfl (dY 0 (by omega))
  ·simp only[ao,decide_false];obtain⟨h1,ae⟩:=aO (c+1);refine⟨fun i ax dY=>?_,fun h=>ae (fun h'=>h (by simp[h']))⟩;cases i with
   | zero=>simp at ax; exact absurd ax.symm ao
   | succ i=>
    rw[h1 i (by simpa using ax) (fun j aj=>by have:=dY (j+1) (by omega); simpa using this)];rw[show c+1+i=c+(i+1) by omega,show b+1+i=b+(i+1) by omega]
structure nH (l:ap) (j:Nat) (bW:List (List B)) :Prop where
 e:∃ es fl,l[j]? = some (.map es fl)/\sw 0 es bW
theorem nH.look {l:ap} {j:Nat} {bW:List (List B)} (h:nH l j bW) (aj:jj bW) {x:List B} (ai:x.length=32) {i:Nat} (ax:bW[i]? = some x) :y8 Tryz.prog l 48 (.int .i64 0) false (.mp j) (.aI (aQ x))=some (.int .i64 (i:Int)) :=by
 obtain⟨es,fl,h1,ae⟩:=h.e;have al:tv l (.mp j)=some es:=by simp[tv,h1]
 unfold y8;rw[al];simp only[J8 ai];rw[(QK ai ae 0).1 i ax (fun t aJ aH=>by have:=aj t i x aH ax; omega)];simp
theorem nH.put {l:ap} {j:Nat} {bW:List (List B)} (h:nH l j bW) {x:List B} (ai:x.length=32) (aF:x∉bW) :∃ c,u4 Tryz.prog l 48 (.mp j) (.aI (aQ x)) (.int .i64 (bW.length:Int))=some (l.set j c)/\(∀ l' : ap,l'[j]? = some c->nH l' j (bW++[x])) :=by
 obtain⟨es,fl,h1,ae⟩:=h.e;unfold u4;simp only[h1,J8 ai,(QK ai ae 0).2 aF];exact⟨_,rfl,fun l' dp=>⟨_,_,dp,by have:=ae.snoc ai fl; rw[as8] at this; exact this⟩⟩
theorem nH.frame {l l' : ap} {j:Nat} {bW:List (List B)} (h:nH l j bW) (aj:l'[j]? = l[j]?) :nH l' j bW:=by
 obtain⟨es,fl,h1,ae⟩:=h.e;exact⟨es,fl,by rw[aj,h1],ae⟩
theorem nH.lt {l:ap} {j:Nat} {bW:List (List B)} (h:nH l j bW) :j<l.length:=by
 obtain⟨es,fl,h1,ae⟩:=h.e;exact (arY.1 h1).1
theorem age {P:Program} {aG:Operand->ad} {l:ap} {o:Operand} {k:IntKind} {n:Int} (h:aG o=.int k n) :b5 P aG l (.zd (some o))=some (.mp l.length,l++[.map [] 0]) :=by
 show (match asInt (aG o) with | some _=>some (ad.mp l.length,l++[aY.map [] 0]) | none=>none)=_;rw[h]; rfl
set_option maxHeartbeats 2000000 in
theorem U8 (g:bc) (ar:ei g) (aj:jj g.ids.l) {l:ap} {K:ad->ap->Prop} (bl:∀ j l',nH l' j g.ids.l->l.length<=j->(∀ c,c<l.length->l'[c]? = l[c]?)->l.length<=l'.length->K (.mp j) l') :
  dr Tryz.prog GS 88 [cn g] l (c:=⟨K⟩) :=by
 apply bm Tryz.func88 [];have g5:=ar.li;have db:cz (.au 32) (aN g.ids)=some (.int .i64 g.ids.l.length) :=by simp[aN]
 simp[cn,cV,db];rw[age (k:=.i64) (n:=g.ids.l.length) (by simp)];simp[db];refine cw g.ids.l.length (fun k af l'=>af 3=.mp (l.length+1)/\af 11=aN g.ids/\af 12=.int .i64 g.ids.l.length/\af 13=.int .i64 k/\nH l' (l.length+1) (g.ids.l.take k)/\(∀ c,c<l.length->l'[c]? = l[c]?)) ?_ ?_
 ·rintro k af l' hk ⟨a7,hJ,g2,mO,mS,k8⟩;obtain⟨af,rfl⟩:=jh a7 hJ g2 mO;clear a7 hJ g2 mO;by_cases cH:k<g.ids.l.length
  ·obtain⟨x,ai,cE⟩:=bu cH;have aR:IntKind.i64.wrap ((k:Int)+1)=((k+1:Nat) :Int) :=by rw[IntKind.wrap_i64]; omega
   have jw:cd (.au 32) (aN g.ids) (.int .i64 (k:Int))=some (.b0 (aQ x) 0) :=by simp[aN,ai]
   have mr:=ar.ids x cE;have a2:=cA mr;have b1:g.ids.l.take (k+1)=g.ids.l.take k++[x] :=by rw[ash,ai]; rfl
   have dY:x∉g.ids.l.take k:=fun hm=>by
    obtain⟨t,aJ⟩:=ar6.1 hm;have lf:=(arY.1 aJ).1;rw[asc] at lf;rw[asf (by omega)] at aJ;have:=aj t k x aJ ai; omega
   have aM:=mS.lt;have ab3:nH (l'++[.cells 32 (aQ x)]) (l.length+1) (g.ids.l.take k) :=mS.frame (arZ aM);obtain⟨c,cm,dk⟩:=ab3.put mr dY;have jy:(g.ids.l.take k).length=k:=by rw[asc]; omega
   rw[jy] at cm;obtain⟨X,b3⟩:∃ X,X=aQ x:=⟨_,rfl⟩
   rw[<-b3] at jw a2 cm;have m0:bt (rep 32 (.int .u8 0)) 0 X=X:=ek (by rw[a2]; rfl);simp[cH,jw,a2,m0,arX,cm,aR];refine⟨?_,fun c' gv=>?_⟩
   ·rw[b1];exact dk _ (by rw[ar9 (by simp; omega)])
   ·rw[ar7 (by omega),arZ (by omega)];exact k8 c' gv
  ·have mg:k=g.ids.l.length:=by omega
   rw[mg,asx] at mS;simp[cH];exact bl _ _ mS (by omega) k8 (by have:=mS.lt; omega)
 ·simp;refine⟨⟨[],0,by simp,.nil 0⟩,fun c ah=>by rw[arZ ah]⟩
inductive jP (ids:List (List B)) (ops:List bq) (L:List (List B)) :Nat->Prop
 | start (p:List B) (j:Nat) (aC:p∈L) (aj:ids[j]? = some p) :jP ids ops L j
 | step (i:Nat) (p:List B) (j:Nat) (h:jP ids ops L i) (aC:p∈dB ops i) (aj:ids[j]? = some p) :jP ids ops L j
theorem jP.mono {ids:List (List B)} {ops:List bq} {L zK:List (List B)} (ak:∀ p∈L,p∈zK) {i:Nat} (h:jP ids ops L i) :jP ids ops zK i:=by
 induction h with
 | start p j aC aj=>exact .start p j (ak p aC) aj
 | step i p j _ aC aj aO=>exact .step i p j aO aC aj
theorem jP.under {ids:List (List B)} {ops:List bq} {L:List (List B)} {i:Nat} (ax:jP ids ops L i) {j:Nat} (h:jP ids ops (dB ops i) j) :jP ids ops L j:=by
 induction h with
 | start p j aC aj=>exact .step i p j ax aC aj
 | step j2 p j _ aC aj aO=>exact .step j2 p j aO aC aj
structure p4 (ids:List (List B)) (ops:List bq) (L:List (List B)) (S il:List Bool) :Prop where
 len:il.length=S.length
 mono:∀ (i:Nat),S[i]? = some true->il[i]? = some true
 st:∀ p∈L,∀ (j:Nat),ids[j]? = some p->il[j]? = some true
 new:∀ (i:Nat),il[i]? = some true->S[i]? = some true\/(jP ids ops L i/\∀ p∈dB ops i,∀ (j:Nat),ids[j]? = some p->il[j]? = some true)
theorem Xj (ids:List (List B)) (ops:List bq) (S:List Bool) :p4 ids ops [] S S:=⟨rfl,fun _ h=>h,fun p aC=>by simp at aC,fun _ h=>.inl h⟩
theorem Xk {ids:List (List B)} {ops:List bq} {L:List (List B)} {p:List B} {S O4 kC:List Bool} (h1:p4 ids ops L S O4) (ae:p4 ids ops [p] O4 kC) :p4 ids ops (L++[p]) S kC:=by
 refine⟨ae.len.trans h1.len,fun i h=>ae.mono i (h1.mono i h),fun q bd j aj=>?_,fun i h=>?_⟩
 ·rw[asu] at bd;rcases bd with bd | bd
  ·exact ae.mono j (h1.st q bd j aj)
  ·exact ae.st q bd j aj
 ·rcases ae.new i h with al | ⟨al,aE⟩
  ·rcases h1.new i al with aU | ⟨aU,bz⟩
   ·exact .inl aU
   ·exact .inr ⟨aU.mono fun q bd=>by simp[bd],fun q bd j aj=>ae.mono j (bz q bd j aj)⟩
  ·exact .inr ⟨al.mono fun q bd=>by simp at bd; simp[bd],aE⟩
theorem akG {ids:List (List B)} {ops:List bq} (e2:jj ids) {p:List B} {i:Nat} {S:List Bool} (ax:ids[i]? = some p) (ak:S[i]? = some true) :p4 ids ops [p] S S:=by
 refine⟨rfl,fun _ h=>h,fun q bd j aj=>?_,fun _ h=>.inl h⟩;rw[asl] at bd;subst bd;rw[e2 j i q aj ax];exact ak
theorem akH {ids:List (List B)} {ops:List bq} (e2:jj ids) {p:List B} {i:Nat} {S kC:List Bool} (ax:ids[i]? = some p) (am:i<S.length) (h:p4 ids ops (dB ops i) (S.set i true) kC) :p4 ids ops [p] S kC:=by
 have hit:kC[i]? = some true:=h.mono i (ar9 am);have yS:jP ids ops [p] i:=.start p i (by simp) ax;refine⟨by rw[h.len]; simp,fun j aj=>h.mono j ?_,fun q bd j aj=>?_,fun j aj=>?_⟩
 ·by_cases iy:i=j
  ·subst iy; exact ar9 am
  ·rw[ar7 iy]; exact aj
 ·rw[asl] at bd;subst bd;rw[e2 j i q aj ax];exact hit
 ·rcases h.new j aj with h1 | ⟨h1,ae⟩
  ·by_cases iy:i=j
   ·subst iy;exact .inr ⟨yS,fun q bd t aJ=>h.st q bd t aJ⟩
   ·rw[ar7 iy] at h1;exact .inl h1
  ·exact .inr ⟨yS.under h1,ae⟩
theorem akF {ids:List (List B)} {ops:List bq} {L:List (List B)} {n:Nat} {S:List Bool} (h:p4 ids ops L (List.replicate n false) S) (i:Nat) :S[i]? = some true<->jP ids ops L i:=by
 have dY:∀ (j:Nat),(List.replicate n false)[j]?≠some true:=fun j aj=>by
  have:=atv (ar4 aj);cases this
 constructor
 ·intro ax;rcases h.new i ax with h1 | ⟨h1,_⟩
  ·exact absurd h1 (dY i)
  ·exact h1
 ·intro ax
  induction ax with
  | start p j aC aj=>exact h.st p aC j aj
  | step i p j _ aC aj aO=>
   rcases h.new i aO with h1 | ⟨_,ae⟩
   ·exact absurd h1 (dY i)
   ·exact ae p aC j aj
structure o8 (g:bc) (fj lC lB k3 g6 fV:Nat) (S:List Bool) (l:ap) :Prop where
 a:l[fj]? = some (.cells 1 [.mp fV])
 s:l[lC]? = some (.cells 1 [.au 1 g6 0 g.ids.l.length g.ids.l.length g.ids.l.length])
 FU:l[lB]? = some (.cells 2 [aN g.ids,bM g.ops])
 v:l[k3]? = some (.cells 1 [.fn 179 [] [.ptr fj 0 1,.ptr lC 0 1,.ptr lB 0 2,.ptr k3 0 1]])
 m:nH l fV g.ids.l
 r:l[g6]? = some (.cells g.ids.l.length (S.map ad.bool))
 n:S.length=g.ids.l.length
 ne:g6≠fj/\g6≠lC/\g6≠lB/\g6≠k3/\g6≠fV
theorem o8.frame {g:bc} {fj lC lB k3 g6 fV:Nat} {S:List Bool} {l l' : ap} (h:o8 g fj lC lB k3 g6 fV S l) (aD:∀ c,c<l.length->l'[c]? = l[c]?) :o8 g fj lC lB k3 g6 fV S l':=by
 have lt:∀ {c:Nat} {x:aY},l[c]? = some x->c<l.length:=fun h=>(arY.1 h).1
 exact⟨(aD _ (lt h.a)).trans h.a,(aD _ (lt h.s)).trans h.s,(aD _ (lt h.FU)).trans h.FU,(aD _ (lt h.v)).trans h.v,h.m.frame (aD _ h.m.lt),(aD _ (lt h.r)).trans h.r,h.n,h.ne⟩
theorem o8.more {g:bc} {fj lC lB k3 g6 fV:Nat} {S:List Bool} {l:ap} (h:o8 g fj lC lB k3 g6 fV S l) (x:ap) :o8 g fj lC lB k3 g6 fV S (l++x) :=h.frame fun c ah=>arZ ah
theorem o8.set {g:bc} {fj lC lB k3 g6 fV:Nat} {S:List Bool} {l:ap} (h:o8 g fj lC lB k3 g6 fV S l) (i:Nat) :o8 g fj lC lB k3 g6 fV (S.set i true) (l.set g6 (.cells g.ids.l.length ((S.set i true).map ad.bool))) :=by
 obtain⟨my,ny,sd,se,mz⟩:=h.ne;have am:g6<l.length:=(arY.1 h.r).1;exact⟨by rw[ar7 my]; exact h.a,by rw[ar7 ny]; exact h.s,by rw[ar7 sd]; exact h.FU,by rw[ar7 se]; exact h.v,h.m.frame (ar7 mz),ar9 am,by simpa using h.n,h.ne⟩
theorem QX:iv Tryz.prog 179=true:=by kernel_rfl
set_option maxHeartbeats 4000000 in
theorem akA (g:bc) (ar:ei g) (V:kB g) (fj lC lB k3 g6 fV:Nat) :∀ (m:Nat) (S:List Bool) (l:ap) (p:List B) (i:Nat) (K:ad->ap->Prop),S.count false<=m->o8 g fj lC lB k3 g6 fV S l->g.ids.l[i]? = some p->
  (∀ l' il,p4 g.ids.l g.ops.l [p] S il->o8 g fj lC lB k3 g6 fV il l'->(∀ c,c<l.length->c≠g6->l'[c]? = l[c]?)->l.length<=l'.length->il.count false<=S.count false->K (.bJ []) l')->
  dr Tryz.prog GS 179 [.aI (aQ p),.ptr fj 0 1,.ptr lC 0 1,.ptr lB 0 2,.ptr k3 0 1] l (c:=⟨K⟩) :=by
 have e2:=m3 V.ea;intro m
 induction m using Nat.strongRecOn with
 | _ m aO=>
  intro S l p i K hm wn ax bl;apply bm Tryz.func179 [];have pz:=ar4 ax;have yO:=ar.ids p pz;have cY:=(arY.1 ax).1;have jy:=(wn.more [.cells 32 (aQ p)]).m.look e2 yO ax;have a2:=cA yO;obtain⟨X,b3⟩:∃ X,X=aQ p:=⟨_,rfl⟩
  rw[<-b3] at jy a2 ⊢;have yj:=wn.more [.cells 32 X];obtain⟨l1,gj⟩:∃ l1,l1=l++[aY.cells 32 X] :=⟨_,rfl⟩
  rw[<-gj] at yj jy;have acB:l1[l.length]? = some (.cells 32 X) :=by rw[gj]; simp
  have fz:eZ l1 (.ptr fj 0 1)=some ([.mp fV],0) :=by simp only[eZ,yj.a]; simp
  have fp:eZ l1 (.ptr lC 0 1)=some ([.au 1 g6 0 g.ids.l.length g.ids.l.length g.ids.l.length],0) :=by simp only[eZ,yj.s]; simp
  have q3:eZ l1 (.ptr l.length 0 32)=some (X,0) :=by simp only[eZ,acB]; simp
  have tG:eZ l1 (.ptr g6 i g.ids.l.length)=some (S.map ad.bool,i) :=by simp only[eZ,yj.r]; simp
  have GM:cd (.au 1) (.au 1 g6 0 g.ids.l.length g.ids.l.length g.ids.l.length) (.int .i64 (i:Int))=some (.ptr g6 i g.ids.l.length) :=by
   simp only[cd];rw[if_pos ⟨trivial,by omega,by omega⟩];simp
  obtain⟨b,ag,_⟩:=bu (l:=S) (k:=i) (by rw[wn.n]; exact cY);have anY:(S.map ad.bool)[i]? = some (.bool b) :=by rw[ar5,ag]; rfl
  have Lp:l1.length=l.length+1:=by rw[gj]; simp
  have Sh:∀ c,c<l.length->c≠g6->l1[c]? = l[c]?:=fun c ah _=>by rw[gj,arZ ah]
  cases b with
  | true=>
   simp[a2,<-gj,fz,fp,q3,jy,GM,tG,ag,arX];exact bl l1 S (akG e2 ax ag) yj Sh (by omega) (ar0 _)
  | false=>
   have b1:kw 1 l1 (.ptr g6 i g.ids.l.length) (.bool true)=some (l1.set g6 (.cells g.ids.l.length ((S.set i true).map ad.bool))) :=by
    simp only[kw,ad.cells,yj.r];rw[if_pos (by simp; omega)];have ae:bt (S.map ad.bool) i [ad.bool true]=(S.set i true).map ad.bool:=oW ad.bool S i true (by rw[wn.n]; exact cY);rw[ae]
   have KN:=yj.set i;obtain⟨bQ,gk⟩:∃ bQ,bQ=l1.set g6 (.cells g.ids.l.length ((S.set i true).map ad.bool)) :=⟨_,rfl⟩
   rw[<-gk] at b1 KN;have ku:eZ bQ (.ptr lB 1 2)=some ([aN g.ids,bM g.ops],1) :=by simp only[eZ,KN.FU]; simp
   obtain⟨o,aq,ds⟩:=bu (l:=g.ops.l) (k:=i) (by rw[<-V.len]; exact cY);have bG:cd (.au 11) (bM g.ops) (.int .i64 (i:Int))=some (.b0 (a1 o) 0) :=by simp[bM,aq]
   have sZ:(a1 o).length=11:=rfl;have gC:(a1 o)[1]? = some (aN o.br) :=rfl;have iN:=ar.ops o ds;have gL:=iN.len;have n1:cz (.au 32) (aN o.br)=some (.int .i64 o.br.l.length) :=by simp[aN]
   obtain⟨O,dn⟩:∃ O,O=a1 o:=⟨_,rfl⟩
   rw[<-dn] at bG sZ gC;have ac3:∀ c,c<l.length->c≠g6->bQ[c]? = l[c]?:=fun c ah bU=>by rw[gk,ar7 (Ne.symm bU)]; exact Sh c ah bU
   have Lr:l.length<=bQ.length:=by rw[gk]; simp; omega
   have anT:(S.set i true).count false+1<=S.count false:=by
    have GO:i<S.length:=by rw[wn.n]; exact cY
    have n0:S[i]=false:=(arY.1 ag).2;have h0:0<S.count false:=au1.2 (ar4 ag);rw[List.count_set GO,n0];simp; omega
   simp[a2,<-gj,fz,fp,q3,jy,GM,tG,ag,arX,b1,ku,bG,gC,n1];refine cw o.br.l.length (fun q af l'=>af 4=.ptr k3 0 1/\af 24=aN o.br/\af 25=.int .i64 o.br.l.length/\af 26=.int .i64 q/\∃ il,p4 g.ids.l g.ops.l (o.br.l.take q) (S.set i true) il/\o8 g fj lC lB k3 g6 fV il l' ∧
    (∀ c,c<l.length->c≠g6->l'[c]? = l[c]?)/\l.length<=l'.length/\il.count false<=(S.set i true).count false) ?_ ?_
   ·rintro q af l' bd ⟨bp,nl,k6,mP,il,yl,yi,k8,px,rM⟩;obtain⟨af,rfl⟩:=jh bp nl k6 mP;clear bp nl k6 mP;by_cases j0:q<o.br.l.length
    ·obtain⟨bZ,gy,Dt⟩:=bu j0;obtain⟨j,aj⟩:=ar6.1 (V.H7 o ds bZ Dt);have aR:IntKind.i64.wrap ((q:Int)+1)=((q+1:Nat) :Int) :=by rw[IntKind.wrap_i64]; omega
     have hM:cd (.au 32) (aN o.br) (.int .i64 (q:Int))=some (.b0 (aQ bZ) 0) :=by simp[aN,gy]
     have pE:=cA ((ar.ops o ds).ids bZ Dt);have yk:=yi.more [.cells 32 (aQ bZ)];have xi:eZ (l'++[aY.cells 32 (aQ bZ)]) (.ptr k3 0 1)=some ([.fn 179 [] [.ptr fj 0 1,.ptr lC 0 1,.ptr lB 0 2,.ptr k3 0 1]],0) :=by simp only[eZ,yk.v]; simp
     have hr:=aO (m - 1) (by omega) il (l'++[aY.cells 32 (aQ bZ)]) bZ j;obtain⟨uf,KP⟩:∃ uf,uf=aQ bZ:=⟨_,rfl⟩
     rw[<-KP] at hM pE yk xi hr;have m0:bt (rep 32 (.int .u8 0)) 0 uf=uf:=ek (by rw[pE]; rfl);simp[j0,hM,pE,m0,arX,xi];refine⟨QX,hr _ (by omega) yk aj ?_⟩;intro ew Ja bX w2 et oq rh;simp[j0,aR];refine⟨Ja,?_,w2,fun c ah bU=>?_,by simp at oq; omega,by omega⟩
     ·rw[ash,gy];exact Xk yl bX
     ·rw[et c (by simp; omega) bU,arZ (by omega)];exact k8 c ah bU
    ·have qK:q=o.br.l.length:=by omega
     rw[qK,asx] at yl;simp[j0];exact bl l' il (akH e2 ax (by rw[wn.n]; exact cY) (by rw[q2 aq]; exact yl)) yi k8 px (by omega)
   ·simp;exact⟨S.set i true,Xj _ _ _,KN,ac3,Lr,ar0 _⟩
open Classical in
noncomputable def pP (g:bc) (L:List (List B)) :List Bool:=(List.range g.ids.l.length).map fun i=>decide (jP g.ids.l g.ops.l L i)
theorem NB (g:bc) (L:List (List B)) :(pP g L).length=g.ids.l.length:=by simp[pP]
open Classical in
theorem ah7 {g:bc} {L:List (List B)} {S:List Bool} (h:p4 g.ids.l g.ops.l L (List.replicate g.ids.l.length false) S) :S=pP g L:=by
 have bn:S.length=g.ids.l.length:=by rw[h.len]; simp
 apply asY;intro i;by_cases ax:i<g.ids.l.length
 ·have h1:=akF h i;obtain⟨b,ag,_⟩:=bu (l:=S) (k:=i) (by omega);rw[ag] at h1 ⊢;unfold pP;rw[ar5,asI ax];simp only[asb,Option.some.injEq] at h1 ⊢;cases b with
  | true=>exact (decide_eq_true (h1.1 rfl)).symm
  | false=>exact (decide_eq_false fun aH=>by have:=h1.2 aH; cases this).symm
 ·rw[ase (by omega),ase (by rw[NB]; omega)]
set_option maxHeartbeats 4000000 in
theorem ND (g:bc) (ar:ei g) (V:kB g) (L:dM) (dS:fo L) (mR:L.l.length<=1000000) (cZ:∀ p∈L.l,p∈g.ids.l) :bx Tryz.prog GS 133 [cn g,aN L] (cL 1 iK (some (pP g L.l))) :=by
 refine bH Tryz.checked.mixed bD ?_;apply bm Tryz.func133 [];have aA:cK=140737488355328:=rfl;have g5:=ar.li;have ady:cz (.au 32) (aN L)=some (.int .i64 L.l.length) :=by simp[aN]
 have adx:cz (.au 32) (aN g.ids)=some (.int .i64 g.ids.l.length) :=by simp[aN]
 have e2:=m3 V.ea;simp[cn,cV];refine U8 g ar e2 ?_;intro fV l1 mS wB k8 px;obtain⟨fz,rfl⟩:∃ r,l1=aY.cells 2 [aN g.ids,bM g.ops] ::r:=D9 ((k8 0 (by simp)).trans rfl);obtain⟨aX,_⟩:=D1 (z:=1) (by_:=1) (n:=g.ids.l.length) (k:=.i64) (k':=.i64) (zero:=[ad.bool false]) (l:=(aY.cells 2 [aN g.ids,bM g.ops] ::fz)++[aY.cells 1 [.mp fV]]) rfl (by omega) (by rw[aA]; omega);simp only[atC,NH (α:=Nat),as5] at aX;simp[adx,ady,aX];obtain⟨fj,ws⟩:∃ fj,fj=fz.length+1:=⟨_,rfl⟩
 have q1:fz.length+1+1=fj+1:=by omega
 have dE:fz.length+2+1=fj+2:=by omega
 have hn:fz.length+3+1=fj+3:=by omega
 rw[q1,show fj+1+1=fj+2 from rfl,hn,<-ws];have SB:=mS.lt;simp at SB wB;refine cw L.l.length (fun q af l'=>af 6=.ptr (fj+2) 0 1/\af 7=.ptr (fj+3) 0 1/\af 17=aN L/\af 18=.int .i64 L.l.length/\af 19=.int .i64 q/\∃ il,p4 g.ids.l g.ops.l (L.l.take q) (List.replicate g.ids.l.length false) il/\o8 g fj (fj+2) 0 (fj+3) (fj+1) fV il l') ?_ ?_
 ·rintro q af l' bd ⟨bT,dh,oD,sS,sT,il,yl,yi⟩;obtain⟨af,rfl⟩:=ky bT dh oD sS sT;clear bT dh oD sS sT;by_cases j0:q<L.l.length
  ·obtain⟨bZ,gy,Dt⟩:=bu j0;obtain⟨j,aj⟩:=ar6.1 (cZ bZ Dt);have aR:IntKind.i64.wrap ((q:Int)+1)=((q+1:Nat) :Int) :=by rw[IntKind.wrap_i64]; omega
   have hM:cd (.au 32) (aN L) (.int .i64 (q:Int))=some (.b0 (aQ bZ) 0) :=by simp[aN,gy]
   have pE:=cA (dS bZ Dt);have yk:=yi.more [.cells 32 (aQ bZ)];have xi:eZ (l'++[aY.cells 32 (aQ bZ)]) (.ptr (fj+3) 0 1)=some ([.fn 179 [] [.ptr fj 0 1,.ptr (fj+2) 0 1,.ptr 0 0 2,.ptr (fj+3) 0 1]],0) :=by simp only[eZ,yk.v]; simp
   have hr:=akA g ar V fj (fj+2) 0 (fj+3) (fj+1) fV (il.count false) il (l'++[aY.cells 32 (aQ bZ)]) bZ j;obtain⟨uf,KP⟩:∃ uf,uf=aQ bZ:=⟨_,rfl⟩
   rw[<-KP] at hM pE yk xi hr;have m0:bt (rep 32 (.int .u8 0)) 0 uf=uf:=ek (by rw[pE]; rfl);simp[j0,hM,pE,m0,arX,xi];refine⟨QX,hr _ (ar0 _) yk aj ?_⟩;intro ew Ja bX w2 et oq rh;simp[j0,aR];exact⟨Ja,by rw[ash,gy]; exact Xk yl bX,w2⟩
  ·have qK:q=L.l.length:=by omega
   rw[qK,asx] at yl;have i4:=ah7 yl;have zk:eZ l' (.ptr (fj+2) 0 1)=some ([.au 1 (fj+1) 0 g.ids.l.length g.ids.l.length g.ids.l.length],0) :=by simp only[eZ,yi.s]; simp
   simp[j0,zk];rw[<-i4];have eo:(il.map iK).flatten=il.map ad.bool:=by
    have:∀ t:List Bool,(t.map iK).flatten=t.map ad.bool:=fun t=>by induction t with | nil=>rfl | cons b t aO=>simp[iK,aO]
    exact this il
   have e4:bB 1 l' (.au 1 (fj+1) 0 g.ids.l.length g.ids.l.length (g.ids.l.length*1)) (fj+1) (il.map iK) :=ag2 (fun _ _=>rfl) yi.n (by rw[atC,eo]; exact yi.r);rw[atC] at e4;exact e4.q.lZ (fun _=>rfl) (some il) rfl rfl
 ·simp;refine⟨List.replicate g.ids.l.length false,Xj _ _ _,?_⟩;subst ws;refine⟨by simp,by simp,by simp,by simp,mS.frame (by rw[<-as5]; exact arZ (by simpa using SB)),by simp,by simp,by omega⟩
noncomputable def i0 (g:bc) (i:Nat) :List (List B) :=kt g.ids.l (pP g (dB g.ops.l i)) g.ids.l.length
set_option maxHeartbeats 2000000 in
theorem Pn (g:bc) (ar:ei g) (V:kB g) (aB:dm g=0) (x:List B) (i:Nat) (ax:g.ids.l[i]? = some x) :bx Tryz.prog GS 84 [cn g,.aI (aQ x)] (.bJ [aN (dW (i0 g i)),.int .i64 0]) :=by
 refine bH Tryz.checked.mixed bD ?_;apply bm Tryz.func84 [[[0],[1],[2],[3],[4],[5],[6],[7],[8,0]]];have cE:=ar4 ax;have ai:=ar.ids x cE;have cJ:=eb g.ids;have b6:=jo g.ops;have jy:=af5 g ar x ai;have px:HL g x=i:=by unfold HL; rw[if_pos aB,if_pos cE,vU V.ea ax]
 have dT:HK g x=0:=by unfold HK; rw[if_pos aB,if_pos cE]
 rw[px,dT] at jy;have eF:=eP x;have a2:=cA ai;have cY:=(arY.1 ax).1;obtain⟨o,aq,ds⟩:=bu (l:=g.ops.l) (k:=i) (by rw[<-V.len]; exact cY);have bG:cd (.au 11) (bM g.ops) (.int .i64 (i:Int))=some (.b0 (a1 o) 0) :=by simp[bM,aq]
 have gC:(a1 o)[1]? = some (aN o.br) :=rfl;have Du:=ND g ar V o.br (ar.ops o ds).ids (ar.ops o ds).len (V.H7 o ds);have wE:=agk g ar (some (pP g o.br.l)) (by simp[NB]);have s3:i0 g i=kt g.ids.l (pP g o.br.l) (pP g o.br.l).length:=by unfold i0; rw[q2 aq,NB]
 have jY:(cL 1 iK (some (pP g o.br.l))).closed=true:=xW (fun _=>rfl) _;have ix:=eb o.br;obtain⟨X,b3⟩:∃ X,X=aQ x:=⟨_,rfl⟩
 obtain⟨O,dn⟩:∃ O,O=a1 o:=⟨_,rfl⟩
 obtain⟨M,nW⟩:∃ M,M=cL 1 iK (some (pP g o.br.l)) :=⟨_,rfl⟩
 rw[<-b3] at jy eF a2 ⊢;rw[<-dn] at bG gC;rw[<-nW] at Du wE jY;rw[dg.tt,<-s3] at wE;unfold cn cV at jy Du wE;simp[cn,cV,a2,arX];refine aW jy (by simp[aZ,ad.closed,cJ,b6,eF]) ?_;simp[bG,gC];refine aW Du (by simp[aZ,ad.closed,cJ,b6,ix]) ?_;simp;refine aW wE (by simp[aZ,ad.closed,cJ,b6,jY]) ?_;simp;exact aK rfl (by simp[ad.closed,aZ,eb])
theorem afw {l:List (List B)} (aj:jj l) {i:Nat} {x:List B} (ax:l[i]? = some x) :hv x l 0=(i:Int) :=by
 have:=y2 (n:=0) ax (fun t z aJ av mv=>by subst mv; have:=aj t i z av ax; omega) rfl;simpa using this
theorem Ny (g:bc) (ar:ei g) (aj:jj g.ids.l) {i:Nat} {x:List B} {o:bq} (ax:g.ids.l[i]? = some x) (aq:g.ops.l[i]? = some o) :bx Tryz.prog GS 35 [cn g,.aI (aQ x)] (.aI (a1 o)) :=by
 refine bH Tryz.checked.mixed bD ?_;apply bm Tryz.func35 [];have ai:=ar.ids x (ar4 ax);have cJ:=eb g.ids;have eF:=eP x;have a2:=cA ai;have eB:=Im g.ids ar.ids ar.li x ai;rw[afw aj ax] at eB;have cY:=(arY.1 aq).1;have dv:cz (.au 11) (bM g.ops)=some (.int .i64 g.ops.l.length) :=by simp[bM]
 have bG:cd (.au 11) (bM g.ops) (.int .i64 (i:Int))=some (.b0 (a1 o) 0) :=by simp[bM,aq]
 have bO:(a1 o).length=11:=rfl;have b6:=k5 o;have h1:¬ (i:Int)<0:=by omega
 have ae:¬ (g.ops.l.length:Int)<=(i:Int) :=by omega
 obtain⟨X,b3⟩:∃ X,X=aQ x:=⟨_,rfl⟩
 obtain⟨O,dn⟩:∃ O,O=a1 o:=⟨_,rfl⟩
 rw[<-b3] at eB eF a2 ⊢;rw[<-dn] at bG bO b6 ⊢;have hs:bt [ad.int .u32 0,.aV,.int .u64 0,.int .u8 0,.str [],.int .u8 0,.int .i64 0,.int .u64 0,.str [],.int .u32 0,.int .u32 0] 0 O=O:=ek (by rw[bO]; rfl);simp[cn,cV,a2,arX];refine aW eB (by simp[aZ,ad.closed,cJ,eF]) ?_;simp[h1,ae,cY,dv,bG,bO,hs,arX];exact aK rfl (by simp[ad.closed,b6])
structure B6 (ids:List (List B)) (ops:List bq) (i:Nat) (x:List B) (out next:List (List B)) :Prop where
 jG:out.Nodup
 nB:∀ p∈out,∃ j,ids[j]? = some p/\jP ids ops (dB ops i) j
 sg:∀ q∈next,q=x\/q∈out
 sM:∀ q,(q=x\/q∈out)->q∉next->∀ (j:Nat),ids[j]? = some q->∀ p∈dB ops j,p∈out
theorem ak7 {ids:List (List B)} {ops:List bq} {i:Nat} {x:List B}:B6 ids ops i x [] [x] :=
 ⟨avx,fun p aC=>by simp at aC,fun q bd=>by simp at bd; exact .inl bd,fun q bd aF=>by
  rcases bd with rfl | bd
  ·exact absurd (by simp) aF
  ·cases bd⟩
theorem ak5 {ids:List (List B)} {ops:List bq} {i:Nat} {x:List B} {out:List (List B)} (ax:ids[i]? = some x) (h:B6 ids ops i x out []) (j:Nat) (p:List B) (aj:ids[j]? = some p) (e2:jj ids) :p∈out<->jP ids ops (dB ops i) j:=by
 constructor
 ·intro aC;obtain⟨bK,ep,aA⟩:=h.nB p aC;rw[e2 j bK p aj ep];exact aA
 ·intro aA;have:∀ {t:Nat},jP ids ops (dB ops i) t->∀ q,ids[t]? = some q->q∈out:=by
   intro t aJ
   induction aJ with
   | start p j aC aj=>
    intro q bd;rw[aj] at bd;obtain rfl:=Option.some.inj bd;exact h.sM x (.inl rfl) (by simp) i ax p aC
   | step j2 p j aA aC aj aO=>
    intro q bd;rw[aj] at bd;obtain rfl:=Option.some.inj bd;have cY:∃ y,ids[j2]? = some y:=by
     cases aA with
     | start bZ _ gy ep=>exact⟨bZ,ep⟩
     | step Me bZ _ lb gy ep=>exact⟨bZ,ep⟩
    obtain⟨y,ay⟩:=cY;exact h.sM y (.inr (aO y ay)) (by simp) j2 ay p aC
  exact this aA p aj
structure vD (ids:List (List B)) (ops:List bq) (i:Nat) (x:List B) (q:List B) (j k:Nat) (out next:List (List B)) :Prop where
 jG:out.Nodup
 nB:∀ p∈out,∃ t,ids[t]? = some p/\jP ids ops (dB ops i) t
 Nr:q=x\/q∈out
 sg:∀ r∈next,r=x\/r∈out
 sM:∀ r,(r=x\/r∈out)->r∉next->r≠q->∀ (t:Nat),ids[t]? = some r->∀ p∈dB ops t,p∈out
 Nq:∀ p∈(dB ops j).take k,p∈out
theorem alc {ids:List (List B)} {ops:List bq} {i:Nat} {x q:List B} {j:Nat} {out next:List (List B)} (h:B6 ids ops i x out (q::next)) :vD ids ops i x q j 0 out next:=
 ⟨h.jG,h.nB,h.sg q (by simp),fun r aA=>h.sg r (by simp[aA]),fun r aA aF bU=>h.sM r aA (by simp[aF,bU]),fun p aC=>by simp at aC⟩
theorem ala {ids:List (List B)} {ops:List bq} (e2:jj ids) {i:Nat} {x q:List B} {j:Nat} {out next:List (List B)} (bd:ids[j]? = some q) (h:vD ids ops i x q j (dB ops j).length out next) :B6 ids ops i x out next:=by
 refine⟨h.jG,h.nB,h.sg,fun r aA aF t aJ p aC=>?_⟩;by_cases Tm:r=q
 ·subst Tm;rw[e2 t j r aJ bd] at aC;exact h.Nq p (by rw[asx]; exact aC)
 ·exact h.sM r aA aF Tm t aJ p aC
theorem alb {ids:List (List B)} {ops:List bq} {i:Nat} {x q:List B} {j k:Nat} {out next:List (List B)} {p:List B} (h:vD ids ops i x q j k out next) (aC:(dB ops j)[k]? = some p) (aq:p∈out) :vD ids ops i x q j (k+1) out next:=by
 refine⟨h.jG,h.nB,h.Nr,h.sg,h.sM,fun r aA=>?_⟩;rw[ash,aC,asu] at aA;rcases aA with aA | aA
 ·exact h.Nq r aA
 ·simp at aA; subst aA; exact aq
theorem Xp {ids:List (List B)} {ops:List bq} (e2:jj ids) {i:Nat} {x q:List B} {j k:Nat} {out next:List (List B)} {p:List B} {t:Nat} (h:vD ids ops i x q j k out next) (ax:ids[i]? = some x) (bd:ids[j]? = some q) (aC:(dB ops j)[k]? = some p) (aJ:ids[t]? = some p) (aq:p∉out) :
  vD ids ops i x q j (k+1) (out++[p]) (next++[p]) :=by
 have pz:=ar4 aC;refine⟨?_,fun r aA=>?_,h.Nr.imp_right fun aH=>by simp[aH],fun r aA=>?_,fun r aA aF bU u aP bZ gy=>?_,fun r aA=>?_⟩
 ·rw[ath];refine⟨h.jG,by simp,fun a az b ag e=>?_⟩;rw[asl] at ag;subst e;rw[ag] at az;exact aq az
 ·rw[asu,asl] at aA;rcases aA with aA | rfl
  ·exact h.nB r aA
  ·refine⟨t,aJ,?_⟩;rcases h.Nr with aeo | aen
   ·subst aeo;rw[e2 j i q bd ax] at pz;exact .start r t pz aJ
   ·obtain⟨bK,ep,lb⟩:=h.nB q aen;rw[e2 bK j q ep bd] at lb;exact .step j r t lb pz aJ
 ·rw[asu,asl] at aA;rcases aA with aA | rfl
  ·exact (h.sg r aA).imp_right fun aH=>by simp[aH]
  ·exact .inr (by simp)
 ·have uN:r≠p:=fun e=>aF (by simp[e])
  have lb:r=x\/r∈out:=aA.imp_right fun aH=>by
   rw[asu,asl] at aH;exact aH.resolve_right uN
  have:=h.sM r lb (fun aH=>aF (by simp[aH])) bU u aP bZ gy;simp[this]
 ·rw[ash,aC,asu] at aA;rcases aA with aA | aA
  ·have:=h.Nq r aA; simp[this]
  ·simp at aA; simp[aA]
theorem EB:∀ {a b:List (List B)},a.Nodup->(∀ x∈a,x∈b)->a.length<=b.length
 | [],_,_,_=>ato _
 | x::a,b,aF,ak=>by
  rw[auv] at aF;have ai:=ak x (by simp);have aO:=EB (b:=b.erase x) aF.2 (fun y ay=>(List.mem_erase_of_ne (fun e=>aF.1 (by rw[<-e]; exact ay))).2 (ak y (by simp[ay])));rw[avk ai] at aO;have:=List.length_pos_of_mem ai;simp; omega
structure o4 (pre:ap) (v5 dP:ad) (out next:List (List B)) (b:Nat) (rest:ap) :Prop where
 ex:∃ gm gM,ez 32 (pre++rest) v5 gm (out.map aQ)/\ez 32 (pre++rest) dP gM (next.map aQ)/\(v5=.aV\/(pre.length<=gm/\gm≠gM/\gm≠b))/\pre.length<=gM/\gM≠b/\cx v5=out.isEmpty/\cx dP=false
theorem o4.ahj {pre:ap} {v5 dP:ad} {out next:List (List B)} {b:Nat} {rest:ap} (h:o4 pre v5 dP out next b rest) (ag:b<(pre++rest).length) {p:List B} (aC:p.length=32) (dO:(out.length+1)*32<=cK) :
  ∃ a8 dI,i1 (pre++(rest++[.cells 32 (aQ p)])) 32 32 v5 (.au 32 (pre.length+rest.length) 0 1 1 32)=some (a8,pre++dI)/\o4 pre a8 dP (out++[p]) next b dI/\(pre++dI)[b]? = (pre++rest)[b]?/\b<(pre++dI).length:=by
 obtain⟨gm,gM,jH,pH,aU,bz,yc,mz,n6⟩:=h;have gL:=cA aC;have hm:pre++(rest++[aY.cells 32 (aQ p)])=(pre++rest)++[aY.cells 32 (aQ p)] :=by rw[ass]
 have MZ:ez 32 (pre++(rest++[aY.cells 32 (aQ p)])) v5 gm (out.map aQ) :=by rw[hm]; exact jH.more _
 have M0:ez 32 (pre++(rest++[aY.cells 32 (aQ p)])) dP gM (next.map aQ) :=by rw[hm]; exact pH.more _
 obtain⟨a8,bK,dI,aL,aT,a7,bp,bf,bT⟩:=Pq (by_:=32) MZ (aU.imp_right fun h=>h.1) (x:=.au 32 (pre.length+rest.length) 0 1 1 32) (xs:=[aQ p]) (by
  have:(pre++(rest++[aY.cells 32 (aQ p)]))[pre.length+rest.length]? = some (.cells 32 (aQ p)) :=by
   rw[hm,ar8 (by simp)]; simp
  simp only[dA,this];simp[gL,arX]) (by simp[gL]) (by omega) (by omega) (by simpa using dO)
 have fH:cx a8=false:=by rw[bp]; simp
 have bU:a8≠.aV:=fun e=>by rw[e] at fH; cases fH
 have px:(pre++(rest++[aY.cells 32 (aQ p)])).length=(pre++rest).length+1:=by simp; omega
 have an4:gM<(pre++rest).length:=by
  rcases pH.lt with e | e
  ·rw[e] at n6; cases n6
  ·exact e
 have f6:v5=.aV\/gM≠gm:=aU.imp_right fun h=>Ne.symm h.2.1
 have aaL:v5=.aV\/b≠gm:=aU.imp_right fun h=>Ne.symm h.2.2
 have By:=bf gM (by omega) f6;have tF:=bf b (by omega) aaL;have aq:(pre++(rest++[aY.cells 32 (aQ p)]))[b]? = (pre++rest)[b]?:=by rw[hm,arZ ag]
 refine⟨a8,dI,aL,⟨⟨bK,gM,by rw[asv]; exact aT,M0.nT (.inr By),.inr ⟨a7.resolve_left bU,?_,?_⟩,bz,yc,by rw[fH]; simp,n6⟩⟩,tF.trans aq,?_⟩
 ·rcases bT.resolve_left bU with ⟨aR,bE⟩ | e
  ·rw[bE]; exact (aU.resolve_left aR).2.1
  ·omega
 ·rcases bT.resolve_left bU with ⟨aR,bE⟩ | e
  ·rw[bE]; exact (aU.resolve_left aR).2.2
  ·omega
 ·have:=tF.trans aq;have ev:(pre++rest)[b]?≠none:=by rw[ar1 ag]; simp
  rw[<-this] at ev;exact Nat.lt_of_not_le fun h=>ev (ase h)
theorem o4.ahk {pre:ap} {v5 dP:ad} {out next:List (List B)} {b:Nat} {rest:ap} (h:o4 pre v5 dP out next b rest) (ag:b<(pre++rest).length) {p:List B} (aC:p.length=32) (dO:(next.length+1)*32<=cK) :
  ∃ a8 dI,i1 (pre++(rest++[.cells 32 (aQ p)])) 32 32 dP (.au 32 (pre.length+rest.length) 0 1 1 32)=some (a8,pre++dI)/\o4 pre v5 a8 out (next++[p]) b dI/\(pre++dI)[b]? = (pre++rest)[b]?/\b<(pre++dI).length:=by
 obtain⟨gm,gM,jH,pH,aU,bz,yc,mz,n6⟩:=h;have gL:=cA aC;have hm:pre++(rest++[aY.cells 32 (aQ p)])=(pre++rest)++[aY.cells 32 (aQ p)] :=by rw[ass]
 have MZ:ez 32 (pre++(rest++[aY.cells 32 (aQ p)])) v5 gm (out.map aQ) :=by rw[hm]; exact jH.more _
 have M0:ez 32 (pre++(rest++[aY.cells 32 (aQ p)])) dP gM (next.map aQ) :=by rw[hm]; exact pH.more _
 obtain⟨a8,bK,dI,aL,aT,a7,bp,bf,bT⟩:=Pq (by_:=32) M0 (.inr bz) (x:=.au 32 (pre.length+rest.length) 0 1 1 32) (xs:=[aQ p]) (by
  have:(pre++(rest++[aY.cells 32 (aQ p)]))[pre.length+rest.length]? = some (.cells 32 (aQ p)) :=by
   rw[hm,ar8 (by simp)]; simp
  simp only[dA,this];simp[gL,arX]) (by simp[gL]) (by omega) (by omega) (by simpa using dO)
 have fH:cx a8=false:=by rw[bp]; simp
 have bU:a8≠.aV:=fun e=>by rw[e] at fH; cases fH
 have px:(pre++(rest++[aY.cells 32 (aQ p)])).length=(pre++rest).length+1:=by simp; omega
 have tF:=bf b (by omega) (.inr (Ne.symm yc));have aq:(pre++(rest++[aY.cells 32 (aQ p)]))[b]? = (pre++rest)[b]?:=by rw[hm,arZ ag]
 have SA:bK=gM\/(pre++rest).length+1<=bK:=(bT.resolve_left bU).imp (fun h=>h.2) (fun h=>by omega);refine⟨a8,dI,aL,⟨⟨gm,bK,?_,by rw[asv]; exact aT,?_,a7.resolve_left bU,?_,mz,fH⟩⟩,tF.trans aq,?_⟩
 ·rcases aU with e | ⟨aR,bE,c4⟩
  ·subst e;rw[jH.qX]; exact .nil _
  ·refine MZ.nT ?_;rcases jH.lt with e | e
   ·exact .inl e
   ·exact .inr (bf gm (by omega) (.inr bE))
 ·rcases aU with e | ⟨aR,bE,c4⟩
  ·exact .inl e
  ·rcases jH.lt with e | e
   ·exact .inl e
   ·refine .inr ⟨aR,?_,c4⟩;rcases SA with h | h<;>omega
 ·rcases SA with h | h<;>omega
 ·have:=tF.trans aq;have ev:(pre++rest)[b]?≠none:=by rw[ar1 ag]; simp
  rw[<-this] at ev;exact Nat.lt_of_not_le fun h=>ev (ase h)
theorem o4.ak9 {pre:ap} {v5 dP:ad} {out next:List (List B)} {b:Nat} {rest:ap} (h:o4 pre v5 dP out next b rest) (aC:1<=pre.length) :o4 pre v5 dP out next 0 rest:=by
 obtain⟨gm,gM,jH,pH,aU,bz,yc,mz,n6⟩:=h;exact⟨⟨gm,gM,jH,pH,aU.imp_right fun h=>⟨h.1,h.2.1,by omega⟩,bz,by omega,mz,n6⟩⟩
theorem Xn {ids:List (List B)} {ops:List bq} {i:Nat} {x q:List B} {j k:Nat} {out next:List (List B)} (h:vD ids ops i x q j k out next) :out.length<=ids.length:=EB h.jG fun p aC=>by
 obtain⟨t,aJ,_⟩:=h.nB p aC;exact ar4 aJ
structure Xy (g:bc) (pre:ap) (o:bq) (b m i:Nat) (x q:List B) (j:Nat) (k:Nat) (af:bi) (l:ap) :Prop where
 aT:af 2=.ptr 0 0 2
 dh:af 7=.ptr b 0 11
 de:af 8=.int .i64 k
 ex:∃ out next rest,l=pre++rest/\o4 pre (af 5) (af 6) out next b rest/\(pre++rest)[b]? = some (.cells 11 (a1 o))/\vD g.ids.l g.ops.l i x q j k out next/\2*(g.ids.l.length - out.length)+next.length+1<=m
structure Xz (g:bc) (pre:ap) (i:Nat) (x:List B) (m:Nat) (af:bi) (l:ap) :Prop where
 aT:af 2=.ptr 0 0 2
 ex:∃ out next rest,l=pre++rest/\o4 pre (af 5) (af 6) out next 0 rest/\B6 g.ids.l g.ops.l i x out next/\m=2*(g.ids.l.length - out.length)+next.length
 le:m<=1000
set_option maxHeartbeats 8000000 in
theorem Ym (g:bc) (ar:ei g) (V:kB g) {i:Nat} {x:List B} (ax:g.ids.l[i]? = some x) :
  dr Tryz.prog GS 101 [cn g,.aI (aQ x)] [] (c:=⟨fun r l=>∃ out,(∀ (j:Nat) (p:List B),g.ids.l[j]? = some p->(p∈out<->jP g.ids.l g.ops.l (dB g.ops.l i) j))/\(∀ p∈out,p∈g.ids.l)/\out.length<=g.ids.l.length/\Rd l r (aN (dW out))⟩) :=by
 apply bm Tryz.func101 [[[0],[1],[2],[3],[5],[4,5]]];have aA:cK=140737488355328:=rfl;have g5:=ar.li;have e2:=m3 V.ea;have ai:=ar.ids x (ar4 ax);have a2:=cA ai;have cJ:=eb g.ids;have b6:=jo g.ops;have yH:=V.n60;have bn:=V.len;obtain⟨pre,G5⟩:∃ pre,pre=[aY.cells 2 [aN g.ids,bM g.ops],aY.cells 32 (aQ x)] :=⟨_,rfl⟩
 have s8:pre.length=2:=by rw[G5]; rfl
 have mm:∀ rest,eZ (pre++rest) (.ptr 0 0 2)=some ([aN g.ids,bM g.ops],0) :=fun rest=>by rw[G5]; simp
 have rC:o4 pre .aV (.au 32 2 0 1 1 32) [] [x] 0 [.cells 32 (aQ x)] :=by
  refine⟨⟨0,2,.nil 0,?_,.inl rfl,by omega,by omega,rfl,rfl⟩⟩;refine bB.q (.au 2 1 1 32 (aQ x) _ (by rw[G5]; rfl) a2 rfl (fun e ao=>by simp at ao; rw[ao]; exact a2) (ar0 _) (by omega) ?_);rw[arX (by rw[a2]; omega)]; simp
 have wO:bt (rep 32 (.int .u8 0)) 0 (aQ x)=aQ x:=ek (by rw[a2]; rfl);simp[cn,cV,a2,wO,arX];refine r9 (Xz g pre i x) ?_ (2*g.ids.l.length+1) _ _ ?_
 ·rintro m af l ⟨aT,⟨out,next,rest,rfl,cv,dN,hm⟩,gw⟩;obtain⟨v5,bf⟩:∃ v,af 5=v:=⟨_,rfl⟩
  obtain⟨dP,bT⟩:∃ v,af 6=v:=⟨_,rfl⟩
  rw[bf,bT] at cv;obtain⟨af,rfl⟩:=kb aT bf bT;clear aT bf bT;obtain⟨gm,gM,jH,pH,aU,bz,yc,mz,n6⟩:=id cv.ex;have SJ:cz (.au 32) dP=some (.int .i64 next.length) :=by have:=pH.len; simpa using this
  cases next with
  | nil=>
   simp[SJ];refine⟨out,fun j p aj=>ak5 ax dN j p aj e2,fun p aC=>?_,?_,?_⟩
   ·obtain⟨t,aJ,_⟩:=dN.nB p aC;exact ar4 aJ
   ·exact EB dN.jG fun p aC=>by
     obtain⟨t,aJ,_⟩:=dN.nB p aC;exact ar4 aJ
   ·exact jH.lZ (fun x=>eP x) (dW out) (by rw[mz,xv]) (fM _)
  | cons q sg=>
   have Tg:q∈g.ids.l:=by
    rcases dN.sg q (by simp) with e | e
    ·rw[e]; exact ar4 ax
    ·obtain⟨t,aJ,_⟩:=dN.nB q e; exact ar4 aJ
   obtain⟨j,aj⟩:=ar6.1 Tg;have e3:=(arY.1 aj).1;obtain⟨o,aq,ds⟩:=bu (l:=g.ops.l) (k:=j) (by rw[<-V.len]; exact e3);have aei:=ar.ids q Tg;have j0:=cA aei;have fC:=Ny g ar e2 aj aq;have bO:(a1 o).length=11:=rfl;have gC:(a1 o)[1]? = some (aN o.br) :=rfl;have iN:=ar.ops o ds;have aoq:=iN.len;have n1:cz (.au 32) (aN o.br)=some (.int .i64 o.br.l.length) :=by simp[aN]
   have rX:dB g.ops.l j=o.br.l:=q2 aq;obtain⟨Nf,Cj,BV,aX,bg,a3,a4⟩:=pH.get (k:=.i64) (i:=0) (e:=aQ q) (by simp);obtain⟨sp,dx,di,gA⟩:=pH.from n6 (k:=.i64) (i:=1) (by simp);have xR:cd (.au 32) dP (.int .i64 0)=some Nf:=aX;have Cc:gS (.au 32) dP (some (.int .i64 1)) none none=some sp:=dx;obtain⟨O,dn⟩:∃ O,O=a1 o:=⟨_,rfl⟩
   obtain⟨Q,KG⟩:∃ Q,Q=aQ q:=⟨_,rfl⟩
   have R7:=eP q;rw[<-dn] at fC bO gC;rw[<-KG] at a4 fC R7 j0;unfold cn cV at fC;obtain⟨b,ag⟩:∃ b,b=pre.length+rest.length:=⟨_,rfl⟩
   have eC:(pre++rest).length=b:=by rw[ag]; simp
   obtain⟨Z,s2⟩:∃ Z,Z=[ad.int .u32 0,.aV,.int .u64 0,.int .u8 0,.str [],.int .u8 0,.int .i64 0,.int .u64 0,.str [],.int .u32 0,.int .u32 0] :=⟨_,rfl⟩
   have rD:Z.length=11:=by rw[s2]; rfl
   have hs:bt Z 0 O=O:=ek (by rw[bO,rD]);have eX:∀ y,(pre++(rest++[y]))[b]? = some y:=fun y=>by rw[ag,<-ass,ar8 (by simp)]; simp
   have qp:∀ y z:aY,(pre++(rest++[y])).set b z=pre++(rest++[z]) :=fun y z=>by rw[ag,<-ass,asy _ _ (by simp)]; simp
   have b1:kw 11 (pre++(rest++[aY.cells 11 Z])) (.ptr b 0 11) (.aI O)=some (pre++(rest++[aY.cells 11 O])) :=by
    simp only[WF,eX,PW,atM,ajD];rw[if_pos (by simp[bO]),qp,hs]
   simp[SJ,mm,xR,bg,a3,a4,j0,arX,<-s2,<-ag,rD];refine aW fC (by simp[aZ,ad.closed,cJ,b6,R7]) ?_;have rZ:=b1;simp only[WF,PW,atM] at rZ;have Lj:gM<b:=by
    rcases pH.lt with e | e
    ·rw[e] at n6; cases n6
    ·rw[eC] at e; exact e
   have yd:o4 pre v5 sp out sg b (rest++[aY.cells 11 O]) :=by
    refine⟨⟨gm,gM,?_,?_,?_,bz,by omega,mz,gA⟩⟩
    ·rw[<-ass]; exact jH.more _
    ·rw[<-ass];have:ez 32 (pre++rest) sp gM (sg.map aQ) :=by simpa using di
     exact this.more _
    ·rcases aU with e | ⟨aR,bE,c4⟩
     ·exact .inl e
     ·rcases jH.lt with e | e
      ·exact .inl e
      ·exact .inr ⟨aR,bE,by rw[eC] at e; omega⟩
   simp[eC,eX,rZ,Cc,rD,<-ag,qp,hs,bO];refine cw o.br.l.length (Xy g pre o b m i x q j) ?_ ⟨by simp,by simp,by simp,out,sg,_,rfl,by simpa using yd,by rw[<-dn]; exact eX _,alc dN,by simp at hm; omega⟩;clear cv dN hm jH pH aU bz yc mz n6 yd;rintro k af l hk ⟨aT,dh,de,out,next,rest,rfl,cv,oH,wo,aee⟩;obtain⟨v5,bf⟩:∃ v,af 5=v:=⟨_,rfl⟩
   obtain⟨dP,bT⟩:∃ v,af 6=v:=⟨_,rfl⟩
   rw[bf,bT] at cv;obtain⟨af,rfl⟩:=ky aT bf bT dh de;clear aT bf bT dh de;rw[<-dn] at oH;have anO:=oH;by_cases cH:k<o.br.l.length
   ·obtain⟨p,aC,pz⟩:=bu cH;have wK:=V.H7 o ds p pz;obtain⟨t,aJ⟩:=ar6.1 wK;have yO:=ar.ids p wK;have gL:=cA yO;have aR:IntKind.i64.wrap ((k:Int)+1)=((k+1:Nat) :Int) :=by rw[IntKind.wrap_i64]; omega
    have hM:cd (.au 32) (aN o.br) (.int .i64 (k:Int))=some (.b0 (aQ p) 0) :=by simp[aN,aC]
    obtain⟨gm,gM,jH,pH,aU,bz,yc,mz,n6⟩:=id cv.ex;have oN:=jH.na (enc:=aQ) (xs:=out) (fun x=>eP x) (dW out) (by rw[mz,xv]) (fM _);have aoj:=Xn wo;have da:fo (dW out) :=fun y ay=>by
     rw[fM] at ay;obtain⟨u,aP,_⟩:=wo.nB y ay;exact ar.ids y (ar4 aP)
    have cZ:=zl (dW out) da (by rw[fM]; omega) p yO;rw[fM] at cZ;have ix:=eP p;have yQ:(dB g.ops.l j)[k]? = some p:=by rw[rX]; exact aC
    obtain⟨Y,dC⟩:∃ Y,Y=aQ p:=⟨_,rfl⟩
    rw[<-dC] at cZ hM gL ix;have yW:bt (rep 32 (.int .u8 0)) 0 Y=Y:=ek (by rw[gL]; rfl);simp[n1,oH,gC,cH,hM,gL,arX];refine iW cZ (.cons oN (.cons (.same _ (by simp[ad.closed,ix])) .nil)) rfl ?_;by_cases iN:p∈out
    ·simp[iN,aR];exact⟨cH,by simp,by simp,by simp,out,next,rest,rfl,by simpa using cv,by rw[<-dn]; exact oH,alb wo yQ iN,aee⟩
    ·have acu:b<(pre++rest).length:=(arY.1 oH).1;have aol:out.length+1<=g.ids.l.length:=Xn (Xp e2 wo ax aj yQ aJ iN) |> fun h=>by simpa using h
     obtain⟨arR,q3,jf,kx,EI,EJ⟩:=cv.ahj acu yO (by rw[aA]; omega);obtain⟨sp,tG,bX,w2,et,oq⟩:=kx.ahk EJ yO (by rw[aA]; omega);have RY:(pre++q3)[b]? = some (.cells 11 O) :=by rw[EI]; exact oH
     have acw:(pre++tG)[b]? = some (.cells 11 O) :=by rw[et]; exact RY
     rw[<-dC] at jf bX;simp[iN,oH,gC,hM,gL,yW,arX,jf];refine dt.cy ?_;simp[RY,gC,hM,gL,yW,arX,bX];refine dt.cy ?_;simp[aR];exact⟨cH,by simp,by simp,by simp,out++[p],next++[p],tG,rfl,by simpa using w2,by rw[<-dn]; exact acw,Xp e2 wo ax aj yQ aJ iN,by simp; omega⟩
   ·simp[n1,oH,gC,cH];have adw:k=(dB g.ops.l j).length:=by rw[rX]; omega
    rw[adw] at wo;exact⟨_,by omega,by simp,⟨out,next,rest,rfl,by simpa using cv.ak9 (by omega),ala e2 aj wo,rfl⟩,by omega⟩
 ·exact⟨by simp,⟨[],[x],[.cells 32 (aQ x)],by rw[G5]; rfl,by simpa using rC,ak7,by simp⟩,by omega⟩
structure bj where
 key:List UInt8
 id:List B
 deriving DecidableEq
def bF (t:bj) :List ad:=.str t.key::aQ t.id
abbrev eO:=dg bj
def dd (s:eO) :ad:=cL 33 bF s
def gW (l:List bj) :Prop:=∀ t∈l,t.id.length=32
theorem iL {t:bj} (h:t.id.length=32) :(bF t).length=33:=by simp[bF,cA h]
theorem k4 (t:bj) :aZ (bF t)=true:=by simp[bF,aZ,ad.closed,eP]
theorem oz (s:eO) :(dd s).closed=true:=xW k4 s
abbrev e6 (a b:List UInt8) :Bool:=Go.Op.bytesLess a b
theorem tM (a b:List UInt8) :e6 a b=true<->a<b:=by unfold e6; rw[Go.Proofs.bytesLess_eq]; simp
@[simp] theorem aml (a b:List UInt8) :ov .lss a b=some (.bool (e6 a b)) :=id rfl
@[simp] theorem amk (a b:List UInt8) :ov .gtr a b=some (.bool (!(e6 a b||decide (a=b)))) :=by
 by_cases h:a=b<;>simp[ov,h]
def qc (a b:List UInt8) :Int:=if e6 a b then -1 else if a=b then 0 else 1
theorem Uw (a:List UInt8) :bx Tryz.prog GS 190 [.str a] (.bool false) :=by
 refine bH Tryz.checked.mixed bD ?_;apply bm Tryz.func190 [];simp;exact aK rfl rfl
theorem P4 (a b:List UInt8) :bx Tryz.prog GS 137 [.str a,.str b] (.int .i64 (qc a b)) :=by
 refine bH Tryz.checked.mixed bD ?_;apply bm Tryz.func137 [];unfold qc;simp;refine aW (Uw a) rfl ?_;simp;refine aW (Uw b) rfl ?_;cases h1:e6 a b with
 | true=>
  simp[h1];exact aK rfl rfl
 | false=>
  by_cases ae:a=b
  ·subst ae;simp[h1];exact aK rfl rfl
  ·simp[h1,ae];exact aK rfl rfl
def xd (a b:Int) :Int:=if a=0 then b else a
theorem VO {l:ap} {b:Nat} {x y:Int} (h:l[b]? = some (.cells 2 [.int .i64 x,.int .i64 y])) :go (b8 l) (.au 1 b 0 2 2 2) (.cq 1 [[.int .i64 x],[.int .i64 y]]) :=by
 refine Eo (rest:=[]) (es:=[[.int .i64 x],[.int .i64 y]]) (by simpa using h) rfl (by simp) (by simp[aZ,ad.closed])
theorem UR (x y:Int) :bx Tryz.prog GS 136 [.cq 1 [[.int .i64 x],[.int .i64 y]]] (.int .i64 (xd x y)) :=by
 refine bH Tryz.checked.mixed bD ?_;apply bm Tryz.func136 [];unfold xd;simp;obtain⟨X,b3⟩:∃ X,X=ad.cq 1 [[.int .i64 x],[.int .i64 y]] :=⟨_,rfl⟩
 rw[<-b3];refine cw 2 (fun k af l=>af 3=.int .i64 0/\af 6=X/\af 7=.int .i64 2/\af 8=.int .i64 k/\(1<=k->x=0)/\(2<=k->y=0)) ?_ (by simp[b3]);rintro k af l hk ⟨a7,bT,dh,de,h1,ae⟩;obtain⟨af,rfl⟩:=jh a7 bT dh de;clear a7 bT dh de;rcases k with _ | _ | k
 ·by_cases ai:x=0
  ·simp[b3,ai]; exact rfl
  ·simp[b3,ai]; exact aK rfl rfl
 ·have ai:=h1 (by omega);by_cases ay:y=0
  ·simp[b3,ai,ay]; exact rfl
  ·simp[b3,ai,ay]; exact aK rfl rfl
 ·obtain rfl:k=0:=by omega
  have ai:=h1 (by omega);have ay:=ae (by omega);simp[b3,ai,ay]; exact aK rfl rfl
def jT (a b:bj) :Int:=xd (qc a.key b.key) (cu a.id b.id)
def eM (a b:bj) :Bool:=if a.key=b.key then decide (cu a.id b.id<0) else e6 a.key b.key
theorem UZ {l:ap} {j:Nat} {c:ad} {a:List B} (az:a.length=32) (aj:l[j]? = some (.cells 33 (c::aQ a))) :ez 1 l (.au 1 j 1 32 32 33) j (a.map ci) :=by
 refine .au j 1 32 32 33 (c::aQ a) _ aj (by simp[aQ,az]) (by simp[az]) (fun e ao=>?_) (ar0 _) (by omega) ?_
 ·obtain⟨x,_,rfl⟩:=asr.1 ao; rfl
 ·simp only[auX,as1];rw[arX (by simp[aQ,az]),x3]; rfl
theorem JJ (a b:bj) (az:a.id.length=32) (ag:b.id.length=32) :bx Tryz.prog GS 86 [.aI (bF a),.aI (bF b)] (.int .i64 (jT a b)) :=by
 refine bH Tryz.checked.mixed bD ?_;apply bm Tryz.func86 [[[0],[1],[2],[3],[5],[6],[7],[8],[4]]];unfold jT;have h1:=cA az;have ae:=cA ag;simp[bF,h1,ae];refine aW (P4 _ _) rfl ?_;have ah:=E9 (some a.id) (some b.id) (by simp[az,ag]);simp;refine iW ah ?_ rfl ?_
 ·exact .cons ((UZ (j:=0) (c:=.str a.key) az rfl).na (fun _=>rfl) (some a.id) rfl rfl) (.cons ((UZ (j:=1) (c:=.str b.key) ag rfl).na (fun _=>rfl) (some b.id) rfl rfl) .nil)
 ·simp;refine iW (UR (qc a.key b.key) (cu a.id b.id)) (.cons (VO (by simp)) .nil) rfl ?_;simp;exact aK rfl rfl
theorem Ud (a b:bj) (az:a.id.length=32) (ag:b.id.length=32) :bx Tryz.prog GS 109 [.aI (bF a),.aI (bF b)] (.bool (eM a b)) :=by
 refine bH Tryz.checked.mixed bD ?_;apply bm Tryz.func109 [];unfold eM;have h1:=cA az;have ae:=cA ag;have ah:=NE a.id b.id az ag;by_cases hk:a.key=b.key
 ·simp[bF,h1,ae,hk,arX];refine aW ah (by have:=eP a.id; have:=eP b.id; simp_all [aZ,ad.closed,fD,aQ]) ?_;simp;exact aK (by rw[if_pos hk]) rfl
 ·simp[bF,h1,ae,hk];exact aK rfl rfl
abbrev B2:=dg (List UInt8)
def Fw (k:List UInt8) :List ad:=[.str k]
def FD (s:B2) :ad:=cL 1 Fw s
def aci (l:List bj) (k:List UInt8) :Bool:=decide (k∈l.map bj.key)
theorem Fr (a b:bj) :(jT a b<0)<->eM a b=true:=by
 unfold jT qc xd eM;by_cases h:a.key=b.key
 ·have ax:e6 b.key b.key=false:=by
   cases ag:e6 b.key b.key with
   | false=>rfl
   | true=>exact absurd ((tM _ _).1 ag) (avy _)
  simp[h,ax]
 ·cases ag:e6 a.key b.key with
  | true=>simp[h]
  | false=>simp[h]
def oX (l:List bj) (k:Nat) :bj:=l.getD k ⟨[],[]⟩
theorem nD {l:List bj} {k:Nat} {x:bj} (h:l[k]? = some x) :oX l k=x:=by
 unfold oX; rw[asq,h]; rfl
def qk (l:List bj) (k:Nat) :Bool:=gN (oX l k).key&&(decide (k=0)||eM (oX l (k - 1)) (oX l k))
def l8 (l:List bj) :Bool:=decide (∀ k,k<l.length->qk l k=true)
def lr (l:List bj) :Int:=if 60<l.length then 4 else if l8 l then 0 else 8
theorem Kr {l:List bj} (h:∀ k,k<l.length->qk l k=true) :l8 l=true:=decide_eq_true h
theorem F2 {l:List bj} {k:Nat} (hk:k<l.length) (h:qk l k=false) :l8 l=false:=decide_eq_false fun aH=>by rw[aH k hk] at h; cases h
theorem Pc (k:List UInt8) :kE ⟨2#8,k,o3⟩=gN k:=by
 rw[B8 rfl];have:ob o3=true:=by decide
 simp[this]
theorem zs {E:List ad} (h:E.length=33) :bt (ad.str [] ::rep 32 (.int .u8 0)) 0 E=E:=ek (by rw[h]; rfl)
theorem ak0 (s:eO) (aq:gW s.l) (am:s.l.length<=1000000) :bx Tryz.prog GS 58 [.aI [dd s]] (.int .i64 (lr s.l)) :=by
 refine bH Tryz.checked.mixed bD ?_;apply bm Tryz.func58 [];unfold lr;have bn:cz (.au 33) (dd s)=some (.int .i64 s.l.length) :=by simp[dd]
 by_cases h1:60<s.l.length
 ·have c3:(60:Int)<(s.l.length:Int) :=by omega
  simp[bn,c3];exact aK (by rw[if_pos h1]) rfl
 ·have c3:¬ (60:Int)<(s.l.length:Int) :=by omega
  simp[bn,c3];refine cw s.l.length (fun k af l=>(∃ r,l=.cells 1 [dd s] ::r)/\af 1=.ptr 0 0 1/\af 10=dd s/\af 11=.int .i64 s.l.length/\af 12=.int .i64 k/\∀ j,j<k->qk s.l j=true) ?_ (by simp);rintro k af l hk ⟨⟨r,rfl⟩,aL,ft,hJ,g2,ak⟩;obtain⟨af,rfl⟩:=jh aL ft hJ g2;clear aL ft hJ g2;simp;refine g8 (fun h=>?_) (fun h=>?_)
  ·simp only[decide_eq_true_eq] at h;obtain⟨y,ay,ch⟩:=bu (l:=s.l) (k:=k) (by omega);have b4:=iL (aq y ch);have aR:IntKind.i64.wrap ((k:Int)+1)=((k+1:Nat) :Int) :=by rw[IntKind.wrap_i64]; omega
   have bE:1<=k->IntKind.i64.wrap ((k:Int) - 1)=((k - 1:Nat) :Int) :=fun h=>by rw[IntKind.wrap_i64]; omega
   have uE:=JI ⟨2#8,y.key,o3⟩;rw[Pc] at uE;have ef:qk s.l k=(gN y.key&&(decide (k=0)||eM (oX s.l (k - 1)) y)) :=by unfold qk; rw[nD ay]
   have hN:=zs b4;obtain⟨E,ff⟩:∃ E,E=aQ y.id:=⟨_,rfl⟩
   have sY:bF y=.str y.key::E:=by rw[ff]; rfl
   have l9:E.length=32:=by rw[ff]; exact cA (aq y ch)
   have Ky:aZ E=true:=by rw[ff]; exact eP _
   rw[sY] at b4 hN;simp[dd,ay,sY,l9,hN,arX];refine aW uE rfl ?_;cases aU:gN y.key with
   | false=>
    rw[aU,asN] at ef;simp[hI];exact aK (by rw[if_neg h1,F2 h ef]; rfl) rfl
   | true=>
    rw[aU,asM] at ef;rcases k with _ | k
    ·simp[hI,aR];exact⟨by omega,rfl,by rw[IntKind.wrap_i64]; omega,by rw[ef]; rfl⟩
    ·obtain⟨x,ai,cE⟩:=bu (l:=s.l) (k:=k) (by omega);have a2:=iL (aq x cE);have c4:IntKind.i64.wrap (k:Int)=(k:Int) :=by rw[IntKind.wrap_i64]; omega
     have h0:(0:Int)<(k:Int)+1:=by omega
     have gV:=JJ x y (aq x cE) (aq y ch);rw[sY] at gV;simp only[atP,nD ai,aus,auV,and_false,decide_false,aur] at ef;simp[hI,h0,ai,a2,c4,l9,arX];refine aW gV (by simp[aZ,ad.closed,Ky,k4]) ?_;have qq:=Fr x y;by_cases bz:jT x y<0
     ·rw[qq.1 bz] at ef;have sX:¬ (0:Int)<=jT x y:=by omega
      simp[sX,aR];refine⟨by omega,rfl,by rw[IntKind.wrap_i64]; omega,fun j aj=>?_⟩;by_cases fB:j=k+1
      ·rw[fB,ef]
      ·exact ak j (by omega)
     ·have sX:(0:Int)<=jT x y:=by omega
      have dy:eM x y=false:=by
       cases eQ:eM x y with
       | false=>rfl
       | true=>exact absurd (qq.2 eQ) bz
      rw[dy] at ef;simp[sX];exact aK (by rw[if_neg h1,F2 h ef]; rfl) rfl
  ·simp[h];have fR:k=s.l.length:=by simp at h; omega
   exact aK (by rw[if_neg h1,if_pos (Kr fun j aj=>ak j (by omega))]) rfl
abbrev y3 (l:List (List UInt8)) (k:Nat) :List UInt8:=l.getD k []
def ZX (l:List (List UInt8)) (m:Nat) :List (List UInt8) :=(List.range m).flatMap fun k=>if k=0\/y3 l k≠y3 l (k - 1) then [y3 l k] else []
structure alw (l:ap) (v:ad) (xs:List (List UInt8)) (k:Nat) (af:bi) (l1:ap) :Prop where
 cg:af 0=v
 a7:af 3=.int .i64 ((k+1:Nat) :Int)
 am:l1=l
 ak:∀ j,1<=j->j<k+1->y3 xs j≠y3 xs (j - 1)
structure alv (l:ap) (v dz:ad) (j:Nat) (xs:List (List UInt8)) (m i:Nat) (af:bi) (bQ:ap) :Prop where
 cg:af 0=v
 bp:af 4=dz
 bf:af 5=.int .i64 ((i+1:Nat) :Int)
 ex:∃ (k:Nat) (bh:List (List UInt8)),af 3=.int .i64 (k:Int)/\bB 1 bQ v j (bh.map Fw)/\bh.length=xs.length/\(∀ y∈bh,y.length=y.length)/\bh.take k=ZX xs (m+i+1)/\k<=m+i/\(∀ t,m+i<=t->y3 bh t=y3 xs t)/\bQ.length=l.length/\∀ b,b≠j->bQ[b]? = l[b]?
theorem oT {l:ap} {a b fc bw:ad} (h1:Rd l a fc) (ae:Rd l b bw) :Rd l (.bJ [a,b]) (.bJ [fc,bw]) :=by
 refine .bJ _ _ rfl fun j x kf ai uT=>?_
 rcases j with _ | _ | j
 ·simp at ai uT; subst ai uT; exact h1
 ·simp at ai uT; subst ai uT; exact ae
 ·simp at ai
theorem q4 {l:ap} {a fc:ad} (h1:Rd l a fc) :Rd l (.aI [a]) (.aI [fc]) :=by
 refine .aI _ _ rfl fun j x kf ai uT=>?_
 rcases j with _ | j
 ·simp at ai uT; subst ai uT; exact h1
 ·simp at ai
structure alz (s:eO) (k:Nat) (af:bi) (l:ap) :Prop where
 abm:af 14=dd s
 sR:af 15=.int .i64 s.l.length
 qi:af 16=.int .i64 k
 tx:∃ v,af 5=v/\cj 1 Fw [.cells 1 [dd s]] l v ((s.l.map bj.key).take k) (decide (k=0))
theorem ahY (s:eO) (aq:gW s.l) (am:s.l.length<=1000000) :bx Tryz.prog GS 62 [.aI [dd s]] (.int .i64 (lr s.l)) :=by
 refine bH Tryz.checked.mixed bD ?_;apply bm Tryz.func62 [];unfold lr;have bn:cz (.au 33) (dd s)=some (.int .i64 s.l.length) :=by simp[dd]
 by_cases h1:60<s.l.length
 ·have c3:(60:Int)<(s.l.length:Int) :=by omega
  simp[bn,c3];exact aK (by rw[if_pos h1]) rfl
 ·have c3:¬ (60:Int)<(s.l.length:Int) :=by omega
  simp[bn,c3];refine cw s.l.length (fun k af l=>l=[.cells 1 [dd s]]/\af 1=.ptr 0 0 1/\af 3=.int .i64 k/\∀ j,j<k->qk s.l j=true) ?_ (by simp);rintro k af l hk ⟨rfl,aL,a7,ak⟩;obtain⟨af,rfl⟩:=nE aL a7;clear aL a7;simp[bn];refine g8 (fun h=>?_) (fun h=>?_)
  ·simp only[decide_eq_true_eq] at h;obtain⟨y,ay,ch⟩:=bu (l:=s.l) (k:=k) (by omega);have b4:=iL (aq y ch);have aR:IntKind.i64.wrap ((k:Int)+1)=((k+1:Nat) :Int) :=by rw[IntKind.wrap_i64]; omega
   have uE:=D3 y.key;have ef:qk s.l k=(gN y.key&&(decide (k=0)||eM (oX s.l (k - 1)) y)) :=by unfold qk; rw[nD ay]
   obtain⟨E,ff⟩:∃ E,E=aQ y.id:=⟨_,rfl⟩
   have sY:bF y=.str y.key::E:=by rw[ff]; rfl
   have l9:E.length=32:=by rw[ff]; exact cA (aq y ch)
   have Ky:aZ E=true:=by rw[ff]; exact eP _
   simp[dd,ay,sY];refine aW uE rfl ?_;cases aU:gN y.key with
   | false=>
    rw[aU,asN] at ef;simp;exact aK (by rw[if_neg h1,F2 h ef]; rfl) rfl
   | true=>
    rw[aU,asM] at ef;rcases k with _ | k
    ·simp[aR,dd]
     and_intros<;>first | omega | rfl | (rw[IntKind.wrap_i64]; omega) | (rw[ef]; rfl)
    ·obtain⟨x,ai,cE⟩:=bu (l:=s.l) (k:=k) (by omega);have a2:=iL (aq x cE);have c4:IntKind.i64.wrap (k:Int)=(k:Int) :=by rw[IntKind.wrap_i64]; omega
     have h0:(0:Int)<(k:Int)+1:=by omega
     have gV:=Ud x y (aq x cE) (aq y ch);rw[sY] at gV;simp only[atP,nD ai,aus,auV,and_false,decide_false,aur] at ef;simp[h0,ai,ay,sY,a2,c4,l9,arX];refine⟨by omega,?_⟩;refine aW gV (by simp[aZ,ad.closed,Ky,k4]) ?_;cases bz:eM x y with
     | true=>
      rw[bz] at ef;simp[aR];refine⟨by omega,rfl,by rw[IntKind.wrap_i64]; omega,fun j aj=>?_⟩;by_cases fB:j=k+1
      ·rw[fB,ef]
      ·exact ak j (by omega)
     | false=>
      rw[bz] at ef;simp;exact aK (by rw[if_neg h1,F2 h ef]; rfl) rfl
  ·simp[h];have fR:k=s.l.length:=by simp at h; omega
   exact aK (by rw[if_neg h1,if_pos (Kr fun j aj=>ak j (by omega))]) rfl
def ahI (l:List bj) (m:Nat) :List (List UInt8) :=(List.range m).flatMap fun k=>if aci (l.take k) (oX l k).key then [] else [(oX l k).key]
structure alA (s:eO) (k:Nat) (af:bi) (l:ap) :Prop where
 aL:af 1=.ptr 0 0 1
 bf:af 5=.int .i64 k
 tx:∃ v,af 4=v/\cj 1 Fw [.cells 1 [dd s]] l v (ahI s.l k) (decide (k=0))
def HD:List mG:=.s::List.replicate 32 (.i .u8)
theorem MG:r4 Tryz.prog 20 53=some HD:=by kernel_rfl
theorem Bu {t:bj} (h:t.id.length=32) :ih HD (bF t)=true:=by
 unfold HD bF;have:=ze t.id;rw[h] at this;simp only[ih,EF,asM];exact this
theorem Jv {a b:bj} (az:a.id.length=32) (ag:b.id.length=32) :fk (bF a) (bF b)=decide (a=b) :=by
 unfold bF aQ;simp only[fk,ad.beq];rw[Cd a.id b.id (by omega)];cases a; cases b;simp only[bj.mk.injEq];rename_i ce eg bI eK;by_cases h1:ce=bI<;>by_cases ae:eg=eK<;>simp[h1,ae]
theorem ajP {a b:bj} (az:a.id.length=32) (ag:b.id.length=32) :gq Tryz.prog .eql 53 (.aI (bF a)) (.aI (bF b))=some (.bool (decide (a=b))) :=by
 rw[Fc MG (by kernel_rfl) (by kernel_rfl) (Bu az) (Bu ag),Jv az ag]
theorem ajQ {a b:bj} (az:a.id.length=32) (ag:b.id.length=32) :gq Tryz.prog .neq 53 (.aI (bF a)) (.aI (bF b))=some (.bool (!decide (a=b))) :=by
 rw[Fe MG (by kernel_rfl) (by kernel_rfl) (Bu az) (Bu ag),Jv az ag]
theorem aiQ (a b:eO) (az:gW a.l) (ag:gW b.l) (am:a.l.length<=1000000) :bx Tryz.prog GS 56 [.aI [dd a],.aI [dd b]] (.bool (decide (a.l=b.l))) :=by
 refine bH Tryz.checked.mixed bD ?_;apply bm Tryz.func56 [];have jx:cz (.au 33) (dd a)=some (.int .i64 a.l.length) :=by simp[dd]
 have oL:cz (.au 33) (dd b)=some (.int .i64 b.l.length) :=by simp[dd]
 by_cases h1:a.l.length=b.l.length
 ·have c3:((a.l.length:Int)=b.l.length) :=by omega
  simp[jx,oL,h1];refine cw a.l.length (fun k af l=>l=[.cells 1 [dd a],.cells 1 [dd b]]/\af 2=.ptr 0 0 1/\af 3=.ptr 1 0 1/\af 5=.int .i64 k/\∀ j,j<k->a.l[j]? = b.l[j]?) ?_ (by simp);rintro k af l hk ⟨rfl,aT,a7,bf,ak⟩;obtain⟨s,rfl⟩:=kb aT a7 bf;clear aT a7 bf;simp[jx];refine g8 (fun h=>?_) (fun h=>?_)
  ·simp only[decide_eq_true_eq] at h;obtain⟨x,ai,cE⟩:=bu h;obtain⟨y,ay,ch⟩:=bu (l:=b.l) (k:=k) (by omega);have aR:IntKind.i64.wrap ((k:Int)+1)=((k+1:Nat) :Int) :=by rw[IntKind.wrap_i64]; omega
   have bG:cd (.au 33) (dd a) (.int .i64 (k:Int))=some (.b0 (bF x) 0) :=by simp[dd,ai]
   have jw:cd (.au 33) (dd b) (.int .i64 (k:Int))=some (.b0 (bF y) 0) :=by simp[dd,ay]
   have a2:=iL (az x cE);have b4:=iL (ag y ch);have bU:=ajQ (az x cE) (ag y ch);obtain⟨X,b3⟩:∃ X,X=bF x:=⟨_,rfl⟩
   obtain⟨Y,dC⟩:∃ Y,Y=bF y:=⟨_,rfl⟩
   rw[<-b3] at bG a2 bU;rw[<-dC] at jw b4 bU;simp[bG,jw,a2,b4,arX,bU];by_cases ao:x=y
   ·simp[ao,aR];refine⟨by omega,fun j aj=>?_⟩;by_cases fB:j=k
    ·subst fB; rw[ai,ay,ao]
    ·exact ak j (by omega)
   ·simp[ao];refine aK (congrArg ad.bool (decide_eq_false fun fu=>ao ?_).symm) rfl;rw[fu,ay] at ai; exact (Option.some.inj ai).symm
  ·simp[h];have fR:k=a.l.length:=by simp at h; omega
   refine aK (congrArg ad.bool (decide_eq_true ?_).symm) rfl;apply asY;intro j;by_cases aj:j<a.l.length
   ·exact ak j (by omega)
   ·rw[ase (by omega),ase (by omega)]
 ·have c3:¬ ((a.l.length:Int)=b.l.length) :=by omega
  simp[jx,oL,h1,c3];exact aK (by rw[decide_eq_false (fun fu=>h1 (by rw[fu]))]) rfl
end Op

end Go.cf

namespace Go.cf
open Go Go.Proofs Go.Shelf Go.RowKit Go.Lib
set_option maxRecDepth 100000
set_option maxHeartbeats 4000000
theorem aff (base:Option Addr) (n c eN fq hd:Nat) (r:Value) (w w' : World) (aF:n<=c) (pj:n<=4611686018427387904) (gx:base=none->n=0/\c=0)
  (iO:(Builtin.append_ #[32,32] 32 #[.slice base n c,.slice (some ⟨fq,hd,none⟩) 1 eN]).run Tryz.prog w=.ok r w') :
  Calls Tryz.prog 138 #[.slice base n c,.int .i64 n,.slice (some ⟨fq,hd,none⟩) 1 eN] w fun e w2=>e=.returned r/\w2=w':=by
 have zz:=Tryz.underlying32;have mixed:=Tryz.checked.mixed
 go_enter Tryz.func138,Tryz.ntmps138
 cases base with
 | none=>
  obtain⟨aB,h1⟩:=gx rfl;subst aB h1
  go_wp2_with (at_builtin; refine Lib.wpList_append_run _ rfl _ _ _ _ rfl _ _ rfl rfl _ _ iO ?_)
  go_ret
  exact⟨rfl,rfl⟩
 | some a=>
  obtain⟨ab,Yz,YH⟩:=a
  go_wp2_with (at_builtin; refine Lib.wpList_append_run _ rfl _ _ _ _ rfl _ _ rfl rfl _ _ iO ?_)
  all_goals (go_ret; exact⟨rfl,rfl⟩)
theorem afk (b off n c i fq hd eN:Nat) (ce bI:Value) (w jR hT:World) (zw fA:TypeId) (qT tm:Nat) (ax:i<n) (dO:n+1<=c) (pj:n<=4611686018427387904) (n9:fq≠b)
  (yU:w.shape? fq=some (zw,qT)) (yV:w.shape? b=some (fA,tm)) (Ln:tm≠0) (lL:w.frozen? ⟨fq,hd,none⟩=false) (yu:w.frozen? ⟨fq,qT,none⟩=false)
  (qr:(Builtin.copy_ #[32,32] 3 #[.slice (some ⟨b,off+(i+1)*38,none⟩) (n - i) (c - (i+1)),.slice (some ⟨b,off+i*38,none⟩) (n+1 - i) (c - i)]).run Tryz.prog w.drew=.ok ce jR)
  (qs:(Builtin.copy_ #[32,32] 3 #[.slice (some ⟨b,off+i*38,none⟩) (n+1 - i) (c - i),.slice (some ⟨fq,hd,none⟩) 1 eN]).run Tryz.prog jR=.ok bI hT) :
  Calls Tryz.prog 138 #[.slice (some ⟨b,off,none⟩) n c,.int .i64 i,.slice (some ⟨fq,hd,none⟩) 1 eN] w fun e w2=>e=.returned (.slice (some ⟨b,off,none⟩) (n+1) c)/\w2=hT:=by
 have zz:=Tryz.underlying32;have z0:∀ w,(Go.sizeOf 50).run Tryz.prog w=.ok 38 w:=fun w=>fT (by kernel_rfl)
 have mixed:=Tryz.checked.mixed;have Dr:∀ y4 p9,(callFunc 191 #[.slice (some ⟨fq,hd,none⟩) 1 eN,.slice (some ⟨b,off+(i+1)*38,none⟩) y4 p9]).run Tryz.prog w=.ok (.value (.bool false)) w:=fun y4 p9=>by
  rw[run_callFunc_extern Tryz.func191 (by kernel_rfl) (by kernel_rfl) (by kernel_rfl) (e:=Extern.SlicesOverlaps.overlaps #[32,32] #[4]) (by kernel_rfl),
   Lib.run_overlaps_apart w 32 4 50 zz 38 z0 ⟨fq,hd,none⟩ ⟨b,off+(i+1)*38,none⟩ 1 eN y4 p9 n9 zw fA qT tm yU yV Ln lL yu]
  rfl
 have jA:¬ ((i:Int)=(n:Int)) :=by omega
 have ko:IntKind.i64.wrap ((i:Int)+1)=(i:Int)+1:=by rw[IntKind.wrap_i64]; omega
 have m1:IntKind.i64.wrap ((n:Int)+1)=(n:Int)+1:=by rw[IntKind.wrap_i64]; omega
 have g3:(0:Int)<=(i:Int)+1:=by omega
 have cZ:i<=n:=by omega
 have Hj:((i:Int)+1).toNat=i+1:=by omega
 have fm:¬ (c=i+1) :=by omega
 have rE:(i:Int)<=(n:Int)+1:=by omega
 have acm:¬ (c=i) :=by omega
 have acn:¬ ((c:Int)<(n:Int)+1) :=by omega
 go_enter Tryz.func138,Tryz.ntmps138
 go_wp2_with (simp only[Dr])
 go_region_law_o (refine step_copy_runI rfl _ _ 32 32 rfl _ _ (by simp[Act.eval,Act.put]) (by simp[Act.eval,Act.put]) qr ?_)
 go_wp2_with (at_builtin; refine wpList_copy_runI _ rfl _ _ 32 32 rfl _ _ rfl rfl qs ?_)
 go_ret
 exact⟨rfl,rfl⟩
theorem afh (b off n c i fq hd eN N G:Nat) (ce bI:Value) (w vB jR hT:World) (ax:i<n) (GZ:n<=c) (dO:c<n+1) (ma:n+1<=G) (pj:n<=4611686018427387904)
  (lI:(Builtin.append_ #[32,3] 32 #[.slice (some ⟨b,off,none⟩) i c,.int .i64 ((n:Int)+1 - (i:Int))]).run Tryz.prog w=.ok (.slice (some ⟨N,0,none⟩) (n+1) G) vB)
  (qr:(Builtin.copy_ #[32,32] 3 #[.slice (some ⟨N,i*38,none⟩) (n+1 - i) (G - i),.slice (some ⟨fq,hd,none⟩) 1 eN]).run Tryz.prog vB=.ok ce jR)
  (qs:(Builtin.copy_ #[32,32] 3 #[.slice (some ⟨N,(i+1)*38,none⟩) (n - i) (G - (i+1)),.slice (some ⟨b,off+i*38,none⟩) (n - i) (c - i)]).run Tryz.prog jR.drew=.ok bI hT) :
  Calls Tryz.prog 138 #[.slice (some ⟨b,off,none⟩) n c,.int .i64 i,.slice (some ⟨fq,hd,none⟩) 1 eN] w fun e w2=>e=.returned (.slice (some ⟨N,0,none⟩) (n+1) G)/\w2=hT:=by
 have zz:=Tryz.underlying32;have z0:∀ w,(Go.sizeOf 50).run Tryz.prog w=.ok 38 w:=fun w=>fT (by kernel_rfl)
 have mixed:=Tryz.checked.mixed;have jA:¬ ((i:Int)=(n:Int)) :=by omega
 have ko:IntKind.i64.wrap ((i:Int)+1)=(i:Int)+1:=by rw[IntKind.wrap_i64]; omega
 have m1:IntKind.i64.wrap ((n:Int)+1)=(n:Int)+1:=by rw[IntKind.wrap_i64]; omega
 have aeM:IntKind.i64.wrap ((n:Int)+1 - (i:Int))=(n:Int)+1 - (i:Int) :=by rw[IntKind.wrap_i64]; omega
 have g3:(0:Int)<=(i:Int)+1:=by omega
 have cZ:i<=n:=by omega
 have Hj:((i:Int)+1).toNat=i+1:=by omega
 have abT:¬ (G=i) :=by omega
 have abU:¬ (G=i+1) :=by omega
 have cJ:¬ (c=i) :=by omega
 have Md:(c:Int)<(n:Int)+1:=by omega
 have rE:(i:Int)<=(n:Int) :=by omega
 have aco:(i:Int)<=(c:Int) :=by omega
 go_enter Tryz.func138,Tryz.ntmps138
 go_wp2_with (first
  | (at_builtin; refine Lib.wpList_append_run _ rfl _ _ _ _ rfl _ _ rfl rfl _ _ lI ?_)
  | (at_builtin; refine wpList_copy_runI _ rfl _ _ 32 32 rfl _ _ rfl rfl qr ?_))
 go_region_law_o (refine step_copy_runI rfl _ _ 32 32 rfl _ _ (by simp[Act.eval,Act.put]) (by simp[Act.eval,Act.put]) qs ?_)
 go_wp2
 go_ret
 exact⟨rfl,rfl⟩
theorem Mq:B1 Tryz.prog 138 32 3 50 38:=
 ⟨Tryz.underlying32,Tryz.underlying3,aff,afk,afh⟩
theorem ae8 {G:Nat->ad} (args:List ad) (h:a6) (r:ad) (h' : a6) (ai:Bf 38 96 args h=some (r,h')) :sv Tryz.prog G 138 args h r h':=
 TT Mq (by kernel_rfl) (by kernel_rfl) (by kernel_rfl) (by omega) (by omega) (by kernel_rfl) args h r h' ai
theorem afg (base:Option Addr) (n c eN fq hd:Nat) (r:Value) (w w' : World) (aF:n<=c) (pj:n<=4611686018427387904) (gx:base=none->n=0/\c=0)
  (iO:(Builtin.append_ #[29,29] 29 #[.slice base n c,.slice (some ⟨fq,hd,none⟩) 1 eN]).run Tryz.prog w=.ok r w') :
  Calls Tryz.prog 152 #[.slice base n c,.int .i64 n,.slice (some ⟨fq,hd,none⟩) 1 eN] w fun e w2=>e=.returned r/\w2=w':=by
 have zz:=Tryz.underlying29;have mixed:=Tryz.checked.mixed
 go_enter Tryz.func152,Tryz.ntmps152
 cases base with
 | none=>
  obtain⟨aB,h1⟩:=gx rfl;subst aB h1
  go_wp2_with (at_builtin; refine Lib.wpList_append_run _ rfl _ _ _ _ rfl _ _ rfl rfl _ _ iO ?_)
  go_ret
  exact⟨rfl,rfl⟩
 | some a=>
  obtain⟨ab,Yz,YH⟩:=a
  go_wp2_with (at_builtin; refine Lib.wpList_append_run _ rfl _ _ _ _ rfl _ _ rfl rfl _ _ iO ?_)
  all_goals (go_ret; exact⟨rfl,rfl⟩)
theorem afl (b off n c i fq hd eN:Nat) (ce bI:Value) (w jR hT:World) (zw fA:TypeId) (qT tm:Nat) (ax:i<n) (dO:n+1<=c) (pj:n<=4611686018427387904) (n9:fq≠b)
  (yU:w.shape? fq=some (zw,qT)) (yV:w.shape? b=some (fA,tm)) (Ln:tm≠0) (lL:w.frozen? ⟨fq,hd,none⟩=false) (yu:w.frozen? ⟨fq,qT,none⟩=false)
  (qr:(Builtin.copy_ #[29,29] 3 #[.slice (some ⟨b,off+(i+1)*33,none⟩) (n - i) (c - (i+1)),.slice (some ⟨b,off+i*33,none⟩) (n+1 - i) (c - i)]).run Tryz.prog w.drew=.ok ce jR)
  (qs:(Builtin.copy_ #[29,29] 3 #[.slice (some ⟨b,off+i*33,none⟩) (n+1 - i) (c - i),.slice (some ⟨fq,hd,none⟩) 1 eN]).run Tryz.prog jR=.ok bI hT) :
  Calls Tryz.prog 152 #[.slice (some ⟨b,off,none⟩) n c,.int .i64 i,.slice (some ⟨fq,hd,none⟩) 1 eN] w fun e w2=>e=.returned (.slice (some ⟨b,off,none⟩) (n+1) c)/\w2=hT:=by
 have zz:=Tryz.underlying29;have z0:∀ w,(Go.sizeOf 53).run Tryz.prog w=.ok 33 w:=fun w=>fT (by kernel_rfl)
 have mixed:=Tryz.checked.mixed;have Dr:∀ y4 p9,(callFunc 207 #[.slice (some ⟨fq,hd,none⟩) 1 eN,.slice (some ⟨b,off+(i+1)*33,none⟩) y4 p9]).run Tryz.prog w=.ok (.value (.bool false)) w:=fun y4 p9=>by
  rw[run_callFunc_extern Tryz.func207 (by kernel_rfl) (by kernel_rfl) (by kernel_rfl) (e:=Extern.SlicesOverlaps.overlaps #[29,29] #[4]) (by kernel_rfl),
   Lib.run_overlaps_apart w 29 4 53 zz 33 z0 ⟨fq,hd,none⟩ ⟨b,off+(i+1)*33,none⟩ 1 eN y4 p9 n9 zw fA qT tm yU yV Ln lL yu]
  rfl
 have jA:¬ ((i:Int)=(n:Int)) :=by omega
 have ko:IntKind.i64.wrap ((i:Int)+1)=(i:Int)+1:=by rw[IntKind.wrap_i64]; omega
 have m1:IntKind.i64.wrap ((n:Int)+1)=(n:Int)+1:=by rw[IntKind.wrap_i64]; omega
 have g3:(0:Int)<=(i:Int)+1:=by omega
 have cZ:i<=n:=by omega
 have Hj:((i:Int)+1).toNat=i+1:=by omega
 have fm:¬ (c=i+1) :=by omega
 have rE:(i:Int)<=(n:Int)+1:=by omega
 have acm:¬ (c=i) :=by omega
 have acn:¬ ((c:Int)<(n:Int)+1) :=by omega
 go_enter Tryz.func152,Tryz.ntmps152
 go_wp2_with (simp only[Dr])
 go_region_law_o (refine step_copy_runI rfl _ _ 29 29 rfl _ _ (by simp[Act.eval,Act.put]) (by simp[Act.eval,Act.put]) qr ?_)
 go_wp2_with (at_builtin; refine wpList_copy_runI _ rfl _ _ 29 29 rfl _ _ rfl rfl qs ?_)
 go_ret
 exact⟨rfl,rfl⟩
theorem afi (b off n c i fq hd eN N G:Nat) (ce bI:Value) (w vB jR hT:World) (ax:i<n) (GZ:n<=c) (dO:c<n+1) (ma:n+1<=G) (pj:n<=4611686018427387904)
  (lI:(Builtin.append_ #[29,3] 29 #[.slice (some ⟨b,off,none⟩) i c,.int .i64 ((n:Int)+1 - (i:Int))]).run Tryz.prog w=.ok (.slice (some ⟨N,0,none⟩) (n+1) G) vB)
  (qr:(Builtin.copy_ #[29,29] 3 #[.slice (some ⟨N,i*33,none⟩) (n+1 - i) (G - i),.slice (some ⟨fq,hd,none⟩) 1 eN]).run Tryz.prog vB=.ok ce jR)
  (qs:(Builtin.copy_ #[29,29] 3 #[.slice (some ⟨N,(i+1)*33,none⟩) (n - i) (G - (i+1)),.slice (some ⟨b,off+i*33,none⟩) (n - i) (c - i)]).run Tryz.prog jR.drew=.ok bI hT) :
  Calls Tryz.prog 152 #[.slice (some ⟨b,off,none⟩) n c,.int .i64 i,.slice (some ⟨fq,hd,none⟩) 1 eN] w fun e w2=>e=.returned (.slice (some ⟨N,0,none⟩) (n+1) G)/\w2=hT:=by
 have zz:=Tryz.underlying29;have z0:∀ w,(Go.sizeOf 53).run Tryz.prog w=.ok 33 w:=fun w=>fT (by kernel_rfl)
 have mixed:=Tryz.checked.mixed;have jA:¬ ((i:Int)=(n:Int)) :=by omega
 have ko:IntKind.i64.wrap ((i:Int)+1)=(i:Int)+1:=by rw[IntKind.wrap_i64]; omega
 have m1:IntKind.i64.wrap ((n:Int)+1)=(n:Int)+1:=by rw[IntKind.wrap_i64]; omega
 have aeM:IntKind.i64.wrap ((n:Int)+1 - (i:Int))=(n:Int)+1 - (i:Int) :=by rw[IntKind.wrap_i64]; omega
 have g3:(0:Int)<=(i:Int)+1:=by omega
 have cZ:i<=n:=by omega
 have Hj:((i:Int)+1).toNat=i+1:=by omega
 have abT:¬ (G=i) :=by omega
 have abU:¬ (G=i+1) :=by omega
 have cJ:¬ (c=i) :=by omega
 have Md:(c:Int)<(n:Int)+1:=by omega
 have rE:(i:Int)<=(n:Int) :=by omega
 have aco:(i:Int)<=(c:Int) :=by omega
 go_enter Tryz.func152,Tryz.ntmps152
 go_wp2_with (first
  | (at_builtin; refine Lib.wpList_append_run _ rfl _ _ _ _ rfl _ _ rfl rfl _ _ lI ?_)
  | (at_builtin; refine wpList_copy_runI _ rfl _ _ 29 29 rfl _ _ rfl rfl qr ?_))
 go_region_law_o (refine step_copy_runI rfl _ _ 29 29 rfl _ _ (by simp[Act.eval,Act.put]) (by simp[Act.eval,Act.put]) qs ?_)
 go_wp2
 go_ret
 exact⟨rfl,rfl⟩
theorem Mr:B1 Tryz.prog 152 29 3 53 33:=
 ⟨Tryz.underlying29,Tryz.underlying3,afg,afl,afi⟩
theorem ae9 {G:Nat->ad} (args:List ad) (h:a6) (r:ad) (h' : a6) (ai:Bf 33 48 args h=some (r,h')) :sv Tryz.prog G 152 args h r h':=
 TT Mr (by kernel_rfl) (by kernel_rfl) (by kernel_rfl) (by omega) (by omega) (by kernel_rfl) args h r h' ai
def Mp (f:FuncId) :Option (Nat × Nat) :=match Nat.beq f 138 with | true=>some (38,96) | false=>match Nat.beq f 152 with | true=>some (33,48) | false=>none
theorem ae7 (f:FuncId) (z by_:Nat) (h:Mp f=some (z,by_)) (args:List ad) (aC:a6) (r:ad) (gy:a6) (ai:Bf z by_ args aC=some (r,gy)) :sv Tryz.prog GS f args aC r gy:=by
 unfold Mp at h;split at h
 ·rename_i ag;have aD:=as7 ag;subst aD;cases h;exact ae8 args aC r gy ai
 split at h
 ·rename_i ag;have aD:=as7 ag;subst aD;cases h;exact ae9 args aC r gy ai
 cases h
instance aoB:O1 Tryz.prog GS:=⟨Mp,ae7⟩
end Go.cf

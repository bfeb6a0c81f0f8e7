/-
  Missed in the reference, Known in both texts, walked.
-/
import Derived.Test.YtidejmkknleijaaGreatDoorKk
set_option linter.unusedVariables false
set_option linter.unusedSimpArgs false
set_option linter.unnecessarySimpa false
namespace Go.ca
open Go Go.Proofs
set_option maxRecDepth 100000
namespace Op
open hN
def v1 (s:dC) (N:Nat) :bo:=c2 (gB (c2 (dX s.bR)) (s.order.l.take N) (g6 (c2 (dX s.bR))).length)
structure R7 (s:dC) (d:gd) (g:bo) (P:eE) (k:Nat) (ae:a7) (l:ap) :Prop where
 a9:ae 4=.ptr 2 0 2
 ez:ae 7=.ptr 3 0 2
 gR:ae 9=az P
 iq:ae 10=.ptr 4 0 2
 FW:ae 39=az g.ids
 w9:ae 40=.int .i64 g.ids.l.length
 xa:ae 41=.int .i64 k
 cS:l[2]? = some (.cells 2 [.aK,.aK])
 fp:l[3]? = some (.cells 2 [az g.ids,bw g.ops])
 iM:∃ cd bP dW ef,l[4]? = some (.cells 2 [cd,bP])/\gE l cd bP dW ef 5 ((gB g P.l k).map (·.1)) ((gB g P.l k).map (·.2))
section
variable (s:dC) (ak:mJ s) (d:gd) (bh:yH d)
include ak bh
theorem aaV:bn Tryz.prog GS 16 [.aH (bE s),.aH (b3 d)] (if jK s d=0 then .bu [az (some (s.order.l.drop (d.dw+d.ids.l.length).toNat)),.int .i64 0] else .bu [.aK,.int .i64 (jK s d)]) :=by
 refine bD Tryz.checked.mixed bx ?_;apply bf Tryz.func16 [];have ay:cF=140737488355328:=rfl;have cH:=ak.no;have bq:(bE s).length=5:=rfl;have di:(bE s).take 5=bE s:=rfl;have dp:=j0 s;have db:(b3 d).length=3:=rfl;have fe:(b3 d).take 3=b3 d:=rfl;have fc:=nn d;have kZ:∀ h,(bE s)[4]'h=az s.order:=fun _=>rfl
 have lv:(bE s)[4]? = some (az s.order) :=rfl;have nt:∀ h,(b3 d)[0]'h=.int .i64 d.dw:=fun _=>rfl
 have j5:∀ h,(b3 d)[1]'h=az d.ids:=fun _=>rfl
 have h6:(b3 d)[1]? = some (az d.ids) :=rfl;have cv:ch (.ar 32) (az d.ids)=some (.int .i64 d.ids.l.length) :=by simp[az]
 have aC:=PX s ak d bh;simp[bq,di,db,fe];refine aY aC (by simp[a1,U.closed,dp,fc]) ?_;by_cases aF:jK s d=0
 ·obtain⟨ad,af,al⟩:=DR aF;obtain⟨gc,fb,n1⟩:=wX af;obtain⟨n,aD⟩:∃ n:Nat,d.dw+d.ids.l.length=(n:Int) :=⟨(d.dw+d.ids.l.length).toNat,by omega⟩
  have oI:IntKind.i64.wrap (d.dw+(d.ids.l.length:Int))=(n:Int) :=by rw[IntKind.wrap_i64]; omega
  have hQ:e3 (.ar 32) (az s.order) (some (.int .i64 (n:Int))) none none=some (az (iA s.order n)) :=Ex (by omega);have aw:∀ x∈(iA s.order n).l,(aX x).length=32:=fun x ai=>cP (ak.order x (by rw[nR] at ai; exact alw ai))
  have k0:=BK (enc:=aX) (z:=32) (by_:=32) [.cells 5 (bE s),.cells 3 (b3 d),.cells 0 []] 2 rfl (iA s.order n) aw (by omega) (by omega) (by rw[nR,alk,ay]; omega);change fS _ _ _ _ (az _)=_ at k0;rw[if_pos aF,aD,akr];simp at k0;simp[aF,bq,di,db,kZ,lv,nt,j5,h6,cv,oI,hQ,k0];refine cM.cc ?_;simp;rw[<-nR];exact IV ((sg (enc:=aX) (z:=32) (b:=2) (n:=(iA s.order n).l.length) (a:=(iA s.order n).l) aw rfl (by rfl)).q.q4 fU (some (iA s.order n).l) rfl rfl) (.same _ rfl)
 ·rw[if_neg aF];simp[aF];exact aJ rfl rfl
set_option maxHeartbeats 16000000 in
theorem aaS:bn Tryz.prog GS 18 [.aH (bE s),.aH (b3 d)] (if jK s d=0 then .bu [cG (gV (dA s.bR) (s.order.l.take (d.dw+d.ids.l.length).toNat)),.int .i64 0] else .bu [cG ⟨none,none⟩,.int .i64 (jK s d)]) :=by
 refine bD Tryz.checked.mixed bx ?_;apply bf Tryz.func18 [[[0],[1],[3],[4],[5],[6],[7],[8],[9],[10],[11],[2,8,6,4]]];have cH:=ak.no;have bq:(bE s).length=5:=rfl;have di:(bE s).take 5=bE s:=rfl;have xj:(bE s).tail.take 3=cY s.bR:=rfl;have kX:(List.drop 1 (bE s)).take 3=cY s.bR:=rfl;have dp:=j0 s;have Cs:=wO s.bR;have db:(b3 d).length=3:=rfl;have fe:(b3 d).take 3=b3 d:=rfl;have fc:=nn d;have kZ:∀ h,(bE s)[4]'h=az s.order:=fun _=>rfl
 have lv:(bE s)[4]? = some (az s.order) :=rfl;have nt:∀ h,(b3 d)[0]'h=.int .i64 d.dw:=fun _=>rfl
 have j5:∀ h,(b3 d)[1]'h=az d.ids:=fun _=>rfl
 have h6:(b3 d)[1]? = some (az d.ids) :=rfl;have cv:ch (.ar 32) (az d.ids)=some (.int .i64 d.ids.l.length) :=by simp[az]
 have aC:=PX s ak d bh;simp[bq,di,db,fe];refine aY aC (by simp[a1,U.closed,dp,fc]) ?_;by_cases aF:jK s d=0
 ·obtain⟨ad,af,al⟩:=DR aF;obtain⟨gc,fb,n1⟩:=wX af;obtain⟨n,aD⟩:∃ n:Nat,d.dw+d.ids.l.length=(n:Int) :=⟨(d.dw+d.ids.l.length).toNat,by omega⟩
  have oI:IntKind.i64.wrap (d.dw+(d.ids.l.length:Int))=(n:Int) :=by rw[IntKind.wrap_i64]; omega
  have Do:=HJ s.order (k:=n) (by omega);have c0:=(Ev s).1 ad;have V:=tX c0.bR.e5;have qW:=JN ak.bR;have pL:(dA s.bR).ids.l.length=(dA s.bR).ops.l.length:=by
   rw[sy,o3,aki]; exact V.len
  have xF:(dA s.bR).ids.l.length<=100000:=by rw[pL,sy,o3,aki]; have:=V.n60; omega
  have aV:=IQ s.bR ak.bR;have nx:=PY (dA s.bR) qW pL (ic s.order n) (fun x ai=>ak.order x (by rw[lM] at ai; exact akD ai)) (by rw[lM,akB]; omega) xF;rw[lM] at nx;have agb:=oe (dA s.bR);have vz:=cW (ic s.order n);have dJ:=js (gV (dA s.bR) (s.order.l.take n)).ids;have dy:=nk (gV (dA s.bR) (s.order.l.take n)).ops;have kz:=oe (gV (dA s.bR) (s.order.l.take n));rw[if_pos aF,aD,akr];simp[aF,bq,di,kX,xj,db,kZ,lv,nt,j5,h6,cv,oI,Do];refine aY aV (by simp[a1,U.closed,Cs]) ?_;unfold cG bI at nx kz ⊢;simp;have b5:=cW (dA s.bR).ids;have ce:=jb (dA s.bR).ops;refine⟨⟨h6,rfl,lv⟩,aY nx (by simp[a1,U.closed,b5,ce,vz]) ?_⟩;simp[dJ,dy,bi];exact aJ rfl (by simp[U.closed,a1] at kz ⊢; exact kz)
 ·rw[if_neg aF];simp[aF,bi];exact aJ rfl rfl
set_option maxHeartbeats 16000000 in
theorem YS:bn Tryz.prog GS 17 [.aH (bE s),.aH (b3 d)] (if jK s d=0 then .bu [cG (v1 s (d.dw+d.ids.l.length).toNat),.int .i64 0] else .bu [cG ⟨none,none⟩,.int .i64 (jK s d)]) :=by
 refine bD Tryz.checked.mixed bx ?_;apply bf Tryz.func17 [];have cH:=ak.no;have bq:(bE s).length=5:=rfl;have di:(bE s).take 5=bE s:=rfl;have dp:=j0 s;have db:(b3 d).length=3:=rfl;have fe:(b3 d).take 3=b3 d:=rfl;have fc:=nn d;have kZ:∀ h,(bE s)[4]'h=az s.order:=fun _=>rfl
 have lv:(bE s)[4]? = some (az s.order) :=rfl;have nt:∀ h,(b3 d)[0]'h=.int .i64 d.dw:=fun _=>rfl
 have j5:∀ h,(b3 d)[1]'h=az d.ids:=fun _=>rfl
 have h6:(b3 d)[1]? = some (az d.ids) :=rfl;have vu:(b3 d)[0]? = some (.int .i64 d.dw) :=rfl;have cv:ch (.ar 32) (az d.ids)=some (.int .i64 d.ids.l.length) :=by simp[az]
 have aC:=OS s ak d bh;simp[bq,di,db,fe];refine aY aC (by simp[a1,U.closed,dp,fc]) ?_;by_cases aF:jK s d=0
 ·obtain⟨ad,af,al⟩:=DR aF;obtain⟨gc,fb,n1⟩:=wX af;obtain⟨n,aD⟩:∃ n:Nat,d.dw+d.ids.l.length=(n:Int) :=⟨(d.dw+d.ids.l.length).toNat,by omega⟩
  have oI:IntKind.i64.wrap (d.dw+(d.ids.l.length:Int))=(n:Int) :=by rw[IntKind.wrap_i64]; omega
  have Do:=HJ s.order (k:=n) (by omega);have c0:=(Ev s).1 ad;have V:=tX c0.bR.e5;have hf:fq (c2 (dX s.bR)) :=uL ak.bR;have hR:=abZ s ak;rw[QD c0] at hR;rw[if_pos aF,aD,akr];obtain⟨g,aA⟩:∃ g,g=c2 (dX s.bR) :=⟨_,rfl⟩
  obtain⟨P,Cw⟩:∃ P,P=ic s.order n:=⟨_,rfl⟩
  have dR:v1 s n=c2 (gB g P.l (g6 g).length) :=by unfold v1; rw[aA,Cw,lM]
  rw[<-aA] at hR hf V;rw[<-Cw] at Do;have Vv:eh P:=fun x ai=>ak.order x (by rw[Cw,lM] at ai; exact akD ai)
  have Vu:P.l.length<=1000000:=by rw[Cw,lM,akB]; omega
  rw[dR];have dJ:=js g.ids;have dy:=nk g.ops;have WU:ch (.ar 32) (az g.ids)=some (.int .i64 g.ids.l.length) :=by simp[az]
  have xF:=V.n60;have pJ:=V.len;unfold cG bI at hR;simp[aF,bq,di];refine aY hR (by simp[a1,U.closed,dp]) ?_;simp[dJ,dy,bi,bq,db,kZ,lv,nt,j5,vu,h6,cv,oI,Do,WU];refine cm g.ids.l.length (R7 s d g P) ?_ ⟨by simp,by simp,by simp,by simp,by simp,by simp,by simp,rfl,rfl,.aK,.aK,0,0,rfl,by simpa [gB] using D1 _ 5⟩;rintro k ae l ax ⟨a9,ez,gR,iq,FW,w9,xa,cS,fp,cd,bP,dW,ef,mq,gK⟩;obtain⟨ae,rfl⟩:=JG a9 ez gR iq FW w9 xa;clear a9 ez gR iq FW w9 xa;have aS:IntKind.i64.wrap ((k:Int)+1)=((k+1:Nat) :Int) :=by rw[IntKind.wrap_i64]; omega
  have gT:=IE (g:=g) (L:=P.l) (k:=k);have agk:=b9 mq;by_cases br:k<g.ids.l.length
  ·obtain⟨x,ai,c7⟩:=bF br;obtain⟨o,au,ec⟩:=bF (l:=g.ops.l) (k:=k) (by omega);have eU:=hf.ids x c7;have bm:=cP eU;have eZ:=fU x;have de:=qK ai;have k3:=HE au;have dF:(a5 o).length=11:=rfl;have dj:=JL P Vv Vu x eU;have pr:=cW P;have iv:=PF (L:=P.l) ai au;obtain⟨X,cL⟩:∃ X,X=aX x:=⟨_,rfl⟩
   obtain⟨Y,gi⟩:∃ Y,Y=a5 o:=⟨_,rfl⟩
   rw[<-cL] at bm eZ de dj;rw[<-gi] at dF k3;have gh:X.take 32=X:=aj9 (by omega);have xl:Y.take 11=Y:=aj9 (by omega);have hU:bi (rep 32 (.int .u8 0)) 0 X=X:=gl (by rw[bm]; rfl);have nA:bi [U.int .u32 0,.aK,.int .u64 0,.int .u8 0,.str [],.int .u8 0,.int .i64 0,.int .u64 0,.str [],.int .u32 0,.int .u32 0] 0 Y=Y:=gl (by rw[dF]; rfl);obtain⟨L,dO⟩:∃ L,L=l++[aU.cells 32 X] :=⟨_,rfl⟩
   have pp:L.length=l.length+1:=by rw[dO]; simp
   have lm:∀ (i:Nat) (c:aU),l[i]? = some c->L[i]? = some c:=fun i c h=>by rw[dO,aj8 (b9 h)]; exact h
   have RP:L[l.length]? = some (.cells 32 X) :=by rw[dO]; exact alS
   have k5:gE L cd bP dW ef 5 ((gB g P.l k).map (·.1)) ((gB g P.l k).map (·.2)) :=by rw[dO]; exact gK.frame fun b _ ag=>aj8 ag
   have w2:=lm 2 _ cS;have eM:=lm 3 _ fp;have nX:=lm 4 _ mq;simp[br,de,bm,gh,hU,<-dO,RP];refine aY dj (by simp[a1,U.closed,pr,eZ]) ?_;by_cases hm:x∈P.l
   ·rw[if_pos hm] at iv;obtain⟨iC,pP,l1,a2,bb,cr,dY⟩:=k5.ids cL bm (by omega) (by rw[aki]; omega);have f2:l1[2]? = _:=(dY 2 (by omega)).trans w2;have f3:l1[3]? = _:=(dY 3 (by omega)).trans eM;have f4:l1[4]? = _:=(dY 4 (by omega)).trans nX;have hk:=oU bb.ix;obtain⟨M,fJ⟩:∃ M,M=l1.set 4 (.cells 2 [iC,bP]) :=⟨_,rfl⟩
    have Mm:M.length=l1.length:=by rw[fJ]; simp
    have dU:M[2]? = some (.cells 2 [.aK,.aK]) :=by rw[fJ,akl (by omega)]; exact f2
    have lb:M[3]? = some (.cells 2 [az g.ids,bw g.ops]) :=by rw[fJ,akl (by omega)]; exact f3
    have ud:M[4]? = some (.cells 2 [iC,bP]) :=by rw[fJ]; exact akm (b9 f4)
    have Xj:gE M iC bP pP ef 5 ((gB g P.l k).map (·.1)++[x]) ((gB g P.l k).map (·.2)) :=bb.frame fun b ag _=>by rw[fJ,akl (by omega)]
    obtain⟨mD,r3,bt,b5,ce,il,fH⟩:=Xj.ops gi (by omega) (by rw[aki]; omega);have jL:=oU ce.hl;have t2:bt[2]? = _:=(fH 2 (by omega)).trans dU;have t3:bt[3]? = _:=(fH 3 (by omega)).trans lb;have t4:bt[4]? = _:=(fH 4 (by omega)).trans ud;have RB:∀ c:aU,(L++[c])[4]? = some (.cells 2 [cd,bP]) :=fun c=>by rw[aj8 (b9 nX)]; exact nX
    have aj3:∀ c:aU,(M++[c])[4]? = some (.cells 2 [iC,bP]) :=fun c=>by rw[aj8 (b9 ud)]; exact ud
    simp[hm,nX,RP,bm,gh,hU,a2];refine cM.cc ?_;have Ji:bi [cd,bP] 0 [iC]=[iC,bP] :=by simp
    have Jj:bi [iC,bP] 1 [mD]=[iC,mD] :=by simp
    simp[f4,hk,Ji,<-fJ,lb,ud,k3,dF,xl,nA,b5];refine cM.cc ?_;have abX:∀ c:aU,(bt.set 4 c)[4]? = some c:=fun c=>akm (b9 t4)
    simp[t4,jL,Jj,aS];refine⟨br,by simp,by simp,by simp,by simp,by simp,by simp,by simp,?_,?_,iC,mD,pP,r3,abX _,?_⟩
    ·rw[akl (by omega)]; exact t2
    ·rw[akl (by omega)]; exact t3
    ·rw[iv,aks,aks];exact ce.frame fun b ag _=>by rw[akl (by omega)]
   ·rw[if_neg hm,akQ] at iv;simp[hm,aS];exact⟨br,by simp,by simp,by simp,by simp,by simp,by simp,by simp,w2,eM,cd,bP,dW,ef,nX,by rw[iv]; exact k5⟩
  ·have dR:k=g.ids.l.length:=by omega
   subst dR;have xK:(g6 g).length=g.ids.l.length:=by unfold g6; rw[anj]; omega
   rw[xK];have i4:∀ c:aU,(l.set 2 c)[2]? = some c:=fun c=>akm (b9 cS)
   have hk:=oU gK.ix;have jL:=oU gK.hl;have aI:∀ c:aU,gE (l.set 2 c) cd bP dW ef 5 ((gB g P.l g.ids.l.length).map (·.1)) ((gB g P.l g.ids.l.length).map (·.2)) :=fun c=>gK.frame fun b ag _=>by rw[akl (by omega)]
   simp[mq,cS,i4,hk,jL,bi];exact IV (P4 ((aI _).ix.q.q4 fU (cV ((gB g P.l g.ids.l.length).map (·.1))) (by rw[nS]; exact gK.hk) (dm _)) ((aI _).hl.q.q4 kv (cV ((gB g P.l g.ids.l.length).map (·.2))) (by rw[nS]; exact gK.jL) (dm _))) (.same _ rfl)
 ·rw[if_neg aF];simp[aF,bi];exact aJ rfl rfl
end

end Op

end Go.ca

namespace Go.ca
open Go Go.Proofs Go.RowKit
set_option maxRecDepth 100000
namespace Op
open hN
theorem PC (l:List (List B × bl)) :g6 (c2 l)=l:=by
 unfold g6 c2;simp only[dm]
 induction l with
 | nil=>rfl
 | cons a l aQ=>simp only[akx,List.zip_cons_cons,aQ]
theorem Pn (l:List (List B × bl)) (T:List (List B)) :gV (dL (c2 l)) T=dL (c2 ((l.filter fun p=>decide (p.1∈T)).map fun q=>(q.1,eJ q.2))) :=by
 unfold gV gB;rw[akE,PD,List.filter_map]; rfl
theorem YT (s:dC) (n:Nat) :kR (v1 s n) (gV (dA s.bR) (s.order.l.take n))=true:=by
 rw[sy,Pn];unfold v1 gB;rw[akE,PC];obtain⟨A,dQ⟩:∃ A,A=(dX s.bR).filter fun p=>decide (p.1∈s.order.l.take n) :=⟨_,rfl⟩
 rw[<-dQ];have aS:(dL (c2 (A.map fun q=>(q.1,eJ q.2)))).ids.l=A.map (·.1) :=by
  unfold dL c2; simp only[dm,cT.v2,alN]; rfl
 have bv:(dL (c2 (A.map fun q=>(q.1,eJ q.2)))).ops.l=((A.map (·.2)).map eJ).map eJ:=by
  rw[o3]; unfold c2; simp only[dm,alN]; rfl
 have eR:(c2 A).ids.l=A.map (·.1) :=by unfold c2; simp only[dm]
 have nq:(c2 A).ops.l=A.map (·.2) :=by unfold c2; simp only[dm]
 unfold kR;rw[aS,bv,eR,nq];simp only[aki,decide_true,alx,decide_eq_true_eq];intro j aj;obtain⟨q,a8,_⟩:=bF aj;rw[nJ (o:=q.2) (by rw[akd,a8]; rfl),nJ (o:=eJ (eJ q.2)) (by rw[akd,akd,akd,a8]; rfl)];exact QA q.2
theorem YM {s:dC} (ak:mJ s) (n:Nat) :fq (v1 s n) :=by
 have aA:=uL ak.bR;have am:=JO ak.bR;unfold v1;refine zx (fun p av=>?_) (fun p av=>?_) ?_
 ·exact aA.ids _ (ye (akD (ak0.1 av).1)).1
 ·exact aA.ops _ (ye (akD (ak0.1 av).1)).2
 ·unfold gB;refine akV (aln _ _) ?_;rw[akE,PC]; omega
theorem aap {s:dC} (ak:mJ s) (T:List (List B)) :fq (gV (dA s.bR) T) :=by
 have aA:=uL ak.bR;have am:=JO ak.bR;rw[sy,Pn];refine EC (zx (fun p av=>?_) (fun p av=>?_) ?_)
 ·obtain⟨q,a8,rfl⟩:=akz.1 av;exact aA.ids _ (by unfold c2; simp only[dm]; exact alQ (ak0.1 a8).1)
 ·obtain⟨q,a8,rfl⟩:=akz.1 av;exact Rg (aA.ops _ (by unfold c2; simp only[dm]; exact alQ (ak0.1 a8).1))
 ·rw[aki];refine akV (aln _ _) ?_;omega
def Co (s:dC) (d:gd) :Bool:=xf s||decide (80<d.ids.l.length)
theorem aaL (s:dC) (d:gd) :bn Tryz.prog GS 9 [.aH (bE s),.aH (b3 d)] (.bool (Co s d)) :=by
 refine bD Tryz.checked.mixed bx ?_;apply bf Tryz.func9 [];have bq:(bE s).length=5:=rfl;have di:(bE s).take 5=bE s:=rfl;have dp:=j0 s;have db:(b3 d).length=3:=rfl;have j5:∀ h,(b3 d)[1]'h=az d.ids:=fun _=>rfl
 have h6:(b3 d)[1]? = some (az d.ids) :=rfl;have cv:ch (.ar 32) (az d.ids)=some (.int .i64 d.ids.l.length) :=by simp[az]
 have aC:=aaP s;unfold Co;simp[bq,di];refine aY aC (by simp[a1,U.closed,dp]) ?_;cases aF:xf s with
 | true=>
  simp;exact aJ rfl rfl
 | false=>
  by_cases ad:80<d.ids.l.length
  ·have dD:(80:Int)<d.ids.l.length:=by omega
   simp[db,j5,h6,cv,ad,dD];exact aJ rfl rfl
  ·have dD:¬ (80:Int)<d.ids.l.length:=by omega
   simp[db,j5,h6,cv,ad,dD];exact aJ rfl rfl
structure BC (g:bo) :Prop where
 ids:eh g.ids
 ops:∀ o∈g.ops.l,E2 o
theorem Z2 {g:bo} (h:BC g) (aA:ry g=false) :fq g:=by
 unfold ry at aA;simp only[amO,decide_eq_false_iff_not] at aA;obtain⟨ad,af,al,aG⟩:=aA;refine⟨h.ids,fun o au=>?_,by omega,by omega⟩;have a6:¬ rz o=true:=fun aR=>ad ⟨o,by rw[aj9 (by omega)]; exact au,aR⟩
 unfold rz at a6;simp only[al8,decide_eq_true_eq,not_or] at a6;have a3:=h.ops o au;exact⟨a3.ids,by omega,⟨a3.hk,a3.jL,by omega⟩,by omega⟩
theorem adf {ts:List TypeId} {cs:List U} (h:dt Tryz.prog (47::ts) cs) :∃ (g:bo) (cs' : List U),cs=bI g++cs'/\BC g/\dt Tryz.prog ts cs':=by
 have aG:=ux (fs:=[23,45]) (by kernel_rfl) h;obtain⟨i,_,rfl,aB,a6⟩:=Bl aG;obtain⟨s,_,rfl,_,au,bK⟩:=JB (e:=94) (z:=11) (enc:=a5) (Q:=E2) (by kernel_rfl) (by kernel_rfl) (fun r ay=>by
  obtain⟨x,_,rfl,ai,al⟩:=adh ay;rw[Bm al,akQ];exact⟨x,rfl,ai⟩) a6
 exact⟨⟨i,s⟩,_,rfl,⟨aB,au⟩,bK⟩
structure E3 (s:dC) :Prop where
 parts:∀ p∈s.bR.parts.l,BC p
 cZ:eh s.bR.cZ
 order:eh s.order
theorem ada {ts:List TypeId} {cs:List U} (h:lh Tryz.prog (27::ts) cs) :∃ (s:dC) (cs' : List U),cs=.aH (bE s) ::cs'/\E3 s/\lh Tryz.prog ts cs':=by
 obtain⟨c,cs',rfl,ad,af⟩:=Rh h;obtain⟨cs,rfl,al⟩:=Ri (by kernel_rfl) ad;have aG:=ux (fs:=[3,25,23]) (by kernel_rfl) al;obtain⟨n,_,rfl,_,_,a6⟩:=uw (k:=.i64) (by kernel_rfl) aG;have bK:=ux (fs:=[22,23,3]) (by kernel_rfl) a6;obtain⟨p,_,rfl,_,av,c9⟩:=JB (e:=47) (z:=2) (enc:=bI) (Q:=BC) (by kernel_rfl) (by kernel_rfl) (fun r ay=>by
  obtain⟨x,_,rfl,ai,al⟩:=adf ay;rw[Bm al,akQ];exact⟨x,rfl,ai⟩) bK
 obtain⟨i,_,rfl,aB,gg⟩:=Bl c9;obtain⟨v,_,rfl,_,_,fV⟩:=uw (k:=.i64) (by kernel_rfl) gg;obtain⟨o,_,rfl,au,j3⟩:=Bl fV;rw[Bm j3];exact⟨⟨n,⟨p,i,v⟩,o⟩,cs',rfl,⟨av,aB,au⟩,af⟩
theorem ac8 {ts:List TypeId} {cs:List U} (h:lh Tryz.prog (29::ts) cs) :∃ (d:gd) (cs' : List U),cs=.aH (b3 d) ::cs'/\eh d.ids/\lh Tryz.prog ts cs':=by
 obtain⟨c,cs',rfl,ad,af⟩:=Rh h;obtain⟨cs,rfl,al⟩:=Ri (by kernel_rfl) ad;have aG:=ux (fs:=[3,23,4]) (by kernel_rfl) al;obtain⟨n,_,rfl,_,_,a6⟩:=uw (k:=.i64) (by kernel_rfl) aG;obtain⟨i,_,rfl,aB,bK⟩:=Bl a6;obtain⟨b,_,rfl,c9⟩:=ade (by kernel_rfl) bK;rw[Bm c9];exact⟨⟨n,i,b⟩,cs',rfl,aB,af⟩
theorem Z4 {s:dC} (h:E3 s) (aA:xf s=false) :mJ s:=by
 unfold xf ox at aA;simp only[amO,decide_eq_false_iff_not] at aA;obtain⟨⟨ad,af,al⟩,aG⟩:=aA;refine⟨⟨fun p av=>?_,by omega,h.cZ,by omega⟩,h.order,by omega⟩;have a6:=List.any_eq_false.1 ad p (by rw[aj9 (by omega)]; exact av);unfold rm at a6;simp only[al8,decide_eq_true_eq,not_or] at a6;obtain⟨bK,c9,gg⟩:=a6;exact⟨Z2 (h.parts p av) (by simpa using gg),by omega,by omega⟩
theorem ab5 (g:bo) :kR g (dL g)=true:=by
 unfold kR;rw[o3];have:(dL g).ids.l=g.ids.l:=rfl;rw[this];simp only[aki,decide_true,alx,decide_eq_true_eq];intro j aj;obtain⟨o,au,_⟩:=bF aj;rw[nJ au,nJ (o:=eJ o) (by rw[akd,au]; rfl)];unfold p2 eJ;simp[iL,e0,U.beq]
theorem ab7 (s:dH) :lK s (rc s)=true:=by
 rw[uo];have av:(rc s).parts.l=s.parts.l.map dL:=dm _;refine⟨by rw[av,aki],rfl,rfl,fun k ax=>?_⟩;obtain⟨p,h,_⟩:=bF ax;rw[av,gS h,gS (g:=dL p) (by rw[akd,h]; rfl)];exact ab5 p
theorem ab8 (s:dC) :Ep s (o4 s)=true:=by
 unfold Ep;rw[show (o4 s).bR=rc s.bR from rfl,ab7];simp[o4]
theorem ac6 {s:dH} (h:kT s) :uU (rc s) :=by
 have av:(rc s).parts.l=s.parts.l.map dL:=dm _;refine⟨fun g aA=>?_,by rw[av,aki]; have:=h.qV; omega,h.cZ,h.AO⟩;rw[av] at aA;obtain⟨p,fE,rfl⟩:=akz.1 aA;exact EC (h.parts p fE).1
theorem abG (s:dC) (d:gd) :∃ a e,yj s d=.bu [.bool a,.int .i64 e] :=by
 unfold yj; split<;>exact⟨_,_,rfl⟩
theorem ad2 (s:dC) (d:gd) :∃ a e,yz s d=.bu [.int .i64 a,.int .i64 e] :=by
 unfold yz; split
 ·split<;>exact⟨_,_,rfl⟩
 ·exact⟨_,_,rfl⟩
set_option maxHeartbeats 16000000 in
theorem TV (s:dC) (ts:E3 s) (d:gd) (rG:eh d.ids) :dg Tryz.prog GS 3 [.aH (bE s),.aH (b3 d)] [] (c:=⟨fun r _=>r=.bool true⟩) :=by
 apply bf Tryz.func3 [[[0],[2],[3],[4],[6],[1,6,4,2],[5,6]],[[0],[2],[1,2]]];have ay:cF=140737488355328:=rfl;have bq:(bE s).length=5:=rfl;have di:(bE s).take 5=bE s:=rfl;have dp:=j0 s;have db:(b3 d).length=3:=rfl;have fe:(b3 d).take 3=b3 d:=rfl;have fc:=nn d;have j5:∀ h,(b3 d)[1]'h=az d.ids:=fun _=>rfl
 have h6:(b3 d)[1]? = some (az d.ids) :=rfl;have hR:=aaL s d;simp[bq,di,db,fe];refine aY hR (by simp[a1,U.closed,dp,fc]) ?_;cases aF:Co s d with
 | true=>simp
 | false=>
  unfold Co at aF;rw[amO,decide_eq_false_iff_not] at aF;have ak:=Z4 ts aF.1;have bh:yH d:=⟨rG,by omega⟩
  have tk:=bh.OT;have jC:=abe s ak;have zG:(bE (o4 s)).length=5:=rfl;have Mv:(bE (o4 s)).take 5=bE (o4 s) :=rfl;have Vz:=j0 (o4 s);have XX:bi [U.int .i64 0,.aK,.aK,.int .i64 0,.aK] 0 (bE (o4 s))=bE (o4 s) :=gl rfl;have NQ:=abH s ak d bh;have NR:=aaK s ak d bh;have kM:=ad4 s ak d bh;have N5:=abh s ak d bh;obtain⟨a2,iF,aS⟩:=abG s d;obtain⟨bb,jW,bv⟩:=ad2 s d;rw[aS] at NQ NR;rw[bv] at kM N5;obtain⟨dJ,dy,cB,b4,cx,eB,gU,h8⟩:∃ (x y:eE) (e:Int),bn Tryz.prog GS 15 [.aH (bE s),.aH (b3 d)] (.bu [az x,.int .i64 e])/\bn Tryz.prog GS 16 [.aH (bE s),.aH (b3 d)] (.bu [az y,.int .i64 e])/\eh x/\x.l.length<=1000000/\x.l=y.l:=by
   have hm:=ZB s ak d bh;have g3:=aaV s ak d bh;by_cases h:jK s d=0
   ·rw[if_pos h] at hm g3;exact⟨_,_,_,hm,g3,fun x ai=>ak.order x (by rw[nR] at ai; exact alw ai),by rw[nR,alk]; have:=ak.no; omega,by rw[nR]; rfl⟩
   ·rw[if_neg h] at hm g3;exact⟨none,none,_,hm,g3,fun x ai=>(by cases ai),alj _,rfl⟩
  obtain⟨aN,aT,afW,hk,jL,sc,nF,wc⟩:∃ (x y:bo) (e:Int),bn Tryz.prog GS 17 [.aH (bE s),.aH (b3 d)] (.bu [cG x,.int .i64 e])/\bn Tryz.prog GS 18 [.aH (bE s),.aH (b3 d)] (.bu [cG y,.int .i64 e])/\fq x/\fq y/\kR x y=true:=by
   have hm:=YS s ak d bh;have g3:=aaS s ak d bh;by_cases h:jK s d=0
   ·rw[if_pos h] at hm g3;exact⟨_,_,_,hm,g3,YM ak _,aap ak _,YT s _⟩
   ·rw[if_neg h] at hm g3;have au:fq ⟨none,none⟩:=⟨fun x ai=>(by cases ai),fun o au=>(by cases au),alj _,alj _⟩
    exact⟨_,_,_,hm,g3,au,au,ab4 _⟩
  have ff:=Lh d;have VS:=PW d;have jx:=yl dJ dy eB (fun x ai=>eB x (by rw[h8]; exact ai)) gU;rw[decide_eq_true h8] at jx;have tt:=P0 aN aT sc nF;rw[wc] at tt;have m1:=aa2 s (o4 s) ak.bR.w (ac6 ak.bR) ak.order ak.order (by have:=ak.no; omega);rw[ab8] at m1;have M4:=yl d.ids (some d.ids.l) rG rG (by omega);rw[decide_eq_true (show d.ids.l=cT.l (some d.ids.l) from rfl)] at M4;have aw:∀ x∈d.ids.l,(aX x).length=32:=fun x ai=>cP (rG x ai)
  simp[bq,di,db,h6,j5];refine aY jC (by simp[a1,U.closed,dp]) ?_;have k0:=BK (enc:=aX) (z:=32) (by_:=32) [aU.cells 5 (bE s),aU.cells 3 (b3 d),aU.cells 0 [],aU.cells 5 [U.int .i64 0,.aK,.aK,.int .i64 0,.aK]] 2 rfl d.ids aw (by omega) (by omega) (by rw[ay]; omega);change fS _ _ _ _ (az _)=_ at k0;simp at k0;simp[k0];refine⟨h6,cM.vo (by exact sg (enc:=aX) (z:=32) (b:=2) aw rfl (by rfl)) rfl ?_⟩;have Ct:U.b1 32 (d.ids.l.map aX)=az (some d.ids.l) :=rfl;have q1:=cW d.ids;have cS:=cW (some d.ids.l);have fp:=cW dJ;have mq:=cW dy;have IF:=cW aN.ids;have IG:=jb aN.ops;have IH:=cW aT.ids;have yf:=jb aT.ops;have KV:=js aN.ids;have BX:=nk aN.ops;have u7:=js aT.ids;have Td:=nk aT.ops;unfold cG bI at hk jL tt;simp[Ct,zG,Mv,XX,bq,di,db,fe];refine aY NQ (by simp[a1,U.closed,dp,fc]) ?_;simp[bq,di,db,fe];refine aY NR (by simp[a1,U.closed,dp,fc]) ?_;simp[bq,di,db,fe];refine aY kM (by simp[a1,U.closed,dp,fc]) ?_;simp[bq,di,db,fe];refine aY N5 (by simp[a1,U.closed,dp,fc]) ?_;simp[bq,di,db,fe];refine aY b4 (by simp[a1,U.closed,dp,fc]) ?_;simp[bq,di,db,fe];refine aY cx (by simp[a1,U.closed,dp,fc]) ?_;simp[bq,di,db,fe];refine aY hk (by simp[a1,U.closed,dp,fc]) ?_;simp[bq,di,db,fe,KV,BX,bi];refine aY jL (by simp[a1,U.closed,dp,fc]) ?_;simp[bq,di,db,fe,u7,Td,bi];refine aY ff (by simp[a1,U.closed,fc]) ?_;have Gq:∀ a:Bool,fT Tryz.prog .eql 4 (.bool a) (.bool a)=some (.bool true) :=fun a=>by cases a<;>kernel_rfl
  simp[db,fe];refine aY VS (by simp[a1,U.closed,fc]) ?_;simp[Gq];refine aY jx (by simp[a1,fp,mq]) ?_;simp;refine aY tt (by simp[a1,U.closed,IF,IG,IH,yf]) ?_;simp[bq,di,zG,Mv];refine aY m1 (by simp[a1,U.closed,dp,Vz]) ?_;simp[db,j5,h6];refine aY M4 (by simp[a1,q1,cS]) ?_;simp
end Op

end Go.ca

/-
  The graph of an index, in the program, walked.
-/
import Derived.Test.YtdjbnhgdhambnaaGreatDoorUj
import Derived.Shelf.Spec.SlicesInsertGrow
set_option maxHeartbeats 16000000
set_option maxRecDepth 100000
set_option linter.unusedVariables false
set_option linter.unusedSimpArgs false
set_option linter.unnecessarySimpa false
namespace Go.bl
open Go Go.Proofs Go.Proofs.Tryz
namespace Op
open cu
theorem Hg (a b:b2) (C:c6 a) (D:c6 b) (ai:a.l.length<=1000000) :aW 67 [ah a,ah b] (.bool (decide (a.l=b.l))):=by
 apply a8 func67 [];have I:bz (.Z 32) (ah a)=_:=b6 _;have J:bz (.Z 32) (ah b)=_:=b6 _;by_cases h1:a.l.length=b.l.length
 ·have B:((a.l.length:Int)=b.l.length):=F;simp[I,J,h1];refine bx a.l.length (fun k j l=>j 0=ah a/\j 1=ah b/\j 12=.i6 a.l.length/\j 13=.i6 k/\∀ g,g<k->a.l[g]?=b.l[g]?) ?_ (by simp[h1]);rintro k j l hk ⟨u,v,w,z,K⟩;obtain⟨j,rfl⟩:=eO u v w z;clear u v w z;simp;refine fh (fun h=>?_) (fun h=>?_)
  ·simp only[bI] at h;obtain⟨x,o,P⟩:=aP h;obtain⟨y,t,R⟩:=aP (l:=b.l) (k:=k) F;have S:=cf (k:=k) F;have G:bO (.Z 32) (ah a) _=_:=c5 o;have H:bO (.Z 32) (ah b) _=_:=c5 t;have O:=br (C x P);have Q:=br (D y R);have q:=oE (C x P) (D y R);obtain⟨Y,T⟩:=al (am x);obtain⟨ad,V⟩:=al (am y);rw[<-T] at G O q;rw[<-V] at H Q q;simp[G,H,O,Q,aH,q];by_cases m:x=y
   ·simp[m,S];refine⟨F,fun g W=>?_⟩;by_cases X:g=k
    ·subst X;rw[o,t,m]
    ·exact K g F
   ·simp[m];refine aR (ci U.bool (ct fun p=>m ?_).symm) rfl;rw[p,t] at o;exact (cd o).symm
  ·simp[h];have ag:k=a.l.length:=by simp at h;omega
   refine aR (ci U.bool (ca ?_).symm) rfl;apply g3;intro g;by_cases W:g<a.l.length
   ·exact K g F
   ·rw[dY F,dY F]
 ·have B:¬ ((a.l.length:Int)=b.l.length):=F;simp[I,J,B];exact aR (by rw[ct (fun p=>h1 (by rw[p]))]) rfl
structure e4 (s:cn) :Prop where
 gP:1<=s.ai.l.length
 qQ:s.ai.l.length<=4
 al:kN s.ai.l=true
 wf:nV s.ai.l=true
 kx:eY (bR (bH s))=0
 jP:s.bL=((bH s).length:Int)
 tL:eU (bR (bH s))=s.bE.l
noncomputable def p1 (s:cn) :Bool:=@decide (e4 s) (Classical.propDecidable _)
theorem YJ {s:cn} (h:e4 s) :p1 s=true:=@decide_eq_true _ (Classical.propDecidable _) h
theorem YI {s:cn} (h:¬ e4 s) :p1 s=false:=@decide_eq_false _ (Classical.propDecidable _) h
noncomputable def p2 (s:cn) :U:=.a1 [cD (if p1 s=true then bR (bH s) else ⟨none,none⟩),.i6 (if p1 s=true then 0 else 8)]
theorem ri {s:cn} (h:¬ e4 s) :p2 s=.a1 [.af [.ae,.ae],.i6 8]:=by unfold p2;rw[YI h];rfl
theorem ES {s:cn} (h:e4 s) :p2 s=.a1 [cD (bR (bH s)),.i6 0]:=by unfold p2;rw[YJ h];rfl
theorem v2 (l:List (List B × aJ)) :(bR l).idsZ.l.length=l.length:=by unfold bR;simp only[dj];rw[cg]
theorem Mn (s:cn) (I:gR s) :aW 207 [.af (bN s)] (p2 s):=by
 apply a8 func207 [];have aj:=nB s.ai;have bw:=I.j8;have C:(bN s).length=3:=rfl;have a6:(bN s).take 3=bN s:=rfl;have X:∀ h,(bN s)[0]'h=dp s.ai:=fun _=>rfl
 have bs:(bN s)[1]?=some (ah s.bE):=rfl;have bt:(bN s)[2]?=some (.i6 s.bL):=rfl;have a0:∀ h,(bN s)[1]'h=ah s.bE:=fun _=>rfl
 have aH:∀ h,(bN s)[2]'h=.i6 s.bL:=fun _=>rfl
 have a5:=oq s;by_cases h1:1<=s.ai.l.length
 ·by_cases aG:s.ai.l.length<=4
  ·have J:¬ (s.ai.l.length:Int)<1:=F;have ax:¬ (4:Int)<(s.ai.l.length:Int):=F;simp[C,X,aj,aw,J,ax];refine bx s.ai.l.length (fun i v l=>v 1=.ptr 0 0 3/\v 2=.ptr 1 0 2/\v 4=.ptr 2 0 1/\v 22=dp s.ai/\v 23=.i6 s.ai.l.length/\v 24=.i6 i/\l[0]?=some (.q 3 (bN s))/\l[1]?=some (.q 2 [.ae,.ae])/\l[2]?=some (.q 1 [.i6 s.ai.l.length])/\∀ (t:Nat) (p:aV),t<i->s.ai.l[t]?=some p->∀ x∈p.idsZ.l,num x s.ai.l.length=t) ?_ ⟨V,V,V,V,V,V,rfl,rfl,rfl,fun t _ S=>F⟩;rintro i v l bc ⟨aA,aB,aF,aC,aD,aE,K,q1,O,ag⟩;obtain⟨v,rfl⟩:=m0 aA aB aF aC aD aE;clear aA aB aF aC aD aE;have az:=cf (k:=i) F;by_cases H:i<s.ai.l.length
   ·obtain⟨p,D,bj⟩:=aP H;obtain⟨ap,bA,bC⟩:=I.ai p bj;have bd:=l2 D;have a2:∀ h,(bf p)[0]'h=ah p.idsZ:=fun _=>rfl
    have a3:(bf p).length=2:=rfl;have a4:(bf p).take 2=bf p:=rfl;have bk:aw [U.ae,.ae] 0 (bf p)=bf p:=cy rfl;have bv:=aX O;obtain⟨L,P⟩:=al (l++[ao.q 1 [.i6 (i:Int)],ao.q 2 (bf p)]);have u:∀ (k:Nat) (c:ao),l[k]?=some c->L[k]?=some c:=fun k c h=>by rw[P,aU (aX h)];exact h
    have bq:L[l.length]?=some (.q 1 [.i6 (i:Int)]):=by rw[P];simp
    have wp:L[l.length+1]?=some (.q 2 (bf p)):=by rw[P];simp
    have bb:=Uc s.ai.l.length i h1 F (u 2 _ O) bq p.idsZ.l ap.idsZ;simp[H,bd,a3,a4,bk,<-P,wp,a2];refine ym p.idsZ ap.idsZ ap.li bp bb fun aY ad=>?_
    have aZ:=ad.2 1 (aX (u 1 _ q1));cases aI:p.idsZ.l.any fun x=>!decide (num x s.ai.l.length=i) with
    | true=>
     obtain⟨x,m,aT⟩:=s1.1 aI;have o:¬ e4 s:=fun h=>by
      have am:=h.al;unfold kN at am;rw[bI] at am;have:=am i H x (by rw[dr D];exact m);rw[this] at aT;simp at aT
     rw[ri o];have j:aY[1]?=some (.q 2 [.ae,.ae]):=by rw[aZ];exact u 1 _ q1
     have w:∀ c:ao,(aY.set 1 c)[1]?=some c:=fun c=>bV (aX j)
     simp[j,w,aw];exact aL
    | false=>
     simp[az];refine⟨H,?_,?_,?_,fun t q S av x m=>?_⟩
     ·rw[ad.2 0 (aX (u 0 _ K))];exact u 0 _ K
     ·rw[aZ];exact u 1 _ q1
     ·rw[ad.2 2 (aX (u 2 _ O))];exact u 2 _ O
     ·by_cases bh:t=i
      ·subst bh;rw[D] at av;obtain rfl:=cd av;have:=AO.1 aI x m;simpa using this
      ·exact ag t q F av x m
   ·have bg:i=s.ai.l.length:=F;subst bg;have aS:kN s.ai.l=true:=by
     unfold kN;rw[bI];intro t S x m;obtain⟨p,D,_⟩:=aP S;exact ag t p S D x (by rw[dr D] at m;exact m)
    have bi:=SQ s I (wI aS);clear ag H bc az;simp[K,C,a6];refine au bi (by simp[aq,U.ar,a5]) ?_;have bD:=aX O;cases W:nV s.ai.l with
    | false=>
     have o:¬ e4 s:=fun h=>by have:=h.wf;rw[W] at this;cases this
     rw[ri o];unfold se;rw[W];have j:∀ c:ao,(l++[c])[1]?=some (.q 2 [.ae,.ae]):=fun c=>by rw[aU (aX q1)];exact q1
     have w:∀ c c' : ao,((l++[c]).set 1 c')[1]?=some c':=fun c c'=>bV (aX (j c))
     have bn:(ah none).cells=some [ah none]:=rfl;have bo:(bB none).cells=some [bB none]:=rfl;simp[cD,bf,aw,j,w];exact aL
    | true=>
     have G:eT (bR (bH s)):=xx I;have Y:=Mj _ G;have R:=Yy _ G;obtain⟨g,B⟩:=al (bR (bH s));have aO:g.idsZ.l.length=(bH s).length:=by rw[B];exact v2 _
     unfold se;rw[W,ak rfl];rw[<-B] at G Y R ⊢;have j:∀ c:ao,(l++[c])[1]?=some (.q 2 [.ae,.ae]):=fun c=>by rw[aU (aX q1)];exact q1
     have br:∀ c:ao,(l++[c])[0]?=some (.q 3 (bN s)):=fun c=>by rw[aU (aX K)];exact K
     have w:∀ c c' : ao,((l++[c]).set 1 c')[1]?=some c':=fun c c'=>bV (aX (j c))
     have bn:=gB g.idsZ;have bo:=pk g.opsZ;have aJ:=bM g.idsZ;have aM:=im g.opsZ;have aQ:bz (.Z 32) (ah g.idsZ)=_:=b6 _;unfold cD bf at Y R;simp[cD,bf,aw];refine au Y (by simp[aq,U.ar,aJ,aM]) ?_;by_cases z:eY g=0
     ·have ay:∀ (c:ao) (h:0<(l++[c]).length),(l++[c])[0]'h=.q 3 (bN s):=fun c h=>(aK.1 (br c)).2
      by_cases T:s.bL=(g.idsZ.l.length:Int)
      ·have bl:ah (rh g)=ah (cK (eU g)):=by unfold rh;rw[ak z]
       have heq:=Hg (cK (eU g)) s.bE (fun x m=>by rw[dj] at m;exact G.idsZ x ((dx.1 m).1)) I.bE (by rw[dj];exact dC (g4 _ _) G.li);rw[dj] at heq;have a7:=bM (cK (eU g));have a9:=bM s.bE;rw[bl,z] at R;simp[z,ay,C,aH,aQ,T];refine au R (by simp[aq,U.ar,aJ,aM]) ?_;simp[ay,C,a0];refine au heq (by simp[aq,a7,a9]) ?_;by_cases Q:eU g=s.bE.l
       ·have bm:e4 s:=⟨h1,aG,aS,W,by rw[<-B];exact z,by rw[T,aO],by rw[<-B];exact Q⟩
        rw[ES bm,<-B];simp[Q,j,w,aw];exact aR rfl (by simp[U.ar,aq];exact np g)
       ·have o:¬ e4 s:=fun h=>Q (by rw[B];exact h.tL)
        rw[ri o];simp[Q,j,w,aw];exact aL
      ·have o:¬ e4 s:=fun h=>T (by rw[h.jP,aO])
       rw[ri o];simp[z,j,w,ay,C,aH,aQ,T,aw];exact aL
     ·have o:¬ e4 s:=fun h=>z (by rw[B];exact h.kx)
      rw[ri o];simp[z,j,w,aw];exact aL
  ·have J:¬ (s.ai.l.length:Int)<1:=F;have ax:(4:Int)<(s.ai.l.length:Int):=F;rw[ri fun h=>aG h.qQ];simp[C,X,aj,aw,J,ax];exact aL
 ·have J:(s.ai.l.length:Int)<1:=F;rw[ri fun h=>h1 h.gP];simp[C,X,aj,aw,J];exact aL
theorem JK (opsZ:List aJ) (i:Nat) :dQ (opsZ.map cw) i=dQ opsZ i:=by unfold dQ;rw[b1];cases opsZ[i]?<;>rfl
theorem Mg (o:aJ) :ei (cw o)=ei o:=rfl
theorem Co (o:aJ) :bd (cw o)=bd o:=rfl
theorem mY (g:aV) :(cI g).opsZ.l=g.opsZ.l.map cw:=dj _
theorem OV (idsZ:aQ) (opsZ:List aJ) (out:List Nat) :mB idsZ (opsZ.map cw) out=mB idsZ opsZ out:=by funext i;unfold mB;rw[JK]
theorem I3 (idsZ:aQ) (opsZ:List aJ) (out:List Nat) :hT idsZ (opsZ.map cw) out=hT idsZ opsZ out:=by unfold hT;rw[OV,cg]
theorem Jj (idsZ:aQ) (opsZ:List aJ) :∀ k,eN idsZ (opsZ.map cw) k=eN idsZ opsZ k
 | 0=>rfl
 | k+1=>by
  have g:=Jj idsZ opsZ k;cases h:hT idsZ opsZ (eN idsZ opsZ k) with
  | none=>rw[zt h,zt (by rw[g,I3];exact h),g]
  | some i=>rw[wS h,wS (by rw[g,I3];exact h),g]
theorem WT (idsZ:aQ) (opsZ:List aJ) :jL idsZ (opsZ.map cw)=jL idsZ opsZ:=by
 have h1:pM idsZ (opsZ.map cw)=pM idsZ opsZ:=by
  unfold pM;rw[decide_eq_decide];constructor
  ·intro h j g;exact h (cw j) (s4 g)
  ·intro h j g;obtain⟨p,o,rfl⟩:=cC.1 g;exact h p o
 have m:l9 idsZ (opsZ.map cw)=l9 idsZ opsZ:=by unfold l9;rw[Jj,cg]
 unfold jL;rw[h1,m,cg]
theorem Rf (g:aV) (k:Nat) :j5 (cI g) k=j5 g k:=by unfold j5;rw[mY,b1];rw[show (cI g).idsZ.l=g.idsZ.l from rfl];cases g.opsZ.l[k]?<;>cases g.idsZ.l[k]?<;>rfl
theorem O7 (g:aV) :eY (cI g)=eY g:=by
 have h1:r2 (cI g)=r2 g:=by
  unfold r2;rw[decide_eq_decide,mY,cg];simp only[Rf]
 unfold eY;rw[h1,mY,WT,cg];rfl
theorem UK (l:List (List B × aJ)) :hc (cI (bR l))=l.map fun q=>(q.1,cw q.2):=by
 unfold hc;rw[mY];unfold bR cI;simp only[dj,bX.qL]
 induction l with
 | nil=>rfl
 | cons a l g=>simp only[di,List.zip_cons_cons,g]
theorem QY (g:aV) (x:List B) (m:Nat) :lX (cI g) x m=lX g x m:=by
 unfold lX;rw[decide_eq_decide];have h:∀ j,(hU (cI g).opsZ.l j).ax.l=(hU g.opsZ.l j).ax.l:=fun j=>by
  unfold hU;rw[mY,gx,gx,b1];cases g.opsZ.l[j]?<;>rfl
 constructor
 ·intro o j p;rw[<-h];exact o j p
 ·intro o j p;rw[h];exact o j p
theorem yM (g:aV) :eU (cI g)=eU g:=by
 unfold eU;have h:∀ x,io (cI g) x=io g x:=fun x=>by
  show lX (cI g) x (cI g).opsZ.l.length=lX g x g.opsZ.l.length;rw[QY,mY,cg]
 rw[funext h];rfl
theorem KW (o:aJ) :gp o (cw (cw o))=true:=by unfold gp cw;simp[e7,dz,U.beq]
def nK (l:List (List B × aJ)) (n k:Nat) :List (List B × aJ):=(l.map fun q=>(q.1,cw q.2)).filter fun q=>decide (num q.1 n=k)
theorem Us (l:List (List B × aJ)) (n k:Nat) :hD (cI (bR l)) (j7 (cI (bR l)) n k)=cI (bR (nK l n k)):=by
 unfold hD jF nK;rw[e3,UK];congr 2;refine E6 fun q g=>?_
 rw[decide_eq_decide];unfold j7;rw[dx,bI];constructor
 ·exact fun h=>h.2
 ·intro h;refine⟨?_,h⟩;show q.1∈(cI (bR l)).idsZ.l;obtain⟨m,j,rfl⟩:=cC.1 g;unfold cI bR;simp only[dj,bX.qL];exact s4 j
theorem JH (l:List (List B × aJ)) (n k:Nat) :(hD (cI (bR l)) (j7 (cI (bR l)) n k)).idsZ.l=(nK l n k).map (·.1)/\(hD (cI (bR l)) (j7 (cI (bR l)) n k)).opsZ.l=((nK l n k).map (·.2)).map cw:=by
 rw[Us,mY];refine⟨?_,?_⟩
 ·unfold cI bR;simp only[dj,bX.qL]
 ·unfold bR;simp only[dj]
theorem JI {l:List (List B × aJ)} {n k:Nat} {q:List B × aJ}:q∈nK l n k<->∃ g∈l,q=(g.1,cw g.2)/\num q.1 n=k:=by
 unfold nK;rw[dx,cC,bI];constructor
 ·rintro⟨⟨g,h1,rfl⟩,h⟩;exact⟨g,h1,rfl,h⟩
 ·rintro⟨g,h1,rfl,h⟩;exact⟨⟨g,h1,rfl⟩,h⟩
theorem JJ {l:List (List B × aJ)} (h:l.Pairwise fun a b=>eM a.1 b.1=true) (n k:Nat) :(nK l n k).Pairwise fun a b=>eM a.1 b.1=true:=by
 unfold nK;have g:(l.map fun q=>(q.1,cw q.2)).Pairwise fun a b=>eM a.1 b.1=true:=by rw[m8];exact h
 exact g.sublist kk
theorem uS (s:cn) :cQ s=cI (bR (bH s)):=rfl
theorem yg (s:cn) :eY (cQ s)=eY (bR (bH s)):=O7 _
theorem K3 {s:cn} (h:e4 s) :kV s=0:=by
 have W:ng s.ai.l:=⟨fun g p=>(jQ.1 h.wf g p).1,fun g p=>(jQ.1 h.wf g p).2,wI h.al⟩
 have w:=h.al;unfold kN at w;rw[bI] at w;have T:ih s (jj (cQ s) s.ai.l.length)=true:=by
  rw[mf];have G:(jj (cQ s) s.ai.l.length).ai.l=iV (cQ s) s.ai.l.length s.ai.l.length:=rfl;refine⟨by rw[G,pG],?_,?_,fun k hk=>?_⟩
  ·show s.bL=((cQ s).idsZ.l.length:Int)
   rw[h.jP];congr 1;exact (v2 (bH s)).symm
  ·show s.bE.l=(cK (eU (cQ s))).l;rw[dj,uS,yM];exact h.tL.symm
  ·rw[G,dr (y7 _ _ hk)];obtain⟨g,p,z⟩:=aP hk;rw[dr p];obtain⟨u,v⟩:=JH (bH s) s.ai.l.length k;rw[<-uS] at u v;have H:=w k hk;rw[dr p] at H;have X:=W.len g z;have R:(hc g).map (fun q=>(q.1,cw q.2))=nK (bH s) s.ai.l.length k:=by
    refine zE ?_ (JJ (xA W) _ _) fun q=>?_
    ·rw[m8];have D:=oS (W.b8 g z);have K:(hc g).map (·.1)=g.idsZ.l:=by unfold hc;rw[List.map_fst_zip F]
     rw[<-K,m8] at D;exact D
    ·rw[JI,cC];constructor
     ·rintro⟨m,B,rfl⟩;obtain⟨a,j⟩:=cq.1 B;unfold hc at j;rw[s3] at j;exact⟨m,(nW W m).2 ⟨g,z,a,j.1,j.2⟩,rfl,H m.1 (cJ j.1)⟩
     ·rintro⟨m,B,rfl,Q⟩;obtain⟨r,S,a,j,O⟩:=(nW W m).1 B;obtain⟨C,t⟩:=cq.1 S;have:=w C (aK.1 t).1 m.1 (by rw[dr t];exact cJ j);have P:C=k:=by rw[<-this];exact Q
      subst P;rw[p] at t;obtain rfl:=cd t;exact⟨m,cJ (show (hc g)[a]?=some m by unfold hc;rw[s3];exact⟨j,O⟩),rfl⟩
   rw[<-R] at u v;have U:((hc g).map fun q=>(q.1,cw q.2)).map (·.1)=g.idsZ.l:=by
    rw[iL];unfold hc;exact List.map_fst_zip F
   have V:((hc g).map fun q=>(q.1,cw q.2)).map (·.2)=g.opsZ.l.map cw:=by
    rw[iL];have:(hc g).map (·.2)=g.opsZ.l:=by unfold hc;exact List.map_snd_zip F
    rw[<-this,iL];rfl
   rw[U] at u;rw[V] at v;unfold kS;rw[u,v];simp only[cg,n5,lF,bI];intro C t;obtain⟨J,I,_⟩:=aP t;rw[jD I,jD (o:=cw (cw J)) (by rw[b1,b1,I];rfl)];exact KW J
 unfold kV;rw[ak ⟨h.gP,h.qQ⟩,ak ⟨by rw[yg];exact h.kx,T⟩]
theorem YK {s:cn} (h:kV s=0) :e4 s:=by
 obtain⟨h1,z,p,G⟩:=Eb h;obtain⟨_,I,J,K⟩:=(mf _ _).1 G;have w:=kO p;have C:(jj (cQ s) s.ai.l.length).ai.l=iV (cQ s) s.ai.l.length s.ai.l.length:=rfl;have v:∀ (k:Nat) (g:aV),s.ai.l[k]?=some g->g.idsZ.l=(nK (bH s) s.ai.l.length k).map (·.1)/\g.opsZ.l.length=(nK (bH s) s.ai.l.length k).length:=fun k g j=>by
  have hk:=(aK.1 j).1;have:=K k hk;rw[C,dr (y7 _ _ hk),dr j] at this;unfold kS at this;simp only[bU,bI] at this;obtain⟨m,o⟩:=JH (bH s) s.ai.l.length k;exact⟨by rw[this.1];exact m,by rw[this.2.1,show (hD (cQ s) (j7 (cQ s) s.ai.l.length k)).opsZ.l=_ from o,cg,cg]⟩
 have H:(bH s).Pairwise fun a b=>eM a.1 b.1=true:=by
  have t:=oS w.b8;have:(cQ s).idsZ.l=(bH s).map (·.1):=by rw[uS];unfold cI bR;simp only[dj,bX.qL]
  rw[this,m8] at t;exact t
 refine⟨h1,z,?_,?_,by rw[<-yg];exact p,?_,?_⟩
 ·unfold kN;rw[bI];intro i B x u;obtain⟨g,j,_⟩:=aP B;rw[dr j,(v i g j).1] at u;obtain⟨q,F,rfl⟩:=cC.1 u;obtain⟨_,_,_,D⟩:=JI.1 F;exact D
 ·refine jQ.2 fun g j=>?_
  obtain⟨k,hk⟩:=cq.1 j;obtain⟨m,o⟩:=v k g hk;refine⟨by rw[m,o,cg],ul ?_⟩;rw[m,m8];exact JJ H _ _
 ·rw[I];show ((cQ s).idsZ.l.length:Int)=_;congr 1;exact v2 (bH s)
 ·have:s.bE.l=(cK (eU (cQ s))).l:=J;rw[this,dj,uS,yM]
theorem K2 (s:cn) :kV s=0<->e4 s:=⟨YK,K3⟩
theorem Pg (s:cn) :(p2 s).ar=true:=by unfold p2;have:=np (if p1 s=true then bR (bH s) else ⟨none,none⟩);simp[U.ar,aq,this]
theorem Yq (s:cn) (q:gR s) :aW 166 [.af (bN s)] (p2 s):=by apply a8 func166 [];have t:(bN s).length=3:=rfl;have o:(bN s).take 3=bN s:=rfl;have m:=oq s;have h:=Mn s q;have g:=Pg s;have u:p2 s=.a1 [.af [ah (if p1 s=true then bR (bH s) else ⟨none,none⟩).idsZ,bB (if p1 s=true then bR (bH s) else ⟨none,none⟩).opsZ],.i6 (if p1 s=true then 0 else 8)]:=rfl;rw[u] at h g ⊢;obtain⟨j,p⟩:=al (if p1 s=true then bR (bH s) else ⟨none,none⟩);rw[<-p] at h g ⊢;have v:=gB j.idsZ;have w:=pk j.opsZ;simp[t,o];refine au h (by simp[aq,U.ar,m]) ?_;simp[aw];exact aR rfl g
theorem T0 (g:aV) (l:aQ) (i:Nat) :hC (cI g) l i=hC g l i:=by unfold hC;rw[mY,JK];rfl
theorem zu (g:aV) (l:aQ) :kP (cI g) l=kP g l:=by unfold kP;simp only[T0]
theorem Xn (s:c9) :fl s=0\/fl s=8:=by
 unfold fl;split
 ·split
  ·exact .inl rfl
  ·exact .inr rfl
 ·exact .inr rfl
structure gT (s:c9) :Prop where
 jY:1<=s.cap
 tv:s.cap<=40
 aG:e4 s.aG
 jP:s.aG.bL<=s.cap
 le:(s.ay.l.length:Int)=s.aG.bL
 ord:kP (bR (bH s.aG)) s.ay.l=true
theorem uJ (s:c9) :fl s=0<->gT s:=by
 unfold fl;constructor
 ·intro h;split at h
  ·rename_i h1;split at h
   ·rename_i t;exact⟨h1.1,h1.2.1,(K2 _).1 h1.2.2.1,h1.2.2.2.1,h1.2.2.2.2,by rw[<-zu];exact t⟩
   ·cases h
  ·cases h
 ·rintro⟨g,j,m,o,p,q⟩;rw[ak ⟨g,j,(K2 _).2 m,o,p⟩,ak (by rw[uS,zu];exact q)]
noncomputable def sF (s:c9) :aV:=if fl s=0 then bR (bH s.aG) else ⟨none,none⟩
noncomputable def pS (s:c9) :U:=.a1 [cD (sF s),.i6 (fl s)]
theorem uD {s:c9} (h:¬ gT s) :pS s=.a1 [.af [.ae,.ae],.i6 8]:=by
 have g:¬ fl s=0:=fun e=>h ((uJ s).1 e)
 unfold pS sF;rw[aj g,(Xn s).resolve_left g];rfl
theorem WP {s:c9} (h:gT s) :pS s=.a1 [cD (bR (bH s.aG)),.i6 0]:=by have g:fl s=0:=(uJ s).2 h;unfold pS sF;rw[ak g,g]
theorem P9 (e:b2) (v:c6 e) (z:e.l.length<=1000000) {l:ad} {be:Nat} (h1:l[be]?=some (.q 1 [ah e])) (xs:aQ) (F:∀ p∈xs,p.length=32) :
  td 167 [.ptr be 0 1] l xs (fun p=>!decide (p∈e.l)):=by
 intro p B h m G o;apply c0 func167 [];have g:=F p B;have D:=br g;have C:=cG p;have q1:h[be]?=some (.q 1 [ah e]):=by rw[m.2 _ (aX h1)];exact h1
 have j:∀ c:ao,(h++[c])[be]?=some (.q 1 [ah e]):=fun c=>by rw[aU (aX q1)];exact q1
 have u:=bM e;have w:=pZ e v z p g;simp[j,D,aH];refine au w (by simp[aq,U.ar,u,C]) ?_;simp;exact o _ ⟨V,fun b t=>aU t⟩
theorem OB (n k:Nat) (h:k<=n) :e5 n n none (some (.i6 (k:Int))) (some (.i6 (k:Int)))=some (0,k,k):=by
 have g:gW (.i6 (k:Int)) n=some k:=by
  show (if 0<=(k:Int)/\(k:Int)<=(n:Int) then some (k:Int).toNat else none)=some k;rw[ak ⟨F,F⟩];simp
 have j:gW (.i6 (k:Int)) k=some k:=by
  show (if 0<=(k:Int)/\(k:Int)<=(k:Int) then some (k:Int).toNat else none)=some k;rw[ak ⟨F,F⟩];simp
 unfold e5;simp only[g,j]
theorem Xz {alZ:Type} {z:Nat} {enc:alZ->ag} {s:bX alZ} {k:Nat} (h:k<=s.l.length) :dw (.Z z) (b4 z enc s) none (some (.i6 (k:Int))) (some (.i6 (k:Int)))=some (b4 z enc (hg s k)):=by
 cases s with
 | none=>
  have:k=0:=by simpa using h
  subst this;rfl
 | some a=>
  have hk:k<=a.length:=h;simp only[dw,b4,if_true,cg,OB _ _ hk,cz,lG,vd,hg,i3]
theorem Wx (s:c9) (K:iN s) :aW 115 [.af (bJ s)] (pS s):=by
 apply a8 func115 [];have u:(bJ s).length=5:=rfl;have cg:(List.drop 1 (bJ s)).take 3=bN s.aG:=rfl;have a3:(bJ s).tail.take 3=bN s.aG:=rfl;have H:∀ h,(bJ s)[0]'h=.i6 s.cap:=fun _=>rfl
 have ai:∀ h,(bJ s)[3]'h=.i6 s.aG.bL:=fun _=>rfl
 have aj:∀ h,(bJ s)[4]'h=ah s.ay:=fun _=>rfl
 have ch:(bJ s)[0]?=some (.i6 s.cap):=rfl;have ci:(bJ s)[3]?=some (.i6 s.aG.bL):=rfl;have cj:(bJ s)[4]?=some (ah s.ay):=rfl;have bh:bz (.Z 32) (ah s.ay)=_:=b6 _;have a4:=oq s.aG;have B:=Yq s.aG K.aG;by_cases C:e4 s.aG
 ·rw[ES C] at B;have S:eT (bR (bH s.aG)):=xx K.aG;have D:=kO C.kx;have a9:=v2 (bH s.aG);obtain⟨g,R⟩:=al (bR (bH s.aG));rw[<-R] at B S D a9;have cl:=gB g.idsZ;have cm:=pk g.opsZ;have bg:bz (.Z 32) (ah g.idsZ)=_:=b6 _;unfold cD bf at B;simp[u,a3];refine au B (by simp[aq,U.ar,a4]) ?_;have aD:=C.jP;rw[<-a9] at aD;by_cases h1:s.cap<1
  ·have m:¬ gT s:=fun h=>by have:=h.jY;omega
   rw[uD m];simp[aw,u,H,h1];exact aL
  ·by_cases w:40<s.cap
   ·have m:¬ gT s:=fun h=>by have:=h.tv;omega
    rw[uD m];simp[aw,u,H,h1,w];exact aL
   ·by_cases Y:s.cap<s.aG.bL
    ·have m:¬ gT s:=fun h=>by have:=h.jP;omega
     rw[uD m];simp[aw,u,H,ai,h1,w,Y];exact aL
    ·by_cases ag:s.ay.l.length=g.idsZ.l.length
     ·have a2:∀ b:Bool,(kP g s.ay.l=b)->pS s=if b=true then .a1 [.af [ah g.idsZ,bB g.opsZ],.i6 0] else .a1 [.af [.ae,.ae],.i6 8]:=fun b a7=>by
       cases b with
       | true=>
        have b3:gT s:=⟨F,F,C,F,by rw[aD];congr 1,by rw[<-R];exact a7⟩
        rw[WP b3,R];rfl
       | false=>
        have m:¬ gT s:=fun h=>by have:=h.ord;rw[<-R,a7] at this;cases this
        rw[uD m];rfl
      have ak:∀ i,i<s.ay.l.length->hC g s.ay.l i=false->pS s=.a1 [.af [.ae,.ae],.i6 8]:=fun i bc bT=>by
       refine a2 false ?_;unfold kP;exact ct fun h=>by have:=h i bc;rw[bT] at this;cases this
      have bK:(∀ o,o<s.ay.l.length->hC g s.ay.l o=true)->pS s=.a1 [.af [ah g.idsZ,bB g.opsZ],.i6 0]:=fun h=>a2 true (ca h)
      simp[aw,u,H,ai,aj,h1,w,Y,bh,bg,ag];refine bx s.ay.l.length (fun i v l=>v 1=.ptr 0 0 5/\v 2=.ptr 1 0 2/\v 4=.ptr 2 0 2/\v 48=ah s.ay/\v 49=.i6 s.ay.l.length/\v 50=.i6 i/\l[0]?=some (.q 5 (bJ s))/\l[1]?=some (.q 2 [.ae,.ae])/\l[2]?=some (.q 2 [ah g.idsZ,bB g.opsZ])/\∀ o,o<i->hC g s.ay.l o=true) ?_ ⟨V,V,V,V,by simp[ag],V,rfl,rfl,rfl,fun o az=>F⟩;rintro i v l bc ⟨aQ,aS,aT,aV,aY,aZ,bn,q1,aI,bb⟩;obtain⟨v,rfl⟩:=m0 aQ aS aT aV aY aZ;clear aQ aS aT aV aY aZ;have m:=K.no;have bA:=cf (k:=i) F;by_cases z:i<s.ay.l.length
      ·obtain⟨x,bl,b2⟩:=aP z;have aE:=K.ay x b2;have T:=br aE;have aF:=cG x;have bd:=wd bl;have b0:dw (.Z 32) (ah s.ay) none (some (.i6 (i:Int))) (some (.i6 (i:Int)))=some (ah (hg s.ay i)):=Xz F;have bj:c6 (hg s.ay i):=fun cc bm=>K.ay cc (by rw[oX] at bm;exact gA bm)
       have a5:(hg s.ay i).l.length<=1000000:=by rw[oX,cL];omega
       have bk:=z8 g.idsZ S.idsZ S.li x aE D.b8;have I:=pZ (hg s.ay i) bj a5 x aE;rw[oX] at I;have bP:=bM g.idsZ;have bS:=bM (hg s.ay i);have mt:=gB (hg s.ay i);have t:hC g s.ay.l i=(decide (x∈g.idsZ.l)&&(!decide (x∈s.ay.l.take i)&&gV (s.ay.l.take i) (dQ g.opsZ.l (dG x g.idsZ.l 0).toNat))):=by unfold hC;rw[dI bl]
       obtain⟨X,bF⟩:=al (am x);rw[<-bF] at T aF bd bk I;have a6:X.take 32=X:=aH F;have b1:aw (bZ 32 (.int .u8 0)) 0 X=X:=cy (by rw[T];rfl);have bt:∀ j:ad,(l++j)[0]?=some (.q 5 (bJ s)):=fun j=>by rw[aU (aX bn)];exact bn
       have aO:∀ j:ad,(l++j)[1]?=some (.q 2 [.ae,.ae]):=fun j=>by rw[aU (aX q1)];exact q1
       have bv:∀ j:ad,(l++j)[2]?=some (.q 2 [ah g.idsZ,bB g.opsZ]):=fun j=>by rw[aU (aX aI)];exact aI
       have cd:∀ (j:ad) (h:0<(l++j).length),(l++j)[0]'h=.q 5 (bJ s):=fun j h=>(aK.1 (bt j)).2
       have bw:∀ (j:ad) (h:1<(l++j).length),(l++j)[1]'h=.q 2 [.ae,.ae]:=fun j h=>(aK.1 (aO j)).2
       have bs:∀ (j:ad) (c:ao),((l++j).set 1 c)[1]?=some c:=fun j c=>bV (aX (aO j))
       simp[z,bd,T,a6,b1,cd,u,aj,b0,mt,bv];refine au bk (by simp[aq,U.ar,bP,aF]) ?_;by_cases J:x∈g.idsZ.l
       ·obtain⟨a,Q⟩:=cq.1 J;have bO:=BF D.b8 Q;have ck:=(aK.1 Q).1;obtain⟨p,bi,bY⟩:=aP (l:=g.opsZ.l) (k:=a) (by rw[<-D.len];exact (aK.1 Q).1);have aB:=S.opsZ p bY;have bW:=H0 bi;have bI:=tQ (mG D.b8) Q;rw[ca J,bI,fm,mb bi,lF] at t;simp[J,bO,T,a6];refine au I (by simp[aq,U.ar,bS,aF]) ?_;by_cases P:x∈s.ay.l.take i
        ·rw[ca P] at t;rw[ak i z (by rw[t];rfl)];simp[P,bw,aw];exact aL
        ·rw[ct P] at t;have ce:(av p)[1]?=some (ah p.ax):=rfl;have bD:∀ h,(av p)[1]'h=ah p.ax:=fun _=>rfl
         have bE:(av p).length=11:=rfl;obtain⟨L,G⟩:=al (l++[ao.q 32 X,ao.q 1 [ah (hg s.ay i)]]);have cb:L[l.length+1]?=some (.q 1 [ah (hg s.ay i)]):=by rw[G];simp
         have bU:=P9 (hg s.ay i) bj a5 cb p.ax.l aB.idsZ;have aM:L[2]?=some (.q 2 [ah g.idsZ,bB g.opsZ]):=by rw[G];exact bv _
         have bq:L[1]?=some (.q 2 [.ae,.ae]):=by rw[G];exact aO _
         have bo:L[0]?=some (.q 5 (bJ s)):=by rw[G];exact bt _
         simp[P,aM,bW,bD,bE,<-G];refine ym p.ax aB.idsZ aB.len bp bU fun W ap=>?_
         have b4:W[0]?=some (.q 5 (bJ s)):=by rw[ap.2 0 (aX bo)];exact bo
         have aJ:W[1]?=some (.q 2 [.ae,.ae]):=by rw[ap.2 1 (aX bq)];exact bq
         have b5:W[2]?=some (.q 2 [ah g.idsZ,bB g.opsZ]):=by rw[ap.2 2 (aX aM)];exact aM
         have bG:(p.ax.l.any fun O=>!decide (O∈(hg s.ay i).l))=!gV (s.ay.l.take i) p.ax.l:=by
          rw[oX,xE,s1,uZ];unfold gV;rw[decide_eq_false_iff_not];constructor
          ·rintro⟨O,aC,aA⟩ h;have:=h O aC;simp[this] at aA
          ·intro h;refine Classical.byContradiction fun m=>h fun O aC=>Classical.byContradiction fun aA=>m ⟨O,aC,by simp[aA]⟩
         rw[bG];cases a0:gV (s.ay.l.take i) p.ax.l with
         | true=>
          rw[a0] at t;simp[bA];refine⟨z,b4,aJ,b5,fun o az=>?_⟩;by_cases bX:o=i
          ·rw[bX,t];rfl
          ·exact bb o F
         | false=>
          rw[a0] at t;rw[ak i z (by rw[t];rfl)];have b9:∀ c:ao,(W.set 1 c)[1]?=some c:=fun c=>bV (aX aJ)
          simp[aJ,b9,aw];exact aL
       ·rw[ct J,rp] at t;rw[ak i z t];simp[J,bw,aw];exact aL
      ·have I:i=s.ay.l.length:=F;subst I;rw[bK fun o az=>bb o az];have bs:∀ c:ao,(l.set 1 c)[1]?=some c:=fun c=>bV (aX q1)
       simp[aI,q1,bs,aw];exact aR rfl (by have h1:=bM g.idsZ;have w:=im g.opsZ;simp[U.ar,aq,h1,w])
     ·have m:¬ gT s:=fun h=>by have:=h.le;rw[aD] at this;exact ag F
      have bC:¬ (s.ay.l.length:Int)=g.idsZ.l.length:=F;rw[uD m];simp[aw,u,H,ai,aj,h1,w,Y,bh,bg,bC];exact aL
 ·have m:¬ gT s:=fun h=>C h.aG
  rw[ri C] at B;rw[uD m];simp[u,a3];refine au B (by simp[aq,U.ar,a4]) ?_;simp[aw];exact aL
theorem KU (s:c9) (m:iN s) :aW 63 [.af (bJ s)] (.i6 (fl s)):=by apply a8 func63 [];have o:(bJ s).length=5:=rfl;have j:(bJ s).take 5=bJ s:=rfl;have h:=je s;have g:=Wx s m;have p:pS s=.a1 [.af [ah (sF s).idsZ,bB (sF s).opsZ],.i6 (fl s)]:=rfl;rw[p] at g;have q:=gB (sF s).idsZ;have t:=pk (sF s).opsZ;simp[o,j];refine au g (by simp[aq,U.ar,h]) ?_;simp[aw];exact aL
structure Nc where
 yI:Int
 idsZ:b2
 abs:Bool
structure Y1 (d:Nc) :Prop where
 idsZ:c6 d.idsZ
 ab6:d.idsZ.l.length<=1000
end Op
end Go.bl
namespace Go.bl
open Go Go.Proofs Go.Proofs.Tryz Go.RowKit
namespace Op
open cu
structure xW (g:aV) :Prop where
 idsZ:c6 g.idsZ
 opsZ:∀ o∈g.opsZ.l,vp o
theorem TX {g:aV} (h:xW g) (j:px g=false) :eT g:=by
 unfold px at j;simp only[p7,decide_eq_false_iff_not] at j;obtain⟨h1,u,v,w⟩:=j;refine⟨h.idsZ,fun o q=>?_,F,F⟩;have p:¬ py o=true:=fun t=>h1 ⟨o,by rw[aH F];exact q,t⟩
 unfold py at p;simp only[rr,bI,not_or] at p;have m:=h.opsZ o q;exact⟨m.idsZ,F,⟨m.gP,m.qP,F⟩,F⟩
theorem XZ {ts:List aF} {cs:ag} (h:c4 prog (70::ts) cs) :∃ (g:aV) (cs' : ag),cs=bf g++cs'/\xW g/\c4 prog ts cs':=by
 have m:=nT (fs:=[23,68]) bp h;obtain⟨i,_,rfl,q,o⟩:=xp m;obtain⟨s,_,rfl,_,t,p⟩:=xq (e:=55) (z:=11) (enc:=av) (Q:=vp) bp bp (fun r u=>by
  obtain⟨x,_,rfl,v,j⟩:=EH u;rw[sN j,eK];exact⟨x,rfl,v⟩) o
 exact⟨⟨i,s⟩,_,rfl,⟨q,t⟩,p⟩
structure FD (s:c9) :Prop where
 ai:∀ p∈s.aG.ai.l,xW p
 bE:c6 s.aG.bE
 ay:c6 s.ay
theorem T6 {s:c9} (h:FD s) (j:r4 s=false) :iN s:=by unfold r4 mE at j;simp only[p7,decide_eq_false_iff_not] at j;obtain⟨⟨h1,q,t⟩,u⟩:=j;refine⟨⟨fun o m=>?_,F,h.bE,F⟩,h.ay,F⟩;have g:=AO.1 h1 o (by rw[aH F];exact m);unfold ph at g;simp only[rr,bI,not_or] at g;obtain⟨v,w,p⟩:=g;exact⟨TX (h.ai o m) (by simpa using p),F,F⟩
theorem WA (g:aV) :kS g (cI g)=true:=by unfold kS;rw[mY];have:(cI g).idsZ.l=g.idsZ.l:=rfl;rw[this];simp only[cg,n5,lF,bI];intro p j;obtain⟨m,h,_⟩:=aP j;rw[jD h,jD (o:=cw m) (by rw[b1,h];rfl)];unfold gp cw;simp[e7,dz,U.beq]
theorem WC (s:cn) :ih s (bj s)=true:=by rw[mf];have j:(bj s).ai.l=s.ai.l.map cI:=dj _;refine⟨by rw[j,cg],rfl,rfl,fun k hk=>?_⟩;obtain⟨m,h,_⟩:=aP hk;rw[j,dr h,dr (g:=cI m) (by rw[b1,h];rfl)];exact WA m
theorem WE (s:c9) :lB s (eF s)=true:=by unfold lB;rw[show (eF s).aG=bj s.aG from rfl,WC];simp[eF]
theorem xo {s:cn} (h:gR s) :rE (bj s):=by have j:(bj s).ai.l=s.ai.l.map cI:=dj _;refine⟨fun p g=>?_,by rw[j,cg];have:=h.j8;omega,h.bE,h.nE⟩;rw[j] at g;obtain⟨o,m,rfl⟩:=cC.1 g;exact Ap (h.ai o m).1
end Op
end Go.bl
namespace Go.bl
open Go Go.Proofs Go.Proofs.Tryz
namespace Op
open cu
theorem RA (v f:U) (l:ad) {K:cA} (o:K (.a1 []) l) :cM 235 [v,.i6 0,.i6 0,f] l K:=by
 apply c0 func235 [];have p:IntKind.i64.wrap 1=1:=by decide
 simp;refine bx 0 (fun _ g h=>h=l/\g 2=.i6 0/\g 8=.i6 1) ?_ ⟨rfl,V,by simp[p]⟩;rintro k g h hk ⟨rfl,j,m⟩;simp[j,m];exact o
theorem Ux (v f:U) (n:Int) (l:ad) {K:cA} (q:K (.a1 []) l) :cM 200 [v,.i6 0,.i6 0,.i6 n,f] l K:=by
 apply c0 func200 [];have t:IntKind.i64.wrap 0=0:=by decide
 simp;refine bx 0 (fun _ g h=>h=l/\g 0=v/\g 1=.i6 0/\g 2=.i6 0/\g 4=f) ?_ ⟨rfl,V,V,V,V⟩;rintro k g h hk ⟨rfl,j,m,o,p⟩;simp[j,m,o,p,t];refine RA v f h ?_;simp;exact q
theorem Ul {z:Nat} {l:ad} {v:U} {j:Nat} {es:List (ag)} (h:aE z l v j es) {i:Nat} {e:ag} (g:es[i]?=some e) :
  ∃ n cap sz cs,v=.Z z j 0 n cap sz/\l[j]?=some (.q sz cs)/\es.length=n/\cs.length=sz/\i<n/\i*z+z<=sz/\(cs.drop (i*z)).take z=e:=by
 cases h with
 | nil j=>cases g
 | Z j n cap sz cs es o u w B p D t=>
  have G:i<es.length:=(aK.1 g).1;have h1:(i+1)*z<=n*z:=ck _ F;have C:n*z<=cap*z:=ck _ p;rw[ek] at h1;refine⟨n,cap,sz,cs,rfl,o,w,u,F,F,?_⟩;have m:=B7 B g;rw[<-t,p9,lK,i7 F] at m;exact m
theorem W4 (v f:U) (j:bz (.Z 32) v=some (.i6 0)) (l:ad) {K:cA} (g:K (.a1 []) l) :cM 136 [v,f] l K:=by
 apply c0 func136 [];have h:aW 201 [c7 0] (.i6 (h9 (0:Q).toNat)):=by
  apply a8 func201 [];have h:=Is 0;simp;refine au h rfl ?_;simp;exact aL
 simp[j];refine au h rfl ?_;simp;refine Ux v f _ l ?_;simp;exact g
theorem Un {z:Nat} {l l1:ad} {v:U} {j:Nat} {es:List (ag)} (h:aE z l v j es) (g:h2 l l1) :aE z l1 v j es:=by
 refine h.cl ?_;rcases h.lt with e | e
 ·exact .inl e
 ·exact .inr (g.2 j e)
structure FC (g:aV) (D:aQ) :Prop where
 ls:D.Nodup
 sub:∀ x∈D,x∈g.idsZ.l
 pre:∀ (i:Nat) (x:List B) (j:Nat),D[i]?=some x->g.idsZ.l[j]?=some x->∀ q∈dQ g.opsZ.l j,q∈D.take i
theorem LO {g:aV} (u:vl g) {l:aQ} (h:kP g l=true) :FC g l:=by
 unfold kP at h;rw[bI] at h;have t:∀ (i:Nat) (x:List B),l[i]?=some x->x∈g.idsZ.l/\x∉l.take i/\gV (l.take i) (dQ g.opsZ.l (dG x g.idsZ.l 0).toNat)=true:=fun i x j=>by
  have:=h i (aK.1 j).1;unfold hC at this;rw[dI j] at this;simpa [bU] using this
 refine⟨?_,fun x z=>?_,fun i x p j o q w=>?_⟩
 ·refine ko.2 fun i p j o v e=>?_
  have h1:=(t p l[p] (bK o)).2.1;exact h1 (cq.2 ⟨i,by rw[dS v,bK j,e]⟩)
 ·obtain⟨i,j⟩:=cq.1 z;exact (t i x j).1
 ·have m:=(t i x j).2.2;rw[tQ (mG u.b8) o,fm] at m;unfold gV at m;exact iM m q w
theorem Ly {alZ:Type} [DecidableEq alZ] :∀ {a b:List alZ},a.Nodup->(∀ x∈a,x∈b)->a.length<=b.length
 | [],_,_,_=>fR _
 | x::a,b,o,h=>by
  obtain⟨h1,j⟩:=u9.1 o;have m:∀ y∈a,y∈b.erase x:=fun y g=>(Fe (fun e=>h1 (by rw[<-e];exact g))).2 (h y (AX _ g))
  have p:=Ly j m;have q:=Fa (h x V);have t:=Fb (h x V);simp only[dN];omega
def l5 (o:aJ) :Bool:=decide (40<o.ax.l.length)||(decide (100<o.act.key.length)||decide (100<o.act.val.text.length))
theorem J6 (o:aJ) :aW 43 [.af (av o)] (.bool (l5 o)):=by
 apply a8 func43 [];unfold l5;have j:bz (.Z 32) (ah o.ax)=_:=b6 _;by_cases h1:40<o.ax.l.length
 ·have g:(40:Int)<(o.ax.l.length:Int):=F;simp[av,j,h1,g];exact aR V rfl
 ·have g:¬ (40:Int)<(o.ax.l.length:Int):=F;by_cases m:100<o.act.key.length
  ·have h:(100:Int)<(o.act.key.length:Int):=F;simp[av,j,h1,g,m,h];exact aR V rfl
  ·have h:¬ (100:Int)<(o.act.key.length:Int):=F;have p:((100:Int)<(o.act.val.text.length:Int))<->100<o.act.val.text.length:=F;simp[av,j,h1,g,m,h,p];exact aR V rfl
theorem Jp (a b:List B) (g:a.length=32) (h:b.length=32) :aW 137 [.af (am a),.af (am b)] (.i6 (bQ a b)):=by
 apply a8 func137 [];have o:=uE (n:=32) (b:=1) F;have p:=uE (n:=32) (b:=0) F;simp[am,g,h,o,p];have m:=F1 (some a) (some b) (by simp[g,h]);refine iC m ?_ rfl ?_
 ·exact .cons ((ma (j:=0) g rfl).nM (fun _=>rfl) (some a) rfl rfl) (.cons ((ma (j:=1) h rfl).nM (fun _=>rfl) (some b) rfl rfl) .nil)
 ·simp;exact aL
def eV (o:aJ) (m:aQ) :Bool:=decide (0<m.length)&&(b8 m&&m.all fun x=>decide (x∈o.ax.l))
theorem KC {l:aQ} (h:b8 l=true) {k:Nat} (hk:k+1<l.length) :bQ (bw l k) (bw l (k+1))<0:=(iM h) (k+1) hk F
structure Nq (o:aJ) (m:b2) (k:Nat) (sgZ:aS) (l:ad) :Prop where
 ny:∃ r,l=.q 11 (av o) ::r
 eZ:sgZ 1=ah m
 ha:sgZ 2=.ptr 0 0 11
 r0:sgZ 7=ah m
 nw:sgZ 8=.i6 m.l.length
 vY:sgZ 9=.i6 k
 jy:∀ j,j<k->(1<=j->bQ (bw m.l (j - 1)) (bw m.l j)<0)/\bw m.l j∈o.ax.l
theorem Ml (o:aJ) (aj:dm o) (m:b2) (u:c6 m) (aQ:m.l.length<=1000000) :aW 98 [.af (av o),ah m] (.bool (eV o m.l)):=by
 apply a8 func98 [];have ad:bz (.Z 32) (ah m)=_:=b6 _;have X:=bM o.ax;simp[ad];refine bx m.l.length (Nq o m) ?_ ⟨⟨_,rfl⟩,V,by simp[av],V,V,V,fun g h=>F⟩;rintro k aI l hk ⟨⟨r,rfl⟩,O,P,Q,R,S,I⟩;obtain⟨aI,rfl⟩:=gv O P Q R S;clear O P Q R S;simp;refine fh (fun h=>?_) (fun h=>?_)
 ·simp only[bI] at h;obtain⟨y,ak,K⟩:=aP (l:=m.l) (k:=k) F;have v:=br (u y K);have aO:=cf (k:=k) F;have t:bO (.Z 32) (ah m) _=_:=c5 ak;have J:aw (bZ 32 (.int .u8 0)) 0 (am y)=am y:=cy (by rw[v];rfl);have G:=pZ o.ax aj.idsZ aj.len y (u y K);have B:=cG y;have w:bw m.l k=y:=dI ak;have C:∀ (g:Nat),g<m.l.length->¬ ((1<=g->bQ (bw m.l (g - 1)) (bw m.l g)<0)/\bw m.l g∈o.ax.l)->eV o m.l=false:=fun g p aE=>by
   unfold eV;cases h1:b8 m.l with
   | false=>simp
   | true=>
    cases q:(m.l.all fun x=>decide (x∈o.ax.l)) with
    | false=>simp
    | true=>
     exact bW ⟨fun h=>(iM h1) g p h,iM (gc.1 q _ (we p))⟩ aE
  obtain⟨aL,T⟩:=al (am y);rw[<-T] at v t J G B;have ai:y∈o.ax.l->(1<=k->bQ (bw m.l (k - 1)) y<0)->∀ g,g<k+1->(1<=g->bQ (bw m.l (g - 1)) (bw m.l g)<0)/\bw m.l g∈o.ax.l:=fun h1 q g p=>by
   by_cases aC:g=k
   ·subst aC;rw[w];exact⟨q,h1⟩
   ·exact I g F
  rcases k with _ | k
  ·simp at t;simp[av,t,v,J,aH];refine au G (by simp[aq,U.ar,X,B]) ?_;by_cases j:y∈o.ax.l
   ·simp[j];exact⟨F,⟨_,rfl⟩,V,V,V,V,by simp;rw[IntKind.wrap_i64];omega,ai j (fun h=>F)⟩
   ·have:=C 0 F (fun h=>j (by rw[<-w];exact h.2));simp[j];exact aR (by rw[this]) rfl
  ·obtain⟨z,ao,az⟩:=aP (l:=m.l) (k:=k) F;have ay:=br (u z az);have ap:=cG z;have W:bw m.l k=z:=dI ao;have aA:IntKind.i64.wrap (k:Int)=(k:Int):=by rw[IntKind.wrap_i64];omega
   have aF:(0:Int)<(k:Int)+1:=F;have Y:bO (.Z 32) (ah m) _=_:=c5 ao;have D:=Jp z y (u z az) (u y K);obtain⟨aM,aB⟩:=al (am z);rw[<-aB] at Y ay ap D;rw[<-T] at D;simp at t;simp[aF,t,Y,aA,v,ay,J,aH];refine au D (by simp[aq,U.ar,ap,B]) ?_;by_cases ag:bQ z y<0
   ·have H:¬ (0:Int)<=bQ z y:=F;simp[H,av,v,aH];refine au G (by simp[aq,U.ar,X,B]) ?_;by_cases j:y∈o.ax.l
    ·simp[j];exact⟨F,⟨_,rfl⟩,V,V,V,V,by simp;rw[IntKind.wrap_i64];omega,ai j (fun h=>by rw[s8,W];exact ag)⟩
    ·have:=C (k+1) F (fun h=>j (by rw[<-w];exact h.2));simp[j];exact aR (by rw[this]) rfl
   ·have H:(0:Int)<=bQ z y:=F;have:=C (k+1) F (fun h=>ag (by have:=h.1 F;rw[w,s8,W] at this;exact this));simp[H];exact aR (by rw[this]) rfl
 ·simp[h,ad];have aD:k=m.l.length:=by simp at h;omega
  refine aR (ci U.bool ?_) rfl;have h1:b8 m.l=true:=uw fun g p h1=>(I g F).1 h1
  have q:(m.l.all fun x=>decide (x∈o.ax.l))=true:=gc.2 fun x aG=>by
   obtain⟨g,p⟩:=cq.1 aG;have:=(I g (by rw[aD];exact (aK.1 p).1)).2;rw[dI p] at this;exact ca this
  unfold eV;rw[h1,q];simp
structure nf (j:Nat) (l l' : ad) :Prop where
 le:l.length<=l'.length
 same:∀ b,b<l.length->b≠j->l'[b]?=l[b]?
def vg (g:cj) (cap:ag) (j:Nat) (l0:ad) (xs:aQ) (p:List B->Bool) :Prop:=
 ∀ x∈xs,∀ l,nf j l0 l->∀ m:cA,(∀ h,l.length<=h.length->(∀ b,b<l.length->h[b]?=l[b]?)->m (.bool (p x)) h)->cM g ([]++[.af (am x)]++cap) l m
structure Nh (l0:ad) (v:U) (g:cj) (cap:ag) (xs:aQ) (p:List B->Bool) (k:Nat) (sgZ:aS) (l:ad) :Prop where
 kF:sgZ 0=v
 eZ:sgZ 1=.fn g [] cap
 r0:sgZ 7=.i6 xs.length
 nw:sgZ 8=.i6 k
 jy:∀ (j:Nat) (z:List B),j<k->xs[j]?=some z->p z=false
 le:l0.length<=l.length
 same:∀ b,b<l0.length->l[b]?=l0[b]?
theorem Rw {g:cj} {cap:ag} {j:Nat} {l:ad} {v:U} {xs:aQ} {p:List B->Bool} (al:fI prog g=true) (T:aE 32 l v j (xs.map am)) (m:(∀ x∈xs,x.length=32)) (ax:xs.length<=1000000) (au:vg g cap j l xs p)
  {K:cA} (Q:∀ n l',(n=-1/\(∀ z∈xs,p z=false)\/∃ k:Nat,n=(k:Int)/\k<xs.length/\(∀ (i:Nat) (z:List B),i<k->xs[i]?=some z->p z=false)/\∀ y,xs[k]?=some y->p y=true)->l.length<=l'.length->(∀ b,b<l.length->l'[b]?=l[b]?)->K (.i6 n) l') :
  cM 139 [v,.fn g [] cap] l K:=by
 apply c0 func139 [];have S:=T.len;rw[cg] at S;simp[S];refine bx xs.length (Nh l v g cap xs p) ?_ ⟨V,V,V,V,fun j z h=>F,aN _,fun _ _=>rfl⟩;rintro k aw X hk ⟨G,H,I,J,C,R,u⟩;obtain⟨aw,rfl⟩:=eO G H I J;clear G H I J;simp;refine fh (fun h=>?_) (fun h=>?_)
 ·simp only[bI] at h;obtain⟨y,D,av⟩:=aP (l:=xs) (k:=k) F;have ak:=cf (k:=k) F;have ar:aE 32 X v j (xs.map am):=T.frame fun ap=>u j ap
  obtain⟨q,cs,az,Y,ah,ai,aj⟩:=ar.q.get (k:=.i64) (i:=k) (e:=am y) (by rw[b1,D];rfl);simp[Y,ah,ai,aj];refine⟨al,?_⟩;have:=au y av X ⟨R,fun b o _=>u b o⟩;simp at this;refine this _ fun ay h1 O=>?_
  cases P:p y with
  | true=>
   simp;refine Q _ _ (.inr ⟨k,rfl,h,fun i z t m=>C i z t m,fun w W=>?_⟩) F (fun b o=>by rw[O b F];exact u b o);rw[D] at W;obtain rfl:=cd W;exact P
  | false=>
   simp[ak];refine⟨F,V,V,V,V,fun i z t m=>?_,F,fun b o=>by rw[O b F];exact u b o⟩;by_cases ao:i=k
   ·rw[ao,D] at m;obtain rfl:=cd m;exact P
   ·exact C i z F m
 ·simp[h];have aq:k=xs.length:=by simp at h;omega
  refine Q _ _ (.inl ⟨rfl,fun z m=>?_⟩) R u;obtain⟨i,t⟩:=cq.1 m;exact C i z (by rw[aq];exact (aK.1 t).1) t
structure Nb (l0:ad) (v:U) (g:cj) (cap:ag) (j:Nat) (xs:aQ) (p:List B->Bool) (k:Nat) (sgZ:aS) (l:ad) :Prop where
 kF:sgZ 0=v
 eZ:sgZ 1=.fn g [] cap
 lm:sgZ 6=.i6 k
 Rl:nf j l0 l
 ex:∃ (q:Nat) (h:aQ),sgZ 5=.i6 (q:Int)/\aE 32 l v j (h.map am)/\h.length=xs.length/\(∀ x∈h,x.length=32)/\h.take q=(xs.take k).filter (fun t=>!p t)/\q<k/\∀ t,k<=t->h[t]?=xs[t]?
theorem Hn {p:List B->Bool} {l:aQ} (h:∀ z∈l,p z=false) :l.filter (fun t=>!p t)=l:=by rw[rs];intro a g;rw[h a g];rfl
theorem QE {p:List B->Bool} {l:aQ} {k:Nat} (h:∀ (i:Nat) (z:List B),i<k->l[i]?=some z->p z=false) :(l.take k).filter (fun t=>!p t)=l.take k:=by
 refine Hn fun z m=>?_
 obtain⟨i,g⟩:=cq.1 m;have j:=(aK.1 g).1;rw[cL] at j;rw[dS F] at g;exact h i z F g
theorem QC {p:List B->Bool} {l:aQ} {k:Nat} {y:List B} (h:l[k]?=some y) :(l.take (k+1)).filter (fun t=>!p t)=(l.take k).filter (fun t=>!p t)++(if p y then [] else [y]):=by rw[ej,h,lH];cases g:p y<;>simp[g]
theorem G5 {g:cj} {cap:ag} {j:Nat} {l:ad} {v:U} {xs:aQ} {p:List B->Bool} (aO:fI prog g=true) (H:aE 32 l v j (xs.map am)) (ay:(∀ x∈xs,x.length=32)) (bk:xs.length<=1000000) (aS:vg g cap j l xs p)
  {K:cA} (aM:∀ r l',aE 32 l' r j ((xs.filter fun t=>!p t).map am)->nf j l l'->bo r=bo v->(r=v\/∃ q:Nat,dw (.Z 32) v none (some (.i6 (q:Int))) none=some r)->K r l') :
  cM 140 [v,.fn g [] cap] l K:=by
 apply c0 func140 [];have bh:=H.len;rw[cg] at bh;simp;refine Rw aO H ay bk aS fun n bt bc aR T=>?_
 rcases bc with ⟨rfl,a8⟩ | ⟨w,rfl,aq,bi,a9⟩
 ·simp;refine aM _ _ ?_ ⟨aR,fun b m _=>T b m⟩ rfl (.inl rfl);rw[Hn a8];exact H.frame fun G=>T j G
 ·have bl:¬ ((w:Int)=-1):=F;have a5:=cf (k:=w) F;have bn:aE 32 bt v j (xs.map am):=H.frame fun G=>T j G
  have bq:bo v=false:=by
   cases bm:bo v with
   | false=>rfl
   | true=>
    have:=gm.1 bm;subst this;have:=H.q.oN;rw[m7] at this;rw[this] at aq;simp at aq
  simp[bl,a5];refine bx (xs.length - (w+1)) (fun W=>Nb l v g cap j xs p (w+1+W)) ?_ ⟨V,V,V,⟨aR,fun b m _=>T b m⟩,w,xs,V,bn,rfl,ay,?_,F,fun _ _=>rfl⟩
  ·rintro W bv P bB ⟨aG,aI,ah,u,q,C,aJ,R,av,ax,J,bp,S⟩;obtain⟨k,hk⟩:=al (w+1+W);rw[show w+1+(W+1)=k+1 by omega];rw[<-hk] at ah J bp S;obtain⟨bv,rfl⟩:=eO aG aI aJ ah;clear aG aI aJ ah;have ar:=R.len;rw[cg,av] at ar;by_cases bj:k<xs.length
   ·have au:(k:Int)<(xs.length:Int):=F;obtain⟨y,O,aZ⟩:=aP (l:=xs) (k:=k) bj;have aY:=ay y aZ;have D:=br aY;have aX:aw (bZ 32 (.int .u8 0)) 0 (am y)=am y:=cy (by rw[D];rfl);have aF:=cf (k:=k) F;have a6:=cf (k:=q) F;have bs:C[k]?=some y:=by rw[S k (aN _)];exact O
    obtain⟨bG,cs,bE,a2,a3,a4,aD⟩:=R.q.get (k:=.i64) (i:=k) (e:=am y) (by rw[b1,bs];rfl);have bd:nf j l (P++[ao.q 32 (am y)]):=⟨by have:=u.le;simp;omega,fun b m o=>by rw[aU (by have:=u.le;omega)];exact u.same b m o⟩
    have ai:=aS y aZ _ bd;have Q:=QC (p:=p) O;have aW:=fun (iU:ad) (h:aE 32 iU v j (C.map am))=>zw (X:=.af (am y)) rfl h (fun t I=>br (ax t I)) (k:=q) (x:=y) F D
    simp at ai;obtain⟨a0,a7⟩:=al (am y);rw[<-a7] at D aX aD ai aW;simp[ar,au,a2,a3,a4,aD,D,aX,aH];refine⟨aO,?_⟩;refine ai _ fun iU h1 aK=>?_
    have bA:P.length<iU.length:=F;have aV:∀ b,b<P.length->iU[b]?=P[b]?:=fun b m=>by rw[aK b F,aU m]
    have aT:aE 32 iU v j (C.map am):=R.frame fun G=>aV j G
    have bb:iU[P.length]?=some (.q 32 a0):=by rw[aK _ V];simp
    have ap:nf j l iU:=⟨by have:=u.le;omega,fun b m o=>by rw[aV b (by have:=u.le;omega)];exact u.same b m o⟩
    cases aL:p y with
    | true=>
     rw[aL,ak rfl,eK] at Q;simp[aF];refine⟨F,V,V,V,ap,q,C,V,aT,av,ax,by rw[Q];exact J,F,fun t I=>S t F⟩
    | false=>
     rw[aL,aj V] at Q;obtain⟨bF,bD,az,aA,Y,aB,aC⟩:=aW iU aT;simp[bb,D,az,aA,aF,a6,aH];refine⟨F,V,V,V,⟨by have:=ap.le;omega,fun b m o=>by rw[aC b o];exact ap.same b m o⟩,q+1,C.set q y,V,Y,by simp[av],fun t I=>?_,?_,F,fun t I=>?_⟩
     ·rcases n2 I with h | h
      ·exact ax _ h
      ·rw[h];exact aY
     ·have bw:(C.take q).length=q:=by rw[cL];omega
      rw[rv,ak F,o7,bw,aH F,show q+1 - q=1 by omega,Q,<-J];simp
     ·rw[bg F];exact S t F
   ·have au:¬ (k:Int)<(xs.length:Int):=F;have bf:k=xs.length:=F;obtain⟨bH,bC,r,az,aA,Y,aB,aC,bI,bz⟩:=Jk (z:=32) (zr:=bZ 32 (.int .u8 0)) rfl R (k:=q) F;simp[ar,au,az,aA,Y];rw[bf,e3] at J;rw[J] at aB;exact aM _ _ aB ⟨by have:=u.le;omega,fun b m o=>by rw[bz b o];exact u.same b m o⟩ (by rw[aC,bq]) (.inr ⟨q,Y⟩)
  ·rw[ej,lH,QE bi];obtain⟨y,O,_⟩:=aP (l:=xs) (k:=w) aq;have:=a9 y O;rw[O];simp[this]
theorem G4 {g:cj} {cap:ag} {j:Nat} {l:ad} {v:U} {xs:aQ} {p:List B->Bool} (q:fI prog g=true) (w:aE 32 l v j (xs.map am)) (C:(∀ x∈xs,x.length=32)) (u:xs.length<=1000000) (z:vg g cap j l xs p)
  {K:cA} (o:∀ r l',aE 32 l' r j ((xs.filter fun t=>!p t).map am)->nf j l l'->bo r=bo v->K r l') :
  cM 140 [v,.fn g [] cap] l K:=G5 q w C u z fun r l' h1 h m _=>o r l' h1 h m
def jG (g:aV) (x:List B) (o:aJ) :aV:=cI ⟨some (cW g.idsZ.l (dU g.idsZ.l x) x),some (cW g.opsZ.l (dU g.idsZ.l x) o)⟩
theorem Vp (g:aV) (v:eT g) (bF:g.idsZ.l.length=g.opsZ.l.length) (bH:g.idsZ.l.length<1000) (x:List B) (S:x.length=32) (o:aJ) (bi:dm o) :
  aW 214 [cD g,.af (am x),.af (av o)] (cD (jG g x o)):=by
 apply a8 func214 [[],cR 0 5++[[6],[7]]++cR 9 4++[[5,10,7,6],[8,10]],cR 0 5++[[6],[7]]++cR 9 4++[[5,10,7,6],[8,10]]];have aK:=ds;have T:=br S;have bo:=cG x;have bj:(av o).length=11:=rfl;have bI:=du o;have bD:=bM g.idsZ;have ag:bz (.Z 32) (ah g.idsZ)=_:=b6 _;obtain⟨X,t⟩:=al (am x);obtain⟨O,Y⟩:=al (av o);have aL:aw (bZ 32 (.int .u8 0)) 0 X=X:=cy (by rw[t,T];rfl);have u:X.length=32:=by rw[t];exact T
 have Q:O.length=11:=by rw[Y];rfl
 have bh:X.take 32=X:=aH F;have aD:O.take 11=O:=aH F;have bn:aw [U.int .u32 0,.ae,.int .u64 0,.int .u8 0,.str [],.int .u8 0,.i6 0,.int .u64 0,.str [],.int .u32 0,.int .u32 0] 0 O=O:=cy (by rw[Q];rfl);have aE:aq X=true:=by rw[t];exact bo
 simp[cD,bf,<-t,<-Y,u,Q];obtain⟨c,R⟩:=al (dU g.idsZ.l x);have bE:c<=g.idsZ.l.length:=by rw[R];exact vL _ _
 refine bx c (fun k p l=>l=[.q 2 [ah g.idsZ,bB g.opsZ],.q 32 X,.q 11 O,.q 2 [.ae,.ae],.q 2 [.ae,.ae]]/\p 3=.ptr 0 0 2/\p 4=.ptr 1 0 32/\p 5=.ptr 2 0 11/\p 6=.ptr 3 0 2/\p 7=.ptr 4 0 2/\p 8=.i6 k) ?_ ⟨rfl,V,V,V,V,V,V⟩;rintro k p l hk ⟨rfl,ax,ay,az,aA,aB,aC⟩;obtain⟨p,rfl⟩:=m0 ax ay az aA aB aC;clear ax ay az aA aB aC;have aX:=cf (k:=k) F;by_cases aF:k<c
 ·obtain⟨y,j,aj⟩:=aP (l:=g.idsZ.l) (k:=k) F;have ai:bQ y x<0:=yj (by rw[<-R];exact aF) j;have D:k<g.idsZ.l.length:=F;have G:=v.idsZ y aj;have K:=br G;have H:=cG y;have m:=w6 y x G S;have C:bO (.Z 32) (ah g.idsZ) _=_:=c5 j;change aW _ [.af (am y),.af (am x)] _ at m;rw[<-t] at m;obtain⟨aU,ad⟩:=al (am y);rw[<-ad] at C K H m;simp[ag,D,C,K,u,aH];refine au m (by simp[aq,U.ar,aE,H]) ?_;simp[ai,aX];exact aF
 ·have aG:k=c:=F;have aQ:∀ y∈g.idsZ.l,(am y).length=32:=fun y j=>br (v.idsZ y j)
  have bp:∀ y∈g.opsZ.l,(av y).length=11:=fun y j=>rfl
  have bG:=v.ji;have t1:dw (.Z 32) (ah g.idsZ) none (some (.i6 (k:Int))) none=some (ah (hg g.idsZ k)):=Aj F;have t2:dw (.Z 32) (ah g.idsZ) (some (.i6 (k:Int))) none none=some (ah (oW g.idsZ k)):=Ev F;have t3:dw (.Z 11) (bB g.opsZ) none (some (.i6 (k:Int))) none=some (bB (hg g.opsZ k)):=Aj F;have t4:dw (.Z 11) (bB g.opsZ) (some (.i6 (k:Int))) none none=some (bB (oW g.opsZ k)):=Ev F;obtain⟨I,w⟩:=al (cW g.idsZ.l k x);obtain⟨J,P⟩:=al (cW g.opsZ.l k o);obtain⟨bs,aY⟩:=al (((g.idsZ.l.take k).map am).flatten);obtain⟨bt,aZ⟩:=al (((g.idsZ.l.take k++[x]).map am).flatten);obtain⟨bv,a0⟩:=al (((g.opsZ.l.take k).map av).flatten);obtain⟨bw,a2⟩:=al (((g.opsZ.l.take k++[o]).map av).flatten);obtain⟨W,aS,ak⟩:=Du (enc:=am) (z:=32) (by_:=32) (l:=[.q 2 [ah g.idsZ,bB g.opsZ],.q 32 X,.q 11 O,.q 2 [.ae,.ae],.q 2 [.ae,.ae],.q 0 [],.q 32 X]) (b:=5) (c:=6) (k:=k) (s:=g.idsZ) (x:=x) rfl (by rw[t];rfl) F F aQ T F F (by rw[aK];omega);obtain⟨ao,aT,ap⟩:=Du (enc:=av) (z:=11) (by_:=112) (l:=[.q 2 [ah g.idsZ,bB g.opsZ],.q 32 X,.q 11 O,.q 2 [.ae,.ae],.q 2 [ah (some I),.ae],.dead,.q 32 X,.q 0 [],.q 11 O]) (b:=7) (c:=8) (k:=k) (s:=g.opsZ) (x:=o) rfl (by rw[Y];rfl) F F bp bj F F (by rw[aK];omega);change ea _ _ _ _ (ah _)=_ at W ak;change ea _ _ _ _ (bB _)=_ at ao ap;simp only[<-w,<-aY,<-aZ,xM,s6] at W aS ak;simp only[<-P,<-a0,<-a2,xM,s6] at ao aT ap;have a6:∀ y∈I,(am y).length=32:=fun y j=>by
   rw[w,jA] at j;rcases j with h | h
   ·rw[h];exact T
   ·exact aQ y h
  have bc:∀ y∈J,(av y).length=11:=fun y j=>rfl
  have a3:U.bu 32 (I.map am)=ah (some I):=rfl;have a7:U.bu 11 (J.map av)=bB (some J):=rfl;have a4:=gB (some I);have a9:(bB (some J)).cells=some [bB (some J)]:=rfl;have a5:=bM (some I);have bb:=im (some J);have bA:=gB (cI ⟨some I,some J⟩).idsZ;have bC:(bB (cI ⟨some I,some J⟩).opsZ).cells=some [bB (cI ⟨some I,some J⟩).opsZ]:=by cases (cI ⟨some I,some J⟩).opsZ<;>rfl
  have bd:=bM (cI ⟨some I,some J⟩).idsZ;have bg:=im (cI ⟨some I,some J⟩).opsZ;have bq:eT ⟨some I,some J⟩:=by
   refine⟨fun y j=>?_,fun q bk=>?_,?_,?_⟩
   ·have aO:y∈I:=j;rw[w,jA] at aO;rcases aO with h | h
    ·rw[h];exact S
    ·exact v.idsZ y h
   ·have aI:q∈J:=bk;rw[P,jA] at aI;rcases aI with h | h
    ·rw[h];exact bi
    ·exact v.opsZ q h
   ·show I.length<=_;rw[w,h8];omega
   ·show J.length<=_;rw[P,h8];omega
  have aM:=zM ⟨some I,some J⟩ bq;unfold cD bf at aM;have bl:jG g x o=cI ⟨some I,some J⟩:=by unfold jG;rw[w,P,aG,R]
  by_cases D:k<g.idsZ.l.length
  all_goals first
   | (
     obtain⟨y,j,aj⟩:=aP D;have ai:¬ bQ y x<0:=yi (by rw[<-R,<-aG];exact j);have G:=v.idsZ y aj;have K:=br G;have H:=cG y;have m:=w6 y x G S;have C:bO (.Z 32) (ah g.idsZ) _=_:=c5 j;change aW _ [.af (am y),.af (am x)] _ at m;rw[<-t] at m;obtain⟨aU,ad⟩:=al (am y);rw[<-ad] at C K H m;simp[ag,D,C,K,u,aH];refine au m (by simp[aq,U.ar,aE,H]) ?_;simp[ai,t1,t2,u,aL,aH,W])
   | simp[ag,D,t1,t2,u,aL,aH,W]
  all_goals
   refine bP.bm ?_;simp[u,bh,aS];refine bP.bm ?_;simp[ak];refine bP.oz (by exact lv a6 rfl rfl) rfl ?_;simp[a3,a4,t3,t4,Q,aD,bn,ao];refine bP.bm ?_;simp[Q,aD,aT];refine bP.bm ?_;simp[ap];refine bP.oz (by exact lv bc rfl rfl) rfl ?_;simp[a7,a9,aw];refine au aM (by simp[aq,U.ar,a5,bb]) ?_;simp[aw];rw[bl];exact aR rfl (show (U.af [ah (cI ⟨some I,some J⟩).idsZ,bB (cI ⟨some I,some J⟩).opsZ]).ar=true by simp[U.ar,aq,bd,bg])
theorem yR {l:aQ} (h:b8 l=true) {x:List B} (g:x∉l) :b8 (cW l (dU l x) x)=true:=by have:=H5 h x;unfold jz at this;rw[aj (fun e=>g (cJ e))] at this;exact this
theorem RD {alZ g:Type} {a:List alZ} {b:List g} (h:a.length=b.length) (k:Nat) (x:alZ) (y:g) :(cW a k x).zip (cW b k y)=cW (a.zip b) k (x,y):=by unfold cW;rw[List.zip_append (by rw[cL,cL,h]),List.zip_cons_cons];rw[Fj,Fj,Fj,List.take_zipWith,List.drop_zipWith]
structure vj (g h:aV) (x:List B) (o:aJ) :Prop where
 len:h.idsZ.l.length=h.opsZ.l.length
 n60:h.opsZ.l.length<=60
 b8:b8 h.idsZ.l=true
 mem:∀ (y:List B) (q:aJ),(∃ k:Nat,h.idsZ.l[k]?=some y/\h.opsZ.l[k]?=some q)<->((y=x/\q=o)\/∃ j:Nat,g.idsZ.l[j]?=some y/\g.opsZ.l[j]?=some q)
theorem vj.idsZ {g j:aV} {x:List B} {o:aJ} (M:vj g j x o) (u:g.idsZ.l.length=g.opsZ.l.length) (y:List B) :y∈j.idsZ.l<->y=x\/y∈g.idsZ.l:=by
 have h1:=M.len;constructor
 ·intro h;obtain⟨k,hk⟩:=cq.1 h;obtain⟨q,m,_⟩:=aP (l:=j.opsZ.l) (k:=k) (by have:=(aK.1 hk).1;omega);rcases (M.mem y q).1 ⟨k,hk,m⟩ with ⟨a,_⟩ | ⟨p,a,_⟩
  ·exact .inl a
  ·exact .inr (cJ a)
 ·intro h;rcases h with rfl | h
  ·obtain⟨k,hk,_⟩:=(M.mem y o).2 (.inl ⟨rfl,rfl⟩);exact cJ hk
  ·obtain⟨p,t⟩:=cq.1 h;obtain⟨q,m,_⟩:=aP (l:=g.opsZ.l) (k:=p) (by have:=(aK.1 t).1;omega);obtain⟨k,hk,_⟩:=(M.mem y q).2 (.inr ⟨p,t,m⟩);exact cJ hk
theorem S7 {g j:aV} {x:List B} {o:aJ} (T:eY g=0) (M:vj g j x o) (ao:x∉g.idsZ.l) (ad:ei o=0) (V:bd o=x) (I:∀ p∈o.ax.l,p∈g.idsZ.l) :eY j=0:=by
 have w:=kO T;have R:=M.len;have G:=M.idsZ w.len;have al:=mG w.b8;have W:∀ i,mr g.idsZ.l g.opsZ.l i->∀ y q,g.idsZ.l[i]?=some y->g.opsZ.l[i]?=some q->∀ k:Nat,j.idsZ.l[k]?=some y->mr j.idsZ.l j.opsZ.l k:=by
  intro i U
  induction U with
  | mk i am J X S=>
   intro y q t u k hk;have Q:j.opsZ.l[k]?=some q:=by
    obtain⟨ah,D,z⟩:=(M.mem y q).2 (.inr ⟨i,t,u⟩);rw[DS M.b8 hk D];exact z
   rw[mb u] at J X S;refine .mk k (aK.1 hk).1 (fun p m=>(G p).2 (.inr (J p (by rw[mb Q] at m;exact m)))) fun p m O K=>?_
   rw[mb Q] at m;obtain⟨v,C⟩:=cq.1 (J p m);obtain⟨r,H,_⟩:=aP (l:=g.opsZ.l) (k:=v) (by have:=(aK.1 C).1;have:=w.len;omega);exact S p m v C p r C H O K
 have P:∀ (k:Nat) (y:List B),j.idsZ.l[k]?=some y->y∈g.idsZ.l->mr j.idsZ.l j.opsZ.l k:=fun k y hk t=>by
  obtain⟨v,C⟩:=cq.1 t;obtain⟨r,H,_⟩:=aP (l:=g.opsZ.l) (k:=v) (by have:=(aK.1 C).1;have:=w.len;omega);exact W v (w.all v (aK.1 H).1) y r C H k hk
 have Y:jL j.idsZ.l j.opsZ.l=0:=by
  unfold jL;rw[ak M.b8,ak,ak]
  ·refine (Df R (mG M.b8)).2 fun i ai=>?_
   obtain⟨y,t,ag⟩:=aP (l:=j.idsZ.l) (k:=i) F;rcases (G y).1 ag with rfl | h
   ·have u:j.opsZ.l[i]?=some o:=by
     obtain⟨ah,D,z⟩:=(M.mem y o).2 (.inl ⟨rfl,rfl⟩);rw[DS M.b8 t D];exact z
    refine .mk i (aK.1 t).1 (fun p m=>(G p).2 (.inr (I p (by rw[mb u] at m;exact m)))) fun p m O K=>?_
    rw[mb u] at m;exact P O p K (I p m)
   ·exact P i y t h
  ·unfold pM gV;rw[bI];intro q u;rw[bI];intro p m;obtain⟨k,hk⟩:=cq.1 u;obtain⟨y,t,_⟩:=aP (l:=j.idsZ.l) (k:=k) (by have:=(aK.1 hk).1;omega);refine (G p).2 ?_;rcases (M.mem y q).1 ⟨k,t,hk⟩ with ⟨_,rfl⟩ | ⟨v,_,z⟩
   ·exact .inr (I p m)
   ·exact .inr (w.Db q (cJ z) p m)
 unfold eY;rw[aj (by have:=M.n60;omega),ak R,ak,Y];rw[r3];intro k hk;obtain⟨q,u,_⟩:=aP hk;obtain⟨y,t,_⟩:=aP (l:=j.idsZ.l) (k:=k) F;have:ei q=0/\bd q=y:=by
  rcases (M.mem y q).1 ⟨k,t,u⟩ with ⟨rfl,rfl⟩ | ⟨v,D,z⟩
  ·exact⟨ad,V⟩
  ·exact w.HO v q y z D
 rw[v1 u t,ca this.1,ca this.2];rfl
theorem Ck {g:aV} (t:g.idsZ.l.length=g.opsZ.l.length) (y:List B) :y∈eU g<->y∈g.idsZ.l/\∀ q∈g.opsZ.l,y∉q.ax.l:=by
 unfold eU io lX;rw[dx,bI];refine and_congr Iff.rfl ⟨fun h q m=>?_,fun h o j=>?_⟩
 ·obtain⟨o,j⟩:=cq.1 m;have:=h o (aK.1 j).1;rw[jD j] at this;exact this
 ·obtain⟨q,m,p⟩:=aP j;rw[jD m];exact h q p
theorem Cl {g:aV} (h:b8 g.idsZ.l=true) :b8 (eU g)=true:=ul ((oS h).sublist kk)
def r5 (h:aQ) (x:List B) (o:aJ) :aQ:=
 cW (h.filter fun y=>!decide (y∈o.ax.l)) (dU (h.filter fun y=>!decide (y∈o.ax.l)) x) x
theorem S8 {g u:aV} {x:List B} {o:aJ} (G:eY g=0) (M:vj g u x o) (w:x∉g.idsZ.l) (K:∀ p∈o.ax.l,p∈g.idsZ.l) :eU u=r5 (eU g) x o:=by
 have j:=kO G;have I:=M.idsZ j.len;have H:b8 ((eU g).filter fun y=>!decide (y∈o.ax.l))=true:=ul ((oS (Cl j.b8)).sublist kk);have O:x∉(eU g).filter fun y=>!decide (y∈o.ax.l):=fun h=>w ((Ck j.len x).1 (dx.1 h).1).1
 refine Eg (lt:=eM) CN tX (oS (Cl M.b8)) (oS (yR H O)) fun y=>?_
 unfold r5;rw[Ck M.len,jA,dx,Ck j.len,I];have J:(∀ q∈u.opsZ.l,y∉q.ax.l)<->(y∉o.ax.l/\∀ q∈g.opsZ.l,y∉q.ax.l):=by
  constructor
  ·intro h;refine⟨?_,fun q t=>?_⟩
   ·obtain⟨k,_,a⟩:=(M.mem x o).2 (.inl ⟨rfl,rfl⟩);exact h o (cJ a)
   ·obtain⟨C,F⟩:=cq.1 t;obtain⟨D,z,_⟩:=aP (l:=g.idsZ.l) (k:=C) (by have:=(aK.1 F).1;have:=j.len;omega);obtain⟨k,_,a⟩:=(M.mem D q).2 (.inr ⟨C,z,F⟩);exact h q (cJ a)
  ·rintro⟨h1,m⟩ q t;obtain⟨k,hk⟩:=cq.1 t;obtain⟨D,z,_⟩:=aP (l:=u.idsZ.l) (k:=k) (by have:=(aK.1 hk).1;have:=M.len;omega);rcases (M.mem D q).1 ⟨k,z,hk⟩ with ⟨_,rfl⟩ | ⟨C,_,a⟩
   ·exact h1
   ·exact m q (cJ a)
 rw[J];simp only[uZ,decide_eq_false_iff_not];constructor
 ·rintro⟨h1 | h1,m,v⟩
  ·exact .inl h1
  ·exact .inr ⟨⟨h1,v⟩,m⟩
 ·rintro (rfl | ⟨⟨h1,v⟩,m⟩)
  ·exact⟨.inl rfl,fun h=>w (K y h),fun q t h=>w (j.Db q t y h)⟩
  ·exact⟨.inr h1,m,v⟩
def iD (p:aV) (x:List B) (o:aJ) :aV:=⟨some (cW p.idsZ.l (dU p.idsZ.l x) x),some (cW p.opsZ.l (dU p.idsZ.l x) o)⟩
def ft (s:cn) (x:List B) (o:aJ) :cn:=⟨some (s.ai.l.set (num x s.ai.l.length) (iD (dq s.ai.l (num x s.ai.l.length)) x o)),some (r5 s.bE.l x o),s.bL+1⟩
theorem zH (s:cn) (x:List B) (o:aJ) :(ft s x o).ai.l.length=s.ai.l.length:=by show (s.ai.l.set _ _).length=_;rw[km]
theorem zF {p:aV} (h:p.idsZ.l.length=p.opsZ.l.length) {x:List B} {o:aJ} (q:List B × aJ) :(∃ a:Nat,(iD p x o).idsZ.l[a]?=some q.1/\(iD p x o).opsZ.l[a]?=some q.2)<->(q=(x,o)\/∃ a:Nat,p.idsZ.l[a]?=some q.1/\p.opsZ.l[a]?=some q.2):=by
 have h1:(∃ a:Nat,(iD p x o).idsZ.l[a]?=some q.1/\(iD p x o).opsZ.l[a]?=some q.2)<->q∈(cW p.idsZ.l (dU p.idsZ.l x) x).zip (cW p.opsZ.l (dU p.idsZ.l x) o):=by
  rw[cq];exact exists_congr fun a=>by rw[s3];rfl
 have g:(∃ a:Nat,p.idsZ.l[a]?=some q.1/\p.opsZ.l[a]?=some q.2)<->q∈p.idsZ.l.zip p.opsZ.l:=by
  rw[cq];exact exists_congr fun a=>by rw[s3]
 rw[h1,g,RD h,jA]
theorem rj {s:cn} (h:e4 s) :ng s.ai.l:=⟨fun j g=>(jQ.1 h.wf j g).1,fun j g=>(jQ.1 h.wf j g).2,wI h.al⟩
theorem o2 {s:cn}:(bR (bH s)).idsZ.l=(bH s).map (·.1):=by unfold bR;simp only[dj]
theorem xy {s:cn}:(bR (bH s)).opsZ.l=(bH s).map (·.2):=by unfold bR;simp only[dj]
theorem Dm {s:cn} (h:e4 s) {p:aV} (j:p∈s.ai.l) {y:List B} (o:y∈p.idsZ.l) :y∈(bR (bH s)).idsZ.l:=by have W:=rj h;obtain⟨a,g⟩:=cq.1 o;obtain⟨q,m,_⟩:=aP (l:=p.opsZ.l) (k:=a) (by have:=(aK.1 g).1;have:=W.len p j;omega);rw[o2];exact cC.2 ⟨(y,q),(nW W _).2 ⟨p,j,a,g,m⟩,rfl⟩
theorem JY {s:cn} (h:e4 s) {x:List B} {o:aJ} (I:x∉(bR (bH s)).idsZ.l) :kN (ft s x o).ai.l=true/\nV (ft s x o).ai.l=true/\ng (ft s x o).ai.l:=by
 have W:=rj h;have H:=zH s x o;have v:num x s.ai.l.length<s.ai.l.length:=by unfold num;exact mq _ (by have:=h.gP;omega)
 obtain⟨p,m,u⟩:=aP v;have J:x∉p.idsZ.l:=fun G=>I (Dm h u G)
 have z:dq s.ai.l (num x s.ai.l.length)=p:=dr m;have q:=h.al;unfold kN at q;rw[bI] at q;have D:(ft s x o).ai.l=s.ai.l.set (num x s.ai.l.length) (iD p x o):=by
  show s.ai.l.set _ (iD (dq s.ai.l _) x o)=_;rw[z]
 have w:kN (ft s x o).ai.l=true:=by
  unfold kN;rw[bI,H,D];intro i C y j;by_cases e:i=num x s.ai.l.length
  ·subst e;rw[dr (bV v)] at j;rcases jA.1 (show y∈cW p.idsZ.l _ x from j) with rfl | j
   ·rfl
   ·exact q _ v y (by rw[z];exact j)
  ·obtain⟨r,g,_⟩:=aP (l:=s.ai.l) (k:=i) C;rw[dr (by rw[bg (fun F=>e F.symm)];exact g)] at j;exact q i C y (by rw[dr g];exact j)
 have t:nV (ft s x o).ai.l=true:=by
  refine jQ.2 fun r g=>?_
  rw[D] at g;rcases n2 g with g | rfl
  ·exact jQ.1 h.wf r g
  ·refine⟨?_,yR (W.b8 p u) J⟩;show (cW p.idsZ.l _ x).length=(cW p.opsZ.l _ o).length;rw[h8,h8,W.len p u]
 exact⟨w,t,fun p m=>(jQ.1 t p m).1,fun p m=>(jQ.1 t p m).2,wI w⟩
theorem ER {s:cn} (h:e4 s) {x:List B} {o:aJ} (D:x∉(bR (bH s)).idsZ.l) :bH (ft s x o)=cW (bH s) (dU (bR (bH s)).idsZ.l x) (x,o):=by
 have W:=rj h;obtain⟨_,_,v⟩:=JY (o:=o) h D;have G:=kO h.kx;have C:num x s.ai.l.length<s.ai.l.length:=by unfold num;exact mq _ (by have:=h.gP;omega)
 obtain⟨m,z,t⟩:=aP C;have J:(ft s x o).ai.l=s.ai.l.set (num x s.ai.l.length) (iD m x o):=by
  show s.ai.l.set _ (iD (dq s.ai.l _) x o)=_;rw[dr z]
 refine zE (xA v) ?_ fun q=>?_
 ·have h1:=oS (yR G.b8 D);have I:cW (bR (bH s)).idsZ.l (dU (bR (bH s)).idsZ.l x) x=(cW (bH s) (dU (bR (bH s)).idsZ.l x) (x,o)).map (·.1):=by
   unfold cW;rw[cS,di,i3,n1,o2]
  rw[I,m8] at h1;exact h1
 ·rw[nW v,jA,nW W,J];constructor
  ·rintro⟨r,p,a,g,j⟩;rcases n2 p with p | rfl
   ·exact .inr ⟨r,p,a,g,j⟩
   ·rcases (zF (W.len m t) q).1 ⟨a,g,j⟩ with h | ⟨a,g,j⟩
    ·exact .inl h
    ·exact .inr ⟨m,t,a,g,j⟩
  ·have w:iD m x o∈s.ai.l.set (num x s.ai.l.length) (iD m x o):=cq.2 ⟨_,bV C⟩;rintro (rfl | ⟨r,p,a,g,j⟩)
   ·obtain⟨a,b⟩:=(zF (x:=x) (o:=o) (W.len m t) (x,o)).2 (.inl rfl);exact⟨_,w,a,b⟩
   ·obtain⟨F,u⟩:=cq.1 p;by_cases e:F=num x s.ai.l.length
    ·subst e;rw[z] at u;obtain rfl:=cd u;obtain⟨a,b⟩:=(zF (x:=x) (o:=o) (W.len m t) q).2 (.inr ⟨a,g,j⟩);exact⟨_,w,a,b⟩
    ·exact⟨r,cq.2 ⟨F,by rw[bg (fun H=>e H.symm)];exact u⟩,a,g,j⟩
theorem IM {s:cn} (h:e4 s) {x:List B} {o:aJ} (t:x∉(bR (bH s)).idsZ.l) (w:s.bL<60) :vj (bR (bH s)) (bR (bH (ft s x o))) x o:=by
 have g:=kO h.kx;have C:=h.jP;have e:=ER (o:=o) h t;have j:(bR (bH (ft s x o))).idsZ.l=cW (bR (bH s)).idsZ.l (dU (bR (bH s)).idsZ.l x) x:=by
  rw[o2,e];unfold cW;rw[cS,di,i3,n1,o2]
 have m:(bR (bH (ft s x o))).opsZ.l=cW (bR (bH s)).opsZ.l (dU (bR (bH s)).idsZ.l x) o:=by
  rw[xy,e];unfold cW;rw[cS,di,i3,n1,xy]
 have z:(bR (bH s)).opsZ.l.length=(bH s).length:=by rw[xy,cg]
 refine⟨by rw[j,m,h8,h8,g.len],by rw[m,h8];omega,by rw[j];exact yR g.b8 t,fun y q=>?_⟩;have:=zF (p:=bR (bH s)) g.len (x:=x) (o:=o) (y,q);have u:(iD (bR (bH s)) x o).idsZ.l=(bR (bH (ft s x o))).idsZ.l:=by rw[j];rfl
 have v:(iD (bR (bH s)) x o).opsZ.l=(bR (bH (ft s x o))).opsZ.l:=by rw[m];rfl
 rw[u,v,Prod.mk.injEq] at this;exact this
theorem JX {s:cn} (h:e4 s) {x:List B} {o:aJ} (g:x∉(bR (bH s)).idsZ.l) (t:s.bL<60) (v:ei o=0) (u:bd o=x) (j:∀ p∈o.ax.l,p∈(bR (bH s)).idsZ.l) :e4 (ft s x o):=by
 have M:=IM (o:=o) h g t;obtain⟨m,q,_⟩:=JY (o:=o) h g;refine⟨by rw[zH];exact h.gP,by rw[zH];exact h.qQ,m,q,S7 h.kx M g v u j,?_,?_⟩
 ·rw[ER h g,h8];show s.bL+1=_;rw[h.jP];omega
 ·rw[S8 h.kx M g j,h.tL];rfl
theorem US {s:cn} (h:e4 s) {x:List B} {o:aJ} (m:x∉(bR (bH s)).idsZ.l) :jG (cQ s) x o=cQ (ft s x o):=by
 have e:=ER (o:=o) h m;have u:(cQ s).idsZ.l=(bR (bH s)).idsZ.l:=rfl;have g:(bR (bH (ft s x o))).idsZ.l=cW (bR (bH s)).idsZ.l (dU (bR (bH s)).idsZ.l x) x:=by
  rw[o2,e];unfold cW;rw[cS,di,i3,n1,o2]
 have j:(bR (bH (ft s x o))).opsZ.l=cW (bR (bH s)).opsZ.l (dU (bR (bH s)).idsZ.l x) o:=by
  rw[xy,e];unfold cW;rw[cS,di,i3,n1,xy]
 have t:(cQ s).opsZ.l=(bR (bH s)).opsZ.l.map cw:=mY _;unfold jG cQ;have p:(cI (bR (bH s))).idsZ.l=(bR (bH s)).idsZ.l:=rfl;have q:(cI (bR (bH s))).opsZ.l=(bR (bH s)).opsZ.l.map cw:=mY _;rw[p,q];unfold cI;simp only[bX.qL];rw[g,j];congr 2;unfold cW;simp only[cS,di,i3,n1,iL];rfl
theorem JZ {s:cn} (h:e4 s) {x:List B} {o:aJ} (j:x∉(bR (bH s)).idsZ.l) (q:s.bL<60) (v:ei o=0) (t:bd o=x) (u:∀ p∈o.ax.l,p∈(bR (bH s)).idsZ.l) :
  eY (jG (cQ s) x o)=0/\ih (ft s x o) (jj (jG (cQ s) x o) s.ai.l.length)=true:=by have W:=JX h j q v t u;rw[US h j];obtain⟨_,_,m,g⟩:=Eb (K3 W);rw[zH] at g;exact⟨m,g⟩
def nG (s:c9) (x:List B) (o:aJ) :c9:=⟨s.cap,ft s.aG x o,some (s.ay.l++[x])⟩
theorem Ub {g:aV} (q:vl g) {l:aQ} (h:FC g l) :kP g l=true:=by
 unfold kP;rw[bI];intro i z;obtain⟨x,m,p⟩:=aP z;obtain⟨B,o⟩:=cq.1 (h.sub x p);unfold hC;rw[dI m,bU,bU,bI,uZ,decide_eq_false_iff_not];refine⟨h.sub x p,fun w=>?_,?_⟩
 ·obtain⟨a,j⟩:=cq.1 w;have v:=(aK.1 j).1;rw[cL] at v;rw[dS F] at j;obtain⟨t,u⟩:=aK.1 j;obtain⟨d1,d2⟩:=aK.1 m;exact ko.1 h.ls a i t d1 F (by rw[u,d2])
 ·rw[tQ (mG q.b8) o,fm];unfold gV;rw[bI];exact h.pre i x B m o
theorem Af {s:c9} (h:gT s) (x:List B) :x∈s.ay.l<->x∈(bR (bH s.aG)).idsZ.l:=by
 have m:=kO h.aG.kx;have g:=LO m h.ord;refine⟨g.sub x,fun q=>?_⟩;refine Classical.byContradiction fun o=>?_
 have p:(x::s.ay.l).Nodup:=u9.2 ⟨o,g.ls⟩;have:=Ly p fun y j=>by
  rcases kn.1 j with rfl | j
  ·exact q
  ·exact g.sub y j
 rw[o2,cg] at this;have h1:=h.le;have t:=h.aG.jP;simp at this;omega
theorem TL {s:c9} (h:gT s) {x:List B} {o:aJ} (v:x∉s.ay.l) (ai:s.aG.bL≠s.cap) (ah:ei o=0) (U:bd o=x) (K:∀ p∈o.ax.l,p∈s.ay.l) :gT (nG s x o):=by
 have w:x∉(bR (bH s.aG)).idsZ.l:=fun T=>v ((Af h x).2 T)
 have Y:∀ p∈o.ax.l,p∈(bR (bH s.aG)).idsZ.l:=fun p ad=>(Af h p).1 (K p ad)
 have G:s.aG.bL<60:=by have:=h.jP;have:=h.tv;omega
 have W:=JX h.aG w G ah U Y;have M:=IM (o:=o) h.aG w G;have z:=kO h.aG.kx;have C:=kO W.kx;have u:=LO z h.ord;have J:=M.idsZ z.len;refine⟨h.jY,h.tv,W,?_,?_,Ub C ⟨?_,fun y m=>?_,fun i y j m I q ag=>?_⟩⟩
 ·show s.aG.bL+1<=s.cap;have:=h.jP;omega
 ·show ((s.ay.l++[x]).length:Int)=s.aG.bL+1;rw[cF,<-h.le];simp
 ·show (s.ay.l++[x]).Nodup;rw[Fg];exact⟨u.ls,V,fun a R b H e=>by simp at H;subst H;subst e;exact v R⟩
 ·have g:y∈s.ay.l++[x]:=m;rcases fx.1 g with m | m
  ·exact (J y).2 (.inr (u.sub y m))
  ·exact (J y).2 (.inl (gd.1 m))
 ·have g:(s.ay.l++[x])[i]?=some y:=m;show q∈(s.ay.l++[x]).take i;obtain⟨r,P,_⟩:=aP (l:=(bR (bH (ft s.aG x o))).opsZ.l) (k:=j) (by have:=(aK.1 I).1;have:=C.len;show j<_;omega);have O:q∈r.ax.l:=by
   have h1:q∈dQ (bR (bH (ft s.aG x o))).opsZ.l j:=ag;rw[mb P] at h1;exact h1
  rcases (M.mem y r).1 ⟨j,I,P⟩ with ⟨rfl,rfl⟩ | ⟨k,D,Q⟩
  ·have X:i=s.ay.l.length:=by
    rcases fE i s.ay.l.length with t | S
    ·rw[aU t] at g;exact bW (cJ g) v
    ·have:=(aK.1 g).1;simp at this;omega
   rw[X,List.take_left];exact K q O
  ·have t:i<s.ay.l.length:=by
    rcases fE i s.ay.l.length with t | S
    ·exact t
    ·have:=(aK.1 g).1;have e:i=s.ay.l.length:=by simp at this;omega
     rw[e,nZ] at g;obtain rfl:=cd g;exact bW (cJ D) w
   rw[aU t] at g;rw[ik F];exact u.pre i y k g D q (by rw[mb Q];exact O)
def iv (s:c9) (o:aJ) :Int:=if bd o∈s.ay.l then 5 else if ∀ g∈o.ax.l,g∈s.ay.l then (if s.aG.bL=s.cap then 8 else 1) else 6
end Op
namespace Op
section
variable {alZ:Type} {enc:alZ->ag} {z:Nat}
theorem yF {a:List alZ} (h:∀ y∈a,(enc y).length=z) :((a.map enc).flatten).length=a.length*z:=by
 induction a with
 | nil=>simp
 | cons x r j=>
  rw[di,hG,cF,j (fun y g=>h y (by simp[g])),h x V,dN,eP];omega
theorem RH {a:List alZ} (h:∀ y∈a,(enc y).length=z) {n i:Nat} (o:a.length=n) (v:i<=n) (x:alZ) :ip z (a.map enc).flatten (enc x) i n=((cW a i x).map enc).flatten:=by
 have m:a.map enc=(a.take i).map enc++(a.drop i).map enc:=by rw[<-cS,i4]
 have w:((a.take i).map enc).flatten.length=i*z:=by
  rw[yF (fun j g=>h j (gA g)),cL,i7 F]
 have u:((a.drop i).map enc).flatten.length=(n - i)*z:=by
  rw[yF (fun j g=>h j (u7 g)),i2,o]
 unfold ip cW;have h1:((a.map enc).flatten).take (i*z)=((a.take i).map enc).flatten:=by
  rw[m,jq,ik F,aH F]
 have p:((a.map enc).flatten).drop (i*z)=((a.drop i).map enc).flatten:=by
  rw[m,jq,nY F,p8 F,h0]
 have q:(((a.drop i).map enc).flatten).take ((n - i)*z)=((a.drop i).map enc).flatten:=aH F;have t:((a.map enc).flatten).drop ((n+1)*z)=[]:=p8 (by rw[yF h,o,eP];omega);rw[h1,p,q,t,eK];simp
theorem RP {P:bq} {G:Nat->U} {f g m e by_:Nat} (L:qi P f g m e z) (t:gj P g=some e) (C:b9 P e=some z) (w:gM P e=some by_) (o:0<z) (u:0<by_) (D:mm P e=some z)
  {l:ad} {bv:Nat} {x:alZ} (v:l[bv]?=some (.q z (enc x))) (B:by_<=dk)
  {K:cA} (p:K (.Z z l.length 0 1 1 z) (l++[.q z (enc x)])) :
  fS P G f [.ae,.i6 0,.Z z bv 0 1 1 z] l (c:=⟨K⟩):=by have j:=H9 (P:=P) (G:=G) (h:=aZ l) L t C w o u D (bv:=bv) (hK.2 v) B;rw[Bd,lN] at j;exact⟨_,_,.ext j,V,p⟩
end
end Op
end Go.bl
namespace Go.bl
open Go Go.Proofs Go.Proofs.Tryz Go.Shelf Go.RowKit Go.Lib
set_option maxHeartbeats 4000000
theorem RK (base:Option Addr) (n c j h m:Nat) (r:aD) (w w' : aT) (v:n<=c) (u:n<=4611686018427387904) (p:base=none->n=0/\c=0)
  (g:(Builtin.append_ #[23,23] 23 #[.slice base n c,.slice (some ⟨h,m,none⟩) 1 j]).run prog w=.ok r w') :
  Calls prog 158 #[.slice base n c,.int .i64 n,.slice (some ⟨h,m,none⟩) 1 j] w fun e w2=>e=.returned r/\w2=w':=by
 have B:=Tryz.underlying23;have z:=checked.mixed
 go_enter func158,Tryz.ntmps158
 cases base with
 | none=>
  obtain⟨o,h1⟩:=p rfl;subst o h1
  go_wp2_with (at_builtin;refine Lib.wpList_append_run _ rfl _ _ _ _ rfl _ _ rfl rfl _ _ g ?_)
  go_ret
  exact⟨rfl,rfl⟩
 | some a=>
  obtain⟨ab,q,t⟩:=a
  go_wp2_with (at_builtin;refine Lib.wpList_append_run _ rfl _ _ _ _ rfl _ _ rfl rfl _ _ g ?_)
  all_goals (go_ret;exact⟨rfl,rfl⟩)
theorem RQ (b off n c i g h j:Nat) (J K:aD) (w q hM:aT) (t ef:aF) (mH o:Nat) (W:i<n) (Y:n+1<=c) (Q:n<=4611686018427387904) (I:g≠b)
  (G:w.shape? g=some (t,mH)) (H:w.shape? b=some (ef,o)) (C:o≠0) (z:w.frozen? ⟨g,h,none⟩=false) (B:w.frozen? ⟨g,mH,none⟩=false)
  (u:(Builtin.copy_ #[23,23] 3 #[.slice (some ⟨b,off+(i+1)*32,none⟩) (n - i) (c - (i+1)),.slice (some ⟨b,off+i*32,none⟩) (n+1 - i) (c - i)]).run prog w.drew=.ok J q)
  (v:(Builtin.copy_ #[23,23] 3 #[.slice (some ⟨b,off+i*32,none⟩) (n+1 - i) (c - i),.slice (some ⟨g,h,none⟩) 1 j]).run prog q=.ok K hM) :
  Calls prog 158 #[.slice (some ⟨b,off,none⟩) n c,.int .i64 i,.slice (some ⟨g,h,none⟩) 1 j] w fun e w2=>e=.returned (.slice (some ⟨b,off,none⟩) (n+1) c)/\w2=hM:=by
 have O:=Tryz.underlying23;have P:∀ w,(Go.sizeOf 57).run prog w=.ok 32 w:=fun w=>eB bp
 have aj:=checked.mixed;have D:∀ p m,(callFunc 209 #[.slice (some ⟨g,h,none⟩) 1 j,.slice (some ⟨b,off+(i+1)*32,none⟩) p m]).run prog w=.ok (.value (.bool false)) w:=fun p m=>by
  rw[run_callFunc_extern func209 bp bp bp (e:=Extern.SlicesOverlaps.overlaps #[23,23] #[4]) bp,
   Lib.run_overlaps_apart w 23 4 57 O 32 P ⟨g,h,none⟩ ⟨b,off+(i+1)*32,none⟩ 1 j p m I t ef mH o G H C z B]
  rfl
 have ai:¬ ((i:Int)=(n:Int)):=F;have ag:IntKind.i64.wrap ((i:Int)+1)=(i:Int)+1:=by rw[IntKind.wrap_i64];omega
 have ah:IntKind.i64.wrap ((n:Int)+1)=(n:Int)+1:=by rw[IntKind.wrap_i64];omega
 have R:(0:Int)<=(i:Int)+1:=F;have X:i<=n:=F;have ad:((i:Int)+1).toNat=i+1:=F;have S:¬ (c=i+1):=F;have T:(i:Int)<=(n:Int)+1:=F;have U:¬ (c=i):=F;have V:¬ ((c:Int)<(n:Int)+1):=F
 go_enter func158,Tryz.ntmps158
 go_wp2_with (simp only[D])
 go_region_law_o (refine step_copy_runI rfl _ _ 23 23 rfl _ _ (by simp[Act.eval,Act.put]) (by simp[Act.eval,Act.put]) u ?_)
 go_wp2_with (at_builtin;refine wpList_copy_runI _ rfl _ _ 23 23 rfl _ _ rfl rfl v ?_)
 go_ret
 exact⟨rfl,rfl⟩
theorem RM (b off n c i j o m N G:Nat) (u v:aD) (w g h hM:aT) (O:i<n) (Q:n<=c) (R:c<n+1) (B:n+1<=G) (z:n<=4611686018427387904)
  (p:(Builtin.append_ #[23,3] 23 #[.slice (some ⟨b,off,none⟩) i c,.int .i64 ((n:Int)+1 - (i:Int))]).run prog w=.ok (.slice (some ⟨N,0,none⟩) (n+1) G) g)
  (q:(Builtin.copy_ #[23,23] 3 #[.slice (some ⟨N,i*32,none⟩) (n+1 - i) (G - i),.slice (some ⟨j,o,none⟩) 1 m]).run prog g=.ok u h)
  (t:(Builtin.copy_ #[23,23] 3 #[.slice (some ⟨N,(i+1)*32,none⟩) (n - i) (G - (i+1)),.slice (some ⟨b,off+i*32,none⟩) (n - i) (c - i)]).run prog h.drew=.ok v hM) :
  Calls prog 158 #[.slice (some ⟨b,off,none⟩) n c,.int .i64 i,.slice (some ⟨j,o,none⟩) 1 m] w fun e w2=>e=.returned (.slice (some ⟨N,0,none⟩) (n+1) G)/\w2=hM:=by
 have ad:=Tryz.underlying23;have ag:∀ w,(Go.sizeOf 57).run prog w=.ok 32 w:=fun w=>eB bp
 have Y:=checked.mixed;have W:¬ ((i:Int)=(n:Int)):=F;have T:IntKind.i64.wrap ((i:Int)+1)=(i:Int)+1:=by rw[IntKind.wrap_i64];omega
 have U:IntKind.i64.wrap ((n:Int)+1)=(n:Int)+1:=by rw[IntKind.wrap_i64];omega
 have V:IntKind.i64.wrap ((n:Int)+1 - (i:Int))=(n:Int)+1 - (i:Int):=by rw[IntKind.wrap_i64];omega
 have H:(0:Int)<=(i:Int)+1:=F;have P:i<=n:=F;have S:((i:Int)+1).toNat=i+1:=F;have C:¬ (G=i):=F;have D:¬ (G=i+1):=F;have K:¬ (c=i):=F;have X:(c:Int)<(n:Int)+1:=F;have I:(i:Int)<=(n:Int):=F;have J:(i:Int)<=(c:Int):=F
 go_enter func158,Tryz.ntmps158
 go_wp2_with (first
  | (at_builtin;refine Lib.wpList_append_run _ rfl _ _ _ _ rfl _ _ rfl rfl _ _ p ?_)
  | (at_builtin;refine wpList_copy_runI _ rfl _ _ 23 23 rfl _ _ rfl rfl q ?_))
 go_region_law_o (refine step_copy_runI rfl _ _ 23 23 rfl _ _ (by simp[Act.eval,Act.put]) (by simp[Act.eval,Act.put]) t ?_)
 go_wp2
 go_ret
 exact⟨rfl,rfl⟩
theorem Cs:qi prog 158 23 3 57 32:=
 ⟨Tryz.underlying23,Tryz.underlying3,RK,RQ,RM⟩
theorem RF {G:Nat->U} (args:ag) (h:aM) (r:U) (h' : aM) (g:tO 32 32 args h=some (r,h')) :jR prog G 158 args h r h':=
 H6 Cs bp bp bp F F bp args h r h' g
theorem RL (base:Option Addr) (n c j h m:Nat) (r:aD) (w w' : aT) (v:n<=c) (u:n<=4611686018427387904) (p:base=none->n=0/\c=0)
  (g:(Builtin.append_ #[68,68] 68 #[.slice base n c,.slice (some ⟨h,m,none⟩) 1 j]).run prog w=.ok r w') :
  Calls prog 159 #[.slice base n c,.int .i64 n,.slice (some ⟨h,m,none⟩) 1 j] w fun e w2=>e=.returned r/\w2=w':=by
 have B:=Tryz.underlying68;have z:=checked.mixed
 go_enter func159,Tryz.ntmps159
 cases base with
 | none=>
  obtain⟨o,h1⟩:=p rfl;subst o h1
  go_wp2_with (at_builtin;refine Lib.wpList_append_run _ rfl _ _ _ _ rfl _ _ rfl rfl _ _ g ?_)
  go_ret
  exact⟨rfl,rfl⟩
 | some a=>
  obtain⟨ab,q,t⟩:=a
  go_wp2_with (at_builtin;refine Lib.wpList_append_run _ rfl _ _ _ _ rfl _ _ rfl rfl _ _ g ?_)
  all_goals (go_ret;exact⟨rfl,rfl⟩)
theorem RR (b off n c i g h j:Nat) (J K:aD) (w q hM:aT) (t ef:aF) (mH o:Nat) (W:i<n) (Y:n+1<=c) (Q:n<=4611686018427387904) (I:g≠b)
  (G:w.shape? g=some (t,mH)) (H:w.shape? b=some (ef,o)) (C:o≠0) (z:w.frozen? ⟨g,h,none⟩=false) (B:w.frozen? ⟨g,mH,none⟩=false)
  (u:(Builtin.copy_ #[68,68] 3 #[.slice (some ⟨b,off+(i+1)*11,none⟩) (n - i) (c - (i+1)),.slice (some ⟨b,off+i*11,none⟩) (n+1 - i) (c - i)]).run prog w.drew=.ok J q)
  (v:(Builtin.copy_ #[68,68] 3 #[.slice (some ⟨b,off+i*11,none⟩) (n+1 - i) (c - i),.slice (some ⟨g,h,none⟩) 1 j]).run prog q=.ok K hM) :
  Calls prog 159 #[.slice (some ⟨b,off,none⟩) n c,.int .i64 i,.slice (some ⟨g,h,none⟩) 1 j] w fun e w2=>e=.returned (.slice (some ⟨b,off,none⟩) (n+1) c)/\w2=hM:=by
 have O:=Tryz.underlying68;have P:∀ w,(Go.sizeOf 55).run prog w=.ok 11 w:=fun w=>eB bp
 have aj:=checked.mixed;have D:∀ p m,(callFunc 211 #[.slice (some ⟨g,h,none⟩) 1 j,.slice (some ⟨b,off+(i+1)*11,none⟩) p m]).run prog w=.ok (.value (.bool false)) w:=fun p m=>by
  rw[run_callFunc_extern func211 bp bp bp (e:=Extern.SlicesOverlaps.overlaps #[68,68] #[4]) bp,
   Lib.run_overlaps_apart w 68 4 55 O 11 P ⟨g,h,none⟩ ⟨b,off+(i+1)*11,none⟩ 1 j p m I t ef mH o G H C z B]
  rfl
 have ai:¬ ((i:Int)=(n:Int)):=F;have ag:IntKind.i64.wrap ((i:Int)+1)=(i:Int)+1:=by rw[IntKind.wrap_i64];omega
 have ah:IntKind.i64.wrap ((n:Int)+1)=(n:Int)+1:=by rw[IntKind.wrap_i64];omega
 have R:(0:Int)<=(i:Int)+1:=F;have X:i<=n:=F;have ad:((i:Int)+1).toNat=i+1:=F;have S:¬ (c=i+1):=F;have T:(i:Int)<=(n:Int)+1:=F;have U:¬ (c=i):=F;have V:¬ ((c:Int)<(n:Int)+1):=F
 go_enter func159,Tryz.ntmps159
 go_wp2_with (simp only[D])
 go_region_law_o (refine step_copy_runI rfl _ _ 68 68 rfl _ _ (by simp[Act.eval,Act.put]) (by simp[Act.eval,Act.put]) u ?_)
 go_wp2_with (at_builtin;refine wpList_copy_runI _ rfl _ _ 68 68 rfl _ _ rfl rfl v ?_)
 go_ret
 exact⟨rfl,rfl⟩
theorem RN (b off n c i j o m N G:Nat) (u v:aD) (w g h hM:aT) (O:i<n) (Q:n<=c) (R:c<n+1) (B:n+1<=G) (z:n<=4611686018427387904)
  (p:(Builtin.append_ #[68,3] 68 #[.slice (some ⟨b,off,none⟩) i c,.int .i64 ((n:Int)+1 - (i:Int))]).run prog w=.ok (.slice (some ⟨N,0,none⟩) (n+1) G) g)
  (q:(Builtin.copy_ #[68,68] 3 #[.slice (some ⟨N,i*11,none⟩) (n+1 - i) (G - i),.slice (some ⟨j,o,none⟩) 1 m]).run prog g=.ok u h)
  (t:(Builtin.copy_ #[68,68] 3 #[.slice (some ⟨N,(i+1)*11,none⟩) (n - i) (G - (i+1)),.slice (some ⟨b,off+i*11,none⟩) (n - i) (c - i)]).run prog h.drew=.ok v hM) :
  Calls prog 159 #[.slice (some ⟨b,off,none⟩) n c,.int .i64 i,.slice (some ⟨j,o,none⟩) 1 m] w fun e w2=>e=.returned (.slice (some ⟨N,0,none⟩) (n+1) G)/\w2=hM:=by
 have ad:=Tryz.underlying68;have ag:∀ w,(Go.sizeOf 55).run prog w=.ok 11 w:=fun w=>eB bp
 have Y:=checked.mixed;have W:¬ ((i:Int)=(n:Int)):=F;have T:IntKind.i64.wrap ((i:Int)+1)=(i:Int)+1:=by rw[IntKind.wrap_i64];omega
 have U:IntKind.i64.wrap ((n:Int)+1)=(n:Int)+1:=by rw[IntKind.wrap_i64];omega
 have V:IntKind.i64.wrap ((n:Int)+1 - (i:Int))=(n:Int)+1 - (i:Int):=by rw[IntKind.wrap_i64];omega
 have H:(0:Int)<=(i:Int)+1:=F;have P:i<=n:=F;have S:((i:Int)+1).toNat=i+1:=F;have C:¬ (G=i):=F;have D:¬ (G=i+1):=F;have K:¬ (c=i):=F;have X:(c:Int)<(n:Int)+1:=F;have I:(i:Int)<=(n:Int):=F;have J:(i:Int)<=(c:Int):=F
 go_enter func159,Tryz.ntmps159
 go_wp2_with (first
  | (at_builtin;refine Lib.wpList_append_run _ rfl _ _ _ _ rfl _ _ rfl rfl _ _ p ?_)
  | (at_builtin;refine wpList_copy_runI _ rfl _ _ 68 68 rfl _ _ rfl rfl q ?_))
 go_region_law_o (refine step_copy_runI rfl _ _ 68 68 rfl _ _ (by simp[Act.eval,Act.put]) (by simp[Act.eval,Act.put]) t ?_)
 go_wp2
 go_ret
 exact⟨rfl,rfl⟩
theorem H7:qi prog 159 68 3 55 11:=
 ⟨Tryz.underlying68,Tryz.underlying3,RL,RR,RN⟩
theorem RG {G:Nat->U} (args:ag) (h:aM) (r:U) (h' : aM) (g:tO 11 112 args h=some (r,h')) :jR prog G 159 args h r h':=
 H6 H7 bp bp bp F F bp args h r h' g
def Cr (f:cj) :Option (Nat × Nat):=match Nat.beq f 158 with | true=>some (32,32) | false=>match Nat.beq f 159 with | true=>some (11,112) | false=>none
theorem RE (f:cj) (z by_:Nat) (h:Cr f=some (z,by_)) (args:ag) (g:aM) (r:U) (yN:aM) (o:tO z by_ args g=some (r,yN)) :jR prog GS f args g r yN:=by
 unfold Cr at h;split at h
 ·rename_i j;have m:=mo j;subst m;cases h;exact RF args g r yN o
 split at h
 ·rename_i j;have m:=mo j;subst m;cases h;exact RG args g r yN o
 cases h
instance aap:Fz prog GS:=⟨Cr,RE⟩
end Go.bl
namespace Go.bl
open Go Go.Proofs Go.Proofs.Tryz
namespace Op
open cu
def e1 (s:cn) (x:List B) :aV:=dq s.ai.l (num x s.ai.l.length)
theorem zy {s:cn} (h:e4 s) (x:List B) :s.ai.l[num x s.ai.l.length]?=some (e1 s x)/\e1 s x∈s.ai.l/\num x s.ai.l.length<s.ai.l.length:=by
 have j:num x s.ai.l.length<s.ai.l.length:=by unfold num;exact mq _ (by have:=h.gP;omega)
 obtain⟨p,g,m⟩:=aP j;have:e1 s x=p:=dr g;rw[this];exact⟨g,m,j⟩
theorem Uv {s:cn} (h:e4 s) (x:List B) :x∈(e1 s x).idsZ.l<->x∈(bR (bH s)).idsZ.l:=by have W:=rj h;obtain⟨h1,p,z⟩:=zy h x;refine⟨Dm h p,fun o=>?_⟩;rw[o2] at o;obtain⟨q,u,rfl⟩:=cC.1 o;obtain⟨C,t,a,m,w⟩:=(nW W q).1 u;obtain⟨v,g⟩:=cq.1 t;have j:=h.al;unfold kN at j;rw[bI] at j;have:=j v (aK.1 g).1 q.1 (by rw[dr g];exact cJ m);rw[<-this] at g;rw[h1] at g;obtain rfl:=cd g;exact cJ m
theorem K0 (s:cn) (P:gR s) (h:e4 s) (x:List B) (m:x.length=32) :
  aW 155 [.af (bN s),.af (am x)] (.a1 [.i6 (num x s.ai.l.length:Nat),.i6 (dU (e1 s x).idsZ.l x:Nat),.bool (decide (x∈(bR (bH s)).idsZ.l))]):=by
 apply a8 func155 [];have W:=rj h;obtain⟨h1,q,Q⟩:=zy h x;have p:=br m;have o:=cG x;have g:=I1 x m s.ai.l.length h.gP (by have:=h.qQ;omega);have z:=(P.ai _ q).1;have j:=z8 (e1 s x).idsZ z.idsZ z.li x m (W.b8 _ q);have J:=Uv h x;have I:decide (x∈(e1 s x).idsZ.l)=decide (x∈(bR (bH s)).idsZ.l):=by rw[decide_eq_decide];exact J
 rw[I] at j;have w:=l2 h1;have K:=nB s.ai;have H:=bM (e1 s x).idsZ;have R:(bN s)[0]?=some (dp s.ai):=rfl;have u:(bN s).length=3:=rfl;have t:∀ h,(bN s)[0]'h=dp s.ai:=fun _=>rfl
 have C:∀ h,(bf (e1 s x))[0]'h=ah (e1 s x).idsZ:=fun _=>rfl
 have S:(bf (e1 s x))[0]?=some (ah (e1 s x).idsZ):=rfl;have D:(bf (e1 s x)).length=2:=rfl;obtain⟨X,G⟩:=al (am x);rw[<-G] at p o g j ⊢;have v:X.take 32=X:=aH F;obtain⟨T,O⟩:=al (((num x s.ai.l.length:Nat) :Int) :Int);rw[<-O] at g w ⊢;simp[p,v,u,t,K];refine au g (by simp[aq,U.ar,o]) ?_;simp[p,v,u,t,w,D,C];refine au j (by simp[aq,U.ar,o,H]) ?_;simp;exact aL
theorem Ww (s:cn) (o:gR s) (h:e4 s) :aW 154 [.af (bN s)] (.i6 0):=by apply a8 func154 [];have p:(bN s).length=3:=rfl;have m:(bN s).take 3=bN s:=rfl;have j:=oq s;have g:=Mn s o;rw[ES h] at g;unfold cD bf at g;have q:=gB (bR (bH s)).idsZ;have t:=pk (bR (bH s)).opsZ;simp[p,m];refine au g (by simp[aq,U.ar,j]) ?_;simp[aw];exact aL
theorem NZ (s:cn) (G:gR s) (h:e4 s) {l:ad} {b:Nat} (g:l[b]?=some (.q 3 (bN s))) (xs:aQ) (I:∀ p∈xs,p.length=32) :
  td 156 [.ptr b 0 3] l xs (fun p=>!decide (p∈(bR (bH s)).idsZ.l)):=by
 intro p C m z J t;apply c0 func156 [];have j:=I p C;have F:=br j;have D:=cG p;have H:(bN s).length=3:=rfl;have v:(bN s).take 3=bN s:=rfl;have u:=oq s;have q1:m[b]?=some (.q 3 (bN s)):=by rw[z.2 _ (aX g)];exact g
 have o:∀ c:ao,(m++[c])[b]?=some (.q 3 (bN s)):=fun c=>by rw[aU (aX q1)];exact q1
 have B:=K0 s G h p j;simp[o,F,H,v,aH];refine au B (by simp[aq,U.ar,u,D]) ?_;simp;exact t _ ⟨V,fun b w=>aU w⟩
theorem UI (o:aJ) (m:dm o) {l:ad} {b j:Nat} (g:l[b]?=some (.q 11 (av o))) (G:b≠j) (xs:aQ) (O:∀ p∈xs,p.length=32) :
  vg 160 [.ptr b 0 11] j l xs (fun p=>decide (p∈o.ax.l)):=by
 intro p I u D P z;apply c0 func160 [];have t:=O p I;have K:=br t;have J:=cG p;have H:(av o).length=11:=rfl;have Q:(av o)[1]?=some (ah o.ax):=rfl;have w:∀ h,(av o)[1]'h=ah o.ax:=fun _=>rfl
 have C:=bM o.ax;have q1:u[b]?=some (.q 11 (av o)):=by rw[D.same _ (aX g) G];exact g
 have v:∀ c:ao,(u++[c])[b]?=some (.q 11 (av o)):=fun c=>by rw[aU (aX q1)];exact q1
 have F:=pZ o.ax m.idsZ m.len p t;simp[v,K,H,w,aH];refine au F (by simp[aq,U.ar,C,J]) ?_;simp;exact z _ V fun b B=>aU B
theorem Pf (s:b2) (p:c6 s) (m:s.l.length<=1000000) {l:ad} {K:cA} (j:s=none->K .ae l)
  (h1:∀ a,s=some a->K (.Z 32 l.length 0 a.length a.length (a.length*32)) (l++[.q (a.length*32) (a.map am).flatten])) :
  cM 80 [ah s] l K:=by
 apply c0 func80 [];have o:=ds;have h:eb prog .eql 23 (ah s) .ae=some (.bool s.isNone):=vz (e:=57) bp 32 am s;cases s with
 | none=>
  simp[h];exact j rfl
 | some a=>
  have u:∀ y∈a,(am y).length=32:=fun y t=>br (p y t)
  have v:a.length<=1000000:=m;have g:=x5 (enc:=am) (z:=32) (by_:=32) (l++[ao.q 0 []]) l.length V (some a) u F F (by show a.length*32<=_;rw[o];omega);change ea _ _ _ _ (ah (some a))=_ at g;simp at g;simp[h,g];refine bP.bm ?_;simp;exact h1 a rfl
def eX {alZ:Type} (z:Nat) (enc:alZ->ag) (l:ad) (n:Nat) (w:U) (s:bX alZ) :Prop:=
 (s=none/\w=.ae)\/∃ b,n<=b/\s.isNone=false/\w=.Z z b 0 s.l.length s.l.length (s.l.length*z)/\l[b]?=some (.q (s.l.length*z) (s.l.map enc).flatten)
def FQ (v w:U) :Prop:=∀ p b n h s q g m j o,v=.Z p b 0 n h s->w=.Z q g 0 m j o->b≠g
theorem eX.frame {alZ:Type} {z:Nat} {enc:alZ->ag} {l l' : ad} {n:Nat} {w:U} {s:bX alZ} (h:eX z enc l n w s) (o:∀ b,n<=b->b<l.length->l'[b]?=l[b]?) :eX z enc l' n w s:=by
 rcases h with h | ⟨b,h1,j,m,g⟩
 ·exact .inl h
 ·exact .inr ⟨b,h1,j,m,by rw[o b h1 (aX g)];exact g⟩
theorem eX.mono {alZ:Type} {z:Nat} {enc:alZ->ag} {l:ad} {n m:Nat} {w:U} {s:bX alZ} (h:eX z enc l n w s) (p:m<=n) :eX z enc l m w s:=by
 rcases h with h | ⟨b,h1,g,j,o⟩
 ·exact .inl h
 ·exact .inr ⟨b,F,g,j,o⟩
theorem BC (s:b2) (p:c6 s) (o:s.l.length<=1000000) {l:ad} {K:cA} (m:∀ w j,w.cells=some [w]->eX 32 am (l++j) l.length w s->K w (l++j)) :
  cM 80 [ah s] l K:=
 Pf s p o (fun h=>by simpa using m .ae [] rfl (.inl ⟨h,rfl⟩)) fun a g=>m _ [_] rfl (.inr ⟨l.length,aN _,by rw[g];rfl,by rw[g];rfl,by rw[g];simp⟩)
theorem BD (s:bX aJ) (o:s.l.length<=1000000) {l:ad} {K:cA} (m:∀ w j,w.cells=some [w]->eX 11 av (l++j) l.length w s->K w (l++j)) :
  cM 143 [bB s] l K:=
 Gw s o (fun h=>by simpa using m .ae [] rfl (.inl ⟨h,rfl⟩)) fun a g=>m _ [_] rfl (.inr ⟨l.length,aN _,by rw[g];rfl,by rw[g];rfl,by rw[g];simp⟩)
theorem uB {l:ad} {b:Nat} {c:ao} (h:l[b]?=some c) :l.set b c=l:=by
 apply g3;intro g;by_cases e:b=g
 ·subst e;rw[bV (aX h),h]
 ·rw[bg e]
theorem eX.bz {alZ:Type} {z:Nat} {enc:alZ->ag} {l:ad} {n:Nat} {w:U} {s:bX alZ} (h:eX z enc l n w s) :bz (.Z z) w=some (.i6 s.l.length):=by
 rcases h with ⟨rfl,rfl⟩ | ⟨b,_,_,rfl,_⟩
 ·rfl
 ·simp[Go.bl.bz]
theorem Xt (g:aV) (w:eT g) {l:ad} {K:cA} (ak:∀ h w2 l',h2 l l'->eX 32 am l' l.length h g.idsZ->eX 11 av l' l.length w2 g.opsZ->FQ h w2->h.cells=some [h]->w2.cells=some [w2]->K (.af [h,w2]) l') :
  cM 157 [cD g] l K:=by
 apply c0 func157 [[[0],[1],[3],[4],[7],[2,7,4],[5,7],[6]],cR 0 9++[[9,1]]];simp[cD,bf];refine BC g.idsZ w.idsZ w.li fun h p X ag=>?_
 simp;refine BD g.opsZ w.ji fun w2 J Y H=>?_
 have aB:=H.bz;have a0:=w.ji;simp[X,Y,aw,aB];obtain⟨L,o⟩:=al (l++ao.q 2 [ah g.idsZ,bB g.opsZ] ::ao.q 2 [.ae,.ae] ::ao.q 2 [h,w2] ::(p++J));have q1:L[l.length+1]?=some (.q 2 [.ae,.ae]):=by rw[o];simp
 have I:L[l.length+2]?=some (.q 2 [h,w2]):=by rw[o];simp
 have T:h2 l L:=by rw[o];exact⟨V,fun b v=>aU v⟩
 have aK:eX 32 am L (l.length+3) h g.idsZ:=by
  refine (eX.frame (l':=L) ag fun b h1 C=>?_).mono V;rw[o];have aW:l.length+3<=b:=by simpa using h1
  have aY:b<l.length+3+p.length:=by simp at C;omega
  obtain⟨m,a5⟩:=al (b - l.length - 3);have aH:b - l.length=m+3:=F;have aI:b - (l++[ao.q 2 [ah g.idsZ,bB g.opsZ],ao.q 2 [.ae,.ae],ao.q 2 [.ae,.ae]]).length=m:=by simp;omega
  rw[eu F,eu (by simpa using h1),aH,aI];simp only[jr];rw[aU F]
 have aZ:L.length=l.length+3+p.length+J.length:=by rw[o];simp;omega
 have ai:eX 11 av L (l.length+3+p.length) w2 g.opsZ:=by
  refine (eX.frame (l':=L) H fun b h1 C=>?_).mono (by simp;omega);rw[o];simp at h1 C;rw[eu F,eu (by simp;omega)];simp;have e:b - l.length=(b - (l.length+(p.length+3)))+p.length+3:=F;rw[e];simp only[jr];rw[eu F];congr 1;omega
 refine bx g.opsZ.l.length (fun k u B=>B=L/\u 2=.ptr (l.length+1) 0 2/\u 3=.ptr (l.length+2) 0 2/\u 14=.i6 g.opsZ.l.length/\u 15=.i6 k) ?_ ⟨by rw[o],V,V,V,V⟩;rintro k u B hk ⟨rfl,R,S,P,Q⟩;obtain⟨u,rfl⟩:=eO R S P Q;clear R S P Q;have z:=cf (k:=k) F;by_cases t:k<g.opsZ.l.length
 ·obtain⟨j,aD,aE⟩:=aP t;rcases ai with ⟨aC,_⟩ | ⟨b,a2,a3,rfl,D⟩
  ·rw[aC] at t;simp at t
  ·have U:=w.opsZ j aE;have ar:=bM j.ax;have ap:=l3 j.ax U.idsZ U.len;have W:∀ e∈g.opsZ.l.map av,e.length=11:=fun e ay=>by obtain⟨y,_,rfl⟩:=cC.1 ay;rfl
   have G:(g.opsZ.l.map av)[k]?=some (av j):=by rw[b1,aD];rfl
   have az:(g.opsZ.l.map av).flatten[k*11+1]?=some (ah j.ax):=ll W G F;have aF:aw (g.opsZ.l.map av).flatten (k*11+1) [ah j.ax]=(g.opsZ.l.map av).flatten:=by
    rw[pt W G (show 1+[ah j.ax].length<=11 by simp),wQ j];congr 1;exact g3 fun aJ=>by
     by_cases e:k=aJ
     ·subst e;rw[bV (by simpa using t),G]
     ·rw[bg e]
   have mp:=gB j.ax;have a4:=vX g.opsZ.l;have aG:=uB D;simp[t,I,az,D];refine au ap (by simp[aq,ar]) ?_;simp[t,I,D,aF,mp,z,aG];omega
 ·have aA:k=g.opsZ.l.length:=F;subst aA;have aM:l.length+1<B.length:=aX q1;have aL:(B.set (l.length+1) (ao.q 2 [h,w2]))[l.length+1]?=some (.q 2 [h,w2]):=bV aM;simp[q1,I,aw,aL];refine ak h w2 _ ⟨by simpa using T.1,fun b v=>?_⟩ ((aK.frame fun b v _=>bg F).mono F) ((ai.frame fun b v _=>bg F).mono F) (fun a9 b n m s bb aS a7 a6 a8 z O=>?_) X Y
  ·rw[bg F];exact T.2 b v
  ·rcases ag with ⟨_,rfl⟩ | ⟨c,aT,_,rfl,aj⟩
   ·cases z
   ·rcases H with ⟨_,rfl⟩ | ⟨d,d1,_,rfl,d4⟩
    ·cases O
    ·have aO:=aX aj;injection z with _ aQ
     injection O with _ aR
     subst aQ aR;simp at aO d1;omega
end Op
namespace Op
section
variable {alZ:Type} {enc:alZ->ag} {z:Nat}
theorem RJ {P:bq} {G:Nat->U} {f u I e by_:Nat} (L:qi P f u I e z) (X:gj P u=some e) (ay:b9 P e=some z) (ai:gM P e=some by_) (S:0<z) (Y:0<by_) (az:mm P e=some z)
  {l:ad} {b bv n cap i:Nat} {a:List alZ} {x:alZ} (j:∀ y∈a,(enc y).length=z) (H:(enc x).length=z) (h:aE z l (.Z z b 0 n cap (cap*z)) b (a.map enc)) (ah:l[bv]?=some (.q z (enc x))) (au:bv≠b) (p:i<=n) (aw:(n+1)*by_<=dk)
  {K:cA} (W:∀ l',l'.length=l.length+1->(∀ c,c<l.length->c≠b->l'[c]?=l[c]?)->aE z l' (.Z z l.length 0 (n+1) (max cap (n+1)) (max cap (n+1)*z)) l.length ((cW a i x).map enc)->
   K (.Z z l.length 0 (n+1) (max cap (n+1)) (max cap (n+1)*z)) l') :
  fS P G f [.Z z b 0 n cap (cap*z),.i6 i,.Z z bv 0 1 1 z] l (c:=⟨K⟩):=by
 generalize F:U.Z z b 0 n cap (cap*z)=w at h;generalize o:a.map enc=R at h;cases h with
 | nil=>cases F
 | Z aM aO aD aP cs R v ap ar aL B aJ al=>
  injection F with aF aG aI J O Q
  subst J O Q o;have ag:=aX v;have m:a.length=n:=by simpa using ar
  have D:=Ia (P:=P) (G:=G) (h:=aZ l) L X ay ai S Y az (b:=b) (bv:=bv) (len:=n) (cap:=cap) (i:=i) (hK.2 v) (hK.2 ah) au p B aw;rw[Bd,mu _ ag,lN] at D;refine⟨_,_,.ext D,V,?_⟩;have aq:n+1<=max cap (n+1):=Nat.le_max_right _ _;have T:cs.take (n*z)=(a.map enc).flatten:=al;have aK:n*z<=cap*z:=ck _ B;have am:i*z<=n*z:=ck _ p;have ax:(n - i)*z=n*z - i*z:=Nat.mul_sub_right_distrib _ _ _;have C:ip z cs (enc x) i n=((cW a i x).map enc).flatten++cs.drop ((n+1)*z):=by
   rw[<-RH j m p x,<-T];unfold ip;have aA:(cs.take (n*z)).take (i*z)=cs.take (i*z):=by rw[lK,i7 am]
   have aB:((cs.take (n*z)).drop (i*z)).take ((n - i)*z)=(cs.drop (i*z)).take ((n - i)*z):=by
    rw[p9,lK,ax,Nat.min_self]
   have aC:(cs.take (n*z)).drop ((n+1)*z)=[]:=p8 (by rw[cL,eP];omega);rw[aA,aB,aC,eK]
  have t:((cW a i x).map enc).flatten.length=(n+1)*z:=by
   rw[yF,h8,m];intro y g;rcases jA.1 g with rfl | g
   ·exact H
   ·exact j y g
  have av:(ip z cs (enc x) i n).length=max cap (n+1)*z:=by
   rw[C,cF,t,i2,ap];rcases Nat.le_total cap (n+1) with h | h
   ·rw[A8 h];have:=ck z h;omega
   ·rw[A7 h];have:=ck z h;omega
  refine W _ V (fun c aj ak=>by rw[aU (by simpa using aj),bg (fun e=>ak e.symm)]) ?_;refine .Z l.length (n+1) (max cap (n+1)) (max cap (n+1)*z) (ip z cs (enc x) i n) _ ?_ av (by simp[h8,m]) (fun e o=>?_) aq (aN _) ?_
  ·rw[show l.length=(l.set b ao.dead).length by simp,nZ]
  ·obtain⟨y,g,rfl⟩:=cC.1 o;rcases jA.1 g with rfl | g
   ·exact H
   ·exact j y g
  ·rw[C,ik (by rw[t];exact aN _),aH (by rw[t];exact aN _)]
def xV (z:Nat) (l:ad) (w:U) (a:List (ag)) :Prop:=(a=[]/\w=.ae)\/∃ b n cap,w=.Z z b 0 n cap (cap*z)/\aE z l w b a
theorem Ct {f p Q e by_:Nat} (L:qi prog f p Q e z) (v:gj prog p=some e) (J:b9 prog e=some z) (D:gM prog e=some by_) (t:0<z) (B:0<by_) (O:mm prog e=some z)
  {l:ad} {bv i:Nat} {a:List alZ} {x:alZ} {w:U} (R:∀ y∈a,(enc y).length=z) (I:(enc x).length=z) (h:xV z l w (a.map enc)) (C:l[bv]?=some (.q z (enc x))) (ag:∀ b n cap s,w=.Z z b 0 n cap s->bv≠b) (X:i<=a.length) (H:(a.length+1)*by_<=dk)
  {K:cA} (u:∀ l',l.length<=l'.length->(∀ c,c<l.length->(∀ b n cap s,w=.Z z b 0 n cap s->c≠b)->l'[c]?=l[c]?)->K (.bu z ((cW a i x).map enc)) l') :
  cM f [w,.i6 i,.Z z bv 0 1 1 z] l K:=by
 refine Gp checked.mixed eG ?_;rcases h with ⟨h1,rfl⟩ | ⟨b,n,cap,rfl,h⟩
 ·have S:a=[]:=by simpa using h1
  subst S;have Y:i=0:=by simpa using X
  subst Y;have e:(cW ([] :List alZ) 0 x).map enc=[enc x]:=rfl;refine RP (P:=prog) (G:=GS) L v J D t B O C (by simpa using H) ?_;have ah:aE z (l++[.q z (enc x)]) (.Z z l.length 0 1 1 z) l.length ((cW ([] :List alZ) 0 x).map enc):=by
   have:=lv (enc:=enc) (z:=z) (l:=l++[.q z (enc x)]) (b:=l.length) (n:=1) (a:=cW ([] :List alZ) 0 x) (fun y j=>by
    rcases jA.1 j with rfl | j
    ·exact I
    ·cases j) rfl (by rw[nZ];simp[cW])
   simpa using this
  obtain⟨m,o⟩:=uk ah rfl;exact⟨_,_,m,o,V,u _ V fun c g _=>by rw[bg F,aU g]⟩
 ·have T:a.length=n:=by
   have:=h.len;simp[bz] at this;omega
  refine RJ L v J D t B O R I h C (ag b n cap _ rfl) F (by rw[<-T];exact H) fun l' q1 ai aj=>?_
  obtain⟨m,o⟩:=uk aj rfl;exact⟨_,_,m,o,by simp;omega,u _ (by simp;omega) fun c g W=>by rw[bg F];exact ai c g (W b n cap _ rfl)⟩
theorem eX.c {l:ad} {n:Nat} {w:U} {s:bX alZ} (h:eX z enc l n w s) (j:∀ y∈s.l,(enc y).length=z) :xV z l w (s.l.map enc):=by
 rcases h with ⟨rfl,rfl⟩ | ⟨b,h1,m,rfl,g⟩
 ·exact .inl ⟨rfl,rfl⟩
 ·exact .inr ⟨b,_,_,rfl,lv j rfl g⟩
end
end Op
end Go.bl

/-
  The graph of an index, in the program, walked.
-/
import Derived.Test.YtdjbnhgdhambnaaGreatDoorVj
import Derived.Shelf.Spec.SlicesInsertGrow
set_option maxHeartbeats 16000000
set_option maxRecDepth 100000
set_option linter.unusedVariables false
set_option linter.unusedSimpArgs false
set_option linter.unnecessarySimpa false
namespace Go.bh
open Go Go.Proofs Go.Proofs.Tryz
namespace Op
open cl
theorem HC (a b:b2) (C:c5 a) (D:c5 b) (ai:a.l.length<=1000000) :aU 67 [ah a,ah b] (.bool (decide (a.l=b.l))):=by
 apply a2 func67 [];have I:bD (.Z 32) (ah a)=_:=b9 _;have J:bD (.Z 32) (ah b)=_:=b9 _;by_cases h1:a.l.length=b.l.length
 ·have B:((a.l.length:Int)=b.l.length):=F;simp[I,J,h1];refine bB a.l.length (fun k j l=>j 0=ah a/\j 1=ah b/\j 12=.i6 a.l.length/\j 13=.i6 k/\∀ g,g<k->a.l[g]?=b.l[g]?) ?_ (by simp[h1]);rintro k j l hk ⟨u,v,w,z,K⟩;obtain⟨j,rfl⟩:=eO u v w z;clear u v w z;simp;refine fk (fun h=>?_) (fun h=>?_)
  ·simp only[bK] at h;obtain⟨x,o,P⟩:=aQ h;obtain⟨y,t,R⟩:=aQ (l:=b.l) (k:=k) F;have S:=ci (k:=k) F;have G:bQ (.Z 32) (ah a) _=_:=c8 o;have H:bQ (.Z 32) (ah b) _=_:=c8 t;have O:=bo (C x P);have Q:=bo (D y R);have q:=oN (C x P) (D y R);obtain⟨Y,T⟩:=al (ao x);obtain⟨ae,V⟩:=al (ao y);rw[<-T] at G O q;rw[<-V] at H Q q;simp[G,H,O,Q,aI,q];by_cases m:x=y
   ·simp[m,S];refine⟨F,fun g W=>?_⟩;by_cases X:g=k
    ·subst X;rw[o,t,m]
    ·exact K g F
   ·simp[m];refine aP (ch U.bool (cu fun p=>m ?_).symm) rfl;rw[p,t] at o;exact (cc o).symm
  ·simp[h];have ag:k=a.l.length:=by simp at h;omega
   refine aP (ch U.bool (b7 ?_).symm) rfl;apply g1;intro g;by_cases W:g<a.l.length
   ·exact K g F
   ·rw[dW F,dW F]
 ·have B:¬ ((a.l.length:Int)=b.l.length):=F;simp[I,J,B];exact aP (by rw[cu (fun p=>h1 (by rw[p]))]) rfl
structure e1 (s:cf) :Prop where
 gN:1<=s.aj.l.length
 q3:s.aj.l.length<=4
 al:kQ s.aj.l=true
 wf:n5 s.aj.l=true
 kB:eT (bL (bC s))=0
 jS:s.bN=((bC s).length:Int)
 tV:eU (bL (bC s))=s.bI.l
noncomputable def qg (s:cf) :Bool:=@decide (e1 s) (Classical.propDecidable _)
theorem Zh {s:cf} (h:e1 s) :qg s=true:=@decide_eq_true _ (Classical.propDecidable _) h
theorem Zg {s:cf} (h:¬ e1 s) :qg s=false:=@decide_eq_false _ (Classical.propDecidable _) h
noncomputable def qh (s:cf) :U:=.aX [cr (if qg s=true then bL (bC s) else ⟨none,none⟩),.i6 (if qg s=true then 0 else 8)]
theorem rx {s:cf} (h:¬ e1 s) :qh s=.aX [.af [.ad,.ad],.i6 8]:=by unfold qh;rw[Zg h];rfl
theorem Ff {s:cf} (h:e1 s) :qh s=.aX [cr (bL (bC s)),.i6 0]:=by unfold qh;rw[Zh h];rfl
theorem wj (l:List (List B × aK)) :(bL l).idsZ.l.length=l.length:=by unfold bL;simp only[dh];rw[ce]
theorem MJ (s:cf) (I:gH s) :aU 207 [.af (bG s)] (qh s):=by
 apply a2 func207 [];have ai:=nM s.aj;have bw:=I.ka;have C:(bG s).length=3:=rfl;have a7:(bG s).take 3=bG s:=rfl;have X:∀ h,(bG s)[0]'h=dn s.aj:=fun _=>rfl
 have bs:(bG s)[1]?=some (ah s.bI):=rfl;have bt:(bG s)[2]?=some (.i6 s.bN):=rfl;have a0:∀ h,(bG s)[1]'h=ah s.bI:=fun _=>rfl
 have aI:∀ h,(bG s)[2]'h=.i6 s.bN:=fun _=>rfl
 have a6:=mG s;by_cases h1:1<=s.aj.l.length
 ·by_cases aH:s.aj.l.length<=4
  ·have J:¬ (s.aj.l.length:Int)<1:=F;have ax:¬ (4:Int)<(s.aj.l.length:Int):=F;simp[C,X,ai,av,J,ax];refine bB s.aj.l.length (fun i v l=>v 1=.ptr 0 0 3/\v 2=.ptr 1 0 2/\v 4=.ptr 2 0 1/\v 22=dn s.aj/\v 23=.i6 s.aj.l.length/\v 24=.i6 i/\l[0]?=some (.q 3 (bG s))/\l[1]?=some (.q 2 [.ad,.ad])/\l[2]?=some (.q 1 [.i6 s.aj.l.length])/\∀ (t:Nat) (p:aW),t<i->s.aj.l[t]?=some p->∀ x∈p.idsZ.l,num x s.aj.l.length=t) ?_ ⟨V,V,V,V,V,V,rfl,rfl,rfl,fun t _ S=>F⟩;rintro i v l bd ⟨aA,aB,aG,aC,aD,aE,K,q1,O,ag⟩;obtain⟨v,rfl⟩:=n4 aA aB aG aC aD aE;clear aA aB aG aC aD aE;have az:=ci (k:=i) F;by_cases H:i<s.aj.l.length
   ·obtain⟨p,D,bj⟩:=aQ H;obtain⟨ap,bx,bz⟩:=I.aj p bj;have bf:=l3 D;have a3:∀ h,(bb p)[0]'h=ah p.idsZ:=fun _=>rfl
    have a4:(bb p).length=2:=rfl;have a5:(bb p).take 2=bb p:=rfl;have bk:av [U.ad,.ad] 0 (bb p)=bb p:=cD rfl;have bv:=a1 O;obtain⟨L,P⟩:=al (l++[aq.q 1 [.i6 (i:Int)],aq.q 2 (bb p)]);have u:∀ (k:Nat) (c:aq),l[k]?=some c->L[k]?=some c:=fun k c h=>by rw[P,aV (a1 h)];exact h
    have bq:L[l.length]?=some (.q 1 [.i6 (i:Int)]):=by rw[P];simp
    have wp:L[l.length+1]?=some (.q 2 (bb p)):=by rw[P];simp
    have bc:=UK s.aj.l.length i h1 F (u 2 _ O) bq p.idsZ.l ap.idsZ;simp[H,bf,a4,a5,bk,<-P,wp,a3];refine yz p.idsZ ap.idsZ ap.li bn bc fun aY ae=>?_
    have aZ:=ae.2 1 (a1 (u 1 _ q1));cases aJ:p.idsZ.l.any fun x=>!decide (num x s.aj.l.length=i) with
    | true=>
     obtain⟨x,m,aT⟩:=s8.1 aJ;have o:¬ e1 s:=fun h=>by
      have ao:=h.al;unfold kQ at ao;rw[bK] at ao;have:=ao i H x (by rw[dq D];exact m);rw[this] at aT;simp at aT
     rw[rx o];have j:aY[1]?=some (.q 2 [.ad,.ad]):=by rw[aZ];exact u 1 _ q1
     have w:∀ c:aq,(aY.set 1 c)[1]?=some c:=fun c=>bY (a1 j)
     simp[j,w,av];exact aF
    | false=>
     simp[az];refine⟨H,?_,?_,?_,fun t q S aw x m=>?_⟩
     ·rw[ae.2 0 (a1 (u 0 _ K))];exact u 0 _ K
     ·rw[aZ];exact u 1 _ q1
     ·rw[ae.2 2 (a1 (u 2 _ O))];exact u 2 _ O
     ·by_cases bh:t=i
      ·subst bh;rw[D] at aw;obtain rfl:=cc aw;have:=Bf.1 aJ x m;simpa using this
      ·exact ag t q F aw x m
   ·have bg:i=s.aj.l.length:=F;subst bg;have aS:kQ s.aj.l=true:=by
     unfold kQ;rw[bK];intro t S x m;obtain⟨p,D,_⟩:=aQ S;exact ag t p S D x (by rw[dq D] at m;exact m)
    have bi:=Ti s I (wT aS);clear ag H bd az;simp[K,C,a7];refine au bi (by simp[am,U.ar,a6]) ?_;have bE:=a1 O;cases W:n5 s.aj.l with
    | false=>
     have o:¬ e1 s:=fun h=>by have:=h.wf;rw[W] at this;cases this
     rw[rx o];unfold sq;rw[W];have j:∀ c:aq,(l++[c])[1]?=some (.q 2 [.ad,.ad]):=fun c=>by rw[aV (a1 q1)];exact q1
     have w:∀ c c' : aq,((l++[c]).set 1 c')[1]?=some c':=fun c c'=>bY (a1 (j c))
     have bo:(ah none).cells=some [ah none]:=rfl;have bp:(bA none).cells=some [bA none]:=rfl;simp[cr,bb,av,j,w];exact aF
    | true=>
     have G:eE (bL (bC s)):=u4 I;have Y:=MF _ G;have R:=Y5 _ G;obtain⟨g,B⟩:=al (bL (bC s));have aO:g.idsZ.l.length=(bC s).length:=by rw[B];exact wj _
     unfold sq;rw[W,ak rfl];rw[<-B] at G Y R ⊢;have j:∀ c:aq,(l++[c])[1]?=some (.q 2 [.ad,.ad]):=fun c=>by rw[aV (a1 q1)];exact q1
     have br:∀ c:aq,(l++[c])[0]?=some (.q 3 (bG s)):=fun c=>by rw[aV (a1 K)];exact K
     have w:∀ c c' : aq,((l++[c]).set 1 c')[1]?=some c':=fun c c'=>bY (a1 (j c))
     have bo:=fi g.idsZ;have bp:=kz g.opsZ;have aK:=bO g.idsZ;have aM:=ip g.opsZ;have aR:bD (.Z 32) (ah g.idsZ)=_:=b9 _;unfold cr bb at Y R;simp[cr,bb,av];refine au Y (by simp[am,U.ar,aK,aM]) ?_;by_cases z:eT g=0
     ·have ay:∀ (c:aq) (h:0<(l++[c]).length),(l++[c])[0]'h=.q 3 (bG s):=fun c h=>(aL.1 (br c)).2
      by_cases T:s.bN=(g.idsZ.l.length:Int)
      ·have bl:ah (rv g)=ah (cK (eU g)):=by unfold rv;rw[ak z]
       have heq:=HC (cK (eU g)) s.bI (fun x m=>by rw[dh] at m;exact G.idsZ x ((dx.1 m).1)) I.bI (by rw[dh];exact dC (g2 _ _) G.li);rw[dh] at heq;have a8:=bO (cK (eU g));have a9:=bO s.bI;rw[bl,z] at R;simp[z,ay,C,aI,aR,T];refine au R (by simp[am,U.ar,aK,aM]) ?_;simp[ay,C,a0];refine au heq (by simp[am,a8,a9]) ?_;by_cases Q:eU g=s.bI.l
       ·have bm:e1 s:=⟨h1,aH,aS,W,by rw[<-B];exact z,by rw[T,aO],by rw[<-B];exact Q⟩
        rw[Ff bm,<-B];simp[Q,j,w,av];exact aP rfl (by simp[U.ar,am];exact jz g)
       ·have o:¬ e1 s:=fun h=>Q (by rw[B];exact h.tV)
        rw[rx o];simp[Q,j,w,av];exact aF
      ·have o:¬ e1 s:=fun h=>T (by rw[h.jS,aO])
       rw[rx o];simp[z,j,w,ay,C,aI,aR,T,av];exact aF
     ·have o:¬ e1 s:=fun h=>z (by rw[B];exact h.kB)
      rw[rx o];simp[z,j,w,av];exact aF
  ·have J:¬ (s.aj.l.length:Int)<1:=F;have ax:(4:Int)<(s.aj.l.length:Int):=F;rw[rx fun h=>aH h.q3];simp[C,X,ai,av,J,ax];exact aF
 ·have J:(s.aj.l.length:Int)<1:=F;rw[rx fun h=>h1 h.gN];simp[C,X,ai,av,J];exact aF
theorem J7 (opsZ:List aK) (i:Nat) :dO (opsZ.map cw) i=dO opsZ i:=by unfold dO;rw[b0];cases opsZ[i]?<;>rfl
theorem MC (o:aK) :eh (cw o)=eh o:=rfl
theorem CM (o:aK) :bf (cw o)=bf o:=rfl
theorem m9 (g:aW) :(cy g).opsZ.l=g.opsZ.l.map cw:=dh _
theorem Pg (idsZ:aR) (opsZ:List aK) (out:List Nat) :mF idsZ (opsZ.map cw) out=mF idsZ opsZ out:=by funext i;unfold mF;rw[J7]
theorem Jq (idsZ:aR) (opsZ:List aK) (out:List Nat) :hT idsZ (opsZ.map cw) out=hT idsZ opsZ out:=by unfold hT;rw[Pg,ce]
theorem JG (idsZ:aR) (opsZ:List aK) :∀ k,eN idsZ (opsZ.map cw) k=eN idsZ opsZ k
 | 0=>rfl
 | k+1=>by
  have g:=JG idsZ opsZ k;cases h:hT idsZ opsZ (eN idsZ opsZ k) with
  | none=>rw[zL h,zL (by rw[g,Jq];exact h),g]
  | some i=>rw[w4 h,w4 (by rw[g,Jq];exact h),g]
theorem Xn (idsZ:aR) (opsZ:List aK) :jN idsZ (opsZ.map cw)=jN idsZ opsZ:=by
 have h1:p2 idsZ (opsZ.map cw)=p2 idsZ opsZ:=by
  unfold p2;rw[decide_eq_decide];constructor
  ·intro h j g;exact h (cw j) (tc g)
  ·intro h j g;obtain⟨p,o,rfl⟩:=cE.1 g;exact h p o
 have m:mc idsZ (opsZ.map cw)=mc idsZ opsZ:=by unfold mc;rw[JG,ce]
 unfold jN;rw[h1,m,ce]
theorem RE (g:aW) (k:Nat) :j7 (cy g) k=j7 g k:=by unfold j7;rw[m9,b0];rw[show (cy g).idsZ.l=g.idsZ.l from rfl];cases g.opsZ.l[k]?<;>cases g.idsZ.l[k]?<;>rfl
theorem Pt (g:aW) :eT (cy g)=eT g:=by
 have h1:sf (cy g)=sf g:=by
  unfold sf;rw[decide_eq_decide,m9,ce];simp only[RE]
 unfold eT;rw[h1,m9,Xn,ce];rfl
theorem Vi (l:List (List B × aK)) :ha (cy (bL l))=l.map fun q=>(q.1,cw q.2):=by
 unfold ha;rw[m9];unfold bL cy;simp only[dh,b1.pT]
 induction l with
 | nil=>rfl
 | cons a l g=>simp only[dg,List.zip_cons_cons,g]
theorem Rq (g:aW) (x:List B) (m:Nat) :lY (cy g) x m=lY g x m:=by
 unfold lY;rw[decide_eq_decide];have h:∀ j,(hU (cy g).opsZ.l j).ax.l=(hU g.opsZ.l j).ax.l:=fun j=>by
  unfold hU;rw[m9,gw,gw,b0];cases g.opsZ.l[j]?<;>rfl
 constructor
 ·intro o j p;rw[<-h];exact o j p
 ·intro o j p;rw[h];exact o j p
theorem y3 (g:aW) :eU (cy g)=eU g:=by
 unfold eU;have h:∀ x,ir (cy g) x=ir g x:=fun x=>by
  show lY (cy g) x (cy g).opsZ.l.length=lY g x g.opsZ.l.length;rw[Rq,m9,ce]
 rw[funext h];rfl
theorem Li (o:aK) :gn o (cw (cw o))=true:=by unfold gn cw;simp[e4,dz,U.beq]
def nW (l:List (List B × aK)) (n k:Nat) :List (List B × aK):=(l.map fun q=>(q.1,cw q.2)).filter fun q=>decide (num q.1 n=k)
theorem U0 (l:List (List B × aK)) (n k:Nat) :hD (cy (bL l)) (j9 (cy (bL l)) n k)=cy (bL (nW l n k)):=by
 unfold hD jI nW;rw[e0,Vi];congr 2;refine Fu fun q g=>?_
 rw[decide_eq_decide];unfold j9;rw[dx,bK];constructor
 ·exact fun h=>h.2
 ·intro h;refine⟨?_,h⟩;show q.1∈(cy (bL l)).idsZ.l;obtain⟨m,j,rfl⟩:=cE.1 g;unfold cy bL;simp only[dh,b1.pT];exact tc j
theorem J4 (l:List (List B × aK)) (n k:Nat) :(hD (cy (bL l)) (j9 (cy (bL l)) n k)).idsZ.l=(nW l n k).map (·.1)/\(hD (cy (bL l)) (j9 (cy (bL l)) n k)).opsZ.l=((nW l n k).map (·.2)).map cw:=by
 rw[U0,m9];refine⟨?_,?_⟩
 ·unfold cy bL;simp only[dh,b1.pT]
 ·unfold bL;simp only[dh]
theorem J5 {l:List (List B × aK)} {n k:Nat} {q:List B × aK}:q∈nW l n k<->∃ g∈l,q=(g.1,cw g.2)/\num q.1 n=k:=by
 unfold nW;rw[dx,cE,bK];constructor
 ·rintro⟨⟨g,h1,rfl⟩,h⟩;exact⟨g,h1,rfl,h⟩
 ·rintro⟨g,h1,rfl,h⟩;exact⟨⟨g,h1,rfl⟩,h⟩
theorem J6 {l:List (List B × aK)} (h:l.Pairwise fun a b=>eM a.1 b.1=true) (n k:Nat) :(nW l n k).Pairwise fun a b=>eM a.1 b.1=true:=by
 unfold nW;have g:(l.map fun q=>(q.1,cw q.2)).Pairwise fun a b=>eM a.1 b.1=true:=by rw[nj];exact h
 exact g.sublist kn
theorem sY (s:cf) :ct s=cy (bL (bC s)):=rfl
theorem yu (s:cf) :eT (ct s)=eT (bL (bC s)):=Pt _
theorem Lp {s:cf} (h:e1 s) :kZ s=0:=by
 have W:nr s.aj.l:=⟨fun g p=>(jT.1 h.wf g p).1,fun g p=>(jT.1 h.wf g p).2,wT h.al⟩
 have w:=h.al;unfold kQ at w;rw[bK] at w;have T:hW s (hz (ct s) s.aj.l.length)=true:=by
  rw[mh];have G:(hz (ct s) s.aj.l.length).aj.l=iV (ct s) s.aj.l.length s.aj.l.length:=rfl;refine⟨by rw[G,pV],?_,?_,fun k hk=>?_⟩
  ·show s.bN=((ct s).idsZ.l.length:Int)
   rw[h.jS];congr 1;exact (wj (bC s)).symm
  ·show s.bI.l=(cK (eU (ct s))).l;rw[dh,sY,y3];exact h.tV.symm
  ·rw[G,dq (zo _ _ hk)];obtain⟨g,p,z⟩:=aQ hk;rw[dq p];obtain⟨u,v⟩:=J4 (bC s) s.aj.l.length k;rw[<-sY] at u v;have H:=w k hk;rw[dq p] at H;have X:=W.len g z;have R:(ha g).map (fun q=>(q.1,cw q.2))=nW (bC s) s.aj.l.length k:=by
    refine zV ?_ (J6 (xN W) _ _) fun q=>?_
    ·rw[nj];have D:=o4 (W.b8 g z);have K:(ha g).map (·.1)=g.idsZ.l:=by unfold ha;rw[List.map_fst_zip F]
     rw[<-K,nj] at D;exact D
    ·rw[J5,cE];constructor
     ·rintro⟨m,B,rfl⟩;obtain⟨a,j⟩:=cp.1 B;unfold ha at j;rw[tb] at j;exact⟨m,(n9 W m).2 ⟨g,z,a,j.1,j.2⟩,rfl,H m.1 (cJ j.1)⟩
     ·rintro⟨m,B,rfl,Q⟩;obtain⟨r,S,a,j,O⟩:=(n9 W m).1 B;obtain⟨C,t⟩:=cp.1 S;have:=w C (aL.1 t).1 m.1 (by rw[dq t];exact cJ j);have P:C=k:=by rw[<-this];exact Q
      subst P;rw[p] at t;obtain rfl:=cc t;exact⟨m,cJ (show (ha g)[a]?=some m by unfold ha;rw[tb];exact⟨j,O⟩),rfl⟩
   rw[<-R] at u v;have U:((ha g).map fun q=>(q.1,cw q.2)).map (·.1)=g.idsZ.l:=by
    rw[iL];unfold ha;exact List.map_fst_zip F
   have V:((ha g).map fun q=>(q.1,cw q.2)).map (·.2)=g.opsZ.l.map cw:=by
    rw[iL];have:(ha g).map (·.2)=g.opsZ.l:=by unfold ha;exact List.map_snd_zip F
    rw[<-this,iL];rfl
   rw[U] at u;rw[V] at v;unfold kV;rw[u,v];simp only[ce,ol,lH,bK];intro C t;obtain⟨J,I,_⟩:=aQ t;rw[jG I,jG (o:=cw (cw J)) (by rw[b0,b0,I];rfl)];exact Li J
 unfold kZ;rw[ak ⟨h.gN,h.q3⟩,ak ⟨by rw[yu];exact h.kB,T⟩]
theorem Zi {s:cf} (h:kZ s=0) :e1 s:=by
 obtain⟨h1,z,p,G⟩:=Ex h;obtain⟨_,I,J,K⟩:=(mh _ _).1 G;have w:=kR p;have C:(hz (ct s) s.aj.l.length).aj.l=iV (ct s) s.aj.l.length s.aj.l.length:=rfl;have v:∀ (k:Nat) (g:aW),s.aj.l[k]?=some g->g.idsZ.l=(nW (bC s) s.aj.l.length k).map (·.1)/\g.opsZ.l.length=(nW (bC s) s.aj.l.length k).length:=fun k g j=>by
  have hk:=(aL.1 j).1;have:=K k hk;rw[C,dq (zo _ _ hk),dq j] at this;unfold kV at this;simp only[bU,bK] at this;obtain⟨m,o⟩:=J4 (bC s) s.aj.l.length k;exact⟨by rw[this.1];exact m,by rw[this.2.1,show (hD (ct s) (j9 (ct s) s.aj.l.length k)).opsZ.l=_ from o,ce,ce]⟩
 have H:(bC s).Pairwise fun a b=>eM a.1 b.1=true:=by
  have t:=o4 w.b8;have:(ct s).idsZ.l=(bC s).map (·.1):=by rw[sY];unfold cy bL;simp only[dh,b1.pT]
  rw[this,nj] at t;exact t
 refine⟨h1,z,?_,?_,by rw[<-yu];exact p,?_,?_⟩
 ·unfold kQ;rw[bK];intro i B x u;obtain⟨g,j,_⟩:=aQ B;rw[dq j,(v i g j).1] at u;obtain⟨q,F,rfl⟩:=cE.1 u;obtain⟨_,_,_,D⟩:=J5.1 F;exact D
 ·refine jT.2 fun g j=>?_
  obtain⟨k,hk⟩:=cp.1 j;obtain⟨m,o⟩:=v k g hk;refine⟨by rw[m,o,ce],uz ?_⟩;rw[m,nj];exact J6 H _ _
 ·rw[I];show ((ct s).idsZ.l.length:Int)=_;congr 1;exact wj (bC s)
 ·have:s.bI.l=(cK (eU (ct s))).l:=J;rw[this,dh,sY,y3]
theorem Lo (s:cf) :kZ s=0<->e1 s:=⟨Zi,Lp⟩
theorem PE (s:cf) :(qh s).ar=true:=by unfold qh;have:=jz (if qg s=true then bL (bC s) else ⟨none,none⟩);simp[U.ar,am,this]
theorem YX (s:cf) (q:gH s) :aU 166 [.af (bG s)] (qh s):=by apply a2 func166 [];have t:(bG s).length=3:=rfl;have o:(bG s).take 3=bG s:=rfl;have m:=mG s;have h:=MJ s q;have g:=PE s;have u:qh s=.aX [.af [ah (if qg s=true then bL (bC s) else ⟨none,none⟩).idsZ,bA (if qg s=true then bL (bC s) else ⟨none,none⟩).opsZ],.i6 (if qg s=true then 0 else 8)]:=rfl;rw[u] at h g ⊢;obtain⟨j,p⟩:=al (if qg s=true then bL (bC s) else ⟨none,none⟩);rw[<-p] at h g ⊢;have v:=fi j.idsZ;have w:=kz j.opsZ;simp[t,o];refine au h (by simp[am,U.ar,m]) ?_;simp[av];exact aP rfl g
theorem Uy (g:aW) (l:aR) (i:Nat) :hC (cy g) l i=hC g l i:=by unfold hC;rw[m9,J7];rfl
theorem zM (g:aW) (l:aR) :kS (cy g) l=kS g l:=by unfold kS;simp only[Uy]
theorem XU (s:cW) :fa s=0\/fa s=8:=by
 unfold fa;split
 ·split
  ·exact .inl rfl
  ·exact .inr rfl
 ·exact .inr rfl
structure gJ (s:cW) :Prop where
 j0:1<=s.cap
 tC:s.cap<=40
 aD:e1 s.aD
 jS:s.aD.bN<=s.cap
 le:(s.az.l.length:Int)=s.aD.bN
 ord:kS (bL (bC s.aD)) s.az.l=true
theorem sQ (s:cW) :fa s=0<->gJ s:=by
 unfold fa;constructor
 ·intro h;split at h
  ·rename_i h1;split at h
   ·rename_i t;exact⟨h1.1,h1.2.1,(Lo _).1 h1.2.2.1,h1.2.2.2.1,h1.2.2.2.2,by rw[<-zM];exact t⟩
   ·cases h
  ·cases h
 ·rintro⟨g,j,m,o,p,q⟩;rw[ak ⟨g,j,(Lo _).2 m,o,p⟩,ak (by rw[sY,zM];exact q)]
noncomputable def m4 (s:cW) :aW:=if fa s=0 then bL (bC s.aD) else ⟨none,none⟩
noncomputable def mi (s:cW) :U:=.aX [cr (m4 s),.i6 (fa s)]
theorem uQ {s:cW} (h:¬ gJ s) :mi s=.aX [.af [.ad,.ad],.i6 8]:=by
 have g:¬ fa s=0:=fun e=>h ((sQ s).1 e)
 unfold mi m4;rw[ai g,(XU s).resolve_left g];rfl
theorem Ln {s:cW} (h:gJ s) :mi s=.aX [cr (bL (bC s.aD)),.i6 0]:=by have g:fa s=0:=(sQ s).2 h;unfold mi m4;rw[ak g,g]
theorem QA (e:b2) (v:c5 e) (z:e.l.length<=1000000) {l:ae} {be:Nat} (h1:l[be]?=some (.q 1 [ah e])) (xs:aR) (F:∀ p∈xs,p.length=32) :
  tl 167 [.ptr be 0 1] l xs (fun p=>!decide (p∈e.l)):=by
 intro p B h m G o;apply c1 func167 [];have g:=F p B;have D:=bo g;have C:=cG p;have q1:h[be]?=some (.q 1 [ah e]):=by rw[m.2 _ (a1 h1)];exact h1
 have j:∀ c:aq,(h++[c])[be]?=some (.q 1 [ah e]):=fun c=>by rw[aV (a1 q1)];exact q1
 have u:=bO e;have w:=qe e v z p g;simp[j,D,aI];refine au w (by simp[am,U.ar,u,C]) ?_;simp;exact o _ ⟨V,fun b t=>aV t⟩
theorem OX (n k:Nat) (h:k<=n) :e2 n n none (some (.i6 (k:Int))) (some (.i6 (k:Int)))=some (0,k,k):=by
 have g:gU (.i6 (k:Int)) n=some k:=by
  show (if 0<=(k:Int)/\(k:Int)<=(n:Int) then some (k:Int).toNat else none)=some k;rw[ak ⟨F,F⟩];simp
 have j:gU (.i6 (k:Int)) k=some k:=by
  show (if 0<=(k:Int)/\(k:Int)<=(k:Int) then some (k:Int).toNat else none)=some k;rw[ak ⟨F,F⟩];simp
 unfold e2;simp only[g,j]
theorem X6 {alZ:Type} {z:Nat} {enc:alZ->ag} {s:b1 alZ} {k:Nat} (h:k<=s.l.length) :dw (.Z z) (b4 z enc s) none (some (.i6 (k:Int))) (some (.i6 (k:Int)))=some (b4 z enc (hd s k)):=by
 cases s with
 | none=>
  have:k=0:=by simpa using h
  subst this;rfl
 | some a=>
  have hk:k<=a.length:=h;simp only[dw,b4,if_true,ce,OX _ _ hk,cA,lI,vo,hd,i2]
theorem Lf (s:cW) (K:hK s) :aU 115 [.af (bw s)] (mi s):=by
 apply a2 func115 [];have u:(bw s).length=5:=rfl;have cf:(List.drop 1 (bw s)).take 3=bG s.aD:=rfl;have a4:(bw s).tail.take 3=bG s.aD:=rfl;have H:∀ h,(bw s)[0]'h=.i6 s.cap:=fun _=>rfl
 have ai:∀ h,(bw s)[3]'h=.i6 s.aD.bN:=fun _=>rfl
 have aj:∀ h,(bw s)[4]'h=ah s.az:=fun _=>rfl
 have cg:(bw s)[0]?=some (.i6 s.cap):=rfl;have ch:(bw s)[3]?=some (.i6 s.aD.bN):=rfl;have cj:(bw s)[4]?=some (ah s.az):=rfl;have bh:bD (.Z 32) (ah s.az)=_:=b9 _;have a5:=mG s.aD;have B:=YX s.aD K.aD;by_cases C:e1 s.aD
 ·rw[Ff C] at B;have S:eE (bL (bC s.aD)):=u4 K.aD;have D:=kR C.kB;have a9:=wj (bC s.aD);obtain⟨g,R⟩:=al (bL (bC s.aD));rw[<-R] at B S D a9;have cl:=fi g.idsZ;have cm:=kz g.opsZ;have bg:bD (.Z 32) (ah g.idsZ)=_:=b9 _;unfold cr bb at B;simp[u,a4];refine au B (by simp[am,U.ar,a5]) ?_;have aE:=C.jS;rw[<-a9] at aE;by_cases h1:s.cap<1
  ·have m:¬ gJ s:=fun h=>by have:=h.j0;omega
   rw[uQ m];simp[av,u,H,h1];exact aF
  ·by_cases w:40<s.cap
   ·have m:¬ gJ s:=fun h=>by have:=h.tC;omega
    rw[uQ m];simp[av,u,H,h1,w];exact aF
   ·by_cases Y:s.cap<s.aD.bN
    ·have m:¬ gJ s:=fun h=>by have:=h.jS;omega
     rw[uQ m];simp[av,u,H,ai,h1,w,Y];exact aF
    ·by_cases ag:s.az.l.length=g.idsZ.l.length
     ·have a3:∀ b:Bool,(kS g s.az.l=b)->mi s=if b=true then .aX [.af [ah g.idsZ,bA g.opsZ],.i6 0] else .aX [.af [.ad,.ad],.i6 8]:=fun b a8=>by
       cases b with
       | true=>
        have b3:gJ s:=⟨F,F,C,F,by rw[aE];congr 1,by rw[<-R];exact a8⟩
        rw[Ln b3,R];rfl
       | false=>
        have m:¬ gJ s:=fun h=>by have:=h.ord;rw[<-R,a8] at this;cases this
        rw[uQ m];rfl
      have ak:∀ i,i<s.az.l.length->hC g s.az.l i=false->mi s=.aX [.af [.ad,.ad],.i6 8]:=fun i bd bT=>by
       refine a3 false ?_;unfold kS;exact cu fun h=>by have:=h i bd;rw[bT] at this;cases this
      have bM:(∀ o,o<s.az.l.length->hC g s.az.l o=true)->mi s=.aX [.af [ah g.idsZ,bA g.opsZ],.i6 0]:=fun h=>a3 true (b7 h)
      simp[av,u,H,ai,aj,h1,w,Y,bh,bg,ag];refine bB s.az.l.length (fun i v l=>v 1=.ptr 0 0 5/\v 2=.ptr 1 0 2/\v 4=.ptr 2 0 2/\v 48=ah s.az/\v 49=.i6 s.az.l.length/\v 50=.i6 i/\l[0]?=some (.q 5 (bw s))/\l[1]?=some (.q 2 [.ad,.ad])/\l[2]?=some (.q 2 [ah g.idsZ,bA g.opsZ])/\∀ o,o<i->hC g s.az.l o=true) ?_ ⟨V,V,V,V,by simp[ag],V,rfl,rfl,rfl,fun o ay=>F⟩;rintro i v l bd ⟨aR,aS,aT,aW,aY,aZ,bp,q1,aJ,bc⟩;obtain⟨v,rfl⟩:=n4 aR aS aT aW aY aZ;clear aR aS aT aW aY aZ;have m:=K.no;have bz:=ci (k:=i) F;by_cases z:i<s.az.l.length
      ·obtain⟨x,bl,b2⟩:=aQ z;have aG:=K.az x b2;have T:=bo aG;have aH:=cG x;have bf:=wu bl;have b0:dw (.Z 32) (ah s.az) none (some (.i6 (i:Int))) (some (.i6 (i:Int)))=some (ah (hd s.az i)):=X6 F;have bj:c5 (hd s.az i):=fun cc bm=>K.az cc (by rw[pb] at bm;exact gy bm)
       have a6:(hd s.az i).l.length<=1000000:=by rw[pb,cL];omega
       have bk:=As g.idsZ S.idsZ S.li x aG D.b8;have I:=qe (hd s.az i) bj a6 x aG;rw[pb] at I;have bR:=bO g.idsZ;have bS:=bO (hd s.az i);have mt:=fi (hd s.az i);have t:hC g s.az.l i=(decide (x∈g.idsZ.l)&&(!decide (x∈s.az.l.take i)&&gT (s.az.l.take i) (dO g.opsZ.l (dH x g.idsZ.l 0).toNat))):=by unfold hC;rw[dI bl]
       obtain⟨X,bI⟩:=al (ao x);rw[<-bI] at T aH bf bk I;have a7:X.take 32=X:=aI F;have b1:av (bZ 32 (.int .u8 0)) 0 X=X:=cD (by rw[T];rfl);have bt:∀ j:ae,(l++j)[0]?=some (.q 5 (bw s)):=fun j=>by rw[aV (a1 bp)];exact bp
       have aO:∀ j:ae,(l++j)[1]?=some (.q 2 [.ad,.ad]):=fun j=>by rw[aV (a1 q1)];exact q1
       have bv:∀ j:ae,(l++j)[2]?=some (.q 2 [ah g.idsZ,bA g.opsZ]):=fun j=>by rw[aV (a1 aJ)];exact aJ
       have cd:∀ (j:ae) (h:0<(l++j).length),(l++j)[0]'h=.q 5 (bw s):=fun j h=>(aL.1 (bt j)).2
       have bx:∀ (j:ae) (h:1<(l++j).length),(l++j)[1]'h=.q 2 [.ad,.ad]:=fun j h=>(aL.1 (aO j)).2
       have bs:∀ (j:ae) (c:aq),((l++j).set 1 c)[1]?=some c:=fun j c=>bY (a1 (aO j))
       simp[z,bf,T,a7,b1,cd,u,aj,b0,mt,bv];refine au bk (by simp[am,U.ar,bR,aH]) ?_;by_cases J:x∈g.idsZ.l
       ·obtain⟨a,Q⟩:=cp.1 J;have bQ:=B3 D.b8 Q;have ck:=(aL.1 Q).1;obtain⟨p,bi,bX⟩:=aQ (l:=g.opsZ.l) (k:=a) (by rw[<-D.len];exact (aL.1 Q).1);have aB:=S.opsZ p bX;have bV:=In bi;have bK:=ua (mL D.b8) Q;rw[b7 J,bK,fo,me bi,lH] at t;simp[J,bQ,T,a7];refine au I (by simp[am,U.ar,bS,aH]) ?_;by_cases P:x∈s.az.l.take i
        ·rw[b7 P] at t;rw[ak i z (by rw[t];rfl)];simp[P,bx,av];exact aF
        ·rw[cu P] at t;have ce:(aw p)[1]?=some (ah p.ax):=rfl;have bF:∀ h,(aw p)[1]'h=ah p.ax:=fun _=>rfl
         have bH:(aw p).length=11:=rfl;obtain⟨L,G⟩:=al (l++[aq.q 32 X,aq.q 1 [ah (hd s.az i)]]);have cb:L[l.length+1]?=some (.q 1 [ah (hd s.az i)]):=by rw[G];simp
         have bU:=QA (hd s.az i) bj a6 cb p.ax.l aB.idsZ;have aM:L[2]?=some (.q 2 [ah g.idsZ,bA g.opsZ]):=by rw[G];exact bv _
         have br:L[1]?=some (.q 2 [.ad,.ad]):=by rw[G];exact aO _
         have bq:L[0]?=some (.q 5 (bw s)):=by rw[G];exact bt _
         simp[P,aM,bV,bF,bH,<-G];refine yz p.ax aB.idsZ aB.len bn bU fun W ap=>?_
         have b4:W[0]?=some (.q 5 (bw s)):=by rw[ap.2 0 (a1 bq)];exact bq
         have aK:W[1]?=some (.q 2 [.ad,.ad]):=by rw[ap.2 1 (a1 br)];exact br
         have b5:W[2]?=some (.q 2 [ah g.idsZ,bA g.opsZ]):=by rw[ap.2 2 (a1 aM)];exact aM
         have bJ:(p.ax.l.any fun O=>!decide (O∈(hd s.az i).l))=!gT (s.az.l.take i) p.ax.l:=by
          rw[pb,xR,s8,vc];unfold gT;rw[decide_eq_false_iff_not];constructor
          ·rintro⟨O,aC,aA⟩ h;have:=h O aC;simp[this] at aA
          ·intro h;refine Classical.byContradiction fun m=>h fun O aC=>Classical.byContradiction fun aA=>m ⟨O,aC,by simp[aA]⟩
         rw[bJ];cases a0:gT (s.az.l.take i) p.ax.l with
         | true=>
          rw[a0] at t;simp[bz];refine⟨z,b4,aK,b5,fun o ay=>?_⟩;by_cases bW:o=i
          ·rw[bW,t];rfl
          ·exact bc o F
         | false=>
          rw[a0] at t;rw[ak i z (by rw[t];rfl)];have ca:∀ c:aq,(W.set 1 c)[1]?=some c:=fun c=>bY (a1 aK)
          simp[aK,ca,av];exact aF
       ·rw[cu J,rD] at t;rw[ak i z t];simp[J,bx,av];exact aF
      ·have I:i=s.az.l.length:=F;subst I;rw[bM fun o ay=>bc o ay];have bs:∀ c:aq,(l.set 1 c)[1]?=some c:=fun c=>bY (a1 q1)
       simp[aJ,q1,bs,av];exact aP rfl (by have h1:=bO g.idsZ;have w:=ip g.opsZ;simp[U.ar,am,h1,w])
     ·have m:¬ gJ s:=fun h=>by have:=h.le;rw[aE] at this;exact ag F
      have bE:¬ (s.az.l.length:Int)=g.idsZ.l.length:=F;rw[uQ m];simp[av,u,H,ai,aj,h1,w,Y,bh,bg,bE];exact aF
 ·have m:¬ gJ s:=fun h=>C h.aD
  rw[rx C] at B;rw[uQ m];simp[u,a4];refine au B (by simp[am,U.ar,a5]) ?_;simp[av];exact aF
theorem PD (s:cW) :(mi s).ar=true:=by unfold mi;have:=jz (m4 s);simp[U.ar,am,this]
theorem Le (s:cW) (m:hK s) :aU 63 [.af (bw s)] (.i6 (fa s)):=by apply a2 func63 [];have o:(bw s).length=5:=rfl;have j:(bw s).take 5=bw s:=rfl;have h:=g7 s;have g:=Lf s m;have p:mi s=.aX [.af [ah (m4 s).idsZ,bA (m4 s).opsZ],.i6 (fa s)]:=rfl;rw[p] at g;have q:=fi (m4 s).idsZ;have t:=kz (m4 s).opsZ;simp[o,j];refine au g (by simp[am,U.ar,h]) ?_;simp[av];exact aF
theorem W1 (s:cW) (o:hK s) :aU 61 [.af (bw s)] (mi s):=by apply a2 func61 [];have p:(bw s).length=5:=rfl;have m:(bw s).take 5=bw s:=rfl;have j:=g7 s;have h:=Lf s o;have g:=PD s;have q:mi s=.aX [.af [ah (m4 s).idsZ,bA (m4 s).opsZ],.i6 (fa s)]:=rfl;rw[q] at h g ⊢;have t:=fi (m4 s).idsZ;have u:=kz (m4 s).opsZ;simp[p,m];refine au h (by simp[am,U.ar,j]) ?_;simp[av];exact aP rfl g
structure Ny where
 yZ:Int
 idsZ:b2
 ab3:Bool
structure ZA (d:Ny) :Prop where
 idsZ:c5 d.idsZ
 acJ:d.idsZ.l.length<=1000
end Op
end Go.bh
namespace Go.bh
open Go Go.Proofs Go.Proofs.Tryz Go.RowKit
namespace Op
open cl
structure ya (g:aW) :Prop where
 idsZ:c5 g.idsZ
 opsZ:∀ o∈g.opsZ.l,vB o
theorem Uv {g:aW} (h:ya g) (j:pL g=false) :eE g:=by
 unfold pL at j;simp only[qm,decide_eq_false_iff_not] at j;obtain⟨h1,u,v,w⟩:=j;refine⟨h.idsZ,fun o q=>?_,F,F⟩;have p:¬ pM o=true:=fun t=>h1 ⟨o,by rw[aI F];exact q,t⟩
 unfold pM at p;simp only[rF,bK,not_or] at p;have m:=h.opsZ o q;exact⟨m.idsZ,F,⟨m.gN,m.q2,F⟩,F⟩
theorem Yw {ts:List aG} {cs:ag} (h:c4 prog (70::ts) cs) :∃ (g:aW) (cs' : ag),cs=bb g++cs'/\ya g/\c4 prog ts cs':=by
 have m:=n2 (fs:=[23,68]) bn h;obtain⟨i,_,rfl,q,o⟩:=xG m;obtain⟨s,_,rfl,_,t,p⟩:=AQ (e:=55) (z:=11) (enc:=aw) (Q:=vB) bn bn (fun r u=>by
  obtain⟨x,_,rfl,v,j⟩:=E3 u;rw[u0 j,eJ];exact⟨x,rfl,v⟩) o
 exact⟨⟨i,s⟩,_,rfl,⟨q,t⟩,p⟩
structure FZ (s:cW) :Prop where
 aj:∀ p∈s.aD.aj.l,ya p
 bI:c5 s.aD.bI
 az:c5 s.az
theorem UE {s:cW} (h:FZ s) (j:sh s=false) :hK s:=by unfold sh mJ at j;simp only[qm,decide_eq_false_iff_not] at j;obtain⟨⟨h1,q,t⟩,u⟩:=j;refine⟨⟨fun o m=>?_,F,h.bI,F⟩,h.az,F⟩;have g:=Bf.1 h1 o (by rw[aI F];exact m);unfold py at g;simp only[rF,bK,not_or] at g;obtain⟨v,w,p⟩:=g;exact⟨Uv (h.aj o m) (by simpa using p),F,F⟩
theorem Lg (g:aW) :kV g (cy g)=true:=by unfold kV;rw[m9];have:(cy g).idsZ.l=g.idsZ.l:=rfl;rw[this];simp only[ce,ol,lH,bK];intro p j;obtain⟨m,h,_⟩:=aQ j;rw[jG h,jG (o:=cw m) (by rw[b0,h];rfl)];unfold gn cw;simp[e4,dz,U.beq]
theorem W5 (s:cf) :hW s (bl s)=true:=by rw[mh];have j:(bl s).aj.l=s.aj.l.map cy:=dh _;refine⟨by rw[j,ce],rfl,rfl,fun k hk=>?_⟩;obtain⟨m,h,_⟩:=aQ hk;rw[j,dq h,dq (g:=cy m) (by rw[b0,h];rfl)];exact Lg m
theorem W7 (s:cW) :kW s (dY s)=true:=by unfold kW;rw[show (dY s).aD=bl s.aD from rfl,W5];simp[dY]
theorem xF {s:cf} (h:gH s) :rQ (bl s):=by have j:(bl s).aj.l=s.aj.l.map cy:=dh _;refine⟨fun p g=>?_,by rw[j,ce];have:=h.ka;omega,h.bI,h.nQ⟩;rw[j] at g;obtain⟨o,m,rfl⟩:=cE.1 g;exact AN (h.aj o m).1
end Op
end Go.bh
namespace Go.bh
open Go Go.Proofs Go.Proofs.Tryz
namespace Op
open cl
theorem R0 (v f:U) (l:ae) {K:cB} (o:K (.aX []) l) :cM 235 [v,.i6 0,.i6 0,f] l K:=by
 apply c1 func235 [];have p:IntKind.i64.wrap 1=1:=by decide
 simp;refine bB 0 (fun _ g h=>h=l/\g 2=.i6 0/\g 8=.i6 1) ?_ ⟨rfl,V,by simp[p]⟩;rintro k g h hk ⟨rfl,j,m⟩;simp[j,m];exact o
theorem U5 (v f:U) (n:Int) (l:ae) {K:cB} (q:K (.aX []) l) :cM 200 [v,.i6 0,.i6 0,.i6 n,f] l K:=by
 apply c1 func200 [];have t:IntKind.i64.wrap 0=0:=by decide
 simp;refine bB 0 (fun _ g h=>h=l/\g 0=v/\g 1=.i6 0/\g 2=.i6 0/\g 4=f) ?_ ⟨rfl,V,V,V,V⟩;rintro k g h hk ⟨rfl,j,m,o,p⟩;simp[j,m,o,p,t];refine R0 v f h ?_;simp;exact q
theorem UT {z:Nat} {l:ae} {v:U} {j:Nat} {es:List (ag)} (h:aH z l v j es) {i:Nat} {e:ag} (g:es[i]?=some e) :
  ∃ n cap sz cs,v=.Z z j 0 n cap sz/\l[j]?=some (.q sz cs)/\es.length=n/\cs.length=sz/\i<n/\i*z+z<=sz/\(cs.drop (i*z)).take z=e:=by
 cases h with
 | nil j=>cases g
 | Z j n cap sz cs es o u w B p D t=>
  have G:i<es.length:=(aL.1 g).1;have h1:(i+1)*z<=n*z:=ck _ F;have C:n*z<=cap*z:=ck _ p;rw[ej] at h1;refine⟨n,cap,sz,cs,rfl,o,w,u,F,F,?_⟩;have m:=Cu B g;rw[<-t,qo,lL,i5 F] at m;exact m
theorem Xz (v f:U) (j:bD (.Z 32) v=some (.i6 0)) (l:ae) {K:cB} (g:K (.aX []) l) :cM 136 [v,f] l K:=by
 apply c1 func136 [];have h:aU 201 [c6 0] (.i6 (ia (0:Q).toNat)):=by
  apply a2 func201 [];have h:=IP 0;simp;refine au h rfl ?_;simp;exact aF
 simp[j];refine au h rfl ?_;simp;refine U5 v f _ l ?_;simp;exact g
theorem UV {z:Nat} {l l1:ae} {v:U} {j:Nat} {es:List (ag)} (h:aH z l v j es) (g:h3 l l1) :aH z l1 v j es:=by
 refine h.cx ?_;rcases h.lt with e | e
 ·exact .inl e
 ·exact .inr (g.2 j e)
structure FY (g:aW) (D:aR) :Prop where
 lv:D.Nodup
 sub:∀ x∈D,x∈g.idsZ.l
 pre:∀ (i:Nat) (x:List B) (j:Nat),D[i]?=some x->g.idsZ.l[j]?=some x->∀ q∈dO g.opsZ.l j,q∈D.take i
theorem Mb {g:aW} (u:vx g) {l:aR} (h:kS g l=true) :FY g l:=by
 unfold kS at h;rw[bK] at h;have t:∀ (i:Nat) (x:List B),l[i]?=some x->x∈g.idsZ.l/\x∉l.take i/\gT (l.take i) (dO g.opsZ.l (dH x g.idsZ.l 0).toNat)=true:=fun i x j=>by
  have:=h i (aL.1 j).1;unfold hC at this;rw[dI j] at this;simpa [bU] using this
 refine⟨?_,fun x z=>?_,fun i x p j o q w=>?_⟩
 ·refine kq.2 fun i p j o v e=>?_
  have h1:=(t p l[p] (bM o)).2.1;exact h1 (cp.2 ⟨i,by rw[dQ v,bM j,e]⟩)
 ·obtain⟨i,j⟩:=cp.1 z;exact (t i x j).1
 ·have m:=(t i x j).2.2;rw[ua (mL u.b8) o,fo] at m;unfold gT at m;exact iM m q w
theorem LW {alZ:Type} [DecidableEq alZ] :∀ {a b:List alZ},a.Nodup->(∀ x∈a,x∈b)->a.length<=b.length
 | [],_,_,_=>eS _
 | x::a,b,o,h=>by
  obtain⟨h1,j⟩:=vk.1 o;have m:∀ y∈a,y∈b.erase x:=fun y g=>(FB (fun e=>h1 (by rw[<-e];exact g))).2 (h y (Bk _ g))
  have p:=LW j m;have q:=Fy (h x V);have t:=Fz (h x V);simp only[dM];omega
def l5 (o:aK) :Bool:=decide (40<o.ax.l.length)||(decide (100<o.act.key.length)||decide (100<o.act.val.text.length))
theorem Kt (o:aK) :aU 43 [.af (aw o)] (.bool (l5 o)):=by
 apply a2 func43 [];unfold l5;have j:bD (.Z 32) (ah o.ax)=_:=b9 _;by_cases h1:40<o.ax.l.length
 ·have g:(40:Int)<(o.ax.l.length:Int):=F;simp[aw,j,h1,g];exact aP V rfl
 ·have g:¬ (40:Int)<(o.ax.l.length:Int):=F;by_cases m:100<o.act.key.length
  ·have h:(100:Int)<(o.act.key.length:Int):=F;simp[aw,j,h1,g,m,h];exact aP V rfl
  ·have h:¬ (100:Int)<(o.act.key.length:Int):=F;have p:((100:Int)<(o.act.val.text.length:Int))<->100<o.act.val.text.length:=F;simp[aw,j,h1,g,m,h,p];exact aP V rfl
theorem JM (a b:List B) (g:a.length=32) (h:b.length=32) :aU 137 [.af (ao a),.af (ao b)] (.i6 (bP a b)):=by
 apply a2 func137 [];have o:=uR (n:=32) (b:=1) F;have p:=uR (n:=32) (b:=0) F;simp[ao,g,h,o,p];have m:=Gn (some a) (some b) (by simp[g,h]);refine ig m ?_ rfl ?_
 ·exact .cons ((md (j:=0) g rfl).mZ (fun _=>rfl) (some a) rfl rfl) (.cons ((md (j:=1) h rfl).mZ (fun _=>rfl) (some b) rfl rfl) .nil)
 ·simp;exact aF
def eV (o:aK) (m:aR) :Bool:=decide (0<m.length)&&(b8 m&&m.all fun x=>decide (x∈o.ax.l))
theorem KY {l:aR} (h:b8 l=true) {k:Nat} (hk:k+1<l.length) :bP (bx l k) (bx l (k+1))<0:=(iM h) (k+1) hk F
structure NK (o:aK) (m:b2) (k:Nat) (sgZ:aS) (l:ae) :Prop where
 nI:∃ r,l=.q 11 (aw o) ::r
 e5:sgZ 1=ah m
 hP:sgZ 2=.ptr 0 0 11
 tS:sgZ 7=ah m
 oI:sgZ 8=.i6 m.l.length
 y0:sgZ 9=.i6 k
 jB:∀ j,j<k->(1<=j->bP (bx m.l (j - 1)) (bx m.l j)<0)/\bx m.l j∈o.ax.l
theorem MH (o:aK) (aj:dk o) (m:b2) (u:c5 m) (aR:m.l.length<=1000000) :aU 98 [.af (aw o),ah m] (.bool (eV o m.l)):=by
 apply a2 func98 [];have ae:bD (.Z 32) (ah m)=_:=b9 _;have X:=bO o.ax;simp[ae];refine bB m.l.length (NK o m) ?_ ⟨⟨_,rfl⟩,V,by simp[aw],V,V,V,fun g h=>F⟩;rintro k aH l hk ⟨⟨r,rfl⟩,O,P,Q,R,S,I⟩;obtain⟨aH,rfl⟩:=gu O P Q R S;clear O P Q R S;simp;refine fk (fun h=>?_) (fun h=>?_)
 ·simp only[bK] at h;obtain⟨y,ak,K⟩:=aQ (l:=m.l) (k:=k) F;have v:=bo (u y K);have aO:=ci (k:=k) F;have t:bQ (.Z 32) (ah m) _=_:=c8 ak;have J:av (bZ 32 (.int .u8 0)) 0 (ao y)=ao y:=cD (by rw[v];rfl);have G:=qe o.ax aj.idsZ aj.len y (u y K);have B:=cG y;have w:bx m.l k=y:=dI ak;have C:∀ (g:Nat),g<m.l.length->¬ ((1<=g->bP (bx m.l (g - 1)) (bx m.l g)<0)/\bx m.l g∈o.ax.l)->eV o m.l=false:=fun g p aE=>by
   unfold eV;cases h1:b8 m.l with
   | false=>simp
   | true=>
    cases q:(m.l.all fun x=>decide (x∈o.ax.l)) with
    | false=>simp
    | true=>
     exact bV ⟨fun h=>(iM h1) g p h,iM (gb.1 q _ (wv p))⟩ aE
  obtain⟨aJ,T⟩:=al (ao y);rw[<-T] at v t J G B;have ai:y∈o.ax.l->(1<=k->bP (bx m.l (k - 1)) y<0)->∀ g,g<k+1->(1<=g->bP (bx m.l (g - 1)) (bx m.l g)<0)/\bx m.l g∈o.ax.l:=fun h1 q g p=>by
   by_cases aC:g=k
   ·subst aC;rw[w];exact⟨q,h1⟩
   ·exact I g F
  rcases k with _ | k
  ·simp at t;simp[aw,t,v,J,aI];refine au G (by simp[am,U.ar,X,B]) ?_;by_cases j:y∈o.ax.l
   ·simp[j];exact⟨F,⟨_,rfl⟩,V,V,V,V,by simp;rw[IntKind.wrap_i64];omega,ai j (fun h=>F)⟩
   ·have:=C 0 F (fun h=>j (by rw[<-w];exact h.2));simp[j];exact aP (by rw[this]) rfl
  ·obtain⟨z,ap,az⟩:=aQ (l:=m.l) (k:=k) F;have ay:=bo (u z az);have aq:=cG z;have W:bx m.l k=z:=dI ap;have aA:IntKind.i64.wrap (k:Int)=(k:Int):=by rw[IntKind.wrap_i64];omega
   have aF:(0:Int)<(k:Int)+1:=F;have Y:bQ (.Z 32) (ah m) _=_:=c8 ap;have D:=JM z y (u z az) (u y K);obtain⟨aM,aB⟩:=al (ao z);rw[<-aB] at Y ay aq D;rw[<-T] at D;simp at t;simp[aF,t,Y,aA,v,ay,J,aI];refine au D (by simp[am,U.ar,aq,B]) ?_;by_cases ag:bP z y<0
   ·have H:¬ (0:Int)<=bP z y:=F;simp[H,aw,v,aI];refine au G (by simp[am,U.ar,X,B]) ?_;by_cases j:y∈o.ax.l
    ·simp[j];exact⟨F,⟨_,rfl⟩,V,V,V,V,by simp;rw[IntKind.wrap_i64];omega,ai j (fun h=>by rw[tg,W];exact ag)⟩
    ·have:=C (k+1) F (fun h=>j (by rw[<-w];exact h.2));simp[j];exact aP (by rw[this]) rfl
   ·have H:(0:Int)<=bP z y:=F;have:=C (k+1) F (fun h=>ag (by have:=h.1 F;rw[w,tg,W] at this;exact this));simp[H];exact aP (by rw[this]) rfl
 ·simp[h,ae];have aD:k=m.l.length:=by simp at h;omega
  refine aP (ch U.bool ?_) rfl;have h1:b8 m.l=true:=uI fun g p h1=>(I g F).1 h1
  have q:(m.l.all fun x=>decide (x∈o.ax.l))=true:=gb.2 fun x aG=>by
   obtain⟨g,p⟩:=cp.1 aG;have:=(I g (by rw[aD];exact (aL.1 p).1)).2;rw[dI p] at this;exact b7 this
  unfold eV;rw[h1,q];simp
structure nq (j:Nat) (l l' : ae) :Prop where
 le:l.length<=l'.length
 same:∀ b,b<l.length->b≠j->l'[b]?=l[b]?
def vr (g:cj) (cap:ag) (j:Nat) (l0:ae) (xs:aR) (p:List B->Bool) :Prop:=
 ∀ x∈xs,∀ l,nq j l0 l->∀ m:cB,(∀ h,l.length<=h.length->(∀ b,b<l.length->h[b]?=l[b]?)->m (.bool (p x)) h)->cM g ([]++[.af (ao x)]++cap) l m
structure NC (l0:ae) (v:U) (g:cj) (cap:ag) (xs:aR) (p:List B->Bool) (k:Nat) (sgZ:aS) (l:ae) :Prop where
 kI:sgZ 0=v
 e5:sgZ 1=.fn g [] cap
 tS:sgZ 7=.i6 xs.length
 oI:sgZ 8=.i6 k
 jB:∀ (j:Nat) (z:List B),j<k->xs[j]?=some z->p z=false
 le:l0.length<=l.length
 same:∀ b,b<l0.length->l[b]?=l0[b]?
theorem RW {g:cj} {cap:ag} {j:Nat} {l:ae} {v:U} {xs:aR} {p:List B->Bool} (al:fJ prog g=true) (T:aH 32 l v j (xs.map ao)) (m:(∀ x∈xs,x.length=32)) (ax:xs.length<=1000000) (au:vr g cap j l xs p)
  {K:cB} (Q:∀ n l',(n=-1/\(∀ z∈xs,p z=false)\/∃ k:Nat,n=(k:Int)/\k<xs.length/\(∀ (i:Nat) (z:List B),i<k->xs[i]?=some z->p z=false)/\∀ y,xs[k]?=some y->p y=true)->l.length<=l'.length->(∀ b,b<l.length->l'[b]?=l[b]?)->K (.i6 n) l') :
  cM 139 [v,.fn g [] cap] l K:=by
 apply c1 func139 [];have S:=T.len;rw[ce] at S;simp[S];refine bB xs.length (NC l v g cap xs p) ?_ ⟨V,V,V,V,fun j z h=>F,aN _,fun _ _=>rfl⟩;rintro k aw X hk ⟨G,H,I,J,C,R,u⟩;obtain⟨aw,rfl⟩:=eO G H I J;clear G H I J;simp;refine fk (fun h=>?_) (fun h=>?_)
 ·simp only[bK] at h;obtain⟨y,D,av⟩:=aQ (l:=xs) (k:=k) F;have ak:=ci (k:=k) F;have ar:aH 32 X v j (xs.map ao):=T.frame fun ap=>u j ap
  obtain⟨q,cs,az,Y,ah,ai,aj⟩:=ar.q.get (k:=.i64) (i:=k) (e:=ao y) (by rw[b0,D];rfl);simp[Y,ah,ai,aj];refine⟨al,?_⟩;have:=au y av X ⟨R,fun b o _=>u b o⟩;simp at this;refine this _ fun ay h1 O=>?_
  cases P:p y with
  | true=>
   simp;refine Q _ _ (.inr ⟨k,rfl,h,fun i z t m=>C i z t m,fun w W=>?_⟩) F (fun b o=>by rw[O b F];exact u b o);rw[D] at W;obtain rfl:=cc W;exact P
  | false=>
   simp[ak];refine⟨F,V,V,V,V,fun i z t m=>?_,F,fun b o=>by rw[O b F];exact u b o⟩;by_cases am:i=k
   ·rw[am,D] at m;obtain rfl:=cc m;exact P
   ·exact C i z F m
 ·simp[h];have aq:k=xs.length:=by simp at h;omega
  refine Q _ _ (.inl ⟨rfl,fun z m=>?_⟩) R u;obtain⟨i,t⟩:=cp.1 m;exact C i z (by rw[aq];exact (aL.1 t).1) t
structure Nx (l0:ae) (v:U) (g:cj) (cap:ag) (j:Nat) (xs:aR) (p:List B->Bool) (k:Nat) (sgZ:aS) (l:ae) :Prop where
 kI:sgZ 0=v
 e5:sgZ 1=.fn g [] cap
 lo:sgZ 6=.i6 k
 RL:nq j l0 l
 ex:∃ (q:Nat) (h:aR),sgZ 5=.i6 (q:Int)/\aH 32 l v j (h.map ao)/\h.length=xs.length/\(∀ x∈h,x.length=32)/\h.take q=(xs.take k).filter (fun t=>!p t)/\q<k/\∀ t,k<=t->h[t]?=xs[t]?
theorem HJ {p:List B->Bool} {l:aR} (h:∀ z∈l,p z=false) :l.filter (fun t=>!p t)=l:=by rw[rG];intro a g;rw[h a g];rfl
theorem Q5 {p:List B->Bool} {l:aR} {k:Nat} (h:∀ (i:Nat) (z:List B),i<k->l[i]?=some z->p z=false) :(l.take k).filter (fun t=>!p t)=l.take k:=by
 refine HJ fun z m=>?_
 obtain⟨i,g⟩:=cp.1 m;have j:=(aL.1 g).1;rw[cL] at j;rw[dQ F] at g;exact h i z F g
theorem Q3 {p:List B->Bool} {l:aR} {k:Nat} {y:List B} (h:l[k]?=some y) :(l.take (k+1)).filter (fun t=>!p t)=(l.take k).filter (fun t=>!p t)++(if p y then [] else [y]):=by rw[ei,h,lJ];cases g:p y<;>simp[g]
theorem Hp {g:cj} {cap:ag} {j:Nat} {l:ae} {v:U} {xs:aR} {p:List B->Bool} (aO:fJ prog g=true) (H:aH 32 l v j (xs.map ao)) (ay:(∀ x∈xs,x.length=32)) (bk:xs.length<=1000000) (aS:vr g cap j l xs p)
  {K:cB} (aM:∀ r l',aH 32 l' r j ((xs.filter fun t=>!p t).map ao)->nq j l l'->bq r=bq v->(r=v\/∃ q:Nat,dw (.Z 32) v none (some (.i6 (q:Int))) none=some r)->K r l') :
  cM 140 [v,.fn g [] cap] l K:=by
 apply c1 func140 [];have bg:=H.len;rw[ce] at bg;simp;refine RW aO H ay bk aS fun n bt bc aP T=>?_
 rcases bc with ⟨rfl,a8⟩ | ⟨w,rfl,ap,bh,a9⟩
 ·simp;refine aM _ _ ?_ ⟨aP,fun b m _=>T b m⟩ rfl (.inl rfl);rw[HJ a8];exact H.frame fun G=>T j G
 ·have bl:¬ ((w:Int)=-1):=F;have a5:=ci (k:=w) F;have bn:aH 32 bt v j (xs.map ao):=H.frame fun G=>T j G
  have br:bq v=false:=by
   cases bm:bq v with
   | false=>rfl
   | true=>
    have:=gk.1 bm;subst this;have:=H.q.oX;rw[ni] at this;rw[this] at ap;simp at ap
  simp[bl,a5];refine bB (xs.length - (w+1)) (fun W=>Nx l v g cap j xs p (w+1+W)) ?_ ⟨V,V,V,⟨aP,fun b m _=>T b m⟩,w,xs,V,bn,rfl,ay,?_,F,fun _ _=>rfl⟩
  ·rintro W bv P bA ⟨aF,aG,ah,u,q,C,aJ,R,aw,ax,J,bp,S⟩;obtain⟨k,hk⟩:=al (w+1+W);rw[show w+1+(W+1)=k+1 by omega];rw[<-hk] at ah J bp S;obtain⟨bv,rfl⟩:=eO aF aG aJ ah;clear aF aG aJ ah;have ar:=R.len;rw[ce,aw] at ar;by_cases bi:k<xs.length
   ·have au:(k:Int)<(xs.length:Int):=F;obtain⟨y,O,a0⟩:=aQ (l:=xs) (k:=k) bi;have aZ:=ay y a0;have D:=bo aZ;have aY:av (bZ 32 (.int .u8 0)) 0 (ao y)=ao y:=cD (by rw[D];rfl);have aE:=ci (k:=k) F;have a6:=ci (k:=q) F;have bs:C[k]?=some y:=by rw[S k (aN _)];exact O
    obtain⟨bG,cs,bE,a2,a3,a4,aD⟩:=R.q.get (k:=.i64) (i:=k) (e:=ao y) (by rw[b0,bs];rfl);have bd:nq j l (P++[aq.q 32 (ao y)]):=⟨by have:=u.le;simp;omega,fun b m o=>by rw[aV (by have:=u.le;omega)];exact u.same b m o⟩
    have aj:=aS y a0 _ bd;have Q:=Q3 (p:=p) O;have aW:=fun (iU:ae) (h:aH 32 iU v j (C.map ao))=>zN (X:=.af (ao y)) rfl h (fun t I=>bo (ax t I)) (k:=q) (x:=y) F D
    simp at aj;obtain⟨a1,a7⟩:=al (ao y);rw[<-a7] at D aY aD aj aW;simp[ar,au,a2,a3,a4,aD,D,aY,aI];refine⟨aO,?_⟩;refine aj _ fun iU h1 aK=>?_
    have bz:P.length<iU.length:=F;have aU:∀ b,b<P.length->iU[b]?=P[b]?:=fun b m=>by rw[aK b F,aV m]
    have aT:aH 32 iU v j (C.map ao):=R.frame fun G=>aU j G
    have bb:iU[P.length]?=some (.q 32 a1):=by rw[aK _ V];simp
    have am:nq j l iU:=⟨by have:=u.le;omega,fun b m o=>by rw[aU b (by have:=u.le;omega)];exact u.same b m o⟩
    cases aL:p y with
    | true=>
     rw[aL,ak rfl,eJ] at Q;simp[aE];refine⟨F,V,V,V,am,q,C,V,aT,aw,ax,by rw[Q];exact J,F,fun t I=>S t F⟩
    | false=>
     rw[aL,ai V] at Q;obtain⟨bF,bD,az,aA,Y,aB,aC⟩:=aW iU aT;simp[bb,D,az,aA,aE,a6,aI];refine⟨F,V,V,V,⟨by have:=am.le;omega,fun b m o=>by rw[aC b o];exact am.same b m o⟩,q+1,C.set q y,V,Y,by simp[aw],fun t I=>?_,?_,F,fun t I=>?_⟩
     ·rcases oh I with h | h
      ·exact ax _ h
      ·rw[h];exact aZ
     ·have bw:(C.take q).length=q:=by rw[cL];omega
      rw[rI,ak F,pm,bw,aI F,show q+1 - q=1 by omega,Q,<-J];simp
     ·rw[bj F];exact S t F
   ·have au:¬ (k:Int)<(xs.length:Int):=F;have bf:k=xs.length:=F;obtain⟨bH,bC,r,az,aA,Y,aB,aC,bI,bx⟩:=JH (z:=32) (zr:=bZ 32 (.int .u8 0)) rfl R (k:=q) F;simp[ar,au,az,aA,Y];rw[bf,e0] at J;rw[J] at aB;exact aM _ _ aB ⟨by have:=u.le;omega,fun b m o=>by rw[bx b o];exact u.same b m o⟩ (by rw[aC,br]) (.inr ⟨q,Y⟩)
  ·rw[ei,lJ,Q5 bh];obtain⟨y,O,_⟩:=aQ (l:=xs) (k:=w) ap;have:=a9 y O;rw[O];simp[this]
theorem Ho {g:cj} {cap:ag} {j:Nat} {l:ae} {v:U} {xs:aR} {p:List B->Bool} (q:fJ prog g=true) (w:aH 32 l v j (xs.map ao)) (C:(∀ x∈xs,x.length=32)) (u:xs.length<=1000000) (z:vr g cap j l xs p)
  {K:cB} (o:∀ r l',aH 32 l' r j ((xs.filter fun t=>!p t).map ao)->nq j l l'->bq r=bq v->K r l') :
  cM 140 [v,.fn g [] cap] l K:=Hp q w C u z fun r l' h1 h m _=>o r l' h1 h m
def jJ (g:aW) (x:List B) (o:aK) :aW:=cy ⟨some (cX g.idsZ.l (dS g.idsZ.l x) x),some (cX g.opsZ.l (dS g.idsZ.l x) o)⟩
theorem VZ (g:aW) (v:eE g) (bF:g.idsZ.l.length=g.opsZ.l.length) (bH:g.idsZ.l.length<1000) (x:List B) (S:x.length=32) (o:aK) (bi:dk o) :
  aU 214 [cr g,.af (ao x),.af (aw o)] (cr (jJ g x o)):=by
 apply a2 func214 [[],cT 0 5++[[6],[7]]++cT 9 4++[[5,10,7,6],[8,10]],cT 0 5++[[6],[7]]++cT 9 4++[[5,10,7,6],[8,10]]];have aJ:=du;have T:=bo S;have bp:=cG x;have bj:(aw o).length=11:=rfl;have bI:=dt o;have bC:=bO g.idsZ;have ag:bD (.Z 32) (ah g.idsZ)=_:=b9 _;obtain⟨X,t⟩:=al (ao x);obtain⟨O,Y⟩:=al (aw o);have aL:av (bZ 32 (.int .u8 0)) 0 X=X:=cD (by rw[t,T];rfl);have u:X.length=32:=by rw[t];exact T
 have Q:O.length=11:=by rw[Y];rfl
 have bh:X.take 32=X:=aI F;have aD:O.take 11=O:=aI F;have bn:av [U.int .u32 0,.ad,.int .u64 0,.int .u8 0,.str [],.int .u8 0,.i6 0,.int .u64 0,.str [],.int .u32 0,.int .u32 0] 0 O=O:=cD (by rw[Q];rfl);have aE:am X=true:=by rw[t];exact bp
 simp[cr,bb,<-t,<-Y,u,Q];obtain⟨c,R⟩:=al (dS g.idsZ.l x);have bE:c<=g.idsZ.l.length:=by rw[R];exact vY _ _
 refine bB c (fun k p l=>l=[.q 2 [ah g.idsZ,bA g.opsZ],.q 32 X,.q 11 O,.q 2 [.ad,.ad],.q 2 [.ad,.ad]]/\p 3=.ptr 0 0 2/\p 4=.ptr 1 0 32/\p 5=.ptr 2 0 11/\p 6=.ptr 3 0 2/\p 7=.ptr 4 0 2/\p 8=.i6 k) ?_ ⟨rfl,V,V,V,V,V,V⟩;rintro k p l hk ⟨rfl,ax,ay,az,aA,aB,aC⟩;obtain⟨p,rfl⟩:=n4 ax ay az aA aB aC;clear ax ay az aA aB aC;have aY:=ci (k:=k) F;by_cases aF:k<c
 ·obtain⟨y,j,aj⟩:=aQ (l:=g.idsZ.l) (k:=k) F;have ai:bP y x<0:=yw (by rw[<-R];exact aF) j;have D:k<g.idsZ.l.length:=F;have G:=v.idsZ y aj;have K:=bo G;have H:=cG y;have m:=xj y x G S;have C:bQ (.Z 32) (ah g.idsZ) _=_:=c8 j;change aU _ [.af (ao y),.af (ao x)] _ at m;rw[<-t] at m;obtain⟨aV,ae⟩:=al (ao y);rw[<-ae] at C K H m;simp[ag,D,C,K,u,aI];refine au m (by simp[am,U.ar,aE,H]) ?_;simp[ai,aY];exact aF
 ·have aG:k=c:=F;have aR:∀ y∈g.idsZ.l,(ao y).length=32:=fun y j=>bo (v.idsZ y j)
  have bq:∀ y∈g.opsZ.l,(aw y).length=11:=fun y j=>rfl
  have bG:=v.jh;have t1:dw (.Z 32) (ah g.idsZ) none (some (.i6 (k:Int))) none=some (ah (hd g.idsZ k)):=AH F;have t2:dw (.Z 32) (ah g.idsZ) (some (.i6 (k:Int))) none none=some (ah (pa g.idsZ k)):=EP F;have t3:dw (.Z 11) (bA g.opsZ) none (some (.i6 (k:Int))) none=some (bA (hd g.opsZ k)):=AH F;have t4:dw (.Z 11) (bA g.opsZ) (some (.i6 (k:Int))) none none=some (bA (pa g.opsZ k)):=EP F;obtain⟨I,w⟩:=al (cX g.idsZ.l k x);obtain⟨J,P⟩:=al (cX g.opsZ.l k o);obtain⟨bs,aZ⟩:=al (((g.idsZ.l.take k).map ao).flatten);obtain⟨bt,a0⟩:=al (((g.idsZ.l.take k++[x]).map ao).flatten);obtain⟨bv,a1⟩:=al (((g.opsZ.l.take k).map aw).flatten);obtain⟨bw,a3⟩:=al (((g.opsZ.l.take k++[o]).map aw).flatten);obtain⟨W,aS,ak⟩:=DQ (enc:=ao) (z:=32) (by_:=32) (l:=[.q 2 [ah g.idsZ,bA g.opsZ],.q 32 X,.q 11 O,.q 2 [.ad,.ad],.q 2 [.ad,.ad],.q 0 [],.q 32 X]) (b:=5) (c:=6) (k:=k) (s:=g.idsZ) (x:=x) rfl (by rw[t];rfl) F F aR T F F (by rw[aJ];omega);obtain⟨ap,aT,aq⟩:=DQ (enc:=aw) (z:=11) (by_:=112) (l:=[.q 2 [ah g.idsZ,bA g.opsZ],.q 32 X,.q 11 O,.q 2 [.ad,.ad],.q 2 [ah (some I),.ad],.dead,.q 32 X,.q 0 [],.q 11 O]) (b:=7) (c:=8) (k:=k) (s:=g.opsZ) (x:=o) rfl (by rw[Y];rfl) F F bq bj F F (by rw[aJ];omega);change dZ _ _ _ _ (ah _)=_ at W ak;change dZ _ _ _ _ (bA _)=_ at ap aq;simp only[<-w,<-aZ,<-a0,x0,te] at W aS ak;simp only[<-P,<-a1,<-a3,x0,te] at ap aT aq;have a7:∀ y∈I,(ao y).length=32:=fun y j=>by
   rw[w,jD] at j;rcases j with h | h
   ·rw[h];exact T
   ·exact aR y h
  have bd:∀ y∈J,(aw y).length=11:=fun y j=>rfl
  have a4:U.bu 32 (I.map ao)=ah (some I):=rfl;have a8:U.bu 11 (J.map aw)=bA (some J):=rfl;have a5:=fi (some I);have a9:(bA (some J)).cells=some [bA (some J)]:=rfl;have a6:=bO (some I);have bc:=ip (some J);have bx:=fi (cy ⟨some I,some J⟩).idsZ;have bz:(bA (cy ⟨some I,some J⟩).opsZ).cells=some [bA (cy ⟨some I,some J⟩).opsZ]:=by cases (cy ⟨some I,some J⟩).opsZ<;>rfl
  have bf:=bO (cy ⟨some I,some J⟩).idsZ;have bg:=ip (cy ⟨some I,some J⟩).opsZ;have br:eE ⟨some I,some J⟩:=by
   refine⟨fun y j=>?_,fun q bk=>?_,?_,?_⟩
   ·have aO:y∈I:=j;rw[w,jD] at aO;rcases aO with h | h
    ·rw[h];exact S
    ·exact v.idsZ y h
   ·have aH:q∈J:=bk;rw[P,jD] at aH;rcases aH with h | h
    ·rw[h];exact bi
    ·exact v.opsZ q h
   ·show I.length<=_;rw[w,h9];omega
   ·show J.length<=_;rw[P,h9];omega
  have aM:=z7 ⟨some I,some J⟩ br;unfold cr bb at aM;have bl:jJ g x o=cy ⟨some I,some J⟩:=by unfold jJ;rw[w,P,aG,R]
  by_cases D:k<g.idsZ.l.length
  all_goals first
   | (
     obtain⟨y,j,aj⟩:=aQ D;have ai:¬ bP y x<0:=yv (by rw[<-R,<-aG];exact j);have G:=v.idsZ y aj;have K:=bo G;have H:=cG y;have m:=xj y x G S;have C:bQ (.Z 32) (ah g.idsZ) _=_:=c8 j;change aU _ [.af (ao y),.af (ao x)] _ at m;rw[<-t] at m;obtain⟨aV,ae⟩:=al (ao y);rw[<-ae] at C K H m;simp[ag,D,C,K,u,aI];refine au m (by simp[am,U.ar,aE,H]) ?_;simp[ai,t1,t2,u,aL,aI,W])
   | simp[ag,D,t1,t2,u,aL,aI,W]
  all_goals
   refine bR.bm ?_;simp[u,bh,aS];refine bR.bm ?_;simp[ak];refine bR.oH (by exact ly a7 rfl rfl) rfl ?_;simp[a4,a5,t3,t4,Q,aD,bn,ap];refine bR.bm ?_;simp[Q,aD,aT];refine bR.bm ?_;simp[aq];refine bR.oH (by exact ly bd rfl rfl) rfl ?_;simp[a8,a9,av];refine au aM (by simp[am,U.ar,a6,bc]) ?_;simp[av];rw[bl];exact aP rfl (show (U.af [ah (cy ⟨some I,some J⟩).idsZ,bA (cy ⟨some I,some J⟩).opsZ]).ar=true by simp[U.ar,am,bf,bg])
theorem y8 {l:aR} (h:b8 l=true) {x:List B} (g:x∉l) :b8 (cX l (dS l x) x)=true:=by have:=Is h x;unfold jC at this;rw[ai (fun e=>g (cJ e))] at this;exact this
theorem R3 {alZ g:Type} {a:List alZ} {b:List g} (h:a.length=b.length) (k:Nat) (x:alZ) (y:g) :(cX a k x).zip (cX b k y)=cX (a.zip b) k (x,y):=by unfold cX;rw[List.zip_append (by rw[cL,cL,h]),List.zip_cons_cons];rw[FG,FG,FG,List.take_zipWith,List.drop_zipWith]
structure vv (g h:aW) (x:List B) (o:aK) :Prop where
 len:h.idsZ.l.length=h.opsZ.l.length
 n60:h.opsZ.l.length<=60
 b8:b8 h.idsZ.l=true
 mem:∀ (y:List B) (q:aK),(∃ k:Nat,h.idsZ.l[k]?=some y/\h.opsZ.l[k]?=some q)<->((y=x/\q=o)\/∃ j:Nat,g.idsZ.l[j]?=some y/\g.opsZ.l[j]?=some q)
theorem vv.idsZ {g j:aW} {x:List B} {o:aK} (M:vv g j x o) (u:g.idsZ.l.length=g.opsZ.l.length) (y:List B) :y∈j.idsZ.l<->y=x\/y∈g.idsZ.l:=by
 have h1:=M.len;constructor
 ·intro h;obtain⟨k,hk⟩:=cp.1 h;obtain⟨q,m,_⟩:=aQ (l:=j.opsZ.l) (k:=k) (by have:=(aL.1 hk).1;omega);rcases (M.mem y q).1 ⟨k,hk,m⟩ with ⟨a,_⟩ | ⟨p,a,_⟩
  ·exact .inl a
  ·exact .inr (cJ a)
 ·intro h;rcases h with rfl | h
  ·obtain⟨k,hk,_⟩:=(M.mem y o).2 (.inl ⟨rfl,rfl⟩);exact cJ hk
  ·obtain⟨p,t⟩:=cp.1 h;obtain⟨q,m,_⟩:=aQ (l:=g.opsZ.l) (k:=p) (by have:=(aL.1 t).1;omega);obtain⟨k,hk,_⟩:=(M.mem y q).2 (.inr ⟨p,t,m⟩);exact cJ hk
theorem Tx {g j:aW} {x:List B} {o:aK} (T:eT g=0) (M:vv g j x o) (ao:x∉g.idsZ.l) (ae:eh o=0) (V:bf o=x) (I:∀ p∈o.ax.l,p∈g.idsZ.l) :eT j=0:=by
 have w:=kR T;have R:=M.len;have G:=M.idsZ w.len;have al:=mL w.b8;have W:∀ i,mw g.idsZ.l g.opsZ.l i->∀ y q,g.idsZ.l[i]?=some y->g.opsZ.l[i]?=some q->∀ k:Nat,j.idsZ.l[k]?=some y->mw j.idsZ.l j.opsZ.l k:=by
  intro i U
  induction U with
  | mk i am J X S=>
   intro y q t u k hk;have Q:j.opsZ.l[k]?=some q:=by
    obtain⟨ah,D,z⟩:=(M.mem y q).2 (.inr ⟨i,t,u⟩);rw[Ee M.b8 hk D];exact z
   rw[me u] at J X S;refine .mk k (aL.1 hk).1 (fun p m=>(G p).2 (.inr (J p (by rw[me Q] at m;exact m)))) fun p m O K=>?_
   rw[me Q] at m;obtain⟨v,C⟩:=cp.1 (J p m);obtain⟨r,H,_⟩:=aQ (l:=g.opsZ.l) (k:=v) (by have:=(aL.1 C).1;have:=w.len;omega);exact S p m v C p r C H O K
 have P:∀ (k:Nat) (y:List B),j.idsZ.l[k]?=some y->y∈g.idsZ.l->mw j.idsZ.l j.opsZ.l k:=fun k y hk t=>by
  obtain⟨v,C⟩:=cp.1 t;obtain⟨r,H,_⟩:=aQ (l:=g.opsZ.l) (k:=v) (by have:=(aL.1 C).1;have:=w.len;omega);exact W v (w.all v (aL.1 H).1) y r C H k hk
 have Y:jN j.idsZ.l j.opsZ.l=0:=by
  unfold jN;rw[ak M.b8,ak,ak]
  ·refine (DB R (mL M.b8)).2 fun i aj=>?_
   obtain⟨y,t,ag⟩:=aQ (l:=j.idsZ.l) (k:=i) F;rcases (G y).1 ag with rfl | h
   ·have u:j.opsZ.l[i]?=some o:=by
     obtain⟨ah,D,z⟩:=(M.mem y o).2 (.inl ⟨rfl,rfl⟩);rw[Ee M.b8 t D];exact z
    refine .mk i (aL.1 t).1 (fun p m=>(G p).2 (.inr (I p (by rw[me u] at m;exact m)))) fun p m O K=>?_
    rw[me u] at m;exact P O p K (I p m)
   ·exact P i y t h
  ·unfold p2 gT;rw[bK];intro q u;rw[bK];intro p m;obtain⟨k,hk⟩:=cp.1 u;obtain⟨y,t,_⟩:=aQ (l:=j.idsZ.l) (k:=k) (by have:=(aL.1 hk).1;omega);refine (G p).2 ?_;rcases (M.mem y q).1 ⟨k,t,hk⟩ with ⟨_,rfl⟩ | ⟨v,_,z⟩
   ·exact .inr (I p m)
   ·exact .inr (w.Dx q (cJ z) p m)
 unfold eT;rw[ai (by have:=M.n60;omega),ak R,ak,Y];rw[sg];intro k hk;obtain⟨q,u,_⟩:=aQ hk;obtain⟨y,t,_⟩:=aQ (l:=j.idsZ.l) (k:=k) F;have:eh q=0/\bf q=y:=by
  rcases (M.mem y q).1 ⟨k,t,u⟩ with ⟨rfl,rfl⟩ | ⟨v,D,z⟩
  ·exact⟨ae,V⟩
  ·exact w.H9 v q y z D
 rw[wi u t,b7 this.1,b7 this.2];rfl
theorem CI {g:aW} (t:g.idsZ.l.length=g.opsZ.l.length) (y:List B) :y∈eU g<->y∈g.idsZ.l/\∀ q∈g.opsZ.l,y∉q.ax.l:=by
 unfold eU ir lY;rw[dx,bK];refine and_congr Iff.rfl ⟨fun h q m=>?_,fun h o j=>?_⟩
 ·obtain⟨o,j⟩:=cp.1 m;have:=h o (aL.1 j).1;rw[jG j] at this;exact this
 ·obtain⟨q,m,p⟩:=aQ j;rw[jG m];exact h q p
theorem CJ {g:aW} (h:b8 g.idsZ.l=true) :b8 (eU g)=true:=uz ((o4 h).sublist kn)
def si (h:aR) (x:List B) (o:aK) :aR:=
 cX (h.filter fun y=>!decide (y∈o.ax.l)) (dS (h.filter fun y=>!decide (y∈o.ax.l)) x) x
theorem Ty {g u:aW} {x:List B} {o:aK} (G:eT g=0) (M:vv g u x o) (w:x∉g.idsZ.l) (K:∀ p∈o.ax.l,p∈g.idsZ.l) :eU u=si (eU g) x o:=by
 have j:=kR G;have I:=M.idsZ j.len;have H:b8 ((eU g).filter fun y=>!decide (y∈o.ax.l))=true:=uz ((o4 (CJ j.b8)).sublist kn);have O:x∉(eU g).filter fun y=>!decide (y∈o.ax.l):=fun h=>w ((CI j.len x).1 (dx.1 h).1).1
 refine EC (lt:=eM) Db ui (o4 (CJ M.b8)) (o4 (y8 H O)) fun y=>?_
 unfold si;rw[CI M.len,jD,dx,CI j.len,I];have J:(∀ q∈u.opsZ.l,y∉q.ax.l)<->(y∉o.ax.l/\∀ q∈g.opsZ.l,y∉q.ax.l):=by
  constructor
  ·intro h;refine⟨?_,fun q t=>?_⟩
   ·obtain⟨k,_,a⟩:=(M.mem x o).2 (.inl ⟨rfl,rfl⟩);exact h o (cJ a)
   ·obtain⟨C,F⟩:=cp.1 t;obtain⟨D,z,_⟩:=aQ (l:=g.idsZ.l) (k:=C) (by have:=(aL.1 F).1;have:=j.len;omega);obtain⟨k,_,a⟩:=(M.mem D q).2 (.inr ⟨C,z,F⟩);exact h q (cJ a)
  ·rintro⟨h1,m⟩ q t;obtain⟨k,hk⟩:=cp.1 t;obtain⟨D,z,_⟩:=aQ (l:=u.idsZ.l) (k:=k) (by have:=(aL.1 hk).1;have:=M.len;omega);rcases (M.mem D q).1 ⟨k,z,hk⟩ with ⟨_,rfl⟩ | ⟨C,_,a⟩
   ·exact h1
   ·exact m q (cJ a)
 rw[J];simp only[vc,decide_eq_false_iff_not];constructor
 ·rintro⟨h1 | h1,m,v⟩
  ·exact .inl h1
  ·exact .inr ⟨⟨h1,v⟩,m⟩
 ·rintro (rfl | ⟨⟨h1,v⟩,m⟩)
  ·exact⟨.inl rfl,fun h=>w (K y h),fun q t h=>w (j.Dx q t y h)⟩
  ·exact⟨.inr h1,m,v⟩
def iE (p:aW) (x:List B) (o:aK) :aW:=⟨some (cX p.idsZ.l (dS p.idsZ.l x) x),some (cX p.opsZ.l (dS p.idsZ.l x) o)⟩
def fu (s:cf) (x:List B) (o:aK) :cf:=⟨some (s.aj.l.set (num x s.aj.l.length) (iE (dp s.aj.l (num x s.aj.l.length)) x o)),some (si s.bI.l x o),s.bN+1⟩
theorem zY (s:cf) (x:List B) (o:aK) :(fu s x o).aj.l.length=s.aj.l.length:=by show (s.aj.l.set _ _).length=_;rw[ko]
theorem zW {p:aW} (h:p.idsZ.l.length=p.opsZ.l.length) {x:List B} {o:aK} (q:List B × aK) :(∃ a:Nat,(iE p x o).idsZ.l[a]?=some q.1/\(iE p x o).opsZ.l[a]?=some q.2)<->(q=(x,o)\/∃ a:Nat,p.idsZ.l[a]?=some q.1/\p.opsZ.l[a]?=some q.2):=by
 have h1:(∃ a:Nat,(iE p x o).idsZ.l[a]?=some q.1/\(iE p x o).opsZ.l[a]?=some q.2)<->q∈(cX p.idsZ.l (dS p.idsZ.l x) x).zip (cX p.opsZ.l (dS p.idsZ.l x) o):=by
  rw[cp];exact exists_congr fun a=>by rw[tb];rfl
 have g:(∃ a:Nat,p.idsZ.l[a]?=some q.1/\p.opsZ.l[a]?=some q.2)<->q∈p.idsZ.l.zip p.opsZ.l:=by
  rw[cp];exact exists_congr fun a=>by rw[tb]
 rw[h1,g,R3 h,jD]
theorem ry {s:cf} (h:e1 s) :nr s.aj.l:=⟨fun j g=>(jT.1 h.wf j g).1,fun j g=>(jT.1 h.wf j g).2,wT h.al⟩
theorem pg {s:cf}:(bL (bC s)).idsZ.l=(bC s).map (·.1):=by unfold bL;simp only[dh]
theorem xM {s:cf}:(bL (bC s)).opsZ.l=(bC s).map (·.2):=by unfold bL;simp only[dh]
theorem DI {s:cf} (h:e1 s) {p:aW} (j:p∈s.aj.l) {y:List B} (o:y∈p.idsZ.l) :y∈(bL (bC s)).idsZ.l:=by have W:=ry h;obtain⟨a,g⟩:=cp.1 o;obtain⟨q,m,_⟩:=aQ (l:=p.opsZ.l) (k:=a) (by have:=(aL.1 g).1;have:=W.len p j;omega);rw[pg];exact cE.2 ⟨(y,q),(n9 W _).2 ⟨p,j,a,g,m⟩,rfl⟩
theorem Kl {s:cf} (h:e1 s) {x:List B} {o:aK} (I:x∉(bL (bC s)).idsZ.l) :kQ (fu s x o).aj.l=true/\n5 (fu s x o).aj.l=true/\nr (fu s x o).aj.l:=by
 have W:=ry h;have H:=zY s x o;have v:num x s.aj.l.length<s.aj.l.length:=by unfold num;exact mv _ (by have:=h.gN;omega)
 obtain⟨p,m,u⟩:=aQ v;have J:x∉p.idsZ.l:=fun G=>I (DI h u G)
 have z:dp s.aj.l (num x s.aj.l.length)=p:=dq m;have q:=h.al;unfold kQ at q;rw[bK] at q;have D:(fu s x o).aj.l=s.aj.l.set (num x s.aj.l.length) (iE p x o):=by
  show s.aj.l.set _ (iE (dp s.aj.l _) x o)=_;rw[z]
 have w:kQ (fu s x o).aj.l=true:=by
  unfold kQ;rw[bK,H,D];intro i C y j;by_cases e:i=num x s.aj.l.length
  ·subst e;rw[dq (bY v)] at j;rcases jD.1 (show y∈cX p.idsZ.l _ x from j) with rfl | j
   ·rfl
   ·exact q _ v y (by rw[z];exact j)
  ·obtain⟨r,g,_⟩:=aQ (l:=s.aj.l) (k:=i) C;rw[dq (by rw[bj (fun F=>e F.symm)];exact g)] at j;exact q i C y (by rw[dq g];exact j)
 have t:n5 (fu s x o).aj.l=true:=by
  refine jT.2 fun r g=>?_
  rw[D] at g;rcases oh g with g | rfl
  ·exact jT.1 h.wf r g
  ·refine⟨?_,y8 (W.b8 p u) J⟩;show (cX p.idsZ.l _ x).length=(cX p.opsZ.l _ o).length;rw[h9,h9,W.len p u]
 exact⟨w,t,fun p m=>(jT.1 t p m).1,fun p m=>(jT.1 t p m).2,wT w⟩
theorem Fe {s:cf} (h:e1 s) {x:List B} {o:aK} (D:x∉(bL (bC s)).idsZ.l) :bC (fu s x o)=cX (bC s) (dS (bL (bC s)).idsZ.l x) (x,o):=by
 have W:=ry h;obtain⟨_,_,v⟩:=Kl (o:=o) h D;have G:=kR h.kB;have C:num x s.aj.l.length<s.aj.l.length:=by unfold num;exact mv _ (by have:=h.gN;omega)
 obtain⟨m,z,t⟩:=aQ C;have J:(fu s x o).aj.l=s.aj.l.set (num x s.aj.l.length) (iE m x o):=by
  show s.aj.l.set _ (iE (dp s.aj.l _) x o)=_;rw[dq z]
 refine zV (xN v) ?_ fun q=>?_
 ·have h1:=o4 (y8 G.b8 D);have I:cX (bL (bC s)).idsZ.l (dS (bL (bC s)).idsZ.l x) x=(cX (bC s) (dS (bL (bC s)).idsZ.l x) (x,o)).map (·.1):=by
   unfold cX;rw[cV,dg,i2,og,pg]
  rw[I,nj] at h1;exact h1
 ·rw[n9 v,jD,n9 W,J];constructor
  ·rintro⟨r,p,a,g,j⟩;rcases oh p with p | rfl
   ·exact .inr ⟨r,p,a,g,j⟩
   ·rcases (zW (W.len m t) q).1 ⟨a,g,j⟩ with h | ⟨a,g,j⟩
    ·exact .inl h
    ·exact .inr ⟨m,t,a,g,j⟩
  ·have w:iE m x o∈s.aj.l.set (num x s.aj.l.length) (iE m x o):=cp.2 ⟨_,bY C⟩;rintro (rfl | ⟨r,p,a,g,j⟩)
   ·obtain⟨a,b⟩:=(zW (x:=x) (o:=o) (W.len m t) (x,o)).2 (.inl rfl);exact⟨_,w,a,b⟩
   ·obtain⟨F,u⟩:=cp.1 p;by_cases e:F=num x s.aj.l.length
    ·subst e;rw[z] at u;obtain rfl:=cc u;obtain⟨a,b⟩:=(zW (x:=x) (o:=o) (W.len m t) q).2 (.inr ⟨a,g,j⟩);exact⟨_,w,a,b⟩
    ·exact⟨r,cp.2 ⟨F,by rw[bj (fun H=>e H.symm)];exact u⟩,a,g,j⟩
theorem Jb {s:cf} (h:e1 s) {x:List B} {o:aK} (t:x∉(bL (bC s)).idsZ.l) (w:s.bN<60) :vv (bL (bC s)) (bL (bC (fu s x o))) x o:=by
 have g:=kR h.kB;have C:=h.jS;have e:=Fe (o:=o) h t;have j:(bL (bC (fu s x o))).idsZ.l=cX (bL (bC s)).idsZ.l (dS (bL (bC s)).idsZ.l x) x:=by
  rw[pg,e];unfold cX;rw[cV,dg,i2,og,pg]
 have m:(bL (bC (fu s x o))).opsZ.l=cX (bL (bC s)).opsZ.l (dS (bL (bC s)).idsZ.l x) o:=by
  rw[xM,e];unfold cX;rw[cV,dg,i2,og,xM]
 have z:(bL (bC s)).opsZ.l.length=(bC s).length:=by rw[xM,ce]
 refine⟨by rw[j,m,h9,h9,g.len],by rw[m,h9];omega,by rw[j];exact y8 g.b8 t,fun y q=>?_⟩;have:=zW (p:=bL (bC s)) g.len (x:=x) (o:=o) (y,q);have u:(iE (bL (bC s)) x o).idsZ.l=(bL (bC (fu s x o))).idsZ.l:=by rw[j];rfl
 have v:(iE (bL (bC s)) x o).opsZ.l=(bL (bC (fu s x o))).opsZ.l:=by rw[m];rfl
 rw[u,v,Prod.mk.injEq] at this;exact this
theorem Kk {s:cf} (h:e1 s) {x:List B} {o:aK} (g:x∉(bL (bC s)).idsZ.l) (t:s.bN<60) (v:eh o=0) (u:bf o=x) (j:∀ p∈o.ax.l,p∈(bL (bC s)).idsZ.l) :e1 (fu s x o):=by
 have M:=Jb (o:=o) h g t;obtain⟨m,q,_⟩:=Kl (o:=o) h g;refine⟨by rw[zY];exact h.gN,by rw[zY];exact h.q3,m,q,Tx h.kB M g v u j,?_,?_⟩
 ·rw[Fe h g,h9];show s.bN+1=_;rw[h.jS];omega
 ·rw[Ty h.kB M g j,h.tV];rfl
theorem Vq {s:cf} (h:e1 s) {x:List B} {o:aK} (m:x∉(bL (bC s)).idsZ.l) :jJ (ct s) x o=ct (fu s x o):=by
 have e:=Fe (o:=o) h m;have u:(ct s).idsZ.l=(bL (bC s)).idsZ.l:=rfl;have g:(bL (bC (fu s x o))).idsZ.l=cX (bL (bC s)).idsZ.l (dS (bL (bC s)).idsZ.l x) x:=by
  rw[pg,e];unfold cX;rw[cV,dg,i2,og,pg]
 have j:(bL (bC (fu s x o))).opsZ.l=cX (bL (bC s)).opsZ.l (dS (bL (bC s)).idsZ.l x) o:=by
  rw[xM,e];unfold cX;rw[cV,dg,i2,og,xM]
 have t:(ct s).opsZ.l=(bL (bC s)).opsZ.l.map cw:=m9 _;unfold jJ ct;have p:(cy (bL (bC s))).idsZ.l=(bL (bC s)).idsZ.l:=rfl;have q:(cy (bL (bC s))).opsZ.l=(bL (bC s)).opsZ.l.map cw:=m9 _;rw[p,q];unfold cy;simp only[b1.pT];rw[g,j];congr 2;unfold cX;simp only[cV,dg,i2,og,iL];rfl
theorem Km {s:cf} (h:e1 s) {x:List B} {o:aK} (j:x∉(bL (bC s)).idsZ.l) (q:s.bN<60) (v:eh o=0) (t:bf o=x) (u:∀ p∈o.ax.l,p∈(bL (bC s)).idsZ.l) :
  eT (jJ (ct s) x o)=0/\hW (fu s x o) (hz (jJ (ct s) x o) s.aj.l.length)=true:=by have W:=Kk h j q v t u;rw[Vq h j];obtain⟨_,_,m,g⟩:=Ex (Lp W);rw[zY] at g;exact⟨m,g⟩
def nS (s:cW) (x:List B) (o:aK) :cW:=⟨s.cap,fu s.aD x o,some (s.az.l++[x])⟩
theorem UJ {g:aW} (q:vx g) {l:aR} (h:FY g l) :kS g l=true:=by
 unfold kS;rw[bK];intro i z;obtain⟨x,m,p⟩:=aQ z;obtain⟨B,o⟩:=cp.1 (h.sub x p);unfold hC;rw[dI m,bU,bU,bK,vc,decide_eq_false_iff_not];refine⟨h.sub x p,fun w=>?_,?_⟩
 ·obtain⟨a,j⟩:=cp.1 w;have v:=(aL.1 j).1;rw[cL] at v;rw[dQ F] at j;obtain⟨t,u⟩:=aL.1 j;obtain⟨d1,d2⟩:=aL.1 m;exact kq.1 h.lv a i t d1 F (by rw[u,d2])
 ·rw[ua (mL q.b8) o,fo];unfold gT;rw[bK];exact h.pre i x B m o
theorem AD {s:cW} (h:gJ s) (x:List B) :x∈s.az.l<->x∈(bL (bC s.aD)).idsZ.l:=by
 have m:=kR h.aD.kB;have g:=Mb m h.ord;refine⟨g.sub x,fun q=>?_⟩;refine Classical.byContradiction fun o=>?_
 have p:(x::s.az.l).Nodup:=vk.2 ⟨o,g.lv⟩;have:=LW p fun y j=>by
  rcases kp.1 j with rfl | j
  ·exact q
  ·exact g.sub y j
 rw[pg,ce] at this;have h1:=h.le;have t:=h.aD.jS;simp at this;omega
theorem Ui {s:cW} (h:gJ s) {x:List B} {o:aK} (v:x∉s.az.l) (ai:s.aD.bN≠s.cap) (ah:eh o=0) (U:bf o=x) (K:∀ p∈o.ax.l,p∈s.az.l) :gJ (nS s x o):=by
 have w:x∉(bL (bC s.aD)).idsZ.l:=fun T=>v ((AD h x).2 T)
 have Y:∀ p∈o.ax.l,p∈(bL (bC s.aD)).idsZ.l:=fun p ae=>(AD h p).1 (K p ae)
 have G:s.aD.bN<60:=by have:=h.jS;have:=h.tC;omega
 have W:=Kk h.aD w G ah U Y;have M:=Jb (o:=o) h.aD w G;have z:=kR h.aD.kB;have C:=kR W.kB;have u:=Mb z h.ord;have J:=M.idsZ z.len;refine⟨h.j0,h.tC,W,?_,?_,UJ C ⟨?_,fun y m=>?_,fun i y j m I q ag=>?_⟩⟩
 ·show s.aD.bN+1<=s.cap;have:=h.jS;omega
 ·show ((s.az.l++[x]).length:Int)=s.aD.bN+1;rw[cI,<-h.le];simp
 ·show (s.az.l++[x]).Nodup;rw[FD];exact⟨u.lv,V,fun a R b H e=>by simp at H;subst H;subst e;exact v R⟩
 ·have g:y∈s.az.l++[x]:=m;rcases fE.1 g with m | m
  ·exact (J y).2 (.inr (u.sub y m))
  ·exact (J y).2 (.inl (fQ.1 m))
 ·have g:(s.az.l++[x])[i]?=some y:=m;show q∈(s.az.l++[x]).take i;obtain⟨r,P,_⟩:=aQ (l:=(bL (bC (fu s.aD x o))).opsZ.l) (k:=j) (by have:=(aL.1 I).1;have:=C.len;show j<_;omega);have O:q∈r.ax.l:=by
   have h1:q∈dO (bL (bC (fu s.aD x o))).opsZ.l j:=ag;rw[me P] at h1;exact h1
  rcases (M.mem y r).1 ⟨j,I,P⟩ with ⟨rfl,rfl⟩ | ⟨k,D,Q⟩
  ·have X:i=s.az.l.length:=by
    rcases fF i s.az.l.length with t | S
    ·rw[aV t] at g;exact bV (cJ g) v
    ·have:=(aL.1 g).1;simp at this;omega
   rw[X,List.take_left];exact K q O
  ·have t:i<s.az.l.length:=by
    rcases fF i s.az.l.length with t | S
    ·exact t
    ·have:=(aL.1 g).1;have e:i=s.az.l.length:=by simp at this;omega
     rw[e,od] at g;obtain rfl:=cc g;exact bV (cJ D) w
   rw[aV t] at g;rw[il F];exact u.pre i y k g D q (by rw[me Q];exact O)
def ix (s:cW) (o:aK) :Int:=if bf o∈s.az.l then 5 else if ∀ g∈o.ax.l,g∈s.az.l then (if s.aD.bN=s.cap then 8 else 1) else 6
end Op
namespace Op
section
variable {alZ:Type} {enc:alZ->ag} {z:Nat}
theorem yW {a:List alZ} (h:∀ y∈a,(enc y).length=z) :((a.map enc).flatten).length=a.length*z:=by
 induction a with
 | nil=>simp
 | cons x r j=>
  rw[dg,hj,cI,j (fun y g=>h y (by simp[g])),h x V,dM,eP];omega
theorem R7 {a:List alZ} (h:∀ y∈a,(enc y).length=z) {n i:Nat} (o:a.length=n) (v:i<=n) (x:alZ) :iu z (a.map enc).flatten (enc x) i n=((cX a i x).map enc).flatten:=by
 have m:a.map enc=(a.take i).map enc++(a.drop i).map enc:=by rw[<-cV,i3]
 have w:((a.take i).map enc).flatten.length=i*z:=by
  rw[yW (fun j g=>h j (gy g)),cL,i5 F]
 have u:((a.drop i).map enc).flatten.length=(n - i)*z:=by
  rw[yW (fun j g=>h j (vj g)),i1,o]
 unfold iu cX;have h1:((a.map enc).flatten).take (i*z)=((a.take i).map enc).flatten:=by
  rw[m,jr,il F,aI F]
 have p:((a.map enc).flatten).drop (i*z)=((a.drop i).map enc).flatten:=by
  rw[m,jr,ob F,qn F,h2]
 have q:(((a.drop i).map enc).flatten).take ((n - i)*z)=((a.drop i).map enc).flatten:=aI F;have t:((a.map enc).flatten).drop ((n+1)*z)=[]:=qn (by rw[yW h,o,eP];omega);rw[h1,p,q,t,eJ];simp
theorem Sf {P:bp} {G:Nat->U} {f g m e by_:Nat} (L:qx P f g m e z) (t:gh P g=some e) (C:ca P e=some z) (w:gK P e=some by_) (o:0<z) (u:0<by_) (D:mq P e=some z)
  {l:ae} {bv:Nat} {x:alZ} (v:l[bv]?=some (.q z (enc x))) (B:by_<=dj)
  {K:cB} (p:K (.Z z l.length 0 1 1 z) (l++[.q z (enc x)])) :
  fR P G f [.ad,.i6 0,.Z z bv 0 1 1 z] l (c:=⟨K⟩):=by have j:=Iw (P:=P) (G:=G) (h:=aZ l) L t C w o u D (bv:=bv) (hJ.2 v) B;rw[BA,lO] at j;exact⟨_,_,.ext j,V,p⟩
end
end Op
end Go.bh
namespace Go.bh
open Go Go.Proofs Go.Proofs.Tryz Go.Shelf Go.RowKit Go.Lib
set_option maxHeartbeats 4000000
theorem Sa (base:Option Addr) (n c j h m:Nat) (r:aE) (w w' : aT) (v:n<=c) (u:n<=4611686018427387904) (p:base=none->n=0/\c=0)
  (g:(Builtin.append_ #[23,23] 23 #[.slice base n c,.slice (some ⟨h,m,none⟩) 1 j]).run prog w=.ok r w') :
  Calls prog 158 #[.slice base n c,.int .i64 n,.slice (some ⟨h,m,none⟩) 1 j] w fun e w2=>e=.returned r/\w2=w':=by
 have B:=Tryz.underlying23;have z:=checked.mixed
 go_enter func158,Tryz.ntmps158
 cases base with
 | none=>
  obtain⟨o,h1⟩:=p rfl;subst o h1
  go_wp2_with (at_builtin;refine Lib.wpList_append_run _ rfl _ _ _ _ rfl _ _ rfl rfl _ _ g ?_)
  go_ret
  exact⟨rfl,rfl⟩
 | some a=>
  obtain⟨ab,q,t⟩:=a
  go_wp2_with (at_builtin;refine Lib.wpList_append_run _ rfl _ _ _ _ rfl _ _ rfl rfl _ _ g ?_)
  all_goals (go_ret;exact⟨rfl,rfl⟩)
theorem Sg (b off n c i g h j:Nat) (J K:aE) (w q hM:aT) (t ec:aG) (mM o:Nat) (W:i<n) (Y:n+1<=c) (Q:n<=4611686018427387904) (I:g≠b)
  (G:w.shape? g=some (t,mM)) (H:w.shape? b=some (ec,o)) (C:o≠0) (z:w.frozen? ⟨g,h,none⟩=false) (B:w.frozen? ⟨g,mM,none⟩=false)
  (u:(Builtin.copy_ #[23,23] 3 #[.slice (some ⟨b,off+(i+1)*32,none⟩) (n - i) (c - (i+1)),.slice (some ⟨b,off+i*32,none⟩) (n+1 - i) (c - i)]).run prog w.drew=.ok J q)
  (v:(Builtin.copy_ #[23,23] 3 #[.slice (some ⟨b,off+i*32,none⟩) (n+1 - i) (c - i),.slice (some ⟨g,h,none⟩) 1 j]).run prog q=.ok K hM) :
  Calls prog 158 #[.slice (some ⟨b,off,none⟩) n c,.int .i64 i,.slice (some ⟨g,h,none⟩) 1 j] w fun e w2=>e=.returned (.slice (some ⟨b,off,none⟩) (n+1) c)/\w2=hM:=by
 have O:=Tryz.underlying23;have P:∀ w,(Go.sizeOf 57).run prog w=.ok 32 w:=fun w=>ez bn
 have aj:=checked.mixed;have D:∀ p m,(callFunc 209 #[.slice (some ⟨g,h,none⟩) 1 j,.slice (some ⟨b,off+(i+1)*32,none⟩) p m]).run prog w=.ok (.value (.bool false)) w:=fun p m=>by
  rw[run_callFunc_extern func209 bn bn bn (e:=Extern.SlicesOverlaps.overlaps #[23,23] #[4]) bn,
   Lib.run_overlaps_apart w 23 4 57 O 32 P ⟨g,h,none⟩ ⟨b,off+(i+1)*32,none⟩ 1 j p m I t ec mM o G H C z B]
  rfl
 have ai:¬ ((i:Int)=(n:Int)):=F;have ag:IntKind.i64.wrap ((i:Int)+1)=(i:Int)+1:=by rw[IntKind.wrap_i64];omega
 have ah:IntKind.i64.wrap ((n:Int)+1)=(n:Int)+1:=by rw[IntKind.wrap_i64];omega
 have R:(0:Int)<=(i:Int)+1:=F;have X:i<=n:=F;have ae:((i:Int)+1).toNat=i+1:=F;have S:¬ (c=i+1):=F;have T:(i:Int)<=(n:Int)+1:=F;have U:¬ (c=i):=F;have V:¬ ((c:Int)<(n:Int)+1):=F
 go_enter func158,Tryz.ntmps158
 go_wp2_with (simp only[D])
 go_region_law_o (refine step_copy_runI rfl _ _ 23 23 rfl _ _ (by simp[Act.eval,Act.put]) (by simp[Act.eval,Act.put]) u ?_)
 go_wp2_with (at_builtin;refine wpList_copy_runI _ rfl _ _ 23 23 rfl _ _ rfl rfl v ?_)
 go_ret
 exact⟨rfl,rfl⟩
theorem Sc (b off n c i j o m N G:Nat) (u v:aE) (w g h hM:aT) (O:i<n) (Q:n<=c) (R:c<n+1) (B:n+1<=G) (z:n<=4611686018427387904)
  (p:(Builtin.append_ #[23,3] 23 #[.slice (some ⟨b,off,none⟩) i c,.int .i64 ((n:Int)+1 - (i:Int))]).run prog w=.ok (.slice (some ⟨N,0,none⟩) (n+1) G) g)
  (q:(Builtin.copy_ #[23,23] 3 #[.slice (some ⟨N,i*32,none⟩) (n+1 - i) (G - i),.slice (some ⟨j,o,none⟩) 1 m]).run prog g=.ok u h)
  (t:(Builtin.copy_ #[23,23] 3 #[.slice (some ⟨N,(i+1)*32,none⟩) (n - i) (G - (i+1)),.slice (some ⟨b,off+i*32,none⟩) (n - i) (c - i)]).run prog h.drew=.ok v hM) :
  Calls prog 158 #[.slice (some ⟨b,off,none⟩) n c,.int .i64 i,.slice (some ⟨j,o,none⟩) 1 m] w fun e w2=>e=.returned (.slice (some ⟨N,0,none⟩) (n+1) G)/\w2=hM:=by
 have ae:=Tryz.underlying23;have ag:∀ w,(Go.sizeOf 57).run prog w=.ok 32 w:=fun w=>ez bn
 have Y:=checked.mixed;have W:¬ ((i:Int)=(n:Int)):=F;have T:IntKind.i64.wrap ((i:Int)+1)=(i:Int)+1:=by rw[IntKind.wrap_i64];omega
 have U:IntKind.i64.wrap ((n:Int)+1)=(n:Int)+1:=by rw[IntKind.wrap_i64];omega
 have V:IntKind.i64.wrap ((n:Int)+1 - (i:Int))=(n:Int)+1 - (i:Int):=by rw[IntKind.wrap_i64];omega
 have H:(0:Int)<=(i:Int)+1:=F;have P:i<=n:=F;have S:((i:Int)+1).toNat=i+1:=F;have C:¬ (G=i):=F;have D:¬ (G=i+1):=F;have K:¬ (c=i):=F;have X:(c:Int)<(n:Int)+1:=F;have I:(i:Int)<=(n:Int):=F;have J:(i:Int)<=(c:Int):=F
 go_enter func158,Tryz.ntmps158
 go_wp2_with (first
  | (at_builtin;refine Lib.wpList_append_run _ rfl _ _ _ _ rfl _ _ rfl rfl _ _ p ?_)
  | (at_builtin;refine wpList_copy_runI _ rfl _ _ 23 23 rfl _ _ rfl rfl q ?_))
 go_region_law_o (refine step_copy_runI rfl _ _ 23 23 rfl _ _ (by simp[Act.eval,Act.put]) (by simp[Act.eval,Act.put]) t ?_)
 go_wp2
 go_ret
 exact⟨rfl,rfl⟩
theorem CQ:qx prog 158 23 3 57 32:=
 ⟨Tryz.underlying23,Tryz.underlying3,Sa,Sg,Sc⟩
theorem R5 {G:Nat->U} (args:ag) (h:aM) (r:U) (h' : aM) (g:tY 32 32 args h=some (r,h')) :jU prog G 158 args h r h':=
 It CQ bn bn bn F F bn args h r h' g
theorem Sb (base:Option Addr) (n c j h m:Nat) (r:aE) (w w' : aT) (v:n<=c) (u:n<=4611686018427387904) (p:base=none->n=0/\c=0)
  (g:(Builtin.append_ #[68,68] 68 #[.slice base n c,.slice (some ⟨h,m,none⟩) 1 j]).run prog w=.ok r w') :
  Calls prog 159 #[.slice base n c,.int .i64 n,.slice (some ⟨h,m,none⟩) 1 j] w fun e w2=>e=.returned r/\w2=w':=by
 have B:=Tryz.underlying68;have z:=checked.mixed
 go_enter func159,Tryz.ntmps159
 cases base with
 | none=>
  obtain⟨o,h1⟩:=p rfl;subst o h1
  go_wp2_with (at_builtin;refine Lib.wpList_append_run _ rfl _ _ _ _ rfl _ _ rfl rfl _ _ g ?_)
  go_ret
  exact⟨rfl,rfl⟩
 | some a=>
  obtain⟨ab,q,t⟩:=a
  go_wp2_with (at_builtin;refine Lib.wpList_append_run _ rfl _ _ _ _ rfl _ _ rfl rfl _ _ g ?_)
  all_goals (go_ret;exact⟨rfl,rfl⟩)
theorem Sh (b off n c i g h j:Nat) (J K:aE) (w q hM:aT) (t ec:aG) (mM o:Nat) (W:i<n) (Y:n+1<=c) (Q:n<=4611686018427387904) (I:g≠b)
  (G:w.shape? g=some (t,mM)) (H:w.shape? b=some (ec,o)) (C:o≠0) (z:w.frozen? ⟨g,h,none⟩=false) (B:w.frozen? ⟨g,mM,none⟩=false)
  (u:(Builtin.copy_ #[68,68] 3 #[.slice (some ⟨b,off+(i+1)*11,none⟩) (n - i) (c - (i+1)),.slice (some ⟨b,off+i*11,none⟩) (n+1 - i) (c - i)]).run prog w.drew=.ok J q)
  (v:(Builtin.copy_ #[68,68] 3 #[.slice (some ⟨b,off+i*11,none⟩) (n+1 - i) (c - i),.slice (some ⟨g,h,none⟩) 1 j]).run prog q=.ok K hM) :
  Calls prog 159 #[.slice (some ⟨b,off,none⟩) n c,.int .i64 i,.slice (some ⟨g,h,none⟩) 1 j] w fun e w2=>e=.returned (.slice (some ⟨b,off,none⟩) (n+1) c)/\w2=hM:=by
 have O:=Tryz.underlying68;have P:∀ w,(Go.sizeOf 55).run prog w=.ok 11 w:=fun w=>ez bn
 have aj:=checked.mixed;have D:∀ p m,(callFunc 211 #[.slice (some ⟨g,h,none⟩) 1 j,.slice (some ⟨b,off+(i+1)*11,none⟩) p m]).run prog w=.ok (.value (.bool false)) w:=fun p m=>by
  rw[run_callFunc_extern func211 bn bn bn (e:=Extern.SlicesOverlaps.overlaps #[68,68] #[4]) bn,
   Lib.run_overlaps_apart w 68 4 55 O 11 P ⟨g,h,none⟩ ⟨b,off+(i+1)*11,none⟩ 1 j p m I t ec mM o G H C z B]
  rfl
 have ai:¬ ((i:Int)=(n:Int)):=F;have ag:IntKind.i64.wrap ((i:Int)+1)=(i:Int)+1:=by rw[IntKind.wrap_i64];omega
 have ah:IntKind.i64.wrap ((n:Int)+1)=(n:Int)+1:=by rw[IntKind.wrap_i64];omega
 have R:(0:Int)<=(i:Int)+1:=F;have X:i<=n:=F;have ae:((i:Int)+1).toNat=i+1:=F;have S:¬ (c=i+1):=F;have T:(i:Int)<=(n:Int)+1:=F;have U:¬ (c=i):=F;have V:¬ ((c:Int)<(n:Int)+1):=F
 go_enter func159,Tryz.ntmps159
 go_wp2_with (simp only[D])
 go_region_law_o (refine step_copy_runI rfl _ _ 68 68 rfl _ _ (by simp[Act.eval,Act.put]) (by simp[Act.eval,Act.put]) u ?_)
 go_wp2_with (at_builtin;refine wpList_copy_runI _ rfl _ _ 68 68 rfl _ _ rfl rfl v ?_)
 go_ret
 exact⟨rfl,rfl⟩
theorem Sd (b off n c i j o m N G:Nat) (u v:aE) (w g h hM:aT) (O:i<n) (Q:n<=c) (R:c<n+1) (B:n+1<=G) (z:n<=4611686018427387904)
  (p:(Builtin.append_ #[68,3] 68 #[.slice (some ⟨b,off,none⟩) i c,.int .i64 ((n:Int)+1 - (i:Int))]).run prog w=.ok (.slice (some ⟨N,0,none⟩) (n+1) G) g)
  (q:(Builtin.copy_ #[68,68] 3 #[.slice (some ⟨N,i*11,none⟩) (n+1 - i) (G - i),.slice (some ⟨j,o,none⟩) 1 m]).run prog g=.ok u h)
  (t:(Builtin.copy_ #[68,68] 3 #[.slice (some ⟨N,(i+1)*11,none⟩) (n - i) (G - (i+1)),.slice (some ⟨b,off+i*11,none⟩) (n - i) (c - i)]).run prog h.drew=.ok v hM) :
  Calls prog 159 #[.slice (some ⟨b,off,none⟩) n c,.int .i64 i,.slice (some ⟨j,o,none⟩) 1 m] w fun e w2=>e=.returned (.slice (some ⟨N,0,none⟩) (n+1) G)/\w2=hM:=by
 have ae:=Tryz.underlying68;have ag:∀ w,(Go.sizeOf 55).run prog w=.ok 11 w:=fun w=>ez bn
 have Y:=checked.mixed;have W:¬ ((i:Int)=(n:Int)):=F;have T:IntKind.i64.wrap ((i:Int)+1)=(i:Int)+1:=by rw[IntKind.wrap_i64];omega
 have U:IntKind.i64.wrap ((n:Int)+1)=(n:Int)+1:=by rw[IntKind.wrap_i64];omega
 have V:IntKind.i64.wrap ((n:Int)+1 - (i:Int))=(n:Int)+1 - (i:Int):=by rw[IntKind.wrap_i64];omega
 have H:(0:Int)<=(i:Int)+1:=F;have P:i<=n:=F;have S:((i:Int)+1).toNat=i+1:=F;have C:¬ (G=i):=F;have D:¬ (G=i+1):=F;have K:¬ (c=i):=F;have X:(c:Int)<(n:Int)+1:=F;have I:(i:Int)<=(n:Int):=F;have J:(i:Int)<=(c:Int):=F
 go_enter func159,Tryz.ntmps159
 go_wp2_with (first
  | (at_builtin;refine Lib.wpList_append_run _ rfl _ _ _ _ rfl _ _ rfl rfl _ _ p ?_)
  | (at_builtin;refine wpList_copy_runI _ rfl _ _ 68 68 rfl _ _ rfl rfl q ?_))
 go_region_law_o (refine step_copy_runI rfl _ _ 68 68 rfl _ _ (by simp[Act.eval,Act.put]) (by simp[Act.eval,Act.put]) t ?_)
 go_wp2
 go_ret
 exact⟨rfl,rfl⟩
theorem Iu:qx prog 159 68 3 55 11:=
 ⟨Tryz.underlying68,Tryz.underlying3,Sb,Sh,Sd⟩
theorem R6 {G:Nat->U} (args:ag) (h:aM) (r:U) (h' : aM) (g:tY 11 112 args h=some (r,h')) :jU prog G 159 args h r h':=
 It Iu bn bn bn F F bn args h r h' g
def CP (f:cj) :Option (Nat × Nat):=match Nat.beq f 158 with | true=>some (32,32) | false=>match Nat.beq f 159 with | true=>some (11,112) | false=>none
theorem R4 (f:cj) (z by_:Nat) (h:CP f=some (z,by_)) (args:ag) (g:aM) (r:U) (y4:aM) (o:tY z by_ args g=some (r,y4)) :jU prog GS f args g r y4:=by
 unfold CP at h;split at h
 ·rename_i j;have m:=mu j;subst m;cases h;exact R5 args g r y4 o
 split at h
 ·rename_i j;have m:=mu j;subst m;cases h;exact R6 args g r y4 o
 cases h
instance aa0:FV prog GS:=⟨CP,R4⟩
end Go.bh
namespace Go.bh
open Go Go.Proofs Go.Proofs.Tryz
namespace Op
open cl
def eY (s:cf) (x:List B) :aW:=dp s.aj.l (num x s.aj.l.length)
theorem zP {s:cf} (h:e1 s) (x:List B) :s.aj.l[num x s.aj.l.length]?=some (eY s x)/\eY s x∈s.aj.l/\num x s.aj.l.length<s.aj.l.length:=by
 have j:num x s.aj.l.length<s.aj.l.length:=by unfold num;exact mv _ (by have:=h.gN;omega)
 obtain⟨p,g,m⟩:=aQ j;have:eY s x=p:=dq g;rw[this];exact⟨g,m,j⟩
theorem U3 {s:cf} (h:e1 s) (x:List B) :x∈(eY s x).idsZ.l<->x∈(bL (bC s)).idsZ.l:=by have W:=ry h;obtain⟨h1,p,z⟩:=zP h x;refine⟨DI h p,fun o=>?_⟩;rw[pg] at o;obtain⟨q,u,rfl⟩:=cE.1 o;obtain⟨C,t,a,m,w⟩:=(n9 W q).1 u;obtain⟨v,g⟩:=cp.1 t;have j:=h.al;unfold kQ at j;rw[bK] at j;have:=j v (aL.1 g).1 q.1 (by rw[dq g];exact cJ m);rw[<-this] at g;rw[h1] at g;obtain rfl:=cc g;exact cJ m
theorem Ll (s:cf) (P:gH s) (h:e1 s) (x:List B) (m:x.length=32) :
  aU 155 [.af (bG s),.af (ao x)] (.aX [.i6 (num x s.aj.l.length:Nat),.i6 (dS (eY s x).idsZ.l x:Nat),.bool (decide (x∈(bL (bC s)).idsZ.l))]):=by
 apply a2 func155 [];have W:=ry h;obtain⟨h1,q,Q⟩:=zP h x;have p:=bo m;have o:=cG x;have g:=Jo x m s.aj.l.length h.gN (by have:=h.q3;omega);have z:=(P.aj _ q).1;have j:=As (eY s x).idsZ z.idsZ z.li x m (W.b8 _ q);have J:=U3 h x;have I:decide (x∈(eY s x).idsZ.l)=decide (x∈(bL (bC s)).idsZ.l):=by rw[decide_eq_decide];exact J
 rw[I] at j;have w:=l3 h1;have K:=nM s.aj;have H:=bO (eY s x).idsZ;have R:(bG s)[0]?=some (dn s.aj):=rfl;have u:(bG s).length=3:=rfl;have t:∀ h,(bG s)[0]'h=dn s.aj:=fun _=>rfl
 have C:∀ h,(bb (eY s x))[0]'h=ah (eY s x).idsZ:=fun _=>rfl
 have S:(bb (eY s x))[0]?=some (ah (eY s x).idsZ):=rfl;have D:(bb (eY s x)).length=2:=rfl;obtain⟨X,G⟩:=al (ao x);rw[<-G] at p o g j ⊢;have v:X.take 32=X:=aI F;obtain⟨T,O⟩:=al (((num x s.aj.l.length:Nat) :Int) :Int);rw[<-O] at g w ⊢;simp[p,v,u,t,K];refine au g (by simp[am,U.ar,o]) ?_;simp[p,v,u,t,w,D,C];refine au j (by simp[am,U.ar,o,H]) ?_;simp;exact aF
theorem W0 (s:cf) (o:gH s) (h:e1 s) :aU 154 [.af (bG s)] (.i6 0):=by apply a2 func154 [];have p:(bG s).length=3:=rfl;have m:(bG s).take 3=bG s:=rfl;have j:=mG s;have g:=MJ s o;rw[Ff h] at g;unfold cr bb at g;have q:=fi (bL (bC s)).idsZ;have t:=kz (bL (bC s)).opsZ;simp[p,m];refine au g (by simp[am,U.ar,j]) ?_;simp[av];exact aF
theorem Oj (s:cf) (G:gH s) (h:e1 s) {l:ae} {b:Nat} (g:l[b]?=some (.q 3 (bG s))) (xs:aR) (I:∀ p∈xs,p.length=32) :
  tl 156 [.ptr b 0 3] l xs (fun p=>!decide (p∈(bL (bC s)).idsZ.l)):=by
 intro p C m z J t;apply c1 func156 [];have j:=I p C;have F:=bo j;have D:=cG p;have H:(bG s).length=3:=rfl;have v:(bG s).take 3=bG s:=rfl;have u:=mG s;have q1:m[b]?=some (.q 3 (bG s)):=by rw[z.2 _ (a1 g)];exact g
 have o:∀ c:aq,(m++[c])[b]?=some (.q 3 (bG s)):=fun c=>by rw[aV (a1 q1)];exact q1
 have B:=Ll s G h p j;simp[o,F,H,v,aI];refine au B (by simp[am,U.ar,u,D]) ?_;simp;exact t _ ⟨V,fun b w=>aV w⟩
theorem Vg (o:aK) (m:dk o) {l:ae} {b j:Nat} (g:l[b]?=some (.q 11 (aw o))) (G:b≠j) (xs:aR) (O:∀ p∈xs,p.length=32) :
  vr 160 [.ptr b 0 11] j l xs (fun p=>decide (p∈o.ax.l)):=by
 intro p I u D P z;apply c1 func160 [];have t:=O p I;have K:=bo t;have J:=cG p;have H:(aw o).length=11:=rfl;have Q:(aw o)[1]?=some (ah o.ax):=rfl;have w:∀ h,(aw o)[1]'h=ah o.ax:=fun _=>rfl
 have C:=bO o.ax;have q1:u[b]?=some (.q 11 (aw o)):=by rw[D.same _ (a1 g) G];exact g
 have v:∀ c:aq,(u++[c])[b]?=some (.q 11 (aw o)):=fun c=>by rw[aV (a1 q1)];exact q1
 have F:=qe o.ax m.idsZ m.len p t;simp[v,K,H,w,aI];refine au F (by simp[am,U.ar,C,J]) ?_;simp;exact z _ V fun b B=>aV B
theorem PC (s:b2) (p:c5 s) (m:s.l.length<=1000000) {l:ae} {K:cB} (j:s=none->K .ad l)
  (h1:∀ a,s=some a->K (.Z 32 l.length 0 a.length a.length (a.length*32)) (l++[.q (a.length*32) (a.map ao).flatten])) :
  cM 80 [ah s] l K:=by
 apply c1 func80 [];have o:=du;have h:ea prog .eql 23 (ah s) .ad=some (.bool s.isNone):=vK (e:=57) bn 32 ao s;cases s with
 | none=>
  simp[h];exact j rfl
 | some a=>
  have u:∀ y∈a,(ao y).length=32:=fun y t=>bo (p y t)
  have v:a.length<=1000000:=m;have g:=yj (enc:=ao) (z:=32) (by_:=32) (l++[aq.q 0 []]) l.length V (some a) u F F (by show a.length*32<=_;rw[o];omega);change dZ _ _ _ _ (ah (some a))=_ at g;simp at g;simp[h,g];refine bR.bm ?_;simp;exact h1 a rfl
def eW {alZ:Type} (z:Nat) (enc:alZ->ag) (l:ae) (n:Nat) (w:U) (s:b1 alZ) :Prop:=
 (s=none/\w=.ad)\/∃ b,n<=b/\s.isNone=false/\w=.Z z b 0 s.l.length s.l.length (s.l.length*z)/\l[b]?=some (.q (s.l.length*z) (s.l.map enc).flatten)
def Gc (v w:U) :Prop:=∀ p b n h s q g m j o,v=.Z p b 0 n h s->w=.Z q g 0 m j o->b≠g
theorem eW.frame {alZ:Type} {z:Nat} {enc:alZ->ag} {l l' : ae} {n:Nat} {w:U} {s:b1 alZ} (h:eW z enc l n w s) (o:∀ b,n<=b->b<l.length->l'[b]?=l[b]?) :eW z enc l' n w s:=by
 rcases h with h | ⟨b,h1,j,m,g⟩
 ·exact .inl h
 ·exact .inr ⟨b,h1,j,m,by rw[o b h1 (a1 g)];exact g⟩
theorem eW.mono {alZ:Type} {z:Nat} {enc:alZ->ag} {l:ae} {n m:Nat} {w:U} {s:b1 alZ} (h:eW z enc l n w s) (p:m<=n) :eW z enc l m w s:=by
 rcases h with h | ⟨b,h1,g,j,o⟩
 ·exact .inl h
 ·exact .inr ⟨b,F,g,j,o⟩
theorem B0 (s:b2) (p:c5 s) (o:s.l.length<=1000000) {l:ae} {K:cB} (m:∀ w j,w.cells=some [w]->eW 32 ao (l++j) l.length w s->K w (l++j)) :
  cM 80 [ah s] l K:=
 PC s p o (fun h=>by simpa using m .ad [] rfl (.inl ⟨h,rfl⟩)) fun a g=>m _ [_] rfl (.inr ⟨l.length,aN _,by rw[g];rfl,by rw[g];rfl,by rw[g];simp⟩)
theorem B1 (s:b1 aK) (o:s.l.length<=1000000) {l:ae} {K:cB} (m:∀ w j,w.cells=some [w]->eW 11 aw (l++j) l.length w s->K w (l++j)) :
  cM 143 [bA s] l K:=
 G0 s o (fun h=>by simpa using m .ad [] rfl (.inl ⟨h,rfl⟩)) fun a g=>m _ [_] rfl (.inr ⟨l.length,aN _,by rw[g];rfl,by rw[g];rfl,by rw[g];simp⟩)
theorem uO {l:ae} {b:Nat} {c:aq} (h:l[b]?=some c) :l.set b c=l:=by
 apply g1;intro g;by_cases e:b=g
 ·subst e;rw[bY (a1 h),h]
 ·rw[bj e]
theorem eW.bD {alZ:Type} {z:Nat} {enc:alZ->ag} {l:ae} {n:Nat} {w:U} {s:b1 alZ} (h:eW z enc l n w s) :bD (.Z z) w=some (.i6 s.l.length):=by
 rcases h with ⟨rfl,rfl⟩ | ⟨b,_,_,rfl,_⟩
 ·rfl
 ·simp[Go.bh.bD]
theorem X0 (g:aW) (w:eE g) {l:ae} {K:cB} (ak:∀ h w2 l',h3 l l'->eW 32 ao l' l.length h g.idsZ->eW 11 aw l' l.length w2 g.opsZ->Gc h w2->h.cells=some [h]->w2.cells=some [w2]->K (.af [h,w2]) l') :
  cM 157 [cr g] l K:=by
 apply c1 func157 [[[0],[1],[3],[4],[7],[2,7,4],[5,7],[6]],cT 0 9++[[9,1]]];simp[cr,bb];refine B0 g.idsZ w.idsZ w.li fun h p X ag=>?_
 simp;refine B1 g.opsZ w.jh fun w2 J Y H=>?_
 have aB:=H.bD;have a0:=w.jh;simp[X,Y,av,aB];obtain⟨L,o⟩:=al (l++aq.q 2 [ah g.idsZ,bA g.opsZ] ::aq.q 2 [.ad,.ad] ::aq.q 2 [h,w2] ::(p++J));have q1:L[l.length+1]?=some (.q 2 [.ad,.ad]):=by rw[o];simp
 have I:L[l.length+2]?=some (.q 2 [h,w2]):=by rw[o];simp
 have T:h3 l L:=by rw[o];exact⟨V,fun b v=>aV v⟩
 have aK:eW 32 ao L (l.length+3) h g.idsZ:=by
  refine (eW.frame (l':=L) ag fun b h1 C=>?_).mono V;rw[o];have aU:l.length+3<=b:=by simpa using h1
  have aY:b<l.length+3+p.length:=by simp at C;omega
  obtain⟨m,a5⟩:=al (b - l.length - 3);have aH:b - l.length=m+3:=F;have aI:b - (l++[aq.q 2 [ah g.idsZ,bA g.opsZ],aq.q 2 [.ad,.ad],aq.q 2 [.ad,.ad]]).length=m:=by simp;omega
  rw[eu F,eu (by simpa using h1),aH,aI];simp only[js];rw[aV F]
 have aZ:L.length=l.length+3+p.length+J.length:=by rw[o];simp;omega
 have ai:eW 11 aw L (l.length+3+p.length) w2 g.opsZ:=by
  refine (eW.frame (l':=L) H fun b h1 C=>?_).mono (by simp;omega);rw[o];simp at h1 C;rw[eu F,eu (by simp;omega)];simp;have e:b - l.length=(b - (l.length+(p.length+3)))+p.length+3:=F;rw[e];simp only[js];rw[eu F];congr 1;omega
 refine bB g.opsZ.l.length (fun k u B=>B=L/\u 2=.ptr (l.length+1) 0 2/\u 3=.ptr (l.length+2) 0 2/\u 14=.i6 g.opsZ.l.length/\u 15=.i6 k) ?_ ⟨by rw[o],V,V,V,V⟩;rintro k u B hk ⟨rfl,R,S,P,Q⟩;obtain⟨u,rfl⟩:=eO R S P Q;clear R S P Q;have z:=ci (k:=k) F;by_cases t:k<g.opsZ.l.length
 ·obtain⟨j,aD,aE⟩:=aQ t;rcases ai with ⟨aC,_⟩ | ⟨b,a2,a3,rfl,D⟩
  ·rw[aC] at t;simp at t
  ·have U:=w.opsZ j aE;have ar:=bO j.ax;have ap:=l4 j.ax U.idsZ U.len;have W:∀ e∈g.opsZ.l.map aw,e.length=11:=fun e ay=>by obtain⟨y,_,rfl⟩:=cE.1 ay;rfl
   have G:(g.opsZ.l.map aw)[k]?=some (aw j):=by rw[b0,aD];rfl
   have az:(g.opsZ.l.map aw).flatten[k*11+1]?=some (ah j.ax):=ln W G F;have aF:av (g.opsZ.l.map aw).flatten (k*11+1) [ah j.ax]=(g.opsZ.l.map aw).flatten:=by
    rw[pH W G (show 1+[ah j.ax].length<=11 by simp),w1 j];congr 1;exact g1 fun aJ=>by
     by_cases e:k=aJ
     ·subst e;rw[bY (by simpa using t),G]
     ·rw[bj e]
   have mp:=fi j.ax;have a4:=wg g.opsZ.l;have aG:=uO D;simp[t,I,az,D];refine au ap (by simp[am,ar]) ?_;simp[t,I,D,aF,mp,z,aG];omega
 ·have aA:k=g.opsZ.l.length:=F;subst aA;have aM:l.length+1<B.length:=a1 q1;have aL:(B.set (l.length+1) (aq.q 2 [h,w2]))[l.length+1]?=some (.q 2 [h,w2]):=bY aM;simp[q1,I,av,aL];refine ak h w2 _ ⟨by simpa using T.1,fun b v=>?_⟩ ((aK.frame fun b v _=>bj F).mono F) ((ai.frame fun b v _=>bj F).mono F) (fun a9 b n m s bc aS a7 a6 a8 z O=>?_) X Y
  ·rw[bj F];exact T.2 b v
  ·rcases ag with ⟨_,rfl⟩ | ⟨c,aT,_,rfl,aj⟩
   ·cases z
   ·rcases H with ⟨_,rfl⟩ | ⟨d,d1,_,rfl,d4⟩
    ·cases O
    ·have aO:=a1 aj;injection z with _ aP
     injection O with _ aR
     subst aP aR;simp at aO d1;omega
end Op
namespace Op
section
variable {alZ:Type} {enc:alZ->ag} {z:Nat}
theorem R9 {P:bp} {G:Nat->U} {f u I e by_:Nat} (L:qx P f u I e z) (X:gh P u=some e) (ay:ca P e=some z) (ai:gK P e=some by_) (S:0<z) (Y:0<by_) (az:mq P e=some z)
  {l:ae} {b bv n cap i:Nat} {a:List alZ} {x:alZ} (j:∀ y∈a,(enc y).length=z) (H:(enc x).length=z) (h:aH z l (.Z z b 0 n cap (cap*z)) b (a.map enc)) (ah:l[bv]?=some (.q z (enc x))) (au:bv≠b) (p:i<=n) (aw:(n+1)*by_<=dj)
  {K:cB} (W:∀ l',l'.length=l.length+1->(∀ c,c<l.length->c≠b->l'[c]?=l[c]?)->aH z l' (.Z z l.length 0 (n+1) (max cap (n+1)) (max cap (n+1)*z)) l.length ((cX a i x).map enc)->
   K (.Z z l.length 0 (n+1) (max cap (n+1)) (max cap (n+1)*z)) l') :
  fR P G f [.Z z b 0 n cap (cap*z),.i6 i,.Z z bv 0 1 1 z] l (c:=⟨K⟩):=by
 generalize F:U.Z z b 0 n cap (cap*z)=w at h;generalize o:a.map enc=R at h;cases h with
 | nil=>cases F
 | Z aM aO aD aP cs R v ao ar aL B aJ al=>
  injection F with aE aF aG J O Q
  subst J O Q o;have ag:=a1 v;have m:a.length=n:=by simpa using ar
  have D:=Ix (P:=P) (G:=G) (h:=aZ l) L X ay ai S Y az (b:=b) (bv:=bv) (len:=n) (cap:=cap) (i:=i) (hJ.2 v) (hJ.2 ah) au p B aw;rw[BA,mx _ ag,lO] at D;refine⟨_,_,.ext D,V,?_⟩;have ap:n+1<=max cap (n+1):=Nat.le_max_right _ _;have T:cs.take (n*z)=(a.map enc).flatten:=al;have aK:n*z<=cap*z:=ck _ B;have am:i*z<=n*z:=ck _ p;have ax:(n - i)*z=n*z - i*z:=Nat.mul_sub_right_distrib _ _ _;have C:iu z cs (enc x) i n=((cX a i x).map enc).flatten++cs.drop ((n+1)*z):=by
   rw[<-R7 j m p x,<-T];unfold iu;have aA:(cs.take (n*z)).take (i*z)=cs.take (i*z):=by rw[lL,i5 am]
   have aB:((cs.take (n*z)).drop (i*z)).take ((n - i)*z)=(cs.drop (i*z)).take ((n - i)*z):=by
    rw[qo,lL,ax,Nat.min_self]
   have aC:(cs.take (n*z)).drop ((n+1)*z)=[]:=qn (by rw[cL,eP];omega);rw[aA,aB,aC,eJ]
  have t:((cX a i x).map enc).flatten.length=(n+1)*z:=by
   rw[yW,h9,m];intro y g;rcases jD.1 g with rfl | g
   ·exact H
   ·exact j y g
  have av:(iu z cs (enc x) i n).length=max cap (n+1)*z:=by
   rw[C,cI,t,i1,ao];rcases Nat.le_total cap (n+1) with h | h
   ·rw[Bv h];have:=ck z h;omega
   ·rw[Bu h];have:=ck z h;omega
  refine W _ V (fun c aj ak=>by rw[aV (by simpa using aj),bj (fun e=>ak e.symm)]) ?_;refine .Z l.length (n+1) (max cap (n+1)) (max cap (n+1)*z) (iu z cs (enc x) i n) _ ?_ av (by simp[h9,m]) (fun e o=>?_) ap (aN _) ?_
  ·rw[show l.length=(l.set b aq.dead).length by simp,od]
  ·obtain⟨y,g,rfl⟩:=cE.1 o;rcases jD.1 g with rfl | g
   ·exact H
   ·exact j y g
  ·rw[C,il (by rw[t];exact aN _),aI (by rw[t];exact aN _)]
def x9 (z:Nat) (l:ae) (w:U) (a:List (ag)) :Prop:=(a=[]/\w=.ad)\/∃ b n cap,w=.Z z b 0 n cap (cap*z)/\aH z l w b a
theorem CR {f p Q e by_:Nat} (L:qx prog f p Q e z) (v:gh prog p=some e) (J:ca prog e=some z) (D:gK prog e=some by_) (t:0<z) (B:0<by_) (O:mq prog e=some z)
  {l:ae} {bv i:Nat} {a:List alZ} {x:alZ} {w:U} (R:∀ y∈a,(enc y).length=z) (I:(enc x).length=z) (h:x9 z l w (a.map enc)) (C:l[bv]?=some (.q z (enc x))) (ag:∀ b n cap s,w=.Z z b 0 n cap s->bv≠b) (X:i<=a.length) (H:(a.length+1)*by_<=dj)
  {K:cB} (u:∀ l',l.length<=l'.length->(∀ c,c<l.length->(∀ b n cap s,w=.Z z b 0 n cap s->c≠b)->l'[c]?=l[c]?)->K (.bu z ((cX a i x).map enc)) l') :
  cM f [w,.i6 i,.Z z bv 0 1 1 z] l K:=by
 refine GO checked.mixed eD ?_;rcases h with ⟨h1,rfl⟩ | ⟨b,n,cap,rfl,h⟩
 ·have S:a=[]:=by simpa using h1
  subst S;have Y:i=0:=by simpa using X
  subst Y;have e:(cX ([] :List alZ) 0 x).map enc=[enc x]:=rfl;refine Sf (P:=prog) (G:=GS) L v J D t B O C (by simpa using H) ?_;have ah:aH z (l++[.q z (enc x)]) (.Z z l.length 0 1 1 z) l.length ((cX ([] :List alZ) 0 x).map enc):=by
   have:=ly (enc:=enc) (z:=z) (l:=l++[.q z (enc x)]) (b:=l.length) (n:=1) (a:=cX ([] :List alZ) 0 x) (fun y j=>by
    rcases jD.1 j with rfl | j
    ·exact I
    ·cases j) rfl (by rw[od];simp[cX])
   simpa using this
  obtain⟨m,o⟩:=uy ah rfl;exact⟨_,_,m,o,V,u _ V fun c g _=>by rw[bj F,aV g]⟩
 ·have T:a.length=n:=by
   have:=h.len;simp[bD] at this;omega
  refine R9 L v J D t B O R I h C (ag b n cap _ rfl) F (by rw[<-T];exact H) fun l' q1 ai aj=>?_
  obtain⟨m,o⟩:=uy aj rfl;exact⟨_,_,m,o,by simp;omega,u _ (by simp;omega) fun c g W=>by rw[bj F];exact ai c g (W b n cap _ rfl)⟩
theorem eW.c {l:ae} {n:Nat} {w:U} {s:b1 alZ} (h:eW z enc l n w s) (j:∀ y∈s.l,(enc y).length=z) :x9 z l w (s.l.map enc):=by
 rcases h with ⟨rfl,rfl⟩ | ⟨b,h1,m,rfl,g⟩
 ·exact .inl ⟨rfl,rfl⟩
 ·exact .inr ⟨b,_,_,rfl,ly j rfl g⟩
end
end Op
end Go.bh

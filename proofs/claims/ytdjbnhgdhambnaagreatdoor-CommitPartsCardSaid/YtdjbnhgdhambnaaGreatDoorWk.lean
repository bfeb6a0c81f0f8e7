/-
  The graph of an index, in the program, walked.
-/
import Derived.Test.YtdjbnhgdhambnaaGreatDoorWj
import Derived.Shelf.Spec.SlicesInsertGrow
set_option maxHeartbeats 16000000
set_option maxRecDepth 100000
set_option linter.unusedVariables false
set_option linter.unusedSimpArgs false
set_option linter.unnecessarySimpa false
namespace Go.bh
open Go Go.Proofs Go.Proofs.Tryz
namespace Op
open ca
theorem Ho (a b:bV) (C:cT a) (D:cT b) (ag:a.l.length<=1000000) :aY 67 [ai a,ai b] (.bool (decide (a.l=b.l))):=by
 apply bc func67 [];have I:bx (.ad 32) (ai a)=_:=cd _;have J:bx (.ad 32) (ai b)=_:=cd _;by_cases h1:a.l.length=b.l.length
 ·have B:((a.l.length:Int)=b.l.length):=F;simp[I,J,h1];refine bz a.l.length (fun k j l=>j 0=ai a/\j 1=ai b/\j 12=.i6 a.l.length/\j 13=.i6 k/\∀ g,g<k->a.l[g]?=b.l[g]?) ?_ (by simp[h1]);rintro k j l hk ⟨u,v,w,z,K⟩;obtain⟨j,rfl⟩:=fc u v w z;clear u v w z;simp;refine gp (fun h=>?_) (fun h=>?_)
  ·simp only[bC] at h;obtain⟨x,o,P⟩:=aP h;obtain⟨y,t,R⟩:=aP (l:=b.l) (k:=k) F;have S:=cq (k:=k) F;have G:bO (.ad 32) (ai a) _=_:=dg o;have H:bO (.ad 32) (ai b) _=_:=dg t;have O:=bu (C x P);have Q:=bu (D y R);have q:=pw (C x P) (D y R);obtain⟨Y,T⟩:=ao (ar x);obtain⟨Z,V⟩:=ao (ar y);rw[<-T] at G O q;rw[<-V] at H Q q;simp[G,H,O,Q,aL,q];by_cases m:x=y
   ·simp[m,S];refine⟨F,fun g W=>?_⟩;by_cases X:g=k
    ·subst X;rw[o,t,m]
    ·exact K g F
   ·simp[m];refine aT (ch U.bool (cC fun p=>m ?_).symm) rfl;rw[p,t] at o;exact (cg o).symm
  ·simp[h];have ae:k=a.l.length:=by simp at h;omega
   refine aT (ch U.bool (bY ?_).symm) rfl;apply g5;intro g;by_cases W:g<a.l.length
   ·exact K g F
   ·rw[ea F,ea F]
 ·have B:¬ ((a.l.length:Int)=b.l.length):=F;simp[I,J,B];exact aT (by rw[cC (fun p=>h1 (by rw[p]))]) rfl
structure e1 (s:ck) :Prop where
 gZ:1<=s.al.l.length
 sm:s.al.l.length<=4
 ao:kH s.al.l=true
 wf:nO s.al.l=true
 k6:e2 (bG (bD s))=0
 ke:s.b6=((bD s).length:Int)
 tY:eX (bG (bD s))=s.cb.l
noncomputable def p5 (s:ck) :Bool:=@decide (e1 s) (Classical.propDecidable _)
theorem Zn {s:ck} (h:e1 s) :p5 s=true:=@decide_eq_true _ (Classical.propDecidable _) h
theorem Zm {s:ck} (h:¬ e1 s) :p5 s=false:=@decide_eq_false _ (Classical.propDecidable _) h
noncomputable def p6 (s:ck) :U:=.a1 [cH (if p5 s=true then bG (bD s) else ⟨none,none⟩),.i6 (if p5 s=true then 0 else 8)]
theorem rm {s:ck} (h:¬ e1 s) :p6 s=.a1 [.ah [.af,.af],.i6 8]:=by unfold p6;rw[Zm h];rfl
theorem E0 {s:ck} (h:e1 s) :p6 s=.a1 [cH (bG (bD s)),.i6 0]:=by unfold p6;rw[Zn h];rfl
theorem yL (l:List (List B × aG)) :(bG l).idsZ.l.length=l.length:=by unfold bG;simp only[dr];rw[cx]
theorem MW (s:ck) (I:g9 s) :aY 207 [.ah (bQ s)] (p6 s):=by
 apply bc func207 [];have ag:=pD s.al;have bw:=I.ln;have C:(bQ s).length=3:=rfl;have a6:(bQ s).take 3=bQ s:=rfl;have X:∀ h,(bQ s)[0]'h=e9 s.al:=fun _=>rfl
 have bt:(bQ s)[1]?=some (ai s.cb):=rfl;have bu:(bQ s)[2]?=some (.i6 s.b6):=rfl;have aZ:∀ h,(bQ s)[1]'h=ai s.cb:=fun _=>rfl
 have aJ:∀ h,(bQ s)[2]'h=.i6 s.b6:=fun _=>rfl
 have a5:=pj s;by_cases h1:1<=s.al.l.length
 ·by_cases aH:s.al.l.length<=4
  ·have J:¬ (s.al.l.length:Int)<1:=F;have au:¬ (4:Int)<(s.al.l.length:Int):=F;simp[C,X,ag,ax,J,au];refine bz s.al.l.length (fun i v l=>v 1=.ptr 0 0 3/\v 2=.ptr 1 0 2/\v 4=.ptr 2 0 1/\v 22=e9 s.al/\v 23=.i6 s.al.l.length/\v 24=.i6 i/\l[0]?=some (.q 3 (bQ s))/\l[1]?=some (.q 2 [.af,.af])/\l[2]?=some (.q 1 [.i6 s.al.l.length])/\∀ (t:Nat) (p:aU),t<i->s.al.l[t]?=some p->∀ x∈p.idsZ.l,num x s.al.l.length=t) ?_ ⟨V,V,V,V,V,V,rfl,rfl,rfl,fun t _ S=>F⟩;rintro i v l bb ⟨aA,aB,aG,aC,aD,aF,K,q1,O,ae⟩;obtain⟨v,rfl⟩:=rj aA aB aG aC aD aF;clear aA aB aG aC aD aF;have az:=cq (k:=i) F;by_cases H:i<s.al.l.length
   ·obtain⟨p,D,bk⟩:=aP H;obtain⟨ap,bA,bB⟩:=I.al p bk;have bd:=mG D;have a0:∀ h,(bf p)[0]'h=ai p.idsZ:=fun _=>rfl
    have a3:(bf p).length=2:=rfl;have a4:(bf p).take 2=bf p:=rfl;have bl:ax [U.af,.af] 0 (bf p)=bf p:=cI rfl;have bv:=a2 O;obtain⟨L,P⟩:=ao (l++[am.q 1 [.i6 (i:Int)],am.q 2 (bf p)]);have u:∀ (k:Nat) (c:am),l[k]?=some c->L[k]?=some c:=fun k c h=>by rw[P,aV (a2 h)];exact h
    have br:L[l.length]?=some (.q 1 [.i6 (i:Int)]):=by rw[P];simp
    have wp:L[l.length+1]?=some (.q 2 (bf p)):=by rw[P];simp
    have a9:=UL s.al.l.length i h1 F (u 2 _ O) br p.idsZ.l ap.idsZ;simp[H,bd,a3,a4,bl,<-P,wp,a0];refine ym p.idsZ ap.idsZ ap.li bg a9 fun aW Z=>?_
    have aX:=Z.2 1 (a2 (u 1 _ q1));cases aL:p.idsZ.l.any fun x=>!decide (num x s.al.l.length=i) with
    | true=>
     obtain⟨x,m,aS⟩:=ta.1 aL;have o:¬ e1 s:=fun h=>by
      have ak:=h.ao;unfold kH at ak;rw[bC] at ak;have:=ak i H x (by rw[dt D];exact m);rw[this] at aS;simp at aS
     rw[rm o];have j:aW[1]?=some (.q 2 [.af,.af]):=by rw[aX];exact u 1 _ q1
     have w:∀ c:am,(aW.set 1 c)[1]?=some c:=fun c=>b1 (a2 j)
     simp[j,w,ax];exact aE
    | false=>
     simp[az];refine⟨H,?_,?_,?_,fun t q S ar x m=>?_⟩
     ·rw[Z.2 0 (a2 (u 0 _ K))];exact u 0 _ K
     ·rw[aX];exact u 1 _ q1
     ·rw[Z.2 2 (a2 (u 2 _ O))];exact u 2 _ O
     ·by_cases bi:t=i
      ·subst bi;rw[D] at ar;obtain rfl:=cg ar;have:=AM.1 aL x m;simpa using this
      ·exact ae t q F ar x m
   ·have bh:i=s.al.l.length:=F;subst bh;have aR:kH s.al.l=true:=by
     unfold kH;rw[bC];intro t S x m;obtain⟨p,D,_⟩:=aP S;exact ae t p S D x (by rw[dt D] at m;exact m)
    have bj:=Tq s I (wH aR);clear ae H bb az;simp[K,C,a6];refine av bj (by simp[aq,U.aw,a5]) ?_;have bE:=a2 O;cases W:nO s.al.l with
    | false=>
     have o:¬ e1 s:=fun h=>by have:=h.wf;rw[W] at this;cases this
     rw[rm o];unfold sk;rw[W];have j:∀ c:am,(l++[c])[1]?=some (.q 2 [.af,.af]):=fun c=>by rw[aV (a2 q1)];exact q1
     have w:∀ c c' : am,((l++[c]).set 1 c')[1]?=some c':=fun c c'=>b1 (a2 (j c))
     have bp:(ai none).cells=some [ai none]:=rfl;have bq:(bF none).cells=some [bF none]:=rfl;simp[cH,bf,ax,j,w];exact aE
    | true=>
     have G:ff (bG (bD s)):=xD I;have Y:=MS _ G;have R:=Zb _ G;obtain⟨g,B⟩:=ao (bG (bD s));have aO:g.idsZ.l.length=(bD s).length:=by rw[B];exact yL _
     unfold sk;rw[W,aj rfl];rw[<-B] at G Y R ⊢;have j:∀ c:am,(l++[c])[1]?=some (.q 2 [.af,.af]):=fun c=>by rw[aV (a2 q1)];exact q1
     have bs:∀ c:am,(l++[c])[0]?=some (.q 3 (bQ s)):=fun c=>by rw[aV (a2 K)];exact K
     have w:∀ c c' : am,((l++[c]).set 1 c')[1]?=some c':=fun c c'=>b1 (a2 (j c))
     have bp:=hw g.idsZ;have bq:=pd g.opsZ;have aM:=bU g.idsZ;have aN:=i7 g.opsZ;have aQ:bx (.ad 32) (ai g.idsZ)=_:=cd _;unfold cH bf at Y R;simp[cH,bf,ax];refine av Y (by simp[aq,U.aw,aM,aN]) ?_;by_cases z:e2 g=0
     ·have ay:∀ (c:am) (h:0<(l++[c]).length),(l++[c])[0]'h=.q 3 (bQ s):=fun c h=>(aK.1 (bs c)).2
      by_cases T:s.b6=(g.idsZ.l.length:Int)
      ·have bm:ai (rl g)=ai (cL (eX g)):=by unfold rl;rw[aj z]
       have heq:=Ho (cL (eX g)) s.cb (fun x m=>by rw[dr] at m;exact G.idsZ x ((dy.1 m).1)) I.cb (by rw[dr];exact dL (ie _ _) G.li);rw[dr] at heq;have a7:=bU (cL (eX g));have a8:=bU s.cb;rw[bm,z] at R;simp[z,ay,C,aJ,aQ,T];refine av R (by simp[aq,U.aw,aM,aN]) ?_;simp[ay,C,aZ];refine av heq (by simp[aq,a7,a8]) ?_;by_cases Q:eX g=s.cb.l
       ·have bo:e1 s:=⟨h1,aH,aR,W,by rw[<-B];exact z,by rw[T,aO],by rw[<-B];exact Q⟩
        rw[E0 bo,<-B];simp[Q,j,w,ax];exact aT rfl (by simp[U.aw,aq];exact ph g)
       ·have o:¬ e1 s:=fun h=>Q (by rw[B];exact h.tY)
        rw[rm o];simp[Q,j,w,ax];exact aE
      ·have o:¬ e1 s:=fun h=>T (by rw[h.ke,aO])
       rw[rm o];simp[z,j,w,ay,C,aJ,aQ,T,ax];exact aE
     ·have o:¬ e1 s:=fun h=>z (by rw[B];exact h.k6)
      rw[rm o];simp[z,j,w,ax];exact aE
  ·have J:¬ (s.al.l.length:Int)<1:=F;have au:(4:Int)<(s.al.l.length:Int):=F;rw[rm fun h=>aH h.sm];simp[C,X,ag,ax,J,au];exact aE
 ·have J:(s.al.l.length:Int)<1:=F;rw[rm fun h=>h1 h.gZ];simp[C,X,ag,ax,J];exact aE
theorem Kb (opsZ:List aG) (i:Nat) :dO (opsZ.map cp) i=dO opsZ i:=by unfold dO;rw[bW];cases opsZ[i]?<;>rfl
theorem MP (o:aG) :eA (cp o)=eA o:=rfl
theorem Ct (o:aG) :bE (cp o)=bE o:=rfl
theorem nK (g:aU) :(di g).opsZ.l=g.opsZ.l.map cp:=dr _
theorem Pr (idsZ:aO) (opsZ:List aG) (out:List Nat) :mB idsZ (opsZ.map cp) out=mB idsZ opsZ out:=by funext i;unfold mB;rw[Kb]
theorem Jr (idsZ:aO) (opsZ:List aG) (out:List Nat) :hT idsZ (opsZ.map cp) out=hT idsZ opsZ out:=by unfold hT;rw[Pr,cx]
theorem JL (idsZ:aO) (opsZ:List aG) :∀ k,eR idsZ (opsZ.map cp) k=eR idsZ opsZ k
 | 0=>rfl
 | k+1=>by
  have g:=JL idsZ opsZ k;cases h:hT idsZ opsZ (eR idsZ opsZ k) with
  | none=>rw[zx h,zx (by rw[g,Jr];exact h),g]
  | some i=>rw[wV h,wV (by rw[g,Jr];exact h),g]
theorem Xs (idsZ:aO) (opsZ:List aG) :jF idsZ (opsZ.map cp)=jF idsZ opsZ:=by
 have h1:pN idsZ (opsZ.map cp)=pN idsZ opsZ:=by
  unfold pN;rw[decide_eq_decide];constructor
  ·intro h j g;exact h (cp j) (te g)
  ·intro h j g;obtain⟨p,o,rfl⟩:=cy.1 g;exact h p o
 have m:l5 idsZ (opsZ.map cp)=l5 idsZ opsZ:=by unfold l5;rw[JL,cx]
 unfold jF;rw[h1,m,cx]
theorem RM (g:aU) (k:Nat) :jW (di g) k=jW g k:=by unfold jW;rw[nK,bW];rw[show (di g).idsZ.l=g.idsZ.l from rfl];cases g.opsZ.l[k]?<;>cases g.idsZ.l[k]?<;>rfl
theorem PF (g:aU) :e2 (di g)=e2 g:=by
 have h1:r5 (di g)=r5 g:=by
  unfold r5;rw[decide_eq_decide,nK,cx];simp only[RM]
 unfold e2;rw[h1,nK,Xs,cx];rfl
theorem Vh (l:List (List B × aG)) :hf (di (bG l))=l.map fun q=>(q.1,cp q.2):=by
 unfold hf;rw[nK];unfold bG di;simp only[dr,bL.kE]
 induction l with
 | nil=>rfl
 | cons a l g=>simp only[df,List.zip_cons_cons,g]
theorem Rq (g:aU) (x:List B) (m:Nat) :lU (di g) x m=lU g x m:=by
 unfold lU;rw[decide_eq_decide];have h:∀ j,(hU (di g).opsZ.l j).ay.l=(hU g.opsZ.l j).ay.l:=fun j=>by
  unfold hU;rw[nK,gA,gA,bW];cases g.opsZ.l[j]?<;>rfl
 constructor
 ·intro o j p;rw[<-h];exact o j p
 ·intro o j p;rw[h];exact o j p
theorem yO (g:aU) :eX (di g)=eX g:=by
 unfold eX;have h:∀ x,il (di g) x=il g x:=fun x=>by
  show lU (di g) x (di g).opsZ.l.length=lU g x g.opsZ.l.length;rw[Rq,nK,cx]
 rw[funext h];rfl
theorem Lq (o:aG) :gR o (cp (cp o))=true:=by unfold gR cp;simp[e8,dn,U.beq]
def nG (l:List (List B × aG)) (n k:Nat) :List (List B × aG):=(l.map fun q=>(q.1,cp q.2)).filter fun q=>decide (num q.1 n=k)
theorem U0 (l:List (List B × aG)) (n k:Nat) :hD (di (bG l)) (j0 (di (bG l)) n k)=di (bG (nG l n k)):=by
 unfold hD jz nG;rw[fC,Vh];congr 2;refine Fe fun q g=>?_
 rw[decide_eq_decide];unfold j0;rw[dy,bC];constructor
 ·exact fun h=>h.2
 ·intro h;refine⟨?_,h⟩;show q.1∈(di (bG l)).idsZ.l;obtain⟨m,j,rfl⟩:=cy.1 g;unfold di bG;simp only[dr,bL.kE];exact te j
theorem J8 (l:List (List B × aG)) (n k:Nat) :(hD (di (bG l)) (j0 (di (bG l)) n k)).idsZ.l=(nG l n k).map (·.1)/\(hD (di (bG l)) (j0 (di (bG l)) n k)).opsZ.l=((nG l n k).map (·.2)).map cp:=by
 rw[U0,nK];refine⟨?_,?_⟩
 ·unfold di bG;simp only[dr,bL.kE]
 ·unfold bG;simp only[dr]
theorem J9 {l:List (List B × aG)} {n k:Nat} {q:List B × aG}:q∈nG l n k<->∃ g∈l,q=(g.1,cp g.2)/\num q.1 n=k:=by
 unfold nG;rw[dy,cy,bC];constructor
 ·rintro⟨⟨g,h1,rfl⟩,h⟩;exact⟨g,h1,rfl,h⟩
 ·rintro⟨g,h1,rfl,h⟩;exact⟨⟨g,h1,rfl⟩,h⟩
theorem Ka {l:List (List B × aG)} (h:l.Pairwise fun a b=>eQ a.1 b.1=true) (n k:Nat) :(nG l n k).Pairwise fun a b=>eQ a.1 b.1=true:=by
 unfold nG;have g:(l.map fun q=>(q.1,cp q.2)).Pairwise fun a b=>eQ a.1 b.1=true:=by rw[m9];exact h
 exact g.sublist ki
theorem xC (s:ck) :cY s=di (bG (bD s)):=rfl
theorem yj (s:ck) :e2 (cY s)=e2 (bG (bD s)):=PF _
theorem LC {s:ck} (h:e1 s) :kP s=0:=by
 have W:ng s.al.l:=⟨fun g p=>(jI.1 h.wf g p).1,fun g p=>(jI.1 h.wf g p).2,wH h.ao⟩
 have w:=h.ao;unfold kH at w;rw[bC] at w;have T:h8 s (jw (cY s) s.al.l.length)=true:=by
  rw[ma];have G:(jw (cY s) s.al.l.length).al.l=iM (cY s) s.al.l.length s.al.l.length:=rfl;refine⟨by rw[G,pE],?_,?_,fun k hk=>?_⟩
  ·show s.b6=((cY s).idsZ.l.length:Int)
   rw[h.ke];congr 1;exact (yL (bD s)).symm
  ·show s.cb.l=(cL (eX (cY s))).l;rw[dr,xC,yO];exact h.tY.symm
  ·rw[G,dt (zc _ _ hk)];obtain⟨g,p,z⟩:=aP hk;rw[dt p];obtain⟨u,v⟩:=J8 (bD s) s.al.l.length k;rw[<-xC] at u v;have H:=w k hk;rw[dt p] at H;have X:=W.len g z;have R:(hf g).map (fun q=>(q.1,cp q.2))=nG (bD s) s.al.l.length k:=by
    refine zF ?_ (Ka (xF W) _ _) fun q=>?_
    ·rw[m9];have D:=oN (W.bX g z);have K:(hf g).map (·.1)=g.idsZ.l:=by unfold hf;rw[List.map_fst_zip F]
     rw[<-K,m9] at D;exact D
    ·rw[J9,cy];constructor
     ·rintro⟨m,B,rfl⟩;obtain⟨a,j⟩:=cj.1 B;unfold hf at j;rw[tc] at j;exact⟨m,(nP W m).2 ⟨g,z,a,j.1,j.2⟩,rfl,H m.1 (cE j.1)⟩
     ·rintro⟨m,B,rfl,Q⟩;obtain⟨r,S,a,j,O⟩:=(nP W m).1 B;obtain⟨C,t⟩:=cj.1 S;have:=w C (aK.1 t).1 m.1 (by rw[dt t];exact cE j);have P:C=k:=by rw[<-this];exact Q
      subst P;rw[p] at t;obtain rfl:=cg t;exact⟨m,cE (show (hf g)[a]?=some m by unfold hf;rw[tc];exact⟨j,O⟩),rfl⟩
   rw[<-R] at u v;have U:((hf g).map fun q=>(q.1,cp q.2)).map (·.1)=g.idsZ.l:=by
    rw[iU];unfold hf;exact List.map_fst_zip F
   have V:((hf g).map fun q=>(q.1,cp q.2)).map (·.2)=g.opsZ.l.map cp:=by
    rw[iU];have:(hf g).map (·.2)=g.opsZ.l:=by unfold hf;exact List.map_snd_zip F
    rw[<-this,iU];rfl
   rw[U] at u;rw[V] at v;unfold kM;rw[u,v];simp only[cx,nZ,mj,bC];intro C t;obtain⟨J,I,_⟩:=aP t;rw[jy I,jy (o:=cp (cp J)) (by rw[bW,bW,I];rfl)];exact Lq J
 unfold kP;rw[aj ⟨h.gZ,h.sm⟩,aj ⟨by rw[yj];exact h.k6,T⟩]
theorem Zo {s:ck} (h:kP s=0) :e1 s:=by
 obtain⟨h1,z,p,G⟩:=Em h;obtain⟨_,I,J,K⟩:=(ma _ _).1 G;have w:=lo p;have C:(jw (cY s) s.al.l.length).al.l=iM (cY s) s.al.l.length s.al.l.length:=rfl;have v:∀ (k:Nat) (g:aU),s.al.l[k]?=some g->g.idsZ.l=(nG (bD s) s.al.l.length k).map (·.1)/\g.opsZ.l.length=(nG (bD s) s.al.l.length k).length:=fun k g j=>by
  have hk:=(aK.1 j).1;have:=K k hk;rw[C,dt (zc _ _ hk),dt j] at this;unfold kM at this;simp only[bH,bC] at this;obtain⟨m,o⟩:=J8 (bD s) s.al.l.length k;exact⟨by rw[this.1];exact m,by rw[this.2.1,show (hD (cY s) (j0 (cY s) s.al.l.length k)).opsZ.l=_ from o,cx,cx]⟩
 have H:(bD s).Pairwise fun a b=>eQ a.1 b.1=true:=by
  have t:=oN w.bX;have:(cY s).idsZ.l=(bD s).map (·.1):=by rw[xC];unfold di bG;simp only[dr,bL.kE]
  rw[this,m9] at t;exact t
 refine⟨h1,z,?_,?_,by rw[<-yj];exact p,?_,?_⟩
 ·unfold kH;rw[bC];intro i B x u;obtain⟨g,j,_⟩:=aP B;rw[dt j,(v i g j).1] at u;obtain⟨q,F,rfl⟩:=cy.1 u;obtain⟨_,_,_,D⟩:=J9.1 F;exact D
 ·refine jI.2 fun g j=>?_
  obtain⟨k,hk⟩:=cj.1 j;obtain⟨m,o⟩:=v k g hk;refine⟨by rw[m,o,cx],uD ?_⟩;rw[m,m9];exact Ka H _ _
 ·rw[I];show ((cY s).idsZ.l.length:Int)=_;congr 1;exact yL (bD s)
 ·have:s.cb.l=(cL (eX (cY s))).l:=J;rw[this,dr,xC,yO]
theorem LB (s:ck) :kP s=0<->e1 s:=⟨Zo,LC⟩
theorem PN (s:ck) :(p6 s).aw=true:=by unfold p6;have:=ph (if p5 s=true then bG (bD s) else ⟨none,none⟩);simp[U.aw,aq,this]
theorem Y3 (s:ck) (q:g9 s) :aY 166 [.ah (bQ s)] (p6 s):=by apply bc func166 [];have t:(bQ s).length=3:=rfl;have o:(bQ s).take 3=bQ s:=rfl;have m:=pj s;have h:=MW s q;have g:=PN s;have u:p6 s=.a1 [.ah [ai (if p5 s=true then bG (bD s) else ⟨none,none⟩).idsZ,bF (if p5 s=true then bG (bD s) else ⟨none,none⟩).opsZ],.i6 (if p5 s=true then 0 else 8)]:=rfl;rw[u] at h g ⊢;obtain⟨j,p⟩:=ao (if p5 s=true then bG (bD s) else ⟨none,none⟩);rw[<-p] at h g ⊢;have v:=hw j.idsZ;have w:=pd j.opsZ;simp[t,o];refine av h (by simp[aq,U.aw,m]) ?_;simp[ax];exact aT rfl g
theorem Uz (g:aU) (l:aO) (i:Nat) :hC (di g) l i=hC g l i:=by unfold hC;rw[nK,Kb];rfl
theorem zy (g:aU) (l:aO) :j4 (di g) l=j4 g l:=by unfold j4;simp only[Uz]
theorem XZ (s:dm) :fK s=0\/fK s=8:=by
 unfold fK;split
 ·split
  ·exact .inl rfl
  ·exact .inr rfl
 ·exact .inr rfl
structure hJ (s:dm) :Prop where
 jR:1<=s.cap
 tJ:s.cap<=40
 aS:e1 s.aS
 ke:s.aS.b6<=s.cap
 le:(s.aJ.l.length:Int)=s.aS.b6
 ord:j4 (bG (bD s.aS)) s.aJ.l=true
theorem xo (s:dm) :fK s=0<->hJ s:=by
 unfold fK;constructor
 ·intro h;split at h
  ·rename_i h1;split at h
   ·rename_i t;exact⟨h1.1,h1.2.1,(LB _).1 h1.2.2.1,h1.2.2.2.1,h1.2.2.2.2,by rw[<-zy];exact t⟩
   ·cases h
  ·cases h
 ·rintro⟨g,j,m,o,p,q⟩;rw[aj ⟨g,j,(LB _).2 m,o,p⟩,aj (by rw[xC,zy];exact q)]
noncomputable def sI (s:dm) :aU:=if fK s=0 then bG (bD s.aS) else ⟨none,none⟩
noncomputable def pX (s:dm) :U:=.a1 [cH (sI s),.i6 (fK s)]
theorem uQ {s:dm} (h:¬ hJ s) :pX s=.a1 [.ah [.af,.af],.i6 8]:=by
 have g:¬ fK s=0:=fun e=>h ((xo s).1 e)
 unfold pX sI;rw[ak g,(XZ s).resolve_left g];rfl
theorem Xl {s:dm} (h:hJ s) :pX s=.a1 [cH (bG (bD s.aS)),.i6 0]:=by have g:fK s=0:=(xo s).2 h;unfold pX sI;rw[aj g,g]
theorem QB (e:bV) (v:cT e) (z:e.l.length<=1000000) {l:ae} {be:Nat} (h1:l[be]?=some (.q 1 [ai e])) (xs:aO) (F:∀ p∈xs,p.length=32) :
  tp 167 [.ptr be 0 1] l xs (fun p=>!decide (p∈e.l)):=by
 intro p B h m G o;apply cW func167 [];have g:=F p B;have D:=bu g;have C:=c4 p;have q1:h[be]?=some (.q 1 [ai e]):=by rw[m.2 _ (a2 h1)];exact h1
 have j:∀ c:am,(h++[c])[be]?=some (.q 1 [ai e]):=fun c=>by rw[aV (a2 q1)];exact q1
 have u:=bU e;have w:=p3 e v z p g;simp[j,D,aL];refine av w (by simp[aq,U.aw,u,C]) ?_;simp;exact o _ ⟨V,fun b t=>aV t⟩
theorem O7 (n k:Nat) (h:k<=n) :e6 n n none (some (.i6 (k:Int))) (some (.i6 (k:Int)))=some (0,k,k):=by
 have g:gW (.i6 (k:Int)) n=some k:=by
  show (if 0<=(k:Int)/\(k:Int)<=(n:Int) then some (k:Int).toNat else none)=some k;rw[aj ⟨F,F⟩];simp
 have j:gW (.i6 (k:Int)) k=some k:=by
  show (if 0<=(k:Int)/\(k:Int)<=(k:Int) then some (k:Int).toNat else none)=some k;rw[aj ⟨F,F⟩];simp
 unfold e6;simp only[g,j]
theorem Yb {alZ:Type} {z:Nat} {enc:alZ->ag} {s:bL alZ} {k:Nat} (h:k<=s.l.length) :dK (.ad z) (b4 z enc s) none (some (.i6 (k:Int))) (some (.i6 (k:Int)))=some (b4 z enc (g3 s k)):=by
 cases s with
 | none=>
  have:k=0:=by simpa using h
  subst this;rfl
 | some a=>
  have hk:k<=a.length:=h;simp only[dK,b4,if_true,cx,O7 _ _ hk,cz,lE,vi,g3,jh]
theorem W1 (s:dm) (K:kZ s) :aY 115 [.ah (cv s)] (pX s):=by
 apply bc func115 [];have u:(cv s).length=5:=rfl;have ce:(List.drop 1 (cv s)).take 3=bQ s.aS:=rfl;have a3:(cv s).tail.take 3=bQ s.aS:=rfl;have H:∀ h,(cv s)[0]'h=.i6 s.cap:=fun _=>rfl
 have ag:∀ h,(cv s)[3]'h=.i6 s.aS.b6:=fun _=>rfl
 have aj:∀ h,(cv s)[4]'h=ai s.aJ:=fun _=>rfl
 have cf:(cv s)[0]?=some (.i6 s.cap):=rfl;have cg:(cv s)[3]?=some (.i6 s.aS.b6):=rfl;have ch:(cv s)[4]?=some (ai s.aJ):=rfl;have bi:bx (.ad 32) (ai s.aJ)=_:=cd _;have a4:=pj s.aS;have B:=Y3 s.aS K.aS;by_cases C:e1 s.aS
 ·rw[E0 C] at B;have S:ff (bG (bD s.aS)):=xD K.aS;have D:=lo C.k6;have a8:=yL (bD s.aS);obtain⟨g,R⟩:=ao (bG (bD s.aS));rw[<-R] at B S D a8;have ck:=hw g.idsZ;have cl:=pd g.opsZ;have bh:bx (.ad 32) (ai g.idsZ)=_:=cd _;unfold cH bf at B;simp[u,a3];refine av B (by simp[aq,U.aw,a4]) ?_;have aC:=C.ke;rw[<-a8] at aC;by_cases h1:s.cap<1
  ·have m:¬ hJ s:=fun h=>by have:=h.jR;omega
   rw[uQ m];simp[ax,u,H,h1];exact aE
  ·by_cases w:40<s.cap
   ·have m:¬ hJ s:=fun h=>by have:=h.tJ;omega
    rw[uQ m];simp[ax,u,H,h1,w];exact aE
   ·by_cases Y:s.cap<s.aS.b6
    ·have m:¬ hJ s:=fun h=>by have:=h.ke;omega
     rw[uQ m];simp[ax,u,H,ag,h1,w,Y];exact aE
    ·by_cases Z:s.aJ.l.length=g.idsZ.l.length
     ·have a0:∀ b:Bool,(j4 g s.aJ.l=b)->pX s=if b=true then .a1 [.ah [ai g.idsZ,bF g.opsZ],.i6 0] else .a1 [.ah [.af,.af],.i6 8]:=fun b a7=>by
       cases b with
       | true=>
        have b4:hJ s:=⟨F,F,C,F,by rw[aC];congr 1,by rw[<-R];exact a7⟩
        rw[Xl b4,R];rfl
       | false=>
        have m:¬ hJ s:=fun h=>by have:=h.ord;rw[<-R,a7] at this;cases this
        rw[uQ m];rfl
      have ak:∀ i,i<s.aJ.l.length->hC g s.aJ.l i=false->pX s=.a1 [.ah [.af,.af],.i6 8]:=fun i bb bP=>by
       refine a0 false ?_;unfold j4;exact cC fun h=>by have:=h i bb;rw[bP] at this;cases this
      have bL:(∀ o,o<s.aJ.l.length->hC g s.aJ.l o=true)->pX s=.a1 [.ah [ai g.idsZ,bF g.opsZ],.i6 0]:=fun h=>a0 true (bY h)
      simp[ax,u,H,ag,aj,h1,w,Y,bi,bh,Z];refine bz s.aJ.l.length (fun i v l=>v 1=.ptr 0 0 5/\v 2=.ptr 1 0 2/\v 4=.ptr 2 0 2/\v 48=ai s.aJ/\v 49=.i6 s.aJ.l.length/\v 50=.i6 i/\l[0]?=some (.q 5 (cv s))/\l[1]?=some (.q 2 [.af,.af])/\l[2]?=some (.q 2 [ai g.idsZ,bF g.opsZ])/\∀ o,o<i->hC g s.aJ.l o=true) ?_ ⟨V,V,V,V,by simp[Z],V,rfl,rfl,rfl,fun o ap=>F⟩;rintro i v l bb ⟨aO,aQ,aR,aU,aW,aX,bp,q1,aG,a9⟩;obtain⟨v,rfl⟩:=rj aO aQ aR aU aW aX;clear aO aQ aR aU aW aX;have m:=K.no;have bA:=cq (k:=i) F;by_cases z:i<s.aJ.l.length
      ·obtain⟨x,bm,b3⟩:=aP z;have aD:=K.aJ x b3;have T:=bu aD;have aF:=c4 x;have bd:=we bm;have bZ:dK (.ad 32) (ai s.aJ) none (some (.i6 (i:Int))) (some (.i6 (i:Int)))=some (ai (g3 s.aJ i)):=Yb F;have bk:cT (g3 s.aJ i):=fun ca bo=>K.aJ ca (by rw[md] at bo;exact gh bo)
       have a5:(g3 s.aJ i).l.length<=1000000:=by rw[md,cO];omega
       have bl:=z2 g.idsZ S.idsZ S.li x aD D.bX;have I:=p3 (g3 s.aJ i) bk a5 x aD;rw[md] at I;have bN:=bU g.idsZ;have bO:=bU (g3 s.aJ i);have mt:=hw (g3 s.aJ i);have t:hC g s.aJ.l i=(decide (x∈g.idsZ.l)&&(!decide (x∈s.aJ.l.take i)&&ik (s.aJ.l.take i) (dO g.opsZ.l (dT x g.idsZ.l 0).toNat))):=by unfold hC;rw[dG bm]
       obtain⟨X,bH⟩:=ao (ar x);rw[<-bH] at T aF bd bl I;have a6:X.take 32=X:=aL F;have b2:ax (bT 32 (.int .u8 0)) 0 X=X:=cI (by rw[T];rfl);have bt:∀ j:ae,(l++j)[0]?=some (.q 5 (cv s)):=fun j=>by rw[aV (a2 bp)];exact bp
       have aN:∀ j:ae,(l++j)[1]?=some (.q 2 [.af,.af]):=fun j=>by rw[aV (a2 q1)];exact q1
       have bv:∀ j:ae,(l++j)[2]?=some (.q 2 [ai g.idsZ,bF g.opsZ]):=fun j=>by rw[aV (a2 aG)];exact aG
       have cb:∀ (j:ae) (h:0<(l++j).length),(l++j)[0]'h=.q 5 (cv s):=fun j h=>(aK.1 (bt j)).2
       have bw:∀ (j:ae) (h:1<(l++j).length),(l++j)[1]'h=.q 2 [.af,.af]:=fun j h=>(aK.1 (aN j)).2
       have bs:∀ (j:ae) (c:am),((l++j).set 1 c)[1]?=some c:=fun j c=>b1 (a2 (aN j))
       simp[z,bd,T,a6,b2,cb,u,aj,bZ,mt,bv];refine av bl (by simp[aq,U.aw,bN,aF]) ?_;by_cases J:x∈g.idsZ.l
       ·obtain⟨a,Q⟩:=cj.1 J;have bM:=BH D.bX Q;have ci:=(aK.1 Q).1;obtain⟨p,bj,bW⟩:=aP (l:=g.opsZ.l) (k:=a) (by rw[<-D.len];exact (aK.1 Q).1);have aA:=S.opsZ p bW;have bS:=Ia bj;have bK:=uf (mH D.bX) Q;rw[bY J,bK,fA,l6 bj,mj] at t;simp[J,bM,T,a6];refine av I (by simp[aq,U.aw,bO,aF]) ?_;by_cases P:x∈s.aJ.l.take i
        ·rw[bY P] at t;rw[ak i z (by rw[t];rfl)];simp[P,bw,ax];exact aE
        ·rw[cC P] at t;have cc:(au p)[1]?=some (ai p.ay):=rfl;have bC:∀ h,(au p)[1]'h=ai p.ay:=fun _=>rfl
         have bE:(au p).length=11:=rfl;obtain⟨L,G⟩:=ao (l++[am.q 32 X,am.q 1 [ai (g3 s.aJ i)]]);have b9:L[l.length+1]?=some (.q 1 [ai (g3 s.aJ i)]):=by rw[G];simp
         have bR:=QB (g3 s.aJ i) bk a5 b9 p.ay.l aA.idsZ;have aM:L[2]?=some (.q 2 [ai g.idsZ,bF g.opsZ]):=by rw[G];exact bv _
         have br:L[1]?=some (.q 2 [.af,.af]):=by rw[G];exact aN _
         have bq:L[0]?=some (.q 5 (cv s)):=by rw[G];exact bt _
         simp[P,aM,bS,bC,bE,<-G];refine ym p.ay aA.idsZ aA.len bg bR fun W al=>?_
         have b5:W[0]?=some (.q 5 (cv s)):=by rw[al.2 0 (a2 bq)];exact bq
         have aH:W[1]?=some (.q 2 [.af,.af]):=by rw[al.2 1 (a2 br)];exact br
         have b7:W[2]?=some (.q 2 [ai g.idsZ,bF g.opsZ]):=by rw[al.2 2 (a2 aM)];exact aM
         have bI:(p.ay.l.any fun O=>!decide (O∈(g3 s.aJ i).l))=!ik (s.aJ.l.take i) p.ay.l:=by
          rw[md,xL,ta,s8];unfold ik;rw[decide_eq_false_iff_not];constructor
          ·rintro⟨O,aB,az⟩ h;have:=h O aB;simp[this] at az
          ·intro h;refine Classical.byContradiction fun m=>h fun O aB=>Classical.byContradiction fun az=>m ⟨O,aB,by simp[az]⟩
         rw[bI];cases aZ:ik (s.aJ.l.take i) p.ay.l with
         | true=>
          rw[aZ] at t;simp[bA];refine⟨z,b5,aH,b7,fun o ap=>?_⟩;by_cases bV:o=i
          ·rw[bV,t];rfl
          ·exact a9 o F
         | false=>
          rw[aZ] at t;rw[ak i z (by rw[t];rfl)];have b8:∀ c:am,(W.set 1 c)[1]?=some c:=fun c=>b1 (a2 aH)
          simp[aH,b8,ax];exact aE
       ·rw[cC J,ru] at t;rw[ak i z t];simp[J,bw,ax];exact aE
      ·have I:i=s.aJ.l.length:=F;subst I;rw[bL fun o ap=>a9 o ap];have bs:∀ c:am,(l.set 1 c)[1]?=some c:=fun c=>b1 (a2 q1)
       simp[aG,q1,bs,ax];exact aT rfl (by have h1:=bU g.idsZ;have w:=i7 g.opsZ;simp[U.aw,aq,h1,w])
     ·have m:¬ hJ s:=fun h=>by have:=h.le;rw[aC] at this;exact Z F
      have bB:¬ (s.aJ.l.length:Int)=g.idsZ.l.length:=F;rw[uQ m];simp[ax,u,H,ag,aj,h1,w,Y,bi,bh,bB];exact aE
 ·have m:¬ hJ s:=fun h=>C h.aS
  rw[rm C] at B;rw[uQ m];simp[u,a3];refine av B (by simp[aq,U.aw,a4]) ?_;simp[ax];exact aE
theorem Lo (s:dm) (m:kZ s) :aY 63 [.ah (cv s)] (.i6 (fK s)):=by apply bc func63 [];have o:(cv s).length=5:=rfl;have j:(cv s).take 5=cv s:=rfl;have h:=k7 s;have g:=W1 s m;have p:pX s=.a1 [.ah [ai (sI s).idsZ,bF (sI s).opsZ],.i6 (fK s)]:=rfl;rw[p] at g;have q:=hw (sI s).idsZ;have t:=pd (sI s).opsZ;simp[o,j];refine av g (by simp[aq,U.aw,h]) ?_;simp[ax];exact aE
structure NM where
 Cf:Int
 idsZ:bV
 ab5:Bool
structure ZH (d:NM) :Prop where
 idsZ:cT d.idsZ
 acL:d.idsZ.l.length<=1000
end Op
end Go.bh
namespace Go.bh
open Go Go.Proofs Go.Proofs.Tryz Go.RowKit
namespace Op
open ca
structure x5 (g:aU) :Prop where
 idsZ:cT g.idsZ
 opsZ:∀ o∈g.opsZ.l,vw o
theorem Uw {g:aU} (h:x5 g) (j:pt g=false) :ff g:=by
 unfold pt at j;simp only[qa,decide_eq_false_iff_not] at j;obtain⟨h1,u,v,w⟩:=j;refine⟨h.idsZ,fun o q=>?_,F,F⟩;have p:¬ pu o=true:=fun t=>h1 ⟨o,by rw[aL F];exact q,t⟩
 unfold pu at p;simp only[qb,bC,not_or] at p;have m:=h.opsZ o q;exact⟨m.idsZ,F,⟨m.gZ,m.qR,F⟩,F⟩
theorem YB {ts:List aC} {cs:ag} (h:c0 prog (70::ts) cs) :∃ (g:aU) (cs' : ag),cs=bf g++cs'/\x5 g/\c0 prog ts cs':=by
 have m:=nL (fs:=[23,68]) bg h;obtain⟨i,_,rfl,q,o⟩:=xv m;obtain⟨s,_,rfl,_,t,p⟩:=xw (e:=55) (z:=11) (enc:=au) (Q:=vw) bg bg (fun r u=>by
  obtain⟨x,_,rfl,v,j⟩:=EP u;rw[sT j,eT];exact⟨x,rfl,v⟩) o
 exact⟨⟨i,s⟩,_,rfl,⟨q,t⟩,p⟩
structure FK (s:dm) :Prop where
 al:∀ p∈s.aS.al.l,x5 p
 cb:cT s.aS.cb
 aJ:cT s.aJ
theorem UF {s:dm} (h:FK s) (j:r8 s=false) :kZ s:=by unfold r8 mF at j;simp only[qa,decide_eq_false_iff_not] at j;obtain⟨⟨h1,q,t⟩,u⟩:=j;refine⟨⟨fun o m=>?_,F,h.cb,F⟩,h.aJ,F⟩;have g:=AM.1 h1 o (by rw[aL F];exact m);unfold o9 at g;simp only[qb,bC,not_or] at g;obtain⟨v,w,p⟩:=g;exact⟨Uw (h.al o m) (by simpa using p),F,F⟩
theorem W4 (g:aU) :kM g (di g)=true:=by unfold kM;rw[nK];have:(di g).idsZ.l=g.idsZ.l:=rfl;rw[this];simp only[cx,nZ,mj,bC];intro p j;obtain⟨m,h,_⟩:=aP j;rw[jy h,jy (o:=cp m) (by rw[bW,h];rfl)];unfold gR cp;simp[e8,dn,U.beq]
theorem W6 (s:ck) :h8 s (ce s)=true:=by rw[ma];have j:(ce s).al.l=s.al.l.map di:=dr _;refine⟨by rw[j,cx],rfl,rfl,fun k hk=>?_⟩;obtain⟨m,h,_⟩:=aP hk;rw[j,dt h,dt (g:=di m) (by rw[bW,h];rfl)];exact W4 m
theorem W8 (s:dm) :lw s (gS s)=true:=by unfold lw;rw[show (gS s).aS=ce s.aS from rfl,W6];simp[gS]
end Op
end Go.bh
namespace Go.bh
open Go Go.Proofs Go.Proofs.Tryz
namespace Op
open ca
theorem R7 (v f:U) (l:ae) {K:cA} (o:K (.a1 []) l) :cJ 235 [v,.i6 0,.i6 0,f] l K:=by
 apply cW func235 [];have p:IntKind.i64.wrap 1=1:=by decide
 simp;refine bz 0 (fun _ g h=>h=l/\g 2=.i6 0/\g 8=.i6 1) ?_ ⟨rfl,V,by simp[p]⟩;rintro k g h hk ⟨rfl,j,m⟩;simp[j,m];exact o
theorem U4 (v f:U) (n:Int) (l:ae) {K:cA} (q:K (.a1 []) l) :cJ 200 [v,.i6 0,.i6 0,.i6 n,f] l K:=by
 apply cW func200 [];have t:IntKind.i64.wrap 0=0:=by decide
 simp;refine bz 0 (fun _ g h=>h=l/\g 0=v/\g 1=.i6 0/\g 2=.i6 0/\g 4=f) ?_ ⟨rfl,V,V,V,V⟩;rintro k g h hk ⟨rfl,j,m,o,p⟩;simp[j,m,o,p,t];refine R7 v f h ?_;simp;exact q
theorem UU {z:Nat} {l:ae} {v:U} {j:Nat} {es:List (ag)} (h:aM z l v j es) {i:Nat} {e:ag} (g:es[i]?=some e) :
  ∃ n cap sz cs,v=.ad z j 0 n cap sz/\l[j]?=some (.q sz cs)/\es.length=n/\cs.length=sz/\i<n/\i*z+z<=sz/\(cs.drop (i*z)).take z=e:=by
 cases h with
 | nil j=>cases g
 | ad j n cap sz cs es o u w B p D t=>
  have G:i<es.length:=(aK.1 g).1;have h1:(i+1)*z<=n*z:=cn _ F;have C:n*z<=cap*z:=cn _ p;rw[eu] at h1;refine⟨n,cap,sz,cs,rfl,o,w,u,F,F,?_⟩;have m:=HH B g;rw[<-t,rv,na,iX F] at m;exact m
theorem XC (v f:U) (j:bx (.ad 32) v=some (.i6 0)) (l:ae) {K:cA} (g:K (.a1 []) l) :cJ 136 [v,f] l K:=by
 apply cW func136 [];have h:aY 201 [c1 0] (.i6 (h4 (0:Q).toNat)):=by
  apply bc func201 [];have h:=IJ 0;simp;refine av h rfl ?_;simp;exact aE
 simp[j];refine av h rfl ?_;simp;refine U4 v f _ l ?_;simp;exact g
theorem UW {z:Nat} {l l1:ae} {v:U} {j:Nat} {es:List (ag)} (h:aM z l v j es) (g:ih l l1) :aM z l1 v j es:=by
 refine h.c6 ?_;rcases h.lt with e | e
 ·exact .inl e
 ·exact .inr (g.2 j e)
structure FJ (g:aU) (D:aO) :Prop where
 ll:D.Nodup
 sub:∀ x∈D,x∈g.idsZ.l
 pre:∀ (i:Nat) (x:List B) (j:Nat),D[i]?=some x->g.idsZ.l[j]?=some x->∀ q∈dO g.opsZ.l j,q∈D.take i
theorem Mm {g:aU} (u:vr g) {l:aO} (h:j4 g l=true) :FJ g l:=by
 unfold j4 at h;rw[bC] at h;have t:∀ (i:Nat) (x:List B),l[i]?=some x->x∈g.idsZ.l/\x∉l.take i/\ik (l.take i) (dO g.opsZ.l (dT x g.idsZ.l 0).toNat)=true:=fun i x j=>by
  have:=h i (aK.1 j).1;unfold hC at this;rw[dG j] at this;simpa [bH] using this
 refine⟨?_,fun x z=>?_,fun i x p j o q w=>?_⟩
 ·refine kV.2 fun i p j o v e=>?_
  have h1:=(t p l[p] (bI o)).2.1;exact h1 (cj.2 ⟨i,by rw[dU v,bI j,e]⟩)
 ·obtain⟨i,j⟩:=cj.1 z;exact (t i x j).1
 ·have m:=(t i x j).2.2;rw[uf (mH u.bX) o,fA] at m;unfold ik at m;exact iZ m q w
theorem L9 {alZ:Type} [DecidableEq alZ] :∀ {a b:List alZ},a.Nodup->(∀ x∈a,x∈b)->a.length<=b.length
 | [],_,_,_=>ek _
 | x::a,b,o,h=>by
  obtain⟨h1,j⟩:=vf.1 o;have m:∀ y∈a,y∈b.erase x:=fun y g=>(Fl (fun e=>h1 (by rw[<-e];exact g))).2 (h y (AU _ g))
  have p:=L9 j m;have q:=Fi (h x V);have t:=Fj (h x V);simp only[dE];omega
def lZ (o:aG) :Bool:=decide (40<o.ay.l.length)||(decide (100<o.act.key.length)||decide (100<o.act.val.text.length))
theorem Kx (o:aG) :aY 43 [.ah (au o)] (.bool (lZ o)):=by
 apply bc func43 [];unfold lZ;have j:bx (.ad 32) (ai o.ay)=_:=cd _;by_cases h1:40<o.ay.l.length
 ·have g:(40:Int)<(o.ay.l.length:Int):=F;simp[au,j,h1,g];exact aT V rfl
 ·have g:¬ (40:Int)<(o.ay.l.length:Int):=F;by_cases m:100<o.act.key.length
  ·have h:(100:Int)<(o.act.key.length:Int):=F;simp[au,j,h1,g,m,h];exact aT V rfl
  ·have h:¬ (100:Int)<(o.act.key.length:Int):=F;have p:((100:Int)<(o.act.val.text.length:Int))<->100<o.act.val.text.length:=F;simp[au,j,h1,g,m,h,p];exact aT V rfl
theorem JS (a b:List B) (g:a.length=32) (h:b.length=32) :aY 137 [.ah (ar a),.ah (ar b)] (.i6 (bJ a b)):=by
 apply bc func137 [];have o:=uR (n:=32) (b:=1) F;have p:=uR (n:=32) (b:=0) F;simp[ar,g,h,o,p];have m:=Gb (some a) (some b) (by simp[g,h]);refine hg m ?_ rfl ?_
 ·exact .cons ((lp (j:=0) g rfl).l8 (fun _=>rfl) (some a) rfl rfl) (.cons ((lp (j:=1) h rfl).l8 (fun _=>rfl) (some b) rfl rfl) .nil)
 ·simp;exact aE
def e3 (o:aG) (m:aO) :Bool:=decide (0<m.length)&&(bX m&&m.all fun x=>decide (x∈o.ay.l))
theorem K2 {l:aO} (h:bX l=true) {k:Nat} (hk:k+1<l.length) :bJ (bo l k) (bo l (k+1))<0:=(iZ h) (k+1) hk F
structure N0 (o:aG) (m:bV) (k:Nat) (sgZ:aR) (l:ae) :Prop where
 ov:∃ r,l=.q 11 (au o) ::r
 fp:sgZ 1=ai m
 iI:sgZ 2=.ptr 0 0 11
 v6:sgZ 7=ai m
 oo:sgZ 8=.i6 m.l.length
 HW:sgZ 9=.i6 k
 jX:∀ j,j<k->(1<=j->bJ (bo m.l (j - 1)) (bo m.l j)<0)/\bo m.l j∈o.ay.l
theorem MU (o:aG) (aj:dz o) (m:bV) (u:cT m) (aQ:m.l.length<=1000000) :aY 98 [.ah (au o),ai m] (.bool (e3 o m.l)):=by
 apply bc func98 [];have Z:bx (.ad 32) (ai m)=_:=cd _;have X:=bU o.ay;simp[Z];refine bz m.l.length (N0 o m) ?_ ⟨⟨_,rfl⟩,V,by simp[au],V,V,V,fun g h=>F⟩;rintro k aJ l hk ⟨⟨r,rfl⟩,O,P,Q,R,S,I⟩;obtain⟨aJ,rfl⟩:=gx O P Q R S;clear O P Q R S;simp;refine gp (fun h=>?_) (fun h=>?_)
 ·simp only[bC] at h;obtain⟨y,ak,K⟩:=aP (l:=m.l) (k:=k) F;have v:=bu (u y K);have aO:=cq (k:=k) F;have t:bO (.ad 32) (ai m) _=_:=dg ak;have J:ax (bT 32 (.int .u8 0)) 0 (ar y)=ar y:=cI (by rw[v];rfl);have G:=p3 o.ay aj.idsZ aj.len y (u y K);have B:=c4 y;have w:bo m.l k=y:=dG ak;have C:∀ (g:Nat),g<m.l.length->¬ ((1<=g->bJ (bo m.l (g - 1)) (bo m.l g)<0)/\bo m.l g∈o.ay.l)->e3 o m.l=false:=fun g p aE=>by
   unfold e3;cases h1:bX m.l with
   | false=>simp
   | true=>
    cases q:(m.l.all fun x=>decide (x∈o.ay.l)) with
    | false=>simp
    | true=>
     exact bP ⟨fun h=>(iZ h1) g p h,iZ (gg.1 q _ (wg p))⟩ aE
  obtain⟨aM,T⟩:=ao (ar y);rw[<-T] at v t J G B;have ag:y∈o.ay.l->(1<=k->bJ (bo m.l (k - 1)) y<0)->∀ g,g<k+1->(1<=g->bJ (bo m.l (g - 1)) (bo m.l g)<0)/\bo m.l g∈o.ay.l:=fun h1 q g p=>by
   by_cases aC:g=k
   ·subst aC;rw[w];exact⟨q,h1⟩
   ·exact I g F
  rcases k with _ | k
  ·simp at t;simp[au,t,v,J,aL];refine av G (by simp[aq,U.aw,X,B]) ?_;by_cases j:y∈o.ay.l
   ·simp[j];exact⟨F,⟨_,rfl⟩,V,V,V,V,by simp;rw[IntKind.wrap_i64];omega,ag j (fun h=>F)⟩
   ·have:=C 0 F (fun h=>j (by rw[<-w];exact h.2));simp[j];exact aT (by rw[this]) rfl
  ·obtain⟨z,al,az⟩:=aP (l:=m.l) (k:=k) F;have ap:=bu (u z az);have am:=c4 z;have W:bo m.l k=z:=dG al;have aA:IntKind.i64.wrap (k:Int)=(k:Int):=by rw[IntKind.wrap_i64];omega
   have aF:(0:Int)<(k:Int)+1:=F;have Y:bO (.ad 32) (ai m) _=_:=dg al;have D:=JS z y (u z az) (u y K);obtain⟨aN,aB⟩:=ao (ar z);rw[<-aB] at Y ap am D;rw[<-T] at D;simp at t;simp[aF,t,Y,aA,v,ap,J,aL];refine av D (by simp[aq,U.aw,am,B]) ?_;by_cases ae:bJ z y<0
   ·have H:¬ (0:Int)<=bJ z y:=F;simp[H,au,v,aL];refine av G (by simp[aq,U.aw,X,B]) ?_;by_cases j:y∈o.ay.l
    ·simp[j];exact⟨F,⟨_,rfl⟩,V,V,V,V,by simp;rw[IntKind.wrap_i64];omega,ag j (fun h=>by rw[ti,W];exact ae)⟩
    ·have:=C (k+1) F (fun h=>j (by rw[<-w];exact h.2));simp[j];exact aT (by rw[this]) rfl
   ·have H:(0:Int)<=bJ z y:=F;have:=C (k+1) F (fun h=>ae (by have:=h.1 F;rw[w,ti,W] at this;exact this));simp[H];exact aT (by rw[this]) rfl
 ·simp[h,Z];have aD:k=m.l.length:=by simp at h;omega
  refine aT (ch U.bool ?_) rfl;have h1:bX m.l=true:=uM fun g p h1=>(I g F).1 h1
  have q:(m.l.all fun x=>decide (x∈o.ay.l))=true:=gg.2 fun x aH=>by
   obtain⟨g,p⟩:=cj.1 aH;have:=(I g (by rw[aD];exact (aK.1 p).1)).2;rw[dG p] at this;exact bY this
  unfold e3;rw[h1,q];simp
structure nd (j:Nat) (l l' : ae) :Prop where
 le:l.length<=l'.length
 same:∀ b,b<l.length->b≠j->l'[b]?=l[b]?
def vl (g:cf) (cap:ag) (j:Nat) (l0:ae) (xs:aO) (p:List B->Bool) :Prop:=
 ∀ x∈xs,∀ l,nd j l0 l->∀ m:cA,(∀ h,l.length<=h.length->(∀ b,b<l.length->h[b]?=l[b]?)->m (.bool (p x)) h)->cJ g ([]++[.ah (ar x)]++cap) l m
structure NR (l0:ae) (v:U) (g:cf) (cap:ag) (xs:aO) (p:List B->Bool) (k:Nat) (sgZ:aR) (l:ae) :Prop where
 lf:sgZ 0=v
 fp:sgZ 1=.fn g [] cap
 v6:sgZ 7=.i6 xs.length
 oo:sgZ 8=.i6 k
 jX:∀ (j:Nat) (z:List B),j<k->xs[j]?=some z->p z=false
 le:l0.length<=l.length
 same:∀ b,b<l0.length->l[b]?=l0[b]?
theorem R3 {g:cf} {cap:ag} {j:Nat} {l:ae} {v:U} {xs:aO} {p:List B->Bool} (al:fR prog g=true) (T:aM 32 l v j (xs.map ar)) (m:(∀ x∈xs,x.length=32)) (ax:xs.length<=1000000) (au:vl g cap j l xs p)
  {K:cA} (Q:∀ n l',(n=-1/\(∀ z∈xs,p z=false)\/∃ k:Nat,n=(k:Int)/\k<xs.length/\(∀ (i:Nat) (z:List B),i<k->xs[i]?=some z->p z=false)/\∀ y,xs[k]?=some y->p y=true)->l.length<=l'.length->(∀ b,b<l.length->l'[b]?=l[b]?)->K (.i6 n) l') :
  cJ 139 [v,.fn g [] cap] l K:=by
 apply cW func139 [];have S:=T.len;rw[cx] at S;simp[S];refine bz xs.length (NR l v g cap xs p) ?_ ⟨V,V,V,V,fun j z h=>F,aI _,fun _ _=>rfl⟩;rintro k aw X hk ⟨G,H,I,J,C,R,u⟩;obtain⟨aw,rfl⟩:=fc G H I J;clear G H I J;simp;refine gp (fun h=>?_) (fun h=>?_)
 ·simp only[bC] at h;obtain⟨y,D,av⟩:=aP (l:=xs) (k:=k) F;have ak:=cq (k:=k) F;have aq:aM 32 X v j (xs.map ar):=T.frame fun ao=>u j ao
  obtain⟨q,cs,az,Y,Z,ai,aj⟩:=aq.q.get (k:=.i64) (i:=k) (e:=ar y) (by rw[bW,D];rfl);simp[Y,Z,ai,aj];refine⟨al,?_⟩;have:=au y av X ⟨R,fun b o _=>u b o⟩;simp at this;refine this _ fun ay h1 O=>?_
  cases P:p y with
  | true=>
   simp;refine Q _ _ (.inr ⟨k,rfl,h,fun i z t m=>C i z t m,fun w W=>?_⟩) F (fun b o=>by rw[O b F];exact u b o);rw[D] at W;obtain rfl:=cg W;exact P
  | false=>
   simp[ak];refine⟨F,V,V,V,V,fun i z t m=>?_,F,fun b o=>by rw[O b F];exact u b o⟩;by_cases am:i=k
   ·rw[am,D] at m;obtain rfl:=cg m;exact P
   ·exact C i z F m
 ·simp[h];have ap:k=xs.length:=by simp at h;omega
  refine Q _ _ (.inl ⟨rfl,fun z m=>?_⟩) R u;obtain⟨i,t⟩:=cj.1 m;exact C i z (by rw[ap];exact (aK.1 t).1) t
structure NL (l0:ae) (v:U) (g:cf) (cap:ag) (j:Nat) (xs:aO) (p:List B->Bool) (k:Nat) (sgZ:aR) (l:ae) :Prop where
 lf:sgZ 0=v
 fp:sgZ 1=.fn g [] cap
 nw:sgZ 6=.i6 k
 RT:nd j l0 l
 ex:∃ (q:Nat) (h:aO),sgZ 5=.i6 (q:Int)/\aM 32 l v j (h.map ar)/\h.length=xs.length/\(∀ x∈h,x.length=32)/\h.take q=(xs.take k).filter (fun t=>!p t)/\q<k/\∀ t,k<=t->h[t]?=xs[t]?
theorem Hy {p:List B->Bool} {l:aO} (h:∀ z∈l,p z=false) :l.filter (fun t=>!p t)=l:=by rw[ry];intro a g;rw[h a g];rfl
theorem Q6 {p:List B->Bool} {l:aO} {k:Nat} (h:∀ (i:Nat) (z:List B),i<k->l[i]?=some z->p z=false) :(l.take k).filter (fun t=>!p t)=l.take k:=by
 refine Hy fun z m=>?_
 obtain⟨i,g⟩:=cj.1 m;have j:=(aK.1 g).1;rw[cO] at j;rw[dU F] at g;exact h i z F g
theorem Q4 {p:List B->Bool} {l:aO} {k:Nat} {y:List B} (h:l[k]?=some y) :(l.take (k+1)).filter (fun t=>!p t)=(l.take k).filter (fun t=>!p t)++(if p y then [] else [y]):=by rw[eU,h,lF];cases g:p y<;>simp[g]
theorem Hd {g:cf} {cap:ag} {j:Nat} {l:ae} {v:U} {xs:aO} {p:List B->Bool} (aQ:fR prog g=true) (H:aM 32 l v j (xs.map ar)) (ay:(∀ x∈xs,x.length=32)) (bj:xs.length<=1000000) (aS:vl g cap j l xs p)
  {K:cA} (aN:∀ r l',aM 32 l' r j ((xs.filter fun t=>!p t).map ar)->nd j l l'->bt r=bt v->(r=v\/∃ q:Nat,dK (.ad 32) v none (some (.i6 (q:Int))) none=some r)->K r l') :
  cJ 140 [v,.fn g [] cap] l K:=by
 apply cW func140 [];have bg:=H.len;rw[cx] at bg;simp;refine R3 aQ H ay bj aS fun n bs bc aR T=>?_
 rcases bc with ⟨rfl,a8⟩ | ⟨w,rfl,ap,bh,a9⟩
 ·simp;refine aN _ _ ?_ ⟨aR,fun b m _=>T b m⟩ rfl (.inl rfl);rw[Hy a8];exact H.frame fun G=>T j G
 ·have bk:¬ ((w:Int)=-1):=F;have a5:=cq (k:=w) F;have bm:aM 32 bs v j (xs.map ar):=H.frame fun G=>T j G
  have bp:bt v=false:=by
   cases bl:bt v with
   | false=>rfl
   | true=>
    have:=gC.1 bl;subst this;have:=H.q.pJ;rw[nU] at this;rw[this] at ap;simp at ap
  simp[bk,a5];refine bz (xs.length - (w+1)) (fun W=>NL l v g cap j xs p (w+1+W)) ?_ ⟨V,V,V,⟨aR,fun b m _=>T b m⟩,w,xs,V,bm,rfl,ay,?_,F,fun _ _=>rfl⟩
  ·rintro W bv P bB ⟨aF,aG,Z,u,q,C,aH,R,av,aw,J,bo,S⟩;obtain⟨k,hk⟩:=ao (w+1+W);rw[show w+1+(W+1)=k+1 by omega];rw[<-hk] at Z J bo S;obtain⟨bv,rfl⟩:=fc aF aG aH Z;clear aF aG aH Z;have aq:=R.len;rw[cx,av] at aq;by_cases bi:k<xs.length
   ·have au:(k:Int)<(xs.length:Int):=F;obtain⟨y,O,aZ⟩:=aP (l:=xs) (k:=k) bi;have aY:=ay y aZ;have D:=bu aY;have aX:ax (bT 32 (.int .u8 0)) 0 (ar y)=ar y:=cI (by rw[D];rfl);have aE:=cq (k:=k) F;have a6:=cq (k:=q) F;have bq:C[k]?=some y:=by rw[S k (aI _)];exact O
    obtain⟨bG,cs,bE,a2,a3,a4,aD⟩:=R.q.get (k:=.i64) (i:=k) (e:=ar y) (by rw[bW,bq];rfl);have bd:nd j l (P++[am.q 32 (ar y)]):=⟨by have:=u.le;simp;omega,fun b m o=>by rw[aV (by have:=u.le;omega)];exact u.same b m o⟩
    have ai:=aS y aZ _ bd;have Q:=Q4 (p:=p) O;have aW:=fun (iL:ae) (h:aM 32 iL v j (C.map ar))=>zz (X:=.ah (ar y)) rfl h (fun t I=>bu (aw t I)) (k:=q) (x:=y) F D
    simp at ai;obtain⟨a0,a7⟩:=ao (ar y);rw[<-a7] at D aX aD ai aW;simp[aq,au,a2,a3,a4,aD,D,aX,aL];refine⟨aQ,?_⟩;refine ai _ fun iL h1 aJ=>?_
    have bA:P.length<iL.length:=F;have aU:∀ b,b<P.length->iL[b]?=P[b]?:=fun b m=>by rw[aJ b F,aV m]
    have aT:aM 32 iL v j (C.map ar):=R.frame fun G=>aU j G
    have bb:iL[P.length]?=some (.q 32 a0):=by rw[aJ _ V];simp
    have al:nd j l iL:=⟨by have:=u.le;omega,fun b m o=>by rw[aU b (by have:=u.le;omega)];exact u.same b m o⟩
    cases aK:p y with
    | true=>
     rw[aK,aj rfl,eT] at Q;simp[aE];refine⟨F,V,V,V,al,q,C,V,aT,av,aw,by rw[Q];exact J,F,fun t I=>S t F⟩
    | false=>
     rw[aK,ak V] at Q;obtain⟨bF,bD,az,aA,Y,aB,aC⟩:=aW iL aT;simp[bb,D,az,aA,aE,a6,aL];refine⟨F,V,V,V,⟨by have:=al.le;omega,fun b m o=>by rw[aC b o];exact al.same b m o⟩,q+1,C.set q y,V,Y,by simp[av],fun t I=>?_,?_,F,fun t I=>?_⟩
     ·rcases nV I with h | h
      ·exact aw _ h
      ·rw[h];exact aY
     ·have bw:(C.take q).length=q:=by rw[cO];omega
      rw[rA,aj F,qe,bw,aL F,show q+1 - q=1 by omega,Q,<-J];simp
     ·rw[br F];exact S t F
   ·have au:¬ (k:Int)<(xs.length:Int):=F;have bf:k=xs.length:=F;obtain⟨bH,bC,r,az,aA,Y,aB,aC,bI,bx⟩:=JM (z:=32) (zr:=bT 32 (.int .u8 0)) rfl R (k:=q) F;simp[aq,au,az,aA,Y];rw[bf,fC] at J;rw[J] at aB;exact aN _ _ aB ⟨by have:=u.le;omega,fun b m o=>by rw[bx b o];exact u.same b m o⟩ (by rw[aC,bp]) (.inr ⟨q,Y⟩)
  ·rw[eU,lF,Q6 bh];obtain⟨y,O,_⟩:=aP (l:=xs) (k:=w) ap;have:=a9 y O;rw[O];simp[this]
theorem Hc {g:cf} {cap:ag} {j:Nat} {l:ae} {v:U} {xs:aO} {p:List B->Bool} (q:fR prog g=true) (w:aM 32 l v j (xs.map ar)) (C:(∀ x∈xs,x.length=32)) (u:xs.length<=1000000) (z:vl g cap j l xs p)
  {K:cA} (o:∀ r l',aM 32 l' r j ((xs.filter fun t=>!p t).map ar)->nd j l l'->bt r=bt v->K r l') :
  cJ 140 [v,.fn g [] cap] l K:=Hd q w C u z fun r l' h1 h m _=>o r l' h1 h m
def pR (g:aU) (x:List B) (o:aG) :aU:=di ⟨some (c2 g.idsZ.l (ec g.idsZ.l x) x),some (c2 g.opsZ.l (ec g.idsZ.l x) o)⟩
theorem yS {l:aO} (h:bX l=true) {x:List B} (g:x∉l) :bX (c2 l (ec l x) x)=true:=by have:=Ii h x;unfold jr at this;rw[ak (fun e=>g (cE e))] at this;exact this
theorem Sa {alZ g:Type} {a:List alZ} {b:List g} (h:a.length=b.length) (k:Nat) (x:alZ) (y:g) :(c2 a k x).zip (c2 b k y)=c2 (a.zip b) k (x,y):=by unfold c2;rw[List.zip_append (by rw[cO,cO,h]),List.zip_cons_cons];rw[Fs,Fs,Fs,List.take_zipWith,List.drop_zipWith]
structure vp (g h:aU) (x:List B) (o:aG) :Prop where
 len:h.idsZ.l.length=h.opsZ.l.length
 n60:h.opsZ.l.length<=60
 bX:bX h.idsZ.l=true
 mem:∀ (y:List B) (q:aG),(∃ k:Nat,h.idsZ.l[k]?=some y/\h.opsZ.l[k]?=some q)<->((y=x/\q=o)\/∃ j:Nat,g.idsZ.l[j]?=some y/\g.opsZ.l[j]?=some q)
theorem vp.idsZ {g j:aU} {x:List B} {o:aG} (M:vp g j x o) (u:g.idsZ.l.length=g.opsZ.l.length) (y:List B) :y∈j.idsZ.l<->y=x\/y∈g.idsZ.l:=by
 have h1:=M.len;constructor
 ·intro h;obtain⟨k,hk⟩:=cj.1 h;obtain⟨q,m,_⟩:=aP (l:=j.opsZ.l) (k:=k) (by have:=(aK.1 hk).1;omega);rcases (M.mem y q).1 ⟨k,hk,m⟩ with ⟨a,_⟩ | ⟨p,a,_⟩
  ·exact .inl a
  ·exact .inr (cE a)
 ·intro h;rcases h with rfl | h
  ·obtain⟨k,hk,_⟩:=(M.mem y o).2 (.inl ⟨rfl,rfl⟩);exact cE hk
  ·obtain⟨p,t⟩:=cj.1 h;obtain⟨q,m,_⟩:=aP (l:=g.opsZ.l) (k:=p) (by have:=(aK.1 t).1;omega);obtain⟨k,hk,_⟩:=(M.mem y q).2 (.inr ⟨p,t,m⟩);exact cE hk
theorem TF {g j:aU} {x:List B} {o:aG} (T:e2 g=0) (M:vp g j x o) (ao:x∉g.idsZ.l) (Z:eA o=0) (V:bE o=x) (I:∀ p∈o.ay.l,p∈g.idsZ.l) :e2 j=0:=by
 have w:=lo T;have R:=M.len;have G:=M.idsZ w.len;have al:=mH w.bX;have W:∀ i,mr g.idsZ.l g.opsZ.l i->∀ y q,g.idsZ.l[i]?=some y->g.opsZ.l[i]?=some q->∀ k:Nat,j.idsZ.l[k]?=some y->mr j.idsZ.l j.opsZ.l k:=by
  intro i U
  induction U with
  | mk i am J X S=>
   intro y q t u k hk;have Q:j.opsZ.l[k]?=some q:=by
    obtain⟨ag,D,z⟩:=(M.mem y q).2 (.inr ⟨i,t,u⟩);rw[DX M.bX hk D];exact z
   rw[l6 u] at J X S;refine .mk k (aK.1 hk).1 (fun p m=>(G p).2 (.inr (J p (by rw[l6 Q] at m;exact m)))) fun p m O K=>?_
   rw[l6 Q] at m;obtain⟨v,C⟩:=cj.1 (J p m);obtain⟨r,H,_⟩:=aP (l:=g.opsZ.l) (k:=v) (by have:=(aK.1 C).1;have:=w.len;omega);exact S p m v C p r C H O K
 have P:∀ (k:Nat) (y:List B),j.idsZ.l[k]?=some y->y∈g.idsZ.l->mr j.idsZ.l j.opsZ.l k:=fun k y hk t=>by
  obtain⟨v,C⟩:=cj.1 t;obtain⟨r,H,_⟩:=aP (l:=g.opsZ.l) (k:=v) (by have:=(aK.1 C).1;have:=w.len;omega);exact W v (w.all v (aK.1 H).1) y r C H k hk
 have Y:jF j.idsZ.l j.opsZ.l=0:=by
  unfold jF;rw[aj M.bX,aj,aj]
  ·refine (Dg R (mH M.bX)).2 fun i ai=>?_
   obtain⟨y,t,ae⟩:=aP (l:=j.idsZ.l) (k:=i) F;rcases (G y).1 ae with rfl | h
   ·have u:j.opsZ.l[i]?=some o:=by
     obtain⟨ag,D,z⟩:=(M.mem y o).2 (.inl ⟨rfl,rfl⟩);rw[DX M.bX t D];exact z
    refine .mk i (aK.1 t).1 (fun p m=>(G p).2 (.inr (I p (by rw[l6 u] at m;exact m)))) fun p m O K=>?_
    rw[l6 u] at m;exact P O p K (I p m)
   ·exact P i y t h
  ·unfold pN ik;rw[bC];intro q u;rw[bC];intro p m;obtain⟨k,hk⟩:=cj.1 u;obtain⟨y,t,_⟩:=aP (l:=j.idsZ.l) (k:=k) (by have:=(aK.1 hk).1;omega);refine (G p).2 ?_;rcases (M.mem y q).1 ⟨k,t,hk⟩ with ⟨_,rfl⟩ | ⟨v,_,z⟩
   ·exact .inr (I p m)
   ·exact .inr (w.Dc q (cE z) p m)
 unfold e2;rw[ak (by have:=M.n60;omega),aj R,aj,Y];rw[r6];intro k hk;obtain⟨q,u,_⟩:=aP hk;obtain⟨y,t,_⟩:=aP (l:=j.idsZ.l) (k:=k) F;have:eA q=0/\bE q=y:=by
  rcases (M.mem y q).1 ⟨k,t,u⟩ with ⟨rfl,rfl⟩ | ⟨v,D,z⟩
  ·exact⟨Z,V⟩
  ·exact w.HZ v q y z D
 rw[v8 u t,bY this.1,bY this.2];rfl
theorem Co {g:aU} (t:g.idsZ.l.length=g.opsZ.l.length) (y:List B) :y∈eX g<->y∈g.idsZ.l/\∀ q∈g.opsZ.l,y∉q.ay.l:=by
 unfold eX il lU;rw[dy,bC];refine and_congr Iff.rfl ⟨fun h q m=>?_,fun h o j=>?_⟩
 ·obtain⟨o,j⟩:=cj.1 m;have:=h o (aK.1 j).1;rw[jy j] at this;exact this
 ·obtain⟨q,m,p⟩:=aP j;rw[jy m];exact h q p
theorem Cp {g:aU} (h:bX g.idsZ.l=true) :bX (eX g)=true:=uD ((oN h).sublist ki)
def r9 (h:aO) (x:List B) (o:aG) :aO:=
 c2 (h.filter fun y=>!decide (y∈o.ay.l)) (ec (h.filter fun y=>!decide (y∈o.ay.l)) x) x
theorem TG {g u:aU} {x:List B} {o:aG} (G:e2 g=0) (M:vp g u x o) (w:x∉g.idsZ.l) (K:∀ p∈o.ay.l,p∈g.idsZ.l) :eX u=r9 (eX g) x o:=by
 have j:=lo G;have I:=M.idsZ j.len;have H:bX ((eX g).filter fun y=>!decide (y∈o.ay.l))=true:=uD ((oN (Cp j.bX)).sublist ki);have O:x∉(eX g).filter fun y=>!decide (y∈o.ay.l):=fun h=>w ((Co j.len x).1 (dy.1 h).1).1
 refine Ep (lt:=eQ) CP um (oN (Cp M.bX)) (oN (yS H O)) fun y=>?_
 unfold r9;rw[Co M.len,mI,dy,Co j.len,I];have J:(∀ q∈u.opsZ.l,y∉q.ay.l)<->(y∉o.ay.l/\∀ q∈g.opsZ.l,y∉q.ay.l):=by
  constructor
  ·intro h;refine⟨?_,fun q t=>?_⟩
   ·obtain⟨k,_,a⟩:=(M.mem x o).2 (.inl ⟨rfl,rfl⟩);exact h o (cE a)
   ·obtain⟨C,F⟩:=cj.1 t;obtain⟨D,z,_⟩:=aP (l:=g.idsZ.l) (k:=C) (by have:=(aK.1 F).1;have:=j.len;omega);obtain⟨k,_,a⟩:=(M.mem D q).2 (.inr ⟨C,z,F⟩);exact h q (cE a)
  ·rintro⟨h1,m⟩ q t;obtain⟨k,hk⟩:=cj.1 t;obtain⟨D,z,_⟩:=aP (l:=u.idsZ.l) (k:=k) (by have:=(aK.1 hk).1;have:=M.len;omega);rcases (M.mem D q).1 ⟨k,z,hk⟩ with ⟨_,rfl⟩ | ⟨C,_,a⟩
   ·exact h1
   ·exact m q (cE a)
 rw[J];simp only[s8,decide_eq_false_iff_not];constructor
 ·rintro⟨h1 | h1,m,v⟩
  ·exact .inl h1
  ·exact .inr ⟨⟨h1,v⟩,m⟩
 ·rintro (rfl | ⟨⟨h1,v⟩,m⟩)
  ·exact⟨.inl rfl,fun h=>w (K y h),fun q t h=>w (j.Dc q t y h)⟩
  ·exact⟨.inr h1,m,v⟩
def ix (p:aU) (x:List B) (o:aG) :aU:=⟨some (c2 p.idsZ.l (ec p.idsZ.l x) x),some (c2 p.opsZ.l (ec p.idsZ.l x) o)⟩
def fx (s:ck) (x:List B) (o:aG) :ck:=⟨some (s.al.l.set (num x s.al.l.length) (ix (ds s.al.l (num x s.al.l.length)) x o)),some (r9 s.cb.l x o),s.b6+1⟩
theorem zH (s:ck) (x:List B) (o:aG) :(fx s x o).al.l.length=s.al.l.length:=by show (s.al.l.set _ _).length=_;rw[kj]
theorem zG {p:aU} (h:p.idsZ.l.length=p.opsZ.l.length) {x:List B} {o:aG} (q:List B × aG) :(∃ a:Nat,(ix p x o).idsZ.l[a]?=some q.1/\(ix p x o).opsZ.l[a]?=some q.2)<->(q=(x,o)\/∃ a:Nat,p.idsZ.l[a]?=some q.1/\p.opsZ.l[a]?=some q.2):=by
 have h1:(∃ a:Nat,(ix p x o).idsZ.l[a]?=some q.1/\(ix p x o).opsZ.l[a]?=some q.2)<->q∈(c2 p.idsZ.l (ec p.idsZ.l x) x).zip (c2 p.opsZ.l (ec p.idsZ.l x) o):=by
  rw[cj];exact exists_congr fun a=>by rw[tc];rfl
 have g:(∃ a:Nat,p.idsZ.l[a]?=some q.1/\p.opsZ.l[a]?=some q.2)<->q∈p.idsZ.l.zip p.opsZ.l:=by
  rw[cj];exact exists_congr fun a=>by rw[tc]
 rw[h1,g,Sa h,mI]
theorem rn {s:ck} (h:e1 s) :ng s.al.l:=⟨fun j g=>(jI.1 h.wf j g).1,fun j g=>(jI.1 h.wf j g).2,wH h.ao⟩
theorem oW {s:ck}:(bG (bD s)).idsZ.l=(bD s).map (·.1):=by unfold bG;simp only[dr]
theorem xE {s:ck}:(bG (bD s)).opsZ.l=(bD s).map (·.2):=by unfold bG;simp only[dr]
theorem Dm {s:ck} (h:e1 s) {p:aU} (j:p∈s.al.l) {y:List B} (o:y∈p.idsZ.l) :y∈(bG (bD s)).idsZ.l:=by have W:=rn h;obtain⟨a,g⟩:=cj.1 o;obtain⟨q,m,_⟩:=aP (l:=p.opsZ.l) (k:=a) (by have:=(aK.1 g).1;have:=W.len p j;omega);rw[oW];exact cy.2 ⟨(y,q),(nP W _).2 ⟨p,j,a,g,m⟩,rfl⟩
theorem Kq {s:ck} (h:e1 s) {x:List B} {o:aG} (I:x∉(bG (bD s)).idsZ.l) :kH (fx s x o).al.l=true/\nO (fx s x o).al.l=true/\ng (fx s x o).al.l:=by
 have W:=rn h;have H:=zH s x o;have v:num x s.al.l.length<s.al.l.length:=by unfold num;exact iY _ (by have:=h.gZ;omega)
 obtain⟨p,m,u⟩:=aP v;have J:x∉p.idsZ.l:=fun G=>I (Dm h u G)
 have z:ds s.al.l (num x s.al.l.length)=p:=dt m;have q:=h.ao;unfold kH at q;rw[bC] at q;have D:(fx s x o).al.l=s.al.l.set (num x s.al.l.length) (ix p x o):=by
  show s.al.l.set _ (ix (ds s.al.l _) x o)=_;rw[z]
 have w:kH (fx s x o).al.l=true:=by
  unfold kH;rw[bC,H,D];intro i C y j;by_cases e:i=num x s.al.l.length
  ·subst e;rw[dt (b1 v)] at j;rcases mI.1 (show y∈c2 p.idsZ.l _ x from j) with rfl | j
   ·rfl
   ·exact q _ v y (by rw[z];exact j)
  ·obtain⟨r,g,_⟩:=aP (l:=s.al.l) (k:=i) C;rw[dt (by rw[br (fun F=>e F.symm)];exact g)] at j;exact q i C y (by rw[dt g];exact j)
 have t:nO (fx s x o).al.l=true:=by
  refine jI.2 fun r g=>?_
  rw[D] at g;rcases nV g with g | rfl
  ·exact jI.1 h.wf r g
  ·refine⟨?_,yS (W.bX p u) J⟩;show (c2 p.idsZ.l _ x).length=(c2 p.opsZ.l _ o).length;rw[js,js,W.len p u]
 exact⟨w,t,fun p m=>(jI.1 t p m).1,fun p m=>(jI.1 t p m).2,wH w⟩
theorem EZ {s:ck} (h:e1 s) {x:List B} {o:aG} (D:x∉(bG (bD s)).idsZ.l) :bD (fx s x o)=c2 (bD s) (ec (bG (bD s)).idsZ.l x) (x,o):=by
 have W:=rn h;obtain⟨_,_,v⟩:=Kq (o:=o) h D;have G:=lo h.k6;have C:num x s.al.l.length<s.al.l.length:=by unfold num;exact iY _ (by have:=h.gZ;omega)
 obtain⟨m,z,t⟩:=aP C;have J:(fx s x o).al.l=s.al.l.set (num x s.al.l.length) (ix m x o):=by
  show s.al.l.set _ (ix (ds s.al.l _) x o)=_;rw[dt z]
 refine zF (xF v) ?_ fun q=>?_
 ·have h1:=oN (yS G.bX D);have I:c2 (bG (bD s)).idsZ.l (ec (bG (bD s)).idsZ.l x) x=(c2 (bD s) (ec (bG (bD s)).idsZ.l x) (x,o)).map (·.1):=by
   unfold c2;rw[c5,df,jh,oZ,oW]
  rw[I,m9] at h1;exact h1
 ·rw[nP v,mI,nP W,J];constructor
  ·rintro⟨r,p,a,g,j⟩;rcases nV p with p | rfl
   ·exact .inr ⟨r,p,a,g,j⟩
   ·rcases (zG (W.len m t) q).1 ⟨a,g,j⟩ with h | ⟨a,g,j⟩
    ·exact .inl h
    ·exact .inr ⟨m,t,a,g,j⟩
  ·have w:ix m x o∈s.al.l.set (num x s.al.l.length) (ix m x o):=cj.2 ⟨_,b1 C⟩;rintro (rfl | ⟨r,p,a,g,j⟩)
   ·obtain⟨a,b⟩:=(zG (x:=x) (o:=o) (W.len m t) (x,o)).2 (.inl rfl);exact⟨_,w,a,b⟩
   ·obtain⟨F,u⟩:=cj.1 p;by_cases e:F=num x s.al.l.length
    ·subst e;rw[z] at u;obtain rfl:=cg u;obtain⟨a,b⟩:=(zG (x:=x) (o:=o) (W.len m t) q).2 (.inr ⟨a,g,j⟩);exact⟨_,w,a,b⟩
    ·exact⟨r,cj.2 ⟨F,by rw[br (fun H=>e H.symm)];exact u⟩,a,g,j⟩
theorem Ja {s:ck} (h:e1 s) {x:List B} {o:aG} (t:x∉(bG (bD s)).idsZ.l) (w:s.b6<60) :vp (bG (bD s)) (bG (bD (fx s x o))) x o:=by
 have g:=lo h.k6;have C:=h.ke;have e:=EZ (o:=o) h t;have j:(bG (bD (fx s x o))).idsZ.l=c2 (bG (bD s)).idsZ.l (ec (bG (bD s)).idsZ.l x) x:=by
  rw[oW,e];unfold c2;rw[c5,df,jh,oZ,oW]
 have m:(bG (bD (fx s x o))).opsZ.l=c2 (bG (bD s)).opsZ.l (ec (bG (bD s)).idsZ.l x) o:=by
  rw[xE,e];unfold c2;rw[c5,df,jh,oZ,xE]
 have z:(bG (bD s)).opsZ.l.length=(bD s).length:=by rw[xE,cx]
 refine⟨by rw[j,m,js,js,g.len],by rw[m,js];omega,by rw[j];exact yS g.bX t,fun y q=>?_⟩;have:=zG (p:=bG (bD s)) g.len (x:=x) (o:=o) (y,q);have u:(ix (bG (bD s)) x o).idsZ.l=(bG (bD (fx s x o))).idsZ.l:=by rw[j];rfl
 have v:(ix (bG (bD s)) x o).opsZ.l=(bG (bD (fx s x o))).opsZ.l:=by rw[m];rfl
 rw[u,v,Prod.mk.injEq] at this;exact this
theorem Kp {s:ck} (h:e1 s) {x:List B} {o:aG} (g:x∉(bG (bD s)).idsZ.l) (t:s.b6<60) (v:eA o=0) (u:bE o=x) (j:∀ p∈o.ay.l,p∈(bG (bD s)).idsZ.l) :e1 (fx s x o):=by
 have M:=Ja (o:=o) h g t;obtain⟨m,q,_⟩:=Kq (o:=o) h g;refine⟨by rw[zH];exact h.gZ,by rw[zH];exact h.sm,m,q,TF h.k6 M g v u j,?_,?_⟩
 ·rw[EZ h g,js];show s.b6+1=_;rw[h.ke];omega
 ·rw[TG h.k6 M g j,h.tY];rfl
theorem Vo {s:ck} (h:e1 s) {x:List B} {o:aG} (m:x∉(bG (bD s)).idsZ.l) :pR (cY s) x o=cY (fx s x o):=by
 have e:=EZ (o:=o) h m;have u:(cY s).idsZ.l=(bG (bD s)).idsZ.l:=rfl;have g:(bG (bD (fx s x o))).idsZ.l=c2 (bG (bD s)).idsZ.l (ec (bG (bD s)).idsZ.l x) x:=by
  rw[oW,e];unfold c2;rw[c5,df,jh,oZ,oW]
 have j:(bG (bD (fx s x o))).opsZ.l=c2 (bG (bD s)).opsZ.l (ec (bG (bD s)).idsZ.l x) o:=by
  rw[xE,e];unfold c2;rw[c5,df,jh,oZ,xE]
 have t:(cY s).opsZ.l=(bG (bD s)).opsZ.l.map cp:=nK _;unfold pR cY;have p:(di (bG (bD s))).idsZ.l=(bG (bD s)).idsZ.l:=rfl;have q:(di (bG (bD s))).opsZ.l=(bG (bD s)).opsZ.l.map cp:=nK _;rw[p,q];unfold di;simp only[bL.kE];rw[g,j];congr 2;unfold c2;simp only[c5,df,jh,oZ,iU];rfl
theorem Vs {s:ck} (h:e1 s) {x:List B} {o:aG} (j:x∉(bG (bD s)).idsZ.l) (q:s.b6<60) (v:eA o=0) (t:bE o=x) (u:∀ p∈o.ay.l,p∈(bG (bD s)).idsZ.l) :
  e2 (pR (cY s) x o)=0/\h8 (fx s x o) (jw (pR (cY s) x o) s.al.l.length)=true:=by have W:=Kp h j q v t u;rw[Vo h j];obtain⟨_,_,m,g⟩:=Em (LC W);rw[zH] at g;exact⟨m,g⟩
def nC (s:dm) (x:List B) (o:aG) :dm:=⟨s.cap,fx s.aS x o,some (s.aJ.l++[x])⟩
theorem UK {g:aU} (q:vr g) {l:aO} (h:FJ g l) :j4 g l=true:=by
 unfold j4;rw[bC];intro i z;obtain⟨x,m,p⟩:=aP z;obtain⟨B,o⟩:=cj.1 (h.sub x p);unfold hC;rw[dG m,bH,bH,bC,s8,decide_eq_false_iff_not];refine⟨h.sub x p,fun w=>?_,?_⟩
 ·obtain⟨a,j⟩:=cj.1 w;have v:=(aK.1 j).1;rw[cO] at v;rw[dU F] at j;obtain⟨t,u⟩:=aK.1 j;obtain⟨d1,d2⟩:=aK.1 m;exact kV.1 h.ll a i t d1 F (by rw[u,d2])
 ·rw[uf (mH q.bX) o,fA];unfold ik;rw[bC];exact h.pre i x B m o
theorem Ag {s:dm} (h:hJ s) (x:List B) :x∈s.aJ.l<->x∈(bG (bD s.aS)).idsZ.l:=by
 have m:=lo h.aS.k6;have g:=Mm m h.ord;refine⟨g.sub x,fun q=>?_⟩;refine Classical.byContradiction fun o=>?_
 have p:(x::s.aJ.l).Nodup:=vf.2 ⟨o,g.ll⟩;have:=L9 p fun y j=>by
  rcases hZ.1 j with rfl | j
  ·exact q
  ·exact g.sub y j
 rw[oW,cx] at this;have h1:=h.le;have t:=h.aS.ke;simp at this;omega
theorem Un {s:dm} (h:hJ s) {x:List B} {o:aG} (v:x∉s.aJ.l) (ai:s.aS.b6≠s.cap) (ag:eA o=0) (U:bE o=x) (K:∀ p∈o.ay.l,p∈s.aJ.l) :hJ (nC s x o):=by
 have w:x∉(bG (bD s.aS)).idsZ.l:=fun T=>v ((Ag h x).2 T)
 have Y:∀ p∈o.ay.l,p∈(bG (bD s.aS)).idsZ.l:=fun p Z=>(Ag h p).1 (K p Z)
 have G:s.aS.b6<60:=by have:=h.ke;have:=h.tJ;omega
 have W:=Kp h.aS w G ag U Y;have M:=Ja (o:=o) h.aS w G;have z:=lo h.aS.k6;have C:=lo W.k6;have u:=Mm z h.ord;have J:=M.idsZ z.len;refine⟨h.jR,h.tJ,W,?_,?_,UK C ⟨?_,fun y m=>?_,fun i y j m I q ae=>?_⟩⟩
 ·show s.aS.b6+1<=s.cap;have:=h.ke;omega
 ·show ((s.aJ.l++[x]).length:Int)=s.aS.b6+1;rw[cr,<-h.le];simp
 ·show (s.aJ.l++[x]).Nodup;rw[Fo];exact⟨u.ll,V,fun a R b H e=>by simp at H;subst H;subst e;exact v R⟩
 ·have g:y∈s.aJ.l++[x]:=m;rcases fm.1 g with m | m
  ·exact (J y).2 (.inr (u.sub y m))
  ·exact (J y).2 (.inl (fB.1 m))
 ·have g:(s.aJ.l++[x])[i]?=some y:=m;show q∈(s.aJ.l++[x]).take i;obtain⟨r,P,_⟩:=aP (l:=(bG (bD (fx s.aS x o))).opsZ.l) (k:=j) (by have:=(aK.1 I).1;have:=C.len;show j<_;omega);have O:q∈r.ay.l:=by
   have h1:q∈dO (bG (bD (fx s.aS x o))).opsZ.l j:=ae;rw[l6 P] at h1;exact h1
  rcases (M.mem y r).1 ⟨j,I,P⟩ with ⟨rfl,rfl⟩ | ⟨k,D,Q⟩
  ·have X:i=s.aJ.l.length:=by
    rcases fN i s.aJ.l.length with t | S
    ·rw[aV t] at g;exact bP (cE g) v
    ·have:=(aK.1 g).1;simp at this;omega
   rw[X,List.take_left];exact K q O
  ·have t:i<s.aJ.l.length:=by
    rcases fN i s.aJ.l.length with t | S
    ·exact t
    ·have:=(aK.1 g).1;have e:i=s.aJ.l.length:=by simp at this;omega
     rw[e,qd] at g;obtain rfl:=cg g;exact bP (cE D) w
   rw[aV t] at g;rw[ig F];exact u.pre i y k g D q (by rw[l6 Q];exact O)
def lj (s:dm) (o:aG) :Int:=if bE o∈s.aJ.l then 5 else if ∀ g∈o.ay.l,g∈s.aJ.l then (if s.aS.b6=s.cap then 8 else 1) else 6
end Op
namespace Op
section
variable {alZ:Type} {enc:alZ->ag} {z:Nat}
theorem yF {a:List alZ} (h:∀ y∈a,(enc y).length=z) :((a.map enc).flatten).length=a.length*z:=by
 induction a with
 | nil=>simp
 | cons x r j=>
  rw[df,g6,cr,j (fun y g=>h y (by simp[g])),h x V,dE,eV];omega
theorem Se {a:List alZ} (h:∀ y∈a,(enc y).length=z) {n i:Nat} (o:a.length=n) (v:i<=n) (x:alZ) :im z (a.map enc).flatten (enc x) i n=((c2 a i x).map enc).flatten:=by
 have m:a.map enc=(a.take i).map enc++(a.drop i).map enc:=by rw[<-c5,iV]
 have w:((a.take i).map enc).flatten.length=i*z:=by
  rw[yF (fun j g=>h j (gh g)),cO,iX F]
 have u:((a.drop i).map enc).flatten.length=(n - i)*z:=by
  rw[yF (fun j g=>h j (tf g)),iT,o]
 unfold im c2;have h1:((a.map enc).flatten).take (i*z)=((a.take i).map enc).flatten:=by
  rw[m,jL,ig F,aL F]
 have p:((a.map enc).flatten).drop (i*z)=((a.drop i).map enc).flatten:=by
  rw[m,jL,nS F,qc F,iD]
 have q:(((a.drop i).map enc).flatten).take ((n - i)*z)=((a.drop i).map enc).flatten:=aL F;have t:((a.map enc).flatten).drop ((n+1)*z)=[]:=qc (by rw[yF h,o,eV];omega);rw[h1,p,q,t,eT];simp
theorem Sm {P:bj} {G:Nat->U} {f g m e by_:Nat} (L:qm P f g m e z) (t:gm P g=some e) (C:b5 P e=some z) (w:gO P e=some by_) (o:0<z) (u:0<by_) (D:mh P e=some z)
  {l:ae} {bv:Nat} {x:alZ} (v:l[bv]?=some (.q z (enc x))) (B:by_<=dk)
  {K:cA} (p:K (.ad z l.length 0 1 1 z) (l++[.q z (enc x)])) :
  fY P G f [.af,.i6 0,.ad z bv 0 1 1 z] l (c:=⟨K⟩):=by have j:=Im (P:=P) (G:=G) (h:=aX l) L t C w o u D (bv:=bv) (hI.2 v) B;rw[Ba,lI] at j;exact⟨_,_,.ext j,V,p⟩
end
end Op
end Go.bh
namespace Go.bh
open Go Go.Proofs Go.Proofs.Tryz Go.Shelf Go.RowKit Go.Lib
set_option maxHeartbeats 4000000
theorem Sh (base:Option Addr) (n c j h m:Nat) (r:aA) (w w' : aQ) (v:n<=c) (u:n<=4611686018427387904) (p:base=none->n=0/\c=0)
  (g:(Builtin.append_ #[23,23] 23 #[.slice base n c,.slice (some ⟨h,m,none⟩) 1 j]).run prog w=.ok r w') :
  Calls prog 158 #[.slice base n c,.int .i64 n,.slice (some ⟨h,m,none⟩) 1 j] w fun e w2=>e=.returned r/\w2=w':=by
 have B:=Tryz.underlying23;have z:=checked.mixed
 go_enter func158,Tryz.ntmps158
 cases base with
 | none=>
  obtain⟨o,h1⟩:=p rfl;subst o h1
  go_wp2_with (at_builtin;refine Lib.wpList_append_run _ rfl _ _ _ _ rfl _ _ rfl rfl _ _ g ?_)
  go_ret
  exact⟨rfl,rfl⟩
 | some a=>
  obtain⟨ab,q,t⟩:=a
  go_wp2_with (at_builtin;refine Lib.wpList_append_run _ rfl _ _ _ _ rfl _ _ rfl rfl _ _ g ?_)
  all_goals (go_ret;exact⟨rfl,rfl⟩)
theorem Sn (b off n c i g h j:Nat) (J K:aA) (w q hL:aQ) (t ej:aC) (mL o:Nat) (W:i<n) (Y:n+1<=c) (Q:n<=4611686018427387904) (I:g≠b)
  (G:w.shape? g=some (t,mL)) (H:w.shape? b=some (ej,o)) (C:o≠0) (z:w.frozen? ⟨g,h,none⟩=false) (B:w.frozen? ⟨g,mL,none⟩=false)
  (u:(Builtin.copy_ #[23,23] 3 #[.slice (some ⟨b,off+(i+1)*32,none⟩) (n - i) (c - (i+1)),.slice (some ⟨b,off+i*32,none⟩) (n+1 - i) (c - i)]).run prog w.drew=.ok J q)
  (v:(Builtin.copy_ #[23,23] 3 #[.slice (some ⟨b,off+i*32,none⟩) (n+1 - i) (c - i),.slice (some ⟨g,h,none⟩) 1 j]).run prog q=.ok K hL) :
  Calls prog 158 #[.slice (some ⟨b,off,none⟩) n c,.int .i64 i,.slice (some ⟨g,h,none⟩) 1 j] w fun e w2=>e=.returned (.slice (some ⟨b,off,none⟩) (n+1) c)/\w2=hL:=by
 have O:=Tryz.underlying23;have P:∀ w,(Go.sizeOf 57).run prog w=.ok 32 w:=fun w=>eI bg
 have aj:=checked.mixed;have D:∀ p m,(callFunc 209 #[.slice (some ⟨g,h,none⟩) 1 j,.slice (some ⟨b,off+(i+1)*32,none⟩) p m]).run prog w=.ok (.value (.bool false)) w:=fun p m=>by
  rw[run_callFunc_extern func209 bg bg bg (e:=Extern.SlicesOverlaps.overlaps #[23,23] #[4]) bg,
   Lib.run_overlaps_apart w 23 4 57 O 32 P ⟨g,h,none⟩ ⟨b,off+(i+1)*32,none⟩ 1 j p m I t ej mL o G H C z B]
  rfl
 have ai:¬ ((i:Int)=(n:Int)):=F;have ae:IntKind.i64.wrap ((i:Int)+1)=(i:Int)+1:=by rw[IntKind.wrap_i64];omega
 have ag:IntKind.i64.wrap ((n:Int)+1)=(n:Int)+1:=by rw[IntKind.wrap_i64];omega
 have R:(0:Int)<=(i:Int)+1:=F;have X:i<=n:=F;have Z:((i:Int)+1).toNat=i+1:=F;have S:¬ (c=i+1):=F;have T:(i:Int)<=(n:Int)+1:=F;have U:¬ (c=i):=F;have V:¬ ((c:Int)<(n:Int)+1):=F
 go_enter func158,Tryz.ntmps158
 go_wp2_with (simp only[D])
 go_region_law_o (refine step_copy_runI rfl _ _ 23 23 rfl _ _ (by simp[Act.eval,Act.put]) (by simp[Act.eval,Act.put]) u ?_)
 go_wp2_with (at_builtin;refine wpList_copy_runI _ rfl _ _ 23 23 rfl _ _ rfl rfl v ?_)
 go_ret
 exact⟨rfl,rfl⟩
theorem Sj (b off n c i j o m N G:Nat) (u v:aA) (w g h hL:aQ) (O:i<n) (Q:n<=c) (R:c<n+1) (B:n+1<=G) (z:n<=4611686018427387904)
  (p:(Builtin.append_ #[23,3] 23 #[.slice (some ⟨b,off,none⟩) i c,.int .i64 ((n:Int)+1 - (i:Int))]).run prog w=.ok (.slice (some ⟨N,0,none⟩) (n+1) G) g)
  (q:(Builtin.copy_ #[23,23] 3 #[.slice (some ⟨N,i*32,none⟩) (n+1 - i) (G - i),.slice (some ⟨j,o,none⟩) 1 m]).run prog g=.ok u h)
  (t:(Builtin.copy_ #[23,23] 3 #[.slice (some ⟨N,(i+1)*32,none⟩) (n - i) (G - (i+1)),.slice (some ⟨b,off+i*32,none⟩) (n - i) (c - i)]).run prog h.drew=.ok v hL) :
  Calls prog 158 #[.slice (some ⟨b,off,none⟩) n c,.int .i64 i,.slice (some ⟨j,o,none⟩) 1 m] w fun e w2=>e=.returned (.slice (some ⟨N,0,none⟩) (n+1) G)/\w2=hL:=by
 have Z:=Tryz.underlying23;have ae:∀ w,(Go.sizeOf 57).run prog w=.ok 32 w:=fun w=>eI bg
 have Y:=checked.mixed;have W:¬ ((i:Int)=(n:Int)):=F;have T:IntKind.i64.wrap ((i:Int)+1)=(i:Int)+1:=by rw[IntKind.wrap_i64];omega
 have U:IntKind.i64.wrap ((n:Int)+1)=(n:Int)+1:=by rw[IntKind.wrap_i64];omega
 have V:IntKind.i64.wrap ((n:Int)+1 - (i:Int))=(n:Int)+1 - (i:Int):=by rw[IntKind.wrap_i64];omega
 have H:(0:Int)<=(i:Int)+1:=F;have P:i<=n:=F;have S:((i:Int)+1).toNat=i+1:=F;have C:¬ (G=i):=F;have D:¬ (G=i+1):=F;have K:¬ (c=i):=F;have X:(c:Int)<(n:Int)+1:=F;have I:(i:Int)<=(n:Int):=F;have J:(i:Int)<=(c:Int):=F
 go_enter func158,Tryz.ntmps158
 go_wp2_with (first
  | (at_builtin;refine Lib.wpList_append_run _ rfl _ _ _ _ rfl _ _ rfl rfl _ _ p ?_)
  | (at_builtin;refine wpList_copy_runI _ rfl _ _ 23 23 rfl _ _ rfl rfl q ?_))
 go_region_law_o (refine step_copy_runI rfl _ _ 23 23 rfl _ _ (by simp[Act.eval,Act.put]) (by simp[Act.eval,Act.put]) t ?_)
 go_wp2
 go_ret
 exact⟨rfl,rfl⟩
theorem Cx:qm prog 158 23 3 57 32:=
 ⟨Tryz.underlying23,Tryz.underlying3,Sh,Sn,Sj⟩
theorem Sc {G:Nat->U} (args:ag) (h:aH) (r:U) (h' : aH) (g:ub 32 32 args h=some (r,h')) :jM prog G 158 args h r h':=
 Ij Cx bg bg bg F F bg args h r h' g
theorem Si (base:Option Addr) (n c j h m:Nat) (r:aA) (w w' : aQ) (v:n<=c) (u:n<=4611686018427387904) (p:base=none->n=0/\c=0)
  (g:(Builtin.append_ #[68,68] 68 #[.slice base n c,.slice (some ⟨h,m,none⟩) 1 j]).run prog w=.ok r w') :
  Calls prog 159 #[.slice base n c,.int .i64 n,.slice (some ⟨h,m,none⟩) 1 j] w fun e w2=>e=.returned r/\w2=w':=by
 have B:=Tryz.underlying68;have z:=checked.mixed
 go_enter func159,Tryz.ntmps159
 cases base with
 | none=>
  obtain⟨o,h1⟩:=p rfl;subst o h1
  go_wp2_with (at_builtin;refine Lib.wpList_append_run _ rfl _ _ _ _ rfl _ _ rfl rfl _ _ g ?_)
  go_ret
  exact⟨rfl,rfl⟩
 | some a=>
  obtain⟨ab,q,t⟩:=a
  go_wp2_with (at_builtin;refine Lib.wpList_append_run _ rfl _ _ _ _ rfl _ _ rfl rfl _ _ g ?_)
  all_goals (go_ret;exact⟨rfl,rfl⟩)
theorem Sp (b off n c i g h j:Nat) (J K:aA) (w q hL:aQ) (t ej:aC) (mL o:Nat) (W:i<n) (Y:n+1<=c) (Q:n<=4611686018427387904) (I:g≠b)
  (G:w.shape? g=some (t,mL)) (H:w.shape? b=some (ej,o)) (C:o≠0) (z:w.frozen? ⟨g,h,none⟩=false) (B:w.frozen? ⟨g,mL,none⟩=false)
  (u:(Builtin.copy_ #[68,68] 3 #[.slice (some ⟨b,off+(i+1)*11,none⟩) (n - i) (c - (i+1)),.slice (some ⟨b,off+i*11,none⟩) (n+1 - i) (c - i)]).run prog w.drew=.ok J q)
  (v:(Builtin.copy_ #[68,68] 3 #[.slice (some ⟨b,off+i*11,none⟩) (n+1 - i) (c - i),.slice (some ⟨g,h,none⟩) 1 j]).run prog q=.ok K hL) :
  Calls prog 159 #[.slice (some ⟨b,off,none⟩) n c,.int .i64 i,.slice (some ⟨g,h,none⟩) 1 j] w fun e w2=>e=.returned (.slice (some ⟨b,off,none⟩) (n+1) c)/\w2=hL:=by
 have O:=Tryz.underlying68;have P:∀ w,(Go.sizeOf 55).run prog w=.ok 11 w:=fun w=>eI bg
 have aj:=checked.mixed;have D:∀ p m,(callFunc 211 #[.slice (some ⟨g,h,none⟩) 1 j,.slice (some ⟨b,off+(i+1)*11,none⟩) p m]).run prog w=.ok (.value (.bool false)) w:=fun p m=>by
  rw[run_callFunc_extern func211 bg bg bg (e:=Extern.SlicesOverlaps.overlaps #[68,68] #[4]) bg,
   Lib.run_overlaps_apart w 68 4 55 O 11 P ⟨g,h,none⟩ ⟨b,off+(i+1)*11,none⟩ 1 j p m I t ej mL o G H C z B]
  rfl
 have ai:¬ ((i:Int)=(n:Int)):=F;have ae:IntKind.i64.wrap ((i:Int)+1)=(i:Int)+1:=by rw[IntKind.wrap_i64];omega
 have ag:IntKind.i64.wrap ((n:Int)+1)=(n:Int)+1:=by rw[IntKind.wrap_i64];omega
 have R:(0:Int)<=(i:Int)+1:=F;have X:i<=n:=F;have Z:((i:Int)+1).toNat=i+1:=F;have S:¬ (c=i+1):=F;have T:(i:Int)<=(n:Int)+1:=F;have U:¬ (c=i):=F;have V:¬ ((c:Int)<(n:Int)+1):=F
 go_enter func159,Tryz.ntmps159
 go_wp2_with (simp only[D])
 go_region_law_o (refine step_copy_runI rfl _ _ 68 68 rfl _ _ (by simp[Act.eval,Act.put]) (by simp[Act.eval,Act.put]) u ?_)
 go_wp2_with (at_builtin;refine wpList_copy_runI _ rfl _ _ 68 68 rfl _ _ rfl rfl v ?_)
 go_ret
 exact⟨rfl,rfl⟩
theorem Sk (b off n c i j o m N G:Nat) (u v:aA) (w g h hL:aQ) (O:i<n) (Q:n<=c) (R:c<n+1) (B:n+1<=G) (z:n<=4611686018427387904)
  (p:(Builtin.append_ #[68,3] 68 #[.slice (some ⟨b,off,none⟩) i c,.int .i64 ((n:Int)+1 - (i:Int))]).run prog w=.ok (.slice (some ⟨N,0,none⟩) (n+1) G) g)
  (q:(Builtin.copy_ #[68,68] 3 #[.slice (some ⟨N,i*11,none⟩) (n+1 - i) (G - i),.slice (some ⟨j,o,none⟩) 1 m]).run prog g=.ok u h)
  (t:(Builtin.copy_ #[68,68] 3 #[.slice (some ⟨N,(i+1)*11,none⟩) (n - i) (G - (i+1)),.slice (some ⟨b,off+i*11,none⟩) (n - i) (c - i)]).run prog h.drew=.ok v hL) :
  Calls prog 159 #[.slice (some ⟨b,off,none⟩) n c,.int .i64 i,.slice (some ⟨j,o,none⟩) 1 m] w fun e w2=>e=.returned (.slice (some ⟨N,0,none⟩) (n+1) G)/\w2=hL:=by
 have Z:=Tryz.underlying68;have ae:∀ w,(Go.sizeOf 55).run prog w=.ok 11 w:=fun w=>eI bg
 have Y:=checked.mixed;have W:¬ ((i:Int)=(n:Int)):=F;have T:IntKind.i64.wrap ((i:Int)+1)=(i:Int)+1:=by rw[IntKind.wrap_i64];omega
 have U:IntKind.i64.wrap ((n:Int)+1)=(n:Int)+1:=by rw[IntKind.wrap_i64];omega
 have V:IntKind.i64.wrap ((n:Int)+1 - (i:Int))=(n:Int)+1 - (i:Int):=by rw[IntKind.wrap_i64];omega
 have H:(0:Int)<=(i:Int)+1:=F;have P:i<=n:=F;have S:((i:Int)+1).toNat=i+1:=F;have C:¬ (G=i):=F;have D:¬ (G=i+1):=F;have K:¬ (c=i):=F;have X:(c:Int)<(n:Int)+1:=F;have I:(i:Int)<=(n:Int):=F;have J:(i:Int)<=(c:Int):=F
 go_enter func159,Tryz.ntmps159
 go_wp2_with (first
  | (at_builtin;refine Lib.wpList_append_run _ rfl _ _ _ _ rfl _ _ rfl rfl _ _ p ?_)
  | (at_builtin;refine wpList_copy_runI _ rfl _ _ 68 68 rfl _ _ rfl rfl q ?_))
 go_region_law_o (refine step_copy_runI rfl _ _ 68 68 rfl _ _ (by simp[Act.eval,Act.put]) (by simp[Act.eval,Act.put]) t ?_)
 go_wp2
 go_ret
 exact⟨rfl,rfl⟩
theorem Ik:qm prog 159 68 3 55 11:=
 ⟨Tryz.underlying68,Tryz.underlying3,Si,Sp,Sk⟩
theorem Sd {G:Nat->U} (args:ag) (h:aH) (r:U) (h' : aH) (g:ub 11 112 args h=some (r,h')) :jM prog G 159 args h r h':=
 Ij Ik bg bg bg F F bg args h r h' g
def Cw (f:cf) :Option (Nat × Nat):=match Nat.beq f 158 with | true=>some (32,32) | false=>match Nat.beq f 159 with | true=>some (11,112) | false=>none
theorem Sb (f:cf) (z by_:Nat) (h:Cw f=some (z,by_)) (args:ag) (g:aH) (r:U) (yP:aH) (o:ub z by_ args g=some (r,yP)) :jM prog GS f args g r yP:=by
 unfold Cw at h;split at h
 ·rename_i j;have m:=mo j;subst m;cases h;exact Sc args g r yP o
 split at h
 ·rename_i j;have m:=mo j;subst m;cases h;exact Sd args g r yP o
 cases h
instance aa2:FG prog GS:=⟨Cw,Sb⟩
end Go.bh
namespace Go.bh
open Go Go.Proofs Go.Proofs.Tryz
namespace Op
open ca
def e4 (s:ck) (x:List B) :aU:=ds s.al.l (num x s.al.l.length)
theorem zB {s:ck} (h:e1 s) (x:List B) :s.al.l[num x s.al.l.length]?=some (e4 s x)/\e4 s x∈s.al.l/\num x s.al.l.length<s.al.l.length:=by
 have j:num x s.al.l.length<s.al.l.length:=by unfold num;exact iY _ (by have:=h.gZ;omega)
 obtain⟨p,g,m⟩:=aP j;have:e4 s x=p:=dt g;rw[this];exact⟨g,m,j⟩
theorem U2 {s:ck} (h:e1 s) (x:List B) :x∈(e4 s x).idsZ.l<->x∈(bG (bD s)).idsZ.l:=by have W:=rn h;obtain⟨h1,p,z⟩:=zB h x;refine⟨Dm h p,fun o=>?_⟩;rw[oW] at o;obtain⟨q,u,rfl⟩:=cy.1 o;obtain⟨C,t,a,m,w⟩:=(nP W q).1 u;obtain⟨v,g⟩:=cj.1 t;have j:=h.ao;unfold kH at j;rw[bC] at j;have:=j v (aK.1 g).1 q.1 (by rw[dt g];exact cE m);rw[<-this] at g;rw[h1] at g;obtain rfl:=cg g;exact cE m
theorem Lv (s:ck) (P:g9 s) (h:e1 s) (x:List B) (m:x.length=32) :
  aY 155 [.ah (bQ s),.ah (ar x)] (.a1 [.i6 (num x s.al.l.length:Nat),.i6 (ec (e4 s x).idsZ.l x:Nat),.bool (decide (x∈(bG (bD s)).idsZ.l))]):=by
 apply bc func155 [];have W:=rn h;obtain⟨h1,q,Q⟩:=zB h x;have p:=bu m;have o:=c4 x;have g:=Jp x m s.al.l.length h.gZ (by have:=h.sm;omega);have z:=(P.al _ q).1;have j:=z2 (e4 s x).idsZ z.idsZ z.li x m (W.bX _ q);have J:=U2 h x;have I:decide (x∈(e4 s x).idsZ.l)=decide (x∈(bG (bD s)).idsZ.l):=by rw[decide_eq_decide];exact J
 rw[I] at j;have w:=mG h1;have K:=pD s.al;have H:=bU (e4 s x).idsZ;have R:(bQ s)[0]?=some (e9 s.al):=rfl;have u:(bQ s).length=3:=rfl;have t:∀ h,(bQ s)[0]'h=e9 s.al:=fun _=>rfl
 have C:∀ h,(bf (e4 s x))[0]'h=ai (e4 s x).idsZ:=fun _=>rfl
 have S:(bf (e4 s x))[0]?=some (ai (e4 s x).idsZ):=rfl;have D:(bf (e4 s x)).length=2:=rfl;obtain⟨X,G⟩:=ao (ar x);rw[<-G] at p o g j ⊢;have v:X.take 32=X:=aL F;obtain⟨T,O⟩:=ao (((num x s.al.l.length:Nat) :Int) :Int);rw[<-O] at g w ⊢;simp[p,v,u,t,K];refine av g (by simp[aq,U.aw,o]) ?_;simp[p,v,u,t,w,D,C];refine av j (by simp[aq,U.aw,o,H]) ?_;simp;exact aE
theorem W0 (s:ck) (o:g9 s) (h:e1 s) :aY 154 [.ah (bQ s)] (.i6 0):=by apply bc func154 [];have p:(bQ s).length=3:=rfl;have m:(bQ s).take 3=bQ s:=rfl;have j:=pj s;have g:=MW s o;rw[E0 h] at g;unfold cH bf at g;have q:=hw (bG (bD s)).idsZ;have t:=pd (bG (bD s)).opsZ;simp[p,m];refine av g (by simp[aq,U.aw,j]) ?_;simp[ax];exact aE
theorem Ow (s:ck) (G:g9 s) (h:e1 s) {l:ae} {b:Nat} (g:l[b]?=some (.q 3 (bQ s))) (xs:aO) (I:∀ p∈xs,p.length=32) :
  tp 156 [.ptr b 0 3] l xs (fun p=>!decide (p∈(bG (bD s)).idsZ.l)):=by
 intro p C m z J t;apply cW func156 [];have j:=I p C;have F:=bu j;have D:=c4 p;have H:(bQ s).length=3:=rfl;have v:(bQ s).take 3=bQ s:=rfl;have u:=pj s;have q1:m[b]?=some (.q 3 (bQ s)):=by rw[z.2 _ (a2 g)];exact g
 have o:∀ c:am,(m++[c])[b]?=some (.q 3 (bQ s)):=fun c=>by rw[aV (a2 q1)];exact q1
 have B:=Lv s G h p j;simp[o,F,H,v,aL];refine av B (by simp[aq,U.aw,u,D]) ?_;simp;exact t _ ⟨V,fun b w=>aV w⟩
theorem Vf (o:aG) (m:dz o) {l:ae} {b j:Nat} (g:l[b]?=some (.q 11 (au o))) (G:b≠j) (xs:aO) (O:∀ p∈xs,p.length=32) :
  vl 160 [.ptr b 0 11] j l xs (fun p=>decide (p∈o.ay.l)):=by
 intro p I u D P z;apply cW func160 [];have t:=O p I;have K:=bu t;have J:=c4 p;have H:(au o).length=11:=rfl;have Q:(au o)[1]?=some (ai o.ay):=rfl;have w:∀ h,(au o)[1]'h=ai o.ay:=fun _=>rfl
 have C:=bU o.ay;have q1:u[b]?=some (.q 11 (au o)):=by rw[D.same _ (a2 g) G];exact g
 have v:∀ c:am,(u++[c])[b]?=some (.q 11 (au o)):=fun c=>by rw[aV (a2 q1)];exact q1
 have F:=p3 o.ay m.idsZ m.len p t;simp[v,K,H,w,aL];refine av F (by simp[aq,U.aw,C,J]) ?_;simp;exact z _ V fun b B=>aV B
theorem PM (s:bV) (p:cT s) (m:s.l.length<=1000000) {l:ae} {K:cA} (j:s=none->K .af l)
  (h1:∀ a,s=some a->K (.ad 32 l.length 0 a.length a.length (a.length*32)) (l++[.q (a.length*32) (a.map ar).flatten])) :
  cJ 80 [ai s] l K:=by
 apply cW func80 [];have o:=dF;have h:eb prog .eql 23 (ai s) .af=some (.bool s.isNone):=vF (e:=57) bg 32 ar s;cases s with
 | none=>
  simp[h];exact j rfl
 | some a=>
  have u:∀ y∈a,(ar y).length=32:=fun y t=>bu (p y t)
  have v:a.length<=1000000:=m;have g:=Bn (enc:=ar) (z:=32) (by_:=32) (l++[am.q 0 []]) l.length V (some a) u F F (by show a.length*32<=_;rw[o];omega);change eE _ _ _ _ (ai (some a))=_ at g;simp at g;simp[h,g];refine b2.bq ?_;simp;exact h1 a rfl
def e5 {alZ:Type} (z:Nat) (enc:alZ->ag) (l:ae) (n:Nat) (w:U) (s:bL alZ) :Prop:=
 (s=none/\w=.af)\/∃ b,n<=b/\s.isNone=false/\w=.ad z b 0 s.l.length s.l.length (s.l.length*z)/\l[b]?=some (.q (s.l.length*z) (s.l.map enc).flatten)
def FX (v w:U) :Prop:=∀ p b n h s q g m j o,v=.ad p b 0 n h s->w=.ad q g 0 m j o->b≠g
theorem e5.frame {alZ:Type} {z:Nat} {enc:alZ->ag} {l l' : ae} {n:Nat} {w:U} {s:bL alZ} (h:e5 z enc l n w s) (o:∀ b,n<=b->b<l.length->l'[b]?=l[b]?) :e5 z enc l' n w s:=by
 rcases h with h | ⟨b,h1,j,m,g⟩
 ·exact .inl h
 ·exact .inr ⟨b,h1,j,m,by rw[o b h1 (a2 g)];exact g⟩
theorem e5.mono {alZ:Type} {z:Nat} {enc:alZ->ag} {l:ae} {n m:Nat} {w:U} {s:bL alZ} (h:e5 z enc l n w s) (p:m<=n) :e5 z enc l m w s:=by
 rcases h with h | ⟨b,h1,g,j,o⟩
 ·exact .inl h
 ·exact .inr ⟨b,F,g,j,o⟩
theorem BE (s:bV) (p:cT s) (o:s.l.length<=1000000) {l:ae} {K:cA} (m:∀ w j,w.cells=some [w]->e5 32 ar (l++j) l.length w s->K w (l++j)) :
  cJ 80 [ai s] l K:=
 PM s p o (fun h=>by simpa using m .af [] rfl (.inl ⟨h,rfl⟩)) fun a g=>m _ [_] rfl (.inr ⟨l.length,aI _,by rw[g];rfl,by rw[g];rfl,by rw[g];simp⟩)
theorem BF (s:bL aG) (o:s.l.length<=1000000) {l:ae} {K:cA} (m:∀ w j,w.cells=some [w]->e5 11 au (l++j) l.length w s->K w (l++j)) :
  cJ 143 [bF s] l K:=
 GJ s o (fun h=>by simpa using m .af [] rfl (.inl ⟨h,rfl⟩)) fun a g=>m _ [_] rfl (.inr ⟨l.length,aI _,by rw[g];rfl,by rw[g];rfl,by rw[g];simp⟩)
theorem uO {l:ae} {b:Nat} {c:am} (h:l[b]?=some c) :l.set b c=l:=by
 apply g5;intro g;by_cases e:b=g
 ·subst e;rw[b1 (a2 h),h]
 ·rw[br e]
theorem e5.bx {alZ:Type} {z:Nat} {enc:alZ->ag} {l:ae} {n:Nat} {w:U} {s:bL alZ} (h:e5 z enc l n w s) :bx (.ad z) w=some (.i6 s.l.length):=by
 rcases h with ⟨rfl,rfl⟩ | ⟨b,_,_,rfl,_⟩
 ·rfl
 ·simp[Go.bh.bx]
theorem X4 (g:aU) (w:ff g) {l:ae} {K:cA} (ak:∀ h w2 l',ih l l'->e5 32 ar l' l.length h g.idsZ->e5 11 au l' l.length w2 g.opsZ->FX h w2->h.cells=some [h]->w2.cells=some [w2]->K (.ah [h,w2]) l') :
  cJ 157 [cH g] l K:=by
 apply cW func157 [[[0],[1],[3],[4],[7],[2,7,4],[5,7],[6]],db 0 9++[[9,1]]];simp[cH,bf];refine BE g.idsZ w.idsZ w.li fun h p X Z=>?_
 simp;refine BF g.opsZ w.ju fun w2 J Y H=>?_
 have aB:=H.bx;have aZ:=w.ju;simp[X,Y,ax,aB];obtain⟨L,o⟩:=ao (l++am.q 2 [ai g.idsZ,bF g.opsZ] ::am.q 2 [.af,.af] ::am.q 2 [h,w2] ::(p++J));have q1:L[l.length+1]?=some (.q 2 [.af,.af]):=by rw[o];simp
 have I:L[l.length+2]?=some (.q 2 [h,w2]):=by rw[o];simp
 have T:ih l L:=by rw[o];exact⟨V,fun b v=>aV v⟩
 have aL:e5 32 ar L (l.length+3) h g.idsZ:=by
  refine (e5.frame (l':=L) Z fun b h1 C=>?_).mono V;rw[o];have aW:l.length+3<=b:=by simpa using h1
  have aX:b<l.length+3+p.length:=by simp at C;omega
  obtain⟨m,a5⟩:=ao (b - l.length - 3);have aH:b - l.length=m+3:=F;have aJ:b - (l++[am.q 2 [ai g.idsZ,bF g.opsZ],am.q 2 [.af,.af],am.q 2 [.af,.af]]).length=m:=by simp;omega
  rw[et F,et (by simpa using h1),aH,aJ];simp only[jg];rw[aV F]
 have aY:L.length=l.length+3+p.length+J.length:=by rw[o];simp;omega
 have ag:e5 11 au L (l.length+3+p.length) w2 g.opsZ:=by
  refine (e5.frame (l':=L) H fun b h1 C=>?_).mono (by simp;omega);rw[o];simp at h1 C;rw[et F,et (by simp;omega)];simp;have e:b - l.length=(b - (l.length+(p.length+3)))+p.length+3:=F;rw[e];simp only[jg];rw[et F];congr 1;omega
 refine bz g.opsZ.l.length (fun k u B=>B=L/\u 2=.ptr (l.length+1) 0 2/\u 3=.ptr (l.length+2) 0 2/\u 14=.i6 g.opsZ.l.length/\u 15=.i6 k) ?_ ⟨by rw[o],V,V,V,V⟩;rintro k u B hk ⟨rfl,R,S,P,Q⟩;obtain⟨u,rfl⟩:=fc R S P Q;clear R S P Q;have z:=cq (k:=k) F;by_cases t:k<g.opsZ.l.length
 ·obtain⟨j,aD,aE⟩:=aP t;rcases ag with ⟨aC,_⟩ | ⟨b,a0,a3,rfl,D⟩
  ·rw[aC] at t;simp at t
  ·have U:=w.opsZ j aE;have ap:=bU j.ay;have al:=lY j.ay U.idsZ U.len;have W:∀ e∈g.opsZ.l.map au,e.length=11:=fun e aw=>by obtain⟨y,_,rfl⟩:=cy.1 aw;rfl
   have G:(g.opsZ.l.map au)[k]?=some (au j):=by rw[bW,aD];rfl
   have az:(g.opsZ.l.map au).flatten[k*11+1]?=some (ai j.ay):=lT W G F;have aF:ax (g.opsZ.l.map au).flatten (k*11+1) [ai j.ay]=(g.opsZ.l.map au).flatten:=by
    rw[po W G (show 1+[ai j.ay].length<=11 by simp),wT j];congr 1;exact g5 fun aK=>by
     by_cases e:k=aK
     ·subst e;rw[b1 (by simpa using t),G]
     ·rw[br e]
   have mp:=hw j.ay;have a4:=v1 g.opsZ.l;have aG:=uO D;simp[t,I,az,D];refine av al (by simp[aq,ap]) ?_;simp[t,I,D,aF,mp,z,aG];omega
 ·have aA:k=g.opsZ.l.length:=F;subst aA;have aN:l.length+1<B.length:=a2 q1;have aM:(B.set (l.length+1) (am.q 2 [h,w2]))[l.length+1]?=some (.q 2 [h,w2]):=b1 aN;simp[q1,I,ax,aM];refine ak h w2 _ ⟨by simpa using T.1,fun b v=>?_⟩ ((aL.frame fun b v _=>br F).mono F) ((ag.frame fun b v _=>br F).mono F) (fun a9 b n m s bb aS a7 a6 a8 z O=>?_) X Y
  ·rw[br F];exact T.2 b v
  ·rcases Z with ⟨_,rfl⟩ | ⟨c,aT,_,rfl,aj⟩
   ·cases z
   ·rcases H with ⟨_,rfl⟩ | ⟨d,d1,_,rfl,d4⟩
    ·cases O
    ·have aO:=a2 aj;injection z with _ aQ
     injection O with _ aR
     subst aQ aR;simp at aO d1;omega
end Op
namespace Op
section
variable {alZ:Type} {enc:alZ->ag} {z:Nat}
theorem Sg {P:bj} {G:Nat->U} {f u I e by_:Nat} (L:qm P f u I e z) (X:gm P u=some e) (ay:b5 P e=some z) (ai:gO P e=some by_) (S:0<z) (Y:0<by_) (az:mh P e=some z)
  {l:ae} {b bv n cap i:Nat} {a:List alZ} {x:alZ} (j:∀ y∈a,(enc y).length=z) (H:(enc x).length=z) (h:aM z l (.ad z b 0 n cap (cap*z)) b (a.map enc)) (ag:l[bv]?=some (.q z (enc x))) (au:bv≠b) (p:i<=n) (aw:(n+1)*by_<=dk)
  {K:cA} (W:∀ l',l'.length=l.length+1->(∀ c,c<l.length->c≠b->l'[c]?=l[c]?)->aM z l' (.ad z l.length 0 (n+1) (max cap (n+1)) (max cap (n+1)*z)) l.length ((c2 a i x).map enc)->
   K (.ad z l.length 0 (n+1) (max cap (n+1)) (max cap (n+1)*z)) l') :
  fY P G f [.ad z b 0 n cap (cap*z),.i6 i,.ad z bv 0 1 1 z] l (c:=⟨K⟩):=by
 generalize F:U.ad z b 0 n cap (cap*z)=w at h;generalize o:a.map enc=R at h;cases h with
 | nil=>cases F
 | ad aN aO aD aP cs R v ap ar aK B aH al=>
  injection F with aE aF aG J O Q
  subst J O Q o;have Z:=a2 v;have m:a.length=n:=by simpa using ar
  have D:=In (P:=P) (G:=G) (h:=aX l) L X ay ai S Y az (b:=b) (bv:=bv) (len:=n) (cap:=cap) (i:=i) (hI.2 v) (hI.2 ag) au p B aw;rw[Ba,mu _ Z,lI] at D;refine⟨_,_,.ext D,V,?_⟩;have aq:n+1<=max cap (n+1):=Nat.le_max_right _ _;have T:cs.take (n*z)=(a.map enc).flatten:=al;have aJ:n*z<=cap*z:=cn _ B;have ao:i*z<=n*z:=cn _ p;have ax:(n - i)*z=n*z - i*z:=Nat.mul_sub_right_distrib _ _ _;have C:im z cs (enc x) i n=((c2 a i x).map enc).flatten++cs.drop ((n+1)*z):=by
   rw[<-Se j m p x,<-T];unfold im;have aA:(cs.take (n*z)).take (i*z)=cs.take (i*z):=by rw[na,iX ao]
   have aB:((cs.take (n*z)).drop (i*z)).take ((n - i)*z)=(cs.drop (i*z)).take ((n - i)*z):=by
    rw[rv,na,ax,Nat.min_self]
   have aC:(cs.take (n*z)).drop ((n+1)*z)=[]:=qc (by rw[cO,eV];omega);rw[aA,aB,aC,eT]
  have t:((c2 a i x).map enc).flatten.length=(n+1)*z:=by
   rw[yF,js,m];intro y g;rcases mI.1 g with rfl | g
   ·exact H
   ·exact j y g
  have av:(im z cs (enc x) i n).length=max cap (n+1)*z:=by
   rw[C,cr,t,iT,ap];rcases Nat.le_total cap (n+1) with h | h
   ·rw[A5 h];have:=cn z h;omega
   ·rw[A4 h];have:=cn z h;omega
  refine W _ V (fun c aj ak=>by rw[aV (by simpa using aj),br (fun e=>ak e.symm)]) ?_;refine .ad l.length (n+1) (max cap (n+1)) (max cap (n+1)*z) (im z cs (enc x) i n) _ ?_ av (by simp[js,m]) (fun e o=>?_) aq (aI _) ?_
  ·rw[show l.length=(l.set b am.dead).length by simp,qd]
  ·obtain⟨y,g,rfl⟩:=cy.1 o;rcases mI.1 g with rfl | g
   ·exact H
   ·exact j y g
  ·rw[C,ig (by rw[t];exact aI _),aL (by rw[t];exact aI _)]
def x4 (z:Nat) (l:ae) (w:U) (a:List (ag)) :Prop:=(a=[]/\w=.af)\/∃ b n cap,w=.ad z b 0 n cap (cap*z)/\aM z l w b a
theorem Cy {f p Q e by_:Nat} (L:qm prog f p Q e z) (v:gm prog p=some e) (J:b5 prog e=some z) (D:gO prog e=some by_) (t:0<z) (B:0<by_) (O:mh prog e=some z)
  {l:ae} {bv i:Nat} {a:List alZ} {x:alZ} {w:U} (R:∀ y∈a,(enc y).length=z) (I:(enc x).length=z) (h:x4 z l w (a.map enc)) (C:l[bv]?=some (.q z (enc x))) (Z:∀ b n cap s,w=.ad z b 0 n cap s->bv≠b) (X:i<=a.length) (H:(a.length+1)*by_<=dk)
  {K:cA} (u:∀ l',l.length<=l'.length->(∀ c,c<l.length->(∀ b n cap s,w=.ad z b 0 n cap s->c≠b)->l'[c]?=l[c]?)->K (.bn z ((c2 a i x).map enc)) l') :
  cJ f [w,.i6 i,.ad z bv 0 1 1 z] l K:=by
 refine Gz checked.mixed ev ?_;rcases h with ⟨h1,rfl⟩ | ⟨b,n,cap,rfl,h⟩
 ·have S:a=[]:=by simpa using h1
  subst S;have Y:i=0:=by simpa using X
  subst Y;have e:(c2 ([] :List alZ) 0 x).map enc=[enc x]:=rfl;refine Sm (P:=prog) (G:=GS) L v J D t B O C (by simpa using H) ?_;have ag:aM z (l++[.q z (enc x)]) (.ad z l.length 0 1 1 z) l.length ((c2 ([] :List alZ) 0 x).map enc):=by
   have:=qW (enc:=enc) (z:=z) (l:=l++[.q z (enc x)]) (b:=l.length) (n:=1) (a:=c2 ([] :List alZ) 0 x) (fun y j=>by
    rcases mI.1 j with rfl | j
    ·exact I
    ·cases j) rfl (by rw[qd];simp[c2])
   simpa using this
  obtain⟨m,o⟩:=pO ag rfl;exact⟨_,_,m,o,V,u _ V fun c g _=>by rw[br F,aV g]⟩
 ·have T:a.length=n:=by
   have:=h.len;simp[bx] at this;omega
  refine Sg L v J D t B O R I h C (Z b n cap _ rfl) F (by rw[<-T];exact H) fun l' q1 ai aj=>?_
  obtain⟨m,o⟩:=pO aj rfl;exact⟨_,_,m,o,by simp;omega,u _ (by simp;omega) fun c g W=>by rw[br F];exact ai c g (W b n cap _ rfl)⟩
theorem e5.c {l:ae} {n:Nat} {w:U} {s:bL alZ} (h:e5 z enc l n w s) (j:∀ y∈s.l,(enc y).length=z) :x4 z l w (s.l.map enc):=by
 rcases h with ⟨rfl,rfl⟩ | ⟨b,h1,m,rfl,g⟩
 ·exact .inl ⟨rfl,rfl⟩
 ·exact .inr ⟨b,_,_,rfl,qW j rfl g⟩
end
end Op
end Go.bh

/-
  The graph of an index, in the program, walked.
-/
import Derived.Test.YtdjbnhgdhambnaaGreatDoorXj
import Derived.Shelf.Spec.SlicesInsertGrow
set_option maxHeartbeats 16000000
set_option maxRecDepth 100000
set_option linter.unusedVariables false
set_option linter.unusedSimpArgs false
set_option linter.unnecessarySimpa false
namespace Go.bf
open Go Go.Proofs Go.Proofs.Tryz
namespace Op
open b8
theorem GK (a b:bP) (C:cU a) (D:cU b) (ag:a.l.length<=1000000) :aV 67 [ai a,ai b] (.bool (decide (a.l=b.l))):=by
 apply a8 func67 [];have I:bt (.ad 32) (ai a)=_:=ca _;have J:bt (.ad 32) (ai b)=_:=ca _;by_cases h1:a.l.length=b.l.length
 ·have B:((a.l.length:Int)=b.l.length):=F;simp[I,J,h1];refine bw a.l.length (fun k j l=>j 0=ai a/\j 1=ai b/\j 12=.i6 a.l.length/\j 13=.i6 k/\∀ g,g<k->a.l[g]?=b.l[g]?) ?_ (by simp[h1]);rintro k j l hk ⟨u,v,w,z,K⟩;obtain⟨j,rfl⟩:=e2 u v w z;clear u v w z;simp;refine gq (fun h=>?_) (fun h=>?_)
  ·simp only[bI] at h;obtain⟨x,o,P⟩:=aQ h;obtain⟨y,t,R⟩:=aQ (l:=b.l) (k:=k) F;have S:=cl (k:=k) F;have G:bF (.ad 32) (ai a) _=_:=c6 o;have H:bF (.ad 32) (ai b) _=_:=c6 t;have O:=br (C x P);have Q:=br (D y R);have q:=qq (C x P) (D y R);obtain⟨Y,T⟩:=aq (ao x);obtain⟨Z,V⟩:=aq (ao y);rw[<-T] at G O q;rw[<-V] at H Q q;simp[G,H,O,Q,aI,q];by_cases m:x=y
   ·simp[m,S];refine⟨F,fun g W=>?_⟩;by_cases X:g=k
    ·subst X;rw[o,t,m]
    ·exact K g F
   ·simp[m];refine aR (cm U.bool (cp fun p=>m ?_).symm) rfl;rw[p,t] at o;exact (cd o).symm
  ·simp[h];have ae:k=a.l.length:=by simp at h;omega
   refine aR (cm U.bool (bW ?_).symm) rfl;apply g7;intro g;by_cases W:g<a.l.length
   ·exact K g F
   ·rw[dV F,dV F]
 ·have B:¬ ((a.l.length:Int)=b.l.length):=F;simp[I,J,B];exact aR (by rw[cp (fun p=>h1 (by rw[p]))]) rfl
structure fo (s:cA) :Prop where
 hy:1<=s.al.l.length
 tT:s.al.l.length<=4
 aq:lH s.al.l=true
 wf:oA s.al.l=true
 lu:e5 (b2 (bS s))=0
 lc:s.b6=((bS s).length:Int)
 vN:eM (b2 (bS s))=s.ce.l
noncomputable def pM (s:cA) :Bool:=@decide (fo s) (Classical.propDecidable _)
theorem XZ {s:cA} (h:fo s) :pM s=true:=@decide_eq_true _ (Classical.propDecidable _) h
theorem XY {s:cA} (h:¬ fo s) :pM s=false:=@decide_eq_false _ (Classical.propDecidable _) h
noncomputable def pN (s:cA) :U:=.aZ [cE (if pM s=true then b2 (bS s) else ⟨none,none⟩),.i6 (if pM s=true then 0 else 8)]
theorem q3 {s:cA} (h:¬ fo s) :pN s=.aZ [.ah [.af,.af],.i6 8]:=by unfold pN;rw[XY h];rfl
theorem Ek {s:cA} (h:fo s) :pN s=.aZ [cE (b2 (bS s)),.i6 0]:=by unfold pN;rw[XZ h];rfl
theorem ym (l:List (List B × aM)) :(b2 l).idsZ.l.length=l.length:=by unfold b2;simp only[dr];rw[cC]
theorem LV (s:cA) (I:hs s) :aV 207 [.ah (bM s)] (pN s):=by
 apply a8 func207 [];have ag:=pi s.al;have bz:=I.lJ;have C:(bM s).length=3:=rfl;have a6:(bM s).take 3=bM s:=rfl;have X:∀ h,(bM s)[0]'h=e0 s.al:=fun _=>rfl
 have bu:(bM s)[1]?=some (ai s.ce):=rfl;have bv:(bM s)[2]?=some (.i6 s.b6):=rfl;have a1:∀ h,(bM s)[1]'h=ai s.ce:=fun _=>rfl
 have aK:∀ h,(bM s)[2]'h=.i6 s.b6:=fun _=>rfl
 have a5:=o2 s;by_cases h1:1<=s.al.l.length
 ·by_cases aJ:s.al.l.length<=4
  ·have J:¬ (s.al.l.length:Int)<1:=F;have au:¬ (4:Int)<(s.al.l.length:Int):=F;simp[C,X,ag,aw,J,au];refine bw s.al.l.length (fun i v l=>v 1=.ptr 0 0 3/\v 2=.ptr 1 0 2/\v 4=.ptr 2 0 1/\v 22=e0 s.al/\v 23=.i6 s.al.l.length/\v 24=.i6 i/\l[0]?=some (.q 3 (bM s))/\l[1]?=some (.q 2 [.af,.af])/\l[2]?=some (.q 1 [.i6 s.al.l.length])/\∀ (t:Nat) (p:aW),t<i->s.al.l[t]?=some p->∀ x∈p.idsZ.l,num x s.al.l.length=t) ?_ ⟨V,V,V,V,V,V,rfl,rfl,rfl,fun t _ S=>F⟩;rintro i v l bf ⟨aA,aB,aI,aC,aD,aE,K,q1,O,ae⟩;obtain⟨v,rfl⟩:=pJ aA aB aI aC aD aE;clear aA aB aI aC aD aE;have az:=cl (k:=i) F;by_cases H:i<s.al.l.length
   ·obtain⟨p,D,bl⟩:=aQ H;obtain⟨ao,bA,bC⟩:=I.al p bl;have bg:=mo D;have a2:∀ h,(bb p)[0]'h=ai p.idsZ:=fun _=>rfl
    have a3:(bb p).length=2:=rfl;have a4:(bb p).take 2=bb p:=rfl;have bm:aw [U.af,.af] 0 (bb p)=bb p:=cH rfl;have bx:=aY O;obtain⟨L,P⟩:=aq (l++[am.q 1 [.i6 (i:Int)],am.q 2 (bb p)]);have u:∀ (k:Nat) (c:am),l[k]?=some c->L[k]?=some c:=fun k c h=>by rw[P,aS (aY h)];exact h
    have br:L[l.length]?=some (.q 1 [.i6 (i:Int)]):=by rw[P];simp
    have wp:L[l.length+1]?=some (.q 2 (bb p)):=by rw[P];simp
    have bc:=TA s.al.l.length i h1 F (u 2 _ O) br p.idsZ.l ao.idsZ;simp[H,bg,a3,a4,bm,<-P,wp,a2];refine xY p.idsZ ao.idsZ ao.li bd bc fun aX Z=>?_
    have a0:=Z.2 1 (aY (u 1 _ q1));cases aL:p.idsZ.l.any fun x=>!decide (num x s.al.l.length=i) with
    | true=>
     obtain⟨x,m,aU⟩:=sP.1 aL;have o:¬ fo s:=fun h=>by
      have ak:=h.aq;unfold lH at ak;rw[bI] at ak;have:=ak i H x (by rw[dZ D];exact m);rw[this] at aU;simp at aU
     rw[q3 o];have j:aX[1]?=some (.q 2 [.af,.af]):=by rw[a0];exact u 1 _ q1
     have w:∀ c:am,(aX.set 1 c)[1]?=some c:=fun c=>bT (aY j)
     simp[j,w,aw];exact aG
    | false=>
     simp[az];refine⟨H,?_,?_,?_,fun t q S ap x m=>?_⟩
     ·rw[Z.2 0 (aY (u 0 _ K))];exact u 0 _ K
     ·rw[a0];exact u 1 _ q1
     ·rw[Z.2 2 (aY (u 2 _ O))];exact u 2 _ O
     ·by_cases bi:t=i
      ·subst bi;rw[D] at ap;obtain rfl:=cd ap;have:=Af.1 aL x m;simpa using this
      ·exact ae t q F ap x m
   ·have bh:i=s.al.l.length:=F;subst bh;have aT:lH s.al.l=true:=by
     unfold lH;rw[bI];intro t S x m;obtain⟨p,D,_⟩:=aQ S;exact ae t p S D x (by rw[dZ D] at m;exact m)
    have bk:=Sk s I (yX aT);clear ae H bf az;simp[K,C,a6];refine av bk (by simp[ar,U.ax,a5]) ?_;have bE:=aY O;cases W:oA s.al.l with
    | false=>
     have o:¬ fo s:=fun h=>by have:=h.wf;rw[W] at this;cases this
     rw[q3 o];unfold r1;rw[W];have j:∀ c:am,(l++[c])[1]?=some (.q 2 [.af,.af]):=fun c=>by rw[aS (aY q1)];exact q1
     have w:∀ c c' : am,((l++[c]).set 1 c')[1]?=some c':=fun c c'=>bT (aY (j c))
     have bp:(ai none).cells=some [ai none]:=rfl;have bq:(bB none).cells=some [bB none]:=rfl;simp[cE,bb,aw,j,w];exact aG
    | true=>
     have G:e4 (b2 (bS s)):=xc I;have Y:=LQ _ G;have R:=XN _ G;obtain⟨g,B⟩:=aq (b2 (bS s));have aO:g.idsZ.l.length=(bS s).length:=by rw[B];exact ym _
     unfold r1;rw[W,aj rfl];rw[<-B] at G Y R ⊢;have j:∀ c:am,(l++[c])[1]?=some (.q 2 [.af,.af]):=fun c=>by rw[aS (aY q1)];exact q1
     have bs:∀ c:am,(l++[c])[0]?=some (.q 3 (bM s)):=fun c=>by rw[aS (aY K)];exact K
     have w:∀ c c' : am,((l++[c]).set 1 c')[1]?=some c':=fun c c'=>bT (aY (j c))
     have bp:=hd g.idsZ;have bq:=oU g.opsZ;have aM:=bV g.idsZ;have aN:=iM g.opsZ;have aP:bt (.ad 32) (ai g.idsZ)=_:=ca _;unfold cE bb at Y R;simp[cE,bb,aw];refine av Y (by simp[ar,U.ax,aM,aN]) ?_;by_cases z:e5 g=0
     ·have ay:∀ (c:am) (h:0<(l++[c]).length),(l++[c])[0]'h=.q 3 (bM s):=fun c h=>(aH.1 (bs c)).2
      by_cases T:s.b6=(g.idsZ.l.length:Int)
      ·have bn:ai (q0 g)=ai (cO (eM g)):=by unfold q0;rw[aj z]
       have heq:=GK (cO (eM g)) s.ce (fun x m=>by rw[dr] at m;exact G.idsZ x ((c7.1 m).1)) I.ce (by rw[dr];exact dC (hG _ _) G.li);rw[dr] at heq;have a7:=bV (cO (eM g));have a9:=bV s.ce;rw[bn,z] at R;simp[z,ay,C,aK,aP,T];refine av R (by simp[ar,U.ax,aM,aN]) ?_;simp[ay,C,a1];refine av heq (by simp[ar,a7,a9]) ?_;by_cases Q:eM g=s.ce.l
       ·have bo:fo s:=⟨h1,aJ,aT,W,by rw[<-B];exact z,by rw[T,aO],by rw[<-B];exact Q⟩
        rw[Ek bo,<-B];simp[Q,j,w,aw];exact aR rfl (by simp[U.ax,ar];exact oY g)
       ·have o:¬ fo s:=fun h=>Q (by rw[B];exact h.vN)
        rw[q3 o];simp[Q,j,w,aw];exact aG
      ·have o:¬ fo s:=fun h=>T (by rw[h.lc,aO])
       rw[q3 o];simp[z,j,w,ay,C,aK,aP,T,aw];exact aG
     ·have o:¬ fo s:=fun h=>z (by rw[B];exact h.lu)
      rw[q3 o];simp[z,j,w,aw];exact aG
  ·have J:¬ (s.al.l.length:Int)<1:=F;have au:(4:Int)<(s.al.l.length:Int):=F;rw[q3 fun h=>aJ h.tT];simp[C,X,ag,aw,J,au];exact aG
 ·have J:(s.al.l.length:Int)<1:=F;rw[q3 fun h=>h1 h.hy];simp[C,X,ag,aw,J];exact aG
theorem Jq (opsZ:List aM) (i:Nat) :dE (opsZ.map dU) i=dE opsZ i:=by unfold dE;rw[bX];cases opsZ[i]?<;>rfl
theorem qW (g:aW) :(eV g).opsZ.l=g.opsZ.l.map dU:=dr _
theorem Oo (idsZ:aN) (opsZ:List aM) (out:List Nat) :mh idsZ (opsZ.map dU) out=mh idsZ opsZ out:=by funext i;unfold mh;rw[Jq]
theorem IH (idsZ:aN) (opsZ:List aM) (out:List Nat) :hA idsZ (opsZ.map dU) out=hA idsZ opsZ out:=by unfold hA;rw[Oo,cC]
theorem I0 (idsZ:aN) (opsZ:List aM) :∀ k,eF idsZ (opsZ.map dU) k=eF idsZ opsZ k
 | 0=>rfl
 | k+1=>by
  have g:=I0 idsZ opsZ k;cases h:hA idsZ opsZ (eF idsZ opsZ k) with
  | none=>rw[y5 h,y5 (by rw[g,IH];exact h),g]
  | some i=>rw[wz h,wz (by rw[g,IH];exact h),g]
theorem V8 (idsZ:aN) (opsZ:List aM) :jl idsZ (opsZ.map dU)=jl idsZ opsZ:=by
 have h1:pr idsZ (opsZ.map dU)=pr idsZ opsZ:=by
  unfold pr;rw[decide_eq_decide];constructor
  ·intro h j g;exact h (dU j) (sS g)
  ·intro h j g;obtain⟨p,o,rfl⟩:=cF.1 g;exact h p o
 have m:lL idsZ (opsZ.map dU)=lL idsZ opsZ:=by unfold lL;rw[I0,cC]
 unfold jl;rw[h1,m,cC]
theorem QI (g:aW) (k:Nat) :jB (eV g) k=jB g k:=by unfold jB;rw[qW,bX];rw[show (eV g).idsZ.l=g.idsZ.l from rfl];cases g.opsZ.l[k]?<;>cases g.idsZ.l[k]?<;>rfl
theorem OG (g:aW) :e5 (eV g)=e5 g:=by
 have h1:rL (eV g)=rL g:=by
  unfold rL;rw[decide_eq_decide,qW,cC];simp only[QI]
 unfold e5;rw[h1,qW,V8,cC];rfl
theorem T6 (l:List (List B × aM)) :gZ (eV (b2 l))=l.map fun q=>(q.1,dU q.2):=by
 unfold gZ;rw[qW];unfold b2 eV;simp only[dr,bH.lE]
 induction l with
 | nil=>rfl
 | cons a l g=>simp only[dh,List.zip_cons_cons,g]
theorem Qq (g:aW) (x:List B) (m:Nat) :ly (eV g) x m=ly g x m:=by
 unfold ly;rw[decide_eq_decide];have h:∀ j,(hB (eV g).opsZ.l j).ay.l=(hB g.opsZ.l j).ay.l:=fun j=>by
  unfold hB;rw[qW,gm,gm,bX];cases g.opsZ.l[j]?<;>rfl
 constructor
 ·intro o j p;rw[<-h];exact o j p
 ·intro o j p;rw[h];exact o j p
theorem Hq (g:aW) :eM (eV g)=eM g:=by
 unfold eM;have h:∀ x,h2 (eV g) x=h2 g x:=fun x=>by
  show ly (eV g) x (eV g).opsZ.l.length=ly g x g.opsZ.l.length;rw[Qq,qW,cC]
 rw[funext h];rfl
theorem Kw (o:aM) :iT o (dU (dU o))=true:=by unfold iT dU;simp[fF,dn,U.beq]
def nn (l:List (List B × aM)) (n k:Nat) :List (List B × aM):=(l.map fun q=>(q.1,dU q.2)).filter fun q=>decide (num q.1 n=k)
theorem TQ (l:List (List B × aM)) (n k:Nat) :hl (eV (b2 l)) (jF (eV (b2 l)) n k)=eV (b2 (nn l n k)):=by
 unfold hl jf nn;rw[fl,T6];congr 2;refine List.filter_congr fun q g=>?_
 rw[decide_eq_decide];unfold jF;rw[c7,bI];constructor
 ·exact fun h=>h.2
 ·intro h;refine⟨?_,h⟩;show q.1∈(eV (b2 l)).idsZ.l;obtain⟨m,j,rfl⟩:=cF.1 g;unfold eV b2;simp only[dr,bH.lE];exact sS j
theorem Jn (l:List (List B × aM)) (n k:Nat) :(hl (eV (b2 l)) (jF (eV (b2 l)) n k)).idsZ.l=(nn l n k).map (·.1)/\(hl (eV (b2 l)) (jF (eV (b2 l)) n k)).opsZ.l=((nn l n k).map (·.2)).map dU:=by
 rw[TQ,qW];refine⟨?_,?_⟩
 ·unfold eV b2;simp only[dr,bH.lE]
 ·unfold b2;simp only[dr]
theorem Jo {l:List (List B × aM)} {n k:Nat} {q:List B × aM}:q∈nn l n k<->∃ g∈l,q=(g.1,dU g.2)/\num q.1 n=k:=by
 unfold nn;rw[c7,cF,bI];constructor
 ·rintro⟨⟨g,h1,rfl⟩,h⟩;exact⟨g,h1,rfl,h⟩
 ·rintro⟨g,h1,rfl,h⟩;exact⟨⟨g,h1,rfl⟩,h⟩
theorem Jp {l:List (List B × aM)} (h:l.Pairwise fun a b=>eN a.1 b.1=true) (n k:Nat) :(nn l n k).Pairwise fun a b=>eN a.1 b.1=true:=by
 unfold nn;have g:(l.map fun q=>(q.1,dU q.2)).Pairwise fun a b=>eN a.1 b.1=true:=by rw[nF];exact h
 exact g.sublist jT
theorem xb (s:cA) :dM s=eV (b2 (bS s)):=rfl
theorem FW (s:cA) :e5 (dM s)=e5 (b2 (bS s)):=OG _
theorem V6 {s:cA} (h:fo s) :ks s=0:=by
 have W:nL s.al.l:=⟨fun g p=>(lY.1 h.wf g p).1,fun g p=>(lY.1 h.wf g p).2,yX h.aq⟩
 have w:=h.aq;unfold lH at w;rw[bI] at w;have T:lR s (kY (dM s) s.al.l.length)=true:=by
  rw[si];have G:(kY (dM s) s.al.l.length).al.l=iz (dM s) s.al.l.length s.al.l.length:=rfl;refine⟨by rw[G,pj],?_,?_,fun k hk=>?_⟩
  ·show s.b6=((dM s).idsZ.l.length:Int)
   rw[h.lc];congr 1;exact (ym (bS s)).symm
  ·show s.ce.l=(cO (eM (dM s))).l;rw[dr,xb,Hq];exact h.vN.symm
  ·rw[G,dZ (yL _ _ hk)];obtain⟨g,p,z⟩:=aQ hk;rw[dZ p];obtain⟨u,v⟩:=Jn (bS s) s.al.l.length k;rw[<-xb] at u v;have H:=w k hk;rw[dZ p] at H;have X:=W.len g z;have R:(gZ g).map (fun q=>(q.1,dU q.2))=nn (bS s) s.al.l.length k:=by
    refine CW ?_ (Jp (Ej W) _ _) fun q=>?_
    ·rw[nF];have D:=oo (W.bQ g z);have K:(gZ g).map (·.1)=g.idsZ.l:=by unfold gZ;rw[List.map_fst_zip F]
     rw[<-K,nF] at D;exact D
    ·rw[Jo,cF];constructor
     ·rintro⟨m,B,rfl⟩;obtain⟨a,j⟩:=cc.1 B;unfold gZ at j;rw[sR] at j;exact⟨m,(sB W m).2 ⟨g,z,a,j.1,j.2⟩,rfl,H m.1 (cz j.1)⟩
     ·rintro⟨m,B,rfl,Q⟩;obtain⟨r,S,a,j,O⟩:=(sB W m).1 B;obtain⟨C,t⟩:=cc.1 S;have:=w C (aH.1 t).1 m.1 (by rw[dZ t];exact cz j);have P:C=k:=by rw[<-this];exact Q
      subst P;rw[p] at t;obtain rfl:=cd t;exact⟨m,cz (show (gZ g)[a]?=some m by unfold gZ;rw[sR];exact⟨j,O⟩),rfl⟩
   rw[<-R] at u v;have U:((gZ g).map fun q=>(q.1,dU q.2)).map (·.1)=g.idsZ.l:=by
    rw[oE];unfold gZ;exact List.map_fst_zip F
   have V:((gZ g).map fun q=>(q.1,dU q.2)).map (·.2)=g.opsZ.l.map dU:=by
    rw[oE];have:(gZ g).map (·.2)=g.opsZ.l:=by unfold gZ;exact List.map_snd_zip F
    rw[<-this,oE];rfl
   rw[U] at u;rw[V] at v;unfold np;rw[u,v];simp only[cC,oH,nA,bI];intro C t;obtain⟨J,I,_⟩:=aQ t;rw[nk I,nk (o:=dU (dU J)) (by rw[bX,bX,I];rfl)];exact Kw J
 unfold ks;rw[aj ⟨h.hy,h.tT⟩,aj ⟨by rw[FW];exact h.lu,T⟩]
theorem X0 {s:cA} (h:ks s=0) :fo s:=by
 obtain⟨h1,z,p,G⟩:=KE h;obtain⟨_,I,J,K⟩:=(si _ _).1 G;have w:=k1 p;have C:(kY (dM s) s.al.l.length).al.l=iz (dM s) s.al.l.length s.al.l.length:=rfl;have v:∀ (k:Nat) (g:aW),s.al.l[k]?=some g->g.idsZ.l=(nn (bS s) s.al.l.length k).map (·.1)/\g.opsZ.l.length=(nn (bS s) s.al.l.length k).length:=fun k g j=>by
  have hk:=(aH.1 j).1;have:=K k hk;rw[C,dZ (yL _ _ hk),dZ j] at this;unfold np at this;simp only[bN,bI] at this;obtain⟨m,o⟩:=Jn (bS s) s.al.l.length k;exact⟨by rw[this.1];exact m,by rw[this.2.1,show (hl (dM s) (jF (dM s) s.al.l.length k)).opsZ.l=_ from o,cC,cC]⟩
 have H:(bS s).Pairwise fun a b=>eN a.1 b.1=true:=by
  have t:=oo w.bQ;have:(dM s).idsZ.l=(bS s).map (·.1):=by rw[xb];unfold eV b2;simp only[dr,bH.lE]
  rw[this,nF] at t;exact t
 refine⟨h1,z,?_,?_,by rw[<-FW];exact p,?_,?_⟩
 ·unfold lH;rw[bI];intro i B x u;obtain⟨g,j,_⟩:=aQ B;rw[dZ j,(v i g j).1] at u;obtain⟨q,F,rfl⟩:=cF.1 u;obtain⟨_,_,_,D⟩:=Jo.1 F;exact D
 ·refine lY.2 fun g j=>?_
  obtain⟨k,hk⟩:=cc.1 j;obtain⟨m,o⟩:=v k g hk;refine⟨by rw[m,o,cC],ub ?_⟩;rw[m,nF];exact Jp H _ _
 ·rw[I];show ((dM s).idsZ.l.length:Int)=_;congr 1;exact ym (bS s)
 ·have:s.ce.l=(cO (eM (dM s))).l:=J;rw[this,dr,xb,Hq]
theorem KD (s:cA) :ks s=0<->fo s:=⟨X0,V6⟩
theorem OO (s:cA) :(pN s).ax=true:=by unfold pN;have:=oY (if pM s=true then b2 (bS s) else ⟨none,none⟩);simp[U.ax,ar,this]
theorem XF (s:cA) (q:hs s) :aV 166 [.ah (bM s)] (pN s):=by apply a8 func166 [];have t:(bM s).length=3:=rfl;have o:(bM s).take 3=bM s:=rfl;have m:=o2 s;have h:=LV s q;have g:=OO s;have u:pN s=.aZ [.ah [ai (if pM s=true then b2 (bS s) else ⟨none,none⟩).idsZ,bB (if pM s=true then b2 (bS s) else ⟨none,none⟩).opsZ],.i6 (if pM s=true then 0 else 8)]:=rfl;rw[u] at h g ⊢;obtain⟨j,p⟩:=aq (if pM s=true then b2 (bS s) else ⟨none,none⟩);rw[<-p] at h g ⊢;have v:=hd j.idsZ;have w:=oU j.opsZ;simp[t,o];refine av h (by simp[ar,U.ax,m]) ?_;simp[aw];exact aR rfl g
theorem Ts (g:aW) (l:aN) (i:Nat) :hj (eV g) l i=hj g l i:=by unfold hj;rw[qW,Jq];rfl
theorem I1 (g:aW) (l:aN) :jI (eV g) l=jI g l:=by unfold jI;simp only[Ts]
theorem WE (s:eR) :fy s=0\/fy s=8:=by
 unfold fy;split
 ·split
  ·exact .inl rfl
  ·exact .inr rfl
 ·exact .inr rfl
structure iq (s:eR) :Prop where
 j3:1<=s.cap
 vp:s.cap<=40
 a2:fo s.a2
 lc:s.a2.b6<=s.cap
 le:(s.aD.l.length:Int)=s.a2.b6
 ord:jI (b2 (bS s.a2)) s.aD.l=true
theorem wY (s:eR) :fy s=0<->iq s:=by
 unfold fy;constructor
 ·intro h;split at h
  ·rename_i h1;split at h
   ·rename_i t;exact⟨h1.1,h1.2.1,(KD _).1 h1.2.2.1,h1.2.2.2.1,h1.2.2.2.2,by rw[<-I1];exact t⟩
   ·cases h
  ·cases h
 ·rintro⟨g,j,m,o,p,q⟩;rw[aj ⟨g,j,(KD _).2 m,o,p⟩,aj (by rw[xb,I1];exact q)]
noncomputable def sj (s:eR) :aW:=if fy s=0 then b2 (bS s.a2) else ⟨none,none⟩
noncomputable def pC (s:eR) :U:=.aZ [cE (sj s),.i6 (fy s)]
theorem uu {s:eR} (h:¬ iq s) :pC s=.aZ [.ah [.af,.af],.i6 8]:=by
 have g:¬ fy s=0:=fun e=>h ((wY s).1 e)
 unfold pC sj;rw[ak g,(WE s).resolve_left g];rfl
theorem V0 {s:eR} (h:iq s) :pC s=.aZ [cE (b2 (bS s.a2)),.i6 0]:=by have g:fy s=0:=(wY s).2 h;unfold pC sj;rw[aj g,g]
theorem PC (e:bP) (v:cU e) (z:e.l.length<=1000000) {l:ae} {be:Nat} (h1:l[be]?=some (.q 1 [ai e])) (xs:aN) (F:∀ p∈xs,p.length=32) :
  s4 167 [.ptr be 0 1] l xs (fun p=>!decide (p∈e.l)):=by
 intro p B h m G o;apply cR func167 [];have g:=F p B;have D:=br g;have C:=cP p;have q1:h[be]?=some (.q 1 [ai e]):=by rw[m.2 _ (aY h1)];exact h1
 have j:∀ c:am,(h++[c])[be]?=some (.q 1 [ai e]):=fun c=>by rw[aS (aY q1)];exact q1
 have u:=bV e;have w:=pK e v z p g;simp[j,D,aI];refine av w (by simp[ar,U.ax,u,C]) ?_;simp;exact o _ ⟨V,fun b t=>aS t⟩
theorem N5 (n k:Nat) (h:k<=n) :eY n n none (some (.i6 (k:Int))) (some (.i6 (k:Int)))=some (0,k,k):=by
 have g:gM (.i6 (k:Int)) n=some k:=by
  show (if 0<=(k:Int)/\(k:Int)<=(n:Int) then some (k:Int).toNat else none)=some k;rw[aj ⟨F,F⟩];simp
 have j:gM (.i6 (k:Int)) k=some k:=by
  show (if 0<=(k:Int)/\(k:Int)<=(k:Int) then some (k:Int).toNat else none)=some k;rw[aj ⟨F,F⟩];simp
 unfold eY;simp only[g,j]
theorem WQ {alZ:Type} {z:Nat} {enc:alZ->ag} {s:bH alZ} {k:Nat} (h:k<=s.l.length) :dB (.ad z) (b0 z enc s) none (some (.i6 (k:Int))) (some (.i6 (k:Int)))=some (b0 z enc (gJ s k)):=by
 cases s with
 | none=>
  have:k=0:=by simpa using h
  subst this;rfl
 | some a=>
  have hk:k<=a.length:=h;simp only[dB,b0,if_true,cC,N5 _ _ hk,cu,lh,uZ,gJ,mP]
theorem VL (s:eR) (K:lm s) :aV 115 [.ah (ck s)] (pC s):=by
 apply a8 func115 [];have u:(ck s).length=5:=rfl;have cf:(List.drop 1 (ck s)).take 3=bM s.a2:=rfl;have a3:(ck s).tail.take 3=bM s.a2:=rfl;have H:∀ h,(ck s)[0]'h=.i6 s.cap:=fun _=>rfl
 have ag:∀ h,(ck s)[3]'h=.i6 s.a2.b6:=fun _=>rfl
 have aj:∀ h,(ck s)[4]'h=ai s.aD:=fun _=>rfl
 have cg:(ck s)[0]?=some (.i6 s.cap):=rfl;have ch:(ck s)[3]?=some (.i6 s.a2.b6):=rfl;have ci:(ck s)[4]?=some (ai s.aD):=rfl;have bi:bt (.ad 32) (ai s.aD)=_:=ca _;have a4:=o2 s.a2;have B:=XF s.a2 K.a2;by_cases C:fo s.a2
 ·rw[Ek C] at B;have S:e4 (b2 (bS s.a2)):=xc K.a2;have D:=k1 C.lu;have a9:=ym (bS s.a2);obtain⟨g,R⟩:=aq (b2 (bS s.a2));rw[<-R] at B S D a9;have cm:=hd g.idsZ;have cn:=oU g.opsZ;have bh:bt (.ad 32) (ai g.idsZ)=_:=ca _;unfold cE bb at B;simp[u,a3];refine av B (by simp[ar,U.ax,a4]) ?_;have aC:=C.lc;rw[<-a9] at aC;by_cases h1:s.cap<1
  ·have m:¬ iq s:=fun h=>by have:=h.j3;omega
   rw[uu m];simp[aw,u,H,h1];exact aG
  ·by_cases w:40<s.cap
   ·have m:¬ iq s:=fun h=>by have:=h.vp;omega
    rw[uu m];simp[aw,u,H,h1,w];exact aG
   ·by_cases Y:s.cap<s.a2.b6
    ·have m:¬ iq s:=fun h=>by have:=h.lc;omega
     rw[uu m];simp[aw,u,H,ag,h1,w,Y];exact aG
    ·by_cases Z:s.aD.l.length=g.idsZ.l.length
     ·have a1:∀ b:Bool,(jI g s.aD.l=b)->pC s=if b=true then .aZ [.ah [ai g.idsZ,bB g.opsZ],.i6 0] else .aZ [.ah [.af,.af],.i6 8]:=fun b a7=>by
       cases b with
       | true=>
        have b4:iq s:=⟨F,F,C,F,by rw[aC];congr 1,by rw[<-R];exact a7⟩
        rw[V0 b4,R];rfl
       | false=>
        have m:¬ iq s:=fun h=>by have:=h.ord;rw[<-R,a7] at this;cases this
        rw[uu m];rfl
      have ak:∀ i,i<s.aD.l.length->hj g s.aD.l i=false->pC s=.aZ [.ah [.af,.af],.i6 8]:=fun i bf bP=>by
       refine a1 false ?_;unfold jI;exact cp fun h=>by have:=h i bf;rw[bP] at this;cases this
      have bJ:(∀ o,o<s.aD.l.length->hj g s.aD.l o=true)->pC s=.aZ [.ah [ai g.idsZ,bB g.opsZ],.i6 0]:=fun h=>a1 true (bW h)
      simp[aw,u,H,ag,aj,h1,w,Y,bi,bh,Z];refine bw s.aD.l.length (fun i v l=>v 1=.ptr 0 0 5/\v 2=.ptr 1 0 2/\v 4=.ptr 2 0 2/\v 48=ai s.aD/\v 49=.i6 s.aD.l.length/\v 50=.i6 i/\l[0]?=some (.q 5 (ck s))/\l[1]?=some (.q 2 [.af,.af])/\l[2]?=some (.q 2 [ai g.idsZ,bB g.opsZ])/\∀ o,o<i->hj g s.aD.l o=true) ?_ ⟨V,V,V,V,by simp[Z],V,rfl,rfl,rfl,fun o ap=>F⟩;rintro i v l bf ⟨aO,aP,aT,aU,aW,aX,bp,q1,aK,bc⟩;obtain⟨v,rfl⟩:=pJ aO aP aT aU aW aX;clear aO aP aT aU aW aX;have m:=K.no;have bA:=cl (k:=i) F;by_cases z:i<s.aD.l.length
      ·obtain⟨x,bn,b3⟩:=aQ z;have aE:=K.aD x b3;have T:=br aE;have aJ:=cP x;have bg:=vR bn;have b0:dB (.ad 32) (ai s.aD) none (some (.i6 (i:Int))) (some (.i6 (i:Int)))=some (ai (gJ s.aD i)):=WQ F;have bl:cU (gJ s.aD i):=fun cb bo=>K.aD cb (by rw[lV] at bo;exact gE bo)
       have a5:(gJ s.aD i).l.length<=1000000:=by rw[lV,cI];omega
       have bm:=zx g.idsZ S.idsZ S.li x aE D.bQ;have I:=pK (gJ s.aD i) bl a5 x aE;rw[lV] at I;have bL:=bV g.idsZ;have bN:=bV (gJ s.aD i);have mt:=hd (gJ s.aD i);have t:hj g s.aD.l i=(decide (x∈g.idsZ.l)&&(!decide (x∈s.aD.l.take i)&&hY (s.aD.l.take i) (dE g.opsZ.l (c8 x g.idsZ.l 0).toNat))):=by unfold hj;rw[dx bn]
       obtain⟨X,bG⟩:=aq (ao x);rw[<-bG] at T aJ bg bm I;have a6:X.take 32=X:=aI F;have b1:aw (bO 32 (.int .u8 0)) 0 X=X:=cH (by rw[T];rfl);have bv:∀ j:ae,(l++j)[0]?=some (.q 5 (ck s)):=fun j=>by rw[aS (aY bp)];exact bp
       have aN:∀ j:ae,(l++j)[1]?=some (.q 2 [.af,.af]):=fun j=>by rw[aS (aY q1)];exact q1
       have bx:∀ j:ae,(l++j)[2]?=some (.q 2 [ai g.idsZ,bB g.opsZ]):=fun j=>by rw[aS (aY aK)];exact aK
       have cd:∀ (j:ae) (h:0<(l++j).length),(l++j)[0]'h=.q 5 (ck s):=fun j h=>(aH.1 (bv j)).2
       have bz:∀ (j:ae) (h:1<(l++j).length),(l++j)[1]'h=.q 2 [.af,.af]:=fun j h=>(aH.1 (aN j)).2
       have bu:∀ (j:ae) (c:am),((l++j).set 1 c)[1]?=some c:=fun j c=>bT (aY (aN j))
       simp[z,bg,T,a6,b1,cd,u,aj,b0,mt,bx];refine av bm (by simp[ar,U.ax,bL,aJ]) ?_;by_cases J:x∈g.idsZ.l
       ·obtain⟨a,Q⟩:=cc.1 J;have bK:=A9 D.bQ Q;have cj:=(aH.1 Q).1;obtain⟨p,bk,bZ⟩:=aQ (l:=g.opsZ.l) (k:=a) (by rw[<-D.len];exact (aH.1 Q).1);have aA:=S.opsZ p bZ;have bX:=HA bk;have bI:=tH (mq D.bQ) Q;rw[bW J,bI,fb,lM bk,nA] at t;simp[J,bK,T,a6];refine av I (by simp[ar,U.ax,bN,aJ]) ?_;by_cases P:x∈s.aD.l.take i
        ·rw[bW P] at t;rw[ak i z (by rw[t];rfl)];simp[P,bz,aw];exact aG
        ·rw[cp P] at t;have ce:(au p)[1]?=some (ai p.ay):=rfl;have bE:∀ h,(au p)[1]'h=ai p.ay:=fun _=>rfl
         have bF:(au p).length=11:=rfl;obtain⟨L,G⟩:=aq (l++[am.q 32 X,am.q 1 [ai (gJ s.aD i)]]);have b9:L[l.length+1]?=some (.q 1 [ai (gJ s.aD i)]):=by rw[G];simp
         have bU:=PC (gJ s.aD i) bl a5 b9 p.ay.l aA.idsZ;have aM:L[2]?=some (.q 2 [ai g.idsZ,bB g.opsZ]):=by rw[G];exact bx _
         have bs:L[1]?=some (.q 2 [.af,.af]):=by rw[G];exact aN _
         have bq:L[0]?=some (.q 5 (ck s)):=by rw[G];exact bv _
         simp[P,aM,bX,bE,bF,<-G];refine xY p.ay aA.idsZ aA.len bd bU fun W al=>?_
         have b5:W[0]?=some (.q 5 (ck s)):=by rw[al.2 0 (aY bq)];exact bq
         have aL:W[1]?=some (.q 2 [.af,.af]):=by rw[al.2 1 (aY bs)];exact bs
         have b7:W[2]?=some (.q 2 [ai g.idsZ,bB g.opsZ]):=by rw[al.2 2 (aY aM)];exact aM
         have bH:(p.ay.l.any fun O=>!decide (O∈(gJ s.aD i).l))=!hY (s.aD.l.take i) p.ay.l:=by
          rw[lV,xi,sP,sN];unfold hY;rw[decide_eq_false_iff_not];constructor
          ·rintro⟨O,aB,az⟩ h;have:=h O aB;simp[this] at az
          ·intro h;refine Classical.byContradiction fun m=>h fun O aB=>Classical.byContradiction fun az=>m ⟨O,aB,by simp[az]⟩
         rw[bH];cases a0:hY (s.aD.l.take i) p.ay.l with
         | true=>
          rw[a0] at t;simp[bA];refine⟨z,b5,aL,b7,fun o ap=>?_⟩;by_cases bY:o=i
          ·rw[bY,t];rfl
          ·exact bc o F
         | false=>
          rw[a0] at t;rw[ak i z (by rw[t];rfl)];have b8:∀ c:am,(W.set 1 c)[1]?=some c:=fun c=>bT (aY aL)
          simp[aL,b8,aw];exact aG
       ·rw[cp J,q8] at t;rw[ak i z t];simp[J,bz,aw];exact aG
      ·have I:i=s.aD.l.length:=F;subst I;rw[bJ fun o ap=>bc o ap];have bu:∀ c:am,(l.set 1 c)[1]?=some c:=fun c=>bT (aY q1)
       simp[aK,q1,bu,aw];exact aR rfl (by have h1:=bV g.idsZ;have w:=iM g.opsZ;simp[U.ax,ar,h1,w])
     ·have m:¬ iq s:=fun h=>by have:=h.le;rw[aC] at this;exact Z F
      have bC:¬ (s.aD.l.length:Int)=g.idsZ.l.length:=F;rw[uu m];simp[aw,u,H,ag,aj,h1,w,Y,bi,bh,bC];exact aG
 ·have m:¬ iq s:=fun h=>C h.a2
  rw[q3 C] at B;rw[uu m];simp[u,a3];refine av B (by simp[ar,U.ax,a4]) ?_;simp[aw];exact aG
theorem Dy (s:eR) (m:lm s) :aV 63 [.ah (ck s)] (.i6 (fy s)):=by apply a8 func63 [];have o:(ck s).length=5:=rfl;have j:(ck s).take 5=ck s:=rfl;have h:=mi s;have g:=VL s m;have p:pC s=.aZ [.ah [ai (sj s).idsZ,bB (sj s).opsZ],.i6 (fy s)]:=rfl;rw[p] at g;have q:=hd (sj s).idsZ;have t:=oU (sj s).opsZ;simp[o,j];refine av g (by simp[ar,U.ax,h]) ?_;simp[aw];exact aG
theorem VM (s:eR) (g:lm s) (p:fy s=0) (n:Nat) (B:n<=s.aD.l.length) :aV 34 [.ah (ck s),.i6 n] (.aZ [ai (la s.aD n),.i6 0]):=by
 apply a8 func34 [];have m:(ck s).length=5:=rfl;have u:(ck s).take 5=ck s:=rfl;have H:(ck s)[4]?=some (ai s.aD):=rfl;have q:∀ h,(ck s)[4]'h=ai s.aD:=fun _=>rfl
 have t:=mi s;have I:=g.no;have C:=Dy s g;have z:bt (.ad 32) (ai s.aD)=_:=ca _;have w:dB (.ad 32) (ai s.aD) (some (.i6 (n:Int))) none none=some (ai (la s.aD n)):=Ld B;have v:=kT (la s.aD n) (fun x o=>g.aD x (by rw[sq] at o;exact sT o)) (by rw[sq,iX];omega);have j:=bV (la s.aD n);have D:¬ (n:Int)<0:=F;have G:¬ (s.aD.l.length:Int)<(n:Int):=F;have J:¬ s.aD.l.length<n:=F;simp[m,u];refine av C (by simp[ar,U.ax,t]) ?_;simp[p,m,q,z,D,G,w];refine av v (by simp[ar,j]) ?_;simp;exact aR rfl (by simp[U.ax,ar,j])
structure MN where
 BE:Int
 idsZ:bP
 aaH:Bool
structure Yl (d:MN) :Prop where
 idsZ:cU d.idsZ
 abn:d.idsZ.l.length<=1000
end Op
end Go.bf
namespace Go.bf
open Go Go.Proofs Go.Proofs.Tryz Go.RowKit
namespace Op
open b8
structure xH (g:aW) :Prop where
 idsZ:cU g.idsZ
 opsZ:∀ o∈g.opsZ.l,vc o
theorem Tp {g:aW} (h:xH g) (j:o8 g=false) :e4 g:=by
 unfold o8 at j;simp only[pR,decide_eq_false_iff_not] at j;obtain⟨h1,u,v,w⟩:=j;refine⟨h.idsZ,fun o q=>?_,F,F⟩;have p:¬ o9 o=true:=fun t=>h1 ⟨o,by rw[aI F];exact q,t⟩
 unfold o9 at p;simp only[q9,bI,not_or] at p;have m:=h.opsZ o q;exact⟨m.idsZ,F,⟨m.hy,m.qy,F⟩,F⟩
theorem Xe {ts:List aC} {cs:ag} (h:cW prog (70::ts) cs) :∃ (g:aW) (cs' : ag),cs=bb g++cs'/\xH g/\cW prog ts cs':=by
 have m:=nv (fs:=[23,68]) bd h;obtain⟨i,_,rfl,q,o⟩:=w5 m;obtain⟨s,_,rfl,_,t,p⟩:=w6 (e:=55) (z:=11) (enc:=au) (Q:=vc) bd bd (fun r u=>by
  obtain⟨x,_,rfl,v,j⟩:=D8 u;rw[sv j,eb];exact⟨x,rfl,v⟩) o
 exact⟨⟨i,s⟩,_,rfl,⟨q,t⟩,p⟩
structure E4 (s:eR) :Prop where
 al:∀ p∈s.a2.al.l,xH p
 ce:cU s.a2.ce
 aD:cU s.aD
theorem Tu {s:eR} (h:E4 s) (j:rP s=false) :lm s:=by unfold rP mn at j;simp only[pR,decide_eq_false_iff_not] at j;obtain⟨⟨h1,q,t⟩,u⟩:=j;refine⟨⟨fun o m=>?_,F,h.ce,F⟩,h.aD,F⟩;have g:=Af.1 h1 o (by rw[aI F];exact m);unfold oQ at g;simp only[q9,bI,not_or] at g;obtain⟨v,w,p⟩:=g;exact⟨Tp (h.al o m) (by simpa using p),F,F⟩
end Op
end Go.bf
namespace Go.bf
open Go Go.Proofs Go.Proofs.Tryz
namespace Op
open b8
theorem Q2 (v f:U) (l:ae) {K:cv} (o:K (.aZ []) l) :cG 235 [v,.i6 0,.i6 0,f] l K:=by
 apply cR func235 [];have p:IntKind.i64.wrap 1=1:=by decide
 simp;refine bw 0 (fun _ g h=>h=l/\g 2=.i6 0/\g 8=.i6 1) ?_ ⟨rfl,V,by simp[p]⟩;rintro k g h hk ⟨rfl,j,m⟩;simp[j,m];exact o
theorem TU (v f:U) (n:Int) (l:ae) {K:cv} (q:K (.aZ []) l) :cG 200 [v,.i6 0,.i6 0,.i6 n,f] l K:=by
 apply cR func200 [];have t:IntKind.i64.wrap 0=0:=by decide
 simp;refine bw 0 (fun _ g h=>h=l/\g 0=v/\g 1=.i6 0/\g 2=.i6 0/\g 4=f) ?_ ⟨rfl,V,V,V,V⟩;rintro k g h hk ⟨rfl,j,m,o,p⟩;simp[j,m,o,p,t];refine Q2 v f h ?_;simp;exact q
theorem TJ {z:Nat} {l:ae} {v:U} {j:Nat} {es:List (ag)} (h:aJ z l v j es) {i:Nat} {e:ag} (g:es[i]?=some e) :
  ∃ n cap sz cs,v=.ad z j 0 n cap sz/\l[j]?=some (.q sz cs)/\es.length=n/\cs.length=sz/\i<n/\i*z+z<=sz/\(cs.drop (i*z)).take z=e:=by
 cases h with
 | nil j=>cases g
 | ad j n cap sz cs es o u w B p D t=>
  have G:i<es.length:=(aH.1 g).1;have h1:(i+1)*z<=n*z:=cj _ F;have C:n*z<=cap*z:=cj _ p;rw[ec] at h1;refine⟨n,cap,sz,cs,rfl,o,w,u,F,F,?_⟩;have m:=G6 B g;rw[<-t,ra,mQ,iF F] at m;exact m
theorem Wi (v f:U) (j:bt (.ad 32) v=some (.i6 0)) (l:ae) {K:cv} (g:K (.aZ []) l) :cG 136 [v,f] l K:=by
 apply cR func136 [];have h:aV 201 [cX 0] (.i6 (hN (0:Q).toNat)):=by
  apply a8 func201 [];have h:=H6 0;simp;refine av h rfl ?_;simp;exact aG
 simp[j];refine av h rfl ?_;simp;refine TU v f _ l ?_;simp;exact g
theorem TL {z:Nat} {l l1:ae} {v:U} {j:Nat} {es:List (ag)} (h:aJ z l v j es) (g:hV l l1) :aJ z l1 v j es:=by
 refine h.cY ?_;rcases h.lt with e | e
 ·exact .inl e
 ·exact .inr (g.2 j e)
structure E3 (g:aW) (D:aN) :Prop where
 kZ:D.Nodup
 sub:∀ x∈D,x∈g.idsZ.l
 pre:∀ (i:Nat) (x:List B) (j:Nat),D[i]?=some x->g.idsZ.l[j]?=some x->∀ q∈dE g.opsZ.l j,q∈D.take i
theorem Lk {g:aW} (u:u9 g) {l:aN} (h:jI g l=true) :E3 g l:=by
 unfold jI at h;rw[bI] at h;have t:∀ (i:Nat) (x:List B),l[i]?=some x->x∈g.idsZ.l/\x∉l.take i/\hY (l.take i) (dE g.opsZ.l (c8 x g.idsZ.l 0).toNat)=true:=fun i x j=>by
  have:=h i (aH.1 j).1;unfold hj at this;rw[dx j] at this;simpa [bN] using this
 refine⟨?_,fun x z=>?_,fun i x p j o q w=>?_⟩
 ·refine kD.2 fun i p j o v e=>?_
  have h1:=(t p l[p] (bC o)).2.1;exact h1 (cc.2 ⟨i,by rw[dG v,bC j,e]⟩)
 ·obtain⟨i,j⟩:=cc.1 z;exact (t i x j).1
 ·have m:=(t i x j).2.2;rw[tH (mq u.bQ) o,fb] at m;unfold hY at m;exact io m q w
theorem K8 {alZ:Type} [DecidableEq alZ] :∀ {a b:List alZ},a.Nodup->(∀ x∈a,x∈b)->a.length<=b.length
 | [],_,_,_=>ek _
 | x::a,b,o,h=>by
  obtain⟨h1,j⟩:=uV.1 o;have m:∀ y∈a,y∈b.erase x:=fun y g=>(ED (fun e=>h1 (by rw[<-e];exact g))).2 (h y (Al _ g))
  have p:=K8 j m;have q:=EA (h x V);have t:=EB (h x V);simp only[du];omega
def lF (o:aM) :Bool:=decide (40<o.ay.l.length)||(decide (100<o.act.key.length)||decide (100<o.act.val.text.length))
theorem JL (o:aM) :aV 43 [.ah (au o)] (.bool (lF o)):=by
 apply a8 func43 [];unfold lF;have j:bt (.ad 32) (ai o.ay)=_:=ca _;by_cases h1:40<o.ay.l.length
 ·have g:(40:Int)<(o.ay.l.length:Int):=F;simp[au,j,h1,g];exact aR V rfl
 ·have g:¬ (40:Int)<(o.ay.l.length:Int):=F;by_cases m:100<o.act.key.length
  ·have h:(100:Int)<(o.act.key.length:Int):=F;simp[au,j,h1,g,m,h];exact aR V rfl
  ·have h:¬ (100:Int)<(o.act.key.length:Int):=F;have p:((100:Int)<(o.act.val.text.length:Int))<->100<o.act.val.text.length:=F;simp[au,j,h1,g,m,h,p];exact aR V rfl
theorem I8 (a b:List B) (g:a.length=32) (h:b.length=32) :aV 137 [.ah (ao a),.ah (ao b)] (.i6 (bD a b)):=by
 apply a8 func137 [];have o:=uv (n:=32) (b:=1) F;have p:=uv (n:=32) (b:=0) F;simp[ao,g,h,o,p];have m:=Fw (some a) (some b) (by simp[g,h]);refine g0 m ?_ rfl ?_
 ·exact .cons ((k2 (j:=0) g rfl).lP (fun _=>rfl) (some a) rfl rfl) (.cons ((k2 (j:=1) h rfl).lP (fun _=>rfl) (some b) rfl rfl) .nil)
 ·simp;exact aG
def eO (o:aM) (m:aN) :Bool:=decide (0<m.length)&&(bQ m&&m.all fun x=>decide (x∈o.ay.l))
theorem Kf {l:aN} (h:bQ l=true) {k:Nat} (hk:k+1<l.length) :bD (bn l k) (bn l (k+1))<0:=(io h) (k+1) hk F
structure MZ (o:aM) (m:bP) (k:Nat) (sgZ:aP) (l:ae) :Prop where
 n3:∃ r,l=.q 11 (au o) ::r
 e7:sgZ 1=ai m
 h0:sgZ 2=.ptr 0 0 11
 yl:sgZ 7=ai m
 m8:sgZ 8=.i6 m.l.length
 BH:sgZ 9=.i6 k
 jC:∀ j,j<k->(1<=j->bD (bn m.l (j - 1)) (bn m.l j)<0)/\bn m.l j∈o.ay.l
theorem LS (o:aM) (aj:dv o) (m:bP) (u:cU m) (aP:m.l.length<=1000000) :aV 98 [.ah (au o),ai m] (.bool (eO o m.l)):=by
 apply a8 func98 [];have Z:bt (.ad 32) (ai m)=_:=ca _;have X:=bV o.ay;simp[Z];refine bw m.l.length (MZ o m) ?_ ⟨⟨_,rfl⟩,V,by simp[au],V,V,V,fun g h=>F⟩;rintro k aK l hk ⟨⟨r,rfl⟩,O,P,Q,R,S,I⟩;obtain⟨aK,rfl⟩:=gk O P Q R S;clear O P Q R S;simp;refine gq (fun h=>?_) (fun h=>?_)
 ·simp only[bI] at h;obtain⟨y,ak,K⟩:=aQ (l:=m.l) (k:=k) F;have v:=br (u y K);have aO:=cl (k:=k) F;have t:bF (.ad 32) (ai m) _=_:=c6 ak;have J:aw (bO 32 (.int .u8 0)) 0 (ao y)=ao y:=cH (by rw[v];rfl);have G:=pK o.ay aj.idsZ aj.len y (u y K);have B:=cP y;have w:bn m.l k=y:=dx ak;have C:∀ (g:Nat),g<m.l.length->¬ ((1<=g->bD (bn m.l (g - 1)) (bn m.l g)<0)/\bn m.l g∈o.ay.l)->eO o m.l=false:=fun g p aE=>by
   unfold eO;cases h1:bQ m.l with
   | false=>simp
   | true=>
    cases q:(m.l.all fun x=>decide (x∈o.ay.l)) with
    | false=>simp
    | true=>
     exact bK ⟨fun h=>(io h1) g p h,io (fW.1 q _ (vS p))⟩ aE
  obtain⟨aL,T⟩:=aq (ao y);rw[<-T] at v t J G B;have ag:y∈o.ay.l->(1<=k->bD (bn m.l (k - 1)) y<0)->∀ g,g<k+1->(1<=g->bD (bn m.l (g - 1)) (bn m.l g)<0)/\bn m.l g∈o.ay.l:=fun h1 q g p=>by
   by_cases aC:g=k
   ·subst aC;rw[w];exact⟨q,h1⟩
   ·exact I g F
  rcases k with _ | k
  ·simp at t;simp[au,t,v,J,aI];refine av G (by simp[ar,U.ax,X,B]) ?_;by_cases j:y∈o.ay.l
   ·simp[j];exact⟨F,⟨_,rfl⟩,V,V,V,V,by simp;rw[IntKind.wrap_i64];omega,ag j (fun h=>F)⟩
   ·have:=C 0 F (fun h=>j (by rw[<-w];exact h.2));simp[j];exact aR (by rw[this]) rfl
  ·obtain⟨z,al,az⟩:=aQ (l:=m.l) (k:=k) F;have ap:=br (u z az);have am:=cP z;have W:bn m.l k=z:=dx al;have aA:IntKind.i64.wrap (k:Int)=(k:Int):=by rw[IntKind.wrap_i64];omega
   have aG:(0:Int)<(k:Int)+1:=F;have Y:bF (.ad 32) (ai m) _=_:=c6 al;have D:=I8 z y (u z az) (u y K);obtain⟨aN,aB⟩:=aq (ao z);rw[<-aB] at Y ap am D;rw[<-T] at D;simp at t;simp[aG,t,Y,aA,v,ap,J,aI];refine av D (by simp[ar,U.ax,am,B]) ?_;by_cases ae:bD z y<0
   ·have H:¬ (0:Int)<=bD z y:=F;simp[H,au,v,aI];refine av G (by simp[ar,U.ax,X,B]) ?_;by_cases j:y∈o.ay.l
    ·simp[j];exact⟨F,⟨_,rfl⟩,V,V,V,V,by simp;rw[IntKind.wrap_i64];omega,ag j (fun h=>by rw[sX,W];exact ae)⟩
    ·have:=C (k+1) F (fun h=>j (by rw[<-w];exact h.2));simp[j];exact aR (by rw[this]) rfl
   ·have H:(0:Int)<=bD z y:=F;have:=C (k+1) F (fun h=>ae (by have:=h.1 F;rw[w,sX,W] at this;exact this));simp[H];exact aR (by rw[this]) rfl
 ·simp[h,Z];have aD:k=m.l.length:=by simp at h;omega
  refine aR (cm U.bool ?_) rfl;have h1:bQ m.l=true:=um fun g p h1=>(I g F).1 h1
  have q:(m.l.all fun x=>decide (x∈o.ay.l))=true:=fW.2 fun x aJ=>by
   obtain⟨g,p⟩:=cc.1 aJ;have:=(I g (by rw[aD];exact (aH.1 p).1)).2;rw[dx p] at this;exact bW this
  unfold eO;rw[h1,q];simp
structure mS (j:Nat) (l l' : ae) :Prop where
 le:l.length<=l'.length
 same:∀ b,b<l.length->b≠j->l'[b]?=l[b]?
def u2 (g:cb) (cap:ag) (j:Nat) (l0:ae) (xs:aN) (p:List B->Bool) :Prop:=
 ∀ x∈xs,∀ l,mS j l0 l->∀ m:cv,(∀ h,l.length<=h.length->(∀ b,b<l.length->h[b]?=l[b]?)->m (.bool (p x)) h)->cG g ([]++[.ah (ao x)]++cap) l m
structure MR (l0:ae) (v:U) (g:cb) (cap:ag) (xs:aN) (p:List B->Bool) (k:Nat) (sgZ:aP) (l:ae) :Prop where
 kS:sgZ 0=v
 e7:sgZ 1=.fn g [] cap
 yl:sgZ 7=.i6 xs.length
 m8:sgZ 8=.i6 k
 jC:∀ (j:Nat) (z:List B),j<k->xs[j]?=some z->p z=false
 le:l0.length<=l.length
 same:∀ b,b<l0.length->l[b]?=l0[b]?
theorem QY {g:cb} {cap:ag} {j:Nat} {l:ae} {v:U} {xs:aN} {p:List B->Bool} (al:fI prog g=true) (T:aJ 32 l v j (xs.map ao)) (m:(∀ x∈xs,x.length=32)) (ax:xs.length<=1000000) (au:u2 g cap j l xs p)
  {K:cv} (Q:∀ n l',(n=-1/\(∀ z∈xs,p z=false)\/∃ k:Nat,n=(k:Int)/\k<xs.length/\(∀ (i:Nat) (z:List B),i<k->xs[i]?=some z->p z=false)/\∀ y,xs[k]?=some y->p y=true)->l.length<=l'.length->(∀ b,b<l.length->l'[b]?=l[b]?)->K (.i6 n) l') :
  cG 139 [v,.fn g [] cap] l K:=by
 apply cR func139 [];have S:=T.len;rw[cC] at S;simp[S];refine bw xs.length (MR l v g cap xs p) ?_ ⟨V,V,V,V,fun j z h=>F,aF _,fun _ _=>rfl⟩;rintro k aw X hk ⟨G,H,I,J,C,R,u⟩;obtain⟨aw,rfl⟩:=e2 G H I J;clear G H I J;simp;refine gq (fun h=>?_) (fun h=>?_)
 ·simp only[bI] at h;obtain⟨y,D,av⟩:=aQ (l:=xs) (k:=k) F;have ak:=cl (k:=k) F;have ar:aJ 32 X v j (xs.map ao):=T.frame fun ap=>u j ap
  obtain⟨q,cs,az,Y,Z,ai,aj⟩:=ar.q.get (k:=.i64) (i:=k) (e:=ao y) (by rw[bX,D];rfl);simp[Y,Z,ai,aj];refine⟨al,?_⟩;have:=au y av X ⟨R,fun b o _=>u b o⟩;simp at this;refine this _ fun ay h1 O=>?_
  cases P:p y with
  | true=>
   simp;refine Q _ _ (.inr ⟨k,rfl,h,fun i z t m=>C i z t m,fun w W=>?_⟩) F (fun b o=>by rw[O b F];exact u b o);rw[D] at W;obtain rfl:=cd W;exact P
  | false=>
   simp[ak];refine⟨F,V,V,V,V,fun i z t m=>?_,F,fun b o=>by rw[O b F];exact u b o⟩;by_cases am:i=k
   ·rw[am,D] at m;obtain rfl:=cd m;exact P
   ·exact C i z F m
 ·simp[h];have aq:k=xs.length:=by simp at h;omega
  refine Q _ _ (.inl ⟨rfl,fun z m=>?_⟩) R u;obtain⟨i,t⟩:=cc.1 m;exact C i z (by rw[aq];exact (aH.1 t).1) t
structure MM (l0:ae) (v:U) (g:cb) (cap:ag) (j:Nat) (xs:aN) (p:List B->Bool) (k:Nat) (sgZ:aP) (l:ae) :Prop where
 kS:sgZ 0=v
 e7:sgZ 1=.fn g [] cap
 lz:sgZ 6=.i6 k
 QO:mS j l0 l
 ex:∃ (q:Nat) (h:aN),sgZ 5=.i6 (q:Int)/\aJ 32 l v j (h.map ao)/\h.length=xs.length/\(∀ x∈h,x.length=32)/\h.take q=(xs.take k).filter (fun t=>!p t)/\q<k/\∀ t,k<=t->h[t]?=xs[t]?
theorem GX {p:List B->Bool} {l:aN} (h:∀ z∈l,p z=false) :l.filter (fun t=>!p t)=l:=by rw[rb];intro a g;rw[h a g];rfl
theorem P7 {p:List B->Bool} {l:aN} {k:Nat} (h:∀ (i:Nat) (z:List B),i<k->l[i]?=some z->p z=false) :(l.take k).filter (fun t=>!p t)=l.take k:=by
 refine GX fun z m=>?_
 obtain⟨i,g⟩:=cc.1 m;have j:=(aH.1 g).1;rw[cI] at j;rw[dG F] at g;exact h i z F g
theorem P5 {p:List B->Bool} {l:aN} {k:Nat} {y:List B} (h:l[k]?=some y) :(l.take (k+1)).filter (fun t=>!p t)=(l.take k).filter (fun t=>!p t)++(if p y then [] else [y]):=by rw[eD,h,kB];cases g:p y<;>simp[g]
theorem Gx {g:cb} {cap:ag} {j:Nat} {l:ae} {v:U} {xs:aN} {p:List B->Bool} (aP:fI prog g=true) (H:aJ 32 l v j (xs.map ao)) (ay:(∀ x∈xs,x.length=32)) (bk:xs.length<=1000000) (aT:u2 g cap j l xs p)
  {K:cv} (aO:∀ r l',aJ 32 l' r j ((xs.filter fun t=>!p t).map ao)->mS j l l'->bq r=bq v->(r=v\/∃ q:Nat,dB (.ad 32) v none (some (.i6 (q:Int))) none=some r)->K r l') :
  cG 140 [v,.fn g [] cap] l K:=by
 apply cR func140 [];have bg:=H.len;rw[cC] at bg;simp;refine QY aP H ay bk aT fun n bu bc aR T=>?_
 rcases bc with ⟨rfl,a8⟩ | ⟨w,rfl,ap,bh,a9⟩
 ·simp;refine aO _ _ ?_ ⟨aR,fun b m _=>T b m⟩ rfl (.inl rfl);rw[GX a8];exact H.frame fun G=>T j G
 ·have bl:¬ ((w:Int)=-1):=F;have a5:=cl (k:=w) F;have bn:aJ 32 bu v j (xs.map ao):=H.frame fun G=>T j G
  have bs:bq v=false:=by
   cases bm:bq v with
   | false=>rfl
   | true=>
    have:=go.1 bm;subst this;have:=H.q.pn;rw[nD] at this;rw[this] at ap;simp at ap
  simp[bl,a5];refine bw (xs.length - (w+1)) (fun W=>MM l v g cap j xs p (w+1+W)) ?_ ⟨V,V,V,⟨aR,fun b m _=>T b m⟩,w,xs,V,bn,rfl,ay,?_,F,fun _ _=>rfl⟩
  ·rintro W bv P bB ⟨aG,aH,Z,u,q,C,aK,R,av,ax,J,bo,S⟩;obtain⟨k,hk⟩:=aq (w+1+W);rw[show w+1+(W+1)=k+1 by omega];rw[<-hk] at Z J bo S;obtain⟨bv,rfl⟩:=e2 aG aH aK Z;clear aG aH aK Z;have ar:=R.len;rw[cC,av] at ar;by_cases bi:k<xs.length
   ·have au:(k:Int)<(xs.length:Int):=F;obtain⟨y,O,a0⟩:=aQ (l:=xs) (k:=k) bi;have aY:=ay y a0;have D:=br aY;have aX:aw (bO 32 (.int .u8 0)) 0 (ao y)=ao y:=cH (by rw[D];rfl);have aE:=cl (k:=k) F;have a6:=cl (k:=q) F;have bt:C[k]?=some y:=by rw[S k (aF _)];exact O
    obtain⟨bH,cs,bF,a2,a3,a4,aD⟩:=R.q.get (k:=.i64) (i:=k) (e:=ao y) (by rw[bX,bt];rfl);have bd:mS j l (P++[am.q 32 (ao y)]):=⟨by have:=u.le;simp;omega,fun b m o=>by rw[aS (by have:=u.le;omega)];exact u.same b m o⟩
    have ai:=aT y a0 _ bd;have Q:=P5 (p:=p) O;have aW:=fun (iy:ae) (h:aJ 32 iy v j (C.map ao))=>y6 (X:=.ah (ao y)) rfl h (fun t I=>br (ax t I)) (k:=q) (x:=y) F D
    simp at ai;obtain⟨a1,a7⟩:=aq (ao y);rw[<-a7] at D aX aD ai aW;simp[ar,au,a2,a3,a4,aD,D,aX,aI];refine⟨aP,?_⟩;refine ai _ fun iy h1 aL=>?_
    have bA:P.length<iy.length:=F;have aV:∀ b,b<P.length->iy[b]?=P[b]?:=fun b m=>by rw[aL b F,aS m]
    have aU:aJ 32 iy v j (C.map ao):=R.frame fun G=>aV j G
    have bb:iy[P.length]?=some (.q 32 a1):=by rw[aL _ V];simp
    have al:mS j l iy:=⟨by have:=u.le;omega,fun b m o=>by rw[aV b (by have:=u.le;omega)];exact u.same b m o⟩
    cases aM:p y with
    | true=>
     rw[aM,aj rfl,eb] at Q;simp[aE];refine⟨F,V,V,V,al,q,C,V,aU,av,ax,by rw[Q];exact J,F,fun t I=>S t F⟩
    | false=>
     rw[aM,ak V] at Q;obtain⟨bG,bE,az,aA,Y,aB,aC⟩:=aW iy aU;simp[bb,D,az,aA,aE,a6,aI];refine⟨F,V,V,V,⟨by have:=al.le;omega,fun b m o=>by rw[aC b o];exact al.same b m o⟩,q+1,C.set q y,V,Y,by simp[av],fun t I=>?_,?_,F,fun t I=>?_⟩
     ·rcases nE I with h | h
      ·exact ax _ h
      ·rw[h];exact aY
     ·have bx:(C.take q).length=q:=by rw[cI];omega
      rw[re,aj F,pU,bx,aI F,show q+1 - q=1 by omega,Q,<-J];simp
     ·rw[bp F];exact S t F
   ·have au:¬ (k:Int)<(xs.length:Int):=F;have bf:k=xs.length:=F;obtain⟨bI,bC,r,az,aA,Y,aB,aC,bJ,bz⟩:=I2 (z:=32) (zr:=bO 32 (.int .u8 0)) rfl R (k:=q) F;simp[ar,au,az,aA,Y];rw[bf,fl] at J;rw[J] at aB;exact aO _ _ aB ⟨by have:=u.le;omega,fun b m o=>by rw[bz b o];exact u.same b m o⟩ (by rw[aC,bs]) (.inr ⟨q,Y⟩)
  ·rw[eD,kB,P7 bh];obtain⟨y,O,_⟩:=aQ (l:=xs) (k:=w) ap;have:=a9 y O;rw[O];simp[this]
theorem Gw {g:cb} {cap:ag} {j:Nat} {l:ae} {v:U} {xs:aN} {p:List B->Bool} (q:fI prog g=true) (w:aJ 32 l v j (xs.map ao)) (C:(∀ x∈xs,x.length=32)) (u:xs.length<=1000000) (z:u2 g cap j l xs p)
  {K:cv} (o:∀ r l',aJ 32 l' r j ((xs.filter fun t=>!p t).map ao)->mS j l l'->bq r=bq v->K r l') :
  cG 140 [v,.fn g [] cap] l K:=Gx q w C u z fun r l' h1 h m _=>o r l' h1 h m
theorem ys {l:aN} (h:bQ l=true) {x:List B} (g:x∉l) :bQ (c9 l (er l x) x)=true:=by have:=HG h x;unfold jb at this;rw[ak (fun e=>g (cz e))] at this;exact this
theorem Q5 {alZ g:Type} {a:List alZ} {b:List g} (h:a.length=b.length) (k:Nat) (x:alZ) (y:g) :(c9 a k x).zip (c9 b k y)=c9 (a.zip b) k (x,y):=by unfold c9;rw[List.zip_append (by rw[cI,cI,h]),List.zip_cons_cons];rw[EK,EK,EK,List.take_zipWith,List.drop_zipWith]
structure u6 (g h:aW) (x:List B) (o:aM) :Prop where
 len:h.idsZ.l.length=h.opsZ.l.length
 n60:h.opsZ.l.length<=60
 bQ:bQ h.idsZ.l=true
 mem:∀ (y:List B) (q:aM),(∃ k:Nat,h.idsZ.l[k]?=some y/\h.opsZ.l[k]?=some q)<->((y=x/\q=o)\/∃ j:Nat,g.idsZ.l[j]?=some y/\g.opsZ.l[j]?=some q)
theorem u6.idsZ {g j:aW} {x:List B} {o:aM} (M:u6 g j x o) (u:g.idsZ.l.length=g.opsZ.l.length) (y:List B) :y∈j.idsZ.l<->y=x\/y∈g.idsZ.l:=by
 have h1:=M.len;constructor
 ·intro h;obtain⟨k,hk⟩:=cc.1 h;obtain⟨q,m,_⟩:=aQ (l:=j.opsZ.l) (k:=k) (by have:=(aH.1 hk).1;omega);rcases (M.mem y q).1 ⟨k,hk,m⟩ with ⟨a,_⟩ | ⟨p,a,_⟩
  ·exact .inl a
  ·exact .inr (cz a)
 ·intro h;rcases h with rfl | h
  ·obtain⟨k,hk,_⟩:=(M.mem y o).2 (.inl ⟨rfl,rfl⟩);exact cz hk
  ·obtain⟨p,t⟩:=cc.1 h;obtain⟨q,m,_⟩:=aQ (l:=g.opsZ.l) (k:=p) (by have:=(aH.1 t).1;omega);obtain⟨k,hk,_⟩:=(M.mem y q).2 (.inr ⟨p,t,m⟩);exact cz hk
theorem SA {g j:aW} {x:List B} {o:aM} (T:e5 g=0) (M:u6 g j x o) (ao:x∉g.idsZ.l) (Z:fk o=0) (V:bJ o=x) (I:∀ p∈o.ay.l,p∈g.idsZ.l) :e5 j=0:=by
 have w:=k1 T;have R:=M.len;have G:=M.idsZ w.len;have al:=mq w.bQ;have W:∀ i,l9 g.idsZ.l g.opsZ.l i->∀ y q,g.idsZ.l[i]?=some y->g.opsZ.l[i]?=some q->∀ k:Nat,j.idsZ.l[k]?=some y->l9 j.idsZ.l j.opsZ.l k:=by
  intro i U
  induction U with
  | mk i am J X S=>
   intro y q t u k hk;have Q:j.opsZ.l[k]?=some q:=by
    obtain⟨ag,D,z⟩:=(M.mem y q).2 (.inr ⟨i,t,u⟩);rw[Dl M.bQ hk D];exact z
   rw[lM u] at J X S;refine .mk k (aH.1 hk).1 (fun p m=>(G p).2 (.inr (J p (by rw[lM Q] at m;exact m)))) fun p m O K=>?_
   rw[lM Q] at m;obtain⟨v,C⟩:=cc.1 (J p m);obtain⟨r,H,_⟩:=aQ (l:=g.opsZ.l) (k:=v) (by have:=(aH.1 C).1;have:=w.len;omega);exact S p m v C p r C H O K
 have P:∀ (k:Nat) (y:List B),j.idsZ.l[k]?=some y->y∈g.idsZ.l->l9 j.idsZ.l j.opsZ.l k:=fun k y hk t=>by
  obtain⟨v,C⟩:=cc.1 t;obtain⟨r,H,_⟩:=aQ (l:=g.opsZ.l) (k:=v) (by have:=(aH.1 C).1;have:=w.len;omega);exact W v (w.all v (aH.1 H).1) y r C H k hk
 have Y:jl j.idsZ.l j.opsZ.l=0:=by
  unfold jl;rw[aj M.bQ,aj,aj]
  ·refine (CG R (mq M.bQ)).2 fun i ai=>?_
   obtain⟨y,t,ae⟩:=aQ (l:=j.idsZ.l) (k:=i) F;rcases (G y).1 ae with rfl | h
   ·have u:j.opsZ.l[i]?=some o:=by
     obtain⟨ag,D,z⟩:=(M.mem y o).2 (.inl ⟨rfl,rfl⟩);rw[Dl M.bQ t D];exact z
    refine .mk i (aH.1 t).1 (fun p m=>(G p).2 (.inr (I p (by rw[lM u] at m;exact m)))) fun p m O K=>?_
    rw[lM u] at m;exact P O p K (I p m)
   ·exact P i y t h
  ·unfold pr hY;rw[bI];intro q u;rw[bI];intro p m;obtain⟨k,hk⟩:=cc.1 u;obtain⟨y,t,_⟩:=aQ (l:=j.idsZ.l) (k:=k) (by have:=(aH.1 hk).1;omega);refine (G p).2 ?_;rcases (M.mem y q).1 ⟨k,t,hk⟩ with ⟨_,rfl⟩ | ⟨v,_,z⟩
   ·exact .inr (I p m)
   ·exact .inr (w.CC q (cz z) p m)
 unfold e5;rw[ak (by have:=M.n60;omega),aj R,aj,Y];rw[rM];intro k hk;obtain⟨q,u,_⟩:=aQ hk;obtain⟨y,t,_⟩:=aQ (l:=j.idsZ.l) (k:=k) F;have:fk q=0/\bJ q=y:=by
  rcases (M.mem y q).1 ⟨k,t,u⟩ with ⟨rfl,rfl⟩ | ⟨v,D,z⟩
  ·exact⟨Z,V⟩
  ·exact w.Ho v q y z D
 rw[vL u t,bW this.1,bW this.2];rfl
theorem BN {g:aW} (t:g.idsZ.l.length=g.opsZ.l.length) (y:List B) :y∈eM g<->y∈g.idsZ.l/\∀ q∈g.opsZ.l,y∉q.ay.l:=by
 unfold eM h2 ly;rw[c7,bI];refine and_congr Iff.rfl ⟨fun h q m=>?_,fun h o j=>?_⟩
 ·obtain⟨o,j⟩:=cc.1 m;have:=h o (aH.1 j).1;rw[nk j] at this;exact this
 ·obtain⟨q,m,p⟩:=aQ j;rw[nk m];exact h q p
theorem BO {g:aW} (h:bQ g.idsZ.l=true) :bQ (eM g)=true:=ub ((oo h).sublist jT)
def rQ (h:aN) (x:List B) (o:aM) :aN:=
 c9 (h.filter fun y=>!decide (y∈o.ay.l)) (er (h.filter fun y=>!decide (y∈o.ay.l)) x) x
theorem SB {g u:aW} {x:List B} {o:aM} (G:e5 g=0) (M:u6 g u x o) (w:x∉g.idsZ.l) (K:∀ p∈o.ay.l,p∈g.idsZ.l) :eM u=rQ (eM g) x o:=by
 have j:=k1 G;have I:=M.idsZ j.len;have H:bQ ((eM g).filter fun y=>!decide (y∈o.ay.l))=true:=ub ((oo (BO j.bQ)).sublist jT);have O:x∉(eM g).filter fun y=>!decide (y∈o.ay.l):=fun h=>w ((BN j.len x).1 (c7.1 h).1).1
 refine DJ (lt:=eN) Ci tO (oo (BO M.bQ)) (oo (ys H O)) fun y=>?_
 unfold rQ;rw[BN M.len,mr,c7,BN j.len,I];have J:(∀ q∈u.opsZ.l,y∉q.ay.l)<->(y∉o.ay.l/\∀ q∈g.opsZ.l,y∉q.ay.l):=by
  constructor
  ·intro h;refine⟨?_,fun q t=>?_⟩
   ·obtain⟨k,_,a⟩:=(M.mem x o).2 (.inl ⟨rfl,rfl⟩);exact h o (cz a)
   ·obtain⟨C,F⟩:=cc.1 t;obtain⟨D,z,_⟩:=aQ (l:=g.idsZ.l) (k:=C) (by have:=(aH.1 F).1;have:=j.len;omega);obtain⟨k,_,a⟩:=(M.mem D q).2 (.inr ⟨C,z,F⟩);exact h q (cz a)
  ·rintro⟨h1,m⟩ q t;obtain⟨k,hk⟩:=cc.1 t;obtain⟨D,z,_⟩:=aQ (l:=u.idsZ.l) (k:=k) (by have:=(aH.1 hk).1;have:=M.len;omega);rcases (M.mem D q).1 ⟨k,z,hk⟩ with ⟨_,rfl⟩ | ⟨C,_,a⟩
   ·exact h1
   ·exact m q (cz a)
 rw[J];simp only[sN,decide_eq_false_iff_not];constructor
 ·rintro⟨h1 | h1,m,v⟩
  ·exact .inl h1
  ·exact .inr ⟨⟨h1,v⟩,m⟩
 ·rintro (rfl | ⟨⟨h1,v⟩,m⟩)
  ·exact⟨.inl rfl,fun h=>w (K y h),fun q t h=>w (j.CC q t y h)⟩
  ·exact⟨.inr h1,m,v⟩
def ib (p:aW) (x:List B) (o:aM) :aW:=⟨some (c9 p.idsZ.l (er p.idsZ.l x) x),some (c9 p.opsZ.l (er p.idsZ.l x) o)⟩
def gy (s:cA) (x:List B) (o:aM) :cA:=⟨some (s.al.l.set (num x s.al.l.length) (ib (df s.al.l (num x s.al.l.length)) x o)),some (rQ s.ce.l x o),s.b6+1⟩
theorem CX (s:cA) (x:List B) (o:aM) :(gy s x o).al.l.length=s.al.l.length:=by show (s.al.l.set _ _).length=_;rw[jU]
theorem zc {p:aW} (h:p.idsZ.l.length=p.opsZ.l.length) {x:List B} {o:aM} (q:List B × aM) :(∃ a:Nat,(ib p x o).idsZ.l[a]?=some q.1/\(ib p x o).opsZ.l[a]?=some q.2)<->(q=(x,o)\/∃ a:Nat,p.idsZ.l[a]?=some q.1/\p.opsZ.l[a]?=some q.2):=by
 have h1:(∃ a:Nat,(ib p x o).idsZ.l[a]?=some q.1/\(ib p x o).opsZ.l[a]?=some q.2)<->q∈(c9 p.idsZ.l (er p.idsZ.l x) x).zip (c9 p.opsZ.l (er p.idsZ.l x) o):=by
  rw[cc];exact exists_congr fun a=>by rw[sR];rfl
 have g:(∃ a:Nat,p.idsZ.l[a]?=some q.1/\p.opsZ.l[a]?=some q.2)<->q∈p.idsZ.l.zip p.opsZ.l:=by
  rw[cc];exact exists_congr fun a=>by rw[sR]
 rw[h1,g,Q5 h,mr]
theorem sC {s:cA} (h:fo s) :nL s.al.l:=⟨fun j g=>(lY.1 h.wf j g).1,fun j g=>(lY.1 h.wf j g).2,yX h.aq⟩
theorem q2 {s:cA}:(b2 (bS s)).idsZ.l=(bS s).map (·.1):=by unfold b2;simp only[dr]
theorem Ei {s:cA}:(b2 (bS s)).opsZ.l=(bS s).map (·.2):=by unfold b2;simp only[dr]
theorem CL {s:cA} (h:fo s) {p:aW} (j:p∈s.al.l) {y:List B} (o:y∈p.idsZ.l) :y∈(b2 (bS s)).idsZ.l:=by have W:=sC h;obtain⟨a,g⟩:=cc.1 o;obtain⟨q,m,_⟩:=aQ (l:=p.opsZ.l) (k:=a) (by have:=(aH.1 g).1;have:=W.len p j;omega);rw[q2];exact cF.2 ⟨(y,q),(sB W _).2 ⟨p,j,a,g,m⟩,rfl⟩
theorem JE {s:cA} (h:fo s) {x:List B} {o:aM} (I:x∉(b2 (bS s)).idsZ.l) :lH (gy s x o).al.l=true/\oA (gy s x o).al.l=true/\nL (gy s x o).al.l:=by
 have W:=sC h;have H:=CX s x o;have v:num x s.al.l.length<s.al.l.length:=by unfold num;exact iG _ (by have:=h.hy;omega)
 obtain⟨p,m,u⟩:=aQ v;have J:x∉p.idsZ.l:=fun G=>I (CL h u G)
 have z:df s.al.l (num x s.al.l.length)=p:=dZ m;have q:=h.aq;unfold lH at q;rw[bI] at q;have D:(gy s x o).al.l=s.al.l.set (num x s.al.l.length) (ib p x o):=by
  show s.al.l.set _ (ib (df s.al.l _) x o)=_;rw[z]
 have w:lH (gy s x o).al.l=true:=by
  unfold lH;rw[bI,H,D];intro i C y j;by_cases e:i=num x s.al.l.length
  ·subst e;rw[dZ (bT v)] at j;rcases mr.1 (show y∈c9 p.idsZ.l _ x from j) with rfl | j
   ·rfl
   ·exact q _ v y (by rw[z];exact j)
  ·obtain⟨r,g,_⟩:=aQ (l:=s.al.l) (k:=i) C;rw[dZ (by rw[bp (fun F=>e F.symm)];exact g)] at j;exact q i C y (by rw[dZ g];exact j)
 have t:oA (gy s x o).al.l=true:=by
  refine lY.2 fun r g=>?_
  rw[D] at g;rcases nE g with g | rfl
  ·exact lY.1 h.wf r g
  ·refine⟨?_,ys (W.bQ p u) J⟩;show (c9 p.idsZ.l _ x).length=(c9 p.opsZ.l _ o).length;rw[jc,jc,W.len p u]
 exact⟨w,t,fun p m=>(lY.1 t p m).1,fun p m=>(lY.1 t p m).2,yX w⟩
theorem L1 {s:cA} (h:fo s) {x:List B} {o:aM} (D:x∉(b2 (bS s)).idsZ.l) :bS (gy s x o)=c9 (bS s) (er (b2 (bS s)).idsZ.l x) (x,o):=by
 have W:=sC h;obtain⟨_,_,v⟩:=JE (o:=o) h D;have G:=k1 h.lu;have C:num x s.al.l.length<s.al.l.length:=by unfold num;exact iG _ (by have:=h.hy;omega)
 obtain⟨m,z,t⟩:=aQ C;have J:(gy s x o).al.l=s.al.l.set (num x s.al.l.length) (ib m x o):=by
  show s.al.l.set _ (ib (df s.al.l _) x o)=_;rw[dZ z]
 refine CW (Ej v) ?_ fun q=>?_
 ·have h1:=oo (ys G.bQ D);have I:c9 (b2 (bS s)).idsZ.l (er (b2 (bS s)).idsZ.l x) x=(c9 (bS s) (er (b2 (bS s)).idsZ.l x) (x,o)).map (·.1):=by
   unfold c9;rw[dk,dh,mP,xq,q2]
  rw[I,nF] at h1;exact h1
 ·rw[sB v,mr,sB W,J];constructor
  ·rintro⟨r,p,a,g,j⟩;rcases nE p with p | rfl
   ·exact .inr ⟨r,p,a,g,j⟩
   ·rcases (zc (W.len m t) q).1 ⟨a,g,j⟩ with h | ⟨a,g,j⟩
    ·exact .inl h
    ·exact .inr ⟨m,t,a,g,j⟩
  ·have w:ib m x o∈s.al.l.set (num x s.al.l.length) (ib m x o):=cc.2 ⟨_,bT C⟩;rintro (rfl | ⟨r,p,a,g,j⟩)
   ·obtain⟨a,b⟩:=(zc (x:=x) (o:=o) (W.len m t) (x,o)).2 (.inl rfl);exact⟨_,w,a,b⟩
   ·obtain⟨F,u⟩:=cc.1 p;by_cases e:F=num x s.al.l.length
    ·subst e;rw[z] at u;obtain rfl:=cd u;obtain⟨a,b⟩:=(zc (x:=x) (o:=o) (W.len m t) q).2 (.inr ⟨a,g,j⟩);exact⟨_,w,a,b⟩
    ·exact⟨r,cc.2 ⟨F,by rw[bp (fun H=>e H.symm)];exact u⟩,a,g,j⟩
theorem It {s:cA} (h:fo s) {x:List B} {o:aM} (t:x∉(b2 (bS s)).idsZ.l) (w:s.b6<60) :u6 (b2 (bS s)) (b2 (bS (gy s x o))) x o:=by
 have g:=k1 h.lu;have C:=h.lc;have e:=L1 (o:=o) h t;have j:(b2 (bS (gy s x o))).idsZ.l=c9 (b2 (bS s)).idsZ.l (er (b2 (bS s)).idsZ.l x) x:=by
  rw[q2,e];unfold c9;rw[dk,dh,mP,xq,q2]
 have m:(b2 (bS (gy s x o))).opsZ.l=c9 (b2 (bS s)).opsZ.l (er (b2 (bS s)).idsZ.l x) o:=by
  rw[Ei,e];unfold c9;rw[dk,dh,mP,xq,Ei]
 have z:(b2 (bS s)).opsZ.l.length=(bS s).length:=by rw[Ei,cC]
 refine⟨by rw[j,m,jc,jc,g.len],by rw[m,jc];omega,by rw[j];exact ys g.bQ t,fun y q=>?_⟩;have:=zc (p:=b2 (bS s)) g.len (x:=x) (o:=o) (y,q);have u:(ib (b2 (bS s)) x o).idsZ.l=(b2 (bS (gy s x o))).idsZ.l:=by rw[j];rfl
 have v:(ib (b2 (bS s)) x o).opsZ.l=(b2 (bS (gy s x o))).opsZ.l:=by rw[m];rfl
 rw[u,v,Prod.mk.injEq] at this;exact this
theorem Ud {s:cA} (h:fo s) {x:List B} {o:aM} (g:x∉(b2 (bS s)).idsZ.l) (t:s.b6<60) (v:fk o=0) (u:bJ o=x) (j:∀ p∈o.ay.l,p∈(b2 (bS s)).idsZ.l) :fo (gy s x o):=by
 have M:=It (o:=o) h g t;obtain⟨m,q,_⟩:=JE (o:=o) h g;refine⟨by rw[CX];exact h.hy,by rw[CX];exact h.tT,m,q,SA h.lu M g v u j,?_,?_⟩
 ·rw[L1 h g,jc];show s.b6+1=_;rw[h.lc];omega
 ·rw[SB h.lu M g j,h.vN];rfl
def oh (s:eR) (x:List B) (o:aM) :eR:=⟨s.cap,gy s.a2 x o,some (s.aD.l++[x])⟩
theorem Tz {g:aW} (q:u9 g) {l:aN} (h:E3 g l) :jI g l=true:=by
 unfold jI;rw[bI];intro i z;obtain⟨x,m,p⟩:=aQ z;obtain⟨B,o⟩:=cc.1 (h.sub x p);unfold hj;rw[dx m,bN,bN,bI,sN,decide_eq_false_iff_not];refine⟨h.sub x p,fun w=>?_,?_⟩
 ·obtain⟨a,j⟩:=cc.1 w;have v:=(aH.1 j).1;rw[cI] at v;rw[dG F] at j;obtain⟨t,u⟩:=aH.1 j;obtain⟨d1,d2⟩:=aH.1 m;exact kD.1 h.kZ a i t d1 F (by rw[u,d2])
 ·rw[tH (mq q.bQ) o,fb];unfold hY;rw[bI];exact h.pre i x B m o
theorem zG {s:eR} (h:iq s) (x:List B) :x∈s.aD.l<->x∈(b2 (bS s.a2)).idsZ.l:=by
 have m:=k1 h.a2.lu;have g:=Lk m h.ord;refine⟨g.sub x,fun q=>?_⟩;refine Classical.byContradiction fun o=>?_
 have p:(x::s.aD.l).Nodup:=uV.2 ⟨o,g.kZ⟩;have:=K8 p fun y j=>by
  rcases fX.1 j with rfl | j
  ·exact q
  ·exact g.sub y j
 rw[q2,cC] at this;have h1:=h.le;have t:=h.a2.lc;simp at this;omega
theorem Tj {s:eR} (h:iq s) {x:List B} {o:aM} (v:x∉s.aD.l) (ai:s.a2.b6≠s.cap) (ag:fk o=0) (U:bJ o=x) (K:∀ p∈o.ay.l,p∈s.aD.l) :iq (oh s x o):=by
 have w:x∉(b2 (bS s.a2)).idsZ.l:=fun T=>v ((zG h x).2 T)
 have Y:∀ p∈o.ay.l,p∈(b2 (bS s.a2)).idsZ.l:=fun p Z=>(zG h p).1 (K p Z)
 have G:s.a2.b6<60:=by have:=h.lc;have:=h.vp;omega
 have W:=Ud h.a2 w G ag U Y;have M:=It (o:=o) h.a2 w G;have z:=k1 h.a2.lu;have C:=k1 W.lu;have u:=Lk z h.ord;have J:=M.idsZ z.len;refine⟨h.j3,h.vp,W,?_,?_,Tz C ⟨?_,fun y m=>?_,fun i y j m I q ae=>?_⟩⟩
 ·show s.a2.b6+1<=s.cap;have:=h.lc;omega
 ·show ((s.aD.l++[x]).length:Int)=s.a2.b6+1;rw[cg,<-h.le];simp
 ·show (s.aD.l++[x]).Nodup;rw[EF];exact⟨u.kZ,V,fun a R b H e=>by simp at H;subst H;subst e;exact v R⟩
 ·have g:y∈s.aD.l++[x]:=m;rcases eQ.1 g with m | m
  ·exact (J y).2 (.inr (u.sub y m))
  ·exact (J y).2 (.inl (fO.1 m))
 ·have g:(s.aD.l++[x])[i]?=some y:=m;show q∈(s.aD.l++[x]).take i;obtain⟨r,P,_⟩:=aQ (l:=(b2 (bS (gy s.a2 x o))).opsZ.l) (k:=j) (by have:=(aH.1 I).1;have:=C.len;show j<_;omega);have O:q∈r.ay.l:=by
   have h1:q∈dE (b2 (bS (gy s.a2 x o))).opsZ.l j:=ae;rw[lM P] at h1;exact h1
  rcases (M.mem y r).1 ⟨j,I,P⟩ with ⟨rfl,rfl⟩ | ⟨k,D,Q⟩
  ·have X:i=s.aD.l.length:=by
    rcases fB i s.aD.l.length with t | S
    ·rw[aS t] at g;exact bK (cz g) v
    ·have:=(aH.1 g).1;simp at this;omega
   rw[X,List.take_left];exact K q O
  ·have t:i<s.aD.l.length:=by
    rcases fB i s.aD.l.length with t | S
    ·exact t
    ·have:=(aH.1 g).1;have e:i=s.aD.l.length:=by simp at this;omega
     rw[e,pT] at g;obtain rfl:=cd g;exact bK (cz D) w
   rw[aS t] at g;rw[hU F];exact u.pre i y k g D q (by rw[lM Q];exact O)
def qu (s:eR) (o:aM) :Int:=if bJ o∈s.aD.l then 5 else if ∀ g∈o.ay.l,g∈s.aD.l then (if s.a2.b6=s.cap then 8 else 1) else 6
end Op
namespace Op
section
variable {alZ:Type} {enc:alZ->ag} {z:Nat}
theorem yg {a:List alZ} (h:∀ y∈a,(enc y).length=z) :((a.map enc).flatten).length=a.length*z:=by
 induction a with
 | nil=>simp
 | cons x r j=>
  rw[dh,gR,cg,j (fun y g=>h y (by simp[g])),h x V,du,eI];omega
theorem Q9 {a:List alZ} (h:∀ y∈a,(enc y).length=z) {n i:Nat} (o:a.length=n) (v:i<=n) (x:alZ) :h3 z (a.map enc).flatten (enc x) i n=((c9 a i x).map enc).flatten:=by
 have m:a.map enc=(a.take i).map enc++(a.drop i).map enc:=by rw[<-dk,iY]
 have w:((a.take i).map enc).flatten.length=i*z:=by
  rw[yg (fun j g=>h j (gE g)),cI,iF F]
 have u:((a.drop i).map enc).flatten.length=(n - i)*z:=by
  rw[yg (fun j g=>h j (sT g)),iX,o]
 unfold h3 c9;have h1:((a.map enc).flatten).take (i*z)=((a.take i).map enc).flatten:=by
  rw[m,jp,hU F,aI F]
 have p:((a.map enc).flatten).drop (i*z)=((a.drop i).map enc).flatten:=by
  rw[m,jp,nB F,pS F,im]
 have q:(((a.drop i).map enc).flatten).take ((n - i)*z)=((a.drop i).map enc).flatten:=aI F;have t:((a.map enc).flatten).drop ((n+1)*z)=[]:=pS (by rw[yg h,o,eI];omega);rw[h1,p,q,t,eb];simp
theorem Ri {P:bg} {G:Nat->U} {f g m e by_:Nat} (L:p2 P f g m e z) (t:gb P g=some e) (C:b3 P e=some z) (w:gG P e=some by_) (o:0<z) (u:0<by_) (D:l2 P e=some z)
  {l:ae} {bv:Nat} {x:alZ} (v:l[bv]?=some (.q z (enc x))) (B:by_<=db)
  {K:cv} (p:K (.ad z l.length 0 1 1 z) (l++[.q z (enc x)])) :
  fP P G f [.af,.i6 0,.ad z bv 0 1 1 z] l (c:=⟨K⟩):=by have j:=HK (P:=P) (G:=G) (h:=aU l) L t C w o u D (bv:=bv) (hq.2 v) B;rw[AB,ll] at j;exact⟨_,_,.ext j,V,p⟩
end
end Op
end Go.bf
namespace Go.bf
open Go Go.Proofs Go.Proofs.Tryz Go.Shelf Go.RowKit Go.Lib
set_option maxHeartbeats 4000000
theorem Rc (base:Option Addr) (n c j h m:Nat) (r:aB) (w w' : aO) (v:n<=c) (u:n<=4611686018427387904) (p:base=none->n=0/\c=0)
  (g:(Builtin.append_ #[23,23] 23 #[.slice base n c,.slice (some ⟨h,m,none⟩) 1 j]).run prog w=.ok r w') :
  Calls prog 158 #[.slice base n c,.int .i64 n,.slice (some ⟨h,m,none⟩) 1 j] w fun e w2=>e=.returned r/\w2=w':=by
 have B:=Tryz.underlying23;have z:=checked.mixed
 go_enter func158,Tryz.ntmps158
 cases base with
 | none=>
  obtain⟨o,h1⟩:=p rfl;subst o h1
  go_wp2_with (at_builtin;refine Lib.wpList_append_run _ rfl _ _ _ _ rfl _ _ rfl rfl _ _ g ?_)
  go_ret
  exact⟨rfl,rfl⟩
 | some a=>
  obtain⟨ab,q,t⟩:=a
  go_wp2_with (at_builtin;refine Lib.wpList_append_run _ rfl _ _ _ _ rfl _ _ rfl rfl _ _ g ?_)
  all_goals (go_ret;exact⟨rfl,rfl⟩)
theorem Rj (b off n c i g h j:Nat) (J K:aB) (w q hu:aO) (t dT:aC) (mv o:Nat) (W:i<n) (Y:n+1<=c) (Q:n<=4611686018427387904) (I:g≠b)
  (G:w.shape? g=some (t,mv)) (H:w.shape? b=some (dT,o)) (C:o≠0) (z:w.frozen? ⟨g,h,none⟩=false) (B:w.frozen? ⟨g,mv,none⟩=false)
  (u:(Builtin.copy_ #[23,23] 3 #[.slice (some ⟨b,off+(i+1)*32,none⟩) (n - i) (c - (i+1)),.slice (some ⟨b,off+i*32,none⟩) (n+1 - i) (c - i)]).run prog w.drew=.ok J q)
  (v:(Builtin.copy_ #[23,23] 3 #[.slice (some ⟨b,off+i*32,none⟩) (n+1 - i) (c - i),.slice (some ⟨g,h,none⟩) 1 j]).run prog q=.ok K hu) :
  Calls prog 158 #[.slice (some ⟨b,off,none⟩) n c,.int .i64 i,.slice (some ⟨g,h,none⟩) 1 j] w fun e w2=>e=.returned (.slice (some ⟨b,off,none⟩) (n+1) c)/\w2=hu:=by
 have O:=Tryz.underlying23;have P:∀ w,(Go.sizeOf 57).run prog w=.ok 32 w:=fun w=>ew bd
 have aj:=checked.mixed;have D:∀ p m,(callFunc 209 #[.slice (some ⟨g,h,none⟩) 1 j,.slice (some ⟨b,off+(i+1)*32,none⟩) p m]).run prog w=.ok (.value (.bool false)) w:=fun p m=>by
  rw[run_callFunc_extern func209 bd bd bd (e:=Extern.SlicesOverlaps.overlaps #[23,23] #[4]) bd,
   Lib.run_overlaps_apart w 23 4 57 O 32 P ⟨g,h,none⟩ ⟨b,off+(i+1)*32,none⟩ 1 j p m I t dT mv o G H C z B]
  rfl
 have ai:¬ ((i:Int)=(n:Int)):=F;have ae:IntKind.i64.wrap ((i:Int)+1)=(i:Int)+1:=by rw[IntKind.wrap_i64];omega
 have ag:IntKind.i64.wrap ((n:Int)+1)=(n:Int)+1:=by rw[IntKind.wrap_i64];omega
 have R:(0:Int)<=(i:Int)+1:=F;have X:i<=n:=F;have Z:((i:Int)+1).toNat=i+1:=F;have S:¬ (c=i+1):=F;have T:(i:Int)<=(n:Int)+1:=F;have U:¬ (c=i):=F;have V:¬ ((c:Int)<(n:Int)+1):=F
 go_enter func158,Tryz.ntmps158
 go_wp2_with (simp only[D])
 go_region_law_o (refine step_copy_runI rfl _ _ 23 23 rfl _ _ (by simp[Act.eval,Act.put]) (by simp[Act.eval,Act.put]) u ?_)
 go_wp2_with (at_builtin;refine wpList_copy_runI _ rfl _ _ 23 23 rfl _ _ rfl rfl v ?_)
 go_ret
 exact⟨rfl,rfl⟩
theorem Rf (b off n c i j o m N G:Nat) (u v:aB) (w g h hu:aO) (O:i<n) (Q:n<=c) (R:c<n+1) (B:n+1<=G) (z:n<=4611686018427387904)
  (p:(Builtin.append_ #[23,3] 23 #[.slice (some ⟨b,off,none⟩) i c,.int .i64 ((n:Int)+1 - (i:Int))]).run prog w=.ok (.slice (some ⟨N,0,none⟩) (n+1) G) g)
  (q:(Builtin.copy_ #[23,23] 3 #[.slice (some ⟨N,i*32,none⟩) (n+1 - i) (G - i),.slice (some ⟨j,o,none⟩) 1 m]).run prog g=.ok u h)
  (t:(Builtin.copy_ #[23,23] 3 #[.slice (some ⟨N,(i+1)*32,none⟩) (n - i) (G - (i+1)),.slice (some ⟨b,off+i*32,none⟩) (n - i) (c - i)]).run prog h.drew=.ok v hu) :
  Calls prog 158 #[.slice (some ⟨b,off,none⟩) n c,.int .i64 i,.slice (some ⟨j,o,none⟩) 1 m] w fun e w2=>e=.returned (.slice (some ⟨N,0,none⟩) (n+1) G)/\w2=hu:=by
 have Z:=Tryz.underlying23;have ae:∀ w,(Go.sizeOf 57).run prog w=.ok 32 w:=fun w=>ew bd
 have Y:=checked.mixed;have W:¬ ((i:Int)=(n:Int)):=F;have T:IntKind.i64.wrap ((i:Int)+1)=(i:Int)+1:=by rw[IntKind.wrap_i64];omega
 have U:IntKind.i64.wrap ((n:Int)+1)=(n:Int)+1:=by rw[IntKind.wrap_i64];omega
 have V:IntKind.i64.wrap ((n:Int)+1 - (i:Int))=(n:Int)+1 - (i:Int):=by rw[IntKind.wrap_i64];omega
 have H:(0:Int)<=(i:Int)+1:=F;have P:i<=n:=F;have S:((i:Int)+1).toNat=i+1:=F;have C:¬ (G=i):=F;have D:¬ (G=i+1):=F;have K:¬ (c=i):=F;have X:(c:Int)<(n:Int)+1:=F;have I:(i:Int)<=(n:Int):=F;have J:(i:Int)<=(c:Int):=F
 go_enter func158,Tryz.ntmps158
 go_wp2_with (first
  | (at_builtin;refine Lib.wpList_append_run _ rfl _ _ _ _ rfl _ _ rfl rfl _ _ p ?_)
  | (at_builtin;refine wpList_copy_runI _ rfl _ _ 23 23 rfl _ _ rfl rfl q ?_))
 go_region_law_o (refine step_copy_runI rfl _ _ 23 23 rfl _ _ (by simp[Act.eval,Act.put]) (by simp[Act.eval,Act.put]) t ?_)
 go_wp2
 go_ret
 exact⟨rfl,rfl⟩
theorem BV:p2 prog 158 23 3 57 32:=
 ⟨Tryz.underlying23,Tryz.underlying3,Rc,Rj,Rf⟩
theorem Q7 {G:Nat->U} (args:ag) (h:aE) (r:U) (h' : aE) (g:tE 32 32 args h=some (r,h')) :jq prog G 158 args h r h':=
 HH BV bd bd bd F F bd args h r h' g
theorem Re (base:Option Addr) (n c j h m:Nat) (r:aB) (w w' : aO) (v:n<=c) (u:n<=4611686018427387904) (p:base=none->n=0/\c=0)
  (g:(Builtin.append_ #[68,68] 68 #[.slice base n c,.slice (some ⟨h,m,none⟩) 1 j]).run prog w=.ok r w') :
  Calls prog 159 #[.slice base n c,.int .i64 n,.slice (some ⟨h,m,none⟩) 1 j] w fun e w2=>e=.returned r/\w2=w':=by
 have B:=Tryz.underlying68;have z:=checked.mixed
 go_enter func159,Tryz.ntmps159
 cases base with
 | none=>
  obtain⟨o,h1⟩:=p rfl;subst o h1
  go_wp2_with (at_builtin;refine Lib.wpList_append_run _ rfl _ _ _ _ rfl _ _ rfl rfl _ _ g ?_)
  go_ret
  exact⟨rfl,rfl⟩
 | some a=>
  obtain⟨ab,q,t⟩:=a
  go_wp2_with (at_builtin;refine Lib.wpList_append_run _ rfl _ _ _ _ rfl _ _ rfl rfl _ _ g ?_)
  all_goals (go_ret;exact⟨rfl,rfl⟩)
theorem Rk (b off n c i g h j:Nat) (J K:aB) (w q hu:aO) (t dT:aC) (mv o:Nat) (W:i<n) (Y:n+1<=c) (Q:n<=4611686018427387904) (I:g≠b)
  (G:w.shape? g=some (t,mv)) (H:w.shape? b=some (dT,o)) (C:o≠0) (z:w.frozen? ⟨g,h,none⟩=false) (B:w.frozen? ⟨g,mv,none⟩=false)
  (u:(Builtin.copy_ #[68,68] 3 #[.slice (some ⟨b,off+(i+1)*11,none⟩) (n - i) (c - (i+1)),.slice (some ⟨b,off+i*11,none⟩) (n+1 - i) (c - i)]).run prog w.drew=.ok J q)
  (v:(Builtin.copy_ #[68,68] 3 #[.slice (some ⟨b,off+i*11,none⟩) (n+1 - i) (c - i),.slice (some ⟨g,h,none⟩) 1 j]).run prog q=.ok K hu) :
  Calls prog 159 #[.slice (some ⟨b,off,none⟩) n c,.int .i64 i,.slice (some ⟨g,h,none⟩) 1 j] w fun e w2=>e=.returned (.slice (some ⟨b,off,none⟩) (n+1) c)/\w2=hu:=by
 have O:=Tryz.underlying68;have P:∀ w,(Go.sizeOf 55).run prog w=.ok 11 w:=fun w=>ew bd
 have aj:=checked.mixed;have D:∀ p m,(callFunc 211 #[.slice (some ⟨g,h,none⟩) 1 j,.slice (some ⟨b,off+(i+1)*11,none⟩) p m]).run prog w=.ok (.value (.bool false)) w:=fun p m=>by
  rw[run_callFunc_extern func211 bd bd bd (e:=Extern.SlicesOverlaps.overlaps #[68,68] #[4]) bd,
   Lib.run_overlaps_apart w 68 4 55 O 11 P ⟨g,h,none⟩ ⟨b,off+(i+1)*11,none⟩ 1 j p m I t dT mv o G H C z B]
  rfl
 have ai:¬ ((i:Int)=(n:Int)):=F;have ae:IntKind.i64.wrap ((i:Int)+1)=(i:Int)+1:=by rw[IntKind.wrap_i64];omega
 have ag:IntKind.i64.wrap ((n:Int)+1)=(n:Int)+1:=by rw[IntKind.wrap_i64];omega
 have R:(0:Int)<=(i:Int)+1:=F;have X:i<=n:=F;have Z:((i:Int)+1).toNat=i+1:=F;have S:¬ (c=i+1):=F;have T:(i:Int)<=(n:Int)+1:=F;have U:¬ (c=i):=F;have V:¬ ((c:Int)<(n:Int)+1):=F
 go_enter func159,Tryz.ntmps159
 go_wp2_with (simp only[D])
 go_region_law_o (refine step_copy_runI rfl _ _ 68 68 rfl _ _ (by simp[Act.eval,Act.put]) (by simp[Act.eval,Act.put]) u ?_)
 go_wp2_with (at_builtin;refine wpList_copy_runI _ rfl _ _ 68 68 rfl _ _ rfl rfl v ?_)
 go_ret
 exact⟨rfl,rfl⟩
theorem Rg (b off n c i j o m N G:Nat) (u v:aB) (w g h hu:aO) (O:i<n) (Q:n<=c) (R:c<n+1) (B:n+1<=G) (z:n<=4611686018427387904)
  (p:(Builtin.append_ #[68,3] 68 #[.slice (some ⟨b,off,none⟩) i c,.int .i64 ((n:Int)+1 - (i:Int))]).run prog w=.ok (.slice (some ⟨N,0,none⟩) (n+1) G) g)
  (q:(Builtin.copy_ #[68,68] 3 #[.slice (some ⟨N,i*11,none⟩) (n+1 - i) (G - i),.slice (some ⟨j,o,none⟩) 1 m]).run prog g=.ok u h)
  (t:(Builtin.copy_ #[68,68] 3 #[.slice (some ⟨N,(i+1)*11,none⟩) (n - i) (G - (i+1)),.slice (some ⟨b,off+i*11,none⟩) (n - i) (c - i)]).run prog h.drew=.ok v hu) :
  Calls prog 159 #[.slice (some ⟨b,off,none⟩) n c,.int .i64 i,.slice (some ⟨j,o,none⟩) 1 m] w fun e w2=>e=.returned (.slice (some ⟨N,0,none⟩) (n+1) G)/\w2=hu:=by
 have Z:=Tryz.underlying68;have ae:∀ w,(Go.sizeOf 55).run prog w=.ok 11 w:=fun w=>ew bd
 have Y:=checked.mixed;have W:¬ ((i:Int)=(n:Int)):=F;have T:IntKind.i64.wrap ((i:Int)+1)=(i:Int)+1:=by rw[IntKind.wrap_i64];omega
 have U:IntKind.i64.wrap ((n:Int)+1)=(n:Int)+1:=by rw[IntKind.wrap_i64];omega
 have V:IntKind.i64.wrap ((n:Int)+1 - (i:Int))=(n:Int)+1 - (i:Int):=by rw[IntKind.wrap_i64];omega
 have H:(0:Int)<=(i:Int)+1:=F;have P:i<=n:=F;have S:((i:Int)+1).toNat=i+1:=F;have C:¬ (G=i):=F;have D:¬ (G=i+1):=F;have K:¬ (c=i):=F;have X:(c:Int)<(n:Int)+1:=F;have I:(i:Int)<=(n:Int):=F;have J:(i:Int)<=(c:Int):=F
 go_enter func159,Tryz.ntmps159
 go_wp2_with (first
  | (at_builtin;refine Lib.wpList_append_run _ rfl _ _ _ _ rfl _ _ rfl rfl _ _ p ?_)
  | (at_builtin;refine wpList_copy_runI _ rfl _ _ 68 68 rfl _ _ rfl rfl q ?_))
 go_region_law_o (refine step_copy_runI rfl _ _ 68 68 rfl _ _ (by simp[Act.eval,Act.put]) (by simp[Act.eval,Act.put]) t ?_)
 go_wp2
 go_ret
 exact⟨rfl,rfl⟩
theorem HI:p2 prog 159 68 3 55 11:=
 ⟨Tryz.underlying68,Tryz.underlying3,Re,Rk,Rg⟩
theorem Q8 {G:Nat->U} (args:ag) (h:aE) (r:U) (h' : aE) (g:tE 11 112 args h=some (r,h')) :jq prog G 159 args h r h':=
 HH HI bd bd bd F F bd args h r h' g
def BU (f:cb) :Option (Nat × Nat):=match Nat.beq f 158 with | true=>some (32,32) | false=>match Nat.beq f 159 with | true=>some (11,112) | false=>none
theorem Q6 (f:cb) (z by_:Nat) (h:BU f=some (z,by_)) (args:ag) (g:aE) (r:U) (yp:aE) (o:tE z by_ args g=some (r,yp)) :jq prog GS f args g r yp:=by
 unfold BU at h;split at h
 ·rename_i j;have m:=l7 j;subst m;cases h;exact Q7 args g r yp o
 split at h
 ·rename_i j;have m:=l7 j;subst m;cases h;exact Q8 args g r yp o
 cases h
instance ZE:EY prog GS:=⟨BU,Q6⟩
end Go.bf
namespace Go.bf
open Go Go.Proofs Go.Proofs.Tryz
namespace Op
open b8
def eT (s:cA) (x:List B) :aW:=df s.al.l (num x s.al.l.length)
theorem y8 {s:cA} (h:fo s) (x:List B) :s.al.l[num x s.al.l.length]?=some (eT s x)/\eT s x∈s.al.l/\num x s.al.l.length<s.al.l.length:=by
 have j:num x s.al.l.length<s.al.l.length:=by unfold num;exact iG _ (by have:=h.hy;omega)
 obtain⟨p,g,m⟩:=aQ j;have:eT s x=p:=dZ g;rw[this];exact⟨g,m,j⟩
theorem TS {s:cA} (h:fo s) (x:List B) :x∈(eT s x).idsZ.l<->x∈(b2 (bS s)).idsZ.l:=by have W:=sC h;obtain⟨h1,p,z⟩:=y8 h x;refine⟨CL h p,fun o=>?_⟩;rw[q2] at o;obtain⟨q,u,rfl⟩:=cF.1 o;obtain⟨C,t,a,m,w⟩:=(sB W q).1 u;obtain⟨v,g⟩:=cc.1 t;have j:=h.aq;unfold lH at j;rw[bI] at j;have:=j v (aH.1 g).1 q.1 (by rw[dZ g];exact cz m);rw[<-this] at g;rw[h1] at g;obtain rfl:=cd g;exact cz m
theorem Ky (s:cA) (P:hs s) (h:fo s) (x:List B) (m:x.length=32) :
  aV 155 [.ah (bM s),.ah (ao x)] (.aZ [.i6 (num x s.al.l.length:Nat),.i6 (er (eT s x).idsZ.l x:Nat),.bool (decide (x∈(b2 (bS s)).idsZ.l))]):=by
 apply a8 func155 [];have W:=sC h;obtain⟨h1,q,Q⟩:=y8 h x;have p:=br m;have o:=cP x;have g:=IF x m s.al.l.length h.hy (by have:=h.tT;omega);have z:=(P.al _ q).1;have j:=zx (eT s x).idsZ z.idsZ z.li x m (W.bQ _ q);have J:=TS h x;have I:decide (x∈(eT s x).idsZ.l)=decide (x∈(b2 (bS s)).idsZ.l):=by rw[decide_eq_decide];exact J
 rw[I] at j;have w:=mo h1;have K:=pi s.al;have H:=bV (eT s x).idsZ;have R:(bM s)[0]?=some (e0 s.al):=rfl;have u:(bM s).length=3:=rfl;have t:∀ h,(bM s)[0]'h=e0 s.al:=fun _=>rfl
 have C:∀ h,(bb (eT s x))[0]'h=ai (eT s x).idsZ:=fun _=>rfl
 have S:(bb (eT s x))[0]?=some (ai (eT s x).idsZ):=rfl;have D:(bb (eT s x)).length=2:=rfl;obtain⟨X,G⟩:=aq (ao x);rw[<-G] at p o g j ⊢;have v:X.take 32=X:=aI F;obtain⟨T,O⟩:=aq (((num x s.al.l.length:Nat) :Int) :Int);rw[<-O] at g w ⊢;simp[p,v,u,t,K];refine av g (by simp[ar,U.ax,o]) ?_;simp[p,v,u,t,w,D,C];refine av j (by simp[ar,U.ax,o,H]) ?_;simp;exact aG
theorem VK (s:cA) (o:hs s) (h:fo s) :aV 154 [.ah (bM s)] (.i6 0):=by apply a8 func154 [];have p:(bM s).length=3:=rfl;have m:(bM s).take 3=bM s:=rfl;have j:=o2 s;have g:=LV s o;rw[Ek h] at g;unfold cE bb at g;have q:=hd (b2 (bS s)).idsZ;have t:=oU (b2 (bS s)).opsZ;simp[p,m];refine av g (by simp[ar,U.ax,j]) ?_;simp[aw];exact aG
theorem Nt (s:cA) (G:hs s) (h:fo s) {l:ae} {b:Nat} (g:l[b]?=some (.q 3 (bM s))) (xs:aN) (I:∀ p∈xs,p.length=32) :
  s4 156 [.ptr b 0 3] l xs (fun p=>!decide (p∈(b2 (bS s)).idsZ.l)):=by
 intro p C m z J t;apply cR func156 [];have j:=I p C;have F:=br j;have D:=cP p;have H:(bM s).length=3:=rfl;have v:(bM s).take 3=bM s:=rfl;have u:=o2 s;have q1:m[b]?=some (.q 3 (bM s)):=by rw[z.2 _ (aY g)];exact g
 have o:∀ c:am,(m++[c])[b]?=some (.q 3 (bM s)):=fun c=>by rw[aS (aY q1)];exact q1
 have B:=Ky s G h p j;simp[o,F,H,v,aI];refine av B (by simp[ar,U.ax,u,D]) ?_;simp;exact t _ ⟨V,fun b w=>aS w⟩
theorem T4 (o:aM) (m:dv o) {l:ae} {b j:Nat} (g:l[b]?=some (.q 11 (au o))) (G:b≠j) (xs:aN) (O:∀ p∈xs,p.length=32) :
  u2 160 [.ptr b 0 11] j l xs (fun p=>decide (p∈o.ay.l)):=by
 intro p I u D P z;apply cR func160 [];have t:=O p I;have K:=br t;have J:=cP p;have H:(au o).length=11:=rfl;have Q:(au o)[1]?=some (ai o.ay):=rfl;have w:∀ h,(au o)[1]'h=ai o.ay:=fun _=>rfl
 have C:=bV o.ay;have q1:u[b]?=some (.q 11 (au o)):=by rw[D.same _ (aY g) G];exact g
 have v:∀ c:am,(u++[c])[b]?=some (.q 11 (au o)):=fun c=>by rw[aS (aY q1)];exact q1
 have F:=pK o.ay m.idsZ m.len p t;simp[v,K,H,w,aI];refine av F (by simp[ar,U.ax,C,J]) ?_;simp;exact z _ V fun b B=>aS B
theorem ON (s:bP) (p:cU s) (m:s.l.length<=1000000) {l:ae} {K:cv} (j:s=none->K .af l)
  (h1:∀ a,s=some a->K (.ad 32 l.length 0 a.length a.length (a.length*32)) (l++[.q (a.length*32) (a.map ao).flatten])) :
  cG 80 [ai s] l K:=by
 apply cR func80 [];have o:=dw;have h:dP prog .eql 23 (ai s) .af=some (.bool s.isNone):=vl (e:=57) bd 32 ao s;cases s with
 | none=>
  simp[h];exact j rfl
 | some a=>
  have u:∀ y∈a,(ao y).length=32:=fun y t=>br (p y t)
  have v:a.length<=1000000:=m;have g:=AP (enc:=ao) (z:=32) (by_:=32) (l++[am.q 0 []]) l.length V (some a) u F F (by show a.length*32<=_;rw[o];omega);change ep _ _ _ _ (ai (some a))=_ at g;simp at g;simp[h,g];refine bY.bo ?_;simp;exact h1 a rfl
def eX {alZ:Type} (z:Nat) (enc:alZ->ag) (l:ae) (n:Nat) (w:U) (s:bH alZ) :Prop:=
 (s=none/\w=.af)\/∃ b,n<=b/\s.isNone=false/\w=.ad z b 0 s.l.length s.l.length (s.l.length*z)/\l[b]?=some (.q (s.l.length*z) (s.l.map enc).flatten)
def Fi (v w:U) :Prop:=∀ p b n h s q g m j o,v=.ad p b 0 n h s->w=.ad q g 0 m j o->b≠g
theorem eX.frame {alZ:Type} {z:Nat} {enc:alZ->ag} {l l' : ae} {n:Nat} {w:U} {s:bH alZ} (h:eX z enc l n w s) (o:∀ b,n<=b->b<l.length->l'[b]?=l[b]?) :eX z enc l' n w s:=by
 rcases h with h | ⟨b,h1,j,m,g⟩
 ·exact .inl h
 ·exact .inr ⟨b,h1,j,m,by rw[o b h1 (aY g)];exact g⟩
theorem eX.mono {alZ:Type} {z:Nat} {enc:alZ->ag} {l:ae} {n m:Nat} {w:U} {s:bH alZ} (h:eX z enc l n w s) (p:m<=n) :eX z enc l m w s:=by
 rcases h with h | ⟨b,h1,g,j,o⟩
 ·exact .inl h
 ·exact .inr ⟨b,F,g,j,o⟩
theorem A7 (s:bP) (p:cU s) (o:s.l.length<=1000000) {l:ae} {K:cv} (m:∀ w j,w.cells=some [w]->eX 32 ao (l++j) l.length w s->K w (l++j)) :
  cG 80 [ai s] l K:=
 ON s p o (fun h=>by simpa using m .af [] rfl (.inl ⟨h,rfl⟩)) fun a g=>m _ [_] rfl (.inr ⟨l.length,aF _,by rw[g];rfl,by rw[g];rfl,by rw[g];simp⟩)
theorem A8 (s:bH aM) (o:s.l.length<=1000000) {l:ae} {K:cv} (m:∀ w j,w.cells=some [w]->eX 11 au (l++j) l.length w s->K w (l++j)) :
  cG 143 [bB s] l K:=
 F1 s o (fun h=>by simpa using m .af [] rfl (.inl ⟨h,rfl⟩)) fun a g=>m _ [_] rfl (.inr ⟨l.length,aF _,by rw[g];rfl,by rw[g];rfl,by rw[g];simp⟩)
theorem us {l:ae} {b:Nat} {c:am} (h:l[b]?=some c) :l.set b c=l:=by
 apply g7;intro g;by_cases e:b=g
 ·subst e;rw[bT (aY h),h]
 ·rw[bp e]
theorem eX.bt {alZ:Type} {z:Nat} {enc:alZ->ag} {l:ae} {n:Nat} {w:U} {s:bH alZ} (h:eX z enc l n w s) :bt (.ad z) w=some (.i6 s.l.length):=by
 rcases h with ⟨rfl,rfl⟩ | ⟨b,_,_,rfl,_⟩
 ·rfl
 ·simp[Go.bf.bt]
theorem WJ (g:aW) (w:e4 g) {l:ae} {K:cv} (ak:∀ h w2 l',hV l l'->eX 32 ao l' l.length h g.idsZ->eX 11 au l' l.length w2 g.opsZ->Fi h w2->h.cells=some [h]->w2.cells=some [w2]->K (.ah [h,w2]) l') :
  cG 157 [cE g] l K:=by
 apply cR func157 [[[0],[1],[3],[4],[7],[2,7,4],[5,7],[6]],da 0 9++[[9,1]]];simp[cE,bb];refine A7 g.idsZ w.idsZ w.li fun h p X Z=>?_
 simp;refine A8 g.opsZ w.jE fun w2 J Y H=>?_
 have aB:=H.bt;have a1:=w.jE;simp[X,Y,aw,aB];obtain⟨L,o⟩:=aq (l++am.q 2 [ai g.idsZ,bB g.opsZ] ::am.q 2 [.af,.af] ::am.q 2 [h,w2] ::(p++J));have q1:L[l.length+1]?=some (.q 2 [.af,.af]):=by rw[o];simp
 have I:L[l.length+2]?=some (.q 2 [h,w2]):=by rw[o];simp
 have T:hV l L:=by rw[o];exact⟨V,fun b v=>aS v⟩
 have aL:eX 32 ao L (l.length+3) h g.idsZ:=by
  refine (eX.frame (l':=L) Z fun b h1 C=>?_).mono V;rw[o];have aV:l.length+3<=b:=by simpa using h1
  have aX:b<l.length+3+p.length:=by simp at C;omega
  obtain⟨m,a5⟩:=aq (b - l.length - 3);have aI:b - l.length=m+3:=F;have aJ:b - (l++[am.q 2 [ai g.idsZ,bB g.opsZ],am.q 2 [.af,.af],am.q 2 [.af,.af]]).length=m:=by simp;omega
  rw[ej F,ej (by simpa using h1),aI,aJ];simp only[ik];rw[aS F]
 have a0:L.length=l.length+3+p.length+J.length:=by rw[o];simp;omega
 have ag:eX 11 au L (l.length+3+p.length) w2 g.opsZ:=by
  refine (eX.frame (l':=L) H fun b h1 C=>?_).mono (by simp;omega);rw[o];simp at h1 C;rw[ej F,ej (by simp;omega)];simp;have e:b - l.length=(b - (l.length+(p.length+3)))+p.length+3:=F;rw[e];simp only[ik];rw[ej F];congr 1;omega
 refine bw g.opsZ.l.length (fun k u B=>B=L/\u 2=.ptr (l.length+1) 0 2/\u 3=.ptr (l.length+2) 0 2/\u 14=.i6 g.opsZ.l.length/\u 15=.i6 k) ?_ ⟨by rw[o],V,V,V,V⟩;rintro k u B hk ⟨rfl,R,S,P,Q⟩;obtain⟨u,rfl⟩:=e2 R S P Q;clear R S P Q;have z:=cl (k:=k) F;by_cases t:k<g.opsZ.l.length
 ·obtain⟨j,aD,aE⟩:=aQ t;rcases ag with ⟨aC,_⟩ | ⟨b,a2,a3,rfl,D⟩
  ·rw[aC] at t;simp at t
  ·have U:=w.opsZ j aE;have ap:=bV j.ay;have al:=kT j.ay U.idsZ U.len;have W:∀ e∈g.opsZ.l.map au,e.length=11:=fun e ax=>by obtain⟨y,_,rfl⟩:=cF.1 ax;rfl
   have G:(g.opsZ.l.map au)[k]?=some (au j):=by rw[bX,aD];rfl
   have az:(g.opsZ.l.map au).flatten[k*11+1]?=some (ai j.ay):=lx W G F;have aG:aw (g.opsZ.l.map au).flatten (k*11+1) [ai j.ay]=(g.opsZ.l.map au).flatten:=by
    rw[o6 W G (show 1+[ai j.ay].length<=11 by simp),wx j];congr 1;exact g7 fun aK=>by
     by_cases e:k=aK
     ·subst e;rw[bT (by simpa using t),G]
     ·rw[bp e]
   have mp:=hd j.ay;have a4:=vI g.opsZ.l;have aH:=us D;simp[t,I,az,D];refine av al (by simp[ar,ap]) ?_;simp[t,I,D,aG,mp,z,aH];omega
 ·have aA:k=g.opsZ.l.length:=F;subst aA;have aN:l.length+1<B.length:=aY q1;have aM:(B.set (l.length+1) (am.q 2 [h,w2]))[l.length+1]?=some (.q 2 [h,w2]):=bT aN;simp[q1,I,aw,aM];refine ak h w2 _ ⟨by simpa using T.1,fun b v=>?_⟩ ((aL.frame fun b v _=>bp F).mono F) ((ag.frame fun b v _=>bp F).mono F) (fun a9 b n m s bc aT a7 a6 a8 z O=>?_) X Y
  ·rw[bp F];exact T.2 b v
  ·rcases Z with ⟨_,rfl⟩ | ⟨c,aU,_,rfl,aj⟩
   ·cases z
   ·rcases H with ⟨_,rfl⟩ | ⟨d,d1,_,rfl,d4⟩
    ·cases O
    ·have aO:=aY aj;injection z with _ aP
     injection O with _ aR
     subst aP aR;simp at aO d1;omega
end Op
namespace Op
section
variable {alZ:Type} {enc:alZ->ag} {z:Nat}
theorem Rb {P:bg} {G:Nat->U} {f u I e by_:Nat} (L:p2 P f u I e z) (X:gb P u=some e) (ay:b3 P e=some z) (ai:gG P e=some by_) (S:0<z) (Y:0<by_) (az:l2 P e=some z)
  {l:ae} {b bv n cap i:Nat} {a:List alZ} {x:alZ} (j:∀ y∈a,(enc y).length=z) (H:(enc x).length=z) (h:aJ z l (.ad z b 0 n cap (cap*z)) b (a.map enc)) (ag:l[bv]?=some (.q z (enc x))) (au:bv≠b) (p:i<=n) (aw:(n+1)*by_<=db)
  {K:cv} (W:∀ l',l'.length=l.length+1->(∀ c,c<l.length->c≠b->l'[c]?=l[c]?)->aJ z l' (.ad z l.length 0 (n+1) (max cap (n+1)) (max cap (n+1)*z)) l.length ((c9 a i x).map enc)->
   K (.ad z l.length 0 (n+1) (max cap (n+1)) (max cap (n+1)*z)) l') :
  fP P G f [.ad z b 0 n cap (cap*z),.i6 i,.ad z bv 0 1 1 z] l (c:=⟨K⟩):=by
 generalize F:U.ad z b 0 n cap (cap*z)=w at h;generalize o:a.map enc=R at h;cases h with
 | nil=>cases F
 | ad aN aO aD aP cs R v ap ar aM B aK al=>
  injection F with aE aG aH J O Q
  subst J O Q o;have Z:=aY v;have m:a.length=n:=by simpa using ar
  have D:=HL (P:=P) (G:=G) (h:=aU l) L X ay ai S Y az (b:=b) (bv:=bv) (len:=n) (cap:=cap) (i:=i) (hq.2 v) (hq.2 ag) au p B aw;rw[AB,ma _ Z,ll] at D;refine⟨_,_,.ext D,V,?_⟩;have aq:n+1<=max cap (n+1):=Nat.le_max_right _ _;have T:cs.take (n*z)=(a.map enc).flatten:=al;have aL:n*z<=cap*z:=cj _ B;have ao:i*z<=n*z:=cj _ p;have ax:(n - i)*z=n*z - i*z:=Nat.mul_sub_right_distrib _ _ _;have C:h3 z cs (enc x) i n=((c9 a i x).map enc).flatten++cs.drop ((n+1)*z):=by
   rw[<-Q9 j m p x,<-T];unfold h3;have aA:(cs.take (n*z)).take (i*z)=cs.take (i*z):=by rw[mQ,iF ao]
   have aB:((cs.take (n*z)).drop (i*z)).take ((n - i)*z)=(cs.drop (i*z)).take ((n - i)*z):=by
    rw[ra,mQ,ax,Nat.min_self]
   have aC:(cs.take (n*z)).drop ((n+1)*z)=[]:=pS (by rw[cI,eI];omega);rw[aA,aB,aC,eb]
  have t:((c9 a i x).map enc).flatten.length=(n+1)*z:=by
   rw[yg,jc,m];intro y g;rcases mr.1 g with rfl | g
   ·exact H
   ·exact j y g
  have av:(h3 z cs (enc x) i n).length=max cap (n+1)*z:=by
   rw[C,cg,t,iX,ap];rcases Nat.le_total cap (n+1) with h | h
   ·rw[Aw h];have:=cj z h;omega
   ·rw[Av h];have:=cj z h;omega
  refine W _ V (fun c aj ak=>by rw[aS (by simpa using aj),bp (fun e=>ak e.symm)]) ?_;refine .ad l.length (n+1) (max cap (n+1)) (max cap (n+1)*z) (h3 z cs (enc x) i n) _ ?_ av (by simp[jc,m]) (fun e o=>?_) aq (aF _) ?_
  ·rw[show l.length=(l.set b am.dead).length by simp,pT]
  ·obtain⟨y,g,rfl⟩:=cF.1 o;rcases mr.1 g with rfl | g
   ·exact H
   ·exact j y g
  ·rw[C,hU (by rw[t];exact aF _),aI (by rw[t];exact aF _)]
def xG (z:Nat) (l:ae) (w:U) (a:List (ag)) :Prop:=(a=[]/\w=.af)\/∃ b n cap,w=.ad z b 0 n cap (cap*z)/\aJ z l w b a
theorem BW {f p Q e by_:Nat} (L:p2 prog f p Q e z) (v:gb prog p=some e) (J:b3 prog e=some z) (D:gG prog e=some by_) (t:0<z) (B:0<by_) (O:l2 prog e=some z)
  {l:ae} {bv i:Nat} {a:List alZ} {x:alZ} {w:U} (R:∀ y∈a,(enc y).length=z) (I:(enc x).length=z) (h:xG z l w (a.map enc)) (C:l[bv]?=some (.q z (enc x))) (Z:∀ b n cap s,w=.ad z b 0 n cap s->bv≠b) (X:i<=a.length) (H:(a.length+1)*by_<=db)
  {K:cv} (u:∀ l',l.length<=l'.length->(∀ c,c<l.length->(∀ b n cap s,w=.ad z b 0 n cap s->c≠b)->l'[c]?=l[c]?)->K (.bj z ((c9 a i x).map enc)) l') :
  cG f [w,.i6 i,.ad z bv 0 1 1 z] l K:=by
 refine FT checked.mixed ed ?_;rcases h with ⟨h1,rfl⟩ | ⟨b,n,cap,rfl,h⟩
 ·have S:a=[]:=by simpa using h1
  subst S;have Y:i=0:=by simpa using X
  subst Y;have e:(c9 ([] :List alZ) 0 x).map enc=[enc x]:=rfl;refine Ri (P:=prog) (G:=GS) L v J D t B O C (by simpa using H) ?_;have ag:aJ z (l++[.q z (enc x)]) (.ad z l.length 0 1 1 z) l.length ((c9 ([] :List alZ) 0 x).map enc):=by
   have:=qG (enc:=enc) (z:=z) (l:=l++[.q z (enc x)]) (b:=l.length) (n:=1) (a:=c9 ([] :List alZ) 0 x) (fun y j=>by
    rcases mr.1 j with rfl | j
    ·exact I
    ·cases j) rfl (by rw[pT];simp[c9])
   simpa using this
  obtain⟨m,o⟩:=pt ag rfl;exact⟨_,_,m,o,V,u _ V fun c g _=>by rw[bp F,aS g]⟩
 ·have T:a.length=n:=by
   have:=h.len;simp[bt] at this;omega
  refine Rb L v J D t B O R I h C (Z b n cap _ rfl) F (by rw[<-T];exact H) fun l' q1 ai aj=>?_
  obtain⟨m,o⟩:=pt aj rfl;exact⟨_,_,m,o,by simp;omega,u _ (by simp;omega) fun c g W=>by rw[bp F];exact ai c g (W b n cap _ rfl)⟩
theorem eX.c {l:ae} {n:Nat} {w:U} {s:bH alZ} (h:eX z enc l n w s) (j:∀ y∈s.l,(enc y).length=z) :xG z l w (s.l.map enc):=by
 rcases h with ⟨rfl,rfl⟩ | ⟨b,h1,m,rfl,g⟩
 ·exact .inl ⟨rfl,rfl⟩
 ·exact .inr ⟨b,_,_,rfl,qG j rfl g⟩
end
end Op
end Go.bf

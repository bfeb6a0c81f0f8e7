/-
  A graph that is being built: its two rows are one's own. Parts and headsZ of a graph, in the reference.
-/
import Derived.Test.YtdjbnhgdhambnaaGreatDoorVi
set_option maxHeartbeats 16000000
set_option maxRecDepth 100000
set_option linter.unusedVariables false
set_option linter.unusedSimpArgs false
set_option linter.unnecessarySimpa false
namespace Go.bh
open Go Go.Proofs Go.Proofs.Tryz
namespace Op
open cl
structure gd (l:ae) (fg g:U) (h j n:Nat) (idsZ:aR) (opsZ:List aK) :Prop where
 hB:aH 32 l fg h (idsZ.map ao)
 iC:aH 11 l g j (opsZ.map aw)
 gN:bq fg=idsZ.isEmpty
 q2:bq g=opsZ.isEmpty
 oz:fg=.ad\/n<=h
 oA:g=.ad\/n<=j
 ne:fg=.ad\/g=.ad\/h≠j
theorem Du (l:ae) (n:Nat) :gd l .ad .ad 0 0 n [] []:=⟨.nil 0,.nil 0,rfl,rfl,.inl rfl,.inl rfl,.inl rfl⟩
theorem gd.frame {l l' : ae} {p q:U} {m o n:Nat} {idsZ:aR} {opsZ:List aK} (h:gd l p q m o n idsZ opsZ) (j:∀ b,n<=b->b<l.length->l'[b]?=l[b]?) :gd l' p q m o n idsZ opsZ:=by
 refine⟨h.hB.cx ?_,h.iC.cx ?_,h.gN,h.q2,h.oz,h.oA,h.ne⟩
 ·rcases h.oz with e | e
  ·exact .inl e
  ·rcases h.hB.lt with g | g
   ·exact .inl g
   ·exact .inr (j _ e g)
 ·rcases h.oA with e | e
  ·exact .inl e
  ·rcases h.iC.lt with g | g
   ·exact .inl g
   ·exact .inr (j _ e g)
theorem gd.idsZ {l:ae} {t m:U} {D G n:Nat} {idsZ:aR} {opsZ:List aK} (h:gd l t m D G n idsZ opsZ) {X:ag} {x:List B} (Q:X=ao x) (C:X.length=32) (aj:n<=l.length) (ah:idsZ.length<=1000000) :
  ∃ j c3 l',dZ (l++[.q 32 X]) 32 32 t (.Z 32 l.length 0 1 1 32)=some (j,l')/\gd l' j m c3 G n (idsZ++[x]) opsZ/\l.length+1<=l'.length/\∀ b,b<n->l'[b]?=l[b]?:=by
 have T:=du;obtain⟨j,c3,l',H,I,W,J,u,K⟩:=io (by_:=32) (x:=.Z 32 l.length 0 1 1 32) (xs:=[X]) (h.hB.more [aq.q 32 X]) (by simp[cq,C,aI]) (by simp[C]) F F (by rw[T];simp;omega);have o:bq j=false:=by rw[K];simp
 have z:j≠.ad:=fun e=>by rw[e] at o;cases o
 have ai:(l++[aq.q 32 X]).length=l.length+1:=V;have R:n<=c3:=by
  rcases u with e | ⟨O,P⟩ | e
  ·omega
  ·rw[P];exact h.oz.resolve_left O
  ·exact bV e z
 have w:∀ b,b<l.length->t=.ad\/b≠D->l'[b]?=l[b]?:=fun b v S=>by
  rw[J b F S,aV v]
 refine⟨j,c3,l',H,⟨?_,?_,by rw[o];simp,h.q2,.inr R,h.oA,?_⟩,F,fun b v=>?_⟩
 ·rw[cV,dg,lK,<-Q];exact I
 ·refine h.iC.cx ?_;rcases h.iC.lt with e | e
  ·exact .inl e
  ·by_cases g:m=.ad
   ·exact .inl g
   ·refine .inr (w _ e ?_);rcases h.ne with q | q | q
    ·exact .inl q
    ·exact bV q g
    ·exact .inr fun e=>q e.symm
 ·by_cases g:m=.ad
  ·exact .inr (.inl g)
  ·refine .inr (.inr fun e=>?_);have Y:=h.iC.lt.resolve_left g;rcases u with q | ⟨q1,ak⟩ | q
   ·omega
   ·rcases h.ne with p | p | p
    ·exact q1 p
    ·exact g p
    ·exact p F
   ·exact z q
 ·refine w b F ?_;rcases h.oz with e | e
  ·exact .inl e
  ·exact .inr F
theorem gd.opsZ {l:ae} {m u:U} {G H n:Nat} {idsZ:aR} {opsZ:List aK} (h:gd l m u G H n idsZ opsZ) {O:ag} {o:aK} (w:O=aw o) (aj:n<=l.length) (ah:opsZ.length<=1000000) :
  ∃ j c3 l',dZ (l++[.q 11 O]) 11 112 u (.Z 11 l.length 0 1 1 11)=some (j,l')/\gd l' m j G c3 n idsZ (opsZ++[o])/\l.length+1<=l'.length/\∀ b,b<n->l'[b]?=l[b]?:=by
 have W:=du;have D:O.length=11:=by rw[w];rfl
 obtain⟨j,c3,l',I,J,X,K,v,P⟩:=io (by_:=112) (x:=.Z 11 l.length 0 1 1 11) (xs:=[O]) (h.iC.more [aq.q 11 O]) (by simp[cq,D,aI]) (by simp[D]) F F (by rw[W];simp;omega);have t:bq j=false:=by rw[P];simp
 have C:j≠.ad:=fun e=>by rw[e] at t;cases t
 have ai:(l++[aq.q 11 O]).length=l.length+1:=V;have S:n<=c3:=by
  rcases v with e | ⟨Q,R⟩ | e
  ·omega
  ·rw[R];exact h.oA.resolve_left Q
  ·exact bV e C
 have B:∀ b,b<l.length->u=.ad\/b≠H->l'[b]?=l[b]?:=fun b z T=>by
  rw[K b F T,aV z]
 refine⟨j,c3,l',I,⟨?_,?_,h.gN,by rw[t];simp,h.oz,.inr S,?_⟩,F,fun b z=>?_⟩
 ·refine h.hB.cx ?_;rcases h.hB.lt with e | e
  ·exact .inl e
  ·by_cases g:m=.ad
   ·exact .inl g
   ·refine .inr (B _ e ?_);rcases h.ne with q | q | q
    ·exact bV q g
    ·exact .inl q
    ·exact .inr q
 ·rw[cV,dg,lK,<-w];exact J
 ·by_cases g:m=.ad
  ·exact .inl g
  ·refine .inr (.inr fun e=>?_);have Y:=h.hB.lt.resolve_left g;rcases v with q | ⟨q1,ak⟩ | q
   ·omega
   ·rcases h.ne with p | p | p
    ·exact g p
    ·exact q1 p
    ·exact p F
   ·exact C q
 ·refine B b F ?_;rcases h.oA with e | e
  ·exact .inl e
  ·exact .inr F
theorem q9 {z:Nat} {l:ae} {v:U} {j:Nat} {es:List (ag)} (h:aH z l v j es) :v.cells=some [v]:=by cases h<;>rfl
theorem fi (s:b2) :(ah s).cells=some [ah s]:=by cases s<;>rfl
theorem kz (s:b1 aK) :(bA s).cells=some [bA s]:=by cases s<;>rfl
theorem j6 {alZ:Type} {a b c:alZ} {j:Nat} (h:[a,b][j]?=some c) :(j=0/\c=a)\/(j=1/\c=b):=by
 match j,h with
 | 0,h=>left;simpa using h.symm
 | 1,h=>right;simpa using h.symm
 | j+2,h=>simp at h
theorem oJ {alZ:Type} {a c:alZ} {j:Nat} (h:[a][j]?=some c) :j=0/\c=a:=by
 match j,h with
 | 0,h=>simpa using h.symm
 | j+1,h=>simp at h
theorem gd.call {l:ae} {u m:U} {B t n:Nat} {idsZ:aR} {opsZ:List aK} (h:gd l u m B t n idsZ opsZ) {f:cj} {K:cB}
  (z:∀ j,j.length=l.length->(∀ b,b<n->j[b]?=l[b]?)->cM f [.af [ah (cK idsZ),bA (cK opsZ)]] j K) :cM f [.af [u,m]] l K:=by
 obtain⟨C,I,G,O,f1⟩:=w6 (cK idsZ) h.hB (by rw[n1];exact h.gN) (dh _);have D:aH 11 C m t (opsZ.map aw):=by
  refine h.iC.cx ?_;by_cases p:m=.ad
  ·exact .inl p
  ·refine .inr (f1 _ ?_);rcases h.ne with q | q | q
   ·exact .inl q
   ·exact bV q p
   ·exact .inr fun e=>q e.symm
 obtain⟨j,J,H,P,f2⟩:=w6 (cK opsZ) D (by rw[n1];exact h.q2) (dh _);refine tD checked.mixed eD (args2:=[.af [ah (cK idsZ),m]]) I F rfl (fun o c w h1 g=>?_) (tD checked.mixed eD (args2:=[.af [ah (cK idsZ),bA (cK opsZ)]]) J F rfl (fun o c w h1 g=>?_) (z j F fun b Q=>?_))
 ·obtain⟨rfl,rfl⟩:=oJ h1;obtain⟨_,rfl⟩:=oJ g;refine .af _ _ rfl fun o c v h1 g=>?_
  rcases j6 h1 with ⟨rfl,rfl⟩ | ⟨rfl,rfl⟩
  ·rcases j6 g with ⟨_,rfl⟩ | ⟨h,_⟩
   ·exact G
   ·omega
  ·rcases j6 g with ⟨h,_⟩ | ⟨_,rfl⟩
   ·omega
   ·exact .same _
 ·obtain⟨rfl,rfl⟩:=oJ h1;obtain⟨_,rfl⟩:=oJ g;refine .af _ _ rfl fun o c v h1 g=>?_
  rcases j6 h1 with ⟨rfl,rfl⟩ | ⟨rfl,rfl⟩
  ·rcases j6 g with ⟨_,rfl⟩ | ⟨h,_⟩
   ·exact .same _
   ·omega
  ·rcases j6 g with ⟨h,_⟩ | ⟨_,rfl⟩
   ·omega
   ·exact H
 ·rw[f2 b ?_,f1 b ?_]
  ·rcases h.oz with e | e
   ·exact .inl e
   ·exact .inr F
  ·rcases h.oA with e | e
   ·exact .inl e
   ·exact .inr F
def ha (g:aW) :List (List B × aK):=g.idsZ.l.zip g.opsZ.l
def jI (g:aW) (L:aR) (k:Nat) :List (List B × aK):=((ha g).take k).filter fun h=>decide (h.1∈L)
def bL (l:List (List B × aK)) :aW:=⟨cK (l.map (·.1)),cK (l.map (·.2))⟩
def hD (g:aW) (L:aR) :aW:=cy (bL (jI g L (ha g).length))
theorem Vk {g:aW} {L:aR} {k:Nat} {x:List B} {o:aK} (p:g.idsZ.l[k]?=some x) (j:g.opsZ.l[k]?=some o) :jI g L (k+1)=jI g L k++if x∈L then [(x,o)] else []:=by
 have m:(ha g)[k]?=some (x,o):=by unfold ha;rw[tb];exact⟨p,j⟩
 unfold jI;rw[ei,m,lJ];by_cases h:x∈L<;>simp[h]
theorem J9 {g:aW} {L:aR} {k:Nat}:(jI g L k).length<=k:=dC (g2 _ _) (by rw[cL];omega)
theorem zU {g:aW} {p:List B × aK} (h:p∈ha g) :p.1∈g.idsZ.l/\p.2∈g.opsZ.l:=by obtain⟨k,hk⟩:=cp.1 h;unfold ha at hk;rw[tb] at hk;exact⟨cJ hk.1,cJ hk.2⟩
theorem CE {l:List (List B × aK)} (h1:∀ p∈l,p.1.length=32) (o:∀ p∈l,dk p.2) (m:l.length<=1000000) :eE (bL l):=by
 refine⟨fun x j=>?_,fun q g=>?_,?_,?_⟩
 ·unfold bL at j;simp only[dh] at j;obtain⟨p,h,rfl⟩:=cE.1 j;exact h1 p h
 ·unfold bL at g;simp only[dh] at g;obtain⟨p,h,rfl⟩:=cE.1 g;exact o p h
 ·unfold bL;simp only[dh];rw[ce];exact m
 ·unfold bL;simp only[dh];rw[ce];exact m
structure NU (g:aW) (L:b2) (k:Nat) (sgZ:aS) (l:ae) :Prop where
 e5:sgZ 1=ah L
 hP:sgZ 2=.ptr 0 0 2
 iq:sgZ 4=.ptr 1 0 2
 kJ:sgZ 5=.ptr 2 0 2
 lo:sgZ 6=.i6 k
 ex:∃ fg h j m rest,l=.q 2 [ah g.idsZ,bA g.opsZ] ::.q 2 [.ad,.ad] ::.q 2 [fg,h] ::rest/\gd l fg h j m 3 ((jI g L.l k).map (·.1)) ((jI g L.l k).map (·.2))
theorem VX (g:aW) (G:eE g) (bk:g.idsZ.l.length=g.opsZ.l.length) (L:b2) (aR:c5 L) (aS:L.l.length<=1000000) (bl:g.idsZ.l.length<=100000) :aU 191 [cr g,ah L] (cr (hD g L.l)):=by
 apply a2 func191 [];have bi:=bO g.idsZ;have bj:=ip g.opsZ;have aV:=bO L;have aG:bD (.Z 32) (ah g.idsZ)=_:=b9 _;simp[cr,bb];refine bB g.idsZ.l.length (NU g L) ?_ ⟨V,V,V,V,V,.ad,.ad,0,0,[],rfl,by simpa [jI] using Du _ 3⟩;rintro k bf l hk ⟨ax,ay,az,aA,aB,bg,Y,a8,aM,rest,rfl,J⟩;obtain⟨bf,rfl⟩:=gu ax ay az aA aB;clear ax ay az aA aB;have aq:=ci (k:=k) F;have bp:=J9 (g:=g) (L:=L.l) (k:=k);by_cases u:k<g.idsZ.l.length
 ·obtain⟨x,aJ,a7⟩:=aQ u;obtain⟨S,aH,bn⟩:=aQ (l:=g.opsZ.l) (k:=k) F;have aK:=G.idsZ x a7;have m:=bo aK;have aL:=cG x;have K:(aw S).length=11:=rfl;have H:bQ (.Z 32) (ah g.idsZ) _=_:=c8 aJ;have aF:bQ (.Z 11) (bA g.opsZ) _=_:=c8 aH;have C:=nX L aR aS x aK;have w:=Vk (L:=L.l) aJ aH;have I:=lr x L.l 0;obtain⟨qU,aZ⟩:=al (dH x L.l 0);obtain⟨X,aD⟩:=al (ao x);obtain⟨O,aC⟩:=al (aw S);rw[<-aZ] at C I;rw[<-aD] at C m aL H;rw[<-aC] at aF K;have aE:X.take 32=X:=aI F;have aT:O.take 11=O:=aI F;have a6:av (bZ 32 (.int .u8 0)) 0 X=X:=cD (by rw[m];rfl);have bq:av [U.int .u32 0,.ad,.int .u64 0,.int .u8 0,.str [],.int .u8 0,.i6 0,.int .u64 0,.str [],.int .u32 0,.int .u32 0] 0 O=O:=cD (by rw[K];rfl);simp[aG,u,H,m,aE];refine au C (by simp[am,U.ar,aV,aL]) ?_;by_cases v:x∈L.l
  ·have B:0<=qU:=I.2 v;rw[ak v] at w;obtain⟨o,R,br,ag,aj,bh,z⟩:=J.idsZ aD m V (by rw[ce];omega);obtain⟨bd,rfl⟩:=qa (z 0 F) (z 1 F) (z 2 F);simp at ag;have a1:gd (.q 2 [ah g.idsZ,bA g.opsZ] ::.q 2 [.ad,.ad] ::.q 2 [o,Y] ::bd) o Y R aM 3 ((jI g L.l k).map (·.1)++[x]) ((jI g L.l k).map (·.2)):=aj.frame fun b D _=>by
    match b,D with
    | b+3,_=>rfl
   obtain⟨ae,aO,a9,p,t,ap,j⟩:=a1.opsZ aC V (by rw[ce];omega);obtain⟨W,rfl⟩:=qa (j 0 F) (j 1 F) (j 2 F);simp at p;have a3:gd (.q 2 [ah g.idsZ,bA g.opsZ] ::.q 2 [.ad,.ad] ::.q 2 [o,ae] ::W) o ae R aO 3 ((jI g L.l k).map (·.1)++[x]) ((jI g L.l k).map (·.2)++[S]):=t.frame fun b D _=>by
    match b,D with
    | b+3,_=>rfl
   simp[B,H,m,aE,a6,ag];refine bR.bm ?_;simp[q9 aj.hB,av,aF,K,aT,p];refine bR.bm ?_;simp[q9 t.iC,av,aq];exact⟨u,V,V,V,V,V,o,ae,R,aO,W,rfl,by rw[w,cV,cV];exact a3⟩
  ·have B:¬ 0<=qU:=fun h=>v (I.1 h)
   rw[ai v,eJ] at w;simp[B,aq];exact⟨u,V,V,V,V,V,bg,Y,a8,aM,rest,rfl,by rw[w];exact J⟩
 ·have a0:k=g.idsZ.l.length:=F;subst a0;have a4:(ha g).length=g.idsZ.l.length:=by unfold ha;rw[List.length_zip];omega
  have aY:eE (bL (jI g L.l g.idsZ.l.length)):=CE (fun bc P=>G.idsZ _ (zU (gy (dx.1 P).1)).1) (fun bc P=>G.opsZ _ (zU (gy (dx.1 P).1)).2) F;have Q:=z7 _ aY;have a5:hD g L.l=cy (bL (jI g L.l g.idsZ.l.length)):=by unfold hD;rw[a4]
  rw[<-a5] at Q;have bs:=fi (hD g L.l).idsZ;have bt:(bA (hD g L.l).opsZ).cells=some [bA (hD g L.l).opsZ]:=by cases (hD g L.l).opsZ<;>rfl
  have p:=bO (hD g L.l).idsZ;have t:=ip (hD g L.l).opsZ;have ap:=bO (cK ((jI g L.l g.idsZ.l.length).map (·.1)));have j:=ip (cK ((jI g L.l g.idsZ.l.length).map (·.2)));unfold cr bb at Q;simp[aG];refine J.call fun a9 q1 T=>?_
  obtain⟨W,rfl⟩:=qa (T 0 F) (T 1 F) (T 2 F);refine au Q (by simp[am,U.ar,ap,j]) ?_;simp[av];exact aP rfl (show (U.af [ah (hD g L.l).idsZ,bA (hD g L.l).opsZ]).ar=true by simp[U.ar,am,p,t])
def iB (g:aW) :Nat->aR
 | 0=>[]
 | k+1=>iB g k++(hU g.opsZ.l k).ax.l
theorem Dr {g:aW} {x:List B}:∀ {k:Nat},x∈iB g k<->∃ j,j<k/\x∈(hU g.opsZ.l j).ax.l
 | 0=>⟨fun h=>(by cases h),fun ⟨j,o,_⟩=>F⟩
 | k+1=>by
  show x∈iB g k++_<->_;rw[fE,Dr];constructor
  ·rintro (⟨j,h1,m⟩ | h)
   ·exact⟨j,F,m⟩
   ·exact⟨k,F,h⟩
  ·rintro⟨j,h1,m⟩;by_cases e:j=k
   ·subst e;exact .inr m
   ·exact .inl ⟨j,F,m⟩
theorem J8 {g:aW} (h:vx g) {k:Nat} {o:aK} (j:g.opsZ.l[k]?=some o) :o.ax.l.length<=4:=by obtain⟨x,m,_⟩:=aQ (l:=g.idsZ.l) (k:=k) (by rw[h.len];exact (aL.1 j).1);exact p1 (sV (h.H9 k o x j m).1)
theorem Dq {g:aW} (h:vx g) :∀ {k:Nat},k<=g.opsZ.l.length->(iB g k).length<=4*k
 | 0,_=>by simp[iB]
 | k+1,hk=>by
  obtain⟨o,j,_⟩:=aQ (l:=g.opsZ.l) (k:=k) F;have:=Dq h (k:=k) F;have m:=J8 h j;show (iB g k++(hU g.opsZ.l k).ax.l).length<=_;rw[cI,jG j];omega
theorem TR {g:aW} (j:eE g) {k:Nat} (hk:k<=g.opsZ.l.length) :c5 (cK (iB g k)):=fun x h=>by
 rw[dh,Dr] at h;obtain⟨p,t,h⟩:=h;obtain⟨q,m,o⟩:=aQ (l:=g.opsZ.l) (k:=p) F;rw[jG m] at h;exact (j.opsZ q o).idsZ x h
structure Ob (g:aW) (k:Nat) (sgZ:aS) (l:ae) :Prop where
 e5:sgZ 1=.ptr 0 0 2
 iq:sgZ 4=.ad
 kJ:sgZ 5=.i6 k
 ex:∃ v j rest,l=.q 2 [ah g.idsZ,bA g.opsZ] ::rest/\sgZ 3=v/\aH 32 l v j ((iB g k).map ao)/\(v=.ad\/1<=j)/\bq v=(iB g k).isEmpty
structure Oc (g:aW) (w:U) (h:Nat) (k:Nat) (sgZ:aS) (l:ae) :Prop where
 e5:sgZ 1=.ptr 0 0 2
 hQ:sgZ 3=w
 lo:sgZ 6=.i6 k
 ex:∃ v j rest,l=.q 2 [ah g.idsZ,bA g.opsZ] ::rest/\sgZ 4=v/\aH 32 l v j (((g.idsZ.l.take k).filter (ir g)).map ao)/\(v=.ad\/1<=j)/\bq v=((g.idsZ.l.take k).filter (ir g)).isEmpty/\aH 32 l w h ((iB g g.opsZ.l.length).map ao)/\(v=.ad\/w=.ad\/j≠h)
theorem Wa (g:aW) (ae:eE g) (a7:eT g=0) :aU 190 [cr g] (ah (cK (eU g))):=by
 apply a2 func190 [];have aZ:=du;have B:=kR a7;have bt:=B.n60;have bv:=B.len;have aR:bD (.Z 11) (bA g.opsZ)=_:=b9 _;have aP:bD (.Z 32) (ah g.idsZ)=_:=b9 _;simp[cr,bb];refine bB g.opsZ.l.length (Ob g) ?_ ⟨V,V,V,.ad,0,[],rfl,V,.nil 0,.inl rfl,rfl⟩;rintro k aB l hk ⟨C,G,aG,aC,z,rest,rfl,D,aY,I,aS⟩;obtain⟨aB,rfl⟩:=eO C D G aG;clear C D G aG;have o:=ci (k:=k) F;by_cases j:k<g.opsZ.l.length
 ·obtain⟨m,au,bf⟩:=aQ j;have bg:=ae.opsZ m bf;have t:bQ (.Z 11) (bA g.opsZ) _=_:=c8 au;have aT:(aw m).length=11:=rfl;have aK:∀ h,(aw m)[1]'h=ah m.ax:=fun _=>rfl
  have bd:=Dq B hk;have br:=J8 B au;have K:iB g (k+1)=iB g k++m.ax.l:=by show iB g k++(hU g.opsZ.l k).ax.l=_;rw[jG au]
  obtain⟨O,az,o2,P,W,aE,Q⟩:=rW (by_:=32) (pre:=[.q 2 [ah g.idsZ,bA g.opsZ]]) (rest:=rest) aY I (x:=ah m.ax) (xs:=m.ax.l.map ao)
   (by simp[ah]) (fun e a9=>by obtain⟨y,bk,rfl⟩:=cE.1 a9;exact bo (bg.idsZ y bk)) F F (by rw[aZ];simp;omega)
  simp only[iK,h2] at P;obtain⟨bp,aJ⟩:=al (aw m);rw[<-aJ] at t aT;simp only[<-aJ] at aK;simp[aR,j,t,aT,aK,P];refine bR.bm ?_;simp[o];refine⟨j,V,V,V,O,az,o2,rfl,V,?_,by simpa using aE,?_⟩
  ·rw[K,cV];exact W
  ·rw[Q,aS,K];cases iB g k<;>cases m.ax.l<;>simp
 ·have ai:k=g.opsZ.l.length:=F;subst ai;clear hk j o;simp[aR];refine bB g.idsZ.l.length (Oc g aC z) ?_ ⟨V,V,V,.ad,0,rest,rfl,V,.nil 0,.inl rfl,rfl,aY,.inl rfl⟩;rintro k aB l hk ⟨C,D,aH,bn,bl,a4,rfl,G,T,ag,ap,J,ak⟩;obtain⟨aB,rfl⟩:=eO C D G aH;clear C D G aH;have o:=ci (k:=k) F;by_cases j:k<g.idsZ.l.length
  ·obtain⟨x,v,bj⟩:=aQ j;have a1:=ae.idsZ x bj;have w:=bo a1;have a3:=cG x;have t:bQ (.Z 32) (ah g.idsZ) _=_:=c8 v;have bd:=Dq B (aN g.opsZ.l.length);have R:=nX (cK (iB g g.opsZ.l.length)) (TR ae (aN _)) (by rw[dh];omega) x a1;rw[dh] at R;have bh:=J.q.mZ cG (cK (iB g g.opsZ.l.length)) (by rw[n1];exact aS) (dh _);have am:=lr x (iB g g.opsZ.l.length) 0;have K:g.idsZ.l.take (k+1)=g.idsZ.l.take k++[x]:=by rw[ei,v];rfl
   have aO:ir g x=true<->x∉iB g g.opsZ.l.length:=by
    unfold ir lY;rw[bK,Dr];exact⟨fun h ⟨z,I,v⟩=>h z I v,fun h z I v=>h ⟨z,I,v⟩⟩
   obtain⟨qU,bc⟩:=al (dH x (iB g g.opsZ.l.length) 0);obtain⟨X,aL⟩:=al (ao x);rw[<-bc] at R am;rw[<-aL] at R t w a3;have aM:X.take 32=X:=aI F;have bi:av (bZ 32 (.int .u8 0)) 0 X=X:=cD (by rw[w];rfl);simp[aP,j,t,w,aM];refine ig R (.cons bh (.cons (.same _ (by simp[U.ar,a3])) .nil)) rfl ?_;by_cases S:x∈iB g g.opsZ.l.length
   ·have aj:¬ qU<0:=by have:=am.2 S;omega
    have Y:ir g x=false:=by
     cases h:ir g x with
     | false=>rfl
     | true=>exact bV S (aO.1 h)
    have H:(g.idsZ.l.take (k+1)).filter (ir g)=(g.idsZ.l.take k).filter (ir g):=by rw[K,lJ];simp[Y]
    simp[aj,o];exact⟨j,V,V,V,bn,bl,a4,rfl,V,by rw[H];exact T,ag,by rw[H];exact ap,J,ak⟩
   ·have aj:qU<0:=by
     have:¬ 0<=qU:=fun h=>S (am.1 h)
     omega
    have Y:=aO.2 S;have H:(g.idsZ.l.take (k+1)).filter (ir g)=(g.idsZ.l.take k).filter (ir g)++[x]:=by rw[K,lJ];simp[Y]
    have bs:((g.idsZ.l.take k).filter (ir g)).length<=1000000:=dC (g2 _ _) (by rw[cL];omega);obtain⟨O,az,aA,P,W,aE,Q,aF,a5⟩:=io (by_:=32) (x:=.Z 32 (a4.length+1) 0 1 1 32) (xs:=[X]) (T.more [aq.q 32 X]) (by simp[cq,w,aI]) (by simp[w]) F F (by rw[aZ];simp;omega);have ay:bq O=false:=by rw[a5];simp
    have a0:O≠.ad:=fun e=>by rw[e] at ay;cases ay
    have f0:aA[0]?=some (.q 2 [ah g.idsZ,bA g.opsZ]):=by
     rw[Q 0 V (by rcases ag with e | e;exact .inl e;exact .inr F)];rfl
    obtain⟨o2,rfl⟩:∃ o2,aA=.q 2 [ah g.idsZ,bA g.opsZ] ::o2:=by
     cases aA with
     | nil=>simp at f0
     | cons c r=>simp at f0;subst f0;exact⟨r,rfl⟩
    have aD:=P;simp at aD;simp[aj,t,w,aM,bi,aD];refine bR.bm ?_;simp[o];refine⟨j,V,V,V,O,az,o2,rfl,V,?_,?_,by rw[H,ay];simp,?_,?_⟩
    ·rw[H,cV,dg,lK,<-aL];exact W
    ·right;rcases aF with e | ⟨o,a6⟩ | e
     ·simp at e;omega
     ·rw[a6];exact ag.resolve_left o
     ·exact bV e a0
    ·refine J.cx ?_;rcases J.lt with e | e
     ·exact .inl e
     ·by_cases u:aC=.ad
      ·exact .inl u
      ·right;rw[Q z (by simp at e ⊢;omega) (by rcases ak with q | q | q;exact .inl q;exact bV q u;exact .inr fun e=>q e.symm)];exact aV e
    ·by_cases u:aC=.ad
     ·exact .inr (.inl u)
     ·refine .inr (.inr fun e=>?_);have a8:=J.lt.resolve_left u;rcases aF with q | ⟨q1,bw⟩ | q
      ·simp at q a8;omega
      ·rcases ak with p | p | p
       ·exact q1 p
       ·exact u p
       ·exact p F
      ·exact a0 q
  ·have ai:k=g.idsZ.l.length:=F;rw[ai,e0] at T ap;simp[aP,j];exact T.q.gP cG (cK (eU g)) (by rw[ap,n1];rfl) (dh _)
theorem gd.Io {l:ae} {m o:U} {C H n:Nat} {idsZ:aR} {opsZ:List aK} (h:gd l m o C H n idsZ opsZ) {X:ag} {x:List B} (P:X=ao x) (G:X.length=32) {c:Nat} (Q:l[c]?=some (.q 32 X)) (W:n<=l.length) (V:idsZ.length<=1000000) :
  ∃ j c3 l',dZ l 32 32 m (.Z 32 c 0 1 1 32)=some (j,l')/\gd l' j o c3 H n (idsZ++[x]) opsZ/\l.length<=l'.length/\(∀ b,b<l.length->m=.ad\/b≠C->l'[b]?=l[b]?)/\(l.length<=c3\/(m≠.ad/\c3=C)):=by
 have S:=du;obtain⟨j,c3,l',I,J,K,D,t,O⟩:=io (by_:=32) (x:=.Z 32 c 0 1 1 32) (xs:=[X]) h.hB (by simp[cq,Q,G,aI]) (by simp[G]) F F (by rw[S];simp;omega);have w:bq j=false:=by rw[O];simp
 have z:j≠.ad:=fun e=>by rw[e] at w;cases w
 have R:n<=c3:=by
  rcases t with e | ⟨u,v⟩ | e
  ·omega
  ·rw[v];exact h.oz.resolve_left u
  ·exact bV e z
 refine⟨j,c3,l',I,⟨?_,?_,by rw[w];simp,h.q2,.inr R,h.oA,?_⟩,K,D,?_⟩
 ·rw[cV,dg,lK,<-P];exact J
 ·refine h.iC.cx ?_;rcases h.iC.lt with e | e
  ·exact .inl e
  ·by_cases g:o=.ad
   ·exact .inl g
   ·refine .inr (D _ e ?_);rcases h.ne with q | q | q
    ·exact .inl q
    ·exact bV q g
    ·exact .inr fun e=>q e.symm
 ·by_cases g:o=.ad
  ·exact .inr (.inl g)
  ·refine .inr (.inr fun e=>?_);have T:=h.iC.lt.resolve_left g;rcases t with q | ⟨q1,Y⟩ | q
   ·omega
   ·rcases h.ne with p | p | p
    ·exact q1 p
    ·exact g p
    ·exact p F
   ·exact z q
 ·rcases t with e | ⟨u,v⟩ | e
  ·exact .inl e
  ·exact .inr ⟨u,v⟩
  ·exact bV e z
theorem gd.JC {l:ae} {m u:U} {D G n:Nat} {idsZ:aR} {opsZ:List aK} (h:gd l m u D G n idsZ opsZ) {O:ag} {o:aK} (z:O=aw o) {c:Nat} (R:l[c]?=some (.q 11 O)) (X:n<=l.length) (W:opsZ.length<=1000000) :
  ∃ j c3 l',dZ l 11 112 u (.Z 11 c 0 1 1 11)=some (j,l')/\gd l' m j D c3 n idsZ (opsZ++[o])/\l.length<=l'.length/\(∀ b,b<l.length->u=.ad\/b≠G->l'[b]?=l[b]?):=by
 have T:=du;have C:O.length=11:=by rw[z];rfl
 obtain⟨j,c3,l',H,I,J,v,w,K⟩:=io (by_:=112) (x:=.Z 11 c 0 1 1 11) (xs:=[O]) h.iC (by simp[cq,R,C,aI]) (by simp[C]) F F (by rw[T];simp;omega);have t:bq j=false:=by rw[K];simp
 have B:j≠.ad:=fun e=>by rw[e] at t;cases t
 have S:n<=c3:=by
  rcases w with e | ⟨P,Q⟩ | e
  ·omega
  ·rw[Q];exact h.oA.resolve_left P
  ·exact bV e B
 refine⟨j,c3,l',H,⟨?_,?_,h.gN,by rw[t];simp,h.oz,.inr S,?_⟩,J,v⟩
 ·refine h.hB.cx ?_;rcases h.hB.lt with e | e
  ·exact .inl e
  ·by_cases g:m=.ad
   ·exact .inl g
   ·refine .inr (v _ e ?_);rcases h.ne with q | q | q
    ·exact bV q g
    ·exact .inl q
    ·exact .inr q
 ·rw[cV,dg,lK,<-z];exact I
 ·by_cases g:m=.ad
  ·exact .inl g
  ·refine .inr (.inr fun e=>?_);have V:=h.hB.lt.resolve_left g;rcases w with q | ⟨q1,Y⟩ | q
   ·omega
   ·rcases h.ne with p | p | p
    ·exact g p
    ·exact q1 p
    ·exact p F
   ·exact B q
structure cf where
 aj:b1 aW
 bI:b2
 bN:Int
def dn (s:b1 aW) :U:=b4 2 bb s
def bG (s:cf) :ag:=[dn s.aj,ah s.bI,.i6 s.bN]
structure gH (s:cf) :Prop where
 aj:∀ g∈s.aj.l,eE g/\g.idsZ.l.length<=100/\g.opsZ.l.length<=100
 ka:s.aj.l.length<=10
 bI:c5 s.bI
 nQ:s.bI.l.length<=1000000
theorem kC (s:b1 aW) :(dn s).ar=true:=pD nB s
theorem mG (s:cf) :am (bG s)=true:=by simp[bG,am,U.ar,kC,bO]
def iQ (p:aW) (x:List B) :Option aK:=if 0<=dH x p.idsZ.l 0/\dH x p.idsZ.l 0<(p.opsZ.l.length:Int) then p.opsZ.l[(dH x p.idsZ.l 0).toNat]? else none
def dp (l:List aW) (k:Nat) :aW:=l.getD k ⟨none,none⟩
theorem dq {l:List aW} {k:Nat} {g:aW} (h:l[k]?=some g) :dp l k=g:=by unfold dp;rw[gw,h];rfl
def gv (ps:List aW) (x:List B) :Nat->List (List B × aK)
 | 0=>[]
 | k+1=>gv ps x k++match iQ (dp ps k) x with | some g=>[(x,g)] | none=>[]
def hF (ps:List aW) (idsZ:aR) :Nat->List (List B × aK)
 | 0=>[]
 | i+1=>hF ps idsZ i++gv ps (bx idsZ i) ps.length
def g6 (ps:List aW) :Nat->aR
 | 0=>[]
 | k+1=>g6 ps k++(dp ps k).idsZ.l
def fw (s:cf) :aR:=uS (g6 s.aj.l s.aj.l.length)
def bC (s:cf) :List (List B × aK):=hF s.aj.l (fw s) (fw s).length
def ct (s:cf) :aW:=cy (bL (bC s))
theorem BK {ps:List aW} {x:List B}:∀ {k:Nat},k<=ps.length->(x∈g6 ps k<->∃ j p,j<k/\ps[j]?=some p/\x∈p.idsZ.l)
 | 0,_=>⟨fun h=>(by cases h),fun ⟨j,p,t,_⟩=>F⟩
 | k+1,hk=>by
  obtain⟨p,m,_⟩:=aQ (l:=ps) (k:=k) F;show x∈g6 ps k++(dp ps k).idsZ.l<->_;rw[fE,BK F,dq m];constructor
  ·rintro (⟨j,q,h1,g⟩ | h)
   ·exact⟨j,q,F,g⟩
   ·exact⟨k,p,F,m,h⟩
  ·rintro⟨j,q,h1,g,o⟩;by_cases e:j=k
   ·subst e;rw[m] at g;obtain rfl:=cc g;exact .inr o
   ·exact .inl ⟨j,q,F,g,o⟩
theorem ye {s:cf} (h:gH s) :∀ {k:Nat},k<=s.aj.l.length->(g6 s.aj.l k).length<=100*k
 | 0,_=>by simp[g6]
 | k+1,hk=>by
  obtain⟨m,g,j⟩:=aQ (l:=s.aj.l) (k:=k) F;have:=ye h (k:=k) F;have o:=(h.aj m j).2.1;show (g6 s.aj.l k++(dp s.aj.l k).idsZ.l).length<=_;rw[cI,dq g];omega
theorem F7 {s:cf} (h:gH s) {k:Nat} (hk:k<=s.aj.l.length) :c5 (cK (g6 s.aj.l k)):=fun x g=>by
 rw[dh,BK hk] at g;obtain⟨o,m,_,j,g⟩:=g;exact (h.aj m (cJ j)).1.idsZ x g
theorem ML {s:cf} (h:gH s) :(fw s).length<=1000:=by unfold fw uS;have h1:=EE (l:=g6 s.aj.l s.aj.l.length) (k:=(g6 s.aj.l s.aj.l.length).length);have g:=ye h (aN s.aj.l.length);have j:=h.ka;omega
theorem MM {s:cf} (h:gH s) :c5 (cK (fw s)):=fun x g=>by
 rw[dh] at g;unfold fw at g;rw[LD] at g;exact F7 h (aN _) x (by rw[dh];exact g)
theorem OD {p:aW} {x:List B} {o:aK} (h:iQ p x=some o) :o∈p.opsZ.l:=by
 unfold iQ at h;split at h
 ·exact cJ h
 ·cases h
theorem AZ {ps:List aW} {x:List B} {q:List B × aK}:∀ {k:Nat},k<=ps.length->(q∈gv ps x k<->∃ j p,j<k/\ps[j]?=some p/\iQ p x=some q.2/\q.1=x)
 | 0,_=>⟨fun h=>(by cases h),fun ⟨j,p,w,_⟩=>F⟩
 | k+1,hk=>by
  obtain⟨p,o,_⟩:=aQ (l:=ps) (k:=k) F;show q∈gv ps x k++(match iQ (dp ps k) x with | some v=>[(x,v)] | none=>[])<->_;rw[fE,AZ F,dq o];constructor
  ·rintro (⟨j,r,h1,g⟩ | h)
   ·exact⟨j,r,F,g⟩
   ·cases m:iQ p x with
    | none=>rw[m] at h;cases h
    | some v=>
     rw[m] at h;rw[fQ.1 h];exact⟨k,p,F,o,m,rfl⟩
  ·rintro⟨j,r,h1,g,t,u⟩;by_cases e:j=k
   ·subst e;rw[o] at g;obtain rfl:=cc g;right;rw[t];simp[<-u]
   ·exact .inl ⟨j,r,F,g,t,u⟩
theorem AY {ps:List aW} {idsZ:aR} {q:List B × aK}:∀ {i:Nat},i<=idsZ.length->(q∈hF ps idsZ i<->∃ a,a<i/\idsZ[a]?=some q.1/\∃ p∈ps,iQ p q.1=some q.2)
 | 0,_=>⟨fun h=>(by cases h),fun ⟨u,o,_⟩=>F⟩
 | i+1,w=>by
  obtain⟨x,t,_⟩:=aQ (l:=idsZ) (k:=i) F;show q∈hF ps idsZ i++gv ps (bx idsZ i) ps.length<->_;rw[fE,AY F,dI t,AZ (aN _)];constructor
  ·rintro (⟨a,h1,g⟩ | ⟨u,p,h1,g,m,j⟩)
   ·exact⟨a,F,g⟩
   ·exact⟨i,F,by rw[j];exact t,p,cJ g,by rw[j];exact m⟩
  ·rintro⟨a,h1,g,p,m,j⟩;by_cases e:a=i
   ·subst e;rw[t] at g;have v:=cc g;obtain⟨u,o⟩:=cp.1 m;exact .inr ⟨u,p,(aL.1 o).1,o,by rw[v];exact j,v.symm⟩
   ·exact .inl ⟨a,F,g,p,m,j⟩
theorem MQ {ps:List aW} {x:List B}:∀ {k:Nat},(gv ps x k).length<=k
 | 0=>by simp[gv]
 | k+1=>by
  have:=MQ (ps:=ps) (x:=x) (k:=k);show (gv ps x k++(match iQ (dp ps k) x with | some g=>[(x,g)] | none=>[])).length<=_;rw[cI];split<;>simp<;>omega
theorem MO {ps:List aW} {idsZ:aR}:∀ {i:Nat},(hF ps idsZ i).length<=ps.length*i
 | 0=>by simp[hF]
 | i+1=>by
  have h1:=MO (ps:=ps) (idsZ:=idsZ) (i:=i);have g:=MQ (ps:=ps) (x:=bx idsZ i) (k:=ps.length);show (hF ps idsZ i++gv ps (bx idsZ i) ps.length).length<=_;rw[cI,Nat.mul_succ];omega
theorem Zj {s:cf} (h:gH s) :(bC s).length<=10000:=by have h1:=MO (ps:=s.aj.l) (idsZ:=fw s) (i:=(fw s).length);have g:=ML h;have j:s.aj.l.length*(fw s).length<=10*1000:=Nat.mul_le_mul h.ka g;unfold bC;omega
theorem u4 {s:cf} (h:gH s) :eE (bL (bC s)):=by
 have j:∀ q∈bC s,q.1.length=32/\dk q.2:=fun q g=>by
  obtain⟨a,h1,m,t,o,p⟩:=(AY (aN _)).1 g;exact⟨MM h q.1 (by rw[dh];exact cJ m),(h.aj t o).1.opsZ _ (OD p)⟩
 exact CE (fun q g=>(j q g).1) (fun q g=>(j q g).2) (by have:=Zj h;omega)
theorem nM (s:b1 aW) :bD (.Z 2) (dn s)=some (.i6 s.l.length):=by simp[dn]
theorem l3 {s:b1 aW} {k:Nat} {g:aW} (h:s.l[k]?=some g) :bQ (.Z 2) (dn s) (.i6 (k:Int))=some (.b6 (bb g) 0):=by simp[dn,h]
theorem JJ {alZ:Type} {z:Nat} {enc:alZ->ag} {l:ae} {v:U} {j:Nat} {xs:List alZ} (s:b1 alZ) (h:aH z l v j (xs.map enc)) (q:bq v=s.isNone) (t:s.l=xs) {f:cj} {K:cB}
  (p:∀ g,g.length=l.length->(∀ b,v=.ad\/b≠j->g[b]?=l[b]?)->cM f [b4 z enc s] g K) :cM f [v] l K:=by obtain⟨u,B,w,m,f1⟩:=w6 s h q t;refine tD checked.mixed eD (args2:=[b4 z enc s]) B F rfl (fun j c C h1 o=>?_) (p u m f1);obtain⟨rfl,rfl⟩:=oJ h1;obtain⟨_,rfl⟩:=oJ o;exact w
structure Og (s:cf) (k:Nat) (sgZ:aS) (l:ae) :Prop where
 e5:sgZ 1=.ptr 0 0 3
 hP:sgZ 2=.ptr 1 0 2
 iq:sgZ 4=.i6 k
 ex:∃ v j rest,l=.q 3 (bG s) ::.q 2 [.ad,.ad] ::rest/\sgZ 3=v/\aH 32 l v j ((g6 s.aj.l k).map ao)/\(v=.ad\/2<=j)/\bq v=(g6 s.aj.l k).isEmpty
structure F2 (s:cf) (b:Nat) (i m:Nat) (out:List (List B × aK)) (sgZ:aS) (l:ae) :Prop where
 e5:sgZ 1=.ptr 0 0 3
 hP:sgZ 2=.ptr 1 0 2
 hQ:sgZ 3=ah (cK (fw s))
 kJ:sgZ 5=.ptr b 0 2
 lo:sgZ 6=.i6 i
 lA:l[0]?=some (.q 3 (bG s))
 q1:l[1]?=some (.q 2 [.ad,.ad])
 ex:∃ fg g h j,l[b]?=some (.q 2 [fg,g])/\gd l fg g h j (b+1) (out.map (·.1)) (out.map (·.2))/\out.length<=m
theorem Aa (s:cf) (u:gH s) :aU 76 [.af (bG s)] (cr (ct s)):=by
 apply a2 func76 [[],cT 0 7++cT 8 12++[[7,19,18,15,11,9],[21],[20]]];have cw:=du;have aS:=nM s.aj;have cZ:=u.ka;have P:(bG s).length=3:=rfl;have R:∀ h,(bG s)[0]'h=dn s.aj:=fun _=>rfl
 simp[P];refine bB s.aj.l.length (Og s) ?_ ⟨V,V,V,.ad,0,[],rfl,V,.nil 0,.inl rfl,rfl⟩;rintro k G l hk ⟨t,I,bp,c6,c4,rest,rfl,J,bg,aR,bd⟩;obtain⟨G,rfl⟩:=eO t I J bp;clear t I J bp;have aH:=ci (k:=k) F;by_cases m:k<s.aj.l.length
 ·obtain⟨g,aA,aW⟩:=aQ m;have aY:=(u.aj g aW).1;have c1:=(u.aj g aW).2.1;have az:=l3 aA;have cd:=ye u (ks m);have v:g6 s.aj.l (k+1)=g6 s.aj.l k++g.idsZ.l:=by show g6 s.aj.l k++(dp s.aj.l k).idsZ.l=_;rw[dq aA]
  have a3:∀ h,(bb g)[0]'h=ah g.idsZ:=fun _=>rfl
  have ax:(bb g).length=2:=rfl;obtain⟨cN,cB,cJ,aD,aE,bk,aF⟩:=rW (by_:=32) (pre:=[.q 3 (bG s),.q 2 [.ad,.ad]]) (rest:=rest) bg aR (x:=ah g.idsZ) (xs:=g.idsZ.l.map ao)
   (by simp[ah]) (fun e cm=>by obtain⟨y,cA,rfl⟩:=cE.1 cm;exact bo (aY.idsZ y cA)) F F (by rw[cw];simp;omega)
  simp only[iK,h2] at aD;simp[P,R,aS,m,az,a3,ax,aD];refine bR.bm ?_;simp[aH];refine⟨m,V,V,V,cN,cB,cJ,rfl,V,?_,by simpa using bk,?_⟩
  ·rw[v,cV];exact aE
  ·rw[aF,bd,v];cases g6 s.aj.l k<;>cases g.idsZ.l<;>simp
 ·have bc:k=s.aj.l.length:=F;subst bc;clear hk m aH;have cd:=ye u (aN s.aj.l.length);have bh:=V9 (cK (g6 s.aj.l s.aj.l.length)) (F7 u (aN _)) (by rw[dh];omega);rw[dh] at bh;change i8 _ _ _ _ (ah (cK (fw s))) at bh;have ck:=bO (cK (g6 s.aj.l s.aj.l.length));have cY:=ML u;have cn:=MM u;simp[P,R,aS];refine JJ (cK (g6 s.aj.l s.aj.l.length)) bg (by rw[n1];exact bd) (dh _) (fun w Y f2=>?_);have cF:w[0]?=some (.q 3 (bG s)):=by rw[f2 0 (by rcases aR with e | e;exact .inl e;exact .inr F)];rfl
  have cH:w[1]?=some (.q 2 [.ad,.ad]):=by rw[f2 1 (by rcases aR with e | e;exact .inl e;exact .inr F)];rfl
  have aO:2<=w.length:=by rw[Y];simp
  clear f2 bg aR bd;refine au bh (by simp[am];exact ck) ?_;simp;obtain⟨b,a6⟩:=al (w.length);have cU:2<=b:=F;have bE:bD (.Z 32) (ah (cK (fw s)))=some (.i6 (fw s).length):=by simp[ah,dh]
  refine bB (fw s).length (fun i G l=>F2 s b i (10*i) (hF s.aj.l (fw s) i) G l/\b<l.length) ?_ ⟨⟨V,V,V,by simp[a6],V,by rw[aV F];exact cF,by rw[aV F];exact cH,.ad,.ad,0,0,by rw[a6];simp,by simpa [hF] using Du _ _,by simp[hF]⟩,by simp[a6]⟩;rintro i G l cX ⟨⟨t,I,J,ag,ap,j,q1,p,H,kM,ls,D,o,bf⟩,K⟩;obtain⟨G,rfl⟩:=gu t I J ag ap;clear t I J ag ap;have aH:=ci (k:=i) F;by_cases a8:i<(fw s).length
  ·obtain⟨x,bN,cz⟩:=aQ a8;have bS:=cn x (by rw[dh];exact cz);have aB:=bo bS;have bT:=cG x;have a9:bQ (.Z 32) (ah (cK (fw s))) (.i6 (i:Int))=some (.b6 (ao x) 0):=by simp[ah,dh,bN]
   obtain⟨X,a4⟩:=al (ao x);have cc:X=ao x:=a4;rw[<-a4] at aB bT a9;have bw:X.take 32=X:=aI F;have cy:av (bZ 32 (.int .u8 0)) 0 X=X:=cD (by rw[aB];rfl);simp[bE,a8];refine bB s.aj.l.length (fun k G l=>(F2 s b i (10*i+k) (hF s.aj.l (fw s) i++gv s.aj.l x k) G l/\G 7=.i6 k)/\b<l.length) ?_ ⟨⟨⟨V,V,V,V,V,j,q1,p,H,kM,ls,D,by simpa [gv] using o,by simpa [gv] using bf⟩,V⟩,K⟩;clear o bf D j q1 K;rintro k G l hk ⟨⟨⟨t,I,J,ag,ap,j,q1,p,H,kM,ls,D,o,bf⟩,bq⟩,K⟩;obtain⟨G,rfl⟩:=n4 t I J ag ap bq;clear t I J ag ap bq;have Y:=ci (k:=k) F;by_cases m:k<s.aj.l.length
   ·obtain⟨g,aA,aW⟩:=aQ m;obtain⟨aY,c2,c3⟩:=u.aj g aW;have az:=l3 aA;have a3:∀ h,(bb g)[0]'h=ah g.idsZ:=fun _=>rfl
    have bs:∀ h,(bb g)[1]'h=bA g.opsZ:=fun _=>rfl
    have ax:(bb g).length=2:=rfl;have cl:=bO g.idsZ;have bF:bD (.Z 11) (bA g.opsZ)=_:=b9 _;have a5:=nX g.idsZ aY.idsZ aY.li x bS;have v:gv s.aj.l x (k+1)=gv s.aj.l x k++match iQ g x with | some C=>[(x,C)] | none=>[]:=by
     show gv s.aj.l x k++(match iQ (dp s.aj.l k) x with | some C=>[(x,C)] | none=>[])=_;rw[dq aA]
    have aM:iQ g x=if 0<=dH x g.idsZ.l 0/\dH x g.idsZ.l 0<(g.opsZ.l.length:Int) then g.opsZ.l[(dH x g.idsZ.l 0).toNat]? else none:=rfl
    obtain⟨Q,cp⟩:=al (dH x g.idsZ.l 0);rw[<-cp] at a5 aM;rw[<-a4] at a5;have b1:0<l.length:=a1 j;simp[j,P,R,aS,m,az,a3,ax,a9,aB,bw];refine au a5 (by simp[am,U.ar,cl,bT]) ?_;by_cases S:0<=Q/\Q<(g.opsZ.l.length:Int)
    ·obtain⟨h1,aJ⟩:=S;obtain⟨a,rfl⟩:=nh h1;have ca:a<g.opsZ.l.length:=F;obtain⟨C,bI,c0⟩:=aQ ca;rw[ak ⟨h1,aJ⟩,fo,bI] at aM;rw[aM] at v;have bz:bQ (.Z 11) (bA g.opsZ) _=_:=c8 bI;have aT:(aw C).length=11:=rfl;obtain⟨O,bt⟩:=al (aw C);rw[<-bt] at bz aT;have bv:O.take 11=O:=aI F;have cx:av [U.int .u32 0,.ad,.int .u64 0,.int .u8 0,.str [],.int .u8 0,.i6 0,.int .u64 0,.str [],.int .u32 0,.int .u32 0] 0 O=O:=cD (by rw[aT];rfl);have cS:l.length<=1000000000000\/True:=.inr trivial;have cO:∀ z:ae,(l++z)[0]?=some (.q 3 (bG s)):=fun z=>by rw[aV b1];exact j
     have cQ:∀ (z:ae) (h:0<(l++z).length),(l++z)[0]'h=.q 3 (bG s):=fun z h=>(aL.1 (cO z)).2
     have cP:∀ z:ae,(l++z)[b]?=some (.q 2 [p,H]):=fun z=>by rw[aV K];exact D
     have cg:b+1<=(l++[aq.q 32 X,.q 11 O]).length:=by simp;omega
     have cs:gd (l++[aq.q 32 X,.q 11 O]) p H kM ls (b+1) ((hF s.aj.l (fw s) i++gv s.aj.l x k).map (·.1)) ((hF s.aj.l (fw s) i++gv s.aj.l x k).map (·.2)):=o.frame fun c _ ay=>aV ay
     have bJ:(hF s.aj.l (fw s) i++gv s.aj.l x k).length<=1000000:=F;obtain⟨b5,bW,aC,aD,aE,bk,aF,cR⟩:=cs.Io (c:=l.length) cc aB V cg (by rw[ce];exact bJ);have cC:=o.hB.lt;have f:∀ c,c<l.length->p=.ad\/c≠kM->aC[c]?=l[c]?:=fun c ay cv=>by rw[aF c (by simp;omega) cv,aV ay]
     have bn:aC[l.length+1]?=some (.q 11 O):=by
      rw[aF (l.length+1) V (by rcases cC with e | e;exact .inl e;exact .inr F)];simp
     have a7:p=.ad\/b+1<=kM:=o.oz;have f0:aC[0]?=some (.q 3 (bG s)):=by rw[f 0 b1 (by rcases a7 with e | e;exact .inl e;exact .inr F)];exact j
     have f1:aC[1]?=some (.q 2 [.ad,.ad]):=by rw[f 1 (a1 q1) (by rcases a7 with e | e;exact .inl e;exact .inr F)];exact q1
     have a0:aC[b]?=some (.q 2 [p,H]):=by rw[f b K (by rcases a7 with e | e;exact .inl e;exact .inr F)];exact D
     have ch:=a1 a0;obtain⟨b7,bX,w,aZ,aG,bl,W⟩:=aE.JC (c:=l.length+1) bt bn F (by rw[ce];exact bJ);have aO:H=.ad\/b+1<=ls:=o.oA;have b8:w[0]?=some (.q 3 (bG s)):=by rw[W 0 (a1 f0) (by rcases aO with e | e;exact .inl e;exact .inr F)];exact f0
     have t:w[1]?=some (.q 2 [.ad,.ad]):=by rw[W 1 (a1 f1) (by rcases aO with e | e;exact .inl e;exact .inr F)];exact f1
     have br:w[b]?=some (.q 2 [p,H]):=by rw[W b ch (by rcases aO with e | e;exact .inl e;exact .inr F)];exact a0
     have cj:=a1 br;have gs:∀ y:aq,(w.set b y)[b]?=some y:=fun y=>bY cj
     simp[j,D,cQ,cP,P,R,az,bs,ax,bF,h1,aJ,a9,aB,bw,cy,bz,aT,bv,cx,aD];refine bR.bm ?_;have cb:(bb g)[1]?=some (bA g.opsZ):=rfl;simp[f0,a0,bn,P,R,aZ,aT,bv,cb];refine bR.bm ?_;have b2:=q9 aE.hB;have b3:=q9 aG.iC;simp[br,gs,b2,b3,av,Y];have bM:hF s.aj.l (fw s) i++gv s.aj.l x (k+1)=(hF s.aj.l (fw s) i++gv s.aj.l x k)++[(x,C)]:=by rw[v,hi]
     have cu:∀ y:aq,gd (w.set b y) b5 b7 bW bX (b+1) ((hF s.aj.l (fw s) i++gv s.aj.l x (k+1)).map (·.1)) ((hF s.aj.l (fw s) i++gv s.aj.l x (k+1)).map (·.2)):=fun y=>by
      have bH:∀ T:List (List B × aK),(T++[(x,C)]).map (·.1)=T.map (·.1)++[x]/\(T++[(x,C)]).map (·.2)=T.map (·.2)++[C]:=fun T=>⟨by rw[cV];rfl,by rw[cV];rfl⟩
      rw[bM,(bH _).1,(bH _).2];exact aG.frame fun c ay _=>bj (Nat.ne_of_lt ay)
     exact⟨m,⟨V,V,V,V,V,by rw[bj F];exact b8,by rw[bj F];exact t,b5,b7,bW,bX,gs _,cu _,by rw[bM,cI,xY];omega⟩,F⟩
    ·have cq:iQ g x=none:=by rw[aM,ai S]
     rw[cq,eJ] at v;have cW:(decide (0<=Q)&&decide (Q<(g.opsZ.l.length:Int)))=false:=by
      cases h:(decide (0<=Q)&&decide (Q<(g.opsZ.l.length:Int))) with
      | false=>rfl
      | true=>rw[bU,bK,bK] at h;exact bV h S
     by_cases h1:0<=Q
     ·have aJ:¬ Q<(g.opsZ.l.length:Int):=fun h=>S ⟨h1,h⟩
      simp[j,P,R,az,bs,ax,bF,h1,aJ,Y];exact⟨m,⟨V,V,V,V,V,j,q1,p,H,kM,ls,D,by rw[v];exact o,by rw[v];omega⟩,K⟩
     ·simp[h1,Y];exact⟨m,⟨V,V,V,V,V,j,q1,p,H,kM,ls,D,by rw[v];exact o,by rw[v];omega⟩,K⟩
   ·have bc:k=s.aj.l.length:=F;subst bc;have bL:hF s.aj.l (fw s) (i+1)=hF s.aj.l (fw s) i++gv s.aj.l x s.aj.l.length:=by
     show hF s.aj.l (fw s) i++gv s.aj.l (bx (fw s) i) s.aj.l.length=_;rw[dI bN]
    simp[j,P,R,aS,aH];exact⟨a8,⟨V,V,V,V,V,j,q1,p,H,kM,ls,D,by rw[bL];exact o,by rw[bL];omega⟩,K⟩
  ·have S:i=(fw s).length:=F;subst S;have bi:=z7 _ (u4 u);change i8 _ _ _ _ (cr (ct s)) at bi;have b2:=fi (ct s).idsZ;have b3:=kz (ct s).opsZ;have aZ:=bO (ct s).idsZ;have aG:=ip (ct s).opsZ;have bl:=bO (cK ((bC s).map (·.1)));have W:=ip (cK ((bC s).map (·.2)));unfold cr bb at bi;simp[bE,D];refine o.call fun b0 c5 cL=>?_
   have b4:b0[1]?=some (.q 2 [.ad,.ad]):=by rw[cL 1 F];exact q1
   have cM:=a1 b4;have gs:∀ y:aq,(b0.set 1 y)[1]?=some y:=fun y=>bY cM
   refine au bi (by simp[am,U.ar];exact⟨bl,W⟩) ?_;simp[b4,gs,av];exact aP rfl (show (U.af [ah (ct s).idsZ,bA (ct s).opsZ]).ar=true by simp[U.ar,am,aZ,aG])
theorem UQ {alZ:Type} {z:Nat} {enc:alZ->ag} {l:ae} {a v:U} {j:Nat} {xs:List alZ} (s:b1 alZ) (h:aH z l v j (xs.map enc)) (q:bq v=s.isNone) (t:s.l=xs) {f:cj} {K:cB}
  (p:∀ g,g.length=l.length->(∀ b,v=.ad\/b≠j->g[b]?=l[b]?)->cM f [a,b4 z enc s] g K) :cM f [a,v] l K:=by
 obtain⟨u,B,w,o,f1⟩:=w6 s h q t;refine tD checked.mixed eD (args2:=[a,b4 z enc s]) B F rfl (fun j c C h1 m=>?_) (p u o f1);rcases j6 h1 with ⟨rfl,rfl⟩ | ⟨rfl,rfl⟩
 ·rcases j6 m with ⟨_,rfl⟩ | ⟨h,_⟩
  ·exact .same _
  ·omega
 ·rcases j6 m with ⟨h,_⟩ | ⟨_,rfl⟩
  ·omega
  ·exact w
def num (x:List B) (n:Nat) :Nat:=(x.getD 0 0).toNat % n
def j9 (g:aW) (n i:Nat) :aR:=g.idsZ.l.filter fun x=>decide (num x n=i)
def iV (g:aW) (n:Nat) :Nat->List aW
 | 0=>[]
 | i+1=>iV g n i++[hD g (j9 g n i)]
theorem pV (g:aW) (n:Nat) :∀ i,(iV g n i).length=i
 | 0=>rfl
 | i+1=>by show (iV g n i++_).length=_;rw[cI,pV g n i];rfl
theorem zo (g:aW) (n:Nat) :∀ {i k:Nat},k<i->(iV g n i)[k]?=some (hD g (j9 g n k))
 | i+1,k,hk=>by
  show (iV g n i++_)[k]?=_;by_cases h:k<i
  ·rw[aV (by rw[pV];exact h)];exact zo g n h
  ·have:k=i:=F;subst this;rw[eu (by rw[pV];exact aN _),pV];simp
def hz (g:aW) (n:Nat) :cf:=⟨some (iV g n n),cK (eU g),g.idsZ.l.length⟩
theorem Jn {x:List B} (g:x.length=32) :∃ b r,x=b::r/\num x=fun n=>b.toNat % n:=by
 cases x with
 | nil=>cases g
 | cons b r=>exact⟨b,r,rfl,rfl⟩
theorem DD {z by_:Nat} {l:ae} {w:U} {g n c:Nat} {es:List (ag)} {X:ag} (h:aH z l w g es) (J:w=.ad\/n<=g) (R:n<=l.length) (O:l[c]?=some (.q z X)) (v:X.length=z) (I:z≠0) (K:by_≠0) (P:(es.length+1)*by_<=dj) :
  ∃ w' j l',dZ l z by_ w (.Z z c 0 1 1 z)=some (w',l')/\aH z l' w' j (es++[X])/\bq w'=false/\n<=j/\l.length<=l'.length/\(∀ b,b<l.length->w=.ad\/b≠g->l'[b]?=l[b]?)/\(l.length<=j\/(w≠.ad/\j=g)):=by
 obtain⟨t,Q,l',C,D,F,G,u,H⟩:=io (by_:=by_) (x:=.Z z c 0 1 1 z) (xs:=[X]) h (by simp[cq,O,v,aI]) (by simp[v]) I K (by simpa using P);have p:bq t=false:=by rw[H];simp
 have B:t≠.ad:=fun e=>by rw[e] at p;cases p
 refine⟨t,Q,l',C,D,p,?_,F,G,?_⟩
 ·rcases u with e | ⟨m,o⟩ | e
  ·omega
  ·rw[o];exact J.resolve_left m
  ·exact bV e B
 ·rcases u with e | ⟨m,o⟩ | e
  ·exact .inl e
  ·exact .inr ⟨m,o⟩
  ·exact bV e B
theorem UW {z:Nat} {l l' : ae} {w v:U} {zd h j:Nat} {es:List (ag)} (o:aH z l v j es) (ne:w=.ad\/v=.ad\/zd≠j) (u:∀ b,b<l.length->w=.ad\/b≠zd->l'[b]?=l[b]?) (t:l.length<=h\/(w≠.ad/\h=zd)) :aH z l' v j es/\(v=.ad\/h≠j):=by
 by_cases g:v=.ad
 ·refine⟨?_,.inl g⟩;subst g;have:=o.q.oX;subst this;exact .nil _
 ·have B:=o.lt.resolve_left g;have m:w=.ad\/j≠zd:=by
   rcases ne with q | q | q
   ·exact .inl q
   ·exact bV q g
   ·exact .inr fun e=>q e.symm
  refine⟨o.cx (.inr (u j B m)),.inr fun e=>?_⟩;rcases t with q | ⟨q1,C⟩
  ·omega
  ·rcases m with p | p
   ·exact q1 p
   ·exact p F
structure NI (g:aW) (n i:Nat) (sgZ:aS) (l:ae) :Prop where
 e5:sgZ 1=.i6 n
 hP:sgZ 2=.ptr 0 0 2
 iq:sgZ 4=.ptr 1 0 3
 kJ:sgZ 5=.ptr 2 0 3
 lo:sgZ 6=.i6 i
 ex:∃ v j rest,l=.q 2 [ah g.idsZ,bA g.opsZ] ::.q 3 [.ad,.ad,.i6 0] ::.q 3 [v,ah (cK (eU g)),.i6 g.idsZ.l.length] ::rest/\aH 2 l v j ((iV g n i).map bb)/\(v=.ad\/3<=j)/\bq v=(iV g n i).isEmpty
structure NJ (g:aW) (n i:Nat) (v:U) (j:Nat) (k:Nat) (sgZ:aS) (l:ae) :Prop where
 e5:sgZ 1=.i6 n
 hP:sgZ 2=.ptr 0 0 2
 iq:sgZ 4=.ptr 1 0 3
 kJ:sgZ 5=.ptr 2 0 3
 lo:sgZ 6=.i6 i
 oI:sgZ 8=.i6 k
 ex:∃ w h rest,l=.q 2 [ah g.idsZ,bA g.opsZ] ::.q 3 [.ad,.ad,.i6 0] ::.q 3 [v,ah (cK (eU g)),.i6 g.idsZ.l.length] ::rest/\aH 2 l v j ((iV g n i).map bb)/\sgZ 7=w ∧
  aH 32 l w h (((g.idsZ.l.take k).filter fun x=>decide (num x n=i)).map ao)/\(w=.ad\/3<=h)/\bq w=((g.idsZ.l.take k).filter fun x=>decide (num x n=i)).isEmpty/\(w=.ad\/v=.ad\/h≠j)
theorem DW (g:aW) (Y:eE g) (aS:eT g=0) (n:Nat) (bV:1<=n) (bW:n<=100) :aU 126 [cr g,.i6 n] (.af (bG (hz g n))):=by
 apply a2 func126 [[[0],[2],[3],[4],[6],[1,6,3],[5]],cT 0 4++[[4,1]]];have a3:=du;have aL:=kR aS;have bX:=aL.n60;have bY:=aL.len;have aY:=bO g.idsZ;have aZ:=ip g.opsZ;have ai:bD (.Z 32) (ah g.idsZ)=_:=b9 _;have a4:=Wa g Y aS;have bH:=fi (cK (eU g));unfold cr bb at a4;simp[cr,bb,ai];refine au a4 (by simp[am,U.ar,aY,aZ]) ?_;simp[bH,av];refine bB n (NI g n) ?_ ⟨V,V,V,V,V,.ad,0,[],rfl,.nil 0,.inl rfl,rfl⟩;rintro i aK l bT ⟨B,C,D,G,H,j,m,rest,rfl,t,aE,bs⟩;obtain⟨aK,rfl⟩:=gu B C D G H;clear B C D G H;have bh:=ci (k:=i) F;by_cases a0:i<n
 ·simp[a0];refine bB g.idsZ.l.length (NJ g n i j m) ?_ ⟨V,V,V,V,V,V,.ad,0,rest,rfl,t,V,.nil 0,.inl rfl,rfl,.inl rfl⟩;clear t;rintro k aK l hk ⟨B,C,D,G,H,aR,w,a8,rest,rfl,t,aP,O,ae,ak,aF⟩;obtain⟨aK,rfl⟩:=AU B C D G H aP aR;clear B C D G H aP aR;have aO:=ci (k:=k) F;by_cases ag:k<g.idsZ.l.length
  ·obtain⟨x,P,bE⟩:=aQ ag;have a6:=Y.idsZ x bE;have R:=bo a6;have aD:bQ (.Z 32) (ah g.idsZ) _=_:=c8 P;have J:g.idsZ.l.take (k+1)=g.idsZ.l.take k++[x]:=by rw[ei,P];rfl
   obtain⟨lf,r,bC,bt⟩:=Jn a6;have aB:∀ h,(ao x)[0]'h=a7 lf:=fun h=>by subst bC;rfl
   have bN:lf.toNat<256:=lf.isLt;have a5:IntKind.i64.wrap (u lf)=(lf.toNat:Int):=by unfold u;rw[IntKind.wrap_i64];omega
   have aC:=tx lf.toNat (n:Int) F;rw[fo] at aC;obtain⟨X,aA⟩:=al (ao x);rw[<-aA] at R aD;simp only[<-aA] at aB;have bj:X.take 32=X:=aI F;have bx:av (bZ 32 (.int .u8 0)) 0 X=X:=cD (by rw[R];rfl);have a1:((lf.toNat:Int) % (n:Int)=(i:Int))<->num x n=i:=by
    rw[bt,<-Int.natCast_emod];exact⟨fun h=>Int.ofNat.inj h,fun h=>by rw[<-h]⟩
   have bS:((g.idsZ.l.take k).filter fun x=>decide (num x n=i)).length<=1000000:=dC (g2 _ _) (by rw[cL];omega);by_cases aj:num x n=i
   ·have K:(g.idsZ.l.take (k+1)).filter (fun x=>decide (num x n=i))=(g.idsZ.l.take k).filter (fun x=>decide (num x n=i))++[x]:=by rw[J,lJ];simp[aj]
    obtain⟨w',bF,aJ,z,T,ap,aw,bd,W,aM⟩:=DD (by_:=32) (n:=3) (c:=rest.length+1+1+1) (O.more [aq.q 32 X]) ae V V R F F (by rw[a3];simp;omega);obtain⟨bf,bg⟩:=UW (t.more [aq.q 32 X]) aF W aM;have o:∀ b,b<3->aJ[b]?=(aq.q 2 [ah g.idsZ,bA g.opsZ] ::aq.q 3 [.ad,.ad,.i6 0] ::aq.q 3 [j,ah (cK (eU g)),.i6 g.idsZ.l.length] ::rest)[b]?:=fun b aT=>by
     rw[W b (by simp;omega) (by rcases ae with e | e;exact .inl e;exact .inr F),aV (by simp;omega)]
    obtain⟨bI,rfl⟩:=qa (o 0 F) (o 1 F) (o 2 F);simp only[iK] at z;simp[ai,ag,aD,R,aB,a5,aC,a1,aj,bj,bx,z];refine bR.bm ?_;simp[aO];refine⟨ag,V,V,V,V,V,V,w',bF,bI,rfl,bf,V,?_,.inr aw,by rw[K,ap];simp,?_⟩
    ·rw[K,cV,dg,lK,<-aA];exact T
    ·exact .inr bg
   ·have K:(g.idsZ.l.take (k+1)).filter (fun x=>decide (num x n=i))=(g.idsZ.l.take k).filter (fun x=>decide (num x n=i)):=by rw[J,lJ];simp[aj]
    simp[ai,ag,aD,R,aB,a5,aC,a1,aj,aO];exact⟨V,V,V,V,V,V,w,a8,rest,rfl,t,V,by rw[K];exact O,ae,by rw[K];exact ak,aF⟩
  ·have bp:k=g.idsZ.l.length:=F;subst bp;rw[e0] at O ak;change aH 32 _ w a8 ((j9 g n i).map ao) at O;change bq w=(j9 g n i).isEmpty at ak;have I:=VX g Y F (cK (j9 g n i)) (fun x P=>by rw[dh] at P;exact Y.idsZ x (dx.1 P).1) (by rw[dh];have:=g2 (fun x=>decide (num x n=i)) g.idsZ.l;unfold j9;omega) F;rw[dh] at I;have bl:=bO (cK (j9 g n i));have J:iV g n (i+1)=iV g n i++[hD g (j9 g n i)]:=rfl;have bU:=pV g n i;unfold cr bb at I;obtain⟨Q,ay⟩:=al (bb (hD g (j9 g n i)));have az:Q.length=2:=by rw[ay];rfl
   have bM:Q.take 2=Q:=aI F;have bi:av [U.ad,.ad] 0 Q=Q:=cD (by rw[az];rfl);change i8 _ _ _ _ (.af (bb (hD g (j9 g n i)))) at I;rw[<-ay] at I;simp[ai];refine UQ (cK (j9 g n i)) O (by rw[n1];exact ak) (dh _) (fun a9 f1 f2=>?_);have bv:aH 2 a9 j m ((iV g n i).map bb):=t.cx (by
    rcases aF with q | q | q
    ·exact .inr (f2 m (.inl q))
    ·exact .inl q
    ·exact .inr (f2 m (.inr fun e=>q e.symm)))
   have o:∀ b,b<3->a9[b]?=(aq.q 2 [ah g.idsZ,bA g.opsZ] ::aq.q 3 [.ad,.ad,.i6 0] ::aq.q 3 [j,ah (cK (eU g)),.i6 g.idsZ.l.length] ::rest)[b]?:=fun b aT=>f2 b (by rcases ae with e | e;exact .inl e;exact .inr F)
   obtain⟨bc,rfl⟩:=qa (o 0 F) (o 1 F) (o 2 F);refine au I (by simp[am,U.ar,aY,aZ];exact bl) ?_;obtain⟨bK,aG,aJ,z,T,ap,aw,bd,W,aM⟩:=DD (by_:=48) (n:=3) (c:=bc.length+1+1+1) (bv.more [aq.q 2 Q]) aE V V az F F (by rw[a3];simp;omega);have ax:∀ b,b<3->aJ[b]?=(aq.q 2 [ah g.idsZ,bA g.opsZ] ::aq.q 3 [.ad,.ad,.i6 0] ::aq.q 3 [j,ah (cK (eU g)),.i6 g.idsZ.l.length] ::bc)[b]?:=fun b aT=>by
    rw[W b (by simp;omega) (by rcases aE with e | e;exact .inl e;exact .inr F),aV (by simp;omega)]
   obtain⟨bJ,rfl⟩:=qa (ax 0 F) (ax 1 F) (ax 2 F);simp only[iK] at z;simp[az,bi,z];refine bR.bm ?_;have bz:=q9 T;simp[bz,av,bh];refine⟨a0,V,V,V,V,V,bK,aG,bJ,rfl,?_,.inr aw,by rw[ap,J];simp⟩;rw[J,cV,dg,lK,<-ay];refine T.cx (.inr ?_);obtain⟨S,rfl⟩:∃ S,aG=S+3:=⟨aG - 3,F⟩
   rfl
 ·have bn:i=n:=F;subst bn;simp;have bw:Rd (aq.q 2 [ah g.idsZ,bA g.opsZ] ::aq.q 3 [j,ah (cK (eU g)),.i6 g.idsZ.l.length] ::aq.q 3 [j,ah (cK (eU g)),.i6 g.idsZ.l.length] ::rest) j (dn (some (iV g i i))):=by
   refine (t.cx (l':=aq.q 2 [ah g.idsZ,bA g.opsZ] ::aq.q 3 [j,ah (cK (eU g)),.i6 g.idsZ.l.length] ::aq.q 3 [j,ah (cK (eU g)),.i6 g.idsZ.l.length] ::rest) ?_).q.gP nB (some (iV g i i)) ?_ rfl
   ·rcases aE with h | h
    ·exact .inl h
    ·right;obtain⟨S,rfl⟩:∃ S,m=S+3:=⟨m - 3,F⟩
     rfl
   ·rw[bs];have:=pV g i i;cases br:iV g i i with
    | nil=>rw[br] at this;simp at this;omega
    | cons=>rfl
  have bk:=bO (cK (eU g));refine .af _ _ rfl fun m c bL p v=>?_
  rcases m with _ | _ | _ | m
  ·simp[bG,hz] at p v;subst p v;exact bw
  ·simp[bG,hz] at p v;subst p v;exact .same _ bk
  ·simp[bG,hz] at p v;subst p v;exact .same _ rfl
  ·simp at p
structure rQ (s:cf) :Prop where
 aj:∀ g∈s.aj.l,eE g
 ka:s.aj.l.length<=1000000
 bI:c5 s.bI
 nQ:s.bI.l.length<=1000000
theorem gH.w {s:cf} (h:gH s) :rQ s:=⟨fun g j=>(h.aj g j).1,by have:=h.ka;omega,h.bI,h.nQ⟩
def hW (a b:cf) :Bool:=decide (a.aj.l.length=b.aj.l.length)&&(decide (a.bN=b.bN)&&(decide (a.bI.l=b.bI.l)&&decide (∀ k,k<a.aj.l.length->kV (dp a.aj.l k) (dp b.aj.l k)=true)))
theorem mh (a b:cf) :hW a b=true<->a.aj.l.length=b.aj.l.length/\a.bN=b.bN/\a.bI.l=b.bI.l/\∀ k,k<a.aj.l.length->kV (dp a.aj.l k) (dp b.aj.l k)=true:=by unfold hW;simp only[bU,bK]
theorem Kx (a b:cf) (v:rQ a) (O:rQ b) :aU 81 [.af (bG a),.af (bG b)] (.bool (hW a b)):=by
 apply a2 func81 [];have p:=nM a.aj;have z:=nM b.aj;have aB:=kC a.aj;have aC:=kC b.aj;have Q:=bO a.bI;have P:=bO b.bI;have X:=sL a.bI b.bI v.bI O.bI v.nQ;by_cases h1:a.aj.l.length=b.aj.l.length
 ·by_cases o:a.bN=b.bN
  ·by_cases u:a.bI.l=b.bI.l
   ·simp[bG,p,z,h1,o];refine au X (by simp[am,Q,P]) ?_;simp[u];refine bB a.aj.l.length (fun k t l=>l=[.q 3 [dn a.aj,ah a.bI,.i6 a.bN],.q 3 [dn b.aj,ah b.bI,.i6 b.bN]]/\t 2=.ptr 0 0 3/\t 3=.ptr 1 0 3/\t 5=.i6 k/\∀ j,j<k->kV (dp a.aj.l j) (dp b.aj.l j)=true) ?_ ⟨by simp[o],V,V,V,fun j av=>F⟩;rintro k t l hk ⟨rfl,C,D,G,ag⟩;obtain⟨t,rfl⟩:=gF C D G;clear C D G;have ak:IntKind.i64.wrap ((k:Int)+1)=((k+1:Nat) :Int):=by rw[IntKind.wrap_i64];have:=v.ka;omega
    by_cases w:k<a.aj.l.length
    ·obtain⟨m,Y,ay⟩:=aQ w;obtain⟨q,ae,az⟩:=aQ (l:=b.aj.l) (k:=k) F;have T:=l3 Y;have W:=l3 ae;have B:=Kw m q (v.aj m ay) (O.aj q az);have aD:k<b.aj.l.length:=F;have I:(bb m).length=2:=rfl;have K:(bb q).length=2:=rfl;have H:=nB m;have J:=nB q;have R:=dq Y;have S:=dq ae;change i8 _ _ _ [.af (bb m),.af (bb q)] _ at B;obtain⟨np,ap⟩:=al (bb m);obtain⟨FU,aq⟩:=al (bb q);rw[<-ap] at T B I H;rw[<-aq] at W B K J;have t1:np.take 2=np:=aI F;have t2:FU.take 2=FU:=aI F;simp[p,w,T,W,I,K,t1,t2];refine au B (by simp[am,U.ar,H,J]) ?_;cases ai:kV m q with
     | true=>
      simp[ak];refine⟨w,fun j av=>?_⟩;by_cases aw:j=k
      ·subst aw;rw[R,S];exact ai
      ·exact ag j F
     | false=>
      have g:hW a b=false:=ql.2 fun h=>by
       have:=((mh a b).1 h).2.2.2 k w;rw[R,S,ai] at this;cases this
      simp;exact aP (ch U.bool g.symm) rfl
    ·have ax:k=a.aj.l.length:=F;subst ax;have aA:hW a b=true:=(mh a b).2 ⟨h1,o,u,ag⟩;simp[p];exact aP (ch U.bool aA.symm) rfl
   ·have g:hW a b=false:=ql.2 fun h=>u ((mh a b).1 h).2.2.1
    simp[bG,p,z,h1,o];refine au X (by simp[am,Q,P]) ?_;simp[u];exact aP (ch U.bool g.symm) rfl
  ·have g:hW a b=false:=ql.2 fun h=>o ((mh a b).1 h).2.1
   simp[bG,p,z,h1,o];exact aP (ch U.bool g.symm) rfl
 ·have g:hW a b=false:=ql.2 fun h=>h1 ((mh a b).1 h).1
  have ao:¬ (a.aj.l.length:Int)=b.aj.l.length:=F;simp[bG,p,z,ao];exact aP (ch U.bool g.symm) rfl
theorem U1 {g:aW} (h:eE g) (L:aR) :eE (hD g L):=by
 unfold hD;refine AN (CE (fun m j=>h.idsZ _ (zU (gy (dx.1 j).1)).1) (fun m j=>h.opsZ _ (zU (gy (dx.1 j).1)).2) ?_);have h1:=J9 (g:=g) (L:=L) (k:=(ha g).length);have o:(ha g).length<=g.idsZ.l.length:=by unfold ha;rw[List.length_zip];omega
 have:=h.li;omega
theorem Ta {g:aW} (h:eE g) {n:Nat} (u:n<=1000) :rQ (hz g n):=by
 refine⟨fun t o=>?_,?_,fun x q=>?_,?_⟩
 ·have p:t∈iV g n n:=o;obtain⟨k,hk⟩:=cp.1 p;have j:=(aL.1 hk).1;rw[pV] at j;rw[zo g n j] at hk;obtain rfl:=cc hk;exact U1 h _
 ·show (iV g n n).length<=_;rw[pV];omega
 ·have m:x∈(cK (eU g)).l:=q;rw[dh] at m;exact h.idsZ x (dx.1 m).1
 ·show (cK (eU g)).l.length<=_;rw[dh];have:=g2 (ir g) g.idsZ.l;have:=h.li;unfold eU;omega
theorem xL {s:cf} (h:gH s) :eE (ct s):=AN (u4 h)
noncomputable def kZ (s:cf) :Int:=if 1<=s.aj.l.length/\s.aj.l.length<=4 then (if eT (ct s)=0/\hW s (hz (ct s) s.aj.l.length)=true then 0 else 8) else 8
theorem V6 (s:cf) (u:gH s) :aU 75 [.af (bG s)] (.i6 (kZ s)):=by
 apply a2 func75 [cT 0 9++[[9,4]]];have q:=nM s.aj;have m:(bG s).length=3:=rfl;have p:∀ h,(bG s)[0]'h=dn s.aj:=fun _=>rfl
 have G:=mG s;have t:(bG s).take 3=bG s:=rfl;by_cases h1:1<=s.aj.l.length
 ·by_cases D:s.aj.l.length<=4
  ·have o:¬ (s.aj.l.length:Int)<1:=F;have v:¬ (4:Int)<(s.aj.l.length:Int):=F;have Q:¬ 4<s.aj.l.length:=F;have K:=Aa s u;have z:=xL u;have I:=VG (ct s) z;have R:=fi (ct s).idsZ;have S:=kz (ct s).opsZ;have B:=bO (ct s).idsZ;have C:=ip (ct s).opsZ;unfold cr bb at K I;have g:kZ s=if eT (ct s)=0/\hW s (hz (ct s) s.aj.l.length)=true then 0 else 8:=by unfold kZ;rw[ak ⟨h1,D⟩]
   simp[m,p,t,q,o,v];refine au K (by simp[am,U.ar,G]) ?_;simp[av];refine au I (by simp[am,U.ar,B,C]) ?_;by_cases j:eT (ct s)=0
   ·have J:=DW (ct s) z j s.aj.l.length h1 F;have P:=Kx s (hz (ct s) s.aj.l.length) u.w (Ta z F);have O:=mG (hz (ct s) s.aj.l.length);unfold cr bb at J;simp[j,m,p,t,q];refine au J (by simp[am,U.ar,B,C]) ?_;simp[m,t];refine au P (by simp[am,U.ar,G,O]) ?_;cases H:hW s (hz (ct s) s.aj.l.length) with
    | true=>
     rw[H,ak ⟨j,rfl⟩] at g;rw[g];simp;exact aF
    | false=>
     rw[H,ai V] at g;rw[g];simp;exact aF
   ·rw[ai (fun h=>j h.1)] at g;rw[g];simp[j];exact aF
  ·have g:kZ s=8:=by unfold kZ;rw[ai (fun h=>D h.2)]
   have o:¬ (s.aj.l.length:Int)<1:=F;have v:(4:Int)<(s.aj.l.length:Int):=F;have Q:4<s.aj.l.length:=F;rw[g];simp[m,p,q,o,v];exact aF
 ·have g:kZ s=8:=by unfold kZ;rw[ai (fun h=>h1 h.1)]
  have o:(s.aj.l.length:Int)<1:=F;rw[g];simp[m,p,q,o];exact aF
structure cW where
 cap:Int
 aD:cf
 az:b2
def bw (s:cW) :ag:=[.i6 s.cap,dn s.aD.aj,ah s.aD.bI,.i6 s.aD.bN,ah s.az]
structure hK (s:cW) :Prop where
 aD:gH s.aD
 az:c5 s.az
 no:s.az.l.length<=1000
theorem g7 (s:cW) :am (bw s)=true:=by simp[bw,am,U.ar,kC,bO]
def hC (g:aW) (l:aR) (i:Nat) :Bool:=decide (bx l i∈g.idsZ.l)&&(!decide (bx l i∈l.take i)&&gT (l.take i) (dO g.opsZ.l (dH (bx l i) g.idsZ.l 0).toNat))
def kS (g:aW) (l:aR) :Bool:=decide (∀ i,i<l.length->hC g l i=true)
noncomputable def fa (s:cW) :Int:=if 1<=s.cap/\s.cap<=40/\kZ s.aD=0/\s.aD.bN<=s.cap/\(s.az.l.length:Int)=s.aD.bN then (if kS (ct s.aD) s.az.l=true then 0 else 8) else 8
theorem Ex {s:cf} (h:kZ s=0) :1<=s.aj.l.length/\s.aj.l.length<=4/\eT (ct s)=0/\hW s (hz (ct s) s.aj.l.length)=true:=by
 unfold kZ at h;split at h
 ·rename_i h1;split at h
  ·rename_i g;exact⟨h1.1,h1.2,g⟩
  ·cases h
 ·cases h
theorem Sp {x:List B} {l:aR} {i:Nat} (p:l[i]?=some x) :dH x l 0<(i:Int)<->x∈l.take i:=by
 obtain⟨n,w,z,v⟩:∃ n:Nat,dH x l 0=(n:Int)/\l[n]?=some x/\∀ (g:Nat) (y:List B),g<n->l[g]?=some y->y≠x:=by
  have G:∀ (j:Nat),l[j]?=some x->∃ n:Nat,l[n]?=some x/\∀ (g:Nat) (y:List B),g<n->l[g]?=some y->y≠x:=by
   intro j
   induction j using Nat.strongRecOn with
   | _ j D=>
    intro u;by_cases h:∃ g,g<j/\l[g]?=some x
    ·obtain⟨g,m,q⟩:=h;exact D g m q
    ·exact⟨j,u,fun g y m C e=>h ⟨g,m,by rw[C,e]⟩⟩
  obtain⟨n,h1,o⟩:=G i p;exact⟨n,by have:=qV (n:=0) h1 o;simpa using this,h1,o⟩
 rw[w];constructor
 ·intro h;have h' : n<i:=F;exact cp.2 ⟨n,by rw[dQ h'];exact z⟩
 ·intro h;obtain⟨k,hk⟩:=cp.1 h;have t:=(aL.1 hk).1;rw[cL] at t;rw[dQ F] at hk;by_cases e:n<=k
  ·omega
  ·exact bV rfl (v k x F hk)
theorem ua {l:aR} (j:k9 l) {i:Nat} {x:List B} (g:l[i]?=some x) :dH x l 0=(i:Int):=by have:=qV (n:=0) g (fun m y o h e=>by rw[e] at h;have:=j m i x h g;omega);simpa using this
theorem RR (a:b2) {k:Nat} (h:k<=a.l.length) :dw (.Z 32) (ah a) none (some (.i6 (k:Int))) none=some (ah (hd a k)):=AH h
theorem D1 (s:cW) (v:hK s) :aU 30 [.af (bw s)] (.i6 (fa s)):=by
 apply a2 func30 [[],cT 0 10++[[11],[10]]];have I:bD (.Z 32) (ah s.az)=_:=b9 _;have G:=V6 s.aD v.aD;have D:=kC s.aD.aj;have C:=bO s.aD.bI;have a7:=bO s.az;have bF:=v.no;unfold bG at G;by_cases h1:1<=s.cap
 ·by_cases aM:s.cap<=40
  ·have o:¬ s.cap<1:=F;have w:¬ (40:Int)<s.cap:=F;by_cases t:kZ s.aD=0
   ·by_cases aO:s.aD.bN<=s.cap
    ·have Y:¬ s.cap<s.aD.bN:=F;by_cases Q:(s.az.l.length:Int)=s.aD.bN
     ·obtain⟨_,_,aK,_⟩:=Ex t;have P:=kR aK;have ae:=xL v.aD;have a3:=P.len;have bl:=P.n60;have aB:=Aa s.aD v.aD;have j:fa s=if kS (ct s.aD) s.az.l=true then 0 else 8:=by unfold fa;rw[ak ⟨h1,aM,t,aO,Q⟩]
      have T:∀ i,i<s.az.l.length->hC (ct s.aD) s.az.l i=false->fa s=8:=fun i bf bc=>by
       rw[j,ai];unfold kS;rw[bK];intro h;have:=h i bf;rw[bc] at this;cases this
      have bv:=fi (ct s.aD).idsZ;have bx:=kz (ct s.aD).opsZ;have ag:=bO (ct s.aD).idsZ;unfold cr bb bG at aB;obtain⟨g,bd⟩:=al (ct s.aD);rw[<-bd] at aB ae a3 bl bv bx ag T P j aK;simp[bw,o,w];refine au G (by simp[am,U.ar,D,C]) ?_;simp[t,Y,I,Q];refine au aB (by simp[am,U.ar,D,C]) ?_;simp[av];refine bB s.az.l.length (fun k O l=>l=[.q 5 [.i6 s.cap,dn s.aD.aj,ah s.aD.bI,.i6 s.aD.bN,ah s.az],.q 2 [ah g.idsZ,bA g.opsZ]]/\O 1=.ptr 0 0 5/\O 3=.ptr 1 0 2/\O 4=.i6 k/\∀ z,z<k->hC g s.az.l z=true) ?_ ⟨rfl,V,V,V,fun z bh=>F⟩;rintro k O l hk ⟨rfl,aG,aH,aJ,aW⟩;obtain⟨O,rfl⟩:=gF aG aH aJ;clear aG aH aJ;have a5:=ci (k:=k) F;by_cases u:k<s.az.l.length
      ·obtain⟨x,aC,bs⟩:=aQ u;have aE:=v.az x bs;have K:=bo aE;have J:=cG x;have H:bQ (.Z 32) (ah s.az) _=_:=c8 aC;have B:=nX g.idsZ ae.idsZ ae.li x aE;have aA:=nX s.az v.az F x aE;have hit:=Sp aC;have m:hC g s.az.l k=(decide (x∈g.idsZ.l)&&(!decide (x∈s.az.l.take k)&&gT (s.az.l.take k) (dO g.opsZ.l (dH x g.idsZ.l 0).toNat))):=by unfold hC;rw[dI aC]
       have bn:=lr x g.idsZ.l 0;obtain⟨bt,bg⟩:=al (dH x s.az.l 0);rw[<-bg] at aA hit;by_cases W:x∈g.idsZ.l
       ·obtain⟨a,ay⟩:=cp.1 W;have a6:=ua (mL P.b8) ay;obtain⟨p,aZ,bq⟩:=aQ (l:=g.opsZ.l) (k:=a) (by rw[<-a3];exact (aL.1 ay).1);have a1:=ae.opsZ p bq;rw[a6] at B m;rw[b7 W,fo,me aZ,lH] at m;have bE:=(aL.1 ay).1;have aY:bQ (.Z 11) (bA g.opsZ) _=_:=c8 aZ;have a0:(aw p).length=11:=rfl;have aT:∀ h,(aw p)[1]'h=ah p.ax:=fun _=>rfl
        have a8:=bO p.ax;have br:=RR s.az (k:=k) F;have bp:c5 (hd s.az k):=fun bz a4=>v.az bz (by rw[pb] at a4;exact gy a4)
        have aV:=z1 (hd s.az k) bp (by rw[pb,cL];omega) p.ax a1.idsZ a1.len;rw[pb] at aV;have a9:=bO (hd s.az k);have bm:¬ (a:Int)<0:=F;obtain⟨X,aq⟩:=al (ao x);obtain⟨bC,aS⟩:=al (aw p);rw[<-aq] at H K J B aA;rw[<-aS] at aY a0;simp only[<-aS] at aT;have S:X.take 32=X:=aI F;simp[I,u,H,K,S];refine au B (by simp[am,U.ar,ag,J]) ?_;simp[bm,H,K,S];refine au aA (by simp[am,U.ar,a7,J]) ?_;by_cases R:x∈s.az.l.take k
        ·have ap:=hit.2 R;rw[b7 R] at m;have:=T k u (by rw[m];simp);simp[ap];exact aP (by rw[this]) rfl
        ·have ap:¬ bt<(k:Int):=fun h=>R (hit.1 h)
         rw[cu R] at m;simp[ap,br,aY,a0,aT];refine au aV (by simp[am,a9,a8]) ?_;cases aR:gT (s.az.l.take k) p.ax.l with
         | true=>
          rw[aR] at m;simp[a5];refine⟨u,fun z bh=>?_⟩;by_cases bi:z=k
          ·rw[bi,m];rfl
          ·exact aW z F
         | false=>
          rw[aR] at m;have:=T k u (by rw[m];rfl);simp;exact aP (by rw[this]) rfl
       ·have bk:dH x g.idsZ.l 0<0:=by
         have:¬ 0<=dH x g.idsZ.l 0:=fun h=>W (bn.1 h)
         omega
        rw[cu W,rD] at m;have:=T k u m;obtain⟨X,aq⟩:=al (ao x);rw[<-aq] at H K J B;have S:X.take 32=X:=aI F;simp[I,u,H,K,S];refine au B (by simp[am,U.ar,ag,J]) ?_;simp[bk];exact aP (by rw[this]) rfl
      ·have bj:k=s.az.l.length:=F;subst bj;have:kS g s.az.l=true:=by unfold kS;exact b7 aW
       rw[this,ak rfl] at j;rw[j];simp[I];exact aF
     ·have j:fa s=8:=by unfold fa;rw[ai (fun h=>Q h.2.2.2.2)]
      rw[j];simp[bw,o,w];refine au G (by simp[am,U.ar,D,C]) ?_;simp[t,Y,I,Q];exact aF
    ·have j:fa s=8:=by unfold fa;rw[ai (fun h=>aO h.2.2.2.1)]
     have Y:s.cap<s.aD.bN:=F;rw[j];simp[bw,o,w];refine au G (by simp[am,U.ar,D,C]) ?_;simp[t,Y];exact aF
   ·have j:fa s=8:=by unfold fa;rw[ai (fun h=>t h.2.2.1)]
    rw[j];simp[bw,o,w];refine au G (by simp[am,U.ar,D,C]) ?_;simp[t];exact aF
  ·have j:fa s=8:=by unfold fa;rw[ai (fun h=>aM h.2.1)]
   have o:¬ s.cap<1:=F;have w:(40:Int)<s.cap:=F;rw[j];simp[bw,o,w];exact aF
 ·have j:fa s=8:=by unfold fa;rw[ai (fun h=>h1 h.1)]
  have o:s.cap<1:=F;rw[j];simp[bw,o];exact aF
def py (p:aW) :Bool:=decide (16<p.opsZ.l.length)||(decide (16<p.idsZ.l.length)||pL p)
def mJ (s:cf) :Bool:=(s.aj.l.take 7).any py||(decide (6<s.aj.l.length)||decide (60<s.bI.l.length))
def sh (s:cW) :Bool:=mJ s.aD||decide (70<s.az.l.length)
theorem VL (s:cf) :aU 84 [.af (bG s)] (.bool (mJ s)):=by
 apply a2 func84 [];have t:=nM s.aj;have o:(bG s).length=3:=rfl;have p:∀ h,(bG s)[0]'h=dn s.aj:=fun _=>rfl
 have ap:∀ h,(bG s)[1]'h=ah s.bI:=fun _=>rfl
 have ax:bD (.Z 32) (ah s.bI)=_:=b9 _;simp[o];obtain⟨n,aA⟩:=al (min s.aj.l.length 7);refine bB n (fun k H l=>l=[.q 3 (bG s)]/\H 1=.ptr 0 0 3/\H 3=.i6 k/\∀ j,j<k->py (dp s.aj.l j)=false) ?_ ⟨rfl,V,V,fun j G=>F⟩;rintro k H l hk ⟨rfl,S,T,ag⟩;obtain⟨H,rfl⟩:=kk S T;clear S T;have ak:=ci (k:=k) F;by_cases m:k<s.aj.l.length
 ·by_cases az:k<=6
  ·have v:(k:Int)<=6:=F;obtain⟨g,Q,aB⟩:=aQ m;have D:=l3 Q;have O:=VJ g;have av:=dq Q;have C:(bb g).length=2:=rfl;have J:∀ h,(bb g)[0]'h=ah g.idsZ:=fun _=>rfl
   have B:∀ h,(bb g)[1]'h=bA g.opsZ:=fun _=>rfl
   have Y:=nB g;have P:bD (.Z 11) (bA g.opsZ)=_:=b9 _;have ai:bD (.Z 32) (ah g.idsZ)=_:=b9 _;change i8 _ _ _ [.af (bb g)] _ at O;have K:py g=true->mJ s=true:=fun h=>by
    unfold mJ;rw[s8.2 ⟨g,cp.2 ⟨k,by rw[dQ F];exact Q⟩,h⟩];rfl
   obtain⟨np,ae⟩:=al (bb g);rw[<-ae] at D O C Y;simp only[<-ae] at J B;have ao:np.take 2=np:=aI F;by_cases h1:16<g.opsZ.l.length
   ·have w:(16:Int)<(g.opsZ.l.length:Int):=F;have:=K (by unfold py;rw[b7 h1];rfl);simp[o,p,t,m,v,D,C,B,P,w];exact aP (by rw[this]) rfl
   ·have w:¬ (16:Int)<(g.opsZ.l.length:Int):=F;by_cases W:16<g.idsZ.l.length
    ·have I:(16:Int)<(g.idsZ.l.length:Int):=F;have:=K (by unfold py;rw[b7 W];simp);simp[o,p,t,m,v,D,C,J,B,P,ai,w,I];exact aP (by rw[this]) rfl
    ·have I:¬ (16:Int)<(g.idsZ.l.length:Int):=F;simp[o,p,t,m,v,D,C,J,B,P,ai,w,I,ao];refine au O (by simp[am,U.ar,Y]) ?_;cases X:pL g with
     | true=>
      have:=K (by unfold py;rw[X];simp);simp;exact aP (by rw[this]) rfl
     | false=>
      simp[ak];refine⟨F,fun j G=>?_⟩;by_cases aw:j=k
      ·rw[aw,av];unfold py;rw[cu h1,cu W,X];rfl
      ·exact ag j F
  ·have v:¬ (k:Int)<=6:=F;have z:6<s.aj.l.length:=F;have u:(6:Int)<(s.aj.l.length:Int):=F;have:mJ s=true:=by unfold mJ;rw[b7 z];simp
   simp[o,p,t,m,v,u];exact aP (by rw[this]) rfl
 ·have ay:(s.aj.l.take 7).any py=false:=ql.2 fun h=>by
   obtain⟨q,R,aq⟩:=s8.1 h;obtain⟨j,G⟩:=cp.1 (gy R);have:=ag j (by have:=(aL.1 G).1;omega);rw[dq G,aq] at this;cases this
  by_cases z:6<s.aj.l.length
  ·have u:(6:Int)<(s.aj.l.length:Int):=F;have:mJ s=true:=by unfold mJ;rw[b7 z];simp
   simp[o,p,t,m,u];exact aP (by rw[this]) rfl
  ·have u:¬ (6:Int)<(s.aj.l.length:Int):=F;have:mJ s=decide (60<s.bI.l.length):=by unfold mJ;rw[ay,cu z];rfl
   have R:decide ((60:Int)<(s.bI.l.length:Int))=decide (60<s.bI.l.length):=decide_eq_decide.2 F;simp[o,p,ap,t,ax,m,u,R];exact aP (by rw[this]) rfl
theorem VM (s:cW) :aU 41 [.af (bw s)] (.bool (sh s)):=by
 apply a2 func41 [];have g:=VL s.aD;have o:bD (.Z 32) (ah s.az)=_:=b9 _;have m:=kC s.aD.aj;have j:=bO s.aD.bI;have p:decide ((70:Int)<(s.az.l.length:Int))=decide (70<s.az.l.length):=decide_eq_decide.2 F;unfold bG at g;simp[bw];refine au g (by simp[am,U.ar,m,j]) ?_;unfold sh;cases h:mJ s.aD with
 | true=>
  simp;exact aF
 | false=>
  simp[o,p];exact aP V rfl
def kW (a b:cW) :Bool:=decide (a.cap=b.cap)&&(hW a.aD b.aD&&decide (a.az.l=b.az.l))
theorem V4 (a b:cW) (t:rQ a.aD) (w:rQ b.aD) (v:c5 a.az) (z:c5 b.az) (u:a.az.l.length<=1000000) :aU 37 [.af (bw a),.af (bw b)] (.bool (kW a b)):=by
 apply a2 func37 [];unfold kW;have g:=Kx a.aD b.aD t w;have B:=sL a.az b.az v z u;have h:=kC a.aD.aj;have j:=bO a.aD.bI;have m:=bO a.az;have o:=kC b.aD.aj;have p:=bO b.aD.bI;have q:=bO b.az;unfold bG at g;by_cases h1:a.cap=b.cap
 ·simp[bw,h1];refine au g (by simp[am,U.ar,h,j,o,p]) ?_;cases C:hW a.aD b.aD with
  | true=>
   simp;refine au B (by simp[am,m,q]) ?_;simp;exact aP (by simp[h1]) rfl
  | false=>
   simp;exact aP V rfl
 ·simp[bw,h1];exact aP V rfl
def bl (s:cf) :cf:=⟨cK (s.aj.l.map cy),some s.bI.l,s.bN⟩
def dY (s:cW) :cW:=⟨s.cap,bl s.aD,some s.az.l⟩
theorem BN {l:ae} {b:Nat} (g:l[b]?=some (.q 0 [])) (s:b2) (h:c5 s) (o:s.l.length<=1000000) :
  dZ l 32 32 (.Z 32 b 0 0 0 0) (ah s)=some (.Z 32 b 0 s.l.length s.l.length (s.l.length*32),l.set b (.q (s.l.length*32) (s.l.map ao).flatten)):=by have j:=du;exact yj (enc:=ao) (by_:=32) l b g s (fun x m=>bo (h x m)) F F (by rw[j];omega)
structure Od (s:cf) (k:Nat) (sgZ:aS) (l:ae) :Prop where
 e5:sgZ 1=.ptr 0 0 3
 hP:sgZ 2=.ptr 1 0 3
 hQ:sgZ 3=.ptr 3 0 3
 iq:sgZ 4=.i6 k
 ex:∃ v j rest,l=.q 3 [dn s.aj,ah s.bI,.i6 s.bN] ::.q 3 [.ad,.ad,.i6 0] ::.dead::.q 3 [v,ah (some s.bI.l),.i6 s.bN] ::rest/\aH 2 l v j (((s.aj.l.take k).map cy).map bb)/\(v=.ad\/4<=j)/\bq v=(s.aj.l.take k).isEmpty
theorem Rm {l:ae} {a b c d:aq} (g:l[0]?=some a) (h1:l[1]?=some b) (h:l[2]?=some c) (j:l[3]?=some d) :∃ r,l=a::b::c::d::r:=by
 match l,g,h1,h,j with
 | m::o::p::q::r,g,h1,h,j=>
  simp at g h1 h j;subst g h1 h j;exact⟨r,rfl⟩
theorem KA (s:cf) (p:gH s) :aU 85 [.af (bG s)] (.af (bG (bl s))):=by
 apply a2 func85 [[[0],[1],[2],[4],[5],[7],[3,7,5],[6]],cT 0 7++[[7,1]]];have aE:=du;have Y:=nM s.aj;have a0:=p.ka;have aK:∀ x∈s.bI.l,(ao x).length=32:=fun x aJ=>bo (p.bI x aJ)
 have ag:=BN (l:=[.q 3 [dn s.aj,ah s.bI,.i6 s.bN],.q 3 [.ad,.ad,.i6 0],.q 0 [],.q 3 [.ad,.ad,.i6 0]]) (b:=2) rfl s.bI p.bI p.nQ;have ax:U.bu 32 (s.bI.l.map ao)=ah (some s.bI.l):=rfl;have aM:=fi (some s.bI.l);simp[bG,ag];refine bR.oH (by exact ly aK rfl rfl) rfl ?_;simp[ax,aM,av];refine bB s.aj.l.length (Od s) ?_ ⟨V,V,V,V,.ad,0,[],rfl,.nil 0,.inl rfl,rfl⟩;rintro k aP l hk ⟨O,P,R,S,o,t,rest,rfl,G,C,ae⟩;obtain⟨aP,rfl⟩:=eO O P R S;clear O P R S;have aw:=ci (k:=k) F;by_cases D:k<s.aj.l.length
 ·obtain⟨g,H,aD⟩:=aQ D;have X:=l3 H;have w:=z7 g (p.aj g aD).1;have W:(bb g).length=2:=rfl;have T:=nB g;have aG:(s.aj.l.take (k+1)).map cy=(s.aj.l.take k).map cy++[cy g]:=by rw[ei,H,cV];rfl
  change i8 _ _ _ [.af (bb g)] (.af (bb (cy g))) at w;obtain⟨np,ay⟩:=al (bb g);obtain⟨Q,z⟩:=al (bb (cy g));have B:Q.length=2:=by rw[z];rfl
  rw[<-ay] at X w W T;rw[<-z] at w;have az:np.take 2=np:=aI F;have aY:Q.take 2=Q:=aI F;have aA:av [U.ad,.ad] 0 Q=Q:=cD (by rw[B];rfl);obtain⟨aR,I,aL,J,K,ai,ak,aS,ap,aT⟩:=DD (by_:=48) (n:=4) (c:=rest.length+1+1+1+1) (G.more [aq.q 2 Q]) C V V B F F (by rw[aE];simp;omega);have v:∀ b,b<4->aL[b]?=(aq.q 3 [dn s.aj,ah s.bI,.i6 s.bN] ::aq.q 3 [.ad,.ad,.i6 0] ::aq.dead::aq.q 3 [o,ah (some s.bI.l),.i6 s.bN] ::rest)[b]?:=fun b aZ=>by
   rw[ap b (by simp;omega) (by rcases C with e | e;exact .inl e;exact .inr F),aV (by simp;omega)]
  obtain⟨aO,rfl⟩:=Rm (v 0 F) (v 1 F) (v 2 F) (v 3 F);simp only[iK] at J;simp[Y,D,X,W,az];refine au w (by simp[am,U.ar,T]) ?_;simp[B,aA,J];refine bR.bm ?_;have aH:=q9 K;simp[aH,av,aw];refine⟨D,V,V,V,V,aR,I,aO,rfl,?_,.inr ak,by rw[ai,ei,H];simp⟩;rw[aG,cV,dg,lK,<-z];refine K.cx (.inr ?_);obtain⟨u,rfl⟩:∃ u,I=u+4:=⟨I - 4,F⟩
  rfl
 ·have aC:k=s.aj.l.length:=F;subst aC;rw[e0] at G ae;simp[Y];have aF:Rd (aq.q 3 [dn s.aj,ah s.bI,.i6 s.bN] ::aq.q 3 [o,ah (some s.bI.l),.i6 s.bN] ::aq.dead::aq.q 3 [o,ah (some s.bI.l),.i6 s.bN] ::rest) o (dn (cK (s.aj.l.map cy))):=by
   refine (G.cx (l':=aq.q 3 [dn s.aj,ah s.bI,.i6 s.bN] ::aq.q 3 [o,ah (some s.bI.l),.i6 s.bN] ::aq.dead::aq.q 3 [o,ah (some s.bI.l),.i6 s.bN] ::rest) ?_).q.gP nB (cK (s.aj.l.map cy)) ?_ (dh _)
   ·rcases C with h | h
    ·exact .inl h
    ·right;obtain⟨u,rfl⟩:∃ u,t=u+4:=⟨t - 4,F⟩
     rfl
   ·rw[ae,n1];simp
  have aB:=bO (some s.bI.l);refine .af _ _ rfl fun t c aW j m=>?_
  rcases t with _ | _ | _ | t
  ·simp[bG,bl] at j m;subst j m;exact aF
  ·simp[bG,bl] at j m;subst j m;exact .same _ aB
  ·simp[bG,bl] at j m;subst j m;exact .same _ rfl
  ·simp at j
theorem Wc (s:cW) (g:hK s) :aU 44 [.af (bw s)] (.af (bw (dY s))):=by
 apply a2 func44 [cT 0 4++[[5],[6],[7],[4,7,5,1],[8,1]]];have h:=KA s.aD g.aD;have p:=kC s.aD.aj;have o:=bO s.aD.bI;have u:∀ x∈s.az.l,(ao x).length=32:=fun x t=>bo (g.az x t)
 have w:=g.no;have j:=BN (l:=[.q 5 [.i6 s.cap,dn s.aD.aj,ah s.aD.bI,.i6 s.aD.bN,ah s.az],.q 5 [.i6 0,.ad,.ad,.i6 0,.ad],.q 0 []]) (b:=2) rfl s.az g.az F;have m:U.bu 32 (s.az.l.map ao)=ah (some s.az.l):=rfl;have v:=fi (some s.az.l);unfold bG at h;simp[bw];refine au h (by simp[am,U.ar,p,o]) ?_;simp[j];refine bR.oH (by exact ly u rfl rfl) rfl ?_;simp[m,v,av];exact aP rfl (show (U.af (bw (dY s))).ar=true by simp[U.ar,g7])
theorem Jo (x:List B) (j:x.length=32) (n:Nat) (h1:1<=n) (v:n<=100) :aU 208 [.af (ao x),.i6 n] (.i6 (num x n)):=by
 apply a2 func208 [];have t:=bo j;obtain⟨lf,r,q,o⟩:=Jn j;have m:∀ h,(ao x)[0]'h=a7 lf:=fun h=>by subst q;rfl
 have w:lf.toNat<256:=lf.isLt;have p:IntKind.i64.wrap (u lf)=(lf.toNat:Int):=by unfold u;rw[IntKind.wrap_i64];omega
 have g:=tx lf.toNat (n:Int) F;rw[fo] at g;have z:¬ n=0:=F;simp[t,m,a7,vS,p,g];refine aP ?_ rfl;rw[o];simp
theorem UK (n i:Nat) (h1:1<=n) (z:n<=100) {l:ae} {kx bi:Nat} (t:l[kx]?=some (.q 1 [.i6 (n:Int)])) (o:l[bi]?=some (.q 1 [.i6 (i:Int)])) (xs:aR) (K:∀ p∈xs,p.length=32) :
  tl 250 [.ptr kx 0 1,.ptr bi 0 1] l xs (fun p=>!decide (num p n=i)):=by
 intro p H g m O C;apply c1 func250 [[[0],[1],[3],[2,3]]];have u:=K p H;have J:=bo u;have I:=cG p;have q1:g[kx]?=some (.q 1 [.i6 (n:Int)]):=by rw[m.2 _ (a1 t)];exact t
 have v:g[bi]?=some (.q 1 [.i6 (i:Int)]):=by rw[m.2 _ (a1 o)];exact o
 have w:∀ c:aq,(g++[c])[kx]?=some (.q 1 [.i6 (n:Int)]):=fun c=>by rw[aV (a1 q1)];exact q1
 have j:∀ c:aq,(g++[c])[bi]?=some (.q 1 [.i6 (i:Int)]):=fun c=>by rw[aV (a1 v)];exact v
 have G:=Jo p u n h1 z;simp[w,j,J,aI];refine au G (by simp[am,U.ar,I]) ?_;have B:decide (((num p n:Nat) :Int)=(i:Int))=decide (num p n=i):=by
  by_cases h:num p n=i
  ·simp[h]
  ·have:¬ ((num p n:Nat) :Int)=(i:Int):=F;simp[h];exact this
 simp[j,B];have:=C (g++[aq.q 32 (ao p)]) ⟨V,fun b D=>aV D⟩;exact this
theorem l4 (s:b2) (g:c5 s) (j:s.l.length<=1000000) :aU 80 [ah s] (ah s):=by
 refine uB checked.mixed eD ?_;refine y6 s g j fun o m h=>?_
 exact h.rd cG s rfl rfl
theorem Jj (s:b1 aK) :ea prog .eql 68 (bA s) .ad=some (.bool s.isNone):=vK (e:=55) bn 11 aw s
theorem wg (l:List aK) :(l.map aw).flatten.length=l.length*11:=sb (z:=11) (enc:=aw) (fun _ _=>rfl)
theorem G0 (s:b1 aK) (p:s.l.length<=1000000) {l:ae} {K:cB} (j:s=none->K .ad l)
  (h1:∀ a,s=some a->K (.Z 11 l.length 0 a.length a.length (a.length*11)) (l++[.q (a.length*11) (a.map aw).flatten])) :
  cM 143 [bA s] l K:=by
 apply c1 func143 [];have o:=du;cases s with
 | none=>
  simp[Jj];exact j rfl
 | some a=>
  simp at p;have t:=wg a;have m:dZ (l++[aq.q 0 []]) 11 112 (.Z 11 l.length 0 0 0 0) (bA (some a))=some (.Z 11 l.length 0 a.length a.length (a.length*11),l++[.q (a.length*11) (a.map aw).flatten]):=by
   unfold dZ bA;rw[qO];simp only[b1.pT];unfold hq;by_cases g:a.length=0
   ·have:a=[]:=ho.1 g;subst this;simp
   ·rw[ai g,ai F];simp[o];exact⟨F,fun h=>by simp[h]⟩
  simp[Jj,m];refine bR.bm ?_;simp;exact h1 a rfl
theorem Wj {l:ae} {a b g j:U} (h1:Rd l a g) (o:Rd l b j) :Rd l (.af [a,b]) (.af [g,j]):=by
 refine .af _ _ rfl fun q x t p m=>?_
 rcases j6 p with ⟨rfl,rfl⟩ | ⟨rfl,rfl⟩
 ·rcases j6 m with ⟨_,rfl⟩ | ⟨h,_⟩
  ·exact h1
  ·omega
 ·rcases j6 m with ⟨h,_⟩ | ⟨_,rfl⟩
  ·omega
  ·exact o
theorem w1 (o:aK) :av (aw o) 1 [ah o.ax]=aw o:=by unfold av aw;simp
theorem LV (g:aW) (u:eE g) :aU 157 [cr g] (cr g):=by
 apply a2 func157 [[[0],[1],[3],[4],[7],[2,7,4],[5,7],[6]],cT 0 9++[[9,1]]];have D:=bO g.idsZ;have ai:=ip g.opsZ;have P:=l4 g.idsZ u.idsZ u.li;have J:=fi g.idsZ;simp[cr,bb];refine au P (by simp[am,D]) ?_;simp;refine G0 g.opsZ u.jh (fun G=>?_) (fun a w=>?_)
 ·simp[J,av];refine bB 0 (fun k h l=>l=[aq.q 2 [ah g.idsZ,bA g.opsZ],aq.q 2 [.ad,.ad],aq.q 2 [ah g.idsZ,.ad]]/\h 2=.ptr 1 0 2/\h 3=.ptr 2 0 2/\h 14=.i6 0/\h 15=.i6 k) ?_ ⟨rfl,V,V,V,V⟩;rintro k h l hk ⟨rfl,p,t,j,m⟩;obtain⟨h,rfl⟩:=eO p t j m;clear p t j m;have:k=0:=F;subst this;simp[av,G];have:cr g=.af [ah g.idsZ,.ad]:=by unfold cr bb;rw[G];rfl
  exact aP this.symm (jz g)
 ·simp[J,av];have ag:a.length<=1000000:=by have:=u.jh;rw[w] at this;exact this
  have O:∀ o∈a,dk o:=fun o C=>u.opsZ o (by rw[w];exact C)
  have aj:=wg a;have I:∀ e∈a.map aw,e.length=11:=fun e S=>by obtain⟨y,_,rfl⟩:=cE.1 S;rfl
  refine bB a.length (fun k h l=>l=[aq.q 2 [ah g.idsZ,bA g.opsZ],aq.q 2 [.ad,.ad],aq.q 2 [ah g.idsZ,U.Z 11 3 0 a.length a.length (a.length*11)],aq.q (a.length*11) (a.map aw).flatten]/\h 2=.ptr 1 0 2/\h 3=.ptr 2 0 2/\h 14=.i6 a.length/\h 15=.i6 k) ?_ ⟨rfl,V,V,V,V⟩;rintro k h l hk ⟨rfl,p,t,j,m⟩;obtain⟨h,rfl⟩:=eO p t j m;clear p t j m;have K:=ci (k:=k) F;by_cases v:k<a.length
  ·obtain⟨o,C,X⟩:=aQ v;have H:=O o X;have R:=bO o.ax;have Q:=l4 o.ax H.idsZ H.len;have B:(a.map aw)[k]?=some (aw o):=by rw[b0,C];rfl
   have T:(a.map aw).flatten[k*11+1]?=some (ah o.ax):=ln I B F;have Y:av (a.map aw).flatten (k*11+1) [ah o.ax]=(a.map aw).flatten:=by
    rw[pH I B (show 1+[ah o.ax].length<=11 by simp)];rw[w1 o];congr 1;exact g1 fun ae=>by
     by_cases e:k=ae
     ·subst e;rw[bY (by simpa using v),B]
     ·rw[bj e]
   have mp:=fi o.ax;simp[v,T];refine au Q (by simp[am,R]) ?_;simp[Y,mp,K];exact⟨v,F,v⟩
  ·have W:k=a.length:=F;subst W;simp[av];exact Wj (.same _ D) ((ly (enc:=aw) (z:=11) (b:=3) (n:=a.length) (a:=a) (fun _ _=>rfl) rfl (by rfl)).q.gP dt g.opsZ (by rw[w];rfl) (by rw[w];rfl))
def ey (g:List Nat) (i:Nat) :Nat:=g.getD i 0
theorem zE {g:List Nat} {i n:Nat} (h:g[i]?=some n) :ey g i=n:=by unfold ey;rw[gw,h];rfl
theorem wV {g:List Nat} {i j n:Nat} (m:j<g.length) :ey (g.set j n) i=if i=j then n else ey g i:=by
 by_cases h:i=j
 ·subst h;rw[ak rfl];exact zE (bY m)
 ·rw[ai h];unfold ey;rw[gw,gw,bj (fun e=>h e.symm)]
def m6:List Nat->Nat
 | []=>0
 | a::l=>a+m6 l
theorem LY:∀ {l:List Nat} {j:Nat},j<l.length->m6 (l.set j (ey l j+1))=m6 l+1
 | a::l,0,_=>by show (a+1)+m6 l=a+m6 l+1;omega
 | a::l,j+1,h=>by
  have:=LY (l:=l) (j:=j) (by simpa using h);show a+m6 (l.set j (ey l j+1))=a+m6 l+1;omega
theorem LX {c:Nat}:∀ {l:List Nat},(∀ i,i<l.length->ey l i<=c)->m6 l<=c*l.length
 | [],_=>by simp[m6]
 | a::l,h=>by
  have h1:=LX (c:=c) (l:=l) fun i g=>h (i+1) (by simpa using g)
  have j:a<=c:=h 0 V;show a+m6 l<=c*(l.length+1)
  rw[Nat.mul_succ];omega
theorem X3 (n:Nat) :m6 (List.replicate n 0)=0:=by
 induction n with
 | zero=>rfl
 | succ n g=>rw[kr];show 0+_=0;omega
theorem Jp (n i:Nat) :ey (List.replicate n 0) i=0:=by unfold ey;rw[gw,Bj];split<;>rfl
def gg (ps:List aW) (g:List Nat) (i:Nat) :List B:=bx (dp ps i).idsZ.l (ey g i)
def jE (ps:List aW) (g:List Nat) (i:Nat) (r:Option Nat) :Option Nat:=
 if ey g i<(dp ps i).idsZ.l.length then (match r with | none=>some i | some h=>if bP (gg ps g i) (gg ps g h)<0 then some i else some h) else r
def kO (ps:List aW) (g:List Nat) :Nat->Option Nat
 | 0=>none
 | i+1=>jE ps g i (kO ps g i)
theorem IV (ps:List aW) (g:List Nat) (i:Nat) (r:Option Nat) :(¬ ey g i<(dp ps i).idsZ.l.length/\jE ps g i r=r)\/(ey g i<(dp ps i).idsZ.l.length/\((r=none/\jE ps g i r=some i)\/∃ j,r=some j/\((bP (gg ps g i) (gg ps g j)<0/\jE ps g i r=some i)\/(¬ bP (gg ps g i) (gg ps g j)<0/\jE ps g i r=some j)))):=by
 unfold jE;by_cases h:ey g i<(dp ps i).idsZ.l.length
 ·rw[ak h];right;refine⟨h,?_⟩;cases r with
  | none=>exact .inl ⟨rfl,rfl⟩
  | some j=>
   right;refine⟨j,rfl,?_⟩;by_cases m:bP (gg ps g i) (gg ps g j)<0
   ·left;exact⟨m,by simp[m]⟩
   ·right;exact⟨m,by simp[m]⟩
 ·rw[ai h];exact .inl ⟨h,rfl⟩
theorem Da {ps:List aW} {g:List Nat}:∀ {k:Nat},kO ps g k=none->∀ i,i<k->¬ ey g i<(dp ps i).idsZ.l.length
 | 0,_,i,m=>F
 | k+1,h,i,m=>by
  change jE ps g k (kO ps g k)=none at h;rcases IV ps g k (kO ps g k) with ⟨h1,j⟩ | ⟨_,⟨_,j⟩ | ⟨o,_,⟨_,j⟩ | ⟨_,j⟩⟩⟩
  ·by_cases e:i=k
   ·subst e;exact h1
   ·exact Da (by rw[<-j];exact h) i F
  all_goals rw[j] at h;cases h
theorem uh {ps:List aW} {g:List Nat}:∀ {k j:Nat},kO ps g k=some j->j<k/\ey g j<(dp ps j).idsZ.l.length/\∀ i,i<k->ey g i<(dp ps i).idsZ.l.length->bP (gg ps g j) (gg ps g i)<=0
 | 0,j,h=>by cases h
 | k+1,j,h=>by
  change jE ps g k (kO ps g k)=some j at h;rcases IV ps g k (kO ps g k) with ⟨h1,o⟩ | ⟨h1,⟨p,o⟩ | ⟨t,p,⟨u,o⟩ | ⟨u,o⟩⟩⟩
  ·rw[o] at h;obtain⟨a,b,c⟩:=uh h;exact⟨F,b,fun i q m=>by
    by_cases e:i=k
    ·subst e;exact bV m h1
    ·exact c i F m⟩
  ·rw[o] at h;obtain rfl:=cc h;exact⟨F,h1,fun i q m=>by
    by_cases e:i=k
    ·subst e;rw[lj];exact Int.le_refl _
    ·exact bV m (Da p i F)⟩
  ·rw[o] at h;obtain rfl:=cc h;obtain⟨a,b,c⟩:=uh p;exact⟨F,h1,fun i q m=>by
    by_cases e:i=k
    ·subst e;rw[lj];exact Int.le_refl _
    ·have w:=c i F m;by_cases v:bP (gg ps g t) (gg ps g i)=0
     ·rw[<-oC v];omega
     ·have:=oE _ _ _ u (show bP (gg ps g t) (gg ps g i)<0 by omega);omega⟩
  ·rw[o] at h;obtain rfl:=cc h;obtain⟨a,b,c⟩:=uh p;exact⟨F,b,fun i q m=>by
    by_cases e:i=k
    ·subst e;have:=oD (gg ps g i) (gg ps g t);omega
    ·exact c i F m⟩
structure nr (ps:List aW) :Prop where
 len:∀ p∈ps,p.idsZ.l.length=p.opsZ.l.length
 b8:∀ p∈ps,b8 p.idsZ.l=true
 Hr:∀ (i j:Nat) (x:List B) (p q:aW),ps[i]?=some p->ps[j]?=some q->x∈p.idsZ.l->x∈q.idsZ.l->i=j
structure rP (ps:List aW) (bH:List Nat) (O:List (List B × aK)) :Prop where
 nl:bH.length=ps.length
 le:∀ (i:Nat) (p:aW),ps[i]?=some p->ey bH i<=p.idsZ.l.length
 Lv:O.Pairwise fun a b=>eM a.1 b.1=true
 I3:∀ q,q∈O<->∃ (i:Nat) (p:aW) (a:Nat),ps[i]?=some p/\a<ey bH i/\p.idsZ.l[a]?=some q.1/\p.opsZ.l[a]?=some q.2
 Ie:∀ q∈O,∀ (i:Nat) (p:aW) (a:Nat) (x:List B),ps[i]?=some p->ey bH i<=a->p.idsZ.l[a]?=some x->eM q.1 x=true
 eB:m6 bH=O.length
theorem To (ps:List aW) :rP ps (List.replicate ps.length 0) []:=
 ⟨V,fun i j _=>by rw[Jp];exact eS _,.nil,fun q=>⟨fun h=>(by cases h),fun ⟨i,j,a,_,h,_⟩=>by rw[Jp] at h;omega⟩,fun q g=>(by cases g),by rw[X3];rfl⟩
theorem Tm {ps:List aW} {q:List Nat} {O:List (List B × aK)} (h:rP ps q O) {c:Nat} (g:∀ p∈ps,p.idsZ.l.length<=c) :O.length<=c*ps.length:=by
 rw[<-h.eB,<-h.nl];refine LX fun i j=>?_
 obtain⟨p,m,o⟩:=aQ (l:=ps) (k:=i) (by rw[<-h.nl];exact j);exact dC (h.le i p m) (g p o)
theorem Tn {ps:List aW} (W:nr ps) {g:List Nat} {O:List (List B × aK)} (h:rP ps g O) {j:Nat} (ah:kO ps g ps.length=some j) {p:aW} (m:ps[j]?=some p) {x:List B} {o:aK} (w:p.idsZ.l[ey g j]?=some x) (Q:p.opsZ.l[ey g j]?=some o) :
  rP ps (g.set j (ey g j+1)) (O++[(x,o)]):=by
 obtain⟨h1,T,U⟩:=uh ah;have ai:=cJ m;have v:j<g.length:=by rw[h.nl];exact h1
 rw[dq m] at T;have ae:gg ps g j=x:=by unfold gg;rw[dq m,dI w]
 have K:∀ i,i<ps.length->ey g i<=ey (g.set j (ey g j+1)) i:=fun i _=>by rw[wV v];split<;>simp_all
 refine⟨by rw[ko];exact h.nl,fun i q t=>?_,?_,fun q=>?_,fun q t i r a y u H C=>?_,?_⟩
 ·rw[wV v];split
  ·rename_i e;subst e;rw[m] at t;obtain rfl:=cc t;omega
  ·exact h.le i q t
 ·rw[rH];refine⟨h.Lv,Bn _ _,fun a H b X=>?_⟩;rw[fQ.1 X];exact h.Ie a H j p _ x m (aN _) w
 ·rw[fE,h.I3,fQ];constructor
  ·rintro (⟨i,r,a,q1,G,D⟩ | e)
   ·exact⟨i,r,a,q1,nn G (K i (aL.1 q1).1),D⟩
   ·subst e;exact⟨j,p,ey g j,m,by rw[wV v,ak rfl];omega,w,Q⟩
  ·rintro⟨i,r,a,q1,G,D,I⟩;rw[wV v] at G;split at G
   ·rename_i e;subst e;rw[m] at q1;obtain rfl:=cc q1;by_cases e:a=ey g i
    ·right;rw[e,w] at D;rw[e,Q] at I;rw[cc D,cc I]
    ·exact .inl ⟨i,p,a,m,F,D,I⟩
   ·exact .inl ⟨i,r,a,q1,G,D,I⟩
 ·have ag:ey g i<=a:=dC (K i (aL.1 u).1) H;rcases fE.1 t with t | t
  ·exact h.Ie q t i r a y u ag C
  ·rw[fQ.1 t];by_cases e:i=j
   ·subst e;rw[m] at u;obtain rfl:=cc u;rw[wV v,ak rfl] at H;exact (ib _ _).2 (kg (W.b8 p ai) (show ey g i<a by omega) w C)
   ·have aj:=cJ u;have am:=(aL.1 C).1;obtain⟨z,J,al⟩:=aQ (l:=r.idsZ.l) (k:=ey g i) F;have V:=U i (aL.1 u).1 (by rw[dq u];omega);have Y:gg ps g i=z:=by unfold gg;rw[dq u,dI J]
    rw[ae,Y] at V;have ao:bP x z≠0:=fun R=>e (by
     have:=oC R;subst this;exact W.Hr i j x r p u m al (cJ w))
    have P:eM x z=true:=(ib _ _).2 F;by_cases S:a=ey g i
    ·rw[S,J] at C;rw[<-cc C];exact P
    ·exact ui _ _ _ P ((ib _ _).2 (kg (W.b8 r aj) (show ey g i<a by omega) J C))
 ·rw[LY v,h.eB,cI];rfl
theorem Tk {ps:List aW} {o:List Nat} {O:List (List B × aK)} (h:rP ps o O) (t:kO ps o ps.length=none) (q:List B × aK) :q∈O<->∃ p∈ps,∃ a:Nat,p.idsZ.l[a]?=some q.1/\p.opsZ.l[a]?=some q.2:=by
 rw[h.I3];constructor
 ·rintro⟨i,p,a,h1,_,g,j⟩;exact⟨p,cJ h1,a,g,j⟩
 ·rintro⟨p,u,a,g,j⟩;obtain⟨i,m⟩:=cp.1 u;have:=Da t i (aL.1 m).1;rw[dq m] at this;have:=(aL.1 g).1;exact⟨i,p,a,m,F,g,j⟩
theorem zV {l m:List (List B × aK)} (g:l.Pairwise fun a b=>eM a.1 b.1=true) (j:m.Pairwise fun a b=>eM a.1 b.1=true) (h:∀ q,q∈l<->q∈m) :l=m:=
 EC (lt:=fun a b:List B × aK=>eM a.1 b.1) (fun a=>Db a.1) (fun a b c=>ui a.1 b.1 c.1) g j h
theorem Gl {p:aW} (t:p.idsZ.l.length=p.opsZ.l.length) (m:b8 p.idsZ.l=true) {x:List B} {o:aK}:iQ p x=some o<->∃ a:Nat,p.idsZ.l[a]?=some x/\p.opsZ.l[a]?=some o:=by
 constructor
 ·intro h;unfold iQ at h;split at h
  ·rename_i q;obtain⟨a,g⟩:=cp.1 ((lr x p.idsZ.l 0).1 q.1);rw[ua (mL m) g,fo] at h;exact⟨a,g,h⟩
  ·cases h
 ·rintro⟨a,g,j⟩;unfold iQ;have:=(aL.1 j).1;rw[ua (mL m) g,ak ⟨F,F⟩,fo];exact j
theorem Gk {p:aW} {x:List B} {o:aK} (h:iQ p x=some o) :x∈p.idsZ.l:=by
 unfold iQ at h;split at h
 ·rename_i g;exact (lr x p.idsZ.l 0).1 g.1
 ·cases h
theorem MR {ps:List aW} (W:nr ps) {x:List B}:∀ {k:Nat},k<=ps.length->(gv ps x k).Pairwise fun a b=>eM a.1 b.1=true
 | 0,_=>.nil
 | k+1,hk=>by
  obtain⟨j,g,_⟩:=aQ (l:=ps) (k:=k) F;have u:=MR W (x:=x) (k:=k) F;show (gv ps x k++(match iQ (dp ps k) x with | some h=>[(x,h)] | none=>[])).Pairwise _;rw[dq g];cases p:iQ j x with
  | none=>simpa using u
  | some h=>
   have:gv ps x k=[]:=List.eq_nil_iff_forall_not_mem.2 fun q t=>by
    obtain⟨v,r,h1,m,o,w⟩:=(AZ F).1 t;have:=W.Hr v k x r j m g (Gk o) (Gk p);omega
   rw[this];exact Bn _ _
theorem MP {ps:List aW} (W:nr ps) {idsZ:aR} (g:b8 idsZ=true) :∀ {i:Nat},i<=idsZ.length->(hF ps idsZ i).Pairwise fun a b=>eM a.1 b.1=true
 | 0,_=>.nil
 | i+1,q=>by
  obtain⟨x,h,_⟩:=aQ (l:=idsZ) (k:=i) F;show (hF ps idsZ i++gv ps (bx idsZ i) ps.length).Pairwise _;rw[dI h,rH];refine⟨MP W g F,MR W (aN _),fun a o b p=>?_⟩;obtain⟨u,h1,j,_⟩:=(AY F).1 o;obtain⟨t,v,_,_,_,m⟩:=(AZ (aN _)).1 p;rw[m];exact (ib _ _).2 (kg g h1 j h)
theorem xN {s:cf} (W:nr s.aj.l) :(bC s).Pairwise fun a b=>eM a.1 b.1=true:=MP W (XP _) (aN _)
theorem n9 {s:cf} (W:nr s.aj.l) (q:List B × aK) :q∈bC s<->∃ p∈s.aj.l,∃ a:Nat,p.idsZ.l[a]?=some q.1/\p.opsZ.l[a]?=some q.2:=by
 unfold bC;rw[AY (aN _)];constructor
 ·rintro⟨a,_,_,p,g,h⟩;exact⟨p,g,(Gl (W.len p g) (W.b8 p g)).1 h⟩
 ·rintro⟨p,g,a,h1,o⟩;have:q.1∈fw s:=by
   unfold fw;obtain⟨t,j⟩:=cp.1 g;rw[LD,BK (aN _)];exact⟨t,p,(aL.1 j).1,j,cJ h1⟩
  obtain⟨u,m⟩:=cp.1 this;exact⟨u,(aL.1 m).1,m,p,g,(Gl (W.len p g) (W.b8 p g)).2 ⟨a,h1,o⟩⟩
theorem Tl {s:cf} (W:nr s.aj.l) {g:List Nat} {O:List (List B × aK)} (h:rP s.aj.l g O) (j:kO s.aj.l g s.aj.l.length=none) :O=bC s:=
 zV h.Lv (xN W) fun q=>by rw[Tk h j,n9 W]
def n5 (ps:List aW) :Bool:=decide (∀ g∈ps,g.idsZ.l.length=g.opsZ.l.length/\b8 g.idsZ.l=true)
theorem jT {ps:List aW}:n5 ps=true<->∀ p∈ps,p.idsZ.l.length=p.opsZ.l.length/\b8 p.idsZ.l=true:=decide_eq_true_iff
def kQ (ps:List aW) :Bool:=decide (∀ i,i<ps.length->∀ x∈(dp ps i).idsZ.l,num x ps.length=i)
theorem wT {ps:List aW} (h:kQ ps=true) (i j:Nat) (x:List B) (p q:aW) (g:ps[i]?=some p) (m:ps[j]?=some q) (o:x∈p.idsZ.l) (t:x∈q.idsZ.l) :i=j:=by unfold kQ at h;rw[bK] at h;have h1:=h i (aL.1 g).1 x (by rw[dq g];exact o);have u:=h j (aL.1 m).1 x (by rw[dq m];exact t);omega
theorem wu {s:b2} {k:Nat} {x:List B} (h:s.l[k]?=some x) :bQ (.Z 32) (ah s) (.i6 (k:Int))=some (.b6 (ao x) 0):=by simp[ah,h]
theorem In {s:b1 aK} {k:Nat} {x:aK} (h:s.l[k]?=some x) :bQ (.Z 11) (bA s) (.i6 (k:Int))=some (.b6 (aw x) 0):=by simp[bA,h]
theorem S3 {ps:List aW} {g:List Nat} {i:Nat} {r:Option Nat} (h:¬ ey g i<(dp ps i).idsZ.l.length) :jE ps g i r=r:=by unfold jE;rw[ai h]
theorem S0 {ps:List aW} {g:List Nat} {i:Nat} (h:ey g i<(dp ps i).idsZ.l.length) :jE ps g i none=some i:=by unfold jE;rw[ak h]
theorem S2 {ps:List aW} {g:List Nat} {i j:Nat} (h:ey g i<(dp ps i).idsZ.l.length) (m:bP (gg ps g i) (gg ps g j)<0) :jE ps g i (some j)=some i:=by unfold jE;rw[ak h];simp[m]
theorem S1 {ps:List aW} {g:List Nat} {i j:Nat} (h:ey g i<(dp ps i).idsZ.l.length) (m:¬ bP (gg ps g i) (gg ps g j)<0) :jE ps g i (some j)=some j:=by unfold jE;rw[ak h];simp[m]
def wK:Option Nat->Int
 | none=>-1
 | some g=>g
def kE (g:List Nat) :ag:=g.map fun (n:Nat)=>U.i6 (n:Int)
structure vu (s:cf) (g w2:U) (bH:List Nat) (l:ae) :Prop where
 lA:l[0]?=some (.q 3 (bG s))
 q1:l[1]?=some (.q 2 [.ad,.ad])
 sB:l[2]?=some (.q 2 [g,w2])
 sC:l[3]?=some (.q s.aj.l.length (kE bH))
structure x8 (s:cf) (sgZ:aS) :Prop where
 e5:sgZ 1=.ptr 0 0 3
 hP:sgZ 2=.ptr 1 0 2
 hQ:sgZ 3=.bool false
 iq:sgZ 4=.ptr 2 0 2
 kJ:sgZ 5=.Z 1 3 0 s.aj.l.length s.aj.l.length s.aj.l.length
def sq (s:cf) :U:=if n5 s.aj.l=true then .aX [cr (bL (bC s)),.bool true] else .aX [cr ⟨none,none⟩,.bool false]
theorem Ti (s:cf) (aJ:gH s) (dh:∀ (i j:Nat) (x:List B) (p q:aW),s.aj.l[i]?=some p->s.aj.l[j]?=some q->x∈p.idsZ.l->x∈q.idsZ.l->i=j) :aU 251 [.af (bG s)] (sq s):=by
 apply a2 func251 [[],[],cT 0 15++cT 16 15++[[15,30,29,27,23,19,17],[32],[31]]];have az:=du;have cg:=nM s.aj;have dX:=aJ.ka;have a5:(bG s).length=3:=rfl;have aT:∀ h,(bG s)[0]'h=dn s.aj:=fun _=>rfl
 obtain⟨aR,a9⟩:=wP (z:=1) (by_:=8) (n:=s.aj.l.length) (k:=.i64) (k':=.i64) (zero:=[U.i6 0]) (l:=[.q 3 (bG s),.q 2 [.ad,.ad],.q 2 [.ad,.ad]]) rfl F (by rw[az];omega);simp only[oi] at aR a9;simp[a5,aT,cg] at aR ⊢;simp[aR,aT,a5,cg];have cR:cQ [U.i6 0] s.aj.l.length=kE (List.replicate s.aj.l.length 0):=by
  rw[xl];unfold kE;rw[xZ];generalize s.aj.l.length=n
  induction n with
  | zero=>rfl
  | succ n dB=>rw[kr,kr,hj,dB];rfl
 rw[cR];have b2:n5 s.aj.l=false->sq s=.aX [.af [.ad,.ad],.bool false]:=fun h=>by unfold sq;rw[h];rfl
 refine bB s.aj.l.length (fun i o l=>x8 s o/\o 17=dn s.aj/\o 18=.i6 s.aj.l.length/\o 19=.i6 i/\vu s .ad .ad (List.replicate s.aj.l.length 0) l/\∀ (j:Nat) (p:aW),j<i->s.aj.l[j]?=some p->p.idsZ.l.length=p.opsZ.l.length/\b8 p.idsZ.l=true) ?_ ⟨⟨V,V,V,V,V⟩,V,V,V,⟨rfl,rfl,rfl,rfl⟩,fun j _ bJ=>F⟩;rintro i o l b7 ⟨⟨G,H,I,J,K⟩,bf,bg,bh,hH,b5⟩;obtain⟨o,rfl⟩:=AV G H I J K bf bg bh;clear G H I J K bf bg bh;have ap:=ci (k:=i) F;by_cases D:i<s.aj.l.length
 ·obtain⟨p,w,br⟩:=aQ D;obtain⟨bO,dv,dw⟩:=aJ.aj p br;have bp:=l3 w;have aB:∀ h,(bb p)[0]'h=ah p.idsZ:=fun _=>rfl
  have cB:∀ h,(bb p)[1]'h=bA p.opsZ:=fun _=>rfl
  have aC:(bb p).length=2:=rfl;have bi:(bb p).take 2=bb p:=rfl;have aG:bD (.Z 32) (ah p.idsZ)=_:=b9 _;have dr:bD (.Z 11) (bA p.opsZ)=_:=b9 _;have u:∀ bc:aq,(l++[bc])[2]?=some (.q 2 [.ad,.ad]):=fun bc=>by rw[aV (a1 hH.sB)];exact hH.sB
  have v:∀ bc:aq,(l++[bc])[1]?=some (.q 2 [.ad,.ad]):=fun bc=>by rw[aV (a1 hH.q1)];exact hH.q1
  have cq:(l++[aq.q 2 (bb p)])[l.length]?=some (.q 2 (bb p)):=od;have db:∀ c:aq,vu s .ad .ad (List.replicate s.aj.l.length 0) (l++[c]):=fun c=>⟨by rw[aV (a1 hH.lA)];exact hH.lA,v c,u c,by rw[aV (a1 hH.sC)];exact hH.sC⟩
  have c2:∀ c c' : aq,((l++[c]).set 1 c')[1]?=some c':=fun c c'=>bY (by rw[cI];have:=a1 hH.q1;omega)
  have bs:av [U.ad,.ad] 0 (bb p)=bb p:=cD rfl;simp[D,bp,aB,cB,aC,bi,bs,aG,dr];by_cases h1:p.idsZ.l.length=p.opsZ.l.length
  ·simp[h1];obtain⟨L,ax⟩:=al (l++[aq.q 2 (bb p)]);have bk:=db (aq.q 2 (bb p));have c5:=v (aq.q 2 (bb p));have c6:=u (aq.q 2 (bb p));have c3:=c2 (aq.q 2 (bb p));rw[<-ax] at bk cq c5 c6 c3 ⊢;refine bB p.idsZ.l.length (fun g o cX=>cX=L/\x8 s o/\o 7=.ptr l.length 0 2/\o 8=.i6 (g+1:Nat)/\o 17=dn s.aj/\o 18=.i6 s.aj.l.length/\o 19=.i6 i/\∀ k,k<p.idsZ.l.length->1<=k->k<g+1->bP (bx p.idsZ.l (k - 1)) (bx p.idsZ.l k)<0) ?_ ⟨rfl,⟨V,V,V,V,V⟩,V,V,V,V,V,fun k _ _ _=>F⟩;rintro g o cX dW ⟨rfl,⟨G,H,I,J,K⟩,cy,cz,bf,bg,bh,cW⟩;obtain⟨o,rfl⟩:=Mo G H I J K cy cz bf bg bh;clear G H I J K cy cz bf bg bh;have bd:IntKind.i64.wrap (((g+1:Nat) :Int)+1)=((g+1+1:Nat) :Int):=by rw[IntKind.wrap_i64];omega
   have bW:IntKind.i64.wrap (((g+1:Nat) :Int) - 1)=(g:Int):=by rw[IntKind.wrap_i64];omega
   by_cases cN:g+1<p.idsZ.l.length
   ·obtain⟨x,P,bv⟩:=aQ (l:=p.idsZ.l) (k:=g) F;obtain⟨y,C,cl⟩:=aQ (l:=p.idsZ.l) (k:=g+1) F;have bq:((g+1:Nat) :Int)<p.idsZ.l.length:=F;have aO:=bO.idsZ x bv;have bw:=bO.idsZ y cl;have Q:=bo aO;have bE:=bo bw;have bt:=cG x;have bz:=cG y;have ay:bQ (.Z 32) (ah p.idsZ) _=_:=c8 P;have a4:=wu C;have S:=qL x y aO bw;change aU _ [.af (ao x),.af (ao y)] _ at S;obtain⟨X,aY⟩:=al (ao x);obtain⟨Y,aZ⟩:=al (ao y);rw[<-aY] at Q bt ay S;rw[<-aZ] at bE bz a4 S;obtain⟨M,O⟩:=al (((g+1:Nat) :Int) :Int);rw[<-O] at bd bW bq a4 ⊢;simp[cq,aC,aB,aG,bq,bW,ay,a4,Q,bE,aI];refine au S (by simp[am,U.ar,bt,bz]) ?_;by_cases aH:bP x y<0
    ·have:¬ 0<=bP x y:=F;simp[this,bd];refine⟨F,⟨V,V,V,V,V⟩,fun k h1 bX dQ=>?_⟩;by_cases hk:k=g+1
     ·subst hk;rw[show g+1 - 1=g by omega,P,C];exact aH
     ·exact cW k h1 bX F
    ·have c9:0<=bP x y:=F;have aM:n5 s.aj.l=false:=cu fun h=>aH (by
      have:=kg (h p br).2 (show g<g+1 by omega) P C;exact this)
     rw[b2 aM];simp[c9,c6,c5,c3,av];exact aF
   ·have bq:¬ ((g+1:Nat) :Int)<p.idsZ.l.length:=F;obtain⟨M,O⟩:=al (((g+1:Nat) :Int) :Int);rw[<-O] at bd bW bq ⊢;simp[cq,aC,aB,aG,bq,ap];refine⟨D,⟨V,V,V,V,V⟩,bk,fun j q bJ ck=>?_⟩;by_cases dj:j=i
    ·subst dj;rw[w] at ck;obtain rfl:=cc ck;exact⟨h1,uI fun k h1 bX=>cW k h1 bX F⟩
    ·exact b5 j q F ck
  ·have aM:n5 s.aj.l=false:=cu fun h=>h1 (h p br).1
   have da:¬ (p.idsZ.l.length:Int)=p.opsZ.l.length:=F;rw[b2 aM];simp[da,u,v,c2,av];exact aF
 ·have cb:i=s.aj.l.length:=F;subst cb;have aM:n5 s.aj.l=true:=jT.2 fun p w=>by
   obtain⟨j,bJ⟩:=cp.1 w;exact b5 j p (aL.1 bJ).1 bJ
  have W:nr s.aj.l:=⟨fun p w=>(jT.1 aM p w).1,fun p w=>(jT.1 aM p w).2,dh⟩
  have cO:sq s=.aX [cr (bL (bC s)),.bool true]:=by unfold sq;rw[aM];rfl
  rw[cO];clear b5 b2 cO b7 D ap a9 aR cR;simp;refine bB 100000 (fun k o l=>x8 s o/\∃ m t v u kM ls,vu s v u m l/\gd l v u kM ls 4 (t.map (·.1)) (t.map (·.2))/\rP s.aj.l m t/\t.length=k) ?_ ⟨⟨V,V,V,V,V⟩,List.replicate s.aj.l.length 0,[],.ad,.ad,0,0,hH,by simpa using Du _ 4,To _,rfl⟩;clear hH;rintro k o l hk ⟨⟨G,H,I,J,K⟩,m,t,v,u,kM,ls,hH,ag,O,dl⟩;obtain⟨o,rfl⟩:=gu G H I J K;clear G H I J K;have dR:t.length<=1000:=by have:=Tm O (c:=100) (fun p w=>(aJ.aj p w).2.1);omega
  have ak:=hH.lA;simp[ak,a5,aT,cg];refine bB s.aj.l.length (fun i o l=>x8 s o/\o 9=.i6 (wK (kO s.aj.l m i))/\o 54=dn s.aj/\o 55=.i6 s.aj.l.length/\o 56=.i6 i/\vu s v u m l/\gd l v u kM ls 4 (t.map (·.1)) (t.map (·.2))) ?_ ⟨⟨V,V,V,V,V⟩,by simp;rfl,V,V,V,hH,ag⟩;clear hH ag ak;rintro i o l b7 ⟨⟨G,H,I,J,K⟩,cA,cv,cw,cx,hH,ag⟩;obtain⟨o,rfl⟩:=Mq G H I J K cA cv cw cx;clear G H I J K cA cv cw cx;have ap:=ci (k:=i) F;by_cases D:i<s.aj.l.length
  ·obtain⟨p,w,br⟩:=aQ D;obtain⟨bO,dv,dw⟩:=aJ.aj p br;have bp:=l3 w;have aB:∀ h,(bb p)[0]'h=ah p.idsZ:=fun _=>rfl
   have cB:∀ h,(bb p)[1]'h=bA p.opsZ:=fun _=>rfl
   have aC:(bb p).length=2:=rfl;have bi:(bb p).take 2=bb p:=rfl;have aG:bD (.Z 32) (ah p.idsZ)=_:=b9 _;have bs:av [U.ad,.ad] 0 (bb p)=bb p:=cD rfl;obtain⟨L,ax⟩:=al (l++[aq.q 2 (bb p)]);have wp:L[l.length]?=some (.q 2 (bb p)):=by rw[ax];exact od
   have aS:vu s v u m L:=by
    rw[ax];exact⟨by rw[aV (a1 hH.lA)];exact hH.lA,by rw[aV (a1 hH.q1)];exact hH.q1,by rw[aV (a1 hH.sB)];exact hH.sB,by rw[aV (a1 hH.sC)];exact hH.sC⟩
   have T:gd L v u kM ls 4 (t.map (·.1)) (t.map (·.2)):=by rw[ax];exact ag.frame fun b _ aE=>aV aE
   have cP:=O.nl;obtain⟨a,cF⟩:∃ a,m[i]?=some a:=⟨_,bM (by rw[cP];exact D)⟩
   have bN:=zE cF;have dm:=O.le i p w;rw[bN] at dm;have b3:(kE m)[i]?=some (.i6 (a:Int)):=by unfold kE;rw[b0,cF];rfl
   have R:=aS.sC;have b4:=dq w;have ai:kO s.aj.l m (i+1)=jE s.aj.l m i (kO s.aj.l m i):=rfl;by_cases a0:a<p.idsZ.l.length
   ·have bl:ey m i<(dp s.aj.l i).idsZ.l.length:=by rw[bN,b4];exact a0
    obtain⟨x,P,bv⟩:=aQ a0;have cJ:gg s.aj.l m i=x:=by unfold gg;rw[b4,bN,dI P]
    cases aD:kO s.aj.l m i with
    | none=>
     rw[aD,S0 bl] at ai;have aK:wK none=-1:=rfl;rw[aK];simp[D,bp,aC,bi,bs,<-ax,wp,R,aB,aG,b3,a0,ap];exact⟨⟨V,V,V,V,V⟩,by rw[ai];rfl,aS,T⟩
    | some j=>
     rw[aD] at ai;obtain⟨bV,aA,c7⟩:=uh aD;obtain⟨r,az,bS⟩:=aQ (l:=s.aj.l) (k:=j) F;have bI:=dq az;rw[bI] at aA;obtain⟨y,C,cl⟩:=aQ aA;have cL:gg s.aj.l m j=y:=by unfold gg;rw[bI];exact dI C
     obtain⟨b,aE⟩:∃ b,m[j]?=some b:=⟨_,bM (by rw[cP];omega)⟩
     have ch:=zE aE;rw[ch] at C;have bn:(kE m)[j]?=some (.i6 (b:Int)):=by unfold kE;rw[b0,aE];rfl
     have ca:=l3 az;have b1:(bb r)[0]?=some (ah r.idsZ):=rfl;have aO:=bO.idsZ x bv;have bw:=(aJ.aj r bS).1.idsZ y cl;have Q:=bo aO;have bE:=bo bw;have bt:=cG x;have bz:=cG y;have ay:=wu P;have a4:=wu C;have S:=qL x y aO bw;change aU _ [.af (ao x),.af (ao y)] _ at S;obtain⟨X,aY⟩:=al (ao x);obtain⟨Y,aZ⟩:=al (ao y);rw[<-aY] at Q bt ay S;rw[<-aZ] at bE bz a4 S;have aK:wK (some j)=(j:Int):=rfl;rw[aK];have cd:¬ (j:Int)<0:=F;have ak:=aS.lA;have bK:j<s.aj.l.length:=F;simp[D,bp,aC,bi,bs,<-ax,wp,R,aB,aG,b3,a0,cd,ay,a4,ak,a5,aT,ca,b1,bn,Q,bE,aI];refine⟨bK,au S (by simp[am,U.ar,bt,bz]) ?_⟩;by_cases aH:bP x y<0
     ·rw[S2 bl (by rw[cJ,cL];exact aH)] at ai;simp[aH,ap];exact⟨D,⟨V,V,V,V,V⟩,by rw[ai];rfl,aS,T⟩
     ·rw[S1 bl (by rw[cJ,cL];exact aH)] at ai;simp[aH,ap];exact⟨D,⟨V,V,V,V,V⟩,by rw[ai];rfl,aS,T⟩
   ·have bl:¬ ey m i<(dp s.aj.l i).idsZ.l.length:=by rw[bN,b4];exact a0
    rw[S3 bl] at ai;simp[D,bp,aC,bi,bs,<-ax,wp,R,aB,aG,b3,a0,ap];exact⟨⟨V,V,V,V,V⟩,by rw[ai],aS,T⟩
  ·have cb:i=s.aj.l.length:=F;subst cb;clear b7 D ap;cases aD:kO s.aj.l m s.aj.l.length with
   | none=>
    have dc:=Tl W O aD;have aK:wK none=-1:=rfl;rw[aK];have di:eE (bL (bC s)):=u4 aJ;have cS:=LV _ di;have cH:=jz (bL (bC s));have a8:=hH.sB;unfold cr bb bL at cS cH;subst dc;simp[a8];refine ag.call fun a6 ed dF=>?_
    have bT:a6[1]?=some (.q 2 [.ad,.ad]):=by rw[dF 1 F];exact hH.q1
    have cm:∀ c:aq,(a6.set 1 c)[1]?=some c:=fun c=>bY (a1 bT)
    refine au cS (by simp[am,cH]) ?_;have cZ:=fi (cK ((bC s).map (·.1)));have c0:=kz (cK ((bC s).map (·.2)));simp[bT,cm,av];exact aP rfl (by simp[U.ar,am];exact jz _)
   | some j=>
    obtain⟨bV,aA,c7⟩:=uh aD;obtain⟨r,az,bS⟩:=aQ bV;have bI:=dq az;rw[bI] at aA;obtain⟨dx,ea,eb⟩:=aJ.aj r bS;have dZ:=W.len r bS;obtain⟨x,P,bv⟩:=aQ aA;obtain⟨a7,cj,dY⟩:=aQ (l:=r.opsZ.l) (k:=ey m j) F;have bk:=Tn W O aD az P cj;obtain⟨b,aE⟩:∃ b,m[j]?=some b:=⟨_,bM (by rw[O.nl];omega)⟩
    have ch:=zE aE;rw[ch] at P cj bk aA;have bn:(kE m)[j]?=some (.i6 (b:Int)):=by unfold kE;rw[b0,aE];rfl
    have ca:=l3 az;have b1:(bb r)[0]?=some (ah r.idsZ):=rfl;have cC:(bb r)[1]?=some (bA r.opsZ):=rfl;have aO:=dx.idsZ x bv;have Q:=bo aO;have ay:=wu P;have cM:=In cj;have T:(aw a7).length=11:=rfl;have aK:wK (some j)=(j:Int):=rfl;rw[aK];have cd:¬ (j:Int)<0:=F;have bK:j<s.aj.l.length:=bV;obtain⟨X,aY⟩:=al (ao x);obtain⟨Y,aZ⟩:=al (aw a7);have dd:=aY;rw[<-aY] at Q ay;rw[<-aZ] at T cM;have de:X.take 32=X:=aI F;have cE:Y.take 11=Y:=aI F;have dA:av (bZ 32 (.int .u8 0)) 0 X=X:=cD (by rw[Q];rfl);have dz:av [U.int .u32 0,.ad,.int .u64 0,.int .u8 0,.str [],.int .u8 0,.i6 0,.int .u64 0,.str [],.int .u32 0,.int .u32 0] 0 Y=Y:=cD (by rw[T];rfl);have ak:=hH.lA;have a8:=hH.sB;have R:=hH.sC;have ec:=a1 R;have bU:∀ (g:ae) (i:Nat) (c:aq),l[i]?=some c->(l++g)[i]?=some c:=fun g i c h=>by rw[aV (a1 h)];exact h
    have dK:∀ g:ae,(l++g)[0]?=some (.q 3 (bG s)):=fun g=>bU g 0 _ ak
    have dL:∀ g:ae,(l++g)[2]?=some (.q 2 [v,u]):=fun g=>bU g 2 _ a8
    have dM:∀ g:ae,(l++g)[3]?=some (.q s.aj.l.length (kE m)):=fun g=>bU g 3 _ R
    have dN:∀ (g:ae) (h:0<(l++g).length),(l++g)[0]'h=.q 3 (bG s):=fun g h=>(aL.1 (dK g)).2
    have dt:gd (l++[aq.q 32 X,.q 11 Y]) v u kM ls 4 (t.map (·.1)) (t.map (·.2)):=ag.frame fun c _ a3=>aV a3
    obtain⟨bF,dC,cY,aR,a9,dO,cs,dP⟩:=dt.Io (c:=l.length) dd Q V (by simp;omega) (by rw[ce];omega);simp[ak,a5,aT,cd,ca,b1,cC,a8,R,dN,dL,dM,bn,bK,ay,Q,de,dA,cM,T,cE,dz,aR];have dE:=ag.hB.lt;have df:v=.ad\/4<=kM:=ag.oz;have dg:u=.ad\/4<=ls:=ag.oA;have f:∀ (c:Nat) (y:aq),c<4->l[c]?=some y->cY[c]?=some y:=fun c y a3 C=>by
     rw[cs c (by have:=a1 C;simp;omega) (by rcases df with e | e;exact .inl e;exact .inr F),aV (a1 C)];exact C
    have ct:cY[l.length+1]?=some (.q 11 Y):=by
     rw[cs (l.length+1) V (by rcases dE with e | e;exact .inl e;exact .inr F)];simp
    have dT:=a1 (f 3 _ F R);obtain⟨cn,dD,a6,d1,d2,d3,d4⟩:=a9.JC (c:=l.length+1) aZ ct F (by rw[ce];omega);have bH:∀ (c:Nat) (y:aq),c<4->l[c]?=some y->a6[c]?=some y:=fun c y a3 C=>by
     rw[d4 c (a1 (f c y a3 C)) (by rcases dg with e | e;exact .inl e;exact .inr F)];exact f c y a3 C
    have dG:=bH 0 _ F ak;have bT:=bH 1 _ F hH.q1;have cm:=bH 2 _ F a8;have c1:=bH 3 _ F R;have f2:=f 2 _ F a8;have f0:=f 0 _ F ak;have f3:=f 3 _ F R;have dV:=a1 c1;refine bR.bm ?_;simp[f0,f2,f3,ct,a5,aT,d1,T,cE];refine⟨⟨bn,cC⟩,bR.bm ?_⟩;have cZ:=q9 a9.hB;have c0:=q9 d2.iC;have c4:∀ c:aq,(a6.set 2 c)[2]?=some c:=fun c=>bY F
    have dH:∀ c:aq,(a6.set 2 c)[3]?=some (.q s.aj.l.length (kE m)):=fun c=>by rw[bj F];exact c1
    have dS:b<r.idsZ.l.length:=aA;have bd:IntKind.i64.wrap ((b:Int)+1)=(b:Int)+1:=by rw[IntKind.wrap_i64];omega
    have dk:j<m.length:=by rw[O.nl];omega
    have dy:av (kE m) j [U.i6 ((b:Int)+1)]=kE (m.set j (b+1)):=by
     rw[LA (by unfold kE;simpa using dk)];unfold kE;rw[List.map_set];rfl
    have dJ:av [v,u] 0 [bF]=[bF,u]:=V;have ef:av [bF,u] 1 [cn]=[bF,cn]:=V;have cN:(t.map (·.1))++[x]=(t++[(x,a7)]).map (·.1):=by rw[cV];rfl
    have ds:(t.map (·.2))++[a7]=(t++[(x,a7)]).map (·.2):=by rw[cV];rfl
    rw[cN,ds] at d2;simp[cm,c4,dH,cZ,c0,dJ,bn,bd,dy];refine⟨bK,F,F,⟨V,V,V,V,V⟩,m.set j (b+1),t++[(x,a7)],bF,cn,⟨?_,?_,?_,?_⟩,⟨dC,dD,?_⟩,bk,by rw[cI,dl];rfl⟩
    ·rw[bj F,bj F];exact dG
    ·rw[bj F,bj F];exact bT
    ·rw[bj F];exact c4 _
    ·exact bY (by simp;omega)
    ·exact d2.frame fun c a3 _=>by rw[bj F,bj F]
end Op
end Go.bh

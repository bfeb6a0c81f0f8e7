/-
  A graph that is being built: its two rows are one's own. Parts and headsZ of a graph, in the reference.
-/
import Derived.Test.YtdjbnhgdhambnaaGreatDoorUi
set_option maxHeartbeats 16000000
set_option maxRecDepth 100000
set_option linter.unusedVariables false
set_option linter.unusedSimpArgs false
set_option linter.unnecessarySimpa false
namespace Go.bl
open Go Go.Proofs Go.Proofs.Tryz
namespace Op
open cu
structure gh (l:ad) (fe g:U) (h j n:Nat) (idsZ:aQ) (opsZ:List aJ) :Prop where
 hB:aE 32 l fe h (idsZ.map am)
 iA:aE 11 l g j (opsZ.map av)
 gP:bo fe=idsZ.isEmpty
 qP:bo g=opsZ.isEmpty
 oj:fe=.ae\/n<=h
 ol:g=.ae\/n<=j
 ne:fe=.ae\/g=.ae\/h≠j
theorem C7 (l:ad) (n:Nat) :gh l .ae .ae 0 0 n [] []:=⟨.nil 0,.nil 0,rfl,rfl,.inl rfl,.inl rfl,.inl rfl⟩
theorem gh.frame {l l' : ad} {p q:U} {m o n:Nat} {idsZ:aQ} {opsZ:List aJ} (h:gh l p q m o n idsZ opsZ) (j:∀ b,n<=b->b<l.length->l'[b]?=l[b]?) :gh l' p q m o n idsZ opsZ:=by
 refine⟨h.hB.cl ?_,h.iA.cl ?_,h.gP,h.qP,h.oj,h.ol,h.ne⟩
 ·rcases h.oj with e | e
  ·exact .inl e
  ·rcases h.hB.lt with g | g
   ·exact .inl g
   ·exact .inr (j _ e g)
 ·rcases h.ol with e | e
  ·exact .inl e
  ·rcases h.iA.lt with g | g
   ·exact .inl g
   ·exact .inr (j _ e g)
theorem gh.idsZ {l:ad} {t m:U} {D G n:Nat} {idsZ:aQ} {opsZ:List aJ} (h:gh l t m D G n idsZ opsZ) {X:ag} {x:List B} (Q:X=am x) (C:X.length=32) (aj:n<=l.length) (ah:idsZ.length<=1000000) :
  ∃ j c2 l',ea (l++[.q 32 X]) 32 32 t (.Z 32 l.length 0 1 1 32)=some (j,l')/\gh l' j m c2 G n (idsZ++[x]) opsZ/\l.length+1<=l'.length/\∀ b,b<n->l'[b]?=l[b]?:=by
 have T:=ds;obtain⟨j,c2,l',H,I,W,J,u,K⟩:=hN (by_:=32) (x:=.Z 32 l.length 0 1 1 32) (xs:=[X]) (h.hB.more [ao.q 32 X]) (by simp[cr,C,aH]) (by simp[C]) F F (by rw[T];simp;omega);have o:bo j=false:=by rw[K];simp
 have z:j≠.ae:=fun e=>by rw[e] at o;cases o
 have ai:(l++[ao.q 32 X]).length=l.length+1:=V;have R:n<=c2:=by
  rcases u with e | ⟨O,P⟩ | e
  ·omega
  ·rw[P];exact h.oj.resolve_left O
  ·exact bW e z
 have w:∀ b,b<l.length->t=.ae\/b≠D->l'[b]?=l[b]?:=fun b v S=>by
  rw[J b F S,aU v]
 refine⟨j,c2,l',H,⟨?_,?_,by rw[o];simp,h.qP,.inr R,h.ol,?_⟩,F,fun b v=>?_⟩
 ·rw[cS,di,lI,<-Q];exact I
 ·refine h.iA.cl ?_;rcases h.iA.lt with e | e
  ·exact .inl e
  ·by_cases g:m=.ae
   ·exact .inl g
   ·refine .inr (w _ e ?_);rcases h.ne with q | q | q
    ·exact .inl q
    ·exact bW q g
    ·exact .inr fun e=>q e.symm
 ·by_cases g:m=.ae
  ·exact .inr (.inl g)
  ·refine .inr (.inr fun e=>?_);have Y:=h.iA.lt.resolve_left g;rcases u with q | ⟨q1,ak⟩ | q
   ·omega
   ·rcases h.ne with p | p | p
    ·exact q1 p
    ·exact g p
    ·exact p F
   ·exact z q
 ·refine w b F ?_;rcases h.oj with e | e
  ·exact .inl e
  ·exact .inr F
theorem gh.opsZ {l:ad} {m u:U} {G H n:Nat} {idsZ:aQ} {opsZ:List aJ} (h:gh l m u G H n idsZ opsZ) {O:ag} {o:aJ} (w:O=av o) (aj:n<=l.length) (ah:opsZ.length<=1000000) :
  ∃ j c2 l',ea (l++[.q 11 O]) 11 112 u (.Z 11 l.length 0 1 1 11)=some (j,l')/\gh l' m j G c2 n idsZ (opsZ++[o])/\l.length+1<=l'.length/\∀ b,b<n->l'[b]?=l[b]?:=by
 have W:=ds;have D:O.length=11:=by rw[w];rfl
 obtain⟨j,c2,l',I,J,X,K,v,P⟩:=hN (by_:=112) (x:=.Z 11 l.length 0 1 1 11) (xs:=[O]) (h.iA.more [ao.q 11 O]) (by simp[cr,D,aH]) (by simp[D]) F F (by rw[W];simp;omega);have t:bo j=false:=by rw[P];simp
 have C:j≠.ae:=fun e=>by rw[e] at t;cases t
 have ai:(l++[ao.q 11 O]).length=l.length+1:=V;have S:n<=c2:=by
  rcases v with e | ⟨Q,R⟩ | e
  ·omega
  ·rw[R];exact h.ol.resolve_left Q
  ·exact bW e C
 have B:∀ b,b<l.length->u=.ae\/b≠H->l'[b]?=l[b]?:=fun b z T=>by
  rw[K b F T,aU z]
 refine⟨j,c2,l',I,⟨?_,?_,h.gP,by rw[t];simp,h.oj,.inr S,?_⟩,F,fun b z=>?_⟩
 ·refine h.hB.cl ?_;rcases h.hB.lt with e | e
  ·exact .inl e
  ·by_cases g:m=.ae
   ·exact .inl g
   ·refine .inr (B _ e ?_);rcases h.ne with q | q | q
    ·exact bW q g
    ·exact .inl q
    ·exact .inr q
 ·rw[cS,di,lI,<-w];exact J
 ·by_cases g:m=.ae
  ·exact .inl g
  ·refine .inr (.inr fun e=>?_);have Y:=h.hB.lt.resolve_left g;rcases v with q | ⟨q1,ak⟩ | q
   ·omega
   ·rcases h.ne with p | p | p
    ·exact g p
    ·exact q1 p
    ·exact p F
   ·exact C q
 ·refine B b F ?_;rcases h.ol with e | e
  ·exact .inl e
  ·exact .inr F
theorem qU {z:Nat} {l:ad} {v:U} {j:Nat} {es:List (ag)} (h:aE z l v j es) :v.cells=some [v]:=by cases h<;>rfl
theorem gB (s:b2) :(ah s).cells=some [ah s]:=by cases s<;>rfl
theorem pk (s:bX aJ) :(bB s).cells=some [bB s]:=by cases s<;>rfl
theorem j4 {alZ:Type} {a b c:alZ} {j:Nat} (h:[a,b][j]?=some c) :(j=0/\c=a)\/(j=1/\c=b):=by
 match j,h with
 | 0,h=>left;simpa using h.symm
 | 1,h=>right;simpa using h.symm
 | j+2,h=>simp at h
theorem oA {alZ:Type} {a c:alZ} {j:Nat} (h:[a][j]?=some c) :j=0/\c=a:=by
 match j,h with
 | 0,h=>simpa using h.symm
 | j+1,h=>simp at h
theorem gh.call {l:ad} {u m:U} {B t n:Nat} {idsZ:aQ} {opsZ:List aJ} (h:gh l u m B t n idsZ opsZ) {f:cj} {K:cA}
  (z:∀ j,j.length=l.length->(∀ b,b<n->j[b]?=l[b]?)->cM f [.af [ah (cK idsZ),bB (cK opsZ)]] j K) :cM f [.af [u,m]] l K:=by
 obtain⟨C,I,G,O,f1⟩:=wU (cK idsZ) h.hB (by rw[nR];exact h.gP) (dj _);have D:aE 11 C m t (opsZ.map av):=by
  refine h.iA.cl ?_;by_cases p:m=.ae
  ·exact .inl p
  ·refine .inr (f1 _ ?_);rcases h.ne with q | q | q
   ·exact .inl q
   ·exact bW q p
   ·exact .inr fun e=>q e.symm
 obtain⟨j,J,H,P,f2⟩:=wU (cK opsZ) D (by rw[nR];exact h.qP) (dj _);refine tw checked.mixed eG (args2:=[.af [ah (cK idsZ),m]]) I F rfl (fun o c w h1 g=>?_) (tw checked.mixed eG (args2:=[.af [ah (cK idsZ),bB (cK opsZ)]]) J F rfl (fun o c w h1 g=>?_) (z j F fun b Q=>?_))
 ·obtain⟨rfl,rfl⟩:=oA h1;obtain⟨_,rfl⟩:=oA g;refine .af _ _ rfl fun o c v h1 g=>?_
  rcases j4 h1 with ⟨rfl,rfl⟩ | ⟨rfl,rfl⟩
  ·rcases j4 g with ⟨_,rfl⟩ | ⟨h,_⟩
   ·exact G
   ·omega
  ·rcases j4 g with ⟨h,_⟩ | ⟨_,rfl⟩
   ·omega
   ·exact .same _
 ·obtain⟨rfl,rfl⟩:=oA h1;obtain⟨_,rfl⟩:=oA g;refine .af _ _ rfl fun o c v h1 g=>?_
  rcases j4 h1 with ⟨rfl,rfl⟩ | ⟨rfl,rfl⟩
  ·rcases j4 g with ⟨_,rfl⟩ | ⟨h,_⟩
   ·exact .same _
   ·omega
  ·rcases j4 g with ⟨h,_⟩ | ⟨_,rfl⟩
   ·omega
   ·exact H
 ·rw[f2 b ?_,f1 b ?_]
  ·rcases h.oj with e | e
   ·exact .inl e
   ·exact .inr F
  ·rcases h.ol with e | e
   ·exact .inl e
   ·exact .inr F
def hc (g:aV) :List (List B × aJ):=g.idsZ.l.zip g.opsZ.l
def jF (g:aV) (L:aQ) (k:Nat) :List (List B × aJ):=((hc g).take k).filter fun h=>decide (h.1∈L)
def bR (l:List (List B × aJ)) :aV:=⟨cK (l.map (·.1)),cK (l.map (·.2))⟩
def hD (g:aV) (L:aQ) :aV:=cI (bR (jF g L (hc g).length))
theorem UM {g:aV} {L:aQ} {k:Nat} {x:List B} {o:aJ} (p:g.idsZ.l[k]?=some x) (j:g.opsZ.l[k]?=some o) :jF g L (k+1)=jF g L k++if x∈L then [(x,o)] else []:=by
 have m:(hc g)[k]?=some (x,o):=by unfold hc;rw[s3];exact⟨p,j⟩
 unfold jF;rw[ej,m,lH];by_cases h:x∈L<;>simp[h]
theorem JM {g:aV} {L:aQ} {k:Nat}:(jF g L k).length<=k:=dC (g4 _ _) (by rw[cL];omega)
theorem zD {g:aV} {p:List B × aJ} (h:p∈hc g) :p.1∈g.idsZ.l/\p.2∈g.opsZ.l:=by obtain⟨k,hk⟩:=cq.1 h;unfold hc at hk;rw[s3] at hk;exact⟨cJ hk.1,cJ hk.2⟩
theorem Cg {l:List (List B × aJ)} (h1:∀ p∈l,p.1.length=32) (o:∀ p∈l,dm p.2) (m:l.length<=1000000) :eT (bR l):=by
 refine⟨fun x j=>?_,fun q g=>?_,?_,?_⟩
 ·unfold bR at j;simp only[dj] at j;obtain⟨p,h,rfl⟩:=cC.1 j;exact h1 p h
 ·unfold bR at g;simp only[dj] at g;obtain⟨p,h,rfl⟩:=cC.1 g;exact o p h
 ·unfold bR;simp only[dj];rw[cg];exact m
 ·unfold bR;simp only[dj];rw[cg];exact m
structure Nz (g:aV) (L:b2) (k:Nat) (sgZ:aS) (l:ad) :Prop where
 eZ:sgZ 1=ah L
 ha:sgZ 2=.ptr 0 0 2
 hQ:sgZ 4=.ptr 1 0 2
 kG:sgZ 5=.ptr 2 0 2
 lm:sgZ 6=.i6 k
 ex:∃ fe h j m rest,l=.q 2 [ah g.idsZ,bB g.opsZ] ::.q 2 [.ae,.ae] ::.q 2 [fe,h] ::rest/\gh l fe h j m 3 ((jF g L.l k).map (·.1)) ((jF g L.l k).map (·.2))
theorem Vn (g:aV) (G:eT g) (bk:g.idsZ.l.length=g.opsZ.l.length) (L:b2) (aQ:c6 L) (aS:L.l.length<=1000000) (bl:g.idsZ.l.length<=100000) :aW 191 [cD g,ah L] (cD (hD g L.l)):=by
 apply a8 func191 [];have bi:=bM g.idsZ;have bj:=im g.opsZ;have aU:=bM L;have aG:bz (.Z 32) (ah g.idsZ)=_:=b6 _;simp[cD,bf];refine bx g.idsZ.l.length (Nz g L) ?_ ⟨V,V,V,V,V,.ae,.ae,0,0,[],rfl,by simpa [jF] using C7 _ 3⟩;rintro k bd l hk ⟨ax,ay,az,aA,aB,bg,Y,a7,aM,rest,rfl,J⟩;obtain⟨bd,rfl⟩:=gv ax ay az aA aB;clear ax ay az aA aB;have ap:=cf (k:=k) F;have bo:=JM (g:=g) (L:=L.l) (k:=k);by_cases u:k<g.idsZ.l.length
 ·obtain⟨x,aJ,a6⟩:=aP u;obtain⟨S,aI,bn⟩:=aP (l:=g.opsZ.l) (k:=k) F;have aK:=G.idsZ x a6;have m:=br aK;have aL:=cG x;have K:(av S).length=11:=rfl;have H:bO (.Z 32) (ah g.idsZ) _=_:=c5 aJ;have aF:bO (.Z 11) (bB g.opsZ) _=_:=c5 aI;have C:=nL L aQ aS x aK;have w:=UM (L:=L.l) aJ aI;have I:=lp x L.l 0;obtain⟨qH,aY⟩:=al (dG x L.l 0);obtain⟨X,aD⟩:=al (am x);obtain⟨O,aC⟩:=al (av S);rw[<-aY] at C I;rw[<-aD] at C m aL H;rw[<-aC] at aF K;have aE:X.take 32=X:=aH F;have aT:O.take 11=O:=aH F;have a5:aw (bZ 32 (.int .u8 0)) 0 X=X:=cy (by rw[m];rfl);have bp:aw [U.int .u32 0,.ae,.int .u64 0,.int .u8 0,.str [],.int .u8 0,.i6 0,.int .u64 0,.str [],.int .u32 0,.int .u32 0] 0 O=O:=cy (by rw[K];rfl);simp[aG,u,H,m,aE];refine au C (by simp[aq,U.ar,aU,aL]) ?_;by_cases v:x∈L.l
  ·have B:0<=qH:=I.2 v;rw[ak v] at w;obtain⟨o,R,bq,ag,ai,bh,z⟩:=J.idsZ aD m V (by rw[cg];omega);obtain⟨bc,rfl⟩:=pV (z 0 F) (z 1 F) (z 2 F);simp at ag;have a0:gh (.q 2 [ah g.idsZ,bB g.opsZ] ::.q 2 [.ae,.ae] ::.q 2 [o,Y] ::bc) o Y R aM 3 ((jF g L.l k).map (·.1)++[x]) ((jF g L.l k).map (·.2)):=ai.frame fun b D _=>by
    match b,D with
    | b+3,_=>rfl
   obtain⟨ad,aO,a9,p,t,ao,j⟩:=a0.opsZ aC V (by rw[cg];omega);obtain⟨W,rfl⟩:=pV (j 0 F) (j 1 F) (j 2 F);simp at p;have a2:gh (.q 2 [ah g.idsZ,bB g.opsZ] ::.q 2 [.ae,.ae] ::.q 2 [o,ad] ::W) o ad R aO 3 ((jF g L.l k).map (·.1)++[x]) ((jF g L.l k).map (·.2)++[S]):=t.frame fun b D _=>by
    match b,D with
    | b+3,_=>rfl
   simp[B,H,m,aE,a5,ag];refine bP.bm ?_;simp[qU ai.hB,aw,aF,K,aT,p];refine bP.bm ?_;simp[qU t.iA,aw,ap];exact⟨u,V,V,V,V,V,o,ad,R,aO,W,rfl,by rw[w,cS,cS];exact a2⟩
  ·have B:¬ 0<=qH:=fun h=>v (I.1 h)
   rw[aj v,eK] at w;simp[B,ap];exact⟨u,V,V,V,V,V,bg,Y,a7,aM,rest,rfl,by rw[w];exact J⟩
 ·have aZ:k=g.idsZ.l.length:=F;subst aZ;have a3:(hc g).length=g.idsZ.l.length:=by unfold hc;rw[List.length_zip];omega
  have aX:eT (bR (jF g L.l g.idsZ.l.length)):=Cg (fun bb P=>G.idsZ _ (zD (gA (dx.1 P).1)).1) (fun bb P=>G.opsZ _ (zD (gA (dx.1 P).1)).2) F;have Q:=zM _ aX;have a4:hD g L.l=cI (bR (jF g L.l g.idsZ.l.length)):=by unfold hD;rw[a3]
  rw[<-a4] at Q;have bs:=gB (hD g L.l).idsZ;have bt:(bB (hD g L.l).opsZ).cells=some [bB (hD g L.l).opsZ]:=by cases (hD g L.l).opsZ<;>rfl
  have p:=bM (hD g L.l).idsZ;have t:=im (hD g L.l).opsZ;have ao:=bM (cK ((jF g L.l g.idsZ.l.length).map (·.1)));have j:=im (cK ((jF g L.l g.idsZ.l.length).map (·.2)));unfold cD bf at Q;simp[aG];refine J.call fun a9 q1 T=>?_
  obtain⟨W,rfl⟩:=pV (T 0 F) (T 1 F) (T 2 F);refine au Q (by simp[aq,U.ar,ao,j]) ?_;simp[aw];exact aR rfl (show (U.af [ah (hD g L.l).idsZ,bB (hD g L.l).opsZ]).ar=true by simp[U.ar,aq,p,t])
def iz (g:aV) :Nat->aQ
 | 0=>[]
 | k+1=>iz g k++(hU g.opsZ.l k).ax.l
theorem C3 {g:aV} {x:List B}:∀ {k:Nat},x∈iz g k<->∃ j,j<k/\x∈(hU g.opsZ.l j).ax.l
 | 0=>⟨fun h=>(by cases h),fun ⟨j,o,_⟩=>F⟩
 | k+1=>by
  show x∈iz g k++_<->_;rw[fx,C3];constructor
  ·rintro (⟨j,h1,m⟩ | h)
   ·exact⟨j,F,m⟩
   ·exact⟨k,F,h⟩
  ·rintro⟨j,h1,m⟩;by_cases e:j=k
   ·subst e;exact .inr m
   ·exact .inl ⟨j,F,m⟩
theorem JL {g:aV} (h:vl g) {k:Nat} {o:aJ} (j:g.opsZ.l[k]?=some o) :o.ax.l.length<=4:=by obtain⟨x,m,_⟩:=aP (l:=g.idsZ.l) (k:=k) (by rw[h.len];exact (aK.1 j).1);exact pL (sP (h.HO k o x j m).1)
theorem C2 {g:aV} (h:vl g) :∀ {k:Nat},k<=g.opsZ.l.length->(iz g k).length<=4*k
 | 0,_=>by simp[iz]
 | k+1,hk=>by
  obtain⟨o,j,_⟩:=aP (l:=g.opsZ.l) (k:=k) F;have:=C2 h (k:=k) F;have m:=JL h j;show (iz g k++(hU g.opsZ.l k).ax.l).length<=_;rw[cF,jD j];omega
theorem Tm {g:aV} (j:eT g) {k:Nat} (hk:k<=g.opsZ.l.length) :c6 (cK (iz g k)):=fun x h=>by
 rw[dj,C3] at h;obtain⟨p,t,h⟩:=h;obtain⟨q,m,o⟩:=aP (l:=g.opsZ.l) (k:=p) F;rw[jD m] at h;exact (j.opsZ q o).idsZ x h
structure NQ (g:aV) (k:Nat) (sgZ:aS) (l:ad) :Prop where
 eZ:sgZ 1=.ptr 0 0 2
 hQ:sgZ 4=.ae
 kG:sgZ 5=.i6 k
 ex:∃ v j rest,l=.q 2 [ah g.idsZ,bB g.opsZ] ::rest/\sgZ 3=v/\aE 32 l v j ((iz g k).map am)/\(v=.ae\/1<=j)/\bo v=(iz g k).isEmpty
structure NR (g:aV) (w:U) (h:Nat) (k:Nat) (sgZ:aS) (l:ad) :Prop where
 eZ:sgZ 1=.ptr 0 0 2
 hP:sgZ 3=w
 lm:sgZ 6=.i6 k
 ex:∃ v j rest,l=.q 2 [ah g.idsZ,bB g.opsZ] ::rest/\sgZ 4=v/\aE 32 l v j (((g.idsZ.l.take k).filter (io g)).map am)/\(v=.ae\/1<=j)/\bo v=((g.idsZ.l.take k).filter (io g)).isEmpty/\aE 32 l w h ((iz g g.opsZ.l.length).map am)/\(v=.ae\/w=.ae\/j≠h)
theorem VB (g:aV) (ad:eT g) (a6:eY g=0) :aW 190 [cD g] (ah (cK (eU g))):=by
 apply a8 func190 [];have aY:=ds;have B:=kO a6;have bt:=B.n60;have bv:=B.len;have aR:bz (.Z 11) (bB g.opsZ)=_:=b6 _;have aQ:bz (.Z 32) (ah g.idsZ)=_:=b6 _;simp[cD,bf];refine bx g.opsZ.l.length (NQ g) ?_ ⟨V,V,V,.ae,0,[],rfl,V,.nil 0,.inl rfl,rfl⟩;rintro k aB l hk ⟨C,G,aG,aC,z,rest,rfl,D,aX,I,aS⟩;obtain⟨aB,rfl⟩:=eO C D G aG;clear C D G aG;have o:=cf (k:=k) F;by_cases j:k<g.opsZ.l.length
 ·obtain⟨m,au,bd⟩:=aP j;have bg:=ad.opsZ m bd;have t:bO (.Z 11) (bB g.opsZ) _=_:=c5 au;have aT:(av m).length=11:=rfl;have aK:∀ h,(av m)[1]'h=ah m.ax:=fun _=>rfl
  have bc:=C2 B hk;have bq:=JL B au;have K:iz g (k+1)=iz g k++m.ax.l:=by show iz g k++(hU g.opsZ.l k).ax.l=_;rw[jD au]
  obtain⟨O,az,oQ,P,W,aE,Q⟩:=rK (by_:=32) (pre:=[.q 2 [ah g.idsZ,bB g.opsZ]]) (rest:=rest) aX I (x:=ah m.ax) (xs:=m.ax.l.map am)
   (by simp[ah]) (fun e a9=>by obtain⟨y,bk,rfl⟩:=cC.1 a9;exact br (bg.idsZ y bk)) F F (by rw[aY];simp;omega)
  simp only[iK,h0] at P;obtain⟨bp,aJ⟩:=al (av m);rw[<-aJ] at t aT;simp only[<-aJ] at aK;simp[aR,j,t,aT,aK,P];refine bP.bm ?_;simp[o];refine⟨j,V,V,V,O,az,oQ,rfl,V,?_,by simpa using aE,?_⟩
  ·rw[K,cS];exact W
  ·rw[Q,aS,K];cases iz g k<;>cases m.ax.l<;>simp
 ·have ai:k=g.opsZ.l.length:=F;subst ai;clear hk j o;simp[aR];refine bx g.idsZ.l.length (NR g aC z) ?_ ⟨V,V,V,.ae,0,rest,rfl,V,.nil 0,.inl rfl,rfl,aX,.inl rfl⟩;rintro k aB l hk ⟨C,D,aI,bn,bl,a3,rfl,G,T,ag,aq,J,ak⟩;obtain⟨aB,rfl⟩:=eO C D G aI;clear C D G aI;have o:=cf (k:=k) F;by_cases j:k<g.idsZ.l.length
  ·obtain⟨x,v,bj⟩:=aP j;have a0:=ad.idsZ x bj;have w:=br a0;have a2:=cG x;have t:bO (.Z 32) (ah g.idsZ) _=_:=c5 v;have bc:=C2 B (aN g.opsZ.l.length);have R:=nL (cK (iz g g.opsZ.l.length)) (Tm ad (aN _)) (by rw[dj];omega) x a0;rw[dj] at R;have bh:=J.q.nM cG (cK (iz g g.opsZ.l.length)) (by rw[nR];exact aS) (dj _);have ap:=lp x (iz g g.opsZ.l.length) 0;have K:g.idsZ.l.take (k+1)=g.idsZ.l.take k++[x]:=by rw[ej,v];rfl
   have aO:io g x=true<->x∉iz g g.opsZ.l.length:=by
    unfold io lX;rw[bI,C3];exact⟨fun h ⟨z,I,v⟩=>h z I v,fun h z I v=>h ⟨z,I,v⟩⟩
   obtain⟨qH,bb⟩:=al (dG x (iz g g.opsZ.l.length) 0);obtain⟨X,aL⟩:=al (am x);rw[<-bb] at R ap;rw[<-aL] at R t w a2;have aM:X.take 32=X:=aH F;have bi:aw (bZ 32 (.int .u8 0)) 0 X=X:=cy (by rw[w];rfl);simp[aQ,j,t,w,aM];refine iC R (.cons bh (.cons (.same _ (by simp[U.ar,a2])) .nil)) rfl ?_;by_cases S:x∈iz g g.opsZ.l.length
   ·have aj:¬ qH<0:=by have:=ap.2 S;omega
    have Y:io g x=false:=by
     cases h:io g x with
     | false=>rfl
     | true=>exact bW S (aO.1 h)
    have H:(g.idsZ.l.take (k+1)).filter (io g)=(g.idsZ.l.take k).filter (io g):=by rw[K,lH];simp[Y]
    simp[aj,o];exact⟨j,V,V,V,bn,bl,a3,rfl,V,by rw[H];exact T,ag,by rw[H];exact aq,J,ak⟩
   ·have aj:qH<0:=by
     have:¬ 0<=qH:=fun h=>S (ap.1 h)
     omega
    have Y:=aO.2 S;have H:(g.idsZ.l.take (k+1)).filter (io g)=(g.idsZ.l.take k).filter (io g)++[x]:=by rw[K,lH];simp[Y]
    have bs:((g.idsZ.l.take k).filter (io g)).length<=1000000:=dC (g4 _ _) (by rw[cL];omega);obtain⟨O,az,aA,P,W,aE,Q,aF,a4⟩:=hN (by_:=32) (x:=.Z 32 (a3.length+1) 0 1 1 32) (xs:=[X]) (T.more [ao.q 32 X]) (by simp[cr,w,aH]) (by simp[w]) F F (by rw[aY];simp;omega);have ay:bo O=false:=by rw[a4];simp
    have aZ:O≠.ae:=fun e=>by rw[e] at ay;cases ay
    have f0:aA[0]?=some (.q 2 [ah g.idsZ,bB g.opsZ]):=by
     rw[Q 0 V (by rcases ag with e | e;exact .inl e;exact .inr F)];rfl
    obtain⟨oQ,rfl⟩:∃ oQ,aA=.q 2 [ah g.idsZ,bB g.opsZ] ::oQ:=by
     cases aA with
     | nil=>simp at f0
     | cons c r=>simp at f0;subst f0;exact⟨r,rfl⟩
    have aD:=P;simp at aD;simp[aj,t,w,aM,bi,aD];refine bP.bm ?_;simp[o];refine⟨j,V,V,V,O,az,oQ,rfl,V,?_,?_,by rw[H,ay];simp,?_,?_⟩
    ·rw[H,cS,di,lI,<-aL];exact W
    ·right;rcases aF with e | ⟨o,a5⟩ | e
     ·simp at e;omega
     ·rw[a5];exact ag.resolve_left o
     ·exact bW e aZ
    ·refine J.cl ?_;rcases J.lt with e | e
     ·exact .inl e
     ·by_cases u:aC=.ae
      ·exact .inl u
      ·right;rw[Q z (by simp at e ⊢;omega) (by rcases ak with q | q | q;exact .inl q;exact bW q u;exact .inr fun e=>q e.symm)];exact aU e
    ·by_cases u:aC=.ae
     ·exact .inr (.inl u)
     ·refine .inr (.inr fun e=>?_);have a7:=J.lt.resolve_left u;rcases aF with q | ⟨q1,bw⟩ | q
      ·simp at q a7;omega
      ·rcases ak with p | p | p
       ·exact q1 p
       ·exact u p
       ·exact p F
      ·exact aZ q
  ·have ai:k=g.idsZ.l.length:=F;rw[ai,e3] at T aq;simp[aQ,j];exact T.q.gG cG (cK (eU g)) (by rw[aq,nR];rfl) (dj _)
theorem gh.H1 {l:ad} {m o:U} {C H n:Nat} {idsZ:aQ} {opsZ:List aJ} (h:gh l m o C H n idsZ opsZ) {X:ag} {x:List B} (P:X=am x) (G:X.length=32) {c:Nat} (Q:l[c]?=some (.q 32 X)) (W:n<=l.length) (V:idsZ.length<=1000000) :
  ∃ j c2 l',ea l 32 32 m (.Z 32 c 0 1 1 32)=some (j,l')/\gh l' j o c2 H n (idsZ++[x]) opsZ/\l.length<=l'.length/\(∀ b,b<l.length->m=.ae\/b≠C->l'[b]?=l[b]?)/\(l.length<=c2\/(m≠.ae/\c2=C)):=by
 have S:=ds;obtain⟨j,c2,l',I,J,K,D,t,O⟩:=hN (by_:=32) (x:=.Z 32 c 0 1 1 32) (xs:=[X]) h.hB (by simp[cr,Q,G,aH]) (by simp[G]) F F (by rw[S];simp;omega);have w:bo j=false:=by rw[O];simp
 have z:j≠.ae:=fun e=>by rw[e] at w;cases w
 have R:n<=c2:=by
  rcases t with e | ⟨u,v⟩ | e
  ·omega
  ·rw[v];exact h.oj.resolve_left u
  ·exact bW e z
 refine⟨j,c2,l',I,⟨?_,?_,by rw[w];simp,h.qP,.inr R,h.ol,?_⟩,K,D,?_⟩
 ·rw[cS,di,lI,<-P];exact J
 ·refine h.iA.cl ?_;rcases h.iA.lt with e | e
  ·exact .inl e
  ·by_cases g:o=.ae
   ·exact .inl g
   ·refine .inr (D _ e ?_);rcases h.ne with q | q | q
    ·exact .inl q
    ·exact bW q g
    ·exact .inr fun e=>q e.symm
 ·by_cases g:o=.ae
  ·exact .inr (.inl g)
  ·refine .inr (.inr fun e=>?_);have T:=h.iA.lt.resolve_left g;rcases t with q | ⟨q1,Y⟩ | q
   ·omega
   ·rcases h.ne with p | p | p
    ·exact q1 p
    ·exact g p
    ·exact p F
   ·exact z q
 ·rcases t with e | ⟨u,v⟩ | e
  ·exact .inl e
  ·exact .inr ⟨u,v⟩
  ·exact bW e z
theorem gh.Jf {l:ad} {m u:U} {D G n:Nat} {idsZ:aQ} {opsZ:List aJ} (h:gh l m u D G n idsZ opsZ) {O:ag} {o:aJ} (z:O=av o) {c:Nat} (R:l[c]?=some (.q 11 O)) (X:n<=l.length) (W:opsZ.length<=1000000) :
  ∃ j c2 l',ea l 11 112 u (.Z 11 c 0 1 1 11)=some (j,l')/\gh l' m j D c2 n idsZ (opsZ++[o])/\l.length<=l'.length/\(∀ b,b<l.length->u=.ae\/b≠G->l'[b]?=l[b]?):=by
 have T:=ds;have C:O.length=11:=by rw[z];rfl
 obtain⟨j,c2,l',H,I,J,v,w,K⟩:=hN (by_:=112) (x:=.Z 11 c 0 1 1 11) (xs:=[O]) h.iA (by simp[cr,R,C,aH]) (by simp[C]) F F (by rw[T];simp;omega);have t:bo j=false:=by rw[K];simp
 have B:j≠.ae:=fun e=>by rw[e] at t;cases t
 have S:n<=c2:=by
  rcases w with e | ⟨P,Q⟩ | e
  ·omega
  ·rw[Q];exact h.ol.resolve_left P
  ·exact bW e B
 refine⟨j,c2,l',H,⟨?_,?_,h.gP,by rw[t];simp,h.oj,.inr S,?_⟩,J,v⟩
 ·refine h.hB.cl ?_;rcases h.hB.lt with e | e
  ·exact .inl e
  ·by_cases g:m=.ae
   ·exact .inl g
   ·refine .inr (v _ e ?_);rcases h.ne with q | q | q
    ·exact bW q g
    ·exact .inl q
    ·exact .inr q
 ·rw[cS,di,lI,<-z];exact I
 ·by_cases g:m=.ae
  ·exact .inl g
  ·refine .inr (.inr fun e=>?_);have V:=h.hB.lt.resolve_left g;rcases w with q | ⟨q1,Y⟩ | q
   ·omega
   ·rcases h.ne with p | p | p
    ·exact g p
    ·exact q1 p
    ·exact p F
   ·exact B q
structure cn where
 ai:bX aV
 bE:b2
 bL:Int
def dp (s:bX aV) :U:=b4 2 bf s
def bN (s:cn) :ag:=[dp s.ai,ah s.bE,.i6 s.bL]
structure gR (s:cn) :Prop where
 ai:∀ g∈s.ai.l,eT g/\g.idsZ.l.length<=100/\g.opsZ.l.length<=100
 j8:s.ai.l.length<=10
 bE:c6 s.bE
 nE:s.bE.l.length<=1000000
theorem ky (s:bX aV) :(dp s).ar=true:=ot oo s
theorem oq (s:cn) :aq (bN s)=true:=by simp[bN,aq,U.ar,ky,bM]
def iR (p:aV) (x:List B) :Option aJ:=if 0<=dG x p.idsZ.l 0/\dG x p.idsZ.l 0<(p.opsZ.l.length:Int) then p.opsZ.l[(dG x p.idsZ.l 0).toNat]? else none
def dq (l:List aV) (k:Nat) :aV:=l.getD k ⟨none,none⟩
theorem dr {l:List aV} {k:Nat} {g:aV} (h:l[k]?=some g) :dq l k=g:=by unfold dq;rw[gx,h];rfl
def gw (ps:List aV) (x:List B) :Nat->List (List B × aJ)
 | 0=>[]
 | k+1=>gw ps x k++match iR (dq ps k) x with | some g=>[(x,g)] | none=>[]
def hF (ps:List aV) (idsZ:aQ) :Nat->List (List B × aJ)
 | 0=>[]
 | i+1=>hF ps idsZ i++gw ps (bw idsZ i) ps.length
def g8 (ps:List aV) :Nat->aQ
 | 0=>[]
 | k+1=>g8 ps k++(dq ps k).idsZ.l
def fv (s:cn) :aQ:=uF (g8 s.ai.l s.ai.l.length)
def bH (s:cn) :List (List B × aJ):=hF s.ai.l (fv s) (fv s).length
def cQ (s:cn) :aV:=cI (bR (bH s))
theorem Bn {ps:List aV} {x:List B}:∀ {k:Nat},k<=ps.length->(x∈g8 ps k<->∃ j p,j<k/\ps[j]?=some p/\x∈p.idsZ.l)
 | 0,_=>⟨fun h=>(by cases h),fun ⟨j,p,t,_⟩=>F⟩
 | k+1,hk=>by
  obtain⟨p,m,_⟩:=aP (l:=ps) (k:=k) F;show x∈g8 ps k++(dq ps k).idsZ.l<->_;rw[fx,Bn F,dr m];constructor
  ·rintro (⟨j,q,h1,g⟩ | h)
   ·exact⟨j,q,F,g⟩
   ·exact⟨k,p,F,m,h⟩
  ·rintro⟨j,q,h1,g,o⟩;by_cases e:j=k
   ·subst e;rw[m] at g;obtain rfl:=cd g;exact .inr o
   ·exact .inl ⟨j,q,F,g,o⟩
theorem x0 {s:cn} (h:gR s) :∀ {k:Nat},k<=s.ai.l.length->(g8 s.ai.l k).length<=100*k
 | 0,_=>by simp[g8]
 | k+1,hk=>by
  obtain⟨m,g,j⟩:=aP (l:=s.ai.l) (k:=k) F;have:=x0 h (k:=k) F;have o:=(h.ai m j).2.1;show (g8 s.ai.l k++(dq s.ai.l k).idsZ.l).length<=_;rw[cF,dr g];omega
theorem FL {s:cn} (h:gR s) {k:Nat} (hk:k<=s.ai.l.length) :c6 (cK (g8 s.ai.l k)):=fun x g=>by
 rw[dj,Bn hk] at g;obtain⟨o,m,_,j,g⟩:=g;exact (h.ai m (cJ j)).1.idsZ x g
theorem Mp {s:cn} (h:gR s) :(fv s).length<=1000:=by unfold fv uF;have h1:=Ei (l:=g8 s.ai.l s.ai.l.length) (k:=(g8 s.ai.l s.ai.l.length).length);have g:=x0 h (aN s.ai.l.length);have j:=h.j8;omega
theorem Mq {s:cn} (h:gR s) :c6 (cK (fv s)):=fun x g=>by
 rw[dj] at g;unfold fv at g;rw[Lg] at g;exact FL h (aN _) x (by rw[dj];exact g)
theorem Of {p:aV} {x:List B} {o:aJ} (h:iR p x=some o) :o∈p.opsZ.l:=by
 unfold iR at h;split at h
 ·exact cJ h
 ·cases h
theorem Az {ps:List aV} {x:List B} {q:List B × aJ}:∀ {k:Nat},k<=ps.length->(q∈gw ps x k<->∃ j p,j<k/\ps[j]?=some p/\iR p x=some q.2/\q.1=x)
 | 0,_=>⟨fun h=>(by cases h),fun ⟨j,p,w,_⟩=>F⟩
 | k+1,hk=>by
  obtain⟨p,o,_⟩:=aP (l:=ps) (k:=k) F;show q∈gw ps x k++(match iR (dq ps k) x with | some v=>[(x,v)] | none=>[])<->_;rw[fx,Az F,dr o];constructor
  ·rintro (⟨j,r,h1,g⟩ | h)
   ·exact⟨j,r,F,g⟩
   ·cases m:iR p x with
    | none=>rw[m] at h;cases h
    | some v=>
     rw[m] at h;rw[gd.1 h];exact⟨k,p,F,o,m,rfl⟩
  ·rintro⟨j,r,h1,g,t,u⟩;by_cases e:j=k
   ·subst e;rw[o] at g;obtain rfl:=cd g;right;rw[t];simp[<-u]
   ·exact .inl ⟨j,r,F,g,t,u⟩
theorem Ay {ps:List aV} {idsZ:aQ} {q:List B × aJ}:∀ {i:Nat},i<=idsZ.length->(q∈hF ps idsZ i<->∃ a,a<i/\idsZ[a]?=some q.1/\∃ p∈ps,iR p q.1=some q.2)
 | 0,_=>⟨fun h=>(by cases h),fun ⟨u,o,_⟩=>F⟩
 | i+1,w=>by
  obtain⟨x,t,_⟩:=aP (l:=idsZ) (k:=i) F;show q∈hF ps idsZ i++gw ps (bw idsZ i) ps.length<->_;rw[fx,Ay F,dI t,Az (aN _)];constructor
  ·rintro (⟨a,h1,g⟩ | ⟨u,p,h1,g,m,j⟩)
   ·exact⟨a,F,g⟩
   ·exact⟨i,F,by rw[j];exact t,p,cJ g,by rw[j];exact m⟩
  ·rintro⟨a,h1,g,p,m,j⟩;by_cases e:a=i
   ·subst e;rw[t] at g;have v:=cd g;obtain⟨u,o⟩:=cq.1 m;exact .inr ⟨u,p,(aK.1 o).1,o,by rw[v];exact j,v.symm⟩
   ·exact .inl ⟨a,F,g,p,m,j⟩
theorem Mu {ps:List aV} {x:List B}:∀ {k:Nat},(gw ps x k).length<=k
 | 0=>by simp[gw]
 | k+1=>by
  have:=Mu (ps:=ps) (x:=x) (k:=k);show (gw ps x k++(match iR (dq ps k) x with | some g=>[(x,g)] | none=>[])).length<=_;rw[cF];split<;>simp<;>omega
theorem Ms {ps:List aV} {idsZ:aQ}:∀ {i:Nat},(hF ps idsZ i).length<=ps.length*i
 | 0=>by simp[hF]
 | i+1=>by
  have h1:=Ms (ps:=ps) (idsZ:=idsZ) (i:=i);have g:=Mu (ps:=ps) (x:=bw idsZ i) (k:=ps.length);show (hF ps idsZ i++gw ps (bw idsZ i) ps.length).length<=_;rw[cF,Nat.mul_succ];omega
theorem YL {s:cn} (h:gR s) :(bH s).length<=10000:=by have h1:=Ms (ps:=s.ai.l) (idsZ:=fv s) (i:=(fv s).length);have g:=Mp h;have j:s.ai.l.length*(fv s).length<=10*1000:=Nat.mul_le_mul h.j8 g;unfold bH;omega
theorem xx {s:cn} (h:gR s) :eT (bR (bH s)):=by
 have j:∀ q∈bH s,q.1.length=32/\dm q.2:=fun q g=>by
  obtain⟨a,h1,m,t,o,p⟩:=(Ay (aN _)).1 g;exact⟨Mq h q.1 (by rw[dj];exact cJ m),(h.ai t o).1.opsZ _ (Of p)⟩
 exact Cg (fun q g=>(j q g).1) (fun q g=>(j q g).2) (by have:=YL h;omega)
theorem nB (s:bX aV) :bz (.Z 2) (dp s)=some (.i6 s.l.length):=by simp[dp]
theorem l2 {s:bX aV} {k:Nat} {g:aV} (h:s.l[k]?=some g) :bO (.Z 2) (dp s) (.i6 (k:Int))=some (.b7 (bf g) 0):=by simp[dp,h]
theorem Jm {alZ:Type} {z:Nat} {enc:alZ->ag} {l:ad} {v:U} {j:Nat} {xs:List alZ} (s:bX alZ) (h:aE z l v j (xs.map enc)) (q:bo v=s.isNone) (t:s.l=xs) {f:cj} {K:cA}
  (p:∀ g,g.length=l.length->(∀ b,v=.ae\/b≠j->g[b]?=l[b]?)->cM f [b4 z enc s] g K) :cM f [v] l K:=by obtain⟨u,B,w,m,f1⟩:=wU s h q t;refine tw checked.mixed eG (args2:=[b4 z enc s]) B F rfl (fun j c C h1 o=>?_) (p u m f1);obtain⟨rfl,rfl⟩:=oA h1;obtain⟨_,rfl⟩:=oA o;exact w
structure NV (s:cn) (k:Nat) (sgZ:aS) (l:ad) :Prop where
 eZ:sgZ 1=.ptr 0 0 3
 ha:sgZ 2=.ptr 1 0 2
 hQ:sgZ 4=.i6 k
 ex:∃ v j rest,l=.q 3 (bN s) ::.q 2 [.ae,.ae] ::rest/\sgZ 3=v/\aE 32 l v j ((g8 s.ai.l k).map am)/\(v=.ae\/2<=j)/\bo v=(g8 s.ai.l k).isEmpty
structure FG (s:cn) (b:Nat) (i m:Nat) (out:List (List B × aJ)) (sgZ:aS) (l:ad) :Prop where
 eZ:sgZ 1=.ptr 0 0 3
 ha:sgZ 2=.ptr 1 0 2
 hP:sgZ 3=ah (cK (fv s))
 kG:sgZ 5=.ptr b 0 2
 lm:sgZ 6=.i6 i
 ly:l[0]?=some (.q 3 (bN s))
 q1:l[1]?=some (.q 2 [.ae,.ae])
 ex:∃ fe g h j,l[b]?=some (.q 2 [fe,g])/\gh l fe g h j (b+1) (out.map (·.1)) (out.map (·.2))/\out.length<=m
theorem DE (s:cn) (u:gR s) :aW 76 [.af (bN s)] (cD (cQ s)):=by
 apply a8 func76 [[],cR 0 7++cR 8 12++[[7,19,18,15,11,9],[21],[20]]];have cu:=ds;have aS:=nB s.ai;have cZ:=u.j8;have P:(bN s).length=3:=rfl;have R:∀ h,(bN s)[0]'h=dp s.ai:=fun _=>rfl
 simp[P];refine bx s.ai.l.length (NV s) ?_ ⟨V,V,V,.ae,0,[],rfl,V,.nil 0,.inl rfl,rfl⟩;rintro k G l hk ⟨t,I,bo,c7,c4,rest,rfl,J,bh,aQ,bc⟩;obtain⟨G,rfl⟩:=eO t I J bo;clear t I J bo;have aI:=cf (k:=k) F;by_cases m:k<s.ai.l.length
 ·obtain⟨g,aA,aV⟩:=aP m;have aY:=(u.ai g aV).1;have c1:=(u.ai g aV).2.1;have az:=l2 aA;have cd:=x0 u (kp m);have v:g8 s.ai.l (k+1)=g8 s.ai.l k++g.idsZ.l:=by show g8 s.ai.l k++(dq s.ai.l k).idsZ.l=_;rw[dr aA]
  have a2:∀ h,(bf g)[0]'h=ah g.idsZ:=fun _=>rfl
  have ax:(bf g).length=2:=rfl;obtain⟨cM,cA,cI,aD,aE,bk,aF⟩:=rK (by_:=32) (pre:=[.q 3 (bN s),.q 2 [.ae,.ae]]) (rest:=rest) bh aQ (x:=ah g.idsZ) (xs:=g.idsZ.l.map am)
   (by simp[ah]) (fun e cl=>by obtain⟨y,cz,rfl⟩:=cC.1 cl;exact br (aY.idsZ y cz)) F F (by rw[cu];simp;omega)
  simp only[iK,h0] at aD;simp[P,R,aS,m,az,a2,ax,aD];refine bP.bm ?_;simp[aI];refine⟨m,V,V,V,cM,cA,cI,rfl,V,?_,by simpa using bk,?_⟩
  ·rw[v,cS];exact aE
  ·rw[aF,bc,v];cases g8 s.ai.l k<;>cases g.idsZ.l<;>simp
 ·have bb:k=s.ai.l.length:=F;subst bb;clear hk m aI;have cd:=x0 u (aN s.ai.l.length);have bi:=VA (cK (g8 s.ai.l s.ai.l.length)) (FL u (aN _)) (by rw[dj];omega);rw[dj] at bi;change i9 _ _ _ _ (ah (cK (fv s))) at bi;have cj:=bM (cK (g8 s.ai.l s.ai.l.length));have cY:=Mp u;have cm:=Mq u;simp[P,R,aS];refine Jm (cK (g8 s.ai.l s.ai.l.length)) bh (by rw[nR];exact bc) (dj _) (fun w Y f2=>?_);have cE:w[0]?=some (.q 3 (bN s)):=by rw[f2 0 (by rcases aQ with e | e;exact .inl e;exact .inr F)];rfl
  have cH:w[1]?=some (.q 2 [.ae,.ae]):=by rw[f2 1 (by rcases aQ with e | e;exact .inl e;exact .inr F)];rfl
  have aO:2<=w.length:=by rw[Y];simp
  clear f2 bh aQ bc;refine au bi (by simp[aq];exact cj) ?_;simp;obtain⟨b,a5⟩:=al (w.length);have cV:2<=b:=F;have bD:bz (.Z 32) (ah (cK (fv s)))=some (.i6 (fv s).length):=by simp[ah,dj]
  refine bx (fv s).length (fun i G l=>FG s b i (10*i) (hF s.ai.l (fv s) i) G l/\b<l.length) ?_ ⟨⟨V,V,V,by simp[a5],V,by rw[aU F];exact cE,by rw[aU F];exact cH,.ae,.ae,0,0,by rw[a5];simp,by simpa [hF] using C7 _ _,by simp[hF]⟩,by simp[a5]⟩;rintro i G l cX ⟨⟨t,I,J,ag,ap,j,q1,p,H,kJ,lq,D,o,bd⟩,K⟩;obtain⟨G,rfl⟩:=gv t I J ag ap;clear t I J ag ap;have aI:=cf (k:=i) F;by_cases a7:i<(fv s).length
  ·obtain⟨x,bR,cx⟩:=aP a7;have bS:=cm x (by rw[dj];exact cx);have aB:=br bS;have bT:=cG x;have a9:bO (.Z 32) (ah (cK (fv s))) (.i6 (i:Int))=some (.b7 (am x) 0):=by simp[ah,dj,bR]
   obtain⟨X,a3⟩:=al (am x);have cc:X=am x:=a3;rw[<-a3] at aB bT a9;have bA:X.take 32=X:=aH F;have cw:aw (bZ 32 (.int .u8 0)) 0 X=X:=cy (by rw[aB];rfl);simp[bD,a7];refine bx s.ai.l.length (fun k G l=>(FG s b i (10*i+k) (hF s.ai.l (fv s) i++gw s.ai.l x k) G l/\G 7=.i6 k)/\b<l.length) ?_ ⟨⟨⟨V,V,V,V,V,j,q1,p,H,kJ,lq,D,by simpa [gw] using o,by simpa [gw] using bd⟩,V⟩,K⟩;clear o bd D j q1 K;rintro k G l hk ⟨⟨⟨t,I,J,ag,ap,j,q1,p,H,kJ,lq,D,o,bd⟩,bp⟩,K⟩;obtain⟨G,rfl⟩:=m0 t I J ag ap bp;clear t I J ag ap bp;have Y:=cf (k:=k) F;by_cases m:k<s.ai.l.length
   ·obtain⟨g,aA,aV⟩:=aP m;obtain⟨aY,c2,c3⟩:=u.ai g aV;have az:=l2 aA;have a2:∀ h,(bf g)[0]'h=ah g.idsZ:=fun _=>rfl
    have bs:∀ h,(bf g)[1]'h=bB g.opsZ:=fun _=>rfl
    have ax:(bf g).length=2:=rfl;have ck:=bM g.idsZ;have bE:bz (.Z 11) (bB g.opsZ)=_:=b6 _;have a4:=nL g.idsZ aY.idsZ aY.li x bS;have v:gw s.ai.l x (k+1)=gw s.ai.l x k++match iR g x with | some C=>[(x,C)] | none=>[]:=by
     show gw s.ai.l x k++(match iR (dq s.ai.l k) x with | some C=>[(x,C)] | none=>[])=_;rw[dr aA]
    have aM:iR g x=if 0<=dG x g.idsZ.l 0/\dG x g.idsZ.l 0<(g.opsZ.l.length:Int) then g.opsZ.l[(dG x g.idsZ.l 0).toNat]? else none:=rfl
    obtain⟨Q,cp⟩:=al (dG x g.idsZ.l 0);rw[<-cp] at a4 aM;rw[<-a3] at a4;have b1:0<l.length:=aX j;simp[j,P,R,aS,m,az,a2,ax,a9,aB,bA];refine au a4 (by simp[aq,U.ar,ck,bT]) ?_;by_cases S:0<=Q/\Q<(g.opsZ.l.length:Int)
    ·obtain⟨h1,aL⟩:=S;obtain⟨a,rfl⟩:=m6 h1;have ca:a<g.opsZ.l.length:=F;obtain⟨C,bG,c0⟩:=aP ca;rw[ak ⟨h1,aL⟩,fm,bG] at aM;rw[aM] at v;have bC:bO (.Z 11) (bB g.opsZ) _=_:=c5 bG;have aT:(av C).length=11:=rfl;obtain⟨O,bt⟩:=al (av C);rw[<-bt] at bC aT;have bv:O.take 11=O:=aH F;have cv:aw [U.int .u32 0,.ae,.int .u64 0,.int .u8 0,.str [],.int .u8 0,.i6 0,.int .u64 0,.str [],.int .u32 0,.int .u32 0] 0 O=O:=cy (by rw[aT];rfl);have cU:l.length<=1000000000000\/True:=.inr trivial;have cN:∀ z:ad,(l++z)[0]?=some (.q 3 (bN s)):=fun z=>by rw[aU b1];exact j
     have cP:∀ (z:ad) (h:0<(l++z).length),(l++z)[0]'h=.q 3 (bN s):=fun z h=>(aK.1 (cN z)).2
     have cO:∀ z:ad,(l++z)[b]?=some (.q 2 [p,H]):=fun z=>by rw[aU K];exact D
     have ce:b+1<=(l++[ao.q 32 X,.q 11 O]).length:=by simp;omega
     have cr:gh (l++[ao.q 32 X,.q 11 O]) p H kJ lq (b+1) ((hF s.ai.l (fv s) i++gw s.ai.l x k).map (·.1)) ((hF s.ai.l (fv s) i++gw s.ai.l x k).map (·.2)):=o.frame fun c _ ay=>aU ay
     have bJ:(hF s.ai.l (fv s) i++gw s.ai.l x k).length<=1000000:=F;obtain⟨b5,bX,aC,aD,aE,bk,aF,cT⟩:=cr.H1 (c:=l.length) cc aB V ce (by rw[cg];exact bJ);have cB:=o.hB.lt;have f:∀ c,c<l.length->p=.ae\/c≠kJ->aC[c]?=l[c]?:=fun c ay ct=>by rw[aF c (by simp;omega) ct,aU ay]
     have bn:aC[l.length+1]?=some (.q 11 O):=by
      rw[aF (l.length+1) V (by rcases cB with e | e;exact .inl e;exact .inr F)];simp
     have a6:p=.ae\/b+1<=kJ:=o.oj;have f0:aC[0]?=some (.q 3 (bN s)):=by rw[f 0 b1 (by rcases a6 with e | e;exact .inl e;exact .inr F)];exact j
     have f1:aC[1]?=some (.q 2 [.ae,.ae]):=by rw[f 1 (aX q1) (by rcases a6 with e | e;exact .inl e;exact .inr F)];exact q1
     have a0:aC[b]?=some (.q 2 [p,H]):=by rw[f b K (by rcases a6 with e | e;exact .inl e;exact .inr F)];exact D
     have ch:=aX a0;obtain⟨b8,bY,w,aZ,aG,bl,W⟩:=aE.Jf (c:=l.length+1) bt bn F (by rw[cg];exact bJ);have aO:H=.ae\/b+1<=lq:=o.ol;have b9:w[0]?=some (.q 3 (bN s)):=by rw[W 0 (aX f0) (by rcases aO with e | e;exact .inl e;exact .inr F)];exact f0
     have t:w[1]?=some (.q 2 [.ae,.ae]):=by rw[W 1 (aX f1) (by rcases aO with e | e;exact .inl e;exact .inr F)];exact f1
     have bq:w[b]?=some (.q 2 [p,H]):=by rw[W b ch (by rcases aO with e | e;exact .inl e;exact .inr F)];exact a0
     have ci:=aX bq;have gs:∀ y:ao,(w.set b y)[b]?=some y:=fun y=>bV ci
     simp[j,D,cP,cO,P,R,az,bs,ax,bE,h1,aL,a9,aB,bA,cw,bC,aT,bv,cv,aD];refine bP.bm ?_;have cb:(bf g)[1]?=some (bB g.opsZ):=rfl;simp[f0,a0,bn,P,R,aZ,aT,bv,cb];refine bP.bm ?_;have b2:=qU aE.hB;have b3:=qU aG.iA;simp[bq,gs,b2,b3,aw,Y];have bL:hF s.ai.l (fv s) i++gw s.ai.l x (k+1)=(hF s.ai.l (fv s) i++gw s.ai.l x k)++[(x,C)]:=by rw[v,hl]
     have cs:∀ y:ao,gh (w.set b y) b5 b8 bX bY (b+1) ((hF s.ai.l (fv s) i++gw s.ai.l x (k+1)).map (·.1)) ((hF s.ai.l (fv s) i++gw s.ai.l x (k+1)).map (·.2)):=fun y=>by
      have bF:∀ T:List (List B × aJ),(T++[(x,C)]).map (·.1)=T.map (·.1)++[x]/\(T++[(x,C)]).map (·.2)=T.map (·.2)++[C]:=fun T=>⟨by rw[cS];rfl,by rw[cS];rfl⟩
      rw[bL,(bF _).1,(bF _).2];exact aG.frame fun c ay _=>bg (Nat.ne_of_lt ay)
     exact⟨m,⟨V,V,V,V,V,by rw[bg F];exact b9,by rw[bg F];exact t,b5,b8,bX,bY,gs _,cs _,by rw[bL,cF,xL];omega⟩,F⟩
    ·have cq:iR g x=none:=by rw[aM,aj S]
     rw[cq,eK] at v;have cW:(decide (0<=Q)&&decide (Q<(g.opsZ.l.length:Int)))=false:=by
      cases h:(decide (0<=Q)&&decide (Q<(g.opsZ.l.length:Int))) with
      | false=>rfl
      | true=>rw[bU,bI,bI] at h;exact bW h S
     by_cases h1:0<=Q
     ·have aL:¬ Q<(g.opsZ.l.length:Int):=fun h=>S ⟨h1,h⟩
      simp[j,P,R,az,bs,ax,bE,h1,aL,Y];exact⟨m,⟨V,V,V,V,V,j,q1,p,H,kJ,lq,D,by rw[v];exact o,by rw[v];omega⟩,K⟩
     ·simp[h1,Y];exact⟨m,⟨V,V,V,V,V,j,q1,p,H,kJ,lq,D,by rw[v];exact o,by rw[v];omega⟩,K⟩
   ·have bb:k=s.ai.l.length:=F;subst bb;have bK:hF s.ai.l (fv s) (i+1)=hF s.ai.l (fv s) i++gw s.ai.l x s.ai.l.length:=by
     show hF s.ai.l (fv s) i++gw s.ai.l (bw (fv s) i) s.ai.l.length=_;rw[dI bR]
    simp[j,P,R,aS,aI];exact⟨a7,⟨V,V,V,V,V,j,q1,p,H,kJ,lq,D,by rw[bK];exact o,by rw[bK];omega⟩,K⟩
  ·have S:i=(fv s).length:=F;subst S;have bj:=zM _ (xx u);change i9 _ _ _ _ (cD (cQ s)) at bj;have b2:=gB (cQ s).idsZ;have b3:=pk (cQ s).opsZ;have aZ:=bM (cQ s).idsZ;have aG:=im (cQ s).opsZ;have bl:=bM (cK ((bH s).map (·.1)));have W:=im (cK ((bH s).map (·.2)));unfold cD bf at bj;simp[bD,D];refine o.call fun b0 c6 cJ=>?_
   have b4:b0[1]?=some (.q 2 [.ae,.ae]):=by rw[cJ 1 F];exact q1
   have cL:=aX b4;have gs:∀ y:ao,(b0.set 1 y)[1]?=some y:=fun y=>bV cL
   refine au bj (by simp[aq,U.ar];exact⟨bl,W⟩) ?_;simp[b4,gs,aw];exact aR rfl (show (U.af [ah (cQ s).idsZ,bB (cQ s).opsZ]).ar=true by simp[U.ar,aq,aZ,aG])
theorem Ui {alZ:Type} {z:Nat} {enc:alZ->ag} {l:ad} {a v:U} {j:Nat} {xs:List alZ} (s:bX alZ) (h:aE z l v j (xs.map enc)) (q:bo v=s.isNone) (t:s.l=xs) {f:cj} {K:cA}
  (p:∀ g,g.length=l.length->(∀ b,v=.ae\/b≠j->g[b]?=l[b]?)->cM f [a,b4 z enc s] g K) :cM f [a,v] l K:=by
 obtain⟨u,B,w,o,f1⟩:=wU s h q t;refine tw checked.mixed eG (args2:=[a,b4 z enc s]) B F rfl (fun j c C h1 m=>?_) (p u o f1);rcases j4 h1 with ⟨rfl,rfl⟩ | ⟨rfl,rfl⟩
 ·rcases j4 m with ⟨_,rfl⟩ | ⟨h,_⟩
  ·exact .same _
  ·omega
 ·rcases j4 m with ⟨h,_⟩ | ⟨_,rfl⟩
  ·omega
  ·exact w
def num (x:List B) (n:Nat) :Nat:=(x.getD 0 0).toNat % n
def j7 (g:aV) (n i:Nat) :aQ:=g.idsZ.l.filter fun x=>decide (num x n=i)
def iV (g:aV) (n:Nat) :Nat->List aV
 | 0=>[]
 | i+1=>iV g n i++[hD g (j7 g n i)]
theorem pG (g:aV) (n:Nat) :∀ i,(iV g n i).length=i
 | 0=>rfl
 | i+1=>by show (iV g n i++_).length=_;rw[cF,pG g n i];rfl
theorem y7 (g:aV) (n:Nat) :∀ {i k:Nat},k<i->(iV g n i)[k]?=some (hD g (j7 g n k))
 | i+1,k,hk=>by
  show (iV g n i++_)[k]?=_;by_cases h:k<i
  ·rw[aU (by rw[pG];exact h)];exact y7 g n h
  ·have:k=i:=F;subst this;rw[eu (by rw[pG];exact aN _),pG];simp
def jj (g:aV) (n:Nat) :cn:=⟨some (iV g n n),cK (eU g),g.idsZ.l.length⟩
theorem I0 {x:List B} (g:x.length=32) :∃ b r,x=b::r/\num x=fun n=>b.toNat % n:=by
 cases x with
 | nil=>cases g
 | cons b r=>exact⟨b,r,rfl,rfl⟩
theorem Dh {z by_:Nat} {l:ad} {w:U} {g n c:Nat} {es:List (ag)} {X:ag} (h:aE z l w g es) (J:w=.ae\/n<=g) (R:n<=l.length) (O:l[c]?=some (.q z X)) (v:X.length=z) (I:z≠0) (K:by_≠0) (P:(es.length+1)*by_<=dk) :
  ∃ w' j l',ea l z by_ w (.Z z c 0 1 1 z)=some (w',l')/\aE z l' w' j (es++[X])/\bo w'=false/\n<=j/\l.length<=l'.length/\(∀ b,b<l.length->w=.ae\/b≠g->l'[b]?=l[b]?)/\(l.length<=j\/(w≠.ae/\j=g)):=by
 obtain⟨t,Q,l',C,D,F,G,u,H⟩:=hN (by_:=by_) (x:=.Z z c 0 1 1 z) (xs:=[X]) h (by simp[cr,O,v,aH]) (by simp[v]) I K (by simpa using P);have p:bo t=false:=by rw[H];simp
 have B:t≠.ae:=fun e=>by rw[e] at p;cases p
 refine⟨t,Q,l',C,D,p,?_,F,G,?_⟩
 ·rcases u with e | ⟨m,o⟩ | e
  ·omega
  ·rw[o];exact J.resolve_left m
  ·exact bW e B
 ·rcases u with e | ⟨m,o⟩ | e
  ·exact .inl e
  ·exact .inr ⟨m,o⟩
  ·exact bW e B
theorem Uo {z:Nat} {l l' : ad} {w v:U} {yW h j:Nat} {es:List (ag)} (o:aE z l v j es) (ne:w=.ae\/v=.ae\/yW≠j) (u:∀ b,b<l.length->w=.ae\/b≠yW->l'[b]?=l[b]?) (t:l.length<=h\/(w≠.ae/\h=yW)) :aE z l' v j es/\(v=.ae\/h≠j):=by
 by_cases g:v=.ae
 ·refine⟨?_,.inl g⟩;subst g;have:=o.q.oN;subst this;exact .nil _
 ·have B:=o.lt.resolve_left g;have m:w=.ae\/j≠yW:=by
   rcases ne with q | q | q
   ·exact .inl q
   ·exact bW q g
   ·exact .inr fun e=>q e.symm
  refine⟨o.cl (.inr (u j B m)),.inr fun e=>?_⟩;rcases t with q | ⟨q1,C⟩
  ·omega
  ·rcases m with p | p
   ·exact q1 p
   ·exact p F
structure No (g:aV) (n i:Nat) (sgZ:aS) (l:ad) :Prop where
 eZ:sgZ 1=.i6 n
 ha:sgZ 2=.ptr 0 0 2
 hQ:sgZ 4=.ptr 1 0 3
 kG:sgZ 5=.ptr 2 0 3
 lm:sgZ 6=.i6 i
 ex:∃ v j rest,l=.q 2 [ah g.idsZ,bB g.opsZ] ::.q 3 [.ae,.ae,.i6 0] ::.q 3 [v,ah (cK (eU g)),.i6 g.idsZ.l.length] ::rest/\aE 2 l v j ((iV g n i).map bf)/\(v=.ae\/3<=j)/\bo v=(iV g n i).isEmpty
structure Np (g:aV) (n i:Nat) (v:U) (j:Nat) (k:Nat) (sgZ:aS) (l:ad) :Prop where
 eZ:sgZ 1=.i6 n
 ha:sgZ 2=.ptr 0 0 2
 hQ:sgZ 4=.ptr 1 0 3
 kG:sgZ 5=.ptr 2 0 3
 lm:sgZ 6=.i6 i
 nw:sgZ 8=.i6 k
 ex:∃ w h rest,l=.q 2 [ah g.idsZ,bB g.opsZ] ::.q 3 [.ae,.ae,.i6 0] ::.q 3 [v,ah (cK (eU g)),.i6 g.idsZ.l.length] ::rest/\aE 2 l v j ((iV g n i).map bf)/\sgZ 7=w ∧
  aE 32 l w h (((g.idsZ.l.take k).filter fun x=>decide (num x n=i)).map am)/\(w=.ae\/3<=h)/\bo w=((g.idsZ.l.take k).filter fun x=>decide (num x n=i)).isEmpty/\(w=.ae\/v=.ae\/h≠j)
theorem J7 (g:aV) (Y:eT g) (aS:eY g=0) (n:Nat) (bV:1<=n) (bW:n<=100) :aW 126 [cD g,.i6 n] (.af (bN (jj g n))):=by
 apply a8 func126 [[[0],[2],[3],[4],[6],[1,6,3],[5]],cR 0 4++[[4,1]]];have a2:=ds;have aL:=kO aS;have bX:=aL.n60;have bY:=aL.len;have aX:=bM g.idsZ;have aY:=im g.opsZ;have ai:bz (.Z 32) (ah g.idsZ)=_:=b6 _;have a3:=VB g Y aS;have bG:=gB (cK (eU g));unfold cD bf at a3;simp[cD,bf,ai];refine au a3 (by simp[aq,U.ar,aX,aY]) ?_;simp[bG,aw];refine bx n (No g n) ?_ ⟨V,V,V,V,V,.ae,0,[],rfl,.nil 0,.inl rfl,rfl⟩;rintro i aK l bT ⟨B,C,D,G,H,j,m,rest,rfl,t,aF,bs⟩;obtain⟨aK,rfl⟩:=gv B C D G H;clear B C D G H;have bh:=cf (k:=i) F;by_cases aZ:i<n
 ·simp[aZ];refine bx g.idsZ.l.length (Np g n i j m) ?_ ⟨V,V,V,V,V,V,.ae,0,rest,rfl,t,V,.nil 0,.inl rfl,rfl,.inl rfl⟩;clear t;rintro k aK l hk ⟨B,C,D,G,H,aR,w,a6,rest,rfl,t,aQ,O,ad,ak,aG⟩;obtain⟨aK,rfl⟩:=xt B C D G H aQ aR;clear B C D G H aQ aR;have aO:=cf (k:=k) F;by_cases ag:k<g.idsZ.l.length
  ·obtain⟨x,P,bE⟩:=aP ag;have a5:=Y.idsZ x bE;have R:=br a5;have aD:bO (.Z 32) (ah g.idsZ) _=_:=c5 P;have J:g.idsZ.l.take (k+1)=g.idsZ.l.take k++[x]:=by rw[ej,P];rfl
   obtain⟨la,r,bD,bt⟩:=I0 a5;have aB:∀ h,(am x)[0]'h=a7 la:=fun h=>by subst bD;rfl
   have bR:la.toNat<256:=la.isLt;have a4:IntKind.i64.wrap (u la)=(la.toNat:Int):=by unfold u;rw[IntKind.wrap_i64];omega
   have aC:=tp la.toNat (n:Int) F;rw[fm] at aC;obtain⟨X,aA⟩:=al (am x);rw[<-aA] at R aD;simp only[<-aA] at aB;have bj:X.take 32=X:=aH F;have bA:aw (bZ 32 (.int .u8 0)) 0 X=X:=cy (by rw[R];rfl);have a0:((la.toNat:Int) % (n:Int)=(i:Int))<->num x n=i:=by
    rw[bt,<-Int.natCast_emod];exact⟨fun h=>Int.ofNat.inj h,fun h=>by rw[<-h]⟩
   have bS:((g.idsZ.l.take k).filter fun x=>decide (num x n=i)).length<=1000000:=dC (g4 _ _) (by rw[cL];omega);by_cases aj:num x n=i
   ·have K:(g.idsZ.l.take (k+1)).filter (fun x=>decide (num x n=i))=(g.idsZ.l.take k).filter (fun x=>decide (num x n=i))++[x]:=by rw[J,lH];simp[aj]
    obtain⟨w',bF,aJ,z,T,ap,av,bc,W,aM⟩:=Dh (by_:=32) (n:=3) (c:=rest.length+1+1+1) (O.more [ao.q 32 X]) ad V V R F F (by rw[a2];simp;omega);obtain⟨bd,bg⟩:=Uo (t.more [ao.q 32 X]) aG W aM;have o:∀ b,b<3->aJ[b]?=(ao.q 2 [ah g.idsZ,bB g.opsZ] ::ao.q 3 [.ae,.ae,.i6 0] ::ao.q 3 [j,ah (cK (eU g)),.i6 g.idsZ.l.length] ::rest)[b]?:=fun b aT=>by
     rw[W b (by simp;omega) (by rcases ad with e | e;exact .inl e;exact .inr F),aU (by simp;omega)]
    obtain⟨bH,rfl⟩:=pV (o 0 F) (o 1 F) (o 2 F);simp only[iK] at z;simp[ai,ag,aD,R,aB,a4,aC,a0,aj,bj,bA,z];refine bP.bm ?_;simp[aO];refine⟨ag,V,V,V,V,V,V,w',bF,bH,rfl,bd,V,?_,.inr av,by rw[K,ap];simp,?_⟩
    ·rw[K,cS,di,lI,<-aA];exact T
    ·exact .inr bg
   ·have K:(g.idsZ.l.take (k+1)).filter (fun x=>decide (num x n=i))=(g.idsZ.l.take k).filter (fun x=>decide (num x n=i)):=by rw[J,lH];simp[aj]
    simp[ai,ag,aD,R,aB,a4,aC,a0,aj,aO];exact⟨V,V,V,V,V,V,w,a6,rest,rfl,t,V,by rw[K];exact O,ad,by rw[K];exact ak,aG⟩
  ·have bp:k=g.idsZ.l.length:=F;subst bp;rw[e3] at O ak;change aE 32 _ w a6 ((j7 g n i).map am) at O;change bo w=(j7 g n i).isEmpty at ak;have I:=Vn g Y F (cK (j7 g n i)) (fun x P=>by rw[dj] at P;exact Y.idsZ x (dx.1 P).1) (by rw[dj];have:=g4 (fun x=>decide (num x n=i)) g.idsZ.l;unfold j7;omega) F;rw[dj] at I;have bl:=bM (cK (j7 g n i));have J:iV g n (i+1)=iV g n i++[hD g (j7 g n i)]:=rfl;have bU:=pG g n i;unfold cD bf at I;obtain⟨Q,ay⟩:=al (bf (hD g (j7 g n i)));have az:Q.length=2:=by rw[ay];rfl
   have bL:Q.take 2=Q:=aH F;have bi:aw [U.ae,.ae] 0 Q=Q:=cy (by rw[az];rfl);change i9 _ _ _ _ (.af (bf (hD g (j7 g n i)))) at I;rw[<-ay] at I;simp[ai];refine Ui (cK (j7 g n i)) O (by rw[nR];exact ak) (dj _) (fun a9 f1 f2=>?_);have bv:aE 2 a9 j m ((iV g n i).map bf):=t.cl (by
    rcases aG with q | q | q
    ·exact .inr (f2 m (.inl q))
    ·exact .inl q
    ·exact .inr (f2 m (.inr fun e=>q e.symm)))
   have o:∀ b,b<3->a9[b]?=(ao.q 2 [ah g.idsZ,bB g.opsZ] ::ao.q 3 [.ae,.ae,.i6 0] ::ao.q 3 [j,ah (cK (eU g)),.i6 g.idsZ.l.length] ::rest)[b]?:=fun b aT=>f2 b (by rcases ad with e | e;exact .inl e;exact .inr F)
   obtain⟨bb,rfl⟩:=pV (o 0 F) (o 1 F) (o 2 F);refine au I (by simp[aq,U.ar,aX,aY];exact bl) ?_;obtain⟨bJ,aI,aJ,z,T,ap,av,bc,W,aM⟩:=Dh (by_:=48) (n:=3) (c:=bb.length+1+1+1) (bv.more [ao.q 2 Q]) aF V V az F F (by rw[a2];simp;omega);have ax:∀ b,b<3->aJ[b]?=(ao.q 2 [ah g.idsZ,bB g.opsZ] ::ao.q 3 [.ae,.ae,.i6 0] ::ao.q 3 [j,ah (cK (eU g)),.i6 g.idsZ.l.length] ::bb)[b]?:=fun b aT=>by
    rw[W b (by simp;omega) (by rcases aF with e | e;exact .inl e;exact .inr F),aU (by simp;omega)]
   obtain⟨bI,rfl⟩:=pV (ax 0 F) (ax 1 F) (ax 2 F);simp only[iK] at z;simp[az,bi,z];refine bP.bm ?_;have bC:=qU T;simp[bC,aw,bh];refine⟨aZ,V,V,V,V,V,bJ,aI,bI,rfl,?_,.inr av,by rw[ap,J];simp⟩;rw[J,cS,di,lI,<-ay];refine T.cl (.inr ?_);obtain⟨S,rfl⟩:∃ S,aI=S+3:=⟨aI - 3,F⟩
   rfl
 ·have bn:i=n:=F;subst bn;simp;have bw:Rd (ao.q 2 [ah g.idsZ,bB g.opsZ] ::ao.q 3 [j,ah (cK (eU g)),.i6 g.idsZ.l.length] ::ao.q 3 [j,ah (cK (eU g)),.i6 g.idsZ.l.length] ::rest) j (dp (some (iV g i i))):=by
   refine (t.cl (l':=ao.q 2 [ah g.idsZ,bB g.opsZ] ::ao.q 3 [j,ah (cK (eU g)),.i6 g.idsZ.l.length] ::ao.q 3 [j,ah (cK (eU g)),.i6 g.idsZ.l.length] ::rest) ?_).q.gG oo (some (iV g i i)) ?_ rfl
   ·rcases aF with h | h
    ·exact .inl h
    ·right;obtain⟨S,rfl⟩:∃ S,m=S+3:=⟨m - 3,F⟩
     rfl
   ·rw[bs];have:=pG g i i;cases bq:iV g i i with
    | nil=>rw[bq] at this;simp at this;omega
    | cons=>rfl
  have bk:=bM (cK (eU g));refine .af _ _ rfl fun m c bK p v=>?_
  rcases m with _ | _ | _ | m
  ·simp[bN,jj] at p v;subst p v;exact bw
  ·simp[bN,jj] at p v;subst p v;exact .same _ bk
  ·simp[bN,jj] at p v;subst p v;exact .same _ rfl
  ·simp at p
structure rE (s:cn) :Prop where
 ai:∀ g∈s.ai.l,eT g
 j8:s.ai.l.length<=1000000
 bE:c6 s.bE
 nE:s.bE.l.length<=1000000
theorem gR.w {s:cn} (h:gR s) :rE s:=⟨fun g j=>(h.ai g j).1,by have:=h.j8;omega,h.bE,h.nE⟩
def ih (a b:cn) :Bool:=decide (a.ai.l.length=b.ai.l.length)&&(decide (a.bL=b.bL)&&(decide (a.bE.l=b.bE.l)&&decide (∀ k,k<a.ai.l.length->kS (dq a.ai.l k) (dq b.ai.l k)=true)))
theorem mf (a b:cn) :ih a b=true<->a.ai.l.length=b.ai.l.length/\a.bL=b.bL/\a.bE.l=b.bE.l/\∀ k,k<a.ai.l.length->kS (dq a.ai.l k) (dq b.ai.l k)=true:=by unfold ih;simp only[bU,bI]
theorem Ka (a b:cn) (v:rE a) (O:rE b) :aW 81 [.af (bN a),.af (bN b)] (.bool (ih a b)):=by
 apply a8 func81 [];have p:=nB a.ai;have z:=nB b.ai;have aB:=ky a.ai;have aC:=ky b.ai;have Q:=bM a.bE;have P:=bM b.bE;have X:=sD a.bE b.bE v.bE O.bE v.nE;by_cases h1:a.ai.l.length=b.ai.l.length
 ·by_cases o:a.bL=b.bL
  ·by_cases u:a.bE.l=b.bE.l
   ·simp[bN,p,z,h1,o];refine au X (by simp[aq,Q,P]) ?_;simp[u];refine bx a.ai.l.length (fun k t l=>l=[.q 3 [dp a.ai,ah a.bE,.i6 a.bL],.q 3 [dp b.ai,ah b.bE,.i6 b.bL]]/\t 2=.ptr 0 0 3/\t 3=.ptr 1 0 3/\t 5=.i6 k/\∀ j,j<k->kS (dq a.ai.l j) (dq b.ai.l j)=true) ?_ ⟨by simp[o],V,V,V,fun j av=>F⟩;rintro k t l hk ⟨rfl,C,D,G,ag⟩;obtain⟨t,rfl⟩:=gJ C D G;clear C D G;have ak:IntKind.i64.wrap ((k:Int)+1)=((k+1:Nat) :Int):=by rw[IntKind.wrap_i64];have:=v.j8;omega
    by_cases w:k<a.ai.l.length
    ·obtain⟨m,Y,ay⟩:=aP w;obtain⟨q,ad,az⟩:=aP (l:=b.ai.l) (k:=k) F;have T:=l2 Y;have W:=l2 ad;have B:=Vr m q (v.ai m ay) (O.ai q az);have aD:k<b.ai.l.length:=F;have I:(bf m).length=2:=rfl;have K:(bf q).length=2:=rfl;have H:=oo m;have J:=oo q;have R:=dr Y;have S:=dr ad;change i9 _ _ _ [.af (bf m),.af (bf q)] _ at B;obtain⟨nd,ao⟩:=al (bf m);obtain⟨Fy,ap⟩:=al (bf q);rw[<-ao] at T B I H;rw[<-ap] at W B K J;have t1:nd.take 2=nd:=aH F;have t2:Fy.take 2=Fy:=aH F;simp[p,w,T,W,I,K,t1,t2];refine au B (by simp[aq,U.ar,H,J]) ?_;cases aj:kS m q with
     | true=>
      simp[ak];refine⟨w,fun j av=>?_⟩;by_cases aw:j=k
      ·subst aw;rw[R,S];exact aj
      ·exact ag j F
     | false=>
      have g:ih a b=false:=p6.2 fun h=>by
       have:=((mf a b).1 h).2.2.2 k w;rw[R,S,aj] at this;cases this
      simp;exact aR (ci U.bool g.symm) rfl
    ·have ax:k=a.ai.l.length:=F;subst ax;have aA:ih a b=true:=(mf a b).2 ⟨h1,o,u,ag⟩;simp[p];exact aR (ci U.bool aA.symm) rfl
   ·have g:ih a b=false:=p6.2 fun h=>u ((mf a b).1 h).2.2.1
    simp[bN,p,z,h1,o];refine au X (by simp[aq,Q,P]) ?_;simp[u];exact aR (ci U.bool g.symm) rfl
  ·have g:ih a b=false:=p6.2 fun h=>o ((mf a b).1 h).2.1
   simp[bN,p,z,h1,o];exact aR (ci U.bool g.symm) rfl
 ·have g:ih a b=false:=p6.2 fun h=>h1 ((mf a b).1 h).1
  have am:¬ (a.ai.l.length:Int)=b.ai.l.length:=F;simp[bN,p,z,am];exact aR (ci U.bool g.symm) rfl
theorem Ut {g:aV} (h:eT g) (L:aQ) :eT (hD g L):=by
 unfold hD;refine Ap (Cg (fun m j=>h.idsZ _ (zD (gA (dx.1 j).1)).1) (fun m j=>h.opsZ _ (zD (gA (dx.1 j).1)).2) ?_);have h1:=JM (g:=g) (L:=L) (k:=(hc g).length);have o:(hc g).length<=g.idsZ.l.length:=by unfold hc;rw[List.length_zip];omega
 have:=h.li;omega
theorem SI {g:aV} (h:eT g) {n:Nat} (u:n<=1000) :rE (jj g n):=by
 refine⟨fun t o=>?_,?_,fun x q=>?_,?_⟩
 ·have p:t∈iV g n n:=o;obtain⟨k,hk⟩:=cq.1 p;have j:=(aK.1 hk).1;rw[pG] at j;rw[y7 g n j] at hk;obtain rfl:=cd hk;exact Ut h _
 ·show (iV g n n).length<=_;rw[pG];omega
 ·have m:x∈(cK (eU g)).l:=q;rw[dj] at m;exact h.idsZ x (dx.1 m).1
 ·show (cK (eU g)).l.length<=_;rw[dj];have:=g4 (io g) g.idsZ.l;have:=h.li;unfold eU;omega
theorem Aw {s:cn} (h:gR s) :eT (cQ s):=Ap (xx h)
noncomputable def kV (s:cn) :Int:=if 1<=s.ai.l.length/\s.ai.l.length<=4 then (if eY (cQ s)=0/\ih s (jj (cQ s) s.ai.l.length)=true then 0 else 8) else 8
theorem Vx (s:cn) (u:gR s) :aW 75 [.af (bN s)] (.i6 (kV s)):=by
 apply a8 func75 [cR 0 9++[[9,4]]];have q:=nB s.ai;have m:(bN s).length=3:=rfl;have p:∀ h,(bN s)[0]'h=dp s.ai:=fun _=>rfl
 have G:=oq s;have t:(bN s).take 3=bN s:=rfl;by_cases h1:1<=s.ai.l.length
 ·by_cases D:s.ai.l.length<=4
  ·have o:¬ (s.ai.l.length:Int)<1:=F;have v:¬ (4:Int)<(s.ai.l.length:Int):=F;have Q:¬ 4<s.ai.l.length:=F;have K:=DE s u;have z:=Aw u;have I:=U7 (cQ s) z;have R:=gB (cQ s).idsZ;have S:=pk (cQ s).opsZ;have B:=bM (cQ s).idsZ;have C:=im (cQ s).opsZ;unfold cD bf at K I;have g:kV s=if eY (cQ s)=0/\ih s (jj (cQ s) s.ai.l.length)=true then 0 else 8:=by unfold kV;rw[ak ⟨h1,D⟩]
   simp[m,p,t,q,o,v];refine au K (by simp[aq,U.ar,G]) ?_;simp[aw];refine au I (by simp[aq,U.ar,B,C]) ?_;by_cases j:eY (cQ s)=0
   ·have J:=J7 (cQ s) z j s.ai.l.length h1 F;have P:=Ka s (jj (cQ s) s.ai.l.length) u.w (SI z F);have O:=oq (jj (cQ s) s.ai.l.length);unfold cD bf at J;simp[j,m,p,t,q];refine au J (by simp[aq,U.ar,B,C]) ?_;simp[m,t];refine au P (by simp[aq,U.ar,G,O]) ?_;cases H:ih s (jj (cQ s) s.ai.l.length) with
    | true=>
     rw[H,ak ⟨j,rfl⟩] at g;rw[g];simp;exact aL
    | false=>
     rw[H,aj V] at g;rw[g];simp;exact aL
   ·rw[aj (fun h=>j h.1)] at g;rw[g];simp[j];exact aL
  ·have g:kV s=8:=by unfold kV;rw[aj (fun h=>D h.2)]
   have o:¬ (s.ai.l.length:Int)<1:=F;have v:(4:Int)<(s.ai.l.length:Int):=F;have Q:4<s.ai.l.length:=F;rw[g];simp[m,p,q,o,v];exact aL
 ·have g:kV s=8:=by unfold kV;rw[aj (fun h=>h1 h.1)]
  have o:(s.ai.l.length:Int)<1:=F;rw[g];simp[m,p,q,o];exact aL
structure c9 where
 cap:Int
 aG:cn
 ay:b2
def bJ (s:c9) :ag:=[.i6 s.cap,dp s.aG.ai,ah s.aG.bE,.i6 s.aG.bL,ah s.ay]
structure iN (s:c9) :Prop where
 aG:gR s.aG
 ay:c6 s.ay
 no:s.ay.l.length<=1000
theorem je (s:c9) :aq (bJ s)=true:=by simp[bJ,aq,U.ar,ky,bM]
def hC (g:aV) (l:aQ) (i:Nat) :Bool:=decide (bw l i∈g.idsZ.l)&&(!decide (bw l i∈l.take i)&&gV (l.take i) (dQ g.opsZ.l (dG (bw l i) g.idsZ.l 0).toNat))
def kP (g:aV) (l:aQ) :Bool:=decide (∀ i,i<l.length->hC g l i=true)
noncomputable def fl (s:c9) :Int:=if 1<=s.cap/\s.cap<=40/\kV s.aG=0/\s.aG.bL<=s.cap/\(s.ay.l.length:Int)=s.aG.bL then (if kP (cQ s.aG) s.ay.l=true then 0 else 8) else 8
theorem Eb {s:cn} (h:kV s=0) :1<=s.ai.l.length/\s.ai.l.length<=4/\eY (cQ s)=0/\ih s (jj (cQ s) s.ai.l.length)=true:=by
 unfold kV at h;split at h
 ·rename_i h1;split at h
  ·rename_i g;exact⟨h1.1,h1.2,g⟩
  ·cases h
 ·cases h
theorem RY {x:List B} {l:aQ} {i:Nat} (p:l[i]?=some x) :dG x l 0<(i:Int)<->x∈l.take i:=by
 obtain⟨n,w,z,v⟩:∃ n:Nat,dG x l 0=(n:Int)/\l[n]?=some x/\∀ (g:Nat) (y:List B),g<n->l[g]?=some y->y≠x:=by
  have G:∀ (j:Nat),l[j]?=some x->∃ n:Nat,l[n]?=some x/\∀ (g:Nat) (y:List B),g<n->l[g]?=some y->y≠x:=by
   intro j
   induction j using Nat.strongRecOn with
   | _ j D=>
    intro u;by_cases h:∃ g,g<j/\l[g]?=some x
    ·obtain⟨g,m,q⟩:=h;exact D g m q
    ·exact⟨j,u,fun g y m C e=>h ⟨g,m,by rw[C,e]⟩⟩
  obtain⟨n,h1,o⟩:=G i p;exact⟨n,by have:=qI (n:=0) h1 o;simpa using this,h1,o⟩
 rw[w];constructor
 ·intro h;have h' : n<i:=F;exact cq.2 ⟨n,by rw[dS h'];exact z⟩
 ·intro h;obtain⟨k,hk⟩:=cq.1 h;have t:=(aK.1 hk).1;rw[cL] at t;rw[dS F] at hk;by_cases e:n<=k
  ·omega
  ·exact bW rfl (v k x F hk)
theorem tQ {l:aQ} (j:k7 l) {i:Nat} {x:List B} (g:l[i]?=some x) :dG x l 0=(i:Int):=by have:=qI (n:=0) g (fun m y o h e=>by rw[e] at h;have:=j m i x h g;omega);simpa using this
theorem Rr (a:b2) {k:Nat} (h:k<=a.l.length) :dw (.Z 32) (ah a) none (some (.i6 (k:Int))) none=some (ah (hg a k)):=Aj h
theorem Kb (s:c9) (v:iN s) :aW 30 [.af (bJ s)] (.i6 (fl s)):=by
 apply a8 func30 [[],cR 0 10++[[11],[10]]];have I:bz (.Z 32) (ah s.ay)=_:=b6 _;have G:=Vx s.aG v.aG;have D:=ky s.aG.ai;have C:=bM s.aG.bE;have a6:=bM s.ay;have bF:=v.no;unfold bN at G;by_cases h1:1<=s.cap
 ·by_cases aM:s.cap<=40
  ·have o:¬ s.cap<1:=F;have w:¬ (40:Int)<s.cap:=F;by_cases t:kV s.aG=0
   ·by_cases aO:s.aG.bL<=s.cap
    ·have Y:¬ s.cap<s.aG.bL:=F;by_cases Q:(s.ay.l.length:Int)=s.aG.bL
     ·obtain⟨_,_,aJ,_⟩:=Eb t;have P:=kO aJ;have ad:=Aw v.aG;have a2:=P.len;have bl:=P.n60;have aB:=DE s.aG v.aG;have j:fl s=if kP (cQ s.aG) s.ay.l=true then 0 else 8:=by unfold fl;rw[ak ⟨h1,aM,t,aO,Q⟩]
      have T:∀ i,i<s.ay.l.length->hC (cQ s.aG) s.ay.l i=false->fl s=8:=fun i bd bb=>by
       rw[j,aj];unfold kP;rw[bI];intro h;have:=h i bd;rw[bb] at this;cases this
      have bv:=gB (cQ s.aG).idsZ;have bw:=pk (cQ s.aG).opsZ;have ag:=bM (cQ s.aG).idsZ;unfold cD bf bN at aB;obtain⟨g,bc⟩:=al (cQ s.aG);rw[<-bc] at aB ad a2 bl bv bw ag T P j aJ;simp[bJ,o,w];refine au G (by simp[aq,U.ar,D,C]) ?_;simp[t,Y,I,Q];refine au aB (by simp[aq,U.ar,D,C]) ?_;simp[aw];refine bx s.ay.l.length (fun k O l=>l=[.q 5 [.i6 s.cap,dp s.aG.ai,ah s.aG.bE,.i6 s.aG.bL,ah s.ay],.q 2 [ah g.idsZ,bB g.opsZ]]/\O 1=.ptr 0 0 5/\O 3=.ptr 1 0 2/\O 4=.i6 k/\∀ z,z<k->hC g s.ay.l z=true) ?_ ⟨rfl,V,V,V,fun z bh=>F⟩;rintro k O l hk ⟨rfl,aE,aF,aI,aV⟩;obtain⟨O,rfl⟩:=gJ aE aF aI;clear aE aF aI;have a4:=cf (k:=k) F;by_cases u:k<s.ay.l.length
      ·obtain⟨x,aC,bs⟩:=aP u;have aD:=v.ay x bs;have K:=br aD;have J:=cG x;have H:bO (.Z 32) (ah s.ay) _=_:=c5 aC;have B:=nL g.idsZ ad.idsZ ad.li x aD;have aA:=nL s.ay v.ay F x aD;have hit:=RY aC;have m:hC g s.ay.l k=(decide (x∈g.idsZ.l)&&(!decide (x∈s.ay.l.take k)&&gV (s.ay.l.take k) (dQ g.opsZ.l (dG x g.idsZ.l 0).toNat))):=by unfold hC;rw[dI aC]
       have bn:=lp x g.idsZ.l 0;obtain⟨bt,bg⟩:=al (dG x s.ay.l 0);rw[<-bg] at aA hit;by_cases W:x∈g.idsZ.l
       ·obtain⟨a,az⟩:=cq.1 W;have a5:=tQ (mG P.b8) az;obtain⟨p,aY,bp⟩:=aP (l:=g.opsZ.l) (k:=a) (by rw[<-a2];exact (aK.1 az).1);have a0:=ad.opsZ p bp;rw[a5] at B m;rw[ca W,fm,mb aY,lF] at m;have bD:=(aK.1 az).1;have aX:bO (.Z 11) (bB g.opsZ) _=_:=c5 aY;have aZ:(av p).length=11:=rfl;have aT:∀ h,(av p)[1]'h=ah p.ax:=fun _=>rfl
        have a7:=bM p.ax;have bq:=Rr s.ay (k:=k) F;have bo:c6 (hg s.ay k):=fun bA a3=>v.ay bA (by rw[oX] at a3;exact gA a3)
        have aU:=zJ (hg s.ay k) bo (by rw[oX,cL];omega) p.ax a0.idsZ a0.len;rw[oX] at aU;have a9:=bM (hg s.ay k);have bm:¬ (a:Int)<0:=F;obtain⟨X,ap⟩:=al (am x);obtain⟨bC,aS⟩:=al (av p);rw[<-ap] at H K J B aA;rw[<-aS] at aX aZ;simp only[<-aS] at aT;have S:X.take 32=X:=aH F;simp[I,u,H,K,S];refine au B (by simp[aq,U.ar,ag,J]) ?_;simp[bm,H,K,S];refine au aA (by simp[aq,U.ar,a6,J]) ?_;by_cases R:x∈s.ay.l.take k
        ·have ao:=hit.2 R;rw[ca R] at m;have:=T k u (by rw[m];simp);simp[ao];exact aR (by rw[this]) rfl
        ·have ao:¬ bt<(k:Int):=fun h=>R (hit.1 h)
         rw[ct R] at m;simp[ao,bq,aX,aZ,aT];refine au aU (by simp[aq,a9,a7]) ?_;cases aQ:gV (s.ay.l.take k) p.ax.l with
         | true=>
          rw[aQ] at m;simp[a4];refine⟨u,fun z bh=>?_⟩;by_cases bi:z=k
          ·rw[bi,m];rfl
          ·exact aV z F
         | false=>
          rw[aQ] at m;have:=T k u (by rw[m];rfl);simp;exact aR (by rw[this]) rfl
       ·have bk:dG x g.idsZ.l 0<0:=by
         have:¬ 0<=dG x g.idsZ.l 0:=fun h=>W (bn.1 h)
         omega
        rw[ct W,rp] at m;have:=T k u m;obtain⟨X,ap⟩:=al (am x);rw[<-ap] at H K J B;have S:X.take 32=X:=aH F;simp[I,u,H,K,S];refine au B (by simp[aq,U.ar,ag,J]) ?_;simp[bk];exact aR (by rw[this]) rfl
      ·have bj:k=s.ay.l.length:=F;subst bj;have:kP g s.ay.l=true:=by unfold kP;exact ca aV
       rw[this,ak rfl] at j;rw[j];simp[I];exact aL
     ·have j:fl s=8:=by unfold fl;rw[aj (fun h=>Q h.2.2.2.2)]
      rw[j];simp[bJ,o,w];refine au G (by simp[aq,U.ar,D,C]) ?_;simp[t,Y,I,Q];exact aL
    ·have j:fl s=8:=by unfold fl;rw[aj (fun h=>aO h.2.2.2.1)]
     have Y:s.cap<s.aG.bL:=F;rw[j];simp[bJ,o,w];refine au G (by simp[aq,U.ar,D,C]) ?_;simp[t,Y];exact aL
   ·have j:fl s=8:=by unfold fl;rw[aj (fun h=>t h.2.2.1)]
    rw[j];simp[bJ,o,w];refine au G (by simp[aq,U.ar,D,C]) ?_;simp[t];exact aL
  ·have j:fl s=8:=by unfold fl;rw[aj (fun h=>aM h.2.1)]
   have o:¬ s.cap<1:=F;have w:(40:Int)<s.cap:=F;rw[j];simp[bJ,o,w];exact aL
 ·have j:fl s=8:=by unfold fl;rw[aj (fun h=>h1 h.1)]
  have o:s.cap<1:=F;rw[j];simp[bJ,o];exact aL
def ph (p:aV) :Bool:=decide (16<p.opsZ.l.length)||(decide (16<p.idsZ.l.length)||px p)
def mE (s:cn) :Bool:=(s.ai.l.take 7).any ph||(decide (6<s.ai.l.length)||decide (60<s.bE.l.length))
def r4 (s:c9) :Bool:=mE s.aG||decide (70<s.ay.l.length)
theorem Vc (s:cn) :aW 84 [.af (bN s)] (.bool (mE s)):=by
 apply a8 func84 [];have t:=nB s.ai;have o:(bN s).length=3:=rfl;have p:∀ h,(bN s)[0]'h=dp s.ai:=fun _=>rfl
 have ao:∀ h,(bN s)[1]'h=ah s.bE:=fun _=>rfl
 have ax:bz (.Z 32) (ah s.bE)=_:=b6 _;simp[o];obtain⟨n,aA⟩:=al (min s.ai.l.length 7);refine bx n (fun k H l=>l=[.q 3 (bN s)]/\H 1=.ptr 0 0 3/\H 3=.i6 k/\∀ j,j<k->ph (dq s.ai.l j)=false) ?_ ⟨rfl,V,V,fun j G=>F⟩;rintro k H l hk ⟨rfl,S,T,ag⟩;obtain⟨H,rfl⟩:=kh S T;clear S T;have ak:=cf (k:=k) F;by_cases m:k<s.ai.l.length
 ·by_cases az:k<=6
  ·have v:(k:Int)<=6:=F;obtain⟨g,Q,aB⟩:=aP m;have D:=l2 Q;have O:=Va g;have av:=dr Q;have C:(bf g).length=2:=rfl;have J:∀ h,(bf g)[0]'h=ah g.idsZ:=fun _=>rfl
   have B:∀ h,(bf g)[1]'h=bB g.opsZ:=fun _=>rfl
   have Y:=oo g;have P:bz (.Z 11) (bB g.opsZ)=_:=b6 _;have aj:bz (.Z 32) (ah g.idsZ)=_:=b6 _;change i9 _ _ _ [.af (bf g)] _ at O;have K:ph g=true->mE s=true:=fun h=>by
    unfold mE;rw[s1.2 ⟨g,cq.2 ⟨k,by rw[dS F];exact Q⟩,h⟩];rfl
   obtain⟨nd,ad⟩:=al (bf g);rw[<-ad] at D O C Y;simp only[<-ad] at J B;have am:nd.take 2=nd:=aH F;by_cases h1:16<g.opsZ.l.length
   ·have w:(16:Int)<(g.opsZ.l.length:Int):=F;have:=K (by unfold ph;rw[ca h1];rfl);simp[o,p,t,m,v,D,C,B,P,w];exact aR (by rw[this]) rfl
   ·have w:¬ (16:Int)<(g.opsZ.l.length:Int):=F;by_cases W:16<g.idsZ.l.length
    ·have I:(16:Int)<(g.idsZ.l.length:Int):=F;have:=K (by unfold ph;rw[ca W];simp);simp[o,p,t,m,v,D,C,J,B,P,aj,w,I];exact aR (by rw[this]) rfl
    ·have I:¬ (16:Int)<(g.idsZ.l.length:Int):=F;simp[o,p,t,m,v,D,C,J,B,P,aj,w,I,am];refine au O (by simp[aq,U.ar,Y]) ?_;cases X:px g with
     | true=>
      have:=K (by unfold ph;rw[X];simp);simp;exact aR (by rw[this]) rfl
     | false=>
      simp[ak];refine⟨F,fun j G=>?_⟩;by_cases aw:j=k
      ·rw[aw,av];unfold ph;rw[ct h1,ct W,X];rfl
      ·exact ag j F
  ·have v:¬ (k:Int)<=6:=F;have z:6<s.ai.l.length:=F;have u:(6:Int)<(s.ai.l.length:Int):=F;have:mE s=true:=by unfold mE;rw[ca z];simp
   simp[o,p,t,m,v,u];exact aR (by rw[this]) rfl
 ·have ay:(s.ai.l.take 7).any ph=false:=p6.2 fun h=>by
   obtain⟨q,R,ap⟩:=s1.1 h;obtain⟨j,G⟩:=cq.1 (gA R);have:=ag j (by have:=(aK.1 G).1;omega);rw[dr G,ap] at this;cases this
  by_cases z:6<s.ai.l.length
  ·have u:(6:Int)<(s.ai.l.length:Int):=F;have:mE s=true:=by unfold mE;rw[ca z];simp
   simp[o,p,t,m,u];exact aR (by rw[this]) rfl
  ·have u:¬ (6:Int)<(s.ai.l.length:Int):=F;have:mE s=decide (60<s.bE.l.length):=by unfold mE;rw[ay,ct z];rfl
   have R:decide ((60:Int)<(s.bE.l.length:Int))=decide (60<s.bE.l.length):=decide_eq_decide.2 F;simp[o,p,ao,t,ax,m,u,R];exact aR (by rw[this]) rfl
theorem Vd (s:c9) :aW 41 [.af (bJ s)] (.bool (r4 s)):=by
 apply a8 func41 [];have g:=Vc s.aG;have o:bz (.Z 32) (ah s.ay)=_:=b6 _;have m:=ky s.aG.ai;have j:=bM s.aG.bE;have p:decide ((70:Int)<(s.ay.l.length:Int))=decide (70<s.ay.l.length):=decide_eq_decide.2 F;unfold bN at g;simp[bJ];refine au g (by simp[aq,U.ar,m,j]) ?_;unfold r4;cases h:mE s.aG with
 | true=>
  simp;exact aL
 | false=>
  simp[o,p];exact aR V rfl
def lB (a b:c9) :Bool:=decide (a.cap=b.cap)&&(ih a.aG b.aG&&decide (a.ay.l=b.ay.l))
theorem Vv (a b:c9) (t:rE a.aG) (w:rE b.aG) (v:c6 a.ay) (z:c6 b.ay) (u:a.ay.l.length<=1000000) :aW 37 [.af (bJ a),.af (bJ b)] (.bool (lB a b)):=by
 apply a8 func37 [];unfold lB;have g:=Ka a.aG b.aG t w;have B:=sD a.ay b.ay v z u;have h:=ky a.aG.ai;have j:=bM a.aG.bE;have m:=bM a.ay;have o:=ky b.aG.ai;have p:=bM b.aG.bE;have q:=bM b.ay;unfold bN at g;by_cases h1:a.cap=b.cap
 ·simp[bJ,h1];refine au g (by simp[aq,U.ar,h,j,o,p]) ?_;cases C:ih a.aG b.aG with
  | true=>
   simp;refine au B (by simp[aq,m,q]) ?_;simp;exact aR (by simp[h1]) rfl
  | false=>
   simp;exact aR V rfl
 ·simp[bJ,h1];exact aR V rfl
def bj (s:cn) :cn:=⟨cK (s.ai.l.map cI),some s.bE.l,s.bL⟩
def eF (s:c9) :c9:=⟨s.cap,bj s.aG,some s.ay.l⟩
theorem Bq {l:ad} {b:Nat} (g:l[b]?=some (.q 0 [])) (s:b2) (h:c6 s) (o:s.l.length<=1000000) :
  ea l 32 32 (.Z 32 b 0 0 0 0) (ah s)=some (.Z 32 b 0 s.l.length s.l.length (s.l.length*32),l.set b (.q (s.l.length*32) (s.l.map am).flatten)):=by have j:=ds;exact x5 (enc:=am) (by_:=32) l b g s (fun x m=>br (h x m)) F F (by rw[j];omega)
structure NS (s:cn) (k:Nat) (sgZ:aS) (l:ad) :Prop where
 eZ:sgZ 1=.ptr 0 0 3
 ha:sgZ 2=.ptr 1 0 3
 hP:sgZ 3=.ptr 3 0 3
 hQ:sgZ 4=.i6 k
 ex:∃ v j rest,l=.q 3 [dp s.ai,ah s.bE,.i6 s.bL] ::.q 3 [.ae,.ae,.i6 0] ::.dead::.q 3 [v,ah (some s.bE.l),.i6 s.bL] ::rest/\aE 2 l v j (((s.ai.l.take k).map cI).map bf)/\(v=.ae\/4<=j)/\bo v=(s.ai.l.take k).isEmpty
theorem QU {l:ad} {a b c d:ao} (g:l[0]?=some a) (h1:l[1]?=some b) (h:l[2]?=some c) (j:l[3]?=some d) :∃ r,l=a::b::c::d::r:=by
 match l,g,h1,h,j with
 | m::o::p::q::r,g,h1,h,j=>
  simp at g h1 h j;subst g h1 h j;exact⟨r,rfl⟩
theorem Ke (s:cn) (p:gR s) :aW 85 [.af (bN s)] (.af (bN (bj s))):=by
 apply a8 func85 [[[0],[1],[2],[4],[5],[7],[3,7,5],[6]],cR 0 7++[[7,1]]];have aE:=ds;have Y:=nB s.ai;have aZ:=p.j8;have aK:∀ x∈s.bE.l,(am x).length=32:=fun x aJ=>br (p.bE x aJ)
 have ag:=Bq (l:=[.q 3 [dp s.ai,ah s.bE,.i6 s.bL],.q 3 [.ae,.ae,.i6 0],.q 0 [],.q 3 [.ae,.ae,.i6 0]]) (b:=2) rfl s.bE p.bE p.nE;have ax:U.bu 32 (s.bE.l.map am)=ah (some s.bE.l):=rfl;have aM:=gB (some s.bE.l);simp[bN,ag];refine bP.oz (by exact lv aK rfl rfl) rfl ?_;simp[ax,aM,aw];refine bx s.ai.l.length (NS s) ?_ ⟨V,V,V,V,.ae,0,[],rfl,.nil 0,.inl rfl,rfl⟩;rintro k aQ l hk ⟨O,P,R,S,o,t,rest,rfl,G,C,ad⟩;obtain⟨aQ,rfl⟩:=eO O P R S;clear O P R S;have av:=cf (k:=k) F;by_cases D:k<s.ai.l.length
 ·obtain⟨g,H,aD⟩:=aP D;have X:=l2 H;have w:=zM g (p.ai g aD).1;have W:(bf g).length=2:=rfl;have T:=oo g;have aG:(s.ai.l.take (k+1)).map cI=(s.ai.l.take k).map cI++[cI g]:=by rw[ej,H,cS];rfl
  change i9 _ _ _ [.af (bf g)] (.af (bf (cI g))) at w;obtain⟨nd,ay⟩:=al (bf g);obtain⟨Q,z⟩:=al (bf (cI g));have B:Q.length=2:=by rw[z];rfl
  rw[<-ay] at X w W T;rw[<-z] at w;have az:nd.take 2=nd:=aH F;have aX:Q.take 2=Q:=aH F;have aA:aw [U.ae,.ae] 0 Q=Q:=cy (by rw[B];rfl);obtain⟨aR,I,aL,J,K,aj,ak,aS,ap,aT⟩:=Dh (by_:=48) (n:=4) (c:=rest.length+1+1+1+1) (G.more [ao.q 2 Q]) C V V B F F (by rw[aE];simp;omega);have v:∀ b,b<4->aL[b]?=(ao.q 3 [dp s.ai,ah s.bE,.i6 s.bL] ::ao.q 3 [.ae,.ae,.i6 0] ::ao.dead::ao.q 3 [o,ah (some s.bE.l),.i6 s.bL] ::rest)[b]?:=fun b aY=>by
   rw[ap b (by simp;omega) (by rcases C with e | e;exact .inl e;exact .inr F),aU (by simp;omega)]
  obtain⟨aO,rfl⟩:=QU (v 0 F) (v 1 F) (v 2 F) (v 3 F);simp only[iK] at J;simp[Y,D,X,W,az];refine au w (by simp[aq,U.ar,T]) ?_;simp[B,aA,J];refine bP.bm ?_;have aI:=qU K;simp[aI,aw,av];refine⟨D,V,V,V,V,aR,I,aO,rfl,?_,.inr ak,by rw[aj,ej,H];simp⟩;rw[aG,cS,di,lI,<-z];refine K.cl (.inr ?_);obtain⟨u,rfl⟩:∃ u,I=u+4:=⟨I - 4,F⟩
  rfl
 ·have aC:k=s.ai.l.length:=F;subst aC;rw[e3] at G ad;simp[Y];have aF:Rd (ao.q 3 [dp s.ai,ah s.bE,.i6 s.bL] ::ao.q 3 [o,ah (some s.bE.l),.i6 s.bL] ::ao.dead::ao.q 3 [o,ah (some s.bE.l),.i6 s.bL] ::rest) o (dp (cK (s.ai.l.map cI))):=by
   refine (G.cl (l':=ao.q 3 [dp s.ai,ah s.bE,.i6 s.bL] ::ao.q 3 [o,ah (some s.bE.l),.i6 s.bL] ::ao.dead::ao.q 3 [o,ah (some s.bE.l),.i6 s.bL] ::rest) ?_).q.gG oo (cK (s.ai.l.map cI)) ?_ (dj _)
   ·rcases C with h | h
    ·exact .inl h
    ·right;obtain⟨u,rfl⟩:∃ u,t=u+4:=⟨t - 4,F⟩
     rfl
   ·rw[ad,nR];simp
  have aB:=bM (some s.bE.l);refine .af _ _ rfl fun t c aV j m=>?_
  rcases t with _ | _ | _ | t
  ·simp[bN,bj] at j m;subst j m;exact aF
  ·simp[bN,bj] at j m;subst j m;exact .same _ aB
  ·simp[bN,bj] at j m;subst j m;exact .same _ rfl
  ·simp at j
theorem VD (s:c9) (g:iN s) :aW 44 [.af (bJ s)] (.af (bJ (eF s))):=by
 apply a8 func44 [cR 0 4++[[5],[6],[7],[4,7,5,1],[8,1]]];have h:=Ke s.aG g.aG;have p:=ky s.aG.ai;have o:=bM s.aG.bE;have u:∀ x∈s.ay.l,(am x).length=32:=fun x t=>br (g.ay x t)
 have w:=g.no;have j:=Bq (l:=[.q 5 [.i6 s.cap,dp s.aG.ai,ah s.aG.bE,.i6 s.aG.bL,ah s.ay],.q 5 [.i6 0,.ae,.ae,.i6 0,.ae],.q 0 []]) (b:=2) rfl s.ay g.ay F;have m:U.bu 32 (s.ay.l.map am)=ah (some s.ay.l):=rfl;have v:=gB (some s.ay.l);unfold bN at h;simp[bJ];refine au h (by simp[aq,U.ar,p,o]) ?_;simp[j];refine bP.oz (by exact lv u rfl rfl) rfl ?_;simp[m,v,aw];exact aR rfl (show (U.af (bJ (eF s))).ar=true by simp[U.ar,je])
theorem I1 (x:List B) (j:x.length=32) (n:Nat) (h1:1<=n) (v:n<=100) :aW 208 [.af (am x),.i6 n] (.i6 (num x n)):=by
 apply a8 func208 [];have t:=br j;obtain⟨la,r,q,o⟩:=I0 j;have m:∀ h,(am x)[0]'h=a7 la:=fun h=>by subst q;rfl
 have w:la.toNat<256:=la.isLt;have p:IntKind.i64.wrap (u la)=(la.toNat:Int):=by unfold u;rw[IntKind.wrap_i64];omega
 have g:=tp la.toNat (n:Int) F;rw[fm] at g;have z:¬ n=0:=F;simp[t,m,a7,vH,p,g];refine aR ?_ rfl;rw[o];simp
theorem Uc (n i:Nat) (h1:1<=n) (z:n<=100) {l:ad} {ku bi:Nat} (t:l[ku]?=some (.q 1 [.i6 (n:Int)])) (o:l[bi]?=some (.q 1 [.i6 (i:Int)])) (xs:aQ) (K:∀ p∈xs,p.length=32) :
  td 250 [.ptr ku 0 1,.ptr bi 0 1] l xs (fun p=>!decide (num p n=i)):=by
 intro p H g m O C;apply c0 func250 [[[0],[1],[3],[2,3]]];have u:=K p H;have J:=br u;have I:=cG p;have q1:g[ku]?=some (.q 1 [.i6 (n:Int)]):=by rw[m.2 _ (aX t)];exact t
 have v:g[bi]?=some (.q 1 [.i6 (i:Int)]):=by rw[m.2 _ (aX o)];exact o
 have w:∀ c:ao,(g++[c])[ku]?=some (.q 1 [.i6 (n:Int)]):=fun c=>by rw[aU (aX q1)];exact q1
 have j:∀ c:ao,(g++[c])[bi]?=some (.q 1 [.i6 (i:Int)]):=fun c=>by rw[aU (aX v)];exact v
 have G:=I1 p u n h1 z;simp[w,j,J,aH];refine au G (by simp[aq,U.ar,I]) ?_;have B:decide (((num p n:Nat) :Int)=(i:Int))=decide (num p n=i):=by
  by_cases h:num p n=i
  ·simp[h]
  ·have:¬ ((num p n:Nat) :Int)=(i:Int):=F;simp[h];exact this
 simp[j,B];have:=C (g++[ao.q 32 (am p)]) ⟨V,fun b D=>aU D⟩;exact this
theorem l3 (s:b2) (g:c6 s) (j:s.l.length<=1000000) :aW 80 [ah s] (ah s):=by
 refine uo checked.mixed eG ?_;refine yP s g j fun o m h=>?_
 exact h.rd cG s rfl rfl
theorem IW (s:bX aJ) :eb prog .eql 68 (bB s) .ae=some (.bool s.isNone):=vz (e:=55) bp 11 av s
theorem vX (l:List aJ) :(l.map av).flatten.length=l.length*11:=rY (z:=11) (enc:=av) (fun _ _=>rfl)
theorem Gw (s:bX aJ) (p:s.l.length<=1000000) {l:ad} {K:cA} (j:s=none->K .ae l)
  (h1:∀ a,s=some a->K (.Z 11 l.length 0 a.length a.length (a.length*11)) (l++[.q (a.length*11) (a.map av).flatten])) :
  cM 143 [bB s] l K:=by
 apply c0 func143 [];have o:=ds;cases s with
 | none=>
  simp[IW];exact j rfl
 | some a=>
  simp at p;have t:=vX a;have m:ea (l++[ao.q 0 []]) 11 112 (.Z 11 l.length 0 0 0 0) (bB (some a))=some (.Z 11 l.length 0 a.length a.length (a.length*11),l++[.q (a.length*11) (a.map av).flatten]):=by
   unfold ea bB;rw[qA];simp only[bX.qL];unfold hr;by_cases g:a.length=0
   ·have:a=[]:=hp.1 g;subst this;simp
   ·rw[aj g,aj F];simp[o];exact⟨F,fun h=>by simp[h]⟩
  simp[IW,m];refine bP.bm ?_;simp;exact h1 a rfl
theorem VJ {l:ad} {a b g j:U} (h1:Rd l a g) (o:Rd l b j) :Rd l (.af [a,b]) (.af [g,j]):=by
 refine .af _ _ rfl fun q x t p m=>?_
 rcases j4 p with ⟨rfl,rfl⟩ | ⟨rfl,rfl⟩
 ·rcases j4 m with ⟨_,rfl⟩ | ⟨h,_⟩
  ·exact h1
  ·omega
 ·rcases j4 m with ⟨h,_⟩ | ⟨_,rfl⟩
  ·omega
  ·exact o
theorem wQ (o:aJ) :aw (av o) 1 [ah o.ax]=av o:=by unfold aw av;simp
theorem Lx (g:aV) (u:eT g) :aW 157 [cD g] (cD g):=by
 apply a8 func157 [[[0],[1],[3],[4],[7],[2,7,4],[5,7],[6]],cR 0 9++[[9,1]]];have D:=bM g.idsZ;have ai:=im g.opsZ;have P:=l3 g.idsZ u.idsZ u.li;have J:=gB g.idsZ;simp[cD,bf];refine au P (by simp[aq,D]) ?_;simp;refine Gw g.opsZ u.ji (fun G=>?_) (fun a w=>?_)
 ·simp[J,aw];refine bx 0 (fun k h l=>l=[ao.q 2 [ah g.idsZ,bB g.opsZ],ao.q 2 [.ae,.ae],ao.q 2 [ah g.idsZ,.ae]]/\h 2=.ptr 1 0 2/\h 3=.ptr 2 0 2/\h 14=.i6 0/\h 15=.i6 k) ?_ ⟨rfl,V,V,V,V⟩;rintro k h l hk ⟨rfl,p,t,j,m⟩;obtain⟨h,rfl⟩:=eO p t j m;clear p t j m;have:k=0:=F;subst this;simp[aw,G];have:cD g=.af [ah g.idsZ,.ae]:=by unfold cD bf;rw[G];rfl
  exact aR this.symm (np g)
 ·simp[J,aw];have ag:a.length<=1000000:=by have:=u.ji;rw[w] at this;exact this
  have O:∀ o∈a,dm o:=fun o C=>u.opsZ o (by rw[w];exact C)
  have aj:=vX a;have I:∀ e∈a.map av,e.length=11:=fun e S=>by obtain⟨y,_,rfl⟩:=cC.1 S;rfl
  refine bx a.length (fun k h l=>l=[ao.q 2 [ah g.idsZ,bB g.opsZ],ao.q 2 [.ae,.ae],ao.q 2 [ah g.idsZ,U.Z 11 3 0 a.length a.length (a.length*11)],ao.q (a.length*11) (a.map av).flatten]/\h 2=.ptr 1 0 2/\h 3=.ptr 2 0 2/\h 14=.i6 a.length/\h 15=.i6 k) ?_ ⟨rfl,V,V,V,V⟩;rintro k h l hk ⟨rfl,p,t,j,m⟩;obtain⟨h,rfl⟩:=eO p t j m;clear p t j m;have K:=cf (k:=k) F;by_cases v:k<a.length
  ·obtain⟨o,C,X⟩:=aP v;have H:=O o X;have R:=bM o.ax;have Q:=l3 o.ax H.idsZ H.len;have B:(a.map av)[k]?=some (av o):=by rw[b1,C];rfl
   have T:(a.map av).flatten[k*11+1]?=some (ah o.ax):=ll I B F;have Y:aw (a.map av).flatten (k*11+1) [ah o.ax]=(a.map av).flatten:=by
    rw[pt I B (show 1+[ah o.ax].length<=11 by simp)];rw[wQ o];congr 1;exact g3 fun ad=>by
     by_cases e:k=ad
     ·subst e;rw[bV (by simpa using v),B]
     ·rw[bg e]
   have mp:=gB o.ax;simp[v,T];refine au Q (by simp[aq,R]) ?_;simp[Y,mp,K];exact⟨v,F,v⟩
  ·have W:k=a.length:=F;subst W;simp[aw];exact VJ (.same _ D) ((lv (enc:=av) (z:=11) (b:=3) (n:=a.length) (a:=a) (fun _ _=>rfl) rfl (by rfl)).q.gG du g.opsZ (by rw[w];rfl) (by rw[w];rfl))
def ez (g:List Nat) (i:Nat) :Nat:=g.getD i 0
theorem zk {g:List Nat} {i n:Nat} (h:g[i]?=some n) :ez g i=n:=by unfold ez;rw[gx,h];rfl
theorem wK {g:List Nat} {i j n:Nat} (m:j<g.length) :ez (g.set j n) i=if i=j then n else ez g i:=by
 by_cases h:i=j
 ·subst h;rw[ak rfl];exact zk (bV m)
 ·rw[aj h];unfold ez;rw[gx,gx,bg (fun e=>h e.symm)]
def mW:List Nat->Nat
 | []=>0
 | a::l=>a+mW l
theorem LB:∀ {l:List Nat} {j:Nat},j<l.length->mW (l.set j (ez l j+1))=mW l+1
 | a::l,0,_=>by show (a+1)+mW l=a+mW l+1;omega
 | a::l,j+1,h=>by
  have:=LB (l:=l) (j:=j) (by simpa using h);show a+mW (l.set j (ez l j+1))=a+mW l+1;omega
theorem LA {c:Nat}:∀ {l:List Nat},(∀ i,i<l.length->ez l i<=c)->mW l<=c*l.length
 | [],_=>by simp[mW]
 | a::l,h=>by
  have h1:=LA (c:=c) (l:=l) fun i g=>h (i+1) (by simpa using g)
  have j:a<=c:=h 0 V;show a+mW l<=c*(l.length+1)
  rw[Nat.mul_succ];omega
theorem Xw (n:Nat) :mW (List.replicate n 0)=0:=by
 induction n with
 | zero=>rfl
 | succ n g=>rw[k4];show 0+_=0;omega
theorem I2 (n i:Nat) :ez (List.replicate n 0) i=0:=by unfold ez;rw[gx,AV];split<;>rfl
def gi (ps:List aV) (g:List Nat) (i:Nat) :List B:=bw (dq ps i).idsZ.l (ez g i)
def jB (ps:List aV) (g:List Nat) (i:Nat) (r:Option Nat) :Option Nat:=
 if ez g i<(dq ps i).idsZ.l.length then (match r with | none=>some i | some h=>if bQ (gi ps g i) (gi ps g h)<0 then some i else some h) else r
def kL (ps:List aV) (g:List Nat) :Nat->Option Nat
 | 0=>none
 | i+1=>jB ps g i (kL ps g i)
theorem Iw (ps:List aV) (g:List Nat) (i:Nat) (r:Option Nat) :(¬ ez g i<(dq ps i).idsZ.l.length/\jB ps g i r=r)\/(ez g i<(dq ps i).idsZ.l.length/\((r=none/\jB ps g i r=some i)\/∃ j,r=some j/\((bQ (gi ps g i) (gi ps g j)<0/\jB ps g i r=some i)\/(¬ bQ (gi ps g i) (gi ps g j)<0/\jB ps g i r=some j)))):=by
 unfold jB;by_cases h:ez g i<(dq ps i).idsZ.l.length
 ·rw[ak h];right;refine⟨h,?_⟩;cases r with
  | none=>exact .inl ⟨rfl,rfl⟩
  | some j=>
   right;refine⟨j,rfl,?_⟩;by_cases m:bQ (gi ps g i) (gi ps g j)<0
   ·left;exact⟨m,by simp[m]⟩
   ·right;exact⟨m,by simp[m]⟩
 ·rw[aj h];exact .inl ⟨h,rfl⟩
theorem CM {ps:List aV} {g:List Nat}:∀ {k:Nat},kL ps g k=none->∀ i,i<k->¬ ez g i<(dq ps i).idsZ.l.length
 | 0,_,i,m=>F
 | k+1,h,i,m=>by
  change jB ps g k (kL ps g k)=none at h;rcases Iw ps g k (kL ps g k) with ⟨h1,j⟩ | ⟨_,⟨_,j⟩ | ⟨o,_,⟨_,j⟩ | ⟨_,j⟩⟩⟩
  ·by_cases e:i=k
   ·subst e;exact h1
   ·exact CM (by rw[<-j];exact h) i F
  all_goals rw[j] at h;cases h
theorem tW {ps:List aV} {g:List Nat}:∀ {k j:Nat},kL ps g k=some j->j<k/\ez g j<(dq ps j).idsZ.l.length/\∀ i,i<k->ez g i<(dq ps i).idsZ.l.length->bQ (gi ps g j) (gi ps g i)<=0
 | 0,j,h=>by cases h
 | k+1,j,h=>by
  change jB ps g k (kL ps g k)=some j at h;rcases Iw ps g k (kL ps g k) with ⟨h1,o⟩ | ⟨h1,⟨p,o⟩ | ⟨t,p,⟨u,o⟩ | ⟨u,o⟩⟩⟩
  ·rw[o] at h;obtain⟨a,b,c⟩:=tW h;exact⟨F,b,fun i q m=>by
    by_cases e:i=k
    ·subst e;exact bW m h1
    ·exact c i F m⟩
  ·rw[o] at h;obtain rfl:=cd h;exact⟨F,h1,fun i q m=>by
    by_cases e:i=k
    ·subst e;rw[lg];exact Int.le_refl _
    ·exact bW m (CM p i F)⟩
  ·rw[o] at h;obtain rfl:=cd h;obtain⟨a,b,c⟩:=tW p;exact⟨F,h1,fun i q m=>by
    by_cases e:i=k
    ·subst e;rw[lg];exact Int.le_refl _
    ·have w:=c i F m;by_cases v:bQ (gi ps g t) (gi ps g i)=0
     ·rw[<-ou v];omega
     ·have:=ow _ _ _ u (show bQ (gi ps g t) (gi ps g i)<0 by omega);omega⟩
  ·rw[o] at h;obtain rfl:=cd h;obtain⟨a,b,c⟩:=tW p;exact⟨F,b,fun i q m=>by
    by_cases e:i=k
    ·subst e;have:=ov (gi ps g i) (gi ps g t);omega
    ·exact c i F m⟩
structure ng (ps:List aV) :Prop where
 len:∀ p∈ps,p.idsZ.l.length=p.opsZ.l.length
 b8:∀ p∈ps,b8 p.idsZ.l=true
 G7:∀ (i j:Nat) (x:List B) (p q:aV),ps[i]?=some p->ps[j]?=some q->x∈p.idsZ.l->x∈q.idsZ.l->i=j
structure rD (ps:List aV) (bG:List Nat) (O:List (List B × aJ)) :Prop where
 nl:bG.length=ps.length
 le:∀ (i:Nat) (p:aV),ps[i]?=some p->ez bG i<=p.idsZ.l.length
 K9:O.Pairwise fun a b=>eM a.1 b.1=true
 IE:∀ q,q∈O<->∃ (i:Nat) (p:aV) (a:Nat),ps[i]?=some p/\a<ez bG i/\p.idsZ.l[a]?=some q.1/\p.opsZ.l[a]?=some q.2
 HS:∀ q∈O,∀ (i:Nat) (p:aV) (a:Nat) (x:List B),ps[i]?=some p->ez bG i<=a->p.idsZ.l[a]?=some x->eM q.1 x=true
 eD:mW bG=O.length
theorem SY (ps:List aV) :rD ps (List.replicate ps.length 0) []:=
 ⟨V,fun i j _=>by rw[I2];exact fR _,.nil,fun q=>⟨fun h=>(by cases h),fun ⟨i,j,a,_,h,_⟩=>by rw[I2] at h;omega⟩,fun q g=>(by cases g),by rw[Xw];rfl⟩
theorem SV {ps:List aV} {q:List Nat} {O:List (List B × aJ)} (h:rD ps q O) {c:Nat} (g:∀ p∈ps,p.idsZ.l.length<=c) :O.length<=c*ps.length:=by
 rw[<-h.eD,<-h.nl];refine LA fun i j=>?_
 obtain⟨p,m,o⟩:=aP (l:=ps) (k:=i) (by rw[<-h.nl];exact j);exact dC (h.le i p m) (g p o)
theorem SX {ps:List aV} (W:ng ps) {g:List Nat} {O:List (List B × aJ)} (h:rD ps g O) {j:Nat} (ah:kL ps g ps.length=some j) {p:aV} (m:ps[j]?=some p) {x:List B} {o:aJ} (w:p.idsZ.l[ez g j]?=some x) (Q:p.opsZ.l[ez g j]?=some o) :
  rD ps (g.set j (ez g j+1)) (O++[(x,o)]):=by
 obtain⟨h1,T,U⟩:=tW ah;have ai:=cJ m;have v:j<g.length:=by rw[h.nl];exact h1
 rw[dr m] at T;have ad:gi ps g j=x:=by unfold gi;rw[dr m,dI w]
 have K:∀ i,i<ps.length->ez g i<=ez (g.set j (ez g j+1)) i:=fun i _=>by rw[wK v];split<;>simp_all
 refine⟨by rw[km];exact h.nl,fun i q t=>?_,?_,fun q=>?_,fun q t i r a y u H C=>?_,?_⟩
 ·rw[wK v];split
  ·rename_i e;subst e;rw[m] at t;obtain rfl:=cd t;omega
  ·exact h.le i q t
 ·rw[ru];refine⟨h.K9,A0 _ _,fun a H b X=>?_⟩;rw[gd.1 X];exact h.HS a H j p _ x m (aN _) w
 ·rw[fx,h.IE,gd];constructor
  ·rintro (⟨i,r,a,q1,G,D⟩ | e)
   ·exact⟨i,r,a,q1,nb G (K i (aK.1 q1).1),D⟩
   ·subst e;exact⟨j,p,ez g j,m,by rw[wK v,ak rfl];omega,w,Q⟩
  ·rintro⟨i,r,a,q1,G,D,I⟩;rw[wK v] at G;split at G
   ·rename_i e;subst e;rw[m] at q1;obtain rfl:=cd q1;by_cases e:a=ez g i
    ·right;rw[e,w] at D;rw[e,Q] at I;rw[cd D,cd I]
    ·exact .inl ⟨i,p,a,m,F,D,I⟩
   ·exact .inl ⟨i,r,a,q1,G,D,I⟩
 ·have ag:ez g i<=a:=dC (K i (aK.1 u).1) H;rcases fx.1 t with t | t
  ·exact h.HS q t i r a y u ag C
  ·rw[gd.1 t];by_cases e:i=j
   ·subst e;rw[m] at u;obtain rfl:=cd u;rw[wK v,ak rfl] at H;exact (ia _ _).2 (kb (W.b8 p ai) (show ez g i<a by omega) w C)
   ·have aj:=cJ u;have am:=(aK.1 C).1;obtain⟨z,J,al⟩:=aP (l:=r.idsZ.l) (k:=ez g i) F;have V:=U i (aK.1 u).1 (by rw[dr u];omega);have Y:gi ps g i=z:=by unfold gi;rw[dr u,dI J]
    rw[ad,Y] at V;have ao:bQ x z≠0:=fun R=>e (by
     have:=ou R;subst this;exact W.G7 i j x r p u m al (cJ w))
    have P:eM x z=true:=(ia _ _).2 F;by_cases S:a=ez g i
    ·rw[S,J] at C;rw[<-cd C];exact P
    ·exact tX _ _ _ P ((ia _ _).2 (kb (W.b8 r aj) (show ez g i<a by omega) J C))
 ·rw[LB v,h.eD,cF];rfl
theorem SS {ps:List aV} {o:List Nat} {O:List (List B × aJ)} (h:rD ps o O) (t:kL ps o ps.length=none) (q:List B × aJ) :q∈O<->∃ p∈ps,∃ a:Nat,p.idsZ.l[a]?=some q.1/\p.opsZ.l[a]?=some q.2:=by
 rw[h.IE];constructor
 ·rintro⟨i,p,a,h1,_,g,j⟩;exact⟨p,cJ h1,a,g,j⟩
 ·rintro⟨p,u,a,g,j⟩;obtain⟨i,m⟩:=cq.1 u;have:=CM t i (aK.1 m).1;rw[dr m] at this;have:=(aK.1 g).1;exact⟨i,p,a,m,F,g,j⟩
theorem zE {l m:List (List B × aJ)} (g:l.Pairwise fun a b=>eM a.1 b.1=true) (j:m.Pairwise fun a b=>eM a.1 b.1=true) (h:∀ q,q∈l<->q∈m) :l=m:=
 Eg (lt:=fun a b:List B × aJ=>eM a.1 b.1) (fun a=>CN a.1) (fun a b c=>tX a.1 b.1 c.1) g j h
theorem FZ {p:aV} (t:p.idsZ.l.length=p.opsZ.l.length) (m:b8 p.idsZ.l=true) {x:List B} {o:aJ}:iR p x=some o<->∃ a:Nat,p.idsZ.l[a]?=some x/\p.opsZ.l[a]?=some o:=by
 constructor
 ·intro h;unfold iR at h;split at h
  ·rename_i q;obtain⟨a,g⟩:=cq.1 ((lp x p.idsZ.l 0).1 q.1);rw[tQ (mG m) g,fm] at h;exact⟨a,g,h⟩
  ·cases h
 ·rintro⟨a,g,j⟩;unfold iR;have:=(aK.1 j).1;rw[tQ (mG m) g,ak ⟨F,F⟩,fm];exact j
theorem FY {p:aV} {x:List B} {o:aJ} (h:iR p x=some o) :x∈p.idsZ.l:=by
 unfold iR at h;split at h
 ·rename_i g;exact (lp x p.idsZ.l 0).1 g.1
 ·cases h
theorem Mv {ps:List aV} (W:ng ps) {x:List B}:∀ {k:Nat},k<=ps.length->(gw ps x k).Pairwise fun a b=>eM a.1 b.1=true
 | 0,_=>.nil
 | k+1,hk=>by
  obtain⟨j,g,_⟩:=aP (l:=ps) (k:=k) F;have u:=Mv W (x:=x) (k:=k) F;show (gw ps x k++(match iR (dq ps k) x with | some h=>[(x,h)] | none=>[])).Pairwise _;rw[dr g];cases p:iR j x with
  | none=>simpa using u
  | some h=>
   have:gw ps x k=[]:=List.eq_nil_iff_forall_not_mem.2 fun q t=>by
    obtain⟨v,r,h1,m,o,w⟩:=(Az F).1 t;have:=W.G7 v k x r j m g (FY o) (FY p);omega
   rw[this];exact A0 _ _
theorem Mt {ps:List aV} (W:ng ps) {idsZ:aQ} (g:b8 idsZ=true) :∀ {i:Nat},i<=idsZ.length->(hF ps idsZ i).Pairwise fun a b=>eM a.1 b.1=true
 | 0,_=>.nil
 | i+1,q=>by
  obtain⟨x,h,_⟩:=aP (l:=idsZ) (k:=i) F;show (hF ps idsZ i++gw ps (bw idsZ i) ps.length).Pairwise _;rw[dI h,ru];refine⟨Mt W g F,Mv W (aN _),fun a o b p=>?_⟩;obtain⟨u,h1,j,_⟩:=(Ay F).1 o;obtain⟨t,v,_,_,_,m⟩:=(Az (aN _)).1 p;rw[m];exact (ia _ _).2 (kb g h1 j h)
theorem xA {s:cn} (W:ng s.ai.l) :(bH s).Pairwise fun a b=>eM a.1 b.1=true:=Mt W (Xk _) (aN _)
theorem nW {s:cn} (W:ng s.ai.l) (q:List B × aJ) :q∈bH s<->∃ p∈s.ai.l,∃ a:Nat,p.idsZ.l[a]?=some q.1/\p.opsZ.l[a]?=some q.2:=by
 unfold bH;rw[Ay (aN _)];constructor
 ·rintro⟨a,_,_,p,g,h⟩;exact⟨p,g,(FZ (W.len p g) (W.b8 p g)).1 h⟩
 ·rintro⟨p,g,a,h1,o⟩;have:q.1∈fv s:=by
   unfold fv;obtain⟨t,j⟩:=cq.1 g;rw[Lg,Bn (aN _)];exact⟨t,p,(aK.1 j).1,j,cJ h1⟩
  obtain⟨u,m⟩:=cq.1 this;exact⟨u,(aK.1 m).1,m,p,g,(FZ (W.len p g) (W.b8 p g)).2 ⟨a,h1,o⟩⟩
theorem SU {s:cn} (W:ng s.ai.l) {g:List Nat} {O:List (List B × aJ)} (h:rD s.ai.l g O) (j:kL s.ai.l g s.ai.l.length=none) :O=bH s:=
 zE h.K9 (xA W) fun q=>by rw[SS h j,nW W]
def nV (ps:List aV) :Bool:=decide (∀ g∈ps,g.idsZ.l.length=g.opsZ.l.length/\b8 g.idsZ.l=true)
theorem jQ {ps:List aV}:nV ps=true<->∀ p∈ps,p.idsZ.l.length=p.opsZ.l.length/\b8 p.idsZ.l=true:=decide_eq_true_iff
def kN (ps:List aV) :Bool:=decide (∀ i,i<ps.length->∀ x∈(dq ps i).idsZ.l,num x ps.length=i)
theorem wI {ps:List aV} (h:kN ps=true) (i j:Nat) (x:List B) (p q:aV) (g:ps[i]?=some p) (m:ps[j]?=some q) (o:x∈p.idsZ.l) (t:x∈q.idsZ.l) :i=j:=by unfold kN at h;rw[bI] at h;have h1:=h i (aK.1 g).1 x (by rw[dr g];exact o);have u:=h j (aK.1 m).1 x (by rw[dr m];exact t);omega
theorem wd {s:b2} {k:Nat} {x:List B} (h:s.l[k]?=some x) :bO (.Z 32) (ah s) (.i6 (k:Int))=some (.b7 (am x) 0):=by simp[ah,h]
theorem H0 {s:bX aJ} {k:Nat} {x:aJ} (h:s.l[k]?=some x) :bO (.Z 11) (bB s) (.i6 (k:Int))=some (.b7 (av x) 0):=by simp[bB,h]
theorem SB {ps:List aV} {g:List Nat} {i:Nat} {r:Option Nat} (h:¬ ez g i<(dq ps i).idsZ.l.length) :jB ps g i r=r:=by unfold jB;rw[aj h]
theorem Sy {ps:List aV} {g:List Nat} {i:Nat} (h:ez g i<(dq ps i).idsZ.l.length) :jB ps g i none=some i:=by unfold jB;rw[ak h]
theorem SA {ps:List aV} {g:List Nat} {i j:Nat} (h:ez g i<(dq ps i).idsZ.l.length) (m:bQ (gi ps g i) (gi ps g j)<0) :jB ps g i (some j)=some i:=by unfold jB;rw[ak h];simp[m]
theorem Sz {ps:List aV} {g:List Nat} {i j:Nat} (h:ez g i<(dq ps i).idsZ.l.length) (m:¬ bQ (gi ps g i) (gi ps g j)<0) :jB ps g i (some j)=some j:=by unfold jB;rw[ak h];simp[m]
def wy:Option Nat->Int
 | none=>-1
 | some g=>g
def kA (g:List Nat) :ag:=g.map fun (n:Nat)=>U.i6 (n:Int)
structure vi (s:cn) (g w2:U) (bG:List Nat) (l:ad) :Prop where
 ly:l[0]?=some (.q 3 (bN s))
 q1:l[1]?=some (.q 2 [.ae,.ae])
 sq:l[2]?=some (.q 2 [g,w2])
 sr:l[3]?=some (.q s.ai.l.length (kA bG))
structure xU (s:cn) (sgZ:aS) :Prop where
 eZ:sgZ 1=.ptr 0 0 3
 ha:sgZ 2=.ptr 1 0 2
 hP:sgZ 3=.bool false
 hQ:sgZ 4=.ptr 2 0 2
 kG:sgZ 5=.Z 1 3 0 s.ai.l.length s.ai.l.length s.ai.l.length
def se (s:cn) :U:=if nV s.ai.l=true then .a1 [cD (bR (bH s)),.bool true] else .a1 [cD ⟨none,none⟩,.bool false]
theorem SQ (s:cn) (aI:gR s) (dh:∀ (i j:Nat) (x:List B) (p q:aV),s.ai.l[i]?=some p->s.ai.l[j]?=some q->x∈p.idsZ.l->x∈q.idsZ.l->i=j) :aW 251 [.af (bN s)] (se s):=by
 apply a8 func251 [[],[],cR 0 15++cR 16 15++[[15,30,29,27,23,19,17],[32],[31]]];have az:=ds;have ce:=nB s.ai;have dX:=aI.j8;have a4:(bN s).length=3:=rfl;have aT:∀ h,(bN s)[0]'h=dp s.ai:=fun _=>rfl
 obtain⟨aQ,a9⟩:=wD (z:=1) (by_:=8) (n:=s.ai.l.length) (k:=.i64) (k':=.i64) (zero:=[U.i6 0]) (l:=[.q 3 (bN s),.q 2 [.ae,.ae],.q 2 [.ae,.ae]]) rfl F (by rw[az];omega);simp only[n3] at aQ a9;simp[a4,aT,ce] at aQ ⊢;simp[aQ,aT,a4,ce];have cQ:c3 [U.i6 0] s.ai.l.length=kA (List.replicate s.ai.l.length 0):=by
  rw[w8];unfold kA;rw[AW];generalize s.ai.l.length=n
  induction n with
  | zero=>rfl
  | succ n dB=>rw[k4,k4,hG,dB];rfl
 rw[cQ];have b2:nV s.ai.l=false->se s=.a1 [.af [.ae,.ae],.bool false]:=fun h=>by unfold se;rw[h];rfl
 refine bx s.ai.l.length (fun i o l=>xU s o/\o 17=dp s.ai/\o 18=.i6 s.ai.l.length/\o 19=.i6 i/\vi s .ae .ae (List.replicate s.ai.l.length 0) l/\∀ (j:Nat) (p:aV),j<i->s.ai.l[j]?=some p->p.idsZ.l.length=p.opsZ.l.length/\b8 p.idsZ.l=true) ?_ ⟨⟨V,V,V,V,V⟩,V,V,V,⟨rfl,rfl,rfl,rfl⟩,fun j _ bI=>F⟩;rintro i o l b9 ⟨⟨G,H,I,J,K⟩,bd,bh,bi,hH,b5⟩;obtain⟨o,rfl⟩:=Au G H I J K bd bh bi;clear G H I J K bd bh bi;have ap:=cf (k:=i) F;by_cases D:i<s.ai.l.length
 ·obtain⟨p,w,bq⟩:=aP D;obtain⟨bM,dv,dw⟩:=aI.ai p bq;have bo:=l2 w;have aB:∀ h,(bf p)[0]'h=ah p.idsZ:=fun _=>rfl
  have cB:∀ h,(bf p)[1]'h=bB p.opsZ:=fun _=>rfl
  have aC:(bf p).length=2:=rfl;have bj:(bf p).take 2=bf p:=rfl;have aF:bz (.Z 32) (ah p.idsZ)=_:=b6 _;have dn:bz (.Z 11) (bB p.opsZ)=_:=b6 _;have u:∀ bb:ao,(l++[bb])[2]?=some (.q 2 [.ae,.ae]):=fun bb=>by rw[aU (aX hH.sq)];exact hH.sq
  have v:∀ bb:ao,(l++[bb])[1]?=some (.q 2 [.ae,.ae]):=fun bb=>by rw[aU (aX hH.q1)];exact hH.q1
  have cp:(l++[ao.q 2 (bf p)])[l.length]?=some (.q 2 (bf p)):=nZ;have db:∀ c:ao,vi s .ae .ae (List.replicate s.ai.l.length 0) (l++[c]):=fun c=>⟨by rw[aU (aX hH.ly)];exact hH.ly,v c,u c,by rw[aU (aX hH.sr)];exact hH.sr⟩
  have c1:∀ c c' : ao,((l++[c]).set 1 c')[1]?=some c':=fun c c'=>bV (by rw[cF];have:=aX hH.q1;omega)
  have bs:aw [U.ae,.ae] 0 (bf p)=bf p:=cy rfl;simp[D,bo,aB,cB,aC,bj,bs,aF,dn];by_cases h1:p.idsZ.l.length=p.opsZ.l.length
  ·simp[h1];obtain⟨L,ax⟩:=al (l++[ao.q 2 (bf p)]);have bk:=db (ao.q 2 (bf p));have c6:=v (ao.q 2 (bf p));have c7:=u (ao.q 2 (bf p));have c2:=c1 (ao.q 2 (bf p));rw[<-ax] at bk cp c6 c7 c2 ⊢;refine bx p.idsZ.l.length (fun g o cW=>cW=L/\xU s o/\o 7=.ptr l.length 0 2/\o 8=.i6 (g+1:Nat)/\o 17=dp s.ai/\o 18=.i6 s.ai.l.length/\o 19=.i6 i/\∀ k,k<p.idsZ.l.length->1<=k->k<g+1->bQ (bw p.idsZ.l (k - 1)) (bw p.idsZ.l k)<0) ?_ ⟨rfl,⟨V,V,V,V,V⟩,V,V,V,V,V,fun k _ _ _=>F⟩;rintro g o cW dV ⟨rfl,⟨G,H,I,J,K⟩,cx,cz,bd,bh,bi,cU⟩;obtain⟨o,rfl⟩:=L2 G H I J K cx cz bd bh bi;clear G H I J K cx cz bd bh bi;have bc:IntKind.i64.wrap (((g+1:Nat) :Int)+1)=((g+1+1:Nat) :Int):=by rw[IntKind.wrap_i64];omega
   have bX:IntKind.i64.wrap (((g+1:Nat) :Int) - 1)=(g:Int):=by rw[IntKind.wrap_i64];omega
   by_cases cN:g+1<p.idsZ.l.length
   ·obtain⟨x,P,bv⟩:=aP (l:=p.idsZ.l) (k:=g) F;obtain⟨y,C,ck⟩:=aP (l:=p.idsZ.l) (k:=g+1) F;have bp:((g+1:Nat) :Int)<p.idsZ.l.length:=F;have aO:=bM.idsZ x bv;have bA:=bM.idsZ y ck;have Q:=br aO;have bD:=br bA;have bt:=cG x;have bC:=cG y;have ay:bO (.Z 32) (ah p.idsZ) _=_:=c5 P;have a3:=wd C;have S:=qx x y aO bA;change aW _ [.af (am x),.af (am y)] _ at S;obtain⟨X,aY⟩:=al (am x);obtain⟨Y,aZ⟩:=al (am y);rw[<-aY] at Q bt ay S;rw[<-aZ] at bD bC a3 S;obtain⟨M,O⟩:=al (((g+1:Nat) :Int) :Int);rw[<-O] at bc bX bp a3 ⊢;simp[cp,aC,aB,aF,bp,bX,ay,a3,Q,bD,aH];refine au S (by simp[aq,U.ar,bt,bC]) ?_;by_cases aG:bQ x y<0
    ·have:¬ 0<=bQ x y:=F;simp[this,bc];refine⟨F,⟨V,V,V,V,V⟩,fun k h1 bY dQ=>?_⟩;by_cases hk:k=g+1
     ·subst hk;rw[show g+1 - 1=g by omega,P,C];exact aG
     ·exact cU k h1 bY F
    ·have c9:0<=bQ x y:=F;have aM:nV s.ai.l=false:=ct fun h=>aG (by
      have:=kb (h p bq).2 (show g<g+1 by omega) P C;exact this)
     rw[b2 aM];simp[c9,c7,c6,c2,aw];exact aL
   ·have bp:¬ ((g+1:Nat) :Int)<p.idsZ.l.length:=F;obtain⟨M,O⟩:=al (((g+1:Nat) :Int) :Int);rw[<-O] at bc bX bp ⊢;simp[cp,aC,aB,aF,bp,ap];refine⟨D,⟨V,V,V,V,V⟩,bk,fun j q bI cj=>?_⟩;by_cases dj:j=i
    ·subst dj;rw[w] at cj;obtain rfl:=cd cj;exact⟨h1,uw fun k h1 bY=>cU k h1 bY F⟩
    ·exact b5 j q F cj
  ·have aM:nV s.ai.l=false:=ct fun h=>h1 (h p bq).1
   have da:¬ (p.idsZ.l.length:Int)=p.opsZ.l.length:=F;rw[b2 aM];simp[da,u,v,c1,aw];exact aL
 ·have cb:i=s.ai.l.length:=F;subst cb;have aM:nV s.ai.l=true:=jQ.2 fun p w=>by
   obtain⟨j,bI⟩:=cq.1 w;exact b5 j p (aK.1 bI).1 bI
  have W:ng s.ai.l:=⟨fun p w=>(jQ.1 aM p w).1,fun p w=>(jQ.1 aM p w).2,dh⟩
  have cO:se s=.a1 [cD (bR (bH s)),.bool true]:=by unfold se;rw[aM];rfl
  rw[cO];clear b5 b2 cO b9 D ap a9 aQ cQ;simp;refine bx 100000 (fun k o l=>xU s o/\∃ m t v u kJ lq,vi s v u m l/\gh l v u kJ lq 4 (t.map (·.1)) (t.map (·.2))/\rD s.ai.l m t/\t.length=k) ?_ ⟨⟨V,V,V,V,V⟩,List.replicate s.ai.l.length 0,[],.ae,.ae,0,0,hH,by simpa using C7 _ 4,SY _,rfl⟩;clear hH;rintro k o l hk ⟨⟨G,H,I,J,K⟩,m,t,v,u,kJ,lq,hH,ag,O,dl⟩;obtain⟨o,rfl⟩:=gv G H I J K;clear G H I J K;have dR:t.length<=1000:=by have:=SV O (c:=100) (fun p w=>(aI.ai p w).2.1);omega
  have ak:=hH.ly;simp[ak,a4,aT,ce];refine bx s.ai.l.length (fun i o l=>xU s o/\o 9=.i6 (wy (kL s.ai.l m i))/\o 54=dp s.ai/\o 55=.i6 s.ai.l.length/\o 56=.i6 i/\vi s v u m l/\gh l v u kJ lq 4 (t.map (·.1)) (t.map (·.2))) ?_ ⟨⟨V,V,V,V,V⟩,by simp;rfl,V,V,V,hH,ag⟩;clear hH ag ak;rintro i o l b9 ⟨⟨G,H,I,J,K⟩,cA,cu,cv,cw,hH,ag⟩;obtain⟨o,rfl⟩:=L4 G H I J K cA cu cv cw;clear G H I J K cA cu cv cw;have ap:=cf (k:=i) F;by_cases D:i<s.ai.l.length
  ·obtain⟨p,w,bq⟩:=aP D;obtain⟨bM,dv,dw⟩:=aI.ai p bq;have bo:=l2 w;have aB:∀ h,(bf p)[0]'h=ah p.idsZ:=fun _=>rfl
   have cB:∀ h,(bf p)[1]'h=bB p.opsZ:=fun _=>rfl
   have aC:(bf p).length=2:=rfl;have bj:(bf p).take 2=bf p:=rfl;have aF:bz (.Z 32) (ah p.idsZ)=_:=b6 _;have bs:aw [U.ae,.ae] 0 (bf p)=bf p:=cy rfl;obtain⟨L,ax⟩:=al (l++[ao.q 2 (bf p)]);have wp:L[l.length]?=some (.q 2 (bf p)):=by rw[ax];exact nZ
   have aS:vi s v u m L:=by
    rw[ax];exact⟨by rw[aU (aX hH.ly)];exact hH.ly,by rw[aU (aX hH.q1)];exact hH.q1,by rw[aU (aX hH.sq)];exact hH.sq,by rw[aU (aX hH.sr)];exact hH.sr⟩
   have T:gh L v u kJ lq 4 (t.map (·.1)) (t.map (·.2)):=by rw[ax];exact ag.frame fun b _ aE=>aU aE
   have cP:=O.nl;obtain⟨a,cH⟩:∃ a,m[i]?=some a:=⟨_,bK (by rw[cP];exact D)⟩
   have bL:=zk cH;have dm:=O.le i p w;rw[bL] at dm;have b3:(kA m)[i]?=some (.i6 (a:Int)):=by unfold kA;rw[b1,cH];rfl
   have R:=aS.sr;have b4:=dr w;have aj:kL s.ai.l m (i+1)=jB s.ai.l m i (kL s.ai.l m i):=rfl;by_cases a0:a<p.idsZ.l.length
   ·have bl:ez m i<(dq s.ai.l i).idsZ.l.length:=by rw[bL,b4];exact a0
    obtain⟨x,P,bv⟩:=aP a0;have cJ:gi s.ai.l m i=x:=by unfold gi;rw[b4,bL,dI P]
    cases aD:kL s.ai.l m i with
    | none=>
     rw[aD,Sy bl] at aj;have aJ:wy none=-1:=rfl;rw[aJ];simp[D,bo,aC,bj,bs,<-ax,wp,R,aB,aF,b3,a0,ap];exact⟨⟨V,V,V,V,V⟩,by rw[aj];rfl,aS,T⟩
    | some j=>
     rw[aD] at aj;obtain⟨bW,aA,c8⟩:=tW aD;obtain⟨r,az,bS⟩:=aP (l:=s.ai.l) (k:=j) F;have bG:=dr az;rw[bG] at aA;obtain⟨y,C,ck⟩:=aP aA;have cL:gi s.ai.l m j=y:=by unfold gi;rw[bG];exact dI C
     obtain⟨b,aE⟩:∃ b,m[j]?=some b:=⟨_,bK (by rw[cP];omega)⟩
     have ch:=zk aE;rw[ch] at C;have bn:(kA m)[j]?=some (.i6 (b:Int)):=by unfold kA;rw[b1,aE];rfl
     have ca:=l2 az;have b0:(bf r)[0]?=some (ah r.idsZ):=rfl;have aO:=bM.idsZ x bv;have bA:=(aI.ai r bS).1.idsZ y ck;have Q:=br aO;have bD:=br bA;have bt:=cG x;have bC:=cG y;have ay:=wd P;have a3:=wd C;have S:=qx x y aO bA;change aW _ [.af (am x),.af (am y)] _ at S;obtain⟨X,aY⟩:=al (am x);obtain⟨Y,aZ⟩:=al (am y);rw[<-aY] at Q bt ay S;rw[<-aZ] at bD bC a3 S;have aJ:wy (some j)=(j:Int):=rfl;rw[aJ];have cc:¬ (j:Int)<0:=F;have ak:=aS.ly;have bJ:j<s.ai.l.length:=F;simp[D,bo,aC,bj,bs,<-ax,wp,R,aB,aF,b3,a0,cc,ay,a3,ak,a4,aT,ca,b0,bn,Q,bD,aH];refine⟨bJ,au S (by simp[aq,U.ar,bt,bC]) ?_⟩;by_cases aG:bQ x y<0
     ·rw[SA bl (by rw[cJ,cL];exact aG)] at aj;simp[aG,ap];exact⟨D,⟨V,V,V,V,V⟩,by rw[aj];rfl,aS,T⟩
     ·rw[Sz bl (by rw[cJ,cL];exact aG)] at aj;simp[aG,ap];exact⟨D,⟨V,V,V,V,V⟩,by rw[aj];rfl,aS,T⟩
   ·have bl:¬ ez m i<(dq s.ai.l i).idsZ.l.length:=by rw[bL,b4];exact a0
    rw[SB bl] at aj;simp[D,bo,aC,bj,bs,<-ax,wp,R,aB,aF,b3,a0,ap];exact⟨⟨V,V,V,V,V⟩,by rw[aj],aS,T⟩
  ·have cb:i=s.ai.l.length:=F;subst cb;clear b9 D ap;cases aD:kL s.ai.l m s.ai.l.length with
   | none=>
    have dc:=SU W O aD;have aJ:wy none=-1:=rfl;rw[aJ];have di:eT (bR (bH s)):=xx aI;have cT:=Lx _ di;have cI:=np (bR (bH s));have a7:=hH.sq;unfold cD bf bR at cT cI;subst dc;simp[a7];refine ag.call fun a5 ed dF=>?_
    have bT:a5[1]?=some (.q 2 [.ae,.ae]):=by rw[dF 1 F];exact hH.q1
    have cl:∀ c:ao,(a5.set 1 c)[1]?=some c:=fun c=>bV (aX bT)
    refine au cT (by simp[aq,cI]) ?_;have cY:=gB (cK ((bH s).map (·.1)));have cZ:=pk (cK ((bH s).map (·.2)));simp[bT,cl,aw];exact aR rfl (by simp[U.ar,aq];exact np _)
   | some j=>
    obtain⟨bW,aA,c8⟩:=tW aD;obtain⟨r,az,bS⟩:=aP bW;have bG:=dr az;rw[bG] at aA;obtain⟨dx,ea,eb⟩:=aI.ai r bS;have dZ:=W.len r bS;obtain⟨x,P,bv⟩:=aP aA;obtain⟨a6,ci,dY⟩:=aP (l:=r.opsZ.l) (k:=ez m j) F;have bk:=SX W O aD az P ci;obtain⟨b,aE⟩:∃ b,m[j]?=some b:=⟨_,bK (by rw[O.nl];omega)⟩
    have ch:=zk aE;rw[ch] at P ci bk aA;have bn:(kA m)[j]?=some (.i6 (b:Int)):=by unfold kA;rw[b1,aE];rfl
    have ca:=l2 az;have b0:(bf r)[0]?=some (ah r.idsZ):=rfl;have cC:(bf r)[1]?=some (bB r.opsZ):=rfl;have aO:=dx.idsZ x bv;have Q:=br aO;have ay:=wd P;have cM:=H0 ci;have T:(av a6).length=11:=rfl;have aJ:wy (some j)=(j:Int):=rfl;rw[aJ];have cc:¬ (j:Int)<0:=F;have bJ:j<s.ai.l.length:=bW;obtain⟨X,aY⟩:=al (am x);obtain⟨Y,aZ⟩:=al (av a6);have dd:=aY;rw[<-aY] at Q ay;rw[<-aZ] at T cM;have de:X.take 32=X:=aH F;have cE:Y.take 11=Y:=aH F;have dA:aw (bZ 32 (.int .u8 0)) 0 X=X:=cy (by rw[Q];rfl);have dz:aw [U.int .u32 0,.ae,.int .u64 0,.int .u8 0,.str [],.int .u8 0,.i6 0,.int .u64 0,.str [],.int .u32 0,.int .u32 0] 0 Y=Y:=cy (by rw[T];rfl);have ak:=hH.ly;have a7:=hH.sq;have R:=hH.sr;have ec:=aX R;have bU:∀ (g:ad) (i:Nat) (c:ao),l[i]?=some c->(l++g)[i]?=some c:=fun g i c h=>by rw[aU (aX h)];exact h
    have dK:∀ g:ad,(l++g)[0]?=some (.q 3 (bN s)):=fun g=>bU g 0 _ ak
    have dL:∀ g:ad,(l++g)[2]?=some (.q 2 [v,u]):=fun g=>bU g 2 _ a7
    have dM:∀ g:ad,(l++g)[3]?=some (.q s.ai.l.length (kA m)):=fun g=>bU g 3 _ R
    have dN:∀ (g:ad) (h:0<(l++g).length),(l++g)[0]'h=.q 3 (bN s):=fun g h=>(aK.1 (dK g)).2
    have du:gh (l++[ao.q 32 X,.q 11 Y]) v u kJ lq 4 (t.map (·.1)) (t.map (·.2)):=ag.frame fun c _ a2=>aU a2
    obtain⟨bE,dC,cX,aQ,a9,dO,cr,dP⟩:=du.H1 (c:=l.length) dd Q V (by simp;omega) (by rw[cg];omega);simp[ak,a4,aT,cc,ca,b0,cC,a7,R,dN,dL,dM,bn,bJ,ay,Q,de,dA,cM,T,cE,dz,aQ];have dE:=ag.hB.lt;have df:v=.ae\/4<=kJ:=ag.oj;have dg:u=.ae\/4<=lq:=ag.ol;have f:∀ (c:Nat) (y:ao),c<4->l[c]?=some y->cX[c]?=some y:=fun c y a2 C=>by
     rw[cr c (by have:=aX C;simp;omega) (by rcases df with e | e;exact .inl e;exact .inr F),aU (aX C)];exact C
    have cs:cX[l.length+1]?=some (.q 11 Y):=by
     rw[cr (l.length+1) V (by rcases dE with e | e;exact .inl e;exact .inr F)];simp
    have dT:=aX (f 3 _ F R);obtain⟨cm,dD,a5,d1,d2,d3,d4⟩:=a9.Jf (c:=l.length+1) aZ cs F (by rw[cg];omega);have bF:∀ (c:Nat) (y:ao),c<4->l[c]?=some y->a5[c]?=some y:=fun c y a2 C=>by
     rw[d4 c (aX (f c y a2 C)) (by rcases dg with e | e;exact .inl e;exact .inr F)];exact f c y a2 C
    have dG:=bF 0 _ F ak;have bT:=bF 1 _ F hH.q1;have cl:=bF 2 _ F a7;have c0:=bF 3 _ F R;have f2:=f 2 _ F a7;have f0:=f 0 _ F ak;have f3:=f 3 _ F R;have dU:=aX c0;refine bP.bm ?_;simp[f0,f2,f3,cs,a4,aT,d1,T,cE];refine⟨⟨bn,cC⟩,bP.bm ?_⟩;have cY:=qU a9.hB;have cZ:=qU d2.iA;have c4:∀ c:ao,(a5.set 2 c)[2]?=some c:=fun c=>bV F
    have dH:∀ c:ao,(a5.set 2 c)[3]?=some (.q s.ai.l.length (kA m)):=fun c=>by rw[bg F];exact c0
    have dS:b<r.idsZ.l.length:=aA;have bc:IntKind.i64.wrap ((b:Int)+1)=(b:Int)+1:=by rw[IntKind.wrap_i64];omega
    have dk:j<m.length:=by rw[O.nl];omega
    have dy:aw (kA m) j [U.i6 ((b:Int)+1)]=kA (m.set j (b+1)):=by
     rw[Ld (by unfold kA;simpa using dk)];unfold kA;rw[List.map_set];rfl
    have dJ:aw [v,u] 0 [bE]=[bE,u]:=V;have ef:aw [bE,u] 1 [cm]=[bE,cm]:=V;have cN:(t.map (·.1))++[x]=(t++[(x,a6)]).map (·.1):=by rw[cS];rfl
    have dt:(t.map (·.2))++[a6]=(t++[(x,a6)]).map (·.2):=by rw[cS];rfl
    rw[cN,dt] at d2;simp[cl,c4,dH,cY,cZ,dJ,bn,bc,dy];refine⟨bJ,F,F,⟨V,V,V,V,V⟩,m.set j (b+1),t++[(x,a6)],bE,cm,⟨?_,?_,?_,?_⟩,⟨dC,dD,?_⟩,bk,by rw[cF,dl];rfl⟩
    ·rw[bg F,bg F];exact dG
    ·rw[bg F,bg F];exact bT
    ·rw[bg F];exact c4 _
    ·exact bV (by simp;omega)
    ·exact d2.frame fun c a2 _=>by rw[bg F,bg F]
end Op
end Go.bl

/-
  A graph that is being built: its two rows are one's own. Parts and headsZ of a graph, in the reference.
-/
import Derived.Test.YtdjbnhgdhambnaaGreatDoorXi
set_option maxHeartbeats 16000000
set_option maxRecDepth 100000
set_option linter.unusedVariables false
set_option linter.unusedSimpArgs false
set_option linter.unnecessarySimpa false
namespace Go.bf
open Go Go.Proofs Go.Proofs.Tryz
namespace Op
open b8
structure fZ (l:ae) (v1 g:U) (h j n:Nat) (idsZ:aN) (opsZ:List aM) :Prop where
 hi:aJ 32 l v1 h (idsZ.map ao)
 ia:aJ 11 l g j (opsZ.map au)
 hy:bq v1=idsZ.isEmpty
 qy:bq g=opsZ.isEmpty
 nS:v1=.af\/n<=h
 nT:g=.af\/n<=j
 ne:v1=.af\/g=.af\/h≠j
theorem Cz (l:ae) (n:Nat) :fZ l .af .af 0 0 n [] []:=⟨.nil 0,.nil 0,rfl,rfl,.inl rfl,.inl rfl,.inl rfl⟩
theorem fZ.frame {l l' : ae} {p q:U} {m o n:Nat} {idsZ:aN} {opsZ:List aM} (h:fZ l p q m o n idsZ opsZ) (j:∀ b,n<=b->b<l.length->l'[b]?=l[b]?) :fZ l' p q m o n idsZ opsZ:=by
 refine⟨h.hi.cY ?_,h.ia.cY ?_,h.hy,h.qy,h.nS,h.nT,h.ne⟩
 ·rcases h.nS with e | e
  ·exact .inl e
  ·rcases h.hi.lt with g | g
   ·exact .inl g
   ·exact .inr (j _ e g)
 ·rcases h.nT with e | e
  ·exact .inl e
  ·rcases h.ia.lt with g | g
   ·exact .inl g
   ·exact .inr (j _ e g)
theorem fZ.idsZ {l:ae} {t m:U} {D G n:Nat} {idsZ:aN} {opsZ:List aM} (h:fZ l t m D G n idsZ opsZ) {X:ag} {x:List B} (Q:X=ao x) (C:X.length=32) (aj:n<=l.length) (Z:idsZ.length<=1000000) :
  ∃ j dd l',ep (l++[.q 32 X]) 32 32 t (.ad 32 l.length 0 1 1 32)=some (j,l')/\fZ l' j m dd G n (idsZ++[x]) opsZ/\l.length+1<=l'.length/\∀ b,b<n->l'[b]?=l[b]?:=by
 have T:=dw;obtain⟨j,dd,l',H,I,W,J,u,K⟩:=i3 (by_:=32) (x:=.ad 32 l.length 0 1 1 32) (xs:=[X]) (h.hi.more [am.q 32 X]) (by simp[cD,C,aI]) (by simp[C]) F F (by rw[T];simp;omega);have o:bq j=false:=by rw[K];simp
 have z:j≠.af:=fun e=>by rw[e] at o;cases o
 have ai:(l++[am.q 32 X]).length=l.length+1:=V;have R:n<=dd:=by
  rcases u with e | ⟨O,P⟩ | e
  ·omega
  ·rw[P];exact h.nS.resolve_left O
  ·exact bK e z
 have w:∀ b,b<l.length->t=.af\/b≠D->l'[b]?=l[b]?:=fun b v S=>by
  rw[J b F S,aS v]
 refine⟨j,dd,l',H,⟨?_,?_,by rw[o];simp,h.qy,.inr R,h.nT,?_⟩,F,fun b v=>?_⟩
 ·rw[dk,dh,l6,<-Q];exact I
 ·refine h.ia.cY ?_;rcases h.ia.lt with e | e
  ·exact .inl e
  ·by_cases g:m=.af
   ·exact .inl g
   ·refine .inr (w _ e ?_);rcases h.ne with q | q | q
    ·exact .inl q
    ·exact bK q g
    ·exact .inr fun e=>q e.symm
 ·by_cases g:m=.af
  ·exact .inr (.inl g)
  ·refine .inr (.inr fun e=>?_);have Y:=h.ia.lt.resolve_left g;rcases u with q | ⟨q1,ak⟩ | q
   ·omega
   ·rcases h.ne with p | p | p
    ·exact q1 p
    ·exact g p
    ·exact p F
   ·exact z q
 ·refine w b F ?_;rcases h.nS with e | e
  ·exact .inl e
  ·exact .inr F
theorem fZ.opsZ {l:ae} {t v:U} {H I n:Nat} {idsZ:aN} {opsZ:List aM} (h:fZ l t v H I n idsZ opsZ) {g:ag} {o:aM} (z:g=au o) (aj:n<=l.length) (Z:opsZ.length<=1000000) :
  ∃ m dd l',ep (l++[.q 11 g]) 11 112 v (.ad 11 l.length 0 1 1 11)=some (m,l')/\fZ l' t m H dd n idsZ (opsZ++[o])/\l.length+1<=l'.length/\∀ b,b<n->l'[b]?=l[b]?:=by
 have W:=dw;have G:g.length=11:=by rw[z];rfl
 obtain⟨m,dd,l',J,K,X,O,w,P⟩:=i3 (by_:=112) (x:=.ad 11 l.length 0 1 1 11) (xs:=[g]) (h.ia.more [am.q 11 g]) (by simp[cD,G,aI]) (by simp[G]) F F (by rw[W];simp;omega);have u:bq m=false:=by rw[P];simp
 have D:m≠.af:=fun e=>by rw[e] at u;cases u
 have ai:(l++[am.q 11 g]).length=l.length+1:=V;have S:n<=dd:=by
  rcases w with e | ⟨Q,R⟩ | e
  ·omega
  ·rw[R];exact h.nT.resolve_left Q
  ·exact bK e D
 have C:∀ b,b<l.length->v=.af\/b≠I->l'[b]?=l[b]?:=fun b B T=>by
  rw[O b F T,aS B]
 refine⟨m,dd,l',J,⟨?_,?_,h.hy,by rw[u];simp,h.nS,.inr S,?_⟩,F,fun b B=>?_⟩
 ·refine h.hi.cY ?_;rcases h.hi.lt with e | e
  ·exact .inl e
  ·by_cases j:t=.af
   ·exact .inl j
   ·refine .inr (C _ e ?_);rcases h.ne with q | q | q
    ·exact bK q j
    ·exact .inl q
    ·exact .inr q
 ·rw[dk,dh,l6,<-z];exact K
 ·by_cases j:t=.af
  ·exact .inl j
  ·refine .inr (.inr fun e=>?_);have Y:=h.hi.lt.resolve_left j;rcases w with q | ⟨q1,ak⟩ | q
   ·omega
   ·rcases h.ne with p | p | p
    ·exact j p
    ·exact q1 p
    ·exact p F
   ·exact D q
 ·refine C b F ?_;rcases h.nT with e | e
  ·exact .inl e
  ·exact .inr F
theorem r5 {z:Nat} {l:ae} {v:U} {j:Nat} {es:List (ag)} (h:aJ z l v j es) :v.cells=some [v]:=by cases h<;>rfl
theorem hd (s:bP) :(ai s).cells=some [ai s]:=by cases s<;>rfl
theorem oU (s:bH aM) :(bB s).cells=some [bB s]:=by cases s<;>rfl
theorem lB {alZ:Type} {a b c:alZ} {j:Nat} (h:[a,b][j]?=some c) :(j=0/\c=a)\/(j=1/\c=b):=by
 match j,h with
 | 0,h=>left;simpa using h.symm
 | 1,h=>right;simpa using h.symm
 | j+2,h=>simp at h
theorem n1 {alZ:Type} {a c:alZ} {j:Nat} (h:[a][j]?=some c) :j=0/\c=a:=by
 match j,h with
 | 0,h=>simpa using h.symm
 | j+1,h=>simp at h
theorem fZ.call {l:ae} {u m:U} {B t n:Nat} {idsZ:aN} {opsZ:List aM} (h:fZ l u m B t n idsZ opsZ) {f:cb} {K:cv}
  (z:∀ j,j.length=l.length->(∀ b,b<n->j[b]?=l[b]?)->cG f [.ah [ai (cO idsZ),bB (cO opsZ)]] j K) :cG f [.ah [u,m]] l K:=by
 obtain⟨C,I,G,O,f1⟩:=wB (cO idsZ) h.hi (by rw[ov];exact h.hy) (dr _);have D:aJ 11 C m t (opsZ.map au):=by
  refine h.ia.cY ?_;by_cases p:m=.af
  ·exact .inl p
  ·refine .inr (f1 _ ?_);rcases h.ne with q | q | q
   ·exact .inl q
   ·exact bK q p
   ·exact .inr fun e=>q e.symm
 obtain⟨j,J,H,P,f2⟩:=wB (cO opsZ) D (by rw[ov];exact h.qy) (dr _);refine oS checked.mixed ed (args2:=[.ah [ai (cO idsZ),m]]) I F rfl (fun o c w h1 g=>?_) (oS checked.mixed ed (args2:=[.ah [ai (cO idsZ),bB (cO opsZ)]]) J F rfl (fun o c w h1 g=>?_) (z j F fun b Q=>?_))
 ·obtain⟨rfl,rfl⟩:=n1 h1;obtain⟨_,rfl⟩:=n1 g;refine .ah _ _ rfl fun o c v h1 g=>?_
  rcases lB h1 with ⟨rfl,rfl⟩ | ⟨rfl,rfl⟩
  ·rcases lB g with ⟨_,rfl⟩ | ⟨h,_⟩
   ·exact G
   ·omega
  ·rcases lB g with ⟨h,_⟩ | ⟨_,rfl⟩
   ·omega
   ·exact .same _
 ·obtain⟨rfl,rfl⟩:=n1 h1;obtain⟨_,rfl⟩:=n1 g;refine .ah _ _ rfl fun o c v h1 g=>?_
  rcases lB h1 with ⟨rfl,rfl⟩ | ⟨rfl,rfl⟩
  ·rcases lB g with ⟨_,rfl⟩ | ⟨h,_⟩
   ·exact .same _
   ·omega
  ·rcases lB g with ⟨h,_⟩ | ⟨_,rfl⟩
   ·omega
   ·exact H
 ·rw[f2 b ?_,f1 b ?_]
  ·rcases h.nS with e | e
   ·exact .inl e
   ·exact .inr F
  ·rcases h.nT with e | e
   ·exact .inl e
   ·exact .inr F
def gZ (g:aW) :List (List B × aM):=g.idsZ.l.zip g.opsZ.l
def jf (g:aW) (L:aN) (k:Nat) :List (List B × aM):=((gZ g).take k).filter fun h=>decide (h.1∈L)
def b2 (l:List (List B × aM)) :aW:=⟨cO (l.map (·.1)),cO (l.map (·.2))⟩
def hl (g:aW) (L:aN) :aW:=eV (b2 (jf g L (gZ g).length))
theorem T8 {g:aW} {L:aN} {k:Nat} {x:List B} {o:aM} (p:g.idsZ.l[k]?=some x) (j:g.opsZ.l[k]?=some o) :jf g L (k+1)=jf g L k++if x∈L then [(x,o)] else []:=by
 have m:(gZ g)[k]?=some (x,o):=by unfold gZ;rw[sR];exact⟨p,j⟩
 unfold jf;rw[eD,m,kB];by_cases h:x∈L<;>simp[h]
theorem Js {g:aW} {L:aN} {k:Nat}:(jf g L k).length<=k:=dC (hG _ _) (by rw[cI];omega)
theorem zb {g:aW} {p:List B × aM} (h:p∈gZ g) :p.1∈g.idsZ.l/\p.2∈g.opsZ.l:=by obtain⟨k,hk⟩:=cc.1 h;unfold gZ at hk;rw[sR] at hk;exact⟨cz hk.1,cz hk.2⟩
theorem BJ {l:List (List B × aM)} (h1:∀ p∈l,p.1.length=32) (o:∀ p∈l,dv p.2) (m:l.length<=1000000) :e4 (b2 l):=by
 refine⟨fun x j=>?_,fun q g=>?_,?_,?_⟩
 ·unfold b2 at j;simp only[dr] at j;obtain⟨p,h,rfl⟩:=cF.1 j;exact h1 p h
 ·unfold b2 at g;simp only[dr] at g;obtain⟨p,h,rfl⟩:=cF.1 g;exact o p h
 ·unfold b2;simp only[dr];rw[cC];exact m
 ·unfold b2;simp only[dr];rw[cC];exact m
structure M9 (g:aW) (L:bP) (k:Nat) (sgZ:aP) (l:ae) :Prop where
 e7:sgZ 1=ai L
 h0:sgZ 2=.ptr 0 0 2
 kb:sgZ 4=.ptr 1 0 2
 ja:sgZ 5=.ptr 2 0 2
 lz:sgZ 6=.i6 k
 ex:∃ v1 h j m rest,l=.q 2 [ai g.idsZ,bB g.opsZ] ::.q 2 [.af,.af] ::.q 2 [v1,h] ::rest/\fZ l v1 h j m 3 ((jf g L.l k).map (·.1)) ((jf g L.l k).map (·.2))
theorem UD (g:aW) (G:e4 g) (bl:g.idsZ.l.length=g.opsZ.l.length) (L:bP) (aP:cU L) (aS:L.l.length<=1000000) (bm:g.idsZ.l.length<=100000) :aV 191 [cE g,ai L] (cE (hl g L.l)):=by
 apply a8 func191 [];have bi:=bV g.idsZ;have bk:=iM g.opsZ;have aU:=bV L;have aH:bt (.ad 32) (ai g.idsZ)=_:=ca _;simp[cE,bb];refine bw g.idsZ.l.length (M9 g L) ?_ ⟨V,V,V,V,V,.af,.af,0,0,[],rfl,by simpa [jf] using Cz _ 3⟩;rintro k bf l hk ⟨ap,ay,az,aA,aB,bg,Y,a7,aN,rest,rfl,J⟩;obtain⟨bf,rfl⟩:=gk ap ay az aA aB;clear ap ay az aA aB;have am:=cl (k:=k) F;have bp:=Js (g:=g) (L:=L.l) (k:=k);by_cases u:k<g.idsZ.l.length
 ·obtain⟨x,aK,a6⟩:=aQ u;obtain⟨S,aJ,bn⟩:=aQ (l:=g.opsZ.l) (k:=k) F;have aL:=G.idsZ x a6;have m:=br aL;have aM:=cP x;have K:(au S).length=11:=rfl;have H:bF (.ad 32) (ai g.idsZ) _=_:=c6 aK;have aG:bF (.ad 11) (bB g.opsZ) _=_:=c6 aJ;have C:=px L aP aS x aL;have w:=T8 (L:=L.l) aK aJ;have I:=nb x L.l 0;obtain⟨tF,aY⟩:=aq (c8 x L.l 0);obtain⟨X,aD⟩:=aq (ao x);obtain⟨O,aC⟩:=aq (au S);rw[<-aY] at C I;rw[<-aD] at C m aM H;rw[<-aC] at aG K;have aE:X.take 32=X:=aI F;have aT:O.take 11=O:=aI F;have a5:aw (bO 32 (.int .u8 0)) 0 X=X:=cH (by rw[m];rfl);have bq:aw [U.int .u32 0,.af,.int .u64 0,.int .u8 0,.str [],.int .u8 0,.i6 0,.int .u64 0,.str [],.int .u32 0,.int .u32 0] 0 O=O:=cH (by rw[K];rfl);simp[aH,u,H,m,aE];refine av C (by simp[ar,U.ax,aU,aM]) ?_;by_cases v:x∈L.l
  ·have B:0<=tF:=I.2 v;rw[aj v] at w;obtain⟨o,R,bs,ae,ag,bh,z⟩:=J.idsZ aD m V (by rw[cC];omega);obtain⟨bd,rfl⟩:=pG (z 0 F) (z 1 F) (z 2 F);simp at ae;have a1:fZ (.q 2 [ai g.idsZ,bB g.opsZ] ::.q 2 [.af,.af] ::.q 2 [o,Y] ::bd) o Y R aN 3 ((jf g L.l k).map (·.1)++[x]) ((jf g L.l k).map (·.2)):=ag.frame fun b D _=>by
    match b,D with
    | b+3,_=>rfl
   obtain⟨Z,aO,a9,p,t,al,j⟩:=a1.opsZ aC V (by rw[cC];omega);obtain⟨W,rfl⟩:=pG (j 0 F) (j 1 F) (j 2 F);simp at p;have a2:fZ (.q 2 [ai g.idsZ,bB g.opsZ] ::.q 2 [.af,.af] ::.q 2 [o,Z] ::W) o Z R aO 3 ((jf g L.l k).map (·.1)++[x]) ((jf g L.l k).map (·.2)++[S]):=t.frame fun b D _=>by
    match b,D with
    | b+3,_=>rfl
   simp[B,H,m,aE,a5,ae];refine bY.bo ?_;simp[r5 ag.hi,aw,aG,K,aT,p];refine bY.bo ?_;simp[r5 t.ia,aw,am];exact⟨u,V,V,V,V,V,o,Z,R,aO,W,rfl,by rw[w,dk,dk];exact a2⟩
  ·have B:¬ 0<=tF:=fun h=>v (I.1 h)
   rw[ak v,eb] at w;simp[B,am];exact⟨u,V,V,V,V,V,bg,Y,a7,aN,rest,rfl,by rw[w];exact J⟩
 ·have a0:k=g.idsZ.l.length:=F;subst a0;have a3:(gZ g).length=g.idsZ.l.length:=by unfold gZ;rw[List.length_zip];omega
  have aX:e4 (b2 (jf g L.l g.idsZ.l.length)):=BJ (fun bc P=>G.idsZ _ (zb (gE (c7.1 P).1)).1) (fun bc P=>G.opsZ _ (zb (gE (c7.1 P).1)).2) F;have Q:=JO _ aX;have a4:hl g L.l=eV (b2 (jf g L.l g.idsZ.l.length)):=by unfold hl;rw[a3]
  rw[<-a4] at Q;have bu:=hd (hl g L.l).idsZ;have bv:(bB (hl g L.l).opsZ).cells=some [bB (hl g L.l).opsZ]:=by cases (hl g L.l).opsZ<;>rfl
  have p:=bV (hl g L.l).idsZ;have t:=iM (hl g L.l).opsZ;have al:=bV (cO ((jf g L.l g.idsZ.l.length).map (·.1)));have j:=iM (cO ((jf g L.l g.idsZ.l.length).map (·.2)));unfold cE bb at Q;simp[aH];refine J.call fun a9 q1 T=>?_
  obtain⟨W,rfl⟩:=pG (T 0 F) (T 1 F) (T 2 F);refine av Q (by simp[ar,U.ax,al,j]) ?_;simp[aw];exact aR rfl (show (U.ah [ai (hl g L.l).idsZ,bB (hl g L.l).opsZ]).ax=true by simp[U.ax,ar,p,t])
def h9 (g:aW) :Nat->aN
 | 0=>[]
 | k+1=>h9 g k++(hB g.opsZ.l k).ay.l
theorem Cv {g:aW} {x:List B}:∀ {k:Nat},x∈h9 g k<->∃ j,j<k/\x∈(hB g.opsZ.l j).ay.l
 | 0=>⟨fun h=>(by cases h),fun ⟨j,o,_⟩=>F⟩
 | k+1=>by
  show x∈h9 g k++_<->_;rw[eQ,Cv];constructor
  ·rintro (⟨j,h1,m⟩ | h)
   ·exact⟨j,F,m⟩
   ·exact⟨k,F,h⟩
  ·rintro⟨j,h1,m⟩;by_cases e:j=k
   ·subst e;exact .inr m
   ·exact .inl ⟨j,F,m⟩
theorem Jr {g:aW} (h:u9 g) {k:Nat} {o:aM} (j:g.opsZ.l[k]?=some o) :o.ay.l.length<=4:=by obtain⟨x,m,_⟩:=aQ (l:=g.idsZ.l) (k:=k) (by rw[h.len];exact (aH.1 j).1);exact pq (uF (h.Ho k o x j m).1)
theorem Cu {g:aW} (h:u9 g) :∀ {k:Nat},k<=g.opsZ.l.length->(h9 g k).length<=4*k
 | 0,_=>by simp[h9]
 | k+1,hk=>by
  obtain⟨o,j,_⟩:=aQ (l:=g.opsZ.l) (k:=k) F;have:=Cu h (k:=k) F;have m:=Jr h j;show (h9 g k++(hB g.opsZ.l k).ay.l).length<=_;rw[cg,nk j];omega
theorem SR {g:aW} (j:e4 g) {k:Nat} (hk:k<=g.opsZ.l.length) :cU (cO (h9 g k)):=fun x h=>by
 rw[dr,Cv] at h;obtain⟨p,t,h⟩:=h;obtain⟨q,m,o⟩:=aQ (l:=g.opsZ.l) (k:=p) F;rw[nk m] at h;exact (j.opsZ q o).idsZ x h
structure No (g:aW) (k:Nat) (sgZ:aP) (l:ae) :Prop where
 e7:sgZ 1=.ptr 0 0 2
 kb:sgZ 4=.af
 ja:sgZ 5=.i6 k
 ex:∃ v j rest,l=.q 2 [ai g.idsZ,bB g.opsZ] ::rest/\sgZ 3=v/\aJ 32 l v j ((h9 g k).map ao)/\(v=.af\/1<=j)/\bq v=(h9 g k).isEmpty
structure Np (g:aW) (w:U) (h:Nat) (k:Nat) (sgZ:aP) (l:ae) :Prop where
 e7:sgZ 1=.ptr 0 0 2
 i9:sgZ 3=w
 lz:sgZ 6=.i6 k
 ex:∃ v j rest,l=.q 2 [ai g.idsZ,bB g.opsZ] ::rest/\sgZ 4=v/\aJ 32 l v j (((g.idsZ.l.take k).filter (h2 g)).map ao)/\(v=.af\/1<=j)/\bq v=((g.idsZ.l.take k).filter (h2 g)).isEmpty/\aJ 32 l w h ((h9 g g.opsZ.l.length).map ao)/\(v=.af\/w=.af\/j≠h)
theorem UT (g:aW) (Z:e4 g) (a6:e5 g=0) :aV 190 [cE g] (ai (cO (eM g))):=by
 apply a8 func190 [];have aY:=dw;have B:=k1 a6;have bv:=B.n60;have bx:=B.len;have aR:bt (.ad 11) (bB g.opsZ)=_:=ca _;have aP:bt (.ad 32) (ai g.idsZ)=_:=ca _;simp[cE,bb];refine bw g.opsZ.l.length (No g) ?_ ⟨V,V,V,.af,0,[],rfl,V,.nil 0,.inl rfl,rfl⟩;rintro k aB l hk ⟨C,G,aH,aC,z,rest,rfl,D,aX,I,aT⟩;obtain⟨aB,rfl⟩:=e2 C D G aH;clear C D G aH;have o:=cl (k:=k) F;by_cases j:k<g.opsZ.l.length
 ·obtain⟨m,ar,bf⟩:=aQ j;have bg:=Z.opsZ m bf;have t:bF (.ad 11) (bB g.opsZ) _=_:=c6 ar;have aU:(au m).length=11:=rfl;have aL:∀ h,(au m)[1]'h=ai m.ay:=fun _=>rfl
  have bd:=Cu B hk;have bs:=Jr B ar;have K:h9 g (k+1)=h9 g k++m.ay.l:=by show h9 g k++(hB g.opsZ.l k).ay.l=_;rw[nk ar]
  obtain⟨O,az,om,P,W,aE,Q⟩:=rr (by_:=32) (pre:=[.q 2 [ai g.idsZ,bB g.opsZ]]) (rest:=rest) aX I (x:=ai m.ay) (xs:=m.ay.l.map ao)
   (by simp[ai]) (fun e a9=>by obtain⟨y,bl,rfl⟩:=cF.1 a9;exact br (bg.idsZ y bl)) F F (by rw[aY];simp;omega)
  simp only[jo,im] at P;obtain⟨bp,aK⟩:=aq (au m);rw[<-aK] at t aU;simp only[<-aK] at aL;simp[aR,j,t,aU,aL,P];refine bY.bo ?_;simp[o];refine⟨j,V,V,V,O,az,om,rfl,V,?_,by simpa using aE,?_⟩
  ·rw[K,dk];exact W
  ·rw[Q,aT,K];cases h9 g k<;>cases m.ay.l<;>simp
 ·have ag:k=g.opsZ.l.length:=F;subst ag;clear hk j o;simp[aR];refine bw g.idsZ.l.length (Np g aC z) ?_ ⟨V,V,V,.af,0,rest,rfl,V,.nil 0,.inl rfl,rfl,aX,.inl rfl⟩;rintro k aB l hk ⟨C,D,aJ,bn,bm,a3,rfl,G,T,ae,ap,J,ak⟩;obtain⟨aB,rfl⟩:=e2 C D G aJ;clear C D G aJ;have o:=cl (k:=k) F;by_cases j:k<g.idsZ.l.length
  ·obtain⟨x,v,bk⟩:=aQ j;have a1:=Z.idsZ x bk;have w:=br a1;have a2:=cP x;have t:bF (.ad 32) (ai g.idsZ) _=_:=c6 v;have bd:=Cu B (aF g.opsZ.l.length);have R:=px (cO (h9 g g.opsZ.l.length)) (SR Z (aF _)) (by rw[dr];omega) x a1;rw[dr] at R;have bh:=J.q.lP cP (cO (h9 g g.opsZ.l.length)) (by rw[ov];exact aT) (dr _);have al:=nb x (h9 g g.opsZ.l.length) 0;have K:g.idsZ.l.take (k+1)=g.idsZ.l.take k++[x]:=by rw[eD,v];rfl
   have aO:h2 g x=true<->x∉h9 g g.opsZ.l.length:=by
    unfold h2 ly;rw[bI,Cv];exact⟨fun h ⟨z,I,v⟩=>h z I v,fun h z I v=>h ⟨z,I,v⟩⟩
   obtain⟨tF,bc⟩:=aq (c8 x (h9 g g.opsZ.l.length) 0);obtain⟨X,aM⟩:=aq (ao x);rw[<-bc] at R al;rw[<-aM] at R t w a2;have aN:X.take 32=X:=aI F;have bi:aw (bO 32 (.int .u8 0)) 0 X=X:=cH (by rw[w];rfl);simp[aP,j,t,w,aN];refine g0 R (.cons bh (.cons (.same _ (by simp[U.ax,a2])) .nil)) rfl ?_;by_cases S:x∈h9 g g.opsZ.l.length
   ·have aj:¬ tF<0:=by have:=al.2 S;omega
    have Y:h2 g x=false:=by
     cases h:h2 g x with
     | false=>rfl
     | true=>exact bK S (aO.1 h)
    have H:(g.idsZ.l.take (k+1)).filter (h2 g)=(g.idsZ.l.take k).filter (h2 g):=by rw[K,kB];simp[Y]
    simp[aj,o];exact⟨j,V,V,V,bn,bm,a3,rfl,V,by rw[H];exact T,ae,by rw[H];exact ap,J,ak⟩
   ·have aj:tF<0:=by
     have:¬ 0<=tF:=fun h=>S (al.1 h)
     omega
    have Y:=aO.2 S;have H:(g.idsZ.l.take (k+1)).filter (h2 g)=(g.idsZ.l.take k).filter (h2 g)++[x]:=by rw[K,kB];simp[Y]
    have bu:((g.idsZ.l.take k).filter (h2 g)).length<=1000000:=dC (hG _ _) (by rw[cI];omega);obtain⟨O,az,aA,P,W,aE,Q,aG,a4⟩:=i3 (by_:=32) (x:=.ad 32 (a3.length+1) 0 1 1 32) (xs:=[X]) (T.more [am.q 32 X]) (by simp[cD,w,aI]) (by simp[w]) F F (by rw[aY];simp;omega);have av:bq O=false:=by rw[a4];simp
    have a0:O≠.af:=fun e=>by rw[e] at av;cases av
    have f0:aA[0]?=some (.q 2 [ai g.idsZ,bB g.opsZ]):=by
     rw[Q 0 V (by rcases ae with e | e;exact .inl e;exact .inr F)];rfl
    obtain⟨om,rfl⟩:∃ om,aA=.q 2 [ai g.idsZ,bB g.opsZ] ::om:=by
     cases aA with
     | nil=>simp at f0
     | cons c r=>simp at f0;subst f0;exact⟨r,rfl⟩
    have aD:=P;simp at aD;simp[aj,t,w,aN,bi,aD];refine bY.bo ?_;simp[o];refine⟨j,V,V,V,O,az,om,rfl,V,?_,?_,by rw[H,av];simp,?_,?_⟩
    ·rw[H,dk,dh,l6,<-aM];exact W
    ·right;rcases aG with e | ⟨o,a5⟩ | e
     ·simp at e;omega
     ·rw[a5];exact ae.resolve_left o
     ·exact bK e a0
    ·refine J.cY ?_;rcases J.lt with e | e
     ·exact .inl e
     ·by_cases u:aC=.af
      ·exact .inl u
      ·right;rw[Q z (by simp at e ⊢;omega) (by rcases ak with q | q | q;exact .inl q;exact bK q u;exact .inr fun e=>q e.symm)];exact aS e
    ·by_cases u:aC=.af
     ·exact .inr (.inl u)
     ·refine .inr (.inr fun e=>?_);have a7:=J.lt.resolve_left u;rcases aG with q | ⟨q1,bz⟩ | q
      ·simp at q a7;omega
      ·rcases ak with p | p | p
       ·exact q1 p
       ·exact u p
       ·exact p F
      ·exact a0 q
  ·have ag:k=g.idsZ.l.length:=F;rw[ag,fl] at T ap;simp[aP,j];exact T.q.jg cP (cO (eM g)) (by rw[ap,ov];rfl) (dr _)
theorem fZ.HC {l:ae} {m o:U} {C H n:Nat} {idsZ:aN} {opsZ:List aM} (h:fZ l m o C H n idsZ opsZ) {X:ag} {x:List B} (P:X=ao x) (G:X.length=32) {c:Nat} (Q:l[c]?=some (.q 32 X)) (W:n<=l.length) (V:idsZ.length<=1000000) :
  ∃ j dd l',ep l 32 32 m (.ad 32 c 0 1 1 32)=some (j,l')/\fZ l' j o dd H n (idsZ++[x]) opsZ/\l.length<=l'.length/\(∀ b,b<l.length->m=.af\/b≠C->l'[b]?=l[b]?)/\(l.length<=dd\/(m≠.af/\dd=C)):=by
 have S:=dw;obtain⟨j,dd,l',I,J,K,D,t,O⟩:=i3 (by_:=32) (x:=.ad 32 c 0 1 1 32) (xs:=[X]) h.hi (by simp[cD,Q,G,aI]) (by simp[G]) F F (by rw[S];simp;omega);have w:bq j=false:=by rw[O];simp
 have z:j≠.af:=fun e=>by rw[e] at w;cases w
 have R:n<=dd:=by
  rcases t with e | ⟨u,v⟩ | e
  ·omega
  ·rw[v];exact h.nS.resolve_left u
  ·exact bK e z
 refine⟨j,dd,l',I,⟨?_,?_,by rw[w];simp,h.qy,.inr R,h.nT,?_⟩,K,D,?_⟩
 ·rw[dk,dh,l6,<-P];exact J
 ·refine h.ia.cY ?_;rcases h.ia.lt with e | e
  ·exact .inl e
  ·by_cases g:o=.af
   ·exact .inl g
   ·refine .inr (D _ e ?_);rcases h.ne with q | q | q
    ·exact .inl q
    ·exact bK q g
    ·exact .inr fun e=>q e.symm
 ·by_cases g:o=.af
  ·exact .inr (.inl g)
  ·refine .inr (.inr fun e=>?_);have T:=h.ia.lt.resolve_left g;rcases t with q | ⟨q1,Y⟩ | q
   ·omega
   ·rcases h.ne with p | p | p
    ·exact q1 p
    ·exact g p
    ·exact p F
   ·exact z q
 ·rcases t with e | ⟨u,v⟩ | e
  ·exact .inl e
  ·exact .inr ⟨u,v⟩
  ·exact bK e z
theorem fZ.IW {l:ae} {t v:U} {G H n:Nat} {idsZ:aN} {opsZ:List aM} (h:fZ l t v G H n idsZ opsZ) {m:ag} {o:aM} (B:m=au o) {c:Nat} (R:l[c]?=some (.q 11 m)) (X:n<=l.length) (W:opsZ.length<=1000000) :
  ∃ j dd l',ep l 11 112 v (.ad 11 c 0 1 1 11)=some (j,l')/\fZ l' t j G dd n idsZ (opsZ++[o])/\l.length<=l'.length/\(∀ b,b<l.length->v=.af\/b≠H->l'[b]?=l[b]?):=by
 have T:=dw;have D:m.length=11:=by rw[B];rfl
 obtain⟨j,dd,l',I,J,K,w,z,O⟩:=i3 (by_:=112) (x:=.ad 11 c 0 1 1 11) (xs:=[m]) h.ia (by simp[cD,R,D,aI]) (by simp[D]) F F (by rw[T];simp;omega);have u:bq j=false:=by rw[O];simp
 have C:j≠.af:=fun e=>by rw[e] at u;cases u
 have S:n<=dd:=by
  rcases z with e | ⟨P,Q⟩ | e
  ·omega
  ·rw[Q];exact h.nT.resolve_left P
  ·exact bK e C
 refine⟨j,dd,l',I,⟨?_,?_,h.hy,by rw[u];simp,h.nS,.inr S,?_⟩,K,w⟩
 ·refine h.hi.cY ?_;rcases h.hi.lt with e | e
  ·exact .inl e
  ·by_cases g:t=.af
   ·exact .inl g
   ·refine .inr (w _ e ?_);rcases h.ne with q | q | q
    ·exact bK q g
    ·exact .inl q
    ·exact .inr q
 ·rw[dk,dh,l6,<-B];exact J
 ·by_cases g:t=.af
  ·exact .inl g
  ·refine .inr (.inr fun e=>?_);have V:=h.hi.lt.resolve_left g;rcases z with q | ⟨q1,Y⟩ | q
   ·omega
   ·rcases h.ne with p | p | p
    ·exact g p
    ·exact q1 p
    ·exact p F
   ·exact C q
structure cA where
 al:bH aW
 ce:bP
 b6:Int
def e0 (s:bH aW) :U:=b0 2 bb s
def bM (s:cA) :ag:=[e0 s.al,ai s.ce,.i6 s.b6]
structure hs (s:cA) :Prop where
 al:∀ g∈s.al.l,e4 g/\g.idsZ.l.length<=100/\g.opsZ.l.length<=100
 lJ:s.al.l.length<=10
 ce:cU s.ce
 qz:s.ce.l.length<=1000000
theorem o1 (s:bH aW) :(e0 s).ax=true:=m0 oZ s
theorem o2 (s:cA) :ar (bM s)=true:=by simp[bM,ar,U.ax,o1,bV]
def iu (p:aW) (x:List B) :Option aM:=if 0<=c8 x p.idsZ.l 0/\c8 x p.idsZ.l 0<(p.opsZ.l.length:Int) then p.opsZ.l[(c8 x p.idsZ.l 0).toNat]? else none
def df (l:List aW) (k:Nat) :aW:=l.getD k ⟨none,none⟩
theorem dZ {l:List aW} {k:Nat} {g:aW} (h:l[k]?=some g) :df l k=g:=by unfold df;rw[gm,h];rfl
def gl (ps:List aW) (x:List B) :Nat->List (List B × aM)
 | 0=>[]
 | k+1=>gl ps x k++match iu (df ps k) x with | some g=>[(x,g)] | none=>[]
def ho (ps:List aW) (idsZ:aN) :Nat->List (List B × aM)
 | 0=>[]
 | i+1=>ho ps idsZ i++gl ps (bn idsZ i) ps.length
def gW (ps:List aW) :Nat->aN
 | 0=>[]
 | k+1=>gW ps k++(df ps k).idsZ.l
def fq (s:cA) :aN:=uw (gW s.al.l s.al.l.length)
def bS (s:cA) :List (List B × aM):=ho s.al.l (fq s) (fq s).length
def dM (s:cA) :aW:=eV (b2 (bS s))
theorem AN {ps:List aW} {x:List B}:∀ {k:Nat},k<=ps.length->(x∈gW ps k<->∃ j p,j<k/\ps[j]?=some p/\x∈p.idsZ.l)
 | 0,_=>⟨fun h=>(by cases h),fun ⟨j,p,t,_⟩=>F⟩
 | k+1,hk=>by
  obtain⟨p,m,_⟩:=aQ (l:=ps) (k:=k) F;show x∈gW ps k++(df ps k).idsZ.l<->_;rw[eQ,AN F,dZ m];constructor
  ·rintro (⟨j,q,h1,g⟩ | h)
   ·exact⟨j,q,F,g⟩
   ·exact⟨k,p,F,m,h⟩
  ·rintro⟨j,q,h1,g,o⟩;by_cases e:j=k
   ·subst e;rw[m] at g;obtain rfl:=cd g;exact .inr o
   ·exact .inl ⟨j,q,F,g,o⟩
theorem xK {s:cA} (h:hs s) :∀ {k:Nat},k<=s.al.l.length->(gW s.al.l k).length<=100*k
 | 0,_=>by simp[gW]
 | k+1,hk=>by
  obtain⟨m,g,j⟩:=aQ (l:=s.al.l) (k:=k) F;have:=xK h (k:=k) F;have o:=(h.al m j).2.1;show (gW s.al.l k++(df s.al.l k).idsZ.l).length<=_;rw[cg,dZ g];omega
theorem Fe {s:cA} (h:hs s) {k:Nat} (hk:k<=s.al.l.length) :cU (cO (gW s.al.l k)):=fun x g=>by
 rw[dr,AN hk] at g;obtain⟨o,m,_,j,g⟩:=g;exact (h.al m (cz j)).1.idsZ x g
theorem LY {s:cA} (h:hs s) :(fq s).length<=1000:=by unfold fq uw;have h1:=DL (l:=gW s.al.l s.al.l.length) (k:=(gW s.al.l s.al.l.length).length);have g:=xK h (aF s.al.l.length);have j:=h.lJ;omega
theorem LZ {s:cA} (h:hs s) :cU (cO (fq s)):=fun x g=>by
 rw[dr] at g;unfold fq at g;rw[KQ] at g;exact Fe h (aF _) x (by rw[dr];exact g)
theorem NM {p:aW} {x:List B} {o:aM} (h:iu p x=some o) :o∈p.opsZ.l:=by
 unfold iu at h;split at h
 ·exact cz h
 ·cases h
theorem zW {ps:List aW} {x:List B} {q:List B × aM}:∀ {k:Nat},k<=ps.length->(q∈gl ps x k<->∃ j p,j<k/\ps[j]?=some p/\iu p x=some q.2/\q.1=x)
 | 0,_=>⟨fun h=>(by cases h),fun ⟨j,p,w,_⟩=>F⟩
 | k+1,hk=>by
  obtain⟨p,o,_⟩:=aQ (l:=ps) (k:=k) F;show q∈gl ps x k++(match iu (df ps k) x with | some v=>[(x,v)] | none=>[])<->_;rw[eQ,zW F,dZ o];constructor
  ·rintro (⟨j,r,h1,g⟩ | h)
   ·exact⟨j,r,F,g⟩
   ·cases m:iu p x with
    | none=>rw[m] at h;cases h
    | some v=>
     rw[m] at h;rw[fO.1 h];exact⟨k,p,F,o,m,rfl⟩
  ·rintro⟨j,r,h1,g,t,u⟩;by_cases e:j=k
   ·subst e;rw[o] at g;obtain rfl:=cd g;right;rw[t];simp[<-u]
   ·exact .inl ⟨j,r,F,g,t,u⟩
theorem zV {ps:List aW} {idsZ:aN} {q:List B × aM}:∀ {i:Nat},i<=idsZ.length->(q∈ho ps idsZ i<->∃ a,a<i/\idsZ[a]?=some q.1/\∃ p∈ps,iu p q.1=some q.2)
 | 0,_=>⟨fun h=>(by cases h),fun ⟨u,o,_⟩=>F⟩
 | i+1,w=>by
  obtain⟨x,t,_⟩:=aQ (l:=idsZ) (k:=i) F;show q∈ho ps idsZ i++gl ps (bn idsZ i) ps.length<->_;rw[eQ,zV F,dx t,zW (aF _)];constructor
  ·rintro (⟨a,h1,g⟩ | ⟨u,p,h1,g,m,j⟩)
   ·exact⟨a,F,g⟩
   ·exact⟨i,F,by rw[j];exact t,p,cz g,by rw[j];exact m⟩
  ·rintro⟨a,h1,g,p,m,j⟩;by_cases e:a=i
   ·subst e;rw[t] at g;have v:=cd g;obtain⟨u,o⟩:=cc.1 m;exact .inr ⟨u,p,(aH.1 o).1,o,by rw[v];exact j,v.symm⟩
   ·exact .inl ⟨a,F,g,p,m,j⟩
theorem L5 {ps:List aW} {x:List B}:∀ {k:Nat},(gl ps x k).length<=k
 | 0=>by simp[gl]
 | k+1=>by
  have:=L5 (ps:=ps) (x:=x) (k:=k);show (gl ps x k++(match iu (df ps k) x with | some g=>[(x,g)] | none=>[])).length<=_;rw[cg];split<;>simp<;>omega
theorem L3 {ps:List aW} {idsZ:aN}:∀ {i:Nat},(ho ps idsZ i).length<=ps.length*i
 | 0=>by simp[ho]
 | i+1=>by
  have h1:=L3 (ps:=ps) (idsZ:=idsZ) (i:=i);have g:=L5 (ps:=ps) (x:=bn idsZ i) (k:=ps.length);show (ho ps idsZ i++gl ps (bn idsZ i) ps.length).length<=_;rw[cg,Nat.mul_succ];omega
theorem X1 {s:cA} (h:hs s) :(bS s).length<=10000:=by have h1:=L3 (ps:=s.al.l) (idsZ:=fq s) (i:=(fq s).length);have g:=LY h;have j:s.al.l.length*(fq s).length<=10*1000:=Nat.mul_le_mul h.lJ g;unfold bS;omega
theorem xc {s:cA} (h:hs s) :e4 (b2 (bS s)):=by
 have j:∀ q∈bS s,q.1.length=32/\dv q.2:=fun q g=>by
  obtain⟨a,h1,m,t,o,p⟩:=(zV (aF _)).1 g;exact⟨LZ h q.1 (by rw[dr];exact cz m),(h.al t o).1.opsZ _ (NM p)⟩
 exact BJ (fun q g=>(j q g).1) (fun q g=>(j q g).2) (by have:=X1 h;omega)
theorem pi (s:bH aW) :bt (.ad 2) (e0 s)=some (.i6 s.l.length):=by simp[e0]
theorem mo {s:bH aW} {k:Nat} {g:aW} (h:s.l[k]?=some g) :bF (.ad 2) (e0 s) (.i6 (k:Int))=some (.bR (bb g) 0):=by simp[e0,h]
theorem I4 {alZ:Type} {z:Nat} {enc:alZ->ag} {l:ae} {v:U} {j:Nat} {xs:List alZ} (s:bH alZ) (h:aJ z l v j (xs.map enc)) (q:bq v=s.isNone) (t:s.l=xs) {f:cb} {K:cv}
  (p:∀ g,g.length=l.length->(∀ b,v=.af\/b≠j->g[b]?=l[b]?)->cG f [b0 z enc s] g K) :cG f [v] l K:=by obtain⟨u,B,w,m,f1⟩:=wB s h q t;refine oS checked.mixed ed (args2:=[b0 z enc s]) B F rfl (fun j c C h1 o=>?_) (p u m f1);obtain⟨rfl,rfl⟩:=n1 h1;obtain⟨_,rfl⟩:=n1 o;exact w
structure Nr (s:cA) (k:Nat) (sgZ:aP) (l:ae) :Prop where
 e7:sgZ 1=.ptr 0 0 3
 h0:sgZ 2=.ptr 1 0 2
 kb:sgZ 4=.i6 k
 ex:∃ v j rest,l=.q 3 (bM s) ::.q 2 [.af,.af] ::rest/\sgZ 3=v/\aJ 32 l v j ((gW s.al.l k).map ao)/\(v=.af\/2<=j)/\bq v=(gW s.al.l k).isEmpty
structure E8 (s:cA) (b:Nat) (i m:Nat) (out:List (List B × aM)) (sgZ:aP) (l:ae) :Prop where
 e7:sgZ 1=.ptr 0 0 3
 h0:sgZ 2=.ptr 1 0 2
 i9:sgZ 3=ai (cO (fq s))
 ja:sgZ 5=.ptr b 0 2
 lz:sgZ 6=.i6 i
 k5:l[0]?=some (.q 3 (bM s))
 q1:l[1]?=some (.q 2 [.af,.af])
 ex:∃ v1 g h j,l[b]?=some (.q 2 [v1,g])/\fZ l v1 g h j (b+1) (out.map (·.1)) (out.map (·.2))/\out.length<=m
theorem JR (s:cA) (u:hs s) :aV 76 [.ah (bM s)] (cE (dM s)):=by
 apply a8 func76 [[],da 0 7++da 8 12++[[7,19,18,15,11,9],[21],[20]]];have ct:=dw;have aT:=pi s.al;have cW:=u.lJ;have P:(bM s).length=3:=rfl;have R:∀ h,(bM s)[0]'h=e0 s.al:=fun _=>rfl
 simp[P];refine bw s.al.l.length (Nr s) ?_ ⟨V,V,V,.af,0,[],rfl,V,.nil 0,.inl rfl,rfl⟩;rintro k G l hk ⟨t,I,bq,c3,c1,rest,rfl,J,bg,aP,bd⟩;obtain⟨G,rfl⟩:=e2 t I J bq;clear t I J bq;have aK:=cl (k:=k) F;by_cases m:k<s.al.l.length
 ·obtain⟨g,aA,aW⟩:=aQ m;have aX:=(u.al g aW).1;have cY:=(u.al g aW).2.1;have az:=mo aA;have cd:=xK u (jW m);have v:gW s.al.l (k+1)=gW s.al.l k++g.idsZ.l:=by show gW s.al.l k++(df s.al.l k).idsZ.l=_;rw[dZ aA]
  have a2:∀ h,(bb g)[0]'h=ai g.idsZ:=fun _=>rfl
  have ap:(bb g).length=2:=rfl;obtain⟨cK,cy,cG,aD,aE,bk,aG⟩:=rr (by_:=32) (pre:=[.q 3 (bM s),.q 2 [.af,.af]]) (rest:=rest) bg aP (x:=ai g.idsZ) (xs:=g.idsZ.l.map ao)
   (by simp[ai]) (fun e ck=>by obtain⟨y,cx,rfl⟩:=cF.1 ck;exact br (aX.idsZ y cx)) F F (by rw[ct];simp;omega)
  simp only[jo,im] at aD;simp[P,R,aT,m,az,a2,ap,aD];refine bY.bo ?_;simp[aK];refine⟨m,V,V,V,cK,cy,cG,rfl,V,?_,by simpa using bk,?_⟩
  ·rw[v,dk];exact aE
  ·rw[aG,bd,v];cases gW s.al.l k<;>cases g.idsZ.l<;>simp
 ·have bc:k=s.al.l.length:=F;subst bc;clear hk m aK;have cd:=xK u (aF s.al.l.length);have bh:=UQ (cO (gW s.al.l s.al.l.length)) (Fe u (aF _)) (by rw[dr];omega);rw[dr] at bh;change hW _ _ _ _ (ai (cO (fq s))) at bh;have ci:=bV (cO (gW s.al.l s.al.l.length));have cV:=LY u;have cm:=LZ u;simp[P,R,aT];refine I4 (cO (gW s.al.l s.al.l.length)) bg (by rw[ov];exact bd) (dr _) (fun w Y f2=>?_);have cB:w[0]?=some (.q 3 (bM s)):=by rw[f2 0 (by rcases aP with e | e;exact .inl e;exact .inr F)];rfl
  have cD:w[1]?=some (.q 2 [.af,.af]):=by rw[f2 1 (by rcases aP with e | e;exact .inl e;exact .inr F)];rfl
  have aO:2<=w.length:=by rw[Y];simp
  clear f2 bg aP bd;refine av bh (by simp[ar];exact ci) ?_;simp;obtain⟨b,a5⟩:=aq (w.length);have cS:2<=b:=F;have bE:bt (.ad 32) (ai (cO (fq s)))=some (.i6 (fq s).length):=by simp[ai,dr]
  refine bw (fq s).length (fun i G l=>E8 s b i (10*i) (ho s.al.l (fq s) i) G l/\b<l.length) ?_ ⟨⟨V,V,V,by simp[a5],V,by rw[aS F];exact cB,by rw[aS F];exact cD,.af,.af,0,0,by rw[a5];simp,by simpa [ho] using Cz _ _,by simp[ho]⟩,by simp[a5]⟩;rintro i G l cU ⟨⟨t,I,J,Z,ag,j,q1,p,H,kg,kW,D,o,bf⟩,K⟩;obtain⟨G,rfl⟩:=gk t I J Z ag;clear t I J Z ag;have aK:=cl (k:=i) F;by_cases a7:i<(fq s).length
  ·obtain⟨x,bU,cw⟩:=aQ a7;have bW:=cm x (by rw[dr];exact cw);have aB:=br bW;have bX:=cP x;have a9:bF (.ad 32) (ai (cO (fq s))) (.i6 (i:Int))=some (.bR (ao x) 0):=by simp[ai,dr,bU]
   obtain⟨X,a3⟩:=aq (ao x);have cc:X=ao x:=a3;rw[<-a3] at aB bX a9;have bA:X.take 32=X:=aI F;have cv:aw (bO 32 (.int .u8 0)) 0 X=X:=cH (by rw[aB];rfl);simp[bE,a7];refine bw s.al.l.length (fun k G l=>(E8 s b i (10*i+k) (ho s.al.l (fq s) i++gl s.al.l x k) G l/\G 7=.i6 k)/\b<l.length) ?_ ⟨⟨⟨V,V,V,V,V,j,q1,p,H,kg,kW,D,by simpa [gl] using o,by simpa [gl] using bf⟩,V⟩,K⟩;clear o bf D j q1 K;rintro k G l hk ⟨⟨⟨t,I,J,Z,ag,j,q1,p,H,kg,kW,D,o,bf⟩,bs⟩,K⟩;obtain⟨G,rfl⟩:=pJ t I J Z ag bs;clear t I J Z ag bs;have Y:=cl (k:=k) F;by_cases m:k<s.al.l.length
   ·obtain⟨g,aA,aW⟩:=aQ m;obtain⟨aX,cZ,c0⟩:=u.al g aW;have az:=mo aA;have a2:∀ h,(bb g)[0]'h=ai g.idsZ:=fun _=>rfl
    have bv:∀ h,(bb g)[1]'h=bB g.opsZ:=fun _=>rfl
    have ap:(bb g).length=2:=rfl;have cj:=bV g.idsZ;have bG:bt (.ad 11) (bB g.opsZ)=_:=ca _;have a4:=px g.idsZ aX.idsZ aX.li x bW;have v:gl s.al.l x (k+1)=gl s.al.l x k++match iu g x with | some C=>[(x,C)] | none=>[]:=by
     show gl s.al.l x k++(match iu (df s.al.l k) x with | some C=>[(x,C)] | none=>[])=_;rw[dZ aA]
    have aN:iu g x=if 0<=c8 x g.idsZ.l 0/\c8 x g.idsZ.l 0<(g.opsZ.l.length:Int) then g.opsZ.l[(c8 x g.idsZ.l 0).toNat]? else none:=rfl
    obtain⟨Q,cn⟩:=aq (c8 x g.idsZ.l 0);rw[<-cn] at a4 aN;rw[<-a3] at a4;have b2:0<l.length:=aY j;simp[j,P,R,aT,m,az,a2,ap,a9,aB,bA];refine av a4 (by simp[ar,U.ax,cj,bX]) ?_;by_cases S:0<=Q/\Q<(g.opsZ.l.length:Int)
    ·obtain⟨h1,aL⟩:=S;obtain⟨a,rfl⟩:=l4 h1;have b9:a<g.opsZ.l.length:=F;obtain⟨C,bJ,cX⟩:=aQ b9;rw[aj ⟨h1,aL⟩,fb,bJ] at aN;rw[aN] at v;have bC:bF (.ad 11) (bB g.opsZ) _=_:=c6 bJ;have aU:(au C).length=11:=rfl;obtain⟨O,bx⟩:=aq (au C);rw[<-bx] at bC aU;have bz:O.take 11=O:=aI F;have cu:aw [U.int .u32 0,.af,.int .u64 0,.int .u8 0,.str [],.int .u8 0,.i6 0,.int .u64 0,.str [],.int .u32 0,.int .u32 0] 0 O=O:=cH (by rw[aU];rfl);have cR:l.length<=1000000000000\/True:=.inr trivial;have cL:∀ z:ae,(l++z)[0]?=some (.q 3 (bM s)):=fun z=>by rw[aS b2];exact j
     have cN:∀ (z:ae) (h:0<(l++z).length),(l++z)[0]'h=.q 3 (bM s):=fun z h=>(aH.1 (cL z)).2
     have cM:∀ z:ae,(l++z)[b]?=some (.q 2 [p,H]):=fun z=>by rw[aS K];exact D
     have ce:b+1<=(l++[am.q 32 X,.q 11 O]).length:=by simp;omega
     have cq:fZ (l++[am.q 32 X,.q 11 O]) p H kg kW (b+1) ((ho s.al.l (fq s) i++gl s.al.l x k).map (·.1)) ((ho s.al.l (fq s) i++gl s.al.l x k).map (·.2)):=o.frame fun c _ ay=>aS ay
     have bL:(ho s.al.l (fq s) i++gl s.al.l x k).length<=1000000:=F;obtain⟨b6,bZ,aC,aD,aE,bk,aG,cQ⟩:=cq.HC (c:=l.length) cc aB V ce (by rw[cC];exact bL);have cz:=o.hi.lt;have f:∀ c,c<l.length->p=.af\/c≠kg->aC[c]?=l[c]?:=fun c ay cs=>by rw[aG c (by simp;omega) cs,aS ay]
     have bm:aC[l.length+1]?=some (.q 11 O):=by
      rw[aG (l.length+1) V (by rcases cz with e | e;exact .inl e;exact .inr F)];simp
     have a6:p=.af\/b+1<=kg:=o.nS;have f0:aC[0]?=some (.q 3 (bM s)):=by rw[f 0 b2 (by rcases a6 with e | e;exact .inl e;exact .inr F)];exact j
     have f1:aC[1]?=some (.q 2 [.af,.af]):=by rw[f 1 (aY q1) (by rcases a6 with e | e;exact .inl e;exact .inr F)];exact q1
     have a1:aC[b]?=some (.q 2 [p,H]):=by rw[f b K (by rcases a6 with e | e;exact .inl e;exact .inr F)];exact D
     have cf:=aY a1;obtain⟨b7,b0,w,a0,aJ,bl,W⟩:=aE.IW (c:=l.length+1) bx bm F (by rw[cC];exact bL);have aO:H=.af\/b+1<=kW:=o.nT;have b8:w[0]?=some (.q 3 (bM s)):=by rw[W 0 (aY f0) (by rcases aO with e | e;exact .inl e;exact .inr F)];exact f0
     have t:w[1]?=some (.q 2 [.af,.af]):=by rw[W 1 (aY f1) (by rcases aO with e | e;exact .inl e;exact .inr F)];exact f1
     have bu:w[b]?=some (.q 2 [p,H]):=by rw[W b cf (by rcases aO with e | e;exact .inl e;exact .inr F)];exact a1
     have ch:=aY bu;have gs:∀ y:am,(w.set b y)[b]?=some y:=fun y=>bT ch
     simp[j,D,cN,cM,P,R,az,bv,ap,bG,h1,aL,a9,aB,bA,cv,bC,aU,bz,cu,aD];refine bY.bo ?_;have cb:(bb g)[1]?=some (bB g.opsZ):=rfl;simp[f0,a1,bm,P,R,a0,aU,bz,cb];refine bY.bo ?_;have b3:=r5 aE.hi;have b4:=r5 aJ.ia;simp[bu,gs,b3,b4,aw,Y];have bQ:ho s.al.l (fq s) i++gl s.al.l x (k+1)=(ho s.al.l (fq s) i++gl s.al.l x k)++[(x,C)]:=by rw[v,fc]
     have cr:∀ y:am,fZ (w.set b y) b6 b7 bZ b0 (b+1) ((ho s.al.l (fq s) i++gl s.al.l x (k+1)).map (·.1)) ((ho s.al.l (fq s) i++gl s.al.l x (k+1)).map (·.2)):=fun y=>by
      have bH:∀ T:List (List B × aM),(T++[(x,C)]).map (·.1)=T.map (·.1)++[x]/\(T++[(x,C)]).map (·.2)=T.map (·.2)++[C]:=fun T=>⟨by rw[dk];rfl,by rw[dk];rfl⟩
      rw[bQ,(bH _).1,(bH _).2];exact aJ.frame fun c ay _=>bp (Nat.ne_of_lt ay)
     exact⟨m,⟨V,V,V,V,V,by rw[bp F];exact b8,by rw[bp F];exact t,b6,b7,bZ,b0,gs _,cr _,by rw[bQ,cg,xp];omega⟩,F⟩
    ·have cp:iu g x=none:=by rw[aN,ak S]
     rw[cp,eb] at v;have cT:(decide (0<=Q)&&decide (Q<(g.opsZ.l.length:Int)))=false:=by
      cases h:(decide (0<=Q)&&decide (Q<(g.opsZ.l.length:Int))) with
      | false=>rfl
      | true=>rw[bN,bI,bI] at h;exact bK h S
     by_cases h1:0<=Q
     ·have aL:¬ Q<(g.opsZ.l.length:Int):=fun h=>S ⟨h1,h⟩
      simp[j,P,R,az,bv,ap,bG,h1,aL,Y];exact⟨m,⟨V,V,V,V,V,j,q1,p,H,kg,kW,D,by rw[v];exact o,by rw[v];omega⟩,K⟩
     ·simp[h1,Y];exact⟨m,⟨V,V,V,V,V,j,q1,p,H,kg,kW,D,by rw[v];exact o,by rw[v];omega⟩,K⟩
   ·have bc:k=s.al.l.length:=F;subst bc;have bP:ho s.al.l (fq s) (i+1)=ho s.al.l (fq s) i++gl s.al.l x s.al.l.length:=by
     show ho s.al.l (fq s) i++gl s.al.l (bn (fq s) i) s.al.l.length=_;rw[dx bU]
    simp[j,P,R,aT,aK];exact⟨a7,⟨V,V,V,V,V,j,q1,p,H,kg,kW,D,by rw[bP];exact o,by rw[bP];omega⟩,K⟩
  ·have S:i=(fq s).length:=F;subst S;have bi:=JO _ (xc u);change hW _ _ _ _ (cE (dM s)) at bi;have b3:=hd (dM s).idsZ;have b4:=oU (dM s).opsZ;have a0:=bV (dM s).idsZ;have aJ:=iM (dM s).opsZ;have bl:=bV (cO ((bS s).map (·.1)));have W:=iM (cO ((bS s).map (·.2)));unfold cE bb at bi;simp[bE,D];refine o.call fun b1 c2 cI=>?_
   have b5:b1[1]?=some (.q 2 [.af,.af]):=by rw[cI 1 F];exact q1
   have cJ:=aY b5;have gs:∀ y:am,(b1.set 1 y)[1]?=some y:=fun y=>bT cJ
   refine av bi (by simp[ar,U.ax];exact⟨bl,W⟩) ?_;simp[b5,gs,aw];exact aR rfl (show (U.ah [ai (dM s).idsZ,bB (dM s).opsZ]).ax=true by simp[U.ax,ar,a0,aJ])
theorem TG {alZ:Type} {z:Nat} {enc:alZ->ag} {l:ae} {a v:U} {j:Nat} {xs:List alZ} (s:bH alZ) (h:aJ z l v j (xs.map enc)) (q:bq v=s.isNone) (t:s.l=xs) {f:cb} {K:cv}
  (p:∀ g,g.length=l.length->(∀ b,v=.af\/b≠j->g[b]?=l[b]?)->cG f [a,b0 z enc s] g K) :cG f [a,v] l K:=by
 obtain⟨u,B,w,o,f1⟩:=wB s h q t;refine oS checked.mixed ed (args2:=[a,b0 z enc s]) B F rfl (fun j c C h1 m=>?_) (p u o f1);rcases lB h1 with ⟨rfl,rfl⟩ | ⟨rfl,rfl⟩
 ·rcases lB m with ⟨_,rfl⟩ | ⟨h,_⟩
  ·exact .same _
  ·omega
 ·rcases lB m with ⟨h,_⟩ | ⟨_,rfl⟩
  ·omega
  ·exact w
def num (x:List B) (n:Nat) :Nat:=(x.getD 0 0).toNat % n
def jF (g:aW) (n i:Nat) :aN:=g.idsZ.l.filter fun x=>decide (num x n=i)
def iz (g:aW) (n:Nat) :Nat->List aW
 | 0=>[]
 | i+1=>iz g n i++[hl g (jF g n i)]
theorem pj (g:aW) (n:Nat) :∀ i,(iz g n i).length=i
 | 0=>rfl
 | i+1=>by show (iz g n i++_).length=_;rw[cg,pj g n i];rfl
theorem yL (g:aW) (n:Nat) :∀ {i k:Nat},k<i->(iz g n i)[k]?=some (hl g (jF g n k))
 | i+1,k,hk=>by
  show (iz g n i++_)[k]?=_;by_cases h:k<i
  ·rw[aS (by rw[pj];exact h)];exact yL g n h
  ·have:k=i:=F;subst this;rw[ej (by rw[pj];exact aF _),pj];simp
def kY (g:aW) (n:Nat) :cA:=⟨some (iz g n n),cO (eM g),g.idsZ.l.length⟩
theorem ID {x:List B} (g:x.length=32) :∃ b r,x=b::r/\num x=fun n=>b.toNat % n:=by
 cases x with
 | nil=>cases g
 | cons b r=>exact⟨b,r,rfl,rfl⟩
theorem I6 {z by_:Nat} {l:ae} {w:U} {g n c:Nat} {es:List (ag)} {X:ag} (h:aJ z l w g es) (J:w=.af\/n<=g) (R:n<=l.length) (O:l[c]?=some (.q z X)) (v:X.length=z) (I:z≠0) (K:by_≠0) (P:(es.length+1)*by_<=db) :
  ∃ w' j l',ep l z by_ w (.ad z c 0 1 1 z)=some (w',l')/\aJ z l' w' j (es++[X])/\bq w'=false/\n<=j/\l.length<=l'.length/\(∀ b,b<l.length->w=.af\/b≠g->l'[b]?=l[b]?)/\(l.length<=j\/(w≠.af/\j=g)):=by
 obtain⟨t,Q,l',C,D,F,G,u,H⟩:=i3 (by_:=by_) (x:=.ad z c 0 1 1 z) (xs:=[X]) h (by simp[cD,O,v,aI]) (by simp[v]) I K (by simpa using P);have p:bq t=false:=by rw[H];simp
 have B:t≠.af:=fun e=>by rw[e] at p;cases p
 refine⟨t,Q,l',C,D,p,?_,F,G,?_⟩
 ·rcases u with e | ⟨m,o⟩ | e
  ·omega
  ·rw[o];exact J.resolve_left m
  ·exact bK e B
 ·rcases u with e | ⟨m,o⟩ | e
  ·exact .inl e
  ·exact .inr ⟨m,o⟩
  ·exact bK e B
theorem TM {z:Nat} {l l' : ae} {w v:U} {yA h j:Nat} {es:List (ag)} (o:aJ z l v j es) (ne:w=.af\/v=.af\/yA≠j) (u:∀ b,b<l.length->w=.af\/b≠yA->l'[b]?=l[b]?) (t:l.length<=h\/(w≠.af/\h=yA)) :aJ z l' v j es/\(v=.af\/h≠j):=by
 by_cases g:v=.af
 ·refine⟨?_,.inl g⟩;subst g;have:=o.q.pn;subst this;exact .nil _
 ·have B:=o.lt.resolve_left g;have m:w=.af\/j≠yA:=by
   rcases ne with q | q | q
   ·exact .inl q
   ·exact bK q g
   ·exact .inr fun e=>q e.symm
  refine⟨o.cY (.inr (u j B m)),.inr fun e=>?_⟩;rcases t with q | ⟨q1,C⟩
  ·omega
  ·rcases m with p | p
   ·exact q1 p
   ·exact p F
structure MX (g:aW) (n i:Nat) (sgZ:aP) (l:ae) :Prop where
 e7:sgZ 1=.i6 n
 h0:sgZ 2=.ptr 0 0 2
 kb:sgZ 4=.ptr 1 0 3
 ja:sgZ 5=.ptr 2 0 3
 lz:sgZ 6=.i6 i
 ex:∃ v j rest,l=.q 2 [ai g.idsZ,bB g.opsZ] ::.q 3 [.af,.af,.i6 0] ::.q 3 [v,ai (cO (eM g)),.i6 g.idsZ.l.length] ::rest/\aJ 2 l v j ((iz g n i).map bb)/\(v=.af\/3<=j)/\bq v=(iz g n i).isEmpty
structure MY (g:aW) (n i:Nat) (v:U) (j:Nat) (k:Nat) (sgZ:aP) (l:ae) :Prop where
 e7:sgZ 1=.i6 n
 h0:sgZ 2=.ptr 0 0 2
 kb:sgZ 4=.ptr 1 0 3
 ja:sgZ 5=.ptr 2 0 3
 lz:sgZ 6=.i6 i
 m8:sgZ 8=.i6 k
 ex:∃ w h rest,l=.q 2 [ai g.idsZ,bB g.opsZ] ::.q 3 [.af,.af,.i6 0] ::.q 3 [v,ai (cO (eM g)),.i6 g.idsZ.l.length] ::rest/\aJ 2 l v j ((iz g n i).map bb)/\sgZ 7=w ∧
  aJ 32 l w h (((g.idsZ.l.take k).filter fun x=>decide (num x n=i)).map ao)/\(w=.af\/3<=h)/\bq w=((g.idsZ.l.take k).filter fun x=>decide (num x n=i)).isEmpty/\(w=.af\/v=.af\/h≠j)
theorem Uy (g:aW) (Y:e4 g) (aT:e5 g=0) (n:Nat) (bW:1<=n) (bX:n<=100) :aV 126 [cE g,.i6 n] (.ah (bM (kY g n))):=by
 apply a8 func126 [[[0],[2],[3],[4],[6],[1,6,3],[5]],da 0 4++[[4,1]]];have a2:=dw;have aM:=k1 aT;have bZ:=aM.n60;have b0:=aM.len;have aX:=bV g.idsZ;have aY:=iM g.opsZ;have ag:bt (.ad 32) (ai g.idsZ)=_:=ca _;have a3:=UT g Y aT;have bI:=hd (cO (eM g));unfold cE bb at a3;simp[cE,bb,ag];refine av a3 (by simp[ar,U.ax,aX,aY]) ?_;simp[bI,aw];refine bw n (MX g n) ?_ ⟨V,V,V,V,V,.af,0,[],rfl,.nil 0,.inl rfl,rfl⟩;rintro i aL l bT ⟨B,C,D,G,H,j,m,rest,rfl,t,aE,bu⟩;obtain⟨aL,rfl⟩:=gk B C D G H;clear B C D G H;have bh:=cl (k:=i) F;by_cases a0:i<n
 ·simp[a0];refine bw g.idsZ.l.length (MY g n i j m) ?_ ⟨V,V,V,V,V,V,.af,0,rest,rfl,t,V,.nil 0,.inl rfl,rfl,.inl rfl⟩;clear t;rintro k aL l hk ⟨B,C,D,G,H,aR,w,a6,rest,rfl,t,aP,O,Z,ak,aG⟩;obtain⟨aL,rfl⟩:=zQ B C D G H aP aR;clear B C D G H aP aR;have aO:=cl (k:=k) F;by_cases ae:k<g.idsZ.l.length
  ·obtain⟨x,P,bG⟩:=aQ ae;have a5:=Y.idsZ x bG;have R:=br a5;have aD:bF (.ad 32) (ai g.idsZ) _=_:=c6 P;have J:g.idsZ.l.take (k+1)=g.idsZ.l.take k++[x]:=by rw[eD,P];rfl
   obtain⟨kK,r,bE,bv⟩:=ID a5;have aB:∀ h,(ao x)[0]'h=a7 kK:=fun h=>by subst bE;rfl
   have bQ:kK.toNat<256:=kK.isLt;have a4:IntKind.i64.wrap (u kK)=(kK.toNat:Int):=by unfold u;rw[IntKind.wrap_i64];omega
   have aC:=th kK.toNat (n:Int) F;rw[fb] at aC;obtain⟨X,aA⟩:=aq (ao x);rw[<-aA] at R aD;simp only[<-aA] at aB;have bk:X.take 32=X:=aI F;have bA:aw (bO 32 (.int .u8 0)) 0 X=X:=cH (by rw[R];rfl);have a1:((kK.toNat:Int) % (n:Int)=(i:Int))<->num x n=i:=by
    rw[bv,<-Int.natCast_emod];exact⟨fun h=>Int.ofNat.inj h,fun h=>by rw[<-h]⟩
   have bS:((g.idsZ.l.take k).filter fun x=>decide (num x n=i)).length<=1000000:=dC (hG _ _) (by rw[cI];omega);by_cases aj:num x n=i
   ·have K:(g.idsZ.l.take (k+1)).filter (fun x=>decide (num x n=i))=(g.idsZ.l.take k).filter (fun x=>decide (num x n=i))++[x]:=by rw[J,kB];simp[aj]
    obtain⟨w',bH,aK,z,T,al,ap,bd,W,aN⟩:=I6 (by_:=32) (n:=3) (c:=rest.length+1+1+1) (O.more [am.q 32 X]) Z V V R F F (by rw[a2];simp;omega);obtain⟨bf,bg⟩:=TM (t.more [am.q 32 X]) aG W aN;have o:∀ b,b<3->aK[b]?=(am.q 2 [ai g.idsZ,bB g.opsZ] ::am.q 3 [.af,.af,.i6 0] ::am.q 3 [j,ai (cO (eM g)),.i6 g.idsZ.l.length] ::rest)[b]?:=fun b aU=>by
     rw[W b (by simp;omega) (by rcases Z with e | e;exact .inl e;exact .inr F),aS (by simp;omega)]
    obtain⟨bJ,rfl⟩:=pG (o 0 F) (o 1 F) (o 2 F);simp only[jo] at z;simp[ag,ae,aD,R,aB,a4,aC,a1,aj,bk,bA,z];refine bY.bo ?_;simp[aO];refine⟨ae,V,V,V,V,V,V,w',bH,bJ,rfl,bf,V,?_,.inr ap,by rw[K,al];simp,?_⟩
    ·rw[K,dk,dh,l6,<-aA];exact T
    ·exact .inr bg
   ·have K:(g.idsZ.l.take (k+1)).filter (fun x=>decide (num x n=i))=(g.idsZ.l.take k).filter (fun x=>decide (num x n=i)):=by rw[J,kB];simp[aj]
    simp[ag,ae,aD,R,aB,a4,aC,a1,aj,aO];exact⟨V,V,V,V,V,V,w,a6,rest,rfl,t,V,by rw[K];exact O,Z,by rw[K];exact ak,aG⟩
  ·have bp:k=g.idsZ.l.length:=F;subst bp;rw[fl] at O ak;change aJ 32 _ w a6 ((jF g n i).map ao) at O;change bq w=(jF g n i).isEmpty at ak;have I:=UD g Y F (cO (jF g n i)) (fun x P=>by rw[dr] at P;exact Y.idsZ x (c7.1 P).1) (by rw[dr];have:=hG (fun x=>decide (num x n=i)) g.idsZ.l;unfold jF;omega) F;rw[dr] at I;have bm:=bV (cO (jF g n i));have J:iz g n (i+1)=iz g n i++[hl g (jF g n i)]:=rfl;have bU:=pj g n i;unfold cE bb at I;obtain⟨Q,ay⟩:=aq (bb (hl g (jF g n i)));have az:Q.length=2:=by rw[ay];rfl
   have bP:Q.take 2=Q:=aI F;have bi:aw [U.af,.af] 0 Q=Q:=cH (by rw[az];rfl);change hW _ _ _ _ (.ah (bb (hl g (jF g n i)))) at I;rw[<-ay] at I;simp[ag];refine TG (cO (jF g n i)) O (by rw[ov];exact ak) (dr _) (fun a9 f1 f2=>?_);have bx:aJ 2 a9 j m ((iz g n i).map bb):=t.cY (by
    rcases aG with q | q | q
    ·exact .inr (f2 m (.inl q))
    ·exact .inl q
    ·exact .inr (f2 m (.inr fun e=>q e.symm)))
   have o:∀ b,b<3->a9[b]?=(am.q 2 [ai g.idsZ,bB g.opsZ] ::am.q 3 [.af,.af,.i6 0] ::am.q 3 [j,ai (cO (eM g)),.i6 g.idsZ.l.length] ::rest)[b]?:=fun b aU=>f2 b (by rcases Z with e | e;exact .inl e;exact .inr F)
   obtain⟨bc,rfl⟩:=pG (o 0 F) (o 1 F) (o 2 F);refine av I (by simp[ar,U.ax,aX,aY];exact bm) ?_;obtain⟨bL,aH,aK,z,T,al,ap,bd,W,aN⟩:=I6 (by_:=48) (n:=3) (c:=bc.length+1+1+1) (bx.more [am.q 2 Q]) aE V V az F F (by rw[a2];simp;omega);have au:∀ b,b<3->aK[b]?=(am.q 2 [ai g.idsZ,bB g.opsZ] ::am.q 3 [.af,.af,.i6 0] ::am.q 3 [j,ai (cO (eM g)),.i6 g.idsZ.l.length] ::bc)[b]?:=fun b aU=>by
    rw[W b (by simp;omega) (by rcases aE with e | e;exact .inl e;exact .inr F),aS (by simp;omega)]
   obtain⟨bK,rfl⟩:=pG (au 0 F) (au 1 F) (au 2 F);simp only[jo] at z;simp[az,bi,z];refine bY.bo ?_;have bC:=r5 T;simp[bC,aw,bh];refine⟨a0,V,V,V,V,V,bL,aH,bK,rfl,?_,.inr ap,by rw[al,J];simp⟩;rw[J,dk,dh,l6,<-ay];refine T.cY (.inr ?_);obtain⟨S,rfl⟩:∃ S,aH=S+3:=⟨aH - 3,F⟩
   rfl
 ·have bn:i=n:=F;subst bn;simp;have bz:Rd (am.q 2 [ai g.idsZ,bB g.opsZ] ::am.q 3 [j,ai (cO (eM g)),.i6 g.idsZ.l.length] ::am.q 3 [j,ai (cO (eM g)),.i6 g.idsZ.l.length] ::rest) j (e0 (some (iz g i i))):=by
   refine (t.cY (l':=am.q 2 [ai g.idsZ,bB g.opsZ] ::am.q 3 [j,ai (cO (eM g)),.i6 g.idsZ.l.length] ::am.q 3 [j,ai (cO (eM g)),.i6 g.idsZ.l.length] ::rest) ?_).q.jg oZ (some (iz g i i)) ?_ rfl
   ·rcases aE with h | h
    ·exact .inl h
    ·right;obtain⟨S,rfl⟩:∃ S,m=S+3:=⟨m - 3,F⟩
     rfl
   ·rw[bu];have:=pj g i i;cases bs:iz g i i with
    | nil=>rw[bs] at this;simp at this;omega
    | cons=>rfl
  have bl:=bV (cO (eM g));refine .ah _ _ rfl fun m c bN p v=>?_
  rcases m with _ | _ | _ | m
  ·simp[bM,kY] at p v;subst p v;exact bz
  ·simp[bM,kY] at p v;subst p v;exact .same _ bl
  ·simp[bM,kY] at p v;subst p v;exact .same _ rfl
  ·simp at p
structure xF (s:cA) :Prop where
 al:∀ g∈s.al.l,e4 g
 lJ:s.al.l.length<=1000000
 ce:cU s.ce
 qz:s.ce.l.length<=1000000
theorem hs.w {s:cA} (h:hs s) :xF s:=⟨fun g j=>(h.al g j).1,by have:=h.lJ;omega,h.ce,h.qz⟩
def lR (a b:cA) :Bool:=decide (a.al.l.length=b.al.l.length)&&(decide (a.b6=b.b6)&&(decide (a.ce.l=b.ce.l)&&decide (∀ k,k<a.al.l.length->np (df a.al.l k) (df b.al.l k)=true)))
theorem si (a b:cA) :lR a b=true<->a.al.l.length=b.al.l.length/\a.b6=b.b6/\a.ce.l=b.ce.l/\∀ k,k<a.al.l.length->np (df a.al.l k) (df b.al.l k)=true:=by unfold lR;simp only[bN,bI]
theorem UH (a b:cA) (v:xF a) (O:xF b) :aV 81 [.ah (bM a),.ah (bM b)] (.bool (lR a b)):=by
 apply a8 func81 [];have p:=pi a.al;have z:=pi b.al;have aB:=o1 a.al;have aC:=o1 b.al;have Q:=bV a.ce;have P:=bV b.ce;have X:=ur a.ce b.ce v.ce O.ce v.qz;by_cases h1:a.al.l.length=b.al.l.length
 ·by_cases o:a.b6=b.b6
  ·by_cases u:a.ce.l=b.ce.l
   ·simp[bM,p,z,h1,o];refine av X (by simp[ar,Q,P]) ?_;simp[u];refine bw a.al.l.length (fun k t l=>l=[.q 3 [e0 a.al,ai a.ce,.i6 a.b6],.q 3 [e0 b.al,ai b.ce,.i6 b.b6]]/\t 2=.ptr 0 0 3/\t 3=.ptr 1 0 3/\t 5=.i6 k/\∀ j,j<k->np (df a.al.l j) (df b.al.l j)=true) ?_ ⟨by simp[o],V,V,V,fun j ap=>F⟩;rintro k t l hk ⟨rfl,C,D,G,ae⟩;obtain⟨t,rfl⟩:=gj C D G;clear C D G;have aj:IntKind.i64.wrap ((k:Int)+1)=((k+1:Nat) :Int):=by rw[IntKind.wrap_i64];have:=v.lJ;omega
    by_cases w:k<a.al.l.length
    ·obtain⟨m,Y,ay⟩:=aQ w;obtain⟨q,Z,az⟩:=aQ (l:=b.al.l) (k:=k) F;have T:=mo Y;have W:=mo Z;have B:=UG m q (v.al m ay) (O.al q az);have aD:k<b.al.l.length:=F;have I:(bb m).length=2:=rfl;have K:(bb q).length=2:=rfl;have H:=oZ m;have J:=oZ q;have R:=dZ Y;have S:=dZ Z;change hW _ _ _ [.ah (bb m),.ah (bb q)] _ at B;obtain⟨u3,am⟩:=aq (bb m);obtain⟨EX,ao⟩:=aq (bb q);rw[<-am] at T B I H;rw[<-ao] at W B K J;have t1:u3.take 2=u3:=aI F;have t2:EX.take 2=EX:=aI F;simp[p,w,T,W,I,K,t1,t2];refine av B (by simp[ar,U.ax,H,J]) ?_;cases ag:np m q with
     | true=>
      simp[aj];refine⟨w,fun j ap=>?_⟩;by_cases au:j=k
      ·subst au;rw[R,S];exact ag
      ·exact ae j F
     | false=>
      have g:lR a b=false:=pQ.2 fun h=>by
       have:=((si a b).1 h).2.2.2 k w;rw[R,S,ag] at this;cases this
      simp;exact aR (cm U.bool g.symm) rfl
    ·have aw:k=a.al.l.length:=F;subst aw;have aA:lR a b=true:=(si a b).2 ⟨h1,o,u,ae⟩;simp[p];exact aR (cm U.bool aA.symm) rfl
   ·have g:lR a b=false:=pQ.2 fun h=>u ((si a b).1 h).2.2.1
    simp[bM,p,z,h1,o];refine av X (by simp[ar,Q,P]) ?_;simp[u];exact aR (cm U.bool g.symm) rfl
  ·have g:lR a b=false:=pQ.2 fun h=>o ((si a b).1 h).2.1
   simp[bM,p,z,h1,o];exact aR (cm U.bool g.symm) rfl
 ·have g:lR a b=false:=pQ.2 fun h=>h1 ((si a b).1 h).1
  have ak:¬ (a.al.l.length:Int)=b.al.l.length:=F;simp[bM,p,z,ak];exact aR (cm U.bool g.symm) rfl
theorem TR {g:aW} (h:e4 g) (L:aN) :e4 (hl g L):=by
 unfold hl;refine Lq (BJ (fun m j=>h.idsZ _ (zb (gE (c7.1 j).1)).1) (fun m j=>h.opsZ _ (zb (gE (c7.1 j).1)).2) ?_);have h1:=Js (g:=g) (L:=L) (k:=(gZ g).length);have o:(gZ g).length<=g.idsZ.l.length:=by unfold gZ;rw[List.length_zip];omega
 have:=h.li;omega
theorem Sc {g:aW} (h:e4 g) {n:Nat} (u:n<=1000) :xF (kY g n):=by
 refine⟨fun t o=>?_,?_,fun x q=>?_,?_⟩
 ·have p:t∈iz g n n:=o;obtain⟨k,hk⟩:=cc.1 p;have j:=(aH.1 hk).1;rw[pj] at j;rw[yL g n j] at hk;obtain rfl:=cd hk;exact TR h _
 ·show (iz g n n).length<=_;rw[pj];omega
 ·have m:x∈(cO (eM g)).l:=q;rw[dr] at m;exact h.idsZ x (c7.1 m).1
 ·show (cO (eM g)).l.length<=_;rw[dr];have:=hG (h2 g) g.idsZ.l;have:=h.li;unfold eM;omega
theorem L0 {s:cA} (h:hs s) :e4 (dM s):=Lq (xc h)
noncomputable def ks (s:cA) :Int:=if 1<=s.al.l.length/\s.al.l.length<=4 then (if e5 (dM s)=0/\lR s (kY (dM s) s.al.l.length)=true then 0 else 8) else 8
theorem UM (s:cA) (u:hs s) :aV 75 [.ah (bM s)] (.i6 (ks s)):=by
 apply a8 func75 [da 0 9++[[9,4]]];have q:=pi s.al;have m:(bM s).length=3:=rfl;have p:∀ h,(bM s)[0]'h=e0 s.al:=fun _=>rfl
 have G:=o2 s;have t:(bM s).take 3=bM s:=rfl;by_cases h1:1<=s.al.l.length
 ·by_cases D:s.al.l.length<=4
  ·have o:¬ (s.al.l.length:Int)<1:=F;have v:¬ (4:Int)<(s.al.l.length:Int):=F;have Q:¬ 4<s.al.l.length:=F;have K:=JR s u;have z:=L0 u;have I:=Up (dM s) z;have R:=hd (dM s).idsZ;have S:=oU (dM s).opsZ;have B:=bV (dM s).idsZ;have C:=iM (dM s).opsZ;unfold cE bb at K I;have g:ks s=if e5 (dM s)=0/\lR s (kY (dM s) s.al.l.length)=true then 0 else 8:=by unfold ks;rw[aj ⟨h1,D⟩]
   simp[m,p,t,q,o,v];refine av K (by simp[ar,U.ax,G]) ?_;simp[aw];refine av I (by simp[ar,U.ax,B,C]) ?_;by_cases j:e5 (dM s)=0
   ·have J:=Uy (dM s) z j s.al.l.length h1 F;have P:=UH s (kY (dM s) s.al.l.length) u.w (Sc z F);have O:=o2 (kY (dM s) s.al.l.length);unfold cE bb at J;simp[j,m,p,t,q];refine av J (by simp[ar,U.ax,B,C]) ?_;simp[m,t];refine av P (by simp[ar,U.ax,G,O]) ?_;cases H:lR s (kY (dM s) s.al.l.length) with
    | true=>
     rw[H,aj ⟨j,rfl⟩] at g;rw[g];simp;exact aG
    | false=>
     rw[H,ak V] at g;rw[g];simp;exact aG
   ·rw[ak (fun h=>j h.1)] at g;rw[g];simp[j];exact aG
  ·have g:ks s=8:=by unfold ks;rw[ak (fun h=>D h.2)]
   have o:¬ (s.al.l.length:Int)<1:=F;have v:(4:Int)<(s.al.l.length:Int):=F;have Q:4<s.al.l.length:=F;rw[g];simp[m,p,q,o,v];exact aG
 ·have g:ks s=8:=by unfold ks;rw[ak (fun h=>h1 h.1)]
  have o:(s.al.l.length:Int)<1:=F;rw[g];simp[m,p,q,o];exact aG
structure eR where
 cap:Int
 a2:cA
 aD:bP
def ck (s:eR) :ag:=[.i6 s.cap,e0 s.a2.al,ai s.a2.ce,.i6 s.a2.b6,ai s.aD]
structure lm (s:eR) :Prop where
 a2:hs s.a2
 aD:cU s.aD
 no:s.aD.l.length<=1000
theorem mi (s:eR) :ar (ck s)=true:=by simp[ck,ar,U.ax,o1,bV]
def hj (g:aW) (l:aN) (i:Nat) :Bool:=decide (bn l i∈g.idsZ.l)&&(!decide (bn l i∈l.take i)&&hY (l.take i) (dE g.opsZ.l (c8 (bn l i) g.idsZ.l 0).toNat))
def jI (g:aW) (l:aN) :Bool:=decide (∀ i,i<l.length->hj g l i=true)
noncomputable def fy (s:eR) :Int:=if 1<=s.cap/\s.cap<=40/\ks s.a2=0/\s.a2.b6<=s.cap/\(s.aD.l.length:Int)=s.a2.b6 then (if jI (dM s.a2) s.aD.l=true then 0 else 8) else 8
theorem KE {s:cA} (h:ks s=0) :1<=s.al.l.length/\s.al.l.length<=4/\e5 (dM s)=0/\lR s (kY (dM s) s.al.l.length)=true:=by
 unfold ks at h;split at h
 ·rename_i h1;split at h
  ·rename_i g;exact⟨h1.1,h1.2,g⟩
  ·cases h
 ·cases h
theorem Rr {x:List B} {l:aN} {i:Nat} (p:l[i]?=some x) :c8 x l 0<(i:Int)<->x∈l.take i:=by
 obtain⟨n,w,z,v⟩:∃ n:Nat,c8 x l 0=(n:Int)/\l[n]?=some x/\∀ (g:Nat) (y:List B),g<n->l[g]?=some y->y≠x:=by
  have G:∀ (j:Nat),l[j]?=some x->∃ n:Nat,l[n]?=some x/\∀ (g:Nat) (y:List B),g<n->l[g]?=some y->y≠x:=by
   intro j
   induction j using Nat.strongRecOn with
   | _ j D=>
    intro u;by_cases h:∃ g,g<j/\l[g]?=some x
    ·obtain⟨g,m,q⟩:=h;exact D g m q
    ·exact⟨j,u,fun g y m C e=>h ⟨g,m,by rw[C,e]⟩⟩
  obtain⟨n,h1,o⟩:=G i p;exact⟨n,by have:=pd (n:=0) h1 o;simpa using this,h1,o⟩
 rw[w];constructor
 ·intro h;have h' : n<i:=F;exact cc.2 ⟨n,by rw[dG h'];exact z⟩
 ·intro h;obtain⟨k,hk⟩:=cc.1 h;have t:=(aH.1 hk).1;rw[cI] at t;rw[dG F] at hk;by_cases e:n<=k
  ·omega
  ·exact bK rfl (v k x F hk)
theorem tH {l:aN} (j:kG l) {i:Nat} {x:List B} (g:l[i]?=some x) :c8 x l 0=(i:Int):=by have:=pd (n:=0) g (fun m y o h e=>by rw[e] at h;have:=j m i x h g;omega);simpa using this
theorem QU (a:bP) {k:Nat} (h:k<=a.l.length) :dB (.ad 32) (ai a) none (some (.i6 (k:Int))) none=some (ai (gJ a k)):=DY h
theorem UR (s:eR) (v:lm s) :aV 30 [.ah (ck s)] (.i6 (fy s)):=by
 apply a8 func30 [[],da 0 10++[[11],[10]]];have I:bt (.ad 32) (ai s.aD)=_:=ca _;have G:=UM s.a2 v.a2;have D:=o1 s.a2.al;have C:=bV s.a2.ce;have a6:=bV s.aD;have bG:=v.no;unfold bM at G;by_cases h1:1<=s.cap
 ·by_cases aM:s.cap<=40
  ·have o:¬ s.cap<1:=F;have w:¬ (40:Int)<s.cap:=F;by_cases t:ks s.a2=0
   ·by_cases aN:s.a2.b6<=s.cap
    ·have Y:¬ s.cap<s.a2.b6:=F;by_cases Q:(s.aD.l.length:Int)=s.a2.b6
     ·obtain⟨_,_,aL,_⟩:=KE t;have P:=k1 aL;have Z:=L0 v.a2;have a1:=P.len;have bm:=P.n60;have aA:=JR s.a2 v.a2;have j:fy s=if jI (dM s.a2) s.aD.l=true then 0 else 8:=by unfold fy;rw[aj ⟨h1,aM,t,aN,Q⟩]
      have T:∀ i,i<s.aD.l.length->hj (dM s.a2) s.aD.l i=false->fy s=8:=fun i bf bc=>by
       rw[j,ak];unfold jI;rw[bI];intro h;have:=h i bf;rw[bc] at this;cases this
      have bx:=hd (dM s.a2).idsZ;have bz:=oU (dM s.a2).opsZ;have ae:=bV (dM s.a2).idsZ;unfold cE bb bM at aA;obtain⟨g,bd⟩:=aq (dM s.a2);rw[<-bd] at aA Z a1 bm bx bz ae T P j aL;simp[ck,o,w];refine av G (by simp[ar,U.ax,D,C]) ?_;simp[t,Y,I,Q];refine av aA (by simp[ar,U.ax,D,C]) ?_;simp[aw];refine bw s.aD.l.length (fun k O l=>l=[.q 5 [.i6 s.cap,e0 s.a2.al,ai s.a2.ce,.i6 s.a2.b6,ai s.aD],.q 2 [ai g.idsZ,bB g.opsZ]]/\O 1=.ptr 0 0 5/\O 3=.ptr 1 0 2/\O 4=.i6 k/\∀ z,z<k->hj g s.aD.l z=true) ?_ ⟨rfl,V,V,V,fun z bh=>F⟩;rintro k O l hk ⟨rfl,aE,aJ,aK,aU⟩;obtain⟨O,rfl⟩:=gj aE aJ aK;clear aE aJ aK;have a4:=cl (k:=k) F;by_cases u:k<s.aD.l.length
      ·obtain⟨x,aB,bu⟩:=aQ u;have aC:=v.aD x bu;have K:=br aC;have J:=cP x;have H:bF (.ad 32) (ai s.aD) _=_:=c6 aB;have B:=px g.idsZ Z.idsZ Z.li x aC;have az:=px s.aD v.aD F x aC;have hit:=Rr aB;have m:hj g s.aD.l k=(decide (x∈g.idsZ.l)&&(!decide (x∈s.aD.l.take k)&&hY (s.aD.l.take k) (dE g.opsZ.l (c8 x g.idsZ.l 0).toNat))):=by unfold hj;rw[dx aB]
       have bo:=nb x g.idsZ.l 0;obtain⟨bv,bg⟩:=aq (c8 x s.aD.l 0);rw[<-bg] at az hit;by_cases W:x∈g.idsZ.l
       ·obtain⟨a,ap⟩:=cc.1 W;have a5:=tH (mq P.bQ) ap;obtain⟨p,aX,bq⟩:=aQ (l:=g.opsZ.l) (k:=a) (by rw[<-a1];exact (aH.1 ap).1);have a0:=Z.opsZ p bq;rw[a5] at B m;rw[bW W,fb,lM aX,nA] at m;have bE:=(aH.1 ap).1;have aW:bF (.ad 11) (bB g.opsZ) _=_:=c6 aX;have aY:(au p).length=11:=rfl;have aS:∀ h,(au p)[1]'h=ai p.ay:=fun _=>rfl
        have a7:=bV p.ay;have bs:=QU s.aD (k:=k) F;have bp:cU (gJ s.aD k):=fun bA a3=>v.aD bA (by rw[lV] at a3;exact gE a3)
        have aT:=C2 (gJ s.aD k) bp (by rw[lV,cI];omega) p.ay a0.idsZ a0.len;rw[lV] at aT;have a9:=bV (gJ s.aD k);have bn:¬ (a:Int)<0:=F;obtain⟨X,am⟩:=aq (ao x);obtain⟨bC,aP⟩:=aq (au p);rw[<-am] at H K J B az;rw[<-aP] at aW aY;simp only[<-aP] at aS;have S:X.take 32=X:=aI F;simp[I,u,H,K,S];refine av B (by simp[ar,U.ax,ae,J]) ?_;simp[bn,H,K,S];refine av az (by simp[ar,U.ax,a6,J]) ?_;by_cases R:x∈s.aD.l.take k
        ·have ag:=hit.2 R;rw[bW R] at m;have:=T k u (by rw[m];simp);simp[ag];exact aR (by rw[this]) rfl
        ·have ag:¬ bv<(k:Int):=fun h=>R (hit.1 h)
         rw[cp R] at m;simp[ag,bs,aW,aY,aS];refine av aT (by simp[ar,a9,a7]) ?_;cases aO:hY (s.aD.l.take k) p.ay.l with
         | true=>
          rw[aO] at m;simp[a4];refine⟨u,fun z bh=>?_⟩;by_cases bi:z=k
          ·rw[bi,m];rfl
          ·exact aU z F
         | false=>
          rw[aO] at m;have:=T k u (by rw[m];rfl);simp;exact aR (by rw[this]) rfl
       ·have bl:c8 x g.idsZ.l 0<0:=by
         have:¬ 0<=c8 x g.idsZ.l 0:=fun h=>W (bo.1 h)
         omega
        rw[cp W,q8] at m;have:=T k u m;obtain⟨X,am⟩:=aq (ao x);rw[<-am] at H K J B;have S:X.take 32=X:=aI F;simp[I,u,H,K,S];refine av B (by simp[ar,U.ax,ae,J]) ?_;simp[bl];exact aR (by rw[this]) rfl
      ·have bk:k=s.aD.l.length:=F;subst bk;have:jI g s.aD.l=true:=by unfold jI;exact bW aU
       rw[this,aj rfl] at j;rw[j];simp[I];exact aG
     ·have j:fy s=8:=by unfold fy;rw[ak (fun h=>Q h.2.2.2.2)]
      rw[j];simp[ck,o,w];refine av G (by simp[ar,U.ax,D,C]) ?_;simp[t,Y,I,Q];exact aG
    ·have j:fy s=8:=by unfold fy;rw[ak (fun h=>aN h.2.2.2.1)]
     have Y:s.cap<s.a2.b6:=F;rw[j];simp[ck,o,w];refine av G (by simp[ar,U.ax,D,C]) ?_;simp[t,Y];exact aG
   ·have j:fy s=8:=by unfold fy;rw[ak (fun h=>t h.2.2.1)]
    rw[j];simp[ck,o,w];refine av G (by simp[ar,U.ax,D,C]) ?_;simp[t];exact aG
  ·have j:fy s=8:=by unfold fy;rw[ak (fun h=>aM h.2.1)]
   have o:¬ s.cap<1:=F;have w:(40:Int)<s.cap:=F;rw[j];simp[ck,o,w];exact aG
 ·have j:fy s=8:=by unfold fy;rw[ak (fun h=>h1 h.1)]
  have o:s.cap<1:=F;rw[j];simp[ck,o];exact aG
def oQ (p:aW) :Bool:=decide (16<p.opsZ.l.length)||(decide (16<p.idsZ.l.length)||o8 p)
def mn (s:cA) :Bool:=(s.al.l.take 7).any oQ||(decide (6<s.al.l.length)||decide (60<s.ce.l.length))
def rP (s:eR) :Bool:=mn s.a2||decide (70<s.aD.l.length)
theorem Us (s:cA) :aV 84 [.ah (bM s)] (.bool (mn s)):=by
 apply a8 func84 [];have t:=pi s.al;have o:(bM s).length=3:=rfl;have p:∀ h,(bM s)[0]'h=e0 s.al:=fun _=>rfl
 have am:∀ h,(bM s)[1]'h=ai s.ce:=fun _=>rfl
 have aw:bt (.ad 32) (ai s.ce)=_:=ca _;simp[o];obtain⟨n,aA⟩:=aq (min s.al.l.length 7);refine bw n (fun k H l=>l=[.q 3 (bM s)]/\H 1=.ptr 0 0 3/\H 3=.i6 k/\∀ j,j<k->oQ (df s.al.l j)=false) ?_ ⟨rfl,V,V,fun j G=>F⟩;rintro k H l hk ⟨rfl,S,T,ae⟩;obtain⟨H,rfl⟩:=jP S T;clear S T;have aj:=cl (k:=k) F;by_cases m:k<s.al.l.length
 ·by_cases az:k<=6
  ·have v:(k:Int)<=6:=F;obtain⟨g,Q,aB⟩:=aQ m;have D:=mo Q;have O:=Uq g;have ap:=dZ Q;have C:(bb g).length=2:=rfl;have J:∀ h,(bb g)[0]'h=ai g.idsZ:=fun _=>rfl
   have B:∀ h,(bb g)[1]'h=bB g.opsZ:=fun _=>rfl
   have Y:=oZ g;have P:bt (.ad 11) (bB g.opsZ)=_:=ca _;have ag:bt (.ad 32) (ai g.idsZ)=_:=ca _;change hW _ _ _ [.ah (bb g)] _ at O;have K:oQ g=true->mn s=true:=fun h=>by
    unfold mn;rw[sP.2 ⟨g,cc.2 ⟨k,by rw[dG F];exact Q⟩,h⟩];rfl
   obtain⟨u3,Z⟩:=aq (bb g);rw[<-Z] at D O C Y;simp only[<-Z] at J B;have ak:u3.take 2=u3:=aI F;by_cases h1:16<g.opsZ.l.length
   ·have w:(16:Int)<(g.opsZ.l.length:Int):=F;have:=K (by unfold oQ;rw[bW h1];rfl);simp[o,p,t,m,v,D,C,B,P,w];exact aR (by rw[this]) rfl
   ·have w:¬ (16:Int)<(g.opsZ.l.length:Int):=F;by_cases W:16<g.idsZ.l.length
    ·have I:(16:Int)<(g.idsZ.l.length:Int):=F;have:=K (by unfold oQ;rw[bW W];simp);simp[o,p,t,m,v,D,C,J,B,P,ag,w,I];exact aR (by rw[this]) rfl
    ·have I:¬ (16:Int)<(g.idsZ.l.length:Int):=F;simp[o,p,t,m,v,D,C,J,B,P,ag,w,I,ak];refine av O (by simp[ar,U.ax,Y]) ?_;cases X:o8 g with
     | true=>
      have:=K (by unfold oQ;rw[X];simp);simp;exact aR (by rw[this]) rfl
     | false=>
      simp[aj];refine⟨F,fun j G=>?_⟩;by_cases au:j=k
      ·rw[au,ap];unfold oQ;rw[cp h1,cp W,X];rfl
      ·exact ae j F
  ·have v:¬ (k:Int)<=6:=F;have z:6<s.al.l.length:=F;have u:(6:Int)<(s.al.l.length:Int):=F;have:mn s=true:=by unfold mn;rw[bW z];simp
   simp[o,p,t,m,v,u];exact aR (by rw[this]) rfl
 ·have ay:(s.al.l.take 7).any oQ=false:=pQ.2 fun h=>by
   obtain⟨q,R,ao⟩:=sP.1 h;obtain⟨j,G⟩:=cc.1 (gE R);have:=ae j (by have:=(aH.1 G).1;omega);rw[dZ G,ao] at this;cases this
  by_cases z:6<s.al.l.length
  ·have u:(6:Int)<(s.al.l.length:Int):=F;have:mn s=true:=by unfold mn;rw[bW z];simp
   simp[o,p,t,m,u];exact aR (by rw[this]) rfl
  ·have u:¬ (6:Int)<(s.al.l.length:Int):=F;have:mn s=decide (60<s.ce.l.length):=by unfold mn;rw[ay,cp z];rfl
   have R:decide ((60:Int)<(s.ce.l.length:Int))=decide (60<s.ce.l.length):=decide_eq_decide.2 F;simp[o,p,am,t,aw,m,u,R];exact aR (by rw[this]) rfl
theorem Ut (s:eR) :aV 41 [.ah (ck s)] (.bool (rP s)):=by
 apply a8 func41 [];have g:=Us s.a2;have o:bt (.ad 32) (ai s.aD)=_:=ca _;have m:=o1 s.a2.al;have j:=bV s.a2.ce;have p:decide ((70:Int)<(s.aD.l.length:Int))=decide (70<s.aD.l.length):=decide_eq_decide.2 F;unfold bM at g;simp[ck];refine av g (by simp[ar,U.ax,m,j]) ?_;unfold rP;cases h:mn s.a2 with
 | true=>
  simp;exact aG
 | false=>
  simp[o,p];exact aR V rfl
theorem IF (x:List B) (j:x.length=32) (n:Nat) (h1:1<=n) (v:n<=100) :aV 208 [.ah (ao x),.i6 n] (.i6 (num x n)):=by
 apply a8 func208 [];have t:=br j;obtain⟨kK,r,q,o⟩:=ID j;have m:∀ h,(ao x)[0]'h=a7 kK:=fun h=>by subst q;rfl
 have w:kK.toNat<256:=kK.isLt;have p:IntKind.i64.wrap (u kK)=(kK.toNat:Int):=by unfold u;rw[IntKind.wrap_i64];omega
 have g:=th kK.toNat (n:Int) F;rw[fb] at g;have z:¬ n=0:=F;simp[t,m,a7,vu,p,g];refine aR ?_ rfl;rw[o];simp
theorem TA (n i:Nat) (h1:1<=n) (z:n<=100) {l:ae} {j2 bi:Nat} (t:l[j2]?=some (.q 1 [.i6 (n:Int)])) (o:l[bi]?=some (.q 1 [.i6 (i:Int)])) (xs:aN) (K:∀ p∈xs,p.length=32) :
  s4 250 [.ptr j2 0 1,.ptr bi 0 1] l xs (fun p=>!decide (num p n=i)):=by
 intro p H g m O C;apply cR func250 [[[0],[1],[3],[2,3]]];have u:=K p H;have J:=br u;have I:=cP p;have q1:g[j2]?=some (.q 1 [.i6 (n:Int)]):=by rw[m.2 _ (aY t)];exact t
 have v:g[bi]?=some (.q 1 [.i6 (i:Int)]):=by rw[m.2 _ (aY o)];exact o
 have w:∀ c:am,(g++[c])[j2]?=some (.q 1 [.i6 (n:Int)]):=fun c=>by rw[aS (aY q1)];exact q1
 have j:∀ c:am,(g++[c])[bi]?=some (.q 1 [.i6 (i:Int)]):=fun c=>by rw[aS (aY v)];exact v
 have G:=IF p u n h1 z;simp[w,j,J,aI];refine av G (by simp[ar,U.ax,I]) ?_;have B:decide (((num p n:Nat) :Int)=(i:Int))=decide (num p n=i):=by
  by_cases h:num p n=i
  ·simp[h]
  ·have:¬ ((num p n:Nat) :Int)=(i:Int):=F;simp[h];exact this
 simp[j,B];have:=C (g++[am.q 32 (ao p)]) ⟨V,fun b D=>aS D⟩;exact this
theorem kT (s:bP) (g:cU s) (j:s.l.length<=1000000) :aV 80 [ai s] (ai s):=by
 refine wI checked.mixed ed ?_;refine yq s g j fun o m h=>?_
 exact h.rd cP s rfl rfl
theorem Iz (s:bH aM) :dP prog .eql 68 (bB s) .af=some (.bool s.isNone):=vl (e:=55) bd 11 au s
theorem vI (l:List aM) :(l.map au).flatten.length=l.length*11:=rJ (z:=11) (enc:=au) (fun _ _=>rfl)
theorem F1 (s:bH aM) (p:s.l.length<=1000000) {l:ae} {K:cv} (j:s=none->K .af l)
  (h1:∀ a,s=some a->K (.ad 11 l.length 0 a.length a.length (a.length*11)) (l++[.q (a.length*11) (a.map au).flatten])) :
  cG 143 [bB s] l K:=by
 apply cR func143 [];have o:=dw;cases s with
 | none=>
  simp[Iz];exact j rfl
 | some a=>
  simp at p;have t:=vI a;have m:ep (l++[am.q 0 []]) 11 112 (.ad 11 l.length 0 0 0 0) (bB (some a))=some (.ad 11 l.length 0 a.length a.length (a.length*11),l++[.q (a.length*11) (a.map au).flatten]):=by
   unfold ep bB;rw[qj];simp only[bH.lE];unfold ha;by_cases g:a.length=0
   ·have:a=[]:=il.1 g;subst this;simp
   ·rw[ak g,ak F];simp[o];exact⟨F,fun h=>by simp[h]⟩
  simp[Iz,m];refine bY.bo ?_;simp;exact h1 a rfl
theorem UZ {l:ae} {a b g j:U} (h1:Rd l a g) (o:Rd l b j) :Rd l (.ah [a,b]) (.ah [g,j]):=by
 refine .ah _ _ rfl fun q x t p m=>?_
 rcases lB p with ⟨rfl,rfl⟩ | ⟨rfl,rfl⟩
 ·rcases lB m with ⟨_,rfl⟩ | ⟨h,_⟩
  ·exact h1
  ·omega
 ·rcases lB m with ⟨h,_⟩ | ⟨_,rfl⟩
  ·omega
  ·exact o
theorem wx (o:aM) :aw (au o) 1 [ai o.ay]=au o:=by unfold aw au;simp
theorem K7 (g:aW) (u:e4 g) :aV 157 [cE g] (cE g):=by
 apply a8 func157 [[[0],[1],[3],[4],[7],[2,7,4],[5,7],[6]],da 0 9++[[9,1]]];have D:=bV g.idsZ;have ag:=iM g.opsZ;have P:=kT g.idsZ u.idsZ u.li;have J:=hd g.idsZ;simp[cE,bb];refine av P (by simp[ar,D]) ?_;simp;refine F1 g.opsZ u.jE (fun G=>?_) (fun a w=>?_)
 ·simp[J,aw];refine bw 0 (fun k h l=>l=[am.q 2 [ai g.idsZ,bB g.opsZ],am.q 2 [.af,.af],am.q 2 [ai g.idsZ,.af]]/\h 2=.ptr 1 0 2/\h 3=.ptr 2 0 2/\h 14=.i6 0/\h 15=.i6 k) ?_ ⟨rfl,V,V,V,V⟩;rintro k h l hk ⟨rfl,p,t,j,m⟩;obtain⟨h,rfl⟩:=e2 p t j m;clear p t j m;have:k=0:=F;subst this;simp[aw,G];have:cE g=.ah [ai g.idsZ,.af]:=by unfold cE bb;rw[G];rfl
  exact aR this.symm (oY g)
 ·simp[J,aw];have ae:a.length<=1000000:=by have:=u.jE;rw[w] at this;exact this
  have O:∀ o∈a,dv o:=fun o C=>u.opsZ o (by rw[w];exact C)
  have aj:=vI a;have I:∀ e∈a.map au,e.length=11:=fun e S=>by obtain⟨y,_,rfl⟩:=cF.1 S;rfl
  refine bw a.length (fun k h l=>l=[am.q 2 [ai g.idsZ,bB g.opsZ],am.q 2 [.af,.af],am.q 2 [ai g.idsZ,U.ad 11 3 0 a.length a.length (a.length*11)],am.q (a.length*11) (a.map au).flatten]/\h 2=.ptr 1 0 2/\h 3=.ptr 2 0 2/\h 14=.i6 a.length/\h 15=.i6 k) ?_ ⟨rfl,V,V,V,V⟩;rintro k h l hk ⟨rfl,p,t,j,m⟩;obtain⟨h,rfl⟩:=e2 p t j m;clear p t j m;have K:=cl (k:=k) F;by_cases v:k<a.length
  ·obtain⟨o,C,X⟩:=aQ v;have H:=O o X;have R:=bV o.ay;have Q:=kT o.ay H.idsZ H.len;have B:(a.map au)[k]?=some (au o):=by rw[bX,C];rfl
   have T:(a.map au).flatten[k*11+1]?=some (ai o.ay):=lx I B F;have Y:aw (a.map au).flatten (k*11+1) [ai o.ay]=(a.map au).flatten:=by
    rw[o6 I B (show 1+[ai o.ay].length<=11 by simp)];rw[wx o];congr 1;exact g7 fun Z=>by
     by_cases e:k=Z
     ·subst e;rw[bT (by simpa using v),B]
     ·rw[bp e]
   have mp:=hd o.ay;simp[v,T];refine av Q (by simp[ar,R]) ?_;simp[Y,mp,K];exact⟨v,F,v⟩
  ·have W:k=a.length:=F;subst W;simp[aw];exact UZ (.same _ D) ((qG (enc:=au) (z:=11) (b:=3) (n:=a.length) (a:=a) (fun _ _=>rfl) rfl (by rfl)).q.jg dN g.opsZ (by rw[w];rfl) (by rw[w];rfl))
def eu (g:List Nat) (i:Nat) :Nat:=g.getD i 0
theorem yZ {g:List Nat} {i n:Nat} (h:g[i]?=some n) :eu g i=n:=by unfold eu;rw[gm,h];rfl
theorem wn {g:List Nat} {i j n:Nat} (m:j<g.length) :eu (g.set j n) i=if i=j then n else eu g i:=by
 by_cases h:i=j
 ·subst h;rw[aj rfl];exact yZ (bT m)
 ·rw[ak h];unfold eu;rw[gm,gm,bp (fun e=>h e.symm)]
def mK:List Nat->Nat
 | []=>0
 | a::l=>a+mK l
theorem La:∀ {l:List Nat} {j:Nat},j<l.length->mK (l.set j (eu l j+1))=mK l+1
 | a::l,0,_=>by show (a+1)+mK l=a+mK l+1;omega
 | a::l,j+1,h=>by
  have:=La (l:=l) (j:=j) (by simpa using h);show a+mK (l.set j (eu l j+1))=a+mK l+1;omega
theorem K9 {c:Nat}:∀ {l:List Nat},(∀ i,i<l.length->eu l i<=c)->mK l<=c*l.length
 | [],_=>by simp[mK]
 | a::l,h=>by
  have h1:=K9 (c:=c) (l:=l) fun i g=>h (i+1) (by simpa using g)
  have j:a<=c:=h 0 V;show a+mK l<=c*(l.length+1)
  rw[Nat.mul_succ];omega
theorem WM (n:Nat) :mK (List.replicate n 0)=0:=by
 induction n with
 | zero=>rfl
 | succ n g=>rw[jV];show 0+_=0;omega
theorem IG (n i:Nat) :eu (List.replicate n 0) i=0:=by unfold eu;rw[gm,Ak];split<;>rfl
def ga (ps:List aW) (g:List Nat) (i:Nat) :List B:=bn (df ps i).idsZ.l (eu g i)
def jd (ps:List aW) (g:List Nat) (i:Nat) (r:Option Nat) :Option Nat:=
 if eu g i<(df ps i).idsZ.l.length then (match r with | none=>some i | some h=>if bD (ga ps g i) (ga ps g h)<0 then some i else some h) else r
def ki (ps:List aW) (g:List Nat) :Nat->Option Nat
 | 0=>none
 | i+1=>jd ps g i (ki ps g i)
theorem H9 (ps:List aW) (g:List Nat) (i:Nat) (r:Option Nat) :(¬ eu g i<(df ps i).idsZ.l.length/\jd ps g i r=r)\/(eu g i<(df ps i).idsZ.l.length/\((r=none/\jd ps g i r=some i)\/∃ j,r=some j/\((bD (ga ps g i) (ga ps g j)<0/\jd ps g i r=some i)\/(¬ bD (ga ps g i) (ga ps g j)<0/\jd ps g i r=some j)))):=by
 unfold jd;by_cases h:eu g i<(df ps i).idsZ.l.length
 ·rw[aj h];right;refine⟨h,?_⟩;cases r with
  | none=>exact .inl ⟨rfl,rfl⟩
  | some j=>
   right;refine⟨j,rfl,?_⟩;by_cases m:bD (ga ps g i) (ga ps g j)<0
   ·left;exact⟨m,by simp[m]⟩
   ·right;exact⟨m,by simp[m]⟩
 ·rw[ak h];exact .inl ⟨h,rfl⟩
theorem Ch {ps:List aW} {g:List Nat}:∀ {k:Nat},ki ps g k=none->∀ i,i<k->¬ eu g i<(df ps i).idsZ.l.length
 | 0,_,i,m=>F
 | k+1,h,i,m=>by
  change jd ps g k (ki ps g k)=none at h;rcases H9 ps g k (ki ps g k) with ⟨h1,j⟩ | ⟨_,⟨_,j⟩ | ⟨o,_,⟨_,j⟩ | ⟨_,j⟩⟩⟩
  ·by_cases e:i=k
   ·subst e;exact h1
   ·exact Ch (by rw[<-j];exact h) i F
  all_goals rw[j] at h;cases h
theorem tN {ps:List aW} {g:List Nat}:∀ {k j:Nat},ki ps g k=some j->j<k/\eu g j<(df ps j).idsZ.l.length/\∀ i,i<k->eu g i<(df ps i).idsZ.l.length->bD (ga ps g j) (ga ps g i)<=0
 | 0,j,h=>by cases h
 | k+1,j,h=>by
  change jd ps g k (ki ps g k)=some j at h;rcases H9 ps g k (ki ps g k) with ⟨h1,o⟩ | ⟨h1,⟨p,o⟩ | ⟨t,p,⟨u,o⟩ | ⟨u,o⟩⟩⟩
  ·rw[o] at h;obtain⟨a,b,c⟩:=tN h;exact⟨F,b,fun i q m=>by
    by_cases e:i=k
    ·subst e;exact bK m h1
    ·exact c i F m⟩
  ·rw[o] at h;obtain rfl:=cd h;exact⟨F,h1,fun i q m=>by
    by_cases e:i=k
    ·subst e;rw[kO];exact Int.le_refl _
    ·exact bK m (Ch p i F)⟩
  ·rw[o] at h;obtain rfl:=cd h;obtain⟨a,b,c⟩:=tN p;exact⟨F,h1,fun i q m=>by
    by_cases e:i=k
    ·subst e;rw[kO];exact Int.le_refl _
    ·have w:=c i F m;by_cases v:bD (ga ps g t) (ga ps g i)=0
     ·rw[<-nW v];omega
     ·have:=nY _ _ _ u (show bD (ga ps g t) (ga ps g i)<0 by omega);omega⟩
  ·rw[o] at h;obtain rfl:=cd h;obtain⟨a,b,c⟩:=tN p;exact⟨F,b,fun i q m=>by
    by_cases e:i=k
    ·subst e;have:=nX (ga ps g i) (ga ps g t);omega
    ·exact c i F m⟩
structure nL (ps:List aW) :Prop where
 len:∀ p∈ps,p.idsZ.l.length=p.opsZ.l.length
 bQ:∀ p∈ps,bQ p.idsZ.l=true
 ql:∀ (i j:Nat) (x:List B) (p q:aW),ps[i]?=some p->ps[j]?=some q->x∈p.idsZ.l->x∈q.idsZ.l->i=j
structure rk (ps:List aW) (b4:List Nat) (g:List (List B × aM)) :Prop where
 nl:b4.length=ps.length
 le:∀ (i:Nat) (p:aW),ps[i]?=some p->eu b4 i<=p.idsZ.l.length
 KJ:g.Pairwise fun a b=>eN a.1 b.1=true
 Im:∀ q,q∈g<->∃ (i:Nat) (p:aW) (a:Nat),ps[i]?=some p/\a<eu b4 i/\p.idsZ.l[a]?=some q.1/\p.opsZ.l[a]?=some q.2
 Hr:∀ q∈g,∀ (i:Nat) (p:aW) (a:Nat) (x:List B),ps[i]?=some p->eu b4 i<=a->p.idsZ.l[a]?=some x->eN q.1 x=true
 ez:mK b4=g.length
theorem Sr (ps:List aW) :rk ps (List.replicate ps.length 0) []:=
 ⟨V,fun i j _=>by rw[IG];exact ek _,.nil,fun q=>⟨fun h=>(by cases h),fun ⟨i,j,a,_,h,_⟩=>by rw[IG] at h;omega⟩,fun q g=>(by cases g),by rw[WM];rfl⟩
theorem Sp {ps:List aW} {t:List Nat} {g:List (List B × aM)} (h:rk ps t g) {c:Nat} (j:∀ p∈ps,p.idsZ.l.length<=c) :g.length<=c*ps.length:=by
 rw[<-h.ez,<-h.nl];refine K9 fun i m=>?_
 obtain⟨p,o,q⟩:=aQ (l:=ps) (k:=i) (by rw[<-h.nl];exact m);exact dC (h.le i p o) (j p q)
theorem Sq {ps:List aW} (W:nL ps) {g:List Nat} {K:List (List B × aM)} (h:rk ps g K) {j:Nat} (ag:ki ps g ps.length=some j) {p:aW} (m:ps[j]?=some p) {x:List B} {o:aM} (w:p.idsZ.l[eu g j]?=some x) (Q:p.opsZ.l[eu g j]?=some o) :
  rk ps (g.set j (eu g j+1)) (K++[(x,o)]):=by
 obtain⟨h1,T,U⟩:=tN ag;have ai:=cz m;have v:j<g.length:=by rw[h.nl];exact h1
 rw[dZ m] at T;have Z:ga ps g j=x:=by unfold ga;rw[dZ m,dx w]
 have O:∀ i,i<ps.length->eu g i<=eu (g.set j (eu g j+1)) i:=fun i _=>by rw[wn v];split<;>simp_all
 refine⟨by rw[jU];exact h.nl,fun i q t=>?_,?_,fun q=>?_,fun q t i r a y u H C=>?_,?_⟩
 ·rw[wn v];split
  ·rename_i e;subst e;rw[m] at t;obtain rfl:=cd t;omega
  ·exact h.le i q t
 ·rw[rc];refine⟨h.KJ,An _ _,fun a H b X=>?_⟩;rw[fO.1 X];exact h.Hr a H j p _ x m (aF _) w
 ·rw[eQ,h.Im,fO];constructor
  ·rintro (⟨i,r,a,q1,G,D⟩ | e)
   ·exact⟨i,r,a,q1,l8 G (O i (aH.1 q1).1),D⟩
   ·subst e;exact⟨j,p,eu g j,m,by rw[wn v,aj rfl];omega,w,Q⟩
  ·rintro⟨i,r,a,q1,G,D,I⟩;rw[wn v] at G;split at G
   ·rename_i e;subst e;rw[m] at q1;obtain rfl:=cd q1;by_cases e:a=eu g i
    ·right;rw[e,w] at D;rw[e,Q] at I;rw[cd D,cd I]
    ·exact .inl ⟨i,p,a,m,F,D,I⟩
   ·exact .inl ⟨i,r,a,q1,G,D,I⟩
 ·have ae:eu g i<=a:=dC (O i (aH.1 u).1) H;rcases eQ.1 t with t | t
  ·exact h.Hr q t i r a y u ae C
  ·rw[fO.1 t];by_cases e:i=j
   ·subst e;rw[m] at u;obtain rfl:=cd u;rw[wn v,aj rfl] at H;exact (hO _ _).2 (jK (W.bQ p ai) (show eu g i<a by omega) w C)
   ·have ak:=cz u;have am:=(aH.1 C).1;obtain⟨z,J,al⟩:=aQ (l:=r.idsZ.l) (k:=eu g i) F;have V:=U i (aH.1 u).1 (by rw[dZ u];omega);have Y:ga ps g i=z:=by unfold ga;rw[dZ u,dx J]
    rw[Z,Y] at V;have ao:bD x z≠0:=fun R=>e (by
     have:=nW R;subst this;exact W.ql i j x r p u m al (cz w))
    have P:eN x z=true:=(hO _ _).2 F;by_cases S:a=eu g i
    ·rw[S,J] at C;rw[<-cd C];exact P
    ·exact tO _ _ _ P ((hO _ _).2 (jK (W.bQ r ak) (show eu g i<a by omega) J C))
 ·rw[La v,h.ez,cg];rfl
theorem Sm {ps:List aW} {t:List Nat} {o:List (List B × aM)} (h:rk ps t o) (u:ki ps t ps.length=none) (q:List B × aM) :q∈o<->∃ p∈ps,∃ a:Nat,p.idsZ.l[a]?=some q.1/\p.opsZ.l[a]?=some q.2:=by
 rw[h.Im];constructor
 ·rintro⟨i,p,a,h1,_,g,j⟩;exact⟨p,cz h1,a,g,j⟩
 ·rintro⟨p,v,a,g,j⟩;obtain⟨i,m⟩:=cc.1 v;have:=Ch u i (aH.1 m).1;rw[dZ m] at this;have:=(aH.1 g).1;exact⟨i,p,a,m,F,g,j⟩
theorem CW {l m:List (List B × aM)} (g:l.Pairwise fun a b=>eN a.1 b.1=true) (j:m.Pairwise fun a b=>eN a.1 b.1=true) (h:∀ q,q∈l<->q∈m) :l=m:=
 DJ (lt:=fun a b:List B × aM=>eN a.1 b.1) (fun a=>Ci a.1) (fun a b c=>tO a.1 b.1 c.1) g j h
theorem Fu {p:aW} (t:p.idsZ.l.length=p.opsZ.l.length) (m:bQ p.idsZ.l=true) {x:List B} {o:aM}:iu p x=some o<->∃ a:Nat,p.idsZ.l[a]?=some x/\p.opsZ.l[a]?=some o:=by
 constructor
 ·intro h;unfold iu at h;split at h
  ·rename_i q;obtain⟨a,g⟩:=cc.1 ((nb x p.idsZ.l 0).1 q.1);rw[tH (mq m) g,fb] at h;exact⟨a,g,h⟩
  ·cases h
 ·rintro⟨a,g,j⟩;unfold iu;have:=(aH.1 j).1;rw[tH (mq m) g,aj ⟨F,F⟩,fb];exact j
theorem Ft {p:aW} {x:List B} {o:aM} (h:iu p x=some o) :x∈p.idsZ.l:=by
 unfold iu at h;split at h
 ·rename_i g;exact (nb x p.idsZ.l 0).1 g.1
 ·cases h
theorem L6 {ps:List aW} (W:nL ps) {x:List B}:∀ {k:Nat},k<=ps.length->(gl ps x k).Pairwise fun a b=>eN a.1 b.1=true
 | 0,_=>.nil
 | k+1,hk=>by
  obtain⟨j,g,_⟩:=aQ (l:=ps) (k:=k) F;have u:=L6 W (x:=x) (k:=k) F;show (gl ps x k++(match iu (df ps k) x with | some h=>[(x,h)] | none=>[])).Pairwise _;rw[dZ g];cases p:iu j x with
  | none=>simpa using u
  | some h=>
   have:gl ps x k=[]:=List.eq_nil_iff_forall_not_mem.2 fun q t=>by
    obtain⟨v,r,h1,m,o,w⟩:=(zW F).1 t;have:=W.ql v k x r j m g (Ft o) (Ft p);omega
   rw[this];exact An _ _
theorem L4 {ps:List aW} (W:nL ps) {idsZ:aN} (g:bQ idsZ=true) :∀ {i:Nat},i<=idsZ.length->(ho ps idsZ i).Pairwise fun a b=>eN a.1 b.1=true
 | 0,_=>.nil
 | i+1,q=>by
  obtain⟨x,h,_⟩:=aQ (l:=idsZ) (k:=i) F;show (ho ps idsZ i++gl ps (bn idsZ i) ps.length).Pairwise _;rw[dx h,rc];refine⟨L4 W g F,L6 W (aF _),fun a o b p=>?_⟩;obtain⟨u,h1,j,_⟩:=(zV F).1 o;obtain⟨t,v,_,_,_,m⟩:=(zW (aF _)).1 p;rw[m];exact (hO _ _).2 (jK g h1 j h)
theorem Ej {s:cA} (W:nL s.al.l) :(bS s).Pairwise fun a b=>eN a.1 b.1=true:=L4 W (Wz _) (aF _)
theorem sB {s:cA} (W:nL s.al.l) (q:List B × aM) :q∈bS s<->∃ p∈s.al.l,∃ a:Nat,p.idsZ.l[a]?=some q.1/\p.opsZ.l[a]?=some q.2:=by
 unfold bS;rw[zV (aF _)];constructor
 ·rintro⟨a,_,_,p,g,h⟩;exact⟨p,g,(Fu (W.len p g) (W.bQ p g)).1 h⟩
 ·rintro⟨p,g,a,h1,o⟩;have:q.1∈fq s:=by
   unfold fq;obtain⟨t,j⟩:=cc.1 g;rw[KQ,AN (aF _)];exact⟨t,p,(aH.1 j).1,j,cz h1⟩
  obtain⟨u,m⟩:=cc.1 this;exact⟨u,(aH.1 m).1,m,p,g,(Fu (W.len p g) (W.bQ p g)).2 ⟨a,h1,o⟩⟩
theorem Sn {s:cA} (W:nL s.al.l) {j:List Nat} {g:List (List B × aM)} (h:rk s.al.l j g) (m:ki s.al.l j s.al.l.length=none) :g=bS s:=
 CW h.KJ (Ej W) fun q=>by rw[Sm h m,sB W]
def oA (ps:List aW) :Bool:=decide (∀ g∈ps,g.idsZ.l.length=g.opsZ.l.length/\bQ g.idsZ.l=true)
theorem lY {ps:List aW}:oA ps=true<->∀ p∈ps,p.idsZ.l.length=p.opsZ.l.length/\bQ p.idsZ.l=true:=decide_eq_true_iff
def lH (ps:List aW) :Bool:=decide (∀ i,i<ps.length->∀ x∈(df ps i).idsZ.l,num x ps.length=i)
theorem yX {ps:List aW} (h:lH ps=true) (i j:Nat) (x:List B) (p q:aW) (g:ps[i]?=some p) (m:ps[j]?=some q) (o:x∈p.idsZ.l) (t:x∈q.idsZ.l) :i=j:=by unfold lH at h;rw[bI] at h;have h1:=h i (aH.1 g).1 x (by rw[dZ g];exact o);have u:=h j (aH.1 m).1 x (by rw[dZ m];exact t);omega
theorem vR {s:bP} {k:Nat} {x:List B} (h:s.l[k]?=some x) :bF (.ad 32) (ai s) (.i6 (k:Int))=some (.bR (ao x) 0):=by simp[ai,h]
theorem HA {s:bH aM} {k:Nat} {x:aM} (h:s.l[k]?=some x) :bF (.ad 11) (bB s) (.i6 (k:Int))=some (.bR (au x) 0):=by simp[bB,h]
theorem R5 {ps:List aW} {g:List Nat} {i:Nat} {r:Option Nat} (h:¬ eu g i<(df ps i).idsZ.l.length) :jd ps g i r=r:=by unfold jd;rw[ak h]
theorem R2 {ps:List aW} {g:List Nat} {i:Nat} (h:eu g i<(df ps i).idsZ.l.length) :jd ps g i none=some i:=by unfold jd;rw[aj h]
theorem R4 {ps:List aW} {g:List Nat} {i j:Nat} (h:eu g i<(df ps i).idsZ.l.length) (m:bD (ga ps g i) (ga ps g j)<0) :jd ps g i (some j)=some i:=by unfold jd;rw[aj h];simp[m]
theorem R3 {ps:List aW} {g:List Nat} {i j:Nat} (h:eu g i<(df ps i).idsZ.l.length) (m:¬ bD (ga ps g i) (ga ps g j)<0) :jd ps g i (some j)=some j:=by unfold jd;rw[aj h];simp[m]
def wa:Option Nat->Int
 | none=>-1
 | some g=>g
def j7 (g:List Nat) :ag:=g.map fun (n:Nat)=>U.i6 (n:Int)
structure u5 (s:cA) (g w2:U) (b4:List Nat) (l:ae) :Prop where
 k5:l[0]?=some (.q 3 (bM s))
 q1:l[1]?=some (.q 2 [.af,.af])
 r8:l[2]?=some (.q 2 [g,w2])
 r9:l[3]?=some (.q s.al.l.length (j7 b4))
structure xE (s:cA) (sgZ:aP) :Prop where
 e7:sgZ 1=.ptr 0 0 3
 h0:sgZ 2=.ptr 1 0 2
 i9:sgZ 3=.bool false
 kb:sgZ 4=.ptr 2 0 2
 ja:sgZ 5=.ad 1 3 0 s.al.l.length s.al.l.length s.al.l.length
def r1 (s:cA) :U:=if oA s.al.l=true then .aZ [cE (b2 (bS s)),.bool true] else .aZ [cE ⟨none,none⟩,.bool false]
theorem Sk (s:cA) (aL:hs s) (dh:∀ (i j:Nat) (x:List B) (p q:aW),s.al.l[i]?=some p->s.al.l[j]?=some q->x∈p.idsZ.l->x∈q.idsZ.l->i=j) :aV 251 [.ah (bM s)] (r1 s):=by
 apply a8 func251 [[],[],da 0 15++da 16 15++[[15,30,29,27,23,19,17],[32],[31]]];have az:=dw;have cf:=pi s.al;have dV:=aL.lJ;have a4:(bM s).length=3:=rfl;have aU:∀ h,(bM s)[0]'h=e0 s.al:=fun _=>rfl
 obtain⟨aP,a9⟩:=we (z:=1) (by_:=8) (n:=s.al.l.length) (k:=.i64) (k':=.i64) (zero:=[U.i6 0]) (l:=[.q 3 (bM s),.q 2 [.af,.af],.q 2 [.af,.af]]) rfl F (by rw[az];omega);simp only[nH] at aP a9;simp[a4,aU,cf] at aP ⊢;simp[aP,aU,a4,cf];have cS:cy [U.i6 0] s.al.l.length=j7 (List.replicate s.al.l.length 0):=by
  rw[wM];unfold j7;rw[xr];generalize s.al.l.length=n
  induction n with
  | zero=>rfl
  | succ n dA=>rw[jV,jV,gR,dA];rfl
 rw[cS];have b4:oA s.al.l=false->r1 s=.aZ [.ah [.af,.af],.bool false]:=fun h=>by unfold r1;rw[h];rfl
 refine bw s.al.l.length (fun i o l=>xE s o/\o 17=e0 s.al/\o 18=.i6 s.al.l.length/\o 19=.i6 i/\u5 s .af .af (List.replicate s.al.l.length 0) l/\∀ (j:Nat) (p:aW),j<i->s.al.l[j]?=some p->p.idsZ.l.length=p.opsZ.l.length/\bQ p.idsZ.l=true) ?_ ⟨⟨V,V,V,V,V⟩,V,V,V,⟨rfl,rfl,rfl,rfl⟩,fun j _ bK=>F⟩;rintro i o l b8 ⟨⟨G,H,I,J,K⟩,bf,bg,bh,hH,b7⟩;obtain⟨o,rfl⟩:=zR G H I J K bf bg bh;clear G H I J K bf bg bh;have ak:=cl (k:=i) F;by_cases D:i<s.al.l.length
 ·obtain⟨p,w,bu⟩:=aQ D;obtain⟨bP,ds,dt⟩:=aL.al p bu;have bq:=mo w;have aB:∀ h,(bb p)[0]'h=ai p.idsZ:=fun _=>rfl
  have cB:∀ h,(bb p)[1]'h=bB p.opsZ:=fun _=>rfl
  have aC:(bb p).length=2:=rfl;have bi:(bb p).take 2=bb p:=rfl;have aJ:bt (.ad 32) (ai p.idsZ)=_:=ca _;have dp:bt (.ad 11) (bB p.opsZ)=_:=ca _;have u:∀ bc:am,(l++[bc])[2]?=some (.q 2 [.af,.af]):=fun bc=>by rw[aS (aY hH.r8)];exact hH.r8
  have v:∀ bc:am,(l++[bc])[1]?=some (.q 2 [.af,.af]):=fun bc=>by rw[aS (aY hH.q1)];exact hH.q1
  have cq:(l++[am.q 2 (bb p)])[l.length]?=some (.q 2 (bb p)):=pT;have c9:∀ c:am,u5 s .af .af (List.replicate s.al.l.length 0) (l++[c]):=fun c=>⟨by rw[aS (aY hH.k5)];exact hH.k5,v c,u c,by rw[aS (aY hH.r9)];exact hH.r9⟩
  have c0:∀ c c' : am,((l++[c]).set 1 c')[1]?=some c':=fun c c'=>bT (by rw[cg];have:=aY hH.q1;omega)
  have bv:aw [U.af,.af] 0 (bb p)=bb p:=cH rfl;simp[D,bq,aB,cB,aC,bi,bv,aJ,dp];by_cases h1:p.idsZ.l.length=p.opsZ.l.length
  ·simp[h1];obtain⟨L,ap⟩:=aq (l++[am.q 2 (bb p)]);have bk:=c9 (am.q 2 (bb p));have c3:=v (am.q 2 (bb p));have c4:=u (am.q 2 (bb p));have c1:=c0 (am.q 2 (bb p));rw[<-ap] at bk cq c3 c4 c1 ⊢;refine bw p.idsZ.l.length (fun g o cV=>cV=L/\xE s o/\o 7=.ptr l.length 0 2/\o 8=.i6 (g+1:Nat)/\o 17=e0 s.al/\o 18=.i6 s.al.l.length/\o 19=.i6 i/\∀ k,k<p.idsZ.l.length->1<=k->k<g+1->bD (bn p.idsZ.l (k - 1)) (bn p.idsZ.l k)<0) ?_ ⟨rfl,⟨V,V,V,V,V⟩,V,V,V,V,V,fun k _ _ _=>F⟩;rintro g o cV dU ⟨rfl,⟨G,H,I,J,K⟩,cw,cx,bf,bg,bh,cU⟩;obtain⟨o,rfl⟩:=Eb G H I J K cw cx bf bg bh;clear G H I J K cw cx bf bg bh;have bd:IntKind.i64.wrap (((g+1:Nat) :Int)+1)=((g+1+1:Nat) :Int):=by rw[IntKind.wrap_i64];omega
   have b0:IntKind.i64.wrap (((g+1:Nat) :Int) - 1)=(g:Int):=by rw[IntKind.wrap_i64];omega
   by_cases cM:g+1<p.idsZ.l.length
   ·obtain⟨x,P,bz⟩:=aQ (l:=p.idsZ.l) (k:=g) F;obtain⟨y,C,ck⟩:=aQ (l:=p.idsZ.l) (k:=g+1) F;have bs:((g+1:Nat) :Int)<p.idsZ.l.length:=F;have aO:=bP.idsZ x bz;have bA:=bP.idsZ y ck;have Q:=br aO;have bG:=br bA;have bx:=cP x;have bE:=cP y;have ay:bF (.ad 32) (ai p.idsZ) _=_:=c6 P;have a3:=vR C;have S:=qg x y aO bA;change aV _ [.ah (ao x),.ah (ao y)] _ at S;obtain⟨X,aX⟩:=aq (ao x);obtain⟨Y,a0⟩:=aq (ao y);rw[<-aX] at Q bx ay S;rw[<-a0] at bG bE a3 S;obtain⟨M,O⟩:=aq (((g+1:Nat) :Int) :Int);rw[<-O] at bd b0 bs a3 ⊢;simp[cq,aC,aB,aJ,bs,b0,ay,a3,Q,bG,aI];refine av S (by simp[ar,U.ax,bx,bE]) ?_;by_cases aK:bD x y<0
    ·have:¬ 0<=bD x y:=F;simp[this,bd];refine⟨F,⟨V,V,V,V,V⟩,fun k h1 b1 dO=>?_⟩;by_cases hk:k=g+1
     ·subst hk;rw[show g+1 - 1=g by omega,P,C];exact aK
     ·exact cU k h1 b1 F
    ·have c7:0<=bD x y:=F;have aN:oA s.al.l=false:=cp fun h=>aK (by
      have:=jK (h p bu).2 (show g<g+1 by omega) P C;exact this)
     rw[b4 aN];simp[c7,c4,c3,c1,aw];exact aG
   ·have bs:¬ ((g+1:Nat) :Int)<p.idsZ.l.length:=F;obtain⟨M,O⟩:=aq (((g+1:Nat) :Int) :Int);rw[<-O] at bd b0 bs ⊢;simp[cq,aC,aB,aJ,bs,ak];refine⟨D,⟨V,V,V,V,V⟩,bk,fun j q bK cj=>?_⟩;by_cases dj:j=i
    ·subst dj;rw[w] at cj;obtain rfl:=cd cj;exact⟨h1,um fun k h1 b1=>cU k h1 b1 F⟩
    ·exact b7 j q F cj
  ·have aN:oA s.al.l=false:=cp fun h=>h1 (h p bu).1
   have c8:¬ (p.idsZ.l.length:Int)=p.opsZ.l.length:=F;rw[b4 aN];simp[c8,u,v,c0,aw];exact aG
 ·have cb:i=s.al.l.length:=F;subst cb;have aN:oA s.al.l=true:=lY.2 fun p w=>by
   obtain⟨j,bK⟩:=cc.1 w;exact b7 j p (aH.1 bK).1 bK
  have W:nL s.al.l:=⟨fun p w=>(lY.1 aN p w).1,fun p w=>(lY.1 aN p w).2,dh⟩
  have cN:r1 s=.aZ [cE (b2 (bS s)),.bool true]:=by unfold r1;rw[aN];rfl
  rw[cN];clear b7 b4 cN b8 D ak a9 aP cS;simp;refine bw 100000 (fun k o l=>xE s o/\∃ m t v u kg kW,u5 s v u m l/\fZ l v u kg kW 4 (t.map (·.1)) (t.map (·.2))/\rk s.al.l m t/\t.length=k) ?_ ⟨⟨V,V,V,V,V⟩,List.replicate s.al.l.length 0,[],.af,.af,0,0,hH,by simpa using Cz _ 4,Sr _,rfl⟩;clear hH;rintro k o l hk ⟨⟨G,H,I,J,K⟩,m,t,v,u,kg,kW,hH,Z,O,dm⟩;obtain⟨o,rfl⟩:=gk G H I J K;clear G H I J K;have dP:t.length<=1000:=by have:=Sp O (c:=100) (fun p w=>(aL.al p w).2.1);omega
  have aj:=hH.k5;simp[aj,a4,aU,cf];refine bw s.al.l.length (fun i o l=>xE s o/\o 9=.i6 (wa (ki s.al.l m i))/\o 54=e0 s.al/\o 55=.i6 s.al.l.length/\o 56=.i6 i/\u5 s v u m l/\fZ l v u kg kW 4 (t.map (·.1)) (t.map (·.2))) ?_ ⟨⟨V,V,V,V,V⟩,by simp;rfl,V,V,V,hH,Z⟩;clear hH Z aj;rintro i o l b8 ⟨⟨G,H,I,J,K⟩,cz,ct,cu,cv,hH,Z⟩;obtain⟨o,rfl⟩:=LC G H I J K cz ct cu cv;clear G H I J K cz ct cu cv;have ak:=cl (k:=i) F;by_cases D:i<s.al.l.length
  ·obtain⟨p,w,bu⟩:=aQ D;obtain⟨bP,ds,dt⟩:=aL.al p bu;have bq:=mo w;have aB:∀ h,(bb p)[0]'h=ai p.idsZ:=fun _=>rfl
   have cB:∀ h,(bb p)[1]'h=bB p.opsZ:=fun _=>rfl
   have aC:(bb p).length=2:=rfl;have bi:(bb p).take 2=bb p:=rfl;have aJ:bt (.ad 32) (ai p.idsZ)=_:=ca _;have bv:aw [U.af,.af] 0 (bb p)=bb p:=cH rfl;obtain⟨L,ap⟩:=aq (l++[am.q 2 (bb p)]);have wp:L[l.length]?=some (.q 2 (bb p)):=by rw[ap];exact pT
   have aT:u5 s v u m L:=by
    rw[ap];exact⟨by rw[aS (aY hH.k5)];exact hH.k5,by rw[aS (aY hH.q1)];exact hH.q1,by rw[aS (aY hH.r8)];exact hH.r8,by rw[aS (aY hH.r9)];exact hH.r9⟩
   have T:fZ L v u kg kW 4 (t.map (·.1)) (t.map (·.2)):=by rw[ap];exact Z.frame fun b _ aE=>aS aE
   have cR:=O.nl;obtain⟨a,cG⟩:∃ a,m[i]?=some a:=⟨_,bC (by rw[cR];exact D)⟩
   have bN:=yZ cG;have dn:=O.le i p w;rw[bN] at dn;have b5:(j7 m)[i]?=some (.i6 (a:Int)):=by unfold j7;rw[bX,cG];rfl
   have R:=aT.r9;have b6:=dZ w;have ag:ki s.al.l m (i+1)=jd s.al.l m i (ki s.al.l m i):=rfl;by_cases a1:a<p.idsZ.l.length
   ·have bl:eu m i<(df s.al.l i).idsZ.l.length:=by rw[bN,b6];exact a1
    obtain⟨x,P,bz⟩:=aQ a1;have cJ:ga s.al.l m i=x:=by unfold ga;rw[b6,bN,dx P]
    cases aD:ki s.al.l m i with
    | none=>
     rw[aD,R2 bl] at ag;have aM:wa none=-1:=rfl;rw[aM];simp[D,bq,aC,bi,bv,<-ap,wp,R,aB,aJ,b5,a1,ak];exact⟨⟨V,V,V,V,V⟩,by rw[ag];rfl,aT,T⟩
    | some j=>
     rw[aD] at ag;obtain⟨bZ,aA,c5⟩:=tN aD;obtain⟨r,az,bU⟩:=aQ (l:=s.al.l) (k:=j) F;have bJ:=dZ az;rw[bJ] at aA;obtain⟨y,C,ck⟩:=aQ aA;have cK:ga s.al.l m j=y:=by unfold ga;rw[bJ];exact dx C
     obtain⟨b,aE⟩:∃ b,m[j]?=some b:=⟨_,bC (by rw[cR];omega)⟩
     have ch:=yZ aE;rw[ch] at C;have bm:(j7 m)[j]?=some (.i6 (b:Int)):=by unfold j7;rw[bX,aE];rfl
     have b9:=mo az;have b3:(bb r)[0]?=some (ai r.idsZ):=rfl;have aO:=bP.idsZ x bz;have bA:=(aL.al r bU).1.idsZ y ck;have Q:=br aO;have bG:=br bA;have bx:=cP x;have bE:=cP y;have ay:=vR P;have a3:=vR C;have S:=qg x y aO bA;change aV _ [.ah (ao x),.ah (ao y)] _ at S;obtain⟨X,aX⟩:=aq (ao x);obtain⟨Y,a0⟩:=aq (ao y);rw[<-aX] at Q bx ay S;rw[<-a0] at bG bE a3 S;have aM:wa (some j)=(j:Int):=rfl;rw[aM];have ce:¬ (j:Int)<0:=F;have aj:=aT.k5;have bL:j<s.al.l.length:=F;simp[D,bq,aC,bi,bv,<-ap,wp,R,aB,aJ,b5,a1,ce,ay,a3,aj,a4,aU,b9,b3,bm,Q,bG,aI];refine⟨bL,av S (by simp[ar,U.ax,bx,bE]) ?_⟩;by_cases aK:bD x y<0
     ·rw[R4 bl (by rw[cJ,cK];exact aK)] at ag;simp[aK,ak];exact⟨D,⟨V,V,V,V,V⟩,by rw[ag];rfl,aT,T⟩
     ·rw[R3 bl (by rw[cJ,cK];exact aK)] at ag;simp[aK,ak];exact⟨D,⟨V,V,V,V,V⟩,by rw[ag];rfl,aT,T⟩
   ·have bl:¬ eu m i<(df s.al.l i).idsZ.l.length:=by rw[bN,b6];exact a1
    rw[R5 bl] at ag;simp[D,bq,aC,bi,bv,<-ap,wp,R,aB,aJ,b5,a1,ak];exact⟨⟨V,V,V,V,V⟩,by rw[ag],aT,T⟩
  ·have cb:i=s.al.l.length:=F;subst cb;clear b8 D ak;cases aD:ki s.al.l m s.al.l.length with
   | none=>
    have db:=Sn W O aD;have aM:wa none=-1:=rfl;rw[aM];have di:e4 (b2 (bS s)):=xc aL;have cT:=K7 _ di;have cI:=oY (b2 (bS s));have a7:=hH.r8;unfold cE bb b2 at cT cI;subst db;simp[a7];refine Z.call fun a5 ed dE=>?_
    have bV:a5[1]?=some (.q 2 [.af,.af]):=by rw[dE 1 F];exact hH.q1
    have cm:∀ c:am,(a5.set 1 c)[1]?=some c:=fun c=>bT (aY bV)
    refine av cT (by simp[ar,cI]) ?_;have cX:=hd (cO ((bS s).map (·.1)));have cY:=oU (cO ((bS s).map (·.2)));simp[bV,cm,aw];exact aR rfl (by simp[U.ax,ar];exact oY _)
   | some j=>
    obtain⟨bZ,aA,c5⟩:=tN aD;obtain⟨r,az,bU⟩:=aQ bZ;have bJ:=dZ az;rw[bJ] at aA;obtain⟨du,dY,ea⟩:=aL.al r bU;have dX:=W.len r bU;obtain⟨x,P,bz⟩:=aQ aA;obtain⟨a6,ci,dW⟩:=aQ (l:=r.opsZ.l) (k:=eu m j) F;have bk:=Sq W O aD az P ci;obtain⟨b,aE⟩:∃ b,m[j]?=some b:=⟨_,bC (by rw[O.nl];omega)⟩
    have ch:=yZ aE;rw[ch] at P ci bk aA;have bm:(j7 m)[j]?=some (.i6 (b:Int)):=by unfold j7;rw[bX,aE];rfl
    have b9:=mo az;have b3:(bb r)[0]?=some (ai r.idsZ):=rfl;have cD:(bb r)[1]?=some (bB r.opsZ):=rfl;have aO:=du.idsZ x bz;have Q:=br aO;have ay:=vR P;have cL:=HA ci;have T:(au a6).length=11:=rfl;have aM:wa (some j)=(j:Int):=rfl;rw[aM];have ce:¬ (j:Int)<0:=F;have bL:j<s.al.l.length:=bZ;obtain⟨X,aX⟩:=aq (ao x);obtain⟨Y,a0⟩:=aq (au a6);have dc:=aX;rw[<-aX] at Q ay;rw[<-a0] at T cL;have dd:X.take 32=X:=aI F;have cF:Y.take 11=Y:=aI F;have dz:aw (bO 32 (.int .u8 0)) 0 X=X:=cH (by rw[Q];rfl);have dy:aw [U.int .u32 0,.af,.int .u64 0,.int .u8 0,.str [],.int .u8 0,.i6 0,.int .u64 0,.str [],.int .u32 0,.int .u32 0] 0 Y=Y:=cH (by rw[T];rfl);have aj:=hH.k5;have a7:=hH.r8;have R:=hH.r9;have ec:=aY R;have bW:∀ (g:ae) (i:Nat) (c:am),l[i]?=some c->(l++g)[i]?=some c:=fun g i c h=>by rw[aS (aY h)];exact h
    have dI:∀ g:ae,(l++g)[0]?=some (.q 3 (bM s)):=fun g=>bW g 0 _ aj
    have dJ:∀ g:ae,(l++g)[2]?=some (.q 2 [v,u]):=fun g=>bW g 2 _ a7
    have dK:∀ g:ae,(l++g)[3]?=some (.q s.al.l.length (j7 m)):=fun g=>bW g 3 _ R
    have dL:∀ (g:ae) (h:0<(l++g).length),(l++g)[0]'h=.q 3 (bM s):=fun g h=>(aH.1 (dI g)).2
    have dr:fZ (l++[am.q 32 X,.q 11 Y]) v u kg kW 4 (t.map (·.1)) (t.map (·.2)):=Z.frame fun c _ a2=>aS a2
    obtain⟨bH,dB,cW,aP,a9,dM,cr,dN⟩:=dr.HC (c:=l.length) dc Q V (by simp;omega) (by rw[cC];omega);simp[aj,a4,aU,ce,b9,b3,cD,a7,R,dL,dJ,dK,bm,bL,ay,Q,dd,dz,cL,T,cF,dy,aP];have dD:=Z.hi.lt;have de:v=.af\/4<=kg:=Z.nS;have dg:u=.af\/4<=kW:=Z.nT;have f:∀ (c:Nat) (y:am),c<4->l[c]?=some y->cW[c]?=some y:=fun c y a2 C=>by
     rw[cr c (by have:=aY C;simp;omega) (by rcases de with e | e;exact .inl e;exact .inr F),aS (aY C)];exact C
    have cs:cW[l.length+1]?=some (.q 11 Y):=by
     rw[cr (l.length+1) V (by rcases dD with e | e;exact .inl e;exact .inr F)];simp
    have dR:=aY (f 3 _ F R);obtain⟨cn,dC,a5,d1,d2,d3,d4⟩:=a9.IW (c:=l.length+1) a0 cs F (by rw[cC];omega);have bI:∀ (c:Nat) (y:am),c<4->l[c]?=some y->a5[c]?=some y:=fun c y a2 C=>by
     rw[d4 c (aY (f c y a2 C)) (by rcases dg with e | e;exact .inl e;exact .inr F)];exact f c y a2 C
    have dF:=bI 0 _ F aj;have bV:=bI 1 _ F hH.q1;have cm:=bI 2 _ F a7;have cZ:=bI 3 _ F R;have f2:=f 2 _ F a7;have f0:=f 0 _ F aj;have f3:=f 3 _ F R;have dT:=aY cZ;refine bY.bo ?_;simp[f0,f2,f3,cs,a4,aU,d1,T,cF];refine⟨⟨bm,cD⟩,bY.bo ?_⟩;have cX:=r5 a9.hi;have cY:=r5 d2.ia;have c2:∀ c:am,(a5.set 2 c)[2]?=some c:=fun c=>bT F
    have dG:∀ c:am,(a5.set 2 c)[3]?=some (.q s.al.l.length (j7 m)):=fun c=>by rw[bp F];exact cZ
    have dQ:b<r.idsZ.l.length:=aA;have bd:IntKind.i64.wrap ((b:Int)+1)=(b:Int)+1:=by rw[IntKind.wrap_i64];omega
    have dl:j<m.length:=by rw[O.nl];omega
    have dv:aw (j7 m) j [U.i6 ((b:Int)+1)]=j7 (m.set j (b+1)):=by
     rw[KN (by unfold j7;simpa using dl)];unfold j7;rw[List.map_set];rfl
    have dH:aw [v,u] 0 [bH]=[bH,u]:=V;have ef:aw [bH,u] 1 [cn]=[bH,cn]:=V;have cM:(t.map (·.1))++[x]=(t++[(x,a6)]).map (·.1):=by rw[dk];rfl
    have dq:(t.map (·.2))++[a6]=(t++[(x,a6)]).map (·.2):=by rw[dk];rfl
    rw[cM,dq] at d2;simp[cm,c2,dG,cX,cY,dH,bm,bd,dv];refine⟨bL,F,F,⟨V,V,V,V,V⟩,m.set j (b+1),t++[(x,a6)],bH,cn,⟨?_,?_,?_,?_⟩,⟨dB,dC,?_⟩,bk,by rw[cg,dm];rfl⟩
    ·rw[bp F,bp F];exact dF
    ·rw[bp F,bp F];exact bV
    ·rw[bp F];exact c2 _
    ·exact bT (by simp;omega)
    ·exact d2.frame fun c a2 _=>by rw[bp F,bp F]
end Op
end Go.bf

/-
  A graph that is being built: its two rows are one's own. Parts and headsZ of a graph, in the reference.
-/
import Derived.Test.YtdjbnhgdhambnaaGreatDoorWi
set_option maxHeartbeats 16000000
set_option maxRecDepth 100000
set_option linter.unusedVariables false
set_option linter.unusedSimpArgs false
set_option linter.unnecessarySimpa false
namespace Go.bh
open Go Go.Proofs Go.Proofs.Tryz
namespace Op
open ca
structure gj (l:ae) (gT g:U) (h j n:Nat) (idsZ:aO) (opsZ:List aG) :Prop where
 hB:aM 32 l gT h (idsZ.map ar)
 iw:aM 11 l g j (opsZ.map au)
 gZ:bt gT=idsZ.isEmpty
 qR:bt g=opsZ.isEmpty
 ob:gT=.af\/n<=h
 oc:g=.af\/n<=j
 ne:gT=.af\/g=.af\/h≠j
theorem Da (l:ae) (n:Nat) :gj l .af .af 0 0 n [] []:=⟨.nil 0,.nil 0,rfl,rfl,.inl rfl,.inl rfl,.inl rfl⟩
theorem gj.frame {l l' : ae} {p q:U} {m o n:Nat} {idsZ:aO} {opsZ:List aG} (h:gj l p q m o n idsZ opsZ) (j:∀ b,n<=b->b<l.length->l'[b]?=l[b]?) :gj l' p q m o n idsZ opsZ:=by
 refine⟨h.hB.c6 ?_,h.iw.c6 ?_,h.gZ,h.qR,h.ob,h.oc,h.ne⟩
 ·rcases h.ob with e | e
  ·exact .inl e
  ·rcases h.hB.lt with g | g
   ·exact .inl g
   ·exact .inr (j _ e g)
 ·rcases h.oc with e | e
  ·exact .inl e
  ·rcases h.iw.lt with g | g
   ·exact .inl g
   ·exact .inr (j _ e g)
theorem gj.idsZ {l:ae} {t m:U} {D G n:Nat} {idsZ:aO} {opsZ:List aG} (h:gj l t m D G n idsZ opsZ) {X:ag} {x:List B} (Q:X=ar x) (C:X.length=32) (aj:n<=l.length) (Z:idsZ.length<=1000000) :
  ∃ j dp l',eE (l++[.q 32 X]) 32 32 t (.ad 32 l.length 0 1 1 32)=some (j,l')/\gj l' j m dp G n (idsZ++[x]) opsZ/\l.length+1<=l'.length/\∀ b,b<n->l'[b]?=l[b]?:=by
 have T:=dF;obtain⟨j,dp,l',H,I,W,J,u,K⟩:=iG (by_:=32) (x:=.ad 32 l.length 0 1 1 32) (xs:=[X]) (h.hB.more [am.q 32 X]) (by simp[cG,C,aL]) (by simp[C]) F F (by rw[T];simp;omega);have o:bt j=false:=by rw[K];simp
 have z:j≠.af:=fun e=>by rw[e] at o;cases o
 have ai:(l++[am.q 32 X]).length=l.length+1:=V;have R:n<=dp:=by
  rcases u with e | ⟨O,P⟩ | e
  ·omega
  ·rw[P];exact h.ob.resolve_left O
  ·exact bP e z
 have w:∀ b,b<l.length->t=.af\/b≠D->l'[b]?=l[b]?:=fun b v S=>by
  rw[J b F S,aV v]
 refine⟨j,dp,l',H,⟨?_,?_,by rw[o];simp,h.qR,.inr R,h.oc,?_⟩,F,fun b v=>?_⟩
 ·rw[c5,df,mn,<-Q];exact I
 ·refine h.iw.c6 ?_;rcases h.iw.lt with e | e
  ·exact .inl e
  ·by_cases g:m=.af
   ·exact .inl g
   ·refine .inr (w _ e ?_);rcases h.ne with q | q | q
    ·exact .inl q
    ·exact bP q g
    ·exact .inr fun e=>q e.symm
 ·by_cases g:m=.af
  ·exact .inr (.inl g)
  ·refine .inr (.inr fun e=>?_);have Y:=h.iw.lt.resolve_left g;rcases u with q | ⟨q1,ak⟩ | q
   ·omega
   ·rcases h.ne with p | p | p
    ·exact q1 p
    ·exact g p
    ·exact p F
   ·exact z q
 ·refine w b F ?_;rcases h.ob with e | e
  ·exact .inl e
  ·exact .inr F
theorem gj.opsZ {l:ae} {t v:U} {H I n:Nat} {idsZ:aO} {opsZ:List aG} (h:gj l t v H I n idsZ opsZ) {g:ag} {o:aG} (z:g=au o) (aj:n<=l.length) (Z:opsZ.length<=1000000) :
  ∃ m dp l',eE (l++[.q 11 g]) 11 112 v (.ad 11 l.length 0 1 1 11)=some (m,l')/\gj l' t m H dp n idsZ (opsZ++[o])/\l.length+1<=l'.length/\∀ b,b<n->l'[b]?=l[b]?:=by
 have W:=dF;have G:g.length=11:=by rw[z];rfl
 obtain⟨m,dp,l',J,K,X,O,w,P⟩:=iG (by_:=112) (x:=.ad 11 l.length 0 1 1 11) (xs:=[g]) (h.iw.more [am.q 11 g]) (by simp[cG,G,aL]) (by simp[G]) F F (by rw[W];simp;omega);have u:bt m=false:=by rw[P];simp
 have D:m≠.af:=fun e=>by rw[e] at u;cases u
 have ai:(l++[am.q 11 g]).length=l.length+1:=V;have S:n<=dp:=by
  rcases w with e | ⟨Q,R⟩ | e
  ·omega
  ·rw[R];exact h.oc.resolve_left Q
  ·exact bP e D
 have C:∀ b,b<l.length->v=.af\/b≠I->l'[b]?=l[b]?:=fun b B T=>by
  rw[O b F T,aV B]
 refine⟨m,dp,l',J,⟨?_,?_,h.gZ,by rw[u];simp,h.ob,.inr S,?_⟩,F,fun b B=>?_⟩
 ·refine h.hB.c6 ?_;rcases h.hB.lt with e | e
  ·exact .inl e
  ·by_cases j:t=.af
   ·exact .inl j
   ·refine .inr (C _ e ?_);rcases h.ne with q | q | q
    ·exact bP q j
    ·exact .inl q
    ·exact .inr q
 ·rw[c5,df,mn,<-z];exact K
 ·by_cases j:t=.af
  ·exact .inl j
  ·refine .inr (.inr fun e=>?_);have Y:=h.hB.lt.resolve_left j;rcases w with q | ⟨q1,ak⟩ | q
   ·omega
   ·rcases h.ne with p | p | p
    ·exact j p
    ·exact q1 p
    ·exact p F
   ·exact D q
 ·refine C b F ?_;rcases h.oc with e | e
  ·exact .inl e
  ·exact .inr F
theorem sr {z:Nat} {l:ae} {v:U} {j:Nat} {es:List (ag)} (h:aM z l v j es) :v.cells=some [v]:=by cases h<;>rfl
theorem hw (s:bV) :(ai s).cells=some [ai s]:=by cases s<;>rfl
theorem pd (s:bL aG) :(bF s).cells=some [bF s]:=by cases s<;>rfl
theorem lW {alZ:Type} {a b c:alZ} {j:Nat} (h:[a,b][j]?=some c) :(j=0/\c=a)\/(j=1/\c=b):=by
 match j,h with
 | 0,h=>left;simpa using h.symm
 | 1,h=>right;simpa using h.symm
 | j+2,h=>simp at h
theorem oq {alZ:Type} {a c:alZ} {j:Nat} (h:[a][j]?=some c) :j=0/\c=a:=by
 match j,h with
 | 0,h=>simpa using h.symm
 | j+1,h=>simp at h
theorem gj.call {l:ae} {u m:U} {B t n:Nat} {idsZ:aO} {opsZ:List aG} (h:gj l u m B t n idsZ opsZ) {f:cf} {K:cA}
  (z:∀ j,j.length=l.length->(∀ b,b<n->j[b]?=l[b]?)->cJ f [.ah [ai (cL idsZ),bF (cL opsZ)]] j K) :cJ f [.ah [u,m]] l K:=by
 obtain⟨C,I,G,O,f1⟩:=wX (cL idsZ) h.hB (by rw[oR];exact h.gZ) (dr _);have D:aM 11 C m t (opsZ.map au):=by
  refine h.iw.c6 ?_;by_cases p:m=.af
  ·exact .inl p
  ·refine .inr (f1 _ ?_);rcases h.ne with q | q | q
   ·exact .inl q
   ·exact bP q p
   ·exact .inr fun e=>q e.symm
 obtain⟨j,J,H,P,f2⟩:=wX (cL opsZ) D (by rw[oR];exact h.qR) (dr _);refine pb checked.mixed ev (args2:=[.ah [ai (cL idsZ),m]]) I F rfl (fun o c w h1 g=>?_) (pb checked.mixed ev (args2:=[.ah [ai (cL idsZ),bF (cL opsZ)]]) J F rfl (fun o c w h1 g=>?_) (z j F fun b Q=>?_))
 ·obtain⟨rfl,rfl⟩:=oq h1;obtain⟨_,rfl⟩:=oq g;refine .ah _ _ rfl fun o c v h1 g=>?_
  rcases lW h1 with ⟨rfl,rfl⟩ | ⟨rfl,rfl⟩
  ·rcases lW g with ⟨_,rfl⟩ | ⟨h,_⟩
   ·exact G
   ·omega
  ·rcases lW g with ⟨h,_⟩ | ⟨_,rfl⟩
   ·omega
   ·exact .same _
 ·obtain⟨rfl,rfl⟩:=oq h1;obtain⟨_,rfl⟩:=oq g;refine .ah _ _ rfl fun o c v h1 g=>?_
  rcases lW h1 with ⟨rfl,rfl⟩ | ⟨rfl,rfl⟩
  ·rcases lW g with ⟨_,rfl⟩ | ⟨h,_⟩
   ·exact .same _
   ·omega
  ·rcases lW g with ⟨h,_⟩ | ⟨_,rfl⟩
   ·omega
   ·exact H
 ·rw[f2 b ?_,f1 b ?_]
  ·rcases h.ob with e | e
   ·exact .inl e
   ·exact .inr F
  ·rcases h.oc with e | e
   ·exact .inl e
   ·exact .inr F
def hf (g:aU) :List (List B × aG):=g.idsZ.l.zip g.opsZ.l
def jz (g:aU) (L:aO) (k:Nat) :List (List B × aG):=((hf g).take k).filter fun h=>decide (h.1∈L)
def bG (l:List (List B × aG)) :aU:=⟨cL (l.map (·.1)),cL (l.map (·.2))⟩
def hD (g:aU) (L:aO) :aU:=di (bG (jz g L (hf g).length))
theorem Vj {g:aU} {L:aO} {k:Nat} {x:List B} {o:aG} (p:g.idsZ.l[k]?=some x) (j:g.opsZ.l[k]?=some o) :jz g L (k+1)=jz g L k++if x∈L then [(x,o)] else []:=by
 have m:(hf g)[k]?=some (x,o):=by unfold hf;rw[tc];exact⟨p,j⟩
 unfold jz;rw[eU,m,lF];by_cases h:x∈L<;>simp[h]
theorem Kd {g:aU} {L:aO} {k:Nat}:(jz g L k).length<=k:=dL (ie _ _) (by rw[cO];omega)
theorem zE {g:aU} {p:List B × aG} (h:p∈hf g) :p.1∈g.idsZ.l/\p.2∈g.opsZ.l:=by obtain⟨k,hk⟩:=cj.1 h;unfold hf at hk;rw[tc] at hk;exact⟨cE hk.1,cE hk.2⟩
theorem Ck {l:List (List B × aG)} (h1:∀ p∈l,p.1.length=32) (o:∀ p∈l,dz p.2) (m:l.length<=1000000) :ff (bG l):=by
 refine⟨fun x j=>?_,fun q g=>?_,?_,?_⟩
 ·unfold bG at j;simp only[dr] at j;obtain⟨p,h,rfl⟩:=cy.1 j;exact h1 p h
 ·unfold bG at g;simp only[dr] at g;obtain⟨p,h,rfl⟩:=cy.1 g;exact o p h
 ·unfold bG;simp only[dr];rw[cx];exact m
 ·unfold bG;simp only[dr];rw[cx];exact m
structure N9 (g:aU) (L:bV) (k:Nat) (sgZ:aR) (l:ae) :Prop where
 fp:sgZ 1=ai L
 iI:sgZ 2=.ptr 0 0 2
 kz:sgZ 4=.ptr 1 0 2
 kA:sgZ 5=.ptr 2 0 2
 nw:sgZ 6=.i6 k
 ex:∃ gT h j m rest,l=.q 2 [ai g.idsZ,bF g.opsZ] ::.q 2 [.af,.af] ::.q 2 [gT,h] ::rest/\gj l gT h j m 3 ((jz g L.l k).map (·.1)) ((jz g L.l k).map (·.2))
theorem VR (g:aU) (G:ff g) (bk:g.idsZ.l.length=g.opsZ.l.length) (L:bV) (aQ:cT L) (aR:L.l.length<=1000000) (bl:g.idsZ.l.length<=100000) :aY 191 [cH g,ai L] (cH (hD g L.l)):=by
 apply bc func191 [];have bi:=bU g.idsZ;have bj:=i7 g.opsZ;have aV:=bU L;have aG:bx (.ad 32) (ai g.idsZ)=_:=cd _;simp[cH,bf];refine bz g.idsZ.l.length (N9 g L) ?_ ⟨V,V,V,V,V,.af,.af,0,0,[],rfl,by simpa [jz] using Da _ 3⟩;rintro k bd l hk ⟨ap,ay,az,aA,aB,bg,Y,a7,aN,rest,rfl,J⟩;obtain⟨bd,rfl⟩:=gx ap ay az aA aB;clear ap ay az aA aB;have am:=cq (k:=k) F;have bo:=Kd (g:=g) (L:=L.l) (k:=k);by_cases u:k<g.idsZ.l.length
 ·obtain⟨x,aJ,a6⟩:=aP u;obtain⟨S,aH,bm⟩:=aP (l:=g.opsZ.l) (k:=k) F;have aK:=G.idsZ x a6;have m:=bu aK;have aM:=c4 x;have K:(au S).length=11:=rfl;have H:bO (.ad 32) (ai g.idsZ) _=_:=dg aJ;have aF:bO (.ad 11) (bF g.opsZ) _=_:=dg aH;have C:=q3 L aQ aR x aK;have w:=Vj (L:=L.l) aJ aH;have I:=ny x L.l 0;obtain⟨uc,aX⟩:=ao (dT x L.l 0);obtain⟨X,aD⟩:=ao (ar x);obtain⟨O,aC⟩:=ao (au S);rw[<-aX] at C I;rw[<-aD] at C m aM H;rw[<-aC] at aF K;have aE:X.take 32=X:=aL F;have aS:O.take 11=O:=aL F;have a5:ax (bT 32 (.int .u8 0)) 0 X=X:=cI (by rw[m];rfl);have bp:ax [U.int .u32 0,.af,.int .u64 0,.int .u8 0,.str [],.int .u8 0,.i6 0,.int .u64 0,.str [],.int .u32 0,.int .u32 0] 0 O=O:=cI (by rw[K];rfl);simp[aG,u,H,m,aE];refine av C (by simp[aq,U.aw,aV,aM]) ?_;by_cases v:x∈L.l
  ·have B:0<=uc:=I.2 v;rw[aj v] at w;obtain⟨o,R,br,ae,ag,bh,z⟩:=J.idsZ aD m V (by rw[cx];omega);obtain⟨bb,rfl⟩:=p0 (z 0 F) (z 1 F) (z 2 F);simp at ae;have a0:gj (.q 2 [ai g.idsZ,bF g.opsZ] ::.q 2 [.af,.af] ::.q 2 [o,Y] ::bb) o Y R aN 3 ((jz g L.l k).map (·.1)++[x]) ((jz g L.l k).map (·.2)):=ag.frame fun b D _=>by
    match b,D with
    | b+3,_=>rfl
   obtain⟨Z,aO,a8,p,t,al,j⟩:=a0.opsZ aC V (by rw[cx];omega);obtain⟨W,rfl⟩:=p0 (j 0 F) (j 1 F) (j 2 F);simp at p;have a2:gj (.q 2 [ai g.idsZ,bF g.opsZ] ::.q 2 [.af,.af] ::.q 2 [o,Z] ::W) o Z R aO 3 ((jz g L.l k).map (·.1)++[x]) ((jz g L.l k).map (·.2)++[S]):=t.frame fun b D _=>by
    match b,D with
    | b+3,_=>rfl
   simp[B,H,m,aE,a5,ae];refine b2.bq ?_;simp[sr ag.hB,ax,aF,K,aS,p];refine b2.bq ?_;simp[sr t.iw,ax,am];exact⟨u,V,V,V,V,V,o,Z,R,aO,W,rfl,by rw[w,c5,c5];exact a2⟩
  ·have B:¬ 0<=uc:=fun h=>v (I.1 h)
   rw[ak v,eT] at w;simp[B,am];exact⟨u,V,V,V,V,V,bg,Y,a7,aN,rest,rfl,by rw[w];exact J⟩
 ·have aZ:k=g.idsZ.l.length:=F;subst aZ;have a3:(hf g).length=g.idsZ.l.length:=by unfold hf;rw[List.length_zip];omega
  have aW:ff (bG (jz g L.l g.idsZ.l.length)):=Ck (fun a9 P=>G.idsZ _ (zE (gh (dy.1 P).1)).1) (fun a9 P=>G.opsZ _ (zE (gh (dy.1 P).1)).2) F;have Q:=KC _ aW;have a4:hD g L.l=di (bG (jz g L.l g.idsZ.l.length)):=by unfold hD;rw[a3]
  rw[<-a4] at Q;have bs:=hw (hD g L.l).idsZ;have bt:(bF (hD g L.l).opsZ).cells=some [bF (hD g L.l).opsZ]:=by cases (hD g L.l).opsZ<;>rfl
  have p:=bU (hD g L.l).idsZ;have t:=i7 (hD g L.l).opsZ;have al:=bU (cL ((jz g L.l g.idsZ.l.length).map (·.1)));have j:=i7 (cL ((jz g L.l g.idsZ.l.length).map (·.2)));unfold cH bf at Q;simp[aG];refine J.call fun a8 q1 T=>?_
  obtain⟨W,rfl⟩:=p0 (T 0 F) (T 1 F) (T 2 F);refine av Q (by simp[aq,U.aw,al,j]) ?_;simp[ax];exact aT rfl (show (U.ah [ai (hD g L.l).idsZ,bF (hD g L.l).opsZ]).aw=true by simp[U.aw,aq,p,t])
def iv (g:aU) :Nat->aO
 | 0=>[]
 | k+1=>iv g k++(hU g.opsZ.l k).ay.l
theorem C5 {g:aU} {x:List B}:∀ {k:Nat},x∈iv g k<->∃ j,j<k/\x∈(hU g.opsZ.l j).ay.l
 | 0=>⟨fun h=>(by cases h),fun ⟨j,o,_⟩=>F⟩
 | k+1=>by
  show x∈iv g k++_<->_;rw[fm,C5];constructor
  ·rintro (⟨j,h1,m⟩ | h)
   ·exact⟨j,F,m⟩
   ·exact⟨k,F,h⟩
  ·rintro⟨j,h1,m⟩;by_cases e:j=k
   ·subst e;exact .inr m
   ·exact .inl ⟨j,F,m⟩
theorem Kc {g:aU} (h:vr g) {k:Nat} {o:aG} (j:g.opsZ.l[k]?=some o) :o.ay.l.length<=4:=by obtain⟨x,m,_⟩:=aP (l:=g.idsZ.l) (k:=k) (by rw[h.len];exact (aK.1 j).1);exact pM (u1 (h.HZ k o x j m).1)
theorem C4 {g:aU} (h:vr g) :∀ {k:Nat},k<=g.opsZ.l.length->(iv g k).length<=4*k
 | 0,_=>by simp[iv]
 | k+1,hk=>by
  obtain⟨o,j,_⟩:=aP (l:=g.opsZ.l) (k:=k) F;have:=C4 h (k:=k) F;have m:=Kc h j;show (iv g k++(hU g.opsZ.l k).ay.l).length<=_;rw[cr,jy j];omega
theorem TY {g:aU} (j:ff g) {k:Nat} (hk:k<=g.opsZ.l.length) :cT (cL (iv g k)):=fun x h=>by
 rw[dr,C5] at h;obtain⟨p,t,h⟩:=h;obtain⟨q,m,o⟩:=aP (l:=g.opsZ.l) (k:=p) F;rw[jy m] at h;exact (j.opsZ q o).idsZ x h
structure Oo (g:aU) (k:Nat) (sgZ:aR) (l:ae) :Prop where
 fp:sgZ 1=.ptr 0 0 2
 kz:sgZ 4=.af
 kA:sgZ 5=.i6 k
 ex:∃ v j rest,l=.q 2 [ai g.idsZ,bF g.opsZ] ::rest/\sgZ 3=v/\aM 32 l v j ((iv g k).map ar)/\(v=.af\/1<=j)/\bt v=(iv g k).isEmpty
structure Oq (g:aU) (w:U) (h:Nat) (k:Nat) (sgZ:aR) (l:ae) :Prop where
 fp:sgZ 1=.ptr 0 0 2
 jq:sgZ 3=w
 nw:sgZ 6=.i6 k
 ex:∃ v j rest,l=.q 2 [ai g.idsZ,bF g.opsZ] ::rest/\sgZ 4=v/\aM 32 l v j (((g.idsZ.l.take k).filter (il g)).map ar)/\(v=.af\/1<=j)/\bt v=((g.idsZ.l.take k).filter (il g)).isEmpty/\aM 32 l w h ((iv g g.opsZ.l.length).map ar)/\(v=.af\/w=.af\/j≠h)
theorem V7 (g:aU) (Z:ff g) (a6:e2 g=0) :aY 190 [cH g] (ai (cL (eX g))):=by
 apply bc func190 [];have aX:=dF;have B:=lo a6;have bs:=B.n60;have bv:=B.len;have aR:bx (.ad 11) (bF g.opsZ)=_:=cd _;have aQ:bx (.ad 32) (ai g.idsZ)=_:=cd _;simp[cH,bf];refine bz g.opsZ.l.length (Oo g) ?_ ⟨V,V,V,.af,0,[],rfl,V,.nil 0,.inl rfl,rfl⟩;rintro k aB l hk ⟨C,G,aG,aC,z,rest,rfl,D,aW,I,aS⟩;obtain⟨aB,rfl⟩:=fc C D G aG;clear C D G aG;have o:=cq (k:=k) F;by_cases j:k<g.opsZ.l.length
 ·obtain⟨m,aq,bd⟩:=aP j;have bg:=Z.opsZ m bd;have t:bO (.ad 11) (bF g.opsZ) _=_:=dg aq;have aT:(au m).length=11:=rfl;have aK:∀ h,(au m)[1]'h=ai m.ay:=fun _=>rfl
  have bb:=C4 B hk;have bp:=Kc B aq;have K:iv g (k+1)=iv g k++m.ay.l:=by show iv g k++(hU g.opsZ.l k).ay.l=_;rw[jy aq]
  obtain⟨O,az,oL,P,W,aE,Q⟩:=rN (by_:=32) (pre:=[.q 2 [ai g.idsZ,bF g.opsZ]]) (rest:=rest) aW I (x:=ai m.ay) (xs:=m.ay.l.map ar)
   (by simp[ai]) (fun e a8=>by obtain⟨y,bk,rfl⟩:=cy.1 a8;exact bu (bg.idsZ y bk)) F F (by rw[aX];simp;omega)
  simp only[jK,iD] at P;obtain⟨bo,aJ⟩:=ao (au m);rw[<-aJ] at t aT;simp only[<-aJ] at aK;simp[aR,j,t,aT,aK,P];refine b2.bq ?_;simp[o];refine⟨j,V,V,V,O,az,oL,rfl,V,?_,by simpa using aE,?_⟩
  ·rw[K,c5];exact W
  ·rw[Q,aS,K];cases iv g k<;>cases m.ay.l<;>simp
 ·have ag:k=g.opsZ.l.length:=F;subst ag;clear hk j o;simp[aR];refine bz g.idsZ.l.length (Oq g aC z) ?_ ⟨V,V,V,.af,0,rest,rfl,V,.nil 0,.inl rfl,rfl,aW,.inl rfl⟩;rintro k aB l hk ⟨C,D,aH,bm,bl,a3,rfl,G,T,ae,ap,J,ak⟩;obtain⟨aB,rfl⟩:=fc C D G aH;clear C D G aH;have o:=cq (k:=k) F;by_cases j:k<g.idsZ.l.length
  ·obtain⟨x,v,bj⟩:=aP j;have a0:=Z.idsZ x bj;have w:=bu a0;have a2:=c4 x;have t:bO (.ad 32) (ai g.idsZ) _=_:=dg v;have bb:=C4 B (aI g.opsZ.l.length);have R:=q3 (cL (iv g g.opsZ.l.length)) (TY Z (aI _)) (by rw[dr];omega) x a0;rw[dr] at R;have bh:=J.q.l8 c4 (cL (iv g g.opsZ.l.length)) (by rw[oR];exact aS) (dr _);have al:=ny x (iv g g.opsZ.l.length) 0;have K:g.idsZ.l.take (k+1)=g.idsZ.l.take k++[x]:=by rw[eU,v];rfl
   have aO:il g x=true<->x∉iv g g.opsZ.l.length:=by
    unfold il lU;rw[bC,C5];exact⟨fun h ⟨z,I,v⟩=>h z I v,fun h z I v=>h ⟨z,I,v⟩⟩
   obtain⟨uc,a9⟩:=ao (dT x (iv g g.opsZ.l.length) 0);obtain⟨X,aM⟩:=ao (ar x);rw[<-a9] at R al;rw[<-aM] at R t w a2;have aN:X.take 32=X:=aL F;have bi:ax (bT 32 (.int .u8 0)) 0 X=X:=cI (by rw[w];rfl);simp[aQ,j,t,w,aN];refine hg R (.cons bh (.cons (.same _ (by simp[U.aw,a2])) .nil)) rfl ?_;by_cases S:x∈iv g g.opsZ.l.length
   ·have aj:¬ uc<0:=by have:=al.2 S;omega
    have Y:il g x=false:=by
     cases h:il g x with
     | false=>rfl
     | true=>exact bP S (aO.1 h)
    have H:(g.idsZ.l.take (k+1)).filter (il g)=(g.idsZ.l.take k).filter (il g):=by rw[K,lF];simp[Y]
    simp[aj,o];exact⟨j,V,V,V,bm,bl,a3,rfl,V,by rw[H];exact T,ae,by rw[H];exact ap,J,ak⟩
   ·have aj:uc<0:=by
     have:¬ 0<=uc:=fun h=>S (al.1 h)
     omega
    have Y:=aO.2 S;have H:(g.idsZ.l.take (k+1)).filter (il g)=(g.idsZ.l.take k).filter (il g)++[x]:=by rw[K,lF];simp[Y]
    have br:((g.idsZ.l.take k).filter (il g)).length<=1000000:=dL (ie _ _) (by rw[cO];omega);obtain⟨O,az,aA,P,W,aE,Q,aF,a4⟩:=iG (by_:=32) (x:=.ad 32 (a3.length+1) 0 1 1 32) (xs:=[X]) (T.more [am.q 32 X]) (by simp[cG,w,aL]) (by simp[w]) F F (by rw[aX];simp;omega);have av:bt O=false:=by rw[a4];simp
    have aZ:O≠.af:=fun e=>by rw[e] at av;cases av
    have f0:aA[0]?=some (.q 2 [ai g.idsZ,bF g.opsZ]):=by
     rw[Q 0 V (by rcases ae with e | e;exact .inl e;exact .inr F)];rfl
    obtain⟨oL,rfl⟩:∃ oL,aA=.q 2 [ai g.idsZ,bF g.opsZ] ::oL:=by
     cases aA with
     | nil=>simp at f0
     | cons c r=>simp at f0;subst f0;exact⟨r,rfl⟩
    have aD:=P;simp at aD;simp[aj,t,w,aN,bi,aD];refine b2.bq ?_;simp[o];refine⟨j,V,V,V,O,az,oL,rfl,V,?_,?_,by rw[H,av];simp,?_,?_⟩
    ·rw[H,c5,df,mn,<-aM];exact W
    ·right;rcases aF with e | ⟨o,a5⟩ | e
     ·simp at e;omega
     ·rw[a5];exact ae.resolve_left o
     ·exact bP e aZ
    ·refine J.c6 ?_;rcases J.lt with e | e
     ·exact .inl e
     ·by_cases u:aC=.af
      ·exact .inl u
      ·right;rw[Q z (by simp at e ⊢;omega) (by rcases ak with q | q | q;exact .inl q;exact bP q u;exact .inr fun e=>q e.symm)];exact aV e
    ·by_cases u:aC=.af
     ·exact .inr (.inl u)
     ·refine .inr (.inr fun e=>?_);have a7:=J.lt.resolve_left u;rcases aF with q | ⟨q1,bw⟩ | q
      ·simp at q a7;omega
      ·rcases ak with p | p | p
       ·exact q1 p
       ·exact u p
       ·exact p F
      ·exact aZ q
  ·have ag:k=g.idsZ.l.length:=F;rw[ag,fC] at T ap;simp[aQ,j];exact T.q.jA c4 (cL (eX g)) (by rw[ap,oR];rfl) (dr _)
theorem gj.Ic {l:ae} {m o:U} {C H n:Nat} {idsZ:aO} {opsZ:List aG} (h:gj l m o C H n idsZ opsZ) {X:ag} {x:List B} (P:X=ar x) (G:X.length=32) {c:Nat} (Q:l[c]?=some (.q 32 X)) (W:n<=l.length) (V:idsZ.length<=1000000) :
  ∃ j dp l',eE l 32 32 m (.ad 32 c 0 1 1 32)=some (j,l')/\gj l' j o dp H n (idsZ++[x]) opsZ/\l.length<=l'.length/\(∀ b,b<l.length->m=.af\/b≠C->l'[b]?=l[b]?)/\(l.length<=dp\/(m≠.af/\dp=C)):=by
 have S:=dF;obtain⟨j,dp,l',I,J,K,D,t,O⟩:=iG (by_:=32) (x:=.ad 32 c 0 1 1 32) (xs:=[X]) h.hB (by simp[cG,Q,G,aL]) (by simp[G]) F F (by rw[S];simp;omega);have w:bt j=false:=by rw[O];simp
 have z:j≠.af:=fun e=>by rw[e] at w;cases w
 have R:n<=dp:=by
  rcases t with e | ⟨u,v⟩ | e
  ·omega
  ·rw[v];exact h.ob.resolve_left u
  ·exact bP e z
 refine⟨j,dp,l',I,⟨?_,?_,by rw[w];simp,h.qR,.inr R,h.oc,?_⟩,K,D,?_⟩
 ·rw[c5,df,mn,<-P];exact J
 ·refine h.iw.c6 ?_;rcases h.iw.lt with e | e
  ·exact .inl e
  ·by_cases g:o=.af
   ·exact .inl g
   ·refine .inr (D _ e ?_);rcases h.ne with q | q | q
    ·exact .inl q
    ·exact bP q g
    ·exact .inr fun e=>q e.symm
 ·by_cases g:o=.af
  ·exact .inr (.inl g)
  ·refine .inr (.inr fun e=>?_);have T:=h.iw.lt.resolve_left g;rcases t with q | ⟨q1,Y⟩ | q
   ·omega
   ·rcases h.ne with p | p | p
    ·exact q1 p
    ·exact g p
    ·exact p F
   ·exact z q
 ·rcases t with e | ⟨u,v⟩ | e
  ·exact .inl e
  ·exact .inr ⟨u,v⟩
  ·exact bP e z
theorem gj.JH {l:ae} {t v:U} {G H n:Nat} {idsZ:aO} {opsZ:List aG} (h:gj l t v G H n idsZ opsZ) {m:ag} {o:aG} (B:m=au o) {c:Nat} (R:l[c]?=some (.q 11 m)) (X:n<=l.length) (W:opsZ.length<=1000000) :
  ∃ j dp l',eE l 11 112 v (.ad 11 c 0 1 1 11)=some (j,l')/\gj l' t j G dp n idsZ (opsZ++[o])/\l.length<=l'.length/\(∀ b,b<l.length->v=.af\/b≠H->l'[b]?=l[b]?):=by
 have T:=dF;have D:m.length=11:=by rw[B];rfl
 obtain⟨j,dp,l',I,J,K,w,z,O⟩:=iG (by_:=112) (x:=.ad 11 c 0 1 1 11) (xs:=[m]) h.iw (by simp[cG,R,D,aL]) (by simp[D]) F F (by rw[T];simp;omega);have u:bt j=false:=by rw[O];simp
 have C:j≠.af:=fun e=>by rw[e] at u;cases u
 have S:n<=dp:=by
  rcases z with e | ⟨P,Q⟩ | e
  ·omega
  ·rw[Q];exact h.oc.resolve_left P
  ·exact bP e C
 refine⟨j,dp,l',I,⟨?_,?_,h.gZ,by rw[u];simp,h.ob,.inr S,?_⟩,K,w⟩
 ·refine h.hB.c6 ?_;rcases h.hB.lt with e | e
  ·exact .inl e
  ·by_cases g:t=.af
   ·exact .inl g
   ·refine .inr (w _ e ?_);rcases h.ne with q | q | q
    ·exact bP q g
    ·exact .inl q
    ·exact .inr q
 ·rw[c5,df,mn,<-B];exact J
 ·by_cases g:t=.af
  ·exact .inl g
  ·refine .inr (.inr fun e=>?_);have V:=h.hB.lt.resolve_left g;rcases z with q | ⟨q1,Y⟩ | q
   ·omega
   ·rcases h.ne with p | p | p
    ·exact g p
    ·exact q1 p
    ·exact p F
   ·exact C q
structure ck where
 al:bL aU
 cb:bV
 b6:Int
def e9 (s:bL aU) :U:=b4 2 bf s
def bQ (s:ck) :ag:=[e9 s.al,ai s.cb,.i6 s.b6]
structure g9 (s:ck) :Prop where
 al:∀ g∈s.al.l,ff g/\g.idsZ.l.length<=100/\g.opsZ.l.length<=100
 ln:s.al.l.length<=10
 cb:cT s.cb
 pI:s.cb.l.length<=1000000
theorem np (s:bL aU) :(e9 s).aw=true:=lQ pi s
theorem pj (s:ck) :aq (bQ s)=true:=by simp[bQ,aq,U.aw,np,bU]
def iH (p:aU) (x:List B) :Option aG:=if 0<=dT x p.idsZ.l 0/\dT x p.idsZ.l 0<(p.opsZ.l.length:Int) then p.opsZ.l[(dT x p.idsZ.l 0).toNat]? else none
def ds (l:List aU) (k:Nat) :aU:=l.getD k ⟨none,none⟩
theorem dt {l:List aU} {k:Nat} {g:aU} (h:l[k]?=some g) :ds l k=g:=by unfold ds;rw[gA,h];rfl
def gy (ps:List aU) (x:List B) :Nat->List (List B × aG)
 | 0=>[]
 | k+1=>gy ps x k++match iH (ds ps k) x with | some g=>[(x,g)] | none=>[]
def hF (ps:List aU) (idsZ:aO) :Nat->List (List B × aG)
 | 0=>[]
 | i+1=>hF ps idsZ i++gy ps (bo idsZ i) ps.length
def hb (ps:List aU) :Nat->aO
 | 0=>[]
 | k+1=>hb ps k++(ds ps k).idsZ.l
def fz (s:ck) :aO:=uS (hb s.al.l s.al.l.length)
def bD (s:ck) :List (List B × aG):=hF s.al.l (fz s) (fz s).length
def cY (s:ck) :aU:=di (bG (bD s))
theorem Bl {ps:List aU} {x:List B}:∀ {k:Nat},k<=ps.length->(x∈hb ps k<->∃ j p,j<k/\ps[j]?=some p/\x∈p.idsZ.l)
 | 0,_=>⟨fun h=>(by cases h),fun ⟨j,p,t,_⟩=>F⟩
 | k+1,hk=>by
  obtain⟨p,m,_⟩:=aP (l:=ps) (k:=k) F;show x∈hb ps k++(ds ps k).idsZ.l<->_;rw[fm,Bl F,dt m];constructor
  ·rintro (⟨j,q,h1,g⟩ | h)
   ·exact⟨j,q,F,g⟩
   ·exact⟨k,p,F,m,h⟩
  ·rintro⟨j,q,h1,g,o⟩;by_cases e:j=k
   ·subst e;rw[m] at g;obtain rfl:=cg g;exact .inr o
   ·exact .inl ⟨j,q,F,g,o⟩
theorem x8 {s:ck} (h:g9 s) :∀ {k:Nat},k<=s.al.l.length->(hb s.al.l k).length<=100*k
 | 0,_=>by simp[hb]
 | k+1,hk=>by
  obtain⟨m,g,j⟩:=aP (l:=s.al.l) (k:=k) F;have:=x8 h (k:=k) F;have o:=(h.al m j).2.1;show (hb s.al.l k++(ds s.al.l k).idsZ.l).length<=_;rw[cr,dt g];omega
theorem FT {s:ck} (h:g9 s) {k:Nat} (hk:k<=s.al.l.length) :cT (cL (hb s.al.l k)):=fun x g=>by
 rw[dr,Bl hk] at g;obtain⟨o,m,_,j,g⟩:=g;exact (h.al m (cE j)).1.idsZ x g
theorem MY {s:ck} (h:g9 s) :(fz s).length<=1000:=by unfold fz uS;have h1:=Es (l:=hb s.al.l s.al.l.length) (k:=(hb s.al.l s.al.l.length).length);have g:=x8 h (aI s.al.l.length);have j:=h.ln;omega
theorem MZ {s:ck} (h:g9 s) :cT (cL (fz s)):=fun x g=>by
 rw[dr] at g;unfold fz at g;rw[LQ] at g;exact FT h (aI _) x (by rw[dr];exact g)
theorem OP {p:aU} {x:List B} {o:aG} (h:iH p x=some o) :o∈p.opsZ.l:=by
 unfold iH at h;split at h
 ·exact cE h
 ·cases h
theorem Ay {ps:List aU} {x:List B} {q:List B × aG}:∀ {k:Nat},k<=ps.length->(q∈gy ps x k<->∃ j p,j<k/\ps[j]?=some p/\iH p x=some q.2/\q.1=x)
 | 0,_=>⟨fun h=>(by cases h),fun ⟨j,p,w,_⟩=>F⟩
 | k+1,hk=>by
  obtain⟨p,o,_⟩:=aP (l:=ps) (k:=k) F;show q∈gy ps x k++(match iH (ds ps k) x with | some v=>[(x,v)] | none=>[])<->_;rw[fm,Ay F,dt o];constructor
  ·rintro (⟨j,r,h1,g⟩ | h)
   ·exact⟨j,r,F,g⟩
   ·cases m:iH p x with
    | none=>rw[m] at h;cases h
    | some v=>
     rw[m] at h;rw[fB.1 h];exact⟨k,p,F,o,m,rfl⟩
  ·rintro⟨j,r,h1,g,t,u⟩;by_cases e:j=k
   ·subst e;rw[o] at g;obtain rfl:=cg g;right;rw[t];simp[<-u]
   ·exact .inl ⟨j,r,F,g,t,u⟩
theorem Ax {ps:List aU} {idsZ:aO} {q:List B × aG}:∀ {i:Nat},i<=idsZ.length->(q∈hF ps idsZ i<->∃ a,a<i/\idsZ[a]?=some q.1/\∃ p∈ps,iH p q.1=some q.2)
 | 0,_=>⟨fun h=>(by cases h),fun ⟨u,o,_⟩=>F⟩
 | i+1,w=>by
  obtain⟨x,t,_⟩:=aP (l:=idsZ) (k:=i) F;show q∈hF ps idsZ i++gy ps (bo idsZ i) ps.length<->_;rw[fm,Ax F,dG t,Ay (aI _)];constructor
  ·rintro (⟨a,h1,g⟩ | ⟨u,p,h1,g,m,j⟩)
   ·exact⟨a,F,g⟩
   ·exact⟨i,F,by rw[j];exact t,p,cE g,by rw[j];exact m⟩
  ·rintro⟨a,h1,g,p,m,j⟩;by_cases e:a=i
   ·subst e;rw[t] at g;have v:=cg g;obtain⟨u,o⟩:=cj.1 m;exact .inr ⟨u,p,(aK.1 o).1,o,by rw[v];exact j,v.symm⟩
   ·exact .inl ⟨a,F,g,p,m,j⟩
theorem M4 {ps:List aU} {x:List B}:∀ {k:Nat},(gy ps x k).length<=k
 | 0=>by simp[gy]
 | k+1=>by
  have:=M4 (ps:=ps) (x:=x) (k:=k);show (gy ps x k++(match iH (ds ps k) x with | some g=>[(x,g)] | none=>[])).length<=_;rw[cr];split<;>simp<;>omega
theorem M2 {ps:List aU} {idsZ:aO}:∀ {i:Nat},(hF ps idsZ i).length<=ps.length*i
 | 0=>by simp[hF]
 | i+1=>by
  have h1:=M2 (ps:=ps) (idsZ:=idsZ) (i:=i);have g:=M4 (ps:=ps) (x:=bo idsZ i) (k:=ps.length);show (hF ps idsZ i++gy ps (bo idsZ i) ps.length).length<=_;rw[cr,Nat.mul_succ];omega
theorem Zp {s:ck} (h:g9 s) :(bD s).length<=10000:=by have h1:=M2 (ps:=s.al.l) (idsZ:=fz s) (i:=(fz s).length);have g:=MY h;have j:s.al.l.length*(fz s).length<=10*1000:=Nat.mul_le_mul h.ln g;unfold bD;omega
theorem xD {s:ck} (h:g9 s) :ff (bG (bD s)):=by
 have j:∀ q∈bD s,q.1.length=32/\dz q.2:=fun q g=>by
  obtain⟨a,h1,m,t,o,p⟩:=(Ax (aI _)).1 g;exact⟨MZ h q.1 (by rw[dr];exact cE m),(h.al t o).1.opsZ _ (OP p)⟩
 exact Ck (fun q g=>(j q g).1) (fun q g=>(j q g).2) (by have:=Zp h;omega)
theorem pD (s:bL aU) :bx (.ad 2) (e9 s)=some (.i6 s.l.length):=by simp[e9]
theorem mG {s:bL aU} {k:Nat} {g:aU} (h:s.l[k]?=some g) :bO (.ad 2) (e9 s) (.i6 (k:Int))=some (.b0 (bf g) 0):=by simp[e9,h]
theorem JO {alZ:Type} {z:Nat} {enc:alZ->ag} {l:ae} {v:U} {j:Nat} {xs:List alZ} (s:bL alZ) (h:aM z l v j (xs.map enc)) (q:bt v=s.isNone) (t:s.l=xs) {f:cf} {K:cA}
  (p:∀ g,g.length=l.length->(∀ b,v=.af\/b≠j->g[b]?=l[b]?)->cJ f [b4 z enc s] g K) :cJ f [v] l K:=by obtain⟨u,B,w,m,f1⟩:=wX s h q t;refine pb checked.mixed ev (args2:=[b4 z enc s]) B F rfl (fun j c C h1 o=>?_) (p u m f1);obtain⟨rfl,rfl⟩:=oq h1;obtain⟨_,rfl⟩:=oq o;exact w
structure Ou (s:ck) (k:Nat) (sgZ:aR) (l:ae) :Prop where
 fp:sgZ 1=.ptr 0 0 3
 iI:sgZ 2=.ptr 1 0 2
 kz:sgZ 4=.i6 k
 ex:∃ v j rest,l=.q 3 (bQ s) ::.q 2 [.af,.af] ::rest/\sgZ 3=v/\aM 32 l v j ((hb s.al.l k).map ar)/\(v=.af\/2<=j)/\bt v=(hb s.al.l k).isEmpty
structure FO (s:ck) (b:Nat) (i m:Nat) (out:List (List B × aG)) (sgZ:aR) (l:ae) :Prop where
 fp:sgZ 1=.ptr 0 0 3
 iI:sgZ 2=.ptr 1 0 2
 jq:sgZ 3=ai (cL (fz s))
 kA:sgZ 5=.ptr b 0 2
 nw:sgZ 6=.i6 i
 ls:l[0]?=some (.q 3 (bQ s))
 q1:l[1]?=some (.q 2 [.af,.af])
 ex:∃ gT g h j,l[b]?=some (.q 2 [gT,g])/\gj l gT g h j (b+1) (out.map (·.1)) (out.map (·.2))/\out.length<=m
theorem KF (s:ck) (u:g9 s) :aY 76 [.ah (bQ s)] (cH (cY s)):=by
 apply bc func76 [[],db 0 7++db 8 12++[[7,19,18,15,11,9],[21],[20]]];have cu:=dF;have aR:=pD s.al;have cV:=u.ln;have P:(bQ s).length=3:=rfl;have R:∀ h,(bQ s)[0]'h=e9 s.al:=fun _=>rfl
 simp[P];refine bz s.al.l.length (Ou s) ?_ ⟨V,V,V,.af,0,[],rfl,V,.nil 0,.inl rfl,rfl⟩;rintro k G l hk ⟨t,I,bm,c3,c1,rest,rfl,J,bg,aQ,bb⟩;obtain⟨G,rfl⟩:=fc t I J bm;clear t I J bm;have aJ:=cq (k:=k) F;by_cases m:k<s.al.l.length
 ·obtain⟨g,aA,aU⟩:=aP m;have aW:=(u.al g aU).1;have cX:=(u.al g aU).2.1;have az:=mG aA;have cc:=x8 u (km m);have v:hb s.al.l (k+1)=hb s.al.l k++g.idsZ.l:=by show hb s.al.l k++(ds s.al.l k).idsZ.l=_;rw[dt aA]
  have a0:∀ h,(bf g)[0]'h=ai g.idsZ:=fun _=>rfl
  have ap:(bf g).length=2:=rfl;obtain⟨cK,cB,cF,aD,aE,bj,aF⟩:=rN (by_:=32) (pre:=[.q 3 (bQ s),.q 2 [.af,.af]]) (rest:=rest) bg aQ (x:=ai g.idsZ) (xs:=g.idsZ.l.map ar)
   (by simp[ai]) (fun e cj=>by obtain⟨y,cA,rfl⟩:=cy.1 cj;exact bu (aW.idsZ y cA)) F F (by rw[cu];simp;omega)
  simp only[jK,iD] at aD;simp[P,R,aR,m,az,a0,ap,aD];refine b2.bq ?_;simp[aJ];refine⟨m,V,V,V,cK,cB,cF,rfl,V,?_,by simpa using bj,?_⟩
  ·rw[v,c5];exact aE
  ·rw[aF,bb,v];cases hb s.al.l k<;>cases g.idsZ.l<;>simp
 ·have a9:k=s.al.l.length:=F;subst a9;clear hk m aJ;have cc:=x8 u (aI s.al.l.length);have bh:=V4 (cL (hb s.al.l s.al.l.length)) (FT u (aI _)) (by rw[dr];omega);rw[dr] at bh;change ii _ _ _ _ (ai (cL (fz s))) at bh;have ch:=bU (cL (hb s.al.l s.al.l.length));have cU:=MY u;have cl:=MZ u;simp[P,R,aR];refine JO (cL (hb s.al.l s.al.l.length)) bg (by rw[oR];exact bb) (dr _) (fun w Y f2=>?_);have cD:w[0]?=some (.q 3 (bQ s)):=by rw[f2 0 (by rcases aQ with e | e;exact .inl e;exact .inr F)];rfl
  have cE:w[1]?=some (.q 2 [.af,.af]):=by rw[f2 1 (by rcases aQ with e | e;exact .inl e;exact .inr F)];rfl
  have aO:2<=w.length:=by rw[Y];simp
  clear f2 bg aQ bb;refine av bh (by simp[aq];exact ch) ?_;simp;obtain⟨b,a5⟩:=ao (w.length);have cR:2<=b:=F;have bE:bx (.ad 32) (ai (cL (fz s)))=some (.i6 (fz s).length):=by simp[ai,dr]
  refine bz (fz s).length (fun i G l=>FO s b i (10*i) (hF s.al.l (fz s) i) G l/\b<l.length) ?_ ⟨⟨V,V,V,by simp[a5],V,by rw[aV F];exact cD,by rw[aV F];exact cE,.af,.af,0,0,by rw[a5];simp,by simpa [hF] using Da _ _,by simp[hF]⟩,by simp[a5]⟩;rintro i G l cT ⟨⟨t,I,J,Z,ag,j,q1,p,H,jt,jY,D,o,bd⟩,K⟩;obtain⟨G,rfl⟩:=gx t I J Z ag;clear t I J Z ag;have aJ:=cq (k:=i) F;by_cases a7:i<(fz s).length
  ·obtain⟨x,bR,cz⟩:=aP a7;have bS:=cl x (by rw[dr];exact cz);have aB:=bu bS;have bV:=c4 x;have a8:bO (.ad 32) (ai (cL (fz s))) (.i6 (i:Int))=some (.b0 (ar x) 0):=by simp[ai,dr,bR]
   obtain⟨X,a3⟩:=ao (ar x);have cb:X=ar x:=a3;rw[<-a3] at aB bV a8;have bA:X.take 32=X:=aL F;have cw:ax (bT 32 (.int .u8 0)) 0 X=X:=cI (by rw[aB];rfl);simp[bE,a7];refine bz s.al.l.length (fun k G l=>(FO s b i (10*i+k) (hF s.al.l (fz s) i++gy s.al.l x k) G l/\G 7=.i6 k)/\b<l.length) ?_ ⟨⟨⟨V,V,V,V,V,j,q1,p,H,jt,jY,D,by simpa [gy] using o,by simpa [gy] using bd⟩,V⟩,K⟩;clear o bd D j q1 K;rintro k G l hk ⟨⟨⟨t,I,J,Z,ag,j,q1,p,H,jt,jY,D,o,bd⟩,bp⟩,K⟩;obtain⟨G,rfl⟩:=rj t I J Z ag bp;clear t I J Z ag bp;have Y:=cq (k:=k) F;by_cases m:k<s.al.l.length
   ·obtain⟨g,aA,aU⟩:=aP m;obtain⟨aW,cZ,c0⟩:=u.al g aU;have az:=mG aA;have a0:∀ h,(bf g)[0]'h=ai g.idsZ:=fun _=>rfl
    have bt:∀ h,(bf g)[1]'h=bF g.opsZ:=fun _=>rfl
    have ap:(bf g).length=2:=rfl;have ci:=bU g.idsZ;have bG:bx (.ad 11) (bF g.opsZ)=_:=cd _;have a4:=q3 g.idsZ aW.idsZ aW.li x bS;have v:gy s.al.l x (k+1)=gy s.al.l x k++match iH g x with | some C=>[(x,C)] | none=>[]:=by
     show gy s.al.l x k++(match iH (ds s.al.l k) x with | some C=>[(x,C)] | none=>[])=_;rw[dt aA]
    have aN:iH g x=if 0<=dT x g.idsZ.l 0/\dT x g.idsZ.l 0<(g.opsZ.l.length:Int) then g.opsZ.l[(dT x g.idsZ.l 0).toNat]? else none:=rfl
    obtain⟨Q,cm⟩:=ao (dT x g.idsZ.l 0);rw[<-cm] at a4 aN;rw[<-a3] at a4;have bZ:0<l.length:=a2 j;simp[j,P,R,aR,m,az,a0,ap,a8,aB,bA];refine av a4 (by simp[aq,U.aw,ci,bV]) ?_;by_cases S:0<=Q/\Q<(g.opsZ.l.length:Int)
    ·obtain⟨h1,aM⟩:=S;obtain⟨a,rfl⟩:=m8 h1;have b9:a<g.opsZ.l.length:=F;obtain⟨C,bK,cW⟩:=aP b9;rw[aj ⟨h1,aM⟩,fA,bK] at aN;rw[aN] at v;have bB:bO (.ad 11) (bF g.opsZ) _=_:=dg bK;have aS:(au C).length=11:=rfl;obtain⟨O,bv⟩:=ao (au C);rw[<-bv] at bB aS;have bw:O.take 11=O:=aL F;have cv:ax [U.int .u32 0,.af,.int .u64 0,.int .u8 0,.str [],.int .u8 0,.i6 0,.int .u64 0,.str [],.int .u32 0,.int .u32 0] 0 O=O:=cI (by rw[aS];rfl);have cQ:l.length<=1000000000000\/True:=.inr trivial;have cM:∀ z:ae,(l++z)[0]?=some (.q 3 (bQ s)):=fun z=>by rw[aV bZ];exact j
     have cO:∀ (z:ae) (h:0<(l++z).length),(l++z)[0]'h=.q 3 (bQ s):=fun z h=>(aK.1 (cM z)).2
     have cN:∀ z:ae,(l++z)[b]?=some (.q 2 [p,H]):=fun z=>by rw[aV K];exact D
     have ce:b+1<=(l++[am.q 32 X,.q 11 O]).length:=by simp;omega
     have cp:gj (l++[am.q 32 X,.q 11 O]) p H jt jY (b+1) ((hF s.al.l (fz s) i++gy s.al.l x k).map (·.1)) ((hF s.al.l (fz s) i++gy s.al.l x k).map (·.2)):=o.frame fun c _ ay=>aV ay
     have bL:(hF s.al.l (fz s) i++gy s.al.l x k).length<=1000000:=F;obtain⟨b6,bW,aC,aD,aE,bj,aF,cP⟩:=cp.Ic (c:=l.length) cb aB V ce (by rw[cx];exact bL);have cC:=o.hB.lt;have f:∀ c,c<l.length->p=.af\/c≠jt->aC[c]?=l[c]?:=fun c ay ct=>by rw[aF c (by simp;omega) ct,aV ay]
     have bl:aC[l.length+1]?=some (.q 11 O):=by
      rw[aF (l.length+1) V (by rcases cC with e | e;exact .inl e;exact .inr F)];simp
     have a6:p=.af\/b+1<=jt:=o.ob;have f0:aC[0]?=some (.q 3 (bQ s)):=by rw[f 0 bZ (by rcases a6 with e | e;exact .inl e;exact .inr F)];exact j
     have f1:aC[1]?=some (.q 2 [.af,.af]):=by rw[f 1 (a2 q1) (by rcases a6 with e | e;exact .inl e;exact .inr F)];exact q1
     have aZ:aC[b]?=some (.q 2 [p,H]):=by rw[f b K (by rcases a6 with e | e;exact .inl e;exact .inr F)];exact D
     have cf:=a2 aZ;obtain⟨b7,bX,w,aX,aH,bk,W⟩:=aE.JH (c:=l.length+1) bv bl F (by rw[cx];exact bL);have aO:H=.af\/b+1<=jY:=o.oc;have b8:w[0]?=some (.q 3 (bQ s)):=by rw[W 0 (a2 f0) (by rcases aO with e | e;exact .inl e;exact .inr F)];exact f0
     have t:w[1]?=some (.q 2 [.af,.af]):=by rw[W 1 (a2 f1) (by rcases aO with e | e;exact .inl e;exact .inr F)];exact f1
     have bs:w[b]?=some (.q 2 [p,H]):=by rw[W b cf (by rcases aO with e | e;exact .inl e;exact .inr F)];exact aZ
     have cg:=a2 bs;have gs:∀ y:am,(w.set b y)[b]?=some y:=fun y=>b1 cg
     simp[j,D,cO,cN,P,R,az,bt,ap,bG,h1,aM,a8,aB,bA,cw,bB,aS,bw,cv,aD];refine b2.bq ?_;have ca:(bf g)[1]?=some (bF g.opsZ):=rfl;simp[f0,aZ,bl,P,R,aX,aS,bw,ca];refine b2.bq ?_;have b3:=sr aE.hB;have b4:=sr aH.iw;simp[bs,gs,b3,b4,ax,Y];have bN:hF s.al.l (fz s) i++gy s.al.l x (k+1)=(hF s.al.l (fz s) i++gy s.al.l x k)++[(x,C)]:=by rw[v,gM]
     have cs:∀ y:am,gj (w.set b y) b6 b7 bW bX (b+1) ((hF s.al.l (fz s) i++gy s.al.l x (k+1)).map (·.1)) ((hF s.al.l (fz s) i++gy s.al.l x (k+1)).map (·.2)):=fun y=>by
      have bI:∀ T:List (List B × aG),(T++[(x,C)]).map (·.1)=T.map (·.1)++[x]/\(T++[(x,C)]).map (·.2)=T.map (·.2)++[C]:=fun T=>⟨by rw[c5];rfl,by rw[c5];rfl⟩
      rw[bN,(bI _).1,(bI _).2];exact aH.frame fun c ay _=>br (Nat.ne_of_lt ay)
     exact⟨m,⟨V,V,V,V,V,by rw[br F];exact b8,by rw[br F];exact t,b6,b7,bW,bX,gs _,cs _,by rw[bN,cr,xS];omega⟩,F⟩
    ·have cn:iH g x=none:=by rw[aN,ak S]
     rw[cn,eT] at v;have cS:(decide (0<=Q)&&decide (Q<(g.opsZ.l.length:Int)))=false:=by
      cases h:(decide (0<=Q)&&decide (Q<(g.opsZ.l.length:Int))) with
      | false=>rfl
      | true=>rw[bH,bC,bC] at h;exact bP h S
     by_cases h1:0<=Q
     ·have aM:¬ Q<(g.opsZ.l.length:Int):=fun h=>S ⟨h1,h⟩
      simp[j,P,R,az,bt,ap,bG,h1,aM,Y];exact⟨m,⟨V,V,V,V,V,j,q1,p,H,jt,jY,D,by rw[v];exact o,by rw[v];omega⟩,K⟩
     ·simp[h1,Y];exact⟨m,⟨V,V,V,V,V,j,q1,p,H,jt,jY,D,by rw[v];exact o,by rw[v];omega⟩,K⟩
   ·have a9:k=s.al.l.length:=F;subst a9;have bM:hF s.al.l (fz s) (i+1)=hF s.al.l (fz s) i++gy s.al.l x s.al.l.length:=by
     show hF s.al.l (fz s) i++gy s.al.l (bo (fz s) i) s.al.l.length=_;rw[dG bR]
    simp[j,P,R,aR,aJ];exact⟨a7,⟨V,V,V,V,V,j,q1,p,H,jt,jY,D,by rw[bM];exact o,by rw[bM];omega⟩,K⟩
  ·have S:i=(fz s).length:=F;subst S;have bi:=KC _ (xD u);change ii _ _ _ _ (cH (cY s)) at bi;have b3:=hw (cY s).idsZ;have b4:=pd (cY s).opsZ;have aX:=bU (cY s).idsZ;have aH:=i7 (cY s).opsZ;have bk:=bU (cL ((bD s).map (·.1)));have W:=i7 (cL ((bD s).map (·.2)));unfold cH bf at bi;simp[bE,D];refine o.call fun bY c2 cG=>?_
   have b5:bY[1]?=some (.q 2 [.af,.af]):=by rw[cG 1 F];exact q1
   have cJ:=a2 b5;have gs:∀ y:am,(bY.set 1 y)[1]?=some y:=fun y=>b1 cJ
   refine av bi (by simp[aq,U.aw];exact⟨bk,W⟩) ?_;simp[b5,gs,ax];exact aT rfl (show (U.ah [ai (cY s).idsZ,bF (cY s).opsZ]).aw=true by simp[U.aw,aq,aX,aH])
theorem UR {alZ:Type} {z:Nat} {enc:alZ->ag} {l:ae} {a v:U} {j:Nat} {xs:List alZ} (s:bL alZ) (h:aM z l v j (xs.map enc)) (q:bt v=s.isNone) (t:s.l=xs) {f:cf} {K:cA}
  (p:∀ g,g.length=l.length->(∀ b,v=.af\/b≠j->g[b]?=l[b]?)->cJ f [a,b4 z enc s] g K) :cJ f [a,v] l K:=by
 obtain⟨u,B,w,o,f1⟩:=wX s h q t;refine pb checked.mixed ev (args2:=[a,b4 z enc s]) B F rfl (fun j c C h1 m=>?_) (p u o f1);rcases lW h1 with ⟨rfl,rfl⟩ | ⟨rfl,rfl⟩
 ·rcases lW m with ⟨_,rfl⟩ | ⟨h,_⟩
  ·exact .same _
  ·omega
 ·rcases lW m with ⟨h,_⟩ | ⟨_,rfl⟩
  ·omega
  ·exact w
def num (x:List B) (n:Nat) :Nat:=(x.getD 0 0).toNat % n
def j0 (g:aU) (n i:Nat) :aO:=g.idsZ.l.filter fun x=>decide (num x n=i)
def iM (g:aU) (n:Nat) :Nat->List aU
 | 0=>[]
 | i+1=>iM g n i++[hD g (j0 g n i)]
theorem pE (g:aU) (n:Nat) :∀ i,(iM g n i).length=i
 | 0=>rfl
 | i+1=>by show (iM g n i++_).length=_;rw[cr,pE g n i];rfl
theorem zc (g:aU) (n:Nat) :∀ {i k:Nat},k<i->(iM g n i)[k]?=some (hD g (j0 g n k))
 | i+1,k,hk=>by
  show (iM g n i++_)[k]?=_;by_cases h:k<i
  ·rw[aV (by rw[pE];exact h)];exact zc g n h
  ·have:k=i:=F;subst this;rw[et (by rw[pE];exact aI _),pE];simp
def jw (g:aU) (n:Nat) :ck:=⟨some (iM g n n),cL (eX g),g.idsZ.l.length⟩
theorem Jn {x:List B} (g:x.length=32) :∃ b r,x=b::r/\num x=fun n=>b.toNat % n:=by
 cases x with
 | nil=>cases g
 | cons b r=>exact⟨b,r,rfl,rfl⟩
theorem JQ {z by_:Nat} {l:ae} {w:U} {g n c:Nat} {es:List (ag)} {X:ag} (h:aM z l w g es) (J:w=.af\/n<=g) (R:n<=l.length) (O:l[c]?=some (.q z X)) (v:X.length=z) (I:z≠0) (K:by_≠0) (P:(es.length+1)*by_<=dk) :
  ∃ w' j l',eE l z by_ w (.ad z c 0 1 1 z)=some (w',l')/\aM z l' w' j (es++[X])/\bt w'=false/\n<=j/\l.length<=l'.length/\(∀ b,b<l.length->w=.af\/b≠g->l'[b]?=l[b]?)/\(l.length<=j\/(w≠.af/\j=g)):=by
 obtain⟨t,Q,l',C,D,F,G,u,H⟩:=iG (by_:=by_) (x:=.ad z c 0 1 1 z) (xs:=[X]) h (by simp[cG,O,v,aL]) (by simp[v]) I K (by simpa using P);have p:bt t=false:=by rw[H];simp
 have B:t≠.af:=fun e=>by rw[e] at p;cases p
 refine⟨t,Q,l',C,D,p,?_,F,G,?_⟩
 ·rcases u with e | ⟨m,o⟩ | e
  ·omega
  ·rw[o];exact J.resolve_left m
  ·exact bP e B
 ·rcases u with e | ⟨m,o⟩ | e
  ·exact .inl e
  ·exact .inr ⟨m,o⟩
  ·exact bP e B
theorem UX {z:Nat} {l l' : ae} {w v:U} {y1 h j:Nat} {es:List (ag)} (o:aM z l v j es) (ne:w=.af\/v=.af\/y1≠j) (u:∀ b,b<l.length->w=.af\/b≠y1->l'[b]?=l[b]?) (t:l.length<=h\/(w≠.af/\h=y1)) :aM z l' v j es/\(v=.af\/h≠j):=by
 by_cases g:v=.af
 ·refine⟨?_,.inl g⟩;subst g;have:=o.q.pJ;subst this;exact .nil _
 ·have B:=o.lt.resolve_left g;have m:w=.af\/j≠y1:=by
   rcases ne with q | q | q
   ·exact .inl q
   ·exact bP q g
   ·exact .inr fun e=>q e.symm
  refine⟨o.c6 (.inr (u j B m)),.inr fun e=>?_⟩;rcases t with q | ⟨q1,C⟩
  ·omega
  ·rcases m with p | p
   ·exact q1 p
   ·exact p F
structure NY (g:aU) (n i:Nat) (sgZ:aR) (l:ae) :Prop where
 fp:sgZ 1=.i6 n
 iI:sgZ 2=.ptr 0 0 2
 kz:sgZ 4=.ptr 1 0 3
 kA:sgZ 5=.ptr 2 0 3
 nw:sgZ 6=.i6 i
 ex:∃ v j rest,l=.q 2 [ai g.idsZ,bF g.opsZ] ::.q 3 [.af,.af,.i6 0] ::.q 3 [v,ai (cL (eX g)),.i6 g.idsZ.l.length] ::rest/\aM 2 l v j ((iM g n i).map bf)/\(v=.af\/3<=j)/\bt v=(iM g n i).isEmpty
structure NZ (g:aU) (n i:Nat) (v:U) (j:Nat) (k:Nat) (sgZ:aR) (l:ae) :Prop where
 fp:sgZ 1=.i6 n
 iI:sgZ 2=.ptr 0 0 2
 kz:sgZ 4=.ptr 1 0 3
 kA:sgZ 5=.ptr 2 0 3
 nw:sgZ 6=.i6 i
 oo:sgZ 8=.i6 k
 ex:∃ w h rest,l=.q 2 [ai g.idsZ,bF g.opsZ] ::.q 3 [.af,.af,.i6 0] ::.q 3 [v,ai (cL (eX g)),.i6 g.idsZ.l.length] ::rest/\aM 2 l v j ((iM g n i).map bf)/\sgZ 7=w ∧
  aM 32 l w h (((g.idsZ.l.take k).filter fun x=>decide (num x n=i)).map ar)/\(w=.af\/3<=h)/\bt w=((g.idsZ.l.take k).filter fun x=>decide (num x n=i)).isEmpty/\(w=.af\/v=.af\/h≠j)
theorem VM (g:aU) (Y:ff g) (aS:e2 g=0) (n:Nat) (bV:1<=n) (bW:n<=100) :aY 126 [cH g,.i6 n] (.ah (bQ (jw g n))):=by
 apply bc func126 [[[0],[2],[3],[4],[6],[1,6,3],[5]],db 0 4++[[4,1]]];have a2:=dF;have aK:=lo aS;have bX:=aK.n60;have bY:=aK.len;have aW:=bU g.idsZ;have aX:=i7 g.opsZ;have ag:bx (.ad 32) (ai g.idsZ)=_:=cd _;have a3:=V7 g Y aS;have bG:=hw (cL (eX g));unfold cH bf at a3;simp[cH,bf,ag];refine av a3 (by simp[aq,U.aw,aW,aX]) ?_;simp[bG,ax];refine bz n (NY g n) ?_ ⟨V,V,V,V,V,.af,0,[],rfl,.nil 0,.inl rfl,rfl⟩;rintro i aJ l bR ⟨B,C,D,G,H,j,m,rest,rfl,t,aE,br⟩;obtain⟨aJ,rfl⟩:=gx B C D G H;clear B C D G H;have bh:=cq (k:=i) F;by_cases aZ:i<n
 ·simp[aZ];refine bz g.idsZ.l.length (NZ g n i j m) ?_ ⟨V,V,V,V,V,V,.af,0,rest,rfl,t,V,.nil 0,.inl rfl,rfl,.inl rfl⟩;clear t;rintro k aJ l hk ⟨B,C,D,G,H,aR,w,a6,rest,rfl,t,aQ,O,Z,ak,aF⟩;obtain⟨aJ,rfl⟩:=Ar B C D G H aQ aR;clear B C D G H aQ aR;have aO:=cq (k:=k) F;by_cases ae:k<g.idsZ.l.length
  ·obtain⟨x,P,bD⟩:=aP ae;have a5:=Y.idsZ x bD;have R:=bu a5;have aD:bO (.ad 32) (ai g.idsZ) _=_:=dg P;have J:g.idsZ.l.take (k+1)=g.idsZ.l.take k++[x]:=by rw[eU,P];rfl
   obtain⟨k3,r,bC,bs⟩:=Jn a5;have aB:∀ h,(ar x)[0]'h=a8 k3:=fun h=>by subst bC;rfl
   have bN:k3.toNat<256:=k3.isLt;have a4:IntKind.i64.wrap (u k3)=(k3.toNat:Int):=by unfold u;rw[IntKind.wrap_i64];omega
   have aC:=tG k3.toNat (n:Int) F;rw[fA] at aC;obtain⟨X,aA⟩:=ao (ar x);rw[<-aA] at R aD;simp only[<-aA] at aB;have bj:X.take 32=X:=aL F;have bA:ax (bT 32 (.int .u8 0)) 0 X=X:=cI (by rw[R];rfl);have a0:((k3.toNat:Int) % (n:Int)=(i:Int))<->num x n=i:=by
    rw[bs,<-Int.natCast_emod];exact⟨fun h=>Int.ofNat.inj h,fun h=>by rw[<-h]⟩
   have bP:((g.idsZ.l.take k).filter fun x=>decide (num x n=i)).length<=1000000:=dL (ie _ _) (by rw[cO];omega);by_cases aj:num x n=i
   ·have K:(g.idsZ.l.take (k+1)).filter (fun x=>decide (num x n=i))=(g.idsZ.l.take k).filter (fun x=>decide (num x n=i))++[x]:=by rw[J,lF];simp[aj]
    obtain⟨w',bE,aH,z,T,al,ap,bb,W,aN⟩:=JQ (by_:=32) (n:=3) (c:=rest.length+1+1+1) (O.more [am.q 32 X]) Z V V R F F (by rw[a2];simp;omega);obtain⟨bd,bg⟩:=UX (t.more [am.q 32 X]) aF W aN;have o:∀ b,b<3->aH[b]?=(am.q 2 [ai g.idsZ,bF g.opsZ] ::am.q 3 [.af,.af,.i6 0] ::am.q 3 [j,ai (cL (eX g)),.i6 g.idsZ.l.length] ::rest)[b]?:=fun b aT=>by
     rw[W b (by simp;omega) (by rcases Z with e | e;exact .inl e;exact .inr F),aV (by simp;omega)]
    obtain⟨bH,rfl⟩:=p0 (o 0 F) (o 1 F) (o 2 F);simp only[jK] at z;simp[ag,ae,aD,R,aB,a4,aC,a0,aj,bj,bA,z];refine b2.bq ?_;simp[aO];refine⟨ae,V,V,V,V,V,V,w',bE,bH,rfl,bd,V,?_,.inr ap,by rw[K,al];simp,?_⟩
    ·rw[K,c5,df,mn,<-aA];exact T
    ·exact .inr bg
   ·have K:(g.idsZ.l.take (k+1)).filter (fun x=>decide (num x n=i))=(g.idsZ.l.take k).filter (fun x=>decide (num x n=i)):=by rw[J,lF];simp[aj]
    simp[ag,ae,aD,R,aB,a4,aC,a0,aj,aO];exact⟨V,V,V,V,V,V,w,a6,rest,rfl,t,V,by rw[K];exact O,Z,by rw[K];exact ak,aF⟩
  ·have bo:k=g.idsZ.l.length:=F;subst bo;rw[fC] at O ak;change aM 32 _ w a6 ((j0 g n i).map ar) at O;change bt w=(j0 g n i).isEmpty at ak;have I:=VR g Y F (cL (j0 g n i)) (fun x P=>by rw[dr] at P;exact Y.idsZ x (dy.1 P).1) (by rw[dr];have:=ie (fun x=>decide (num x n=i)) g.idsZ.l;unfold j0;omega) F;rw[dr] at I;have bl:=bU (cL (j0 g n i));have J:iM g n (i+1)=iM g n i++[hD g (j0 g n i)]:=rfl;have bS:=pE g n i;unfold cH bf at I;obtain⟨Q,ay⟩:=ao (bf (hD g (j0 g n i)));have az:Q.length=2:=by rw[ay];rfl
   have bM:Q.take 2=Q:=aL F;have bi:ax [U.af,.af] 0 Q=Q:=cI (by rw[az];rfl);change ii _ _ _ _ (.ah (bf (hD g (j0 g n i)))) at I;rw[<-ay] at I;simp[ag];refine UR (cL (j0 g n i)) O (by rw[oR];exact ak) (dr _) (fun a7 f1 f2=>?_);have bv:aM 2 a7 j m ((iM g n i).map bf):=t.c6 (by
    rcases aF with q | q | q
    ·exact .inr (f2 m (.inl q))
    ·exact .inl q
    ·exact .inr (f2 m (.inr fun e=>q e.symm)))
   have o:∀ b,b<3->a7[b]?=(am.q 2 [ai g.idsZ,bF g.opsZ] ::am.q 3 [.af,.af,.i6 0] ::am.q 3 [j,ai (cL (eX g)),.i6 g.idsZ.l.length] ::rest)[b]?:=fun b aT=>f2 b (by rcases Z with e | e;exact .inl e;exact .inr F)
   obtain⟨a9,rfl⟩:=p0 (o 0 F) (o 1 F) (o 2 F);refine av I (by simp[aq,U.aw,aW,aX];exact bl) ?_;obtain⟨bK,aG,aH,z,T,al,ap,bb,W,aN⟩:=JQ (by_:=48) (n:=3) (c:=a9.length+1+1+1) (bv.more [am.q 2 Q]) aE V V az F F (by rw[a2];simp;omega);have au:∀ b,b<3->aH[b]?=(am.q 2 [ai g.idsZ,bF g.opsZ] ::am.q 3 [.af,.af,.i6 0] ::am.q 3 [j,ai (cL (eX g)),.i6 g.idsZ.l.length] ::a9)[b]?:=fun b aT=>by
    rw[W b (by simp;omega) (by rcases aE with e | e;exact .inl e;exact .inr F),aV (by simp;omega)]
   obtain⟨bI,rfl⟩:=p0 (au 0 F) (au 1 F) (au 2 F);simp only[jK] at z;simp[az,bi,z];refine b2.bq ?_;have bB:=sr T;simp[bB,ax,bh];refine⟨aZ,V,V,V,V,V,bK,aG,bI,rfl,?_,.inr ap,by rw[al,J];simp⟩;rw[J,c5,df,mn,<-ay];refine T.c6 (.inr ?_);obtain⟨S,rfl⟩:∃ S,aG=S+3:=⟨aG - 3,F⟩
   rfl
 ·have bm:i=n:=F;subst bm;simp;have bw:Rd (am.q 2 [ai g.idsZ,bF g.opsZ] ::am.q 3 [j,ai (cL (eX g)),.i6 g.idsZ.l.length] ::am.q 3 [j,ai (cL (eX g)),.i6 g.idsZ.l.length] ::rest) j (e9 (some (iM g i i))):=by
   refine (t.c6 (l':=am.q 2 [ai g.idsZ,bF g.opsZ] ::am.q 3 [j,ai (cL (eX g)),.i6 g.idsZ.l.length] ::am.q 3 [j,ai (cL (eX g)),.i6 g.idsZ.l.length] ::rest) ?_).q.jA pi (some (iM g i i)) ?_ rfl
   ·rcases aE with h | h
    ·exact .inl h
    ·right;obtain⟨S,rfl⟩:∃ S,m=S+3:=⟨m - 3,F⟩
     rfl
   ·rw[br];have:=pE g i i;cases bp:iM g i i with
    | nil=>rw[bp] at this;simp at this;omega
    | cons=>rfl
  have bk:=bU (cL (eX g));refine .ah _ _ rfl fun m c bL p v=>?_
  rcases m with _ | _ | _ | m
  ·simp[bQ,jw] at p v;subst p v;exact bw
  ·simp[bQ,jw] at p v;subst p v;exact .same _ bk
  ·simp[bQ,jw] at p v;subst p v;exact .same _ rfl
  ·simp at p
structure tt (s:ck) :Prop where
 al:∀ g∈s.al.l,ff g
 ln:s.al.l.length<=1000000
 cb:cT s.cb
 pI:s.cb.l.length<=1000000
theorem g9.w {s:ck} (h:g9 s) :tt s:=⟨fun g j=>(h.al g j).1,by have:=h.ln;omega,h.cb,h.pI⟩
def h8 (a b:ck) :Bool:=decide (a.al.l.length=b.al.l.length)&&(decide (a.b6=b.b6)&&(decide (a.cb.l=b.cb.l)&&decide (∀ k,k<a.al.l.length->kM (ds a.al.l k) (ds b.al.l k)=true)))
theorem ma (a b:ck) :h8 a b=true<->a.al.l.length=b.al.l.length/\a.b6=b.b6/\a.cb.l=b.cb.l/\∀ k,k<a.al.l.length->kM (ds a.al.l k) (ds b.al.l k)=true:=by unfold h8;simp only[bH,bC]
theorem Kz (a b:ck) (v:tt a) (O:tt b) :aY 81 [.ah (bQ a),.ah (bQ b)] (.bool (h8 a b)):=by
 apply bc func81 [];have p:=pD a.al;have z:=pD b.al;have aB:=np a.al;have aC:=np b.al;have Q:=bU a.cb;have P:=bU b.cb;have X:=sG a.cb b.cb v.cb O.cb v.pI;by_cases h1:a.al.l.length=b.al.l.length
 ·by_cases o:a.b6=b.b6
  ·by_cases u:a.cb.l=b.cb.l
   ·simp[bQ,p,z,h1,o];refine av X (by simp[aq,Q,P]) ?_;simp[u];refine bz a.al.l.length (fun k t l=>l=[.q 3 [e9 a.al,ai a.cb,.i6 a.b6],.q 3 [e9 b.al,ai b.cb,.i6 b.b6]]/\t 2=.ptr 0 0 3/\t 3=.ptr 1 0 3/\t 5=.i6 k/\∀ j,j<k->kM (ds a.al.l j) (ds b.al.l j)=true) ?_ ⟨by simp[o],V,V,V,fun j ar=>F⟩;rintro k t l hk ⟨rfl,C,D,G,ae⟩;obtain⟨t,rfl⟩:=gK C D G;clear C D G;have aj:IntKind.i64.wrap ((k:Int)+1)=((k+1:Nat) :Int):=by rw[IntKind.wrap_i64];have:=v.ln;omega
    by_cases w:k<a.al.l.length
    ·obtain⟨m,Y,ay⟩:=aP w;obtain⟨q,Z,az⟩:=aP (l:=b.al.l) (k:=k) F;have T:=mG Y;have W:=mG Z;have B:=VU m q (v.al m ay) (O.al q az);have aD:k<b.al.l.length:=F;have I:(bf m).length=2:=rfl;have K:(bf q).length=2:=rfl;have H:=pi m;have J:=pi q;have R:=dt Y;have S:=dt Z;change ii _ _ _ [.ah (bf m),.ah (bf q)] _ at B;obtain⟨vm,am⟩:=ao (bf m);obtain⟨FF,ap⟩:=ao (bf q);rw[<-am] at T B I H;rw[<-ap] at W B K J;have t1:vm.take 2=vm:=aL F;have t2:FF.take 2=FF:=aL F;simp[p,w,T,W,I,K,t1,t2];refine av B (by simp[aq,U.aw,H,J]) ?_;cases ag:kM m q with
     | true=>
      simp[aj];refine⟨w,fun j ar=>?_⟩;by_cases au:j=k
      ·subst au;rw[R,S];exact ag
      ·exact ae j F
     | false=>
      have g:h8 a b=false:=p9.2 fun h=>by
       have:=((ma a b).1 h).2.2.2 k w;rw[R,S,ag] at this;cases this
      simp;exact aT (ch U.bool g.symm) rfl
    ·have ax:k=a.al.l.length:=F;subst ax;have aA:h8 a b=true:=(ma a b).2 ⟨h1,o,u,ae⟩;simp[p];exact aT (ch U.bool aA.symm) rfl
   ·have g:h8 a b=false:=p9.2 fun h=>u ((ma a b).1 h).2.2.1
    simp[bQ,p,z,h1,o];refine av X (by simp[aq,Q,P]) ?_;simp[u];exact aT (ch U.bool g.symm) rfl
  ·have g:h8 a b=false:=p9.2 fun h=>o ((ma a b).1 h).2.1
   simp[bQ,p,z,h1,o];exact aT (ch U.bool g.symm) rfl
 ·have g:h8 a b=false:=p9.2 fun h=>h1 ((ma a b).1 h).1
  have ak:¬ (a.al.l.length:Int)=b.al.l.length:=F;simp[bQ,p,z,ak];exact aT (ch U.bool g.symm) rfl
theorem U1 {g:aU} (h:ff g) (L:aO) :ff (hD g L):=by
 unfold hD;refine Ms (Ck (fun m j=>h.idsZ _ (zE (gh (dy.1 j).1)).1) (fun m j=>h.opsZ _ (zE (gh (dy.1 j).1)).2) ?_);have h1:=Kd (g:=g) (L:=L) (k:=(hf g).length);have o:(hf g).length<=g.idsZ.l.length:=by unfold hf;rw[List.length_zip];omega
 have:=h.li;omega
theorem Ti {g:aU} (h:ff g) {n:Nat} (u:n<=1000) :tt (jw g n):=by
 refine⟨fun t o=>?_,?_,fun x q=>?_,?_⟩
 ·have p:t∈iM g n n:=o;obtain⟨k,hk⟩:=cj.1 p;have j:=(aK.1 hk).1;rw[pE] at j;rw[zc g n j] at hk;obtain rfl:=cg hk;exact U1 h _
 ·show (iM g n n).length<=_;rw[pE];omega
 ·have m:x∈(cL (eX g)).l:=q;rw[dr] at m;exact h.idsZ x (dy.1 m).1
 ·show (cL (eX g)).l.length<=_;rw[dr];have:=ie (il g) g.idsZ.l;have:=h.li;unfold eX;omega
theorem M0 {s:ck} (h:g9 s) :ff (cY s):=Ms (xD h)
noncomputable def kP (s:ck) :Int:=if 1<=s.al.l.length/\s.al.l.length<=4 then (if e2 (cY s)=0/\h8 s (jw (cY s) s.al.l.length)=true then 0 else 8) else 8
theorem V0 (s:ck) (u:g9 s) :aY 75 [.ah (bQ s)] (.i6 (kP s)):=by
 apply bc func75 [db 0 9++[[9,4]]];have q:=pD s.al;have m:(bQ s).length=3:=rfl;have p:∀ h,(bQ s)[0]'h=e9 s.al:=fun _=>rfl
 have G:=pj s;have t:(bQ s).take 3=bQ s:=rfl;by_cases h1:1<=s.al.l.length
 ·by_cases D:s.al.l.length<=4
  ·have o:¬ (s.al.l.length:Int)<1:=F;have v:¬ (4:Int)<(s.al.l.length:Int):=F;have Q:¬ 4<s.al.l.length:=F;have K:=KF s u;have z:=M0 u;have I:=VD (cY s) z;have R:=hw (cY s).idsZ;have S:=pd (cY s).opsZ;have B:=bU (cY s).idsZ;have C:=i7 (cY s).opsZ;unfold cH bf at K I;have g:kP s=if e2 (cY s)=0/\h8 s (jw (cY s) s.al.l.length)=true then 0 else 8:=by unfold kP;rw[aj ⟨h1,D⟩]
   simp[m,p,t,q,o,v];refine av K (by simp[aq,U.aw,G]) ?_;simp[ax];refine av I (by simp[aq,U.aw,B,C]) ?_;by_cases j:e2 (cY s)=0
   ·have J:=VM (cY s) z j s.al.l.length h1 F;have P:=Kz s (jw (cY s) s.al.l.length) u.w (Ti z F);have O:=pj (jw (cY s) s.al.l.length);unfold cH bf at J;simp[j,m,p,t,q];refine av J (by simp[aq,U.aw,B,C]) ?_;simp[m,t];refine av P (by simp[aq,U.aw,G,O]) ?_;cases H:h8 s (jw (cY s) s.al.l.length) with
    | true=>
     rw[H,aj ⟨j,rfl⟩] at g;rw[g];simp;exact aE
    | false=>
     rw[H,ak V] at g;rw[g];simp;exact aE
   ·rw[ak (fun h=>j h.1)] at g;rw[g];simp[j];exact aE
  ·have g:kP s=8:=by unfold kP;rw[ak (fun h=>D h.2)]
   have o:¬ (s.al.l.length:Int)<1:=F;have v:(4:Int)<(s.al.l.length:Int):=F;have Q:4<s.al.l.length:=F;rw[g];simp[m,p,q,o,v];exact aE
 ·have g:kP s=8:=by unfold kP;rw[ak (fun h=>h1 h.1)]
  have o:(s.al.l.length:Int)<1:=F;rw[g];simp[m,p,q,o];exact aE
structure dm where
 cap:Int
 aS:ck
 aJ:bV
def cv (s:dm) :ag:=[.i6 s.cap,e9 s.aS.al,ai s.aS.cb,.i6 s.aS.b6,ai s.aJ]
structure kZ (s:dm) :Prop where
 aS:g9 s.aS
 aJ:cT s.aJ
 no:s.aJ.l.length<=1000
theorem k7 (s:dm) :aq (cv s)=true:=by simp[cv,aq,U.aw,np,bU]
def hC (g:aU) (l:aO) (i:Nat) :Bool:=decide (bo l i∈g.idsZ.l)&&(!decide (bo l i∈l.take i)&&ik (l.take i) (dO g.opsZ.l (dT (bo l i) g.idsZ.l 0).toNat))
def j4 (g:aU) (l:aO) :Bool:=decide (∀ i,i<l.length->hC g l i=true)
noncomputable def fK (s:dm) :Int:=if 1<=s.cap/\s.cap<=40/\kP s.aS=0/\s.aS.b6<=s.cap/\(s.aJ.l.length:Int)=s.aS.b6 then (if j4 (cY s.aS) s.aJ.l=true then 0 else 8) else 8
theorem Em {s:ck} (h:kP s=0) :1<=s.al.l.length/\s.al.l.length<=4/\e2 (cY s)=0/\h8 s (jw (cY s) s.al.l.length)=true:=by
 unfold kP at h;split at h
 ·rename_i h1;split at h
  ·rename_i g;exact⟨h1.1,h1.2,g⟩
  ·cases h
 ·cases h
theorem Sw {x:List B} {l:aO} {i:Nat} (p:l[i]?=some x) :dT x l 0<(i:Int)<->x∈l.take i:=by
 obtain⟨n,w,z,v⟩:∃ n:Nat,dT x l 0=(n:Int)/\l[n]?=some x/\∀ (g:Nat) (y:List B),g<n->l[g]?=some y->y≠x:=by
  have G:∀ (j:Nat),l[j]?=some x->∃ n:Nat,l[n]?=some x/\∀ (g:Nat) (y:List B),g<n->l[g]?=some y->y≠x:=by
   intro j
   induction j using Nat.strongRecOn with
   | _ j D=>
    intro u;by_cases h:∃ g,g<j/\l[g]?=some x
    ·obtain⟨g,m,q⟩:=h;exact D g m q
    ·exact⟨j,u,fun g y m C e=>h ⟨g,m,by rw[C,e]⟩⟩
  obtain⟨n,h1,o⟩:=G i p;exact⟨n,by have:=qM (n:=0) h1 o;simpa using this,h1,o⟩
 rw[w];constructor
 ·intro h;have h' : n<i:=F;exact cj.2 ⟨n,by rw[dU h'];exact z⟩
 ·intro h;obtain⟨k,hk⟩:=cj.1 h;have t:=(aK.1 hk).1;rw[cO] at t;rw[dU F] at hk;by_cases e:n<=k
  ·omega
  ·exact bP rfl (v k x F hk)
theorem uf {l:aO} (j:kY l) {i:Nat} {x:List B} (g:l[i]?=some x) :dT x l 0=(i:Int):=by have:=qM (n:=0) g (fun m y o h e=>by rw[e] at h;have:=j m i x h g;omega);simpa using this
theorem RZ (a:bV) {k:Nat} (h:k<=a.l.length) :dK (.ad 32) (ai a) none (some (.i6 (k:Int))) none=some (ai (g3 a k)):=EE h
theorem V5 (s:dm) (v:kZ s) :aY 30 [.ah (cv s)] (.i6 (fK s)):=by
 apply bc func30 [[],db 0 10++[[11],[10]]];have I:bx (.ad 32) (ai s.aJ)=_:=cd _;have G:=V0 s.aS v.aS;have D:=np s.aS.al;have C:=bU s.aS.cb;have a6:=bU s.aJ;have bE:=v.no;unfold bQ at G;by_cases h1:1<=s.cap
 ·by_cases aM:s.cap<=40
  ·have o:¬ s.cap<1:=F;have w:¬ (40:Int)<s.cap:=F;by_cases t:kP s.aS=0
   ·by_cases aN:s.aS.b6<=s.cap
    ·have Y:¬ s.cap<s.aS.b6:=F;by_cases Q:(s.aJ.l.length:Int)=s.aS.b6
     ·obtain⟨_,_,aH,_⟩:=Em t;have P:=lo aH;have Z:=M0 v.aS;have a2:=P.len;have bl:=P.n60;have aA:=KF s.aS v.aS;have j:fK s=if j4 (cY s.aS) s.aJ.l=true then 0 else 8:=by unfold fK;rw[aj ⟨h1,aM,t,aN,Q⟩]
      have T:∀ i,i<s.aJ.l.length->hC (cY s.aS) s.aJ.l i=false->fK s=8:=fun i bd a9=>by
       rw[j,ak];unfold j4;rw[bC];intro h;have:=h i bd;rw[a9] at this;cases this
      have bv:=hw (cY s.aS).idsZ;have bw:=pd (cY s.aS).opsZ;have ae:=bU (cY s.aS).idsZ;unfold cH bf bQ at aA;obtain⟨g,bb⟩:=ao (cY s.aS);rw[<-bb] at aA Z a2 bl bv bw ae T P j aH;simp[cv,o,w];refine av G (by simp[aq,U.aw,D,C]) ?_;simp[t,Y,I,Q];refine av aA (by simp[aq,U.aw,D,C]) ?_;simp[ax];refine bz s.aJ.l.length (fun k O l=>l=[.q 5 [.i6 s.cap,e9 s.aS.al,ai s.aS.cb,.i6 s.aS.b6,ai s.aJ],.q 2 [ai g.idsZ,bF g.opsZ]]/\O 1=.ptr 0 0 5/\O 3=.ptr 1 0 2/\O 4=.i6 k/\∀ z,z<k->hC g s.aJ.l z=true) ?_ ⟨rfl,V,V,V,fun z bh=>F⟩;rintro k O l hk ⟨rfl,aD,aF,aG,aV⟩;obtain⟨O,rfl⟩:=gK aD aF aG;clear aD aF aG;have a4:=cq (k:=k) F;by_cases u:k<s.aJ.l.length
      ·obtain⟨x,aB,bs⟩:=aP u;have aC:=v.aJ x bs;have K:=bu aC;have J:=c4 x;have H:bO (.ad 32) (ai s.aJ) _=_:=dg aB;have B:=q3 g.idsZ Z.idsZ Z.li x aC;have az:=q3 s.aJ v.aJ F x aC;have hit:=Sw aB;have m:hC g s.aJ.l k=(decide (x∈g.idsZ.l)&&(!decide (x∈s.aJ.l.take k)&&ik (s.aJ.l.take k) (dO g.opsZ.l (dT x g.idsZ.l 0).toNat))):=by unfold hC;rw[dG aB]
       have bo:=ny x g.idsZ.l 0;obtain⟨bt,bg⟩:=ao (dT x s.aJ.l 0);rw[<-bg] at az hit;by_cases W:x∈g.idsZ.l
       ·obtain⟨a,ap⟩:=cj.1 W;have a5:=uf (mH P.bX) ap;obtain⟨p,aX,bq⟩:=aP (l:=g.opsZ.l) (k:=a) (by rw[<-a2];exact (aK.1 ap).1);have a0:=Z.opsZ p bq;rw[a5] at B m;rw[bY W,fA,l6 aX,mj] at m;have bD:=(aK.1 ap).1;have aW:bO (.ad 11) (bF g.opsZ) _=_:=dg aX;have aZ:(au p).length=11:=rfl;have aR:∀ h,(au p)[1]'h=ai p.ay:=fun _=>rfl
        have a7:=bU p.ay;have br:=RZ s.aJ (k:=k) F;have bp:cT (g3 s.aJ k):=fun bA a3=>v.aJ bA (by rw[md] at a3;exact gh a3)
        have aU:=DB (g3 s.aJ k) bp (by rw[md,cO];omega) p.ay a0.idsZ a0.len;rw[md] at aU;have a8:=bU (g3 s.aJ k);have bm:¬ (a:Int)<0:=F;obtain⟨X,am⟩:=ao (ar x);obtain⟨bB,aQ⟩:=ao (au p);rw[<-am] at H K J B az;rw[<-aQ] at aW aZ;simp only[<-aQ] at aR;have S:X.take 32=X:=aL F;simp[I,u,H,K,S];refine av B (by simp[aq,U.aw,ae,J]) ?_;simp[bm,H,K,S];refine av az (by simp[aq,U.aw,a6,J]) ?_;by_cases R:x∈s.aJ.l.take k
        ·have ag:=hit.2 R;rw[bY R] at m;have:=T k u (by rw[m];simp);simp[ag];exact aT (by rw[this]) rfl
        ·have ag:¬ bt<(k:Int):=fun h=>R (hit.1 h)
         rw[cC R] at m;simp[ag,br,aW,aZ,aR];refine av aU (by simp[aq,a8,a7]) ?_;cases aO:ik (s.aJ.l.take k) p.ay.l with
         | true=>
          rw[aO] at m;simp[a4];refine⟨u,fun z bh=>?_⟩;by_cases bi:z=k
          ·rw[bi,m];rfl
          ·exact aV z F
         | false=>
          rw[aO] at m;have:=T k u (by rw[m];rfl);simp;exact aT (by rw[this]) rfl
       ·have bk:dT x g.idsZ.l 0<0:=by
         have:¬ 0<=dT x g.idsZ.l 0:=fun h=>W (bo.1 h)
         omega
        rw[cC W,ru] at m;have:=T k u m;obtain⟨X,am⟩:=ao (ar x);rw[<-am] at H K J B;have S:X.take 32=X:=aL F;simp[I,u,H,K,S];refine av B (by simp[aq,U.aw,ae,J]) ?_;simp[bk];exact aT (by rw[this]) rfl
      ·have bj:k=s.aJ.l.length:=F;subst bj;have:j4 g s.aJ.l=true:=by unfold j4;exact bY aV
       rw[this,aj rfl] at j;rw[j];simp[I];exact aE
     ·have j:fK s=8:=by unfold fK;rw[ak (fun h=>Q h.2.2.2.2)]
      rw[j];simp[cv,o,w];refine av G (by simp[aq,U.aw,D,C]) ?_;simp[t,Y,I,Q];exact aE
    ·have j:fK s=8:=by unfold fK;rw[ak (fun h=>aN h.2.2.2.1)]
     have Y:s.cap<s.aS.b6:=F;rw[j];simp[cv,o,w];refine av G (by simp[aq,U.aw,D,C]) ?_;simp[t,Y];exact aE
   ·have j:fK s=8:=by unfold fK;rw[ak (fun h=>t h.2.2.1)]
    rw[j];simp[cv,o,w];refine av G (by simp[aq,U.aw,D,C]) ?_;simp[t];exact aE
  ·have j:fK s=8:=by unfold fK;rw[ak (fun h=>aM h.2.1)]
   have o:¬ s.cap<1:=F;have w:(40:Int)<s.cap:=F;rw[j];simp[cv,o,w];exact aE
 ·have j:fK s=8:=by unfold fK;rw[ak (fun h=>h1 h.1)]
  have o:s.cap<1:=F;rw[j];simp[cv,o];exact aE
def o9 (p:aU) :Bool:=decide (16<p.opsZ.l.length)||(decide (16<p.idsZ.l.length)||pt p)
def mF (s:ck) :Bool:=(s.al.l.take 7).any o9||(decide (6<s.al.l.length)||decide (60<s.cb.l.length))
def r8 (s:dm) :Bool:=mF s.aS||decide (70<s.aJ.l.length)
theorem VG (s:ck) :aY 84 [.ah (bQ s)] (.bool (mF s)):=by
 apply bc func84 [];have t:=pD s.al;have o:(bQ s).length=3:=rfl;have p:∀ h,(bQ s)[0]'h=e9 s.al:=fun _=>rfl
 have am:∀ h,(bQ s)[1]'h=ai s.cb:=fun _=>rfl
 have ax:bx (.ad 32) (ai s.cb)=_:=cd _;simp[o];obtain⟨n,aA⟩:=ao (min s.al.l.length 7);refine bz n (fun k H l=>l=[.q 3 (bQ s)]/\H 1=.ptr 0 0 3/\H 3=.i6 k/\∀ j,j<k->o9 (ds s.al.l j)=false) ?_ ⟨rfl,V,V,fun j G=>F⟩;rintro k H l hk ⟨rfl,S,T,ae⟩;obtain⟨H,rfl⟩:=kb S T;clear S T;have aj:=cq (k:=k) F;by_cases m:k<s.al.l.length
 ·by_cases az:k<=6
  ·have v:(k:Int)<=6:=F;obtain⟨g,Q,aB⟩:=aP m;have D:=mG Q;have O:=VE g;have ar:=dt Q;have C:(bf g).length=2:=rfl;have J:∀ h,(bf g)[0]'h=ai g.idsZ:=fun _=>rfl
   have B:∀ h,(bf g)[1]'h=bF g.opsZ:=fun _=>rfl
   have Y:=pi g;have P:bx (.ad 11) (bF g.opsZ)=_:=cd _;have ag:bx (.ad 32) (ai g.idsZ)=_:=cd _;change ii _ _ _ [.ah (bf g)] _ at O;have K:o9 g=true->mF s=true:=fun h=>by
    unfold mF;rw[ta.2 ⟨g,cj.2 ⟨k,by rw[dU F];exact Q⟩,h⟩];rfl
   obtain⟨vm,Z⟩:=ao (bf g);rw[<-Z] at D O C Y;simp only[<-Z] at J B;have ak:vm.take 2=vm:=aL F;by_cases h1:16<g.opsZ.l.length
   ·have w:(16:Int)<(g.opsZ.l.length:Int):=F;have:=K (by unfold o9;rw[bY h1];rfl);simp[o,p,t,m,v,D,C,B,P,w];exact aT (by rw[this]) rfl
   ·have w:¬ (16:Int)<(g.opsZ.l.length:Int):=F;by_cases W:16<g.idsZ.l.length
    ·have I:(16:Int)<(g.idsZ.l.length:Int):=F;have:=K (by unfold o9;rw[bY W];simp);simp[o,p,t,m,v,D,C,J,B,P,ag,w,I];exact aT (by rw[this]) rfl
    ·have I:¬ (16:Int)<(g.idsZ.l.length:Int):=F;simp[o,p,t,m,v,D,C,J,B,P,ag,w,I,ak];refine av O (by simp[aq,U.aw,Y]) ?_;cases X:pt g with
     | true=>
      have:=K (by unfold o9;rw[X];simp);simp;exact aT (by rw[this]) rfl
     | false=>
      simp[aj];refine⟨F,fun j G=>?_⟩;by_cases au:j=k
      ·rw[au,ar];unfold o9;rw[cC h1,cC W,X];rfl
      ·exact ae j F
  ·have v:¬ (k:Int)<=6:=F;have z:6<s.al.l.length:=F;have u:(6:Int)<(s.al.l.length:Int):=F;have:mF s=true:=by unfold mF;rw[bY z];simp
   simp[o,p,t,m,v,u];exact aT (by rw[this]) rfl
 ·have ay:(s.al.l.take 7).any o9=false:=p9.2 fun h=>by
   obtain⟨q,R,ap⟩:=ta.1 h;obtain⟨j,G⟩:=cj.1 (gh R);have:=ae j (by have:=(aK.1 G).1;omega);rw[dt G,ap] at this;cases this
  by_cases z:6<s.al.l.length
  ·have u:(6:Int)<(s.al.l.length:Int):=F;have:mF s=true:=by unfold mF;rw[bY z];simp
   simp[o,p,t,m,u];exact aT (by rw[this]) rfl
  ·have u:¬ (6:Int)<(s.al.l.length:Int):=F;have:mF s=decide (60<s.cb.l.length):=by unfold mF;rw[ay,cC z];rfl
   have R:decide ((60:Int)<(s.cb.l.length:Int))=decide (60<s.cb.l.length):=decide_eq_decide.2 F;simp[o,p,am,t,ax,m,u,R];exact aT (by rw[this]) rfl
theorem VH (s:dm) :aY 41 [.ah (cv s)] (.bool (r8 s)):=by
 apply bc func41 [];have g:=VG s.aS;have o:bx (.ad 32) (ai s.aJ)=_:=cd _;have m:=np s.aS.al;have j:=bU s.aS.cb;have p:decide ((70:Int)<(s.aJ.l.length:Int))=decide (70<s.aJ.l.length):=decide_eq_decide.2 F;unfold bQ at g;simp[cv];refine av g (by simp[aq,U.aw,m,j]) ?_;unfold r8;cases h:mF s.aS with
 | true=>
  simp;exact aE
 | false=>
  simp[o,p];exact aT V rfl
def lw (a b:dm) :Bool:=decide (a.cap=b.cap)&&(h8 a.aS b.aS&&decide (a.aJ.l=b.aJ.l))
theorem KA (a b:dm) (t:tt a.aS) (w:tt b.aS) (v:cT a.aJ) (z:cT b.aJ) (u:a.aJ.l.length<=1000000) :aY 37 [.ah (cv a),.ah (cv b)] (.bool (lw a b)):=by
 apply bc func37 [];unfold lw;have g:=Kz a.aS b.aS t w;have B:=sG a.aJ b.aJ v z u;have h:=np a.aS.al;have j:=bU a.aS.cb;have m:=bU a.aJ;have o:=np b.aS.al;have p:=bU b.aS.cb;have q:=bU b.aJ;unfold bQ at g;by_cases h1:a.cap=b.cap
 ·simp[cv,h1];refine av g (by simp[aq,U.aw,h,j,o,p]) ?_;cases C:h8 a.aS b.aS with
  | true=>
   simp;refine av B (by simp[aq,m,q]) ?_;simp;exact aT (by simp[h1]) rfl
  | false=>
   simp;exact aT V rfl
 ·simp[cv,h1];exact aT V rfl
def ce (s:ck) :ck:=⟨cL (s.al.l.map di),some s.cb.l,s.b6⟩
def gS (s:dm) :dm:=⟨s.cap,ce s.aS,some s.aJ.l⟩
theorem Jp (x:List B) (j:x.length=32) (n:Nat) (h1:1<=n) (v:n<=100) :aY 208 [.ah (ar x),.i6 n] (.i6 (num x n)):=by
 apply bc func208 [];have t:=bu j;obtain⟨k3,r,q,o⟩:=Jn j;have m:∀ h,(ar x)[0]'h=a8 k3:=fun h=>by subst q;rfl
 have w:k3.toNat<256:=k3.isLt;have p:IntKind.i64.wrap (u k3)=(k3.toNat:Int):=by unfold u;rw[IntKind.wrap_i64];omega
 have g:=tG k3.toNat (n:Int) F;rw[fA] at g;have z:¬ n=0:=F;simp[t,m,a8,vM,p,g];refine aT ?_ rfl;rw[o];simp
theorem UL (n i:Nat) (h1:1<=n) (z:n<=100) {l:ae} {kr bi:Nat} (t:l[kr]?=some (.q 1 [.i6 (n:Int)])) (o:l[bi]?=some (.q 1 [.i6 (i:Int)])) (xs:aO) (K:∀ p∈xs,p.length=32) :
  tp 250 [.ptr kr 0 1,.ptr bi 0 1] l xs (fun p=>!decide (num p n=i)):=by
 intro p H g m O C;apply cW func250 [[[0],[1],[3],[2,3]]];have u:=K p H;have J:=bu u;have I:=c4 p;have q1:g[kr]?=some (.q 1 [.i6 (n:Int)]):=by rw[m.2 _ (a2 t)];exact t
 have v:g[bi]?=some (.q 1 [.i6 (i:Int)]):=by rw[m.2 _ (a2 o)];exact o
 have w:∀ c:am,(g++[c])[kr]?=some (.q 1 [.i6 (n:Int)]):=fun c=>by rw[aV (a2 q1)];exact q1
 have j:∀ c:am,(g++[c])[bi]?=some (.q 1 [.i6 (i:Int)]):=fun c=>by rw[aV (a2 v)];exact v
 have G:=Jp p u n h1 z;simp[w,j,J,aL];refine av G (by simp[aq,U.aw,I]) ?_;have B:decide (((num p n:Nat) :Int)=(i:Int))=decide (num p n=i):=by
  by_cases h:num p n=i
  ·simp[h]
  ·have:¬ ((num p n:Nat) :Int)=(i:Int):=F;simp[h];exact this
 simp[j,B];have:=C (g++[am.q 32 (ar p)]) ⟨V,fun b D=>aV D⟩;exact this
theorem lY (s:bV) (g:cT s) (j:s.l.length<=1000000) :aY 80 [ai s] (ai s):=by
 refine w4 checked.mixed ev ?_;refine yQ s g j fun o m h=>?_
 exact h.rd c4 s rfl rfl
theorem Jj (s:bL aG) :eb prog .eql 68 (bF s) .af=some (.bool s.isNone):=vF (e:=55) bg 11 au s
theorem v1 (l:List aG) :(l.map au).flatten.length=l.length*11:=r3 (z:=11) (enc:=au) (fun _ _=>rfl)
theorem GJ (s:bL aG) (p:s.l.length<=1000000) {l:ae} {K:cA} (j:s=none->K .af l)
  (h1:∀ a,s=some a->K (.ad 11 l.length 0 a.length a.length (a.length*11)) (l++[.q (a.length*11) (a.map au).flatten])) :
  cJ 143 [bF s] l K:=by
 apply cW func143 [];have o:=dF;cases s with
 | none=>
  simp[Jj];exact j rfl
 | some a=>
  simp at p;have t:=v1 a;have m:eE (l++[am.q 0 []]) 11 112 (.ad 11 l.length 0 0 0 0) (bF (some a))=some (.ad 11 l.length 0 a.length a.length (a.length*11),l++[.q (a.length*11) (a.map au).flatten]):=by
   unfold eE bF;rw[oj];simp only[bL.kE];unfold ht;by_cases g:a.length=0
   ·have:a=[]:=ic.1 g;subst this;simp
   ·rw[ak g,ak F];simp[o];exact⟨F,fun h=>by simp[h]⟩
  simp[Jj,m];refine b2.bq ?_;simp;exact h1 a rfl
theorem Wd {l:ae} {a b g j:U} (h1:Rd l a g) (o:Rd l b j) :Rd l (.ah [a,b]) (.ah [g,j]):=by
 refine .ah _ _ rfl fun q x t p m=>?_
 rcases lW p with ⟨rfl,rfl⟩ | ⟨rfl,rfl⟩
 ·rcases lW m with ⟨_,rfl⟩ | ⟨h,_⟩
  ·exact h1
  ·omega
 ·rcases lW m with ⟨h,_⟩ | ⟨_,rfl⟩
  ·omega
  ·exact o
theorem wT (o:aG) :ax (au o) 1 [ai o.ay]=au o:=by unfold ax au;simp
theorem L8 (g:aU) (u:ff g) :aY 157 [cH g] (cH g):=by
 apply bc func157 [[[0],[1],[3],[4],[7],[2,7,4],[5,7],[6]],db 0 9++[[9,1]]];have D:=bU g.idsZ;have ag:=i7 g.opsZ;have P:=lY g.idsZ u.idsZ u.li;have J:=hw g.idsZ;simp[cH,bf];refine av P (by simp[aq,D]) ?_;simp;refine GJ g.opsZ u.ju (fun G=>?_) (fun a w=>?_)
 ·simp[J,ax];refine bz 0 (fun k h l=>l=[am.q 2 [ai g.idsZ,bF g.opsZ],am.q 2 [.af,.af],am.q 2 [ai g.idsZ,.af]]/\h 2=.ptr 1 0 2/\h 3=.ptr 2 0 2/\h 14=.i6 0/\h 15=.i6 k) ?_ ⟨rfl,V,V,V,V⟩;rintro k h l hk ⟨rfl,p,t,j,m⟩;obtain⟨h,rfl⟩:=fc p t j m;clear p t j m;have:k=0:=F;subst this;simp[ax,G];have:cH g=.ah [ai g.idsZ,.af]:=by unfold cH bf;rw[G];rfl
  exact aT this.symm (ph g)
 ·simp[J,ax];have ae:a.length<=1000000:=by have:=u.ju;rw[w] at this;exact this
  have O:∀ o∈a,dz o:=fun o C=>u.opsZ o (by rw[w];exact C)
  have aj:=v1 a;have I:∀ e∈a.map au,e.length=11:=fun e S=>by obtain⟨y,_,rfl⟩:=cy.1 S;rfl
  refine bz a.length (fun k h l=>l=[am.q 2 [ai g.idsZ,bF g.opsZ],am.q 2 [.af,.af],am.q 2 [ai g.idsZ,U.ad 11 3 0 a.length a.length (a.length*11)],am.q (a.length*11) (a.map au).flatten]/\h 2=.ptr 1 0 2/\h 3=.ptr 2 0 2/\h 14=.i6 a.length/\h 15=.i6 k) ?_ ⟨rfl,V,V,V,V⟩;rintro k h l hk ⟨rfl,p,t,j,m⟩;obtain⟨h,rfl⟩:=fc p t j m;clear p t j m;have K:=cq (k:=k) F;by_cases v:k<a.length
  ·obtain⟨o,C,X⟩:=aP v;have H:=O o X;have R:=bU o.ay;have Q:=lY o.ay H.idsZ H.len;have B:(a.map au)[k]?=some (au o):=by rw[bW,C];rfl
   have T:(a.map au).flatten[k*11+1]?=some (ai o.ay):=lT I B F;have Y:ax (a.map au).flatten (k*11+1) [ai o.ay]=(a.map au).flatten:=by
    rw[po I B (show 1+[ai o.ay].length<=11 by simp)];rw[wT o];congr 1;exact g5 fun Z=>by
     by_cases e:k=Z
     ·subst e;rw[b1 (by simpa using v),B]
     ·rw[br e]
   have mp:=hw o.ay;simp[v,T];refine av Q (by simp[aq,R]) ?_;simp[Y,mp,K];exact⟨v,F,v⟩
  ·have W:k=a.length:=F;subst W;simp[ax];exact Wd (.same _ D) ((qW (enc:=au) (z:=11) (b:=3) (n:=a.length) (a:=a) (fun _ _=>rfl) rfl (by rfl)).q.jA dV g.opsZ (by rw[w];rfl) (by rw[w];rfl))
def eG (g:List Nat) (i:Nat) :Nat:=g.getD i 0
theorem zq {g:List Nat} {i n:Nat} (h:g[i]?=some n) :eG g i=n:=by unfold eG;rw[gA,h];rfl
theorem wK {g:List Nat} {i j n:Nat} (m:j<g.length) :eG (g.set j n) i=if i=j then n else eG g i:=by
 by_cases h:i=j
 ·subst h;rw[aj rfl];exact zq (b1 m)
 ·rw[ak h];unfold eG;rw[gA,gA,br (fun e=>h e.symm)]
def mZ:List Nat->Nat
 | []=>0
 | a::l=>a+mZ l
theorem Mb:∀ {l:List Nat} {j:Nat},j<l.length->mZ (l.set j (eG l j+1))=mZ l+1
 | a::l,0,_=>by show (a+1)+mZ l=a+mZ l+1;omega
 | a::l,j+1,h=>by
  have:=Mb (l:=l) (j:=j) (by simpa using h);show a+mZ (l.set j (eG l j+1))=a+mZ l+1;omega
theorem Ma {c:Nat}:∀ {l:List Nat},(∀ i,i<l.length->eG l i<=c)->mZ l<=c*l.length
 | [],_=>by simp[mZ]
 | a::l,h=>by
  have h1:=Ma (c:=c) (l:=l) fun i g=>h (i+1) (by simpa using g)
  have j:a<=c:=h 0 V;show a+mZ l<=c*(l.length+1)
  rw[Nat.mul_succ];omega
theorem X7 (n:Nat) :mZ (List.replicate n 0)=0:=by
 induction n with
 | zero=>rfl
 | succ n g=>rw[kk];show 0+_=0;omega
theorem Jq (n i:Nat) :eG (List.replicate n 0) i=0:=by unfold eG;rw[gA,AR];split<;>rfl
def gl (ps:List aU) (g:List Nat) (i:Nat) :List B:=bo (ds ps i).idsZ.l (eG g i)
def jv (ps:List aU) (g:List Nat) (i:Nat) (r:Option Nat) :Option Nat:=
 if eG g i<(ds ps i).idsZ.l.length then (match r with | none=>some i | some h=>if bJ (gl ps g i) (gl ps g h)<0 then some i else some h) else r
def kF (ps:List aU) (g:List Nat) :Nat->Option Nat
 | 0=>none
 | i+1=>jv ps g i (kF ps g i)
theorem IP (ps:List aU) (g:List Nat) (i:Nat) (r:Option Nat) :(¬ eG g i<(ds ps i).idsZ.l.length/\jv ps g i r=r)\/(eG g i<(ds ps i).idsZ.l.length/\((r=none/\jv ps g i r=some i)\/∃ j,r=some j/\((bJ (gl ps g i) (gl ps g j)<0/\jv ps g i r=some i)\/(¬ bJ (gl ps g i) (gl ps g j)<0/\jv ps g i r=some j)))):=by
 unfold jv;by_cases h:eG g i<(ds ps i).idsZ.l.length
 ·rw[aj h];right;refine⟨h,?_⟩;cases r with
  | none=>exact .inl ⟨rfl,rfl⟩
  | some j=>
   right;refine⟨j,rfl,?_⟩;by_cases m:bJ (gl ps g i) (gl ps g j)<0
   ·left;exact⟨m,by simp[m]⟩
   ·right;exact⟨m,by simp[m]⟩
 ·rw[ak h];exact .inl ⟨h,rfl⟩
theorem CO {ps:List aU} {g:List Nat}:∀ {k:Nat},kF ps g k=none->∀ i,i<k->¬ eG g i<(ds ps i).idsZ.l.length
 | 0,_,i,m=>F
 | k+1,h,i,m=>by
  change jv ps g k (kF ps g k)=none at h;rcases IP ps g k (kF ps g k) with ⟨h1,j⟩ | ⟨_,⟨_,j⟩ | ⟨o,_,⟨_,j⟩ | ⟨_,j⟩⟩⟩
  ·by_cases e:i=k
   ·subst e;exact h1
   ·exact CO (by rw[<-j];exact h) i F
  all_goals rw[j] at h;cases h
theorem ul {ps:List aU} {g:List Nat}:∀ {k j:Nat},kF ps g k=some j->j<k/\eG g j<(ds ps j).idsZ.l.length/\∀ i,i<k->eG g i<(ds ps i).idsZ.l.length->bJ (gl ps g j) (gl ps g i)<=0
 | 0,j,h=>by cases h
 | k+1,j,h=>by
  change jv ps g k (kF ps g k)=some j at h;rcases IP ps g k (kF ps g k) with ⟨h1,o⟩ | ⟨h1,⟨p,o⟩ | ⟨t,p,⟨u,o⟩ | ⟨u,o⟩⟩⟩
  ·rw[o] at h;obtain⟨a,b,c⟩:=ul h;exact⟨F,b,fun i q m=>by
    by_cases e:i=k
    ·subst e;exact bP m h1
    ·exact c i F m⟩
  ·rw[o] at h;obtain rfl:=cg h;exact⟨F,h1,fun i q m=>by
    by_cases e:i=k
    ·subst e;rw[k8];exact Int.le_refl _
    ·exact bP m (CO p i F)⟩
  ·rw[o] at h;obtain rfl:=cg h;obtain⟨a,b,c⟩:=ul p;exact⟨F,h1,fun i q m=>by
    by_cases e:i=k
    ·subst e;rw[k8];exact Int.le_refl _
    ·have w:=c i F m;by_cases v:bJ (gl ps g t) (gl ps g i)=0
     ·rw[<-og v];omega
     ·have:=oi _ _ _ u (show bJ (gl ps g t) (gl ps g i)<0 by omega);omega⟩
  ·rw[o] at h;obtain rfl:=cg h;obtain⟨a,b,c⟩:=ul p;exact⟨F,b,fun i q m=>by
    by_cases e:i=k
    ·subst e;have:=oh (gl ps g i) (gl ps g t);omega
    ·exact c i F m⟩
structure ng (ps:List aU) :Prop where
 len:∀ p∈ps,p.idsZ.l.length=p.opsZ.l.length
 bX:∀ p∈ps,bX p.idsZ.l=true
 Hf:∀ (i j:Nat) (x:List B) (p q:aU),ps[i]?=some p->ps[j]?=some q->x∈p.idsZ.l->x∈q.idsZ.l->i=j
structure rH (ps:List aU) (bA:List Nat) (g:List (List B × aG)) :Prop where
 nl:bA.length=ps.length
 le:∀ (i:Nat) (p:aU),ps[i]?=some p->eG bA i<=p.idsZ.l.length
 LJ:g.Pairwise fun a b=>eQ a.1 b.1=true
 I2:∀ q,q∈g<->∃ (i:Nat) (p:aU) (a:Nat),ps[i]?=some p/\a<eG bA i/\p.idsZ.l[a]?=some q.1/\p.opsZ.l[a]?=some q.2
 H2:∀ q∈g,∀ (i:Nat) (p:aU) (a:Nat) (x:List B),ps[i]?=some p->eG bA i<=a->p.idsZ.l[a]?=some x->eQ q.1 x=true
 eK:mZ bA=g.length
theorem Tw (ps:List aU) :rH ps (List.replicate ps.length 0) []:=
 ⟨V,fun i j _=>by rw[Jq];exact ek _,.nil,fun q=>⟨fun h=>(by cases h),fun ⟨i,j,a,_,h,_⟩=>by rw[Jq] at h;omega⟩,fun q g=>(by cases g),by rw[X7];rfl⟩
theorem Tu {ps:List aU} {t:List Nat} {g:List (List B × aG)} (h:rH ps t g) {c:Nat} (j:∀ p∈ps,p.idsZ.l.length<=c) :g.length<=c*ps.length:=by
 rw[<-h.eK,<-h.nl];refine Ma fun i m=>?_
 obtain⟨p,o,q⟩:=aP (l:=ps) (k:=i) (by rw[<-h.nl];exact m);exact dL (h.le i p o) (j p q)
theorem Tv {ps:List aU} (W:ng ps) {g:List Nat} {K:List (List B × aG)} (h:rH ps g K) {j:Nat} (ag:kF ps g ps.length=some j) {p:aU} (m:ps[j]?=some p) {x:List B} {o:aG} (w:p.idsZ.l[eG g j]?=some x) (Q:p.opsZ.l[eG g j]?=some o) :
  rH ps (g.set j (eG g j+1)) (K++[(x,o)]):=by
 obtain⟨h1,T,U⟩:=ul ag;have ai:=cE m;have v:j<g.length:=by rw[h.nl];exact h1
 rw[dt m] at T;have Z:gl ps g j=x:=by unfold gl;rw[dt m,dG w]
 have O:∀ i,i<ps.length->eG g i<=eG (g.set j (eG g j+1)) i:=fun i _=>by rw[wK v];split<;>simp_all
 refine⟨by rw[kj];exact h.nl,fun i q t=>?_,?_,fun q=>?_,fun q t i r a y u H C=>?_,?_⟩
 ·rw[wK v];split
  ·rename_i e;subst e;rw[m] at t;obtain rfl:=cg t;omega
  ·exact h.le i q t
 ·rw[rz];refine⟨h.LJ,AX _ _,fun a H b X=>?_⟩;rw[fB.1 X];exact h.H2 a H j p _ x m (aI _) w
 ·rw[fm,h.I2,fB];constructor
  ·rintro (⟨i,r,a,q1,G,D⟩ | e)
   ·exact⟨i,r,a,q1,mq G (O i (aK.1 q1).1),D⟩
   ·subst e;exact⟨j,p,eG g j,m,by rw[wK v,aj rfl];omega,w,Q⟩
  ·rintro⟨i,r,a,q1,G,D,I⟩;rw[wK v] at G;split at G
   ·rename_i e;subst e;rw[m] at q1;obtain rfl:=cg q1;by_cases e:a=eG g i
    ·right;rw[e,w] at D;rw[e,Q] at I;rw[cg D,cg I]
    ·exact .inl ⟨i,p,a,m,F,D,I⟩
   ·exact .inl ⟨i,r,a,q1,G,D,I⟩
 ·have ae:eG g i<=a:=dL (O i (aK.1 u).1) H;rcases fm.1 t with t | t
  ·exact h.H2 q t i r a y u ae C
  ·rw[fB.1 t];by_cases e:i=j
   ·subst e;rw[m] at u;obtain rfl:=cg u;rw[wK v,aj rfl] at H;exact (h5 _ _).2 (j6 (W.bX p ai) (show eG g i<a by omega) w C)
   ·have ak:=cE u;have am:=(aK.1 C).1;obtain⟨z,J,al⟩:=aP (l:=r.idsZ.l) (k:=eG g i) F;have V:=U i (aK.1 u).1 (by rw[dt u];omega);have Y:gl ps g i=z:=by unfold gl;rw[dt u,dG J]
    rw[Z,Y] at V;have ao:bJ x z≠0:=fun R=>e (by
     have:=og R;subst this;exact W.Hf i j x r p u m al (cE w))
    have P:eQ x z=true:=(h5 _ _).2 F;by_cases S:a=eG g i
    ·rw[S,J] at C;rw[<-cg C];exact P
    ·exact um _ _ _ P ((h5 _ _).2 (j6 (W.bX r ak) (show eG g i<a by omega) J C))
 ·rw[Mb v,h.eK,cr];rfl
theorem Ts {ps:List aU} {t:List Nat} {o:List (List B × aG)} (h:rH ps t o) (u:kF ps t ps.length=none) (q:List B × aG) :q∈o<->∃ p∈ps,∃ a:Nat,p.idsZ.l[a]?=some q.1/\p.opsZ.l[a]?=some q.2:=by
 rw[h.I2];constructor
 ·rintro⟨i,p,a,h1,_,g,j⟩;exact⟨p,cE h1,a,g,j⟩
 ·rintro⟨p,v,a,g,j⟩;obtain⟨i,m⟩:=cj.1 v;have:=CO u i (aK.1 m).1;rw[dt m] at this;have:=(aK.1 g).1;exact⟨i,p,a,m,F,g,j⟩
theorem zF {l m:List (List B × aG)} (g:l.Pairwise fun a b=>eQ a.1 b.1=true) (j:m.Pairwise fun a b=>eQ a.1 b.1=true) (h:∀ q,q∈l<->q∈m) :l=m:=
 Ep (lt:=fun a b:List B × aG=>eQ a.1 b.1) (fun a=>CP a.1) (fun a b c=>um a.1 b.1 c.1) g j h
theorem F9 {p:aU} (t:p.idsZ.l.length=p.opsZ.l.length) (m:bX p.idsZ.l=true) {x:List B} {o:aG}:iH p x=some o<->∃ a:Nat,p.idsZ.l[a]?=some x/\p.opsZ.l[a]?=some o:=by
 constructor
 ·intro h;unfold iH at h;split at h
  ·rename_i q;obtain⟨a,g⟩:=cj.1 ((ny x p.idsZ.l 0).1 q.1);rw[uf (mH m) g,fA] at h;exact⟨a,g,h⟩
  ·cases h
 ·rintro⟨a,g,j⟩;unfold iH;have:=(aK.1 j).1;rw[uf (mH m) g,aj ⟨F,F⟩,fA];exact j
theorem F8 {p:aU} {x:List B} {o:aG} (h:iH p x=some o) :x∈p.idsZ.l:=by
 unfold iH at h;split at h
 ·rename_i g;exact (ny x p.idsZ.l 0).1 g.1
 ·cases h
theorem M5 {ps:List aU} (W:ng ps) {x:List B}:∀ {k:Nat},k<=ps.length->(gy ps x k).Pairwise fun a b=>eQ a.1 b.1=true
 | 0,_=>.nil
 | k+1,hk=>by
  obtain⟨j,g,_⟩:=aP (l:=ps) (k:=k) F;have u:=M5 W (x:=x) (k:=k) F;show (gy ps x k++(match iH (ds ps k) x with | some h=>[(x,h)] | none=>[])).Pairwise _;rw[dt g];cases p:iH j x with
  | none=>simpa using u
  | some h=>
   have:gy ps x k=[]:=List.eq_nil_iff_forall_not_mem.2 fun q t=>by
    obtain⟨v,r,h1,m,o,w⟩:=(Ay F).1 t;have:=W.Hf v k x r j m g (F8 o) (F8 p);omega
   rw[this];exact AX _ _
theorem M3 {ps:List aU} (W:ng ps) {idsZ:aO} (g:bX idsZ=true) :∀ {i:Nat},i<=idsZ.length->(hF ps idsZ i).Pairwise fun a b=>eQ a.1 b.1=true
 | 0,_=>.nil
 | i+1,q=>by
  obtain⟨x,h,_⟩:=aP (l:=idsZ) (k:=i) F;show (hF ps idsZ i++gy ps (bo idsZ i) ps.length).Pairwise _;rw[dG h,rz];refine⟨M3 W g F,M5 W (aI _),fun a o b p=>?_⟩;obtain⟨u,h1,j,_⟩:=(Ax F).1 o;obtain⟨t,v,_,_,_,m⟩:=(Ay (aI _)).1 p;rw[m];exact (h5 _ _).2 (j6 g h1 j h)
theorem xF {s:ck} (W:ng s.al.l) :(bD s).Pairwise fun a b=>eQ a.1 b.1=true:=M3 W (XT _) (aI _)
theorem nP {s:ck} (W:ng s.al.l) (q:List B × aG) :q∈bD s<->∃ p∈s.al.l,∃ a:Nat,p.idsZ.l[a]?=some q.1/\p.opsZ.l[a]?=some q.2:=by
 unfold bD;rw[Ax (aI _)];constructor
 ·rintro⟨a,_,_,p,g,h⟩;exact⟨p,g,(F9 (W.len p g) (W.bX p g)).1 h⟩
 ·rintro⟨p,g,a,h1,o⟩;have:q.1∈fz s:=by
   unfold fz;obtain⟨t,j⟩:=cj.1 g;rw[LQ,Bl (aI _)];exact⟨t,p,(aK.1 j).1,j,cE h1⟩
  obtain⟨u,m⟩:=cj.1 this;exact⟨u,(aK.1 m).1,m,p,g,(F9 (W.len p g) (W.bX p g)).2 ⟨a,h1,o⟩⟩
theorem Tt {s:ck} (W:ng s.al.l) {j:List Nat} {g:List (List B × aG)} (h:rH s.al.l j g) (m:kF s.al.l j s.al.l.length=none) :g=bD s:=
 zF h.LJ (xF W) fun q=>by rw[Ts h m,nP W]
def nO (ps:List aU) :Bool:=decide (∀ g∈ps,g.idsZ.l.length=g.opsZ.l.length/\bX g.idsZ.l=true)
theorem jI {ps:List aU}:nO ps=true<->∀ p∈ps,p.idsZ.l.length=p.opsZ.l.length/\bX p.idsZ.l=true:=decide_eq_true_iff
def kH (ps:List aU) :Bool:=decide (∀ i,i<ps.length->∀ x∈(ds ps i).idsZ.l,num x ps.length=i)
theorem wH {ps:List aU} (h:kH ps=true) (i j:Nat) (x:List B) (p q:aU) (g:ps[i]?=some p) (m:ps[j]?=some q) (o:x∈p.idsZ.l) (t:x∈q.idsZ.l) :i=j:=by unfold kH at h;rw[bC] at h;have h1:=h i (aK.1 g).1 x (by rw[dt g];exact o);have u:=h j (aK.1 m).1 x (by rw[dt m];exact t);omega
theorem we {s:bV} {k:Nat} {x:List B} (h:s.l[k]?=some x) :bO (.ad 32) (ai s) (.i6 (k:Int))=some (.b0 (ar x) 0):=by simp[ai,h]
theorem Ia {s:bL aG} {k:Nat} {x:aG} (h:s.l[k]?=some x) :bO (.ad 11) (bF s) (.i6 (k:Int))=some (.b0 (au x) 0):=by simp[bF,h]
theorem Tb {ps:List aU} {g:List Nat} {i:Nat} {r:Option Nat} (h:¬ eG g i<(ds ps i).idsZ.l.length) :jv ps g i r=r:=by unfold jv;rw[ak h]
theorem S8 {ps:List aU} {g:List Nat} {i:Nat} (h:eG g i<(ds ps i).idsZ.l.length) :jv ps g i none=some i:=by unfold jv;rw[aj h]
theorem Ta {ps:List aU} {g:List Nat} {i j:Nat} (h:eG g i<(ds ps i).idsZ.l.length) (m:bJ (gl ps g i) (gl ps g j)<0) :jv ps g i (some j)=some i:=by unfold jv;rw[aj h];simp[m]
theorem S9 {ps:List aU} {g:List Nat} {i j:Nat} (h:eG g i<(ds ps i).idsZ.l.length) (m:¬ bJ (gl ps g i) (gl ps g j)<0) :jv ps g i (some j)=some j:=by unfold jv;rw[aj h];simp[m]
def wx:Option Nat->Int
 | none=>-1
 | some g=>g
def kv (g:List Nat) :ag:=g.map fun (n:Nat)=>U.i6 (n:Int)
structure vo (s:ck) (g w2:U) (bA:List Nat) (l:ae) :Prop where
 ls:l[0]?=some (.q 3 (bQ s))
 q1:l[1]?=some (.q 2 [.af,.af])
 sw:l[2]?=some (.q 2 [g,w2])
 sx:l[3]?=some (.q s.al.l.length (kv bA))
structure x3 (s:ck) (sgZ:aR) :Prop where
 fp:sgZ 1=.ptr 0 0 3
 iI:sgZ 2=.ptr 1 0 2
 jq:sgZ 3=.bool false
 kz:sgZ 4=.ptr 2 0 2
 kA:sgZ 5=.ad 1 3 0 s.al.l.length s.al.l.length s.al.l.length
def sk (s:ck) :U:=if nO s.al.l=true then .a1 [cH (bG (bD s)),.bool true] else .a1 [cH ⟨none,none⟩,.bool false]
theorem Tq (s:ck) (aJ:g9 s) (dh:∀ (i j:Nat) (x:List B) (p q:aU),s.al.l[i]?=some p->s.al.l[j]?=some q->x∈p.idsZ.l->x∈q.idsZ.l->i=j) :aY 251 [.ah (bQ s)] (sk s):=by
 apply bc func251 [[],[],db 0 15++db 16 15++[[15,30,29,27,23,19,17],[32],[31]]];have az:=dF;have cc:=pD s.al;have dV:=aJ.ln;have a4:(bQ s).length=3:=rfl;have aS:∀ h,(bQ s)[0]'h=e9 s.al:=fun _=>rfl
 obtain⟨aQ,a8⟩:=wB (z:=1) (by_:=8) (n:=s.al.l.length) (k:=.i64) (k':=.i64) (zero:=[U.i6 0]) (l:=[.q 3 (bQ s),.q 2 [.af,.af],.q 2 [.af,.af]]) rfl F (by rw[az];omega);simp only[nX] at aQ a8;simp[a4,aS,cc] at aQ ⊢;simp[aQ,aS,a4,cc];have cQ:cD [U.i6 0] s.al.l.length=kv (List.replicate s.al.l.length 0):=by
  rw[w9];unfold kv;rw[xT];generalize s.al.l.length=n
  induction n with
  | zero=>rfl
  | succ n dz=>rw[kk,kk,g6,dz];rfl
 rw[cQ];have b4:nO s.al.l=false->sk s=.a1 [.ah [.af,.af],.bool false]:=fun h=>by unfold sk;rw[h];rfl
 refine bz s.al.l.length (fun i o l=>x3 s o/\o 17=e9 s.al/\o 18=.i6 s.al.l.length/\o 19=.i6 i/\vo s .af .af (List.replicate s.al.l.length 0) l/\∀ (j:Nat) (p:aU),j<i->s.al.l[j]?=some p->p.idsZ.l.length=p.opsZ.l.length/\bX p.idsZ.l=true) ?_ ⟨⟨V,V,V,V,V⟩,V,V,V,⟨rfl,rfl,rfl,rfl⟩,fun j _ bL=>F⟩;rintro i o l b8 ⟨⟨G,H,I,J,K⟩,bd,bg,bh,hH,b7⟩;obtain⟨o,rfl⟩:=As G H I J K bd bg bh;clear G H I J K bd bg bh;have ak:=cq (k:=i) F;by_cases D:i<s.al.l.length
 ·obtain⟨p,w,bs⟩:=aP D;obtain⟨bP,dr,du⟩:=aJ.al p bs;have bm:=mG w;have aB:∀ h,(bf p)[0]'h=ai p.idsZ:=fun _=>rfl
  have cA:∀ h,(bf p)[1]'h=bF p.opsZ:=fun _=>rfl
  have aC:(bf p).length=2:=rfl;have bi:(bf p).take 2=bf p:=rfl;have aG:bx (.ad 32) (ai p.idsZ)=_:=cd _;have dn:bx (.ad 11) (bF p.opsZ)=_:=cd _;have u:∀ a9:am,(l++[a9])[2]?=some (.q 2 [.af,.af]):=fun a9=>by rw[aV (a2 hH.sw)];exact hH.sw
  have v:∀ a9:am,(l++[a9])[1]?=some (.q 2 [.af,.af]):=fun a9=>by rw[aV (a2 hH.q1)];exact hH.q1
  have cn:(l++[am.q 2 (bf p)])[l.length]?=some (.q 2 (bf p)):=qd;have c9:∀ c:am,vo s .af .af (List.replicate s.al.l.length 0) (l++[c]):=fun c=>⟨by rw[aV (a2 hH.ls)];exact hH.ls,v c,u c,by rw[aV (a2 hH.sx)];exact hH.sx⟩
  have cZ:∀ c c' : am,((l++[c]).set 1 c')[1]?=some c':=fun c c'=>b1 (by rw[cr];have:=a2 hH.q1;omega)
  have bt:ax [U.af,.af] 0 (bf p)=bf p:=cI rfl;simp[D,bm,aB,cA,aC,bi,bt,aG,dn];by_cases h1:p.idsZ.l.length=p.opsZ.l.length
  ·simp[h1];obtain⟨L,ap⟩:=ao (l++[am.q 2 (bf p)]);have bj:=c9 (am.q 2 (bf p));have c2:=v (am.q 2 (bf p));have c3:=u (am.q 2 (bf p));have c0:=cZ (am.q 2 (bf p));rw[<-ap] at bj cn c2 c3 c0 ⊢;refine bz p.idsZ.l.length (fun g o cT=>cT=L/\x3 s o/\o 7=.ptr l.length 0 2/\o 8=.i6 (g+1:Nat)/\o 17=e9 s.al/\o 18=.i6 s.al.l.length/\o 19=.i6 i/\∀ k,k<p.idsZ.l.length->1<=k->k<g+1->bJ (bo p.idsZ.l (k - 1)) (bo p.idsZ.l k)<0) ?_ ⟨rfl,⟨V,V,V,V,V⟩,V,V,V,V,V,fun k _ _ _=>F⟩;rintro g o cT dU ⟨rfl,⟨G,H,I,J,K⟩,cw,cy,bd,bg,bh,cS⟩;obtain⟨o,rfl⟩:=MD G H I J K cw cy bd bg bh;clear G H I J K cw cy bd bg bh;have bb:IntKind.i64.wrap (((g+1:Nat) :Int)+1)=((g+1+1:Nat) :Int):=by rw[IntKind.wrap_i64];omega
   have bY:IntKind.i64.wrap (((g+1:Nat) :Int) - 1)=(g:Int):=by rw[IntKind.wrap_i64];omega
   by_cases cN:g+1<p.idsZ.l.length
   ·obtain⟨x,P,bw⟩:=aP (l:=p.idsZ.l) (k:=g) F;obtain⟨y,C,ci⟩:=aP (l:=p.idsZ.l) (k:=g+1) F;have bp:((g+1:Nat) :Int)<p.idsZ.l.length:=F;have aO:=bP.idsZ x bw;have bA:=bP.idsZ y ci;have Q:=bu aO;have bC:=bu bA;have bv:=c4 x;have bB:=c4 y;have ay:bO (.ad 32) (ai p.idsZ) _=_:=dg P;have a3:=we C;have S:=qC x y aO bA;change aY _ [.ah (ar x),.ah (ar y)] _ at S;obtain⟨X,aW⟩:=ao (ar x);obtain⟨Y,aX⟩:=ao (ar y);rw[<-aW] at Q bv ay S;rw[<-aX] at bC bB a3 S;obtain⟨M,O⟩:=ao (((g+1:Nat) :Int) :Int);rw[<-O] at bb bY bp a3 ⊢;simp[cn,aC,aB,aG,bp,bY,ay,a3,Q,bC,aL];refine av S (by simp[aq,U.aw,bv,bB]) ?_;by_cases aH:bJ x y<0
    ·have:¬ 0<=bJ x y:=F;simp[this,bb];refine⟨F,⟨V,V,V,V,V⟩,fun k h1 bZ dP=>?_⟩;by_cases hk:k=g+1
     ·subst hk;rw[show g+1 - 1=g by omega,P,C];exact aH
     ·exact cS k h1 bZ F
    ·have c7:0<=bJ x y:=F;have aN:nO s.al.l=false:=cC fun h=>aH (by
      have:=j6 (h p bs).2 (show g<g+1 by omega) P C;exact this)
     rw[b4 aN];simp[c7,c3,c2,c0,ax];exact aE
   ·have bp:¬ ((g+1:Nat) :Int)<p.idsZ.l.length:=F;obtain⟨M,O⟩:=ao (((g+1:Nat) :Int) :Int);rw[<-O] at bb bY bp ⊢;simp[cn,aC,aB,aG,bp,ak];refine⟨D,⟨V,V,V,V,V⟩,bj,fun j q bL ch=>?_⟩;by_cases dj:j=i
    ·subst dj;rw[w] at ch;obtain rfl:=cg ch;exact⟨h1,uM fun k h1 bZ=>cS k h1 bZ F⟩
    ·exact b7 j q F ch
  ·have aN:nO s.al.l=false:=cC fun h=>h1 (h p bs).1
   have c8:¬ (p.idsZ.l.length:Int)=p.opsZ.l.length:=F;rw[b4 aN];simp[c8,u,v,cZ,ax];exact aE
 ·have ca:i=s.al.l.length:=F;subst ca;have aN:nO s.al.l=true:=jI.2 fun p w=>by
   obtain⟨j,bL⟩:=cj.1 w;exact b7 j p (aK.1 bL).1 bL
  have W:ng s.al.l:=⟨fun p w=>(jI.1 aN p w).1,fun p w=>(jI.1 aN p w).2,dh⟩
  have cO:sk s=.a1 [cH (bG (bD s)),.bool true]:=by unfold sk;rw[aN];rfl
  rw[cO];clear b7 b4 cO b8 D ak a8 aQ cQ;simp;refine bz 100000 (fun k o l=>x3 s o/\∃ m t v u jt jY,vo s v u m l/\gj l v u jt jY 4 (t.map (·.1)) (t.map (·.2))/\rH s.al.l m t/\t.length=k) ?_ ⟨⟨V,V,V,V,V⟩,List.replicate s.al.l.length 0,[],.af,.af,0,0,hH,by simpa using Da _ 4,Tw _,rfl⟩;clear hH;rintro k o l hk ⟨⟨G,H,I,J,K⟩,m,t,v,u,jt,jY,hH,Z,O,dl⟩;obtain⟨o,rfl⟩:=gx G H I J K;clear G H I J K;have dQ:t.length<=1000:=by have:=Tu O (c:=100) (fun p w=>(aJ.al p w).2.1);omega
  have aj:=hH.ls;simp[aj,a4,aS,cc];refine bz s.al.l.length (fun i o l=>x3 s o/\o 9=.i6 (wx (kF s.al.l m i))/\o 54=e9 s.al/\o 55=.i6 s.al.l.length/\o 56=.i6 i/\vo s v u m l/\gj l v u jt jY 4 (t.map (·.1)) (t.map (·.2))) ?_ ⟨⟨V,V,V,V,V⟩,by simp;rfl,V,V,V,hH,Z⟩;clear hH Z aj;rintro i o l b8 ⟨⟨G,H,I,J,K⟩,cz,ct,cu,cv,hH,Z⟩;obtain⟨o,rfl⟩:=ES G H I J K cz ct cu cv;clear G H I J K cz ct cu cv;have ak:=cq (k:=i) F;by_cases D:i<s.al.l.length
  ·obtain⟨p,w,bs⟩:=aP D;obtain⟨bP,dr,du⟩:=aJ.al p bs;have bm:=mG w;have aB:∀ h,(bf p)[0]'h=ai p.idsZ:=fun _=>rfl
   have cA:∀ h,(bf p)[1]'h=bF p.opsZ:=fun _=>rfl
   have aC:(bf p).length=2:=rfl;have bi:(bf p).take 2=bf p:=rfl;have aG:bx (.ad 32) (ai p.idsZ)=_:=cd _;have bt:ax [U.af,.af] 0 (bf p)=bf p:=cI rfl;obtain⟨L,ap⟩:=ao (l++[am.q 2 (bf p)]);have wp:L[l.length]?=some (.q 2 (bf p)):=by rw[ap];exact qd
   have aR:vo s v u m L:=by
    rw[ap];exact⟨by rw[aV (a2 hH.ls)];exact hH.ls,by rw[aV (a2 hH.q1)];exact hH.q1,by rw[aV (a2 hH.sw)];exact hH.sw,by rw[aV (a2 hH.sx)];exact hH.sx⟩
   have T:gj L v u jt jY 4 (t.map (·.1)) (t.map (·.2)):=by rw[ap];exact Z.frame fun b _ aF=>aV aF
   have cP:=O.nl;obtain⟨a,cF⟩:∃ a,m[i]?=some a:=⟨_,bI (by rw[cP];exact D)⟩
   have bN:=zq cF;have dm:=O.le i p w;rw[bN] at dm;have b5:(kv m)[i]?=some (.i6 (a:Int)):=by unfold kv;rw[bW,cF];rfl
   have R:=aR.sx;have b6:=dt w;have ag:kF s.al.l m (i+1)=jv s.al.l m i (kF s.al.l m i):=rfl;by_cases aZ:a<p.idsZ.l.length
   ·have bk:eG m i<(ds s.al.l i).idsZ.l.length:=by rw[bN,b6];exact aZ
    obtain⟨x,P,bw⟩:=aP aZ;have cJ:gl s.al.l m i=x:=by unfold gl;rw[b6,bN,dG P]
    cases aD:kF s.al.l m i with
    | none=>
     rw[aD,S8 bk] at ag;have aM:wx none=-1:=rfl;rw[aM];simp[D,bm,aC,bi,bt,<-ap,wp,R,aB,aG,b5,aZ,ak];exact⟨⟨V,V,V,V,V⟩,by rw[ag];rfl,aR,T⟩
    | some j=>
     rw[aD] at ag;obtain⟨bV,aA,c6⟩:=ul aD;obtain⟨r,az,bR⟩:=aP (l:=s.al.l) (k:=j) F;have bK:=dt az;rw[bK] at aA;obtain⟨y,C,ci⟩:=aP aA;have cK:gl s.al.l m j=y:=by unfold gl;rw[bK];exact dG C
     obtain⟨b,aF⟩:∃ b,m[j]?=some b:=⟨_,bI (by rw[cP];omega)⟩
     have ce:=zq aF;rw[ce] at C;have bl:(kv m)[j]?=some (.i6 (b:Int)):=by unfold kv;rw[bW,aF];rfl
     have b9:=mG az;have b3:(bf r)[0]?=some (ai r.idsZ):=rfl;have aO:=bP.idsZ x bw;have bA:=(aJ.al r bR).1.idsZ y ci;have Q:=bu aO;have bC:=bu bA;have bv:=c4 x;have bB:=c4 y;have ay:=we P;have a3:=we C;have S:=qC x y aO bA;change aY _ [.ah (ar x),.ah (ar y)] _ at S;obtain⟨X,aW⟩:=ao (ar x);obtain⟨Y,aX⟩:=ao (ar y);rw[<-aW] at Q bv ay S;rw[<-aX] at bC bB a3 S;have aM:wx (some j)=(j:Int):=rfl;rw[aM];have cb:¬ (j:Int)<0:=F;have aj:=aR.ls;have bM:j<s.al.l.length:=F;simp[D,bm,aC,bi,bt,<-ap,wp,R,aB,aG,b5,aZ,cb,ay,a3,aj,a4,aS,b9,b3,bl,Q,bC,aL];refine⟨bM,av S (by simp[aq,U.aw,bv,bB]) ?_⟩;by_cases aH:bJ x y<0
     ·rw[Ta bk (by rw[cJ,cK];exact aH)] at ag;simp[aH,ak];exact⟨D,⟨V,V,V,V,V⟩,by rw[ag];rfl,aR,T⟩
     ·rw[S9 bk (by rw[cJ,cK];exact aH)] at ag;simp[aH,ak];exact⟨D,⟨V,V,V,V,V⟩,by rw[ag];rfl,aR,T⟩
   ·have bk:¬ eG m i<(ds s.al.l i).idsZ.l.length:=by rw[bN,b6];exact aZ
    rw[Tb bk] at ag;simp[D,bm,aC,bi,bt,<-ap,wp,R,aB,aG,b5,aZ,ak];exact⟨⟨V,V,V,V,V⟩,by rw[ag],aR,T⟩
  ·have ca:i=s.al.l.length:=F;subst ca;clear b8 D ak;cases aD:kF s.al.l m s.al.l.length with
   | none=>
    have da:=Tt W O aD;have aM:wx none=-1:=rfl;rw[aM];have di:ff (bG (bD s)):=xD aJ;have cR:=L8 _ di;have cG:=ph (bG (bD s));have a7:=hH.sw;unfold cH bf bG at cR cG;subst da;simp[a7];refine Z.call fun a5 eb dD=>?_
    have bS:a5[1]?=some (.q 2 [.af,.af]):=by rw[dD 1 F];exact hH.q1
    have cl:∀ c:am,(a5.set 1 c)[1]?=some c:=fun c=>b1 (a2 bS)
    refine av cR (by simp[aq,cG]) ?_;have cW:=hw (cL ((bD s).map (·.1)));have cX:=pd (cL ((bD s).map (·.2)));simp[bS,cl,ax];exact aT rfl (by simp[U.aw,aq];exact ph _)
   | some j=>
    obtain⟨bV,aA,c6⟩:=ul aD;obtain⟨r,az,bR⟩:=aP bV;have bK:=dt az;rw[bK] at aA;obtain⟨dv,dY,dZ⟩:=aJ.al r bR;have dX:=W.len r bR;obtain⟨x,P,bw⟩:=aP aA;obtain⟨a6,cf,dW⟩:=aP (l:=r.opsZ.l) (k:=eG m j) F;have bj:=Tv W O aD az P cf;obtain⟨b,aF⟩:∃ b,m[j]?=some b:=⟨_,bI (by rw[O.nl];omega)⟩
    have ce:=zq aF;rw[ce] at P cf bj aA;have bl:(kv m)[j]?=some (.i6 (b:Int)):=by unfold kv;rw[bW,aF];rfl
    have b9:=mG az;have b3:(bf r)[0]?=some (ai r.idsZ):=rfl;have cB:(bf r)[1]?=some (bF r.opsZ):=rfl;have aO:=dv.idsZ x bw;have Q:=bu aO;have ay:=we P;have cM:=Ia cf;have T:(au a6).length=11:=rfl;have aM:wx (some j)=(j:Int):=rfl;rw[aM];have cb:¬ (j:Int)<0:=F;have bM:j<s.al.l.length:=bV;obtain⟨X,aW⟩:=ao (ar x);obtain⟨Y,aX⟩:=ao (au a6);have dc:=aW;rw[<-aW] at Q ay;rw[<-aX] at T cM;have dd:X.take 32=X:=aL F;have cE:Y.take 11=Y:=aL F;have dy:ax (bT 32 (.int .u8 0)) 0 X=X:=cI (by rw[Q];rfl);have dx:ax [U.int .u32 0,.af,.int .u64 0,.int .u8 0,.str [],.int .u8 0,.i6 0,.int .u64 0,.str [],.int .u32 0,.int .u32 0] 0 Y=Y:=cI (by rw[T];rfl);have aj:=hH.ls;have a7:=hH.sw;have R:=hH.sx;have ea:=a2 R;have bU:∀ (g:ae) (i:Nat) (c:am),l[i]?=some c->(l++g)[i]?=some c:=fun g i c h=>by rw[aV (a2 h)];exact h
    have dJ:∀ g:ae,(l++g)[0]?=some (.q 3 (bQ s)):=fun g=>bU g 0 _ aj
    have dK:∀ g:ae,(l++g)[2]?=some (.q 2 [v,u]):=fun g=>bU g 2 _ a7
    have dL:∀ g:ae,(l++g)[3]?=some (.q s.al.l.length (kv m)):=fun g=>bU g 3 _ R
    have dM:∀ (g:ae) (h:0<(l++g).length),(l++g)[0]'h=.q 3 (bQ s):=fun g h=>(aK.1 (dJ g)).2
    have dq:gj (l++[am.q 32 X,.q 11 Y]) v u jt jY 4 (t.map (·.1)) (t.map (·.2)):=Z.frame fun c _ a0=>aV a0
    obtain⟨bE,dA,cU,aQ,a8,dN,cp,dO⟩:=dq.Ic (c:=l.length) dc Q V (by simp;omega) (by rw[cx];omega);simp[aj,a4,aS,cb,b9,b3,cB,a7,R,dM,dK,dL,bl,bM,ay,Q,dd,dy,cM,T,cE,dx,aQ];have dC:=Z.hB.lt;have de:v=.af\/4<=jt:=Z.ob;have df:u=.af\/4<=jY:=Z.oc;have f:∀ (c:Nat) (y:am),c<4->l[c]?=some y->cU[c]?=some y:=fun c y a0 C=>by
     rw[cp c (by have:=a2 C;simp;omega) (by rcases de with e | e;exact .inl e;exact .inr F),aV (a2 C)];exact C
    have cs:cU[l.length+1]?=some (.q 11 Y):=by
     rw[cp (l.length+1) V (by rcases dC with e | e;exact .inl e;exact .inr F)];simp
    have dS:=a2 (f 3 _ F R);obtain⟨cm,dB,a5,d1,d2,d3,d4⟩:=a8.JH (c:=l.length+1) aX cs F (by rw[cx];omega);have bH:∀ (c:Nat) (y:am),c<4->l[c]?=some y->a5[c]?=some y:=fun c y a0 C=>by
     rw[d4 c (a2 (f c y a0 C)) (by rcases df with e | e;exact .inl e;exact .inr F)];exact f c y a0 C
    have dE:=bH 0 _ F aj;have bS:=bH 1 _ F hH.q1;have cl:=bH 2 _ F a7;have cY:=bH 3 _ F R;have f2:=f 2 _ F a7;have f0:=f 0 _ F aj;have f3:=f 3 _ F R;have dT:=a2 cY;refine b2.bq ?_;simp[f0,f2,f3,cs,a4,aS,d1,T,cE];refine⟨⟨bl,cB⟩,b2.bq ?_⟩;have cW:=sr a8.hB;have cX:=sr d2.iw;have c1:∀ c:am,(a5.set 2 c)[2]?=some c:=fun c=>b1 F
    have dH:∀ c:am,(a5.set 2 c)[3]?=some (.q s.al.l.length (kv m)):=fun c=>by rw[br F];exact cY
    have dR:b<r.idsZ.l.length:=aA;have bb:IntKind.i64.wrap ((b:Int)+1)=(b:Int)+1:=by rw[IntKind.wrap_i64];omega
    have dk:j<m.length:=by rw[O.nl];omega
    have dw:ax (kv m) j [U.i6 ((b:Int)+1)]=kv (m.set j (b+1)):=by
     rw[LN (by unfold kv;simpa using dk)];unfold kv;rw[List.map_set];rfl
    have dI:ax [v,u] 0 [bE]=[bE,u]:=V;have ec:ax [bE,u] 1 [cm]=[bE,cm]:=V;have cN:(t.map (·.1))++[x]=(t++[(x,a6)]).map (·.1):=by rw[c5];rfl
    have dp:(t.map (·.2))++[a6]=(t++[(x,a6)]).map (·.2):=by rw[c5];rfl
    rw[cN,dp] at d2;simp[cl,c1,dH,cW,cX,dI,bl,bb,dw];refine⟨bM,F,F,⟨V,V,V,V,V⟩,m.set j (b+1),t++[(x,a6)],bE,cm,⟨?_,?_,?_,?_⟩,⟨dA,dB,?_⟩,bj,by rw[cr,dl];rfl⟩
    ·rw[br F,br F];exact dE
    ·rw[br F,br F];exact bS
    ·rw[br F];exact c1 _
    ·exact b1 (by simp;omega)
    ·exact d2.frame fun c a0 _=>by rw[br F,br F]
end Op
end Go.bh

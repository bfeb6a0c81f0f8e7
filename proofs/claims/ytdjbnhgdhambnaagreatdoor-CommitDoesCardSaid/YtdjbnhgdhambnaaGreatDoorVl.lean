/-
  An operation put into an index, in the program, walked: where it may be put.
-/
import Derived.Test.YtdjbnhgdhambnaaGreatDoorVk
import Derived.RangeFuncNested
import Derived.RangeFuncBound
import Derived.RangeFuncCalls
import Derived.RangeFuncLeaves
import Derived.OwnWalkIn
import Derived.LoopNIn
import Derived.Shelf.Abstract
set_option maxHeartbeats 16000000
set_option maxRecDepth 100000
set_option linter.unusedVariables false
set_option linter.unusedSimpArgs false
set_option linter.unnecessarySimpa false
namespace Go.bh
open Go Go.Proofs Go.Proofs.Tryz
namespace Op
open cl
def m0 (ps:List aW) (g:Nat) (h w2:U) (k:Nat) :List (ag):=(List.range k).map fun i=>if i=g then [h,w2] else bb (dp ps i)
theorem K0 (ps:List aW) (g:Nat) (h w2:U) (k:Nat) :m0 ps g h w2 (k+1)=m0 ps g h w2 k++[if k=g then [h,w2] else bb (dp ps k)]:=by simp[m0,td]
theorem WR {ps:List aW} {g k:Nat} (h:k<=g) (p w2 m o:U) :m0 ps g p w2 k=m0 ps g m o k:=by
 unfold m0;refine mr fun i j=>?_
 have:=g3.1 j;rw[ai F,ai F]
theorem Ak (ps:List aW) (g:Nat) (h w2:U) (k:Nat) :(m0 ps g h w2 k).length=k:=by simp[m0]
theorem KZ {ps:List aW} {g:Nat} {j w2:U} {k i:Nat} (h:i<k) :(m0 ps g j w2 k)[i]?=some (if i=g then [j,w2] else bb (dp ps i)):=by unfold m0;rw[b0,hn h];rfl
def wX (j:Nat) (w:U) :Prop:=∀ m b n g h,w=.Z m b 0 n g h->b≠j
structure N0 (s:cf) (x:List B) (N j:Nat) (g w2:U) (l:ae) :Prop where
 hB:eW 32 ao l (N+1) g (eY s x).idsZ
 iC:eW 11 aw l (N+1) w2 (eY s x).opsZ
 ap:Gc g w2
 m1:g.cells=some [g]
 m2:w2.cells=some [w2]
 f1:wX j g
 f2:wX j w2
structure NZ (s:cf) (x:List B) (o:aK) (N k:Nat) (sgZ:aS) (l:ae) :Prop where
 hP:sgZ 2=.ptr 0 0 3
 hQ:sgZ 3=.ptr 1 0 11
 iq:sgZ 4=.ptr 2 0 3
 kJ:sgZ 5=.ptr 3 0 32
 oI:sgZ 8=.ptr 4 0 32
 CA:sgZ 10=.i6 (num x s.aj.l.length:Nat)
 H2:sgZ 11=.i6 (dS (eY s x).idsZ.l x:Nat)
 Rs:sgZ 14=.ptr N 0 3
 aaP:sgZ 66=dn s.aj
 aaQ:sgZ 67=.i6 s.aj.l.length
 aaR:sgZ 68=.i6 k
 lA:l[0]?=some (.q 3 (bG s))
 q1:l[1]?=some (.q 11 (aw o))
 sB:l[2]?=some (.q 3 [.ad,.ad,.i6 0])
 sC:l[3]?=some (.q 32 (bZ 32 (.int .u8 0)))
 acY:l[4]?=some (.q 32 (ao x))
 aaV:5<=N
 ex:∃ v j g w2,l[N]?=some (.q 3 [v,.ad,.i6 (s.bN+1)])/\aH 2 l v j (m0 s.aj.l (num x s.aj.l.length) g w2 k)/\(v=.ad\/N<j)/\bq v=decide (k=0)/\(k<=num x s.aj.l.length\/N0 s x N j g w2 l)
theorem eW.lt {alZ:Type} {z:Nat} {enc:alZ->ag} {l:ae} {n:Nat} {w:U} {s:b1 alZ} (h:eW z enc l n w s) {p b o m t:Nat} (e:w=.Z p b 0 o m t) :n<=b/\b<l.length:=by
 rcases h with ⟨_,rfl⟩ | ⟨c,h1,_,rfl,j⟩
 ·cases e
 ·injection e with _ g
  subst g;exact⟨h1,a1 j⟩
theorem eW.bm {alZ:Type} {z:Nat} {enc:alZ->ag} {l l' : ae} {n:Nat} {w:U} {s:b1 alZ} (h:eW z enc l n w s) (p:∀ b,n<=b->b<l.length->(∀ u q m t,w=.Z u b 0 q m t->l'[b]?=l[b]?)) :eW z enc l' n w s:=by
 rcases h with h | ⟨b,h1,o,g,j⟩
 ·exact .inl h
 ·exact .inr ⟨b,h1,o,g,by rw[p b h1 (a1 j) _ _ _ _ g];exact j⟩
theorem Kb {s:cf} {N:Nat} {l L:ae} {v:U} {j:Nat} {es:List (ag)} {e:ag} {b:Nat} (z:N<l.length) (V:l[N]?=some (.q 3 [v,.ad,.i6 (s.bN+1)])) (S:aH 2 l v j es) (C:v=.ad\/N<j) (o:h3 l L) (O:L[b]?=some (.q 2 e)) (B:e.length=2) (Y:es.length<=1000) :
  ∃ g c3 L',dZ L 2 48 v (.Z 2 b 0 1 1 2)=some (g,L')/\g.cells=some [g]/\L'[N]?=some (.q 3 [v,.ad,.i6 (s.bN+1)])/\aH 2 (L'.set N (.q 3 [g,.ad,.i6 (s.bN+1)])) g c3 (es++[e])/\N<c3/\bq g=false ∧
   L.length<=L'.length/\(∀ c,c<L.length->c≠N->(v=.ad\/c≠j)->(L'.set N (.q 3 [g,.ad,.i6 (s.bN+1)]))[c]?=L[c]?)/\(c3=j/\v≠.ad\/L.length<=c3):=by
 have W:=du;have T:=UV S o;obtain⟨g,c3,L',G,t,H,u,w,I⟩:=io (by_:=48) (x:=.Z 2 b 0 1 1 2) (xs:=[e]) T (by simp[cq,O,B,aI]) (by simp[B]) F F (by rw[W];simp;omega);have J:N<L.length:=nn z o.1;have p:bq g=false:=by rw[I];simp
 have D:g≠.ad:=fun e=>by rw[e] at p;cases p
 have K:N<c3:=by
  rcases w with h | ⟨h1,m⟩ | h
  ·omega
  ·rw[m];exact C.resolve_left h1
  ·exact bV h D
 have X:L'[N]?=some (.q 3 [v,.ad,.i6 (s.bN+1)]):=by
  rw[u N J (by rcases C with h | h;exact .inl h;exact .inr F),o.2 N z];exact V
 refine⟨g,c3,L',G,t.cells,X,t.cx (.inr (bj F)),K,p,H,fun c P Q R=>?_,?_⟩
 ·rw[bj (fun e=>Q e.symm)];exact u c P R
 ·rcases w with h | ⟨h1,m⟩ | h
  ·exact .inr h
  ·exact .inl ⟨m,h1⟩
  ·exact bV h D
theorem LB {A R xs:ag} {i:Nat} (h:i+xs.length<=A.length) :av (A++R) i xs=av A i xs++R:=by unfold av;rw[il F,ob F];simp
theorem hv {z:Nat}:∀ {es:List (ag)},(∀ e∈es,e.length=z)->es.flatten.length=es.length*z
 | [],_=>V
 | e::es,h=>by
  rw[hj,cI,hv fun e g=>h e (by simp[g]),h e V,dM,eP];omega
theorem JL {l:ae} {j n cap sz i:Nat} {cs:ag} {es:List (ag)} (h:aH 2 l (.Z 2 j 0 n cap sz) j es) (v:l[j]?=some (.q sz cs)) (ap:i<n) (a b:U) :
  aH 2 (l.set j (.q sz (av (av cs (i*2) [a]) (i*2+1) [b]))) (.Z 2 j 0 n cap sz) j (es.set i [a,b]):=by
 generalize G:U.Z 2 j 0 n cap sz=w at h;cases h with
 | nil=>cases G
 | Z ar au ah aw ai es z aq u o t Q B=>
  injection G with aj ak al I J K
  subst I J K;rw[v] at z;injection z with O
  injection O with _ P
  subst P;obtain⟨e,m,S⟩:=aQ (l:=es) (k:=i) F;have R:=o e S;obtain⟨p,g,rfl⟩:∃ p g,e=[p,g]:=by
   match e,R with
   | [p,g],_=>exact⟨p,g,rfl⟩
  have am:es.flatten.length=n*2:=by rw[<-B,cL];have:=ck 2 t;omega
  have D:cs=es.flatten++cs.drop (n*2):=by rw[<-B,i3]
  have X:av es.flatten (i*2) [a]=(es.set i [a,g]).flatten:=by
   have:=pH o m (j:=0) (vs:=[a]) V;simpa [av] using this
  have H:∀ e∈es.set i [a,g],e.length=2:=fun e m=>by
   rcases oh m with h | rfl
   ·exact o e h
   ·rfl
  have Y:av (es.set i [a,g]).flatten (i*2+1) [b]=(es.set i [a,b]).flatten:=by
   have:=pH H (bY F) (j:=1) (vs:=[b]) V;rw[this,Bp];rfl
  have ao:(es.set i [a,g]).flatten.length=n*2:=by rw[hv H,ko,u]
  have C:av (av cs (i*2) [a]) (i*2+1) [b]=(es.set i [a,b]).flatten++cs.drop (n*2):=by
   rw[D,LB (by simp only[xY];omega),X,LB (by simp only[xY];omega),Y,<-D]
  have W:∀ e∈es.set i [a,b],e.length=2:=fun e m=>by
   rcases oh m with h | rfl
   ·exact o e h
   ·rfl
  have T:(es.set i [a,b]).flatten.length=n*2:=by rw[hv W,ko,u]
  refine .Z j n cap sz _ _ (bY (a1 v)) ?_ (by rw[ko];exact u) (fun e m=>?_) t Q ?_
  ·rw[C,cI,T,i1];have:=ck 2 t;omega
  ·rcases oh m with h | rfl
   ·exact o e h
   ·rfl
  ·rw[C,il F,aI F]
theorem eW.own {alZ:Type} {z:Nat} {enc:alZ->ag} {l:ae} {n:Nat} {w:U} {s:b1 alZ} (h:eW z enc l n w s) (m:∀ y∈s.l,(enc y).length=z) :∃ b,n<=b/\aH z l w b (s.l.map enc)/\bq w=s.isNone/\(w=.ad\/w=.Z z b 0 s.l.length s.l.length (s.l.length*z)):=by
 rcases h with ⟨rfl,rfl⟩ | ⟨b,h1,g,rfl,j⟩
 ·exact⟨n,aN _,.nil n,rfl,.inl rfl⟩
 ·exact⟨b,h1,ly m rfl j,by rw[g];rfl,.inr rfl⟩
theorem US {z:Nat} {l:ae} {w r:U} {b n:Nat} {es:List (ag)} (t:w=.ad\/w=.Z z b 0 n n (n*z)) (D:r=w\/∃ q:Nat,dw (.Z z) w none (some (.i6 (q:Int))) none=some r) (h:aH z l r b es) :x9 z l r es:=by
 have v:r=.ad\/∃ q,r=.Z z b 0 q n (n*z):=by
  rcases D with rfl | ⟨q,j⟩
  ·rcases t with h | h
   ·exact .inl h
   ·exact .inr ⟨n,h⟩
  ·rcases t with h | h
   ·subst h;simp[dw] at j;exact .inl j.2.symm
   ·subst h;simp[dw] at j;obtain⟨a,u,F,g,o⟩:=j;have C:e2 n n none (some (.i6 (q:Int))) none=(match gU (.i6 (q:Int)) n with | none=>none | some h=>some (0,h,n)):=rfl;rw[C] at g;split at g
    ·cases g
    ·injection g with g
     injection g with h1 m
     injection m with m B
     subst h1 B;right;by_cases p:n=0
     ·subst p;exact⟨0,by rw[<-o];simp⟩
     ·exact⟨u,by rw[<-o,ai p];simp⟩
 rcases v with rfl | ⟨q,rfl⟩
 ·left;refine⟨?_,rfl⟩;cases h;rfl
 ·exact .inr ⟨b,q,n,rfl,h⟩
theorem XM (s:cf) (C:gH s) (h:e1 s) (o:aK) (aG:dk o) (dA:eh o=0) (fY:s.bN<60) (dC:bf o∉(bL (bC s)).idsZ.l) (e2:∀ p∈o.ax.l,p∈(bL (bC s)).idsZ.l) :
  aU 105 [.af (bG s),.af (aw o)] (.aX [.af (bG (fu s (bf o) o)),.af (ao (bf o)),.i6 0]):=by
 apply a2 func105 [[[0],[1],[2],[3,1]],cT 0 9++cT 10 7++[[9,16,15,13]],[[0],[1],[2,1]]];have cw:=du;have bX:=mK o;obtain⟨x,dD⟩:=al (bf o);rw[<-dD] at dC bX ⊢;have az:=bo bX;have b1:=cG x;have bw:(bG s).length=3:=rfl;have cn:(bG s).take 3=bG s:=rfl;have cm:=mG s;have ex:(bG s)[0]?=some (dn s.aj):=rfl;have ez:(bG s)[2]?=some (.i6 s.bN):=rfl;have ey:(bG s)[1]?=some (ah s.bI):=rfl;have c3:∀ h,(bG s)[0]'h=dn s.aj:=fun _=>rfl
 have c4:∀ h,(bG s)[1]'h=ah s.bI:=fun _=>rfl
 have c6:∀ h,(bG s)[2]'h=.i6 s.bN:=fun _=>rfl
 have ay:(aw o).length=11:=rfl;have bl:(aw o).take 11=aw o:=rfl;have cv:=dt o;have ev:(aw o)[1]?=some (ah o.ax):=rfl;have cl:∀ h,(aw o)[1]'h=ah o.ax:=fun _=>rfl
 have dc:am [U.af (bG s)]=true:=by simp[am,U.ar,cm]
 have dd:=W0 s C h;have cF:=xK o aG;rw[dA] at cF;have bt:=u2 o aG;rw[sV dA] at bt;have eO:eo (bf o)=.af (ao x):=by rw[dD];rfl
 rw[eO] at bt;have br:=Ll s C h x bX;rw[cu dC] at br;have eL:fJ prog 156=true:=bn;have eM:fJ prog 160=true:=bn;have gq:s.bN=((bC s).length:Int):=h.jS;have ec:IntKind.i64.wrap (s.bN+1)=s.bN+1:=by rw[IntKind.wrap_i64];omega
 have ek:¬ s.bN=60:=F;have eU:=nM s.aj;have eF:=bO o.ax;obtain⟨X,K⟩:=al (ao x);rw[<-K] at az b1 bt br ⊢;have bp:X.take 32=X:=aI F;have cC:av (bZ 32 (.int .u8 0)) 0 X=X:=cD (by rw[az];rfl);obtain⟨iZ,G⟩:=al (num x s.aj.l.length);obtain⟨aE,aF⟩:=al (dS (eY s x).idsZ.l x);rw[<-G,<-aF] at br;obtain⟨O,Y⟩:=al (aw o);rw[<-Y] at ay bl cv ev cF bt ⊢;simp only[<-Y] at cl;obtain⟨S,aR⟩:=al (bG s);rw[<-aR] at bw cn cm ex ey ez dc dd br ⊢;simp only[<-aR] at c3 c4 c6;simp[bw,cn,ay];refine au dd dc ?_;simp[ay,bl];refine au cF (by simp[am,U.ar,cv]) ?_;simp[ay,bl];refine au bt (by simp[am,U.ar,cv]) ?_;simp[bw,cn,cC,az,bp];refine au br (by simp[am,U.ar,cm,b1]) ?_;simp[ay,cl];refine yz o.ax aG.idsZ aG.len eL (Oj s C h (l:=_) (b:=0) (by rw[<-aR];rfl) o.ax.l aG.idsZ) fun B a4=>?_
 have eA:o.ax.l.any (fun p=>!decide (p∈(bL (bC s)).idsZ.l))=false:=by
  rw[Bf];intro p a7;simp[e2 p a7]
 rw[eA];have dM:B[0]?=some (.q 3 S):=by rw[a4.2 0 V];rfl
 have fD:B[1]?=some (.q 11 O):=by rw[a4.2 1 V];rfl
 have fE:B[2]?=some (.q 3 [.ad,.ad,.i6 0]):=by rw[a4.2 2 V];rfl
 have fH:B[3]?=some (.q 32 (bZ 32 (.int .u8 0))):=by rw[a4.2 3 V];rfl
 have fL:B[4]?=some (.q 32 X):=by rw[a4.2 4 V];rfl
 have gC:5<=B.length:=a4.1;have f0:∀ g:ae,(B++g)[0]?=some (.q 3 S):=fun g=>by rw[aV F];exact dM
 have ed:∀ (g:ae) (h:0<(B++g).length),(B++g)[0]'h=.q 3 S:=fun g h=>(aL.1 (f0 g)).2
 simp[dM,bw,c6,ek,ec,av,ed,c3,eU];obtain⟨N,da⟩:=al (B.length);have ef:∀ g:ae,(B++g)[1]?=some (.q 11 O):=fun g=>by rw[aV F];exact fD
 have eg:∀ g:ae,(B++g)[2]?=some (.q 3 [.ad,.ad,.i6 0]):=fun g=>by rw[aV F];exact fE
 have ei:∀ g:ae,(B++g)[3]?=some (.q 32 (bZ 32 (.int .u8 0))):=fun g=>by rw[aV F];exact fH
 have ej:∀ g:ae,(B++g)[4]?=some (.q 32 X):=fun g=>by rw[aV F];exact fL
 refine bB s.aj.l.length (NZ s x o N) ?_ ⟨V,V,V,V,V,by simp[G],by simp[aF],by simp[da],V,V,V,by rw[<-aR];exact f0 _,by rw[<-Y];exact ef _,eg _,ei _,by rw[<-K];exact ej _,F,.ad,0,.ad,.ad,by rw[da];simp,.nil 0,.inl rfl,rfl,.inl (eS _)⟩;rintro k fP l hk ⟨cS,cV,bH,cW,c1,cd,cg,cR,cY,cZ,c0,b3,q1,cH,cI,aY,db,aC,j,pf,w2,aB,aJ,bU,gn,bS⟩;rw[<-G] at cd aJ bS;rw[<-aF] at cg;rw[<-aR] at b3;rw[<-Y] at q1;rw[<-K] at aY;obtain⟨fP,rfl⟩:=Mp cS cV bH cW c1 cd cg cR cY cZ c0;clear cS cV bH cW c1 cd cg cR cY cZ c0;have T:IntKind.i64.wrap ((k:Int)+1)=((k+1:Nat) :Int):=by rw[IntKind.wrap_i64];have:=h.q3;omega
 have bk:=a1 aB;have gm:=h.q3;by_cases a6:k<s.aj.l.length
 ·obtain⟨p,ds,bV⟩:=aQ a6;have dg:dp s.aj.l k=p:=dq ds;have bv:=(C.aj p bV).1;have bs:=l3 ds;have a0:(bb p).length=2:=rfl;have cj:(bb p).take 2=bb p:=rfl;have c8:=nB p;have cE:=LV p bv;change aU _ [.af (bb p)] (.af (bb p)) at cE;have cz:=K0 s.aj.l iZ pf w2 k;have e7:=Ak s.aj.l iZ pf w2 k;obtain⟨P,bM⟩:=al (bb p);rw[<-bM] at bs a0 cj c8;have cB:av [U.ad,.ad] 0 P=P:=cD (by rw[a0];rfl);have b4:∀ (g:ae) (c:Nat) (b:aq),l[c]?=some b->(l++g)[c]?=some b:=fun g c b z=>by rw[aV (a1 z)];exact z
  have J:∀ c,c<5->c≠N:=fun c cp=>F
  have Q:∀ c,c<5->aC=.ad\/c≠j:=fun c cp=>by rcases bU with e | e;exact .inl e;exact .inr F
  by_cases ct:k=iZ
  ·have dl:k<=iZ:=F;simp[a6,bs,a0,cj,cB,b4 _ _ _ aB];rw[bM];refine X0 p bv fun bc bd oS bJ dI dJ eB fo fp=>?_
   rw[<-bM] at bJ;have ci:h3 l oS:=h3.trans ⟨V,fun b z=>aV z⟩ bJ;have gi:l.length+1<=oS.length:=by have:=bJ.1;simpa using this
   have fC:oS[N]?=some (.q 3 [aC,.ad,.i6 (s.bN+1)]):=by rw[ci.2 N bk];exact aB
   have gB:oS[l.length]?=some (.q 2 P):=by rw[bJ.2 l.length V];simp
   rw[WR dl pf w2 bc bd] at aJ;have dw:=K0 s.aj.l iZ bc bd k;rw[ak ct] at dw;obtain⟨I,bx,bh,b5,b7,bi,b9,ca,R,dV,cb,cc⟩:=Kb (s:=s) (N:=N) (L:=oS++[aq.q 2 [bc,bd]]) (b:=oS.length) (e:=[bc,bd]) bk aB aJ bU (ci.trans ⟨V,fun b z=>aV z⟩) V rfl (by rw[Ak];omega);have bm:∀ (c:Nat) (b:aq),c≠N->(aC=.ad\/c≠j)->oS[c]?=some b->(bh.set N (.q 3 [I,.ad,.i6 (s.bN+1)]))[c]?=some b:=fun c b h1 m D=>by
    have ch:=a1 D;rw[cb c (by simp;omega) h1 m,aV ch];exact D
   have bA:∀ (c:Nat) (b:aq),c≠N->(aC=.ad\/c≠j)->l[c]?=some b->(bh.set N (.q 3 [I,.ad,.i6 (s.bN+1)]))[c]?=some b:=fun c b h1 m D=>bm c b h1 m (by rw[ci.2 c (a1 D)];exact D)
   have a5:aC=.ad\/j<l.length:=aJ.lt;simp[fC,en,cQ,b5];refine bR.bm ?_;have cA:av [aC,.ad,.i6 (s.bN+1)] 0 [I]=[I,.ad,.i6 (s.bN+1)]:=rfl;simp[b7,bi,cA,T];have cP:∀ (w:U) (q:Nat),(∀ u b n g t,w=.Z u b 0 n g t->l.length+1<=b/\b<oS.length)->wX bx w:=fun w q fd u b n g t e=>by
    obtain⟨h1,m⟩:=fd u b n g t e;rcases cc with ⟨T,eb⟩ | T
    ·have:=a5.resolve_left eb;omega
    ·simp at T;omega
   have dH:∀ b,l.length+1<=b->b<oS.length->(bh.set N (.q 3 [I,.ad,.i6 (s.bN+1)]))[b]?=oS[b]?:=fun b h1 m=>by
    obtain⟨y,v,_⟩:=aQ m;rw[v];refine bm b y F ?_ v;rcases a5 with e | e
    ·exact .inl e
    ·exact .inr F
   have a7:eY s x=p:=by unfold eY;rw[<-G,<-ct];exact dg
   refine⟨a6,V,V,V,V,V,by simp[G],by simp[aF],V,V,V,V,bA 0 _ (J 0 F) (Q 0 F) (by rw[<-aR];exact b3),bA 1 _ (J 1 F) (Q 1 F) (by rw[<-Y];exact q1),bA 2 _ (J 2 F) (Q 2 F) cH,bA 3 _ (J 3 F) (Q 3 F) cI,bA 4 _ (J 4 F) (Q 4 F) (by rw[<-K];exact aY),db,I,bx,bc,bd,bY (by have:=a1 bi;omega),by rw[<-G,dw];exact b9,.inr ca,by rw[R];simp,.inr ⟨?_,?_,eB,fo,fp,cP bc 0 fun u b n g t e=>by have:=dI.lt e;simpa using this,cP bd 0 fun u b n g t e=>by have:=dJ.lt e;simpa using this⟩⟩
   ·rw[a7];exact (dI.frame fun b h1 m=>dH b (by simpa using h1) m).mono (by simp;omega)
   ·rw[a7];exact (dJ.frame fun b h1 m=>dH b (by simpa using h1) m).mono (by simp;omega)
  ·rw[ai ct,dg] at cz;rw[<-bM] at cz cE;obtain⟨I,bx,bh,b5,b7,bi,b9,ca,R,dV,cb,cc⟩:=Kb (s:=s) (N:=N) (L:=l++[aq.q 2 P,aq.q 2 P]) (b:=l.length+1) (e:=P) bk aB aJ bU ⟨V,fun b z=>aV z⟩ V a0 (by rw[e7];omega);have bm:∀ (c:Nat) (b:aq),c≠N->(aC=.ad\/c≠j)->l[c]?=some b->(bh.set N (.q 3 [I,.ad,.i6 (s.bN+1)]))[c]?=some b:=fun c b h1 m D=>by
    have ch:=a1 D;rw[cb c (by simp;omega) h1 m,aV ch];exact D
   have a5:aC=.ad\/j<l.length:=aJ.lt;simp[a6,bs,a0,cj,cB,b4 _ _ _ aB];refine au cE (by simp[am,U.ar,c8]) ?_;simp[a0,cB,b4 _ _ _ aB,en,cQ,b5];refine bR.bm ?_;have cA:av [aC,.ad,.i6 (s.bN+1)] 0 [I]=[I,.ad,.i6 (s.bN+1)]:=rfl;simp[b7,bi,cA,T];refine⟨a6,V,V,V,V,V,by simp[G],by simp[aF],V,V,V,V,bm 0 _ (J 0 F) (Q 0 F) (by rw[<-aR];exact b3),bm 1 _ (J 1 F) (Q 1 F) (by rw[<-Y];exact q1),bm 2 _ (J 2 F) (Q 2 F) cH,bm 3 _ (J 3 F) (Q 3 F) cI,bm 4 _ (J 4 F) (Q 4 F) (by rw[<-K];exact aY),db,I,bx,pf,w2,bY (by have:=a1 bi;omega),by rw[<-G,cz];exact b9,.inr ca,by rw[R];simp,?_⟩;rcases bS with bS | W
   ·left;rw[<-G];omega
   ·right;have dL:∀ w,wX j w->(∀ u b n g t,w=.Z u b 0 n g t->b<l.length)->wX bx w:=fun w h1 m u b n g t e=>by
     rcases cc with ⟨T,_⟩ | T
     ·rw[T];exact h1 u b n g t e
     ·have:=m u b n g t e;simp at T;omega
    refine⟨W.hB.bm fun b h1 m u n g t e=>?_,W.iC.bm fun b h1 m u n g t e=>?_,W.ap,W.m1,W.m2,dL _ W.f1 fun u b n g t e=>(W.hB.lt e).2,dL _ W.f2 fun u b n g t e=>(W.iC.lt e).2⟩
    ·obtain⟨y,v,_⟩:=aQ m;rw[v];exact bm b y F (.inr (W.f1 u b n g t e)) v
    ·obtain⟨y,v,_⟩:=aQ m;rw[v];exact bm b y F (.inr (W.f2 u b n g t e)) v
 ·have gb:k=s.aj.l.length:=F;obtain⟨_,_,e4⟩:=zP h x;rw[<-G] at e4;have W:=bS.resolve_left F;have eP:=l4 o.ax aG.idsZ aG.len;have mp:=fi o.ax;have e9:av O 1 [ah o.ax]=O:=by rw[Y];exact w1 o
  have fQ:=uO q1;obtain⟨aA,cap,H,cs,fb,z,gl,ga,dh,dl,dy⟩:=UT aJ (i:=iZ) (e:=[pf,w2]) (by rw[KZ F,ak rfl]);have dX:cs[iZ*2]?=some pf:=by
   have:((cs.drop (iZ*2)).take 2)[0]?=some pf:=by rw[dy];rfl
   rw[dQ F,gx] at this;exact this
  have cO:cs[iZ*2+1]?=some w2:=by
   have:((cs.drop (iZ*2)).take 2)[1]?=some w2:=by rw[dy];rfl
   rw[dQ F,gx] at this;exact this
  subst fb;have bs:bQ (.Z 2) (.Z 2 j 0 aA cap H) (.i6 (iZ:Int))=some (.ptr j (iZ*2) H):=by
   simp[bQ,dh]
  simp[a6,q1,ay,cl];refine au eP (by simp[am,eF]) ?_;have eC:∀ g:ae,(l++g)[j]?=some (.q H cs):=fun g=>by rw[aV (a1 z)];exact z
  have fB:∀ g:ae,(l++g)[1]?=some (.q 11 O):=fun g=>by rw[aV (a1 q1)];exact q1
  have gA:∀ g:ae,(l++g)[4]?=some (.q 32 X):=fun g=>by rw[aV (a1 aY)];exact aY
  have fa:av [U.int .u32 0,.ad,.int .u64 0,.int .u8 0,.str [],.int .u8 0,.i6 0,.int .u64 0,.str [],.int .u32 0,.int .u32 0] 0 O=O:=cD (by rw[ay];rfl);have bV:=(zP h x).2.1;have bv:=(C.aj _ bV).1;have dB:=jT.1 h.wf _ bV;have dE:∀ y∈(eY s x).idsZ.l,(ao y).length=32:=fun y v=>bo (bv.idsZ y v)
  have dG:∀ y∈(eY s x).opsZ.l,(aw y).length=11:=fun y _=>rfl
  have de:=vY (eY s x).idsZ.l x;have gj:(eY s x).idsZ.l.length<=1000000:=bv.li;have a5:=a1 z;simp[q1,ay,e9,mp,fQ,aB,bs,z,eC,dX,cO,aY,fB,az,bp,bl,cC,fa,en,cQ];refine CR (enc:=ao) (x:=x) CQ bn bn (show gK prog 57=some 32 by kernel_rfl) F F bn dE (by rw[<-K];exact az) ((W.hB.frame fun b _ z=>aV z).c dE) (by rw[<-K];simp) (fun b n cap s e=>by have:=(W.hB.lt e).2;omega) (by rw[aF];exact de) (by rw[cw];omega) fun bD eT cq=>?_
  have aS:∀ (c:Nat) (b:aq),c<l.length->(∀ u dF n g t,pf=.Z u dF 0 n g t->c≠dF)->l[c]?=some b->bD[c]?=some b:=fun c b h1 m D=>by
   rw[cq c (by simp;omega) (fun b n cap s e=>m 32 b n cap s e),aV h1];exact D
  have a8:∀ c,c<=N->∀ u dF n g t,pf=.Z u dF 0 n g t->c≠dF:=fun c cp u dF n g t e=>by have:=(W.hB.lt e).1;omega
  have a9:∀ c,c<=N->∀ u dF n g t,w2=.Z u dF 0 n g t->c≠dF:=fun c cp u dF n g t e=>by have:=(W.iC.lt e).1;omega
  have cN:=aS j _ a5 (fun u dF n g t e=>(W.f1 u dF n g t e).symm) z;have fs:=aS N _ bk (a8 N (aN _)) aB;have fR:=aS 4 _ F (a8 4 F) aY;have dK:=aS 1 _ F (a8 1 F) q1;have dP:bD[l.length+1]?=some (.q 11 O):=by
   rw[cq (l.length+1) V (fun b n cap s e=>by have:=(W.hB.lt e).2;omega)];simp
  simp[cN,cO,dK,ay,bl,dP];have dR:eW 11 aw bD (N+1) w2 (eY s x).opsZ:=W.iC.bm fun b h1 m u n g t e=>by
   rw[cq b (by simp;omega) (fun dF aA gw gD ea=>by have:=W.ap _ _ _ _ _ _ _ _ _ _ ea e;omega),aV m]
  refine CR (enc:=aw) (x:=o) Iu bn bn (show gK prog 55=some 112 by kernel_rfl) F F bn dG rfl (dR.c dG) (by rw[<-Y];exact dP) (fun b n cap s e=>by have:=(W.iC.lt e).2;omega) (by rw[aF,<-dB.1];exact de) (by rw[cw,<-dB.1];omega) fun bE gd eI=>?_
  have gc:l.length<=bD.length:=by simp at eT;omega
  have aT:∀ (c:Nat) (b:aq),c<l.length->(∀ u dF n g t,w2=.Z u dF 0 n g t->c≠dF)->bD[c]?=some b->bE[c]?=some b:=fun c b h1 m D=>by
   rw[eI c F (fun b n cap s e=>m 11 b n cap s e)];exact D
  have bF:=aT j _ a5 (fun u dF n g t e=>(W.f2 u dF n g t e).symm) cN;have ft:=aT N _ bk (a9 N (aN _)) fs;have fS:=aT 4 _ F (a9 4 F) fR;have fz:=aT 1 _ F (a9 1 F) dK;have dj:=a1 bF;have bH:∀ c' : aq,(bE.set j c')[j]?=some c':=fun c'=>bY dj
  have hs:∀ a:List (ag),(U.bu 32 a).cells=some [.bu 32 a]:=fun a=>rfl
  have dZ:∀ a:List (ag),(U.bu 11 a).cells=some [.bu 11 a]:=fun a=>rfl
  have fl:=aT 0 _ F (a9 0 F) (aS 0 _ F (a8 0 F) b3);have bg:∀ (c:Nat) (b:aq) (c' : aq),c≠j->bE[c]?=some b->(bE.set j c')[c]?=some b:=fun c b c' h1 m=>by rw[bj (fun e=>h1 e.symm)];exact m
  have fZ:N<j:=by rcases bU with e | e;cases e;exact e
  have fm:=fun c'=>bg 0 _ c' F fl
  simp[bF,bH,hs,dZ,fm,bw,c4];refine⟨F,F,?_⟩;have c9:=JL (aJ.cx (.inr (by rw[bF,z]))) bF dh (.bu 32 ((cX (eY s x).idsZ.l aE x).map ao)) (.bu 11 ((cX (eY s x).opsZ.l aE o).map aw));obtain⟨M,aP⟩:=al (bE.set j (.q H (av (av cs (iZ*2) [.bu 32 ((cX (eY s x).idsZ.l aE x).map ao)]) (iZ*2+1) [.bu 11 ((cX (eY s x).opsZ.l aE o).map aw)])));rw[<-aP] at c9 ⊢;have fw:M[N]?=some (.q 3 [.Z 2 j 0 aA cap H,.ad,.i6 (s.bN+1)]):=by rw[aP];exact bg N _ _ F ft
  have fX:M[4]?=some (.q 32 X):=by rw[aP];exact bg 4 _ _ F fS
  have fA:M[1]?=some (.q 11 O):=by rw[aP];exact bg 1 _ _ F fz
  have fG:M[2]?=some (.q 3 [.ad,.ad,.i6 0]):=by rw[aP];exact bg 2 _ _ F (aT 2 _ F (a9 2 F) (aS 2 _ F (a8 2 F) cH))
  have fK:M[3]?=some (.q 32 (bZ 32 (.int .u8 0))):=by rw[aP];exact bg 3 _ _ F (aT 3 _ F (a9 3 F) (aS 3 _ F (a8 3 F) cI))
  have cr:j<M.length:=by rw[aP];simpa using dj
  refine B0 s.bI C.bI (by have:=C.nQ;omega) fun gE dT gy fx=>?_
  have fg:∀ y∈s.bI.l,(ao y).length=32:=fun y v=>bo (C.bI y v)
  obtain⟨ID,gu,fj,gv,fk⟩:=fx.own fg;have cM:∀ (c:Nat) (b:aq),M[c]?=some b->(M++dT)[c]?=some b:=fun c b z=>by rw[aV (a1 z)];exact z
  simp;refine Hp eM fj (fun y v=>C.bI y v) (by have:=C.nQ;omega) (Vg o aG (by rw[<-Y];exact cM 1 _ fA) F s.bI.l (fun y v=>C.bI y v)) fun r aW cy c2 go eG=>?_
  have gh:M.length<=aW.length:=by have:=c2.le;simp at this;omega
  have R:∀ (c:Nat) (b:aq),c<M.length->M[c]?=some b->aW[c]?=some b:=fun c b h1 m=>by rw[c2.same c (by simp;omega) F];exact cM c b m
  have n6:=R N _ F fw;have fT:=R 4 _ F fX;have eV:=c9.cx (l':=aW) (.inr (by
   obtain⟨y,v,_⟩:=aQ cr;rw[v];exact R j y cr v))
  have fr:=cy.cells;have et:=a1 n6;have n7:(aW.set N (.q 3 [.Z 2 j 0 aA cap H,r,.i6 (s.bN+1)]))[N]?=some (.q 3 [.Z 2 j 0 aA cap H,r,.i6 (s.bN+1)]):=bY et;obtain⟨aM,a3⟩:=al (aW.set N (.q 3 [.Z 2 j 0 aA cap H,r,.i6 (s.bN+1)]));have cK:∀ (c:Nat) (b:aq),c≠N->aW[c]?=some b->aM[c]?=some b:=fun c b h1 m=>by rw[a3,bj (fun e=>h1 e.symm)];exact m
  have cJ:=cK 4 _ F fT;have bW:aH 32 aM r ID ((s.bI.l.filter fun t=>!decide (t∈o.ax.l)).map ao):=by
   rw[a3];exact cy.cx (.inr (bj F))
  have eX:=eV.cx (l':=aM) (.inr (by rw[a3];exact bj F));simp[n6,fr,av];rw[<-a3];rw[<-a3] at n7;obtain⟨lM,aO⟩:∃ lM:b2,lM.l=(s.bI.l.filter fun t=>!decide (t∈o.ax.l))/\lM.isNone=bq r:=by
   cases eN:bq r with
   | false=>exact⟨some _,rfl,rfl⟩
   | true=>
    have:=gk.1 eN;subst this;have df:=cy.q.oX;rw[ni] at df;exact⟨none,df.symm,rfl⟩
  have c7:c5 lM:=fun y v=>by rw[aO.1] at v;exact C.bI y (dx.1 v).1
  have ep:lM.l.length<=1000000:=by rw[aO.1];have:=g2 (fun t=>!decide (t∈o.ax.l)) s.bI.l;have:=C.nQ;omega
  have er:b8 lM.l=true:=by
   rw[aO.1,<-h.tV];exact uz ((o4 (CJ (kR h.kB).b8)).sublist kn)
  have dz:=As lM c7 ep x bX er;have e6:=bW.mZ cG lM aO.2.symm aO.1;rw[<-K] at dz;simp[n7,cJ,az,bp];refine ig dz (.cons e6 (.cons (.same _ (by simp[U.ar,b1])) (.cons (.same _ rfl) .nil))) (by simp[U.flat,kH]) ?_;simp[n7,cJ,az,bp,cC,en,cQ];have fe:∀ y∈lM.l,(ao y).length=32:=fun y v=>bo (c7 y v)
  have eD:=vY lM.l x;have ew:x9 32 (aM++[aq.q 32 X]) r (lM.l.map ao):=US fk eG (by rw[aO.1];exact bW.more _);have dv:∀ b n cap s,r=.Z 32 b 0 n cap s->b=ID:=fun b n cap s e=>by
   subst e;cases bW;rfl
  have gf:aM.length=aW.length:=by rw[a3];simp
  refine CR (enc:=ao) (x:=x) CQ bn bn (show gK prog 57=some 32 by kernel_rfl) F F bn fe (by rw[<-K];exact az) ew (by rw[<-K];simp) (fun b n cap s e=>by
   have:=dv b n cap s e;rcases bW.lt with q | q
   ·rw[q] at e;cases e
   ·omega) eD (by rw[cw];omega) fun fq gg eK=>?_
  have bz:∀ (c:Nat) (b:aq),c<M.length->aM[c]?=some b->fq[c]?=some b:=fun c b h1 m=>by
   rw[eK c (by simp;omega) (fun dF n cap s e=>by have:=dv dF n cap s e;omega),aV F];exact m
  have n8:=bz N _ F n7;have fU:=bz 4 _ F cJ;have fF:=bz 2 _ F (cK 2 _ F (R 2 _ F fG));have fI:=bz 3 _ F (cK 3 _ F (R 3 _ F fK));have eZ:=eX.cx (l':=fq) (.inr (by
   obtain⟨y,v,_⟩:=aQ (l:=aM) (k:=j) F;rw[v];exact bz j y cr v))
  have eu:=a1 n8;obtain⟨aZ,ck⟩:=al (U.bu 32 ((cX lM.l (dS lM.l x) x).map ao));have dY:aZ.cells=some [aZ]:=by rw[ck];rfl
  obtain⟨aD,bK⟩:=al (fq.set N (.q 3 [.Z 2 j 0 aA cap H,aZ,.i6 (s.bN+1)]));have fv:aD[N]?=some (.q 3 [.Z 2 j 0 aA cap H,aZ,.i6 (s.bN+1)]):=by rw[bK];exact bY eu
  have cL:∀ (c:Nat) (b:aq),c≠N->fq[c]?=some b->aD[c]?=some b:=fun c b h1 m=>by rw[bK,bj (fun e=>h1 e.symm)];exact m
  have fV:=cL 4 _ F fU;have dN:=cL 2 _ F fF;have dO:=cL 3 _ F fI;have dm:=eZ.cx (l':=aD) (.inr (by rw[bK];exact bj F));rw[<-ck];simp[n8,dY,av];rw[<-bK];have eQ:=a1 dN;have eR:=a1 dO;have fO:∀ c:aq,(aD.set 2 c)[3]?=some (.q 32 (bZ 32 (.int .u8 0))):=fun c=>by rw[bj F];exact dO
  have fN:∀ c:aq,(aD.set 2 c)[2]?=some c:=fun c=>bY eQ
  have t29:∀ c d:aq,((aD.set 2 c).set 3 d)[2]?=some c:=fun c d=>by rw[bj F];exact fN c
  have t39:∀ c d:aq,((aD.set 2 c).set 3 d)[3]?=some d:=fun c d=>bY (by simpa using eR)
  simp[fv,fV,dN,fO,t29,t39,av,az,bp];have e3:bb (iE (eY s x) x o)=[.bu 32 ((cX (eY s x).idsZ.l aE x).map ao),.bu 11 ((cX (eY s x).opsZ.l aE o).map aw)]:=by rw[aF];rfl
  have a7:eY s x=dp s.aj.l iZ:=by unfold eY;rw[<-G]
  have e5:(fu s x o).aj.l=s.aj.l.set iZ (iE (eY s x) x o):=by
   show s.aj.l.set _ (iE (dp s.aj.l _) x o)=_;rw[<-G,<-a7]
  have e8:(m0 s.aj.l iZ pf w2 k).set iZ [.bu 32 ((cX (eY s x).idsZ.l aE x).map ao),.bu 11 ((cX (eY s x).opsZ.l aE o).map aw)]=(fu s x o).aj.l.map bb:=by
   rw[e5,<-e3];apply g1;intro i;by_cases di:i<k
   ·by_cases bT:i=iZ
    ·subst bT;rw[bY (by rw[Ak];exact di),b0,bY F];rfl
    ·obtain⟨p,dr,_⟩:=aQ (l:=s.aj.l) (k:=i) F;rw[bj (fun e=>bT e.symm),KZ di,ai bT,b0,bj (fun e=>bT e.symm),dr,dq dr];rfl
   ·rw[dW (by rw[ko,Ak];omega),dW (by rw[ce,ko];omega)]
  rw[e8] at dm;have e0:=dm.cx (l':=((aD.set 2 (aq.q 3 [U.Z 2 j 0 aA cap H,aZ,U.int IntKind.i64 (s.bN+1)])).set 3 (aq.q 32 (X++List.drop 32 (bZ 32 (U.int IntKind.u8 0)))))) (.inr (by rw[bj F,bj F]));have fM:=e0.q.gP nB (fu s x o).aj rfl rfl;have es:aZ=ah (fu s x o).bI:=by
   rw[ck,aO.1];rfl
  have eE:=bO (fu s x o).bI;refine .aX _ _ rfl fun i c c' h1 m=>?_
  rcases i with _ | _ | _ | i
  ·simp at h1 m;subst h1 m;refine .af _ _ rfl fun i c c' h1 m=>?_
   rcases i with _ | _ | _ | i
   ·simp[bG] at h1 m;subst h1 m;exact fM
   ·simp[bG] at h1 m;subst h1 m;rw[es];exact .same _ eE
   ·simp[bG] at h1 m;subst h1 m;exact .same _ rfl
   ·simp at h1
  ·simp at h1 m;subst h1 m;exact .same _ (by simp[U.ar,b1])
  ·simp at h1 m;subst h1 m;exact .same _ rfl
  ·simp at h1
theorem Ku (o:aK) (j:dk o) (g:dd o=0) :aU 73 [.af (aw o)] (.af (ao (bf o))):=by have h:=DX o j (by have:=p1 g;omega);unfold bf;rw[ak g];exact h
theorem F9 {a b:aR}:gT a b=true<->∀ p∈b,p∈a:=by unfold gT;rw[bK]
theorem VO (s:cW) (t:hK s) (h:gJ s) (o:aK) (B:dk o) (R:dd o=0) :aU 213 [.af (bw s),.af (aw o)] (.int .u8 (ix s o)):=by
 apply a2 func213 [[[0],[1],[2],[3,1]]];have O:=Ku o B R;have ag:=mK o;have v:=nX s.az t.az (by have:=t.no;omega) (bf o) ag;have W:=z1 s.az t.az (by have:=t.no;omega) o.ax B.idsZ B.len;have z:=lr (bf o) s.az.l 0;have m:(bw s).length=5:=rfl;have j:∀ h,(bw s)[4]'h=ah s.az:=fun _=>rfl
 have aq:(bw s)[4]?=some (ah s.az):=rfl;have H:∀ h,(bw s)[0]'h=.int .i64 s.cap:=fun _=>rfl
 have ap:(bw s)[0]?=some (.int .i64 s.cap):=rfl;have P:(aw o).length=11:=rfl;have S:(aw o).take 11=aw o:=rfl;have T:∀ h,(aw o)[1]'h=ah o.ax:=fun _=>rfl
 have aj:(aw o)[1]?=some (ah o.ax):=rfl;have K:bD (.Z 32) (ah s.az)=some (.int .i64 s.az.l.length):=by simp[ah]
 have ae:=dt o;have J:=bO s.az;have X:=bO o.ax;have av:=h.le;obtain⟨Q,I⟩:=al (ao (bf o));have V:am Q=true:=by rw[I];exact cG _
 rw[<-I] at O v;have q:ix s o=if bf o∈s.az.l then 5 else if ∀ D∈o.ax.l,D∈s.az.l then (if s.aD.bN=s.cap then 8 else 1) else 6:=rfl
 obtain⟨qU,Y⟩:=al (dH (bf o) s.az.l 0);rw[<-Y] at v z;simp[m,j,P,S];refine au O (by simp[am,U.ar,ae]) ?_;simp[m,j];refine au v (by simp[am,U.ar,J,V]) ?_;by_cases h1:bf o∈s.az.l
 ·have C:=z.2 h1;simp[C];exact aP (by rw[q,ak h1]) rfl
 ·have C:¬ 0<=qU:=fun w=>h1 (z.1 w)
  simp[C,m,j,P,T];refine au W (by simp[am,J,X]) ?_;by_cases g:∀ D∈o.ax.l,D∈s.az.l
  ·have p:gT s.az.l o.ax.l=true:=F9.2 g;by_cases G:s.aD.bN=s.cap
   ·have u:(s.az.l.length:Int)=s.cap:=F;simp[p,m,j,H,K,u];exact aP (by rw[q,ai h1,ak g,ak G]) rfl
   ·have u:¬ (s.az.l.length:Int)=s.cap:=F;simp[p,m,j,H,K,u];exact aP (by rw[q,ai h1,ak g,ai G]) rfl
  ·have p:gT s.az.l o.ax.l=false:=by
    cases w:gT s.az.l o.ax.l with
    | false=>rfl
    | true=>exact bV (F9.1 w) g
   simp[p];exact aP (by rw[q,ai h1,ai g]) rfl
theorem Wd (s:cW) (g:hK s) {S:ag} (p:S=bw s) {l:ae} {K:cB} (o:∀ w l',h3 l l'->eW 32 ao l' l.length w (some s.az.l)->w.cells=some [w]->K (.af [.int .i64 s.cap,dn (bl s.aD).aj,ah (bl s.aD).bI,.int .i64 (bl s.aD).bN,w]) l') :
  cM 44 [.af S] l K:=by
 subst p;apply c1 func44 [cT 0 4++[[5],[6],[7],[4,7,5,1],[8,1]]];have j:=KA s.aD g.aD;have u:=kC s.aD.aj;have t:=bO s.aD.bI;have B:∀ x∈s.az.l,(ao x).length=32:=fun x v=>bo (g.az x v)
 have z:=g.no;obtain⟨A,m⟩:=al (aq.cells 5 [U.int .i64 s.cap,dn s.aD.aj,ah s.aD.bI,.int .i64 s.aD.bN,ah s.az]);have h:=BN (l:=l++[A,.cells 5 [.int .i64 0,.ad,.ad,.int .i64 0,.ad],.cells 0 []]) (b:=l.length+2) V s.az g.az F;rw[m] at h;unfold bG at j;simp at h;simp[bw];refine au j (by simp[am,U.ar,u,t]) ?_;simp[h];refine bR.bm ?_;simp[av];exact o _ _ ⟨V,fun b q=>aV q⟩ (.inr ⟨l.length+2,F,rfl,rfl,V⟩) rfl
def Dt (s:cW) (o:aK) :cW:=⟨s.cap,hz (jJ (ct s.aD) (bf o) o) s.aD.aj.l.length,some (s.az.l++[bf o])⟩
def lx (s:cW) (o:aK) :cW:=if ix s o=1 then Dt s o else dY s
theorem Vs {g:aW} (j:eE g) (v:g.idsZ.l.length<=900000) (w:g.opsZ.l.length<=900000) {x:List B} (t:x.length=32) {o:aK} (m:dk o) :eE (jJ g x o):=by
 unfold jJ;refine AN ⟨fun y u=>?_,fun q p=>?_,?_,?_⟩
 ·rcases jD.1 u with rfl | h
  ·exact t
  ·exact j.idsZ y h
 ·rcases jD.1 p with rfl | h
  ·exact m
  ·exact j.opsZ q h
 ·show (cX g.idsZ.l _ x).length<=_;rw[h9];omega
 ·show (cX g.opsZ.l _ o).length<=_;rw[h9];omega
theorem IE {s:cW} {o:aK} (h:ix s o=1) :bf o∉s.az.l/\(∀ p∈o.ax.l,p∈s.az.l)/\s.aD.bN≠s.cap:=by
 unfold ix at h;split at h
 ·cases h
 ·split at h
  ·split at h
   ·cases h
   ·rename_i a b c;exact⟨a,b,c⟩
  ·cases h
theorem CX {s:cW} (h:gJ s) {o:aK} (m:ix s o=1) :bf o∉(bL (bC s.aD)).idsZ.l/\(∀ p∈o.ax.l,p∈(bL (bC s.aD)).idsZ.l)/\s.aD.bN<60:=by obtain⟨h1,g,t⟩:=IE m;refine⟨fun j=>h1 ((AD h _).2 j),fun p q=>(AD h p).1 (g p q),?_⟩;have:=h.jS;have:=h.tC;omega
theorem VS (s:cW) (v:hK s) (h:gJ s) (o:aK) (ax:dk o) (bk:eh o=0) :aU 164 [.af (bw s),.af (aw o)] (.aX [.af (bw (lx s o)),.int .u8 (ix s o)]):=by
 apply a2 func164 [[[0],[1],[3],[4]]++cT 6 4++[[2,8,4,3],[5,8]]];have b3:=du;have a5:=sV bk;have aJ:=Ku o ax a5;have ag:=VO s v h o ax a5;have aP:=mK o;have cr:=v.no;have z:(bw s).length=5:=rfl;have aB:(bw s).take 5=bw s:=rfl;have a8:=g7 s;have R:∀ h,(bw s)[1]'h=dn s.aD.aj:=fun _=>rfl
 have bF:(bw s)[1]?=some (dn s.aD.aj):=rfl;have bH:((bw s).drop 1).take 3=bG s.aD:=rfl;have a9:(bw s).tail.take 3=bG s.aD:=rfl;have H:(aw o).length=11:=rfl;have D:(aw o).take 11=aw o:=rfl;have ay:=dt o;have bU:=nM s.aD.aj;have bE:=mG s.aD;have B:=bo aP;have bn:=cG (bf o);obtain⟨x,cB⟩:=al (bf o);obtain⟨X,aC⟩:=al (ao (bf o));rw[<-aC] at aJ B bn;have aE:X.take 32=X:=aI F;have bi:av (bZ 32 (.int .u8 0)) 0 X=X:=cD (by rw[B];rfl);obtain⟨O,a6⟩:=al (aw o);obtain⟨S,aA⟩:=al (bw s);rw[<-a6] at H D ay aJ ag ⊢;rw[<-aA] at z aB a8 bF bH a9 ag ⊢;simp only[<-aA] at R;obtain⟨aR,ap⟩:=al (ix s o);rw[<-ap] at ag ⊢;simp[z,aB,H,D];refine au ag (by simp[am,U.ar,a8,ay]) ?_;simp[z,aB];refine Wd s v aA fun w g Y bW cy=>?_
 have bA:g[0]?=some (.cells 5 S):=by rw[Y.2 0 V];rfl
 have a3:g[1]?=some (.cells 11 O):=by rw[Y.2 1 V];rfl
 have a4:g[2]?=some (.cells 5 [.int .i64 0,.ad,.ad,.int .i64 0,.ad]):=by rw[Y.2 2 V];rfl
 have ge:3<=g.length:=by have:=Y.1;simpa using this
 have C:∀ (j:ae) (c:Nat) (b:aq),g[c]?=some b->(g++j)[c]?=some b:=fun j c b bb=>by rw[aV (a1 bb)];exact bb
 have ca:∀ y∈s.az.l,(ao y).length=32:=fun y b9=>bo (v.az y b9)
 have cp:=kC (bl s.aD).aj;have cn:=bO (bl s.aD).bI
 -- a reading of a store whose orderZ is one's own
 have bs:∀ (L:ae) (a:Int) (aT:b1 aW) (aG:b2) (n:Int) (u:U) (aS:b2),Rd L u (ah aS)->Rd L (.aX [.af [.int .i64 a,dn aT,ah aG,.int .i64 n,u],.int .u8 aR]) (.aX [.af (bw ⟨a,⟨aT,aG,n⟩,aS⟩),.int .u8 aR]):=fun L a aT aG n u aS b4=>by
  refine .aX _ _ rfl fun i c bz h1 m=>?_
  rcases j6 h1 with ⟨rfl,rfl⟩ | ⟨rfl,rfl⟩
  ·rcases j6 m with ⟨_,rfl⟩ | ⟨bT,_⟩
   ·refine .af _ _ rfl fun i c bz h1 m=>?_
    rcases i with _ | _ | _ | _ | _ | i
    ·simp[bw] at h1 m;subst h1 m;exact .same _ rfl
    ·simp[bw] at h1 m;subst h1 m;exact .same _ (kC _)
    ·simp[bw] at h1 m;subst h1 m;exact .same _ (bO _)
    ·simp[bw] at h1 m;subst h1 m;exact .same _ rfl
    ·simp[bw] at h1 m;subst h1 m;exact b4
    ·simp at h1
   ·omega
  ·rcases j6 m with ⟨bT,_⟩ | ⟨_,rfl⟩
   ·omega
   ·exact .same _ rfl
 have K:∀ (j:ae) (h:0<(g++j).length),(g++j)[0]'h=.cells 5 S:=fun j h=>(aL.1 (C j 0 _ bA)).2
 have aY:∀ (j:ae) (h:1<(g++j).length),(g++j)[1]'h=.cells 11 O:=fun j h=>(aL.1 (C j 1 _ a3)).2
 have cf:∀ (j:ae) (c:aq),((g++j).set 2 c)[2]?=some c:=fun j c=>bY (by simp;omega)
 obtain⟨b,bc,T,aF,cm⟩:=bW.own ca;by_cases G:aR=1
 ·obtain⟨cg,ch,ci⟩:=CX h (by rw[<-ap];exact G);have b8:=Aa s.aD v.aD;have bJ:=kR h.aD.kB;have cw:=bJ.len;have cv:=h.aD.jS;have cz:(ct s.aD).idsZ.l.length=(bC s.aD).length:=wj (bC s.aD);have cA:(ct s.aD).opsZ.l.length=(bC s.aD).length:=by rw[sY,m9,ce];show (cK _).l.length=_;rw[dh,ce]
  have bh:=VZ (ct s.aD) (xL v.aD) F F (bf o) aP o ax;obtain⟨bM,cs⟩:=Km h.aD cg ci bk rfl ch;have bX:=Vs (xL v.aD) F F aP ax;have bg:=DW (jJ (ct s.aD) (bf o) o) bX bM s.aD.aj.l.length h.aD.gN (by have:=h.aD.q3;omega);rw[<-aC,<-a6] at bh;have bQ:=jz (ct s.aD);have bL:=jz (jJ (ct s.aD) (bf o) o);have cu:∃ jX,jX=bG s.aD:=⟨_,rfl⟩
  obtain⟨Q,a7⟩:=al (hz (jJ (ct s.aD) (bf o) o) s.aD.aj.l.length);rw[<-a7] at bg;simp[av,G,C _ _ _ a3,H,D];refine au aJ (by simp[am,U.ar,ay]) ?_;simp[B,aE,bi,K,aY,z,a9,R,H,D,bU];refine au b8 (by simp[am,U.ar,bE]) ?_;simp[B,aE,K,aY,z,R,H,D];refine au bh (by simp[am,U.ar,bQ,bn,ay]) ?_;simp[K,z,R];refine au bg (by simp[am,bL,U.ar]) ?_;have bK:(bG Q).length=3:=rfl;have b5:av [dn (bl s.aD).aj,ah (bl s.aD).bI,U.int .i64 (bl s.aD).bN,w] 0 (bG Q)=[dn Q.aj,ah Q.bI,U.int .i64 Q.bN,w]:=rfl;have W:w=.ad\/b<g.length:=T.lt;have ck:3<=b:=by simpa using bc
  obtain⟨P,t⟩:=al (g++[aq.cells 5 [U.int .i64 s.cap,dn Q.aj,ah Q.bI,U.int .i64 Q.bN,w],aq.cells 32 X,aq.cells 32 X]);have cc:aH 32 P w b (s.az.l.map ao):=by rw[t];exact T.more _
  have bB:∀ (c:Nat) (q:aq),g[c]?=some q->P[c]?=some q:=fun c q b0=>by rw[t];exact C _ c q b0
  have bp:P[g.length]?=some (aq.cells 5 [U.int .i64 s.cap,dn Q.aj,ah Q.bI,U.int .i64 Q.bN,w]):=by rw[t];simp
  obtain⟨I,aQ,p,bt,aZ,cj,a0,bv,bx⟩:=io (by_:=32) (x:=.Z 32 (g.length+2) 0 1 1 32) (xs:=[X]) cc (by rw[t];simp[cq,B,aI]) (by simp[B]) F F (by rw[b3];simp;omega);have aO:bq I=false:=by rw[bx];simp
  have br:p[g.length]?=some (aq.cells 5 [U.int .i64 s.cap,dn Q.aj,ah Q.bI,U.int .i64 Q.bN,w]):=by
   rw[a0 _ (a1 bp) (by rcases W with q | q;exact .inl q;exact .inr F)];exact bp
  have t2:p[2]?=some (.cells 5 [.int .i64 0,.ad,.ad,.int .i64 0,.ad]):=by
   rw[a0 2 (by rw[t];simp) (.inr F)];exact bB 2 _ a4
  simp[K,z,B,aE,bi,en,cQ,bK,b5];rw[<-t];simp[bt];refine bR.bm ?_;have dU:=aZ.cells;have b7:I≠.ad:=fun e=>by rw[e] at aO;cases aO
  have bd:aQ≠g.length/\aQ≠2:=by
   have cl:P.length=g.length+3:=by rw[t];simp
   rcases bv with q | ⟨q1,cC⟩ | q
   ·exact⟨F,F⟩
   ·have:=W.resolve_left q1;exact⟨F,F⟩
   ·exact bV q b7
  have cb:∀ c:aq,(p.set g.length c)[g.length]?=some c:=fun c=>bY (a1 br)
  have t3:∀ c:aq,(p.set g.length c)[2]?=some (.cells 5 [.int .i64 0,.ad,.ad,.int .i64 0,.ad]):=fun c=>by rw[bj F];exact t2
  have t4:∀ c d:aq,((p.set g.length c).set 2 d)[2]?=some d:=fun c d=>bY (by simpa using a1 t2)
  simp[br,dU,av,cb,t3,t4];have aM:lx s o=⟨s.cap,⟨Q.aj,Q.bI,Q.bN⟩,some (s.az.l++[bf o])⟩:=by
   unfold lx;rw[ak (by rw[<-ap];exact G)];unfold Dt;rw[<-a7]
  rw[aM];obtain⟨J,bD⟩:=al (aq.cells 5 [U.int .i64 s.cap,dn Q.aj,ah Q.bI,U.int .i64 Q.bN,I]);have cd:aH 32 ((p.set g.length J).set 2 J) I aQ ((s.az.l++[bf o]).map ao):=by
   rw[cV,dg,lK,<-aC];exact aZ.cx (.inr (by rw[bj (fun e=>bd.2 e.symm),bj (fun e=>bd.1 e.symm)]))
  have bS:=bs ((p.set g.length J).set 2 J) s.cap Q.aj Q.bI Q.bN I (some (s.az.l++[bf o])) (cd.q.gP cG (some (s.az.l++[bf o])) aO rfl);rw[<-bD];exact bS
 ·simp[av,G,C _ _ _ a4];have aM:lx s o=dY s:=by unfold lx;rw[ai (by rw[<-ap];exact G)]
  rw[aM];simp[cf];refine bs _ _ _ _ _ _ (some s.az.l) ((T.cx (.inr ?_)).q.gP cG (some s.az.l) aF rfl);have W:b<g.length:=by
   rcases T.lt with q | q
   ·rw[q] at aF;cases aF
   ·exact q
  simp at bc;rw[bj F,aV W]
def LH:cW:=⟨0,⟨none,none,0⟩,none⟩
noncomputable def mW (s:cW) (o:aK) :Int:=if fa s=0 then eh o else 8
noncomputable def sE (s:cW) (o:aK) :cW:=if mW s o=0 then lx s o else LH
noncomputable def Jt (s:cW) (o:aK) :Int:=if mW s o=0 then ix s o else 0
theorem Ug {s:cW} {o:aK} (h:mW s o=0) :gJ s/\eh o=0:=by
 unfold mW at h;split at h
 ·rename_i h1;exact⟨(sQ s).1 h1,h⟩
 ·cases h
theorem VC (s:cW) (w:hK s) (o:aK) (u:dk o) :aU 163 [.af (bw s),.af (aw o)] (.int .i64 (mW s o)):=by
 apply a2 func163 [];have z:(bw s).length=5:=rfl;have q:(bw s).take 5=bw s:=rfl;have p:=g7 s;have j:(aw o).length=11:=rfl;have m:(aw o).take 11=aw o:=rfl;have v:=dt o;have t:=D1 s w;have B:=z8 o u;have g:mW s o=if fa s=0 then eh o else 8:=rfl
 simp[z,q,j];refine au t (by simp[am,U.ar,p]) ?_;by_cases h:fa s=0
 ·simp[h,j,m];refine au B (by simp[am,U.ar,v]) ?_;simp;exact aP (by rw[g,ak h]) rfl
 ·simp[h];exact aP (by rw[g,ai h]) rfl
theorem VR (s:cW) (u:hK s) (o:aK) (p:dk o) :aU 112 [.af (bw s),.af (aw o)] (.aX [.af (bw (sE s o)),.int .u8 (Jt s o),.int .i64 (mW s o)]):=by
 apply a2 func112 [];have v:(bw s).length=5:=rfl;have m:(bw s).take 5=bw s:=rfl;have j:=g7 s;have t:(aw o).length=11:=rfl;have g:(aw o).take 11=aw o:=rfl;have q:=dt o;have F:=VC s u o p;have d1:sE s o=if mW s o=0 then lx s o else LH:=rfl
 have d2:Jt s o=if mW s o=0 then ix s o else 0:=rfl
 simp[v,m,t,g];refine au F (by simp[am,U.ar,j,q]) ?_;by_cases h:mW s o=0
 ·obtain⟨h1,w⟩:=Ug h;have G:=VS s u h1 o p w;have B:(bw (lx s o)).length=5:=rfl;have D:(bw (lx s o)).take 5=bw (lx s o):=rfl;have z:=g7 (lx s o);have C:av [U.int .i64 0,.ad,.ad,.int .i64 0,.ad] 0 (bw (lx s o))=bw (lx s o):=cD rfl;simp[h,v,m,t,g];refine au G (by simp[am,U.ar,j,q]) ?_;simp[B,D,C];exact aP (by rw[d1,d2,ak h,ak h,h]) (by rw[d1,d2,ak h,ak h];simp[U.ar,am,z])
 ·simp[h,av];exact aP (by rw[d1,d2,ai h,ai h];rfl) (by rw[d1,d2,ai h,ai h];rfl)
theorem GZ (s:b1 aW) (o:s.l.length<=1000000) {l:ae} {K:cB} (j:∀ w h,w.cells=some [w]->eW 2 bb (l++h) l.length w s->K w (l++h)) :
  cM 142 [dn s] l K:=by
 apply c1 func142 [];have p:=du;have m:ea prog .eql 22 (dn s) .ad=some (.bool s.isNone):=vK (e:=70) bn 2 bb s;cases s with
 | none=>
  simp[m];simpa using j .ad [] rfl (.inl ⟨rfl,rfl⟩)
 | some a=>
  have t:∀ y∈a,(bb y).length=2:=fun y _=>rfl
  have u:a.length<=1000000:=o;have g:=yj (enc:=bb) (z:=2) (by_:=48) (l++[aq.q 0 []]) l.length V (some a) t F F (by show a.length*48<=_;rw[p];omega);change dZ _ _ _ _ (dn (some a))=_ at g;simp at g;simp[m,g];refine bR.bm ?_;simp;exact j _ [_] rfl (.inr ⟨l.length,aN _,rfl,rfl,V⟩)
def hc (ps:List aW) (wk:Nat->U) (k:Nat) :List (ag):=(List.range ps.length).map fun i=>if i<k then [ah (dp ps i).idsZ,wk i] else bb (dp ps i)
theorem K3 (ps:List aW) (wk:Nat->U) :hc ps wk 0=ps.map bb:=by
 unfold hc;apply g1;intro i;by_cases h:i<ps.length
 ·obtain⟨j,g,_⟩:=aQ h;rw[b0,hn h,b0,g];simp[dq g]
 ·rw[dW (by simp;omega),dW (by simp;omega)]
theorem p6 (ps:List aW) (wk:Nat->U) (k:Nat) :(hc ps wk k).length=ps.length:=by simp[hc]
theorem lB {ps:List aW} {wk:Nat->U} {k:Nat}:∀ e∈hc ps wk k,e.length=2:=fun e g=>by
 unfold hc at g;obtain⟨i,_,rfl⟩:=cE.1 g;split<;>rfl
theorem sJ {ps:List aW} {wk:Nat->U} {k i:Nat} (h:i<ps.length) :(hc ps wk k)[i]?=some (if i<k then [ah (dp ps i).idsZ,wk i] else bb (dp ps i)):=by unfold hc;rw[b0,hn h];rfl
theorem K2 {ps:List aW} {wk:Nat->U} {k:Nat} {w:U} (h:k<ps.length) :(hc ps wk k).set k [ah (dp ps k).idsZ,w]=hc ps (fun i=>if i=k then w else wk i) (k+1):=by
 apply g1;intro i;by_cases g:i<ps.length
 ·by_cases e:i=k
  ·subst e;rw[bY (by rw[p6];exact g),sJ g,ak F,ak rfl]
  ·rw[bj (fun m=>e m.symm),sJ g,sJ g];by_cases j:i<k
   ·rw[ak j,ak F,ai e]
   ·rw[ai j,ai F]
 ·rw[dW (by rw[ko,p6];omega),dW (by rw[p6];omega)]
theorem eW.rd {alZ:Type} {z:Nat} {enc:alZ->ag} {l:ae} {n:Nat} {w:U} {s:b1 alZ} (h:eW z enc l n w s) (o:∀ y∈s.l,(enc y).length=z) (m:∀ y,am (enc y)=true) :Rd l w (b4 z enc s):=by obtain⟨b,_,g,j,_⟩:=h.own o;exact g.q.gP m s j rfl
structure oq (ps:b1 aW) (k n:Nat) (h:U) (L:ae) :Prop where
 ex:(ps=none/\h=.ad)\/∃ (g:Nat) (wk:Nat->U),n<=g/\ps.isNone=false/\h=.Z 2 g 0 ps.l.length ps.l.length (ps.l.length*2)/\L[g]?=some (.q (ps.l.length*2) (hc ps.l wk k).flatten)/\∀ i,i<k->i<ps.l.length->eW 11 aw L (g+1) (wk i) (dp ps.l i).opsZ
theorem oq.frame {ps:b1 aW} {k n:Nat} {o:U} {L L' : ae} (h:oq ps k n o L) (j:∀ b,n<=b->b<L.length->L'[b]?=L[b]?) :oq ps k n o L':=by
 rcases h.ex with h | ⟨m,z,h1,p,q,g,t⟩
 ·exact⟨.inl h⟩
 ·exact⟨.inr ⟨m,z,h1,p,q,by rw[j m h1 (a1 g)];exact g,fun i v w=>(t i v w).frame fun b B u=>j b F u⟩⟩
theorem oq.cells {ps:b1 aW} {k n:Nat} {g:U} {L:ae} (h:oq ps k n g L) :g.cells=some [g]:=by rcases h.ex with ⟨_,rfl⟩ | ⟨j,m,_,_,rfl,_⟩<;>rfl
theorem oq.rd {ps:b1 aW} {n:Nat} {v:U} {L:ae} (h:oq ps ps.l.length n v L) :Rd L v (dn ps):=by
 rcases h.ex with ⟨rfl,rfl⟩ | ⟨I,w,h1,z,rfl,B,C⟩
 ·exact .same _ rfl
 ·have g:dn ps=.bu 2 (ps.l.map bb):=by
   cases ps with
   | none=>cases z
   | some a=>rfl
  rw[g];have D:=hv (lB (ps:=ps.l) (wk:=w) (k:=ps.l.length));rw[p6] at D;refine .Z 2 I 0 _ _ _ _ _ B V (fun e g=>by obtain⟨y,_,rfl⟩:=cE.1 g;rfl) F fun i H e c J g o j=>?_
  have m:i<ps.l.length:=by have:=(aL.1 g).1;simpa using this
  obtain⟨p,u,_⟩:=aQ m;rw[b0,u] at g;obtain rfl:=cc g;have t:dp ps.l i=p:=dq u;have G:H<2:=by have:=(aL.1 o).1;exact this
  have q:=ln lB (sJ (ps:=ps.l) (wk:=w) (k:=ps.l.length) m) G;rw[ak m,t] at q;rw[hI,q] at j;rcases j6 o with ⟨rfl,rfl⟩ | ⟨rfl,rfl⟩
  ·simp at j;subst j;exact .same _ (bO _)
  ·simp at j;subst j;have:=C i m m;rw[t] at this;exact this.rd (fun _ _=>rfl) dt
end Op
end Go.bh
namespace Go.bh
open Go Go.Proofs Go.Proofs.Tryz Go.RowKit
section
variable {P:bp} {n:Nat}
theorem UI {o:a8} {a:Act} {w:aT} {K j:Act->aT->Prop} {Q rS:Exit->Act->aT->Prop} (g:∀ a w,K a w->j a w) (p:∀ e a w,e≠.normal->Q e a w->rS e a w) (h:o.wp P a w K Q) :o.wpIn Fence.wide n P a w j rS:=by
 unfold Oper.wp at h;refine⟨fun _ _=>trivial,?_⟩;show o.uponIn Fence.wide n P a j rS ((execOp a.eval o).run P w);cases u:(execOp a.eval o).run P w with
 | ok x w'=>
  rw[u] at h;cases x with
  | value t=>exact g _ _ h
  | skip=>exact g _ _ h
  | defer d=>exact g _ _ h
  | enter f args=>
   refine⟨fun q=>(by cases q),(callsIn_wide.2 h).mono ?_⟩;rintro (t | C | _) D m
   ·exact g _ _ m
   ·exact p _ _ _ V m
   ·obtain⟨v,B,z⟩:=m;exact⟨v,B,p _ _ _ V z⟩
  | row r args=>exact⟨fun q=>(by cases q),fun c cs _=>let ⟨t,w',r,s⟩:=h c cs;⟨t,w',g _ _ r,stepsIn_wide.2 s⟩⟩
  | _=>exact h.elim
 | halt e w'=>
  rw[u] at h;cases e<;>first | exact p _ _ _ V h | exact h.elim
theorem C8 {all:Array a8} {Q:Exit->Act->aT->Prop}:∀ {l1 j:List a8} {a:Act} {w:aT},
  wpList P all (fun e a w=>match e with | .normal=>wpListIn Fence.wide n P all Q j a w | _=>False) l1 a w->wpListIn Fence.wide n P all Q (l1++j) a w
 | [],j,a,w,h=>h
 | q::l1,j,a,w,h=>by
  rw[iK];unfold wpList at h;unfold wpListIn;split
  ·rename_i m;rw[ak m] at h;rcases h with h | ⟨_,p,t,g⟩
   ·refine UI (fun a w g=>C8 g) (fun e a w o g=>?_) h;cases e<;>first | exact bV rfl o | exact g.elim
   ·exact g.elim
  ·rename_i m;rw[ai m] at h;exact⟨fun _ _=>trivial,C8 h⟩
end
section
variable {P:bp} {n:Nat}
def fO (fn:cj) (tmps:Array aE) (ps:Array Tmp) (body:Code) (D:Nat) (st:LoopState) (g:Option Code) :Loop:={ state:=st,pending:=g,fn,tmps:=tmps,params:=ps,assign:=.skip,body:=body,defers:=D }
theorem Wg {g:aY} {ps:Array Tmp} {h:Code} {Q:Exit->Act->aT->Prop} {a:Act} {w:aT} {gf:Nat} {lb:Array aE}
  (ah:a.eval g=.func (.func gf) #[] lb) (S:∀ args w,(callFunc gf args).run P w=.ok (.enter gf args) w) (aq:ps.size=1)
  {A B:Prop} (C:aT->aT->Prop) (K:∀ W z,C W z->KeepsOthers W z)
  (V:∀ (fn:cj) (x:aE) (W:aT),ew ((w.alloc (.deferred (some []))).alloc (.loop (fO fn a.tmps ps h w.heap.size .ready none))) W->
   h.wpIn (Fence.wide.inRound (w.heap.size+1)) n P (fun e _ z=>e=.ret/\C (W.putObj (w.heap.size+1) (.loop (fO fn a.tmps ps h w.heap.size .busy none))) z)
    { tmps:=(ps.zip #[x]).foldl (fun t (p,v)=>t.setIfInBounds p v) a.tmps,defers:=[] } (W.putObj (w.heap.size+1) (.loop (fO fn a.tmps ps h w.heap.size .busy none))))
  (X:∀ (fn:cj) (hL:aT),hL=(w.alloc (.deferred (some []))).alloc (.loop (fO fn a.tmps ps h w.heap.size .ready none))->
   (∀ (x:aE) (W:aT),ew hL W->YieldAt Fence.wide n P (w.heap.size+1) #[x] W fun e z=>e=.returned (.bool false)/\∃ m,C (W.putObj (w.heap.size+1) (.loop (fO fn a.tmps ps h w.heap.size .busy none))) m ∧
    z=m.putObj (w.heap.size+1) (.loop (fO fn a.tmps ps h w.heap.size .done (some .ret))))->
   CallsIn Fence.wide (n - 1) P gf (#[.func (.yield (w.heap.size+1)) #[] #[]]++lb) hL fun e j=>(∃ v,e=.returned v)/\((A/\ew hL j) ∨
    (B/\∃ W m,ew hL W/\C (W.putObj (w.heap.size+1) (.loop (fO fn a.tmps ps h w.heap.size .busy none))) m/\ew (m.putObj (w.heap.size+1) (.loop (fO fn a.tmps ps h w.heap.size .done (some .ret)))) j)))
  (ae:∀ (fn:cj) (hL j:aT),hL=(w.alloc (.deferred (some []))).alloc (.loop (fO fn a.tmps ps h w.heap.size .ready none))->A->ew hL j->
   Q .normal { a with defers:={ target:=.collected w.heap.size,args:=#[] }::a.defers } (j.putObj (w.heap.size+1) (.loop (fO fn a.tmps ps h w.heap.size .exhausted none))))
  (ak:∀ (fn:cj) (hL W m j:aT),hL=(w.alloc (.deferred (some []))).alloc (.loop (fO fn a.tmps ps h w.heap.size .ready none))->B->ew hL W->
   C (W.putObj (w.heap.size+1) (.loop (fO fn a.tmps ps h w.heap.size .busy none))) m->ew (m.putObj (w.heap.size+1) (.loop (fO fn a.tmps ps h w.heap.size .done (some .ret)))) j->
   Q .ret { a with defers:={ target:=.collected w.heap.size,args:=#[] }::a.defers } (j.putObj (w.heap.size+1) (.loop (fO fn a.tmps ps h w.heap.size .exhausted (some .ret))))) :
  (Code.rangeFunc g ps .skip h).wpIn Fence.wide n P Q a w:=by
 refine wpIn_rangeFunc ?_;intro fn ag;rw[Fence.wide_round];obtain⟨hL,q⟩:∃ hL,(w.alloc (.deferred (some []))).alloc (.loop (fO fn a.tmps ps h w.heap.size .ready none))=hL:=⟨_,rfl⟩
 have G:hL.heap[w.heap.size+1]?=some (.loop (fO fn a.tmps ps h w.heap.size .ready none)):=by
  rw[<-q];have:=World.alloc_heap_new (w.alloc (.deferred (some []))) (.loop (fO fn a.tmps ps h w.heap.size .ready none));rwa [World.size_alloc] at this
 have ar:hL.heap.size=w.heap.size+2:=by rw[<-q];simp
 refine⟨w.heap.size+1,[{ target:=.collected w.heap.size,args:=#[] }],hL,{ target:=.fn (.func gf) lb,args:=#[.func (.yield (w.heap.size+1)) #[] #[]] },hL,gf,
  #[.func (.yield (w.heap.size+1)) #[] #[]]++lb,hL,?_,?_,?_,?_,fun Y=>(by cases Y),?_⟩
 ·rw[<-q];exact run_enterLoop_outer _ _ _ _ _
 ·simp only[resolve,ah];simp[go_sem]
 ·intro ao ap;trivial
 ·simp[invoke,go_sem,S]
 ·refine (X fn hL q.symm fun x W o=>?_).mono ?_
  ·have u:W.heap[w.heap.size+1]?=some (.loop (fO fn a.tmps ps h w.heap.size .ready none)):=(o.toBelow.block _ F).trans G;have J:w.heap.size+1<W.heap.size:=(ik.1 u).1;have al:=run_yield (P:=P) (args:=#[x]) u (by show 1=ps.size;omega);refine⟨fn,_,.skip,h,al,roundIn_of_wpIn ag (wpIn_skip ⟨_,run_beginRound u rfl,?_⟩)⟩;have H:(W.putObj (w.heap.size+1) (.loop (fO fn a.tmps ps h w.heap.size .busy none))).heap[w.heap.size+1]?=some (.loop (fO fn a.tmps ps h w.heap.size .busy none)):=World.putObj_heap_same J;refine wpIn_mono (V fn x W (by rw[q];exact o)) ?_;rintro e am m ⟨rfl,D⟩;have I:=(K _ _ D).same _ _ H rfl;have aj:=run_endRound (P:=P) (some .ret) I;exact⟨_,_,aj,rfl,m,D,rfl⟩
  ·rintro e j ⟨⟨v,rfl⟩,(⟨T,o⟩ | ⟨U,W,m,o,D,O⟩)⟩
   ·have u:j.heap[w.heap.size+1]?=some (.loop (fO fn a.tmps ps h w.heap.size .ready none)):=(o.toBelow.block _ F).trans G;exact⟨none,_,run_endLoop (P:=P) u (by simp[fO]),ae fn hL j q.symm T o⟩
   ·have u:W.heap[w.heap.size+1]?=some (.loop (fO fn a.tmps ps h w.heap.size .ready none)):=(o.toBelow.block _ F).trans G;have J:w.heap.size+1<W.heap.size:=(ik.1 u).1;have H:(W.putObj (w.heap.size+1) (.loop (fO fn a.tmps ps h w.heap.size .busy none))).heap[w.heap.size+1]?=some (.loop (fO fn a.tmps ps h w.heap.size .busy none)):=World.putObj_heap_same J;have I:=(K _ _ D).same _ _ H rfl;have R:=(ik.1 I).1;have ai:j.heap[w.heap.size+1]?=some (.loop (fO fn a.tmps ps h w.heap.size .done (some .ret))):=(O.toBelow.block _ (by simpa using R)).trans (World.putObj_heap_same R);exact⟨some .ret,_,run_endLoop (P:=P) ai (by simp[fO]),wpIn_ret (ak fn hL W m j q.symm U o D O)⟩
end
def ij:Code->List Bool->Code
 | c,[]=>c
 | .seq a b,d::r=>ij (if d then b else a) r
 | .block _ c,_::r=>ij c r
 | .loop c,_::r=>ij c r
 | .cond _ a b,d::r=>ij (if d then b else a) r
 | .rangeFunc _ _ a b,d::r=>ij (if d then b else a) r
 | c,_::_=>c
def ke:Code->Array a8
 | .region _ g _=>g
 | _=>#[]
section
variable {P:bp} {G:Nat->U}
theorem pF (u:P.follows .mixedOrders=true) (o:∀ g,(G g).ar=true) {N n:Nat} {code:Code} {c:fG} (q:comp P N code=some c) {sgZ:aS} {l:ae} {K:fH} (v:run P G c sgZ l K)
  {R:Nat->Prop} {B:Nat} {w:aT} {muZ:b3} {a:Act} {Q:Exit->Act->aT->Prop} (rel:bF R B w (aZ l) muZ) (g:jV G w R (aZ l) muZ) (s:gI N w R (aZ l) muZ sgZ a)
  (p:∀ e h w' muZ' j l',K e j l'->cZ w (aZ l) muZ w' (aZ l') muZ'->bF R B w' (aZ l') muZ'->gI N w' R (aZ l') muZ' j h->Q e.out h w') :code.wpIn Fence.wide n P Q a w:=by obtain⟨e,j,l',t,_,hk⟩:=La (aN N) code c q sgZ l K v;obtain⟨F,z⟩:=sO u o t;exact wpIn_wide.2 (lF.wp (z R B w muZ a Q rel g s fun h w' muZ' m C D=>p e h w' muZ' j l' hk m C D))
theorem JQ (D:P.follows .mixedOrders=true) (t:∀ g,(G g).ar=true) {N n:Nat} {opsZ:Array a8} (u:∀ (i:Nat) (o:a8),opsZ[i]?=some o->hO N o.dst=true) {p:List c9} {os m:List a8} (z:k8 P opsZ p os)
  {sgZ:aS} {l:ae} {K:aS->ae->Prop} (F:iF P G p sgZ l K)
  {R:Nat->Prop} {B:Nat} {w:aT} {muZ:b3} {a:Act} {Q:Exit->Act->aT->Prop} (rel:bF R B w (aZ l) muZ) (g:jV G w R (aZ l) muZ) (s:gI N w R (aZ l) muZ sgZ a)
  (v:∀ h w' muZ' j l',K j l'->cZ w (aZ l) muZ w' (aZ l') muZ'->bF R B w' (aZ l') muZ'->gI N w' R (aZ l') muZ' j h->wpListIn Fence.wide n P opsZ Q m h w') :wpListIn Fence.wide n P opsZ Q (os++m) a w:=by obtain⟨j,l',C,_,hk⟩:=xp u z F;refine C8 ?_;exact sO D t C R B w muZ a _ rel g s fun h w' muZ' q H I=>v h w' muZ' j l' hk q H I
theorem WN {n m:Nat} {l:Nat} {f:cj} {tmps:Array aE} {assign g:Code} {w:aT} {R:Ending->aT->Prop} (h:RoundIn Fence.wide n P l f tmps assign g w R) :RoundIn Fence.wide m P l f tmps assign g w R:=
 ⟨h.1,fun c cs _=>h.2 c cs (room_wide _)⟩
theorem Ka {R:Nat->Prop} {B:Nat} {w:aT} {l:ae} {muZ:b3} (rel:bF R B w (aZ l) muZ) {b sz:Nat} {cs:ag} (O:l[b]?=some (.q sz cs)) (P:am cs=true) {v:aE} (S:aB w R (aZ l) muZ (.ptr b 0 sz) v) :de w R (.b6 cs 0) v:=by
 have m:(aZ l).f b=.q sz cs:=hJ.2 O;cases S with
 | jj _ _ _ a Q=>
  rcases Q with h | ⟨n,G,h,W⟩
  ·rw[m] at h;cases h
  ·rw[m] at h;injection h with h1 I;omega
 | ptr _ _ _ G j u C=>
  rw[m] at u;injection u with _ H
  subst H;have z:=rel.blk b j C;rw[m] at z;obtain⟨h1,I,arr,e,T,J,U,V,t⟩:=z;have K:R j.r:=rel.up _ (rel.base b j (by rw[m];rfl) C);refine .b6 cs 0 j.r j.s (fun g=>(arr[j.s+g]?).getD undef) (fun g o=>?_) fun g c o=>?_
  ·obtain⟨v,p,D,F⟩:=t g cs[g] (bM o);rw[p];refine⟨?_,D,K,mV _ _⟩;simp only[World.cell?,J];simpa using p
  ·obtain⟨v,p,D,F⟩:=t g c o;rw[p];exact (nC F (r2 P g c o)).up fun k _ hk=>⟨hk.1,mV _ _⟩
theorem de.lc {w w' : aT} {A:Nat->Prop} {c:U} {v:aE} (h:de w A c v) (g:ew w w') :de w' A c v:=by obtain⟨e,_⟩:=p4 (uE w (fun k=>A k\/w.heap.size<=k) fun k hk=>.inr hk) g;exact aB.j4 (R:=A) (⟨e.os,e.tape,e.output,e.size,e.bm,e.own,e.cells,e.gone,e.wW,e.n,e.drawn⟩) h
end
namespace Op
open cl
def vt (g h j m:Array a8) :Code:=.seq (.region 1 g false) (.seq (.cond (.tmp 10) .skip (.exit 0)) (.seq (.block 1 (.seq (.region 2 h false) (.seq (.region 3 j false) (.cond (.tmp 23) .ret .skip)))) (.region 4 m false)))
def r7 (cap m:Int) (j g:U) (h:b2) :ag:=[.int .i64 cap,j,g,.int .i64 m,ah h]
theorem G3 {cap p:Int} {h g:U} {o:b2} (m:h.ar=true) (j:g.ar=true) :am (r7 cap p h g o)=true:=by simp[r7,am,m,j,bO,U.ar]
structure pr (E:ag) (ps:b2) (S:ag) (h:Nat) (j:aT) (k:Nat) (a:Go.Act) (W:aT) :Prop where
 size:a.tmps.size=25
 defers:a.defers=[]
 t0:a.tmps.getD 0 undef=.func (.yield h) #[] #[]
 t8:a.tmps.getD 8 undef=.int .i64 ps.l.length
 t9:a.tmps.getD 9 undef=.int .i64 k
 ex:∃ A,de W A (.b6 (E) 0) (a.tmps.getD 1 undef)/\de W A (.b6 S 0) (a.tmps.getD 2 undef)/\de W A (ah ps) (a.tmps.getD 7 undef)/\∀ g,de W A (GS g) (.pointer (some ⟨g,0,none⟩))
 lc:ew j W
def jM (E:ag) (ps:b2) (S:ag) (g k:Nat) :aS:=br (br (br (br (br (br (fun _=>U.bad) 0 (.fh g)) 1 (.b6 (E) 0)) 2 (.b6 S 0)) 7 (ah ps)) 8 (.int .i64 ps.l.length)) 9 (.int .i64 k)
theorem pr.xx {E:ag} {ps:b2} {S:ag} {j:Nat} {w:aT} {k:Nat} {a:Go.Act} {W:aT} (h:pr E ps S j w k a W) :
  ∃ R:Nat->Prop,bF R W.heap.size W (aZ []) (fun _=>none)/\jV GS W R (aZ []) (fun _=>none)/\gI 25 W R (aZ []) (fun _=>none) (jM E ps S j k) a:=by
 obtain⟨A,h1,z,B,D⟩:=h.ex;have up:∀ {c:U} {v:aE},de W A c v->aB W (fun k=>A k\/W.heap.size<=k) aM.empty (fun _=>none) c v:=fun C=>C.up (fun k _ hk=>⟨.inl hk,mV _ k⟩)
 refine⟨fun k=>A k\/W.heap.size<=k,uE W _ fun k hk=>.inr hk,fun u=>⟨eD u,up (D u)⟩,h.size,h.defers,fun g=>?_⟩;unfold jM;by_cases t:g=9
 ·subst t;rw[fK,h.t9];exact .int _ _
 rw[bS _ _ _ _ t];by_cases a7:g=8
 ·subst a7;rw[fK,h.t8];exact .int _ _
 rw[bS _ _ _ _ a7];by_cases q:g=7
 ·subst q;rw[fK];exact up B
 rw[bS _ _ _ _ q];by_cases p:g=2
 ·subst p;rw[fK];exact up z
 rw[bS _ _ _ _ p];by_cases o:g=1
 ·subst o;rw[fK];exact up h1
 rw[bS _ _ _ _ o];by_cases m:g=0
 ·subst m;rw[fK,h.t0];exact .fh _
 rw[bS _ _ _ _ m];exact .bad _
theorem tv {w w' : aT} {h' : aM} {muZ' : b3} (e:cZ w aM.empty (fun _=>none) w' h' muZ') :ew w w':=⟨⟨e.os,e.tape,e.output,e.size,fun k hk=>e.bm k hk (mV _ k)⟩,e.drawn⟩
theorem oB {a b c:aT} (h1:ew a b) (g:ew b c) :ew a c:=⟨h1.toBelow.trans (g.toBelow.mono h1.toBelow.size),dC h1.drawn g.drawn⟩
theorem OW (w:aT) :ew w w:=⟨RowKit.Below.refl _ w,aN _⟩
theorem pr.mk' {E:ag} {ps:b2} {S:ag} (u:am E=true) (v:am S=true) {p:Nat} {q W jv:aT} {k:Nat} {j:Go.Act} {R:Nat->Prop} {l' : ae} {muZ' : b3} {h:aS} (w:ew q W) (e:cZ W aM.empty (fun _=>none) jv (aZ l') muZ') (g:jV GS jv R (aZ l') muZ') (s:gI 25 jv R (aZ l') muZ' h j)
  (C:h 0=.fh p) (D:h 1=.b6 (E) 0) (F:h 2=.b6 S 0) (G:h 7=ah ps) (H:h 8=.int .i64 ps.l.length) (I:h 9=.int .i64 k) :pr E ps S p q k j jv:=by
 have o:∀ {m:Nat} {c:U},h m=c->c.ar=true->de jv (fun k=>R k) c (j.tmps.getD m undef):=fun {m c} B z=>by
  have:=s.val m;rw[B] at this;exact (nC this z).up fun k _ hk=>⟨hk.1,mV _ k⟩
 refine⟨s.size,s.defers,?_,?_,?_,⟨fun k=>R k,o D (by simp[U.ar,u]),o F (by simp[U.ar,v]),o G (bO _),fun i=>(nC (g i).2 (g i).1).up fun k _ hk=>⟨hk.1,mV _ k⟩⟩,oB w (tv e)⟩
 ·have:=s.val 0;rw[C] at this;generalize j.tmps.getD 0 undef=t at this ⊢;cases this;rfl
 ·have:=s.val 8;rw[H] at this;generalize j.tmps.getD 8 undef=t at this ⊢;cases this;rfl
 ·have:=s.val 9;rw[I] at this;generalize j.tmps.getD 9 undef=t at this ⊢;cases this;rfl
abbrev S4:List c9:=[eB 0 6 (.nF 1 (cY 1)),eB 1 7 (.ld1 (cY 6)),eB 2 8 (.len (.Z 32) (cY 7)),eB 3 9 (.dU (.const (.int .i64 0)))]
abbrev S5:List c9:=[eB 0 10 (.bin .lss 3 (cY 9) (cY 8))]
abbrev S6:List c9:=[eB 0 11 (.sk (.Z 32) (cY 7) (cY 9)),eB 1 12 (.j8 32 (cY 11)),eB 2 5 (.alloc (bZ 32 (.int .u8 0))),xr 3 (.st 32 (cY 5) (cY 12))]
abbrev S7:List c9:=[eB 0 13 (.nF 4 (cY 2)),eB 1 14 (.ld1 (cY 13)),eB 2 15 (.j8 32 (cY 5)),sc 3 16 66 [(cY 14),(cY 15)],eB 4 17 (.un .not (cY 16)),jm 5 18 17,uP 6 19 18 true (.dU (cY 0)),uP 7 20 18 true (.j8 32 (cY 5))]
abbrev S8:List c9:=[uP 9 22 18 true (.un .not (cY 21)),eB 10 23 (.pick (cY 18) (cY 22) (.const (.bool false)))]
theorem vF {P:bp} {opsZ:Array a8}:∀ {idx:List Nat} {h:List c9} {os:List a8},idx.mapM (fun i=>uV P opsZ i [] false)=some h->os.map some=idx.map (fun i=>opsZ[i]?)->k8 P opsZ h os:=by intro idx h os h1 g;exact BL (fun i x m=>by obtain⟨o,g,j,_⟩:=xA m;exact⟨o,g,j⟩) h1 g.symm
def Dc:fG:=(.seq (.jK [eB 0 10 (.bin .lss 3 (cY 9) (cY 8))]) (.seq (.cond (cY 10) .skip (.exit 0)) (.seq (.block 1 (.seq (.jK [eB 0 11 (.sk (.Z 32) (cY 7) (cY 9)),eB 1 12 (.j8 32 (cY 11)),eB 2 5 (.alloc (bZ 32 (.int .u8 0))),xr 3 (.st 32 (cY 5) (cY 12))]) (.seq (.jK [eB 0 13 (.nF 4 (cY 2)),eB 1 14 (.ld1 (cY 13)),eB 2 15 (.j8 32 (cY 5)),sc 3 16 66 [(cY 14),(cY 15)],eB 4 17 (.un .not (cY 16)),jm 5 18 17,uP 6 19 18 true (.dU (cY 0)),uP 7 20 18 true (.j8 32 (cY 5)),⟨8,(some 21),(some ((some 18),true)),.lU (cY 19) [(cY 20)],[],false⟩,uP 9 22 18 true (.un .not (cY 21)),eB 10 23 (.pick (cY 18) (cY 22) (.const (.bool false)))]) (.cond (cY 23) .ret .skip)))) (.jK [eB 0 24 (.bin .add 3 (cY 9) (.const (.int .i64 1))),jm 1 9 24]))))
structure NH (p j m g q:Array a8) (h:a8) :Prop where
 body:Tryz.f206.body=some (.seq (.region 0 p false) (.block 0 (.loop (vt j m g q))))
 BZ:comp prog 25 (.region 0 p false)=some (.jK S4)
 j0:comp prog 25 (.region 1 j false)=some (.jK S5)
 yr:comp prog 25 (.region 2 m false)=some (.jK S6)
 GM:comp prog 25 (vt j m g q)=some Dc
 split:g.toList=g.toList.take 8++(h::(g.toList.drop 9++[]))
 Uq:k8 prog g S7 (g.toList.take 8)
 Ur:k8 prog g S8 (g.toList.drop 9)
 Hs:∀ (i:Nat) (o:a8),g[i]?=some o->hO 25 o.dst=true
 Ud:h.op=.call { callee:=.value (.tmp 19),args:=#[.tmp 20],argTypes:=#[57] }
 Ub:h.dst=some 21
 Uc:h.guard=some (5,true)
 T9:(g[5]?).bind (·.dst)=some 18
theorem Qz {R:Array a8} (g:(R.toList.all fun o=>hO 25 o.dst)=true) (i:Nat) (o:a8) (h:R[i]?=some o) :hO 25 o.dst=true:=by exact gb.1 g o (by rw[<-qk] at h;exact cJ h)
theorem IX:∃ g h j m o Ua,NH g h j m o Ua:=
 ⟨ke (ij ((Tryz.f206.body).getD .skip) [false]),
  ke (ij ((Tryz.f206.body).getD .skip) [true,false,false,false]),
  ke (ij ((Tryz.f206.body).getD .skip) [true,false,false,true,true,false,false,false]),
  ke (ij ((Tryz.f206.body).getD .skip) [true,false,false,true,true,false,false,true,false]),
  ke (ij ((Tryz.f206.body).getD .skip) [true,false,false,true,true,true]),
  ((ke (ij ((Tryz.f206.body).getD .skip) [true,false,false,true,true,false,false,true,false])).toList.drop 8).headD { op:=.move (.tmp 0),dst:=none,type:=0,pos:= "",after:=#[],guard:=none },
  ⟨by kernel_rfl,by kernel_rfl,by kernel_rfl,by kernel_rfl,by kernel_rfl,by kernel_rfl,vF (idx:=[0,1,2,3,4,5,6,7]) bn bn,vF (idx:=[9,10]) bn bn,
  Qz bn,by kernel_rfl,by kernel_rfl,by kernel_rfl,by kernel_rfl⟩⟩
theorem xJ {sgZ:aS} {N:Nat} {W:aT} {R:Nat->Prop} {h:aM} {muZ:b3} {a:Go.Act} (s:gI N W R h muZ sgZ a) {t:Nat} {b:Bool} (g:sgZ t=.bool b) :a.tmps.getD t undef=.bool b:=by have:=s.val t;rw[g] at this;generalize a.tmps.getD t undef=j at this ⊢;cases this;rfl
theorem Zw {sgZ:aS} {N:Nat} {W:aT} {R:Nat->Prop} {h:aM} {muZ:b3} {a:Go.Act} (s:gI N W R h muZ sgZ a) {t l:Nat} (g:sgZ t=.fh l) :a.tmps.getD t undef=.func (.yield l) #[] #[]:=by have:=s.val t;rw[g] at this;generalize a.tmps.getD t undef=j at this ⊢;cases this;rfl
theorem Lm (E:ag) (ps:b2) (S:ag) (gc k:Nat) :jM E ps S gc k 0=.fh gc:=by simp[jM]
theorem Xh (E:ag) (ps:b2) (S:ag) (g k:Nat) :jM E ps S g k 1=.b6 (E) 0:=by simp[jM]
theorem Ev (E:ag) (ps:b2) (S:ag) (g k:Nat) :jM E ps S g k 2=.b6 S 0:=by simp[jM]
theorem Ew (E:ag) (ps:b2) (S:ag) (g k:Nat) :jM E ps S g k 7=ah ps:=by simp[jM]
theorem Au (E:ag) (ps:b2) (S:ag) (g k:Nat) :jM E ps S g k 8=.i6 ps.l.length:=by simp[jM]
theorem Av (E:ag) (ps:b2) (S:ag) (g k:Nat) :jM E ps S g k 9=.i6 k:=by simp[jM]
theorem Ts (E:ag) (ps:b2) (bf:am E=true) (bM:E.length=11) (bL:∀ h:1<E.length,E[1]'h=ah ps) (cl:c5 ps) (cQ:ps.l.length<=1000000) (ord:b2) (cj:c5 ord) (ch:ord.l.length<=1000000) (cap bB:Int) (aW aS:U) (ck:aW.ar=true) (cd:aS.ar=true) {n gc:Nat} {p:aT} {A:Nat->Prop} {mY jH:aE}
  (h1:de p A (.b6 (E) 0) mY) (bb:de p A (.b6 (r7 cap bB aW aS ord) 0) jH) (bi:∀ g,de p A (GS g) (.pointer (some ⟨g,0,none⟩)))
  {aw:aT->aT->Prop} {m:Nat} (bV:∀ (x:aE) (W:aT),ew p W->YieldAt Fence.wide m prog gc #[x] W fun e u=>e=.returned (.bool false)/\aw W u)
  (bW:∀ W u,ew p W->aw W u->∃ A,∀ g,de u A (GS g) (.pointer (some ⟨g,0,none⟩))) :
  CallsIn Fence.wide n prog 206 (#[.func (.yield gc) #[] #[]]++#[mY,jH]) p fun e hM=>(∃ v,e=.returned v) ∧
   (((∀ x∈ps.l,x∈ord.l)/\ew p hM)\/((¬ ∀ x∈ps.l,x∈ord.l)/\∃ W u,ew p W/\aw W u/\ew u hM)):=by
 obtain⟨cJ,a1,a2,T,a3,aV,M⟩:=IX;obtain⟨o,ax⟩:=al (r7 cap bB aW aS ord);have bg:am o=true:=by rw[ax];exact G3 ck cd
 have bd:o.length=5:=by rw[ax];rfl
 have bR:o[4]?=some (ah ord):=by rw[ax];rfl
 have bc:∀ h:4<o.length,o[4]'h=ah ord:=fun h=>(aL.1 bR).2
 rw[<-ax] at bb;have D:prog.follows .mixedOrders=true:=checked.mixed;have cf:bD (.Z 32) (ah ps)=_:=b9 _;refine callsIn_of_wp (fn:=Tryz.f206) func206 M.body trivial ?_ rfl;obtain⟨S,aJ⟩:∃ S,S=bodyPost prog Tryz.f206 (fun e hM=>(∃ v,e=Ending.returned v) ∧
   (((∀ x∈ps.l,x∈ord.l)/\ew p hM)\/((¬ ∀ x∈ps.l,x∈ord.l)/\∃ W u,ew p W/\aw W u/\ew u hM))):=⟨_,rfl⟩
 rw[<-aJ];have bl:∀ (a:Go.Act) (W:aT),(results Tryz.f206 a.tmps).run prog W=.ok (.tuple #[]) W:=fun a W=>results_none rfl _ _ _
 -- the start
 have bk:Tryz.f206.ntmps=25:=bn;obtain⟨G,ai⟩:=al (#[.func (.yield gc) #[] #[]]++#[mY,jH]++Array.replicate (Tryz.f206.ntmps - (#[.func (.yield gc) #[] #[]]++#[mY,jH] :Array aE).size) undef:Array aE);rw[<-ai];rw[bk] at ai;have bT:G.size=25:=by rw[ai];simp
 have aj:G=#[.func (.yield gc) #[] #[],mY,jH]++Array.replicate 22 undef:=by rw[ai];rfl
 have up:∀ {c:U} {v:aE},de p A c v->aB p (fun k=>A k\/p.heap.size<=k) aM.empty (fun _=>none) c v:=fun aP=>aP.up (fun k _ hk=>⟨.inl hk,mV _ k⟩)
 have b5:G.getD 0 undef=.func (.yield gc) #[] #[]:=by rw[aj,hh];simp
 have b8:G.getD (0+1) undef=mY:=by rw[aj,hh];simp
 have ca:G.getD (0+1+1) undef=jH:=by rw[aj,hh];simp
 have cb:∀ t,G.getD (t+1+1+1) undef=undef:=fun t=>by
  rw[aj,hh,u7 V,A8];split<;>rfl
 obtain⟨cF,cO⟩:=al (U.b6 (E) 0);obtain⟨cH,cP⟩:=al (U.b6 o 0);have bX:jw [.fh gc,.b6 (E) 0,.b6 o 0] 0=.fh gc:=by simp[jw]
 have bY:jw [.fh gc,.b6 (E) 0,.b6 o 0] (0+1)=.b6 (E) 0:=by simp[jw]
 have b0:jw [.fh gc,.b6 (E) 0,.b6 o 0] (0+1+1)=.b6 o 0:=by simp[jw]
 have b1:∀ t,jw [.fh gc,.b6 (E) 0,.b6 o 0] (t+1+1+1)=fC:=fun t=>by simp[jw,List.getD]
 clear ai aj bk;refine wpIn_seq (pF (sgZ:=jw [.fh gc,.b6 (E) 0,.b6 o 0]) (l:=[]) (K:=fun e j l=>e=.normal/\j 0=.fh gc/\j 1=.b6 (E) 0/\j 2=.b6 o 0/\j 7=ah ps/\j 8=.i6 ps.l.length/\j 9=.i6 (0:Nat))
  D eD M.BZ ?_ (uE p (fun k=>A k\/p.heap.size<=k) fun k hk=>.inr hk) (fun g=>⟨eD g,up (bi g)⟩) ⟨bT,rfl,fun t=>?_⟩ ?_)
 ·simp[jw,bM,bL,cf]
 ·rcases t with _ | _ | _ | t
  ·rw[b5,bX];exact .fh _
  ·rw[b8,bY];exact up h1
  ·rw[ca,b0];exact up bb
  ·rw[cb t,b1 t];exact xH
 rintro e a4 F1 cX c1 cR ⟨rfl,I,aC,J,O,aD,P⟩ aH cy bx;have a7:jV GS p (fun k=>A k\/p.heap.size<=k) aM.empty (fun _=>none):=fun g=>⟨eD g,up (bi g)⟩
 have bE:pr E ps o gc p 0 a4 F1:=pr.mk' bf bg (OW p) aH (a7.ext aH) bx I aC J O aD P;clear I aC J O aD P bx cy aH a7;show (Code.block 0 (.loop (vt a1 a2 T a3))).wpIn Fence.wide n prog S a4 F1;refine wpIn_block (wpIn_loop (fun a W=>∃ k,k<=ps.l.length/\pr E ps o gc p k a W/\∀ x∈ps.l.take k,x∈ord.l) (fun a _=>match a.tmps.getD 9 undef with | .int _ k=>ps.l.length - k.toNat | _=>0) ⟨0,F,bE,V⟩ ?_);rintro a W ⟨k,hk,R,aK⟩;obtain⟨cI,rel,ae,xx⟩:=R.xx;by_cases ay:k<ps.l.length
 ·obtain⟨x,bp,bq⟩:=aQ (l:=ps.l) (k:=k) ay;have bs:=cl x bq;have H:=bo bs;have bG:=ci (k:=k) F;have aU:bQ (.Z 32) (ah ps) _=_:=c8 bp;have ap:=qe ord cj ch x bs;have bh:=bO ord;have aR:=cG x;have cp:ps.l.take (k+1)=ps.l.take k++[x]:=by rw[ei,bp];rfl
  obtain⟨X,bU⟩:=al (ao x);rw[<-bU] at H aU ap aR;have bm:av (bZ 32 (.int .u8 0)) 0 X=X:=cD (by rw[H];rfl);by_cases az:x∈ord.l
  ·rw[b7 az] at ap;refine pF (sgZ:=jM E ps o gc k) (l:=[]) (K:=fun e j l=>e=.normal/\j 0=.fh gc/\j 1=.b6 (E) 0/\j 2=.b6 o 0/\j 7=ah ps/\j 8=.i6 ps.l.length/\j 9=.i6 ((k+1:Nat) :Int)) D eD M.GM ?_ rel ae xx ?_
   ·unfold Dc;simp[Ev,Ew,Au,Av,ay,aU,H,bm,bd,bc,aI];refine au ap (by simp[am,U.ar,bh,aR]) ?_;simp[Lm,Xh,Ev,Ew,Au,Av,bG]
   ·rintro e Y hM bC aZ bw ⟨rfl,I,aC,J,O,aD,P⟩ C aY aq;have a0:pr E ps o gc p (k+1) Y hM:=pr.mk' bf bg R.lc C (ae.ext C) aq I aC J O aD P;refine⟨⟨k+1,F,a0,fun y aA=>?_⟩,?_⟩
    ·rw[cp,fE,fQ] at aA;exact aA.elim (aK y) fun e=>by rw[e];exact az
    ·show (match Y.tmps.getD 9 undef with | .int _ k=>ps.l.length - k.toNat | _=>0)<(match a.tmps.getD 9 undef with | .int _ k=>ps.l.length - k.toNat | _=>0)
     rw[a0.t9,R.t9];simp only[fo];omega
  ·rw[cu az] at ap;have cg:¬ ∀ y∈ps.l,y∈ord.l:=fun h=>az (h x bq)
   suffices cn:(vt a1 a2 T a3).wpIn Fence.wide n prog (fun e a W=>e=.ret/\S .ret a W) a W from wpIn_mono cn fun e a w ⟨b4,h⟩=>by subst b4;exact h
   unfold vt;refine wpIn_seq (pF (sgZ:=jM E ps o gc k) (l:=[]) (K:=fun e j l=>e=.normal/\l=[]/\j 0=.fh gc/\j 2=.b6 o 0/\j 7=ah ps/\j 9=.i6 k/\j 10=.bool true) D eD M.j0 ?_ rel ae xx ?_)
   ·simp[Lm,Ev,Ew,Au,Av,ay]
   rintro e cM hM cY cE cS ⟨rfl,rfl,I,J,O,P,cx⟩ a6 cz bz;have a9:=ae.ext a6;refine wpIn_seq (wpIn_cond_true (xJ bz cx) (wpIn_skip ?_));refine wpIn_seq (wpIn_block (wpIn_seq ?_));refine pF (sgZ:=cE) (l:=[]) (K:=fun e j l=>e=.normal/\l=[.q 32 X]/\j 0=.fh gc/\j 2=.b6 o 0/\j 5=.ptr 0 0 32) D eD M.yr ?_ cz a9 bz ?_
   ·simp[I,J,O,P,aU,H,bm,aI]
   rintro e Y cK bC aZ bw ⟨rfl,rfl,cv,cw,bv⟩ C aY aq;refine wpIn_seq (wpIn_region_list ?_);rw[M.split];refine JQ (sgZ:=aZ) D eD M.Hs M.Uq (K:=fun j l=>j 18=.bool true/\j 19=.fh gc) ?_ aY (a9.ext C) aq ?_
   ·simp[cw,bv,H,bd,bc,aI];refine au ap (by simp[am,U.ar,bh,aR]) ?_;simp[cv,bv,H,aI]
   rintro z tq cZ c2 cT ⟨cr,cs⟩ bI cV Q;have aO:ew p tq:=oB R.lc (tv ((a6.trans C).trans bI));have t18:=xJ Q cr;have t19:=Zw Q cs;have cq:Region.wanted aV (yielded T z.tmps)=true:=by
    unfold Region.wanted yielded;rw[M.Uc];simp only[M.T9];have bj:18<z.tmps.size:=by rw[Q.size];omega
    have bK:z.tmps[18]?=some (.bool true):=by
     rw[hh,rA bj] at t18;rw[rA bj];simpa using t18
    simp[bK]
   unfold wpListIn;rw[ak cq];obtain⟨fn,cB,assign,bF,aA,bN⟩:=bV (z.tmps[20]?.getD undef) tq aO;have cm:(aV.semAt Fence.wide.round z.eval).run prog tq=.ok (.round gc fn cB assign bF) tq:=by
    rw[Fence.wide_round,Oper.semAt_none];unfold execOp;rw[M.Ud];have cA:z.tmps[19]?.getD undef=.func (.yield gc) #[] #[]:=by rw[<-hh];exact t19
    simp[go_sem,cA,aA]
    skip;done
   refine⟨fun _ _=>trivial,?_⟩;rw[cm,Oper.uponIn_round];refine⟨fun b3=>(by cases b3),WN (bN.mono ?_)⟩;rintro e B ⟨rfl,bt⟩;show wpListIn Fence.wide n prog T _ (T.toList.drop 9++[]) (z.put aV.dst (.bool false)) B;rw[M.Ub];obtain⟨aF,cc⟩:=bW tq B aO bt;have cC:∀ {c:U} {v:aE},de B aF c v->aB B (fun k=>aF k\/B.heap.size<=k) aM.empty (fun _=>none) c v:=fun aP=>aP.up (fun k _ hk=>⟨.inl hk,mV _ k⟩)
   refine JQ (sgZ:=br (br (fun _=>U.bad) 18 (.bool true)) 21 (.bool false)) (l:=[]) D eD M.Hs M.Ur (K:=fun j l=>j 23=.bool true) ?_ (uE B (fun k=>aF k\/B.heap.size<=k) fun k hk=>.inr hk) (fun g=>⟨eD g,cC (cc g)⟩) ⟨by simp[Act.put,Q.size],Q.defers,fun t=>?_⟩ ?_
   ·simp
   ·by_cases aG:t=21
    ·subst aG;rw[fK];have:(z.put (some 21) (.bool false)).tmps.getD 21 undef=.bool false:=by simp[Act.put,hh,Q.size]
     rw[this];exact .bool _
    ·rw[bS _ _ _ _ aG];have bH:(z.put (some 21) (.bool false)).tmps.getD t undef=z.tmps.getD t undef:=by
      simp only[Act.put,hh,Fi (Ne.symm aG)]
     rw[bH];by_cases a5:t=18
     ·subst a5;rw[fK,t18];exact .bool _
     ·rw[bS _ _ _ _ a5];exact .bad _
   rintro cN cL c0 c3 cU ct bJ cW bA;refine wpListIn_nil ?_;refine wpIn_cond_true (xJ bA ct) (wpIn_ret ?_);refine⟨rfl,?_⟩;rw[aJ];exact⟨bA.defers,_,bl _ _,⟨_,rfl⟩,.inr ⟨cg,tq,B,aO,bt,tv bJ⟩⟩
 ·have ce:k=ps.l.length:=F;rw[ce,e0] at aK;refine pF (sgZ:=jM E ps o gc k) (l:=[]) (K:=fun e j l=>e=.exit 0) D eD M.GM ?_ rel ae xx ?_
  ·unfold Dc;simp[Au,Av,ay]
  ·rintro e Y hM bC aZ bw rfl C aY aq;show S .normal Y hM;rw[aJ];exact⟨aq.defers,_,bl _ _,⟨_,rfl⟩,.inl ⟨aK,oB R.lc (tv C)⟩⟩
end Op
section
variable {P:bp} {n:Nat}
theorem uD (D:List Deferred) (a:Go.Act) (d:Option Tmp) (v:aE) :({ a with defers:=a.defers++D }:Go.Act).put d v={ a.put d v with defers:=(a.put d v).defers++D }:=by cases d<;>rfl
theorem UH {D:List Deferred} {o:a8} {a:Go.Act} {w:aT} {K g:Go.Act->aT->Prop} {Q rS:Exit->Go.Act->aT->Prop} (m:∀ a w,K a w->g { a with defers:=a.defers++D } w)
  (p:∀ e a w,e≠.normal->Q e a w->rS e { a with defers:=a.defers++D } w) (h:o.wp P a w K Q) :o.wpIn Fence.wide n P { a with defers:=a.defers++D } w g rS:=by
 unfold Oper.wp at h;refine⟨fun _ _=>trivial,?_⟩;show o.uponIn Fence.wide n P _ g rS ((execOp a.eval o).run P w);cases u:(execOp a.eval o).run P w with
 | ok x w'=>
  rw[u] at h;cases x with
  | value t=>show g (Go.Act.put _ _ _) _;rw[uD];exact m _ _ h
  | skip=>show g (Go.Act.put _ _ _) _;rw[uD];exact m _ _ h
  | defer d=>
   show g (Go.Act.put { tmps:=a.tmps,defers:=d::(a.defers++D) } _ _) _;have:=uD D { tmps:=a.tmps,defers:=d::a.defers } o.dst undef;have j:({ tmps:=a.tmps,defers:=d::(a.defers++D) }:Go.Act).put o.dst undef=_:=this;rw[j];exact m _ _ h
  | enter f args=>
   refine⟨fun q=>(by cases q),(callsIn_wide.2 h).mono ?_⟩;rintro (t | C | _) F j
   ·show g (Go.Act.put _ _ _) _;rw[uD];exact m _ _ j
   ·exact p _ _ _ V j
   ·obtain⟨B,z,v⟩:=j;exact⟨_,z,p _ _ _ V v⟩
  | row r args=>exact⟨fun q=>(by cases q),fun c cs _=>let ⟨t,w',r,s⟩:=h c cs;⟨t,w',(by show g (Go.Act.put _ _ _) _;rw[uD];exact m _ _ r),stepsIn_wide.2 s⟩⟩
  | _=>exact h.elim
 | halt e w'=>
  rw[u] at h;cases e<;>first | exact p _ _ _ V h | exact h.elim
theorem C6 {D:List Deferred} {all:Array a8} {Q:Exit->Go.Act->aT->Prop}:∀ {l:List a8} {a:Go.Act} {w:aT},
  wpList P all (fun e a w=>match e with | .normal=>Q .normal { a with defers:=a.defers++D } w | _=>False) l a w->wpListIn Fence.wide n P all Q l { a with defers:=a.defers++D } w
 | [],a,w,h=>wpListIn_nil h
 | p::l,a,w,h=>by
  unfold wpList at h;unfold wpListIn;split
  ·rename_i j;rw[ak j] at h;rcases h with h | ⟨_,o,q,g⟩
   ·refine UH (fun a w g=>C6 g) (fun e a w m g=>?_) h;cases e<;>first | exact bV rfl m | exact g.elim
   ·exact g.elim
  ·rename_i j;rw[ai j] at h;refine⟨fun _ _=>trivial,?_⟩;rw[uD];exact C6 h
variable {G:Nat->U}
theorem DH (J:P.follows .mixedOrders=true) (z:∀ g,(G g).ar=true) {N n:Nat} {opsZ:Array a8} (C:∀ (i:Nat) (o:a8),opsZ[i]?=some o->hO N o.dst=true) {q:List c9} (H:k8 P opsZ q opsZ.toList) {id:Nat}
  {sgZ:aS} {l:ae} {K:aS->ae->Prop} (O:iF P G q sgZ l K) {D:List Deferred}
  {R:Nat->Prop} {B:Nat} {w:aT} {muZ:b3} {a:Go.Act} {Q:Exit->Go.Act->aT->Prop} (rel:bF R B w (aZ l) muZ) (g:jV G w R (aZ l) muZ) (s:gI N w R (aZ l) muZ sgZ { a with defers:=[] }) (m:a.defers=D)
  (F:∀ h w' muZ' j l',K j l'->cZ w (aZ l) muZ w' (aZ l') muZ'->bF R B w' (aZ l') muZ'->gI N w' R (aZ l') muZ' j { h with defers:=[] }->h.defers=D->Q .normal h w') :(Code.region id opsZ false).wpIn Fence.wide n P Q a w:=by
 obtain⟨j,l',I,_,hk⟩:=xp C H O;obtain⟨cY,t⟩:=a;subst m;refine wpIn_region_list ?_;have:=C6 (P:=P) (n:=n) (D:=t) (all:=opsZ) (Q:=Q) (l:=opsZ.toList) (a:={ tmps:=cY,defers:=[] }) (w:=w)
  (sO J z I R B w muZ _ _ rel g s fun h w' muZ' v S p=>?_)
 ·exact this
 ·show Q .normal _ _;obtain⟨T,u⟩:=h;have m:u=[]:=p.defers;subst m;exact F _ w' muZ' j l' hk v S p rfl
theorem Cs {R:Nat->Prop} {B:Nat} {w:aT} {l:ae} {muZ:b3} (rel:bF R B w (aZ l) muZ) {b t:Nat} {v:Int} (z:l[b]?=some (.cells 1 [.int .u8 v])) {tmps:Array aE} (S:aB w R (aZ l) muZ (.ptr b 0 1) (tmps.getD t undef))
  {w' : aT} (aw:∀ k,B<=k->(∃ arr e u,w.heap[k]?=some (.cells arr e u))->w'.heap[k]?=w.heap[k]?) (av:w.heap.size<=w'.heap.size) {fn:Func} (au:uG P (aZ [.cells 1 [.int .u8 v]]) (br (fun _=>U.bad) t (.ptr 0 0 1)) fn=some (.int .u8 v)) :
  (results fn tmps).run P w'=.ok (.int .u8 v) w':=by
 have p:(aZ l).f b=.cells 1 [.int .u8 v]:=hJ.2 z;generalize ar:tmps.getD t undef=aK at S;cases S with
 | jj _ _ _ a ap=>
  rcases ap with h | ⟨n,F,h,aH⟩
  ·rw[p] at h;cases h
  ·rw[p] at h;injection h with h1 H;omega
 | ptr _ _ _ F m ao Q=>
  clear ao F;have K:=rel.blk b m Q;have J:B<=m.r:=rel.base b m (by rw[p];rfl) Q;rw[p] at K;obtain⟨h1,H,arr,e,u,I,ak,al,am⟩:=K;have O:(aZ [.cells 1 [.int .u8 v]]).f 0=.cells 1 [.int .u8 v]:=hJ.2 rfl;have aq:∀ b,1<=b->(aZ [.cells 1 [.int .u8 v]]).f b=.none:=fun b z=>by rw[jW,dW (by simpa using z)]
  have aA:bF (fun k=>B<=k) B w' (aZ [.cells 1 [.int .u8 v]]) (fun b=>if b=0 then some m else none):=by
   refine⟨fun g az j=>?_,fun X Y aI aJ aF aG ai aj _=>?_,fun g az aD j=>?_,fun g C=>aq g C,fun k hk=>hk,dC rel.size av,fun g C=>?_⟩
   ·by_cases o:g=0
    ·subst o;simp only[if_true,bc] at j;subst j;rw[O];refine⟨h1,H,arr,e,u,(aw _ J ⟨_,_,_,I⟩).trans I,ak,al,fun D c q=>?_⟩;obtain⟨x,T,V,W⟩:=am D c q;refine⟨x,T,V,?_⟩;rcases D with _ | D
     ·simp only[hl,bc] at q;subst q;cases W;exact .int _ _
     ·simp at q
    ·simp[o] at j
   ·by_cases ag:X=0
    ·by_cases ah:Y=0
     ·omega
     ·simp[ah] at aj
    ·simp[ag] at ai
   ·by_cases o:g=0
    ·simp only[o,if_true,bc] at j;subst j;exact J
    ·simp[o] at j
   ·have:g≠0:=fun e=>by subst e;exact bV C (by show ¬ (1<=0);omega)
    simp[this]
  have aC:gI tmps.size w' (fun k=>B<=k) (aZ [.cells 1 [.int .u8 v]]) (fun b=>if b=0 then some m else none) (br (fun _=>U.bad) t (.ptr 0 0 1)) { tmps:=tmps,defers:=[] }:=by
   refine⟨rfl,rfl,fun i=>?_⟩;by_cases G:i=t
   ·subst G;rw[fK];show aB _ _ _ _ _ (tmps.getD i undef);rw[ar];exact .ptr 0 0 1 _ m O rfl
   ·rw[bS _ _ _ _ G];exact .bad _
  obtain⟨x,ax,ay⟩:=KU (P:=P) aA aC au;cases ay;exact ax
end
def ev (B:Nat) (a b:aT) :Prop:=RowKit.Below B a b/\a.drawn<=b.drawn
theorem ev.q6 {B:Nat} {a b:aT} (h:ew a b) (g:B<=a.heap.size) :ev B a b:=⟨h.toBelow.mono g,h.drawn⟩
theorem ev.tr {B:Nat} {a b c:aT} (h:ev B a b) (k:ev B b c) :ev B a c:=⟨h.1.trans k.1,dC h.2 k.2⟩
theorem ev.put {B:Nat} (W:aT) {l:Nat} (o:Obj) (h:B<=l) (g:B<=W.heap.size) :ev B W (W.putObj l o):=
 ⟨(RowKit.Below.refl B W).grown (grownBy_putObj' W l o) g (fun k e=>by cases e;exact h),aN _⟩
theorem ev.ext {R:Nat->Prop} {B:Nat} {w w' : aT} {h h' : aM} {muZ muZ' : b3} (rel:bF R B w h muZ) (e:cZ w h muZ w' h' muZ') :ev B w w':=
 ⟨⟨e.os,e.tape,e.output,e.size,fun k hk=>e.bm k (nn hk rel.size) fun ⟨b,j,h1,g,m⟩=>by have:=rel.base b j h1 g;omega⟩,e.drawn⟩
theorem ev.alloc {B:Nat} {a:aT} (g:B<=a.heap.size) (o:Obj) :ev B a (a.alloc o):=⟨(RowKit.Below.refl B a).alloc g o,aN _⟩
theorem ev.lc {a b:aT} (h:ev a.heap.size a b) :ew a b:=⟨h.1,h.2⟩
theorem UR {R:Nat->Prop} {B:Nat} {w:aT} {l:ae} {muZ:b3} (rel:bF R B w (aZ l) muZ) (p:∀ (b:Nat) (c:aq),l[b]?=some c->∃ n cs,c=aq.cells n cs) {k:Nat} (q:Own (aZ l) muZ k) :∃ arr e g,w.heap[k]?=some (.cells arr e g):=by
 obtain⟨b,t,h1,m,rfl⟩:=q;have h:=rel.blk b t m;rw[jW] at h h1;cases j:l[b]? with
 | none=>rw[j] at h1;cases h1
 | some c=>
  rw[j] at h;obtain⟨n,cs,rfl⟩:=p b c j;obtain⟨_,_,arr,e,g,o,_⟩:=h;exact⟨arr,e,g,o⟩
theorem Cp {R:Nat->Prop} {B:Nat} {w w' : aT} {l:ae} {h' : aM} {muZ muZ' : b3} (rel:bF R B w (aZ l) muZ) (h:∀ (b:Nat) (c:aq),l[b]?=some c->∃ n cs,c=aq.cells n cs) (e:cZ w (aZ l) muZ w' h' muZ') :KeepsOthers w w':=by
 refine⟨e.size,fun k p hk j=>?_⟩;rw[e.bm k (ik.1 hk).1 fun m=>?_]
 ·exact hk
 ·obtain⟨arr,q,o,g⟩:=UR rel h m;rw[hk] at g;cases g;cases j
namespace Op
open cl
abbrev YJ:List c9:=[eB 0 3 (.box (cY 0)),eB 1 4 (.box (cY 1)),eB 2 5 (.box (cY 2)),eB 3 6 (.alloc [.int .u8 0])]
abbrev YF:fG:=.seq (.jK [eB 0 7 (.nF 4 (cY 3)),eB 1 8 (.ld1 (cY 7)),eB 2 9 (.j8 32 (cY 5)),sc 3 10 66 [(cY 8),(cY 9)]]) (.cond (cY 10) (.seq (.jK [xr 0 (.st 1 (cY 6) (.const (.int .u8 5)))]) .ret) .skip)
abbrev YK:List c9:=[eB 0 11 (.j8 5 (cY 3)),eB 1 12 (.j8 11 (cY 4)),sc 2 13 153 [(cY 11),(cY 12)]]
abbrev YL:List c9:=[eB 0 15 (.nF 1 (cY 3)),eB 1 16 (.nF 2 (cY 15)),eB 2 17 (.ld1 (cY 16)),eB 3 18 (.nF 0 (cY 3)),eB 4 19 (.ld1 (cY 18)),eB 5 20 (.bin .eql 3 (cY 17) (cY 19))]
abbrev YM:List c9:=[xr 0 (.st 1 (cY 6) (.const (.int .u8 8)))]
abbrev YN:List c9:=[xr 0 (.st 1 (cY 6) (.const (.int .u8 1)))]
def gj (S E X:ag) (v:Int) :ae:=[.cells 5 S,.cells 11 E,.cells 32 X,.cells 1 [.int .u8 v],.cells 5 S,.cells 11 E]
structure F0 (p q t u v g h j:Array a8) (m:a8) (t4:aG) :Prop where
 body:Tryz.f103.body=some (.seq (.region 0 p false) (.seq (.seq (.region 1 q false) (.cond (.tmp 10) (.seq (.region 2 t false) .ret) .skip)) (.seq (.seq (.region 3 u false) (.block 0 (.rangeFunc (.tmp 13) #[14] .skip (.block 1 (.seq (.region 4 v false) .ret)))))
  (.seq (.seq (.region 5 g false) (.cond (.tmp 20) (.seq (.region 6 h false) .ret) .skip)) (.seq (.region 7 j false) .ret)))))
 BZ:comp prog 21 (.region 0 p false)=some (.jK YJ)
 j0:comp prog 21 (.seq (.region 1 q false) (.cond (.tmp 10) (.seq (.region 2 t false) .ret) .skip))=some YF
 O9:comp prog 21 (.region 3 u false)=some (.jK YK)
 iU:v.toList=[m]
 Jr:m.op=.store t4 (.tmp 6) (.const (.int .u8 6))
 T7:m.dst=none
 T8:m.guard=none
 Us:k8 prog g YL g.toList
 Ut:k8 prog h YM h.toList
 Uu:k8 prog j YN j.toList
 Qw:∀ (i:Nat) (o:a8),g[i]?=some o->hO 21 o.dst=true
 Qx:∀ (i:Nat) (o:a8),h[i]?=some o->hO 21 o.dst=true
 Qy:∀ (i:Nat) (o:a8),j[i]?=some o->hO 21 o.dst=true
 Xs:ca prog t4=some 1
theorem Ce {R:Array a8} (g:(R.toList.all fun o=>hO 21 o.dst)=true) (i:Nat) (o:a8) (h:R[i]?=some o) :hO 21 o.dst=true:=by exact gb.1 g o (by rw[<-qk] at h;exact cJ h)
theorem YI:∃ g h j m o p q t u t4,F0 g h j m o p q t u t4:=
 ⟨ke (ij ((Tryz.f103.body).getD .skip) [false]),
  ke (ij ((Tryz.f103.body).getD .skip) [true,false,false]),
  ke (ij ((Tryz.f103.body).getD .skip) [true,false,true,false,false]),
  ke (ij ((Tryz.f103.body).getD .skip) [true,true,false,false]),
  ke (ij ((Tryz.f103.body).getD .skip) [true,true,false,true,false,true,false,false]),
  ke (ij ((Tryz.f103.body).getD .skip) [true,true,true,false,false]),
  ke (ij ((Tryz.f103.body).getD .skip) [true,true,true,false,true,false,false]),
  ke (ij ((Tryz.f103.body).getD .skip) [true,true,true,true,false]),
  ((ke (ij ((Tryz.f103.body).getD .skip) [true,true,false,true,false,true,false,false])).toList).headD { op:=.move (.tmp 0),dst:=none,type:=0,pos:= "",after:=#[],guard:=none },
  (match (((ke (ij ((Tryz.f103.body).getD .skip) [true,true,false,true,false,true,false,false])).toList).headD { op:=.move (.tmp 0),dst:=none,type:=0,pos:= "",after:=#[],guard:=none }).op with | .store v _ _=>v | _=>0),
  ⟨by kernel_rfl,by kernel_rfl,by kernel_rfl,by kernel_rfl,by kernel_rfl,by kernel_rfl,by kernel_rfl,by kernel_rfl,
  vF (idx:=[0,1,2,3,4,5]) bn bn,vF (idx:=[0]) bn bn,vF (idx:=[0]) bn bn,
  Ce bn,Ce bn,Ce bn,by kernel_rfl⟩⟩
theorem Tw (S E:ag) (j:S.length=5) (g:E.length=11) {l:ae} {K:cB} (h:K (.fn 206 [] [.ptr (l.length+1) 0 11,.ptr l.length 0 5]) (l++[.cells 5 S,.cells 11 E])) :
  cM 153 [.af S,.af E] l K:=by apply c1 func153 [];simp[j,g];exact h
theorem Fb (v:Int) :uG prog (aZ [.cells 1 [.int .u8 v]]) (br (fun _=>U.bad) 6 (.ptr 0 0 1)) Tryz.f103=some (.int .u8 v):=bn
end Op
namespace Op
open cl
theorem CK (S E X:ag) (v:Int) :∀ (b:Nat) (c:aq),(gj S E X v)[b]?=some c->∃ n cs,c=aq.q n cs:=by intro b c h;have g:=cJ h;simp only[gj,kp,jt,or_false] at g;rcases g with rfl | rfl | rfl | rfl | rfl | rfl<;>exact⟨_,_,rfl⟩
theorem WM {p t u v g w z C:Array a8} {j:a8} {t4:aG} (M:F0 p t u v g w z C j t4) {S E X:ag} {m:Fence} (I:∀ f,m.fn f) {n:Nat} {R:Nat->Prop} {B:Nat} {W:aT} {muZ:b3} {a:Go.Act}
  (rel:bF R B W (aZ (gj S E X 0)) muZ) (H:aB W R (aZ (gj S E X 0)) muZ (.ptr 3 0 1) (a.tmps.getD 6 undef)) :
  (Code.block 1 (.seq (.region 4 g false) .ret)).wpIn m n prog (fun e _ o=>e=.ret/\cZ W (aZ (gj S E X 0)) muZ o (aZ (gj S E X 6)) muZ/\bF R B o (aZ (gj S E X 6)) muZ) a W:=by
 refine wpIn_block (wpIn_seq (wpIn_region_list ?_));rw[M.iU];have Q:rp prog (aZ (gj S E X 0)) t4 (.ptr 3 0 1) (.int .u8 6)=some (aZ (gj S E X 6)):=by
  unfold rp;rw[M.Xs];have K:(aZ (gj S E X 0)).f 3=.q 1 [.int .u8 0]:=hJ.2 rfl;simp only[U.cells,K];rw[ak V,mx _ (by simp[gj])];rfl
 obtain⟨w',h1,F,G⟩:=LK (P:=prog) rel Q H (.int .u8 6);unfold wpListIn;have T:Region.wanted j (yielded g a.tmps)=true:=by unfold Region.wanted;rw[M.T8]
 rw[ak T];refine⟨fun f _=>I f,?_⟩;have O:(execOp a.eval j).run prog W=.ok .skip w':=by
  have J:a.eval (.tmp 6)=a.tmps.getD 6 undef:=rfl;rw[<-J] at h1;have D:(Instr.storeAt t4 (a.eval (.tmp 6)) (a.eval (.const (.int .u8 6)))).run prog W=.ok () w':=h1;simp[execOp,M.Jr,D]
 rw[Oper.semAt_eq _ _ _ (fun c=>by rw[M.Jr];exact fun h=>by cases h),O,Oper.uponIn_skip,M.T7];exact wpListIn_nil (wpIn_ret ⟨rfl,F,G⟩)
def sW (x:List B) (g:b2) (ps:aR) (cap j:Int) :Int:=if x∈g.l then 5 else if ∀ h∈ps,h∈g.l then (if j=cap then 8 else 1) else 6
theorem Re {w:aT} {R:Nat->Prop} {h:aM} {muZ:b3} {f:cj} {j m:U} {v:aE} (z:aB w R h muZ (.fn f [] [j,m]) v) :∃ g jH,v=.func (.func f) #[] #[g,jH]/\aB w R h muZ j g/\aB w R h muZ m jH:=by
 cases z with
 | fn _ _ _ t cs u o h1 p=>
  have q:t=#[]:=by apply A5;simpa using u
  subst q;obtain⟨cs⟩:=cs;rcases cs with _ | ⟨g,_ | ⟨jH,_ | ⟨B,cs⟩⟩⟩
  ·simp at o
  ·simp at o
  ·exact⟨g,jH,rfl,p 0 j g rfl rfl,p 1 m jH rfl rfl⟩
  ·simp at o
theorem Rz {l:ag} {t:Nat} (h:t<l.length) :l.getD t fC=l[t]:=by simp[List.getD,h]
theorem RA {l:ag} {t:Nat} (h:l.length<=t) :l.getD t fC=fC:=by simp[List.getD,dW h]
theorem Tt:Enters prog 206:=by obtain⟨g,h,j,m,o,p,M⟩:=IX;exact enters_of func206 bn M.body
theorem BU {g W:aT} {l:Nat} (o:Obj) (h:ew g W) (j:g.heap.size<=l) :ew g (W.putObj l o):=
 ev.lc ((ev.q6 h (aN _)).tr (ev.put W o j h.toBelow.size))
theorem YT (E:ag) (ps:b2) (b1:am E=true) (aY:E.length=11) (cL:∀ h:1<E.length,E[1]'h=ah ps) (c6:c5 ps) (c4:ps.l.length<=1000000) (x:List B) (ck:x.length=32) (ord:b2) (cg:c5 ord) (cf:ord.l.length<=1000000) (cap bN:Int) (a6 a2:U) (ch:a6.ar=true) (cc:a2.ar=true) :
  aU 103 [.af (r7 cap bN a6 a2 ord),.af E,.af (ao x)] (.int .u8 (sW x ord ps.l cap bN)):=by
 intro w A av cb aJ aq;obtain⟨dk,cx,cy,cz,aP,cA,bL,bQ,dq,t4,M⟩:=YI;obtain⟨g,O⟩:=al (r7 cap bN a6 a2 ord);have cV:am g=true:=by rw[O];exact G3 ch cc
 have ae:g.length=5:=by rw[O];rfl
 have cQ:∀ h:0<g.length,g[0]'h=.i6 cap:=fun h=>by simp only[O];rfl
 have cR:∀ h:3<g.length,g[3]'h=.i6 bN:=fun h=>by simp only[O];rfl
 have bX:∀ h:4<g.length,g[4]'h=ah ord:=fun h=>by simp only[O];rfl
 obtain⟨j,bp⟩:=al (ao x);have bq:j.length=32:=by rw[bp];exact bo ck
 have b4:am j=true:=by rw[bp];exact cG x
 have aF:=qe ord cg cf x ck;rw[<-bp] at aF aq;rw[<-O] at aq;have P:prog.follows .mixedOrders=true:=checked.mixed;have b5:=bO ord;obtain⟨vw,aA⟩:=al (sW x ord ps.l cap bN);rw[<-aA];refine (callsIn_wide (n:=0)).1 (callsIn_of_wp_marks (fn:=Tryz.f103) func103 M.body trivial ?_ rfl);obtain⟨G,bm⟩:=al (bodyPostM Fence.wide 0 prog Tryz.f103 (fun e w'=>∃ v,e=Ending.returned v/\ew w w'/\de w' (fun k=>A k\/w.heap.size<=k) (.int .u8 vw) v));rw[<-bm];have cW:∀ (a:Go.Act) (W:aT) (v:Int),a.defers=[]->(results Tryz.f103 a.tmps).run prog W=.ok (.int .u8 v) W->v=vw->ew w W->G .ret a W:=by
  intro a W v aD bw aH o;rw[bm];show LeavesInM _ _ _ _ _ _ a.defers _ _;rw[aD];exact⟨_,bw,_,rfl,o,by rw[aH];exact .int _ _⟩
 have b9:∀ (a:Go.Act) (W:aT) (D:Nat) (v:Int),a.defers=[{ target:=.collected D,args:=#[] }]->W.heap[D]?=some (.deferred (some []))->(results Tryz.f103 a.tmps).run prog (W.putObj D (.deferred none))=.ok (.int .u8 v) (W.putObj D (.deferred none))->v=vw->ew w (W.putObj D (.deferred none))->G .ret a W:=by
  intro a W D v aD cM bw aH o;rw[bm];show LeavesInM _ _ _ _ _ _ a.defers _ _;rw[aD];exact⟨V,.inl ⟨_,_,rfl,run_takeDeferred cM,_,bw,_,rfl,o,by rw[aH];exact .int _ _⟩⟩
 have up:∀ {c:U} {v:aE},de w A c v->aB w (fun k=>A k\/w.heap.size<=k) aM.empty (fun _=>none) c v:=fun p=>p.up (fun k _ hk=>⟨.inl hk,mV _ k⟩)
 have bU:jV GS w (fun k=>A k\/w.heap.size<=k) aM.empty (fun _=>none):=fun i=>⟨eD i,up (cb i)⟩
 have c1:Tryz.f103.ntmps=21:=bn;have rel:=uE w (fun k=>A k\/w.heap.size<=k) fun k hk=>.inr hk
 refine wpIn_seq (pF (sgZ:=jw [.af g,.af E,.af j]) (l:=[]) (K:=fun e m l=>e=.normal/\l=[.q 5 g,.q 11 E,.q 32 j,.q 1 [.int .u8 0]]/\m 3=.ptr 0 0 5/\m 4=.ptr 1 0 11/\m 5=.ptr 2 0 32/\m 6=.ptr 3 0 1)
  P eD M.BZ ?_ rel bU ⟨by rw[c1];simp[aJ],rfl,fun I=>?_⟩ ?_)
 ·simp[jw,ae,aY,bq]
 ·by_cases z:I<([.af g,.af E,.af j] :ag).length
  ·have br:=Rz z;have bx:(av++Array.replicate (Tryz.f103.ntmps - av.size) undef).getD I undef=av[I]'(by rw[aJ];exact z):=by
    rw[hh,pi (by rw[aJ];exact z)];simp[show I<av.size by rw[aJ];exact z]
   show aB _ _ _ _ (([.af g,.af E,.af j] :ag).getD I fC) _;rw[br,bx];exact up (aq I _ _ (bM z) V)
  ·have br:=RA (x3 z);have bx:(av++Array.replicate (Tryz.f103.ntmps - av.size) undef).getD I undef=undef:=by
    rw[hh,u7 (by rw[aJ];exact x3 z),A8];split<;>rfl
   show aB _ _ _ _ (([.af g,.af E,.af j] :ag).getD I fC) _;rw[br,bx];exact xH
 rintro e cB dg dr ct dm ⟨rfl,rfl,a5,cm,bA,bB⟩ aQ bG bI;have aS:=bU.ext aQ;by_cases ap:x∈ord.l
 ·rw[b7 ap] at aF;have cP:(5:Int)=vw:=by rw[aA];unfold sW;rw[ak ap]
  suffices c8:(Code.seq (.region 1 cx false) (.cond (.tmp 10) (.seq (.region 2 cy false) .ret) .skip)).wpIn Fence.wide 0 prog (fun e a W=>e=.ret/\G .ret a W) cB dg from wpIn_seq (wpIn_mono c8 fun e a w ⟨bt,h⟩=>by subst bt;exact h)
  refine pF (sgZ:=ct) (K:=fun e m l=>e=.ret/\l=[.q 5 g,.q 11 E,.q 32 j,.q 1 [.int .u8 5]]/\m 6=.ptr 3 0 1) P eD M.j0 ?_ bG aS bI ?_
  ·simp[a5,bA,ae,bX,bq,aI];refine au aF (by simp[am,U.ar,b5,b4]) ?_;simp[bB]
  ·rintro e bf bK dh cv db ⟨rfl,rfl,Q⟩ az a9 aL;have Y:=aL.val 6;rw[Q] at Y;exact⟨rfl,cW bf bK 5 aL.defers (Cs a9 rfl Y (fun _ _ _=>rfl) (aN _) (Fb 5)) cP (tv (aQ.trans az))⟩
 ·rw[cu ap] at aF;refine wpIn_seq (pF (sgZ:=ct) (K:=fun e m l=>e=.normal/\l=[.q 5 g,.q 11 E,.q 32 j,.q 1 [.int .u8 0]]/\m 3=.ptr 0 0 5/\m 4=.ptr 1 0 11/\m 6=.ptr 3 0 1) P eD M.j0 ?_ bG aS bI ?_)
  ·simp[a5,bA,ae,bX,bq,aI];refine au aF (by simp[am,U.ar,b5,b4]) ?_;simp[a5,cm,bB]
  rintro e bf bK dh cv db ⟨rfl,rfl,bz,cl,Q⟩ az a9 aL;have bi:=aS.ext az;show (Code.seq (.seq (.region 3 cz false) (.block 0 (.rangeFunc (.tmp 13) #[14] .skip (.block 1 (.seq (.region 4 aP false) .ret))))) _).wpIn Fence.wide 0 prog G bf bK;refine wpIn_seq (wpIn_seq (pF (sgZ:=cv) (K:=fun e m l=>e=.normal/\l=gj g E j 0/\m 3=.ptr 0 0 5/\m 6=.ptr 3 0 1/\m 13=.fn 206 [] [.ptr 5 0 11,.ptr 4 0 5]) P eD M.O9 ?_ a9 bi aL ?_))
  ·simp[bz,cl,ae,aY,aI];refine Tw g E ae aY ?_;simp[bz,Q,gj]
  rintro e u fD aw di dn ⟨rfl,rfl,da,i6,c9⟩ bg aK aO;have bj:=bi.ext bg;have a1:ew w fD:=tv ((aQ.trans az).trans bg);clear a5 cm bA bB bz cl Q bI aL bG a9 aQ az bg aS bi;have Y:=aO.val 6;rw[i6] at Y;have bV:=aO.val 13;rw[c9] at bV;obtain⟨dd,df,cX,c2,c3⟩:=Re bV;have c7:=Ka aK (cs:=E) (by rfl) b1 c2;have ci:=Ka aK (cs:=g) (by rfl) cV c3;have aG:w.heap.size<=fD.heap.size:=a1.toBelow.size;have a0:∀ {bD:Obj} {H:aT},H=(fD.alloc (.deferred (some []))).alloc bD->ew fD H/\H.heap[fD.heap.size]?=some (.deferred (some []))/\H.heap.size=fD.heap.size+2:=by
   intro bD H e;subst e;refine⟨ev.lc ((ev.alloc (aN _) _).tr (ev.alloc V _)),?_,V⟩;exact (((RowKit.Below.refl (fD.heap.size+1) (fD.alloc (.deferred (some [])))).alloc V bD).block fD.heap.size F).trans (World.alloc_heap_new _ _)
  show (Code.block 0 _).wpIn Fence.wide 0 prog _ u fD;refine wpIn_block (Wg (gf:=206) (lb:=#[dd,df]) (A:=∀ bE∈ps.l,bE∈ord.l) (B:=¬ ∀ bE∈ps.l,bE∈ord.l) cX Tt rfl
   (fun bd jv=>bF (fun k=>A k\/w.heap.size<=k) w.heap.size bd (aZ (gj g E j 0)) aw/\cZ bd (aZ (gj g E j 0)) aw jv (aZ (gj g E j 6)) aw/\bF (fun k=>A k\/w.heap.size<=k) w.heap.size jv (aZ (gj g E j 6)) aw)
   (fun bd jv h=>Cp h.1 (CK g E j 0) h.2.1) ?_ ?_ ?_ ?_)
  ·intro fn y W o;obtain⟨t,_,_⟩:=a0 rfl;obtain⟨T,R⟩:=p4 aK (BU (l:=fD.heap.size+1) (.loop (fO fn u.tmps #[14] (.block 1 (.seq (.region 4 aP false) .ret)) fD.heap.size .busy none)) (oB t o) F);refine wpIn_mono (WM M (S:=g) (E:=E) (X:=j) (fun _=>trivial) R ?_) ?_
   ·have aV:=aB.ext T Y;have z:(u.tmps.setIfInBounds 14 y).getD 6 undef=u.tmps.getD 6 undef:=by simp only[hh,Fi (show 14≠6 by omega)]
    rw[<-z] at aV;have cS:∀ bc:Array aE,bc=u.tmps.setIfInBounds 14 y->aB (W.putObj (fD.heap.size+1) (.loop (fO fn u.tmps #[14] (.block 1 (.seq (.region 4 aP false) .ret)) fD.heap.size .busy none))) (fun k=>A k\/w.heap.size<=k) (aZ (gj g E j 0)) aw (.ptr 3 0 1) (bc.getD 6 undef):=fun bc e=>by rw[e];exact aV
    exact cS _ V
   ·rintro e dl jv ⟨bt,h1,cD⟩;exact⟨bt,R,h1,cD⟩
  ·intro fn H aC cU;obtain⟨t,d1,cr⟩:=a0 aC;rw[O] at ci;refine (Ts E ps b1 aY cL c6 c4 ord cg cf cap bN a6 a2 ch cc (c7.lc t) (ci.lc t) (fun i=>de.lc ((nC (bj i).2 (bj i).1).up fun k _ hk=>⟨hk.1,mV _ k⟩) t) cU ?_).mono ?_
   ·rintro W jv o ⟨rU,⟨a7,ay,a8⟩,rfl⟩;have cT:=(oB t o).toBelow.size;refine⟨A,fun i=>(cb i).lc (ev.lc ((((ev.q6 a1 (aN _)).tr (ev.q6 (oB t o) aG)).tr (ev.put W _ F F)).tr ((ev.ext a7 ay).tr (ev.put rU _ F a8.size))))⟩
   ·rintro e ax ⟨aq,aW | ⟨c0,W,jv,o,⟨rU,z,rfl⟩,aj⟩⟩
    ·exact⟨aq,.inl aW⟩
    ·exact⟨aq,.inr ⟨c0,W,rU,o,z,aj⟩⟩
  ·intro fn H ax aC aW o;obtain⟨t,d1,cr⟩:=a0 aC;generalize bY:ax.putObj _ _=jv;have bZ:ew fD jv:=by rw[<-bY];exact BU _ (oB t o) F
   have cH:jv.heap[fD.heap.size]?=some (.deferred (some [])):=by rw[<-bY,World.putObj_heap_other F];exact (o.toBelow.block _ F).trans d1
   obtain⟨T,R⟩:=p4 aK bZ;have cq:=aO.ext T;have bk:=bj.ext T;have ca:∀ (C:Go.Act) (mC:aT) (J:b3) (v:Int),cZ jv (aZ (gj g E j 0)) aw mC (aZ (gj g E j v)) J->bF (fun k=>A k\/w.heap.size<=k) w.heap.size mC (aZ (gj g E j v)) J->
     aB mC (fun k=>A k\/w.heap.size<=k) (aZ (gj g E j v)) J (.ptr 3 0 1) (C.tmps.getD 6 undef)->C.defers=[{ target:=.collected fD.heap.size,args:=#[] }]->v=vw->G .ret C mC:=by
    intro C mC J v bT cn aV aD aH;have bW:mC.heap[fD.heap.size]?=some (.deferred (some [])):=(Cp R (CK g E j 0) bT).same _ _ cH rfl;refine b9 C mC fD.heap.size v aD bW (Cs cn (b:=3) rfl aV (fun k hk p=>World.putObj_heap_other (fun bv=>by obtain⟨arr,e,cC,p⟩:=p;rw[bv,bW] at p;cases p)) V (Fb v)) aH ?_;exact ev.lc ((((ev.q6 a1 (aN _)).tr (ev.q6 bZ aG)).tr (ev.ext R bT)).tr (ev.put mC _ aG cn.size))
   show (Code.seq (.seq (.region 5 cA false) (.cond (.tmp 20) (.seq (.region 6 bL false) .ret) .skip)) (.seq (.region 7 bQ false) .ret)).wpIn Fence.wide 0 prog G { tmps:=u.tmps,defers:={ target:=.collected fD.heap.size,args:=#[] }::u.defers } jv;refine wpIn_seq (wpIn_seq (DH (sgZ:=di) (D:=[{ target:=.collected fD.heap.size,args:=#[] }]) P eD M.Qw M.Us (K:=fun m l=>l=gj g E j 0/\m 6=.ptr 3 0 1/\m 20=.bool (decide (bN=cap))) ?_ R bk ⟨cq.size,rfl,cq.val⟩ (by rw[aO.defers]) ?_))
   ·simp[da,i6,gj,ae,cQ,cR]
   rintro bS bR ds cw dp ⟨rfl,Q,a4⟩ aR cp bb b8;show (Code.cond (.tmp 20) (.seq (.region 6 bL false) .ret) .skip).wpIn Fence.wide 0 prog _ bS bR;by_cases a3:bN=cap
   ·rw[b7 a3] at a4;refine wpIn_cond_true (xJ bb a4) (wpIn_seq (DH (sgZ:=cw) P eD M.Qx M.Ut (K:=fun m l=>l=gj g E j 8/\m 6=.ptr 3 0 1) ?_ cp (bk.ext aR) bb b8 ?_))
    ·simp[Q,gj]
    rintro C mC J dj dc ⟨rfl,bC⟩ bh bH bJ bs;refine wpIn_ret (ca C mC J 8 (aR.trans bh) bH (by have:=bJ.val 6;rwa [bC] at this) bs ?_);rw[aA];unfold sW;rw[ai ap,ak aW,ak a3]
   ·rw[cu a3] at a4;refine wpIn_cond_false (xJ bb a4) (wpIn_skip ?_);show (Code.seq (.region 7 bQ false) .ret).wpIn Fence.wide 0 prog G bS bR;refine wpIn_seq (DH (sgZ:=cw) P eD M.Qy M.Uu (K:=fun m l=>l=gj g E j 1/\m 6=.ptr 3 0 1) ?_ cp (bk.ext aR) bb b8 ?_)
    ·simp[Q,gj]
    rintro C mC J dj dc ⟨rfl,bC⟩ bh bH bJ bs;refine wpIn_ret (ca C mC J 1 (aR.trans bh) bH (by have:=bJ.val 6;rwa [bC] at this) bs ?_);rw[aA];unfold sW;rw[ai ap,ak aW,ai a3]
  ·rintro fn H W rU ax aC cF o ⟨a7,ay,a8⟩ aj;obtain⟨t,d1,cr⟩:=a0 aC;have cT:=(oB t o).toBelow.size;have cO:fD.heap.size+1<W.heap.size:=by have:=o.toBelow.size;omega
   obtain⟨T,R⟩:=p4 aK (BU (l:=fD.heap.size+1) (.loop (fO fn u.tmps #[14] (.block 1 (.seq (.region 4 aP false) .ret)) fD.heap.size .busy none)) (oB t o) F);have ce:=Cp a7 (CK g E j 0) ay;have cK:W.heap[fD.heap.size]?=some (.deferred (some [])):=(o.toBelow.block _ F).trans d1;have bl:rU.heap[fD.heap.size]?=some (.deferred (some [])):=ce.same _ _ (by rw[World.putObj_heap_other F];exact cK) rfl;have cN:=ce.same _ _ (World.putObj_heap_same cO) rfl;have cJ:=(ik.1 bl).1;have b0:=aj.toBelow.size;simp only[World.putObj_size] at b0;have cI:ax.heap[fD.heap.size]?=some (.deferred (some [])):=(aj.toBelow.block _ (by simpa using cJ)).trans (by rw[World.putObj_heap_other F];exact bl);show G .ret { tmps:=u.tmps,defers:={ target:=.collected fD.heap.size,args:=#[] }::u.defers } _;refine b9 _ _ fD.heap.size 6 (by rw[aO.defers]) (by rw[World.putObj_heap_other F];exact cI) (Cs a8 (b:=3) rfl (aB.ext (T.trans ay) Y) (fun k hk p=>?_) (by simpa using b0) (Fb 6)) ?_ ?_
   ·obtain⟨arr,e,cC,p⟩:=p;have bv:k≠fD.heap.size:=fun h=>by rw[h,bl] at p;cases p
    have cd:k≠fD.heap.size+1:=fun h=>by rw[h,cN] at p;cases p
    have cY:=(ik.1 p).1;rw[World.putObj_heap_other bv,World.putObj_heap_other cd,aj.toBelow.block k (by simpa using cY),World.putObj_heap_other cd]
   ·rw[aA];unfold sW;rw[ai ap,ai cF]
   ·have cE:ev w.heap.size w rU:=(((ev.q6 a1 (aN _)).tr (ev.q6 (oB t o) aG)).tr (ev.put W _ F F)).tr (ev.ext a7 ay);have cj:=a8.size;exact ev.lc (((cE.tr (ev.put rU _ F cj)).tr (ev.q6 aj (by simpa using cj))).tr ((ev.put ax _ F F).tr (ev.put _ _ aG (by simp;omega))))
theorem YU (o:aK) (p:dk o) (x:List B) (w:x.length=32) (g:b2) (u:c5 g) (t:g.l.length<=1000000) (cap m:Int) (j h:U) (v:j.ar=true) (q:h.ar=true) :
  aU 103 [.af (r7 cap m j h g),.af (aw o),.af (ao x)] (.int .u8 (sW x g o.ax.l cap m)):=
 YT (aw o) o.ax (dt o) rfl (fun _=>rfl) p.idsZ p.len x w g u t cap m j h v q
end Op
end Go.bh
namespace Go.bh
open Go Go.Proofs Go.Proofs.Tryz
namespace Op
open cl
structure Oe (s:cW) (l:ae) (k:Nat) (sgZ:aS) (L:ae) :Prop where
 e5:sgZ 1=.ptr l.length 0 5
 hP:sgZ 2=.ptr (l.length+1) 0 5
 H6:sgZ 25=.i6 s.aD.aj.l.length
 CB:sgZ 26=.i6 k
 z:L[l.length+1]?=some (.q 5 [.i6 0,.ad,.ad,.i6 0,.ad])
 ex:h3 l L
 st:∃ g w m,L[l.length]?=some (.q 5 [.i6 s.cap,g,ah s.aD.bI,.i6 s.aD.bN,w])/\eW 32 ao L (l.length+2) w s.az/\(∀ z b n q t,w=.Z z b 0 n q t->b<m)/\l.length+2<=m/\oq s.aD.aj k m g L/\w.cells=some [w]
theorem Eu {alZ:Type} {l:List alZ} {b:Nat} {c:alZ} (h:l[b]?=some c) :l.set b c=l:=by
 apply g1;intro g;by_cases e:b=g
 ·subst e;rw[bY (aL.1 h).1,h]
 ·rw[bj e]
theorem OG {l g o:ae} {a b h j:aq} {c:Nat} (h1:l.length+2<=c) (t:c<l.length+2+g.length) :(l++a::b::(g++o))[c]?=((l++[h,j])++g)[c]?:=by
 obtain⟨m,u⟩:=al (c - l.length - 2);have p:c - l.length=m+2:=F;have q:c - (l++[h,j]).length=m:=by simp;omega
 rw[eu F,eu (by simp;omega),p,q];simp only[js];rw[aV F]
theorem OH {l g h:ae} {a b j o:aq} {c:Nat} (h1:l.length+2+g.length<=c) :(l++a::b::(g++h))[c]?=((l++j::o::g)++h)[c]?:=by
 obtain⟨m,t⟩:=al (c - l.length - 2 - g.length);have p:c - l.length=g.length+m+2:=F;have q:c - (l++j::o::g).length=m:=by simp;omega
 rw[eu F,eu (by simp;omega),p,q];simp only[js];rw[eu F];congr 1;omega
theorem XZ (s:cW) (H:hK s) {S:ag} (bs:S=bw s) {l:ae} {K:cB} (br:∀ P w m l',h3 l l'->eW 32 ao l' (l.length+2) w s.az->(∀ z b n q t,w=.Z z b 0 n q t->b<m)->l.length+2<=m->oq s.aD.aj s.aD.aj.l.length m P l'->w.cells=some [w]->K (.af [.i6 s.cap,P,ah s.aD.bI,.i6 s.aD.bN,w]) l') :
  cM 104 [.af S] l K:=by
 subst bs;apply c1 func104 [[[0],[1],[2],[4],[5],[3,5],[7],[8],[6]],cT 0 6++cT 7 4++[[6,10]],cT 0 13++[[13,3]]];have cl:=H.no;have bt:=bO s.aD.bI;have b8:=fi s.aD.bI;have bz:=l4 s.aD.bI H.aD.bI H.aD.nQ;simp[bw];refine au bz (by simp[am,bt]) ?_;simp;refine B0 s.az H.az F fun w aY ay a9=>?_
 simp[b8,ay,av];refine GZ s.aD.aj (by have:=H.aD.ka;omega) fun P cf dU bc=>?_
 have bM:=bc.bD;simp[dU,av,bM];have b4:∀ z b n q t,w=.Z z b 0 n q t->b<l.length+2+aY.length:=fun z b n q t e=>by have:=(a9.lt e).2;simpa [i4,rJ,Nat.add_left_comm] using this
 refine bB s.aD.aj.l.length (Oe s l) ?_ ⟨V,V,V,V,V,⟨V,fun b B=>aV B⟩,P,w,l.length+2+aY.length,V,(a9.frame fun b h1 h=>OG (by simpa using h1) (by simp at h;omega)).mono V,b4,F,⟨?_⟩,ay⟩
 ·rintro k v L hk ⟨R,T,W,X,J,aE,P,w,m,aR,bd,aS,a6,aJ,ay⟩;obtain⟨v,rfl⟩:=eO R T W X;clear R T W X;have bp:IntKind.i64.wrap ((k:Int)+1)=((k+1:Nat) :Int):=by rw[IntKind.wrap_i64];have:=H.aD.ka;omega
  by_cases C:k<s.aD.aj.l.length
  ·rcases aJ.ex with ⟨aO,_⟩ | ⟨g,G,cb,cc,rfl,O,cd⟩
   ·rw[aO] at C;simp at C
   ·obtain⟨p,bV,bX⟩:=aQ C;have aL:dp s.aD.aj.l k=p:=dq bV;have Y:=(H.aD.aj p bX).1;have a4:=hv (lB (ps:=s.aD.aj.l) (wk:=G) (k:=k));rw[p6] at a4;have I:=sJ (wk:=G) (k:=k) C;rw[ai F,aL] at I;have bo:(hc s.aD.aj.l G k).flatten[k*2]?=some (ah p.idsZ):=by
     have:=ln lB I (j:=0) F;rw[nm] at this;rw[this];rfl
    have aF:(hc s.aD.aj.l G k).flatten[k*2+1]?=some (bA p.opsZ):=by
     have:=ln lB I (j:=1) F;rw[this];rfl
    have bC:=l4 p.idsZ Y.idsZ Y.li;have bv:=bO p.idsZ;have b9:=fi p.idsZ;have aA:∀ (o:ae) (c:Nat) (b:aq),L[c]?=some b->(L++o)[c]?=some b:=fun o c b B=>by rw[aV (a1 B)];exact B
    simp[C,aR,O,bo,aF];refine au bC (by simp[am,bv]) ?_;simp[O,aF];refine B1 p.opsZ Y.jh fun w' o ca bf=>?_
    have ck:=a1 O;have bW:g<(L++o).length:=by simp;omega
    have bU:aH 2 (L++o) (.Z 2 g 0 s.aD.aj.l.length s.aD.aj.l.length (s.aD.aj.l.length*2)) g (hc s.aD.aj.l G k):=by
     refine .Z g _ _ _ _ _ (aA o g _ O) a4 (p6 _ _ _) lB (aN _) (aN _) ?_;rw[aI F]
    have cp:=JL bU (aA o g _ O) C (ah p.idsZ) w';have aP:=K2 (wk:=G) (w:=w') C;rw[aL] at aP;have a8:av (av (hc s.aD.aj.l G k).flatten (k*2) [ah p.idsZ]) (k*2+1) [w']=(hc s.aD.aj.l (fun i=>if i=k then w' else G i) (k+1)).flatten:=by
     have t1:=pH lB I (j:=0) (vs:=[ah p.idsZ]) V;rw[nm,show av (bb p) 0 [ah p.idsZ]=bb p from rfl,Eu I] at t1;have t2:=pH lB I (j:=1) (vs:=[w']) V;rw[t1,t2,show av (bb p) 1 [w']=[ah p.idsZ,w'] from rfl,aP]
    have bh:∀ c:aq,((L++o).set g c)[g]?=some c:=fun c=>bY bW
    obtain⟨Q,aT⟩:=al (fun i=>if i=k then w' else G i:Nat->U);rw[<-aT] at aP a8;have aG:(hc s.aD.aj.l Q (k+1)).flatten[k*2+1]?=some w':=by
     have:=ln lB (sJ (wk:=Q) (k:=k+1) C) (j:=1) F;rw[ak F] at this;rw[this,aT];simp
    have bH:=hv (lB (ps:=s.aD.aj.l) (wk:=Q) (k:=k+1));rw[p6] at bH;have bQ:=bf.bD;obtain⟨aB,aC⟩:=al ((L++o).set g (.q (s.aD.aj.l.length*2) (hc s.aD.aj.l Q (k+1)).flatten));have aW:aB[g]?=some (.q (s.aD.aj.l.length*2) (hc s.aD.aj.l Q (k+1)).flatten):=by rw[aC];exact bh _
    have bi:∀ (c:Nat) (b:aq),c≠g->(L++o)[c]?=some b->aB[c]?=some b:=fun c b h1 h=>by rw[aC,bj (fun e=>h1 e.symm)];exact h
    simp[aA o _ _ O,aF,b9,ca,bh];refine⟨F,F,?_⟩;rw[a8,<-aC];simp[aG,bQ];have bg:eW 11 aw aB L.length w' p.opsZ:=bf.frame fun b h1 h=>by
     obtain⟨y,u,_⟩:=aQ h;rw[u];exact bi b y F u
    have cm:=Y.jh;refine bB p.opsZ.l.length (fun q v aU=>aU=aB/\v 1=.ptr l.length 0 5/\v 2=.ptr (l.length+1) 0 5/\v 4=.ptr g (k*2) (s.aD.aj.l.length*2)/\v 25=.i6 s.aD.aj.l.length/\v 26=.i6 k/\v 54=.i6 p.opsZ.l.length/\v 55=.i6 q) ?_ ⟨rfl,V,V,V,V,V,V,V⟩;rintro q v aU cn ⟨rfl,R,T,a0,W,X,a2,a3⟩;obtain⟨v,rfl⟩:=AU R T a0 W X a2 a3;clear R T a0 W X a2 a3;have bq:=ci (k:=q) F;by_cases ap:q<p.opsZ.l.length
    ·obtain⟨D,bS,bT⟩:=aQ ap;rcases bg with ⟨aO,_⟩ | ⟨b,cg,ch,rfl,aK⟩
     ·rw[aO] at ap;simp at ap
     ·have a7:=Y.opsZ D bT;have bE:=bO D.ax;have bx:=l4 D.ax a7.idsZ a7.len;have J:∀ e∈p.opsZ.l.map aw,e.length=11:=fun e bF=>by obtain⟨y,_,rfl⟩:=cE.1 bF;rfl
      have aM:(p.opsZ.l.map aw)[q]?=some (aw D):=by rw[b0,bS];rfl
      have bG:(p.opsZ.l.map aw).flatten[q*11+1]?=some (ah D.ax):=ln J aM F;have b1:av (p.opsZ.l.map aw).flatten (q*11+1) [ah D.ax]=(p.opsZ.l.map aw).flatten:=by
       rw[pH J aM (show 1+[ah D.ax].length<=11 by simp),w1 D,Eu aM]
      have mp:=fi D.ax;have cj:=wg p.opsZ.l;have b2:=uO aK;simp[ap,aW,aG,aK,bG];refine au bx (by simp[am,bE]) ?_;simp[ap,aW,aG,aK,b1,mp,bq,b2];omega
    ·have bZ:q=p.opsZ.l.length:=F;subst bZ;simp[bp];have ar:∀ (c:Nat) (b:aq),c≠g->L[c]?=some b->aU[c]?=some b:=fun c b h1 h=>bi c b h1 (aA o c b h)
     refine⟨C,V,V,V,V,ar _ _ F J,⟨?_,fun b B=>?_⟩,_,w,m,ar _ _ F aR,bd.bm fun b h1 h z n q t e=>?_,aS,a6,⟨.inr ⟨g,Q,cb,cc,rfl,aW,fun i bJ bK=>?_⟩⟩,ay⟩
     ·have:=aE.1;rw[aC];simp;omega
     ·obtain⟨y,u,_⟩:=aQ B;have b5:L[b]?=some y:=by rw[aE.2 b B];exact u
      rw[u];exact ar b y F b5
     ·obtain⟨y,u,_⟩:=aQ h;rw[u];exact ar b y (by have:=aS z b n q t e;omega) u
     ·rw[aT];by_cases a5:i=k
      ·subst a5;simp only[if_true];rw[aL];exact bg.mono F
      ·simp only[ai a5];exact (cd i F bK).frame fun b h1 h=>by
        obtain⟨y,u,_⟩:=aQ h;rw[u];exact ar b y F u
  ·have bL:k=s.aD.aj.l.length:=F;subst bL;have cq:=aJ.cells;have b7:=a1 J;have ce:∀ c:aq,(L.set (l.length+1) c)[l.length+1]?=some c:=fun c=>bY b7
   simp[aR,J,av,ce];exact br P w m _ ⟨by simpa using aE.1,fun b B=>by rw[bj F];exact aE.2 b B⟩ (bd.frame fun b h1 h=>bj F) aS a6 (aJ.frame fun b h1 h=>bj F) ay
 ·rcases bc with ⟨bR,b3⟩ | ⟨g,aZ,bk,bl,bn⟩
  ·exact .inl ⟨bR,b3⟩
  ·refine .inr ⟨g,fun _=>.ad,by simp at aZ;omega,bk,bl,?_,fun i bJ=>F⟩;rw[OH (by simp at aZ;omega),K3];exact bn
end Op
end Go.bh

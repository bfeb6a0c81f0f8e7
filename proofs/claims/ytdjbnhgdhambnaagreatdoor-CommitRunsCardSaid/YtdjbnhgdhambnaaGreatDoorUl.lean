/-
  An operation put into an index, in the program, walked: where it may be put.
-/
import Derived.Test.YtdjbnhgdhambnaaGreatDoorUk
import Derived.RangeFuncNested
import Derived.RangeFuncBound
import Derived.RangeFuncCalls
import Derived.RangeFuncLeaves
import Derived.OwnWalkIn
import Derived.LoopNIn
import Derived.Shelf.Abstract
set_option maxHeartbeats 16000000
set_option maxRecDepth 100000
set_option linter.unusedVariables false
set_option linter.unusedSimpArgs false
set_option linter.unnecessarySimpa false
namespace Go.bl
open Go Go.Proofs Go.Proofs.Tryz
namespace Op
open cu
def mT (ps:List aV) (g:Nat) (h w2:U) (k:Nat) :List (ag):=(List.range k).map fun i=>if i=g then [h,w2] else bf (dq ps i)
theorem KE (ps:List aV) (g:Nat) (h w2:U) (k:Nat) :mT ps g h w2 (k+1)=mT ps g h w2 k++[if k=g then [h,w2] else bf (dq ps k)]:=by simp[mT,s5]
theorem Wh {ps:List aV} {g k:Nat} (h:k<=g) (p w2 m o:U) :mT ps g p w2 k=mT ps g m o k:=by
 unfold mT;refine mn fun i j=>?_
 have:=g5.1 j;rw[aj F,aj F]
theorem zX (ps:List aV) (g:Nat) (h w2:U) (k:Nat) :(mT ps g h w2 k).length=k:=by simp[mT]
theorem KD {ps:List aV} {g:Nat} {j w2:U} {k i:Nat} (h:i<k) :(mT ps g j w2 k)[i]?=some (if i=g then [j,w2] else bf (dq ps i)):=by unfold mT;rw[b1,ho h];rfl
def wM (j:Nat) (w:U) :Prop:=∀ m b n g h,w=.Z m b 0 n g h->b≠j
structure NE (s:cn) (x:List B) (N j:Nat) (g w2:U) (l:ad) :Prop where
 hB:eX 32 am l (N+1) g (e1 s x).idsZ
 iA:eX 11 av l (N+1) w2 (e1 s x).opsZ
 ap:FQ g w2
 m1:g.cells=some [g]
 m2:w2.cells=some [w2]
 f1:wM j g
 f2:wM j w2
structure ND (s:cn) (x:List B) (o:aJ) (N k:Nat) (sgZ:aS) (l:ad) :Prop where
 ha:sgZ 2=.ptr 0 0 3
 hP:sgZ 3=.ptr 1 0 11
 hQ:sgZ 4=.ptr 2 0 3
 kG:sgZ 5=.ptr 3 0 32
 nw:sgZ 8=.ptr 4 0 32
 Cd:sgZ 10=.i6 (num x s.ai.l.length:Nat)
 HH:sgZ 11=.i6 (dU (e1 s x).idsZ.l x:Nat)
 Q0:sgZ 14=.ptr N 0 3
 aae:sgZ 66=dp s.ai
 aaf:sgZ 67=.i6 s.ai.l.length
 aag:sgZ 68=.i6 k
 ly:l[0]?=some (.q 3 (bN s))
 q1:l[1]?=some (.q 11 (av o))
 sq:l[2]?=some (.q 3 [.ae,.ae,.i6 0])
 sr:l[3]?=some (.q 32 (bZ 32 (.int .u8 0)))
 acm:l[4]?=some (.q 32 (am x))
 aak:5<=N
 ex:∃ v j g w2,l[N]?=some (.q 3 [v,.ae,.i6 (s.bL+1)])/\aE 2 l v j (mT s.ai.l (num x s.ai.l.length) g w2 k)/\(v=.ae\/N<j)/\bo v=decide (k=0)/\(k<=num x s.ai.l.length\/NE s x N j g w2 l)
theorem eX.lt {alZ:Type} {z:Nat} {enc:alZ->ag} {l:ad} {n:Nat} {w:U} {s:bX alZ} (h:eX z enc l n w s) {p b o m t:Nat} (e:w=.Z p b 0 o m t) :n<=b/\b<l.length:=by
 rcases h with ⟨_,rfl⟩ | ⟨c,h1,_,rfl,j⟩
 ·cases e
 ·injection e with _ g
  subst g;exact⟨h1,aX j⟩
theorem eX.bm {alZ:Type} {z:Nat} {enc:alZ->ag} {l l' : ad} {n:Nat} {w:U} {s:bX alZ} (h:eX z enc l n w s) (p:∀ b,n<=b->b<l.length->(∀ u q m t,w=.Z u b 0 q m t->l'[b]?=l[b]?)) :eX z enc l' n w s:=by
 rcases h with h | ⟨b,h1,o,g,j⟩
 ·exact .inl h
 ·exact .inr ⟨b,h1,o,g,by rw[p b h1 (aX j) _ _ _ _ g];exact j⟩
theorem JO {s:cn} {N:Nat} {l L:ad} {v:U} {j:Nat} {es:List (ag)} {e:ag} {b:Nat} (z:N<l.length) (V:l[N]?=some (.q 3 [v,.ae,.i6 (s.bL+1)])) (S:aE 2 l v j es) (C:v=.ae\/N<j) (o:h2 l L) (O:L[b]?=some (.q 2 e)) (B:e.length=2) (Y:es.length<=1000) :
  ∃ g c2 L',ea L 2 48 v (.Z 2 b 0 1 1 2)=some (g,L')/\g.cells=some [g]/\L'[N]?=some (.q 3 [v,.ae,.i6 (s.bL+1)])/\aE 2 (L'.set N (.q 3 [g,.ae,.i6 (s.bL+1)])) g c2 (es++[e])/\N<c2/\bo g=false ∧
   L.length<=L'.length/\(∀ c,c<L.length->c≠N->(v=.ae\/c≠j)->(L'.set N (.q 3 [g,.ae,.i6 (s.bL+1)]))[c]?=L[c]?)/\(c2=j/\v≠.ae\/L.length<=c2):=by
 have W:=ds;have T:=Un S o;obtain⟨g,c2,L',G,t,H,u,w,I⟩:=hN (by_:=48) (x:=.Z 2 b 0 1 1 2) (xs:=[e]) T (by simp[cr,O,B,aH]) (by simp[B]) F F (by rw[W];simp;omega);have J:N<L.length:=nb z o.1;have p:bo g=false:=by rw[I];simp
 have D:g≠.ae:=fun e=>by rw[e] at p;cases p
 have K:N<c2:=by
  rcases w with h | ⟨h1,m⟩ | h
  ·omega
  ·rw[m];exact C.resolve_left h1
  ·exact bW h D
 have X:L'[N]?=some (.q 3 [v,.ae,.i6 (s.bL+1)]):=by
  rw[u N J (by rcases C with h | h;exact .inl h;exact .inr F),o.2 N z];exact V
 refine⟨g,c2,L',G,t.cells,X,t.cl (.inr (bg F)),K,p,H,fun c P Q R=>?_,?_⟩
 ·rw[bg (fun e=>Q e.symm)];exact u c P R
 ·rcases w with h | ⟨h1,m⟩ | h
  ·exact .inr h
  ·exact .inl ⟨m,h1⟩
  ·exact bW h D
theorem Le {A R xs:ag} {i:Nat} (h:i+xs.length<=A.length) :aw (A++R) i xs=aw A i xs++R:=by unfold aw;rw[ik F,nY F];simp
theorem hw {z:Nat}:∀ {es:List (ag)},(∀ e∈es,e.length=z)->es.flatten.length=es.length*z
 | [],_=>V
 | e::es,h=>by
  rw[hG,cF,hw fun e g=>h e (by simp[g]),h e V,dN,eP];omega
theorem Jo {l:ad} {j n cap sz i:Nat} {cs:ag} {es:List (ag)} (h:aE 2 l (.Z 2 j 0 n cap sz) j es) (v:l[j]?=some (.q sz cs)) (ap:i<n) (a b:U) :
  aE 2 (l.set j (.q sz (aw (aw cs (i*2) [a]) (i*2+1) [b]))) (.Z 2 j 0 n cap sz) j (es.set i [a,b]):=by
 generalize G:U.Z 2 j 0 n cap sz=w at h;cases h with
 | nil=>cases G
 | Z ar au ah av ai es z aq u o t Q B=>
  injection G with aj ak al I J K
  subst I J K;rw[v] at z;injection z with O
  injection O with _ P
  subst P;obtain⟨e,m,S⟩:=aP (l:=es) (k:=i) F;have R:=o e S;obtain⟨p,g,rfl⟩:∃ p g,e=[p,g]:=by
   match e,R with
   | [p,g],_=>exact⟨p,g,rfl⟩
  have am:es.flatten.length=n*2:=by rw[<-B,cL];have:=ck 2 t;omega
  have D:cs=es.flatten++cs.drop (n*2):=by rw[<-B,i4]
  have X:aw es.flatten (i*2) [a]=(es.set i [a,g]).flatten:=by
   have:=pt o m (j:=0) (vs:=[a]) V;simpa [aw] using this
  have H:∀ e∈es.set i [a,g],e.length=2:=fun e m=>by
   rcases n2 m with h | rfl
   ·exact o e h
   ·rfl
  have Y:aw (es.set i [a,g]).flatten (i*2+1) [b]=(es.set i [a,b]).flatten:=by
   have:=pt H (bV F) (j:=1) (vs:=[b]) V;rw[this,A2];rfl
  have ao:(es.set i [a,g]).flatten.length=n*2:=by rw[hw H,km,u]
  have C:aw (aw cs (i*2) [a]) (i*2+1) [b]=(es.set i [a,b]).flatten++cs.drop (n*2):=by
   rw[D,Le (by simp only[xL];omega),X,Le (by simp only[xL];omega),Y,<-D]
  have W:∀ e∈es.set i [a,b],e.length=2:=fun e m=>by
   rcases n2 m with h | rfl
   ·exact o e h
   ·rfl
  have T:(es.set i [a,b]).flatten.length=n*2:=by rw[hw W,km,u]
  refine .Z j n cap sz _ _ (bV (aX v)) ?_ (by rw[km];exact u) (fun e m=>?_) t Q ?_
  ·rw[C,cF,T,i2];have:=ck 2 t;omega
  ·rcases n2 m with h | rfl
   ·exact o e h
   ·rfl
  ·rw[C,ik F,aH F]
theorem eX.own {alZ:Type} {z:Nat} {enc:alZ->ag} {l:ad} {n:Nat} {w:U} {s:bX alZ} (h:eX z enc l n w s) (m:∀ y∈s.l,(enc y).length=z) :∃ b,n<=b/\aE z l w b (s.l.map enc)/\bo w=s.isNone/\(w=.ae\/w=.Z z b 0 s.l.length s.l.length (s.l.length*z)):=by
 rcases h with ⟨rfl,rfl⟩ | ⟨b,h1,g,rfl,j⟩
 ·exact⟨n,aN _,.nil n,rfl,.inl rfl⟩
 ·exact⟨b,h1,lv m rfl j,by rw[g];rfl,.inr rfl⟩
theorem Uk {z:Nat} {l:ad} {w r:U} {b n:Nat} {es:List (ag)} (t:w=.ae\/w=.Z z b 0 n n (n*z)) (D:r=w\/∃ q:Nat,dw (.Z z) w none (some (.i6 (q:Int))) none=some r) (h:aE z l r b es) :xV z l r es:=by
 have v:r=.ae\/∃ q,r=.Z z b 0 q n (n*z):=by
  rcases D with rfl | ⟨q,j⟩
  ·rcases t with h | h
   ·exact .inl h
   ·exact .inr ⟨n,h⟩
  ·rcases t with h | h
   ·subst h;simp[dw] at j;exact .inl j.2.symm
   ·subst h;simp[dw] at j;obtain⟨a,u,F,g,o⟩:=j;have C:e5 n n none (some (.i6 (q:Int))) none=(match gW (.i6 (q:Int)) n with | none=>none | some h=>some (0,h,n)):=rfl;rw[C] at g;split at g
    ·cases g
    ·injection g with g
     injection g with h1 m
     injection m with m B
     subst h1 B;right;by_cases p:n=0
     ·subst p;exact⟨0,by rw[<-o];simp⟩
     ·exact⟨u,by rw[<-o,aj p];simp⟩
 rcases v with rfl | ⟨q,rfl⟩
 ·left;refine⟨?_,rfl⟩;cases h;rfl
 ·exact .inr ⟨b,q,n,rfl,h⟩
theorem Xh (s:cn) (C:gR s) (h:e4 s) (o:aJ) (aI:dm o) (dA:ei o=0) (fW:s.bL<60) (dC:bd o∉(bR (bH s)).idsZ.l) (eZ:∀ p∈o.ax.l,p∈(bR (bH s)).idsZ.l) :
  aW 105 [.af (bN s),.af (av o)] (.a1 [.af (bN (ft s (bd o) o)),.af (am (bd o)),.i6 0]):=by
 apply a8 func105 [[[0],[1],[2],[3,1]],cR 0 9++cR 10 7++[[9,16,15,13]],[[0],[1],[2,1]]];have cx:=ds;have bY:=mF o;obtain⟨x,dD⟩:=al (bd o);rw[<-dD] at dC bY ⊢;have az:=br bY;have b0:=cG x;have bw:(bN s).length=3:=rfl;have cp:(bN s).take 3=bN s:=rfl;have cm:=oq s;have ew:(bN s)[0]?=some (dp s.ai):=rfl;have ez:(bN s)[2]?=some (.i6 s.bL):=rfl;have ex:(bN s)[1]?=some (ah s.bE):=rfl;have c2:∀ h,(bN s)[0]'h=dp s.ai:=fun _=>rfl
 have c4:∀ h,(bN s)[1]'h=ah s.bE:=fun _=>rfl
 have c5:∀ h,(bN s)[2]'h=.i6 s.bL:=fun _=>rfl
 have ay:(av o).length=11:=rfl;have bl:(av o).take 11=av o:=rfl;have cw:=du o;have eu:(av o)[1]?=some (ah o.ax):=rfl;have ck:∀ h,(av o)[1]'h=ah o.ax:=fun _=>rfl
 have dc:aq [U.af (bN s)]=true:=by simp[aq,U.ar,cm]
 have dd:=Ww s C h;have cF:=xw o aI;rw[dA] at cF;have bt:=uQ o aI;rw[sP dA] at bt;have eO:eo (bd o)=.af (am x):=by rw[dD];rfl
 rw[eO] at bt;have bq:=K0 s C h x bY;rw[ct dC] at bq;have eL:fI prog 156=true:=bp;have eM:fI prog 160=true:=bp;have go:s.bL=((bH s).length:Int):=h.jP;have ec:IntKind.i64.wrap (s.bL+1)=s.bL+1:=by rw[IntKind.wrap_i64];omega
 have ek:¬ s.bL=60:=F;have eT:=nB s.ai;have eF:=bM o.ax;obtain⟨X,K⟩:=al (am x);rw[<-K] at az b0 bt bq ⊢;have bn:X.take 32=X:=aH F;have cD:aw (bZ 32 (.int .u8 0)) 0 X=X:=cy (by rw[az];rfl);obtain⟨iZ,G⟩:=al (num x s.ai.l.length);obtain⟨aF,aG⟩:=al (dU (e1 s x).idsZ.l x);rw[<-G,<-aG] at bq;obtain⟨O,Y⟩:=al (av o);rw[<-Y] at ay bl cw eu cF bt ⊢;simp only[<-Y] at ck;obtain⟨S,aR⟩:=al (bN s);rw[<-aR] at bw cp cm ew ex ez dc dd bq ⊢;simp only[<-aR] at c2 c4 c5;simp[bw,cp,ay];refine au dd dc ?_;simp[ay,bl];refine au cF (by simp[aq,U.ar,cw]) ?_;simp[ay,bl];refine au bt (by simp[aq,U.ar,cw]) ?_;simp[bw,cp,cD,az,bn];refine au bq (by simp[aq,U.ar,cm,b0]) ?_;simp[ay,ck];refine ym o.ax aI.idsZ aI.len eL (NZ s C h (l:=_) (b:=0) (by rw[<-aR];rfl) o.ax.l aI.idsZ) fun B a3=>?_
 have eA:o.ax.l.any (fun p=>!decide (p∈(bR (bH s)).idsZ.l))=false:=by
  rw[AO];intro p a6;simp[eZ p a6]
 rw[eA];have dM:B[0]?=some (.q 3 S):=by rw[a3.2 0 V];rfl
 have fB:B[1]?=some (.q 11 O):=by rw[a3.2 1 V];rfl
 have fC:B[2]?=some (.q 3 [.ae,.ae,.i6 0]):=by rw[a3.2 2 V];rfl
 have fF:B[3]?=some (.q 32 (bZ 32 (.int .u8 0))):=by rw[a3.2 3 V];rfl
 have fJ:B[4]?=some (.q 32 X):=by rw[a3.2 4 V];rfl
 have gC:5<=B.length:=a3.1;have f0:∀ g:ad,(B++g)[0]?=some (.q 3 S):=fun g=>by rw[aU F];exact dM
 have ed:∀ (g:ad) (h:0<(B++g).length),(B++g)[0]'h=.q 3 S:=fun g h=>(aK.1 (f0 g)).2
 simp[dM,bw,c5,ek,ec,aw,ed,c2,eT];obtain⟨N,da⟩:=al (B.length);have ef:∀ g:ad,(B++g)[1]?=some (.q 11 O):=fun g=>by rw[aU F];exact fB
 have eg:∀ g:ad,(B++g)[2]?=some (.q 3 [.ae,.ae,.i6 0]):=fun g=>by rw[aU F];exact fC
 have eh:∀ g:ad,(B++g)[3]?=some (.q 32 (bZ 32 (.int .u8 0))):=fun g=>by rw[aU F];exact fF
 have ej:∀ g:ad,(B++g)[4]?=some (.q 32 X):=fun g=>by rw[aU F];exact fJ
 refine bx s.ai.l.length (ND s x o N) ?_ ⟨V,V,V,V,V,by simp[G],by simp[aG],by simp[da],V,V,V,by rw[<-aR];exact f0 _,by rw[<-Y];exact ef _,eg _,eh _,by rw[<-K];exact ej _,F,.ae,0,.ae,.ae,by rw[da];simp,.nil 0,.inl rfl,rfl,.inl (fR _)⟩;rintro k fN l hk ⟨cS,cT,bG,cU,c0,cd,ce,cQ,cX,cY,cZ,b3,q1,cH,cI,aY,db,aC,j,o1,w2,aB,aL,bU,gl,bS⟩;rw[<-G] at cd aL bS;rw[<-aG] at ce;rw[<-aR] at b3;rw[<-Y] at q1;rw[<-K] at aY;obtain⟨fN,rfl⟩:=L3 cS cT bG cU c0 cd ce cQ cX cY cZ;clear cS cT bG cU c0 cd ce cQ cX cY cZ;have T:IntKind.i64.wrap ((k:Int)+1)=((k+1:Nat) :Int):=by rw[IntKind.wrap_i64];have:=h.qQ;omega
 have bk:=aX aB;have gk:=h.qQ;by_cases a5:k<s.ai.l.length
 ·obtain⟨p,dt,bW⟩:=aP a5;have dg:dq s.ai.l k=p:=dr dt;have bv:=(C.ai p bW).1;have bs:=l2 dt;have a0:(bf p).length=2:=rfl;have ci:(bf p).take 2=bf p:=rfl;have c8:=oo p;have cE:=Lx p bv;change aW _ [.af (bf p)] (.af (bf p)) at cE;have cA:=KE s.ai.l iZ o1 w2 k;have e6:=zX s.ai.l iZ o1 w2 k;obtain⟨P,bK⟩:=al (bf p);rw[<-bK] at bs a0 ci c8;have cC:aw [U.ae,.ae] 0 P=P:=cy (by rw[a0];rfl);have b4:∀ (g:ad) (c:Nat) (b:ao),l[c]?=some b->(l++g)[c]?=some b:=fun g c b z=>by rw[aU (aX z)];exact z
  have J:∀ c,c<5->c≠N:=fun c cq=>F
  have Q:∀ c,c<5->aC=.ae\/c≠j:=fun c cq=>by rcases bU with e | e;exact .inl e;exact .inr F
  by_cases cv:k=iZ
  ·have dk:k<=iZ:=F;simp[a5,bs,a0,ci,cC,b4 _ _ _ aB];rw[bK];refine Xt p bv fun bb bc oJ bI dI dJ eB fl fm=>?_
   rw[<-bK] at bI;have ch:h2 l oJ:=h2.trans ⟨V,fun b z=>aU z⟩ bI;have gh:l.length+1<=oJ.length:=by have:=bI.1;simpa using this
   have fA:oJ[N]?=some (.q 3 [aC,.ae,.i6 (s.bL+1)]):=by rw[ch.2 N bk];exact aB
   have gA:oJ[l.length]?=some (.q 2 P):=by rw[bI.2 l.length V];simp
   rw[Wh dk o1 w2 bb bc] at aL;have dw:=KE s.ai.l iZ bb bc k;rw[ak cv] at dw;obtain⟨I,bz,bi,b5,b6,bj,b9,ca,R,dT,cb,cc⟩:=JO (s:=s) (N:=N) (L:=oJ++[ao.q 2 [bb,bc]]) (b:=oJ.length) (e:=[bb,bc]) bk aB aL bU (ch.trans ⟨V,fun b z=>aU z⟩) V rfl (by rw[zX];omega);have bm:∀ (c:Nat) (b:ao),c≠N->(aC=.ae\/c≠j)->oJ[c]?=some b->(bi.set N (.q 3 [I,.ae,.i6 (s.bL+1)]))[c]?=some b:=fun c b h1 m D=>by
    have cf:=aX D;rw[cb c (by simp;omega) h1 m,aU cf];exact D
   have bB:∀ (c:Nat) (b:ao),c≠N->(aC=.ae\/c≠j)->l[c]?=some b->(bi.set N (.q 3 [I,.ae,.i6 (s.bL+1)]))[c]?=some b:=fun c b h1 m D=>bm c b h1 m (by rw[ch.2 c (aX D)];exact D)
   have a4:aC=.ae\/j<l.length:=aL.lt;simp[fA,ey,c3,b5];refine bP.bm ?_;have cB:aw [aC,.ae,.i6 (s.bL+1)] 0 [I]=[I,.ae,.i6 (s.bL+1)]:=rfl;simp[b6,bj,cB,T];have cP:∀ (w:U) (q:Nat),(∀ u b n g t,w=.Z u b 0 n g t->l.length+1<=b/\b<oJ.length)->wM bz w:=fun w q fd u b n g t e=>by
    obtain⟨h1,m⟩:=fd u b n g t e;rcases cc with ⟨T,eb⟩ | T
    ·have:=a4.resolve_left eb;omega
    ·simp at T;omega
   have dH:∀ b,l.length+1<=b->b<oJ.length->(bi.set N (.q 3 [I,.ae,.i6 (s.bL+1)]))[b]?=oJ[b]?:=fun b h1 m=>by
    obtain⟨y,v,_⟩:=aP m;rw[v];refine bm b y F ?_ v;rcases a4 with e | e
    ·exact .inl e
    ·exact .inr F
   have a6:e1 s x=p:=by unfold e1;rw[<-G,<-cv];exact dg
   refine⟨a5,V,V,V,V,V,by simp[G],by simp[aG],V,V,V,V,bB 0 _ (J 0 F) (Q 0 F) (by rw[<-aR];exact b3),bB 1 _ (J 1 F) (Q 1 F) (by rw[<-Y];exact q1),bB 2 _ (J 2 F) (Q 2 F) cH,bB 3 _ (J 3 F) (Q 3 F) cI,bB 4 _ (J 4 F) (Q 4 F) (by rw[<-K];exact aY),db,I,bz,bb,bc,bV (by have:=aX bj;omega),by rw[<-G,dw];exact b9,.inr ca,by rw[R];simp,.inr ⟨?_,?_,eB,fl,fm,cP bb 0 fun u b n g t e=>by have:=dI.lt e;simpa using this,cP bc 0 fun u b n g t e=>by have:=dJ.lt e;simpa using this⟩⟩
   ·rw[a6];exact (dI.frame fun b h1 m=>dH b (by simpa using h1) m).mono (by simp;omega)
   ·rw[a6];exact (dJ.frame fun b h1 m=>dH b (by simpa using h1) m).mono (by simp;omega)
  ·rw[aj cv,dg] at cA;rw[<-bK] at cA cE;obtain⟨I,bz,bi,b5,b6,bj,b9,ca,R,dT,cb,cc⟩:=JO (s:=s) (N:=N) (L:=l++[ao.q 2 P,ao.q 2 P]) (b:=l.length+1) (e:=P) bk aB aL bU ⟨V,fun b z=>aU z⟩ V a0 (by rw[e6];omega);have bm:∀ (c:Nat) (b:ao),c≠N->(aC=.ae\/c≠j)->l[c]?=some b->(bi.set N (.q 3 [I,.ae,.i6 (s.bL+1)]))[c]?=some b:=fun c b h1 m D=>by
    have cf:=aX D;rw[cb c (by simp;omega) h1 m,aU cf];exact D
   have a4:aC=.ae\/j<l.length:=aL.lt;simp[a5,bs,a0,ci,cC,b4 _ _ _ aB];refine au cE (by simp[aq,U.ar,c8]) ?_;simp[a0,cC,b4 _ _ _ aB,ey,c3,b5];refine bP.bm ?_;have cB:aw [aC,.ae,.i6 (s.bL+1)] 0 [I]=[I,.ae,.i6 (s.bL+1)]:=rfl;simp[b6,bj,cB,T];refine⟨a5,V,V,V,V,V,by simp[G],by simp[aG],V,V,V,V,bm 0 _ (J 0 F) (Q 0 F) (by rw[<-aR];exact b3),bm 1 _ (J 1 F) (Q 1 F) (by rw[<-Y];exact q1),bm 2 _ (J 2 F) (Q 2 F) cH,bm 3 _ (J 3 F) (Q 3 F) cI,bm 4 _ (J 4 F) (Q 4 F) (by rw[<-K];exact aY),db,I,bz,o1,w2,bV (by have:=aX bj;omega),by rw[<-G,cA];exact b9,.inr ca,by rw[R];simp,?_⟩;rcases bS with bS | W
   ·left;rw[<-G];omega
   ·right;have dL:∀ w,wM j w->(∀ u b n g t,w=.Z u b 0 n g t->b<l.length)->wM bz w:=fun w h1 m u b n g t e=>by
     rcases cc with ⟨T,_⟩ | T
     ·rw[T];exact h1 u b n g t e
     ·have:=m u b n g t e;simp at T;omega
    refine⟨W.hB.bm fun b h1 m u n g t e=>?_,W.iA.bm fun b h1 m u n g t e=>?_,W.ap,W.m1,W.m2,dL _ W.f1 fun u b n g t e=>(W.hB.lt e).2,dL _ W.f2 fun u b n g t e=>(W.iA.lt e).2⟩
    ·obtain⟨y,v,_⟩:=aP m;rw[v];exact bm b y F (.inr (W.f1 u b n g t e)) v
    ·obtain⟨y,v,_⟩:=aP m;rw[v];exact bm b y F (.inr (W.f2 u b n g t e)) v
 ·have ga:k=s.ai.l.length:=F;obtain⟨_,_,e2⟩:=zy h x;rw[<-G] at e2;have W:=bS.resolve_left F;have eP:=l3 o.ax aI.idsZ aI.len;have mp:=gB o.ax;have e8:aw O 1 [ah o.ax]=O:=by rw[Y];exact wQ o
  have fO:=uB q1;obtain⟨aA,cap,H,cs,fa,z,gj,fZ,dh,dk,dy⟩:=Ul aL (i:=iZ) (e:=[o1,w2]) (by rw[KD F,ak rfl]);have dV:cs[iZ*2]?=some o1:=by
   have:((cs.drop (iZ*2)).take 2)[0]?=some o1:=by rw[dy];rfl
   rw[dS F,gy] at this;exact this
  have cO:cs[iZ*2+1]?=some w2:=by
   have:((cs.drop (iZ*2)).take 2)[1]?=some w2:=by rw[dy];rfl
   rw[dS F,gy] at this;exact this
  subst fa;have bs:bO (.Z 2) (.Z 2 j 0 aA cap H) (.i6 (iZ:Int))=some (.ptr j (iZ*2) H):=by
   simp[bO,dh]
  simp[a5,q1,ay,ck];refine au eP (by simp[aq,eF]) ?_;have eC:∀ g:ad,(l++g)[j]?=some (.q H cs):=fun g=>by rw[aU (aX z)];exact z
  have fz:∀ g:ad,(l++g)[1]?=some (.q 11 O):=fun g=>by rw[aU (aX q1)];exact q1
  have gx:∀ g:ad,(l++g)[4]?=some (.q 32 X):=fun g=>by rw[aU (aX aY)];exact aY
  have e9:aw [U.int .u32 0,.ae,.int .u64 0,.int .u8 0,.str [],.int .u8 0,.i6 0,.int .u64 0,.str [],.int .u32 0,.int .u32 0] 0 O=O:=cy (by rw[ay];rfl);have bW:=(zy h x).2.1;have bv:=(C.ai _ bW).1;have dB:=jQ.1 h.wf _ bW;have dE:∀ y∈(e1 s x).idsZ.l,(am y).length=32:=fun y v=>br (bv.idsZ y v)
  have dG:∀ y∈(e1 s x).opsZ.l,(av y).length=11:=fun y _=>rfl
  have de:=vL (e1 s x).idsZ.l x;have gi:(e1 s x).idsZ.l.length<=1000000:=bv.li;have a4:=aX z;simp[q1,ay,e8,mp,fO,aB,bs,z,eC,dV,cO,aY,fz,az,bn,bl,cD,e9,ey,c3];refine Ct (enc:=am) (x:=x) Cs bp bp (show gM prog 57=some 32 by kernel_rfl) F F bp dE (by rw[<-K];exact az) ((W.hB.frame fun b _ z=>aU z).c dE) (by rw[<-K];simp) (fun b n cap s e=>by have:=(W.hB.lt e).2;omega) (by rw[aG];exact de) (by rw[cx];omega) fun bC eS cr=>?_
  have aS:∀ (c:Nat) (b:ao),c<l.length->(∀ u dF n g t,o1=.Z u dF 0 n g t->c≠dF)->l[c]?=some b->bC[c]?=some b:=fun c b h1 m D=>by
   rw[cr c (by simp;omega) (fun b n cap s e=>m 32 b n cap s e),aU h1];exact D
  have a7:∀ c,c<=N->∀ u dF n g t,o1=.Z u dF 0 n g t->c≠dF:=fun c cq u dF n g t e=>by have:=(W.hB.lt e).1;omega
  have a9:∀ c,c<=N->∀ u dF n g t,w2=.Z u dF 0 n g t->c≠dF:=fun c cq u dF n g t e=>by have:=(W.iA.lt e).1;omega
  have cN:=aS j _ a4 (fun u dF n g t e=>(W.f1 u dF n g t e).symm) z;have fp:=aS N _ bk (a7 N (aN _)) aB;have fP:=aS 4 _ F (a7 4 F) aY;have dK:=aS 1 _ F (a7 1 F) q1;have dP:bC[l.length+1]?=some (.q 11 O):=by
   rw[cr (l.length+1) V (fun b n cap s e=>by have:=(W.hB.lt e).2;omega)];simp
  simp[cN,cO,dK,ay,bl,dP];have dQ:eX 11 av bC (N+1) w2 (e1 s x).opsZ:=W.iA.bm fun b h1 m u n g t e=>by
   rw[cr b (by simp;omega) (fun dF aA gv gD ea=>by have:=W.ap _ _ _ _ _ _ _ _ _ _ ea e;omega),aU m]
  refine Ct (enc:=av) (x:=o) H7 bp bp (show gM prog 55=some 112 by kernel_rfl) F F bp dG rfl (dQ.c dG) (by rw[<-Y];exact dP) (fun b n cap s e=>by have:=(W.iA.lt e).2;omega) (by rw[aG,<-dB.1];exact de) (by rw[cx,<-dB.1];omega) fun bD gc eH=>?_
  have gb:l.length<=bC.length:=by simp at eS;omega
  have aT:∀ (c:Nat) (b:ao),c<l.length->(∀ u dF n g t,w2=.Z u dF 0 n g t->c≠dF)->bC[c]?=some b->bD[c]?=some b:=fun c b h1 m D=>by
   rw[eH c F (fun b n cap s e=>m 11 b n cap s e)];exact D
  have bF:=aT j _ a4 (fun u dF n g t e=>(W.f2 u dF n g t e).symm) cN;have fr:=aT N _ bk (a9 N (aN _)) fp;have fQ:=aT 4 _ F (a9 4 F) fP;have fw:=aT 1 _ F (a9 1 F) dK;have dj:=aX bF;have bG:∀ c' : ao,(bD.set j c')[j]?=some c':=fun c'=>bV dj
  have ht:∀ a:List (ag),(U.bu 32 a).cells=some [.bu 32 a]:=fun a=>rfl
  have dZ:∀ a:List (ag),(U.bu 11 a).cells=some [.bu 11 a]:=fun a=>rfl
  have fj:=aT 0 _ F (a9 0 F) (aS 0 _ F (a7 0 F) b3);have bh:∀ (c:Nat) (b:ao) (c' : ao),c≠j->bD[c]?=some b->(bD.set j c')[c]?=some b:=fun c b c' h1 m=>by rw[bg (fun e=>h1 e.symm)];exact m
  have fY:N<j:=by rcases bU with e | e;cases e;exact e
  have fk:=fun c'=>bh 0 _ c' F fj
  simp[bF,bG,ht,dZ,fk,bw,c4];refine⟨F,F,?_⟩;have c9:=Jo (aL.cl (.inr (by rw[bF,z]))) bF dh (.bu 32 ((cW (e1 s x).idsZ.l aF x).map am)) (.bu 11 ((cW (e1 s x).opsZ.l aF o).map av));obtain⟨M,aQ⟩:=al (bD.set j (.q H (aw (aw cs (iZ*2) [.bu 32 ((cW (e1 s x).idsZ.l aF x).map am)]) (iZ*2+1) [.bu 11 ((cW (e1 s x).opsZ.l aF o).map av)])));rw[<-aQ] at c9 ⊢;have fu:M[N]?=some (.q 3 [.Z 2 j 0 aA cap H,.ae,.i6 (s.bL+1)]):=by rw[aQ];exact bh N _ _ F fr
  have fV:M[4]?=some (.q 32 X):=by rw[aQ];exact bh 4 _ _ F fQ
  have fx:M[1]?=some (.q 11 O):=by rw[aQ];exact bh 1 _ _ F fw
  have fE:M[2]?=some (.q 3 [.ae,.ae,.i6 0]):=by rw[aQ];exact bh 2 _ _ F (aT 2 _ F (a9 2 F) (aS 2 _ F (a7 2 F) cH))
  have fH:M[3]?=some (.q 32 (bZ 32 (.int .u8 0))):=by rw[aQ];exact bh 3 _ _ F (aT 3 _ F (a9 3 F) (aS 3 _ F (a7 3 F) cI))
  have cu:j<M.length:=by rw[aQ];simpa using dj
  refine BC s.bE C.bE (by have:=C.nE;omega) fun gE dR gw fv=>?_
  have fg:∀ y∈s.bE.l,(am y).length=32:=fun y v=>br (C.bE y v)
  obtain⟨Ii,gp,fh,gq,fi⟩:=fv.own fg;have cM:∀ (c:Nat) (b:ao),M[c]?=some b->(M++dR)[c]?=some b:=fun c b z=>by rw[aU (aX z)];exact z
  simp;refine G5 eM fh (fun y v=>C.bE y v) (by have:=C.nE;omega) (UI o aI (by rw[<-Y];exact cM 1 _ fx) F s.bE.l (fun y v=>C.bE y v)) fun r aV cz c1 gn eG=>?_
  have gg:M.length<=aV.length:=by have:=c1.le;simp at this;omega
  have R:∀ (c:Nat) (b:ao),c<M.length->M[c]?=some b->aV[c]?=some b:=fun c b h1 m=>by rw[c1.same c (by simp;omega) F];exact cM c b m
  have n6:=R N _ F fu;have fS:=R 4 _ F fV;have eU:=c9.cl (l':=aV) (.inr (by
   obtain⟨y,v,_⟩:=aP cu;rw[v];exact R j y cu v))
  have fo:=cz.cells;have es:=aX n6;have n7:(aV.set N (.q 3 [.Z 2 j 0 aA cap H,r,.i6 (s.bL+1)]))[N]?=some (.q 3 [.Z 2 j 0 aA cap H,r,.i6 (s.bL+1)]):=bV es;obtain⟨aM,a2⟩:=al (aV.set N (.q 3 [.Z 2 j 0 aA cap H,r,.i6 (s.bL+1)]));have cK:∀ (c:Nat) (b:ao),c≠N->aV[c]?=some b->aM[c]?=some b:=fun c b h1 m=>by rw[a2,bg (fun e=>h1 e.symm)];exact m
  have cJ:=cK 4 _ F fS;have bX:aE 32 aM r Ii ((s.bE.l.filter fun t=>!decide (t∈o.ax.l)).map am):=by
   rw[a2];exact cz.cl (.inr (bg F))
  have eV:=eU.cl (l':=aM) (.inr (by rw[a2];exact bg F));simp[n6,fo,aw];rw[<-a2];rw[<-a2] at n7;obtain⟨lL,aO⟩:∃ lL:b2,lL.l=(s.bE.l.filter fun t=>!decide (t∈o.ax.l))/\lL.isNone=bo r:=by
   cases eN:bo r with
   | false=>exact⟨some _,rfl,rfl⟩
   | true=>
    have:=gm.1 eN;subst this;have df:=cz.q.oN;rw[m7] at df;exact⟨none,df.symm,rfl⟩
  have c7:c6 lL:=fun y v=>by rw[aO.1] at v;exact C.bE y (dx.1 v).1
  have en:lL.l.length<=1000000:=by rw[aO.1];have:=g4 (fun t=>!decide (t∈o.ax.l)) s.bE.l;have:=C.nE;omega
  have ep:b8 lL.l=true:=by
   rw[aO.1,<-h.tL];exact ul ((oS (Cl (kO h.kx).b8)).sublist kk)
  have dz:=z8 lL c7 en x bY ep;have e5:=bX.nM cG lL aO.2.symm aO.1;rw[<-K] at dz;simp[n7,cJ,az,bn];refine iC dz (.cons e5 (.cons (.same _ (by simp[U.ar,b0])) (.cons (.same _ rfl) .nil))) (by simp[U.flat,kE]) ?_;simp[n7,cJ,az,bn,cD,ey,c3];have fe:∀ y∈lL.l,(am y).length=32:=fun y v=>br (c7 y v)
  have eD:=vL lL.l x;have ev:xV 32 (aM++[ao.q 32 X]) r (lL.l.map am):=Uk fi eG (by rw[aO.1];exact bX.more _);have dv:∀ b n cap s,r=.Z 32 b 0 n cap s->b=Ii:=fun b n cap s e=>by
   subst e;cases bX;rfl
  have gd:aM.length=aV.length:=by rw[a2];simp
  refine Ct (enc:=am) (x:=x) Cs bp bp (show gM prog 57=some 32 by kernel_rfl) F F bp fe (by rw[<-K];exact az) ev (by rw[<-K];simp) (fun b n cap s e=>by
   have:=dv b n cap s e;rcases bX.lt with q | q
   ·rw[q] at e;cases e
   ·omega) eD (by rw[cx];omega) fun fq gf eJ=>?_
  have bA:∀ (c:Nat) (b:ao),c<M.length->aM[c]?=some b->fq[c]?=some b:=fun c b h1 m=>by
   rw[eJ c (by simp;omega) (fun dF n cap s e=>by have:=dv dF n cap s e;omega),aU F];exact m
  have n8:=bA N _ F n7;have fT:=bA 4 _ F cJ;have fD:=bA 2 _ F (cK 2 _ F (R 2 _ F fE));have fG:=bA 3 _ F (cK 3 _ F (R 3 _ F fH));have eW:=eV.cl (l':=fq) (.inr (by
   obtain⟨y,v,_⟩:=aP (l:=aM) (k:=j) F;rw[v];exact bA j y cu v))
  have et:=aX n8;obtain⟨aZ,cj⟩:=al (U.bu 32 ((cW lL.l (dU lL.l x) x).map am));have dX:aZ.cells=some [aZ]:=by rw[cj];rfl
  obtain⟨aD,bJ⟩:=al (fq.set N (.q 3 [.Z 2 j 0 aA cap H,aZ,.i6 (s.bL+1)]));have fs:aD[N]?=some (.q 3 [.Z 2 j 0 aA cap H,aZ,.i6 (s.bL+1)]):=by rw[bJ];exact bV et
  have cL:∀ (c:Nat) (b:ao),c≠N->fq[c]?=some b->aD[c]?=some b:=fun c b h1 m=>by rw[bJ,bg (fun e=>h1 e.symm)];exact m
  have fU:=cL 4 _ F fT;have dN:=cL 2 _ F fD;have dO:=cL 3 _ F fG;have dl:=eW.cl (l':=aD) (.inr (by rw[bJ];exact bg F));rw[<-cj];simp[n8,dX,aw];rw[<-bJ];have eQ:=aX dN;have eR:=aX dO;have fM:∀ c:ao,(aD.set 2 c)[3]?=some (.q 32 (bZ 32 (.int .u8 0))):=fun c=>by rw[bg F];exact dO
  have fL:∀ c:ao,(aD.set 2 c)[2]?=some c:=fun c=>bV eQ
  have t29:∀ c d:ao,((aD.set 2 c).set 3 d)[2]?=some c:=fun c d=>by rw[bg F];exact fL c
  have t39:∀ c d:ao,((aD.set 2 c).set 3 d)[3]?=some d:=fun c d=>bV (by simpa using eR)
  simp[fs,fU,dN,fM,t29,t39,aw,az,bn];have e0:bf (iD (e1 s x) x o)=[.bu 32 ((cW (e1 s x).idsZ.l aF x).map am),.bu 11 ((cW (e1 s x).opsZ.l aF o).map av)]:=by rw[aG];rfl
  have a6:e1 s x=dq s.ai.l iZ:=by unfold e1;rw[<-G]
  have e3:(ft s x o).ai.l=s.ai.l.set iZ (iD (e1 s x) x o):=by
   show s.ai.l.set _ (iD (dq s.ai.l _) x o)=_;rw[<-G,<-a6]
  have e7:(mT s.ai.l iZ o1 w2 k).set iZ [.bu 32 ((cW (e1 s x).idsZ.l aF x).map am),.bu 11 ((cW (e1 s x).opsZ.l aF o).map av)]=(ft s x o).ai.l.map bf:=by
   rw[e3,<-e0];apply g3;intro i;by_cases di:i<k
   ·by_cases bT:i=iZ
    ·subst bT;rw[bV (by rw[zX];exact di),b1,bV F];rfl
    ·obtain⟨p,dn,_⟩:=aP (l:=s.ai.l) (k:=i) F;rw[bg (fun e=>bT e.symm),KD di,aj bT,b1,bg (fun e=>bT e.symm),dn,dr dn];rfl
   ·rw[dY (by rw[km,zX];omega),dY (by rw[cg,km];omega)]
  rw[e7] at dl;have eY:=dl.cl (l':=((aD.set 2 (ao.q 3 [U.Z 2 j 0 aA cap H,aZ,U.int IntKind.i64 (s.bL+1)])).set 3 (ao.q 32 (X++List.drop 32 (bZ 32 (U.int IntKind.u8 0)))))) (.inr (by rw[bg F,bg F]));have fK:=eY.q.gG oo (ft s x o).ai rfl rfl;have er:aZ=ah (ft s x o).bE:=by
   rw[cj,aO.1];rfl
  have eE:=bM (ft s x o).bE;refine .a1 _ _ rfl fun i c c' h1 m=>?_
  rcases i with _ | _ | _ | i
  ·simp at h1 m;subst h1 m;refine .af _ _ rfl fun i c c' h1 m=>?_
   rcases i with _ | _ | _ | i
   ·simp[bN] at h1 m;subst h1 m;exact fK
   ·simp[bN] at h1 m;subst h1 m;rw[er];exact .same _ eE
   ·simp[bN] at h1 m;subst h1 m;exact .same _ rfl
   ·simp at h1
  ·simp at h1 m;subst h1 m;exact .same _ (by simp[U.ar,b0])
  ·simp at h1 m;subst h1 m;exact .same _ rfl
  ·simp at h1
theorem J8 (o:aJ) (j:dm o) (g:de o=0) :aW 73 [.af (av o)] (.af (am (bd o))):=by have h:=DA o j (by have:=pL g;omega);unfold bd;rw[ak g];exact h
theorem FN {a b:aQ}:gV a b=true<->∀ p∈b,p∈a:=by unfold gV;rw[bI]
theorem Vf (s:c9) (t:iN s) (h:gT s) (o:aJ) (B:dm o) (R:de o=0) :aW 213 [.af (bJ s),.af (av o)] (.int .u8 (iv s o)):=by
 apply a8 func213 [[[0],[1],[2],[3,1]]];have O:=J8 o B R;have ag:=mF o;have v:=nL s.ay t.ay (by have:=t.no;omega) (bd o) ag;have W:=zJ s.ay t.ay (by have:=t.no;omega) o.ax B.idsZ B.len;have z:=lp (bd o) s.ay.l 0;have m:(bJ s).length=5:=rfl;have j:∀ h,(bJ s)[4]'h=ah s.ay:=fun _=>rfl
 have ap:(bJ s)[4]?=some (ah s.ay):=rfl;have H:∀ h,(bJ s)[0]'h=.int .i64 s.cap:=fun _=>rfl
 have ao:(bJ s)[0]?=some (.int .i64 s.cap):=rfl;have P:(av o).length=11:=rfl;have S:(av o).take 11=av o:=rfl;have T:∀ h,(av o)[1]'h=ah o.ax:=fun _=>rfl
 have ai:(av o)[1]?=some (ah o.ax):=rfl;have K:bz (.Z 32) (ah s.ay)=some (.int .i64 s.ay.l.length):=by simp[ah]
 have ad:=du o;have J:=bM s.ay;have X:=bM o.ax;have aw:=h.le;obtain⟨Q,I⟩:=al (am (bd o));have V:aq Q=true:=by rw[I];exact cG _
 rw[<-I] at O v;have q:iv s o=if bd o∈s.ay.l then 5 else if ∀ D∈o.ax.l,D∈s.ay.l then (if s.aG.bL=s.cap then 8 else 1) else 6:=rfl
 obtain⟨qH,Y⟩:=al (dG (bd o) s.ay.l 0);rw[<-Y] at v z;simp[m,j,P,S];refine au O (by simp[aq,U.ar,ad]) ?_;simp[m,j];refine au v (by simp[aq,U.ar,J,V]) ?_;by_cases h1:bd o∈s.ay.l
 ·have C:=z.2 h1;simp[C];exact aR (by rw[q,ak h1]) rfl
 ·have C:¬ 0<=qH:=fun w=>h1 (z.1 w)
  simp[C,m,j,P,T];refine au W (by simp[aq,J,X]) ?_;by_cases g:∀ D∈o.ax.l,D∈s.ay.l
  ·have p:gV s.ay.l o.ax.l=true:=FN.2 g;by_cases G:s.aG.bL=s.cap
   ·have u:(s.ay.l.length:Int)=s.cap:=F;simp[p,m,j,H,K,u];exact aR (by rw[q,aj h1,ak g,ak G]) rfl
   ·have u:¬ (s.ay.l.length:Int)=s.cap:=F;simp[p,m,j,H,K,u];exact aR (by rw[q,aj h1,ak g,aj G]) rfl
  ·have p:gV s.ay.l o.ax.l=false:=by
    cases w:gV s.ay.l o.ax.l with
    | false=>rfl
    | true=>exact bW (FN.1 w) g
   simp[p];exact aR (by rw[q,aj h1,aj g]) rfl
theorem VE (s:c9) (g:iN s) {S:ag} (p:S=bJ s) {l:ad} {K:cA} (o:∀ w l',h2 l l'->eX 32 am l' l.length w (some s.ay.l)->w.cells=some [w]->K (.af [.int .i64 s.cap,dp (bj s.aG).ai,ah (bj s.aG).bE,.int .i64 (bj s.aG).bL,w]) l') :
  cM 44 [.af S] l K:=by
 subst p;apply c0 func44 [cR 0 4++[[5],[6],[7],[4,7,5,1],[8,1]]];have j:=Ke s.aG g.aG;have u:=ky s.aG.ai;have t:=bM s.aG.bE;have B:∀ x∈s.ay.l,(am x).length=32:=fun x v=>br (g.ay x v)
 have z:=g.no;obtain⟨A,m⟩:=al (ao.cells 5 [U.int .i64 s.cap,dp s.aG.ai,ah s.aG.bE,.int .i64 s.aG.bL,ah s.ay]);have h:=Bq (l:=l++[A,.cells 5 [.int .i64 0,.ae,.ae,.int .i64 0,.ae],.cells 0 []]) (b:=l.length+2) V s.ay g.ay F;rw[m] at h;unfold bN at j;simp at h;simp[bJ];refine au j (by simp[aq,U.ar,u,t]) ?_;simp[h];refine bP.bm ?_;simp[aw];exact o _ _ ⟨V,fun b q=>aU q⟩ (.inr ⟨l.length+2,F,rfl,rfl,V⟩) rfl
def C4 (s:c9) (o:aJ) :c9:=⟨s.cap,jj (jG (cQ s.aG) (bd o) o) s.aG.ai.l.length,some (s.ay.l++[bd o])⟩
def lu (s:c9) (o:aJ) :c9:=if iv s o=1 then C4 s o else eF s
theorem UU {g:aV} (j:eT g) (v:g.idsZ.l.length<=900000) (w:g.opsZ.l.length<=900000) {x:List B} (t:x.length=32) {o:aJ} (m:dm o) :eT (jG g x o):=by
 unfold jG;refine Ap ⟨fun y u=>?_,fun q p=>?_,?_,?_⟩
 ·rcases jA.1 u with rfl | h
  ·exact t
  ·exact j.idsZ y h
 ·rcases jA.1 p with rfl | h
  ·exact m
  ·exact j.opsZ q h
 ·show (cW g.idsZ.l _ x).length<=_;rw[h8];omega
 ·show (cW g.opsZ.l _ o).length<=_;rw[h8];omega
theorem Ij {s:c9} {o:aJ} (h:iv s o=1) :bd o∉s.ay.l/\(∀ p∈o.ax.l,p∈s.ay.l)/\s.aG.bL≠s.cap:=by
 unfold iv at h;split at h
 ·cases h
 ·split at h
  ·split at h
   ·cases h
   ·rename_i a b c;exact⟨a,b,c⟩
  ·cases h
theorem Cz {s:c9} (h:gT s) {o:aJ} (m:iv s o=1) :bd o∉(bR (bH s.aG)).idsZ.l/\(∀ p∈o.ax.l,p∈(bR (bH s.aG)).idsZ.l)/\s.aG.bL<60:=by obtain⟨h1,g,t⟩:=Ij m;refine⟨fun j=>h1 ((Af h _).2 j),fun p q=>(Af h p).1 (g p q),?_⟩;have:=h.jP;have:=h.tv;omega
theorem Vj (s:c9) (v:iN s) (h:gT s) (o:aJ) (ax:dm o) (bl:ei o=0) :aW 164 [.af (bJ s),.af (av o)] (.a1 [.af (bJ (lu s o)),.int .u8 (iv s o)]):=by
 apply a8 func164 [[[0],[1],[3],[4]]++cR 6 4++[[2,8,4,3],[5,8]]];have b3:=ds;have a4:=sP bl;have aL:=J8 o ax a4;have ag:=Vf s v h o ax a4;have aP:=mF o;have cs:=v.no;have z:(bJ s).length=5:=rfl;have aB:(bJ s).take 5=bJ s:=rfl;have a7:=je s;have R:∀ h,(bJ s)[1]'h=dp s.aG.ai:=fun _=>rfl
 have bD:(bJ s)[1]?=some (dp s.aG.ai):=rfl;have bF:((bJ s).drop 1).take 3=bN s.aG:=rfl;have a9:(bJ s).tail.take 3=bN s.aG:=rfl;have H:(av o).length=11:=rfl;have D:(av o).take 11=av o:=rfl;have az:=du o;have bU:=nB s.aG.ai;have bC:=oq s.aG;have B:=br aP;have bn:=cG (bd o);obtain⟨x,cB⟩:=al (bd o);obtain⟨X,aC⟩:=al (am (bd o));rw[<-aC] at aL B bn;have aD:X.take 32=X:=aH F;have bk:aw (bZ 32 (.int .u8 0)) 0 X=X:=cy (by rw[B];rfl);obtain⟨O,a5⟩:=al (av o);obtain⟨S,aA⟩:=al (bJ s);rw[<-a5] at H D az aL ag ⊢;rw[<-aA] at z aB a7 bD bF a9 ag ⊢;simp only[<-aA] at R;obtain⟨aR,ap⟩:=al (iv s o);rw[<-ap] at ag ⊢;simp[z,aB,H,D];refine au ag (by simp[aq,U.ar,a7,az]) ?_;simp[z,aB];refine VE s v aA fun w g Y bY cx=>?_
 have bz:g[0]?=some (.cells 5 S):=by rw[Y.2 0 V];rfl
 have a2:g[1]?=some (.cells 11 O):=by rw[Y.2 1 V];rfl
 have a3:g[2]?=some (.cells 5 [.int .i64 0,.ae,.ae,.int .i64 0,.ae]):=by rw[Y.2 2 V];rfl
 have ge:3<=g.length:=by have:=Y.1;simpa using this
 have C:∀ (j:ad) (c:Nat) (b:ao),g[c]?=some b->(g++j)[c]?=some b:=fun j c b bb=>by rw[aU (aX bb)];exact bb
 have ca:∀ y∈s.ay.l,(am y).length=32:=fun y b9=>br (v.ay y b9)
 have cq:=ky (bj s.aG).ai;have cp:=bM (bj s.aG).bE
 -- a reading of a store whose orderZ is one's own
 have bs:∀ (L:ad) (a:Int) (aT:bX aV) (aI:b2) (n:Int) (u:U) (aS:b2),Rd L u (ah aS)->Rd L (.a1 [.af [.int .i64 a,dp aT,ah aI,.int .i64 n,u],.int .u8 aR]) (.a1 [.af (bJ ⟨a,⟨aT,aI,n⟩,aS⟩),.int .u8 aR]):=fun L a aT aI n u aS b4=>by
  refine .a1 _ _ rfl fun i c bx h1 m=>?_
  rcases j4 h1 with ⟨rfl,rfl⟩ | ⟨rfl,rfl⟩
  ·rcases j4 m with ⟨_,rfl⟩ | ⟨bT,_⟩
   ·refine .af _ _ rfl fun i c bx h1 m=>?_
    rcases i with _ | _ | _ | _ | _ | i
    ·simp[bJ] at h1 m;subst h1 m;exact .same _ rfl
    ·simp[bJ] at h1 m;subst h1 m;exact .same _ (ky _)
    ·simp[bJ] at h1 m;subst h1 m;exact .same _ (bM _)
    ·simp[bJ] at h1 m;subst h1 m;exact .same _ rfl
    ·simp[bJ] at h1 m;subst h1 m;exact b4
    ·simp at h1
   ·omega
  ·rcases j4 m with ⟨bT,_⟩ | ⟨_,rfl⟩
   ·omega
   ·exact .same _ rfl
 have K:∀ (j:ad) (h:0<(g++j).length),(g++j)[0]'h=.cells 5 S:=fun j h=>(aK.1 (C j 0 _ bz)).2
 have aY:∀ (j:ad) (h:1<(g++j).length),(g++j)[1]'h=.cells 11 O:=fun j h=>(aK.1 (C j 1 _ a2)).2
 have ce:∀ (j:ad) (c:ao),((g++j).set 2 c)[2]?=some c:=fun j c=>bV (by simp;omega)
 obtain⟨b,bc,T,aF,cn⟩:=bY.own ca;by_cases G:aR=1
 ·obtain⟨cf,ch,ci⟩:=Cz h (by rw[<-ap];exact G);have b8:=DE s.aG v.aG;have bG:=kO h.aG.kx;have cw:=bG.len;have cv:=h.aG.jP;have cz:(cQ s.aG).idsZ.l.length=(bH s.aG).length:=v2 (bH s.aG);have cA:(cQ s.aG).opsZ.l.length=(bH s.aG).length:=by rw[uS,mY,cg];show (cK _).l.length=_;rw[dj,cg]
  have bi:=Vp (cQ s.aG) (Aw v.aG) F F (bd o) aP o ax;obtain⟨bO,ct⟩:=JZ h.aG cf ci bl rfl ch;have b0:=UU (Aw v.aG) F F aP ax;have bh:=J7 (jG (cQ s.aG) (bd o) o) b0 bO s.aG.ai.l.length h.aG.gP (by have:=h.aG.qQ;omega);rw[<-aC,<-a5] at bi;have bR:=np (cQ s.aG);have bK:=np (jG (cQ s.aG) (bd o) o);have cu:∃ jU,jU=bN s.aG:=⟨_,rfl⟩
  obtain⟨Q,a6⟩:=al (jj (jG (cQ s.aG) (bd o) o) s.aG.ai.l.length);rw[<-a6] at bh;simp[aw,G,C _ _ _ a2,H,D];refine au aL (by simp[aq,U.ar,az]) ?_;simp[B,aD,bk,K,aY,z,a9,R,H,D,bU];refine au b8 (by simp[aq,U.ar,bC]) ?_;simp[B,aD,K,aY,z,R,H,D];refine au bi (by simp[aq,U.ar,bR,bn,az]) ?_;simp[K,z,R];refine au bh (by simp[aq,bK,U.ar]) ?_;have bI:(bN Q).length=3:=rfl;have b5:aw [dp (bj s.aG).ai,ah (bj s.aG).bE,U.int .i64 (bj s.aG).bL,w] 0 (bN Q)=[dp Q.ai,ah Q.bE,U.int .i64 Q.bL,w]:=rfl;have W:w=.ae\/b<g.length:=T.lt;have ck:3<=b:=by simpa using bc
  obtain⟨P,t⟩:=al (g++[ao.cells 5 [U.int .i64 s.cap,dp Q.ai,ah Q.bE,U.int .i64 Q.bL,w],ao.cells 32 X,ao.cells 32 X]);have cc:aE 32 P w b (s.ay.l.map am):=by rw[t];exact T.more _
  have bA:∀ (c:Nat) (q:ao),g[c]?=some q->P[c]?=some q:=fun c q b1=>by rw[t];exact C _ c q b1
  have bp:P[g.length]?=some (ao.cells 5 [U.int .i64 s.cap,dp Q.ai,ah Q.bE,U.int .i64 Q.bL,w]):=by rw[t];simp
  obtain⟨I,aQ,p,bt,aZ,cj,a0,bv,bw⟩:=hN (by_:=32) (x:=.Z 32 (g.length+2) 0 1 1 32) (xs:=[X]) cc (by rw[t];simp[cr,B,aH]) (by simp[B]) F F (by rw[b3];simp;omega);have aO:bo I=false:=by rw[bw];simp
  have bq:p[g.length]?=some (ao.cells 5 [U.int .i64 s.cap,dp Q.ai,ah Q.bE,U.int .i64 Q.bL,w]):=by
   rw[a0 _ (aX bp) (by rcases W with q | q;exact .inl q;exact .inr F)];exact bp
  have t2:p[2]?=some (.cells 5 [.int .i64 0,.ae,.ae,.int .i64 0,.ae]):=by
   rw[a0 2 (by rw[t];simp) (.inr F)];exact bA 2 _ a3
  simp[K,z,B,aD,bk,ey,c3,bI,b5];rw[<-t];simp[bt];refine bP.bm ?_;have dW:=aZ.cells;have b6:I≠.ae:=fun e=>by rw[e] at aO;cases aO
  have bf:aQ≠g.length/\aQ≠2:=by
   have cm:P.length=g.length+3:=by rw[t];simp
   rcases bv with q | ⟨q1,cC⟩ | q
   ·exact⟨F,F⟩
   ·have:=W.resolve_left q1;exact⟨F,F⟩
   ·exact bW q b6
  have cb:∀ c:ao,(p.set g.length c)[g.length]?=some c:=fun c=>bV (aX bq)
  have t3:∀ c:ao,(p.set g.length c)[2]?=some (.cells 5 [.int .i64 0,.ae,.ae,.int .i64 0,.ae]):=fun c=>by rw[bg F];exact t2
  have t4:∀ c d:ao,((p.set g.length c).set 2 d)[2]?=some d:=fun c d=>bV (by simpa using aX t2)
  simp[bq,dW,aw,cb,t3,t4];have aM:lu s o=⟨s.cap,⟨Q.ai,Q.bE,Q.bL⟩,some (s.ay.l++[bd o])⟩:=by
   unfold lu;rw[ak (by rw[<-ap];exact G)];unfold C4;rw[<-a6]
  rw[aM];obtain⟨J,bB⟩:=al (ao.cells 5 [U.int .i64 s.cap,dp Q.ai,ah Q.bE,U.int .i64 Q.bL,I]);have cd:aE 32 ((p.set g.length J).set 2 J) I aQ ((s.ay.l++[bd o]).map am):=by
   rw[cS,di,lI,<-aC];exact aZ.cl (.inr (by rw[bg (fun e=>bf.2 e.symm),bg (fun e=>bf.1 e.symm)]))
  have bS:=bs ((p.set g.length J).set 2 J) s.cap Q.ai Q.bE Q.bL I (some (s.ay.l++[bd o])) (cd.q.gG cG (some (s.ay.l++[bd o])) aO rfl);rw[<-bB];exact bS
 ·simp[aw,G,C _ _ _ a3];have aM:lu s o=eF s:=by unfold lu;rw[aj (by rw[<-ap];exact G)]
  rw[aM];simp[ce];refine bs _ _ _ _ _ _ (some s.ay.l) ((T.cl (.inr ?_)).q.gG cG (some s.ay.l) aF rfl);have W:b<g.length:=by
   rcases T.lt with q | q
   ·rw[q] at aF;cases aF
   ·exact q
  simp at bc;rw[bg F,aU W]
def Lj:c9:=⟨0,⟨none,none,0⟩,none⟩
noncomputable def mR (s:c9) (o:aJ) :Int:=if fl s=0 then ei o else 8
noncomputable def su (s:c9) (o:aJ) :c9:=if mR s o=0 then lu s o else Lj
noncomputable def I6 (s:c9) (o:aJ) :Int:=if mR s o=0 then iv s o else 0
theorem TJ {s:c9} {o:aJ} (h:mR s o=0) :gT s/\ei o=0:=by
 unfold mR at h;split at h
 ·rename_i h1;exact⟨(uJ s).1 h1,h⟩
 ·cases h
theorem U3 (s:c9) (w:iN s) (o:aJ) (u:dm o) :aW 163 [.af (bJ s),.af (av o)] (.int .i64 (mR s o)):=by
 apply a8 func163 [];have z:(bJ s).length=5:=rfl;have q:(bJ s).take 5=bJ s:=rfl;have p:=je s;have j:(av o).length=11:=rfl;have m:(av o).take 11=av o:=rfl;have v:=du o;have t:=Kb s w;have B:=zN o u;have g:mR s o=if fl s=0 then ei o else 8:=rfl
 simp[z,q,j];refine au t (by simp[aq,U.ar,p]) ?_;by_cases h:fl s=0
 ·simp[h,j,m];refine au B (by simp[aq,U.ar,v]) ?_;simp;exact aR (by rw[g,ak h]) rfl
 ·simp[h];exact aR (by rw[g,aj h]) rfl
theorem Vi (s:c9) (u:iN s) (o:aJ) (p:dm o) :aW 112 [.af (bJ s),.af (av o)] (.a1 [.af (bJ (su s o)),.int .u8 (I6 s o),.int .i64 (mR s o)]):=by
 apply a8 func112 [];have v:(bJ s).length=5:=rfl;have m:(bJ s).take 5=bJ s:=rfl;have j:=je s;have t:(av o).length=11:=rfl;have g:(av o).take 11=av o:=rfl;have q:=du o;have F:=U3 s u o p;have d1:su s o=if mR s o=0 then lu s o else Lj:=rfl
 have d2:I6 s o=if mR s o=0 then iv s o else 0:=rfl
 simp[v,m,t,g];refine au F (by simp[aq,U.ar,j,q]) ?_;by_cases h:mR s o=0
 ·obtain⟨h1,w⟩:=TJ h;have G:=Vj s u h1 o p w;have B:(bJ (lu s o)).length=5:=rfl;have D:(bJ (lu s o)).take 5=bJ (lu s o):=rfl;have z:=je (lu s o);have C:aw [U.int .i64 0,.ae,.ae,.int .i64 0,.ae] 0 (bJ (lu s o))=bJ (lu s o):=cy rfl;simp[h,v,m,t,g];refine au G (by simp[aq,U.ar,j,q]) ?_;simp[B,D,C];exact aR (by rw[d1,d2,ak h,ak h,h]) (by rw[d1,d2,ak h,ak h];simp[U.ar,aq,z])
 ·simp[h,aw];exact aR (by rw[d1,d2,aj h,aj h];rfl) (by rw[d1,d2,aj h,aj h];rfl)
theorem Gv (s:bX aV) (o:s.l.length<=1000000) {l:ad} {K:cA} (j:∀ w h,w.cells=some [w]->eX 2 bf (l++h) l.length w s->K w (l++h)) :
  cM 142 [dp s] l K:=by
 apply c0 func142 [];have p:=ds;have m:eb prog .eql 22 (dp s) .ae=some (.bool s.isNone):=vz (e:=70) bp 2 bf s;cases s with
 | none=>
  simp[m];simpa using j .ae [] rfl (.inl ⟨rfl,rfl⟩)
 | some a=>
  have t:∀ y∈a,(bf y).length=2:=fun y _=>rfl
  have u:a.length<=1000000:=o;have g:=x5 (enc:=bf) (z:=2) (by_:=48) (l++[ao.q 0 []]) l.length V (some a) t F F (by show a.length*48<=_;rw[p];omega);change ea _ _ _ _ (dp (some a))=_ at g;simp at g;simp[m,g];refine bP.bm ?_;simp;exact j _ [_] rfl (.inr ⟨l.length,aN _,rfl,rfl,V⟩)
def hf (ps:List aV) (wk:Nat->U) (k:Nat) :List (ag):=(List.range ps.length).map fun i=>if i<k then [ah (dq ps i).idsZ,wk i] else bf (dq ps i)
theorem KH (ps:List aV) (wk:Nat->U) :hf ps wk 0=ps.map bf:=by
 unfold hf;apply g3;intro i;by_cases h:i<ps.length
 ·obtain⟨j,g,_⟩:=aP h;rw[b1,ho h,b1,g];simp[dr g]
 ·rw[dY (by simp;omega),dY (by simp;omega)]
theorem pQ (ps:List aV) (wk:Nat->U) (k:Nat) :(hf ps wk k).length=ps.length:=by simp[hf]
theorem lz {ps:List aV} {wk:Nat->U} {k:Nat}:∀ e∈hf ps wk k,e.length=2:=fun e g=>by
 unfold hf at g;obtain⟨i,_,rfl⟩:=cC.1 g;split<;>rfl
theorem sB {ps:List aV} {wk:Nat->U} {k i:Nat} (h:i<ps.length) :(hf ps wk k)[i]?=some (if i<k then [ah (dq ps i).idsZ,wk i] else bf (dq ps i)):=by unfold hf;rw[b1,ho h];rfl
theorem KG {ps:List aV} {wk:Nat->U} {k:Nat} {w:U} (h:k<ps.length) :(hf ps wk k).set k [ah (dq ps k).idsZ,w]=hf ps (fun i=>if i=k then w else wk i) (k+1):=by
 apply g3;intro i;by_cases g:i<ps.length
 ·by_cases e:i=k
  ·subst e;rw[bV (by rw[pQ];exact g),sB g,ak F,ak rfl]
  ·rw[bg (fun m=>e m.symm),sB g,sB g];by_cases j:i<k
   ·rw[ak j,ak F,aj e]
   ·rw[aj j,aj F]
 ·rw[dY (by rw[km,pQ];omega),dY (by rw[pQ];omega)]
theorem eX.rd {alZ:Type} {z:Nat} {enc:alZ->ag} {l:ad} {n:Nat} {w:U} {s:bX alZ} (h:eX z enc l n w s) (o:∀ y∈s.l,(enc y).length=z) (m:∀ y,aq (enc y)=true) :Rd l w (b4 z enc s):=by obtain⟨b,_,g,j,_⟩:=h.own o;exact g.q.gG m s j rfl
structure ob (ps:bX aV) (k n:Nat) (h:U) (L:ad) :Prop where
 ex:(ps=none/\h=.ae)\/∃ (g:Nat) (wk:Nat->U),n<=g/\ps.isNone=false/\h=.Z 2 g 0 ps.l.length ps.l.length (ps.l.length*2)/\L[g]?=some (.q (ps.l.length*2) (hf ps.l wk k).flatten)/\∀ i,i<k->i<ps.l.length->eX 11 av L (g+1) (wk i) (dq ps.l i).opsZ
theorem ob.frame {ps:bX aV} {k n:Nat} {o:U} {L L' : ad} (h:ob ps k n o L) (j:∀ b,n<=b->b<L.length->L'[b]?=L[b]?) :ob ps k n o L':=by
 rcases h.ex with h | ⟨m,z,h1,p,q,g,t⟩
 ·exact⟨.inl h⟩
 ·exact⟨.inr ⟨m,z,h1,p,q,by rw[j m h1 (aX g)];exact g,fun i v w=>(t i v w).frame fun b B u=>j b F u⟩⟩
theorem ob.cells {ps:bX aV} {k n:Nat} {g:U} {L:ad} (h:ob ps k n g L) :g.cells=some [g]:=by rcases h.ex with ⟨_,rfl⟩ | ⟨j,m,_,_,rfl,_⟩<;>rfl
theorem ob.rd {ps:bX aV} {n:Nat} {v:U} {L:ad} (h:ob ps ps.l.length n v L) :Rd L v (dp ps):=by
 rcases h.ex with ⟨rfl,rfl⟩ | ⟨I,w,h1,z,rfl,B,C⟩
 ·exact .same _ rfl
 ·have g:dp ps=.bu 2 (ps.l.map bf):=by
   cases ps with
   | none=>cases z
   | some a=>rfl
  rw[g];have D:=hw (lz (ps:=ps.l) (wk:=w) (k:=ps.l.length));rw[pQ] at D;refine .Z 2 I 0 _ _ _ _ _ B V (fun e g=>by obtain⟨y,_,rfl⟩:=cC.1 g;rfl) F fun i H e c J g o j=>?_
  have m:i<ps.l.length:=by have:=(aK.1 g).1;simpa using this
  obtain⟨p,u,_⟩:=aP m;rw[b1,u] at g;obtain rfl:=cd g;have t:dq ps.l i=p:=dr u;have G:H<2:=by have:=(aK.1 o).1;exact this
  have q:=ll lz (sB (ps:=ps.l) (wk:=w) (k:=ps.l.length) m) G;rw[ak m,t] at q;rw[hJ,q] at j;rcases j4 o with ⟨rfl,rfl⟩ | ⟨rfl,rfl⟩
  ·simp at j;subst j;exact .same _ (bM _)
  ·simp at j;subst j;have:=C i m m;rw[t] at this;exact this.rd (fun _ _=>rfl) du
end Op
end Go.bl
namespace Go.bl
open Go Go.Proofs Go.Proofs.Tryz Go.RowKit
section
variable {P:bq} {n:Nat}
theorem Ua {o:bb} {a:Act} {w:aT} {K j:Act->aT->Prop} {Q rG:Exit->Act->aT->Prop} (g:∀ a w,K a w->j a w) (p:∀ e a w,e≠.normal->Q e a w->rG e a w) (h:o.wp P a w K Q) :o.wpIn Fence.wide n P a w j rG:=by
 unfold Oper.wp at h;refine⟨fun _ _=>trivial,?_⟩;show o.uponIn Fence.wide n P a j rG ((execOp a.eval o).run P w);cases u:(execOp a.eval o).run P w with
 | ok x w'=>
  rw[u] at h;cases x with
  | value t=>exact g _ _ h
  | skip=>exact g _ _ h
  | defer d=>exact g _ _ h
  | enter f args=>
   refine⟨fun q=>(by cases q),(callsIn_wide.2 h).mono ?_⟩;rintro (t | C | _) D m
   ·exact g _ _ m
   ·exact p _ _ _ V m
   ·obtain⟨v,B,z⟩:=m;exact⟨v,B,p _ _ _ V z⟩
  | row r args=>exact⟨fun q=>(by cases q),fun c cs _=>let ⟨t,w',r,s⟩:=h c cs;⟨t,w',g _ _ r,stepsIn_wide.2 s⟩⟩
  | _=>exact h.elim
 | halt e w'=>
  rw[u] at h;cases e<;>first | exact p _ _ _ V h | exact h.elim
theorem CK {all:Array bb} {Q:Exit->Act->aT->Prop}:∀ {l1 j:List bb} {a:Act} {w:aT},
  wpList P all (fun e a w=>match e with | .normal=>wpListIn Fence.wide n P all Q j a w | _=>False) l1 a w->wpListIn Fence.wide n P all Q (l1++j) a w
 | [],j,a,w,h=>h
 | q::l1,j,a,w,h=>by
  rw[iK];unfold wpList at h;unfold wpListIn;split
  ·rename_i m;rw[ak m] at h;rcases h with h | ⟨_,p,t,g⟩
   ·refine Ua (fun a w g=>CK g) (fun e a w o g=>?_) h;cases e<;>first | exact bW rfl o | exact g.elim
   ·exact g.elim
  ·rename_i m;rw[aj m] at h;exact⟨fun _ _=>trivial,CK h⟩
end
section
variable {P:bq} {n:Nat}
def fO (fn:cj) (tmps:Array aD) (ps:Array Tmp) (body:Code) (D:Nat) (st:LoopState) (g:Option Code) :Loop:={ state:=st,pending:=g,fn,tmps:=tmps,params:=ps,assign:=.skip,body:=body,defers:=D }
theorem VH {g:aY} {ps:Array Tmp} {h:Code} {Q:Exit->Act->aT->Prop} {a:Act} {w:aT} {gf:Nat} {lb:Array aD}
  (ah:a.eval g=.func (.func gf) #[] lb) (S:∀ args w,(callFunc gf args).run P w=.ok (.enter gf args) w) (aq:ps.size=1)
  {A B:Prop} (C:aT->aT->Prop) (K:∀ W z,C W z->KeepsOthers W z)
  (V:∀ (fn:cj) (x:aD) (W:aT),ew ((w.alloc (.deferred (some []))).alloc (.loop (fO fn a.tmps ps h w.heap.size .ready none))) W->
   h.wpIn (Fence.wide.inRound (w.heap.size+1)) n P (fun e _ z=>e=.ret/\C (W.putObj (w.heap.size+1) (.loop (fO fn a.tmps ps h w.heap.size .busy none))) z)
    { tmps:=(ps.zip #[x]).foldl (fun t (p,v)=>t.setIfInBounds p v) a.tmps,defers:=[] } (W.putObj (w.heap.size+1) (.loop (fO fn a.tmps ps h w.heap.size .busy none))))
  (X:∀ (fn:cj) (hL:aT),hL=(w.alloc (.deferred (some []))).alloc (.loop (fO fn a.tmps ps h w.heap.size .ready none))->
   (∀ (x:aD) (W:aT),ew hL W->YieldAt Fence.wide n P (w.heap.size+1) #[x] W fun e z=>e=.returned (.bool false)/\∃ m,C (W.putObj (w.heap.size+1) (.loop (fO fn a.tmps ps h w.heap.size .busy none))) m ∧
    z=m.putObj (w.heap.size+1) (.loop (fO fn a.tmps ps h w.heap.size .done (some .ret))))->
   CallsIn Fence.wide (n - 1) P gf (#[.func (.yield (w.heap.size+1)) #[] #[]]++lb) hL fun e j=>(∃ v,e=.returned v)/\((A/\ew hL j) ∨
    (B/\∃ W m,ew hL W/\C (W.putObj (w.heap.size+1) (.loop (fO fn a.tmps ps h w.heap.size .busy none))) m/\ew (m.putObj (w.heap.size+1) (.loop (fO fn a.tmps ps h w.heap.size .done (some .ret)))) j)))
  (ad:∀ (fn:cj) (hL j:aT),hL=(w.alloc (.deferred (some []))).alloc (.loop (fO fn a.tmps ps h w.heap.size .ready none))->A->ew hL j->
   Q .normal { a with defers:={ target:=.collected w.heap.size,args:=#[] }::a.defers } (j.putObj (w.heap.size+1) (.loop (fO fn a.tmps ps h w.heap.size .exhausted none))))
  (ak:∀ (fn:cj) (hL W m j:aT),hL=(w.alloc (.deferred (some []))).alloc (.loop (fO fn a.tmps ps h w.heap.size .ready none))->B->ew hL W->
   C (W.putObj (w.heap.size+1) (.loop (fO fn a.tmps ps h w.heap.size .busy none))) m->ew (m.putObj (w.heap.size+1) (.loop (fO fn a.tmps ps h w.heap.size .done (some .ret)))) j->
   Q .ret { a with defers:={ target:=.collected w.heap.size,args:=#[] }::a.defers } (j.putObj (w.heap.size+1) (.loop (fO fn a.tmps ps h w.heap.size .exhausted (some .ret))))) :
  (Code.rangeFunc g ps .skip h).wpIn Fence.wide n P Q a w:=by
 refine wpIn_rangeFunc ?_;intro fn ag;rw[Fence.wide_round];obtain⟨hL,q⟩:∃ hL,(w.alloc (.deferred (some []))).alloc (.loop (fO fn a.tmps ps h w.heap.size .ready none))=hL:=⟨_,rfl⟩
 have G:hL.heap[w.heap.size+1]?=some (.loop (fO fn a.tmps ps h w.heap.size .ready none)):=by
  rw[<-q];have:=World.alloc_heap_new (w.alloc (.deferred (some []))) (.loop (fO fn a.tmps ps h w.heap.size .ready none));rwa [World.size_alloc] at this
 have ar:hL.heap.size=w.heap.size+2:=by rw[<-q];simp
 refine⟨w.heap.size+1,[{ target:=.collected w.heap.size,args:=#[] }],hL,{ target:=.fn (.func gf) lb,args:=#[.func (.yield (w.heap.size+1)) #[] #[]] },hL,gf,
  #[.func (.yield (w.heap.size+1)) #[] #[]]++lb,hL,?_,?_,?_,?_,fun Y=>(by cases Y),?_⟩
 ·rw[<-q];exact run_enterLoop_outer _ _ _ _ _
 ·simp only[resolve,ah];simp[go_sem]
 ·intro ao ap;trivial
 ·simp[invoke,go_sem,S]
 ·refine (X fn hL q.symm fun x W o=>?_).mono ?_
  ·have u:W.heap[w.heap.size+1]?=some (.loop (fO fn a.tmps ps h w.heap.size .ready none)):=(o.toBelow.block _ F).trans G;have J:w.heap.size+1<W.heap.size:=(ij.1 u).1;have al:=run_yield (P:=P) (args:=#[x]) u (by show 1=ps.size;omega);refine⟨fn,_,.skip,h,al,roundIn_of_wpIn ag (wpIn_skip ⟨_,run_beginRound u rfl,?_⟩)⟩;have H:(W.putObj (w.heap.size+1) (.loop (fO fn a.tmps ps h w.heap.size .busy none))).heap[w.heap.size+1]?=some (.loop (fO fn a.tmps ps h w.heap.size .busy none)):=World.putObj_heap_same J;refine wpIn_mono (V fn x W (by rw[q];exact o)) ?_;rintro e am m ⟨rfl,D⟩;have I:=(K _ _ D).same _ _ H rfl;have aj:=run_endRound (P:=P) (some .ret) I;exact⟨_,_,aj,rfl,m,D,rfl⟩
  ·rintro e j ⟨⟨v,rfl⟩,(⟨T,o⟩ | ⟨U,W,m,o,D,O⟩)⟩
   ·have u:j.heap[w.heap.size+1]?=some (.loop (fO fn a.tmps ps h w.heap.size .ready none)):=(o.toBelow.block _ F).trans G;exact⟨none,_,run_endLoop (P:=P) u (by simp[fO]),ad fn hL j q.symm T o⟩
   ·have u:W.heap[w.heap.size+1]?=some (.loop (fO fn a.tmps ps h w.heap.size .ready none)):=(o.toBelow.block _ F).trans G;have J:w.heap.size+1<W.heap.size:=(ij.1 u).1;have H:(W.putObj (w.heap.size+1) (.loop (fO fn a.tmps ps h w.heap.size .busy none))).heap[w.heap.size+1]?=some (.loop (fO fn a.tmps ps h w.heap.size .busy none)):=World.putObj_heap_same J;have I:=(K _ _ D).same _ _ H rfl;have R:=(ij.1 I).1;have ai:j.heap[w.heap.size+1]?=some (.loop (fO fn a.tmps ps h w.heap.size .done (some .ret))):=(O.toBelow.block _ (by simpa using R)).trans (World.putObj_heap_same R);exact⟨some .ret,_,run_endLoop (P:=P) ai (by simp[fO]),wpIn_ret (ak fn hL W m j q.symm U o D O)⟩
end
def ii:Code->List Bool->Code
 | c,[]=>c
 | .seq a b,d::r=>ii (if d then b else a) r
 | .block _ c,_::r=>ii c r
 | .loop c,_::r=>ii c r
 | .cond _ a b,d::r=>ii (if d then b else a) r
 | .rangeFunc _ _ a b,d::r=>ii (if d then b else a) r
 | c,_::_=>c
def j9:Code->Array bb
 | .region _ g _=>g
 | _=>#[]
section
variable {P:bq} {G:Nat->U}
theorem pq (u:P.follows .mixedOrders=true) (o:∀ g,(G g).ar=true) {N n:Nat} {code:Code} {c:fF} (q:comp P N code=some c) {sgZ:aS} {l:ad} {K:fG} (v:run P G c sgZ l K)
  {R:Nat->Prop} {B:Nat} {w:aT} {muZ:b3} {a:Act} {Q:Exit->Act->aT->Prop} (rel:bC R B w (aZ l) muZ) (g:jS G w R (aZ l) muZ) (s:gL N w R (aZ l) muZ sgZ a)
  (p:∀ e h w' muZ' j l',K e j l'->cY w (aZ l) muZ w' (aZ l') muZ'->bC R B w' (aZ l') muZ'->gL N w' R (aZ l') muZ' j h->Q e.out h w') :code.wpIn Fence.wide n P Q a w:=by obtain⟨e,j,l',t,_,hk⟩:=KO (aN N) code c q sgZ l K v;obtain⟨F,z⟩:=sH u o t;exact wpIn_wide.2 (lD.wp (z R B w muZ a Q rel g s fun h w' muZ' m C D=>p e h w' muZ' j l' hk m C D))
theorem Jt (D:P.follows .mixedOrders=true) (t:∀ g,(G g).ar=true) {N n:Nat} {opsZ:Array bb} (u:∀ (i:Nat) (o:bb),opsZ[i]?=some o->hO N o.dst=true) {p:List da} {os m:List bb} (z:k6 P opsZ p os)
  {sgZ:aS} {l:ad} {K:aS->ad->Prop} (F:iE P G p sgZ l K)
  {R:Nat->Prop} {B:Nat} {w:aT} {muZ:b3} {a:Act} {Q:Exit->Act->aT->Prop} (rel:bC R B w (aZ l) muZ) (g:jS G w R (aZ l) muZ) (s:gL N w R (aZ l) muZ sgZ a)
  (v:∀ h w' muZ' j l',K j l'->cY w (aZ l) muZ w' (aZ l') muZ'->bC R B w' (aZ l') muZ'->gL N w' R (aZ l') muZ' j h->wpListIn Fence.wide n P opsZ Q m h w') :wpListIn Fence.wide n P opsZ Q (os++m) a w:=by obtain⟨j,l',C,_,hk⟩:=xc u z F;refine CK ?_;exact sH D t C R B w muZ a _ rel g s fun h w' muZ' q H I=>v h w' muZ' j l' hk q H I
theorem Wd {n m:Nat} {l:Nat} {f:cj} {tmps:Array aD} {assign g:Code} {w:aT} {R:Ending->aT->Prop} (h:RoundIn Fence.wide n P l f tmps assign g w R) :RoundIn Fence.wide m P l f tmps assign g w R:=
 ⟨h.1,fun c cs _=>h.2 c cs (room_wide _)⟩
theorem JN {R:Nat->Prop} {B:Nat} {w:aT} {l:ad} {muZ:b3} (rel:bC R B w (aZ l) muZ) {b sz:Nat} {cs:ag} (O:l[b]?=some (.q sz cs)) (P:aq cs=true) {v:aD} (S:aA w R (aZ l) muZ (.ptr b 0 sz) v) :dg w R (.b7 cs 0) v:=by
 have m:(aZ l).f b=.q sz cs:=hK.2 O;cases S with
 | jk _ _ _ a Q=>
  rcases Q with h | ⟨n,G,h,W⟩
  ·rw[m] at h;cases h
  ·rw[m] at h;injection h with h1 I;omega
 | ptr _ _ _ G j u C=>
  rw[m] at u;injection u with _ H
  subst H;have z:=rel.blk b j C;rw[m] at z;obtain⟨h1,I,arr,e,T,J,U,V,t⟩:=z;have K:R j.r:=rel.up _ (rel.base b j (by rw[m];rfl) C);refine .b7 cs 0 j.r j.s (fun g=>(arr[j.s+g]?).getD undef) (fun g o=>?_) fun g c o=>?_
  ·obtain⟨v,p,D,F⟩:=t g cs[g] (bK o);rw[p];refine⟨?_,D,K,mQ _ _⟩;simp only[World.cell?,J];simpa using p
  ·obtain⟨v,p,D,F⟩:=t g c o;rw[p];exact (nq F (rP P g c o)).up fun k _ hk=>⟨hk.1,mQ _ _⟩
theorem dg.k9 {w w' : aT} {A:Nat->Prop} {c:U} {v:aD} (h:dg w A c v) (g:ew w w') :dg w' A c v:=by obtain⟨e,_⟩:=pO (us w (fun k=>A k\/w.heap.size<=k) fun k hk=>.inr hk) g;exact aA.j2 (R:=A) (⟨e.os,e.tape,e.output,e.size,e.bm,e.own,e.cells,e.gone,e.wL,e.n,e.drawn⟩) h
end
namespace Op
open cu
def vh (g h j m:Array bb) :Code:=.seq (.region 1 g false) (.seq (.cond (.tmp 10) .skip (.exit 0)) (.seq (.block 1 (.seq (.region 2 h false) (.seq (.region 3 j false) (.cond (.tmp 23) .ret .skip)))) (.region 4 m false)))
def rU (cap m:Int) (j g:U) (h:b2) :ag:=[.int .i64 cap,j,g,.int .i64 m,ah h]
theorem Gz {cap p:Int} {h g:U} {o:b2} (m:h.ar=true) (j:g.ar=true) :aq (rU cap p h g o)=true:=by simp[rU,aq,m,j,bM,U.ar]
structure pb (E:ag) (ps:b2) (S:ag) (h:Nat) (j:aT) (k:Nat) (a:Go.Act) (W:aT) :Prop where
 size:a.tmps.size=25
 defers:a.defers=[]
 t0:a.tmps.getD 0 undef=.func (.yield h) #[] #[]
 t8:a.tmps.getD 8 undef=.int .i64 ps.l.length
 t9:a.tmps.getD 9 undef=.int .i64 k
 ex:∃ A,dg W A (.b7 (E) 0) (a.tmps.getD 1 undef)/\dg W A (.b7 S 0) (a.tmps.getD 2 undef)/\dg W A (ah ps) (a.tmps.getD 7 undef)/\∀ g,dg W A (GS g) (.pointer (some ⟨g,0,none⟩))
 k9:ew j W
def jK (E:ag) (ps:b2) (S:ag) (g k:Nat) :aS:=bt (bt (bt (bt (bt (bt (fun _=>U.bad) 0 (.ff g)) 1 (.b7 (E) 0)) 2 (.b7 S 0)) 7 (ah ps)) 8 (.int .i64 ps.l.length)) 9 (.int .i64 k)
theorem pb.xi {E:ag} {ps:b2} {S:ag} {j:Nat} {w:aT} {k:Nat} {a:Go.Act} {W:aT} (h:pb E ps S j w k a W) :
  ∃ R:Nat->Prop,bC R W.heap.size W (aZ []) (fun _=>none)/\jS GS W R (aZ []) (fun _=>none)/\gL 25 W R (aZ []) (fun _=>none) (jK E ps S j k) a:=by
 obtain⟨A,h1,z,B,D⟩:=h.ex;have up:∀ {c:U} {v:aD},dg W A c v->aA W (fun k=>A k\/W.heap.size<=k) aM.empty (fun _=>none) c v:=fun C=>C.up (fun k _ hk=>⟨.inl hk,mQ _ k⟩)
 refine⟨fun k=>A k\/W.heap.size<=k,us W _ fun k hk=>.inr hk,fun u=>⟨eG u,up (D u)⟩,h.size,h.defers,fun g=>?_⟩;unfold jK;by_cases t:g=9
 ·subst t;rw[fJ,h.t9];exact .int _ _
 rw[bS _ _ _ _ t];by_cases a7:g=8
 ·subst a7;rw[fJ,h.t8];exact .int _ _
 rw[bS _ _ _ _ a7];by_cases q:g=7
 ·subst q;rw[fJ];exact up B
 rw[bS _ _ _ _ q];by_cases p:g=2
 ·subst p;rw[fJ];exact up z
 rw[bS _ _ _ _ p];by_cases o:g=1
 ·subst o;rw[fJ];exact up h1
 rw[bS _ _ _ _ o];by_cases m:g=0
 ·subst m;rw[fJ,h.t0];exact .ff _
 rw[bS _ _ _ _ m];exact .bad _
theorem tm {w w' : aT} {h' : aM} {muZ' : b3} (e:cY w aM.empty (fun _=>none) w' h' muZ') :ew w w':=⟨⟨e.os,e.tape,e.output,e.size,fun k hk=>e.bm k hk (mQ _ k)⟩,e.drawn⟩
theorem om {a b c:aT} (h1:ew a b) (g:ew b c) :ew a c:=⟨h1.toBelow.trans (g.toBelow.mono h1.toBelow.size),dC h1.drawn g.drawn⟩
theorem OA (w:aT) :ew w w:=⟨RowKit.Below.refl _ w,aN _⟩
theorem pb.mk' {E:ag} {ps:b2} {S:ag} (u:aq E=true) (v:aq S=true) {p:Nat} {q W jt:aT} {k:Nat} {j:Go.Act} {R:Nat->Prop} {l' : ad} {muZ' : b3} {h:aS} (w:ew q W) (e:cY W aM.empty (fun _=>none) jt (aZ l') muZ') (g:jS GS jt R (aZ l') muZ') (s:gL 25 jt R (aZ l') muZ' h j)
  (C:h 0=.ff p) (D:h 1=.b7 (E) 0) (F:h 2=.b7 S 0) (G:h 7=ah ps) (H:h 8=.int .i64 ps.l.length) (I:h 9=.int .i64 k) :pb E ps S p q k j jt:=by
 have o:∀ {m:Nat} {c:U},h m=c->c.ar=true->dg jt (fun k=>R k) c (j.tmps.getD m undef):=fun {m c} B z=>by
  have:=s.val m;rw[B] at this;exact (nq this z).up fun k _ hk=>⟨hk.1,mQ _ k⟩
 refine⟨s.size,s.defers,?_,?_,?_,⟨fun k=>R k,o D (by simp[U.ar,u]),o F (by simp[U.ar,v]),o G (bM _),fun i=>(nq (g i).2 (g i).1).up fun k _ hk=>⟨hk.1,mQ _ k⟩⟩,om w (tm e)⟩
 ·have:=s.val 0;rw[C] at this;generalize j.tmps.getD 0 undef=t at this ⊢;cases this;rfl
 ·have:=s.val 8;rw[H] at this;generalize j.tmps.getD 8 undef=t at this ⊢;cases this;rfl
 ·have:=s.val 9;rw[I] at this;generalize j.tmps.getD 9 undef=t at this ⊢;cases this;rfl
abbrev SC:List da:=[eD 0 6 (.nu 1 (cX 1)),eD 1 7 (.ld1 (cX 6)),eD 2 8 (.len (.Z 32) (cX 7)),eD 3 9 (.dW (.const (.int .i64 0)))]
abbrev SD:List da:=[eD 0 10 (.bin .lss 3 (cX 9) (cX 8))]
abbrev SE:List da:=[eD 0 11 (.r7 (.Z 32) (cX 7) (cX 9)),eD 1 12 (.j6 32 (cX 11)),eD 2 5 (.alloc (bZ 32 (.int .u8 0))),xe 3 (.st 32 (cX 5) (cX 12))]
abbrev SF:List da:=[eD 0 13 (.nu 4 (cX 2)),eD 1 14 (.ld1 (cX 13)),eD 2 15 (.j6 32 (cX 5)),sc 3 16 66 [(cX 14),(cX 15)],eD 4 17 (.un .not (cX 16)),jn 5 18 17,uC 6 19 18 true (.dW (cX 0)),uC 7 20 18 true (.j6 32 (cX 5))]
abbrev SG:List da:=[uC 9 22 18 true (.un .not (cX 21)),eD 10 23 (.pick (cX 18) (cX 22) (.const (.bool false)))]
theorem vu {P:bq} {opsZ:Array bb}:∀ {idx:List Nat} {h:List da} {os:List bb},idx.mapM (fun i=>uK P opsZ i [] false)=some h->os.map some=idx.map (fun i=>opsZ[i]?)->k6 P opsZ h os:=by intro idx h os h1 g;exact Bo (fun i x m=>by obtain⟨o,g,j,_⟩:=xj m;exact⟨o,g,j⟩) h1 g.symm
def CO:fF:=(.seq (.jH [eD 0 10 (.bin .lss 3 (cX 9) (cX 8))]) (.seq (.cond (cX 10) .skip (.exit 0)) (.seq (.block 1 (.seq (.jH [eD 0 11 (.r7 (.Z 32) (cX 7) (cX 9)),eD 1 12 (.j6 32 (cX 11)),eD 2 5 (.alloc (bZ 32 (.int .u8 0))),xe 3 (.st 32 (cX 5) (cX 12))]) (.seq (.jH [eD 0 13 (.nu 4 (cX 2)),eD 1 14 (.ld1 (cX 13)),eD 2 15 (.j6 32 (cX 5)),sc 3 16 66 [(cX 14),(cX 15)],eD 4 17 (.un .not (cX 16)),jn 5 18 17,uC 6 19 18 true (.dW (cX 0)),uC 7 20 18 true (.j6 32 (cX 5)),⟨8,(some 21),(some ((some 18),true)),.lT (cX 19) [(cX 20)],[],false⟩,uC 9 22 18 true (.un .not (cX 21)),eD 10 23 (.pick (cX 18) (cX 22) (.const (.bool false)))]) (.cond (cX 23) .ret .skip)))) (.jH [eD 0 24 (.bin .add 3 (cX 9) (.const (.int .i64 1))),jn 1 9 24]))))
structure Nn (p j m g q:Array bb) (h:bb) :Prop where
 body:Tryz.f206.body=some (.seq (.region 0 p false) (.block 0 (.loop (vh j m g q))))
 BB:comp prog 25 (.region 0 p false)=some (.jH SC)
 jY:comp prog 25 (.region 1 j false)=some (.jH SD)
 yd:comp prog 25 (.region 2 m false)=some (.jH SE)
 Gm:comp prog 25 (vh j m g q)=some CO
 split:g.toList=g.toList.take 8++(h::(g.toList.drop 9++[]))
 TS:k6 prog g SF (g.toList.take 8)
 TT:k6 prog g SG (g.toList.drop 9)
 G8:∀ (i:Nat) (o:bb),g[i]?=some o->hO 25 o.dst=true
 TG:h.op=.call { callee:=.value (.tmp 19),args:=#[.tmp 20],argTypes:=#[57] }
 TE:h.dst=some 21
 TF:h.guard=some (5,true)
 TC:(g[5]?).bind (·.dst)=some 18
theorem P8 {R:Array bb} (g:(R.toList.all fun o=>hO 25 o.dst)=true) (i:Nat) (o:bb) (h:R[i]?=some o) :hO 25 o.dst=true:=by exact gc.1 g o (by rw[<-p5] at h;exact cJ h)
theorem Iy:∃ g h j m o TD,Nn g h j m o TD:=
 ⟨j9 (ii ((Tryz.f206.body).getD .skip) [false]),
  j9 (ii ((Tryz.f206.body).getD .skip) [true,false,false,false]),
  j9 (ii ((Tryz.f206.body).getD .skip) [true,false,false,true,true,false,false,false]),
  j9 (ii ((Tryz.f206.body).getD .skip) [true,false,false,true,true,false,false,true,false]),
  j9 (ii ((Tryz.f206.body).getD .skip) [true,false,false,true,true,true]),
  ((j9 (ii ((Tryz.f206.body).getD .skip) [true,false,false,true,true,false,false,true,false])).toList.drop 8).headD { op:=.move (.tmp 0),dst:=none,type:=0,pos:= "",after:=#[],guard:=none },
  ⟨by kernel_rfl,by kernel_rfl,by kernel_rfl,by kernel_rfl,by kernel_rfl,by kernel_rfl,vu (idx:=[0,1,2,3,4,5,6,7]) bp bp,vu (idx:=[9,10]) bp bp,
  P8 bp,by kernel_rfl,by kernel_rfl,by kernel_rfl,by kernel_rfl⟩⟩
theorem xv {sgZ:aS} {N:Nat} {W:aT} {R:Nat->Prop} {h:aM} {muZ:b3} {a:Go.Act} (s:gL N W R h muZ sgZ a) {t:Nat} {b:Bool} (g:sgZ t=.bool b) :a.tmps.getD t undef=.bool b:=by have:=s.val t;rw[g] at this;generalize a.tmps.getD t undef=j at this ⊢;cases this;rfl
theorem YY {sgZ:aS} {N:Nat} {W:aT} {R:Nat->Prop} {h:aM} {muZ:b3} {a:Go.Act} (s:gL N W R h muZ sgZ a) {t l:Nat} (g:sgZ t=.ff l) :a.tmps.getD t undef=.func (.yield l) #[] #[]:=by have:=s.val t;rw[g] at this;generalize a.tmps.getD t undef=j at this ⊢;cases this;rfl
theorem K1 (E:ag) (ps:b2) (S:ag) (gg k:Nat) :jK E ps S gg k 0=.ff gg:=by simp[jK]
theorem WO (E:ag) (ps:b2) (S:ag) (g k:Nat) :jK E ps S g k 1=.b7 (E) 0:=by simp[jK]
theorem D9 (E:ag) (ps:b2) (S:ag) (g k:Nat) :jK E ps S g k 2=.b7 S 0:=by simp[jK]
theorem Ea (E:ag) (ps:b2) (S:ag) (g k:Nat) :jK E ps S g k 7=ah ps:=by simp[jK]
theorem Aa (E:ag) (ps:b2) (S:ag) (g k:Nat) :jK E ps S g k 8=.i6 ps.l.length:=by simp[jK]
theorem Ab (E:ag) (ps:b2) (S:ag) (g k:Nat) :jK E ps S g k 9=.i6 k:=by simp[jK]
theorem S2 (E:ag) (ps:b2) (bf:aq E=true) (bN:E.length=11) (bL:∀ h:1<E.length,E[1]'h=ah ps) (cl:c6 ps) (cQ:ps.l.length<=1000000) (ord:b2) (cj:c6 ord) (ci:ord.l.length<=1000000) (cap bC:Int) (aW aS:U) (ck:aW.ar=true) (cd:aS.ar=true) {n gg:Nat} {p:aT} {A:Nat->Prop} {lw jE:aD}
  (h1:dg p A (.b7 (E) 0) lw) (a9:dg p A (.b7 (rU cap bC aW aS ord) 0) jE) (bi:∀ g,dg p A (GS g) (.pointer (some ⟨g,0,none⟩)))
  {av:aT->aT->Prop} {m:Nat} (bV:∀ (x:aD) (W:aT),ew p W->YieldAt Fence.wide m prog gg #[x] W fun e u=>e=.returned (.bool false)/\av W u)
  (bW:∀ W u,ew p W->av W u->∃ A,∀ g,dg u A (GS g) (.pointer (some ⟨g,0,none⟩))) :
  CallsIn Fence.wide n prog 206 (#[.func (.yield gg) #[] #[]]++#[lw,jE]) p fun e hM=>(∃ v,e=.returned v) ∧
   (((∀ x∈ps.l,x∈ord.l)/\ew p hM)\/((¬ ∀ x∈ps.l,x∈ord.l)/\∃ W u,ew p W/\av W u/\ew u hM)):=by
 obtain⟨cJ,a0,a2,T,a3,aV,M⟩:=Iy;obtain⟨o,ax⟩:=al (rU cap bC aW aS ord);have bg:aq o=true:=by rw[ax];exact Gz ck cd
 have bd:o.length=5:=by rw[ax];rfl
 have bR:o[4]?=some (ah ord):=by rw[ax];rfl
 have bc:∀ h:4<o.length,o[4]'h=ah ord:=fun h=>(aK.1 bR).2
 rw[<-ax] at a9;have D:prog.follows .mixedOrders=true:=checked.mixed;have cg:bz (.Z 32) (ah ps)=_:=b6 _;refine callsIn_of_wp (fn:=Tryz.f206) func206 M.body trivial ?_ rfl;obtain⟨S,aJ⟩:∃ S,S=bodyPost prog Tryz.f206 (fun e hM=>(∃ v,e=Ending.returned v) ∧
   (((∀ x∈ps.l,x∈ord.l)/\ew p hM)\/((¬ ∀ x∈ps.l,x∈ord.l)/\∃ W u,ew p W/\av W u/\ew u hM))):=⟨_,rfl⟩
 rw[<-aJ];have bl:∀ (a:Go.Act) (W:aT),(results Tryz.f206 a.tmps).run prog W=.ok (.tuple #[]) W:=fun a W=>results_none rfl _ _ _
 -- the start
 have bk:Tryz.f206.ntmps=25:=bp;obtain⟨G,ai⟩:=al (#[.func (.yield gg) #[] #[]]++#[lw,jE]++Array.replicate (Tryz.f206.ntmps - (#[.func (.yield gg) #[] #[]]++#[lw,jE] :Array aD).size) undef:Array aD);rw[<-ai];rw[bk] at ai;have bT:G.size=25:=by rw[ai];simp
 have aj:G=#[.func (.yield gg) #[] #[],lw,jE]++Array.replicate 22 undef:=by rw[ai];rfl
 have up:∀ {c:U} {v:aD},dg p A c v->aA p (fun k=>A k\/p.heap.size<=k) aM.empty (fun _=>none) c v:=fun aQ=>aQ.up (fun k _ hk=>⟨.inl hk,mQ _ k⟩)
 have b5:G.getD 0 undef=.func (.yield gg) #[] #[]:=by rw[aj,hj];simp
 have b8:G.getD (0+1) undef=lw:=by rw[aj,hj];simp
 have b9:G.getD (0+1+1) undef=jE:=by rw[aj,hj];simp
 have cb:∀ t,G.getD (t+1+1+1) undef=undef:=fun t=>by
  rw[aj,hj,uV V,AH];split<;>rfl
 obtain⟨cF,cO⟩:=al (U.b7 (E) 0);obtain⟨cH,cP⟩:=al (U.b7 o 0);have bX:ju [.ff gg,.b7 (E) 0,.b7 o 0] 0=.ff gg:=by simp[ju]
 have bY:ju [.ff gg,.b7 (E) 0,.b7 o 0] (0+1)=.b7 (E) 0:=by simp[ju]
 have b0:ju [.ff gg,.b7 (E) 0,.b7 o 0] (0+1+1)=.b7 o 0:=by simp[ju]
 have b1:∀ t,ju [.ff gg,.b7 (E) 0,.b7 o 0] (t+1+1+1)=fC:=fun t=>by simp[ju,List.getD]
 clear ai aj bk;refine wpIn_seq (pq (sgZ:=ju [.ff gg,.b7 (E) 0,.b7 o 0]) (l:=[]) (K:=fun e j l=>e=.normal/\j 0=.ff gg/\j 1=.b7 (E) 0/\j 2=.b7 o 0/\j 7=ah ps/\j 8=.i6 ps.l.length/\j 9=.i6 (0:Nat))
  D eG M.BB ?_ (us p (fun k=>A k\/p.heap.size<=k) fun k hk=>.inr hk) (fun g=>⟨eG g,up (bi g)⟩) ⟨bT,rfl,fun t=>?_⟩ ?_)
 ·simp[ju,bN,bL,cg]
 ·rcases t with _ | _ | _ | t
  ·rw[b5,bX];exact .ff _
  ·rw[b8,bY];exact up h1
  ·rw[b9,b0];exact up a9
  ·rw[cb t,b1 t];exact xr
 rintro e a4 FF cX c1 cR ⟨rfl,I,aC,J,O,aE,P⟩ aI cz bx;have a7:jS GS p (fun k=>A k\/p.heap.size<=k) aM.empty (fun _=>none):=fun g=>⟨eG g,up (bi g)⟩
 have bE:pb E ps o gg p 0 a4 FF:=pb.mk' bf bg (OA p) aI (a7.ext aI) bx I aC J O aE P;clear I aC J O aE P bx cz aI a7;show (Code.block 0 (.loop (vh a0 a2 T a3))).wpIn Fence.wide n prog S a4 FF;refine wpIn_block (wpIn_loop (fun a W=>∃ k,k<=ps.l.length/\pb E ps o gg p k a W/\∀ x∈ps.l.take k,x∈ord.l) (fun a _=>match a.tmps.getD 9 undef with | .int _ k=>ps.l.length - k.toNat | _=>0) ⟨0,F,bE,V⟩ ?_);rintro a W ⟨k,hk,R,aL⟩;obtain⟨cI,rel,ad,xi⟩:=R.xi;by_cases ay:k<ps.l.length
 ·obtain⟨x,bn,bo⟩:=aP (l:=ps.l) (k:=k) ay;have bq:=cl x bo;have H:=br bq;have bG:=cf (k:=k) F;have aU:bO (.Z 32) (ah ps) _=_:=c5 bn;have ao:=pZ ord cj ci x bq;have bh:=bM ord;have aR:=cG x;have cp:ps.l.take (k+1)=ps.l.take k++[x]:=by rw[ej,bn];rfl
  obtain⟨X,bU⟩:=al (am x);rw[<-bU] at H aU ao aR;have bm:aw (bZ 32 (.int .u8 0)) 0 X=X:=cy (by rw[H];rfl);by_cases az:x∈ord.l
  ·rw[ca az] at ao;refine pq (sgZ:=jK E ps o gg k) (l:=[]) (K:=fun e j l=>e=.normal/\j 0=.ff gg/\j 1=.b7 (E) 0/\j 2=.b7 o 0/\j 7=ah ps/\j 8=.i6 ps.l.length/\j 9=.i6 ((k+1:Nat) :Int)) D eG M.Gm ?_ rel ad xi ?_
   ·unfold CO;simp[D9,Ea,Aa,Ab,ay,aU,H,bm,bd,bc,aH];refine au ao (by simp[aq,U.ar,bh,aR]) ?_;simp[K1,WO,D9,Ea,Aa,Ab,bG]
   ·rintro e Y hM bD aY bw ⟨rfl,I,aC,J,O,aE,P⟩ C aX ap;have aZ:pb E ps o gg p (k+1) Y hM:=pb.mk' bf bg R.k9 C (ad.ext C) ap I aC J O aE P;refine⟨⟨k+1,F,aZ,fun y aB=>?_⟩,?_⟩
    ·rw[cp,fx,gd] at aB;exact aB.elim (aL y) fun e=>by rw[e];exact az
    ·show (match Y.tmps.getD 9 undef with | .int _ k=>ps.l.length - k.toNat | _=>0)<(match a.tmps.getD 9 undef with | .int _ k=>ps.l.length - k.toNat | _=>0)
     rw[aZ.t9,R.t9];simp only[fm];omega
  ·rw[ct az] at ao;have ch:¬ ∀ y∈ps.l,y∈ord.l:=fun h=>az (h x bo)
   suffices cn:(vh a0 a2 T a3).wpIn Fence.wide n prog (fun e a W=>e=.ret/\S .ret a W) a W from wpIn_mono cn fun e a w ⟨b4,h⟩=>by subst b4;exact h
   unfold vh;refine wpIn_seq (pq (sgZ:=jK E ps o gg k) (l:=[]) (K:=fun e j l=>e=.normal/\l=[]/\j 0=.ff gg/\j 2=.b7 o 0/\j 7=ah ps/\j 9=.i6 k/\j 10=.bool true) D eG M.jY ?_ rel ad xi ?_)
   ·simp[K1,D9,Ea,Aa,Ab,ay]
   rintro e cM hM cY cE cS ⟨rfl,rfl,I,J,O,P,cx⟩ a6 cA bA;have a8:=ad.ext a6;refine wpIn_seq (wpIn_cond_true (xv bA cx) (wpIn_skip ?_));refine wpIn_seq (wpIn_block (wpIn_seq ?_));refine pq (sgZ:=cE) (l:=[]) (K:=fun e j l=>e=.normal/\l=[.q 32 X]/\j 0=.ff gg/\j 2=.b7 o 0/\j 5=.ptr 0 0 32) D eG M.yd ?_ cA a8 bA ?_
   ·simp[I,J,O,P,aU,H,bm,aH]
   rintro e Y cK bD aY bw ⟨rfl,rfl,cv,cw,bv⟩ C aX ap;refine wpIn_seq (wpIn_region_list ?_);rw[M.split];refine Jt (sgZ:=aY) D eG M.G8 M.TS (K:=fun j l=>j 18=.bool true/\j 19=.ff gg) ?_ aX (a8.ext C) ap ?_
   ·simp[cw,bv,H,bd,bc,aH];refine au ao (by simp[aq,U.ar,bh,aR]) ?_;simp[cv,bv,H,aH]
   rintro z tj cZ c2 cT ⟨cr,cs⟩ bI cV Q;have aO:ew p tj:=om R.k9 (tm ((a6.trans C).trans bI));have t18:=xv Q cr;have t19:=YY Q cs;have cq:Region.wanted aV (yielded T z.tmps)=true:=by
    unfold Region.wanted yielded;rw[M.TF];simp only[M.TC];have bj:18<z.tmps.size:=by rw[Q.size];omega
    have bK:z.tmps[18]?=some (.bool true):=by
     rw[hj,rl bj] at t18;rw[rl bj];simpa using t18
    simp[bK]
   unfold wpListIn;rw[ak cq];obtain⟨fn,cC,assign,bF,aB,bP⟩:=bV (z.tmps[20]?.getD undef) tj aO;have cm:(aV.semAt Fence.wide.round z.eval).run prog tj=.ok (.round gg fn cC assign bF) tj:=by
    rw[Fence.wide_round,Oper.semAt_none];unfold execOp;rw[M.TG];have cB:z.tmps[19]?.getD undef=.func (.yield gg) #[] #[]:=by rw[<-hj];exact t19
    simp[go_sem,cB,aB]
    skip;done
   refine⟨fun _ _=>trivial,?_⟩;rw[cm,Oper.uponIn_round];refine⟨fun b3=>(by cases b3),Wd (bP.mono ?_)⟩;rintro e B ⟨rfl,bs⟩;show wpListIn Fence.wide n prog T _ (T.toList.drop 9++[]) (z.put aV.dst (.bool false)) B;rw[M.TE];obtain⟨aF,cc⟩:=bW tj B aO bs;have cD:∀ {c:U} {v:aD},dg B aF c v->aA B (fun k=>aF k\/B.heap.size<=k) aM.empty (fun _=>none) c v:=fun aQ=>aQ.up (fun k _ hk=>⟨.inl hk,mQ _ k⟩)
   refine Jt (sgZ:=bt (bt (fun _=>U.bad) 18 (.bool true)) 21 (.bool false)) (l:=[]) D eG M.G8 M.TT (K:=fun j l=>j 23=.bool true) ?_ (us B (fun k=>aF k\/B.heap.size<=k) fun k hk=>.inr hk) (fun g=>⟨eG g,cD (cc g)⟩) ⟨by simp[Act.put,Q.size],Q.defers,fun t=>?_⟩ ?_
   ·simp
   ·by_cases aG:t=21
    ·subst aG;rw[fJ];have:(z.put (some 21) (.bool false)).tmps.getD 21 undef=.bool false:=by simp[Act.put,hj,Q.size]
     rw[this];exact .bool _
    ·rw[bS _ _ _ _ aG];have bH:(z.put (some 21) (.bool false)).tmps.getD t undef=z.tmps.getD t undef:=by
      simp only[Act.put,hj,EV (Ne.symm aG)]
     rw[bH];by_cases a5:t=18
     ·subst a5;rw[fJ,t18];exact .bool _
     ·rw[bS _ _ _ _ a5];exact .bad _
   rintro cN cL c0 c3 cU cu bJ cW bB;refine wpListIn_nil ?_;refine wpIn_cond_true (xv bB cu) (wpIn_ret ?_);refine⟨rfl,?_⟩;rw[aJ];exact⟨bB.defers,_,bl _ _,⟨_,rfl⟩,.inr ⟨ch,tj,B,aO,bs,tm bJ⟩⟩
 ·have ce:k=ps.l.length:=F;rw[ce,e3] at aL;refine pq (sgZ:=jK E ps o gg k) (l:=[]) (K:=fun e j l=>e=.exit 0) D eG M.Gm ?_ rel ad xi ?_
  ·unfold CO;simp[Aa,Ab,ay]
  ·rintro e Y hM bD aY bw rfl C aX ap;show S .normal Y hM;rw[aJ];exact⟨ap.defers,_,bl _ _,⟨_,rfl⟩,.inl ⟨aL,om R.k9 (tm C)⟩⟩
end Op
section
variable {P:bq} {n:Nat}
theorem ur (D:List Deferred) (a:Go.Act) (d:Option Tmp) (v:aD) :({ a with defers:=a.defers++D }:Go.Act).put d v={ a.put d v with defers:=(a.put d v).defers++D }:=by cases d<;>rfl
theorem T9 {D:List Deferred} {o:bb} {a:Go.Act} {w:aT} {K g:Go.Act->aT->Prop} {Q rG:Exit->Go.Act->aT->Prop} (m:∀ a w,K a w->g { a with defers:=a.defers++D } w)
  (p:∀ e a w,e≠.normal->Q e a w->rG e { a with defers:=a.defers++D } w) (h:o.wp P a w K Q) :o.wpIn Fence.wide n P { a with defers:=a.defers++D } w g rG:=by
 unfold Oper.wp at h;refine⟨fun _ _=>trivial,?_⟩;show o.uponIn Fence.wide n P _ g rG ((execOp a.eval o).run P w);cases u:(execOp a.eval o).run P w with
 | ok x w'=>
  rw[u] at h;cases x with
  | value t=>show g (Go.Act.put _ _ _) _;rw[ur];exact m _ _ h
  | skip=>show g (Go.Act.put _ _ _) _;rw[ur];exact m _ _ h
  | defer d=>
   show g (Go.Act.put { tmps:=a.tmps,defers:=d::(a.defers++D) } _ _) _;have:=ur D { tmps:=a.tmps,defers:=d::a.defers } o.dst undef;have j:({ tmps:=a.tmps,defers:=d::(a.defers++D) }:Go.Act).put o.dst undef=_:=this;rw[j];exact m _ _ h
  | enter f args=>
   refine⟨fun q=>(by cases q),(callsIn_wide.2 h).mono ?_⟩;rintro (t | C | _) F j
   ·show g (Go.Act.put _ _ _) _;rw[ur];exact m _ _ j
   ·exact p _ _ _ V j
   ·obtain⟨B,z,v⟩:=j;exact⟨_,z,p _ _ _ V v⟩
  | row r args=>exact⟨fun q=>(by cases q),fun c cs _=>let ⟨t,w',r,s⟩:=h c cs;⟨t,w',(by show g (Go.Act.put _ _ _) _;rw[ur];exact m _ _ r),stepsIn_wide.2 s⟩⟩
  | _=>exact h.elim
 | halt e w'=>
  rw[u] at h;cases e<;>first | exact p _ _ _ V h | exact h.elim
theorem CI {D:List Deferred} {all:Array bb} {Q:Exit->Go.Act->aT->Prop}:∀ {l:List bb} {a:Go.Act} {w:aT},
  wpList P all (fun e a w=>match e with | .normal=>Q .normal { a with defers:=a.defers++D } w | _=>False) l a w->wpListIn Fence.wide n P all Q l { a with defers:=a.defers++D } w
 | [],a,w,h=>wpListIn_nil h
 | p::l,a,w,h=>by
  unfold wpList at h;unfold wpListIn;split
  ·rename_i j;rw[ak j] at h;rcases h with h | ⟨_,o,q,g⟩
   ·refine T9 (fun a w g=>CI g) (fun e a w m g=>?_) h;cases e<;>first | exact bW rfl m | exact g.elim
   ·exact g.elim
  ·rename_i j;rw[aj j] at h;refine⟨fun _ _=>trivial,?_⟩;rw[ur];exact CI h
variable {G:Nat->U}
theorem Dl (J:P.follows .mixedOrders=true) (z:∀ g,(G g).ar=true) {N n:Nat} {opsZ:Array bb} (C:∀ (i:Nat) (o:bb),opsZ[i]?=some o->hO N o.dst=true) {q:List da} (H:k6 P opsZ q opsZ.toList) {id:Nat}
  {sgZ:aS} {l:ad} {K:aS->ad->Prop} (O:iE P G q sgZ l K) {D:List Deferred}
  {R:Nat->Prop} {B:Nat} {w:aT} {muZ:b3} {a:Go.Act} {Q:Exit->Go.Act->aT->Prop} (rel:bC R B w (aZ l) muZ) (g:jS G w R (aZ l) muZ) (s:gL N w R (aZ l) muZ sgZ { a with defers:=[] }) (m:a.defers=D)
  (F:∀ h w' muZ' j l',K j l'->cY w (aZ l) muZ w' (aZ l') muZ'->bC R B w' (aZ l') muZ'->gL N w' R (aZ l') muZ' j { h with defers:=[] }->h.defers=D->Q .normal h w') :(Code.region id opsZ false).wpIn Fence.wide n P Q a w:=by
 obtain⟨j,l',I,_,hk⟩:=xc C H O;obtain⟨cX,t⟩:=a;subst m;refine wpIn_region_list ?_;have:=CI (P:=P) (n:=n) (D:=t) (all:=opsZ) (Q:=Q) (l:=opsZ.toList) (a:={ tmps:=cX,defers:=[] }) (w:=w)
  (sH J z I R B w muZ _ _ rel g s fun h w' muZ' v S p=>?_)
 ·exact this
 ·show Q .normal _ _;obtain⟨T,u⟩:=h;have m:u=[]:=p.defers;subst m;exact F _ w' muZ' j l' hk v S p rfl
theorem B5 {R:Nat->Prop} {B:Nat} {w:aT} {l:ad} {muZ:b3} (rel:bC R B w (aZ l) muZ) {b t:Nat} {v:Int} (z:l[b]?=some (.cells 1 [.int .u8 v])) {tmps:Array aD} (S:aA w R (aZ l) muZ (.ptr b 0 1) (tmps.getD t undef))
  {w' : aT} (aw:∀ k,B<=k->(∃ arr e u,w.heap[k]?=some (.cells arr e u))->w'.heap[k]?=w.heap[k]?) (av:w.heap.size<=w'.heap.size) {fn:Func} (au:uu P (aZ [.cells 1 [.int .u8 v]]) (bt (fun _=>U.bad) t (.ptr 0 0 1)) fn=some (.int .u8 v)) :
  (results fn tmps).run P w'=.ok (.int .u8 v) w':=by
 have p:(aZ l).f b=.cells 1 [.int .u8 v]:=hK.2 z;generalize ar:tmps.getD t undef=aK at S;cases S with
 | jk _ _ _ a ap=>
  rcases ap with h | ⟨n,F,h,aH⟩
  ·rw[p] at h;cases h
  ·rw[p] at h;injection h with h1 H;omega
 | ptr _ _ _ F m ao Q=>
  clear ao F;have K:=rel.blk b m Q;have J:B<=m.r:=rel.base b m (by rw[p];rfl) Q;rw[p] at K;obtain⟨h1,H,arr,e,u,I,ak,al,am⟩:=K;have O:(aZ [.cells 1 [.int .u8 v]]).f 0=.cells 1 [.int .u8 v]:=hK.2 rfl;have aq:∀ b,1<=b->(aZ [.cells 1 [.int .u8 v]]).f b=.none:=fun b z=>by rw[jT,dY (by simpa using z)]
  have aB:bC (fun k=>B<=k) B w' (aZ [.cells 1 [.int .u8 v]]) (fun b=>if b=0 then some m else none):=by
   refine⟨fun g az j=>?_,fun X Y aI aJ aF aG ai aj _=>?_,fun g az aE j=>?_,fun g C=>aq g C,fun k hk=>hk,dC rel.size av,fun g C=>?_⟩
   ·by_cases o:g=0
    ·subst o;simp only[if_true,bc] at j;subst j;rw[O];refine⟨h1,H,arr,e,u,(aw _ J ⟨_,_,_,I⟩).trans I,ak,al,fun D c q=>?_⟩;obtain⟨x,T,V,W⟩:=am D c q;refine⟨x,T,V,?_⟩;rcases D with _ | D
     ·simp only[hn,bc] at q;subst q;cases W;exact .int _ _
     ·simp at q
    ·simp[o] at j
   ·by_cases ag:X=0
    ·by_cases ah:Y=0
     ·omega
     ·simp[ah] at aj
    ·simp[ag] at ai
   ·by_cases o:g=0
    ·simp only[o,if_true,bc] at j;subst j;exact J
    ·simp[o] at j
   ·have:g≠0:=fun e=>by subst e;exact bW C (by show ¬ (1<=0);omega)
    simp[this]
  have aC:gL tmps.size w' (fun k=>B<=k) (aZ [.cells 1 [.int .u8 v]]) (fun b=>if b=0 then some m else none) (bt (fun _=>U.bad) t (.ptr 0 0 1)) { tmps:=tmps,defers:=[] }:=by
   refine⟨rfl,rfl,fun i=>?_⟩;by_cases G:i=t
   ·subst G;rw[fJ];show aA _ _ _ _ _ (tmps.getD i undef);rw[ar];exact .ptr 0 0 1 _ m O rfl
   ·rw[bS _ _ _ _ G];exact .bad _
  obtain⟨x,ax,ay⟩:=Ky (P:=P) aB aC au;cases ay;exact ax
end
def ev (B:Nat) (a b:aT) :Prop:=RowKit.Below B a b/\a.drawn<=b.drawn
theorem ev.qT {B:Nat} {a b:aT} (h:ew a b) (g:B<=a.heap.size) :ev B a b:=⟨h.toBelow.mono g,h.drawn⟩
theorem ev.tr {B:Nat} {a b c:aT} (h:ev B a b) (k:ev B b c) :ev B a c:=⟨h.1.trans k.1,dC h.2 k.2⟩
theorem ev.put {B:Nat} (W:aT) {l:Nat} (o:Obj) (h:B<=l) (g:B<=W.heap.size) :ev B W (W.putObj l o):=
 ⟨(RowKit.Below.refl B W).grown (grownBy_putObj' W l o) g (fun k e=>by cases e;exact h),aN _⟩
theorem ev.ext {R:Nat->Prop} {B:Nat} {w w' : aT} {h h' : aM} {muZ muZ' : b3} (rel:bC R B w h muZ) (e:cY w h muZ w' h' muZ') :ev B w w':=
 ⟨⟨e.os,e.tape,e.output,e.size,fun k hk=>e.bm k (nb hk rel.size) fun ⟨b,j,h1,g,m⟩=>by have:=rel.base b j h1 g;omega⟩,e.drawn⟩
theorem ev.alloc {B:Nat} {a:aT} (g:B<=a.heap.size) (o:Obj) :ev B a (a.alloc o):=⟨(RowKit.Below.refl B a).alloc g o,aN _⟩
theorem ev.k9 {a b:aT} (h:ev a.heap.size a b) :ew a b:=⟨h.1,h.2⟩
theorem Uj {R:Nat->Prop} {B:Nat} {w:aT} {l:ad} {muZ:b3} (rel:bC R B w (aZ l) muZ) (p:∀ (b:Nat) (c:ao),l[b]?=some c->∃ n cs,c=ao.cells n cs) {k:Nat} (q:Own (aZ l) muZ k) :∃ arr e g,w.heap[k]?=some (.cells arr e g):=by
 obtain⟨b,t,h1,m,rfl⟩:=q;have h:=rel.blk b t m;rw[jT] at h h1;cases j:l[b]? with
 | none=>rw[j] at h1;cases h1
 | some c=>
  rw[j] at h;obtain⟨n,cs,rfl⟩:=p b c j;obtain⟨_,_,arr,e,g,o,_⟩:=h;exact⟨arr,e,g,o⟩
theorem B2 {R:Nat->Prop} {B:Nat} {w w' : aT} {l:ad} {h' : aM} {muZ muZ' : b3} (rel:bC R B w (aZ l) muZ) (h:∀ (b:Nat) (c:ao),l[b]?=some c->∃ n cs,c=ao.cells n cs) (e:cY w (aZ l) muZ w' h' muZ') :KeepsOthers w w':=by
 refine⟨e.size,fun k p hk j=>?_⟩;rw[e.bm k (ij.1 hk).1 fun m=>?_]
 ·exact hk
 ·obtain⟨arr,q,o,g⟩:=Uj rel h m;rw[hk] at g;cases g;cases j
namespace Op
open cu
abbrev Yc:List da:=[eD 0 3 (.box (cX 0)),eD 1 4 (.box (cX 1)),eD 2 5 (.box (cX 2)),eD 3 6 (.alloc [.int .u8 0])]
abbrev X8:fF:=.seq (.jH [eD 0 7 (.nu 4 (cX 3)),eD 1 8 (.ld1 (cX 7)),eD 2 9 (.j6 32 (cX 5)),sc 3 10 66 [(cX 8),(cX 9)]]) (.cond (cX 10) (.seq (.jH [xe 0 (.st 1 (cX 6) (.const (.int .u8 5)))]) .ret) .skip)
abbrev Yd:List da:=[eD 0 11 (.j6 5 (cX 3)),eD 1 12 (.j6 11 (cX 4)),sc 2 13 153 [(cX 11),(cX 12)]]
abbrev Ye:List da:=[eD 0 15 (.nu 1 (cX 3)),eD 1 16 (.nu 2 (cX 15)),eD 2 17 (.ld1 (cX 16)),eD 3 18 (.nu 0 (cX 3)),eD 4 19 (.ld1 (cX 18)),eD 5 20 (.bin .eql 3 (cX 17) (cX 19))]
abbrev Yf:List da:=[xe 0 (.st 1 (cX 6) (.const (.int .u8 8)))]
abbrev Yg:List da:=[xe 0 (.st 1 (cX 6) (.const (.int .u8 1)))]
def gl (S E X:ag) (v:Int) :ad:=[.cells 5 S,.cells 11 E,.cells 32 X,.cells 1 [.int .u8 v],.cells 5 S,.cells 11 E]
structure FE (p q t u v g h j:Array bb) (m:bb) (t4:aF) :Prop where
 body:Tryz.f103.body=some (.seq (.region 0 p false) (.seq (.seq (.region 1 q false) (.cond (.tmp 10) (.seq (.region 2 t false) .ret) .skip)) (.seq (.seq (.region 3 u false) (.block 0 (.rangeFunc (.tmp 13) #[14] .skip (.block 1 (.seq (.region 4 v false) .ret)))))
  (.seq (.seq (.region 5 g false) (.cond (.tmp 20) (.seq (.region 6 h false) .ret) .skip)) (.seq (.region 7 j false) .ret)))))
 BB:comp prog 21 (.region 0 p false)=some (.jH Yc)
 jY:comp prog 21 (.seq (.region 1 q false) (.cond (.tmp 10) (.seq (.region 2 t false) .ret) .skip))=some X8
 OO:comp prog 21 (.region 3 u false)=some (.jH Yd)
 iU:v.toList=[m]
 I4:m.op=.store t4 (.tmp 6) (.const (.int .u8 6))
 TA:m.dst=none
 TB:m.guard=none
 TU:k6 prog g Ye g.toList
 TV:k6 prog h Yf h.toList
 TW:k6 prog j Yg j.toList
 P5:∀ (i:Nat) (o:bb),g[i]?=some o->hO 21 o.dst=true
 P6:∀ (i:Nat) (o:bb),h[i]?=some o->hO 21 o.dst=true
 P7:∀ (i:Nat) (o:bb),j[i]?=some o->hO 21 o.dst=true
 WX:b9 prog t4=some 1
theorem BQ {R:Array bb} (g:(R.toList.all fun o=>hO 21 o.dst)=true) (i:Nat) (o:bb) (h:R[i]?=some o) :hO 21 o.dst=true:=by exact gc.1 g o (by rw[<-p5] at h;exact cJ h)
theorem Yb:∃ g h j m o p q t u t4,FE g h j m o p q t u t4:=
 ⟨j9 (ii ((Tryz.f103.body).getD .skip) [false]),
  j9 (ii ((Tryz.f103.body).getD .skip) [true,false,false]),
  j9 (ii ((Tryz.f103.body).getD .skip) [true,false,true,false,false]),
  j9 (ii ((Tryz.f103.body).getD .skip) [true,true,false,false]),
  j9 (ii ((Tryz.f103.body).getD .skip) [true,true,false,true,false,true,false,false]),
  j9 (ii ((Tryz.f103.body).getD .skip) [true,true,true,false,false]),
  j9 (ii ((Tryz.f103.body).getD .skip) [true,true,true,false,true,false,false]),
  j9 (ii ((Tryz.f103.body).getD .skip) [true,true,true,true,false]),
  ((j9 (ii ((Tryz.f103.body).getD .skip) [true,true,false,true,false,true,false,false])).toList).headD { op:=.move (.tmp 0),dst:=none,type:=0,pos:= "",after:=#[],guard:=none },
  (match (((j9 (ii ((Tryz.f103.body).getD .skip) [true,true,false,true,false,true,false,false])).toList).headD { op:=.move (.tmp 0),dst:=none,type:=0,pos:= "",after:=#[],guard:=none }).op with | .store v _ _=>v | _=>0),
  ⟨by kernel_rfl,by kernel_rfl,by kernel_rfl,by kernel_rfl,by kernel_rfl,by kernel_rfl,by kernel_rfl,by kernel_rfl,
  vu (idx:=[0,1,2,3,4,5]) bp bp,vu (idx:=[0]) bp bp,vu (idx:=[0]) bp bp,
  BQ bp,BQ bp,BQ bp,by kernel_rfl⟩⟩
theorem S6 (S E:ag) (j:S.length=5) (g:E.length=11) {l:ad} {K:cA} (h:K (.fn 206 [] [.ptr (l.length+1) 0 11,.ptr l.length 0 5]) (l++[.cells 5 S,.cells 11 E])) :
  cM 153 [.af S,.af E] l K:=by apply c0 func153 [];simp[j,g];exact h
theorem EP (v:Int) :uu prog (aZ [.cells 1 [.int .u8 v]]) (bt (fun _=>U.bad) 6 (.ptr 0 0 1)) Tryz.f103=some (.int .u8 v):=bp
end Op
namespace Op
open cu
theorem Cm (S E X:ag) (v:Int) :∀ (b:Nat) (c:ao),(gl S E X v)[b]?=some c->∃ n cs,c=ao.q n cs:=by intro b c h;have g:=cJ h;simp only[gl,kn,lJ,or_false] at g;rcases g with rfl | rfl | rfl | rfl | rfl | rfl<;>exact⟨_,_,rfl⟩
theorem Wc {p t u v g w z C:Array bb} {j:bb} {t4:aF} (M:FE p t u v g w z C j t4) {S E X:ag} {m:Fence} (I:∀ f,m.fn f) {n:Nat} {R:Nat->Prop} {B:Nat} {W:aT} {muZ:b3} {a:Go.Act}
  (rel:bC R B W (aZ (gl S E X 0)) muZ) (H:aA W R (aZ (gl S E X 0)) muZ (.ptr 3 0 1) (a.tmps.getD 6 undef)) :
  (Code.block 1 (.seq (.region 4 g false) .ret)).wpIn m n prog (fun e _ o=>e=.ret/\cY W (aZ (gl S E X 0)) muZ o (aZ (gl S E X 6)) muZ/\bC R B o (aZ (gl S E X 6)) muZ) a W:=by
 refine wpIn_block (wpIn_seq (wpIn_region_list ?_));rw[M.iU];have Q:rb prog (aZ (gl S E X 0)) t4 (.ptr 3 0 1) (.int .u8 6)=some (aZ (gl S E X 6)):=by
  unfold rb;rw[M.WX];have K:(aZ (gl S E X 0)).f 3=.q 1 [.int .u8 0]:=hK.2 rfl;simp only[U.cells,K];rw[ak V,mu _ (by simp[gl])];rfl
 obtain⟨w',h1,F,G⟩:=Ln (P:=prog) rel Q H (.int .u8 6);unfold wpListIn;have T:Region.wanted j (yielded g a.tmps)=true:=by unfold Region.wanted;rw[M.TB]
 rw[ak T];refine⟨fun f _=>I f,?_⟩;have O:(execOp a.eval j).run prog W=.ok .skip w':=by
  have J:a.eval (.tmp 6)=a.tmps.getD 6 undef:=rfl;rw[<-J] at h1;have D:(Instr.storeAt t4 (a.eval (.tmp 6)) (a.eval (.const (.int .u8 6)))).run prog W=.ok () w':=h1;simp[execOp,M.I4,D]
 rw[Oper.semAt_eq _ _ _ (fun c=>by rw[M.I4];exact fun h=>by cases h),O,Oper.uponIn_skip,M.TA];exact wpListIn_nil (wpIn_ret ⟨rfl,F,G⟩)
def sQ (x:List B) (g:b2) (ps:aQ) (cap j:Int) :Int:=if x∈g.l then 5 else if ∀ h∈ps,h∈g.l then (if j=cap then 8 else 1) else 6
theorem QM {w:aT} {R:Nat->Prop} {h:aM} {muZ:b3} {f:cj} {j m:U} {v:aD} (z:aA w R h muZ (.fn f [] [j,m]) v) :∃ g jE,v=.func (.func f) #[] #[g,jE]/\aA w R h muZ j g/\aA w R h muZ m jE:=by
 cases z with
 | fn _ _ _ t cs u o h1 p=>
  have q:t=#[]:=by apply AE;simpa using u
  subst q;obtain⟨cs⟩:=cs;rcases cs with _ | ⟨g,_ | ⟨jE,_ | ⟨B,cs⟩⟩⟩
  ·simp at o
  ·simp at o
  ·exact⟨g,jE,rfl,p 0 j g rfl rfl,p 1 m jE rfl rfl⟩
  ·simp at o
theorem Q9 {l:ag} {t:Nat} (h:t<l.length) :l.getD t fC=l[t]:=by simp[List.getD,h]
theorem Ra {l:ag} {t:Nat} (h:l.length<=t) :l.getD t fC=fC:=by simp[List.getD,dY h]
theorem S3:Enters prog 206:=by obtain⟨g,h,j,m,o,p,M⟩:=Iy;exact enters_of func206 bp M.body
theorem Bx {g W:aT} {l:Nat} (o:Obj) (h:ew g W) (j:g.heap.size<=l) :ew g (W.putObj l o):=
 ev.k9 ((ev.qT h (aN _)).tr (ev.put W o j h.toBelow.size))
theorem Ym (E:ag) (ps:b2) (b1:aq E=true) (aX:E.length=11) (cL:∀ h:1<E.length,E[1]'h=ah ps) (c5:c6 ps) (c4:ps.l.length<=1000000) (x:List B) (ck:x.length=32) (ord:b2) (cg:c6 ord) (cf:ord.l.length<=1000000) (cap bL:Int) (a6 a2:U) (ch:a6.ar=true) (cc:a2.ar=true) :
  aW 103 [.af (rU cap bL a6 a2 ord),.af E,.af (am x)] (.int .u8 (sQ x ord ps.l cap bL)):=by
 intro w A av cb aJ ap;obtain⟨dk,cx,cy,cz,aP,cA,bO,bP,dq,t4,M⟩:=Yb;obtain⟨g,O⟩:=al (rU cap bL a6 a2 ord);have cV:aq g=true:=by rw[O];exact Gz ch cc
 have ad:g.length=5:=by rw[O];rfl
 have cQ:∀ h:0<g.length,g[0]'h=.i6 cap:=fun h=>by simp only[O];rfl
 have cR:∀ h:3<g.length,g[3]'h=.i6 bL:=fun h=>by simp only[O];rfl
 have bX:∀ h:4<g.length,g[4]'h=ah ord:=fun h=>by simp only[O];rfl
 obtain⟨j,bn⟩:=al (am x);have bo:j.length=32:=by rw[bn];exact br ck
 have b4:aq j=true:=by rw[bn];exact cG x
 have aF:=pZ ord cg cf x ck;rw[<-bn] at aF ap;rw[<-O] at ap;have P:prog.follows .mixedOrders=true:=checked.mixed;have b5:=bM ord;obtain⟨vk,aB⟩:=al (sQ x ord ps.l cap bL);rw[<-aB];refine (callsIn_wide (n:=0)).1 (callsIn_of_wp_marks (fn:=Tryz.f103) func103 M.body trivial ?_ rfl);obtain⟨G,bm⟩:=al (bodyPostM Fence.wide 0 prog Tryz.f103 (fun e w'=>∃ v,e=Ending.returned v/\ew w w'/\dg w' (fun k=>A k\/w.heap.size<=k) (.int .u8 vk) v));rw[<-bm];have cW:∀ (a:Go.Act) (W:aT) (v:Int),a.defers=[]->(results Tryz.f103 a.tmps).run prog W=.ok (.int .u8 v) W->v=vk->ew w W->G .ret a W:=by
  intro a W v aE bw aI o;rw[bm];show LeavesInM _ _ _ _ _ _ a.defers _ _;rw[aE];exact⟨_,bw,_,rfl,o,by rw[aI];exact .int _ _⟩
 have b8:∀ (a:Go.Act) (W:aT) (D:Nat) (v:Int),a.defers=[{ target:=.collected D,args:=#[] }]->W.heap[D]?=some (.deferred (some []))->(results Tryz.f103 a.tmps).run prog (W.putObj D (.deferred none))=.ok (.int .u8 v) (W.putObj D (.deferred none))->v=vk->ew w (W.putObj D (.deferred none))->G .ret a W:=by
  intro a W D v aE cM bw aI o;rw[bm];show LeavesInM _ _ _ _ _ _ a.defers _ _;rw[aE];exact⟨V,.inl ⟨_,_,rfl,run_takeDeferred cM,_,bw,_,rfl,o,by rw[aI];exact .int _ _⟩⟩
 have up:∀ {c:U} {v:aD},dg w A c v->aA w (fun k=>A k\/w.heap.size<=k) aM.empty (fun _=>none) c v:=fun p=>p.up (fun k _ hk=>⟨.inl hk,mQ _ k⟩)
 have bU:jS GS w (fun k=>A k\/w.heap.size<=k) aM.empty (fun _=>none):=fun i=>⟨eG i,up (cb i)⟩
 have c1:Tryz.f103.ntmps=21:=bp;have rel:=us w (fun k=>A k\/w.heap.size<=k) fun k hk=>.inr hk
 refine wpIn_seq (pq (sgZ:=ju [.af g,.af E,.af j]) (l:=[]) (K:=fun e m l=>e=.normal/\l=[.q 5 g,.q 11 E,.q 32 j,.q 1 [.int .u8 0]]/\m 3=.ptr 0 0 5/\m 4=.ptr 1 0 11/\m 5=.ptr 2 0 32/\m 6=.ptr 3 0 1)
  P eG M.BB ?_ rel bU ⟨by rw[c1];simp[aJ],rfl,fun I=>?_⟩ ?_)
 ·simp[ju,ad,aX,bo]
 ·by_cases z:I<([.af g,.af E,.af j] :ag).length
  ·have bq:=Q9 z;have bx:(av++Array.replicate (Tryz.f103.ntmps - av.size) undef).getD I undef=av[I]'(by rw[aJ];exact z):=by
    rw[hj,o4 (by rw[aJ];exact z)];simp[show I<av.size by rw[aJ];exact z]
   show aA _ _ _ _ (([.af g,.af E,.af j] :ag).getD I fC) _;rw[bq,bx];exact up (ap I _ _ (bK z) V)
  ·have bq:=Ra (xP z);have bx:(av++Array.replicate (Tryz.f103.ntmps - av.size) undef).getD I undef=undef:=by
    rw[hj,uV (by rw[aJ];exact xP z),AH];split<;>rfl
   show aA _ _ _ _ (([.af g,.af E,.af j] :ag).getD I fC) _;rw[bq,bx];exact xr
 rintro e cB df dr cu dm ⟨rfl,rfl,a5,cm,bA,bB⟩ aQ bG bI;have aS:=bU.ext aQ;by_cases ao:x∈ord.l
 ·rw[ca ao] at aF;have cP:(5:Int)=vk:=by rw[aB];unfold sQ;rw[ak ao]
  suffices c8:(Code.seq (.region 1 cx false) (.cond (.tmp 10) (.seq (.region 2 cy false) .ret) .skip)).wpIn Fence.wide 0 prog (fun e a W=>e=.ret/\G .ret a W) cB df from wpIn_seq (wpIn_mono c8 fun e a w ⟨bt,h⟩=>by subst bt;exact h)
  refine pq (sgZ:=cu) (K:=fun e m l=>e=.ret/\l=[.q 5 g,.q 11 E,.q 32 j,.q 1 [.int .u8 5]]/\m 6=.ptr 3 0 1) P eG M.jY ?_ bG aS bI ?_
  ·simp[a5,bA,ad,bX,bo,aH];refine au aF (by simp[aq,U.ar,b5,b4]) ?_;simp[bB]
  ·rintro e bf bN dh cv db ⟨rfl,rfl,Q⟩ az a9 aL;have Y:=aL.val 6;rw[Q] at Y;exact⟨rfl,cW bf bN 5 aL.defers (B5 a9 rfl Y (fun _ _ _=>rfl) (aN _) (EP 5)) cP (tm (aQ.trans az))⟩
 ·rw[ct ao] at aF;refine wpIn_seq (pq (sgZ:=cu) (K:=fun e m l=>e=.normal/\l=[.q 5 g,.q 11 E,.q 32 j,.q 1 [.int .u8 0]]/\m 3=.ptr 0 0 5/\m 4=.ptr 1 0 11/\m 6=.ptr 3 0 1) P eG M.jY ?_ bG aS bI ?_)
  ·simp[a5,bA,ad,bX,bo,aH];refine au aF (by simp[aq,U.ar,b5,b4]) ?_;simp[a5,cm,bB]
  rintro e bf bN dh cv db ⟨rfl,rfl,bz,cl,Q⟩ az a9 aL;have bi:=aS.ext az;show (Code.seq (.seq (.region 3 cz false) (.block 0 (.rangeFunc (.tmp 13) #[14] .skip (.block 1 (.seq (.region 4 aP false) .ret))))) _).wpIn Fence.wide 0 prog G bf bN;refine wpIn_seq (wpIn_seq (pq (sgZ:=cv) (K:=fun e m l=>e=.normal/\l=gl g E j 0/\m 3=.ptr 0 0 5/\m 6=.ptr 3 0 1/\m 13=.fn 206 [] [.ptr 5 0 11,.ptr 4 0 5]) P eG M.OO ?_ a9 bi aL ?_))
  ·simp[bz,cl,ad,aX,aH];refine S6 g E ad aX ?_;simp[bz,Q,gl]
  rintro e u fD aw di dn ⟨rfl,rfl,da,i6,c9⟩ bg aK aO;have bj:=bi.ext bg;have a0:ew w fD:=tm ((aQ.trans az).trans bg);clear a5 cm bA bB bz cl Q bI aL bG a9 aQ az bg aS bi;have Y:=aO.val 6;rw[i6] at Y;have bV:=aO.val 13;rw[c9] at bV;obtain⟨dd,de,cX,c2,c3⟩:=QM bV;have c7:=JN aK (cs:=E) (by rfl) b1 c2;have ci:=JN aK (cs:=g) (by rfl) cV c3;have aG:w.heap.size<=fD.heap.size:=a0.toBelow.size;have aY:∀ {bE:Obj} {H:aT},H=(fD.alloc (.deferred (some []))).alloc bE->ew fD H/\H.heap[fD.heap.size]?=some (.deferred (some []))/\H.heap.size=fD.heap.size+2:=by
   intro bE H e;subst e;refine⟨ev.k9 ((ev.alloc (aN _) _).tr (ev.alloc V _)),?_,V⟩;exact (((RowKit.Below.refl (fD.heap.size+1) (fD.alloc (.deferred (some [])))).alloc V bE).block fD.heap.size F).trans (World.alloc_heap_new _ _)
  show (Code.block 0 _).wpIn Fence.wide 0 prog _ u fD;refine wpIn_block (VH (gf:=206) (lb:=#[dd,de]) (A:=∀ bF∈ps.l,bF∈ord.l) (B:=¬ ∀ bF∈ps.l,bF∈ord.l) cX S3 rfl
   (fun bd jt=>bC (fun k=>A k\/w.heap.size<=k) w.heap.size bd (aZ (gl g E j 0)) aw/\cY bd (aZ (gl g E j 0)) aw jt (aZ (gl g E j 6)) aw/\bC (fun k=>A k\/w.heap.size<=k) w.heap.size jt (aZ (gl g E j 6)) aw)
   (fun bd jt h=>B2 h.1 (Cm g E j 0) h.2.1) ?_ ?_ ?_ ?_)
  ·intro fn y W o;obtain⟨t,_,_⟩:=aY rfl;obtain⟨T,R⟩:=pO aK (Bx (l:=fD.heap.size+1) (.loop (fO fn u.tmps #[14] (.block 1 (.seq (.region 4 aP false) .ret)) fD.heap.size .busy none)) (om t o) F);refine wpIn_mono (Wc M (S:=g) (E:=E) (X:=j) (fun _=>trivial) R ?_) ?_
   ·have aU:=aA.ext T Y;have z:(u.tmps.setIfInBounds 14 y).getD 6 undef=u.tmps.getD 6 undef:=by simp only[hj,EV (show 14≠6 by omega)]
    rw[<-z] at aU;have cS:∀ bc:Array aD,bc=u.tmps.setIfInBounds 14 y->aA (W.putObj (fD.heap.size+1) (.loop (fO fn u.tmps #[14] (.block 1 (.seq (.region 4 aP false) .ret)) fD.heap.size .busy none))) (fun k=>A k\/w.heap.size<=k) (aZ (gl g E j 0)) aw (.ptr 3 0 1) (bc.getD 6 undef):=fun bc e=>by rw[e];exact aU
    exact cS _ V
   ·rintro e dl jt ⟨bt,h1,cD⟩;exact⟨bt,R,h1,cD⟩
  ·intro fn H aC cU;obtain⟨t,d1,cr⟩:=aY aC;rw[O] at ci;refine (S2 E ps b1 aX cL c5 c4 ord cg cf cap bL a6 a2 ch cc (c7.k9 t) (ci.k9 t) (fun i=>dg.k9 ((nq (bj i).2 (bj i).1).up fun k _ hk=>⟨hk.1,mQ _ k⟩) t) cU ?_).mono ?_
   ·rintro W jt o ⟨rI,⟨a7,ay,a8⟩,rfl⟩;have cT:=(om t o).toBelow.size;refine⟨A,fun i=>(cb i).k9 (ev.k9 ((((ev.qT a0 (aN _)).tr (ev.qT (om t o) aG)).tr (ev.put W _ F F)).tr ((ev.ext a7 ay).tr (ev.put rI _ F a8.size))))⟩
   ·rintro e ax ⟨ap,aV | ⟨c0,W,jt,o,⟨rI,z,rfl⟩,ai⟩⟩
    ·exact⟨ap,.inl aV⟩
    ·exact⟨ap,.inr ⟨c0,W,rI,o,z,ai⟩⟩
  ·intro fn H ax aC aV o;obtain⟨t,d1,cr⟩:=aY aC;generalize bY:ax.putObj _ _=jt;have bZ:ew fD jt:=by rw[<-bY];exact Bx _ (om t o) F
   have cH:jt.heap[fD.heap.size]?=some (.deferred (some [])):=by rw[<-bY,World.putObj_heap_other F];exact (o.toBelow.block _ F).trans d1
   obtain⟨T,R⟩:=pO aK bZ;have cq:=aO.ext T;have bk:=bj.ext T;have b9:∀ (C:Go.Act) (my:aT) (J:b3) (v:Int),cY jt (aZ (gl g E j 0)) aw my (aZ (gl g E j v)) J->bC (fun k=>A k\/w.heap.size<=k) w.heap.size my (aZ (gl g E j v)) J->
     aA my (fun k=>A k\/w.heap.size<=k) (aZ (gl g E j v)) J (.ptr 3 0 1) (C.tmps.getD 6 undef)->C.defers=[{ target:=.collected fD.heap.size,args:=#[] }]->v=vk->G .ret C my:=by
    intro C my J v bT cn aU aE aI;have bW:my.heap[fD.heap.size]?=some (.deferred (some [])):=(B2 R (Cm g E j 0) bT).same _ _ cH rfl;refine b8 C my fD.heap.size v aE bW (B5 cn (b:=3) rfl aU (fun k hk p=>World.putObj_heap_other (fun bv=>by obtain⟨arr,e,cC,p⟩:=p;rw[bv,bW] at p;cases p)) V (EP v)) aI ?_;exact ev.k9 ((((ev.qT a0 (aN _)).tr (ev.qT bZ aG)).tr (ev.ext R bT)).tr (ev.put my _ aG cn.size))
   show (Code.seq (.seq (.region 5 cA false) (.cond (.tmp 20) (.seq (.region 6 bO false) .ret) .skip)) (.seq (.region 7 bP false) .ret)).wpIn Fence.wide 0 prog G { tmps:=u.tmps,defers:={ target:=.collected fD.heap.size,args:=#[] }::u.defers } jt;refine wpIn_seq (wpIn_seq (Dl (sgZ:=di) (D:=[{ target:=.collected fD.heap.size,args:=#[] }]) P eG M.P5 M.TU (K:=fun m l=>l=gl g E j 0/\m 6=.ptr 3 0 1/\m 20=.bool (decide (bL=cap))) ?_ R bk ⟨cq.size,rfl,cq.val⟩ (by rw[aO.defers]) ?_))
   ·simp[da,i6,gl,ad,cQ,cR]
   rintro bS bR ds cw dp ⟨rfl,Q,a4⟩ aR cp bb b6;show (Code.cond (.tmp 20) (.seq (.region 6 bO false) .ret) .skip).wpIn Fence.wide 0 prog _ bS bR;by_cases a3:bL=cap
   ·rw[ca a3] at a4;refine wpIn_cond_true (xv bb a4) (wpIn_seq (Dl (sgZ:=cw) P eG M.P6 M.TV (K:=fun m l=>l=gl g E j 8/\m 6=.ptr 3 0 1) ?_ cp (bk.ext aR) bb b6 ?_))
    ·simp[Q,gl]
    rintro C my J dj dc ⟨rfl,bD⟩ bh bH bJ bs;refine wpIn_ret (b9 C my J 8 (aR.trans bh) bH (by have:=bJ.val 6;rwa [bD] at this) bs ?_);rw[aB];unfold sQ;rw[aj ao,ak aV,ak a3]
   ·rw[ct a3] at a4;refine wpIn_cond_false (xv bb a4) (wpIn_skip ?_);show (Code.seq (.region 7 bP false) .ret).wpIn Fence.wide 0 prog G bS bR;refine wpIn_seq (Dl (sgZ:=cw) P eG M.P7 M.TW (K:=fun m l=>l=gl g E j 1/\m 6=.ptr 3 0 1) ?_ cp (bk.ext aR) bb b6 ?_)
    ·simp[Q,gl]
    rintro C my J dj dc ⟨rfl,bD⟩ bh bH bJ bs;refine wpIn_ret (b9 C my J 1 (aR.trans bh) bH (by have:=bJ.val 6;rwa [bD] at this) bs ?_);rw[aB];unfold sQ;rw[aj ao,ak aV,aj a3]
  ·rintro fn H W rI ax aC cF o ⟨a7,ay,a8⟩ ai;obtain⟨t,d1,cr⟩:=aY aC;have cT:=(om t o).toBelow.size;have cO:fD.heap.size+1<W.heap.size:=by have:=o.toBelow.size;omega
   obtain⟨T,R⟩:=pO aK (Bx (l:=fD.heap.size+1) (.loop (fO fn u.tmps #[14] (.block 1 (.seq (.region 4 aP false) .ret)) fD.heap.size .busy none)) (om t o) F);have ce:=B2 a7 (Cm g E j 0) ay;have cK:W.heap[fD.heap.size]?=some (.deferred (some [])):=(o.toBelow.block _ F).trans d1;have bl:rI.heap[fD.heap.size]?=some (.deferred (some [])):=ce.same _ _ (by rw[World.putObj_heap_other F];exact cK) rfl;have cN:=ce.same _ _ (World.putObj_heap_same cO) rfl;have cJ:=(ij.1 bl).1;have b0:=ai.toBelow.size;simp only[World.putObj_size] at b0;have cI:ax.heap[fD.heap.size]?=some (.deferred (some [])):=(ai.toBelow.block _ (by simpa using cJ)).trans (by rw[World.putObj_heap_other F];exact bl);show G .ret { tmps:=u.tmps,defers:={ target:=.collected fD.heap.size,args:=#[] }::u.defers } _;refine b8 _ _ fD.heap.size 6 (by rw[aO.defers]) (by rw[World.putObj_heap_other F];exact cI) (B5 a8 (b:=3) rfl (aA.ext (T.trans ay) Y) (fun k hk p=>?_) (by simpa using b0) (EP 6)) ?_ ?_
   ·obtain⟨arr,e,cC,p⟩:=p;have bv:k≠fD.heap.size:=fun h=>by rw[h,bl] at p;cases p
    have cd:k≠fD.heap.size+1:=fun h=>by rw[h,cN] at p;cases p
    have cZ:=(ij.1 p).1;rw[World.putObj_heap_other bv,World.putObj_heap_other cd,ai.toBelow.block k (by simpa using cZ),World.putObj_heap_other cd]
   ·rw[aB];unfold sQ;rw[aj ao,aj cF]
   ·have cE:ev w.heap.size w rI:=(((ev.qT a0 (aN _)).tr (ev.qT (om t o) aG)).tr (ev.put W _ F F)).tr (ev.ext a7 ay);have cj:=a8.size;exact ev.k9 (((cE.tr (ev.put rI _ F cj)).tr (ev.qT ai (by simpa using cj))).tr ((ev.put ax _ F F).tr (ev.put _ _ aG (by simp;omega))))
theorem Yn (o:aJ) (p:dm o) (x:List B) (w:x.length=32) (g:b2) (u:c6 g) (t:g.l.length<=1000000) (cap m:Int) (j h:U) (v:j.ar=true) (q:h.ar=true) :
  aW 103 [.af (rU cap m j h g),.af (av o),.af (am x)] (.int .u8 (sQ x g o.ax.l cap m)):=
 Ym (av o) o.ax (du o) rfl (fun _=>rfl) p.idsZ p.len x w g u t cap m j h v q
end Op
end Go.bl
namespace Go.bl
open Go Go.Proofs Go.Proofs.Tryz
namespace Op
open cu
structure NT (s:c9) (l:ad) (k:Nat) (sgZ:aS) (L:ad) :Prop where
 eZ:sgZ 1=.ptr l.length 0 5
 ha:sgZ 2=.ptr (l.length+1) 0 5
 HL:sgZ 25=.i6 s.aG.ai.l.length
 Ce:sgZ 26=.i6 k
 z:L[l.length+1]?=some (.q 5 [.i6 0,.ae,.ae,.i6 0,.ae])
 ex:h2 l L
 st:∃ g w m,L[l.length]?=some (.q 5 [.i6 s.cap,g,ah s.aG.bE,.i6 s.aG.bL,w])/\eX 32 am L (l.length+2) w s.ay/\(∀ z b n q t,w=.Z z b 0 n q t->b<m)/\l.length+2<=m/\ob s.aG.ai k m g L/\w.cells=some [w]
theorem D8 {alZ:Type} {l:List alZ} {b:Nat} {c:alZ} (h:l[b]?=some c) :l.set b c=l:=by
 apply g3;intro g;by_cases e:b=g
 ·subst e;rw[bV (aK.1 h).1,h]
 ·rw[bg e]
theorem Oh {l g o:ad} {a b h j:ao} {c:Nat} (h1:l.length+2<=c) (t:c<l.length+2+g.length) :(l++a::b::(g++o))[c]?=((l++[h,j])++g)[c]?:=by
 obtain⟨m,u⟩:=al (c - l.length - 2);have p:c - l.length=m+2:=F;have q:c - (l++[h,j]).length=m:=by simp;omega
 rw[eu F,eu (by simp;omega),p,q];simp only[jr];rw[aU F]
theorem Oi {l g h:ad} {a b j o:ao} {c:Nat} (h1:l.length+2+g.length<=c) :(l++a::b::(g++h))[c]?=((l++j::o::g)++h)[c]?:=by
 obtain⟨m,t⟩:=al (c - l.length - 2 - g.length);have p:c - l.length=g.length+m+2:=F;have q:c - (l++j::o::g).length=m:=by simp;omega
 rw[eu F,eu (by simp;omega),p,q];simp only[jr];rw[eu F];congr 1;omega
theorem Xs (s:c9) (H:iN s) {S:ag} (bs:S=bJ s) {l:ad} {K:cA} (br:∀ P w m l',h2 l l'->eX 32 am l' (l.length+2) w s.ay->(∀ z b n q t,w=.Z z b 0 n q t->b<m)->l.length+2<=m->ob s.aG.ai s.aG.ai.l.length m P l'->w.cells=some [w]->K (.af [.i6 s.cap,P,ah s.aG.bE,.i6 s.aG.bL,w]) l') :
  cM 104 [.af S] l K:=by
 subst bs;apply c0 func104 [[[0],[1],[2],[4],[5],[3,5],[7],[8],[6]],cR 0 6++cR 7 4++[[6,10]],cR 0 13++[[13,3]]];have cl:=H.no;have bt:=bM s.aG.bE;have b8:=gB s.aG.bE;have bA:=l3 s.aG.bE H.aG.bE H.aG.nE;simp[bJ];refine au bA (by simp[aq,bt]) ?_;simp;refine BC s.ay H.ay F fun w aY az a9=>?_
 simp[b8,az,aw];refine Gv s.aG.ai (by have:=H.aG.j8;omega) fun P cg dW bb=>?_
 have bO:=bb.bz;simp[dW,aw,bO];have b4:∀ z b n q t,w=.Z z b 0 n q t->b<l.length+2+aY.length:=fun z b n q t e=>by have:=(a9.lt e).2;simpa [i5,rx,Nat.add_left_comm] using this
 refine bx s.aG.ai.l.length (NT s l) ?_ ⟨V,V,V,V,V,⟨V,fun b B=>aU B⟩,P,w,l.length+2+aY.length,V,(a9.frame fun b h1 h=>Oh (by simpa using h1) (by simp at h;omega)).mono V,b4,F,⟨?_⟩,az⟩
 ·rintro k v L hk ⟨R,T,W,X,J,aD,P,w,m,aR,bc,aS,a6,aJ,az⟩;obtain⟨v,rfl⟩:=eO R T W X;clear R T W X;have bp:IntKind.i64.wrap ((k:Int)+1)=((k+1:Nat) :Int):=by rw[IntKind.wrap_i64];have:=H.aG.j8;omega
  by_cases C:k<s.aG.ai.l.length
  ·rcases aJ.ex with ⟨aO,_⟩ | ⟨g,G,cb,cc,rfl,O,cd⟩
   ·rw[aO] at C;simp at C
   ·obtain⟨p,bW,bY⟩:=aP C;have aL:dq s.aG.ai.l k=p:=dr bW;have Y:=(H.aG.ai p bY).1;have a4:=hw (lz (ps:=s.aG.ai.l) (wk:=G) (k:=k));rw[pQ] at a4;have I:=sB (wk:=G) (k:=k) C;rw[aj F,aL] at I;have bo:(hf s.aG.ai.l G k).flatten[k*2]?=some (ah p.idsZ):=by
     have:=ll lz I (j:=0) F;rw[na] at this;rw[this];rfl
    have aF:(hf s.aG.ai.l G k).flatten[k*2+1]?=some (bB p.opsZ):=by
     have:=ll lz I (j:=1) F;rw[this];rfl
    have bC:=l3 p.idsZ Y.idsZ Y.li;have bv:=bM p.idsZ;have b9:=gB p.idsZ;have aA:∀ (o:ad) (c:Nat) (b:ao),L[c]?=some b->(L++o)[c]?=some b:=fun o c b B=>by rw[aU (aX B)];exact B
    simp[C,aR,O,bo,aF];refine au bC (by simp[aq,bv]) ?_;simp[O,aF];refine BD p.opsZ Y.ji fun w' o ca bd=>?_
    have ck:=aX O;have bX:g<(L++o).length:=by simp;omega
    have bU:aE 2 (L++o) (.Z 2 g 0 s.aG.ai.l.length s.aG.ai.l.length (s.aG.ai.l.length*2)) g (hf s.aG.ai.l G k):=by
     refine .Z g _ _ _ _ _ (aA o g _ O) a4 (pQ _ _ _) lz (aN _) (aN _) ?_;rw[aH F]
    have cp:=Jo bU (aA o g _ O) C (ah p.idsZ) w';have aQ:=KG (wk:=G) (w:=w') C;rw[aL] at aQ;have a8:aw (aw (hf s.aG.ai.l G k).flatten (k*2) [ah p.idsZ]) (k*2+1) [w']=(hf s.aG.ai.l (fun i=>if i=k then w' else G i) (k+1)).flatten:=by
     have t1:=pt lz I (j:=0) (vs:=[ah p.idsZ]) V;rw[na,show aw (bf p) 0 [ah p.idsZ]=bf p from rfl,D8 I] at t1;have t2:=pt lz I (j:=1) (vs:=[w']) V;rw[t1,t2,show aw (bf p) 1 [w']=[ah p.idsZ,w'] from rfl,aQ]
    have bi:∀ c:ao,((L++o).set g c)[g]?=some c:=fun c=>bV bX
    obtain⟨Q,aT⟩:=al (fun i=>if i=k then w' else G i:Nat->U);rw[<-aT] at aQ a8;have aI:(hf s.aG.ai.l Q (k+1)).flatten[k*2+1]?=some w':=by
     have:=ll lz (sB (wk:=Q) (k:=k+1) C) (j:=1) F;rw[ak F] at this;rw[this,aT];simp
    have bH:=hw (lz (ps:=s.aG.ai.l) (wk:=Q) (k:=k+1));rw[pQ] at bH;have bP:=bd.bz;obtain⟨aB,aC⟩:=al ((L++o).set g (.q (s.aG.ai.l.length*2) (hf s.aG.ai.l Q (k+1)).flatten));have aW:aB[g]?=some (.q (s.aG.ai.l.length*2) (hf s.aG.ai.l Q (k+1)).flatten):=by rw[aC];exact bi _
    have bj:∀ (c:Nat) (b:ao),c≠g->(L++o)[c]?=some b->aB[c]?=some b:=fun c b h1 h=>by rw[aC,bg (fun e=>h1 e.symm)];exact h
    simp[aA o _ _ O,aF,b9,ca,bi];refine⟨F,F,?_⟩;rw[a8,<-aC];simp[aI,bP];have bh:eX 11 av aB L.length w' p.opsZ:=bd.frame fun b h1 h=>by
     obtain⟨y,u,_⟩:=aP h;rw[u];exact bj b y F u
    have cm:=Y.ji;refine bx p.opsZ.l.length (fun q v aV=>aV=aB/\v 1=.ptr l.length 0 5/\v 2=.ptr (l.length+1) 0 5/\v 4=.ptr g (k*2) (s.aG.ai.l.length*2)/\v 25=.i6 s.aG.ai.l.length/\v 26=.i6 k/\v 54=.i6 p.opsZ.l.length/\v 55=.i6 q) ?_ ⟨rfl,V,V,V,V,V,V,V⟩;rintro q v aV cn ⟨rfl,R,T,a0,W,X,a2,a3⟩;obtain⟨v,rfl⟩:=xt R T a0 W X a2 a3;clear R T a0 W X a2 a3;have bq:=cf (k:=q) F;by_cases ap:q<p.opsZ.l.length
    ·obtain⟨D,bS,bT⟩:=aP ap;rcases bh with ⟨aO,_⟩ | ⟨b,ch,ci,rfl,aK⟩
     ·rw[aO] at ap;simp at ap
     ·have a7:=Y.opsZ D bT;have bD:=bM D.ax;have bw:=l3 D.ax a7.idsZ a7.len;have J:∀ e∈p.opsZ.l.map av,e.length=11:=fun e bF=>by obtain⟨y,_,rfl⟩:=cC.1 bF;rfl
      have aM:(p.opsZ.l.map av)[q]?=some (av D):=by rw[b1,bS];rfl
      have bG:(p.opsZ.l.map av).flatten[q*11+1]?=some (ah D.ax):=ll J aM F;have b0:aw (p.opsZ.l.map av).flatten (q*11+1) [ah D.ax]=(p.opsZ.l.map av).flatten:=by
       rw[pt J aM (show 1+[ah D.ax].length<=11 by simp),wQ D,D8 aM]
      have mp:=gB D.ax;have cj:=vX p.opsZ.l;have b2:=uB aK;simp[ap,aW,aI,aK,bG];refine au bw (by simp[aq,bD]) ?_;simp[ap,aW,aI,aK,b0,mp,bq,b2];omega
    ·have bZ:q=p.opsZ.l.length:=F;subst bZ;simp[bp];have ar:∀ (c:Nat) (b:ao),c≠g->L[c]?=some b->aV[c]?=some b:=fun c b h1 h=>bj c b h1 (aA o c b h)
     refine⟨C,V,V,V,V,ar _ _ F J,⟨?_,fun b B=>?_⟩,_,w,m,ar _ _ F aR,bc.bm fun b h1 h z n q t e=>?_,aS,a6,⟨.inr ⟨g,Q,cb,cc,rfl,aW,fun i bI bK=>?_⟩⟩,az⟩
     ·have:=aD.1;rw[aC];simp;omega
     ·obtain⟨y,u,_⟩:=aP B;have b5:L[b]?=some y:=by rw[aD.2 b B];exact u
      rw[u];exact ar b y F b5
     ·obtain⟨y,u,_⟩:=aP h;rw[u];exact ar b y (by have:=aS z b n q t e;omega) u
     ·rw[aT];by_cases a5:i=k
      ·subst a5;simp only[if_true];rw[aL];exact bh.mono F
      ·simp only[aj a5];exact (cd i F bK).frame fun b h1 h=>by
        obtain⟨y,u,_⟩:=aP h;rw[u];exact ar b y F u
  ·have bN:k=s.aG.ai.l.length:=F;subst bN;have cq:=aJ.cells;have b6:=aX J;have ce:∀ c:ao,(L.set (l.length+1) c)[l.length+1]?=some c:=fun c=>bV b6
   simp[aR,J,aw,ce];exact br P w m _ ⟨by simpa using aD.1,fun b B=>by rw[bg F];exact aD.2 b B⟩ (bc.frame fun b h1 h=>bg F) aS a6 (aJ.frame fun b h1 h=>bg F) az
 ·rcases bb with ⟨bR,b3⟩ | ⟨g,aZ,bk,bl,bn⟩
  ·exact .inl ⟨bR,b3⟩
  ·refine .inr ⟨g,fun _=>.ae,by simp at aZ;omega,bk,bl,?_,fun i bI=>F⟩;rw[Oi (by simp at aZ;omega),KH];exact bn
end Op
end Go.bl

/-
  An operation put into an index, in the program, walked: where it may be put.
-/
import Derived.Test.YtdjbnhgdhambnaaGreatDoorXk
import Derived.RangeFuncNested
import Derived.RangeFuncBound
import Derived.RangeFuncCalls
import Derived.RangeFuncLeaves
import Derived.OwnWalkIn
import Derived.LoopNIn
import Derived.Shelf.Abstract
import Derived.Test.YtdjbnhgdhambnaaGreatDoorRows
import Derived.Shelf.SlSortCmp.WholeK
import Derived.Shelf.SlGeneric
set_option maxHeartbeats 16000000
set_option maxRecDepth 100000
set_option linter.unusedVariables false
set_option linter.unusedSimpArgs false
set_option linter.unnecessarySimpa false
namespace Go.bf
open Go Go.Proofs Go.Proofs.Tryz
namespace Op
open b8
def mI (ps:List aW) (g:Nat) (h w2:U) (k:Nat) :List (ag):=(List.range k).map fun i=>if i=g then [h,w2] else bb (df ps i)
theorem Kh (ps:List aW) (g:Nat) (h w2:U) (k:Nat) :mI ps g h w2 (k+1)=mI ps g h w2 k++[if k=g then [h,w2] else bb (df ps k)]:=by simp[mI,sU]
theorem Vy {ps:List aW} {g k:Nat} (h:k<=g) (p w2 m o:U) :mI ps g p w2 k=mI ps g m o k:=by
 unfold mI;refine oD fun i j=>?_
 have:=gS.1 j;rw[ak F,ak F]
theorem zq (ps:List aW) (g:Nat) (h w2:U) (k:Nat) :(mI ps g h w2 k).length=k:=by simp[mI]
theorem Kg {ps:List aW} {g:Nat} {j w2:U} {k i:Nat} (h:i<k) :(mI ps g j w2 k)[i]?=some (if i=g then [j,w2] else bb (df ps i)):=by unfold mI;rw[bX,g9 h];rfl
def wr (j:Nat) (w:U) :Prop:=∀ m b n g h,w=.ad m b 0 n g h->b≠j
structure Nf (s:cA) (x:List B) (N j:Nat) (g w2:U) (l:ae) :Prop where
 hi:eX 32 ao l (N+1) g (eT s x).idsZ
 ia:eX 11 au l (N+1) w2 (eT s x).opsZ
 ap:Fi g w2
 m1:g.cells=some [g]
 m2:w2.cells=some [w2]
 f1:wr j g
 f2:wr j w2
structure Nd (s:cA) (x:List B) (o:aM) (N k:Nat) (sgZ:aP) (l:ae) :Prop where
 h0:sgZ 2=.ptr 0 0 3
 i9:sgZ 3=.ptr 1 0 11
 kb:sgZ 4=.ptr 2 0 3
 ja:sgZ 5=.ptr 3 0 32
 m8:sgZ 8=.ptr 4 0 32
 BF:sgZ 10=.i6 (num x s.al.l.length:Nat)
 Hh:sgZ 11=.i6 (er (eT s x).idsZ.l x:Nat)
 Qu:sgZ 14=.ptr N 0 3
 Zt:sgZ 66=e0 s.al
 Zu:sgZ 67=.i6 s.al.l.length
 Zv:sgZ 68=.i6 k
 k5:l[0]?=some (.q 3 (bM s))
 q1:l[1]?=some (.q 11 (au o))
 r8:l[2]?=some (.q 3 [.af,.af,.i6 0])
 r9:l[3]?=some (.q 32 (bO 32 (.int .u8 0)))
 abC:l[4]?=some (.q 32 (ao x))
 Zz:5<=N
 ex:∃ v j g w2,l[N]?=some (.q 3 [v,.af,.i6 (s.b6+1)])/\aJ 2 l v j (mI s.al.l (num x s.al.l.length) g w2 k)/\(v=.af\/N<j)/\bq v=decide (k=0)/\(k<=num x s.al.l.length\/Nf s x N j g w2 l)
theorem eX.lt {alZ:Type} {z:Nat} {enc:alZ->ag} {l:ae} {n:Nat} {w:U} {s:bH alZ} (h:eX z enc l n w s) {p b o m t:Nat} (e:w=.ad p b 0 o m t) :n<=b/\b<l.length:=by
 rcases h with ⟨_,rfl⟩ | ⟨c,h1,_,rfl,j⟩
 ·cases e
 ·injection e with _ g
  subst g;exact⟨h1,aY j⟩
theorem eX.bo {alZ:Type} {z:Nat} {enc:alZ->ag} {l l' : ae} {n:Nat} {w:U} {s:bH alZ} (h:eX z enc l n w s) (p:∀ b,n<=b->b<l.length->(∀ u q m t,w=.ad u b 0 q m t->l'[b]?=l[b]?)) :eX z enc l' n w s:=by
 rcases h with h | ⟨b,h1,o,g,j⟩
 ·exact .inl h
 ·exact .inr ⟨b,h1,o,g,by rw[p b h1 (aY j) _ _ _ _ g];exact j⟩
theorem Ju {s:cA} {N:Nat} {l L:ae} {v:U} {j:Nat} {es:List (ag)} {e:ag} {b:Nat} (z:N<l.length) (V:l[N]?=some (.q 3 [v,.af,.i6 (s.b6+1)])) (S:aJ 2 l v j es) (C:v=.af\/N<j) (o:hV l L) (O:L[b]?=some (.q 2 e)) (B:e.length=2) (Y:es.length<=1000) :
  ∃ g dd L',ep L 2 48 v (.ad 2 b 0 1 1 2)=some (g,L')/\g.cells=some [g]/\L'[N]?=some (.q 3 [v,.af,.i6 (s.b6+1)])/\aJ 2 (L'.set N (.q 3 [g,.af,.i6 (s.b6+1)])) g dd (es++[e])/\N<dd/\bq g=false ∧
   L.length<=L'.length/\(∀ c,c<L.length->c≠N->(v=.af\/c≠j)->(L'.set N (.q 3 [g,.af,.i6 (s.b6+1)]))[c]?=L[c]?)/\(dd=j/\v≠.af\/L.length<=dd):=by
 have W:=dw;have T:=TL S o;obtain⟨g,dd,L',G,t,H,u,w,I⟩:=i3 (by_:=48) (x:=.ad 2 b 0 1 1 2) (xs:=[e]) T (by simp[cD,O,B,aI]) (by simp[B]) F F (by rw[W];simp;omega);have J:N<L.length:=l8 z o.1;have p:bq g=false:=by rw[I];simp
 have D:g≠.af:=fun e=>by rw[e] at p;cases p
 have K:N<dd:=by
  rcases w with h | ⟨h1,m⟩ | h
  ·omega
  ·rw[m];exact C.resolve_left h1
  ·exact bK h D
 have X:L'[N]?=some (.q 3 [v,.af,.i6 (s.b6+1)]):=by
  rw[u N J (by rcases C with h | h;exact .inl h;exact .inr F),o.2 N z];exact V
 refine⟨g,dd,L',G,t.cells,X,t.cY (.inr (bp F)),K,p,H,fun c P Q R=>?_,?_⟩
 ·rw[bp (fun e=>Q e.symm)];exact u c P R
 ·rcases w with h | ⟨h1,m⟩ | h
  ·exact .inr h
  ·exact .inl ⟨m,h1⟩
  ·exact bK h D
theorem KO {A R xs:ag} {i:Nat} (h:i+xs.length<=A.length) :aw (A++R) i xs=aw A i xs++R:=by unfold aw;rw[hU F,nB F];simp
theorem hx {z:Nat}:∀ {es:List (ag)},(∀ e∈es,e.length=z)->es.flatten.length=es.length*z
 | [],_=>V
 | e::es,h=>by
  rw[gR,cg,hx fun e g=>h e (by simp[g]),h e V,du,eI];omega
theorem I7 {l:ae} {j n cap sz i:Nat} {cs:ag} {es:List (ag)} (h:aJ 2 l (.ad 2 j 0 n cap sz) j es) (v:l[j]?=some (.q sz cs)) (ap:i<n) (a b:U) :
  aJ 2 (l.set j (.q sz (aw (aw cs (i*2) [a]) (i*2+1) [b]))) (.ad 2 j 0 n cap sz) j (es.set i [a,b]):=by
 generalize G:U.ad 2 j 0 n cap sz=w at h;cases h with
 | nil=>cases G
 | ad ar au Z av ai es z aq u o t Q B=>
  injection G with aj ak al I J K
  subst I J K;rw[v] at z;injection z with O
  injection O with _ P
  subst P;obtain⟨e,m,S⟩:=aQ (l:=es) (k:=i) F;have R:=o e S;obtain⟨p,g,rfl⟩:∃ p g,e=[p,g]:=by
   match e,R with
   | [p,g],_=>exact⟨p,g,rfl⟩
  have am:es.flatten.length=n*2:=by rw[<-B,cI];have:=cj 2 t;omega
  have D:cs=es.flatten++cs.drop (n*2):=by rw[<-B,iY]
  have X:aw es.flatten (i*2) [a]=(es.set i [a,g]).flatten:=by
   have:=o6 o m (j:=0) (vs:=[a]) V;simpa [aw] using this
  have H:∀ e∈es.set i [a,g],e.length=2:=fun e m=>by
   rcases nE m with h | rfl
   ·exact o e h
   ·rfl
  have Y:aw (es.set i [a,g]).flatten (i*2+1) [b]=(es.set i [a,b]).flatten:=by
   have:=o6 H (bT F) (j:=1) (vs:=[b]) V;rw[this,Ap];rfl
  have ao:(es.set i [a,g]).flatten.length=n*2:=by rw[hx H,jU,u]
  have C:aw (aw cs (i*2) [a]) (i*2+1) [b]=(es.set i [a,b]).flatten++cs.drop (n*2):=by
   rw[D,KO (by simp only[xp];omega),X,KO (by simp only[xp];omega),Y,<-D]
  have W:∀ e∈es.set i [a,b],e.length=2:=fun e m=>by
   rcases nE m with h | rfl
   ·exact o e h
   ·rfl
  have T:(es.set i [a,b]).flatten.length=n*2:=by rw[hx W,jU,u]
  refine .ad j n cap sz _ _ (bT (aY v)) ?_ (by rw[jU];exact u) (fun e m=>?_) t Q ?_
  ·rw[C,cg,T,iX];have:=cj 2 t;omega
  ·rcases nE m with h | rfl
   ·exact o e h
   ·rfl
  ·rw[C,hU F,aI F]
theorem eX.own {alZ:Type} {z:Nat} {enc:alZ->ag} {l:ae} {n:Nat} {w:U} {s:bH alZ} (h:eX z enc l n w s) (m:∀ y∈s.l,(enc y).length=z) :∃ b,n<=b/\aJ z l w b (s.l.map enc)/\bq w=s.isNone/\(w=.af\/w=.ad z b 0 s.l.length s.l.length (s.l.length*z)):=by
 rcases h with ⟨rfl,rfl⟩ | ⟨b,h1,g,rfl,j⟩
 ·exact⟨n,aF _,.nil n,rfl,.inl rfl⟩
 ·exact⟨b,h1,qG m rfl j,by rw[g];rfl,.inr rfl⟩
theorem TI {z:Nat} {l:ae} {w r:U} {b n:Nat} {es:List (ag)} (t:w=.af\/w=.ad z b 0 n n (n*z)) (D:r=w\/∃ q:Nat,dB (.ad z) w none (some (.i6 (q:Int))) none=some r) (h:aJ z l r b es) :xG z l r es:=by
 have v:r=.af\/∃ q,r=.ad z b 0 q n (n*z):=by
  rcases D with rfl | ⟨q,j⟩
  ·rcases t with h | h
   ·exact .inl h
   ·exact .inr ⟨n,h⟩
  ·rcases t with h | h
   ·subst h;simp[dB] at j;exact .inl j.2.symm
   ·subst h;simp[dB] at j;obtain⟨a,u,F,g,o⟩:=j;have C:eY n n none (some (.i6 (q:Int))) none=(match gM (.i6 (q:Int)) n with | none=>none | some h=>some (0,h,n)):=rfl;rw[C] at g;split at g
    ·cases g
    ·injection g with g
     injection g with h1 m
     injection m with m B
     subst h1 B;right;by_cases p:n=0
     ·subst p;exact⟨0,by rw[<-o];simp⟩
     ·exact⟨u,by rw[<-o,ak p];simp⟩
 rcases v with rfl | ⟨q,rfl⟩
 ·left;refine⟨?_,rfl⟩;cases h;rfl
 ·exact .inr ⟨b,q,n,rfl,h⟩
theorem Ww (s:cA) (C:hs s) (h:fo s) (o:aM) (aK:dv o) (dy:fk o=0) (fW:s.b6<60) (dA:bJ o∉(b2 (bS s)).idsZ.l) (eZ:∀ p∈o.ay.l,p∈(b2 (bS s)).idsZ.l) :
  aV 105 [.ah (bM s),.ah (au o)] (.aZ [.ah (bM (gy s (bJ o) o)),.ah (ao (bJ o)),.i6 0]):=by
 apply a8 func105 [[[0],[1],[2],[3,1]],da 0 9++da 10 7++[[9,16,15,13]],[[0],[1],[2,1]]];have cu:=dw;have b0:=pb o;obtain⟨x,dB⟩:=aq (bJ o);rw[<-dB] at dA b0 ⊢;have az:=br b0;have b1:=cP x;have bv:(bM s).length=3:=rfl;have cl:(bM s).take 3=bM s:=rfl;have ck:=o2 s;have ex:(bM s)[0]?=some (e0 s.al):=rfl;have ez:(bM s)[2]?=some (.i6 s.b6):=rfl;have ey:(bM s)[1]?=some (ai s.ce):=rfl;have c2:∀ h,(bM s)[0]'h=e0 s.al:=fun _=>rfl
 have c3:∀ h,(bM s)[1]'h=ai s.ce:=fun _=>rfl
 have c4:∀ h,(bM s)[2]'h=.i6 s.b6:=fun _=>rfl
 have Z:(au o).length=11:=rfl;have bl:(au o).take 11=au o:=rfl;have ct:=dN o;have ev:(au o)[1]?=some (ai o.ay):=rfl;have cj:∀ h,(au o)[1]'h=ai o.ay:=fun _=>rfl
 have dd:ar [U.ah (bM s)]=true:=by simp[ar,U.ax,ck]
 have de:=VK s C h;have cE:=xa o aK;rw[dy] at cE;have bt:=uG o aK;rw[uF dy] at bt;have eN:et (bJ o)=.ah (ao x):=by rw[dB];rfl
 rw[eN] at bt;have bn:=Ky s C h x b0;rw[cp dA] at bn;have eK:fI prog 156=true:=bd;have eL:fI prog 160=true:=bd;have gp:s.b6=((bS s).length:Int):=h.lc;have ea:IntKind.i64.wrap (s.b6+1)=s.b6+1:=by rw[IntKind.wrap_i64];omega
 have ej:¬ s.b6=60:=F;have eS:=pi s.al;have eG:=bV o.ay;obtain⟨X,K⟩:=aq (ao x);rw[<-K] at az b1 bt bn ⊢;have bm:X.take 32=X:=aI F;have cB:aw (bO 32 (.int .u8 0)) 0 X=X:=cH (by rw[az];rfl);obtain⟨iC,G⟩:=aq (num x s.al.l.length);obtain⟨aE,aG⟩:=aq (er (eT s x).idsZ.l x);rw[<-G,<-aG] at bn;obtain⟨O,Y⟩:=aq (au o);rw[<-Y] at Z bl ct ev cE bt ⊢;simp only[<-Y] at cj;obtain⟨S,aR⟩:=aq (bM s);rw[<-aR] at bv cl ck ex ey ez dd de bn ⊢;simp only[<-aR] at c2 c3 c4;simp[bv,cl,Z];refine av de dd ?_;simp[Z,bl];refine av cE (by simp[ar,U.ax,ct]) ?_;simp[Z,bl];refine av bt (by simp[ar,U.ax,ct]) ?_;simp[bv,cl,cB,az,bm];refine av bn (by simp[ar,U.ax,ck,b1]) ?_;simp[Z,cj];refine xY o.ay aK.idsZ aK.len eK (Nt s C h (l:=_) (b:=0) (by rw[<-aR];rfl) o.ay.l aK.idsZ) fun B a3=>?_
 have eA:o.ay.l.any (fun p=>!decide (p∈(b2 (bS s)).idsZ.l))=false:=by
  rw[Af];intro p a6;simp[eZ p a6]
 rw[eA];have dK:B[0]?=some (.q 3 S):=by rw[a3.2 0 V];rfl
 have fB:B[1]?=some (.q 11 O):=by rw[a3.2 1 V];rfl
 have fC:B[2]?=some (.q 3 [.af,.af,.i6 0]):=by rw[a3.2 2 V];rfl
 have fF:B[3]?=some (.q 32 (bO 32 (.int .u8 0))):=by rw[a3.2 3 V];rfl
 have fJ:B[4]?=some (.q 32 X):=by rw[a3.2 4 V];rfl
 have gB:5<=B.length:=a3.1;have f0:∀ g:ae,(B++g)[0]?=some (.q 3 S):=fun g=>by rw[aS F];exact dK
 have ec:∀ (g:ae) (h:0<(B++g).length),(B++g)[0]'h=.q 3 S:=fun g h=>(aH.1 (f0 g)).2
 simp[dK,bv,c4,ej,ea,aw,ec,c2,eS];obtain⟨N,db⟩:=aq (B.length);have ed:∀ g:ae,(B++g)[1]?=some (.q 11 O):=fun g=>by rw[aS F];exact fB
 have eg:∀ g:ae,(B++g)[2]?=some (.q 3 [.af,.af,.i6 0]):=fun g=>by rw[aS F];exact fC
 have eh:∀ g:ae,(B++g)[3]?=some (.q 32 (bO 32 (.int .u8 0))):=fun g=>by rw[aS F];exact fF
 have ei:∀ g:ae,(B++g)[4]?=some (.q 32 X):=fun g=>by rw[aS F];exact fJ
 refine bw s.al.l.length (Nd s x o N) ?_ ⟨V,V,V,V,V,by simp[G],by simp[aG],by simp[db],V,V,V,by rw[<-aR];exact f0 _,by rw[<-Y];exact ed _,eg _,eh _,by rw[<-K];exact ei _,F,.af,0,.af,.af,by rw[db];simp,.nil 0,.inl rfl,rfl,.inl (ek _)⟩;rintro k fN l hk ⟨cS,cT,bG,cV,c0,cc,cd,cR,cW,cX,cZ,b3,q1,cF,cG,aX,dc,aC,j,oz,w2,aB,aL,bU,gl,bL⟩;rw[<-G] at cc aL bL;rw[<-aG] at cd;rw[<-aR] at b3;rw[<-Y] at q1;rw[<-K] at aX;obtain⟨fN,rfl⟩:=LB cS cT bG cV c0 cc cd cR cW cX cZ;clear cS cT bG cV c0 cc cd cR cW cX cZ;have T:IntKind.i64.wrap ((k:Int)+1)=((k+1:Nat) :Int):=by rw[IntKind.wrap_i64];have:=h.tT;omega
 have bk:=aY aB;have gk:=h.tT;by_cases a5:k<s.al.l.length
 ·obtain⟨p,dq,bW⟩:=aQ a5;have di:df s.al.l k=p:=dZ dq;have bu:=(C.al p bW).1;have bs:=mo dq;have a1:(bb p).length=2:=rfl;have ch:(bb p).take 2=bb p:=rfl;have c6:=oZ p;have cD:=K7 p bu;change aV _ [.ah (bb p)] (.ah (bb p)) at cD;have cw:=Kh s.al.l iC oz w2 k;have e5:=zq s.al.l iC oz w2 k;obtain⟨P,bK⟩:=aq (bb p);rw[<-bK] at bs a1 ch c6;have cz:aw [U.af,.af] 0 P=P:=cH (by rw[a1];rfl);have b4:∀ (g:ae) (c:Nat) (b:am),l[c]?=some b->(l++g)[c]?=some b:=fun g c b z=>by rw[aS (aY z)];exact z
  have J:∀ c,c<5->c≠N:=fun c cm=>F
  have Q:∀ c,c<5->aC=.af\/c≠j:=fun c cm=>by rcases bU with e | e;exact .inl e;exact .inr F
  by_cases cr:k=iC
  ·have dm:k<=iC:=F;simp[a5,bs,a1,ch,cz,b4 _ _ _ aB];rw[bK];refine WJ p bu fun bc bf oc bH dF dH eC fl fm=>?_
   rw[<-bK] at bH;have cg:hV l oc:=hV.trans ⟨V,fun b z=>aS z⟩ bH;have gg:l.length+1<=oc.length:=by have:=bH.1;simpa using this
   have fA:oc[N]?=some (.q 3 [aC,.af,.i6 (s.b6+1)]):=by rw[cg.2 N bk];exact aB
   have gA:oc[l.length]?=some (.q 2 P):=by rw[bH.2 l.length V];simp
   rw[Vy dm oz w2 bc bf] at aL;have ds:=Kh s.al.l iC bc bf k;rw[aj cr] at ds;obtain⟨I,bx,bh,b5,b7,bi,b8,b9,R,dR,ca,cb⟩:=Ju (s:=s) (N:=N) (L:=oc++[am.q 2 [bc,bf]]) (b:=oc.length) (e:=[bc,bf]) bk aB aL bU (cg.trans ⟨V,fun b z=>aS z⟩) V rfl (by rw[zq];omega);have bo:∀ (c:Nat) (b:am),c≠N->(aC=.af\/c≠j)->oc[c]?=some b->(bh.set N (.q 3 [I,.af,.i6 (s.b6+1)]))[c]?=some b:=fun c b h1 m D=>by
    have cf:=aY D;rw[ca c (by simp;omega) h1 m,aS cf];exact D
   have bA:∀ (c:Nat) (b:am),c≠N->(aC=.af\/c≠j)->l[c]?=some b->(bh.set N (.q 3 [I,.af,.i6 (s.b6+1)]))[c]?=some b:=fun c b h1 m D=>bo c b h1 m (by rw[cg.2 c (aY D)];exact D)
   have a4:aC=.af\/j<l.length:=aL.lt;simp[fA,ef,cy,b5];refine bY.bo ?_;have cx:aw [aC,.af,.i6 (s.b6+1)] 0 [I]=[I,.af,.i6 (s.b6+1)]:=rfl;simp[b7,bi,cx,T];have cO:∀ (w:U) (q:Nat),(∀ u b n g t,w=.ad u b 0 n g t->l.length+1<=b/\b<oc.length)->wr bx w:=fun w q fd u b n g t e=>by
    obtain⟨h1,m⟩:=fd u b n g t e;rcases cb with ⟨T,dY⟩ | T
    ·have:=a4.resolve_left dY;omega
    ·simp at T;omega
   have dE:∀ b,l.length+1<=b->b<oc.length->(bh.set N (.q 3 [I,.af,.i6 (s.b6+1)]))[b]?=oc[b]?:=fun b h1 m=>by
    obtain⟨y,v,_⟩:=aQ m;rw[v];refine bo b y F ?_ v;rcases a4 with e | e
    ·exact .inl e
    ·exact .inr F
   have a6:eT s x=p:=by unfold eT;rw[<-G,<-cr];exact di
   refine⟨a5,V,V,V,V,V,by simp[G],by simp[aG],V,V,V,V,bA 0 _ (J 0 F) (Q 0 F) (by rw[<-aR];exact b3),bA 1 _ (J 1 F) (Q 1 F) (by rw[<-Y];exact q1),bA 2 _ (J 2 F) (Q 2 F) cF,bA 3 _ (J 3 F) (Q 3 F) cG,bA 4 _ (J 4 F) (Q 4 F) (by rw[<-K];exact aX),dc,I,bx,bc,bf,bT (by have:=aY bi;omega),by rw[<-G,ds];exact b8,.inr b9,by rw[R];simp,.inr ⟨?_,?_,eC,fl,fm,cO bc 0 fun u b n g t e=>by have:=dF.lt e;simpa using this,cO bf 0 fun u b n g t e=>by have:=dH.lt e;simpa using this⟩⟩
   ·rw[a6];exact (dF.frame fun b h1 m=>dE b (by simpa using h1) m).mono (by simp;omega)
   ·rw[a6];exact (dH.frame fun b h1 m=>dE b (by simpa using h1) m).mono (by simp;omega)
  ·rw[ak cr,di] at cw;rw[<-bK] at cw cD;obtain⟨I,bx,bh,b5,b7,bi,b8,b9,R,dR,ca,cb⟩:=Ju (s:=s) (N:=N) (L:=l++[am.q 2 P,am.q 2 P]) (b:=l.length+1) (e:=P) bk aB aL bU ⟨V,fun b z=>aS z⟩ V a1 (by rw[e5];omega);have bo:∀ (c:Nat) (b:am),c≠N->(aC=.af\/c≠j)->l[c]?=some b->(bh.set N (.q 3 [I,.af,.i6 (s.b6+1)]))[c]?=some b:=fun c b h1 m D=>by
    have cf:=aY D;rw[ca c (by simp;omega) h1 m,aS cf];exact D
   have a4:aC=.af\/j<l.length:=aL.lt;simp[a5,bs,a1,ch,cz,b4 _ _ _ aB];refine av cD (by simp[ar,U.ax,c6]) ?_;simp[a1,cz,b4 _ _ _ aB,ef,cy,b5];refine bY.bo ?_;have cx:aw [aC,.af,.i6 (s.b6+1)] 0 [I]=[I,.af,.i6 (s.b6+1)]:=rfl;simp[b7,bi,cx,T];refine⟨a5,V,V,V,V,V,by simp[G],by simp[aG],V,V,V,V,bo 0 _ (J 0 F) (Q 0 F) (by rw[<-aR];exact b3),bo 1 _ (J 1 F) (Q 1 F) (by rw[<-Y];exact q1),bo 2 _ (J 2 F) (Q 2 F) cF,bo 3 _ (J 3 F) (Q 3 F) cG,bo 4 _ (J 4 F) (Q 4 F) (by rw[<-K];exact aX),dc,I,bx,oz,w2,bT (by have:=aY bi;omega),by rw[<-G,cw];exact b8,.inr b9,by rw[R];simp,?_⟩;rcases bL with bL | W
   ·left;rw[<-G];omega
   ·right;have dJ:∀ w,wr j w->(∀ u b n g t,w=.ad u b 0 n g t->b<l.length)->wr bx w:=fun w h1 m u b n g t e=>by
     rcases cb with ⟨T,_⟩ | T
     ·rw[T];exact h1 u b n g t e
     ·have:=m u b n g t e;simp at T;omega
    refine⟨W.hi.bo fun b h1 m u n g t e=>?_,W.ia.bo fun b h1 m u n g t e=>?_,W.ap,W.m1,W.m2,dJ _ W.f1 fun u b n g t e=>(W.hi.lt e).2,dJ _ W.f2 fun u b n g t e=>(W.ia.lt e).2⟩
    ·obtain⟨y,v,_⟩:=aQ m;rw[v];exact bo b y F (.inr (W.f1 u b n g t e)) v
    ·obtain⟨y,v,_⟩:=aQ m;rw[v];exact bo b y F (.inr (W.f2 u b n g t e)) v
 ·have fZ:k=s.al.l.length:=F;obtain⟨_,_,e2⟩:=y8 h x;rw[<-G] at e2;have W:=bL.resolve_left F;have eO:=kT o.ay aK.idsZ aK.len;have mp:=hd o.ay;have e8:aw O 1 [ai o.ay]=O:=by rw[Y];exact wx o
  have fO:=us q1;obtain⟨aA,cap,H,cs,fc,z,gj,fY,dj,dm,du⟩:=TJ aL (i:=iC) (e:=[oz,w2]) (by rw[Kg F,aj rfl]);have dT:cs[iC*2]?=some oz:=by
   have:((cs.drop (iC*2)).take 2)[0]?=some oz:=by rw[du];rfl
   rw[dG F,gn] at this;exact this
  have cN:cs[iC*2+1]?=some w2:=by
   have:((cs.drop (iC*2)).take 2)[1]?=some w2:=by rw[du];rfl
   rw[dG F,gn] at this;exact this
  subst fc;have bs:bF (.ad 2) (.ad 2 j 0 aA cap H) (.i6 (iC:Int))=some (.ptr j (iC*2) H):=by
   simp[bF,dj]
  simp[a5,q1,Z,cj];refine av eO (by simp[ar,eG]) ?_;have eD:∀ g:ae,(l++g)[j]?=some (.q H cs):=fun g=>by rw[aS (aY z)];exact z
  have fz:∀ g:ae,(l++g)[1]?=some (.q 11 O):=fun g=>by rw[aS (aY q1)];exact q1
  have gx:∀ g:ae,(l++g)[4]?=some (.q 32 X):=fun g=>by rw[aS (aY aX)];exact aX
  have fb:aw [U.int .u32 0,.af,.int .u64 0,.int .u8 0,.str [],.int .u8 0,.i6 0,.int .u64 0,.str [],.int .u32 0,.int .u32 0] 0 O=O:=cH (by rw[Z];rfl);have bW:=(y8 h x).2.1;have bu:=(C.al _ bW).1;have dz:=lY.1 h.wf _ bW;have dC:∀ y∈(eT s x).idsZ.l,(ao y).length=32:=fun y v=>br (bu.idsZ y v)
  have dD:∀ y∈(eT s x).opsZ.l,(au y).length=11:=fun y _=>rfl
  have dg:=xW (eT s x).idsZ.l x;have gi:(eT s x).idsZ.l.length<=1000000:=bu.li;have a4:=aY z;simp[q1,Z,e8,mp,fO,aB,bs,z,eD,dT,cN,aX,fz,az,bm,bl,cB,fb,ef,cy];refine BW (enc:=ao) (x:=x) BV bd bd (show gG prog 57=some 32 by kernel_rfl) F F bd dC (by rw[<-K];exact az) ((W.hi.frame fun b _ z=>aS z).c dC) (by rw[<-K];simp) (fun b n cap s e=>by have:=(W.hi.lt e).2;omega) (by rw[aG];exact dg) (by rw[cu];omega) fun bB eR cn=>?_
  have aT:∀ (c:Nat) (b:am),c<l.length->(∀ u dt n g t,oz=.ad u dt 0 n g t->c≠dt)->l[c]?=some b->bB[c]?=some b:=fun c b h1 m D=>by
   rw[cn c (by simp;omega) (fun b n cap s e=>m 32 b n cap s e),aS h1];exact D
  have a7:∀ c,c<=N->∀ u dt n g t,oz=.ad u dt 0 n g t->c≠dt:=fun c cm u dt n g t e=>by have:=(W.hi.lt e).1;omega
  have a9:∀ c,c<=N->∀ u dt n g t,w2=.ad u dt 0 n g t->c≠dt:=fun c cm u dt n g t e=>by have:=(W.ia.lt e).1;omega
  have cM:=aT j _ a4 (fun u dt n g t e=>(W.f1 u dt n g t e).symm) z;have fq:=aT N _ bk (a7 N (aF _)) aB;have fP:=aT 4 _ F (a7 4 F) aX;have dI:=aT 1 _ F (a7 1 F) q1;have dO:bB[l.length+1]?=some (.q 11 O):=by
   rw[cn (l.length+1) V (fun b n cap s e=>by have:=(W.hi.lt e).2;omega)];simp
  simp[cM,cN,dI,Z,bl,dO];have dP:eX 11 au bB (N+1) w2 (eT s x).opsZ:=W.ia.bo fun b h1 m u n g t e=>by
   rw[cn b (by simp;omega) (fun dt aA gv gC dX=>by have:=W.ap _ _ _ _ _ _ _ _ _ _ dX e;omega),aS m]
  refine BW (enc:=au) (x:=o) HI bd bd (show gG prog 55=some 112 by kernel_rfl) F F bd dD rfl (dP.c dD) (by rw[<-Y];exact dO) (fun b n cap s e=>by have:=(W.ia.lt e).2;omega) (by rw[aG,<-dz.1];exact dg) (by rw[cu,<-dz.1];omega) fun bC gb eI=>?_
  have ga:l.length<=bB.length:=by simp at eR;omega
  have aU:∀ (c:Nat) (b:am),c<l.length->(∀ u dt n g t,w2=.ad u dt 0 n g t->c≠dt)->bB[c]?=some b->bC[c]?=some b:=fun c b h1 m D=>by
   rw[eI c F (fun b n cap s e=>m 11 b n cap s e)];exact D
  have bE:=aU j _ a4 (fun u dt n g t e=>(W.f2 u dt n g t e).symm) cM;have fr:=aU N _ bk (a9 N (aF _)) fq;have fQ:=aU 4 _ F (a9 4 F) fP;have fx:=aU 1 _ F (a9 1 F) dI;have dl:=aY bE;have bG:∀ c' : am,(bC.set j c')[j]?=some c':=fun c'=>bT dl
  have hc:∀ a:List (ag),(U.bj 32 a).cells=some [.bj 32 a]:=fun a=>rfl
  have dW:∀ a:List (ag),(U.bj 11 a).cells=some [.bj 11 a]:=fun a=>rfl
  have fi:=aU 0 _ F (a9 0 F) (aT 0 _ F (a7 0 F) b3);have bg:∀ (c:Nat) (b:am) (c' : am),c≠j->bC[c]?=some b->(bC.set j c')[c]?=some b:=fun c b c' h1 m=>by rw[bp (fun e=>h1 e.symm)];exact m
  have fX:N<j:=by rcases bU with e | e;cases e;exact e
  have fj:=fun c'=>bg 0 _ c' F fi
  simp[bE,bG,hc,dW,fj,bv,c3];refine⟨F,F,?_⟩;have c8:=I7 (aL.cY (.inr (by rw[bE,z]))) bE dj (.bj 32 ((c9 (eT s x).idsZ.l aE x).map ao)) (.bj 11 ((c9 (eT s x).opsZ.l aE o).map au));obtain⟨M,aP⟩:=aq (bC.set j (.q H (aw (aw cs (iC*2) [.bj 32 ((c9 (eT s x).idsZ.l aE x).map ao)]) (iC*2+1) [.bj 11 ((c9 (eT s x).opsZ.l aE o).map au)])));rw[<-aP] at c8 ⊢;have ft:M[N]?=some (.q 3 [.ad 2 j 0 aA cap H,.af,.i6 (s.b6+1)]):=by rw[aP];exact bg N _ _ F fr
  have fV:M[4]?=some (.q 32 X):=by rw[aP];exact bg 4 _ _ F fQ
  have fy:M[1]?=some (.q 11 O):=by rw[aP];exact bg 1 _ _ F fx
  have fE:M[2]?=some (.q 3 [.af,.af,.i6 0]):=by rw[aP];exact bg 2 _ _ F (aU 2 _ F (a9 2 F) (aT 2 _ F (a7 2 F) cF))
  have fH:M[3]?=some (.q 32 (bO 32 (.int .u8 0))):=by rw[aP];exact bg 3 _ _ F (aU 3 _ F (a9 3 F) (aT 3 _ F (a7 3 F) cG))
  have cq:j<M.length:=by rw[aP];simpa using dl
  refine A7 s.ce C.ce (by have:=C.qz;omega) fun gD dQ gw fw=>?_
  have ff:∀ y∈s.ce.l,(ao y).length=32:=fun y v=>br (C.ce y v)
  obtain⟨HS,gq,fg,gu,fh⟩:=fw.own ff;have cL:∀ (c:Nat) (b:am),M[c]?=some b->(M++dQ)[c]?=some b:=fun c b z=>by rw[aS (aY z)];exact z
  simp;refine Gx eL fg (fun y v=>C.ce y v) (by have:=C.qz;omega) (T4 o aK (by rw[<-Y];exact cL 1 _ fy) F s.ce.l (fun y v=>C.ce y v)) fun r aW cv c1 gm eH=>?_
  have gf:M.length<=aW.length:=by have:=c1.le;simp at this;omega
  have R:∀ (c:Nat) (b:am),c<M.length->M[c]?=some b->aW[c]?=some b:=fun c b h1 m=>by rw[c1.same c (by simp;omega) F];exact cL c b m
  have n6:=R N _ F ft;have fR:=R 4 _ F fV;have eU:=c8.cY (l':=aW) (.inr (by
   obtain⟨y,v,_⟩:=aQ cq;rw[v];exact R j y cq v))
  have fp:=cv.cells;have es:=aY n6;have n7:(aW.set N (.q 3 [.ad 2 j 0 aA cap H,r,.i6 (s.b6+1)]))[N]?=some (.q 3 [.ad 2 j 0 aA cap H,r,.i6 (s.b6+1)]):=bT es;obtain⟨aN,a2⟩:=aq (aW.set N (.q 3 [.ad 2 j 0 aA cap H,r,.i6 (s.b6+1)]));have cJ:∀ (c:Nat) (b:am),c≠N->aW[c]?=some b->aN[c]?=some b:=fun c b h1 m=>by rw[a2,bp (fun e=>h1 e.symm)];exact m
  have cI:=cJ 4 _ F fR;have bZ:aJ 32 aN r HS ((s.ce.l.filter fun t=>!decide (t∈o.ay.l)).map ao):=by
   rw[a2];exact cv.cY (.inr (bp F))
  have eV:=eU.cY (l':=aN) (.inr (by rw[a2];exact bp F));simp[n6,fp,aw];rw[<-a2];rw[<-a2] at n7;obtain⟨lj,aO⟩:∃ lj:bP,lj.l=(s.ce.l.filter fun t=>!decide (t∈o.ay.l))/\lj.isNone=bq r:=by
   cases eM:bq r with
   | false=>exact⟨some _,rfl,rfl⟩
   | true=>
    have:=go.1 eM;subst this;have dh:=cv.q.pn;rw[nD] at dh;exact⟨none,dh.symm,rfl⟩
  have c5:cU lj:=fun y v=>by rw[aO.1] at v;exact C.ce y (c7.1 v).1
  have en:lj.l.length<=1000000:=by rw[aO.1];have:=hG (fun t=>!decide (t∈o.ay.l)) s.ce.l;have:=C.qz;omega
  have eo:bQ lj.l=true:=by
   rw[aO.1,<-h.vN];exact ub ((oo (BO (k1 h.lu).bQ)).sublist jT)
  have dx:=zx lj c5 en x b0 eo;have e4:=bZ.lP cP lj aO.2.symm aO.1;rw[<-K] at dx;simp[n7,cI,az,bm];refine g0 dx (.cons e4 (.cons (.same _ (by simp[U.ax,b1])) (.cons (.same _ rfl) .nil))) (by simp[U.flat,ka]) ?_;simp[n7,cI,az,bm,cB,ef,cy];have fe:∀ y∈lj.l,(ao y).length=32:=fun y v=>br (c5 y v)
  have eE:=xW lj.l x;have ew:xG 32 (aN++[am.q 32 X]) r (lj.l.map ao):=TI fh eH (by rw[aO.1];exact bZ.more _);have dr:∀ b n cap s,r=.ad 32 b 0 n cap s->b=HS:=fun b n cap s e=>by
   subst e;cases bZ;rfl
  have gc:aN.length=aW.length:=by rw[a2];simp
  refine BW (enc:=ao) (x:=x) BV bd bd (show gG prog 57=some 32 by kernel_rfl) F F bd fe (by rw[<-K];exact az) ew (by rw[<-K];simp) (fun b n cap s e=>by
   have:=dr b n cap s e;rcases bZ.lt with q | q
   ·rw[q] at e;cases e
   ·omega) eE (by rw[cu];omega) fun fu gd eJ=>?_
  have bz:∀ (c:Nat) (b:am),c<M.length->aN[c]?=some b->fu[c]?=some b:=fun c b h1 m=>by
   rw[eJ c (by simp;omega) (fun dt n cap s e=>by have:=dr dt n cap s e;omega),aS F];exact m
  have n8:=bz N _ F n7;have fS:=bz 4 _ F cI;have fD:=bz 2 _ F (cJ 2 _ F (R 2 _ F fE));have fG:=bz 3 _ F (cJ 3 _ F (R 3 _ F fH));have eW:=eV.cY (l':=fu) (.inr (by
   obtain⟨y,v,_⟩:=aQ (l:=aN) (k:=j) F;rw[v];exact bz j y cq v))
  have eu:=aY n8;obtain⟨a0,ci⟩:=aq (U.bj 32 ((c9 lj.l (er lj.l x) x).map ao));have dU:a0.cells=some [a0]:=by rw[ci];rfl
  obtain⟨aD,bI⟩:=aq (fu.set N (.q 3 [.ad 2 j 0 aA cap H,a0,.i6 (s.b6+1)]));have fs:aD[N]?=some (.q 3 [.ad 2 j 0 aA cap H,a0,.i6 (s.b6+1)]):=by rw[bI];exact bT eu
  have cK:∀ (c:Nat) (b:am),c≠N->fu[c]?=some b->aD[c]?=some b:=fun c b h1 m=>by rw[bI,bp (fun e=>h1 e.symm)];exact m
  have fU:=cK 4 _ F fS;have dL:=cK 2 _ F fD;have dM:=cK 3 _ F fG;have dn:=eW.cY (l':=aD) (.inr (by rw[bI];exact bp F));rw[<-ci];simp[n8,dU,aw];rw[<-bI];have eP:=aY dL;have eQ:=aY dM;have fM:∀ c:am,(aD.set 2 c)[3]?=some (.q 32 (bO 32 (.int .u8 0))):=fun c=>by rw[bp F];exact dM
  have fL:∀ c:am,(aD.set 2 c)[2]?=some c:=fun c=>bT eP
  have t29:∀ c d:am,((aD.set 2 c).set 3 d)[2]?=some c:=fun c d=>by rw[bp F];exact fL c
  have t39:∀ c d:am,((aD.set 2 c).set 3 d)[3]?=some d:=fun c d=>bT (by simpa using eQ)
  simp[fs,fU,dL,fM,t29,t39,aw,az,bm];have e1:bb (ib (eT s x) x o)=[.bj 32 ((c9 (eT s x).idsZ.l aE x).map ao),.bj 11 ((c9 (eT s x).opsZ.l aE o).map au)]:=by rw[aG];rfl
  have a6:eT s x=df s.al.l iC:=by unfold eT;rw[<-G]
  have e3:(gy s x o).al.l=s.al.l.set iC (ib (eT s x) x o):=by
   show s.al.l.set _ (ib (df s.al.l _) x o)=_;rw[<-G,<-a6]
  have e7:(mI s.al.l iC oz w2 k).set iC [.bj 32 ((c9 (eT s x).idsZ.l aE x).map ao),.bj 11 ((c9 (eT s x).opsZ.l aE o).map au)]=(gy s x o).al.l.map bb:=by
   rw[e3,<-e1];apply g7;intro i;by_cases dk:i<k
   ·by_cases bN:i=iC
    ·subst bN;rw[bT (by rw[zq];exact dk),bX,bT F];rfl
    ·obtain⟨p,dp,_⟩:=aQ (l:=s.al.l) (k:=i) F;rw[bp (fun e=>bN e.symm),Kg dk,ak bN,bX,bp (fun e=>bN e.symm),dp,dZ dp];rfl
   ·rw[dV (by rw[jU,zq];omega),dV (by rw[cC,jU];omega)]
  rw[e7] at dn;have eY:=dn.cY (l':=((aD.set 2 (am.q 3 [U.ad 2 j 0 aA cap H,a0,U.int IntKind.i64 (s.b6+1)])).set 3 (am.q 32 (X++List.drop 32 (bO 32 (U.int IntKind.u8 0)))))) (.inr (by rw[bp F,bp F]));have fK:=eY.q.jg oZ (gy s x o).al rfl rfl;have ep:a0=ai (gy s x o).ce:=by
   rw[ci,aO.1];rfl
  have eF:=bV (gy s x o).ce;refine .aZ _ _ rfl fun i c c' h1 m=>?_
  rcases i with _ | _ | _ | i
  ·simp at h1 m;subst h1 m;refine .ah _ _ rfl fun i c c' h1 m=>?_
   rcases i with _ | _ | _ | i
   ·simp[bM] at h1 m;subst h1 m;exact fK
   ·simp[bM] at h1 m;subst h1 m;rw[ep];exact .same _ eF
   ·simp[bM] at h1 m;subst h1 m;exact .same _ rfl
   ·simp at h1
  ·simp at h1 m;subst h1 m;exact .same _ (by simp[U.ax,b1])
  ·simp at h1 m;subst h1 m;exact .same _ rfl
  ·simp at h1
theorem HV {s:eR} {o:aM} (h:qu s o=1) :bJ o∉s.aD.l/\(∀ p∈o.ay.l,p∈s.aD.l)/\s.a2.b6≠s.cap:=by
 unfold qu at h;split at h
 ·cases h
 ·split at h
  ·split at h
   ·cases h
   ·rename_i a b c;exact⟨a,b,c⟩
  ·cases h
theorem Rw {s:eR} (h:iq s) {o:aM} (m:qu s o=1) :bJ o∉(b2 (bS s.a2)).idsZ.l/\(∀ p∈o.ay.l,p∈(b2 (bS s.a2)).idsZ.l)/\s.a2.b6<60:=by obtain⟨h1,g,t⟩:=HV m;refine⟨fun j=>h1 ((zG h _).2 j),fun p q=>(zG h p).1 (g p q),?_⟩;have:=h.lc;have:=h.vp;omega
theorem F0 (s:bH aW) (o:s.l.length<=1000000) {l:ae} {K:cv} (j:∀ w h,w.cells=some [w]->eX 2 bb (l++h) l.length w s->K w (l++h)) :
  cG 142 [e0 s] l K:=by
 apply cR func142 [];have p:=dw;have m:dP prog .eql 22 (e0 s) .af=some (.bool s.isNone):=vl (e:=70) bd 2 bb s;cases s with
 | none=>
  simp[m];simpa using j .af [] rfl (.inl ⟨rfl,rfl⟩)
 | some a=>
  have t:∀ y∈a,(bb y).length=2:=fun y _=>rfl
  have u:a.length<=1000000:=o;have g:=AP (enc:=bb) (z:=2) (by_:=48) (l++[am.q 0 []]) l.length V (some a) t F F (by show a.length*48<=_;rw[p];omega);change ep _ _ _ _ (e0 (some a))=_ at g;simp at g;simp[m,g];refine bY.bo ?_;simp;exact j _ [_] rfl (.inr ⟨l.length,aF _,rfl,rfl,V⟩)
def g2 (ps:List aW) (wk:Nat->U) (k:Nat) :List (ag):=(List.range ps.length).map fun i=>if i<k then [ai (df ps i).idsZ,wk i] else bb (df ps i)
theorem Kk (ps:List aW) (wk:Nat->U) :g2 ps wk 0=ps.map bb:=by
 unfold g2;apply g7;intro i;by_cases h:i<ps.length
 ·obtain⟨j,g,_⟩:=aQ h;rw[bX,g9 h,bX,g];simp[dZ g]
 ·rw[dV (by simp;omega),dV (by simp;omega)]
theorem pA (ps:List aW) (wk:Nat->U) (k:Nat) :(g2 ps wk k).length=ps.length:=by simp[g2]
theorem k6 {ps:List aW} {wk:Nat->U} {k:Nat}:∀ e∈g2 ps wk k,e.length=2:=fun e g=>by
 unfold g2 at g;obtain⟨i,_,rfl⟩:=cF.1 g;split<;>rfl
theorem sg {ps:List aW} {wk:Nat->U} {k i:Nat} (h:i<ps.length) :(g2 ps wk k)[i]?=some (if i<k then [ai (df ps i).idsZ,wk i] else bb (df ps i)):=by unfold g2;rw[bX,g9 h];rfl
theorem Kj {ps:List aW} {wk:Nat->U} {k:Nat} {w:U} (h:k<ps.length) :(g2 ps wk k).set k [ai (df ps k).idsZ,w]=g2 ps (fun i=>if i=k then w else wk i) (k+1):=by
 apply g7;intro i;by_cases g:i<ps.length
 ·by_cases e:i=k
  ·subst e;rw[bT (by rw[pA];exact g),sg g,aj F,aj rfl]
  ·rw[bp (fun m=>e m.symm),sg g,sg g];by_cases j:i<k
   ·rw[aj j,aj F,ak e]
   ·rw[ak j,ak F]
 ·rw[dV (by rw[jU,pA];omega),dV (by rw[pA];omega)]
theorem eX.rd {alZ:Type} {z:Nat} {enc:alZ->ag} {l:ae} {n:Nat} {w:U} {s:bH alZ} (h:eX z enc l n w s) (o:∀ y∈s.l,(enc y).length=z) (m:∀ y,ar (enc y)=true) :Rd l w (b0 z enc s):=by obtain⟨b,_,g,j,_⟩:=h.own o;exact g.q.jg m s j rfl
structure nM (ps:bH aW) (k n:Nat) (h:U) (L:ae) :Prop where
 ex:(ps=none/\h=.af)\/∃ (g:Nat) (wk:Nat->U),n<=g/\ps.isNone=false/\h=.ad 2 g 0 ps.l.length ps.l.length (ps.l.length*2)/\L[g]?=some (.q (ps.l.length*2) (g2 ps.l wk k).flatten)/\∀ i,i<k->i<ps.l.length->eX 11 au L (g+1) (wk i) (df ps.l i).opsZ
theorem nM.frame {ps:bH aW} {k n:Nat} {o:U} {L L' : ae} (h:nM ps k n o L) (j:∀ b,n<=b->b<L.length->L'[b]?=L[b]?) :nM ps k n o L':=by
 rcases h.ex with h | ⟨m,z,h1,p,q,g,t⟩
 ·exact⟨.inl h⟩
 ·exact⟨.inr ⟨m,z,h1,p,q,by rw[j m h1 (aY g)];exact g,fun i v w=>(t i v w).frame fun b B u=>j b F u⟩⟩
theorem nM.cells {ps:bH aW} {k n:Nat} {g:U} {L:ae} (h:nM ps k n g L) :g.cells=some [g]:=by rcases h.ex with ⟨_,rfl⟩ | ⟨j,m,_,_,rfl,_⟩<;>rfl
theorem nM.rd {ps:bH aW} {n:Nat} {v:U} {L:ae} (h:nM ps ps.l.length n v L) :Rd L v (e0 ps):=by
 rcases h.ex with ⟨rfl,rfl⟩ | ⟨I,w,h1,z,rfl,B,C⟩
 ·exact .same _ rfl
 ·have g:e0 ps=.bj 2 (ps.l.map bb):=by
   cases ps with
   | none=>cases z
   | some a=>rfl
  rw[g];have D:=hx (k6 (ps:=ps.l) (wk:=w) (k:=ps.l.length));rw[pA] at D;refine .ad 2 I 0 _ _ _ _ _ B V (fun e g=>by obtain⟨y,_,rfl⟩:=cF.1 g;rfl) F fun i H e c J g o j=>?_
  have m:i<ps.l.length:=by have:=(aH.1 g).1;simpa using this
  obtain⟨p,u,_⟩:=aQ m;rw[bX,u] at g;obtain rfl:=cd g;have t:df ps.l i=p:=dZ u;have G:H<2:=by have:=(aH.1 o).1;exact this
  have q:=lx k6 (sg (ps:=ps.l) (wk:=w) (k:=ps.l.length) m) G;rw[aj m,t] at q;rw[gT,q] at j;rcases lB o with ⟨rfl,rfl⟩ | ⟨rfl,rfl⟩
  ·simp at j;subst j;exact .same _ (bV _)
  ·simp at j;subst j;have:=C i m m;rw[t] at this;exact this.rd (fun _ _=>rfl) dN
end Op
end Go.bf
namespace Go.bf
open Go Go.Proofs Go.Proofs.Tryz Go.RowKit
section
variable {P:bg} {n:Nat}
theorem Ty {o:a6} {a:Act} {w:aO} {K j:Act->aO->Prop} {Q rm:Exit->Act->aO->Prop} (g:∀ a w,K a w->j a w) (p:∀ e a w,e≠.normal->Q e a w->rm e a w) (h:o.wp P a w K Q) :o.wpIn Fence.wide n P a w j rm:=by
 unfold Oper.wp at h;refine⟨fun _ _=>trivial,?_⟩;show o.uponIn Fence.wide n P a j rm ((execOp a.eval o).run P w);cases u:(execOp a.eval o).run P w with
 | ok x w'=>
  rw[u] at h;cases x with
  | value t=>exact g _ _ h
  | skip=>exact g _ _ h
  | defer d=>exact g _ _ h
  | enter f args=>
   refine⟨fun q=>(by cases q),(callsIn_wide.2 h).mono ?_⟩;rintro (t | C | _) D m
   ·exact g _ _ m
   ·exact p _ _ _ V m
   ·obtain⟨v,B,z⟩:=m;exact⟨v,B,p _ _ _ V z⟩
  | row r args=>exact⟨fun q=>(by cases q),fun c cs _=>let ⟨t,w',r,s⟩:=h c cs;⟨t,w',g _ _ r,stepsIn_wide.2 s⟩⟩
  | _=>exact h.elim
 | halt e w'=>
  rw[u] at h;cases e<;>first | exact p _ _ _ V h | exact h.elim
theorem Ce {all:Array a6} {Q:Exit->Act->aO->Prop}:∀ {l1 j:List a6} {a:Act} {w:aO},
  wpList P all (fun e a w=>match e with | .normal=>wpListIn Fence.wide n P all Q j a w | _=>False) l1 a w->wpListIn Fence.wide n P all Q (l1++j) a w
 | [],j,a,w,h=>h
 | q::l1,j,a,w,h=>by
  rw[jo];unfold wpList at h;unfold wpListIn;split
  ·rename_i m;rw[aj m] at h;rcases h with h | ⟨_,p,t,g⟩
   ·refine Ty (fun a w g=>Ce g) (fun e a w o g=>?_) h;cases e<;>first | exact bK rfl o | exact g.elim
   ·exact g.elim
  ·rename_i m;rw[ak m] at h;exact⟨fun _ _=>trivial,Ce h⟩
end
section
variable {P:bg} {n:Nat}
def fN (fn:cb) (tmps:Array aB) (ps:Array Tmp) (body:Code) (D:Nat) (st:LoopState) (g:Option Code) :Loop:={ state:=st,pending:=g,fn,tmps:=tmps,params:=ps,assign:=.skip,body:=body,defers:=D }
theorem UW {g:aT} {ps:Array Tmp} {h:Code} {Q:Exit->Act->aO->Prop} {a:Act} {w:aO} {gf:Nat} {lb:Array aB}
  (ag:a.eval g=.func (.func gf) #[] lb) (S:∀ args w,(callFunc gf args).run P w=.ok (.enter gf args) w) (aq:ps.size=1)
  {A B:Prop} (C:aO->aO->Prop) (K:∀ W z,C W z->KeepsOthers W z)
  (V:∀ (fn:cb) (x:aB) (W:aO),eo ((w.alloc (.deferred (some []))).alloc (.loop (fN fn a.tmps ps h w.heap.size .ready none))) W->
   h.wpIn (Fence.wide.inRound (w.heap.size+1)) n P (fun e _ z=>e=.ret/\C (W.putObj (w.heap.size+1) (.loop (fN fn a.tmps ps h w.heap.size .busy none))) z)
    { tmps:=(ps.zip #[x]).foldl (fun t (p,v)=>t.setIfInBounds p v) a.tmps,defers:=[] } (W.putObj (w.heap.size+1) (.loop (fN fn a.tmps ps h w.heap.size .busy none))))
  (X:∀ (fn:cb) (ht:aO),ht=(w.alloc (.deferred (some []))).alloc (.loop (fN fn a.tmps ps h w.heap.size .ready none))->
   (∀ (x:aB) (W:aO),eo ht W->YieldAt Fence.wide n P (w.heap.size+1) #[x] W fun e z=>e=.returned (.bool false)/\∃ m,C (W.putObj (w.heap.size+1) (.loop (fN fn a.tmps ps h w.heap.size .busy none))) m ∧
    z=m.putObj (w.heap.size+1) (.loop (fN fn a.tmps ps h w.heap.size .done (some .ret))))->
   CallsIn Fence.wide (n - 1) P gf (#[.func (.yield (w.heap.size+1)) #[] #[]]++lb) ht fun e j=>(∃ v,e=.returned v)/\((A/\eo ht j) ∨
    (B/\∃ W m,eo ht W/\C (W.putObj (w.heap.size+1) (.loop (fN fn a.tmps ps h w.heap.size .busy none))) m/\eo (m.putObj (w.heap.size+1) (.loop (fN fn a.tmps ps h w.heap.size .done (some .ret)))) j)))
  (Z:∀ (fn:cb) (ht j:aO),ht=(w.alloc (.deferred (some []))).alloc (.loop (fN fn a.tmps ps h w.heap.size .ready none))->A->eo ht j->
   Q .normal { a with defers:={ target:=.collected w.heap.size,args:=#[] }::a.defers } (j.putObj (w.heap.size+1) (.loop (fN fn a.tmps ps h w.heap.size .exhausted none))))
  (ak:∀ (fn:cb) (ht W m j:aO),ht=(w.alloc (.deferred (some []))).alloc (.loop (fN fn a.tmps ps h w.heap.size .ready none))->B->eo ht W->
   C (W.putObj (w.heap.size+1) (.loop (fN fn a.tmps ps h w.heap.size .busy none))) m->eo (m.putObj (w.heap.size+1) (.loop (fN fn a.tmps ps h w.heap.size .done (some .ret)))) j->
   Q .ret { a with defers:={ target:=.collected w.heap.size,args:=#[] }::a.defers } (j.putObj (w.heap.size+1) (.loop (fN fn a.tmps ps h w.heap.size .exhausted (some .ret))))) :
  (Code.rangeFunc g ps .skip h).wpIn Fence.wide n P Q a w:=by
 refine wpIn_rangeFunc ?_;intro fn ae;rw[Fence.wide_round];obtain⟨ht,q⟩:∃ ht,(w.alloc (.deferred (some []))).alloc (.loop (fN fn a.tmps ps h w.heap.size .ready none))=ht:=⟨_,rfl⟩
 have G:ht.heap[w.heap.size+1]?=some (.loop (fN fn a.tmps ps h w.heap.size .ready none)):=by
  rw[<-q];have:=World.alloc_heap_new (w.alloc (.deferred (some []))) (.loop (fN fn a.tmps ps h w.heap.size .ready none));rwa [World.size_alloc] at this
 have ar:ht.heap.size=w.heap.size+2:=by rw[<-q];simp
 refine⟨w.heap.size+1,[{ target:=.collected w.heap.size,args:=#[] }],ht,{ target:=.fn (.func gf) lb,args:=#[.func (.yield (w.heap.size+1)) #[] #[]] },ht,gf,
  #[.func (.yield (w.heap.size+1)) #[] #[]]++lb,ht,?_,?_,?_,?_,fun Y=>(by cases Y),?_⟩
 ·rw[<-q];exact run_enterLoop_outer _ _ _ _ _
 ·simp only[resolve,ag];simp[go_sem]
 ·intro ao ap;trivial
 ·simp[invoke,go_sem,S]
 ·refine (X fn ht q.symm fun x W o=>?_).mono ?_
  ·have u:W.heap[w.heap.size+1]?=some (.loop (fN fn a.tmps ps h w.heap.size .ready none)):=(o.toBelow.block _ F).trans G;have J:w.heap.size+1<W.heap.size:=(hT.1 u).1;have al:=run_yield (P:=P) (args:=#[x]) u (by show 1=ps.size;omega);refine⟨fn,_,.skip,h,al,roundIn_of_wpIn ae (wpIn_skip ⟨_,run_beginRound u rfl,?_⟩)⟩;have H:(W.putObj (w.heap.size+1) (.loop (fN fn a.tmps ps h w.heap.size .busy none))).heap[w.heap.size+1]?=some (.loop (fN fn a.tmps ps h w.heap.size .busy none)):=World.putObj_heap_same J;refine wpIn_mono (V fn x W (by rw[q];exact o)) ?_;rintro e am m ⟨rfl,D⟩;have I:=(K _ _ D).same _ _ H rfl;have aj:=run_endRound (P:=P) (some .ret) I;exact⟨_,_,aj,rfl,m,D,rfl⟩
  ·rintro e j ⟨⟨v,rfl⟩,(⟨T,o⟩ | ⟨U,W,m,o,D,O⟩)⟩
   ·have u:j.heap[w.heap.size+1]?=some (.loop (fN fn a.tmps ps h w.heap.size .ready none)):=(o.toBelow.block _ F).trans G;exact⟨none,_,run_endLoop (P:=P) u (by simp[fN]),Z fn ht j q.symm T o⟩
   ·have u:W.heap[w.heap.size+1]?=some (.loop (fN fn a.tmps ps h w.heap.size .ready none)):=(o.toBelow.block _ F).trans G;have J:w.heap.size+1<W.heap.size:=(hT.1 u).1;have H:(W.putObj (w.heap.size+1) (.loop (fN fn a.tmps ps h w.heap.size .busy none))).heap[w.heap.size+1]?=some (.loop (fN fn a.tmps ps h w.heap.size .busy none)):=World.putObj_heap_same J;have I:=(K _ _ D).same _ _ H rfl;have R:=(hT.1 I).1;have ai:j.heap[w.heap.size+1]?=some (.loop (fN fn a.tmps ps h w.heap.size .done (some .ret))):=(O.toBelow.block _ (by simpa using R)).trans (World.putObj_heap_same R);exact⟨some .ret,_,run_endLoop (P:=P) ai (by simp[fN]),wpIn_ret (ak fn ht W m j q.symm U o D O)⟩
end
def hS:Code->List Bool->Code
 | c,[]=>c
 | .seq a b,d::r=>hS (if d then b else a) r
 | .block _ c,_::r=>hS c r
 | .loop c,_::r=>hS c r
 | .cond _ a b,d::r=>hS (if d then b else a) r
 | .rangeFunc _ _ a b,d::r=>hS (if d then b else a) r
 | c,_::_=>c
def jH:Code->Array a6
 | .region _ g _=>g
 | _=>#[]
section
variable {P:bg} {G:Nat->U}
theorem o4 (u:P.follows .mixedOrders=true) (o:∀ g,(G g).ax=true) {N n:Nat} {code:Code} {c:fC} (q:comp P N code=some c) {sgZ:aP} {l:ae} {K:fD} (v:run P G c sgZ l K)
  {R:Nat->Prop} {B:Nat} {w:aO} {muZ:bU} {a:Act} {Q:Exit->Act->aO->Prop} (rel:bu R B w (aU l) muZ) (g:jr G w R (aU l) muZ) (s:gF N w R (aU l) muZ sgZ a)
  (p:∀ e h w' muZ' j l',K e j l'->cN w (aU l) muZ w' (aU l') muZ'->bu R B w' (aU l') muZ'->gF N w' R (aU l') muZ' j h->Q e.out h w') :code.wpIn Fence.wide n P Q a w:=by obtain⟨e,j,l',t,_,hk⟩:=Kr (aF N) code c q sgZ l K v;obtain⟨F,z⟩:=sn u o t;exact wpIn_wide.2 (lf.wp (z R B w muZ a Q rel g s fun h w' muZ' m C D=>p e h w' muZ' j l' hk m C D))
theorem Jc (D:P.follows .mixedOrders=true) (t:∀ g,(G g).ax=true) {N n:Nat} {opsZ:Array a6} (u:∀ (i:Nat) (o:a6),opsZ[i]?=some o->hw N o.dst=true) {p:List c0} {os m:List a6} (z:kF P opsZ p os)
  {sgZ:aP} {l:ae} {K:aP->ae->Prop} (F:ie P G p sgZ l K)
  {R:Nat->Prop} {B:Nat} {w:aO} {muZ:bU} {a:Act} {Q:Exit->Act->aO->Prop} (rel:bu R B w (aU l) muZ) (g:jr G w R (aU l) muZ) (s:gF N w R (aU l) muZ sgZ a)
  (v:∀ h w' muZ' j l',K j l'->cN w (aU l) muZ w' (aU l') muZ'->bu R B w' (aU l') muZ'->gF N w' R (aU l') muZ' j h->wpListIn Fence.wide n P opsZ Q m h w') :wpListIn Fence.wide n P opsZ Q (os++m) a w:=by obtain⟨j,l',C,_,hk⟩:=wR u z F;refine Ce ?_;exact sn D t C R B w muZ a _ rel g s fun h w' muZ' q H I=>v h w' muZ' j l' hk q H I
theorem Vu {n m:Nat} {l:Nat} {f:cb} {tmps:Array aB} {assign g:Code} {w:aO} {R:Ending->aO->Prop} (h:RoundIn Fence.wide n P l f tmps assign g w R) :RoundIn Fence.wide m P l f tmps assign g w R:=
 ⟨h.1,fun c cs _=>h.2 c cs (room_wide _)⟩
theorem Jt {R:Nat->Prop} {B:Nat} {w:aO} {l:ae} {muZ:bU} (rel:bu R B w (aU l) muZ) {b sz:Nat} {cs:ag} (O:l[b]?=some (.q sz cs)) (P:ar cs=true) {v:aB} (S:az w R (aU l) muZ (.ptr b 0 sz) v) :c5 w R (.bR cs 0) v:=by
 have m:(aU l).f b=.q sz cs:=hq.2 O;cases S with
 | iQ _ _ _ a Q=>
  rcases Q with h | ⟨n,G,h,W⟩
  ·rw[m] at h;cases h
  ·rw[m] at h;injection h with h1 I;omega
 | ptr _ _ _ G j u C=>
  rw[m] at u;injection u with _ H
  subst H;have z:=rel.blk b j C;rw[m] at z;obtain⟨h1,I,arr,e,T,J,U,V,t⟩:=z;have K:R j.r:=rel.up _ (rel.base b j (by rw[m];rfl) C);refine .bR cs 0 j.r j.s (fun g=>(arr[j.s+g]?).getD undef) (fun g o=>?_) fun g c o=>?_
  ·obtain⟨v,p,D,F⟩:=t g cs[g] (bC o);rw[p];refine⟨?_,D,K,mD _ _⟩;simp only[World.cell?,J];simpa using p
  ·obtain⟨v,p,D,F⟩:=t g c o;rw[p];exact (m3 F (rx P g c o)).up fun k _ hk=>⟨hk.1,mD _ _⟩
theorem c5.kJ {w w' : aO} {A:Nat->Prop} {c:U} {v:aB} (h:c5 w A c v) (g:eo w w') :c5 w' A c v:=by obtain⟨e,_⟩:=py (ui w (fun k=>A k\/w.heap.size<=k) fun k hk=>.inr hk) g;exact az.jz (R:=A) (⟨e.os,e.tape,e.output,e.size,e.bo,e.own,e.cells,e.gone,e.wo,e.n,e.drawn⟩) h
end
namespace Op
open b8
def u4 (g h j m:Array a6) :Code:=.seq (.region 1 g false) (.seq (.cond (.tmp 10) .skip (.exit 0)) (.seq (.block 1 (.seq (.region 2 h false) (.seq (.region 3 j false) (.cond (.tmp 23) .ret .skip)))) (.region 4 m false)))
def rD (cap m:Int) (j g:U) (h:bP) :ag:=[.int .i64 cap,j,g,.int .i64 m,ai h]
theorem F5 {cap p:Int} {h g:U} {o:bP} (m:h.ax=true) (j:g.ax=true) :ar (rD cap p h g o)=true:=by simp[rD,ar,m,j,bV,U.ax]
structure oK (E:ag) (ps:bP) (S:ag) (h:Nat) (j:aO) (k:Nat) (a:Go.Act) (W:aO) :Prop where
 size:a.tmps.size=25
 defers:a.defers=[]
 t0:a.tmps.getD 0 undef=.func (.yield h) #[] #[]
 t8:a.tmps.getD 8 undef=.int .i64 ps.l.length
 t9:a.tmps.getD 9 undef=.int .i64 k
 ex:∃ A,c5 W A (.bR (E) 0) (a.tmps.getD 1 undef)/\c5 W A (.bR S 0) (a.tmps.getD 2 undef)/\c5 W A (ai ps) (a.tmps.getD 7 undef)/\∀ g,c5 W A (GS g) (.pointer (some ⟨g,0,none⟩))
 kJ:eo j W
def jj (E:ag) (ps:bP) (S:ag) (g k:Nat) :aP:=bh (bh (bh (bh (bh (bh (fun _=>U.bad) 0 (.fa g)) 1 (.bR (E) 0)) 2 (.bR S 0)) 7 (ai ps)) 8 (.int .i64 ps.l.length)) 9 (.int .i64 k)
theorem oK.wX {E:ag} {ps:bP} {S:ag} {j:Nat} {w:aO} {k:Nat} {a:Go.Act} {W:aO} (h:oK E ps S j w k a W) :
  ∃ R:Nat->Prop,bu R W.heap.size W (aU []) (fun _=>none)/\jr GS W R (aU []) (fun _=>none)/\gF 25 W R (aU []) (fun _=>none) (jj E ps S j k) a:=by
 obtain⟨A,h1,z,B,D⟩:=h.ex;have up:∀ {c:U} {v:aB},c5 W A c v->az W (fun k=>A k\/W.heap.size<=k) aE.empty (fun _=>none) c v:=fun C=>C.up (fun k _ hk=>⟨.inl hk,mD _ k⟩)
 refine⟨fun k=>A k\/W.heap.size<=k,ui W _ fun k hk=>.inr hk,fun u=>⟨ed u,up (D u)⟩,h.size,h.defers,fun g=>?_⟩;unfold jj;by_cases t:g=9
 ·subst t;rw[fJ,h.t9];exact .int _ _
 rw[bE _ _ _ _ t];by_cases a7:g=8
 ·subst a7;rw[fJ,h.t8];exact .int _ _
 rw[bE _ _ _ _ a7];by_cases q:g=7
 ·subst q;rw[fJ];exact up B
 rw[bE _ _ _ _ q];by_cases p:g=2
 ·subst p;rw[fJ];exact up z
 rw[bE _ _ _ _ p];by_cases o:g=1
 ·subst o;rw[fJ];exact up h1
 rw[bE _ _ _ _ o];by_cases m:g=0
 ·subst m;rw[fJ,h.t0];exact .fa _
 rw[bE _ _ _ _ m];exact .bad _
theorem tf {w w' : aO} {h' : aE} {muZ' : bU} (e:cN w aE.empty (fun _=>none) w' h' muZ') :eo w w':=⟨⟨e.os,e.tape,e.output,e.size,fun k hk=>e.bo k hk (mD _ k)⟩,e.drawn⟩
theorem nU {a b c:aO} (h1:eo a b) (g:eo b c) :eo a c:=⟨h1.toBelow.trans (g.toBelow.mono h1.toBelow.size),dC h1.drawn g.drawn⟩
theorem N4 (w:aO) :eo w w:=⟨RowKit.Below.refl _ w,aF _⟩
theorem oK.mk' {E:ag} {ps:bP} {S:ag} (u:ar E=true) (v:ar S=true) {p:Nat} {q W i2:aO} {k:Nat} {j:Go.Act} {R:Nat->Prop} {l' : ae} {muZ' : bU} {h:aP} (w:eo q W) (e:cN W aE.empty (fun _=>none) i2 (aU l') muZ') (g:jr GS i2 R (aU l') muZ') (s:gF 25 i2 R (aU l') muZ' h j)
  (C:h 0=.fa p) (D:h 1=.bR (E) 0) (F:h 2=.bR S 0) (G:h 7=ai ps) (H:h 8=.int .i64 ps.l.length) (I:h 9=.int .i64 k) :oK E ps S p q k j i2:=by
 have o:∀ {m:Nat} {c:U},h m=c->c.ax=true->c5 i2 (fun k=>R k) c (j.tmps.getD m undef):=fun {m c} B z=>by
  have:=s.val m;rw[B] at this;exact (m3 this z).up fun k _ hk=>⟨hk.1,mD _ k⟩
 refine⟨s.size,s.defers,?_,?_,?_,⟨fun k=>R k,o D (by simp[U.ax,u]),o F (by simp[U.ax,v]),o G (bV _),fun i=>(m3 (g i).2 (g i).1).up fun k _ hk=>⟨hk.1,mD _ k⟩⟩,nU w (tf e)⟩
 ·have:=s.val 0;rw[C] at this;generalize j.tmps.getD 0 undef=t at this ⊢;cases this;rfl
 ·have:=s.val 8;rw[H] at this;generalize j.tmps.getD 8 undef=t at this ⊢;cases this;rfl
 ·have:=s.val 9;rw[I] at this;generalize j.tmps.getD 9 undef=t at this ⊢;cases this;rfl
abbrev R6:List c0:=[ez 0 6 (.m6 1 (cM 1)),ez 1 7 (.ld1 (cM 6)),ez 2 8 (.len (.ad 32) (cM 7)),ez 3 9 (.dS (.const (.int .i64 0)))]
abbrev R7:List c0:=[ez 0 10 (.bin .lss 3 (cM 9) (cM 8))]
abbrev R8:List c0:=[ez 0 11 (.rS (.ad 32) (cM 7) (cM 9)),ez 1 12 (.jD 32 (cM 11)),ez 2 5 (.alloc (bO 32 (.int .u8 0))),wT 3 (.st 32 (cM 5) (cM 12))]
abbrev R9:List c0:=[ez 0 13 (.m6 4 (cM 2)),ez 1 14 (.ld1 (cM 13)),ez 2 15 (.jD 32 (cM 5)),sc 3 16 66 [(cM 14),(cM 15)],ez 4 17 (.un .not (cM 16)),jN 5 18 17,ut 6 19 18 true (.dS (cM 0)),ut 7 20 18 true (.jD 32 (cM 5))]
abbrev Sa:List c0:=[ut 9 22 18 true (.un .not (cM 21)),ez 10 23 (.pick (cM 18) (cM 22) (.const (.bool false)))]
theorem vf {P:bg} {opsZ:Array a6}:∀ {idx:List Nat} {h:List c0} {os:List a6},idx.mapM (fun i=>uy P opsZ i [] false)=some h->os.map some=idx.map (fun i=>opsZ[i]?)->kF P opsZ h os:=by intro idx h os h1 g;exact AO (fun i x m=>by obtain⟨o,g,j,_⟩:=wZ m;exact⟨o,g,j⟩) h1 g.symm
def Cj:fC:=(.seq (.jh [ez 0 10 (.bin .lss 3 (cM 9) (cM 8))]) (.seq (.cond (cM 10) .skip (.exit 0)) (.seq (.block 1 (.seq (.jh [ez 0 11 (.rS (.ad 32) (cM 7) (cM 9)),ez 1 12 (.jD 32 (cM 11)),ez 2 5 (.alloc (bO 32 (.int .u8 0))),wT 3 (.st 32 (cM 5) (cM 12))]) (.seq (.jh [ez 0 13 (.m6 4 (cM 2)),ez 1 14 (.ld1 (cM 13)),ez 2 15 (.jD 32 (cM 5)),sc 3 16 66 [(cM 14),(cM 15)],ez 4 17 (.un .not (cM 16)),jN 5 18 17,ut 6 19 18 true (.dS (cM 0)),ut 7 20 18 true (.jD 32 (cM 5)),⟨8,(some 21),(some ((some 18),true)),.lr (cM 19) [(cM 20)],[],false⟩,ut 9 22 18 true (.un .not (cM 21)),ez 10 23 (.pick (cM 18) (cM 22) (.const (.bool false)))]) (.cond (cM 23) .ret .skip)))) (.jh [ez 0 24 (.bin .add 3 (cM 9) (.const (.int .i64 1))),jN 1 9 24]))))
structure MW (p j m g q:Array a6) (h:a6) :Prop where
 body:Tryz.f206.body=some (.seq (.region 0 p false) (.block 0 (.loop (u4 j m g q))))
 A4:comp prog 25 (.region 0 p false)=some (.jh R6)
 j3:comp prog 25 (.region 1 j false)=some (.jh R7)
 xT:comp prog 25 (.region 2 m false)=some (.jh R8)
 FR:comp prog 25 (u4 j m g q)=some Cj
 split:g.toList=g.toList.take 8++(h::(g.toList.drop 9++[]))
 Tk:kF prog g R9 (g.toList.take 8)
 Tl:kF prog g Sa (g.toList.drop 9)
 Gz:∀ (i:Nat) (o:a6),g[i]?=some o->hw 25 o.dst=true
 Tf:h.op=.call { callee:=.value (.tmp 19),args:=#[.tmp 20],argTypes:=#[57] }
 Td:h.dst=some 21
 Te:h.guard=some (5,true)
 Tb:(g[5]?).bind (·.dst)=some 18
theorem PB {R:Array a6} (g:(R.toList.all fun o=>hw 25 o.dst)=true) (i:Nat) (o:a6) (h:R[i]?=some o) :hw 25 o.dst=true:=by exact fW.1 g o (by rw[<-pP] at h;exact cz h)
theorem Ib:∃ g h j m o Tc,MW g h j m o Tc:=
 ⟨jH (hS ((Tryz.f206.body).getD .skip) [false]),
  jH (hS ((Tryz.f206.body).getD .skip) [true,false,false,false]),
  jH (hS ((Tryz.f206.body).getD .skip) [true,false,false,true,true,false,false,false]),
  jH (hS ((Tryz.f206.body).getD .skip) [true,false,false,true,true,false,false,true,false]),
  jH (hS ((Tryz.f206.body).getD .skip) [true,false,false,true,true,true]),
  ((jH (hS ((Tryz.f206.body).getD .skip) [true,false,false,true,true,false,false,true,false])).toList.drop 8).headD { op:=.move (.tmp 0),dst:=none,type:=0,pos:= "",after:=#[],guard:=none },
  ⟨by kernel_rfl,by kernel_rfl,by kernel_rfl,by kernel_rfl,by kernel_rfl,by kernel_rfl,vf (idx:=[0,1,2,3,4,5,6,7]) bd bd,vf (idx:=[9,10]) bd bd,
  PB bd,by kernel_rfl,by kernel_rfl,by kernel_rfl,by kernel_rfl⟩⟩
theorem w9 {sgZ:aP} {N:Nat} {W:aO} {R:Nat->Prop} {h:aE} {muZ:bU} {a:Go.Act} (s:gF N W R h muZ sgZ a) {t:Nat} {b:Bool} (g:sgZ t=.bool b) :a.tmps.getD t undef=.bool b:=by have:=s.val t;rw[g] at this;generalize a.tmps.getD t undef=j at this ⊢;cases this;rfl
theorem Yg {sgZ:aP} {N:Nat} {W:aO} {R:Nat->Prop} {h:aE} {muZ:bU} {a:Go.Act} (s:gF N W R h muZ sgZ a) {t l:Nat} (g:sgZ t=.fa l) :a.tmps.getD t undef=.func (.yield l) #[] #[]:=by have:=s.val t;rw[g] at this;generalize a.tmps.getD t undef=j at this ⊢;cases this;rfl
theorem Kz (E:ag) (ps:bP) (S:ag) (fY k:Nat) :jj E ps S fY k 0=.fa fY:=by simp[jj]
theorem VZ (E:ag) (ps:bP) (S:ag) (g k:Nat) :jj E ps S g k 1=.bR (E) 0:=by simp[jj]
theorem DD (E:ag) (ps:bP) (S:ag) (g k:Nat) :jj E ps S g k 2=.bR S 0:=by simp[jj]
theorem DE (E:ag) (ps:bP) (S:ag) (g k:Nat) :jj E ps S g k 7=ai ps:=by simp[jj]
theorem zz (E:ag) (ps:bP) (S:ag) (g k:Nat) :jj E ps S g k 8=.i6 ps.l.length:=by simp[jj]
theorem zA (E:ag) (ps:bP) (S:ag) (g k:Nat) :jj E ps S g k 9=.i6 k:=by simp[jj]
theorem Sv (E:ag) (ps:bP) (bg:ar E=true) (bS:E.length=11) (bQ:∀ h:1<E.length,E[1]'h=ai ps) (ck:cU ps) (cQ:ps.l.length<=1000000) (ord:bP) (ci:cU ord) (ch:ord.l.length<=1000000) (cap bC:Int) (aW aT:U) (cj:aW.ax=true) (cd:aT.ax=true) {n fY:Nat} {p:aO} {A:Nat->Prop} {mF kn:aB}
  (h1:c5 p A (.bR (E) 0) mF) (bb:c5 p A (.bR (rD cap bC aW aT ord) 0) kn) (bl:∀ g,c5 p A (GS g) (.pointer (some ⟨g,0,none⟩)))
  {Z:aO->aO->Prop} {m:Nat} (bZ:∀ (x:aB) (W:aO),eo p W->YieldAt Fence.wide m prog fY #[x] W fun e u=>e=.returned (.bool false)/\Z W u)
  (b0:∀ W u,eo p W->Z W u->∃ A,∀ g,c5 u A (GS g) (.pointer (some ⟨g,0,none⟩))) :
  CallsIn Fence.wide n prog 206 (#[.func (.yield fY) #[] #[]]++#[mF,kn]) p fun e hu=>(∃ v,e=.returned v) ∧
   (((∀ x∈ps.l,x∈ord.l)/\eo p hu)\/((¬ ∀ x∈ps.l,x∈ord.l)/\∃ W u,eo p W/\Z W u/\eo u hu)):=by
 obtain⟨cI,a1,a2,T,a3,aV,M⟩:=Ib;obtain⟨o,au⟩:=aq (rD cap bC aW aT ord);have bi:ar o=true:=by rw[au];exact F5 cj cd
 have bf:o.length=5:=by rw[au];rfl
 have bU:o[4]?=some (ai ord):=by rw[au];rfl
 have bc:∀ h:4<o.length,o[4]'h=ai ord:=fun h=>(aH.1 bU).2
 rw[<-au] at bb;have D:prog.follows .mixedOrders=true:=checked.mixed;have cf:bt (.ad 32) (ai ps)=_:=ca _;refine callsIn_of_wp (fn:=Tryz.f206) func206 M.body trivial ?_ rfl;obtain⟨S,aM⟩:∃ S,S=bodyPost prog Tryz.f206 (fun e hu=>(∃ v,e=Ending.returned v) ∧
   (((∀ x∈ps.l,x∈ord.l)/\eo p hu)\/((¬ ∀ x∈ps.l,x∈ord.l)/\∃ W u,eo p W/\Z W u/\eo u hu))):=⟨_,rfl⟩
 rw[<-aM];have bo:∀ (a:Go.Act) (W:aO),(results Tryz.f206 a.tmps).run prog W=.ok (.tuple #[]) W:=fun a W=>results_none rfl _ _ _
 -- the start
 have bn:Tryz.f206.ntmps=25:=bd;obtain⟨G,ak⟩:=aq (#[.func (.yield fY) #[] #[]]++#[mF,kn]++Array.replicate (Tryz.f206.ntmps - (#[.func (.yield fY) #[] #[]]++#[mF,kn] :Array aB).size) undef:Array aB);rw[<-ak];rw[bn] at ak;have bX:G.size=25:=by rw[ak];simp
 have al:G=#[.func (.yield fY) #[] #[],mF,kn]++Array.replicate 22 undef:=by rw[ak];rfl
 have up:∀ {c:U} {v:aB},c5 p A c v->az p (fun k=>A k\/p.heap.size<=k) aE.empty (fun _=>none) c v:=fun aR=>aR.up (fun k _ hk=>⟨.inl hk,mD _ k⟩)
 have b7:G.getD 0 undef=.func (.yield fY) #[] #[]:=by rw[al,g6];simp
 have b8:G.getD (0+1) undef=mF:=by rw[al,g6];simp
 have b9:G.getD (0+1+1) undef=kn:=by rw[al,g6];simp
 have cb:∀ t,G.getD (t+1+1+1) undef=undef:=fun t=>by
  rw[al,g6,uL V,z8];split<;>rfl
 obtain⟨cE,cN⟩:=aq (U.bR (E) 0);obtain⟨cF,cO⟩:=aq (U.bR o 0);have b1:i4 [.fa fY,.bR (E) 0,.bR o 0] 0=.fa fY:=by simp[i4]
 have b2:i4 [.fa fY,.bR (E) 0,.bR o 0] (0+1)=.bR (E) 0:=by simp[i4]
 have b3:i4 [.fa fY,.bR (E) 0,.bR o 0] (0+1+1)=.bR o 0:=by simp[i4]
 have b4:∀ t,i4 [.fa fY,.bR (E) 0,.bR o 0] (t+1+1+1)=fz:=fun t=>by simp[i4,List.getD]
 clear ak al bn;refine wpIn_seq (o4 (sgZ:=i4 [.fa fY,.bR (E) 0,.bR o 0]) (l:=[]) (K:=fun e j l=>e=.normal/\j 0=.fa fY/\j 1=.bR (E) 0/\j 2=.bR o 0/\j 7=ai ps/\j 8=.i6 ps.l.length/\j 9=.i6 (0:Nat))
  D ed M.A4 ?_ (ui p (fun k=>A k\/p.heap.size<=k) fun k hk=>.inr hk) (fun g=>⟨ed g,up (bl g)⟩) ⟨bX,rfl,fun t=>?_⟩ ?_)
 ·simp[i4,bS,bQ,cf]
 ·rcases t with _ | _ | _ | t
  ·rw[b7,b1];exact .fa _
  ·rw[b8,b2];exact up h1
  ·rw[b9,b3];exact up bb
  ·rw[cb t,b4 t];exact w7
 rintro e a4 E7 cY c2 cR ⟨rfl,I,aD,J,O,aG,P⟩ aL cy bz;have a8:jr GS p (fun k=>A k\/p.heap.size<=k) aE.empty (fun _=>none):=fun g=>⟨ed g,up (bl g)⟩
 have bH:oK E ps o fY p 0 a4 E7:=oK.mk' bg bi (N4 p) aL (a8.ext aL) bz I aD J O aG P;clear I aD J O aG P bz cy aL a8;show (Code.block 0 (.loop (u4 a1 a2 T a3))).wpIn Fence.wide n prog S a4 E7;refine wpIn_block (wpIn_loop (fun a W=>∃ k,k<=ps.l.length/\oK E ps o fY p k a W/\∀ x∈ps.l.take k,x∈ord.l) (fun a _=>match a.tmps.getD 9 undef with | .int _ k=>ps.l.length - k.toNat | _=>0) ⟨0,F,bH,V⟩ ?_);rintro a W ⟨k,hk,R,aN⟩;obtain⟨cG,rel,ae,wX⟩:=R.wX;by_cases ay:k<ps.l.length
 ·obtain⟨x,bq,bs⟩:=aQ (l:=ps.l) (k:=k) ay;have bu:=ck x bs;have H:=br bu;have bJ:=cl (k:=k) F;have aU:bF (.ad 32) (ai ps) _=_:=c6 bq;have am:=pK ord ci ch x bu;have bk:=bV ord;have aS:=cP x;have cq:ps.l.take (k+1)=ps.l.take k++[x]:=by rw[eD,bq];rfl
  obtain⟨X,bY⟩:=aq (ao x);rw[<-bY] at H aU am aS;have bp:aw (bO 32 (.int .u8 0)) 0 X=X:=cH (by rw[H];rfl);by_cases aA:x∈ord.l
  ·rw[bW aA] at am;refine o4 (sgZ:=jj E ps o fY k) (l:=[]) (K:=fun e j l=>e=.normal/\j 0=.fa fY/\j 1=.bR (E) 0/\j 2=.bR o 0/\j 7=ai ps/\j 8=.i6 ps.l.length/\j 9=.i6 ((k+1:Nat) :Int)) D ed M.FR ?_ rel ae wX ?_
   ·unfold Cj;simp[DD,DE,zz,zA,ay,aU,H,bp,bf,bc,aI];refine av am (by simp[ar,U.ax,bk,aS]) ?_;simp[Kz,VZ,DD,DE,zz,zA,bJ]
   ·rintro e Y hu bG aY bx ⟨rfl,I,aD,J,O,aG,P⟩ C aX ap;have a0:oK E ps o fY p (k+1) Y hu:=oK.mk' bg bi R.kJ C (ae.ext C) ap I aD J O aG P;refine⟨⟨k+1,F,a0,fun y aC=>?_⟩,?_⟩
    ·rw[cq,eQ,fO] at aC;exact aC.elim (aN y) fun e=>by rw[e];exact aA
    ·show (match Y.tmps.getD 9 undef with | .int _ k=>ps.l.length - k.toNat | _=>0)<(match a.tmps.getD 9 undef with | .int _ k=>ps.l.length - k.toNat | _=>0)
     rw[a0.t9,R.t9];simp only[fb];omega
  ·rw[cp aA] at am;have cg:¬ ∀ y∈ps.l,y∈ord.l:=fun h=>aA (h x bs)
   suffices cn:(u4 a1 a2 T a3).wpIn Fence.wide n prog (fun e a W=>e=.ret/\S .ret a W) a W from wpIn_mono cn fun e a w ⟨b6,h⟩=>by subst b6;exact h
   unfold u4;refine wpIn_seq (o4 (sgZ:=jj E ps o fY k) (l:=[]) (K:=fun e j l=>e=.normal/\l=[]/\j 0=.fa fY/\j 2=.bR o 0/\j 7=ai ps/\j 9=.i6 k/\j 10=.bool true) D ed M.j3 ?_ rel ae wX ?_)
   ·simp[Kz,DD,DE,zz,zA,ay]
   rintro e cL hu cZ cD cS ⟨rfl,rfl,I,J,O,P,cx⟩ a7 cz bA;have a9:=ae.ext a7;refine wpIn_seq (wpIn_cond_true (w9 bA cx) (wpIn_skip ?_));refine wpIn_seq (wpIn_block (wpIn_seq ?_));refine o4 (sgZ:=cD) (l:=[]) (K:=fun e j l=>e=.normal/\l=[.q 32 X]/\j 0=.fa fY/\j 2=.bR o 0/\j 5=.ptr 0 0 32) D ed M.xT ?_ cz a9 bA ?_
   ·simp[I,J,O,P,aU,H,bp,aI]
   rintro e Y cJ bG aY bx ⟨rfl,rfl,cv,cw,bw⟩ C aX ap;refine wpIn_seq (wpIn_region_list ?_);rw[M.split];refine Jc (sgZ:=aY) D ed M.Gz M.Tk (K:=fun j l=>j 18=.bool true/\j 19=.fa fY) ?_ aX (a9.ext C) ap ?_
   ·simp[cw,bw,H,bf,bc,aI];refine av am (by simp[ar,U.ax,bk,aS]) ?_;simp[cv,bw,H,aI]
   rintro z s9 c0 c3 cT ⟨cs,ct⟩ bL cW Q;have aP:eo p s9:=nU R.kJ (tf ((a7.trans C).trans bL));have t18:=w9 Q cs;have t19:=Yg Q ct;have cr:Region.wanted aV (yielded T z.tmps)=true:=by
    unfold Region.wanted yielded;rw[M.Te];simp only[M.Tb];have bm:18<z.tmps.size:=by rw[Q.size];omega
    have bN:z.tmps[18]?=some (.bool true):=by
     rw[g6,q5 bm] at t18;rw[q5 bm];simpa using t18
    simp[bN]
   unfold wpListIn;rw[aj cr];obtain⟨fn,cB,assign,bI,aC,bT⟩:=bZ (z.tmps[20]?.getD undef) s9 aP;have cm:(aV.semAt Fence.wide.round z.eval).run prog s9=.ok (.round fY fn cB assign bI) s9:=by
    rw[Fence.wide_round,Oper.semAt_none];unfold execOp;rw[M.Tf];have cA:z.tmps[19]?.getD undef=.func (.yield fY) #[] #[]:=by rw[<-g6];exact t19
    simp[go_sem,cA,aC]
    skip;done
   refine⟨fun _ _=>trivial,?_⟩;rw[cm,Oper.uponIn_round];refine⟨fun b5=>(by cases b5),Vu (bT.mono ?_)⟩;rintro e B ⟨rfl,bv⟩;show wpListIn Fence.wide n prog T _ (T.toList.drop 9++[]) (z.put aV.dst (.bool false)) B;rw[M.Td];obtain⟨aJ,cc⟩:=b0 s9 B aP bv;have cC:∀ {c:U} {v:aB},c5 B aJ c v->az B (fun k=>aJ k\/B.heap.size<=k) aE.empty (fun _=>none) c v:=fun aR=>aR.up (fun k _ hk=>⟨.inl hk,mD _ k⟩)
   refine Jc (sgZ:=bh (bh (fun _=>U.bad) 18 (.bool true)) 21 (.bool false)) (l:=[]) D ed M.Gz M.Tl (K:=fun j l=>j 23=.bool true) ?_ (ui B (fun k=>aJ k\/B.heap.size<=k) fun k hk=>.inr hk) (fun g=>⟨ed g,cC (cc g)⟩) ⟨by simp[Act.put,Q.size],Q.defers,fun t=>?_⟩ ?_
   ·simp
   ·by_cases aK:t=21
    ·subst aK;rw[fJ];have:(z.put (some 21) (.bool false)).tmps.getD 21 undef=.bool false:=by simp[Act.put,g6,Q.size]
     rw[this];exact .bool _
    ·rw[bE _ _ _ _ aK];have bK:(z.put (some 21) (.bool false)).tmps.getD t undef=z.tmps.getD t undef:=by
      simp only[Act.put,g6,Em (Ne.symm aK)]
     rw[bK];by_cases a5:t=18
     ·subst a5;rw[fJ,t18];exact .bool _
     ·rw[bE _ _ _ _ a5];exact .bad _
   rintro cM cK c1 c4 cV cu bM cX bB;refine wpListIn_nil ?_;refine wpIn_cond_true (w9 bB cu) (wpIn_ret ?_);refine⟨rfl,?_⟩;rw[aM];exact⟨bB.defers,_,bo _ _,⟨_,rfl⟩,.inr ⟨cg,s9,B,aP,bv,tf bM⟩⟩
 ·have ce:k=ps.l.length:=F;rw[ce,fl] at aN;refine o4 (sgZ:=jj E ps o fY k) (l:=[]) (K:=fun e j l=>e=.exit 0) D ed M.FR ?_ rel ae wX ?_
  ·unfold Cj;simp[zz,zA,ay]
  ·rintro e Y hu bG aY bx rfl C aX ap;show S .normal Y hu;rw[aM];exact⟨ap.defers,_,bo _ _,⟨_,rfl⟩,.inl ⟨aN,nU R.kJ (tf C)⟩⟩
end Op
section
variable {P:bg} {n:Nat}
theorem ug (D:List Deferred) (a:Go.Act) (d:Option Tmp) (v:aB) :({ a with defers:=a.defers++D }:Go.Act).put d v={ a.put d v with defers:=(a.put d v).defers++D }:=by cases d<;>rfl
theorem Tx {D:List Deferred} {o:a6} {a:Go.Act} {w:aO} {K g:Go.Act->aO->Prop} {Q rm:Exit->Go.Act->aO->Prop} (m:∀ a w,K a w->g { a with defers:=a.defers++D } w)
  (p:∀ e a w,e≠.normal->Q e a w->rm e { a with defers:=a.defers++D } w) (h:o.wp P a w K Q) :o.wpIn Fence.wide n P { a with defers:=a.defers++D } w g rm:=by
 unfold Oper.wp at h;refine⟨fun _ _=>trivial,?_⟩;show o.uponIn Fence.wide n P _ g rm ((execOp a.eval o).run P w);cases u:(execOp a.eval o).run P w with
 | ok x w'=>
  rw[u] at h;cases x with
  | value t=>show g (Go.Act.put _ _ _) _;rw[ug];exact m _ _ h
  | skip=>show g (Go.Act.put _ _ _) _;rw[ug];exact m _ _ h
  | defer d=>
   show g (Go.Act.put { tmps:=a.tmps,defers:=d::(a.defers++D) } _ _) _;have:=ug D { tmps:=a.tmps,defers:=d::a.defers } o.dst undef;have j:({ tmps:=a.tmps,defers:=d::(a.defers++D) }:Go.Act).put o.dst undef=_:=this;rw[j];exact m _ _ h
  | enter f args=>
   refine⟨fun q=>(by cases q),(callsIn_wide.2 h).mono ?_⟩;rintro (t | C | _) F j
   ·show g (Go.Act.put _ _ _) _;rw[ug];exact m _ _ j
   ·exact p _ _ _ V j
   ·obtain⟨B,z,v⟩:=j;exact⟨_,z,p _ _ _ V v⟩
  | row r args=>exact⟨fun q=>(by cases q),fun c cs _=>let ⟨t,w',r,s⟩:=h c cs;⟨t,w',(by show g (Go.Act.put _ _ _) _;rw[ug];exact m _ _ r),stepsIn_wide.2 s⟩⟩
  | _=>exact h.elim
 | halt e w'=>
  rw[u] at h;cases e<;>first | exact p _ _ _ V h | exact h.elim
theorem Cc {D:List Deferred} {all:Array a6} {Q:Exit->Go.Act->aO->Prop}:∀ {l:List a6} {a:Go.Act} {w:aO},
  wpList P all (fun e a w=>match e with | .normal=>Q .normal { a with defers:=a.defers++D } w | _=>False) l a w->wpListIn Fence.wide n P all Q l { a with defers:=a.defers++D } w
 | [],a,w,h=>wpListIn_nil h
 | p::l,a,w,h=>by
  unfold wpList at h;unfold wpListIn;split
  ·rename_i j;rw[aj j] at h;rcases h with h | ⟨_,o,q,g⟩
   ·refine Tx (fun a w g=>Cc g) (fun e a w m g=>?_) h;cases e<;>first | exact bK rfl m | exact g.elim
   ·exact g.elim
  ·rename_i j;rw[ak j] at h;refine⟨fun _ _=>trivial,?_⟩;rw[ug];exact Cc h
variable {G:Nat->U}
theorem CK (J:P.follows .mixedOrders=true) (z:∀ g,(G g).ax=true) {N n:Nat} {opsZ:Array a6} (C:∀ (i:Nat) (o:a6),opsZ[i]?=some o->hw N o.dst=true) {q:List c0} (H:kF P opsZ q opsZ.toList) {id:Nat}
  {sgZ:aP} {l:ae} {K:aP->ae->Prop} (O:ie P G q sgZ l K) {D:List Deferred}
  {R:Nat->Prop} {B:Nat} {w:aO} {muZ:bU} {a:Go.Act} {Q:Exit->Go.Act->aO->Prop} (rel:bu R B w (aU l) muZ) (g:jr G w R (aU l) muZ) (s:gF N w R (aU l) muZ sgZ { a with defers:=[] }) (m:a.defers=D)
  (F:∀ h w' muZ' j l',K j l'->cN w (aU l) muZ w' (aU l') muZ'->bu R B w' (aU l') muZ'->gF N w' R (aU l') muZ' j { h with defers:=[] }->h.defers=D->Q .normal h w') :(Code.region id opsZ false).wpIn Fence.wide n P Q a w:=by
 obtain⟨j,l',I,_,hk⟩:=wR C H O;obtain⟨cM,t⟩:=a;subst m;refine wpIn_region_list ?_;have:=Cc (P:=P) (n:=n) (D:=t) (all:=opsZ) (Q:=Q) (l:=opsZ.toList) (a:={ tmps:=cM,defers:=[] }) (w:=w)
  (sn J z I R B w muZ _ _ rel g s fun h w' muZ' v S p=>?_)
 ·exact this
 ·show Q .normal _ _;obtain⟨T,u⟩:=h;have m:u=[]:=p.defers;subst m;exact F _ w' muZ' j l' hk v S p rfl
theorem Bz {R:Nat->Prop} {B:Nat} {w:aO} {l:ae} {muZ:bU} (rel:bu R B w (aU l) muZ) {b t:Nat} {v:Int} (z:l[b]?=some (.cells 1 [.int .u8 v])) {tmps:Array aB} (S:az w R (aU l) muZ (.ptr b 0 1) (tmps.getD t undef))
  {w' : aO} (aw:∀ k,B<=k->(∃ arr e u,w.heap[k]?=some (.cells arr e u))->w'.heap[k]?=w.heap[k]?) (av:w.heap.size<=w'.heap.size) {fn:Func} (au:uk P (aU [.cells 1 [.int .u8 v]]) (bh (fun _=>U.bad) t (.ptr 0 0 1)) fn=some (.int .u8 v)) :
  (results fn tmps).run P w'=.ok (.int .u8 v) w':=by
 have p:(aU l).f b=.cells 1 [.int .u8 v]:=hq.2 z;generalize ar:tmps.getD t undef=aL at S;cases S with
 | iQ _ _ _ a ap=>
  rcases ap with h | ⟨n,F,h,aI⟩
  ·rw[p] at h;cases h
  ·rw[p] at h;injection h with h1 H;omega
 | ptr _ _ _ F m ao Q=>
  clear ao F;have K:=rel.blk b m Q;have J:B<=m.r:=rel.base b m (by rw[p];rfl) Q;rw[p] at K;obtain⟨h1,H,arr,e,u,I,ak,al,am⟩:=K;have O:(aU [.cells 1 [.int .u8 v]]).f 0=.cells 1 [.int .u8 v]:=hq.2 rfl;have aq:∀ b,1<=b->(aU [.cells 1 [.int .u8 v]]).f b=.none:=fun b z=>by rw[js,dV (by simpa using z)]
  have aC:bu (fun k=>B<=k) B w' (aU [.cells 1 [.int .u8 v]]) (fun b=>if b=0 then some m else none):=by
   refine⟨fun g aA j=>?_,fun X Y aJ aK aG aH ai aj _=>?_,fun g aA aE j=>?_,fun g C=>aq g C,fun k hk=>hk,dC rel.size av,fun g C=>?_⟩
   ·by_cases o:g=0
    ·subst o;simp only[if_true,bc] at j;subst j;rw[O];refine⟨h1,H,arr,e,u,(aw _ J ⟨_,_,_,I⟩).trans I,ak,al,fun D c q=>?_⟩;obtain⟨x,T,V,W⟩:=am D c q;refine⟨x,T,V,?_⟩;rcases D with _ | D
     ·simp only[g8,bc] at q;subst q;cases W;exact .int _ _
     ·simp at q
    ·simp[o] at j
   ·by_cases Z:X=0
    ·by_cases ag:Y=0
     ·omega
     ·simp[ag] at aj
    ·simp[Z] at ai
   ·by_cases o:g=0
    ·simp only[o,if_true,bc] at j;subst j;exact J
    ·simp[o] at j
   ·have:g≠0:=fun e=>by subst e;exact bK C (by show ¬ (1<=0);omega)
    simp[this]
  have aD:gF tmps.size w' (fun k=>B<=k) (aU [.cells 1 [.int .u8 v]]) (fun b=>if b=0 then some m else none) (bh (fun _=>U.bad) t (.ptr 0 0 1)) { tmps:=tmps,defers:=[] }:=by
   refine⟨rfl,rfl,fun i=>?_⟩;by_cases G:i=t
   ·subst G;rw[fJ];show az _ _ _ _ _ (tmps.getD i undef);rw[ar];exact .ptr 0 0 1 _ m O rfl
   ·rw[bE _ _ _ _ G];exact .bad _
  obtain⟨x,ax,ay⟩:=J9 (P:=P) aC aD au;cases ay;exact ax
end
def en (B:Nat) (a b:aO) :Prop:=RowKit.Below B a b/\a.drawn<=b.drawn
theorem en.qC {B:Nat} {a b:aO} (h:eo a b) (g:B<=a.heap.size) :en B a b:=⟨h.toBelow.mono g,h.drawn⟩
theorem en.tr {B:Nat} {a b c:aO} (h:en B a b) (k:en B b c) :en B a c:=⟨h.1.trans k.1,dC h.2 k.2⟩
theorem en.put {B:Nat} (W:aO) {l:Nat} (o:Obj) (h:B<=l) (g:B<=W.heap.size) :en B W (W.putObj l o):=
 ⟨(RowKit.Below.refl B W).grown (grownBy_putObj' W l o) g (fun k e=>by cases e;exact h),aF _⟩
theorem en.ext {R:Nat->Prop} {B:Nat} {w w' : aO} {h h' : aE} {muZ muZ' : bU} (rel:bu R B w h muZ) (e:cN w h muZ w' h' muZ') :en B w w':=
 ⟨⟨e.os,e.tape,e.output,e.size,fun k hk=>e.bo k (l8 hk rel.size) fun ⟨b,j,h1,g,m⟩=>by have:=rel.base b j h1 g;omega⟩,e.drawn⟩
theorem en.alloc {B:Nat} {a:aO} (g:B<=a.heap.size) (o:Obj) :en B a (a.alloc o):=⟨(RowKit.Below.refl B a).alloc g o,aF _⟩
theorem en.kJ {a b:aO} (h:en a.heap.size a b) :eo a b:=⟨h.1,h.2⟩
theorem TH {R:Nat->Prop} {B:Nat} {w:aO} {l:ae} {muZ:bU} (rel:bu R B w (aU l) muZ) (p:∀ (b:Nat) (c:am),l[b]?=some c->∃ n cs,c=am.cells n cs) {k:Nat} (q:Own (aU l) muZ k) :∃ arr e g,w.heap[k]?=some (.cells arr e g):=by
 obtain⟨b,t,h1,m,rfl⟩:=q;have h:=rel.blk b t m;rw[js] at h h1;cases j:l[b]? with
 | none=>rw[j] at h1;cases h1
 | some c=>
  rw[j] at h;obtain⟨n,cs,rfl⟩:=p b c j;obtain⟨_,_,arr,e,g,o,_⟩:=h;exact⟨arr,e,g,o⟩
theorem By {R:Nat->Prop} {B:Nat} {w w' : aO} {l:ae} {h' : aE} {muZ muZ' : bU} (rel:bu R B w (aU l) muZ) (h:∀ (b:Nat) (c:am),l[b]?=some c->∃ n cs,c=am.cells n cs) (e:cN w (aU l) muZ w' h' muZ') :KeepsOthers w w':=by
 refine⟨e.size,fun k p hk j=>?_⟩;rw[e.bo k (hT.1 hk).1 fun m=>?_]
 ·exact hk
 ·obtain⟨arr,q,o,g⟩:=TH rel h m;rw[hk] at g;cases g;cases j
namespace Op
open b8
abbrev Xs:List c0:=[ez 0 3 (.box (cM 0)),ez 1 4 (.box (cM 1)),ez 2 5 (.box (cM 2)),ez 3 6 (.alloc [.int .u8 0])]
abbrev Xo:fC:=.seq (.jh [ez 0 7 (.m6 4 (cM 3)),ez 1 8 (.ld1 (cM 7)),ez 2 9 (.jD 32 (cM 5)),sc 3 10 66 [(cM 8),(cM 9)]]) (.cond (cM 10) (.seq (.jh [wT 0 (.st 1 (cM 6) (.const (.int .u8 5)))]) .ret) .skip)
abbrev Xt:List c0:=[ez 0 11 (.jD 5 (cM 3)),ez 1 12 (.jD 11 (cM 4)),sc 2 13 153 [(cM 11),(cM 12)]]
abbrev Xu:List c0:=[ez 0 15 (.m6 1 (cM 3)),ez 1 16 (.m6 2 (cM 15)),ez 2 17 (.ld1 (cM 16)),ez 3 18 (.m6 0 (cM 3)),ez 4 19 (.ld1 (cM 18)),ez 5 20 (.bin .eql 3 (cM 17) (cM 19))]
abbrev Xv:List c0:=[wT 0 (.st 1 (cM 6) (.const (.int .u8 8)))]
abbrev Xw:List c0:=[wT 0 (.st 1 (cM 6) (.const (.int .u8 1)))]
def ft (S E X:ag) (v:Int) :ae:=[.cells 5 S,.cells 11 E,.cells 32 X,.cells 1 [.int .u8 v],.cells 5 S,.cells 11 E]
structure E6 (p q t u v g h j:Array a6) (m:a6) (t4:aC) :Prop where
 body:Tryz.f103.body=some (.seq (.region 0 p false) (.seq (.seq (.region 1 q false) (.cond (.tmp 10) (.seq (.region 2 t false) .ret) .skip)) (.seq (.seq (.region 3 u false) (.block 0 (.rangeFunc (.tmp 13) #[14] .skip (.block 1 (.seq (.region 4 v false) .ret)))))
  (.seq (.seq (.region 5 g false) (.cond (.tmp 20) (.seq (.region 6 h false) .ret) .skip)) (.seq (.region 7 j false) .ret)))))
 A4:comp prog 21 (.region 0 p false)=some (.jh Xs)
 j3:comp prog 21 (.seq (.region 1 q false) (.cond (.tmp 10) (.seq (.region 2 t false) .ret) .skip))=some Xo
 Oh:comp prog 21 (.region 3 u false)=some (.jh Xt)
 iy:v.toList=[m]
 II:m.op=.store t4 (.tmp 6) (.const (.int .u8 6))
 S9:m.dst=none
 Ta:m.guard=none
 Tm:kF prog g Xu g.toList
 Tn:kF prog h Xv h.toList
 To:kF prog j Xw j.toList
 Py:∀ (i:Nat) (o:a6),g[i]?=some o->hw 21 o.dst=true
 Pz:∀ (i:Nat) (o:a6),h[i]?=some o->hw 21 o.dst=true
 PA:∀ (i:Nat) (o:a6),j[i]?=some o->hw 21 o.dst=true
 Wb:b3 prog t4=some 1
theorem Bm {R:Array a6} (g:(R.toList.all fun o=>hw 21 o.dst)=true) (i:Nat) (o:a6) (h:R[i]?=some o) :hw 21 o.dst=true:=by exact fW.1 g o (by rw[<-pP] at h;exact cz h)
theorem Xr:∃ g h j m o p q t u t4,E6 g h j m o p q t u t4:=
 ⟨jH (hS ((Tryz.f103.body).getD .skip) [false]),
  jH (hS ((Tryz.f103.body).getD .skip) [true,false,false]),
  jH (hS ((Tryz.f103.body).getD .skip) [true,false,true,false,false]),
  jH (hS ((Tryz.f103.body).getD .skip) [true,true,false,false]),
  jH (hS ((Tryz.f103.body).getD .skip) [true,true,false,true,false,true,false,false]),
  jH (hS ((Tryz.f103.body).getD .skip) [true,true,true,false,false]),
  jH (hS ((Tryz.f103.body).getD .skip) [true,true,true,false,true,false,false]),
  jH (hS ((Tryz.f103.body).getD .skip) [true,true,true,true,false]),
  ((jH (hS ((Tryz.f103.body).getD .skip) [true,true,false,true,false,true,false,false])).toList).headD { op:=.move (.tmp 0),dst:=none,type:=0,pos:= "",after:=#[],guard:=none },
  (match (((jH (hS ((Tryz.f103.body).getD .skip) [true,true,false,true,false,true,false,false])).toList).headD { op:=.move (.tmp 0),dst:=none,type:=0,pos:= "",after:=#[],guard:=none }).op with | .store v _ _=>v | _=>0),
  ⟨by kernel_rfl,by kernel_rfl,by kernel_rfl,by kernel_rfl,by kernel_rfl,by kernel_rfl,by kernel_rfl,by kernel_rfl,
  vf (idx:=[0,1,2,3,4,5]) bd bd,vf (idx:=[0]) bd bd,vf (idx:=[0]) bd bd,
  Bm bd,Bm bd,Bm bd,by kernel_rfl⟩⟩
theorem Sz (S E:ag) (j:S.length=5) (g:E.length=11) {l:ae} {K:cv} (h:K (.fn 206 [] [.ptr (l.length+1) 0 11,.ptr l.length 0 5]) (l++[.cells 5 S,.cells 11 E])) :
  cG 153 [.ah S,.ah E] l K:=by apply cR func153 [];simp[j,g];exact h
theorem Eg (v:Int) :uk prog (aU [.cells 1 [.int .u8 v]]) (bh (fun _=>U.bad) 6 (.ptr 0 0 1)) Tryz.f103=some (.int .u8 v):=bd
end Op
namespace Op
open b8
theorem BP (S E X:ag) (v:Int) :∀ (b:Nat) (c:am),(ft S E X v)[b]?=some c->∃ n cs,c=am.q n cs:=by intro b c h;have g:=cz h;simp only[ft,fX,eK,or_false] at g;rcases g with rfl | rfl | rfl | rfl | rfl | rfl<;>exact⟨_,_,rfl⟩
theorem Vt {p t u v g w z C:Array a6} {j:a6} {t4:aC} (M:E6 p t u v g w z C j t4) {S E X:ag} {m:Fence} (I:∀ f,m.fn f) {n:Nat} {R:Nat->Prop} {B:Nat} {W:aO} {muZ:bU} {a:Go.Act}
  (rel:bu R B W (aU (ft S E X 0)) muZ) (H:az W R (aU (ft S E X 0)) muZ (.ptr 3 0 1) (a.tmps.getD 6 undef)) :
  (Code.block 1 (.seq (.region 4 g false) .ret)).wpIn m n prog (fun e _ o=>e=.ret/\cN W (aU (ft S E X 0)) muZ o (aU (ft S E X 6)) muZ/\bu R B o (aU (ft S E X 6)) muZ) a W:=by
 refine wpIn_block (wpIn_seq (wpIn_region_list ?_));rw[M.iy];have Q:qU prog (aU (ft S E X 0)) t4 (.ptr 3 0 1) (.int .u8 6)=some (aU (ft S E X 6)):=by
  unfold qU;rw[M.Wb];have K:(aU (ft S E X 0)).f 3=.q 1 [.int .u8 0]:=hq.2 rfl;simp only[U.cells,K];rw[aj V,ma _ (by simp[ft])];rfl
 obtain⟨w',h1,F,G⟩:=KY (P:=prog) rel Q H (.int .u8 6);unfold wpListIn;have T:Region.wanted j (yielded g a.tmps)=true:=by unfold Region.wanted;rw[M.Ta]
 rw[aj T];refine⟨fun f _=>I f,?_⟩;have O:(execOp a.eval j).run prog W=.ok .skip w':=by
  have J:a.eval (.tmp 6)=a.tmps.getD 6 undef:=rfl;rw[<-J] at h1;have D:(Instr.storeAt t4 (a.eval (.tmp 6)) (a.eval (.const (.int .u8 6)))).run prog W=.ok () w':=h1;simp[execOp,M.II,D]
 rw[Oper.semAt_eq _ _ _ (fun c=>by rw[M.II];exact fun h=>by cases h),O,Oper.uponIn_skip,M.S9];exact wpListIn_nil (wpIn_ret ⟨rfl,F,G⟩)
def sy (x:List B) (g:bP) (ps:aN) (cap j:Int) :Int:=if x∈g.l then 5 else if ∀ h∈ps,h∈g.l then (if j=cap then 8 else 1) else 6
theorem Qf {w:aO} {R:Nat->Prop} {h:aE} {muZ:bU} {f:cb} {j m:U} {v:aB} (z:az w R h muZ (.fn f [] [j,m]) v) :∃ g kn,v=.func (.func f) #[] #[g,kn]/\az w R h muZ j g/\az w R h muZ m kn:=by
 cases z with
 | fn _ _ _ t cs u o h1 p=>
  have q:t=#[]:=by apply z2;simpa using u
  subst q;obtain⟨cs⟩:=cs;rcases cs with _ | ⟨g,_ | ⟨kn,_ | ⟨B,cs⟩⟩⟩
  ·simp at o
  ·simp at o
  ·exact⟨g,kn,rfl,p 0 j g rfl rfl,p 1 m kn rfl rfl⟩
  ·simp at o
theorem QD {l:ag} {t:Nat} (h:t<l.length) :l.getD t fz=l[t]:=by simp[List.getD,h]
theorem QE {l:ag} {t:Nat} (h:l.length<=t) :l.getD t fz=fz:=by simp[List.getD,dV h]
theorem Sw:Enters prog 206:=by obtain⟨g,h,j,m,o,p,M⟩:=Ib;exact enters_of func206 bd M.body
theorem AZ {g W:aO} {l:Nat} (o:Obj) (h:eo g W) (j:g.heap.size<=l) :eo g (W.putObj l o):=
 en.kJ ((en.qC h (aF _)).tr (en.put W o j h.toBelow.size))
theorem XB (E:ag) (ps:bP) (b4:ar E=true) (aY:E.length=11) (cK:∀ h:1<E.length,E[1]'h=ai ps) (c7:cU ps) (c6:ps.l.length<=1000000) (x:List B) (ck:x.length=32) (ord:bP) (cg:cU ord) (cf:ord.l.length<=1000000) (cap b6:Int) (a6 a2:U) (ch:a6.ax=true) (cc:a2.ax=true) :
  aV 103 [.ah (rD cap b6 a6 a2 ord),.ah E,.ah (ao x)] (.int .u8 (sy x ord ps.l cap b6)):=by
 intro w A ap cb aL am;obtain⟨dk,cx,cy,cz,aQ,cA,bN,bO,dq,t4,M⟩:=Xr;obtain⟨g,O⟩:=aq (rD cap b6 a6 a2 ord);have cX:ar g=true:=by rw[O];exact F5 ch cc
 have Z:g.length=5:=by rw[O];rfl
 have cR:∀ h:0<g.length,g[0]'h=.i6 cap:=fun h=>by simp only[O];rfl
 have cS:∀ h:3<g.length,g[3]'h=.i6 b6:=fun h=>by simp only[O];rfl
 have b0:∀ h:4<g.length,g[4]'h=ai ord:=fun h=>by simp only[O];rfl
 obtain⟨j,bp⟩:=aq (ao x);have bq:j.length=32:=by rw[bp];exact br ck
 have b5:ar j=true:=by rw[bp];exact cP x
 have aH:=pK ord cg cf x ck;rw[<-bp] at aH am;rw[<-O] at am;have P:prog.follows .mixedOrders=true:=checked.mixed;have b7:=bV ord;obtain⟨u7,aC⟩:=aq (sy x ord ps.l cap b6);rw[<-aC];refine (callsIn_wide (n:=0)).1 (callsIn_of_wp_marks (fn:=Tryz.f103) func103 M.body trivial ?_ rfl);obtain⟨G,bo⟩:=aq (bodyPostM Fence.wide 0 prog Tryz.f103 (fun e w'=>∃ v,e=Ending.returned v/\eo w w'/\c5 w' (fun k=>A k\/w.heap.size<=k) (.int .u8 u7) v));rw[<-bo];have cY:∀ (a:Go.Act) (W:aO) (v:Int),a.defers=[]->(results Tryz.f103 a.tmps).run prog W=.ok (.int .u8 v) W->v=u7->eo w W->G .ret a W:=by
  intro a W v aG bx aK o;rw[bo];show LeavesInM _ _ _ _ _ _ a.defers _ _;rw[aG];exact⟨_,bx,_,rfl,o,by rw[aK];exact .int _ _⟩
 have b9:∀ (a:Go.Act) (W:aO) (D:Nat) (v:Int),a.defers=[{ target:=.collected D,args:=#[] }]->W.heap[D]?=some (.deferred (some []))->(results Tryz.f103 a.tmps).run prog (W.putObj D (.deferred none))=.ok (.int .u8 v) (W.putObj D (.deferred none))->v=u7->eo w (W.putObj D (.deferred none))->G .ret a W:=by
  intro a W D v aG cL bx aK o;rw[bo];show LeavesInM _ _ _ _ _ _ a.defers _ _;rw[aG];exact⟨V,.inl ⟨_,_,rfl,run_takeDeferred cL,_,bx,_,rfl,o,by rw[aK];exact .int _ _⟩⟩
 have up:∀ {c:U} {v:aB},c5 w A c v->az w (fun k=>A k\/w.heap.size<=k) aE.empty (fun _=>none) c v:=fun p=>p.up (fun k _ hk=>⟨.inl hk,mD _ k⟩)
 have bX:jr GS w (fun k=>A k\/w.heap.size<=k) aE.empty (fun _=>none):=fun i=>⟨ed i,up (cb i)⟩
 have c2:Tryz.f103.ntmps=21:=bd;have rel:=ui w (fun k=>A k\/w.heap.size<=k) fun k hk=>.inr hk
 refine wpIn_seq (o4 (sgZ:=i4 [.ah g,.ah E,.ah j]) (l:=[]) (K:=fun e m l=>e=.normal/\l=[.q 5 g,.q 11 E,.q 32 j,.q 1 [.int .u8 0]]/\m 3=.ptr 0 0 5/\m 4=.ptr 1 0 11/\m 5=.ptr 2 0 32/\m 6=.ptr 3 0 1)
  P ed M.A4 ?_ rel bX ⟨by rw[c2];simp[aL],rfl,fun I=>?_⟩ ?_)
 ·simp[i4,Z,aY,bq]
 ·by_cases z:I<([.ah g,.ah E,.ah j] :ag).length
  ·have bs:=QD z;have bz:(ap++Array.replicate (Tryz.f103.ntmps - ap.size) undef).getD I undef=ap[I]'(by rw[aL];exact z):=by
    rw[g6,oB (by rw[aL];exact z)];simp[show I<ap.size by rw[aL];exact z]
   show az _ _ _ _ (([.ah g,.ah E,.ah j] :ag).getD I fz) _;rw[bs,bz];exact up (am I _ _ (bC z) V)
  ·have bs:=QE (xx z);have bz:(ap++Array.replicate (Tryz.f103.ntmps - ap.size) undef).getD I undef=undef:=by
    rw[g6,uL (by rw[aL];exact xx z),z8];split<;>rfl
   show az _ _ _ _ (([.ah g,.ah E,.ah j] :ag).getD I fz) _;rw[bs,bz];exact w7
 rintro e cB dg dr cu dm ⟨rfl,rfl,a5,cm,bB,bE⟩ aR bI bK;have aT:=bX.ext aR;by_cases al:x∈ord.l
 ·rw[bW al] at aH;have cQ:(5:Int)=u7:=by rw[aC];unfold sy;rw[aj al]
  suffices c9:(Code.seq (.region 1 cx false) (.cond (.tmp 10) (.seq (.region 2 cy false) .ret) .skip)).wpIn Fence.wide 0 prog (fun e a W=>e=.ret/\G .ret a W) cB dg from wpIn_seq (wpIn_mono c9 fun e a w ⟨bv,h⟩=>by subst bv;exact h)
  refine o4 (sgZ:=cu) (K:=fun e m l=>e=.ret/\l=[.q 5 g,.q 11 E,.q 32 j,.q 1 [.int .u8 5]]/\m 6=.ptr 3 0 1) P ed M.j3 ?_ bI aT bK ?_
  ·simp[a5,bB,Z,b0,bq,aI];refine av aH (by simp[ar,U.ax,b7,b5]) ?_;simp[bE]
  ·rintro e bg bM dh cv dc ⟨rfl,rfl,Q⟩ aA a9 aN;have Y:=aN.val 6;rw[Q] at Y;exact⟨rfl,cY bg bM 5 aN.defers (Bz a9 rfl Y (fun _ _ _=>rfl) (aF _) (Eg 5)) cQ (tf (aR.trans aA))⟩
 ·rw[cp al] at aH;refine wpIn_seq (o4 (sgZ:=cu) (K:=fun e m l=>e=.normal/\l=[.q 5 g,.q 11 E,.q 32 j,.q 1 [.int .u8 0]]/\m 3=.ptr 0 0 5/\m 4=.ptr 1 0 11/\m 6=.ptr 3 0 1) P ed M.j3 ?_ bI aT bK ?_)
  ·simp[a5,bB,Z,b0,bq,aI];refine av aH (by simp[ar,U.ax,b7,b5]) ?_;simp[a5,cm,bE]
  rintro e bg bM dh cv dc ⟨rfl,rfl,bA,cl,Q⟩ aA a9 aN;have bk:=aT.ext aA;show (Code.seq (.seq (.region 3 cz false) (.block 0 (.rangeFunc (.tmp 13) #[14] .skip (.block 1 (.seq (.region 4 aQ false) .ret))))) _).wpIn Fence.wide 0 prog G bg bM;refine wpIn_seq (wpIn_seq (o4 (sgZ:=cv) (K:=fun e m l=>e=.normal/\l=ft g E j 0/\m 3=.ptr 0 0 5/\m 6=.ptr 3 0 1/\m 13=.fn 206 [] [.ptr 5 0 11,.ptr 4 0 5]) P ed M.Oh ?_ a9 bk aN ?_))
  ·simp[bA,cl,Z,aY,aI];refine Sz g E Z aY ?_;simp[bA,Q,ft]
  rintro e u fA au di dn ⟨rfl,rfl,db,i6,da⟩ bh aM aP;have bl:=bk.ext bh;have a1:eo w fA:=tf ((aR.trans aA).trans bh);clear a5 cm bB bE bA cl Q bK aN bI a9 aR aA bh aT bk;have Y:=aP.val 6;rw[i6] at Y;have bY:=aP.val 13;rw[da] at bY;obtain⟨de,df,cZ,c3,c4⟩:=Qf bY;have c8:=Jt aM (cs:=E) (by rfl) b4 c3;have ci:=Jt aM (cs:=g) (by rfl) cX c4;have aJ:w.heap.size<=fA.heap.size:=a1.toBelow.size;have a0:∀ {bG:Obj} {H:aO},H=(fA.alloc (.deferred (some []))).alloc bG->eo fA H/\H.heap[fA.heap.size]?=some (.deferred (some []))/\H.heap.size=fA.heap.size+2:=by
   intro bG H e;subst e;refine⟨en.kJ ((en.alloc (aF _) _).tr (en.alloc V _)),?_,V⟩;exact (((RowKit.Below.refl (fA.heap.size+1) (fA.alloc (.deferred (some [])))).alloc V bG).block fA.heap.size F).trans (World.alloc_heap_new _ _)
  show (Code.block 0 _).wpIn Fence.wide 0 prog _ u fA;refine wpIn_block (UW (gf:=206) (lb:=#[de,df]) (A:=∀ bH∈ps.l,bH∈ord.l) (B:=¬ ∀ bH∈ps.l,bH∈ord.l) cZ Sw rfl
   (fun bf i2=>bu (fun k=>A k\/w.heap.size<=k) w.heap.size bf (aU (ft g E j 0)) au/\cN bf (aU (ft g E j 0)) au i2 (aU (ft g E j 6)) au/\bu (fun k=>A k\/w.heap.size<=k) w.heap.size i2 (aU (ft g E j 6)) au)
   (fun bf i2 h=>By h.1 (BP g E j 0) h.2.1) ?_ ?_ ?_ ?_)
  ·intro fn y W o;obtain⟨t,_,_⟩:=a0 rfl;obtain⟨T,R⟩:=py aM (AZ (l:=fA.heap.size+1) (.loop (fN fn u.tmps #[14] (.block 1 (.seq (.region 4 aQ false) .ret)) fA.heap.size .busy none)) (nU t o) F);refine wpIn_mono (Vt M (S:=g) (E:=E) (X:=j) (fun _=>trivial) R ?_) ?_
   ·have aW:=az.ext T Y;have z:(u.tmps.setIfInBounds 14 y).getD 6 undef=u.tmps.getD 6 undef:=by simp only[g6,Em (show 14≠6 by omega)]
    rw[<-z] at aW;have cT:∀ bc:Array aB,bc=u.tmps.setIfInBounds 14 y->az (W.putObj (fA.heap.size+1) (.loop (fN fn u.tmps #[14] (.block 1 (.seq (.region 4 aQ false) .ret)) fA.heap.size .busy none))) (fun k=>A k\/w.heap.size<=k) (aU (ft g E j 0)) au (.ptr 3 0 1) (bc.getD 6 undef):=fun bc e=>by rw[e];exact aW
    exact cT _ V
   ·rintro e dl i2 ⟨bv,h1,cD⟩;exact⟨bv,R,h1,cD⟩
  ·intro fn H aD cW;obtain⟨t,d1,ct⟩:=a0 aD;rw[O] at ci;refine (Sv E ps b4 aY cK c7 c6 ord cg cf cap b6 a6 a2 ch cc (c8.kJ t) (ci.kJ t) (fun i=>c5.kJ ((m3 (bl i).2 (bl i).1).up fun k _ hk=>⟨hk.1,mD _ k⟩) t) cW ?_).mono ?_
   ·rintro W i2 o ⟨rp,⟨a7,ay,a8⟩,rfl⟩;have cV:=(nU t o).toBelow.size;refine⟨A,fun i=>(cb i).kJ (en.kJ ((((en.qC a1 (aF _)).tr (en.qC (nU t o) aJ)).tr (en.put W _ F F)).tr ((en.ext a7 ay).tr (en.put rp _ F a8.size))))⟩
   ·rintro e aw ⟨am,aX | ⟨c1,W,i2,o,⟨rp,z,rfl⟩,ae⟩⟩
    ·exact⟨am,.inl aX⟩
    ·exact⟨am,.inr ⟨c1,W,rp,o,z,ae⟩⟩
  ·intro fn H aw aD aX o;obtain⟨t,d1,ct⟩:=a0 aD;generalize b1:aw.putObj _ _=i2;have b2:eo fA i2:=by rw[<-b1];exact AZ _ (nU t o) F
   have cG:i2.heap[fA.heap.size]?=some (.deferred (some [])):=by rw[<-b1,World.putObj_heap_other F];exact (o.toBelow.block _ F).trans d1
   obtain⟨T,R⟩:=py aM b2;have cr:=aP.ext T;have bm:=bl.ext T;have ca:∀ (C:Go.Act) (me:aO) (J:bU) (v:Int),cN i2 (aU (ft g E j 0)) au me (aU (ft g E j v)) J->bu (fun k=>A k\/w.heap.size<=k) w.heap.size me (aU (ft g E j v)) J->
     az me (fun k=>A k\/w.heap.size<=k) (aU (ft g E j v)) J (.ptr 3 0 1) (C.tmps.getD 6 undef)->C.defers=[{ target:=.collected fA.heap.size,args:=#[] }]->v=u7->G .ret C me:=by
    intro C me J v bT cn aW aG aK;have bZ:me.heap[fA.heap.size]?=some (.deferred (some [])):=(By R (BP g E j 0) bT).same _ _ cG rfl;refine b9 C me fA.heap.size v aG bZ (Bz cn (b:=3) rfl aW (fun k hk p=>World.putObj_heap_other (fun bw=>by obtain⟨arr,e,cC,p⟩:=p;rw[bw,bZ] at p;cases p)) V (Eg v)) aK ?_;exact en.kJ ((((en.qC a1 (aF _)).tr (en.qC b2 aJ)).tr (en.ext R bT)).tr (en.put me _ aJ cn.size))
   show (Code.seq (.seq (.region 5 cA false) (.cond (.tmp 20) (.seq (.region 6 bN false) .ret) .skip)) (.seq (.region 7 bO false) .ret)).wpIn Fence.wide 0 prog G { tmps:=u.tmps,defers:={ target:=.collected fA.heap.size,args:=#[] }::u.defers } i2;refine wpIn_seq (wpIn_seq (CK (sgZ:=di) (D:=[{ target:=.collected fA.heap.size,args:=#[] }]) P ed M.Py M.Tm (K:=fun m l=>l=ft g E j 0/\m 6=.ptr 3 0 1/\m 20=.bool (decide (b6=cap))) ?_ R bm ⟨cr.size,rfl,cr.val⟩ (by rw[aP.defers]) ?_))
   ·simp[db,i6,ft,Z,cR,cS]
   rintro bS bQ ds cw dp ⟨rfl,Q,a4⟩ aS cq bb b8;show (Code.cond (.tmp 20) (.seq (.region 6 bN false) .ret) .skip).wpIn Fence.wide 0 prog _ bS bQ;by_cases a3:b6=cap
   ·rw[bW a3] at a4;refine wpIn_cond_true (w9 bb a4) (wpIn_seq (CK (sgZ:=cw) P ed M.Pz M.Tn (K:=fun m l=>l=ft g E j 8/\m 6=.ptr 3 0 1) ?_ cq (bm.ext aS) bb b8 ?_))
    ·simp[Q,ft]
    rintro C me J dj dd ⟨rfl,bF⟩ bi bJ bL bt;refine wpIn_ret (ca C me J 8 (aS.trans bi) bJ (by have:=bL.val 6;rwa [bF] at this) bt ?_);rw[aC];unfold sy;rw[ak al,aj aX,aj a3]
   ·rw[cp a3] at a4;refine wpIn_cond_false (w9 bb a4) (wpIn_skip ?_);show (Code.seq (.region 7 bO false) .ret).wpIn Fence.wide 0 prog G bS bQ;refine wpIn_seq (CK (sgZ:=cw) P ed M.PA M.To (K:=fun m l=>l=ft g E j 1/\m 6=.ptr 3 0 1) ?_ cq (bm.ext aS) bb b8 ?_)
    ·simp[Q,ft]
    rintro C me J dj dd ⟨rfl,bF⟩ bi bJ bL bt;refine wpIn_ret (ca C me J 1 (aS.trans bi) bJ (by have:=bL.val 6;rwa [bF] at this) bt ?_);rw[aC];unfold sy;rw[ak al,aj aX,ak a3]
  ·rintro fn H W rp aw aD cF o ⟨a7,ay,a8⟩ ae;obtain⟨t,d1,ct⟩:=a0 aD;have cV:=(nU t o).toBelow.size;have cO:fA.heap.size+1<W.heap.size:=by have:=o.toBelow.size;omega
   obtain⟨T,R⟩:=py aM (AZ (l:=fA.heap.size+1) (.loop (fN fn u.tmps #[14] (.block 1 (.seq (.region 4 aQ false) .ret)) fA.heap.size .busy none)) (nU t o) F);have ce:=By a7 (BP g E j 0) ay;have cJ:W.heap[fA.heap.size]?=some (.deferred (some [])):=(o.toBelow.block _ F).trans d1;have bn:rp.heap[fA.heap.size]?=some (.deferred (some [])):=ce.same _ _ (by rw[World.putObj_heap_other F];exact cJ) rfl;have cM:=ce.same _ _ (World.putObj_heap_same cO) rfl;have cI:=(hT.1 bn).1;have b3:=ae.toBelow.size;simp only[World.putObj_size] at b3;have cH:aw.heap[fA.heap.size]?=some (.deferred (some [])):=(ae.toBelow.block _ (by simpa using cI)).trans (by rw[World.putObj_heap_other F];exact bn);show G .ret { tmps:=u.tmps,defers:={ target:=.collected fA.heap.size,args:=#[] }::u.defers } _;refine b9 _ _ fA.heap.size 6 (by rw[aP.defers]) (by rw[World.putObj_heap_other F];exact cH) (Bz a8 (b:=3) rfl (az.ext (T.trans ay) Y) (fun k hk p=>?_) (by simpa using b3) (Eg 6)) ?_ ?_
   ·obtain⟨arr,e,cC,p⟩:=p;have bw:k≠fA.heap.size:=fun h=>by rw[h,bn] at p;cases p
    have cd:k≠fA.heap.size+1:=fun h=>by rw[h,cM] at p;cases p
    have c0:=(hT.1 p).1;rw[World.putObj_heap_other bw,World.putObj_heap_other cd,ae.toBelow.block k (by simpa using c0),World.putObj_heap_other cd]
   ·rw[aC];unfold sy;rw[ak al,ak cF]
   ·have cE:en w.heap.size w rp:=(((en.qC a1 (aF _)).tr (en.qC (nU t o) aJ)).tr (en.put W _ F F)).tr (en.ext a7 ay);have cj:=a8.size;exact en.kJ (((cE.tr (en.put rp _ F cj)).tr (en.qC ae (by simpa using cj))).tr ((en.put aw _ F F).tr (en.put _ _ aJ (by simp;omega))))
theorem XC (o:aM) (p:dv o) (x:List B) (w:x.length=32) (g:bP) (u:cU g) (t:g.l.length<=1000000) (cap m:Int) (j h:U) (v:j.ax=true) (q:h.ax=true) :
  aV 103 [.ah (rD cap m j h g),.ah (au o),.ah (ao x)] (.int .u8 (sy x g o.ay.l cap m)):=
 XB (au o) o.ay (dN o) rfl (fun _=>rfl) p.idsZ p.len x w g u t cap m j h v q
end Op
end Go.bf
namespace Go.bf
open Go Go.Proofs Go.Proofs.Tryz
namespace Op
open b8
structure Nq (s:eR) (l:ae) (k:Nat) (sgZ:aP) (L:ae) :Prop where
 e7:sgZ 1=.ptr l.length 0 5
 h0:sgZ 2=.ptr (l.length+1) 0 5
 Hl:sgZ 25=.i6 s.a2.al.l.length
 BG:sgZ 26=.i6 k
 z:L[l.length+1]?=some (.q 5 [.i6 0,.af,.af,.i6 0,.af])
 ex:hV l L
 st:∃ g w m,L[l.length]?=some (.q 5 [.i6 s.cap,g,ai s.a2.ce,.i6 s.a2.b6,w])/\eX 32 ao L (l.length+2) w s.aD/\(∀ z b n q t,w=.ad z b 0 n q t->b<m)/\l.length+2<=m/\nM s.a2.al k m g L/\w.cells=some [w]
theorem DC {alZ:Type} {l:List alZ} {b:Nat} {c:alZ} (h:l[b]?=some c) :l.set b c=l:=by
 apply g7;intro g;by_cases e:b=g
 ·subst e;rw[bT (aH.1 h).1,h]
 ·rw[bp e]
theorem NP {l g o:ae} {a b h j:am} {c:Nat} (h1:l.length+2<=c) (t:c<l.length+2+g.length) :(l++a::b::(g++o))[c]?=((l++[h,j])++g)[c]?:=by
 obtain⟨m,u⟩:=aq (c - l.length - 2);have p:c - l.length=m+2:=F;have q:c - (l++[h,j]).length=m:=by simp;omega
 rw[ej F,ej (by simp;omega),p,q];simp only[ik];rw[aS F]
theorem NQ {l g h:ae} {a b j o:am} {c:Nat} (h1:l.length+2+g.length<=c) :(l++a::b::(g++h))[c]?=((l++j::o::g)++h)[c]?:=by
 obtain⟨m,t⟩:=aq (c - l.length - 2 - g.length);have p:c - l.length=g.length+m+2:=F;have q:c - (l++j::o::g).length=m:=by simp;omega
 rw[ej F,ej (by simp;omega),p,q];simp only[ik];rw[ej F];congr 1;omega
theorem WI (s:eR) (H:lm s) {S:ag} (bu:S=ck s) {l:ae} {K:cv} (bs:∀ P w m l',hV l l'->eX 32 ao l' (l.length+2) w s.aD->(∀ z b n q t,w=.ad z b 0 n q t->b<m)->l.length+2<=m->nM s.a2.al s.a2.al.l.length m P l'->w.cells=some [w]->K (.ah [.i6 s.cap,P,ai s.a2.ce,.i6 s.a2.b6,w]) l') :
  cG 104 [.ah S] l K:=by
 subst bu;apply cR func104 [[[0],[1],[2],[4],[5],[3,5],[7],[8],[6]],da 0 6++da 7 4++[[6,10]],da 0 13++[[13,3]]];have cj:=H.no;have bv:=bV s.a2.ce;have b5:=hd s.a2.ce;have bA:=kT s.a2.ce H.a2.ce H.a2.qz;simp[ck];refine av bA (by simp[ar,bv]) ?_;simp;refine A7 s.aD H.aD F fun w aW ax a9=>?_
 simp[b5,ax,aw];refine F0 s.a2.al (by have:=H.a2.lJ;omega) fun P cd dS bc=>?_
 have bL:=bc.bt;simp[dS,aw,bL];have b2:∀ z b n q t,w=.ad z b 0 n q t->b<l.length+2+aW.length:=fun z b n q t e=>by have:=(a9.lt e).2;simpa [iE,sW,Nat.add_left_comm] using this
 refine bw s.a2.al.l.length (Nq s l) ?_ ⟨V,V,V,V,V,⟨V,fun b B=>aS B⟩,P,w,l.length+2+aW.length,V,(a9.frame fun b h1 h=>NP (by simpa using h1) (by simp at h;omega)).mono V,b2,F,⟨?_⟩,ax⟩
 ·rintro k v L hk ⟨R,T,W,X,J,aC,P,w,m,aP,bd,aR,a6,aH,ax⟩;obtain⟨v,rfl⟩:=e2 R T W X;clear R T W X;have bq:IntKind.i64.wrap ((k:Int)+1)=((k+1:Nat) :Int):=by rw[IntKind.wrap_i64];have:=H.a2.lJ;omega
  by_cases C:k<s.a2.al.l.length
  ·rcases aH.ex with ⟨aN,_⟩ | ⟨g,G,b9,ca,rfl,O,cb⟩
   ·rw[aN] at C;simp at C
   ·obtain⟨p,bS,bW⟩:=aQ C;have aL:df s.a2.al.l k=p:=dZ bS;have Y:=(H.a2.al p bW).1;have a4:=hx (k6 (ps:=s.a2.al.l) (wk:=G) (k:=k));rw[pA] at a4;have I:=sg (wk:=G) (k:=k) C;rw[ak F,aL] at I;have bn:(g2 s.a2.al.l G k).flatten[k*2]?=some (ai p.idsZ):=by
     have:=lx k6 I (j:=0) F;rw[nG] at this;rw[this];rfl
    have aE:(g2 s.a2.al.l G k).flatten[k*2+1]?=some (bB p.opsZ):=by
     have:=lx k6 I (j:=1) F;rw[this];rfl
    have bC:=kT p.idsZ Y.idsZ Y.li;have bx:=bV p.idsZ;have b7:=hd p.idsZ;have az:∀ (o:ae) (c:Nat) (b:am),L[c]?=some b->(L++o)[c]?=some b:=fun o c b B=>by rw[aS (aY B)];exact B
    simp[C,aP,O,bn,aE];refine av bC (by simp[ar,bx]) ?_;simp[O,aE];refine A8 p.opsZ Y.jE fun w' o b8 bf=>?_
    have ci:=aY O;have bU:g<(L++o).length:=by simp;omega
    have bQ:aJ 2 (L++o) (.ad 2 g 0 s.a2.al.l.length s.a2.al.l.length (s.a2.al.l.length*2)) g (g2 s.a2.al.l G k):=by
     refine .ad g _ _ _ _ _ (az o g _ O) a4 (pA _ _ _) k6 (aF _) (aF _) ?_;rw[aI F]
    have cp:=I7 bQ (az o g _ O) C (ai p.idsZ) w';have aO:=Kj (wk:=G) (w:=w') C;rw[aL] at aO;have a8:aw (aw (g2 s.a2.al.l G k).flatten (k*2) [ai p.idsZ]) (k*2+1) [w']=(g2 s.a2.al.l (fun i=>if i=k then w' else G i) (k+1)).flatten:=by
     have t1:=o6 k6 I (j:=0) (vs:=[ai p.idsZ]) V;rw[nG,show aw (bb p) 0 [ai p.idsZ]=bb p from rfl,DC I] at t1;have t2:=o6 k6 I (j:=1) (vs:=[w']) V;rw[t1,t2,show aw (bb p) 1 [w']=[ai p.idsZ,w'] from rfl,aO]
    have bh:∀ c:am,((L++o).set g c)[g]?=some c:=fun c=>bT bU
    obtain⟨Q,aT⟩:=aq (fun i=>if i=k then w' else G i:Nat->U);rw[<-aT] at aO a8;have aG:(g2 s.a2.al.l Q (k+1)).flatten[k*2+1]?=some w':=by
     have:=lx k6 (sg (wk:=Q) (k:=k+1) C) (j:=1) F;rw[aj F] at this;rw[this,aT];simp
    have bH:=hx (k6 (ps:=s.a2.al.l) (wk:=Q) (k:=k+1));rw[pA] at bH;have bM:=bf.bt;obtain⟨aA,aB⟩:=aq ((L++o).set g (.q (s.a2.al.l.length*2) (g2 s.a2.al.l Q (k+1)).flatten));have aV:aA[g]?=some (.q (s.a2.al.l.length*2) (g2 s.a2.al.l Q (k+1)).flatten):=by rw[aB];exact bh _
    have bi:∀ (c:Nat) (b:am),c≠g->(L++o)[c]?=some b->aA[c]?=some b:=fun c b h1 h=>by rw[aB,bp (fun e=>h1 e.symm)];exact h
    simp[az o _ _ O,aE,b7,b8,bh];refine⟨F,F,?_⟩;rw[a8,<-aB];simp[aG,bM];have bg:eX 11 au aA L.length w' p.opsZ:=bf.frame fun b h1 h=>by
     obtain⟨y,u,_⟩:=aQ h;rw[u];exact bi b y F u
    have cm:=Y.jE;refine bw p.opsZ.l.length (fun q v aU=>aU=aA/\v 1=.ptr l.length 0 5/\v 2=.ptr (l.length+1) 0 5/\v 4=.ptr g (k*2) (s.a2.al.l.length*2)/\v 25=.i6 s.a2.al.l.length/\v 26=.i6 k/\v 54=.i6 p.opsZ.l.length/\v 55=.i6 q) ?_ ⟨rfl,V,V,V,V,V,V,V⟩;rintro q v aU cn ⟨rfl,R,T,a0,W,X,a1,a3⟩;obtain⟨v,rfl⟩:=zQ R T a0 W X a1 a3;clear R T a0 W X a1 a3;have br:=cl (k:=q) F;by_cases Z:q<p.opsZ.l.length
    ·obtain⟨D,bO,bP⟩:=aQ Z;rcases bg with ⟨aN,_⟩ | ⟨b,cf,cg,rfl,aK⟩
     ·rw[aN] at Z;simp at Z
     ·have a7:=Y.opsZ D bP;have bE:=bV D.ay;have bz:=kT D.ay a7.idsZ a7.len;have J:∀ e∈p.opsZ.l.map au,e.length=11:=fun e bF=>by obtain⟨y,_,rfl⟩:=cF.1 bF;rfl
      have aM:(p.opsZ.l.map au)[q]?=some (au D):=by rw[bX,bO];rfl
      have bG:(p.opsZ.l.map au).flatten[q*11+1]?=some (ai D.ay):=lx J aM F;have bZ:aw (p.opsZ.l.map au).flatten (q*11+1) [ai D.ay]=(p.opsZ.l.map au).flatten:=by
       rw[o6 J aM (show 1+[ai D.ay].length<=11 by simp),wx D,DC aM]
      have mp:=hd D.ay;have ch:=vI p.opsZ.l;have b0:=us aK;simp[Z,aV,aG,aK,bG];refine av bz (by simp[ar,bE]) ?_;simp[Z,aV,aG,aK,bZ,mp,br,b0];omega
    ·have bY:q=p.opsZ.l.length:=F;subst bY;simp[bq];have ap:∀ (c:Nat) (b:am),c≠g->L[c]?=some b->aU[c]?=some b:=fun c b h1 h=>bi c b h1 (az o c b h)
     refine⟨C,V,V,V,V,ap _ _ F J,⟨?_,fun b B=>?_⟩,_,w,m,ap _ _ F aP,bd.bo fun b h1 h z n q t e=>?_,aR,a6,⟨.inr ⟨g,Q,b9,ca,rfl,aV,fun i bI bJ=>?_⟩⟩,ax⟩
     ·have:=aC.1;rw[aB];simp;omega
     ·obtain⟨y,u,_⟩:=aQ B;have b3:L[b]?=some y:=by rw[aC.2 b B];exact u
      rw[u];exact ap b y F b3
     ·obtain⟨y,u,_⟩:=aQ h;rw[u];exact ap b y (by have:=aR z b n q t e;omega) u
     ·rw[aT];by_cases a5:i=k
      ·subst a5;simp only[if_true];rw[aL];exact bg.mono F
      ·simp only[ak a5];exact (cb i F bJ).frame fun b h1 h=>by
        obtain⟨y,u,_⟩:=aQ h;rw[u];exact ap b y F u
  ·have bK:k=s.a2.al.l.length:=F;subst bK;have cq:=aH.cells;have b4:=aY J;have cc:∀ c:am,(L.set (l.length+1) c)[l.length+1]?=some c:=fun c=>bT b4
   simp[aP,J,aw,cc];exact bs P w m _ ⟨by simpa using aC.1,fun b B=>by rw[bp F];exact aC.2 b B⟩ (bd.frame fun b h1 h=>bp F) aR a6 (aH.frame fun b h1 h=>bp F) ax
 ·rcases bc with ⟨bN,b1⟩ | ⟨g,aX,bk,bl,bm⟩
  ·exact .inl ⟨bN,b1⟩
  ·refine .inr ⟨g,fun _=>.af,by simp at aX;omega,bk,bl,?_,fun i bI=>F⟩;rw[NQ (by simp at aX;omega),Kk];exact bm
theorem XG (s:eR) (v:lm s) (h:iq s) (o:aM) (t:dv o) :aV 102 [.ah (ck s),.ah (au o)] (.int .i64 (fk o)):=by apply a8 func102 [];have w:(ck s).length=5:=rfl;have q:(ck s).take 5=ck s:=rfl;have p:=mi s;have j:(au o).length=11:=rfl;have m:(au o).take 11=au o:=rfl;have u:=dN o;have g:=Dy s v;rw[(wY s).2 h] at g;have z:=xa o t;simp[w,q,j];refine av g (by simp[ar,U.ax,p]) ?_;simp[j,m];refine av z (by simp[ar,U.ax,u]) ?_;simp;exact aG
theorem KW (s:eR) (u:lm s) (h:iq s) (o:aM) (W:dv o) (aj:fk o=0) (aT:qu s o=1) :
  aV 55 [.ah (ck s),.ah (au o)] (.aZ [.ah (ck (oh s (bJ o) o)),.int .u8 1,.int .i64 0]):=by
 apply a8 func55 [da 0 5++[[6],[5,0]]];have bv:=dw;obtain⟨bQ,bS,bU⟩:=Rw h aT;have a0:=pb o;have b5:=u.no;have T:=XG s u h o W;rw[aj] at T;have I:=uG o W;rw[uF aj] at I;have bs:et (bJ o)=.ah (ao (bJ o)):=rfl;rw[bs] at I;have v:=XC o W (bJ o) a0 s.aD u.aD F s.cap s.a2.b6 (e0 s.a2.al) (ai s.a2.ce) (o1 _) (bV _);change aV _ [.ah (ck s),.ah (au o),.ah (ao (bJ o))] (.int .u8 (qu s o)) at v;rw[aT] at v;have Y:=Ww s.a2 u.a2 h.a2 o W aj bU bQ bS;have P:(ck s).length=5:=rfl;have R:(ck s).take 5=ck s:=rfl;have ag:=mi s;have aL:(ck s).tail.take 3=bM s.a2:=rfl;have bm:((ck s).drop 1).take 3=bM s.a2:=rfl;have bl:=o2 s.a2;have K:(au o).length=11:=rfl;have G:(au o).take 11=au o:=rfl;have J:=dN o;have z:=br a0;have a1:=cP (bJ o);obtain⟨X,aN⟩:=aq (ao (bJ o));rw[<-aN] at I v Y z a1;have aO:X.take 32=X:=aI F;have aX:aw (bO 32 (.int .u8 0)) 0 X=X:=cH (by rw[z];rfl);obtain⟨O,bi⟩:=aq (au o);obtain⟨S,aK⟩:=aq (ck s);rw[<-bi] at K G J T I v Y ⊢;rw[<-aK] at P R ag bm aL T v ⊢;obtain⟨Q,aC⟩:=aq (gy s.a2 (bJ o) o);rw[<-aC] at Y;have aE:(bM Q).length=3:=rfl;simp[P,R,K,G];refine av T (by simp[ar,U.ax,ag,J]) ?_;simp[K,G];refine av I (by simp[ar,U.ax,J]) ?_;simp[P,R,K,G,aX,z,aO];refine av v (by simp[ar,U.ax,ag,J,a1]) ?_;simp[P,R];refine WI s u aK fun ay w m g H bu b8 b4 bk b9=>?_
 have bd:g[0]?=some (.cells 5 S):=by rw[H.2 0 V];rfl
 have aB:g[1]?=some (.cells 11 O):=by rw[H.2 1 V];rfl
 have bf:g[2]?=some (.cells 5 [.int .i64 0,.af,.af,.int .i64 0,.af]):=by rw[H.2 2 V];rfl
 have bg:g[3]?=some (.cells 32 X):=by rw[H.2 3 V];rfl
 have ge:4<=g.length:=by have:=H.1;simpa using this
 have C:∀ (m:ae) (c:Nat) (b:am),g[c]?=some b->(g++m)[c]?=some b:=fun m c b aP=>by rw[aS (aY aP)];exact aP
 have a5:∀ (m:ae) (h:0<(g++m).length),(g++m)[0]'h=.cells 5 S:=fun m h=>(aH.1 (C m 0 _ bd)).2
 have bW:∀ (m:ae) (h:1<(g++m).length),(g++m)[1]'h=.cells 11 O:=fun m h=>(aH.1 (C m 1 _ aB)).2
 have bE:∀ y∈s.aD.l,(ao y).length=32:=fun y bC=>br (u.aD y bC)
 obtain⟨b,bn,aQ,b1,b2⟩:=bu.own bE;have ca:=bk.cells;simp[aw,C _ _ _ aB,a5,P,aL,K,G];refine av Y (by simp[ar,U.ax,bl,J]) ?_;have aG:(bM Q).take 3=bM Q:=rfl;have bx:aw [U.af,.af,.int .i64 0] 0 (bM Q)=bM Q:=cH rfl;simp[C _ _ _ bg,aE,aG,bx,z,aO,aX];obtain⟨t,p⟩:=aq (g++[am.cells 5 [U.int .i64 s.cap,ay,ai s.a2.ce,U.int .i64 s.a2.b6,w],am.cells 3 (bM Q),am.cells 32 X,am.cells 32 X]);have aR:w=.af\/b<g.length:=aQ.lt;have bZ:6<=b:=by simpa using bn
 have bN:aJ 32 t w b (s.aD.l.map ao):=by rw[p];exact aQ.more _
 have bI:t[g.length]?=some (am.cells 5 [U.int .i64 s.cap,ay,ai s.a2.ce,U.int .i64 s.a2.b6,w]):=by rw[p];simp
 have bG:t[g.length+1]?=some (am.cells 3 (bM Q)):=by rw[p];simp
 have bF:t[2]?=some (.cells 5 [.int .i64 0,.af,.af,.int .i64 0,.af]):=by rw[p];exact C _ _ _ bf
 obtain⟨B,ap,D,a6,aA,bX,a7,a9,bb⟩:=i3 (by_:=32) (x:=.ad 32 (g.length+3) 0 1 1 32) (xs:=[X]) bN (by rw[p];simp[cD,z,aI]) (by simp[z]) F F (by rw[bv];simp;omega);have ak:bq B=false:=by rw[bb];simp
 have bB:B≠.af:=fun e=>by rw[e] at ak;cases ak
 have b0:t.length=g.length+4:=by rw[p];simp
 have Z:∀ (c:Nat) (q:am),(c=2\/g.length<=c)->t[c]?=some q->D[c]?=some q:=fun c q b3 aW=>by
  rw[a7 _ (aY aW) (by rcases aR with r | r;exact .inl r;exact .inr F)];exact aW
 have a4:=Z _ _ (.inr (aF _)) bI;have bH:=Z _ _ (.inr F) bG;have a3:=Z _ _ (.inl rfl) bF;have aU:ap≠g.length/\ap≠2:=by
  rcases a9 with q | ⟨q1,cb⟩ | q
  ·exact⟨F,F⟩
  ·have:=aR.resolve_left q1;exact⟨F,F⟩
  ·exact bK q bB
 rw[<-p];simp[a6];refine bY.bo ?_;have dS:=aA.cells;have bL:∀ c:am,(D.set g.length c)[g.length]?=some c:=fun c=>bT (aY a4)
 have t3:∀ c:am,(D.set g.length c)[2]?=some (.cells 5 [.int .i64 0,.af,.af,.int .i64 0,.af]):=fun c=>by rw[bp F];exact a3
 have t4:∀ c d:am,((D.set g.length c).set 2 d)[2]?=some d:=fun c d=>bT (by simpa using aY a3)
 have bz:aw [ay,ai s.a2.ce,U.int .i64 s.a2.b6,w] 0 (bM Q)=[e0 Q.al,ai Q.ce,U.int .i64 Q.b6,w]:=rfl;have b7:∀ a b c d:U,aw [a,b,c,d] 3 [B]=[a,b,c,B]:=fun _ _ _ _=>rfl
 have bA:∀ a b c d:U,aw [U.af,.af,.int .i64 0,.af] 0 [a,b,c,d]=[a,b,c,d]:=fun _ _ _ _=>rfl
 simp[a4,bH,dS,aE,aG,bz,bA,bL,t3,t4];have bt:oh s (bJ o) o=⟨s.cap,⟨Q.al,Q.ce,Q.b6⟩,some (s.aD.l++[bJ o])⟩:=by unfold oh;rw[<-aC]
 rw[bt];obtain⟨az,bh⟩:=aq (am.cells 5 [U.int .i64 s.cap,e0 Q.al,ai Q.ce,U.int .i64 Q.b6,B]);have bP:aJ 32 ((D.set g.length az).set 2 az) B ap ((s.aD.l++[bJ o]).map ao):=by
  rw[dk,dh,l6,<-aN];exact aA.cY (.inr (by rw[bp (fun e=>aU.2 e.symm),bp (fun e=>aU.1 e.symm)]))
 rw[<-bh];have bw:=bP.q.jg cP (some (s.aD.l++[bJ o])) ak rfl;refine .aZ _ _ rfl fun i c bc h1 j=>?_
 rcases i with _ | _ | _ | i
 ·simp at h1 j;subst h1 j;refine .ah _ _ rfl fun i c bc h1 j=>?_
  rcases i with _ | _ | _ | _ | _ | i
  ·simp[ck] at h1 j;subst h1 j;exact .same _ rfl
  ·simp[ck] at h1 j;subst h1 j;exact .same _ (o1 _)
  ·simp[ck] at h1 j;subst h1 j;exact .same _ (bV _)
  ·simp[ck] at h1 j;subst h1 j;exact .same _ rfl
  ·simp[ck] at h1 j;subst h1 j;exact bw
  ·simp at h1
 ·simp at h1 j;subst h1 j;exact .same _ rfl
 ·simp at h1 j;subst h1 j;exact .same _ rfl
 ·simp at h1
end Op
end Go.bf
namespace Go.Proofs
open Go.Shelf
def Tryz.Wl:Go.Shelf.Ren:=⟨fun | 6=>136 | 15=>201 | 14=>200 | 28=>243 | 29=>220 | 20=>235 | 21=>236 | 22=>237 | 23=>238 | 24=>239 | 25=>240 | 26=>241 | 27=>242 | 46=>267 | 47=>268 | 48=>269 | 49=>270 | 50=>271 | 57=>284 | n=>n,fun | 22=>23 | 24=>57 | 25=>197 | 3=>3 | 39=>259 | 0=>0 | 53=>46 | 55=>47 | 4=>4 | 46=>288 | 45=>287 | 50=>206 | 5=>5 | 9=>9 | 66=>314 | 70=>318 | 76=>330 | 77=>331 | n=>n,fun | n=>n⟩
theorem Tryz.Wj:Go.Proofs.SlLaysF0.n6 Tryz.prog Tryz.Wl where
 mixed:=by kernel_rfl
 f6:=⟨ "slices.SortFunc[[]braid/api.ID,braid/api.ID]",by decide,Tryz.func136.trans (congrArg some (by kernel_rfl))⟩
 f14:=⟨ "slices.pdqsortCmpFunc[braid/api.ID]",by decide,Tryz.func200.trans (congrArg some (by kernel_rfl))⟩
 f15:=Tryz.func201.trans (congrArg some (by kernel_rfl))
 f20:=⟨ "slices.insertionSortCmpFunc[braid/api.ID]",by decide,Tryz.func235.trans (congrArg some (by kernel_rfl))⟩
 f21:=⟨ "slices.heapSortCmpFunc[braid/api.ID]",by decide,Tryz.func236.trans (congrArg some (by kernel_rfl))⟩
 f22:=⟨ "slices.breakPatternsCmpFunc[braid/api.ID]",by decide,Tryz.func237.trans (congrArg some (by kernel_rfl))⟩
 f23:=⟨ "slices.choosePivotCmpFunc[braid/api.ID]",by decide,Tryz.func238.trans (congrArg some (by kernel_rfl))⟩
 f24:=⟨ "slices.reverseRangeCmpFunc[braid/api.ID]",by decide,Tryz.func239.trans (congrArg some (by kernel_rfl))⟩
 f25:=⟨ "slices.partialInsertionSortCmpFunc[braid/api.ID]",by decide,Tryz.func240.trans (congrArg some (by kernel_rfl))⟩
 f26:=⟨ "slices.partitionEqualCmpFunc[braid/api.ID]",by decide,Tryz.func241.trans (congrArg some (by kernel_rfl))⟩
 f27:=⟨ "slices.partitionCmpFunc[braid/api.ID]",by decide,Tryz.func242.trans (congrArg some (by kernel_rfl))⟩
 f28:=Tryz.func243.trans (congrArg some (by kernel_rfl))
 f29:=Tryz.func220.trans (congrArg some (by kernel_rfl))
 f46:=⟨ "slices.siftDownCmpFunc[braid/api.ID]",by decide,Tryz.func267.trans (congrArg some (by kernel_rfl))⟩
 f47:=Tryz.func268.trans (congrArg some (by kernel_rfl))
 f48:=Tryz.func269.trans (congrArg some (by kernel_rfl))
 f49:=⟨ "slices.medianAdjacentCmpFunc[braid/api.ID]",by decide,Tryz.func270.trans (congrArg some (by kernel_rfl))⟩
 f50:=⟨ "slices.medianCmpFunc[braid/api.ID]",by decide,Tryz.func271.trans (congrArg some (by kernel_rfl))⟩
 f57:=⟨ "slices.order2CmpFunc[braid/api.ID]",by decide,Tryz.func284.trans (congrArg some (by kernel_rfl))⟩
 t0:=Tryz.underlying0
 a0:=Tryz.isAgg0
 z0:=Tryz.sizeOf0
 v0:=Tryz.zeroValue0
 t3:=Tryz.underlying3
 a3:=Tryz.isAgg3
 z3:=Tryz.sizeOf3
 v3:=Tryz.zeroValue3
 t4:=Tryz.underlying4
 a4:=Tryz.isAgg4
 z4:=Tryz.sizeOf4
 v4:=Tryz.zeroValue4
 t5:=Tryz.underlying5
 a5:=Tryz.isAgg5
 z5:=Tryz.sizeOf5
 v5:=Tryz.zeroValue5
 t9:=Tryz.underlying9
 a9:=Tryz.isAgg9
 z9:=Tryz.sizeOf9
 v9:=Tryz.zeroValue9
 t22:=Tryz.underlying23
 a22:=Tryz.isAgg23
 z22:=Tryz.sizeOf23
 v22:=Tryz.zeroValue23
 t25:=Tryz.underlying197
 a25:=Tryz.isAgg197
 z25:=Tryz.sizeOf197
 v25:=Tryz.zeroValue197
 t39:=Tryz.underlying259
 a39:=Tryz.isAgg259
 z39:=Tryz.sizeOf259
 v39:=Tryz.zeroValue259
 t45:=Tryz.underlying287
 a45:=Tryz.isAgg287
 z45:=Tryz.sizeOf287
 v45:=Tryz.zeroValue287
 t46:=Tryz.underlying288
 a46:=Tryz.isAgg288
 z46:=Tryz.sizeOf288
 v46:=Tryz.zeroValue288
 t50:=Tryz.underlying206
 a50:=Tryz.isAgg206
 z50:=Tryz.sizeOf206
 v50:=Tryz.zeroValue206
 t53:=Tryz.underlying46
 a53:=Tryz.isAgg46
 z53:=Tryz.sizeOf46
 v53:=Tryz.zeroValue46
 t55:=Tryz.underlying47
 a55:=Tryz.isAgg47
 z55:=Tryz.sizeOf47
 v55:=Tryz.zeroValue47
 t66:=Tryz.underlying314
 a66:=Tryz.isAgg314
 z66:=Tryz.sizeOf314
 v66:=Tryz.zeroValue314
 t70:=Tryz.underlying318
 a70:=Tryz.isAgg318
 z70:=Tryz.sizeOf318
 v70:=Tryz.zeroValue318
 t76:=Tryz.underlying330
 a76:=Tryz.isAgg330
 z76:=Tryz.sizeOf330
 v76:=Tryz.zeroValue330
 t77:=Tryz.underlying331
 a77:=Tryz.isAgg331
 z77:=Tryz.sizeOf331
 v77:=Tryz.zeroValue331
end Go.Proofs
namespace Go.bf
open Go Go.Proofs Go.Proofs.Tryz Go.Sort Go.Shelf
open b8
abbrev p1:={l:List B // l.length=32}
instance:Inhabited p1:=⟨⟨List.replicate 32 0#8,V⟩⟩
def tx (x:p1) :ag:=x.1.map a7
def qf (x y:p1) :Int:=bD x.1 y.1
theorem Le:SWO (ltOf qf) where
 irrefl x:=DZ.irrefl x.1
 trans x y z:=DZ.trans x.1 y.1 z.1
 ntrans x y z:=DZ.ntrans x.1 y.1 z.1
theorem ND (x y:p1) (h1:ltOf qf x y=false) (g:ltOf qf y x=false) :x=y:=Subtype.ext (NE x.1 y.1 h1 g)
theorem GF (x:p1) :(tx x).length=32:=by unfold tx;rw[cC,x.2]
theorem PF (x:p1) :∀ c∈tx x,uc c=true:=fun c g=>by obtain⟨b,_,rfl⟩:=cF.1 g;rfl
theorem Wk {g:Nat} (j:∀ args w,(callFunc g args).run prog w=.ok (.enter g args) w) :AE prog 136 g 32 (fun x=>(tx x).map valOf) qf:=
 fun h q cap d w m hH hblk o=>
  AnyQ.slices_SortFunc Tryz.Wj 32 (by intro w;exact Tryz.isAgg57 w) (by intro w;exact Tryz.sizeOf57 w) _ (fun x=>by rw[cC,GF]) (fun x t p=>by obtain⟨c,_,rfl⟩:=cF.1 p;exact Ef c) qf Le g #[] h q cap d w j m hH hblk o
end Go.bf

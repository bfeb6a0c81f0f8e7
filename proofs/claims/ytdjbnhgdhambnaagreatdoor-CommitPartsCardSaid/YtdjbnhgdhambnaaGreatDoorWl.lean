/-
  An operation put into an index, in the program, walked: where it may be put.
-/
import Derived.Test.YtdjbnhgdhambnaaGreatDoorWk
import Derived.RangeFuncNested
import Derived.RangeFuncBound
import Derived.RangeFuncCalls
import Derived.RangeFuncLeaves
import Derived.OwnWalkIn
import Derived.LoopNIn
import Derived.Shelf.Abstract
import Derived.Test.YtdjbnhgdhambnaaGreatDoorRows
import Derived.Shelf.SlSortCmp.WholeK
import Derived.Shelf.SlGeneric
set_option maxHeartbeats 16000000
set_option maxRecDepth 100000
set_option linter.unusedVariables false
set_option linter.unusedSimpArgs false
set_option linter.unnecessarySimpa false
namespace Go.bh
open Go Go.Proofs Go.Proofs.Tryz
namespace Op
open ca
def mX (ps:List aU) (g:Nat) (h w2:U) (k:Nat) :List (ag):=(List.range k).map fun i=>if i=g then [h,w2] else bf (ds ps i)
theorem K4 (ps:List aU) (g:Nat) (h w2:U) (k:Nat) :mX ps g h w2 (k+1)=mX ps g h w2 k++[if k=g then [h,w2] else bf (ds ps k)]:=by simp[mX,tg]
theorem WO {ps:List aU} {g k:Nat} (h:k<=g) (p w2 m o:U) :mX ps g p w2 k=mX ps g m o k:=by
 unfold mX;refine mm fun i j=>?_
 have:=g7.1 j;rw[ak F,ak F]
theorem zU (ps:List aU) (g:Nat) (h w2:U) (k:Nat) :(mX ps g h w2 k).length=k:=by simp[mX]
theorem K3 {ps:List aU} {g:Nat} {j w2:U} {k i:Nat} (h:i<k) :(mX ps g j w2 k)[i]?=some (if i=g then [j,w2] else bf (ds ps i)):=by unfold mX;rw[bW,hp h];rfl
def wN (j:Nat) (w:U) :Prop:=∀ m b n g h,w=.ad m b 0 n g h->b≠j
structure Oe (s:ck) (x:List B) (N j:Nat) (g w2:U) (l:ae) :Prop where
 hB:e5 32 ar l (N+1) g (e4 s x).idsZ
 iw:e5 11 au l (N+1) w2 (e4 s x).opsZ
 ap:FX g w2
 m1:g.cells=some [g]
 m2:w2.cells=some [w2]
 f1:wN j g
 f2:wN j w2
structure Od (s:ck) (x:List B) (o:aG) (N k:Nat) (sgZ:aR) (l:ae) :Prop where
 iI:sgZ 2=.ptr 0 0 3
 jq:sgZ 3=.ptr 1 0 11
 kz:sgZ 4=.ptr 2 0 3
 kA:sgZ 5=.ptr 3 0 32
 oo:sgZ 8=.ptr 4 0 32
 HS:sgZ 10=.i6 (num x s.al.l.length:Nat)
 Ch:sgZ 11=.i6 (ec (e4 s x).idsZ.l x:Nat)
 Rv:sgZ 14=.ptr N 0 3
 aaR:sgZ 66=e9 s.al
 aaS:sgZ 67=.i6 s.al.l.length
 aaT:sgZ 68=.i6 k
 ls:l[0]?=some (.q 3 (bQ s))
 q1:l[1]?=some (.q 11 (au o))
 sw:l[2]?=some (.q 3 [.af,.af,.i6 0])
 sx:l[3]?=some (.q 32 (bT 32 (.int .u8 0)))
 ac0:l[4]?=some (.q 32 (ar x))
 aaX:5<=N
 ex:∃ v j g w2,l[N]?=some (.q 3 [v,.af,.i6 (s.b6+1)])/\aM 2 l v j (mX s.al.l (num x s.al.l.length) g w2 k)/\(v=.af\/N<j)/\bt v=decide (k=0)/\(k<=num x s.al.l.length\/Oe s x N j g w2 l)
theorem e5.lt {alZ:Type} {z:Nat} {enc:alZ->ag} {l:ae} {n:Nat} {w:U} {s:bL alZ} (h:e5 z enc l n w s) {p b o m t:Nat} (e:w=.ad p b 0 o m t) :n<=b/\b<l.length:=by
 rcases h with ⟨_,rfl⟩ | ⟨c,h1,_,rfl,j⟩
 ·cases e
 ·injection e with _ g
  subst g;exact⟨h1,a2 j⟩
theorem e5.bq {alZ:Type} {z:Nat} {enc:alZ->ag} {l l' : ae} {n:Nat} {w:U} {s:bL alZ} (h:e5 z enc l n w s) (p:∀ b,n<=b->b<l.length->(∀ u q m t,w=.ad u b 0 q m t->l'[b]?=l[b]?)) :e5 z enc l' n w s:=by
 rcases h with h | ⟨b,h1,o,g,j⟩
 ·exact .inl h
 ·exact .inr ⟨b,h1,o,g,by rw[p b h1 (a2 j) _ _ _ _ g];exact j⟩
theorem Kf {s:ck} {N:Nat} {l L:ae} {v:U} {j:Nat} {es:List (ag)} {e:ag} {b:Nat} (z:N<l.length) (V:l[N]?=some (.q 3 [v,.af,.i6 (s.b6+1)])) (S:aM 2 l v j es) (C:v=.af\/N<j) (o:ih l L) (O:L[b]?=some (.q 2 e)) (B:e.length=2) (Y:es.length<=1000) :
  ∃ g dp L',eE L 2 48 v (.ad 2 b 0 1 1 2)=some (g,L')/\g.cells=some [g]/\L'[N]?=some (.q 3 [v,.af,.i6 (s.b6+1)])/\aM 2 (L'.set N (.q 3 [g,.af,.i6 (s.b6+1)])) g dp (es++[e])/\N<dp/\bt g=false ∧
   L.length<=L'.length/\(∀ c,c<L.length->c≠N->(v=.af\/c≠j)->(L'.set N (.q 3 [g,.af,.i6 (s.b6+1)]))[c]?=L[c]?)/\(dp=j/\v≠.af\/L.length<=dp):=by
 have W:=dF;have T:=UW S o;obtain⟨g,dp,L',G,t,H,u,w,I⟩:=iG (by_:=48) (x:=.ad 2 b 0 1 1 2) (xs:=[e]) T (by simp[cG,O,B,aL]) (by simp[B]) F F (by rw[W];simp;omega);have J:N<L.length:=mq z o.1;have p:bt g=false:=by rw[I];simp
 have D:g≠.af:=fun e=>by rw[e] at p;cases p
 have K:N<dp:=by
  rcases w with h | ⟨h1,m⟩ | h
  ·omega
  ·rw[m];exact C.resolve_left h1
  ·exact bP h D
 have X:L'[N]?=some (.q 3 [v,.af,.i6 (s.b6+1)]):=by
  rw[u N J (by rcases C with h | h;exact .inl h;exact .inr F),o.2 N z];exact V
 refine⟨g,dp,L',G,t.cells,X,t.c6 (.inr (br F)),K,p,H,fun c P Q R=>?_,?_⟩
 ·rw[br (fun e=>Q e.symm)];exact u c P R
 ·rcases w with h | ⟨h1,m⟩ | h
  ·exact .inr h
  ·exact .inl ⟨m,h1⟩
  ·exact bP h D
theorem LO {A R xs:ag} {i:Nat} (h:i+xs.length<=A.length) :ax (A++R) i xs=ax A i xs++R:=by unfold ax;rw[ig F,nS F];simp
theorem hO {z:Nat}:∀ {es:List (ag)},(∀ e∈es,e.length=z)->es.flatten.length=es.length*z
 | [],_=>V
 | e::es,h=>by
  rw[g6,cr,hO fun e g=>h e (by simp[g]),h e V,dE,eV];omega
theorem JR {l:ae} {j n cap sz i:Nat} {cs:ag} {es:List (ag)} (h:aM 2 l (.ad 2 j 0 n cap sz) j es) (v:l[j]?=some (.q sz cs)) (ap:i<n) (a b:U) :
  aM 2 (l.set j (.q sz (ax (ax cs (i*2) [a]) (i*2+1) [b]))) (.ad 2 j 0 n cap sz) j (es.set i [a,b]):=by
 generalize G:U.ad 2 j 0 n cap sz=w at h;cases h with
 | nil=>cases G
 | ad ar au Z av ai es z aq u o t Q B=>
  injection G with aj ak al I J K
  subst I J K;rw[v] at z;injection z with O
  injection O with _ P
  subst P;obtain⟨e,m,S⟩:=aP (l:=es) (k:=i) F;have R:=o e S;obtain⟨p,g,rfl⟩:∃ p g,e=[p,g]:=by
   match e,R with
   | [p,g],_=>exact⟨p,g,rfl⟩
  have am:es.flatten.length=n*2:=by rw[<-B,cO];have:=cn 2 t;omega
  have D:cs=es.flatten++cs.drop (n*2):=by rw[<-B,iV]
  have X:ax es.flatten (i*2) [a]=(es.set i [a,g]).flatten:=by
   have:=po o m (j:=0) (vs:=[a]) V;simpa [ax] using this
  have H:∀ e∈es.set i [a,g],e.length=2:=fun e m=>by
   rcases nV m with h | rfl
   ·exact o e h
   ·rfl
  have Y:ax (es.set i [a,g]).flatten (i*2+1) [b]=(es.set i [a,b]).flatten:=by
   have:=po H (b1 F) (j:=1) (vs:=[b]) V;rw[this,AZ];rfl
  have ao:(es.set i [a,g]).flatten.length=n*2:=by rw[hO H,kj,u]
  have C:ax (ax cs (i*2) [a]) (i*2+1) [b]=(es.set i [a,b]).flatten++cs.drop (n*2):=by
   rw[D,LO (by simp only[xS];omega),X,LO (by simp only[xS];omega),Y,<-D]
  have W:∀ e∈es.set i [a,b],e.length=2:=fun e m=>by
   rcases nV m with h | rfl
   ·exact o e h
   ·rfl
  have T:(es.set i [a,b]).flatten.length=n*2:=by rw[hO W,kj,u]
  refine .ad j n cap sz _ _ (b1 (a2 v)) ?_ (by rw[kj];exact u) (fun e m=>?_) t Q ?_
  ·rw[C,cr,T,iT];have:=cn 2 t;omega
  ·rcases nV m with h | rfl
   ·exact o e h
   ·rfl
  ·rw[C,ig F,aL F]
theorem e5.own {alZ:Type} {z:Nat} {enc:alZ->ag} {l:ae} {n:Nat} {w:U} {s:bL alZ} (h:e5 z enc l n w s) (m:∀ y∈s.l,(enc y).length=z) :∃ b,n<=b/\aM z l w b (s.l.map enc)/\bt w=s.isNone/\(w=.af\/w=.ad z b 0 s.l.length s.l.length (s.l.length*z)):=by
 rcases h with ⟨rfl,rfl⟩ | ⟨b,h1,g,rfl,j⟩
 ·exact⟨n,aI _,.nil n,rfl,.inl rfl⟩
 ·exact⟨b,h1,qW m rfl j,by rw[g];rfl,.inr rfl⟩
theorem UT {z:Nat} {l:ae} {w r:U} {b n:Nat} {es:List (ag)} (t:w=.af\/w=.ad z b 0 n n (n*z)) (D:r=w\/∃ q:Nat,dK (.ad z) w none (some (.i6 (q:Int))) none=some r) (h:aM z l r b es) :x4 z l r es:=by
 have v:r=.af\/∃ q,r=.ad z b 0 q n (n*z):=by
  rcases D with rfl | ⟨q,j⟩
  ·rcases t with h | h
   ·exact .inl h
   ·exact .inr ⟨n,h⟩
  ·rcases t with h | h
   ·subst h;simp[dK] at j;exact .inl j.2.symm
   ·subst h;simp[dK] at j;obtain⟨a,u,F,g,o⟩:=j;have C:e6 n n none (some (.i6 (q:Int))) none=(match gW (.i6 (q:Int)) n with | none=>none | some h=>some (0,h,n)):=rfl;rw[C] at g;split at g
    ·cases g
    ·injection g with g
     injection g with h1 m
     injection m with m B
     subst h1 B;right;by_cases p:n=0
     ·subst p;exact⟨0,by rw[<-o];simp⟩
     ·exact⟨u,by rw[<-o,ak p];simp⟩
 rcases v with rfl | ⟨q,rfl⟩
 ·left;refine⟨?_,rfl⟩;cases h;rfl
 ·exact .inr ⟨b,q,n,rfl,h⟩
theorem XQ (s:ck) (C:g9 s) (h:e1 s) (o:aG) (aH:dz o) (dv:eA o=0) (fW:s.b6<60) (dx:bE o∉(bG (bD s)).idsZ.l) (eY:∀ p∈o.ay.l,p∈(bG (bD s)).idsZ.l) :
  aY 105 [.ah (bQ s),.ah (au o)] (.a1 [.ah (bQ (fx s (bE o) o)),.ah (ar (bE o)),.i6 0]):=by
 apply bc func105 [[[0],[1],[2],[3,1]],db 0 9++db 10 7++[[9,16,15,13]],[[0],[1],[2,1]]];have cu:=dF;have bY:=px o;obtain⟨x,dA⟩:=ao (bE o);rw[<-dA] at dx bY ⊢;have az:=bu bY;have bZ:=c4 x;have bv:(bQ s).length=3:=rfl;have cm:(bQ s).take 3=bQ s:=rfl;have cl:=pj s;have eu:(bQ s)[0]?=some (e9 s.al):=rfl;have ex:(bQ s)[2]?=some (.i6 s.b6):=rfl;have ev:(bQ s)[1]?=some (ai s.cb):=rfl;have c0:∀ h,(bQ s)[0]'h=e9 s.al:=fun _=>rfl
 have c1:∀ h,(bQ s)[1]'h=ai s.cb:=fun _=>rfl
 have c3:∀ h,(bQ s)[2]'h=.i6 s.b6:=fun _=>rfl
 have Z:(au o).length=11:=rfl;have bk:(au o).take 11=au o:=rfl;have ct:=dV o;have es:(au o)[1]?=some (ai o.ay):=rfl;have cj:∀ h,(au o)[1]'h=ai o.ay:=fun _=>rfl
 have dc:aq [U.ah (bQ s)]=true:=by simp[aq,U.aw,cl]
 have dd:=W0 s C h;have cE:=xB o aH;rw[dv] at cE;have bp:=u2 o aH;rw[u1 dv] at bp;have eM:eF (bE o)=.ah (ar x):=by rw[dA];rfl
 rw[eM] at bp;have bm:=Lv s C h x bY;rw[cC dx] at bm;have eJ:fR prog 156=true:=bg;have eK:fR prog 160=true:=bg;have gn:s.b6=((bD s).length:Int):=h.ke;have dY:IntKind.i64.wrap (s.b6+1)=s.b6+1:=by rw[IntKind.wrap_i64];omega
 have eh:¬ s.b6=60:=F;have eS:=pD s.al;have eE:=bU o.ay;obtain⟨X,K⟩:=ao (ar x);rw[<-K] at az bZ bp bm ⊢;have bl:X.take 32=X:=aL F;have cA:ax (bT 32 (.int .u8 0)) 0 X=X:=cI (by rw[az];rfl);obtain⟨iQ,G⟩:=ao (num x s.al.l.length);obtain⟨aE,aF⟩:=ao (ec (e4 s x).idsZ.l x);rw[<-G,<-aF] at bm;obtain⟨O,Y⟩:=ao (au o);rw[<-Y] at Z bk ct es cE bp ⊢;simp only[<-Y] at cj;obtain⟨S,aR⟩:=ao (bQ s);rw[<-aR] at bv cm cl eu ev ex dc dd bm ⊢;simp only[<-aR] at c0 c1 c3;simp[bv,cm,Z];refine av dd dc ?_;simp[Z,bk];refine av cE (by simp[aq,U.aw,ct]) ?_;simp[Z,bk];refine av bp (by simp[aq,U.aw,ct]) ?_;simp[bv,cm,cA,az,bl];refine av bm (by simp[aq,U.aw,cl,bZ]) ?_;simp[Z,cj];refine ym o.ay aH.idsZ aH.len eJ (Ow s C h (l:=_) (b:=0) (by rw[<-aR];rfl) o.ay.l aH.idsZ) fun B a3=>?_
 have ey:o.ay.l.any (fun p=>!decide (p∈(bG (bD s)).idsZ.l))=false:=by
  rw[AM];intro p a6;simp[eY p a6]
 rw[ey];have dK:B[0]?=some (.q 3 S):=by rw[a3.2 0 V];rfl
 have fA:B[1]?=some (.q 11 O):=by rw[a3.2 1 V];rfl
 have fB:B[2]?=some (.q 3 [.af,.af,.i6 0]):=by rw[a3.2 2 V];rfl
 have fE:B[3]?=some (.q 32 (bT 32 (.int .u8 0))):=by rw[a3.2 3 V];rfl
 have fJ:B[4]?=some (.q 32 X):=by rw[a3.2 4 V];rfl
 have gy:5<=B.length:=a3.1;have f0:∀ g:ae,(B++g)[0]?=some (.q 3 S):=fun g=>by rw[aV F];exact dK
 have dZ:∀ (g:ae) (h:0<(B++g).length),(B++g)[0]'h=.q 3 S:=fun g h=>(aK.1 (f0 g)).2
 simp[dK,bv,c3,eh,dY,ax,dZ,c0,eS];obtain⟨N,c9⟩:=ao (B.length);have eb:∀ g:ae,(B++g)[1]?=some (.q 11 O):=fun g=>by rw[aV F];exact fA
 have ed:∀ g:ae,(B++g)[2]?=some (.q 3 [.af,.af,.i6 0]):=fun g=>by rw[aV F];exact fB
 have ef:∀ g:ae,(B++g)[3]?=some (.q 32 (bT 32 (.int .u8 0))):=fun g=>by rw[aV F];exact fE
 have eg:∀ g:ae,(B++g)[4]?=some (.q 32 X):=fun g=>by rw[aV F];exact fJ
 refine bz s.al.l.length (Od s x o N) ?_ ⟨V,V,V,V,V,by simp[G],by simp[aF],by simp[c9],V,V,V,by rw[<-aR];exact f0 _,by rw[<-Y];exact eb _,ed _,ef _,by rw[<-K];exact eg _,F,.af,0,.af,.af,by rw[c9];simp,.nil 0,.inl rfl,rfl,.inl (ek _)⟩;rintro k fN l hk ⟨cQ,cR,bH,cS,cY,cd,ce,cP,cU,cW,cX,b3,q1,cF,cG,aW,da,aC,j,oV,w2,aB,aJ,bP,gl,bM⟩;rw[<-G] at cd aJ bM;rw[<-aF] at ce;rw[<-aR] at b3;rw[<-Y] at q1;rw[<-K] at aW;obtain⟨fN,rfl⟩:=ME cQ cR bH cS cY cd ce cP cU cW cX;clear cQ cR bH cS cY cd ce cP cU cW cX;have T:IntKind.i64.wrap ((k:Int)+1)=((k+1:Nat) :Int):=by rw[IntKind.wrap_i64];have:=h.sm;omega
 have bj:=a2 aB;have gk:=h.sm;by_cases a5:k<s.al.l.length
 ·obtain⟨p,dn,bR⟩:=aP a5;have dg:ds s.al.l k=p:=dt dn;have bs:=(C.al p bR).1;have bo:=mG dn;have aZ:(bf p).length=2:=rfl;have ch:(bf p).take 2=bf p:=rfl;have c7:=pi p;have cB:=L8 p bs;change aY _ [.ah (bf p)] (.ah (bf p)) at cB;have cw:=K4 s.al.l iQ oV w2 k;have e7:=zU s.al.l iQ oV w2 k;obtain⟨P,bL⟩:=ao (bf p);rw[<-bL] at bo aZ ch c7;have cz:ax [U.af,.af] 0 P=P:=cI (by rw[aZ];rfl);have b4:∀ (g:ae) (c:Nat) (b:am),l[c]?=some b->(l++g)[c]?=some b:=fun g c b z=>by rw[aV (a2 z)];exact z
  have J:∀ c,c<5->c≠N:=fun c cn=>F
  have Q:∀ c,c<5->aC=.af\/c≠j:=fun c cn=>by rcases bP with e | e;exact .inl e;exact .inr F
  by_cases cr:k=iQ
  ·have dk:k<=iQ:=F;simp[a5,bo,aZ,ch,cz,b4 _ _ _ aB];rw[bL];refine X4 p bs fun a9 bb oD bI dG dH ez fm fo=>?_
   rw[<-bL] at bI;have cg:ih l oD:=ih.trans ⟨V,fun b z=>aV z⟩ bI;have gh:l.length+1<=oD.length:=by have:=bI.1;simpa using this
   have fz:oD[N]?=some (.q 3 [aC,.af,.i6 (s.b6+1)]):=by rw[cg.2 N bj];exact aB
   have gx:oD[l.length]?=some (.q 2 P):=by rw[bI.2 l.length V];simp
   rw[WO dk oV w2 a9 bb] at aJ;have dq:=K4 s.al.l iQ a9 bb k;rw[aj cr] at dq;obtain⟨I,bw,bh,b5,b7,bi,b8,b9,R,dQ,ca,cc⟩:=Kf (s:=s) (N:=N) (L:=oD++[am.q 2 [a9,bb]]) (b:=oD.length) (e:=[a9,bb]) bj aB aJ bP (cg.trans ⟨V,fun b z=>aV z⟩) V rfl (by rw[zU];omega);have bq:∀ (c:Nat) (b:am),c≠N->(aC=.af\/c≠j)->oD[c]?=some b->(bh.set N (.q 3 [I,.af,.i6 (s.b6+1)]))[c]?=some b:=fun c b h1 m D=>by
    have cf:=a2 D;rw[ca c (by simp;omega) h1 m,aV cf];exact D
   have bA:∀ (c:Nat) (b:am),c≠N->(aC=.af\/c≠j)->l[c]?=some b->(bh.set N (.q 3 [I,.af,.i6 (s.b6+1)]))[c]?=some b:=fun c b h1 m D=>bq c b h1 m (by rw[cg.2 c (a2 D)];exact D)
   have a4:aC=.af\/j<l.length:=aJ.lt;simp[fz,ew,cD,b5];refine b2.bq ?_;have cy:ax [aC,.af,.i6 (s.b6+1)] 0 [I]=[I,.af,.i6 (s.b6+1)]:=rfl;simp[b7,bi,cy,T];have cO:∀ (w:U) (q:Nat),(∀ u b n g t,w=.ad u b 0 n g t->l.length+1<=b/\b<oD.length)->wN bw w:=fun w q fd u b n g t e=>by
    obtain⟨h1,m⟩:=fd u b n g t e;rcases cc with ⟨T,dX⟩ | T
    ·have:=a4.resolve_left dX;omega
    ·simp at T;omega
   have dE:∀ b,l.length+1<=b->b<oD.length->(bh.set N (.q 3 [I,.af,.i6 (s.b6+1)]))[b]?=oD[b]?:=fun b h1 m=>by
    obtain⟨y,v,_⟩:=aP m;rw[v];refine bq b y F ?_ v;rcases a4 with e | e
    ·exact .inl e
    ·exact .inr F
   have a6:e4 s x=p:=by unfold e4;rw[<-G,<-cr];exact dg
   refine⟨a5,V,V,V,V,V,by simp[G],by simp[aF],V,V,V,V,bA 0 _ (J 0 F) (Q 0 F) (by rw[<-aR];exact b3),bA 1 _ (J 1 F) (Q 1 F) (by rw[<-Y];exact q1),bA 2 _ (J 2 F) (Q 2 F) cF,bA 3 _ (J 3 F) (Q 3 F) cG,bA 4 _ (J 4 F) (Q 4 F) (by rw[<-K];exact aW),da,I,bw,a9,bb,b1 (by have:=a2 bi;omega),by rw[<-G,dq];exact b8,.inr b9,by rw[R];simp,.inr ⟨?_,?_,ez,fm,fo,cO a9 0 fun u b n g t e=>by have:=dG.lt e;simpa using this,cO bb 0 fun u b n g t e=>by have:=dH.lt e;simpa using this⟩⟩
   ·rw[a6];exact (dG.frame fun b h1 m=>dE b (by simpa using h1) m).mono (by simp;omega)
   ·rw[a6];exact (dH.frame fun b h1 m=>dE b (by simpa using h1) m).mono (by simp;omega)
  ·rw[ak cr,dg] at cw;rw[<-bL] at cw cB;obtain⟨I,bw,bh,b5,b7,bi,b8,b9,R,dQ,ca,cc⟩:=Kf (s:=s) (N:=N) (L:=l++[am.q 2 P,am.q 2 P]) (b:=l.length+1) (e:=P) bj aB aJ bP ⟨V,fun b z=>aV z⟩ V aZ (by rw[e7];omega);have bq:∀ (c:Nat) (b:am),c≠N->(aC=.af\/c≠j)->l[c]?=some b->(bh.set N (.q 3 [I,.af,.i6 (s.b6+1)]))[c]?=some b:=fun c b h1 m D=>by
    have cf:=a2 D;rw[ca c (by simp;omega) h1 m,aV cf];exact D
   have a4:aC=.af\/j<l.length:=aJ.lt;simp[a5,bo,aZ,ch,cz,b4 _ _ _ aB];refine av cB (by simp[aq,U.aw,c7]) ?_;simp[aZ,cz,b4 _ _ _ aB,ew,cD,b5];refine b2.bq ?_;have cy:ax [aC,.af,.i6 (s.b6+1)] 0 [I]=[I,.af,.i6 (s.b6+1)]:=rfl;simp[b7,bi,cy,T];refine⟨a5,V,V,V,V,V,by simp[G],by simp[aF],V,V,V,V,bq 0 _ (J 0 F) (Q 0 F) (by rw[<-aR];exact b3),bq 1 _ (J 1 F) (Q 1 F) (by rw[<-Y];exact q1),bq 2 _ (J 2 F) (Q 2 F) cF,bq 3 _ (J 3 F) (Q 3 F) cG,bq 4 _ (J 4 F) (Q 4 F) (by rw[<-K];exact aW),da,I,bw,oV,w2,b1 (by have:=a2 bi;omega),by rw[<-G,cw];exact b8,.inr b9,by rw[R];simp,?_⟩;rcases bM with bM | W
   ·left;rw[<-G];omega
   ·right;have dJ:∀ w,wN j w->(∀ u b n g t,w=.ad u b 0 n g t->b<l.length)->wN bw w:=fun w h1 m u b n g t e=>by
     rcases cc with ⟨T,_⟩ | T
     ·rw[T];exact h1 u b n g t e
     ·have:=m u b n g t e;simp at T;omega
    refine⟨W.hB.bq fun b h1 m u n g t e=>?_,W.iw.bq fun b h1 m u n g t e=>?_,W.ap,W.m1,W.m2,dJ _ W.f1 fun u b n g t e=>(W.hB.lt e).2,dJ _ W.f2 fun u b n g t e=>(W.iw.lt e).2⟩
    ·obtain⟨y,v,_⟩:=aP m;rw[v];exact bq b y F (.inr (W.f1 u b n g t e)) v
    ·obtain⟨y,v,_⟩:=aP m;rw[v];exact bq b y F (.inr (W.f2 u b n g t e)) v
 ·have fZ:k=s.al.l.length:=F;obtain⟨_,_,e2⟩:=zB h x;rw[<-G] at e2;have W:=bM.resolve_left F;have eO:=lY o.ay aH.idsZ aH.len;have mp:=hw o.ay;have fa:ax O 1 [ai o.ay]=O:=by rw[Y];exact wT o
  have fO:=uO q1;obtain⟨aA,cap,H,cs,fc,z,gj,fY,dh,dk,dr⟩:=UU aJ (i:=iQ) (e:=[oV,w2]) (by rw[K3 F,aj rfl]);have dR:cs[iQ*2]?=some oV:=by
   have:((cs.drop (iQ*2)).take 2)[0]?=some oV:=by rw[dr];rfl
   rw[dU F,gB] at this;exact this
  have cN:cs[iQ*2+1]?=some w2:=by
   have:((cs.drop (iQ*2)).take 2)[1]?=some w2:=by rw[dr];rfl
   rw[dU F,gB] at this;exact this
  subst fc;have bo:bO (.ad 2) (.ad 2 j 0 aA cap H) (.i6 (iQ:Int))=some (.ptr j (iQ*2) H):=by
   simp[bO,dh]
  simp[a5,q1,Z,cj];refine av eO (by simp[aq,eE]) ?_;have eB:∀ g:ae,(l++g)[j]?=some (.q H cs):=fun g=>by rw[aV (a2 z)];exact z
  have fy:∀ g:ae,(l++g)[1]?=some (.q 11 O):=fun g=>by rw[aV (a2 q1)];exact q1
  have gv:∀ g:ae,(l++g)[4]?=some (.q 32 X):=fun g=>by rw[aV (a2 aW)];exact aW
  have fb:ax [U.int .u32 0,.af,.int .u64 0,.int .u8 0,.str [],.int .u8 0,.i6 0,.int .u64 0,.str [],.int .u32 0,.int .u32 0] 0 O=O:=cI (by rw[Z];rfl);have bR:=(zB h x).2.1;have bs:=(C.al _ bR).1;have dw:=jI.1 h.wf _ bR;have dB:∀ y∈(e4 s x).idsZ.l,(ar y).length=32:=fun y v=>bu (bs.idsZ y v)
  have dC:∀ y∈(e4 s x).opsZ.l,(au y).length=11:=fun y _=>rfl
  have de:=yk (e4 s x).idsZ.l x;have gi:(e4 s x).idsZ.l.length<=1000000:=bs.li;have a4:=a2 z;simp[q1,Z,fa,mp,fO,aB,bo,z,eB,dR,cN,aW,fy,az,bl,bk,cA,fb,ew,cD];refine Cy (enc:=ar) (x:=x) Cx bg bg (show gO prog 57=some 32 by kernel_rfl) F F bg dB (by rw[<-K];exact az) ((W.hB.frame fun b _ z=>aV z).c dB) (by rw[<-K];simp) (fun b n cap s e=>by have:=(W.hB.lt e).2;omega) (by rw[aF];exact de) (by rw[cu];omega) fun bB eR cp=>?_
  have aS:∀ (c:Nat) (b:am),c<l.length->(∀ u dD n g t,oV=.ad u dD 0 n g t->c≠dD)->l[c]?=some b->bB[c]?=some b:=fun c b h1 m D=>by
   rw[cp c (by simp;omega) (fun b n cap s e=>m 32 b n cap s e),aV h1];exact D
  have a7:∀ c,c<=N->∀ u dD n g t,oV=.ad u dD 0 n g t->c≠dD:=fun c cn u dD n g t e=>by have:=(W.hB.lt e).1;omega
  have a8:∀ c,c<=N->∀ u dD n g t,w2=.ad u dD 0 n g t->c≠dD:=fun c cn u dD n g t e=>by have:=(W.iw.lt e).1;omega
  have cM:=aS j _ a4 (fun u dD n g t e=>(W.f1 u dD n g t e).symm) z;have fq:=aS N _ bj (a7 N (aI _)) aB;have fP:=aS 4 _ F (a7 4 F) aW;have dI:=aS 1 _ F (a7 1 F) q1;have dN:bB[l.length+1]?=some (.q 11 O):=by
   rw[cp (l.length+1) V (fun b n cap s e=>by have:=(W.hB.lt e).2;omega)];simp
  simp[cM,cN,dI,Z,bk,dN];have dO:e5 11 au bB (N+1) w2 (e4 s x).opsZ:=W.iw.bq fun b h1 m u n g t e=>by
   rw[cp b (by simp;omega) (fun dD aA gq gA dW=>by have:=W.ap _ _ _ _ _ _ _ _ _ _ dW e;omega),aV m]
  refine Cy (enc:=au) (x:=o) Ik bg bg (show gO prog 55=some 112 by kernel_rfl) F F bg dC rfl (dO.c dC) (by rw[<-Y];exact dN) (fun b n cap s e=>by have:=(W.iw.lt e).2;omega) (by rw[aF,<-dw.1];exact de) (by rw[cu,<-dw.1];omega) fun bC gb eH=>?_
  have ga:l.length<=bB.length:=by simp at eR;omega
  have aT:∀ (c:Nat) (b:am),c<l.length->(∀ u dD n g t,w2=.ad u dD 0 n g t->c≠dD)->bB[c]?=some b->bC[c]?=some b:=fun c b h1 m D=>by
   rw[eH c F (fun b n cap s e=>m 11 b n cap s e)];exact D
  have bF:=aT j _ a4 (fun u dD n g t e=>(W.f2 u dD n g t e).symm) cM;have fr:=aT N _ bj (a8 N (aI _)) fq;have fQ:=aT 4 _ F (a8 4 F) fP;have fv:=aT 1 _ F (a8 1 F) dI;have dj:=a2 bF;have bH:∀ c' : am,(bC.set j c')[j]?=some c':=fun c'=>b1 dj
  have hv:∀ a:List (ag),(U.bn 32 a).cells=some [.bn 32 a]:=fun a=>rfl
  have dT:∀ a:List (ag),(U.bn 11 a).cells=some [.bn 11 a]:=fun a=>rfl
  have fj:=aT 0 _ F (a8 0 F) (aS 0 _ F (a7 0 F) b3);have bd:∀ (c:Nat) (b:am) (c' : am),c≠j->bC[c]?=some b->(bC.set j c')[c]?=some b:=fun c b c' h1 m=>by rw[br (fun e=>h1 e.symm)];exact m
  have fX:N<j:=by rcases bP with e | e;cases e;exact e
  have fl:=fun c'=>bd 0 _ c' F fj
  simp[bF,bH,hv,dT,fl,bv,c1];refine⟨F,F,?_⟩;have c8:=JR (aJ.c6 (.inr (by rw[bF,z]))) bF dh (.bn 32 ((c2 (e4 s x).idsZ.l aE x).map ar)) (.bn 11 ((c2 (e4 s x).opsZ.l aE o).map au));obtain⟨M,aQ⟩:=ao (bC.set j (.q H (ax (ax cs (iQ*2) [.bn 32 ((c2 (e4 s x).idsZ.l aE x).map ar)]) (iQ*2+1) [.bn 11 ((c2 (e4 s x).opsZ.l aE o).map au)])));rw[<-aQ] at c8 ⊢;have ft:M[N]?=some (.q 3 [.ad 2 j 0 aA cap H,.af,.i6 (s.b6+1)]):=by rw[aQ];exact bd N _ _ F fr
  have fV:M[4]?=some (.q 32 X):=by rw[aQ];exact bd 4 _ _ F fQ
  have fw:M[1]?=some (.q 11 O):=by rw[aQ];exact bd 1 _ _ F fv
  have fD:M[2]?=some (.q 3 [.af,.af,.i6 0]):=by rw[aQ];exact bd 2 _ _ F (aT 2 _ F (a8 2 F) (aS 2 _ F (a7 2 F) cF))
  have fI:M[3]?=some (.q 32 (bT 32 (.int .u8 0))):=by rw[aQ];exact bd 3 _ _ F (aT 3 _ F (a8 3 F) (aS 3 _ F (a7 3 F) cG))
  have cq:j<M.length:=by rw[aQ];simpa using dj
  refine BE s.cb C.cb (by have:=C.pI;omega) fun gD dP gu fu=>?_
  have ff:∀ y∈s.cb.l,(ar y).length=32:=fun y v=>bu (C.cb y v)
  obtain⟨Iu,go,fg,gp,fi⟩:=fu.own ff;have cL:∀ (c:Nat) (b:am),M[c]?=some b->(M++dP)[c]?=some b:=fun c b z=>by rw[aV (a2 z)];exact z
  simp;refine Hd eK fg (fun y v=>C.cb y v) (by have:=C.pI;omega) (Vf o aH (by rw[<-Y];exact cL 1 _ fw) F s.cb.l (fun y v=>C.cb y v)) fun r aU cv cZ gm eG=>?_
  have gg:M.length<=aU.length:=by have:=cZ.le;simp at this;omega
  have R:∀ (c:Nat) (b:am),c<M.length->M[c]?=some b->aU[c]?=some b:=fun c b h1 m=>by rw[cZ.same c (by simp;omega) F];exact cL c b m
  have n6:=R N _ F ft;have fS:=R 4 _ F fV;have eU:=c8.c6 (l':=aU) (.inr (by
   obtain⟨y,v,_⟩:=aP cq;rw[v];exact R j y cq v))
  have fp:=cv.cells;have ep:=a2 n6;have n7:(aU.set N (.q 3 [.ad 2 j 0 aA cap H,r,.i6 (s.b6+1)]))[N]?=some (.q 3 [.ad 2 j 0 aA cap H,r,.i6 (s.b6+1)]):=b1 ep;obtain⟨aN,a0⟩:=ao (aU.set N (.q 3 [.ad 2 j 0 aA cap H,r,.i6 (s.b6+1)]));have cJ:∀ (c:Nat) (b:am),c≠N->aU[c]?=some b->aN[c]?=some b:=fun c b h1 m=>by rw[a0,br (fun e=>h1 e.symm)];exact m
  have cH:=cJ 4 _ F fS;have bS:aM 32 aN r Iu ((s.cb.l.filter fun t=>!decide (t∈o.ay.l)).map ar):=by
   rw[a0];exact cv.c6 (.inr (br F))
  have eV:=eU.c6 (l':=aN) (.inr (by rw[a0];exact br F));simp[n6,fp,ax];rw[<-a0];rw[<-a0] at n7;obtain⟨lG,aO⟩:∃ lG:bV,lG.l=(s.cb.l.filter fun t=>!decide (t∈o.ay.l))/\lG.isNone=bt r:=by
   cases eL:bt r with
   | false=>exact⟨some _,rfl,rfl⟩
   | true=>
    have:=gC.1 eL;subst this;have df:=cv.q.pJ;rw[nU] at df;exact⟨none,df.symm,rfl⟩
  have c5:cT lG:=fun y v=>by rw[aO.1] at v;exact C.cb y (dy.1 v).1
  have ej:lG.l.length<=1000000:=by rw[aO.1];have:=ie (fun t=>!decide (t∈o.ay.l)) s.cb.l;have:=C.pI;omega
  have en:bX lG.l=true:=by
   rw[aO.1,<-h.tY];exact uD ((oN (Cp (lo h.k6).bX)).sublist ki)
  have du:=z2 lG c5 ej x bY en;have e6:=bS.l8 c4 lG aO.2.symm aO.1;rw[<-K] at du;simp[n7,cH,az,bl];refine hg du (.cons e6 (.cons (.same _ (by simp[U.aw,bZ])) (.cons (.same _ rfl) .nil))) (by simp[U.flat,ky]) ?_;simp[n7,cH,az,bl,cA,ew,cD];have fe:∀ y∈lG.l,(ar y).length=32:=fun y v=>bu (c5 y v)
  have eC:=yk lG.l x;have et:x4 32 (aN++[am.q 32 X]) r (lG.l.map ar):=UT fi eG (by rw[aO.1];exact bS.more _);have dp:∀ b n cap s,r=.ad 32 b 0 n cap s->b=Iu:=fun b n cap s e=>by
   subst e;cases bS;rfl
  have gd:aN.length=aU.length:=by rw[a0];simp
  refine Cy (enc:=ar) (x:=x) Cx bg bg (show gO prog 57=some 32 by kernel_rfl) F F bg fe (by rw[<-K];exact az) et (by rw[<-K];simp) (fun b n cap s e=>by
   have:=dp b n cap s e;rcases bS.lt with q | q
   ·rw[q] at e;cases e
   ·omega) eC (by rw[cu];omega) fun fF gf eI=>?_
  have bx:∀ (c:Nat) (b:am),c<M.length->aN[c]?=some b->fF[c]?=some b:=fun c b h1 m=>by
   rw[eI c (by simp;omega) (fun dD n cap s e=>by have:=dp dD n cap s e;omega),aV F];exact m
  have n8:=bx N _ F n7;have fT:=bx 4 _ F cH;have fC:=bx 2 _ F (cJ 2 _ F (R 2 _ F fD));have fH:=bx 3 _ F (cJ 3 _ F (R 3 _ F fI));have eW:=eV.c6 (l':=fF) (.inr (by
   obtain⟨y,v,_⟩:=aP (l:=aN) (k:=j) F;rw[v];exact bx j y cq v))
  have er:=a2 n8;obtain⟨aX,ci⟩:=ao (U.bn 32 ((c2 lG.l (ec lG.l x) x).map ar));have dS:aX.cells=some [aX]:=by rw[ci];rfl
  obtain⟨aD,bK⟩:=ao (fF.set N (.q 3 [.ad 2 j 0 aA cap H,aX,.i6 (s.b6+1)]));have fs:aD[N]?=some (.q 3 [.ad 2 j 0 aA cap H,aX,.i6 (s.b6+1)]):=by rw[bK];exact b1 er
  have cK:∀ (c:Nat) (b:am),c≠N->fF[c]?=some b->aD[c]?=some b:=fun c b h1 m=>by rw[bK,br (fun e=>h1 e.symm)];exact m
  have fU:=cK 4 _ F fT;have dL:=cK 2 _ F fC;have dM:=cK 3 _ F fH;have dl:=eW.c6 (l':=aD) (.inr (by rw[bK];exact br F));rw[<-ci];simp[n8,dS,ax];rw[<-bK];have eP:=a2 dL;have eQ:=a2 dM;have fM:∀ c:am,(aD.set 2 c)[3]?=some (.q 32 (bT 32 (.int .u8 0))):=fun c=>by rw[br F];exact dM
  have fL:∀ c:am,(aD.set 2 c)[2]?=some c:=fun c=>b1 eP
  have t29:∀ c d:am,((aD.set 2 c).set 3 d)[2]?=some c:=fun c d=>by rw[br F];exact fL c
  have t39:∀ c d:am,((aD.set 2 c).set 3 d)[3]?=some d:=fun c d=>b1 (by simpa using eQ)
  simp[fs,fU,dL,fM,t29,t39,ax,az,bl];have eZ:bf (ix (e4 s x) x o)=[.bn 32 ((c2 (e4 s x).idsZ.l aE x).map ar),.bn 11 ((c2 (e4 s x).opsZ.l aE o).map au)]:=by rw[aF];rfl
  have a6:e4 s x=ds s.al.l iQ:=by unfold e4;rw[<-G]
  have e3:(fx s x o).al.l=s.al.l.set iQ (ix (e4 s x) x o):=by
   show s.al.l.set _ (ix (ds s.al.l _) x o)=_;rw[<-G,<-a6]
  have e8:(mX s.al.l iQ oV w2 k).set iQ [.bn 32 ((c2 (e4 s x).idsZ.l aE x).map ar),.bn 11 ((c2 (e4 s x).opsZ.l aE o).map au)]=(fx s x o).al.l.map bf:=by
   rw[e3,<-eZ];apply g5;intro i;by_cases di:i<k
   ·by_cases bN:i=iQ
    ·subst bN;rw[b1 (by rw[zU];exact di),bW,b1 F];rfl
    ·obtain⟨p,dm,_⟩:=aP (l:=s.al.l) (k:=i) F;rw[br (fun e=>bN e.symm),K3 di,ak bN,bW,br (fun e=>bN e.symm),dm,dt dm];rfl
   ·rw[ea (by rw[kj,zU];omega),ea (by rw[cx,kj];omega)]
  rw[e8] at dl;have eX:=dl.c6 (l':=((aD.set 2 (am.q 3 [U.ad 2 j 0 aA cap H,aX,U.int IntKind.i64 (s.b6+1)])).set 3 (am.q 32 (X++List.drop 32 (bT 32 (U.int IntKind.u8 0)))))) (.inr (by rw[br F,br F]));have fK:=eX.q.jA pi (fx s x o).al rfl rfl;have eo:aX=ai (fx s x o).cb:=by
   rw[ci,aO.1];rfl
  have eD:=bU (fx s x o).cb;refine .a1 _ _ rfl fun i c c' h1 m=>?_
  rcases i with _ | _ | _ | i
  ·simp at h1 m;subst h1 m;refine .ah _ _ rfl fun i c c' h1 m=>?_
   rcases i with _ | _ | _ | i
   ·simp[bQ] at h1 m;subst h1 m;exact fK
   ·simp[bQ] at h1 m;subst h1 m;rw[eo];exact .same _ eD
   ·simp[bQ] at h1 m;subst h1 m;exact .same _ rfl
   ·simp at h1
  ·simp at h1 m;subst h1 m;exact .same _ (by simp[U.aw,bZ])
  ·simp at h1 m;subst h1 m;exact .same _ rfl
  ·simp at h1
def Jw (s:dm) (o:aG) :dm:=⟨s.cap,jw (pR (cY s.aS) (bE o) o) s.aS.al.l.length,some (s.aJ.l++[bE o])⟩
def Jv (s:dm) (o:aG) :dm:=if lj s o=1 then Jw s o else gS s
theorem Ix {s:dm} {o:aG} (h:lj s o=1) :bE o∉s.aJ.l/\(∀ p∈o.ay.l,p∈s.aJ.l)/\s.aS.b6≠s.cap:=by
 unfold lj at h;split at h
 ·cases h
 ·split at h
  ·split at h
   ·cases h
   ·rename_i a b c;exact⟨a,b,c⟩
  ·cases h
theorem Iy {s:dm} (h:hJ s) {o:aG} (m:lj s o=1) :bE o∉(bG (bD s.aS)).idsZ.l/\(∀ p∈o.ay.l,p∈(bG (bD s.aS)).idsZ.l)/\s.aS.b6<60:=by obtain⟨h1,g,t⟩:=Ix m;refine⟨fun j=>h1 ((Ag h _).2 j),fun p q=>(Ag h p).1 (g p q),?_⟩;have:=h.ke;have:=h.tJ;omega
def XW:dm:=⟨0,⟨none,none,0⟩,none⟩
noncomputable def C8 (s:dm) (o:aG) :Int:=if fK s=0 then eA o else 8
noncomputable def zK (s:dm) (o:aG) :dm:=if C8 s o=0 then Jv s o else XW
theorem GI (s:bL aU) (o:s.l.length<=1000000) {l:ae} {K:cA} (j:∀ w h,w.cells=some [w]->e5 2 bf (l++h) l.length w s->K w (l++h)) :
  cJ 142 [e9 s] l K:=by
 apply cW func142 [];have p:=dF;have m:eb prog .eql 22 (e9 s) .af=some (.bool s.isNone):=vF (e:=70) bg 2 bf s;cases s with
 | none=>
  simp[m];simpa using j .af [] rfl (.inl ⟨rfl,rfl⟩)
 | some a=>
  have t:∀ y∈a,(bf y).length=2:=fun y _=>rfl
  have u:a.length<=1000000:=o;have g:=Bn (enc:=bf) (z:=2) (by_:=48) (l++[am.q 0 []]) l.length V (some a) t F F (by show a.length*48<=_;rw[p];omega);change eE _ _ _ _ (e9 (some a))=_ at g;simp at g;simp[m,g];refine b2.bq ?_;simp;exact j _ [_] rfl (.inr ⟨l.length,aI _,rfl,rfl,V⟩)
def hi (ps:List aU) (wk:Nat->U) (k:Nat) :List (ag):=(List.range ps.length).map fun i=>if i<k then [ai (ds ps i).idsZ,wk i] else bf (ds ps i)
theorem K7 (ps:List aU) (wk:Nat->U) :hi ps wk 0=ps.map bf:=by
 unfold hi;apply g5;intro i;by_cases h:i<ps.length
 ·obtain⟨j,g,_⟩:=aP h;rw[bW,hp h,bW,g];simp[dt g]
 ·rw[ea (by simp;omega),ea (by simp;omega)]
theorem pV (ps:List aU) (wk:Nat->U) (k:Nat) :(hi ps wk k).length=ps.length:=by simp[hi]
theorem lu {ps:List aU} {wk:Nat->U} {k:Nat}:∀ e∈hi ps wk k,e.length=2:=fun e g=>by
 unfold hi at g;obtain⟨i,_,rfl⟩:=cy.1 g;split<;>rfl
theorem sF {ps:List aU} {wk:Nat->U} {k i:Nat} (h:i<ps.length) :(hi ps wk k)[i]?=some (if i<k then [ai (ds ps i).idsZ,wk i] else bf (ds ps i)):=by unfold hi;rw[bW,hp h];rfl
theorem K6 {ps:List aU} {wk:Nat->U} {k:Nat} {w:U} (h:k<ps.length) :(hi ps wk k).set k [ai (ds ps k).idsZ,w]=hi ps (fun i=>if i=k then w else wk i) (k+1):=by
 apply g5;intro i;by_cases g:i<ps.length
 ·by_cases e:i=k
  ·subst e;rw[b1 (by rw[pV];exact g),sF g,aj F,aj rfl]
  ·rw[br (fun m=>e m.symm),sF g,sF g];by_cases j:i<k
   ·rw[aj j,aj F,ak e]
   ·rw[ak j,ak F]
 ·rw[ea (by rw[kj,pV];omega),ea (by rw[pV];omega)]
theorem e5.rd {alZ:Type} {z:Nat} {enc:alZ->ag} {l:ae} {n:Nat} {w:U} {s:bL alZ} (h:e5 z enc l n w s) (o:∀ y∈s.l,(enc y).length=z) (m:∀ y,aq (enc y)=true) :Rd l w (b4 z enc s):=by obtain⟨b,_,g,j,_⟩:=h.own o;exact g.q.jA m s j rfl
structure n2 (ps:bL aU) (k n:Nat) (h:U) (L:ae) :Prop where
 ex:(ps=none/\h=.af)\/∃ (g:Nat) (wk:Nat->U),n<=g/\ps.isNone=false/\h=.ad 2 g 0 ps.l.length ps.l.length (ps.l.length*2)/\L[g]?=some (.q (ps.l.length*2) (hi ps.l wk k).flatten)/\∀ i,i<k->i<ps.l.length->e5 11 au L (g+1) (wk i) (ds ps.l i).opsZ
theorem n2.frame {ps:bL aU} {k n:Nat} {o:U} {L L' : ae} (h:n2 ps k n o L) (j:∀ b,n<=b->b<L.length->L'[b]?=L[b]?) :n2 ps k n o L':=by
 rcases h.ex with h | ⟨m,z,h1,p,q,g,t⟩
 ·exact⟨.inl h⟩
 ·exact⟨.inr ⟨m,z,h1,p,q,by rw[j m h1 (a2 g)];exact g,fun i v w=>(t i v w).frame fun b B u=>j b F u⟩⟩
theorem n2.cells {ps:bL aU} {k n:Nat} {g:U} {L:ae} (h:n2 ps k n g L) :g.cells=some [g]:=by rcases h.ex with ⟨_,rfl⟩ | ⟨j,m,_,_,rfl,_⟩<;>rfl
theorem n2.rd {ps:bL aU} {n:Nat} {v:U} {L:ae} (h:n2 ps ps.l.length n v L) :Rd L v (e9 ps):=by
 rcases h.ex with ⟨rfl,rfl⟩ | ⟨I,w,h1,z,rfl,B,C⟩
 ·exact .same _ rfl
 ·have g:e9 ps=.bn 2 (ps.l.map bf):=by
   cases ps with
   | none=>cases z
   | some a=>rfl
  rw[g];have D:=hO (lu (ps:=ps.l) (wk:=w) (k:=ps.l.length));rw[pV] at D;refine .ad 2 I 0 _ _ _ _ _ B V (fun e g=>by obtain⟨y,_,rfl⟩:=cy.1 g;rfl) F fun i H e c J g o j=>?_
  have m:i<ps.l.length:=by have:=(aK.1 g).1;simpa using this
  obtain⟨p,u,_⟩:=aP m;rw[bW,u] at g;obtain rfl:=cg g;have t:ds ps.l i=p:=dt u;have G:H<2:=by have:=(aK.1 o).1;exact this
  have q:=lT lu (sF (ps:=ps.l) (wk:=w) (k:=ps.l.length) m) G;rw[aj m,t] at q;rw[hr,q] at j;rcases lW o with ⟨rfl,rfl⟩ | ⟨rfl,rfl⟩
  ·simp at j;subst j;exact .same _ (bU _)
  ·simp at j;subst j;have:=C i m m;rw[t] at this;exact this.rd (fun _ _=>rfl) dV
end Op
end Go.bh
namespace Go.bh
open Go Go.Proofs Go.Proofs.Tryz Go.RowKit
section
variable {P:bj} {n:Nat}
theorem UJ {o:bb} {a:Act} {w:aQ} {K j:Act->aQ->Prop} {Q rJ:Exit->Act->aQ->Prop} (g:∀ a w,K a w->j a w) (p:∀ e a w,e≠.normal->Q e a w->rJ e a w) (h:o.wp P a w K Q) :o.wpIn Fence.wide n P a w j rJ:=by
 unfold Oper.wp at h;refine⟨fun _ _=>trivial,?_⟩;show o.uponIn Fence.wide n P a j rJ ((execOp a.eval o).run P w);cases u:(execOp a.eval o).run P w with
 | ok x w'=>
  rw[u] at h;cases x with
  | value t=>exact g _ _ h
  | skip=>exact g _ _ h
  | defer d=>exact g _ _ h
  | enter f args=>
   refine⟨fun q=>(by cases q),(callsIn_wide.2 h).mono ?_⟩;rintro (t | C | _) D m
   ·exact g _ _ m
   ·exact p _ _ _ V m
   ·obtain⟨v,B,z⟩:=m;exact⟨v,B,p _ _ _ V z⟩
  | row r args=>exact⟨fun q=>(by cases q),fun c cs _=>let ⟨t,w',r,s⟩:=h c cs;⟨t,w',g _ _ r,stepsIn_wide.2 s⟩⟩
  | _=>exact h.elim
 | halt e w'=>
  rw[u] at h;cases e<;>first | exact p _ _ _ V h | exact h.elim
theorem CM {all:Array bb} {Q:Exit->Act->aQ->Prop}:∀ {l1 j:List bb} {a:Act} {w:aQ},
  wpList P all (fun e a w=>match e with | .normal=>wpListIn Fence.wide n P all Q j a w | _=>False) l1 a w->wpListIn Fence.wide n P all Q (l1++j) a w
 | [],j,a,w,h=>h
 | q::l1,j,a,w,h=>by
  rw[jK];unfold wpList at h;unfold wpListIn;split
  ·rename_i m;rw[aj m] at h;rcases h with h | ⟨_,p,t,g⟩
   ·refine UJ (fun a w g=>CM g) (fun e a w o g=>?_) h;cases e<;>first | exact bP rfl o | exact g.elim
   ·exact g.elim
  ·rename_i m;rw[ak m] at h;exact⟨fun _ _=>trivial,CM h⟩
end
section
variable {P:bj} {n:Nat}
def fW (fn:cf) (tmps:Array aA) (ps:Array Tmp) (body:Code) (D:Nat) (st:LoopState) (g:Option Code) :Loop:={ state:=st,pending:=g,fn,tmps:=tmps,params:=ps,assign:=.skip,body:=body,defers:=D }
theorem Wa {g:aW} {ps:Array Tmp} {h:Code} {Q:Exit->Act->aQ->Prop} {a:Act} {w:aQ} {gf:Nat} {lb:Array aA}
  (ag:a.eval g=.func (.func gf) #[] lb) (S:∀ args w,(callFunc gf args).run P w=.ok (.enter gf args) w) (aq:ps.size=1)
  {A B:Prop} (C:aQ->aQ->Prop) (K:∀ W z,C W z->KeepsOthers W z)
  (V:∀ (fn:cf) (x:aA) (W:aQ),eD ((w.alloc (.deferred (some []))).alloc (.loop (fW fn a.tmps ps h w.heap.size .ready none))) W->
   h.wpIn (Fence.wide.inRound (w.heap.size+1)) n P (fun e _ z=>e=.ret/\C (W.putObj (w.heap.size+1) (.loop (fW fn a.tmps ps h w.heap.size .busy none))) z)
    { tmps:=(ps.zip #[x]).foldl (fun t (p,v)=>t.setIfInBounds p v) a.tmps,defers:=[] } (W.putObj (w.heap.size+1) (.loop (fW fn a.tmps ps h w.heap.size .busy none))))
  (X:∀ (fn:cf) (hK:aQ),hK=(w.alloc (.deferred (some []))).alloc (.loop (fW fn a.tmps ps h w.heap.size .ready none))->
   (∀ (x:aA) (W:aQ),eD hK W->YieldAt Fence.wide n P (w.heap.size+1) #[x] W fun e z=>e=.returned (.bool false)/\∃ m,C (W.putObj (w.heap.size+1) (.loop (fW fn a.tmps ps h w.heap.size .busy none))) m ∧
    z=m.putObj (w.heap.size+1) (.loop (fW fn a.tmps ps h w.heap.size .done (some .ret))))->
   CallsIn Fence.wide (n - 1) P gf (#[.func (.yield (w.heap.size+1)) #[] #[]]++lb) hK fun e j=>(∃ v,e=.returned v)/\((A/\eD hK j) ∨
    (B/\∃ W m,eD hK W/\C (W.putObj (w.heap.size+1) (.loop (fW fn a.tmps ps h w.heap.size .busy none))) m/\eD (m.putObj (w.heap.size+1) (.loop (fW fn a.tmps ps h w.heap.size .done (some .ret)))) j)))
  (Z:∀ (fn:cf) (hK j:aQ),hK=(w.alloc (.deferred (some []))).alloc (.loop (fW fn a.tmps ps h w.heap.size .ready none))->A->eD hK j->
   Q .normal { a with defers:={ target:=.collected w.heap.size,args:=#[] }::a.defers } (j.putObj (w.heap.size+1) (.loop (fW fn a.tmps ps h w.heap.size .exhausted none))))
  (ak:∀ (fn:cf) (hK W m j:aQ),hK=(w.alloc (.deferred (some []))).alloc (.loop (fW fn a.tmps ps h w.heap.size .ready none))->B->eD hK W->
   C (W.putObj (w.heap.size+1) (.loop (fW fn a.tmps ps h w.heap.size .busy none))) m->eD (m.putObj (w.heap.size+1) (.loop (fW fn a.tmps ps h w.heap.size .done (some .ret)))) j->
   Q .ret { a with defers:={ target:=.collected w.heap.size,args:=#[] }::a.defers } (j.putObj (w.heap.size+1) (.loop (fW fn a.tmps ps h w.heap.size .exhausted (some .ret))))) :
  (Code.rangeFunc g ps .skip h).wpIn Fence.wide n P Q a w:=by
 refine wpIn_rangeFunc ?_;intro fn ae;rw[Fence.wide_round];obtain⟨hK,q⟩:∃ hK,(w.alloc (.deferred (some []))).alloc (.loop (fW fn a.tmps ps h w.heap.size .ready none))=hK:=⟨_,rfl⟩
 have G:hK.heap[w.heap.size+1]?=some (.loop (fW fn a.tmps ps h w.heap.size .ready none)):=by
  rw[<-q];have:=World.alloc_heap_new (w.alloc (.deferred (some []))) (.loop (fW fn a.tmps ps h w.heap.size .ready none));rwa [World.size_alloc] at this
 have ar:hK.heap.size=w.heap.size+2:=by rw[<-q];simp
 refine⟨w.heap.size+1,[{ target:=.collected w.heap.size,args:=#[] }],hK,{ target:=.fn (.func gf) lb,args:=#[.func (.yield (w.heap.size+1)) #[] #[]] },hK,gf,
  #[.func (.yield (w.heap.size+1)) #[] #[]]++lb,hK,?_,?_,?_,?_,fun Y=>(by cases Y),?_⟩
 ·rw[<-q];exact run_enterLoop_outer _ _ _ _ _
 ·simp only[resolve,ag];simp[go_sem]
 ·intro ao ap;trivial
 ·simp[invoke,go_sem,S]
 ·refine (X fn hK q.symm fun x W o=>?_).mono ?_
  ·have u:W.heap[w.heap.size+1]?=some (.loop (fW fn a.tmps ps h w.heap.size .ready none)):=(o.toBelow.block _ F).trans G;have J:w.heap.size+1<W.heap.size:=(ib.1 u).1;have al:=run_yield (P:=P) (args:=#[x]) u (by show 1=ps.size;omega);refine⟨fn,_,.skip,h,al,roundIn_of_wpIn ae (wpIn_skip ⟨_,run_beginRound u rfl,?_⟩)⟩;have H:(W.putObj (w.heap.size+1) (.loop (fW fn a.tmps ps h w.heap.size .busy none))).heap[w.heap.size+1]?=some (.loop (fW fn a.tmps ps h w.heap.size .busy none)):=World.putObj_heap_same J;refine wpIn_mono (V fn x W (by rw[q];exact o)) ?_;rintro e am m ⟨rfl,D⟩;have I:=(K _ _ D).same _ _ H rfl;have aj:=run_endRound (P:=P) (some .ret) I;exact⟨_,_,aj,rfl,m,D,rfl⟩
  ·rintro e j ⟨⟨v,rfl⟩,(⟨T,o⟩ | ⟨U,W,m,o,D,O⟩)⟩
   ·have u:j.heap[w.heap.size+1]?=some (.loop (fW fn a.tmps ps h w.heap.size .ready none)):=(o.toBelow.block _ F).trans G;exact⟨none,_,run_endLoop (P:=P) u (by simp[fW]),Z fn hK j q.symm T o⟩
   ·have u:W.heap[w.heap.size+1]?=some (.loop (fW fn a.tmps ps h w.heap.size .ready none)):=(o.toBelow.block _ F).trans G;have J:w.heap.size+1<W.heap.size:=(ib.1 u).1;have H:(W.putObj (w.heap.size+1) (.loop (fW fn a.tmps ps h w.heap.size .busy none))).heap[w.heap.size+1]?=some (.loop (fW fn a.tmps ps h w.heap.size .busy none)):=World.putObj_heap_same J;have I:=(K _ _ D).same _ _ H rfl;have R:=(ib.1 I).1;have ai:j.heap[w.heap.size+1]?=some (.loop (fW fn a.tmps ps h w.heap.size .done (some .ret))):=(O.toBelow.block _ (by simpa using R)).trans (World.putObj_heap_same R);exact⟨some .ret,_,run_endLoop (P:=P) ai (by simp[fW]),wpIn_ret (ak fn hK W m j q.symm U o D O)⟩
end
def h9:Code->List Bool->Code
 | c,[]=>c
 | .seq a b,d::r=>h9 (if d then b else a) r
 | .block _ c,_::r=>h9 c r
 | .loop c,_::r=>h9 c r
 | .cond _ a b,d::r=>h9 (if d then b else a) r
 | .rangeFunc _ _ a b,d::r=>h9 (if d then b else a) r
 | c,_::_=>c
def j3:Code->Array bb
 | .region _ g _=>g
 | _=>#[]
section
variable {P:bj} {G:Nat->U}
theorem pm (u:P.follows .mixedOrders=true) (o:∀ g,(G g).aw=true) {N n:Nat} {code:Code} {c:fO} (q:comp P N code=some c) {sgZ:aR} {l:ae} {K:fP} (v:run P G c sgZ l K)
  {R:Nat->Prop} {B:Nat} {w:aQ} {muZ:bZ} {a:Act} {Q:Exit->Act->aQ->Prop} (rel:bw R B w (aX l) muZ) (g:jN G w R (aX l) muZ) (s:gN N w R (aX l) muZ sgZ a)
  (p:∀ e h w' muZ' j l',K e j l'->cS w (aX l) muZ w' (aX l') muZ'->bw R B w' (aX l') muZ'->gN N w' R (aX l') muZ' j h->Q e.out h w') :code.wpIn Fence.wide n P Q a w:=by obtain⟨e,j,l',t,_,hk⟩:=Li (aI N) code c q sgZ l K v;obtain⟨F,z⟩:=sM u o t;exact wpIn_wide.2 (lC.wp (z R B w muZ a Q rel g s fun h w' muZ' m C D=>p e h w' muZ' j l' hk m C D))
theorem JW (D:P.follows .mixedOrders=true) (t:∀ g,(G g).aw=true) {N n:Nat} {opsZ:Array bb} (u:∀ (i:Nat) (o:bb),opsZ[i]?=some o->hN N o.dst=true) {p:List c8} {os m:List bb} (z:kX P opsZ p os)
  {sgZ:aR} {l:ae} {K:aR->ae->Prop} (F:iz P G p sgZ l K)
  {R:Nat->Prop} {B:Nat} {w:aQ} {muZ:bZ} {a:Act} {Q:Exit->Act->aQ->Prop} (rel:bw R B w (aX l) muZ) (g:jN G w R (aX l) muZ) (s:gN N w R (aX l) muZ sgZ a)
  (v:∀ h w' muZ' j l',K j l'->cS w (aX l) muZ w' (aX l') muZ'->bw R B w' (aX l') muZ'->gN N w' R (aX l') muZ' j h->wpListIn Fence.wide n P opsZ Q m h w') :wpListIn Fence.wide n P opsZ Q (os++m) a w:=by obtain⟨j,l',C,_,hk⟩:=xf u z F;refine CM ?_;exact sM D t C R B w muZ a _ rel g s fun h w' muZ' q H I=>v h w' muZ' j l' hk q H I
theorem WK {n m:Nat} {l:Nat} {f:cf} {tmps:Array aA} {assign g:Code} {w:aQ} {R:Ending->aQ->Prop} (h:RoundIn Fence.wide n P l f tmps assign g w R) :RoundIn Fence.wide m P l f tmps assign g w R:=
 ⟨h.1,fun c cs _=>h.2 c cs (room_wide _)⟩
theorem Ke {R:Nat->Prop} {B:Nat} {w:aQ} {l:ae} {muZ:bZ} (rel:bw R B w (aX l) muZ) {b sz:Nat} {cs:ag} (O:l[b]?=some (.q sz cs)) (P:aq cs=true) {v:aA} (S:az w R (aX l) muZ (.ptr b 0 sz) v) :dd w R (.b0 cs 0) v:=by
 have m:(aX l).f b=.q sz cs:=hI.2 O;cases S with
 | jb _ _ _ a Q=>
  rcases Q with h | ⟨n,G,h,W⟩
  ·rw[m] at h;cases h
  ·rw[m] at h;injection h with h1 I;omega
 | ptr _ _ _ G j u C=>
  rw[m] at u;injection u with _ H
  subst H;have z:=rel.blk b j C;rw[m] at z;obtain⟨h1,I,arr,e,T,J,U,V,t⟩:=z;have K:R j.r:=rel.up _ (rel.base b j (by rw[m];rfl) C);refine .b0 cs 0 j.r j.s (fun g=>(arr[j.s+g]?).getD undef) (fun g o=>?_) fun g c o=>?_
  ·obtain⟨v,p,D,F⟩:=t g cs[g] (bI o);rw[p];refine⟨?_,D,K,mT _ _⟩;simp only[World.cell?,J];simpa using p
  ·obtain⟨v,p,D,F⟩:=t g c o;rw[p];exact (nq F (rS P g c o)).up fun k _ hk=>⟨hk.1,mT _ _⟩
theorem dd.k2 {w w' : aQ} {A:Nat->Prop} {c:U} {v:aA} (h:dd w A c v) (g:eD w w') :dd w' A c v:=by obtain⟨e,_⟩:=pT (uI w (fun k=>A k\/w.heap.size<=k) fun k hk=>.inr hk) g;exact az.jU (R:=A) (⟨e.os,e.tape,e.output,e.size,e.bq,e.own,e.cells,e.gone,e.wL,e.n,e.drawn⟩) h
end
namespace Op
open ca
def vn (g h j m:Array bb) :Code:=.seq (.region 1 g false) (.seq (.cond (.tmp 10) .skip (.exit 0)) (.seq (.block 1 (.seq (.region 2 h false) (.seq (.region 3 j false) (.cond (.tmp 23) .ret .skip)))) (.region 4 m false)))
def rY (cap m:Int) (j g:U) (h:bV) :ag:=[.int .i64 cap,j,g,.int .i64 m,ai h]
theorem GN {cap p:Int} {h g:U} {o:bV} (m:h.aw=true) (j:g.aw=true) :aq (rY cap p h g o)=true:=by simp[rY,aq,m,j,bU,U.aw]
structure o4 (E:ag) (ps:bV) (S:ag) (h:Nat) (j:aQ) (k:Nat) (a:Go.Act) (W:aQ) :Prop where
 size:a.tmps.size=25
 defers:a.defers=[]
 t0:a.tmps.getD 0 undef=.func (.yield h) #[] #[]
 t8:a.tmps.getD 8 undef=.int .i64 ps.l.length
 t9:a.tmps.getD 9 undef=.int .i64 k
 ex:∃ A,dd W A (.b0 (E) 0) (a.tmps.getD 1 undef)/\dd W A (.b0 S 0) (a.tmps.getD 2 undef)/\dd W A (ai ps) (a.tmps.getD 7 undef)/\∀ g,dd W A (GS g) (.pointer (some ⟨g,0,none⟩))
 k2:eD j W
def jD (E:ag) (ps:bV) (S:ag) (g k:Nat) :aR:=bm (bm (bm (bm (bm (bm (fun _=>U.bad) 0 (.e0 g)) 1 (.b0 (E) 0)) 2 (.b0 S 0)) 7 (ai ps)) 8 (.int .i64 ps.l.length)) 9 (.int .i64 k)
theorem o4.xm {E:ag} {ps:bV} {S:ag} {j:Nat} {w:aQ} {k:Nat} {a:Go.Act} {W:aQ} (h:o4 E ps S j w k a W) :
  ∃ R:Nat->Prop,bw R W.heap.size W (aX []) (fun _=>none)/\jN GS W R (aX []) (fun _=>none)/\gN 25 W R (aX []) (fun _=>none) (jD E ps S j k) a:=by
 obtain⟨A,h1,z,B,D⟩:=h.ex;have up:∀ {c:U} {v:aA},dd W A c v->az W (fun k=>A k\/W.heap.size<=k) aH.empty (fun _=>none) c v:=fun C=>C.up (fun k _ hk=>⟨.inl hk,mT _ k⟩)
 refine⟨fun k=>A k\/W.heap.size<=k,uI W _ fun k hk=>.inr hk,fun u=>⟨ev u,up (D u)⟩,h.size,h.defers,fun g=>?_⟩;unfold jD;by_cases t:g=9
 ·subst t;rw[fS,h.t9];exact .int _ _
 rw[bK _ _ _ _ t];by_cases a8:g=8
 ·subst a8;rw[fS,h.t8];exact .int _ _
 rw[bK _ _ _ _ a8];by_cases q:g=7
 ·subst q;rw[fS];exact up B
 rw[bK _ _ _ _ q];by_cases p:g=2
 ·subst p;rw[fS];exact up z
 rw[bK _ _ _ _ p];by_cases o:g=1
 ·subst o;rw[fS];exact up h1
 rw[bK _ _ _ _ o];by_cases m:g=0
 ·subst m;rw[fS,h.t0];exact .e0 _
 rw[bK _ _ _ _ m];exact .bad _
theorem tE {w w' : aQ} {h' : aH} {muZ' : bZ} (e:cS w aH.empty (fun _=>none) w' h' muZ') :eD w w':=⟨⟨e.os,e.tape,e.output,e.size,fun k hk=>e.bq k hk (mT _ k)⟩,e.drawn⟩
theorem od {a b c:aQ} (h1:eD a b) (g:eD b c) :eD a c:=⟨h1.toBelow.trans (g.toBelow.mono h1.toBelow.size),dL h1.drawn g.drawn⟩
theorem O6 (w:aQ) :eD w w:=⟨RowKit.Below.refl _ w,aI _⟩
theorem o4.mk' {E:ag} {ps:bV} {S:ag} (u:aq E=true) (v:aq S=true) {p:Nat} {q W jl:aQ} {k:Nat} {j:Go.Act} {R:Nat->Prop} {l' : ae} {muZ' : bZ} {h:aR} (w:eD q W) (e:cS W aH.empty (fun _=>none) jl (aX l') muZ') (g:jN GS jl R (aX l') muZ') (s:gN 25 jl R (aX l') muZ' h j)
  (C:h 0=.e0 p) (D:h 1=.b0 (E) 0) (F:h 2=.b0 S 0) (G:h 7=ai ps) (H:h 8=.int .i64 ps.l.length) (I:h 9=.int .i64 k) :o4 E ps S p q k j jl:=by
 have o:∀ {m:Nat} {c:U},h m=c->c.aw=true->dd jl (fun k=>R k) c (j.tmps.getD m undef):=fun {m c} B z=>by
  have:=s.val m;rw[B] at this;exact (nq this z).up fun k _ hk=>⟨hk.1,mT _ k⟩
 refine⟨s.size,s.defers,?_,?_,?_,⟨fun k=>R k,o D (by simp[U.aw,u]),o F (by simp[U.aw,v]),o G (bU _),fun i=>(nq (g i).2 (g i).1).up fun k _ hk=>⟨hk.1,mT _ k⟩⟩,od w (tE e)⟩
 ·have:=s.val 0;rw[C] at this;generalize j.tmps.getD 0 undef=t at this ⊢;cases this;rfl
 ·have:=s.val 8;rw[H] at this;generalize j.tmps.getD 8 undef=t at this ⊢;cases this;rfl
 ·have:=s.val 9;rw[I] at this;generalize j.tmps.getD 9 undef=t at this ⊢;cases this;rfl
abbrev Tc:List c8:=[eK 0 6 (.nu 1 (cR 1)),eK 1 7 (.ld1 (cR 6)),eK 2 8 (.len (.ad 32) (cR 7)),eK 3 9 (.ei (.const (.int .i64 0)))]
abbrev Td:List c8:=[eK 0 10 (.bin .lss 3 (cR 9) (cR 8))]
abbrev Te:List c8:=[eK 0 11 (.sb (.ad 32) (cR 7) (cR 9)),eK 1 12 (.jZ 32 (cR 11)),eK 2 5 (.alloc (bT 32 (.int .u8 0))),xh 3 (.st 32 (cR 5) (cR 12))]
abbrev Tf:List c8:=[eK 0 13 (.nu 4 (cR 2)),eK 1 14 (.ld1 (cR 13)),eK 2 15 (.jZ 32 (cR 5)),sc 3 16 66 [(cR 14),(cR 15)],eK 4 17 (.un .not (cR 16)),j9 5 18 17,uP 6 19 18 true (.ei (cR 0)),uP 7 20 18 true (.jZ 32 (cR 5))]
abbrev Tg:List c8:=[uP 9 22 18 true (.un .not (cR 21)),eK 10 23 (.pick (cR 18) (cR 22) (.const (.bool false)))]
theorem vz {P:bj} {opsZ:Array bb}:∀ {idx:List Nat} {h:List c8} {os:List bb},idx.mapM (fun i=>uU P opsZ i [] false)=some h->os.map some=idx.map (fun i=>opsZ[i]?)->kX P opsZ h os:=by intro idx h os h1 g;exact Bm (fun i x m=>by obtain⟨o,g,j,_⟩:=xp m;exact⟨o,g,j⟩) h1 g.symm
def CQ:fO:=(.seq (.jB [eK 0 10 (.bin .lss 3 (cR 9) (cR 8))]) (.seq (.cond (cR 10) .skip (.exit 0)) (.seq (.block 1 (.seq (.jB [eK 0 11 (.sb (.ad 32) (cR 7) (cR 9)),eK 1 12 (.jZ 32 (cR 11)),eK 2 5 (.alloc (bT 32 (.int .u8 0))),xh 3 (.st 32 (cR 5) (cR 12))]) (.seq (.jB [eK 0 13 (.nu 4 (cR 2)),eK 1 14 (.ld1 (cR 13)),eK 2 15 (.jZ 32 (cR 5)),sc 3 16 66 [(cR 14),(cR 15)],eK 4 17 (.un .not (cR 16)),j9 5 18 17,uP 6 19 18 true (.ei (cR 0)),uP 7 20 18 true (.jZ 32 (cR 5)),⟨8,(some 21),(some ((some 18),true)),.lO (cR 19) [(cR 20)],[],false⟩,uP 9 22 18 true (.un .not (cR 21)),eK 10 23 (.pick (cR 18) (cR 22) (.const (.bool false)))]) (.cond (cR 23) .ret .skip)))) (.jB [eK 0 24 (.bin .add 3 (cR 9) (.const (.int .i64 1))),j9 1 9 24]))))
structure NW (p j m g q:Array bb) (h:bb) :Prop where
 body:Tryz.f206.body=some (.seq (.region 0 p false) (.block 0 (.loop (vn j m g q))))
 BA:comp prog 25 (.region 0 p false)=some (.jB Tc)
 jR:comp prog 25 (.region 1 j false)=some (.jB Td)
 yg:comp prog 25 (.region 2 m false)=some (.jB Te)
 Gx:comp prog 25 (vn j m g q)=some CQ
 split:g.toList=g.toList.take 8++(h::(g.toList.drop 9++[]))
 Ur:kX prog g Tf (g.toList.take 8)
 Us:kX prog g Tg (g.toList.drop 9)
 Hg:∀ (i:Nat) (o:bb),g[i]?=some o->hN 25 o.dst=true
 Uk:h.op=.call { callee:=.value (.tmp 19),args:=#[.tmp 20],argTypes:=#[57] }
 Ui:h.dst=some 21
 Uj:h.guard=some (5,true)
 Ug:(g[5]?).bind (·.dst)=some 18
theorem QA {R:Array bb} (g:(R.toList.all fun o=>hN 25 o.dst)=true) (i:Nat) (o:bb) (h:R[i]?=some o) :hN 25 o.dst=true:=by exact gg.1 g o (by rw[<-p8] at h;exact cE h)
theorem IR:∃ g h j m o Uh,NW g h j m o Uh:=
 ⟨j3 (h9 ((Tryz.f206.body).getD .skip) [false]),
  j3 (h9 ((Tryz.f206.body).getD .skip) [true,false,false,false]),
  j3 (h9 ((Tryz.f206.body).getD .skip) [true,false,false,true,true,false,false,false]),
  j3 (h9 ((Tryz.f206.body).getD .skip) [true,false,false,true,true,false,false,true,false]),
  j3 (h9 ((Tryz.f206.body).getD .skip) [true,false,false,true,true,true]),
  ((j3 (h9 ((Tryz.f206.body).getD .skip) [true,false,false,true,true,false,false,true,false])).toList.drop 8).headD { op:=.move (.tmp 0),dst:=none,type:=0,pos:= "",after:=#[],guard:=none },
  ⟨by kernel_rfl,by kernel_rfl,by kernel_rfl,by kernel_rfl,by kernel_rfl,by kernel_rfl,vz (idx:=[0,1,2,3,4,5,6,7]) bg bg,vz (idx:=[9,10]) bg bg,
  QA bg,by kernel_rfl,by kernel_rfl,by kernel_rfl,by kernel_rfl⟩⟩
theorem xA {sgZ:aR} {N:Nat} {W:aQ} {R:Nat->Prop} {h:aH} {muZ:bZ} {a:Go.Act} (s:gN N W R h muZ sgZ a) {t:Nat} {b:Bool} (g:sgZ t=.bool b) :a.tmps.getD t undef=.bool b:=by have:=s.val t;rw[g] at this;generalize a.tmps.getD t undef=j at this ⊢;cases this;rfl
theorem ZC {sgZ:aR} {N:Nat} {W:aQ} {R:Nat->Prop} {h:aH} {muZ:bZ} {a:Go.Act} (s:gN N W R h muZ sgZ a) {t l:Nat} (g:sgZ t=.e0 l) :a.tmps.getD t undef=.func (.yield l) #[] #[]:=by have:=s.val t;rw[g] at this;generalize a.tmps.getD t undef=j at this ⊢;cases this;rfl
theorem Lw (E:ag) (ps:bV) (S:ag) (gi k:Nat) :jD E ps S gi k 0=.e0 gi:=by simp[jD]
theorem Xk (E:ag) (ps:bV) (S:ag) (g k:Nat) :jD E ps S g k 1=.b0 (E) 0:=by simp[jD]
theorem Ei (E:ag) (ps:bV) (S:ag) (g k:Nat) :jD E ps S g k 2=.b0 S 0:=by simp[jD]
theorem Ej (E:ag) (ps:bV) (S:ag) (g k:Nat) :jD E ps S g k 7=ai ps:=by simp[jD]
theorem z7 (E:ag) (ps:bV) (S:ag) (g k:Nat) :jD E ps S g k 8=.i6 ps.l.length:=by simp[jD]
theorem z8 (E:ag) (ps:bV) (S:ag) (g k:Nat) :jD E ps S g k 9=.i6 k:=by simp[jD]
theorem TA (E:ag) (ps:bV) (bf:aq E=true) (bP:E.length=11) (bN:∀ h:1<E.length,E[1]'h=ai ps) (ck:cT ps) (cP:ps.l.length<=1000000) (ord:bV) (ci:cT ord) (ch:ord.l.length<=1000000) (cap bC:Int) (aW aT:U) (cj:aW.aw=true) (cc:aT.aw=true) {n gi:Nat} {p:aQ} {A:Nat->Prop} {nE kJ:aA}
  (h1:dd p A (.b0 (E) 0) nE) (a9:dd p A (.b0 (rY cap bC aW aT ord) 0) kJ) (bj:∀ g,dd p A (GS g) (.pointer (some ⟨g,0,none⟩)))
  {Z:aQ->aQ->Prop} {m:Nat} (bX:∀ (x:aA) (W:aQ),eD p W->YieldAt Fence.wide m prog gi #[x] W fun e u=>e=.returned (.bool false)/\Z W u)
  (bZ:∀ W u,eD p W->Z W u->∃ A,∀ g,dd u A (GS g) (.pointer (some ⟨g,0,none⟩))) :
  CallsIn Fence.wide n prog 206 (#[.func (.yield gi) #[] #[]]++#[nE,kJ]) p fun e hL=>(∃ v,e=.returned v) ∧
   (((∀ x∈ps.l,x∈ord.l)/\eD p hL)\/((¬ ∀ x∈ps.l,x∈ord.l)/\∃ W u,eD p W/\Z W u/\eD u hL)):=by
 obtain⟨cH,a0,a2,T,a3,aV,M⟩:=IR;obtain⟨o,au⟩:=ao (rY cap bC aW aT ord);have bh:aq o=true:=by rw[au];exact GN cj cc
 have bd:o.length=5:=by rw[au];rfl
 have bR:o[4]?=some (ai ord):=by rw[au];rfl
 have bc:∀ h:4<o.length,o[4]'h=ai ord:=fun h=>(aK.1 bR).2
 rw[<-au] at a9;have D:prog.follows .mixedOrders=true:=checked.mixed;have cf:bx (.ad 32) (ai ps)=_:=cd _;refine callsIn_of_wp (fn:=Tryz.f206) func206 M.body trivial ?_ rfl;obtain⟨S,aM⟩:∃ S,S=bodyPost prog Tryz.f206 (fun e hL=>(∃ v,e=Ending.returned v) ∧
   (((∀ x∈ps.l,x∈ord.l)/\eD p hL)\/((¬ ∀ x∈ps.l,x∈ord.l)/\∃ W u,eD p W/\Z W u/\eD u hL))):=⟨_,rfl⟩
 rw[<-aM];have bo:∀ (a:Go.Act) (W:aQ),(results Tryz.f206 a.tmps).run prog W=.ok (.tuple #[]) W:=fun a W=>results_none rfl _ _ _
 -- the start
 have bl:Tryz.f206.ntmps=25:=bg;obtain⟨G,ak⟩:=ao (#[.func (.yield gi) #[] #[]]++#[nE,kJ]++Array.replicate (Tryz.f206.ntmps - (#[.func (.yield gi) #[] #[]]++#[nE,kJ] :Array aA).size) undef:Array aA);rw[<-ak];rw[bl] at ak;have bS:G.size=25:=by rw[ak];simp
 have al:G=#[.func (.yield gi) #[] #[],nE,kJ]++Array.replicate 22 undef:=by rw[ak];rfl
 have up:∀ {c:U} {v:aA},dd p A c v->az p (fun k=>A k\/p.heap.size<=k) aH.empty (fun _=>none) c v:=fun aR=>aR.up (fun k _ hk=>⟨.inl hk,mT _ k⟩)
 have b7:G.getD 0 undef=.func (.yield gi) #[] #[]:=by rw[al,hn];simp
 have b8:G.getD (0+1) undef=nE:=by rw[al,hn];simp
 have b9:G.getD (0+1+1) undef=kJ:=by rw[al,hn];simp
 have ca:∀ t,G.getD (t+1+1+1) undef=undef:=fun t=>by
  rw[al,hn,u6 V,AG];split<;>rfl
 obtain⟨cE,cN⟩:=ao (U.b0 (E) 0);obtain⟨cF,cO⟩:=ao (U.b0 o 0);have b1:jm [.e0 gi,.b0 (E) 0,.b0 o 0] 0=.e0 gi:=by simp[jm]
 have b2:jm [.e0 gi,.b0 (E) 0,.b0 o 0] (0+1)=.b0 (E) 0:=by simp[jm]
 have b3:jm [.e0 gi,.b0 (E) 0,.b0 o 0] (0+1+1)=.b0 o 0:=by simp[jm]
 have b4:∀ t,jm [.e0 gi,.b0 (E) 0,.b0 o 0] (t+1+1+1)=fL:=fun t=>by simp[jm,List.getD]
 clear ak al bl;refine wpIn_seq (pm (sgZ:=jm [.e0 gi,.b0 (E) 0,.b0 o 0]) (l:=[]) (K:=fun e j l=>e=.normal/\j 0=.e0 gi/\j 1=.b0 (E) 0/\j 2=.b0 o 0/\j 7=ai ps/\j 8=.i6 ps.l.length/\j 9=.i6 (0:Nat))
  D ev M.BA ?_ (uI p (fun k=>A k\/p.heap.size<=k) fun k hk=>.inr hk) (fun g=>⟨ev g,up (bj g)⟩) ⟨bS,rfl,fun t=>?_⟩ ?_)
 ·simp[jm,bP,bN,cf]
 ·rcases t with _ | _ | _ | t
  ·rw[b7,b1];exact .e0 _
  ·rw[b8,b2];exact up h1
  ·rw[b9,b3];exact up a9
  ·rw[ca t,b4 t];exact xx
 rintro e a4 FN cX c1 cQ ⟨rfl,I,aD,J,O,aE,P⟩ aJ cx bz;have a7:jN GS p (fun k=>A k\/p.heap.size<=k) aH.empty (fun _=>none):=fun g=>⟨ev g,up (bj g)⟩
 have bE:o4 E ps o gi p 0 a4 FN:=o4.mk' bf bh (O6 p) aJ (a7.ext aJ) bz I aD J O aE P;clear I aD J O aE P bz cx aJ a7;show (Code.block 0 (.loop (vn a0 a2 T a3))).wpIn Fence.wide n prog S a4 FN;refine wpIn_block (wpIn_loop (fun a W=>∃ k,k<=ps.l.length/\o4 E ps o gi p k a W/\∀ x∈ps.l.take k,x∈ord.l) (fun a _=>match a.tmps.getD 9 undef with | .int _ k=>ps.l.length - k.toNat | _=>0) ⟨0,F,bE,V⟩ ?_);rintro a W ⟨k,hk,R,aN⟩;obtain⟨cG,rel,ae,xm⟩:=R.xm;by_cases ay:k<ps.l.length
 ·obtain⟨x,bq,br⟩:=aP (l:=ps.l) (k:=k) ay;have bs:=ck x br;have H:=bu bs;have bG:=cq (k:=k) F;have aU:bO (.ad 32) (ai ps) _=_:=dg bq;have am:=p3 ord ci ch x bs;have bi:=bU ord;have aS:=c4 x;have cn:ps.l.take (k+1)=ps.l.take k++[x]:=by rw[eU,bq];rfl
  obtain⟨X,bW⟩:=ao (ar x);rw[<-bW] at H aU am aS;have bp:ax (bT 32 (.int .u8 0)) 0 X=X:=cI (by rw[H];rfl);by_cases aB:x∈ord.l
  ·rw[bY aB] at am;refine pm (sgZ:=jD E ps o gi k) (l:=[]) (K:=fun e j l=>e=.normal/\j 0=.e0 gi/\j 1=.b0 (E) 0/\j 2=.b0 o 0/\j 7=ai ps/\j 8=.i6 ps.l.length/\j 9=.i6 ((k+1:Nat) :Int)) D ev M.Gx ?_ rel ae xm ?_
   ·unfold CQ;simp[Ei,Ej,z7,z8,ay,aU,H,bp,bd,bc,aL];refine av am (by simp[aq,U.aw,bi,aS]) ?_;simp[Lw,Xk,Ei,Ej,z7,z8,bG]
   ·rintro e Y hL bD aY bw ⟨rfl,I,aD,J,O,aE,P⟩ C aX ap;have aZ:o4 E ps o gi p (k+1) Y hL:=o4.mk' bf bh R.k2 C (ae.ext C) ap I aD J O aE P;refine⟨⟨k+1,F,aZ,fun y aC=>?_⟩,?_⟩
    ·rw[cn,fm,fB] at aC;exact aC.elim (aN y) fun e=>by rw[e];exact aB
    ·show (match Y.tmps.getD 9 undef with | .int _ k=>ps.l.length - k.toNat | _=>0)<(match a.tmps.getD 9 undef with | .int _ k=>ps.l.length - k.toNat | _=>0)
     rw[aZ.t9,R.t9];simp only[fA];omega
  ·rw[cC aB] at am;have cg:¬ ∀ y∈ps.l,y∈ord.l:=fun h=>aB (h x br)
   suffices cm:(vn a0 a2 T a3).wpIn Fence.wide n prog (fun e a W=>e=.ret/\S .ret a W) a W from wpIn_mono cm fun e a w ⟨b6,h⟩=>by subst b6;exact h
   unfold vn;refine wpIn_seq (pm (sgZ:=jD E ps o gi k) (l:=[]) (K:=fun e j l=>e=.normal/\l=[]/\j 0=.e0 gi/\j 2=.b0 o 0/\j 7=ai ps/\j 9=.i6 k/\j 10=.bool true) D ev M.jR ?_ rel ae xm ?_)
   ·simp[Lw,Ei,Ej,z7,z8,ay]
   rintro e cL hL cY cD cR ⟨rfl,rfl,I,J,O,P,cw⟩ a6 cy bA;have a8:=ae.ext a6;refine wpIn_seq (wpIn_cond_true (xA bA cw) (wpIn_skip ?_));refine wpIn_seq (wpIn_block (wpIn_seq ?_));refine pm (sgZ:=cD) (l:=[]) (K:=fun e j l=>e=.normal/\l=[.q 32 X]/\j 0=.e0 gi/\j 2=.b0 o 0/\j 5=.ptr 0 0 32) D ev M.yg ?_ cy a8 bA ?_
   ·simp[I,J,O,P,aU,H,bp,aL]
   rintro e Y cJ bD aY bw ⟨rfl,rfl,cu,cv,bv⟩ C aX ap;refine wpIn_seq (wpIn_region_list ?_);rw[M.split];refine JW (sgZ:=aY) D ev M.Hg M.Ur (K:=fun j l=>j 18=.bool true/\j 19=.e0 gi) ?_ aX (a8.ext C) ap ?_
   ·simp[cv,bv,H,bd,bc,aL];refine av am (by simp[aq,U.aw,bi,aS]) ?_;simp[cu,bv,H,aL]
   rintro z tz cZ c2 cS ⟨cr,cs⟩ bI cV Q;have aO:eD p tz:=od R.k2 (tE ((a6.trans C).trans bI));have t18:=xA Q cr;have t19:=ZC Q cs;have cp:Region.wanted aV (yielded T z.tmps)=true:=by
    unfold Region.wanted yielded;rw[M.Uj];simp only[M.Ug];have bk:18<z.tmps.size:=by rw[Q.size];omega
    have bM:z.tmps[18]?=some (.bool true):=by
     rw[hn,rq bk] at t18;rw[rq bk];simpa using t18
    simp[bM]
   unfold wpListIn;rw[aj cp];obtain⟨fn,cA,assign,bF,aC,bQ⟩:=bX (z.tmps[20]?.getD undef) tz aO;have cl:(aV.semAt Fence.wide.round z.eval).run prog tz=.ok (.round gi fn cA assign bF) tz:=by
    rw[Fence.wide_round,Oper.semAt_none];unfold execOp;rw[M.Uk];have cz:z.tmps[19]?.getD undef=.func (.yield gi) #[] #[]:=by rw[<-hn];exact t19
    simp[go_sem,cz,aC]
    skip;done
   refine⟨fun _ _=>trivial,?_⟩;rw[cl,Oper.uponIn_round];refine⟨fun b5=>(by cases b5),WK (bQ.mono ?_)⟩;rintro e B ⟨rfl,bt⟩;show wpListIn Fence.wide n prog T _ (T.toList.drop 9++[]) (z.put aV.dst (.bool false)) B;rw[M.Ui];obtain⟨aF,cb⟩:=bZ tz B aO bt;have cB:∀ {c:U} {v:aA},dd B aF c v->az B (fun k=>aF k\/B.heap.size<=k) aH.empty (fun _=>none) c v:=fun aR=>aR.up (fun k _ hk=>⟨.inl hk,mT _ k⟩)
   refine JW (sgZ:=bm (bm (fun _=>U.bad) 18 (.bool true)) 21 (.bool false)) (l:=[]) D ev M.Hg M.Us (K:=fun j l=>j 23=.bool true) ?_ (uI B (fun k=>aF k\/B.heap.size<=k) fun k hk=>.inr hk) (fun g=>⟨ev g,cB (cb g)⟩) ⟨by simp[Act.put,Q.size],Q.defers,fun t=>?_⟩ ?_
   ·simp
   ·by_cases aG:t=21
    ·subst aG;rw[fS];have:(z.put (some 21) (.bool false)).tmps.getD 21 undef=.bool false:=by simp[Act.put,hn,Q.size]
     rw[this];exact .bool _
    ·rw[bK _ _ _ _ aG];have bH:(z.put (some 21) (.bool false)).tmps.getD t undef=z.tmps.getD t undef:=by
      simp only[Act.put,hn,E2 (Ne.symm aG)]
     rw[bH];by_cases a5:t=18
     ·subst a5;rw[fS,t18];exact .bool _
     ·rw[bK _ _ _ _ a5];exact .bad _
   rintro cM cK c0 c3 cU ct bL cW bB;refine wpListIn_nil ?_;refine wpIn_cond_true (xA bB ct) (wpIn_ret ?_);refine⟨rfl,?_⟩;rw[aM];exact⟨bB.defers,_,bo _ _,⟨_,rfl⟩,.inr ⟨cg,tz,B,aO,bt,tE bL⟩⟩
 ·have ce:k=ps.l.length:=F;rw[ce,fC] at aN;refine pm (sgZ:=jD E ps o gi k) (l:=[]) (K:=fun e j l=>e=.exit 0) D ev M.Gx ?_ rel ae xm ?_
  ·unfold CQ;simp[z7,z8,ay]
  ·rintro e Y hL bD aY bw rfl C aX ap;show S .normal Y hL;rw[aM];exact⟨ap.defers,_,bo _ _,⟨_,rfl⟩,.inl ⟨aN,od R.k2 (tE C)⟩⟩
end Op
section
variable {P:bj} {n:Nat}
theorem uH (D:List Deferred) (a:Go.Act) (d:Option Tmp) (v:aA) :({ a with defers:=a.defers++D }:Go.Act).put d v={ a.put d v with defers:=(a.put d v).defers++D }:=by cases d<;>rfl
theorem UI {D:List Deferred} {o:bb} {a:Go.Act} {w:aQ} {K g:Go.Act->aQ->Prop} {Q rJ:Exit->Go.Act->aQ->Prop} (m:∀ a w,K a w->g { a with defers:=a.defers++D } w)
  (p:∀ e a w,e≠.normal->Q e a w->rJ e { a with defers:=a.defers++D } w) (h:o.wp P a w K Q) :o.wpIn Fence.wide n P { a with defers:=a.defers++D } w g rJ:=by
 unfold Oper.wp at h;refine⟨fun _ _=>trivial,?_⟩;show o.uponIn Fence.wide n P _ g rJ ((execOp a.eval o).run P w);cases u:(execOp a.eval o).run P w with
 | ok x w'=>
  rw[u] at h;cases x with
  | value t=>show g (Go.Act.put _ _ _) _;rw[uH];exact m _ _ h
  | skip=>show g (Go.Act.put _ _ _) _;rw[uH];exact m _ _ h
  | defer d=>
   show g (Go.Act.put { tmps:=a.tmps,defers:=d::(a.defers++D) } _ _) _;have:=uH D { tmps:=a.tmps,defers:=d::a.defers } o.dst undef;have j:({ tmps:=a.tmps,defers:=d::(a.defers++D) }:Go.Act).put o.dst undef=_:=this;rw[j];exact m _ _ h
  | enter f args=>
   refine⟨fun q=>(by cases q),(callsIn_wide.2 h).mono ?_⟩;rintro (t | C | _) F j
   ·show g (Go.Act.put _ _ _) _;rw[uH];exact m _ _ j
   ·exact p _ _ _ V j
   ·obtain⟨B,z,v⟩:=j;exact⟨_,z,p _ _ _ V v⟩
  | row r args=>exact⟨fun q=>(by cases q),fun c cs _=>let ⟨t,w',r,s⟩:=h c cs;⟨t,w',(by show g (Go.Act.put _ _ _) _;rw[uH];exact m _ _ r),stepsIn_wide.2 s⟩⟩
  | _=>exact h.elim
 | halt e w'=>
  rw[u] at h;cases e<;>first | exact p _ _ _ V h | exact h.elim
theorem CK {D:List Deferred} {all:Array bb} {Q:Exit->Go.Act->aQ->Prop}:∀ {l:List bb} {a:Go.Act} {w:aQ},
  wpList P all (fun e a w=>match e with | .normal=>Q .normal { a with defers:=a.defers++D } w | _=>False) l a w->wpListIn Fence.wide n P all Q l { a with defers:=a.defers++D } w
 | [],a,w,h=>wpListIn_nil h
 | p::l,a,w,h=>by
  unfold wpList at h;unfold wpListIn;split
  ·rename_i j;rw[aj j] at h;rcases h with h | ⟨_,o,q,g⟩
   ·refine UI (fun a w g=>CK g) (fun e a w m g=>?_) h;cases e<;>first | exact bP rfl m | exact g.elim
   ·exact g.elim
  ·rename_i j;rw[ak j] at h;refine⟨fun _ _=>trivial,?_⟩;rw[uH];exact CK h
variable {G:Nat->U}
theorem Dl (J:P.follows .mixedOrders=true) (z:∀ g,(G g).aw=true) {N n:Nat} {opsZ:Array bb} (C:∀ (i:Nat) (o:bb),opsZ[i]?=some o->hN N o.dst=true) {q:List c8} (H:kX P opsZ q opsZ.toList) {id:Nat}
  {sgZ:aR} {l:ae} {K:aR->ae->Prop} (O:iz P G q sgZ l K) {D:List Deferred}
  {R:Nat->Prop} {B:Nat} {w:aQ} {muZ:bZ} {a:Go.Act} {Q:Exit->Go.Act->aQ->Prop} (rel:bw R B w (aX l) muZ) (g:jN G w R (aX l) muZ) (s:gN N w R (aX l) muZ sgZ { a with defers:=[] }) (m:a.defers=D)
  (F:∀ h w' muZ' j l',K j l'->cS w (aX l) muZ w' (aX l') muZ'->bw R B w' (aX l') muZ'->gN N w' R (aX l') muZ' j { h with defers:=[] }->h.defers=D->Q .normal h w') :(Code.region id opsZ false).wpIn Fence.wide n P Q a w:=by
 obtain⟨j,l',I,_,hk⟩:=xf C H O;obtain⟨cR,t⟩:=a;subst m;refine wpIn_region_list ?_;have:=CK (P:=P) (n:=n) (D:=t) (all:=opsZ) (Q:=Q) (l:=opsZ.toList) (a:={ tmps:=cR,defers:=[] }) (w:=w)
  (sM J z I R B w muZ _ _ rel g s fun h w' muZ' v S p=>?_)
 ·exact this
 ·show Q .normal _ _;obtain⟨T,u⟩:=h;have m:u=[]:=p.defers;subst m;exact F _ w' muZ' j l' hk v S p rfl
theorem Ca {R:Nat->Prop} {B:Nat} {w:aQ} {l:ae} {muZ:bZ} (rel:bw R B w (aX l) muZ) {b t:Nat} {v:Int} (z:l[b]?=some (.cells 1 [.int .u8 v])) {tmps:Array aA} (S:az w R (aX l) muZ (.ptr b 0 1) (tmps.getD t undef))
  {w' : aQ} (aw:∀ k,B<=k->(∃ arr e u,w.heap[k]?=some (.cells arr e u))->w'.heap[k]?=w.heap[k]?) (av:w.heap.size<=w'.heap.size) {fn:Func} (au:uK P (aX [.cells 1 [.int .u8 v]]) (bm (fun _=>U.bad) t (.ptr 0 0 1)) fn=some (.int .u8 v)) :
  (results fn tmps).run P w'=.ok (.int .u8 v) w':=by
 have p:(aX l).f b=.cells 1 [.int .u8 v]:=hI.2 z;generalize ar:tmps.getD t undef=aL at S;cases S with
 | jb _ _ _ a ap=>
  rcases ap with h | ⟨n,F,h,aH⟩
  ·rw[p] at h;cases h
  ·rw[p] at h;injection h with h1 H;omega
 | ptr _ _ _ F m ao Q=>
  clear ao F;have K:=rel.blk b m Q;have J:B<=m.r:=rel.base b m (by rw[p];rfl) Q;rw[p] at K;obtain⟨h1,H,arr,e,u,I,ak,al,am⟩:=K;have O:(aX [.cells 1 [.int .u8 v]]).f 0=.cells 1 [.int .u8 v]:=hI.2 rfl;have aq:∀ b,1<=b->(aX [.cells 1 [.int .u8 v]]).f b=.none:=fun b z=>by rw[jO,ea (by simpa using z)]
  have aC:bw (fun k=>B<=k) B w' (aX [.cells 1 [.int .u8 v]]) (fun b=>if b=0 then some m else none):=by
   refine⟨fun g aB j=>?_,fun X Y aJ aK aF aG ai aj _=>?_,fun g aB aE j=>?_,fun g C=>aq g C,fun k hk=>hk,dL rel.size av,fun g C=>?_⟩
   ·by_cases o:g=0
    ·subst o;simp only[if_true,bd] at j;subst j;rw[O];refine⟨h1,H,arr,e,u,(aw _ J ⟨_,_,_,I⟩).trans I,ak,al,fun D c q=>?_⟩;obtain⟨x,T,V,W⟩:=am D c q;refine⟨x,T,V,?_⟩;rcases D with _ | D
     ·simp only[ho,bd] at q;subst q;cases W;exact .int _ _
     ·simp at q
    ·simp[o] at j
   ·by_cases Z:X=0
    ·by_cases ag:Y=0
     ·omega
     ·simp[ag] at aj
    ·simp[Z] at ai
   ·by_cases o:g=0
    ·simp only[o,if_true,bd] at j;subst j;exact J
    ·simp[o] at j
   ·have:g≠0:=fun e=>by subst e;exact bP C (by show ¬ (1<=0);omega)
    simp[this]
  have aD:gN tmps.size w' (fun k=>B<=k) (aX [.cells 1 [.int .u8 v]]) (fun b=>if b=0 then some m else none) (bm (fun _=>U.bad) t (.ptr 0 0 1)) { tmps:=tmps,defers:=[] }:=by
   refine⟨rfl,rfl,fun i=>?_⟩;by_cases G:i=t
   ·subst G;rw[fS];show az _ _ _ _ _ (tmps.getD i undef);rw[ar];exact .ptr 0 0 1 _ m O rfl
   ·rw[bK _ _ _ _ G];exact .bad _
  obtain⟨x,ax,ay⟩:=KX (P:=P) aC aD au;cases ay;exact ax
end
def eC (B:Nat) (a b:aQ) :Prop:=RowKit.Below B a b/\a.drawn<=b.drawn
theorem eC.qU {B:Nat} {a b:aQ} (h:eD a b) (g:B<=a.heap.size) :eC B a b:=⟨h.toBelow.mono g,h.drawn⟩
theorem eC.tr {B:Nat} {a b c:aQ} (h:eC B a b) (k:eC B b c) :eC B a c:=⟨h.1.trans k.1,dL h.2 k.2⟩
theorem eC.put {B:Nat} (W:aQ) {l:Nat} (o:Obj) (h:B<=l) (g:B<=W.heap.size) :eC B W (W.putObj l o):=
 ⟨(RowKit.Below.refl B W).grown (grownBy_putObj' W l o) g (fun k e=>by cases e;exact h),aI _⟩
theorem eC.ext {R:Nat->Prop} {B:Nat} {w w' : aQ} {h h' : aH} {muZ muZ' : bZ} (rel:bw R B w h muZ) (e:cS w h muZ w' h' muZ') :eC B w w':=
 ⟨⟨e.os,e.tape,e.output,e.size,fun k hk=>e.bq k (mq hk rel.size) fun ⟨b,j,h1,g,m⟩=>by have:=rel.base b j h1 g;omega⟩,e.drawn⟩
theorem eC.alloc {B:Nat} {a:aQ} (g:B<=a.heap.size) (o:Obj) :eC B a (a.alloc o):=⟨(RowKit.Below.refl B a).alloc g o,aI _⟩
theorem eC.k2 {a b:aQ} (h:eC a.heap.size a b) :eD a b:=⟨h.1,h.2⟩
theorem US {R:Nat->Prop} {B:Nat} {w:aQ} {l:ae} {muZ:bZ} (rel:bw R B w (aX l) muZ) (p:∀ (b:Nat) (c:am),l[b]?=some c->∃ n cs,c=am.cells n cs) {k:Nat} (q:Own (aX l) muZ k) :∃ arr e g,w.heap[k]?=some (.cells arr e g):=by
 obtain⟨b,t,h1,m,rfl⟩:=q;have h:=rel.blk b t m;rw[jO] at h h1;cases j:l[b]? with
 | none=>rw[j] at h1;cases h1
 | some c=>
  rw[j] at h;obtain⟨n,cs,rfl⟩:=p b c j;obtain⟨_,_,arr,e,g,o,_⟩:=h;exact⟨arr,e,g,o⟩
theorem B9 {R:Nat->Prop} {B:Nat} {w w' : aQ} {l:ae} {h' : aH} {muZ muZ' : bZ} (rel:bw R B w (aX l) muZ) (h:∀ (b:Nat) (c:am),l[b]?=some c->∃ n cs,c=am.cells n cs) (e:cS w (aX l) muZ w' h' muZ') :KeepsOthers w w':=by
 refine⟨e.size,fun k p hk j=>?_⟩;rw[e.bq k (ib.1 hk).1 fun m=>?_]
 ·exact hk
 ·obtain⟨arr,q,o,g⟩:=US rel h m;rw[hk] at g;cases g;cases j
namespace Op
open ca
abbrev YP:List c8:=[eK 0 3 (.box (cR 0)),eK 1 4 (.box (cR 1)),eK 2 5 (.box (cR 2)),eK 3 6 (.alloc [.int .u8 0])]
abbrev YL:fO:=.seq (.jB [eK 0 7 (.nu 4 (cR 3)),eK 1 8 (.ld1 (cR 7)),eK 2 9 (.jZ 32 (cR 5)),sc 3 10 66 [(cR 8),(cR 9)]]) (.cond (cR 10) (.seq (.jB [xh 0 (.st 1 (cR 6) (.const (.int .u8 5)))]) .ret) .skip)
abbrev YQ:List c8:=[eK 0 11 (.jZ 5 (cR 3)),eK 1 12 (.jZ 11 (cR 4)),sc 2 13 153 [(cR 11),(cR 12)]]
abbrev YR:List c8:=[eK 0 15 (.nu 1 (cR 3)),eK 1 16 (.nu 2 (cR 15)),eK 2 17 (.ld1 (cR 16)),eK 3 18 (.nu 0 (cR 3)),eK 4 19 (.ld1 (cR 18)),eK 5 20 (.bin .eql 3 (cR 17) (cR 19))]
abbrev YS:List c8:=[xh 0 (.st 1 (cR 6) (.const (.int .u8 8)))]
abbrev YT:List c8:=[xh 0 (.st 1 (cR 6) (.const (.int .u8 1)))]
def fE (S E X:ag) (v:Int) :ae:=[.cells 5 S,.cells 11 E,.cells 32 X,.cells 1 [.int .u8 v],.cells 5 S,.cells 11 E]
structure FM (p q t u v g h j:Array bb) (m:bb) (t4:aC) :Prop where
 body:Tryz.f103.body=some (.seq (.region 0 p false) (.seq (.seq (.region 1 q false) (.cond (.tmp 10) (.seq (.region 2 t false) .ret) .skip)) (.seq (.seq (.region 3 u false) (.block 0 (.rangeFunc (.tmp 13) #[14] .skip (.block 1 (.seq (.region 4 v false) .ret)))))
  (.seq (.seq (.region 5 g false) (.cond (.tmp 20) (.seq (.region 6 h false) .ret) .skip)) (.seq (.region 7 j false) .ret)))))
 BA:comp prog 21 (.region 0 p false)=some (.jB YP)
 jR:comp prog 21 (.seq (.region 1 q false) (.cond (.tmp 10) (.seq (.region 2 t false) .ret) .skip))=some YL
 Pl:comp prog 21 (.region 3 u false)=some (.jB YQ)
 iL:v.toList=[m]
 Js:m.op=.store t4 (.tmp 6) (.const (.int .u8 6))
 Ue:m.dst=none
 Uf:m.guard=none
 Ut:kX prog g YR g.toList
 Uu:kX prog h YS h.toList
 Uv:kX prog j YT j.toList
 Qx:∀ (i:Nat) (o:bb),g[i]?=some o->hN 21 o.dst=true
 Qy:∀ (i:Nat) (o:bb),h[i]?=some o->hN 21 o.dst=true
 Qz:∀ (i:Nat) (o:bb),j[i]?=some o->hN 21 o.dst=true
 Xv:b5 prog t4=some 1
theorem BW {R:Array bb} (g:(R.toList.all fun o=>hN 21 o.dst)=true) (i:Nat) (o:bb) (h:R[i]?=some o) :hN 21 o.dst=true:=by exact gg.1 g o (by rw[<-p8] at h;exact cE h)
theorem YO:∃ g h j m o p q t u t4,FM g h j m o p q t u t4:=
 ⟨j3 (h9 ((Tryz.f103.body).getD .skip) [false]),
  j3 (h9 ((Tryz.f103.body).getD .skip) [true,false,false]),
  j3 (h9 ((Tryz.f103.body).getD .skip) [true,false,true,false,false]),
  j3 (h9 ((Tryz.f103.body).getD .skip) [true,true,false,false]),
  j3 (h9 ((Tryz.f103.body).getD .skip) [true,true,false,true,false,true,false,false]),
  j3 (h9 ((Tryz.f103.body).getD .skip) [true,true,true,false,false]),
  j3 (h9 ((Tryz.f103.body).getD .skip) [true,true,true,false,true,false,false]),
  j3 (h9 ((Tryz.f103.body).getD .skip) [true,true,true,true,false]),
  ((j3 (h9 ((Tryz.f103.body).getD .skip) [true,true,false,true,false,true,false,false])).toList).headD { op:=.move (.tmp 0),dst:=none,type:=0,pos:= "",after:=#[],guard:=none },
  (match (((j3 (h9 ((Tryz.f103.body).getD .skip) [true,true,false,true,false,true,false,false])).toList).headD { op:=.move (.tmp 0),dst:=none,type:=0,pos:= "",after:=#[],guard:=none }).op with | .store v _ _=>v | _=>0),
  ⟨by kernel_rfl,by kernel_rfl,by kernel_rfl,by kernel_rfl,by kernel_rfl,by kernel_rfl,by kernel_rfl,by kernel_rfl,
  vz (idx:=[0,1,2,3,4,5]) bg bg,vz (idx:=[0]) bg bg,vz (idx:=[0]) bg bg,
  BW bg,BW bg,BW bg,by kernel_rfl⟩⟩
theorem TE (S E:ag) (j:S.length=5) (g:E.length=11) {l:ae} {K:cA} (h:K (.fn 206 [] [.ptr (l.length+1) 0 11,.ptr l.length 0 5]) (l++[.cells 5 S,.cells 11 E])) :
  cJ 153 [.ah S,.ah E] l K:=by apply cW func153 [];simp[j,g];exact h
theorem EX (v:Int) :uK prog (aX [.cells 1 [.int .u8 v]]) (bm (fun _=>U.bad) 6 (.ptr 0 0 1)) Tryz.f103=some (.int .u8 v):=bg
end Op
namespace Op
open ca
theorem Cq (S E X:ag) (v:Int) :∀ (b:Nat) (c:am),(fE S E X v)[b]?=some c->∃ n cs,c=am.q n cs:=by intro b c h;have g:=cE h;simp only[fE,hZ,fX,or_false] at g;rcases g with rfl | rfl | rfl | rfl | rfl | rfl<;>exact⟨_,_,rfl⟩
theorem WJ {p t u v g w z C:Array bb} {j:bb} {t4:aC} (M:FM p t u v g w z C j t4) {S E X:ag} {m:Fence} (I:∀ f,m.fn f) {n:Nat} {R:Nat->Prop} {B:Nat} {W:aQ} {muZ:bZ} {a:Go.Act}
  (rel:bw R B W (aX (fE S E X 0)) muZ) (H:az W R (aX (fE S E X 0)) muZ (.ptr 3 0 1) (a.tmps.getD 6 undef)) :
  (Code.block 1 (.seq (.region 4 g false) .ret)).wpIn m n prog (fun e _ o=>e=.ret/\cS W (aX (fE S E X 0)) muZ o (aX (fE S E X 6)) muZ/\bw R B o (aX (fE S E X 6)) muZ) a W:=by
 refine wpIn_block (wpIn_seq (wpIn_region_list ?_));rw[M.iL];have Q:re prog (aX (fE S E X 0)) t4 (.ptr 3 0 1) (.int .u8 6)=some (aX (fE S E X 6)):=by
  unfold re;rw[M.Xv];have K:(aX (fE S E X 0)).f 3=.q 1 [.int .u8 0]:=hI.2 rfl;simp only[U.cells,K];rw[aj V,mu _ (by simp[fE])];rfl
 obtain⟨w',h1,F,G⟩:=LY (P:=prog) rel Q H (.int .u8 6);unfold wpListIn;have T:Region.wanted j (yielded g a.tmps)=true:=by unfold Region.wanted;rw[M.Uf]
 rw[aj T];refine⟨fun f _=>I f,?_⟩;have O:(execOp a.eval j).run prog W=.ok .skip w':=by
  have J:a.eval (.tmp 6)=a.tmps.getD 6 undef:=rfl;rw[<-J] at h1;have D:(Instr.storeAt t4 (a.eval (.tmp 6)) (a.eval (.const (.int .u8 6)))).run prog W=.ok () w':=h1;simp[execOp,M.Js,D]
 rw[Oper.semAt_eq _ _ _ (fun c=>by rw[M.Js];exact fun h=>by cases h),O,Oper.uponIn_skip,M.Ue];exact wpListIn_nil (wpIn_ret ⟨rfl,F,G⟩)
def sV (x:List B) (g:bV) (ps:aO) (cap j:Int) :Int:=if x∈g.l then 5 else if ∀ h∈ps,h∈g.l then (if j=cap then 8 else 1) else 6
theorem Rf {w:aQ} {R:Nat->Prop} {h:aH} {muZ:bZ} {f:cf} {j m:U} {v:aA} (z:az w R h muZ (.fn f [] [j,m]) v) :∃ g kJ,v=.func (.func f) #[] #[g,kJ]/\az w R h muZ j g/\az w R h muZ m kJ:=by
 cases z with
 | fn _ _ _ t cs u o h1 p=>
  have q:t=#[]:=by apply AD;simpa using u
  subst q;obtain⟨cs⟩:=cs;rcases cs with _ | ⟨g,_ | ⟨kJ,_ | ⟨B,cs⟩⟩⟩
  ·simp at o
  ·simp at o
  ·exact⟨g,kJ,rfl,p 0 j g rfl rfl,p 1 m kJ rfl rfl⟩
  ·simp at o
theorem RH {l:ag} {t:Nat} (h:t<l.length) :l.getD t fL=l[t]:=by simp[List.getD,h]
theorem RI {l:ag} {t:Nat} (h:l.length<=t) :l.getD t fL=fL:=by simp[List.getD,ea h]
theorem TB:Enters prog 206:=by obtain⟨g,h,j,m,o,p,M⟩:=IR;exact enters_of func206 bg M.body
theorem Bv {g W:aQ} {l:Nat} (o:Obj) (h:eD g W) (j:g.heap.size<=l) :eD g (W.putObj l o):=
 eC.k2 ((eC.qU h (aI _)).tr (eC.put W o j h.toBelow.size))
theorem YZ (E:ag) (ps:bV) (b4:aq E=true) (aW:E.length=11) (cK:∀ h:1<E.length,E[1]'h=ai ps) (c6:cT ps) (c5:ps.l.length<=1000000) (x:List B) (ck:x.length=32) (ord:bV) (cg:cT ord) (cf:ord.l.length<=1000000) (cap b6:Int) (a6 a2:U) (ch:a6.aw=true) (cc:a2.aw=true) :
  aY 103 [.ah (rY cap b6 a6 a2 ord),.ah E,.ah (ar x)] (.int .u8 (sV x ord ps.l cap b6)):=by
 intro w A ap cb aK am;obtain⟨dk,cw,cx,cy,aP,cz,bN,bO,dq,t4,M⟩:=YO;obtain⟨g,O⟩:=ao (rY cap b6 a6 a2 ord);have cW:aq g=true:=by rw[O];exact GN ch cc
 have Z:g.length=5:=by rw[O];rfl
 have cP:∀ h:0<g.length,g[0]'h=.i6 cap:=fun h=>by simp only[O];rfl
 have cQ:∀ h:3<g.length,g[3]'h=.i6 b6:=fun h=>by simp only[O];rfl
 have bX:∀ h:4<g.length,g[4]'h=ai ord:=fun h=>by simp only[O];rfl
 obtain⟨j,bp⟩:=ao (ar x);have bq:j.length=32:=by rw[bp];exact bu ck
 have b5:aq j=true:=by rw[bp];exact c4 x
 have aF:=p3 ord cg cf x ck;rw[<-bp] at aF am;rw[<-O] at am;have P:prog.follows .mixedOrders=true:=checked.mixed;have b7:=bU ord;obtain⟨vq,aC⟩:=ao (sV x ord ps.l cap b6);rw[<-aC];refine (callsIn_wide (n:=0)).1 (callsIn_of_wp_marks (fn:=Tryz.f103) func103 M.body trivial ?_ rfl);obtain⟨G,bo⟩:=ao (bodyPostM Fence.wide 0 prog Tryz.f103 (fun e w'=>∃ v,e=Ending.returned v/\eD w w'/\dd w' (fun k=>A k\/w.heap.size<=k) (.int .u8 vq) v));rw[<-bo];have cX:∀ (a:Go.Act) (W:aQ) (v:Int),a.defers=[]->(results Tryz.f103 a.tmps).run prog W=.ok (.int .u8 v) W->v=vq->eD w W->G .ret a W:=by
  intro a W v aE bx aJ o;rw[bo];show LeavesInM _ _ _ _ _ _ a.defers _ _;rw[aE];exact⟨_,bx,_,rfl,o,by rw[aJ];exact .int _ _⟩
 have b9:∀ (a:Go.Act) (W:aQ) (D:Nat) (v:Int),a.defers=[{ target:=.collected D,args:=#[] }]->W.heap[D]?=some (.deferred (some []))->(results Tryz.f103 a.tmps).run prog (W.putObj D (.deferred none))=.ok (.int .u8 v) (W.putObj D (.deferred none))->v=vq->eD w (W.putObj D (.deferred none))->G .ret a W:=by
  intro a W D v aE cL bx aJ o;rw[bo];show LeavesInM _ _ _ _ _ _ a.defers _ _;rw[aE];exact⟨V,.inl ⟨_,_,rfl,run_takeDeferred cL,_,bx,_,rfl,o,by rw[aJ];exact .int _ _⟩⟩
 have up:∀ {c:U} {v:aA},dd w A c v->az w (fun k=>A k\/w.heap.size<=k) aH.empty (fun _=>none) c v:=fun p=>p.up (fun k _ hk=>⟨.inl hk,mT _ k⟩)
 have bS:jN GS w (fun k=>A k\/w.heap.size<=k) aH.empty (fun _=>none):=fun i=>⟨ev i,up (cb i)⟩
 have c1:Tryz.f103.ntmps=21:=bg;have rel:=uI w (fun k=>A k\/w.heap.size<=k) fun k hk=>.inr hk
 refine wpIn_seq (pm (sgZ:=jm [.ah g,.ah E,.ah j]) (l:=[]) (K:=fun e m l=>e=.normal/\l=[.q 5 g,.q 11 E,.q 32 j,.q 1 [.int .u8 0]]/\m 3=.ptr 0 0 5/\m 4=.ptr 1 0 11/\m 5=.ptr 2 0 32/\m 6=.ptr 3 0 1)
  P ev M.BA ?_ rel bS ⟨by rw[c1];simp[aK],rfl,fun I=>?_⟩ ?_)
 ·simp[jm,Z,aW,bq]
 ·by_cases z:I<([.ah g,.ah E,.ah j] :ag).length
  ·have br:=RH z;have bz:(ap++Array.replicate (Tryz.f103.ntmps - ap.size) undef).getD I undef=ap[I]'(by rw[aK];exact z):=by
    rw[hn,oX (by rw[aK];exact z)];simp[show I<ap.size by rw[aK];exact z]
   show az _ _ _ _ (([.ah g,.ah E,.ah j] :ag).getD I fL) _;rw[br,bz];exact up (am I _ _ (bI z) V)
  ·have br:=RI (xX z);have bz:(ap++Array.replicate (Tryz.f103.ntmps - ap.size) undef).getD I undef=undef:=by
    rw[hn,u6 (by rw[aK];exact xX z),AG];split<;>rfl
   show az _ _ _ _ (([.ah g,.ah E,.ah j] :ag).getD I fL) _;rw[br,bz];exact xx
 rintro e cA dg dr ct dm ⟨rfl,rfl,a5,cm,bB,bC⟩ aR bG bK;have aT:=bS.ext aR;by_cases al:x∈ord.l
 ·rw[bY al] at aF;have cO:(5:Int)=vq:=by rw[aC];unfold sV;rw[aj al]
  suffices c8:(Code.seq (.region 1 cw false) (.cond (.tmp 10) (.seq (.region 2 cx false) .ret) .skip)).wpIn Fence.wide 0 prog (fun e a W=>e=.ret/\G .ret a W) cA dg from wpIn_seq (wpIn_mono c8 fun e a w ⟨bt,h⟩=>by subst bt;exact h)
  refine pm (sgZ:=ct) (K:=fun e m l=>e=.ret/\l=[.q 5 g,.q 11 E,.q 32 j,.q 1 [.int .u8 5]]/\m 6=.ptr 3 0 1) P ev M.jR ?_ bG aT bK ?_
  ·simp[a5,bB,Z,bX,bq,aL];refine av aF (by simp[aq,U.aw,b7,b5]) ?_;simp[bC]
  ·rintro e bf bM dh cu db ⟨rfl,rfl,Q⟩ aB a9 aN;have Y:=aN.val 6;rw[Q] at Y;exact⟨rfl,cX bf bM 5 aN.defers (Ca a9 rfl Y (fun _ _ _=>rfl) (aI _) (EX 5)) cO (tE (aR.trans aB))⟩
 ·rw[cC al] at aF;refine wpIn_seq (pm (sgZ:=ct) (K:=fun e m l=>e=.normal/\l=[.q 5 g,.q 11 E,.q 32 j,.q 1 [.int .u8 0]]/\m 3=.ptr 0 0 5/\m 4=.ptr 1 0 11/\m 6=.ptr 3 0 1) P ev M.jR ?_ bG aT bK ?_)
  ·simp[a5,bB,Z,bX,bq,aL];refine av aF (by simp[aq,U.aw,b7,b5]) ?_;simp[a5,cm,bC]
  rintro e bf bM dh cu db ⟨rfl,rfl,bA,cl,Q⟩ aB a9 aN;have bj:=aT.ext aB;show (Code.seq (.seq (.region 3 cy false) (.block 0 (.rangeFunc (.tmp 13) #[14] .skip (.block 1 (.seq (.region 4 aP false) .ret))))) _).wpIn Fence.wide 0 prog G bf bM;refine wpIn_seq (wpIn_seq (pm (sgZ:=cu) (K:=fun e m l=>e=.normal/\l=fE g E j 0/\m 3=.ptr 0 0 5/\m 6=.ptr 3 0 1/\m 13=.fn 206 [] [.ptr 5 0 11,.ptr 4 0 5]) P ev M.Pl ?_ a9 bj aN ?_))
  ·simp[bA,cl,Z,aW,aL];refine TE g E Z aW ?_;simp[bA,Q,fE]
  rintro e u fM au di dn ⟨rfl,rfl,da,i6,c9⟩ bh aM aO;have bk:=bj.ext bh;have a0:eD w fM:=tE ((aR.trans aB).trans bh);clear a5 cm bB bC bA cl Q bK aN bG a9 aR aB bh aT bj;have Y:=aO.val 6;rw[i6] at Y;have bT:=aO.val 13;rw[c9] at bT;obtain⟨de,df,cY,c2,c3⟩:=Rf bT;have c7:=Ke aM (cs:=E) (by rfl) b4 c2;have ci:=Ke aM (cs:=g) (by rfl) cW c3;have aG:w.heap.size<=fM.heap.size:=a0.toBelow.size;have aZ:∀ {bE:Obj} {H:aQ},H=(fM.alloc (.deferred (some []))).alloc bE->eD fM H/\H.heap[fM.heap.size]?=some (.deferred (some []))/\H.heap.size=fM.heap.size+2:=by
   intro bE H e;subst e;refine⟨eC.k2 ((eC.alloc (aI _) _).tr (eC.alloc V _)),?_,V⟩;exact (((RowKit.Below.refl (fM.heap.size+1) (fM.alloc (.deferred (some [])))).alloc V bE).block fM.heap.size F).trans (World.alloc_heap_new _ _)
  show (Code.block 0 _).wpIn Fence.wide 0 prog _ u fM;refine wpIn_block (Wa (gf:=206) (lb:=#[de,df]) (A:=∀ bF∈ps.l,bF∈ord.l) (B:=¬ ∀ bF∈ps.l,bF∈ord.l) cY TB rfl
   (fun bd jl=>bw (fun k=>A k\/w.heap.size<=k) w.heap.size bd (aX (fE g E j 0)) au/\cS bd (aX (fE g E j 0)) au jl (aX (fE g E j 6)) au/\bw (fun k=>A k\/w.heap.size<=k) w.heap.size jl (aX (fE g E j 6)) au)
   (fun bd jl h=>B9 h.1 (Cq g E j 0) h.2.1) ?_ ?_ ?_ ?_)
  ·intro fn y W o;obtain⟨t,_,_⟩:=aZ rfl;obtain⟨T,R⟩:=pT aM (Bv (l:=fM.heap.size+1) (.loop (fW fn u.tmps #[14] (.block 1 (.seq (.region 4 aP false) .ret)) fM.heap.size .busy none)) (od t o) F);refine wpIn_mono (WJ M (S:=g) (E:=E) (X:=j) (fun _=>trivial) R ?_) ?_
   ·have aU:=az.ext T Y;have z:(u.tmps.setIfInBounds 14 y).getD 6 undef=u.tmps.getD 6 undef:=by simp only[hn,E2 (show 14≠6 by omega)]
    rw[<-z] at aU;have cR:∀ bc:Array aA,bc=u.tmps.setIfInBounds 14 y->az (W.putObj (fM.heap.size+1) (.loop (fW fn u.tmps #[14] (.block 1 (.seq (.region 4 aP false) .ret)) fM.heap.size .busy none))) (fun k=>A k\/w.heap.size<=k) (aX (fE g E j 0)) au (.ptr 3 0 1) (bc.getD 6 undef):=fun bc e=>by rw[e];exact aU
    exact cR _ V
   ·rintro e dl jl ⟨bt,h1,cD⟩;exact⟨bt,R,h1,cD⟩
  ·intro fn H aD cV;obtain⟨t,d1,cr⟩:=aZ aD;rw[O] at ci;refine (TA E ps b4 aW cK c6 c5 ord cg cf cap b6 a6 a2 ch cc (c7.k2 t) (ci.k2 t) (fun i=>dd.k2 ((nq (bk i).2 (bk i).1).up fun k _ hk=>⟨hk.1,mT _ k⟩) t) cV ?_).mono ?_
   ·rintro W jl o ⟨rL,⟨a7,ay,a8⟩,rfl⟩;have cU:=(od t o).toBelow.size;refine⟨A,fun i=>(cb i).k2 (eC.k2 ((((eC.qU a0 (aI _)).tr (eC.qU (od t o) aG)).tr (eC.put W _ F F)).tr ((eC.ext a7 ay).tr (eC.put rL _ F a8.size))))⟩
   ·rintro e ax ⟨am,aV | ⟨c0,W,jl,o,⟨rL,z,rfl⟩,ae⟩⟩
    ·exact⟨am,.inl aV⟩
    ·exact⟨am,.inr ⟨c0,W,rL,o,z,ae⟩⟩
  ·intro fn H ax aD aV o;obtain⟨t,d1,cr⟩:=aZ aD;generalize b1:ax.putObj _ _=jl;have b2:eD fM jl:=by rw[<-b1];exact Bv _ (od t o) F
   have cG:jl.heap[fM.heap.size]?=some (.deferred (some [])):=by rw[<-b1,World.putObj_heap_other F];exact (o.toBelow.block _ F).trans d1
   obtain⟨T,R⟩:=pT aM b2;have cq:=aO.ext T;have bl:=bk.ext T;have ca:∀ (C:Go.Act) (my:aQ) (J:bZ) (v:Int),cS jl (aX (fE g E j 0)) au my (aX (fE g E j v)) J->bw (fun k=>A k\/w.heap.size<=k) w.heap.size my (aX (fE g E j v)) J->
     az my (fun k=>A k\/w.heap.size<=k) (aX (fE g E j v)) J (.ptr 3 0 1) (C.tmps.getD 6 undef)->C.defers=[{ target:=.collected fM.heap.size,args:=#[] }]->v=vq->G .ret C my:=by
    intro C my J v bR cn aU aE aJ;have bW:my.heap[fM.heap.size]?=some (.deferred (some [])):=(B9 R (Cq g E j 0) bR).same _ _ cG rfl;refine b9 C my fM.heap.size v aE bW (Ca cn (b:=3) rfl aU (fun k hk p=>World.putObj_heap_other (fun bv=>by obtain⟨arr,e,cB,p⟩:=p;rw[bv,bW] at p;cases p)) V (EX v)) aJ ?_;exact eC.k2 ((((eC.qU a0 (aI _)).tr (eC.qU b2 aG)).tr (eC.ext R bR)).tr (eC.put my _ aG cn.size))
   show (Code.seq (.seq (.region 5 cz false) (.cond (.tmp 20) (.seq (.region 6 bN false) .ret) .skip)) (.seq (.region 7 bO false) .ret)).wpIn Fence.wide 0 prog G { tmps:=u.tmps,defers:={ target:=.collected fM.heap.size,args:=#[] }::u.defers } jl;refine wpIn_seq (wpIn_seq (Dl (sgZ:=di) (D:=[{ target:=.collected fM.heap.size,args:=#[] }]) P ev M.Qx M.Ut (K:=fun m l=>l=fE g E j 0/\m 6=.ptr 3 0 1/\m 20=.bool (decide (b6=cap))) ?_ R bl ⟨cq.size,rfl,cq.val⟩ (by rw[aO.defers]) ?_))
   ·simp[da,i6,fE,Z,cP,cQ]
   rintro bQ bP ds cv dp ⟨rfl,Q,a4⟩ aS cp bb b8;show (Code.cond (.tmp 20) (.seq (.region 6 bN false) .ret) .skip).wpIn Fence.wide 0 prog _ bQ bP;by_cases a3:b6=cap
   ·rw[bY a3] at a4;refine wpIn_cond_true (xA bb a4) (wpIn_seq (Dl (sgZ:=cv) P ev M.Qy M.Uu (K:=fun m l=>l=fE g E j 8/\m 6=.ptr 3 0 1) ?_ cp (bl.ext aS) bb b8 ?_))
    ·simp[Q,fE]
    rintro C my J dj dc ⟨rfl,bD⟩ bi bH bL bs;refine wpIn_ret (ca C my J 8 (aS.trans bi) bH (by have:=bL.val 6;rwa [bD] at this) bs ?_);rw[aC];unfold sV;rw[ak al,aj aV,aj a3]
   ·rw[cC a3] at a4;refine wpIn_cond_false (xA bb a4) (wpIn_skip ?_);show (Code.seq (.region 7 bO false) .ret).wpIn Fence.wide 0 prog G bQ bP;refine wpIn_seq (Dl (sgZ:=cv) P ev M.Qz M.Uv (K:=fun m l=>l=fE g E j 1/\m 6=.ptr 3 0 1) ?_ cp (bl.ext aS) bb b8 ?_)
    ·simp[Q,fE]
    rintro C my J dj dc ⟨rfl,bD⟩ bi bH bL bs;refine wpIn_ret (ca C my J 1 (aS.trans bi) bH (by have:=bL.val 6;rwa [bD] at this) bs ?_);rw[aC];unfold sV;rw[ak al,aj aV,ak a3]
  ·rintro fn H W rL ax aD cF o ⟨a7,ay,a8⟩ ae;obtain⟨t,d1,cr⟩:=aZ aD;have cU:=(od t o).toBelow.size;have cN:fM.heap.size+1<W.heap.size:=by have:=o.toBelow.size;omega
   obtain⟨T,R⟩:=pT aM (Bv (l:=fM.heap.size+1) (.loop (fW fn u.tmps #[14] (.block 1 (.seq (.region 4 aP false) .ret)) fM.heap.size .busy none)) (od t o) F);have ce:=B9 a7 (Cq g E j 0) ay;have cJ:W.heap[fM.heap.size]?=some (.deferred (some [])):=(o.toBelow.block _ F).trans d1;have bm:rL.heap[fM.heap.size]?=some (.deferred (some [])):=ce.same _ _ (by rw[World.putObj_heap_other F];exact cJ) rfl;have cM:=ce.same _ _ (World.putObj_heap_same cN) rfl;have cI:=(ib.1 bm).1;have b3:=ae.toBelow.size;simp only[World.putObj_size] at b3;have cH:ax.heap[fM.heap.size]?=some (.deferred (some [])):=(ae.toBelow.block _ (by simpa using cI)).trans (by rw[World.putObj_heap_other F];exact bm);show G .ret { tmps:=u.tmps,defers:={ target:=.collected fM.heap.size,args:=#[] }::u.defers } _;refine b9 _ _ fM.heap.size 6 (by rw[aO.defers]) (by rw[World.putObj_heap_other F];exact cH) (Ca a8 (b:=3) rfl (az.ext (T.trans ay) Y) (fun k hk p=>?_) (by simpa using b3) (EX 6)) ?_ ?_
   ·obtain⟨arr,e,cB,p⟩:=p;have bv:k≠fM.heap.size:=fun h=>by rw[h,bm] at p;cases p
    have cd:k≠fM.heap.size+1:=fun h=>by rw[h,cM] at p;cases p
    have cZ:=(ib.1 p).1;rw[World.putObj_heap_other bv,World.putObj_heap_other cd,ae.toBelow.block k (by simpa using cZ),World.putObj_heap_other cd]
   ·rw[aC];unfold sV;rw[ak al,ak cF]
   ·have cE:eC w.heap.size w rL:=(((eC.qU a0 (aI _)).tr (eC.qU (od t o) aG)).tr (eC.put W _ F F)).tr (eC.ext a7 ay);have cj:=a8.size;exact eC.k2 (((cE.tr (eC.put rL _ F cj)).tr (eC.qU ae (by simpa using cj))).tr ((eC.put ax _ F F).tr (eC.put _ _ aG (by simp;omega))))
theorem Y0 (o:aG) (p:dz o) (x:List B) (w:x.length=32) (g:bV) (u:cT g) (t:g.l.length<=1000000) (cap m:Int) (j h:U) (v:j.aw=true) (q:h.aw=true) :
  aY 103 [.ah (rY cap m j h g),.ah (au o),.ah (ar x)] (.int .u8 (sV x g o.ay.l cap m)):=
 YZ (au o) o.ay (dV o) rfl (fun _=>rfl) p.idsZ p.len x w g u t cap m j h v q
end Op
end Go.bh
namespace Go.bh
open Go Go.Proofs Go.Proofs.Tryz
namespace Op
open ca
structure Ot (s:dm) (l:ae) (k:Nat) (sgZ:aR) (L:ae) :Prop where
 fp:sgZ 1=.ptr l.length 0 5
 iI:sgZ 2=.ptr (l.length+1) 0 5
 HV:sgZ 25=.i6 s.aS.al.l.length
 Ci:sgZ 26=.i6 k
 z:L[l.length+1]?=some (.q 5 [.i6 0,.af,.af,.i6 0,.af])
 ex:ih l L
 st:∃ g w m,L[l.length]?=some (.q 5 [.i6 s.cap,g,ai s.aS.cb,.i6 s.aS.b6,w])/\e5 32 ar L (l.length+2) w s.aJ/\(∀ z b n q t,w=.ad z b 0 n q t->b<m)/\l.length+2<=m/\n2 s.aS.al k m g L/\w.cells=some [w]
theorem Eh {alZ:Type} {l:List alZ} {b:Nat} {c:alZ} (h:l[b]?=some c) :l.set b c=l:=by
 apply g5;intro g;by_cases e:b=g
 ·subst e;rw[b1 (aK.1 h).1,h]
 ·rw[br e]
theorem OS {l g o:ae} {a b h j:am} {c:Nat} (h1:l.length+2<=c) (t:c<l.length+2+g.length) :(l++a::b::(g++o))[c]?=((l++[h,j])++g)[c]?:=by
 obtain⟨m,u⟩:=ao (c - l.length - 2);have p:c - l.length=m+2:=F;have q:c - (l++[h,j]).length=m:=by simp;omega
 rw[et F,et (by simp;omega),p,q];simp only[jg];rw[aV F]
theorem OT {l g h:ae} {a b j o:am} {c:Nat} (h1:l.length+2+g.length<=c) :(l++a::b::(g++h))[c]?=((l++j::o::g)++h)[c]?:=by
 obtain⟨m,t⟩:=ao (c - l.length - 2 - g.length);have p:c - l.length=g.length+m+2:=F;have q:c - (l++j::o::g).length=m:=by simp;omega
 rw[et F,et (by simp;omega),p,q];simp only[jg];rw[et F];congr 1;omega
theorem X3 (s:dm) (H:kZ s) {S:ag} (bt:S=cv s) {l:ae} {K:cA} (bs:∀ P w m l',ih l l'->e5 32 ar l' (l.length+2) w s.aJ->(∀ z b n q t,w=.ad z b 0 n q t->b<m)->l.length+2<=m->n2 s.aS.al s.aS.al.l.length m P l'->w.cells=some [w]->K (.ah [.i6 s.cap,P,ai s.aS.cb,.i6 s.aS.b6,w]) l') :
  cJ 104 [.ah S] l K:=by
 subst bt;apply cW func104 [[[0],[1],[2],[4],[5],[3,5],[7],[8],[6]],db 0 6++db 7 4++[[6,10]],db 0 13++[[13,3]]];have cj:=H.no;have bu:=bU s.aS.cb;have b5:=hw s.aS.cb;have bA:=lY s.aS.cb H.aS.cb H.aS.pI;simp[cv];refine av bA (by simp[aq,bu]) ?_;simp;refine BE s.aJ H.aJ F fun w aX aw a9=>?_
 simp[b5,aw,ax];refine GI s.aS.al (by have:=H.aS.ln;omega) fun P ce ei bb=>?_
 have bL:=bb.bx;simp[ei,ax,bL];have b2:∀ z b n q t,w=.ad z b 0 n q t->b<l.length+2+aX.length:=fun z b n q t e=>by have:=(a9.lt e).2;simpa [iW,rB,Nat.add_left_comm] using this
 refine bz s.aS.al.l.length (Ot s l) ?_ ⟨V,V,V,V,V,⟨V,fun b B=>aV B⟩,P,w,l.length+2+aX.length,V,(a9.frame fun b h1 h=>OS (by simpa using h1) (by simp at h;omega)).mono V,b2,F,⟨?_⟩,aw⟩
 ·rintro k v L hk ⟨R,T,W,X,J,aC,P,w,m,aQ,bc,aR,a6,aF,aw⟩;obtain⟨v,rfl⟩:=fc R T W X;clear R T W X;have bo:IntKind.i64.wrap ((k:Int)+1)=((k+1:Nat) :Int):=by rw[IntKind.wrap_i64];have:=H.aS.ln;omega
  by_cases C:k<s.aS.al.l.length
  ·rcases aF.ex with ⟨aN,_⟩ | ⟨g,G,b9,ca,rfl,O,cc⟩
   ·rw[aN] at C;simp at C
   ·obtain⟨p,bR,bT⟩:=aP C;have aH:ds s.aS.al.l k=p:=dt bR;have Y:=(H.aS.al p bT).1;have a4:=hO (lu (ps:=s.aS.al.l) (wk:=G) (k:=k));rw[pV] at a4;have I:=sF (wk:=G) (k:=k) C;rw[ak F,aH] at I;have bm:(hi s.aS.al.l G k).flatten[k*2]?=some (ai p.idsZ):=by
     have:=lT lu I (j:=0) F;rw[nW] at this;rw[this];rfl
    have aD:(hi s.aS.al.l G k).flatten[k*2+1]?=some (bF p.opsZ):=by
     have:=lT lu I (j:=1) F;rw[this];rfl
    have bB:=lY p.idsZ Y.idsZ Y.li;have bv:=bU p.idsZ;have b7:=hw p.idsZ;have az:∀ (o:ae) (c:Nat) (b:am),L[c]?=some b->(L++o)[c]?=some b:=fun o c b B=>by rw[aV (a2 B)];exact B
    simp[C,aQ,O,bm,aD];refine av bB (by simp[aq,bv]) ?_;simp[O,aD];refine BF p.opsZ Y.ju fun w' o b8 bd=>?_
    have ci:=a2 O;have bS:g<(L++o).length:=by simp;omega
    have bQ:aM 2 (L++o) (.ad 2 g 0 s.aS.al.l.length s.aS.al.l.length (s.aS.al.l.length*2)) g (hi s.aS.al.l G k):=by
     refine .ad g _ _ _ _ _ (az o g _ O) a4 (pV _ _ _) lu (aI _) (aI _) ?_;rw[aL F]
    have cm:=JR bQ (az o g _ O) C (ai p.idsZ) w';have aO:=K6 (wk:=G) (w:=w') C;rw[aH] at aO;have a8:ax (ax (hi s.aS.al.l G k).flatten (k*2) [ai p.idsZ]) (k*2+1) [w']=(hi s.aS.al.l (fun i=>if i=k then w' else G i) (k+1)).flatten:=by
     have t1:=po lu I (j:=0) (vs:=[ai p.idsZ]) V;rw[nW,show ax (bf p) 0 [ai p.idsZ]=bf p from rfl,Eh I] at t1;have t2:=po lu I (j:=1) (vs:=[w']) V;rw[t1,t2,show ax (bf p) 1 [w']=[ai p.idsZ,w'] from rfl,aO]
    have bh:∀ c:am,((L++o).set g c)[g]?=some c:=fun c=>b1 bS
    obtain⟨Q,aT⟩:=ao (fun i=>if i=k then w' else G i:Nat->U);rw[<-aT] at aO a8;have aE:(hi s.aS.al.l Q (k+1)).flatten[k*2+1]?=some w':=by
     have:=lT lu (sF (wk:=Q) (k:=k+1) C) (j:=1) F;rw[aj F] at this;rw[this,aT];simp
    have bG:=hO (lu (ps:=s.aS.al.l) (wk:=Q) (k:=k+1));rw[pV] at bG;have bM:=bd.bx;obtain⟨aA,aB⟩:=ao ((L++o).set g (.q (s.aS.al.l.length*2) (hi s.aS.al.l Q (k+1)).flatten));have aW:aA[g]?=some (.q (s.aS.al.l.length*2) (hi s.aS.al.l Q (k+1)).flatten):=by rw[aB];exact bh _
    have bi:∀ (c:Nat) (b:am),c≠g->(L++o)[c]?=some b->aA[c]?=some b:=fun c b h1 h=>by rw[aB,br (fun e=>h1 e.symm)];exact h
    simp[az o _ _ O,aD,b7,b8,bh];refine⟨F,F,?_⟩;rw[a8,<-aB];simp[aE,bM];have bg:e5 11 au aA L.length w' p.opsZ:=bd.frame fun b h1 h=>by
     obtain⟨y,u,_⟩:=aP h;rw[u];exact bi b y F u
    have ck:=Y.ju;refine bz p.opsZ.l.length (fun q v aU=>aU=aA/\v 1=.ptr l.length 0 5/\v 2=.ptr (l.length+1) 0 5/\v 4=.ptr g (k*2) (s.aS.al.l.length*2)/\v 25=.i6 s.aS.al.l.length/\v 26=.i6 k/\v 54=.i6 p.opsZ.l.length/\v 55=.i6 q) ?_ ⟨rfl,V,V,V,V,V,V,V⟩;rintro q v aU cl ⟨rfl,R,T,aZ,W,X,a0,a3⟩;obtain⟨v,rfl⟩:=Ar R T aZ W X a0 a3;clear R T aZ W X a0 a3;have bp:=cq (k:=q) F;by_cases Z:q<p.opsZ.l.length
    ·obtain⟨D,bO,bP⟩:=aP Z;rcases bg with ⟨aN,_⟩ | ⟨b,cf,cg,rfl,aG⟩
     ·rw[aN] at Z;simp at Z
     ·have a7:=Y.opsZ D bP;have bC:=bU D.ay;have bw:=lY D.ay a7.idsZ a7.len;have J:∀ e∈p.opsZ.l.map au,e.length=11:=fun e bD=>by obtain⟨y,_,rfl⟩:=cy.1 bD;rfl
      have aK:(p.opsZ.l.map au)[q]?=some (au D):=by rw[bW,bO];rfl
      have bE:(p.opsZ.l.map au).flatten[q*11+1]?=some (ai D.ay):=lT J aK F;have bX:ax (p.opsZ.l.map au).flatten (q*11+1) [ai D.ay]=(p.opsZ.l.map au).flatten:=by
       rw[po J aK (show 1+[ai D.ay].length<=11 by simp),wT D,Eh aK]
      have mp:=hw D.ay;have ch:=v1 p.opsZ.l;have bY:=uO aG;simp[Z,aW,aE,aG,bE];refine av bw (by simp[aq,bC]) ?_;simp[Z,aW,aE,aG,bX,mp,bp,bY];omega
    ·have bV:q=p.opsZ.l.length:=F;subst bV;simp[bo];have ap:∀ (c:Nat) (b:am),c≠g->L[c]?=some b->aU[c]?=some b:=fun c b h1 h=>bi c b h1 (az o c b h)
     refine⟨C,V,V,V,V,ap _ _ F J,⟨?_,fun b B=>?_⟩,_,w,m,ap _ _ F aQ,bc.bq fun b h1 h z n q t e=>?_,aR,a6,⟨.inr ⟨g,Q,b9,ca,rfl,aW,fun i bH bI=>?_⟩⟩,aw⟩
     ·have:=aC.1;rw[aB];simp;omega
     ·obtain⟨y,u,_⟩:=aP B;have b3:L[b]?=some y:=by rw[aC.2 b B];exact u
      rw[u];exact ap b y F b3
     ·obtain⟨y,u,_⟩:=aP h;rw[u];exact ap b y (by have:=aR z b n q t e;omega) u
     ·rw[aT];by_cases a5:i=k
      ·subst a5;simp only[if_true];rw[aH];exact bg.mono F
      ·simp only[ak a5];exact (cc i F bI).frame fun b h1 h=>by
        obtain⟨y,u,_⟩:=aP h;rw[u];exact ap b y F u
  ·have bK:k=s.aS.al.l.length:=F;subst bK;have cn:=aF.cells;have b4:=a2 J;have cd:∀ c:am,(L.set (l.length+1) c)[l.length+1]?=some c:=fun c=>b1 b4
   simp[aQ,J,ax,cd];exact bs P w m _ ⟨by simpa using aC.1,fun b B=>by rw[br F];exact aC.2 b B⟩ (bc.frame fun b h1 h=>br F) aR a6 (aF.frame fun b h1 h=>br F) aw
 ·rcases bb with ⟨bN,bZ⟩ | ⟨g,aY,bj,bk,bl⟩
  ·exact .inl ⟨bN,bZ⟩
  ·refine .inr ⟨g,fun _=>.af,by simp at aY;omega,bj,bk,?_,fun i bH=>F⟩;rw[OT (by simp at aY;omega),K7];exact bl
theorem Y4 (s:dm) (v:kZ s) (h:hJ s) (o:aG) (t:dz o) :aY 102 [.ah (cv s),.ah (au o)] (.int .i64 (eA o)):=by apply bc func102 [];have w:(cv s).length=5:=rfl;have q:(cv s).take 5=cv s:=rfl;have p:=k7 s;have j:(au o).length=11:=rfl;have m:(au o).take 11=au o:=rfl;have u:=dV o;have g:=Lo s v;rw[(xo s).2 h] at g;have z:=xB o t;simp[w,q,j];refine av g (by simp[aq,U.aw,p]) ?_;simp[j,m];refine av z (by simp[aq,U.aw,u]) ?_;simp;exact aE
theorem LW (s:dm) (u:kZ s) (h:hJ s) (o:aG) (W:dz o) (aj:eA o=0) (aT:lj s o=1) :
  aY 55 [.ah (cv s),.ah (au o)] (.a1 [.ah (cv (nC s (bE o) o)),.int .u8 1,.int .i64 0]):=by
 apply bc func55 [db 0 5++[[6],[5,0]]];have bv:=dF;obtain⟨bN,bO,bR⟩:=Iy h aT;have aZ:=px o;have b5:=u.no;have T:=Y4 s u h o W;rw[aj] at T;have I:=u2 o W;rw[u1 aj] at I;have bo:eF (bE o)=.ah (ar (bE o)):=rfl;rw[bo] at I;have v:=Y0 o W (bE o) aZ s.aJ u.aJ F s.cap s.aS.b6 (e9 s.aS.al) (ai s.aS.cb) (np _) (bU _);change aY _ [.ah (cv s),.ah (au o),.ah (ar (bE o))] (.int .u8 (lj s o)) at v;rw[aT] at v;have Y:=XQ s.aS u.aS h.aS o W aj bR bN bO;have P:(cv s).length=5:=rfl;have R:(cv s).take 5=cv s:=rfl;have ag:=k7 s;have aH:(cv s).tail.take 3=bQ s.aS:=rfl;have bl:((cv s).drop 1).take 3=bQ s.aS:=rfl;have bk:=pj s.aS;have K:(au o).length=11:=rfl;have G:(au o).take 11=au o:=rfl;have J:=dV o;have z:=bu aZ;have a0:=c4 (bE o);obtain⟨X,aN⟩:=ao (ar (bE o));rw[<-aN] at I v Y z a0;have aO:X.take 32=X:=aL F;have aX:ax (bT 32 (.int .u8 0)) 0 X=X:=cI (by rw[z];rfl);obtain⟨O,bi⟩:=ao (au o);obtain⟨S,aF⟩:=ao (cv s);rw[<-bi] at K G J T I v Y ⊢;rw[<-aF] at P R ag bl aH T v ⊢;obtain⟨Q,aC⟩:=ao (fx s.aS (bE o) o);rw[<-aC] at Y;have aD:(bQ Q).length=3:=rfl;simp[P,R,K,G];refine av T (by simp[aq,U.aw,ag,J]) ?_;simp[K,G];refine av I (by simp[aq,U.aw,J]) ?_;simp[P,R,K,G,aX,z,aO];refine av v (by simp[aq,U.aw,ag,J,a0]) ?_;simp[P,R];refine X3 s u aF fun ay w m g H bs b8 b4 bj b9=>?_
 have bd:g[0]?=some (.cells 5 S):=by rw[H.2 0 V];rfl
 have aB:g[1]?=some (.cells 11 O):=by rw[H.2 1 V];rfl
 have bf:g[2]?=some (.cells 5 [.int .i64 0,.af,.af,.int .i64 0,.af]):=by rw[H.2 2 V];rfl
 have bg:g[3]?=some (.cells 32 X):=by rw[H.2 3 V];rfl
 have ge:4<=g.length:=by have:=H.1;simpa using this
 have C:∀ (m:ae) (c:Nat) (b:am),g[c]?=some b->(g++m)[c]?=some b:=fun m c b aP=>by rw[aV (a2 aP)];exact aP
 have a5:∀ (m:ae) (h:0<(g++m).length),(g++m)[0]'h=.cells 5 S:=fun m h=>(aK.1 (C m 0 _ bd)).2
 have bS:∀ (m:ae) (h:1<(g++m).length),(g++m)[1]'h=.cells 11 O:=fun m h=>(aK.1 (C m 1 _ aB)).2
 have bD:∀ y∈s.aJ.l,(ar y).length=32:=fun y bC=>bu (u.aJ y bC)
 obtain⟨b,bm,aQ,bY,bZ⟩:=bs.own bD;have ca:=bj.cells;simp[ax,C _ _ _ aB,a5,P,aH,K,G];refine av Y (by simp[aq,U.aw,bk,J]) ?_;have aE:(bQ Q).take 3=bQ Q:=rfl;have bx:ax [U.af,.af,.int .i64 0] 0 (bQ Q)=bQ Q:=cI rfl;simp[C _ _ _ bg,aD,aE,bx,z,aO,aX];obtain⟨t,p⟩:=ao (g++[am.cells 5 [U.int .i64 s.cap,ay,ai s.aS.cb,U.int .i64 s.aS.b6,w],am.cells 3 (bQ Q),am.cells 32 X,am.cells 32 X]);have aR:w=.af\/b<g.length:=aQ.lt;have bW:6<=b:=by simpa using bm
 have bL:aM 32 t w b (s.aJ.l.map ar):=by rw[p];exact aQ.more _
 have bI:t[g.length]?=some (am.cells 5 [U.int .i64 s.cap,ay,ai s.aS.cb,U.int .i64 s.aS.b6,w]):=by rw[p];simp
 have bG:t[g.length+1]?=some (am.cells 3 (bQ Q)):=by rw[p];simp
 have bF:t[2]?=some (.cells 5 [.int .i64 0,.af,.af,.int .i64 0,.af]):=by rw[p];exact C _ _ _ bf
 obtain⟨B,ap,D,a6,aA,bV,a7,a8,a9⟩:=iG (by_:=32) (x:=.ad 32 (g.length+3) 0 1 1 32) (xs:=[X]) bL (by rw[p];simp[cG,z,aL]) (by simp[z]) F F (by rw[bv];simp;omega);have ak:bt B=false:=by rw[a9];simp
 have bB:B≠.af:=fun e=>by rw[e] at ak;cases ak
 have bX:t.length=g.length+4:=by rw[p];simp
 have Z:∀ (c:Nat) (q:am),(c=2\/g.length<=c)->t[c]?=some q->D[c]?=some q:=fun c q b3 aW=>by
  rw[a7 _ (a2 aW) (by rcases aR with r | r;exact .inl r;exact .inr F)];exact aW
 have a4:=Z _ _ (.inr (aI _)) bI;have bH:=Z _ _ (.inr F) bG;have a3:=Z _ _ (.inl rfl) bF;have aU:ap≠g.length/\ap≠2:=by
  rcases a8 with q | ⟨q1,cc⟩ | q
  ·exact⟨F,F⟩
  ·have:=aR.resolve_left q1;exact⟨F,F⟩
  ·exact bP q bB
 rw[<-p];simp[a6];refine b2.bq ?_;have ei:=aA.cells;have bK:∀ c:am,(D.set g.length c)[g.length]?=some c:=fun c=>b1 (a2 a4)
 have t3:∀ c:am,(D.set g.length c)[2]?=some (.cells 5 [.int .i64 0,.af,.af,.int .i64 0,.af]):=fun c=>by rw[br F];exact a3
 have t4:∀ c d:am,((D.set g.length c).set 2 d)[2]?=some d:=fun c d=>b1 (by simpa using a2 a3)
 have bz:ax [ay,ai s.aS.cb,U.int .i64 s.aS.b6,w] 0 (bQ Q)=[e9 Q.al,ai Q.cb,U.int .i64 Q.b6,w]:=rfl;have b7:∀ a b c d:U,ax [a,b,c,d] 3 [B]=[a,b,c,B]:=fun _ _ _ _=>rfl
 have bA:∀ a b c d:U,ax [U.af,.af,.int .i64 0,.af] 0 [a,b,c,d]=[a,b,c,d]:=fun _ _ _ _=>rfl
 simp[a4,bH,ei,aD,aE,bz,bA,bK,t3,t4];have bp:nC s (bE o) o=⟨s.cap,⟨Q.al,Q.cb,Q.b6⟩,some (s.aJ.l++[bE o])⟩:=by unfold nC;rw[<-aC]
 rw[bp];obtain⟨az,bh⟩:=ao (am.cells 5 [U.int .i64 s.cap,e9 Q.al,ai Q.cb,U.int .i64 Q.b6,B]);have bM:aM 32 ((D.set g.length az).set 2 az) B ap ((s.aJ.l++[bE o]).map ar):=by
  rw[c5,df,mn,<-aN];exact aA.c6 (.inr (by rw[br (fun e=>aU.2 e.symm),br (fun e=>aU.1 e.symm)]))
 rw[<-bh];have bw:=bM.q.jA c4 (some (s.aJ.l++[bE o])) ak rfl;refine .a1 _ _ rfl fun i c bb h1 j=>?_
 rcases i with _ | _ | _ | i
 ·simp at h1 j;subst h1 j;refine .ah _ _ rfl fun i c bb h1 j=>?_
  rcases i with _ | _ | _ | _ | _ | i
  ·simp[cv] at h1 j;subst h1 j;exact .same _ rfl
  ·simp[cv] at h1 j;subst h1 j;exact .same _ (np _)
  ·simp[cv] at h1 j;subst h1 j;exact .same _ (bU _)
  ·simp[cv] at h1 j;subst h1 j;exact .same _ rfl
  ·simp[cv] at h1 j;subst h1 j;exact bw
  ·simp at h1
 ·simp at h1 j;subst h1 j;exact .same _ rfl
 ·simp at h1 j;subst h1 j;exact .same _ rfl
 ·simp at h1
end Op
end Go.bh
namespace Go.Proofs
open Go.Shelf
def Tryz.XF:Go.Shelf.Ren:=⟨fun | 6=>136 | 15=>201 | 14=>200 | 28=>243 | 29=>220 | 20=>235 | 21=>236 | 22=>237 | 23=>238 | 24=>239 | 25=>240 | 26=>241 | 27=>242 | 46=>267 | 47=>268 | 48=>269 | 49=>270 | 50=>271 | 57=>284 | n=>n,fun | 22=>23 | 24=>57 | 25=>197 | 3=>3 | 39=>259 | 0=>0 | 53=>46 | 55=>47 | 4=>4 | 46=>288 | 45=>287 | 50=>206 | 5=>5 | 9=>9 | 66=>314 | 70=>318 | 76=>330 | 77=>331 | n=>n,fun | n=>n⟩
theorem Tryz.XD:Go.Proofs.SlLaysF0.n6 Tryz.prog Tryz.XF where
 mixed:=by kernel_rfl
 f6:=⟨ "slices.SortFunc[[]braid/api.ID,braid/api.ID]",by decide,Tryz.func136.trans (congrArg some (by kernel_rfl))⟩
 f14:=⟨ "slices.pdqsortCmpFunc[braid/api.ID]",by decide,Tryz.func200.trans (congrArg some (by kernel_rfl))⟩
 f15:=Tryz.func201.trans (congrArg some (by kernel_rfl))
 f20:=⟨ "slices.insertionSortCmpFunc[braid/api.ID]",by decide,Tryz.func235.trans (congrArg some (by kernel_rfl))⟩
 f21:=⟨ "slices.heapSortCmpFunc[braid/api.ID]",by decide,Tryz.func236.trans (congrArg some (by kernel_rfl))⟩
 f22:=⟨ "slices.breakPatternsCmpFunc[braid/api.ID]",by decide,Tryz.func237.trans (congrArg some (by kernel_rfl))⟩
 f23:=⟨ "slices.choosePivotCmpFunc[braid/api.ID]",by decide,Tryz.func238.trans (congrArg some (by kernel_rfl))⟩
 f24:=⟨ "slices.reverseRangeCmpFunc[braid/api.ID]",by decide,Tryz.func239.trans (congrArg some (by kernel_rfl))⟩
 f25:=⟨ "slices.partialInsertionSortCmpFunc[braid/api.ID]",by decide,Tryz.func240.trans (congrArg some (by kernel_rfl))⟩
 f26:=⟨ "slices.partitionEqualCmpFunc[braid/api.ID]",by decide,Tryz.func241.trans (congrArg some (by kernel_rfl))⟩
 f27:=⟨ "slices.partitionCmpFunc[braid/api.ID]",by decide,Tryz.func242.trans (congrArg some (by kernel_rfl))⟩
 f28:=Tryz.func243.trans (congrArg some (by kernel_rfl))
 f29:=Tryz.func220.trans (congrArg some (by kernel_rfl))
 f46:=⟨ "slices.siftDownCmpFunc[braid/api.ID]",by decide,Tryz.func267.trans (congrArg some (by kernel_rfl))⟩
 f47:=Tryz.func268.trans (congrArg some (by kernel_rfl))
 f48:=Tryz.func269.trans (congrArg some (by kernel_rfl))
 f49:=⟨ "slices.medianAdjacentCmpFunc[braid/api.ID]",by decide,Tryz.func270.trans (congrArg some (by kernel_rfl))⟩
 f50:=⟨ "slices.medianCmpFunc[braid/api.ID]",by decide,Tryz.func271.trans (congrArg some (by kernel_rfl))⟩
 f57:=⟨ "slices.order2CmpFunc[braid/api.ID]",by decide,Tryz.func284.trans (congrArg some (by kernel_rfl))⟩
 t0:=Tryz.underlying0
 a0:=Tryz.isAgg0
 z0:=Tryz.sizeOf0
 v0:=Tryz.zeroValue0
 t3:=Tryz.underlying3
 a3:=Tryz.isAgg3
 z3:=Tryz.sizeOf3
 v3:=Tryz.zeroValue3
 t4:=Tryz.underlying4
 a4:=Tryz.isAgg4
 z4:=Tryz.sizeOf4
 v4:=Tryz.zeroValue4
 t5:=Tryz.underlying5
 a5:=Tryz.isAgg5
 z5:=Tryz.sizeOf5
 v5:=Tryz.zeroValue5
 t9:=Tryz.underlying9
 a9:=Tryz.isAgg9
 z9:=Tryz.sizeOf9
 v9:=Tryz.zeroValue9
 t22:=Tryz.underlying23
 a22:=Tryz.isAgg23
 z22:=Tryz.sizeOf23
 v22:=Tryz.zeroValue23
 t25:=Tryz.underlying197
 a25:=Tryz.isAgg197
 z25:=Tryz.sizeOf197
 v25:=Tryz.zeroValue197
 t39:=Tryz.underlying259
 a39:=Tryz.isAgg259
 z39:=Tryz.sizeOf259
 v39:=Tryz.zeroValue259
 t45:=Tryz.underlying287
 a45:=Tryz.isAgg287
 z45:=Tryz.sizeOf287
 v45:=Tryz.zeroValue287
 t46:=Tryz.underlying288
 a46:=Tryz.isAgg288
 z46:=Tryz.sizeOf288
 v46:=Tryz.zeroValue288
 t50:=Tryz.underlying206
 a50:=Tryz.isAgg206
 z50:=Tryz.sizeOf206
 v50:=Tryz.zeroValue206
 t53:=Tryz.underlying46
 a53:=Tryz.isAgg46
 z53:=Tryz.sizeOf46
 v53:=Tryz.zeroValue46
 t55:=Tryz.underlying47
 a55:=Tryz.isAgg47
 z55:=Tryz.sizeOf47
 v55:=Tryz.zeroValue47
 t66:=Tryz.underlying314
 a66:=Tryz.isAgg314
 z66:=Tryz.sizeOf314
 v66:=Tryz.zeroValue314
 t70:=Tryz.underlying318
 a70:=Tryz.isAgg318
 z70:=Tryz.sizeOf318
 v70:=Tryz.zeroValue318
 t76:=Tryz.underlying330
 a76:=Tryz.isAgg330
 z76:=Tryz.sizeOf330
 v76:=Tryz.zeroValue330
 t77:=Tryz.underlying331
 a77:=Tryz.isAgg331
 z77:=Tryz.sizeOf331
 v77:=Tryz.zeroValue331
end Go.Proofs
namespace Go.bh
open Go Go.Proofs Go.Proofs.Tryz Go.Sort Go.Shelf
open ca
abbrev ql:={l:List B // l.length=32}
instance:Inhabited ql:=⟨⟨List.replicate 32 0#8,V⟩⟩
def tT (x:ql) :ag:=x.1.map a8
def qB (x y:ql) :Int:=bJ x.1 y.1
theorem Mg:SWO (ltOf qB) where
 irrefl x:=EF.irrefl x.1
 trans x y z:=EF.trans x.1 y.1 z.1
 ntrans x y z:=EF.ntrans x.1 y.1 z.1
theorem OG (x y:ql) (h1:ltOf qB x y=false) (g:ltOf qB y x=false) :x=y:=Subtype.ext (OH x.1 y.1 h1 g)
theorem Hj (x:ql) :(tT x).length=32:=by unfold tT;rw[cx,x.2]
theorem QE (x:ql) :∀ c∈tT x,uE c=true:=fun c g=>by obtain⟨b,_,rfl⟩:=cy.1 g;rfl
theorem XE {g:Nat} (j:∀ args w,(callFunc g args).run prog w=.ok (.enter g args) w) :Bd prog 136 g 32 (fun x=>(tT x).map valOf) qB:=
 fun h q cap d w m hH hblk o=>
  AnyQ.slices_SortFunc Tryz.XD 32 (by intro w;exact Tryz.isAgg57 w) (by intro w;exact Tryz.sizeOf57 w) _ (fun x=>by rw[cx,Hj]) (fun x t p=>by obtain⟨c,_,rfl⟩:=cy.1 p;exact EW c) qB Mg g #[] h q cap d w j m hH hblk o
end Go.bh

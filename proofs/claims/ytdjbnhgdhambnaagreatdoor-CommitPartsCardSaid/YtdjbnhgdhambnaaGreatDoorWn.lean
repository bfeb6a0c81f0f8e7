/-
  Stages: checked, walked in both texts.
-/
import Derived.Test.YtdjbnhgdhambnaaGreatDoorWm
set_option maxHeartbeats 16000000
set_option maxRecDepth 100000
set_option linter.unusedVariables false
set_option linter.unusedSimpArgs false
set_option linter.unnecessarySimpa false
namespace Go.bh
open Go Go.Proofs Go.Proofs.Tryz
namespace Op
open ca aN
def pq (s:a6) (x:aB) :Bool:=decide (x.aF<s.bA)&&(decide (eA x.op=0)&&(decide (x.id∉s.aD.aJ.l)&&decide (x.bl.l=dA s.aD.aJ.l x.op)))
noncomputable def q0 (s:a6) :Bool:=decide (fK s.aD=0)&&(decide (cU s.bN s.pl.l=0)&&(decide (0<=s.bA)&&decide (s.bA<=1000000000)))
def vA (s:a6) :Bool:=decide (∀ k,k<s.pl.l.length->pq s (ft s.pl.l k)=true)
noncomputable def fl (s:a6) :Int:=if q0 s&&vA s then 0 else 8
theorem rc {s:a6} (h:q0 s=false) :fl s=8:=by unfold fl;rw[h];rfl
theorem rb {s:a6} {k:Nat} (hk:k<s.pl.l.length) (h:pq s (ft s.pl.l k)=false) :fl s=8:=by
 unfold fl;have:vA s=false:=by
  unfold vA;rw[cC];intro g;have:=g k hk;rw[h] at this;cases this
 rw[this,u9];rfl
theorem LV {s:a6} (h:q0 s=true) (g:∀ k,k<s.pl.l.length->pq s (ft s.pl.l k)=true) :fl s=0:=by unfold fl vA;rw[h,bY g];rfl
structure NA (s:a6) (k:Nat) (sgZ:aR) (l:ae) :Prop where
 fp:sgZ 1=.ptr 0 0 9
 yK:sgZ 27=cQ s.pl
 RA:sgZ 28=.i6 s.pl.l.length
 RB:sgZ 29=.i6 k
 qX:l[0]?=some (.q 9 (bp s))
 jX:∀ j,j<k->pq s (ft s.pl.l j)=true
theorem BO (s:a6) (m:dH s) :aY 24 [.ah (bp s)] (.i6 (fl s)):=by
 apply bc func24 [db 0 25++[[25,21]]];have Q:=hR s;have aR:=k7 s.aD;have aQ:aq (bS s.bN s.pl)=true:=by simp[bS,aq,U.aw,hx]
 have aH:=Lo s.aD m.aD;have aW:=u3 s.bN s.pl m.pl (by have:=m.len;omega);have aU:bx (.ad 45) (cQ s.pl)=_:=cd _;have bi:=m.aD.no;have C:q0 s=(decide (fK s.aD=0)&&(decide (cU s.bN s.pl.l=0)&&(decide (0<=s.bA)&&decide (s.bA<=1000000000)))):=rfl;have aO:=bU s.aD.aJ;obtain⟨S,z⟩:=ao (bp s);rw[<-z] at Q ⊢;obtain⟨o,a5,bd,a9,br,bv,bq,bm,bj,bs,a8,bb,H,bo,bk,bt,a7⟩:=Q;simp[o,bd];refine av aH (by simp[aq,U.aw,aR]) ?_;by_cases h1:fK s.aD=0
 ·simp[h1,o,a9];refine av aW (by simp[aq,U.aw,aQ]) ?_;by_cases v:cU s.bN s.pl.l=0
  ·by_cases J:s.bA<0
   ·simp[h1,v,J,o,H];exact aT (by rw[rc (by rw[C,cC (show ¬ 0<=s.bA by omega)];simp)]) rfl
   ·by_cases Z:1000000000<s.bA
    ·simp[h1,v,J,Z,o,H];exact aT (by rw[rc (by rw[C,cC (show ¬ s.bA<=1000000000 by omega)];simp)]) rfl
    ·have aX:q0 s=true:=by rw[C,bY h1,bY v,bY (show 0<=s.bA by omega),bY (show s.bA<=1000000000 by omega)];rfl
     simp[h1,v,J,Z,o,H,bb,aU];refine bz s.pl.l.length (NA s) ?_ ⟨V,V,V,V,by simp[z],fun D h=>F⟩;rintro k bf l hk ⟨R,T,W,Y,P,ap⟩;obtain⟨bf,rfl⟩:=fc R T W Y;clear R T W Y;rw[<-z] at P;by_cases p:k<s.pl.l.length
     ·obtain⟨x,ay,a3⟩:=aP p;have j:=m.pl x a3;have w:=hE j;have aB:IntKind.i64.wrap ((k:Int)+1)=((k+1:Nat) :Int):=by rw[IntKind.wrap_i64];have:=m.len;omega
      have al:bO (.ad 45) (cQ s.pl) _=_:=dg ay;have aG:=fb ay;have ax:=xB x.op j.op;have am:=p3 s.aD.aJ m.aD.aJ F x.id j.id;have K:=BP s m x.op j.op;have heq:=Ho x.bl (fy (dA s.aD.aJ.l x.op)) j.bl (y4 j.op) j.len;rw[m0] at heq;have a4:=bu j.id;have O:=dV x.op;have aN:=bU x.bl;have aM:=bU (fy (dA s.aD.aJ.l x.op));have ak:=c4 x.id;have B:pq s (ft s.pl.l k)=(decide (x.aF<s.bA)&&(decide (eA x.op=0)&&(decide (x.id∉s.aD.aJ.l)&&decide (x.bl.l=dA s.aD.aJ.l x.op)))):=by rw[aG];rfl
      obtain⟨X,aj⟩:=ao (aZ x);rw[<-aj] at w al;obtain⟨aA,ag⟩:=ao (au x.op);obtain⟨bg,aC⟩:=ao (ar x.id);have f1:=w.len;have f2:=w.aF;have f3:=w.op;have f4:=w.id;have f5:=w.bl;rw[<-ag] at f3 ax K O;rw[<-aC] at f4 am a4 ak;rw[<-z] at K;have aE:X.take 45=X:=aL F;have f20:X[0]?=some (.i6 x.aF):=by rw[aj];rfl
      have f50:X[44]?=some (ai x.bl):=by rw[bI F,f5]
      have bh:aA.length=11:=by rw[ag];rfl
      have a0:=je f1;have az:∀ t:ae,(l++t)[0]?=some (.q 9 S):=fun t=>by rw[aV (a2 P)];exact P
      have I:∀ (t:ae) (h:0<(l++t).length),(l++t)[0]'h=.q 9 S:=fun t h=>(aK.1 (az t)).2
      simp[p,al,f1,aE,a0,I,o,H,f2];by_cases q1:s.bA<=x.aF
      ·simp[q1];exact aT (by rw[rb p (by rw[B,cC (show ¬ x.aF<s.bA by omega)];rfl)]) rfl
      ·simp[q1,f1,f3];refine av ax (by simp[aq,U.aw,O]) ?_;by_cases g:eA x.op=0
       ·simp[q1,g,I,o,a8,f1,f4];refine av am (by simp[aq,U.aw,aO,ak]) ?_;by_cases u:x.id∈s.aD.aJ.l
        ·simp[q1,g,u];exact aT (by rw[rb p (by rw[B,cC (show ¬ x.id∉s.aD.aJ.l by simpa using u)];simp)]) rfl
        ·simp[q1,g,u,f1,f5,I,o,a5,f3];refine av K (by simp[aq,U.aw,O,a7]) ?_;simp[q1,g,u];refine⟨f50,av heq (by simp[aq,aN,aM]) ?_⟩;by_cases G:x.bl.l=dA s.aD.aJ.l x.op
         ·simp[q1,g,u,G,aB];refine⟨F,V,V,V,V,by rw[<-z];exact az _,fun D aS=>?_⟩;by_cases e:D=k
          ·subst e;rw[B,bY (show x.aF<s.bA by omega),bY g,bY u,bY G];rfl
          ·exact ap D F
         ·simp[q1,g,u,G];exact aT (by rw[rb p (by rw[B,cC G];simp)]) rfl
       ·simp[q1,g];exact aT (by rw[rb p (by rw[B,cC g];simp)]) rfl
     ·simp[p];exact aT (by rw[LV aX fun D aS=>ap D F]) rfl
  ·simp[v];exact aT (by rw[rc (by rw[C,cC v];simp)]) rfl
 ·simp[h1];exact aT (by rw[rc (by rw[C,cC h1];simp)]) rfl
structure NF (s:a6) (k:Nat) (sgZ:aR) (l:ae) :Prop where
 fp:sgZ 1=.ptr 0 0 9
 jq:sgZ 3=.i6 k
 qX:l[0]?=some (.q 9 (bp s))
 jX:∀ j,j<k->pq s (ft s.pl.l j)=true
theorem Qe (s:a6) (o:dH s) :aY 25 [.ah (bp s)] (.i6 (fl s)):=by
 apply bc func25 [db 0 27++[[27,21]]];have P:=hR s;have aS:=k7 s.aD;have aR:aq (bS s.bN s.pl)=true:=by simp[bS,aq,U.aw,hx]
 have aN:=V5 s.aD o.aD;have aW:=VP s.bN s.pl o.pl (by have:=o.len;omega);have al:bx (.ad 45) (cQ s.pl)=_:=cd _;have bd:=o.aD.no;have B:q0 s=(decide (fK s.aD=0)&&(decide (cU s.bN s.pl.l=0)&&(decide (0<=s.bA)&&decide (s.bA<=1000000000)))):=rfl;have ag:=bU s.aD.aJ;obtain⟨S,G⟩:=ao (bp s);rw[<-G] at P ⊢;obtain⟨j,bf,a7,a5,bo,bs,bm,bj,bh,bq,aA,aB,I,bk,bi,br,bg⟩:=P;simp[j,a7];refine av aN (by simp[aq,U.aw,aS]) ?_;by_cases h1:fK s.aD=0
 ·simp[h1,j,a5];refine av aW (by simp[aq,U.aw,aR]) ?_;by_cases v:cU s.bN s.pl.l=0
  ·by_cases K:s.bA<0
   ·simp[h1,v,K,j,I];exact aT (by rw[rc (by rw[B,cC (show ¬ 0<=s.bA by omega)];simp)]) rfl
   ·by_cases T:1000000000<s.bA
    ·simp[h1,v,K,T,j,I];exact aT (by rw[rc (by rw[B,cC (show ¬ s.bA<=1000000000 by omega)];simp)]) rfl
    ·have aX:q0 s=true:=by rw[B,bY h1,bY v,bY (show 0<=s.bA by omega),bY (show s.bA<=1000000000 by omega)];rfl
     simp[h1,v,K,T,j,I];refine bz s.pl.l.length (NF s) ?_ ⟨V,V,by simp[G],fun C h=>F⟩;rintro k a8 l hk ⟨Q,R,D,ap⟩;obtain⟨a8,rfl⟩:=kb Q R;clear Q R;rw[<-G] at D;by_cases p:k<s.pl.l.length
     ·obtain⟨x,ay,a3⟩:=aP p;have m:=o.pl x a3;have w:=hE m;have aE:IntKind.i64.wrap ((k:Int)+1)=((k+1:Nat) :Int):=by rw[IntKind.wrap_i64];have:=o.len;omega
      have aj:bO (.ad 45) (cQ s.pl) _=_:=dg ay;have aM:=fb ay;have ax:=KE x.op m.op;have ak:=DC s.aD.aJ o.aD.aJ F x.id m.id;have am:=Qb s.aD.aJ o.aD.aJ F x.op m.op;have heq:=sG x.bl (fy (dA s.aD.aJ.l x.op)) m.bl (y4 m.op) m.len;rw[m0] at heq;have a4:=bu m.id;have O:=dV x.op;have aQ:=bU x.bl;have aO:=bU (fy (dA s.aD.aJ.l x.op));have Z:=c4 x.id;have z:pq s (ft s.pl.l k)=(decide (x.aF<s.bA)&&(decide (eA x.op=0)&&(decide (x.id∉s.aD.aJ.l)&&decide (x.bl.l=dA s.aD.aJ.l x.op)))):=by rw[aM];rfl
      obtain⟨X,Y⟩:=ao (aZ x);rw[<-Y] at w aj;obtain⟨aC,W⟩:=ao (au x.op);obtain⟨a9,aG⟩:=ao (ar x.id);have f1:=w.len;have f2:=w.aF;have f3:=w.op;have f4:=w.id;have f5:=w.bl;rw[<-W] at f3 ax am O;rw[<-aG] at f4 ak a4 Z;have aH:X.take 45=X:=aL F;have f20:X[0]?=some (.i6 x.aF):=by rw[Y];rfl
      have f50:X[44]?=some (ai x.bl):=by rw[bI F,f5]
      have bb:aC.length=11:=by rw[W];rfl
      have a0:=je f1;have az:∀ t:ae,(l++t)[0]?=some (.q 9 S):=fun t=>by rw[aV (a2 D)];exact D
      have J:∀ (t:ae) (h:0<(l++t).length),(l++t)[0]'h=.q 9 S:=fun t h=>(aK.1 (az t)).2
      simp[D,j,aB,al,p,aj,f1,aH,a0,J,I,f2];by_cases q1:s.bA<=x.aF
      ·simp[q1];exact aT (by rw[rb p (by rw[z,cC (show ¬ x.aF<s.bA by omega)];rfl)]) rfl
      ·simp[q1,f1,f3];refine av ax (by simp[aq,U.aw,O]) ?_;by_cases g:eA x.op=0
       ·simp[q1,g,J,j,aA,f1,f4];refine av ak (by simp[aq,U.aw,ag,Z]) ?_;by_cases u:x.id∈s.aD.aJ.l
        ·simp[q1,g,u];exact aT (by rw[rb p (by rw[z,cC (show ¬ x.id∉s.aD.aJ.l by simpa using u)];simp)]) rfl
        ·simp[q1,g,u,f1,f5,J,j,aA,f3];refine av am (by simp[aq,U.aw,O,ag]) ?_;simp[q1,g,u];refine⟨f50,av heq (by simp[aq,aQ,aO]) ?_⟩;by_cases H:x.bl.l=dA s.aD.aJ.l x.op
         ·simp[q1,g,u,H,aE];refine⟨F,V,V,by rw[<-G];exact az _,fun C aU=>?_⟩;by_cases e:C=k
          ·subst e;rw[z,bY (show x.aF<s.bA by omega),bY g,bY u,bY H];rfl
          ·exact ap C F
         ·simp[q1,g,u,H];exact aT (by rw[rb p (by rw[z,cC H];simp)]) rfl
       ·simp[q1,g];exact aT (by rw[rb p (by rw[z,cC g];simp)]) rfl
     ·simp[D,j,aB,al,p];exact aT (by rw[LV aX fun C aU=>ap C F]) rfl
  ·simp[v];exact aT (by rw[rc (by rw[B,cC v];simp)]) rfl
 ·simp[h1];exact aT (by rw[rc (by rw[B,cC h1];simp)]) rfl
open ca aN
def ef (s:a6) (j:b7) :Int:=
 if j.cN=0 then
  (if s.dj then 9 else if j.id∈s.aD.aJ.l\/j.id∈s.pl.l.map aB.id then 5
   else if dA s.aD.aJ.l j.op=[] then (if (s.aD.aJ.l.length:Int)=s.aD.cap then 8 else 1)
   else if (s.pl.l.length:Int)<s.bN then 6 else 7)
 else (u j.cN:Int)
theorem Qa (s:a6) (t:dH s) (aE:cU s.bN s.pl.l=0) (j:b7) (D:fv j) :aY 52 [.ah (bp s),.ah (dN j)] (.int .u8 (ef s j)):=by
 apply bc func52 [];have Q:=hR s;have J:=mK D;have ax:aq (bS s.bN s.pl)=true:=by simp[bS,aq,U.aw,hx]
 have az:bx (.ad 45) (cQ s.pl)=_:=cd _;have aA:bx (.ad 32) (ai s.aD.aJ)=_:=cd _;have aR:=t.aD.no;have ap:=bU s.aD.aJ;have C:=Za s.bN s.pl t.pl (by have:=t.len;omega) j.id D.id;have ay:yM s.bN s.pl.l j.id=.a1 [.bool (decide (j.id∈s.pl.l.map aB.id)),.i6 0]:=by unfold yM;rw[aj aE]
 rw[ay] at C;obtain⟨R,K⟩:=ao (decide (j.id∈s.pl.l.map aB.id));rw[<-K] at C;have P:=BP s t j.op D.op;have aC:bx (.ad 32) (ai (fy (dA s.aD.aJ.l j.op)))=some (.i6 ((dA s.aD.aJ.l j.op).length)):=by
  have:(fy (dA s.aD.aJ.l j.op)).l.length=(dA s.aD.aJ.l j.op).length:=by rw[m0]
  simp[ai,this]
 have W:=p3 s.aD.aJ t.aD.aJ F j.id D.id;have O:=c4 j.id;have X:=dV j.op;have Y:(u j.cN:Int)=0<->j.cN=0:=ka j.cN 0;obtain⟨aQ,am⟩:=ao (bp s);obtain⟨L,al⟩:=ao (dN j);obtain⟨aP,V⟩:=ao (au j.op);obtain⟨aO,T⟩:=ao (ar j.id);rw[<-am] at Q P ⊢;rw[<-al] at J ⊢;rw[<-T] at C W O;rw[<-V] at P X;obtain⟨q,aF,a8,aM,a4,a7,a2,a0,aZ,a5,ag,aN,a3,aK,aH,aL,aG⟩:=Q;obtain⟨v,aV,ae,Z,oA,aW,aX,aS,aU⟩:=J;rw[<-V] at Z;rw[<-T] at oA;simp[q,aM,v,oA];refine av C (by simp[aq,U.aw,ax,O]) ?_;simp[q,aF,v,Z];refine av P (by simp[aq,U.aw,aG,X]) ?_;simp[aC,v,ae];by_cases h1:j.cN=0
 ·have G:=Y.2 h1;have o:ef s j=(if s.dj then 9 else if j.id∈s.aD.aJ.l\/j.id∈s.pl.l.map aB.id then 5
   else if dA s.aD.aJ.l j.op=[] then (if (s.aD.aJ.l.length:Int)=s.aD.cap then 8 else 1)
   else if (s.pl.l.length:Int)<s.bN then 6 else 7):=by unfold ef;rw[aj h1]
  simp[G,q,aK];cases S:s.dj with
  | true=>
   simp;exact aT (by rw[o,aj S]) rfl
  | false=>
   have p:¬ s.dj=true:=by rw[S];simp
   by_cases w:j.id∈s.pl.l.map aB.id
   ·have I:R=true:=by rw[K,bY w]
    simp[I];exact aT (by rw[o,ak p,aj (.inr w)]) rfl
   ·have I:R=false:=by rw[K,cC w]
    simp[I,q,ag,v,oA];refine av W (by simp[aq,U.aw,ap,O]) ?_;by_cases B:j.id∈s.aD.aJ.l
    ·simp[B];exact aT (by rw[o,ak p,aj (.inl B)]) rfl
    ·have z:¬ (j.id∈s.aD.aJ.l\/j.id∈s.pl.l.map aB.id):=by rintro (h | h);exact B h;exact w h
     simp[B];by_cases m:dA s.aD.aJ.l j.op=[]
     ·have H:¬ 0<(dA s.aD.aJ.l j.op).length:=by rw[m];simp
      simp[m,q,ag,aH,aA];by_cases g:(s.aD.aJ.l.length:Int)=s.aD.cap
      ·simp[g];exact aT (by rw[o,ak p,ak z,aj m,aj g]) rfl
      ·simp[g];exact aT (by rw[o,ak p,ak z,aj m,ak g]) rfl
     ·have H:0<(dA s.aD.aJ.l j.op).length:=td.2 m;simp[H,q,aN,aL,az];by_cases g:(s.pl.l.length:Int)<s.bN
      ·simp[g];exact aT (by rw[o,ak p,ak z,ak m,aj g]) rfl
      ·simp[g,H];exact aT (by rw[o,ak p,ak z,ak m,ak g]) rfl
 ·have G:¬ (u j.cN:Int)=0:=fun h=>h1 (Y.1 h)
  simp[G,v,ae];exact aT (by unfold ef;rw[ak h1]) rfl
open ca aN
structure NB (s:dm) (k:Nat) (sgZ:aR) (L:ae) :Prop where
 fp:sgZ 1=.ptr 0 0 5
 iI:sgZ 2=.ptr 1 0 5
 Ci:sgZ 26=.int .i64 s.aS.al.l.length
 yK:sgZ 27=.int .i64 k
 z:L[1]?=some (.cells 5 [.int .i64 0,.af,.af,.int .i64 0,.af])
 st:∃ g,sgZ 25=g/\L[0]?=some (.cells 5 [.int .i64 s.cap,g,ai s.aS.cb,.int .i64 s.aS.b6,ai s.aJ])/\n2 s.aS.al k 2 g L
theorem P7 (s:dm) (w:kZ s) :aY 92 [.ah (cv s)] (.ah (cv s)):=by
 apply bc func92 [db 0 6++[[7],[6,2]]];have b8:=w.no;have aH:=bU s.aS.cb;have aK:=bU s.aJ;have bK:=hw s.aS.cb;have bM:=hw s.aJ;have a9:=lY s.aS.cb w.aS.cb w.aS.pI;have bd:=lY s.aJ w.aJ F;simp[cv];refine av bd (by simp[aq,aK]) ?_;simp[bM,ax];refine av a9 (by simp[aq,aH]) ?_;simp[bK,ax];refine GI s.aS.al (by have:=w.aS.ln;omega) fun az bV ei aR=>?_
 have bm:=aR.bx;simp[ei,ax,bm];refine bz s.aS.al.l.length (NB s) ?_ ⟨V,V,V,V,V,az,V,V,⟨?_⟩⟩
 ·rintro k m L hk ⟨D,G,I,J,z,az,H,T,X⟩;obtain⟨m,rfl⟩:=gx D G H I J;clear D G H I J;have a0:IntKind.i64.wrap ((k:Int)+1)=((k+1:Nat) :Int):=by rw[IntKind.wrap_i64];have:=w.aS.ln;omega
  by_cases v:k<s.aS.al.l.length
  ·rcases X.ex with ⟨aj,_⟩ | ⟨t,u,bP,bQ,rfl,aw,bR⟩
   ·rw[aj] at v;simp at v
   ·obtain⟨p,bt,bu⟩:=aP v;have Z:ds s.aS.al.l k=p:=dt bt;have P:=(w.aS.al p bu).1;have aL:=hO (lu (ps:=s.aS.al.l) (wk:=u) (k:=k));rw[pV] at aL;have ap:=sF (wk:=u) (k:=k) v;rw[ak F,Z] at ap;have aZ:((hi s.aS.al.l u k).flatten.drop (k*2)).take 2=bf p:=HH lu ap;have bb:=lY p.idsZ P.idsZ P.li;have a7:=bU p.idsZ;have bL:=hw p.idsZ;have aG:(bf p).length=2:=rfl;have bE:ax [U.af,.af] 0 (bf p)=bf p:=cI rfl;have bT:∀ (C:ae) (c:Nat) (b:am),L[c]?=some b->(L++C)[c]?=some b:=fun C c b O=>by rw[aV (a2 O)];exact O
    have a6:∀ h,(bf p)[1]'h=bF p.opsZ:=fun _=>rfl
    have bY:(bf p)[0]?=some (ai p.idsZ):=rfl;simp[v,aw,aZ,aG,bE,aL,a6];refine⟨F,?_⟩;refine BF p.opsZ P.ju fun w' C bN W=>?_
    have bo:=W.bx;have b9:=P.ju;simp[bo];obtain⟨FI,K⟩:=ao (L++am.cells 2 (bf p) ::C);have a4:L++[am.cells 2 (bf p)]++C=FI:=by rw[K];simp
    rw[a4] at W;rw[<-K];refine bz p.opsZ.l.length (fun q m B=>B=FI/\m 1=.ptr 0 0 5/\m 2=.ptr 1 0 5/\m 3=.int .i64 k/\m 4=.ptr L.length 0 2/\m 5=w'/\m 25=.ad 2 t 0 s.aS.al.l.length s.aS.al.l.length (s.aS.al.l.length*2)/\m 26=.int .i64 s.aS.al.l.length/\m 27=.int .i64 k/\m 36=.int .i64 p.opsZ.l.length/\m 37=.int .i64 q) ?_ ⟨rfl,V,V,V,V,V,V,V,V,V,V⟩;rintro q m B ca ⟨rfl,D,G,aB,aE,aF,H,I,J,aC,aD⟩;obtain⟨m,rfl⟩:=MD D G aB aE aF H I J aC aD;clear D G aB aE aF H I J aC aD;have a3:=cq (k:=q) F;by_cases Q:q<p.opsZ.l.length
    ·obtain⟨o,bq,bs⟩:=aP Q;rcases W with ⟨aj,_⟩ | ⟨b,bZ,b2,rfl,Y⟩
     ·rw[aj] at Q;simp at Q
     ·have aN:=P.opsZ o bs;have bg:=bU o.ay;have a8:=lY o.ay aN.idsZ aN.len;have z:∀ e∈p.opsZ.l.map au,e.length=11:=fun e bh=>by obtain⟨y,_,rfl⟩:=cy.1 bh;rfl
      have ag:(p.opsZ.l.map au)[q]?=some (au o):=by rw[bW,bq];rfl
      have bi:(p.opsZ.l.map au).flatten[q*11+1]?=some (ai o.ay):=lT z ag F;have bD:ax (p.opsZ.l.map au).flatten (q*11+1) [ai o.ay]=(p.opsZ.l.map au).flatten:=by
       rw[po z ag (show 1+[ai o.ay].length<=11 by simp),wT o,Eh ag]
      have mp:=hw o.ay;have b4:=v1 p.opsZ.l;have bG:=uO Y;simp[Q,Y,bi];refine av a8 (by simp[aq,bg]) ?_;simp[Q,Y,bD,mp,a3,bG];omega
    ·have bv:q=p.opsZ.l.length:=F;subst bv;have b5:=a2 aw;have R:∀ (c:Nat) (b:am),L[c]?=some b->B[c]?=some b:=fun c b O=>by rw[K,aV (a2 O)];exact O
     have bO:B[L.length]?=some (.cells 2 (bf p)):=by rw[K];simp
     have bA:ax (hi s.aS.al.l u k).flatten (k*2) [ai p.idsZ,w']=(hi s.aS.al.l (fun i=>if i=k then w' else u i) (k+1)).flatten:=by
      have t1:=po lu ap (j:=0) (vs:=[ai p.idsZ,w']) V;rw[nW,show ax (bf p) 0 [ai p.idsZ,w']=[ai p.idsZ,w'] from rfl] at t1;rw[t1,<-Z,K6 v]
     have a5:∀ h,(bf p)[0]'h=ai p.idsZ:=fun _=>rfl
     simp[R _ _ T,bO,aG,a5];refine av bb (by simp[aq,a7]) ?_;have b3:(hi s.aS.al.l (fun i=>if i=k then w' else u i) (k+1)).flatten.length=s.aS.al.l.length*2:=by rw[hO lu,pV]
     have bB:ax [U.af,.af] 0 [ai p.idsZ]=[ai p.idsZ,.af]:=rfl;have bC:ax [ai p.idsZ,U.af] 1 [w']=[ai p.idsZ,w']:=rfl;simp[R _ _ T,R _ _ aw,bB,bC,bL,bN,v,bA,a0];have b7:L.length<=B.length:=by rw[K];simp
     obtain⟨aT,S⟩:=ao (am.cells (s.aS.al.l.length*2) (hi s.aS.al.l (fun i=>if i=k then w' else u i) (k+1)).flatten);have ar:∀ (c:Nat) (b:am),c≠t->L[c]?=some b->(B.set t aT)[c]?=some b:=fun c b h1 g=>by
      rw[br (fun e=>h1 e.symm)];exact R c b g
     refine⟨F,V,V,V,V,by rw[<-S];exact ar _ _ F z,_,V,by rw[<-S];exact ar _ _ F T,⟨.inr ⟨t,fun i=>if i=k then w' else u i,bP,bQ,rfl,b1 F,fun i bj bk=>?_⟩⟩⟩;by_cases aM:i=k
     ·subst aM;simp only[if_true];rw[Z,<-S];refine (W.frame fun b h1 g=>?_).mono (by simp;omega);rw[br (by simp at h1;omega)]
     ·simp only[ak aM];rw[<-S];exact (bR i F bk).frame fun b h1 g=>by
       obtain⟨y,aO,_⟩:=aP g;rw[aO];exact ar b y F aO
  ·have bl:k=s.aS.al.l.length:=F;subst bl;have cc:=X.cells;have bI:=a2 z;have bS:∀ c:am,(L.set 1 c)[1]?=some c:=fun c=>b1 bI
   simp[T,z,ax,bS];have bw:=(X.frame (L':=L.set 1 (am.cells 5 [U.int .i64 s.cap,az,ai s.aS.cb,.int .i64 s.aS.b6,ai s.aJ])) fun b h1 g=>br F).rd;refine .ah _ _ rfl fun i c bX h1 g=>?_
   rcases i with _ | _ | _ | _ | _ | i
   ·simp[cv] at h1 g;subst h1 g;exact .same _ rfl
   ·simp[cv] at h1 g;subst h1 g;exact bw
   ·simp[cv] at h1 g;subst h1 g;exact .same _ aH
   ·simp[cv] at h1 g;subst h1 g;exact .same _ rfl
   ·simp[cv] at h1 g;subst h1 g;exact .same _ aK
   ·simp at h1
 ·rcases aR with ⟨bp,bH⟩ | ⟨t,aA,aU,aW,aX⟩
  ·exact .inl ⟨bp,bH⟩
  ·refine .inr ⟨t,fun _=>.af,by simp at aA;omega,aU,aW,?_,fun i bj=>F⟩;rw[K7];obtain⟨aQ,rfl⟩:∃ aQ,t=aQ+2:=⟨t - 2,by simp at aA;omega⟩
   simpa using aX
open ca aN
def ol (s:List B) :List UInt8:=s.map fun x=>UInt8.ofNat x.toNat
theorem G8:∀ {a b:List B},ol a=ol b->a=b
 | [],[],_=>rfl
 | [],_::_,h=>by simp[ol] at h
 | _::_,[],h=>by simp[ol] at h
 | x::a,y::b,h=>by
  simp only[ol,df,List.cons.injEq] at h;have h1:=ch UInt8.toNat h.1;simp only[FB] at h1;have g:=x.isLt;have j:=y.isLt;rw[G8 (a:=a) (b:=b) h.2,eO (x:=x) (y:=y) F]
theorem Qh (a b:List B) :(ol a=ol b)<->a=b:=⟨G8,fun h=>by rw[h]⟩
theorem G4:∀ a:List B,jQ (a.map a8)=some (ol a)
 | []=>rfl
 | x::a=>by
  simp only[df,jQ,G4 a,cz];simp[u,ol]
theorem G5 {l:ae} {b:Nat} {x:List B} (j:x.length=32) (h:l[b]?=some (.q 32 (ar x))) :pc l (.ad 1 b 0 32 32 32)=some (.str (ol x)):=by
 have m:=bu j;have g:cG l 1 (.ad 1 b 0 32 32 32)=some (x.map a8,32):=by
  have:ar x=x.map a8:=rfl;rw[<-this];simp[cG,h,m,aL]
 unfold pc;simp only[g,G4];rfl
theorem P8 {l:ae} {a b:Nat} {x y:List B} (j:x.length=32) (m:y.length=32) (h1:l[a]?=some (.q 32 (ar x))) (g:l[b]?=some (.q 32 (ar y))) {K:cA} (h:K (.bool (decide (x=y))) l) :
  cJ 90 [.ad 1 a 0 32 32 32,.ad 1 b 0 32 32 32] l K:=by apply cW func90 [];simp[G5 j h1,G5 m g,Qh];exact h
def fH (k:Nat) :List B:=List.replicate k 1#8++List.replicate (32 - k) 0#8
theorem zp {k:Nat} (h:k<=32) :(fH k).length=32:=by unfold fH;simp;omega
theorem Qi (x:List B) (h:x.length=32) {bi:Nat} {l:ae} {xs:aO} (m:∀ y∈xs,y.length=32) (h1:l[bi]?=some (.q 32 (ar x))) :
  tp 89 [.ptr bi 0 32] l xs (fun y=>decide (y=x)):=by
 intro y j o v D t;apply cW func89 [];have g:o[bi]?=some (.q 32 (ar x)):=by rw[v.2 _ (a2 h1)];exact h1
 have w:=a2 g;have p:∀ c:am,(o++[c])[bi]?=some (.q 32 (ar x)):=fun c=>by rw[aV w];exact g
 have z:=bu (m y j);have G:=bu h;have C:∀ b:Nat,dK (.arr 32 1) (.ptr b 0 32) none none none=some (.ad 1 b 0 32 32 32):=fun b=>uR F
 simp[z,C];refine P8 (m y j) h V (p _) ?_;simp;exact t _ ⟨V,fun b u=>aV u⟩
open ca aN
theorem Jk (k:Nat) :(fH k).count 1#8=k:=by unfold fH;rw[vc,List.count_replicate_self,List.count_replicate];simp
theorem T1 {a b:Nat} (h:fH a=fH b) :a=b:=by rw[<-Jk a,h,Jk]
theorem T0 {m:aO} (u:m.length<=32) {k:Nat} (hk:k<=32) (h:∀ j,j<k->fH j∈m) (g:fH k∈m) :k<32:=by
 refine Classical.byContradiction fun v=>?_
 have e:k=32:=F;subst e;have p:((List.range 33).map fH).Nodup:=by
  rw[List.Nodup,m9];exact (AV).imp fun q e=>q (T1 e)
 have:=wI p fun x t=>by
  obtain⟨j,o,rfl⟩:=cy.1 t;rw[g7] at o;by_cases e:j=32
  ·subst e;exact g
  ·exact h j F
 simp at this;omega
theorem T2 {k:Nat} (h:k<32) :ax (ar (fH k)) k [.int .u8 1]=ar (fH (k+1)):=by
 have g:k<(ar (fH k)).length:=by rw[bu (zp F)];exact h
 rw[nJ _ g];unfold ar fH;apply g5;intro i;by_cases e:k=i
 ·subst e;rw[b1 (by simpa [ar,fH] using g),bW,aV V];simp;rfl
 ·rw[br e,bW,bW];congr 1;by_cases h1:i<k
  ·rw[aV (by simp;omega),aV (by simp;omega)];simp[h1,show i<k+1 by omega]
  ·rw[et (by simp;omega),et (by simp;omega)];simp only[List.length_replicate];rw[AR,AR];by_cases j:i<32
   ·rw[aj F,aj F]
   ·rw[ak F,ak F]
theorem TZ {k:Nat} (h:k<32) :(ar (fH k))[k]?=some (.int .u8 0):=by unfold ar fH;rw[bW,et V];simp[show 0<32 - k by omega]
theorem Tz {c:Int} {l:List aB} (h:cU c l=0) :(mQ l).l.length<=32/\(allM l).length<=32:=by
 obtain⟨h1,g⟩:=oK h;have j:=((pr l).1 g).1;have o:=OA (n:=4) fun s m=>TC (j s m)
 have p:=Ty l;have:l.length<=8:=F;omega
structure NI (s:a6) (m:bV) (k:Nat) (sgZ:aR) (L:ae) :Prop where
 fp:sgZ 1=.ptr 0 0 9
 iI:sgZ 2=.ptr 1 0 9
 jq:sgZ 3=.ptr 2 0 32
 kz:sgZ 4=ai m
 nw:sgZ 6=.i6 k
 qX:L[0]?=some (.q 9 (bp s))
 nE:L[1]?=some (.q 9 [.i6 0,.af,.af,.i6 0,.af,.i6 0,.af,.i6 0,.bool false])
 kJ:L[2]?=some (.q 32 (ar (fH k)))
 hm:∀ j,j<k->fH j∈m.l
def dP (s:a6) :a6:=⟨s.aD,s.bN,dZ s.pl.l,s.bA,s.dj⟩
theorem BQ (s:a6) (o:dH s) (j:cU s.bN s.pl.l=0) :aY 46 [.ah (bp s)] (.ah (bp (dP s))):=by
 apply bc func46 [];have W:=hR s;have aX:=k7 s.aD;have au:aq (bS s.bN s.pl)=true:=by simp[bS,aq,U.aw,hx]
 obtain⟨az,bv⟩:=Tz j;have bt:=o.len;have I:=Ze s.bN s.pl o.pl F F;rw[show zf s.bN s.pl.l=.a1 [ai (mQ s.pl.l),.i6 0] by unfold zf;rw[aj j]] at I;have H:cT (mQ s.pl.l):=fun y K=>by
  obtain⟨x,J,bb⟩:=(I5 _ _).1 K;exact (o.pl x J).bl y bb
 obtain⟨p,aB⟩:=ao (mQ s.pl.l);rw[<-aB] at I H az;have a0:fR prog 89=true:=bg;obtain⟨z,h⟩:=ao (bp s);rw[<-h] at W ⊢;obtain⟨aK,bB,bR,aM,bK,bP,bH,bF,bD,bM,bL,bQ,bI,bG,bE,bO,bC⟩:=W;have bd:ax (bT 32 (.int .u8 0)) 0 (bT 32 (.int .u8 0))=ar (fH 0):=rfl;have bf:(bT 32 (.int .u8 0) :ag).length=32:=rfl;have bx:(bT 32 (.int .u8 0) :ag)=ar (fH 0):=rfl;simp[aK,aM,bd,bf];refine av I (by simp[aq,U.aw,au]) ?_;simp;refine bz 32 (NI s p) ?_ ⟨V,V,V,V,V,by simp[h],V,V,fun O a4=>F⟩;rintro k bj L hk ⟨X,Y,Z,ae,ak,P,aH,R,aA⟩;obtain⟨bj,rfl⟩:=gx X Y Z ae ak;clear X Y Z ae ak;rw[<-h] at P;simp;refine ym p H F a0 (Qi (fH k) (zp hk) H R) fun g D=>?_
 have v:g[0]?=some (.q 9 z):=by rw[D.2 _ (a2 P)];exact P
 have q1:g[1]?=some (.q 9 [.i6 0,.af,.af,.i6 0,.af,.i6 0,.af,.i6 0,.bool false]):=by rw[D.2 _ (a2 aH)];exact aH
 have w:g[2]?=some (.q 32 (ar (fH k))):=by rw[D.2 _ (a2 R)];exact R
 have aC:=bu (zp hk);by_cases m:fH k∈p.l
 ·have G:=T0 az hk aA m;have t:p.l.any (fun y=>decide (y=fH k))=true:=ta.2 ⟨_,m,V⟩;have a5:ct .rem .i64 (k:Int) .i64 32=some (.i6 k):=by
   have:(k:Int).tmod 32=k:=Int.tmod_eq_of_lt F F;simp[ct,this]
  have aQ:=cq (k:=k) F;have ap:=TZ G;have aE:=T2 G;obtain⟨N,aT⟩:=ao (ar (fH k));rw[<-aT] at w ap aE aC;simp[t,a5,w,ap,aQ,G];have a9:U.int .u8 (u (1#8:B))=.int .u8 1:=rfl;rw[a9,aE];have bi:∀ c:am,(g.set 2 c)[2]?=some c:=fun c=>b1 (a2 w)
  refine⟨F,F,V,V,V,V,V,?_,?_,bi _,fun O a4=>?_⟩
  ·rw[br F,<-h];exact v
  ·rw[br F];exact q1
  ·by_cases e:O=k
   ·subst e;exact m
   ·exact aA O F
 ·have t:p.l.any (fun y=>decide (y=fH k))=false:=by
   rw[AM];intro y K;simp;intro e;exact m (e ▸ K)
  have C:=Y6 s.bN s.pl o.pl F (fH k) (zp hk);obtain⟨aP,bq⟩:=PS (x:=fH k) ((pr s.pl.l).1 (oK j).2).1 fun x J a3=>m (by rw[aB];exact (I5 _ _).2 ⟨x,J,a3⟩)
  rw[PQ,aj j,aj j,aj j,aP] at C;have aU:(ar (fH k)).take 32=ar (fH k):=aL F;have aZ:=c4 (fH k);have aR:bS s.bN (dZ s.pl.l)=[.i6 s.bN,cQ (dZ s.pl.l)]:=rfl;rw[aR] at C;have aW:=P7 s.aD o.aD;have bs:z=[.i6 s.aD.cap,e9 s.aD.aS.al,ai s.aD.aS.cb,.i6 s.aD.aS.b6,ai s.aD.aJ,.i6 s.bN,cQ s.pl,.i6 s.bA,.bool s.dj]:=h;simp[t,v,w,aK,aM,aC,aU];refine av C (by simp[aq,U.aw,au,aZ]) ?_;have aF:ax z 5 [U.i6 s.bN,cQ (dZ s.pl.l)]=bp (dP s):=by rw[h];rfl
  have aO:∀ c:am,(g.set 0 c)[0]?=some c:=fun c=>b1 (a2 v)
  have bm:∀ c:am,(g.set 0 c)[1]?=some (.q 9 [.i6 0,.af,.af,.i6 0,.af,.i6 0,.af,.i6 0,.bool false]):=fun c=>by rw[br F];exact q1
  have Q:=hR (dP s);have ay:=jp (dP s);have aG:ax (bp (dP s)) 0 (cv s.aD)=bp (dP s):=rfl;have a8:(dP s).aD=s.aD:=rfl;obtain⟨T,aV⟩:=ao (bp (dP s));rw[<-aV] at aF aG ay Q ⊢;obtain⟨S,bk,aN,_⟩:=Q;rw[a8] at aN;have a7:(cv s.aD).length=5:=rfl;have bw:(cv s.aD).take 5=cv s.aD:=rfl;simp[t,v,aF,aO,S,aN];refine av aW (by simp[aq,U.aw,aX]) ?_;have bh:ax [U.i6 0,.af,.af,.i6 0,.af,.i6 0,.af,.i6 0,.bool false] 0 T=T:=cI (by rw[S];rfl);have bo:∀ c d:am,((g.set 0 c).set 1 d)[1]?=some d:=fun c d=>b1 (by simpa using a2 q1)
  simp[aO,bm,bo,S,bk,a7,aG,bh];exact .same _ ay
end Op
theorem Pp {P:bj} {G:Nat->U} {f:cf} {args:ag} {h h' ou:aH} {cs cs' : ag} (C:jM P G f args h (.a1 cs) h') (wk:iF h' ou) (H:cs'.length=cs.length)
  (J:∀ (j:Nat) (c c' : U),cs[j]?=some c->cs'[j]?=some c'->iE h' ou c c') :jM P G f args h (.a1 cs') ou:=by
 intro u B w muZ o rel z I K;refine (C u B w muZ o rel z I K).mono ?_;rintro e w' ⟨m,muZ',rfl,v,t,g⟩;refine⟨m,muZ',rfl,v.trans (wk.ext w' muZ'),wk.rel t,?_⟩;cases g with
 | a1 _ o O g=>
  refine .a1 cs' o F fun j c' m p D=>?_
  have q:j<cs.length:=by rw[<-H];exact (aK.1 p).1
  exact wk.kT t (J j cs[j] c' (bI q) p) (g j cs[j] m (bI q) D)
theorem Pm {P:bj} {G:Nat->U} (u:P.follows .mixedOrders=true) (o:∀ g,(G g).aw=true) {f:cf} {args:ag} {l:ae} {K:cA}
  (h:fY P G f args l (c:=⟨fun r l'=>∃ cs cs' m,r=.a1 cs/\iF (aX l') (aX m)/\cs'.length=cs.length/\(∀ (j:Nat) (c c' : U),cs[j]?=some c->cs'[j]?=some c'->iE (aX l') (aX m) c c')/\l.length<=m.length/\K (.a1 cs') m⟩)) :fY P G f args l (c:=⟨K⟩):=by obtain⟨r,l',p,z,cs,cs',m,rfl,w,q,v,t,hk⟩:=h;exact⟨.a1 cs',m,.ext (Pp (sM u o p) w q v),t,hk⟩
namespace Op.aN
open ca Op
structure NJ (c:Int) (s:fg) (x:List B) (gQ:Nat) (l0:ae) (k:Nat) (gT:U) (l:ae) :Prop where
 qX:l[gQ]?=some (.q 2 (bS c s))
 nE:l[gQ+1]?=some (.q 32 (ar x))
 kJ:l[gQ+2]?=some (.q 2 [.i6 0,.af])
 ex:∃ g h j,l[gQ+3]?=some (.q 2 [.i6 c,g])/\aM 45 l gT h ((cM x (s.l.take k)).map aZ)/\aM 45 l g j ((cK x (s.l.take k)).map aZ)/\(gT=.af\/gQ+4<=h)/\(g=.af\/gQ+4<=j)/\(gT=.af\/g=.af\/h≠j) ∧
  bt gT=(cM x (s.l.take k)).isEmpty/\bt g=(cK x (s.l.take k)).isEmpty
 len:gQ+4<=l.length
 Cf:∀ b,b<gQ->l[b]?=l0[b]?
structure NK (c:Int) (s:fg) (x:List B) (gQ:Nat) (l0:ae) (k:Nat) (sgZ:aR) (l:ae) :Prop where
 iI:sgZ 2=.ptr gQ 0 2
 jq:sgZ 3=.ptr (gQ+1) 0 32
 kz:sgZ 4=.ptr (gQ+2) 0 2
 oo:sgZ 8=.ptr (gQ+3) 0 2
 HT:sgZ 22=cQ s
 HU:sgZ 23=.i6 s.l.length
 Rz:sgZ 24=.i6 k
 h:∃ gT,sgZ 9=gT/\NJ c s x gQ l0 k gT l
theorem Y7 (c:Int) (s:fg) (bp:gF s.l) (bW:s.l.length<=1000000) (x:List B) (bw:x.length=32) (bG:cU c s.l=0) {l0:ae} {K:cA}
  (az:∀ C u t v l',l0.length<=l'.length->(∀ b,b<l0.length->l'[b]?=l0[b]?)->aM 45 l' C t ((cM x s.l).map aZ)->aM 45 l' u v ((cK x s.l).map aZ)->(C=.af\/l0.length<=t)->(u=.af\/l0.length<=v)->(C=.af\/u=.af\/t≠v)->bt C=(cM x s.l).isEmpty->bt u=(cK x s.l).isEmpty->K (.a1 [.ah [.i6 c,u],C,.i6 0]) l') :
  cJ 91 [.ah (bS c s),.ah (ar x)] l0 K:=by
 apply cW func91 [];have b3:bx (.ad 45) (cQ s)=_:=cd _;have bQ:=hx s;have ck:=bu bw;have bM:=u3 c s bp bW;have bN:aq [U.ah (bS c s)]=true:=by simp[bS,aq,U.aw,bQ]
 simp[bS,ck];refine av bM bN ?_;simp[bG,b3];obtain⟨j,R⟩:=ao (l0.length);rw[<-R] at az ⊢;refine bz s.l.length (NK c s x j l0) ?_ ⟨V,V,V,V,V,V,V,.af,V,⟨by rw[R];simp[bS],by rw[R];simp,by rw[R];simp,⟨.af,0,0,by rw[R];simp,.nil 0,.nil 0,.inl rfl,.inl rfl,.inl rfl,rfl,rfl⟩,by simp[R],fun b o=>aV F⟩⟩;rintro k cu l hk ⟨a4,a8,a9,bb,a5,a6,a7,C,bc,hH⟩;obtain⟨cu,rfl⟩:=As a4 a8 a9 bb bc a5 a6 a7;clear a4 a8 a9 bb bc a5 a6 a7;simp;refine gp (fun h=>?_) (fun h=>?_)
 ·simp only[bC] at h;obtain⟨y,aT,cl⟩:=aP (l:=s.l) (k:=k) F;have S:=bp y cl;have bf:=hE S;have cc:=Ez (x:=x) S;have aA:=hE cc;have a3:=cq (k:=k) F;have bk:bO (.ad 45) (cQ s) _=_:=dg aT;have aS:=Ac S.id;obtain⟨aX,aE,aF,⟨u,t,v,ay,au,J,d1,d2,d3,aC,aD⟩,b4,aB⟩:=hH;obtain⟨n,aQ⟩:=ao (l.length);have bv:∀ K:cA,(∀ w l',b9 32 ar (l++[am.q 45 (aZ y)]) l' w y.bl.l y.bl.isNone->K (.ah (iy y w)) l')->cJ 101 [.ah (aZ y)] (l++[am.q 45 (aZ y)]) K:=fun K az=>EM y S az
  obtain⟨P,bK⟩:=ao (aZ y);rw[<-bK] at bf bk aS bv;have f1:=bf.len;have cg:=je f1;simp[bk,f1,cg,aL,<-aQ];refine bv _ fun w aW z=>?_
  have bX:=z.le;have b5:(l++[am.q 45 P]).length=n+1:=by rw[aQ];simp
  rw[b5] at bX;have cn:aW[n]?=some (.q 45 P):=by rw[z.same n F,aQ];simp
  have aH:=aS w;have aJ:(iy y w).length=45:=by rw[<-aH,nJ w F,kj,f1]
  have bg:∀ h:44<(iy y w).length,(iy y w)[44]'h=w:=fun h=>by
   have:(iy y w)[44]?=some w:=by rw[<-aH,nJ w F,b1 F]
   exact (aK.1 this).2
  have bj:∀ m:bV,m=lz x y.bl->ax (iy y w) 44 [ai m]=aZ (er x y):=fun m Z=>by
   rw[<-aH,LP P 44 _ _ F,aS (ai m),Z];rfl
  obtain⟨lL,bI⟩:=ao (iy y w);rw[<-bI] at aJ bg bj ⊢;have ch:ax P 0 lL=lL:=cI (by rw[aJ,f1]);have cr:∀ c:am,(aW.set n c)[n]?=some c:=fun c=>b1 F
  simp[cn,aJ,ch,cr,bg]
  -- the struck idsZ
  have cb:b9 32 ar ((l++[am.q 45 P]).set n (.q 45 lL)) (aW.set n (.q 45 lL)) w y.bl.l y.bl.isNone:=by
   obtain⟨cm,H,cw,bD,a2,bE⟩:=z;refine⟨cm,H.c6 (a2.imp id fun h=>by rw[br F]),by simp;omega,fun b o=>?_,a2.imp id V,bE⟩;rw[kj] at o;by_cases bL:b=n
   ·rw[bL,b1 F,b1 F]
   ·rw[br F,br F];exact bD b o
  have bh:∀ b,b<n->((l++[am.q 45 P]).set n (.q 45 lL))[b]?=l[b]?:=fun b o=>by rw[br F,aV F]
  refine Hb cb S.bl S.len x bw (bi:=j+1) (by rw[bh (j+1) F];exact aE) fun m ap bZ bs b6 b7=>?_
  have Z:=L4 b6 b7;have bH:n+1<=ap.length:=by simp at bZ;omega
  have ce:ap[n]?=some (.q 45 lL):=by rw[bs n (by simp;omega),b1 F]
  have cf:∀ b,b<n->ap[b]?=l[b]?:=fun b o=>by rw[bs b (by simp;omega)];exact bh b o
  have b8:(ai m).cells=some [ai m]:=by cases m<;>rfl
  have bd:=bj m Z;have ct:∀ c:am,(ap.set n c)[n]?=some c:=fun c=>b1 F
  have aU:∀ h:44<(aZ (er x y)).length,(aZ (er x y))[44]'h=ai m:=fun h=>by rw[aA.bl h,Z];rfl
  have bo:bx (.ad 32) (ai m)=_:=cd _;have al:=aA.len;obtain⟨O,Y⟩:=ao (ap.set n (.q 45 (aZ (er x y))));have t5:n+1<=O.length:=by rw[Y];simpa using bH
  have t0:∀ b,b<n->O[b]?=l[b]?:=fun b o=>by rw[Y,br F];exact cf b o
  have t1:O[n]?=some (.q 45 (aZ (er x y))):=by rw[Y];exact ct _
  have aY:aM 45 O C t ((cM x (s.l.take k)).map aZ):=au.c6 (by
   rcases au.lt with h | h
   ·exact .inl h
   ·exact .inr (t0 t F))
  have a0:aM 45 O u v ((cK x (s.l.take k)).map aZ):=J.c6 (by
   rcases J.lt with h | h
   ·exact .inl h
   ·exact .inr (t0 v F))
  have bR:(cM x (s.l.take k)).length<=1000000:=by
   unfold cM;refine dL (ie _ _) ?_;rw[cx,cO];omega
  have ca:(cK x (s.l.take k)).length<=1000000:=by
   unfold cK;refine dL (ie _ _) ?_;rw[cx,cO];omega
  have T:=Ae (p:=gone) (f:=er x) aT;have I:=Ae (p:=fun s=>!gone s) (f:=er x) aT;have Q:gone (er x y)=decide (m.l.length=0):=by
   have e:(er x y).bl=m:=Z.symm;unfold gone;rw[e];cases m.l<;>simp
  obtain⟨cv,aN⟩:=ao (aZ (er x y));simp only[<-aN] at bd aU al t1 Y;simp[ce,b8,bd];rw[<-Y];by_cases ag:m.l.length=0
  ·rw[ag,bY rfl] at Q;rw[Q,aj rfl] at T;rw[Q] at I;simp only[xN,jJ,if_false,eT] at I;obtain⟨W,dp,G,X,H,bF,eg,ee,aG⟩:=tA aY aA.len bR;rw[<-aN] at X;have aR:=je al;simp[t1,al,aU,bo,ag,aR,aL,X];refine b2.bq ?_;have D:∀ b,b<j+4->G[b]?=l[b]?:=fun b o=>by rw[eg b F (d1.imp id fun h=>F)];exact t0 b F
   have aO:=a0.lt;have bB:aM 45 G u v ((cK x (s.l.take k)).map aZ):=a0.c6 (by
    rcases aO with h | h
    ·exact .inl h
    ·rcases d3 with g | g | g
     ·exact .inr (eg v h (.inl g))
     ·exact .inl g
     ·exact .inr (eg v h (.inr fun e=>g e.symm)))
   simp[a3];refine⟨F,V,V,V,V,V,V,V,W,V,⟨by rw[D j F];exact aX,by rw[D (j+1) F];exact aE,by rw[D (j+2) F];exact aF,⟨u,dp,v,by rw[D (j+3) F];exact ay,?_,?_,.inr ?_,d2,?_,?_,?_⟩,F,fun b o=>by rw[D b F];exact aB b o⟩⟩
   ·show aM 45 G W dp ((cM x (s.l.take (k+1))).map aZ);unfold cM at H ⊢;rw[T];exact H
   ·show aM 45 G u v ((cK x (s.l.take (k+1))).map aZ);unfold cK at bB ⊢;rw[I];exact bB
   ·rcases ee with h | ⟨h,h'⟩
    ·omega
    ·rw[h'];exact d1.resolve_left h
   ·right;rcases d3 with g | g | g
    ·rcases aO with z | z
     ·exact .inl z
     ·rcases ee with h | ⟨h,_⟩
      ·exact .inr F
      ·exact bP g h
    ·exact .inl g
    ·rcases aO with z | z
     ·exact .inl z
     ·rcases ee with h | ⟨_,h'⟩
      ·exact .inr F
      ·exact .inr (by rw[h'];exact g)
   ·rw[aG];unfold cM;rw[T];simp
   ·rw[aD];unfold cK;rw[I]
  ·rw[cC ag] at Q;rw[Q,ak V,eT] at T;rw[Q] at I;simp only[s9,if_true] at I;obtain⟨W,dp,G,X,H,bF,eg,ee,aG⟩:=tA a0 aA.len ca;rw[<-aN] at X;have aR:=je al;have t3:O[j+3]?=some (.q 2 [.i6 c,u]):=by rw[t0 (j+3) F];exact ay
   have cj:=J.cells;have ci:=H.cells;have cy:¬ m.l=[]:=fun h=>ag (by rw[h];rfl)
   simp[t1,t3,al,aU,bo,ag,aR,aL,X];refine b2.bq ?_;have D:∀ b,b<j+4->G[b]?=l[b]?:=fun b o=>by rw[eg b F (d2.imp id fun h=>F)];exact t0 b F
   have cp:G[j+3]?=some (.q 2 [.i6 c,u]):=by rw[D (j+3) F];exact ay
   have bm:=aY.lt;have bT:j+4<=dp:=by
    rcases ee with h | ⟨h,h'⟩
    ·omega
    ·rw[h'];exact d2.resolve_left h
   have bA:aM 45 G C t ((cM x (s.l.take k)).map aZ):=aY.c6 (by
    rcases bm with h | h
    ·exact .inl h
    ·rcases d3 with g | g | g
     ·exact .inl g
     ·exact .inr (eg t h (.inl g))
     ·exact .inr (eg t h (.inr g)))
   simp[cp,ci,ax,a3];refine⟨F,V,V,V,V,V,V,V,C,V,⟨by rw[br F,D j F];exact aX,by rw[br F,D (j+1) F];exact aE,by rw[br F,D (j+2) F];exact aF,⟨W,t,dp,b1 F,?_,?_,d1,.inr bT,?_,?_,?_⟩,by simp;omega,fun b o=>by rw[br F,D b F];exact aB b o⟩⟩
   ·show aM 45 _ C t ((cM x (s.l.take (k+1))).map aZ);refine (show aM 45 G C t ((cM x (s.l.take (k+1))).map aZ) from ?_).c6 (d1.imp id fun h=>by rw[br F]);unfold cM at bA ⊢;rw[T];exact bA
   ·show aM 45 _ W dp ((cK x (s.l.take (k+1))).map aZ);refine (show aM 45 G W dp ((cK x (s.l.take (k+1))).map aZ) from ?_).c6 (.inr (by rw[br F]));unfold cK at H ⊢;rw[I];exact H
   ·rcases bm with z | z
    ·exact .inl z
    ·rcases ee with h | ⟨h,h'⟩
     ·exact .inr (.inr F)
     ·rcases d3 with g | g | g
      ·exact .inl g
      ·exact bP g h
      ·exact .inr (.inr (by rw[h'];exact g))
   ·rw[aC];unfold cM;rw[T]
   ·rw[aG];unfold cK;rw[I];simp
 ·simp[h];have bU:k=s.l.length:=by simp at h;omega
  obtain⟨aX,aE,aF,⟨u,t,v,ay,au,J,d1,d2,d3,aC,aD⟩,b4,aB⟩:=hH;rw[bU,fC] at au J aC aD;have cs:∀ c:am,(l.set (j+2) c)[j+2]?=some c:=fun c=>b1 F
  have cj:=J.cells;simp[aF,ay,cs,ax];exact az C u t v _ (by simp;omega) (fun b o=>by rw[br F];exact aB b o) (au.c6 (d1.imp id fun h=>by rw[br F])) (J.c6 (d2.imp id fun h=>by rw[br F])) (d1.imp id fun h=>F) (d2.imp id fun h=>F) d3 aC aD
theorem MT (c:Int) (s:fg) (G:gF s.l) (D:s.l.length<=1000000) (x:List B) (H:x.length=32) (t:cU c s.l=0) {l0:ae} {K:cA}
  (u:∀ v j l',l0.length<=l'.length->(∀ b,b<l0.length->l'[b]?=l0[b]?)->aM 45 l' v j ((cM x s.l).map aZ)->(v=.af\/l0.length<=j)->K (.a1 [.ah (bS c (dZ (cK x s.l))),v,.i6 0]) l') :
  cJ 91 [.ah (bS c s),.ah (ar x)] l0 K:=by
 refine Pm checked.mixed ev (Y7 c s G D x H t fun p S m Q l' P C J O d1 d2 d3 R I=>?_);obtain⟨o,w,r,e,f⟩:=wX (dZ (cK x s.l)) O (by rw[I,ED]) (gJ _);refine⟨_,[.ah (bS c (dZ (cK x s.l))),p,.i6 0],o,rfl,w,rfl,fun i a q h1 g=>?_,F,u p m o F (fun b z=>?_) (J.c6 ?_) d1⟩
 ·rcases i with _ | _ | _ | i
  ·simp at h1 g;subst h1 g;refine .ah _ _ rfl fun i a q h1 g=>?_
   rcases i with _ | _ | i
   ·simp[bS] at h1 g;subst h1 g;exact .same _
   ·simp[bS] at h1 g;subst h1 g;exact r
   ·simp at h1
  ·simp at h1 g;subst h1 g;exact .same _
  ·simp at h1 g;subst h1 g;exact .same _
  ·simp at h1
 ·rw[f b (d2.imp id fun h=>F)];exact C b z
 ·rcases d3 with h | h | h
  ·exact .inl h
  ·exact .inr (f m (.inl h))
  ·exact .inr (f m (.inr h))
end Op.aN
namespace Op.aN
open ca Op
def A9 (g:cf) (cap:ag) (j:Nat) (l0:ae) (xs:List aB) (p:aB->Bool) :Prop:=
 ∀ x∈xs,∀ l,nd j l0 l->∀ m:cA,(∀ h,l.length<=h.length->(∀ b,b<l.length->h[b]?=l[b]?)->m (.bool (p x)) h)->cJ g ([]++[.ah (aZ x)]++cap) l m
structure On (l0:ae) (v:U) (g:cf) (cap:ag) (xs:List aB) (p:aB->Bool) (k:Nat) (sgZ:aR) (l:ae) :Prop where
 lf:sgZ 0=v
 fp:sgZ 1=.fn g [] cap
 v6:sgZ 7=.i6 xs.length
 oo:sgZ 8=.i6 k
 jX:∀ (j:Nat) (z:aB),j<k->xs[j]?=some z->p z=false
 le:l0.length<=l.length
 same:∀ b,b<l0.length->l[b]?=l0[b]?
theorem R4 {g:cf} {cap:ag} {j:Nat} {l:ae} {v:U} {xs:List aB} {p:aB->Bool} (ak:fR prog g=true) (S:aM 45 l v j (xs.map aZ)) (m:(∀ x∈xs,(aZ x).length=45)) (av:xs.length<=1000000) (aq:A9 g cap j l xs p)
  {K:cA} (P:∀ n l',(n=-1/\(∀ z∈xs,p z=false)\/∃ k:Nat,n=(k:Int)/\k<xs.length/\(∀ (i:Nat) (z:aB),i<k->xs[i]?=some z->p z=false)/\∀ y,xs[k]?=some y->p y=true)->l.length<=l'.length->(∀ b,b<l.length->l'[b]?=l[b]?)->K (.i6 n) l') :
  cJ 151 [v,.fn g [] cap] l K:=by
 apply cW func151 [];have R:=S.len;rw[cx] at R;simp[R];refine bz xs.length (On l v g cap xs p) ?_ ⟨V,V,V,V,fun j z h=>F,aI _,fun _ _=>rfl⟩;rintro k au W hk ⟨D,G,H,I,B,Q,u⟩;obtain⟨au,rfl⟩:=fc D G H I;clear D G H I;simp;refine gp (fun h=>?_) (fun h=>?_)
 ·simp only[bC] at h;obtain⟨y,C,ar⟩:=aP (l:=xs) (k:=k) F;have aj:=cq (k:=k) F;have ap:aM 45 W v j (xs.map aZ):=S.frame fun am=>u j am
  obtain⟨q,cs,ax,X,Y,Z,ai⟩:=ap.q.get (k:=.i64) (i:=k) (e:=aZ y) (by rw[bW,C];rfl);simp[X,Y,Z,ai];refine⟨ak,?_⟩;have:=aq y ar W ⟨Q,fun b o _=>u b o⟩;simp at this;refine this _ fun aw h1 J=>?_
  cases O:p y with
  | true=>
   simp;refine P _ _ (.inr ⟨k,rfl,h,fun i z t m=>B i z t m,fun w T=>?_⟩) F (fun b o=>by rw[J b F];exact u b o);rw[C] at T;obtain rfl:=cg T;exact O
  | false=>
   simp[aj];refine⟨F,V,V,V,V,fun i z t m=>?_,F,fun b o=>by rw[J b F];exact u b o⟩;by_cases al:i=k
   ·rw[al,C] at m;obtain rfl:=cg m;exact O
   ·exact B i z F m
 ·simp[h];have ao:k=xs.length:=by simp at h;omega
  refine P _ _ (.inl ⟨rfl,fun z m=>?_⟩) Q u;obtain⟨i,t⟩:=cj.1 m;exact B i z (by rw[ao];exact (aK.1 t).1) t
structure Oj (l0:ae) (v:U) (g:cf) (cap:ag) (j:Nat) (xs:List aB) (p:aB->Bool) (k:Nat) (sgZ:aR) (l:ae) :Prop where
 lf:sgZ 0=v
 fp:sgZ 1=.fn g [] cap
 nw:sgZ 6=.i6 k
 RT:nd j l0 l
 ex:∃ (q:Nat) (h:List aB),sgZ 5=.i6 (q:Int)/\aM 45 l v j (h.map aZ)/\h.length=xs.length/\(∀ x∈h,(aZ x).length=45)/\h.take q=(xs.take k).filter (fun t=>!p t)/\q<k/\∀ t,k<=t->h[t]?=xs[t]?
theorem Hz {p:aB->Bool} {l:List aB} (h:∀ z∈l,p z=false) :l.filter (fun t=>!p t)=l:=by rw[ry];intro a g;rw[h a g];rfl
theorem Q7 {p:aB->Bool} {l:List aB} {k:Nat} (h:∀ (i:Nat) (z:aB),i<k->l[i]?=some z->p z=false) :(l.take k).filter (fun t=>!p t)=l.take k:=by
 refine Hz fun z m=>?_
 obtain⟨i,g⟩:=cj.1 m;have j:=(aK.1 g).1;rw[cO] at j;rw[dU F] at g;exact h i z F g
theorem Q5 {p:aB->Bool} {l:List aB} {k:Nat} {y:aB} (h:l[k]?=some y) :(l.take (k+1)).filter (fun t=>!p t)=(l.take k).filter (fun t=>!p t)++(if p y then [] else [y]):=by rw[eU,h,lF];cases g:p y<;>simp[g]
theorem Qn {g:cf} {cap:ag} {j:Nat} {l:ae} {v:U} {xs:List aB} {p:aB->Bool} (aK:fR prog g=true) (G:aM 45 l v j (xs.map aZ)) (av:(∀ x∈xs,(aZ x).length=45)) (bh:xs.length<=1000000) (aO:A9 g cap j l xs p)
  {K:cA} (aJ:∀ r l',aM 45 l' r j ((xs.filter fun t=>!p t).map aZ)->nd j l l'->bt r=bt v->(r=v\/∃ q:Nat,dK (.ad 45) v none (some (.i6 (q:Int))) none=some r)->K r l') :
  cJ 108 [v,.fn g [] cap] l K:=by
 apply cW func108 [];have bd:=G.len;rw[cx] at bd;simp;refine R4 aK G av bh aO fun n bp a9 aN S=>?_
 rcases a9 with ⟨rfl,a6⟩ | ⟨w,rfl,al,bf,a7⟩
 ·simp;refine aJ _ _ ?_ ⟨aN,fun b m _=>S b m⟩ rfl (.inl rfl);rw[Hz a6];exact G.frame fun D=>S j D
 ·have bi:¬ ((w:Int)=-1):=F;have a3:=cq (k:=w) F;have bk:aM 45 bp v j (xs.map aZ):=G.frame fun D=>S j D
  have bm:bt v=false:=by
   cases bj:bt v with
   | false=>rfl
   | true=>
    have:=gC.1 bj;subst this;have:=G.q.pJ;rw[nU] at this;rw[this] at al;simp at al
  simp[bi,a3];refine bz (xs.length - (w+1)) (fun T=>Oj l v g cap j xs p (w+1+T)) ?_ ⟨V,V,V,⟨aN,fun b m _=>S b m⟩,w,xs,V,bk,rfl,av,?_,F,fun _ _=>rfl⟩
  ·rintro T bq O bw ⟨aD,aE,Y,u,q,B,aF,Q,ar,au,I,bl,R⟩;obtain⟨k,hk⟩:=ao (w+1+T);rw[show w+1+(T+1)=k+1 by omega];rw[<-hk] at Y I bl R;obtain⟨bq,rfl⟩:=fc aD aE aF Y;clear aD aE aF Y;have ap:=Q.len;rw[cx,ar] at ap;by_cases bg:k<xs.length
   ·have aq:(k:Int)<(xs.length:Int):=F;obtain⟨y,J,aW⟩:=aP (l:=xs) (k:=k) bg;have aU:=av y aW;have C:=aU;have aT:=je C;have aC:=cq (k:=k) F;have a4:=cq (k:=q) F;have bo:B[k]?=some y:=by rw[R k (aI _)];exact J
    obtain⟨bD,cs,bB,aY,a0,a2,aA⟩:=Q.q.get (k:=.i64) (i:=k) (e:=aZ y) (by rw[bW,bo];rfl);have bb:nd j l (O++[am.q 45 (aZ y)]):=⟨by have:=u.le;simp;omega,fun b m o=>by rw[aV (by have:=u.le;omega)];exact u.same b m o⟩
    have Z:=aO y aW _ bb;have P:=Q5 (p:=p) J;have aS:=fun (iL:ae) (h:aM 45 iL v j (B.map aZ))=>zz (X:=.ah (aZ y)) rfl h (fun t H=>au t H) (k:=q) (x:=y) F C
    simp at Z;obtain⟨aX,a5⟩:=ao (aZ y);rw[<-a5] at C aT aA Z aS;simp[ap,aq,aY,a0,a2,aA,C,aT,aL];refine⟨aK,?_⟩;refine Z _ fun iL h1 aG=>?_
    have bv:O.length<iL.length:=F;have aR:∀ b,b<O.length->iL[b]?=O[b]?:=fun b m=>by rw[aG b F,aV m]
    have aQ:aM 45 iL v j (B.map aZ):=Q.frame fun D=>aR j D
    have a8:iL[O.length]?=some (.q 45 aX):=by rw[aG _ V];simp
    have ai:nd j l iL:=⟨by have:=u.le;omega,fun b m o=>by rw[aR b (by have:=u.le;omega)];exact u.same b m o⟩
    cases aH:p y with
    | true=>
     rw[aH,aj rfl,eT] at P;simp[aC];refine⟨F,V,V,V,ai,q,B,V,aQ,ar,au,by rw[P];exact I,F,fun t H=>R t F⟩
    | false=>
     rw[aH,ak V] at P;obtain⟨bC,bA,aw,ax,W,ay,az⟩:=aS iL aQ;simp[a8,C,aw,ax,aC,a4,aL];refine⟨F,V,V,V,⟨by have:=ai.le;omega,fun b m o=>by rw[az b o];exact ai.same b m o⟩,q+1,B.set q y,V,W,by simp[ar],fun t H=>?_,?_,F,fun t H=>?_⟩
     ·rcases nV H with h | h
      ·exact au _ h
      ·rw[h];exact aU
     ·have bs:(B.take q).length=q:=by rw[cO];omega
      rw[rA,aj F,qe,bs,aL F,show q+1 - q=1 by omega,P,<-I];simp
     ·rw[br F];exact R t F
   ·have aq:¬ (k:Int)<(xs.length:Int):=F;have bc:k=xs.length:=F;obtain⟨bE,bx,r,aw,ax,W,ay,az,bF,bu⟩:=JM (z:=45) (zr:=m7) rfl Q (k:=q) F;simp[ap,aq,aw,ax,W];rw[bc,fC] at I;rw[I] at ay;exact aJ _ _ ay ⟨by have:=u.le;omega,fun b m o=>by rw[bu b o];exact u.same b m o⟩ (by rw[az,bm]) (.inr ⟨q,W⟩)
  ·rw[eU,lF,Q7 bf];obtain⟨y,J,_⟩:=aP (l:=xs) (k:=w) al;have:=a7 y J;rw[J];simp[this]
def iN (l:List aB) :Nat->aB
 | 0=>ft l 0
 | k+1=>if (ft l (k+1)).aF<(iN l k).aF then ft l (k+1) else iN l k
theorem wC {l:List aB}:∀ {k:Nat},k<l.length->iN l k∈l
 | 0,h=>by
  obtain⟨x,j,g⟩:=aP h;unfold iN;rw[fb j];exact g
 | k+1,h=>by
  unfold iN;split
  ·obtain⟨x,j,g⟩:=aP h;rw[fb j];exact g
  ·exact wC F
def xu (l:List aB) :Prop:=∀ s∈l,0<=s.aF/\s.aF<=1000000000
structure N1 (l0:ae) (v:U) (g:cf) (h j:Nat) (xs:List aB) (k:Nat) (sgZ:aR) (l:ae) :Prop where
 lf:sgZ 0=v
 fp:sgZ 1=.fn g [] []
 kz:sgZ 4=.ptr j 0 45
 kA:sgZ 5=.ptr h 0 45
 nw:sgZ 6=.i6 ((k+1:Nat) :Int)
 acQ:l[j]?=some (.q 45 m7)
 acR:l[h]?=some (.q 45 (aZ (iN xs k)))
 le:l0.length+2<=l.length
 same:∀ b,b<l0.length->l[b]?=l0[b]?
theorem Yj (y m:aB) (o:(aZ y).length=45) (g:(aZ m).length=45) (h1:0<=y.aF/\y.aF<=1000000000) (D:0<=m.aF/\m.aF<=1000000000) {l:ae} {K:cA} (v:∀ l',l.length<=l'.length->(∀ b,b<l.length->l'[b]?=l[b]?)->K (.i6 (y.aF - m.aF)) l') :
  cJ 107 [.ah (aZ y),.ah (aZ m)] l K:=by
 apply cW func107 [];have B:(aZ y)[0]?=some (.i6 y.aF):=rfl;have z:(aZ m)[0]?=some (.i6 m.aF):=rfl;have t:∀ h,(aZ y)[0]'h=.i6 y.aF:=fun _=>rfl
 have q:∀ h,(aZ m)[0]'h=.i6 m.aF:=fun _=>rfl
 have u:IntKind.i64.wrap (y.aF - m.aF)=y.aF - m.aF:=by rw[IntKind.wrap_i64];omega
 obtain⟨C,p⟩:=ao (aZ y);obtain⟨M,j⟩:=ao (aZ m);rw[<-p] at o B ⊢;rw[<-j] at g z ⊢;simp only[<-p] at t;simp only[<-j] at q;simp[o,g,t,q,u];exact v _ V fun b w=>aV w
theorem Tx {j:Nat} {l:ae} {v:U} {xs:List aB} (P:aM 45 l v j (xs.map aZ)) (G:∀ x∈xs,(aZ x).length=45) (aG:xu xs) (a6:xs≠[]) (bq:xs.length<=1000000)
  {K:cA} (t:∀ l',l.length<=l'.length->(∀ b,b<l.length->l'[b]?=l[b]?)->K (.ah (aZ (iN xs (xs.length - 1)))) l') :
  cJ 106 [v,.fn 107 [] []] l K:=by
 apply cW func106 [];have a2:fR prog 107=true:=bg;have C:=P.len;rw[cx] at C;have a9:0<xs.length:=td.2 a6;have h1:¬ ((xs.length:Int)<1):=F;have a7:aM 45 (l++[am.q 45 m7]) v j (xs.map aZ):=P.more _;obtain⟨AB,aJ,bd⟩:=aP a9;obtain⟨q,cs,bf,Y,Z,aQ,aR⟩:=a7.q.get (k:=.i64) (i:=0) (e:=aZ AB) (by rw[bW,aJ];rfl);have ay:=G AB bd;have bb:=je ay;change bO (.ad 45) v (.i6 (0:Int))=_ at Y;simp[m7] at Z;simp[C,h1,Y,Z,aQ,aR,ay,bb];obtain⟨bk,o⟩:=ao (l++[am.q 45 m7,am.q 45 (aZ AB)]);have a5:iN xs 0=AB:=fb aJ;unfold m7 at o;rw[<-o];refine bz (xs.length - 1) (N1 l v 107 (l.length+1) l.length xs) ?_ ⟨V,V,V,V,V,by rw[o];simp[m7],by rw[o,a5];simp,by rw[o];simp,fun b h=>by rw[o,aV h]⟩;rintro k bj W hk ⟨aq,ar,au,av,aw,X,p,bo,Q⟩;obtain⟨bj,rfl⟩:=gx aq ar au av aw;clear aq ar au av aw;have aD:aM 45 W v j (xs.map aZ):=P.frame fun J=>Q j J
 obtain⟨i,B⟩:=ao (k+1);rw[<-B];by_cases a4:i<xs.length
 ·obtain⟨y,T,aK⟩:=aP a4;have a0:=fb T;have z:=G y aK;have g:=G _ (wC (l:=xs) (k:=k) F);have bc:=aG y aK;have aH:=aG _ (wC (l:=xs) (k:=k) F);have al:=cq (k:=i) F;obtain⟨q,cs,bf,aS,aT,aU,ag⟩:=aD.q.get (k:=.i64) (i:=i) (e:=aZ y) (by rw[bW,T];rfl);have O:(i:Int)<(xs.length:Int):=F;obtain⟨m,aA⟩:=ao (iN xs k);have aC:iN xs i=if y.aF<m.aF then y else m:=by
   rw[aA,<-a0,B];rfl
  rw[<-aA] at p g aH;have S:=fun (K:cA) t=>Yj y m z g bc aH (l:=W) (K:=K) t
  have R:ax (aZ m) 0 (aZ y)=aZ y:=cI (by rw[g,z]);obtain⟨bl,H⟩:=ao (aZ y);obtain⟨M,w⟩:=ao (aZ m);rw[<-H] at z ag S R;rw[<-w] at g p S R;simp[C,O,aS,aT,aU,ag,p,g,aL];refine⟨a2,S _ fun u bp D=>?_⟩;have a8:aM 45 u v j (xs.map aZ):=aD.frame fun J=>D j J
  have aN:u[l.length]?=some (.q 45 m7):=by rw[D _ F];exact X
  have aO:u[l.length+1]?=some (.q 45 M):=by rw[D _ F];exact p
  have ap:∀ b,b<l.length->u[b]?=l[b]?:=fun b h=>by rw[D b F];exact Q b h
  obtain⟨bt,bm,bs,aW,aX,aY,ai⟩:=a8.q.get (k:=.i64) (i:=i) (e:=aZ y) (by rw[bW,T];rfl);rw[<-H] at ai;have bi:∀ c:am,(u.set (l.length+1) c)[l.length+1]?=some c:=fun c=>b1 F
  by_cases az:y.aF<m.aF
  ·have I:y.aF - m.aF<0:=F;simp[I,aW,aX,aY,ai,aO,z,R,al];refine⟨F,V,V,V,V,by simp[B],?_,?_,by simp;omega,fun b h=>?_⟩
   ·rw[br F];exact aN
   ·rw[bi,aC,aj az,H]
   ·rw[br F];exact ap b h
  ·have I:¬ y.aF - m.aF<0:=F;simp[I,al];exact⟨F,V,V,V,V,by simp[B],aN,by rw[aC,ak az,<-w];exact aO,F,ap⟩
 ·have O:¬ (i:Int)<(xs.length:Int):=F;have a3:k=xs.length - 1:=F;have g:=G _ (wC (l:=xs) (k:=k) F);have aE:=je g;rw[<-a3] at t;obtain⟨M,w⟩:=ao (aZ (iN xs k));rw[<-w] at g aE p t;unfold m7 at X;have bh:∀ c:am,(W.set l.length c)[l.length]?=some c:=fun c=>b1 F
  simp[C,O,X,p,g,aE,bh,aL];exact t _ (by simp;omega) fun b h=>by rw[br F];exact Q b h
end Op.aN
namespace Op
open ca aN
theorem Dj {alZ o:Type} {f:alZ->o} {l:List alZ} (h:l.Pairwise fun a b=>f a≠f b) {i k:Nat} {a b:alZ} (p:l[i]?=some a) (hk:l[k]?=some b) (e:f a=f b) :i=k:=by
 obtain⟨j,rfl⟩:=aK.1 p;obtain⟨m,rfl⟩:=aK.1 hk;rcases o1 i k with g | he | g
 ·exact bP e (kV.1 h i k j m g)
 ·exact he
 ·exact bP e.symm (kV.1 h k i m j g)
theorem su {s:ck} (h:e1 s) {p:aU} (g:p∈s.al.l) :p.idsZ.l.length<=(bD s).length:=by
 have W:=rn h;have h1:=wI (DY (W.bX p g)) (m:=(bG (bD s)).idsZ.l) fun y j=>Dm h g j
 rw[oW,cx] at h1;exact h1
theorem Vr {s:ck} (t:g9 s) (h:e1 s) {x:List B} (D:x.length=32) {o:aG} (I:dz o) (O:s.b6<60) :g9 (fx s x o):=by
 have W:=rn h;have R:=h.ke;have K:num x s.al.l.length<s.al.l.length:=by unfold num;exact iY _ (by have:=h.gZ;omega)
 obtain⟨p,J,w⟩:=aP K;have H:ds s.al.l (num x s.al.l.length)=p:=dt J;have C:(fx s x o).al.l=s.al.l.set (num x s.al.l.length) (ix p x o):=by
  show s.al.l.set _ (ix (ds s.al.l _) x o)=_;rw[H]
 have Q:=su h w;have z:=(t.al p w).1;have P:=W.len p w;have u:(ix p x o).idsZ.l=c2 p.idsZ.l (ec p.idsZ.l x) x:=rfl;have v:(ix p x o).opsZ.l=c2 p.opsZ.l (ec p.idsZ.l x) o:=rfl;refine⟨fun G j=>?_,?_,fun y g=>?_,?_⟩
 ·rw[C] at j;rcases nV j with j | rfl
  ·exact t.al G j
  ·refine⟨⟨fun y g=>?_,fun q m=>?_,?_,?_⟩,?_,?_⟩
   ·rw[u] at g;rcases mI.1 g with rfl | g
    ·exact D
    ·exact z.idsZ y g
   ·rw[v] at m;rcases mI.1 m with rfl | m
    ·exact I
    ·exact z.opsZ q m
   ·rw[u,js];omega
   ·rw[v,js];omega
   ·rw[u,js];omega
   ·rw[v,js];omega
 ·rw[C,kj];exact t.ln
 ·have F:y∈r9 s.cb.l x o:=g;unfold r9 at F;rcases mI.1 F with rfl | g
  ·exact D
  ·exact t.cb y (dy.1 g).1
 ·show (r9 s.cb.l x o).length<=_;have h1:s.cb.l.length<=(bD s).length:=by
   rw[<-h.tY];unfold eX il;refine dL (ie _ _) ?_;rw[oW,cx];exact aI _
  unfold r9;rw[js];have:=ie (fun y=>!decide (y∈o.ay.l)) s.cb.l;omega
theorem Jx {s:dm} (j:kZ s) (h:hJ s) {x:List B} (m:x.length=32) {o:aG} (p:dz o) :kZ (nC s x o):=by
 have v:=h.ke;have t:=h.tJ;have u:=h.le;refine⟨Vr j.aS h.aS m p F,fun y g=>?_,?_⟩
 ·have q:y∈s.aJ.l++[x]:=g;rcases fm.1 q with g | g
  ·exact j.aJ y g
  ·rw[fB.1 g];exact m
 ·show (s.aJ.l++[x]).length<=_;rw[cr];simp;omega
structure c7 where
 aF:Int
 cN:Int
 id:List B
def cP (r:c7) :ag:=.i6 r.aF::.int .u8 r.cN::ar r.id
def hP (s:a6) :Bool:=decide ((s.aD.aJ.l.length:Int)=s.aD.cap)
def gk (s:a6) (x:aB) :a6:=⟨nC s.aD (bE x.op) x.op,s.bN,dZ (aN.cK x.id s.pl.l),s.bA,s.dj⟩
def g1 (r:List aB) (x:aB) :List aB:=r.filter fun y=>!decide (y.aF=x.aF)
def de (r:List aB) :aB:=iN r (r.length - 1)
def fI:Nat->a6->List aB->List c7->a6 × List c7
 | 0,s,_,out=>(s,out)
 | n+1,s,r,out=>
  if r=[] then (s,out)
  else if hP s then fI n s (g1 r (de r)) (out++[⟨(de r).aF,8,(de r).id⟩])
  else fI n (gk s (de r)) (g1 r (de r)++aN.cM (de r).id s.pl.l) (out++[⟨(de r).aF,1,(de r).id⟩])
structure jj (s:a6) (r:List aB) :Prop where
 ok:dH s
 st:hJ s.aD
 pen:cU s.bN s.pl.l=0
 kB:∀ x∈s.pl.l,eA x.op=0/\x.id∉s.aD.aJ.l/\x.bl.l=dA s.aD.aJ.l x.op
 sp:gF r
 gr:∀ x∈r,eA x.op=0/\bE x.op=x.id/\x.id∉s.aD.aJ.l/\(∀ p∈x.op.ay.l,p∈s.aD.aJ.l)/\0<=x.aF/\x.aF<=1000000000
 BS:r.Pairwise fun a b=>a.id≠b.id
 yt:∀ x∈r,∀ y∈s.pl.l,x.id≠y.id
theorem v2 {r:List aB} (h:r≠[]) :de r∈r:=wC (by have:=td.2 h;omega)
theorem WC {r:List aB} {x:aB} (h:x∈r) :(g1 r x).length<r.length:=by
 unfold g1;refine Nat.lt_of_le_of_ne (ie _ _) fun e=>?_
 have:=List.length_filter_eq_length_iff.1 e x h;simp at this
theorem jj.full {s:a6} {r:List aB} (h:jj s r) (x:aB) :jj s (g1 r x):=
 ⟨h.ok,h.st,h.pen,h.kB,fun y g=>h.sp y (dy.1 g).1,fun y g=>h.gr y (dy.1 g).1,h.BS.sublist ki,fun y g=>h.yt y (dy.1 g).1⟩
theorem jj.y0 {s:a6} {r:List aB} (h:jj s r) {x:aB} (p:x∈r) (g:hP s=false) :lj s.aD x.op=1:=by obtain⟨q,j,m,o,_⟩:=h.gr x p;unfold hP at g;rw[decide_eq_false_iff_not] at g;unfold lj;rw[ak (by rw[j];exact m),aj o,ak (by have:=h.st.le;omega)]
theorem SL {g:aO} {x:List B} {o:aG}:dA (g++[x]) o=(dA g o).filter (j2 x):=by
 unfold dA;rw[List.filter_filter];refine Fe fun y _=>?_
 unfold h7 j2;by_cases h1:y∈g<;>by_cases h:y=x<;>simp[h1,h]
theorem BG (s:a6) {x:aB} (h:bE x.op=x.id) :(gk s x).aD.aJ.l=s.aD.aJ.l++[x.id]:=by rw[<-h];rfl
theorem vN (s:a6) (x:aB) :(gk s x).pl.l=aN.cK x.id s.pl.l:=gJ _
theorem jj.next {s:a6} {r:List aB} (h:jj s r) {x:aB} (w:x∈r) (ap:hP s=false) :jj (gk s x) (g1 r x++aN.cM x.id s.pl.l):=by
 obtain⟨ak,al,aK,aL,aM,aO⟩:=h.gr x w;obtain⟨aQ,ax⟩:=oK h.pen;obtain⟨T,aR,aG⟩:=(pr s.pl.l).1 ax;have J:aN.cK x.id s.pl.l=aN.l3 [x.id] s.pl.l:=by
  have:=Je x.id [] s.pl.l;rw[T6 T] at this;simpa using this
 obtain⟨aA,aC,aE⟩:=Ix (h.y0 w ap);have az:=h.sp x w;have av:=Un h.st (x:=bE x.op) (o:=x.op) aA aE ak rfl aC;have aw:=Jx h.ok.aD h.st (x:=bE x.op) (o:=x.op) (px _) az.op;have K:=BG s al;have v:=vN s x;have ay:cU (gk s x).bN (gk s x).pl.l=0:=by rw[v,J];exact T7 h.pen _
 have au:gF (aN.cK x.id s.pl.l):=by rw[J];exact UG h.ok.pl
 have aP:(aN.cK x.id s.pl.l).length<=s.pl.l.length:=by have:=aN.su x.id s.pl.l;omega
 have O:∀ y∈s.pl.l,(er x.id y).op=y.op/\(er x.id y).id=y.id/\(er x.id y).aF=y.aF/\(er x.id y).bl.l=dA (s.aD.aJ.l++[x.id]) y.op:=fun y j=>⟨rfl,rfl,rfl,by
  show (lz x.id y.bl).l=_;rw[uV,(h.kB y j).2.2,SL]⟩
 have S:∀ m∈aN.cK x.id s.pl.l,∃ y∈s.pl.l,m=er x.id y:=fun m g=>by
  obtain⟨y,j,e⟩:=cy.1 (dy.1 g).1;exact⟨y,j,e.symm⟩
 have R:∀ m∈aN.cM x.id s.pl.l,∃ y∈s.pl.l,m=er x.id y/\gone m=true:=fun m g=>by
  obtain⟨y,j,e⟩:=cy.1 (dy.1 g).1;exact⟨y,j,e.symm,(dy.1 g).2⟩
 have U:∀ y∈s.pl.l,y.id∉s.aD.aJ.l++[x.id]:=fun y j p=>by
  rcases fm.1 p with p | p
  ·exact (h.kB y j).2.1 p
  ·exact h.yt x w y j (fB.1 p).symm
 have Q:(s.pl.l.map (er x.id)).Pairwise fun a b=>a.id≠b.id:=by
  rw[m9];exact aG
 have aj:(aN.cM x.id s.pl.l).Pairwise fun a b=>a.id≠b.id:=Q.sublist ki
 refine⟨⟨aw,by rw[v];exact au,by rw[v];have:=h.ok.len;omega⟩,av,ay,fun m g=>?_,fun m g=>?_,fun m g=>?_,?_,fun a q m g=>?_⟩
 ·rw[v] at g;obtain⟨y,j,rfl⟩:=S m g;obtain⟨u,z,F,C⟩:=O y j;rw[K];exact⟨by rw[u];exact (h.kB y j).1,by rw[z];exact U y j,by rw[C,u]⟩
 ·rcases fm.1 g with g | g
  ·exact h.sp m (dy.1 g).1
  ·exact JD h.ok.pl m g
 ·rw[K];rcases fm.1 g with g | g
  ·have P:=(dy.1 g).1;obtain⟨V,W,X,Y,Z⟩:=h.gr m P;refine⟨V,W,fun p=>?_,fun D B=>List.mem_append_left _ (Y D B),Z⟩;rcases fm.1 p with p | p
   ·exact X p
   ·have ar:=(dy.1 g).2;have ao:m.id=x.id:=fB.1 p;obtain⟨i,t⟩:=cj.1 P;obtain⟨k,hk⟩:=cj.1 w;have:=Dj (f:=aB.id) h.BS t hk ao;rw[this,hk] at t;obtain rfl:=cg t;simp at ar
  ·obtain⟨y,j,rfl,H⟩:=R m g;obtain⟨u,z,F,C⟩:=O y j;obtain⟨aH,ae,ag,ai,_⟩:=T y j;refine⟨by rw[u];exact (h.kB y j).1,by rw[u,z];exact ae,by rw[z];exact U y j,fun D B=>?_,by rw[F];exact⟨ag,ai⟩⟩;have aq:dA (s.aD.aJ.l++[x.id]) y.op=[]:=by
    rw[<-C];unfold gone at H;exact xR.1 H
   refine Classical.byContradiction fun I=>?_
   have:D∈dA (s.aD.aJ.l++[x.id]) y.op:=dy.2 ⟨by rw[u] at B;exact B,by unfold h7;simp at I;simp[I]⟩;rw[aq] at this;cases this
 ·rw[rz];refine⟨h.BS.sublist ki,aj,fun a q b am=>?_⟩;obtain⟨y,j,rfl,_⟩:=R b am;exact h.yt a (dy.1 q).1 y j
 ·rw[v] at g;rcases fm.1 q with q | q
  ·obtain⟨y,j,rfl⟩:=S m g;exact h.yt a (dy.1 q).1 y j
  ·have h1:=(dy.1 q).2;have G:=(dy.1 g).2;intro e;obtain⟨i,t⟩:=cj.1 (dy.1 q).1;obtain⟨k,hk⟩:=cj.1 (dy.1 g).1;have:=Dj (f:=aB.id) Q t hk e;rw[this,hk] at t;obtain rfl:=cg t;rw[h1] at G;cases G
open ca aN
theorem sB (n:Nat) (s:a6) (out:List c7) :fI n s [] out=(s,out):=by
 cases n with
 | zero=>rfl
 | succ n=>unfold fI;rw[aj rfl]
theorem pS (n:Nat) (s:a6) {r:List aB} (out:List c7) (h:r≠[]) :fI (n+1) s r out=if hP s then fI n s (g1 r (de r)) (out++[⟨(de r).aF,8,(de r).id⟩])
  else fI n (gk s (de r)) (g1 r (de r)++aN.cM (de r).id s.pl.l) (out++[⟨(de r).aF,1,(de r).id⟩]):=by
 conv=>lhs;unfold fI
 rw[ak h]
theorem zV (v:U) :ax (bT 33 (U.int .u8 0)) 0 [v]=v::bT 32 (U.int .u8 0):=rfl
theorem xd (v:U) {I:ag} (h:I.length=32) :ax (v::bT 32 (U.int .u8 0)) 1 I=v::I:=by have e:(bT 32 (U.int .u8 0) :ag).drop 32=[]:=rfl;simp[ax,h,e]
theorem xc {I:ag} (h:I.length=32) :ax (bT 32 (U.int .u8 0)) 0 I=I:=cI (by simp[h])
theorem xe (v:U) {I:ag} (h:I.length=32) :ax (bT 33 (U.int .u8 0)) 0 (v::I)=v::I:=cI (by simp[h])
theorem W9 (x:aB) (t:(aZ x).length=45) {j bi:Nat} {l:ae} {xs:List aB} (I:∀ y∈xs,(aZ y).length=45) (h1:l[bi]?=some (.q 45 (aZ x))) (F:bi≠j) :
  A9 109 [.ptr bi 0 45] j l xs (fun y=>decide (y.aF=x.aF)):=by
 intro y H v D O B;apply cW func109 [];have m:v[bi]?=some (.q 45 (aZ x)):=by rw[D.same _ (a2 h1) F];exact h1
 have G:=a2 m;have g:∀ c:am,(v++[c])[bi]?=some (.q 45 (aZ x)):=fun c=>by rw[aV G];exact m
 have u:=I y H;have K:(aZ y)[0]?=some (.i6 y.aF):=rfl;have J:(aZ x)[0]?=some (.i6 x.aF):=rfl;have z:∀ h,(aZ y)[0]'h=.i6 y.aF:=fun _=>rfl
 have w:∀ h,(aZ x)[0]'h=.i6 x.aF:=fun _=>rfl
 obtain⟨P,o⟩:=ao (aZ x);obtain⟨Q,p⟩:=ao (aZ y);rw[<-o] at g t J;rw[<-p] at u K ⊢;simp only[<-o] at w;simp only[<-p] at z;simp[g,u,t,z,w];exact B _ V fun b C=>aV C
theorem Rk:fR prog 109=true:=bg
theorem F0 {l:ae} {v:U} {j:Nat} {es:List c7} {s:c7} (h:aM 34 l v j (es.map cP)) (o:(cP s).length=34) (D:es.length<=1000000) :
  ∃ g m l',eE (l++[.q 34 (cP s)]) 34 48 v (.ad 34 l.length 0 1 1 34)=some (g,l')/\aM 34 l' g m ((es++[s]).map cP)/\l.length+1<=l'.length/\(∀ b,b<l.length->v=.af\/b≠j->l'[b]?=l[b]?)/\(l.length<=m\/(v≠.af/\m=j))/\bt g=false:=by
 have B:=dF;obtain⟨g,m,l',p,t,u,d1,w,f1⟩:=iG (h.more [.q 34 (cP s)]) (by_:=48) (x:=.ad 34 l.length 0 1 1 34) (xs:=[cP s]) (by simp[cG,o,aL]) (by simp[o]) F F (by rw[B];simp;omega);have f2:bt g=false:=by rw[f1];simp
 refine⟨g,m,l',p,by rw[c5];exact t,by simpa using u,fun b z C=>?_,?_,f2⟩
 ·rw[d1 b (by simp;omega) C,aV z]
 ·rcases w with h | h | h
  ·exact .inl (by simp at h;omega)
  ·exact .inr h
  ·rw[h] at f2;cases f2
def rM (t:a6) (y:List B) :a6:=⟨t.aD,t.bN,dZ (aN.cK y t.pl.l),t.bA,t.dj⟩
structure Oh (fin:a6 × List c7) (N p gQ:Nat) (l0:ae) (k:Nat) (sgZ:aR) (L:ae) :Prop where
 lf:sgZ 0=.ptr p 0 9
 le:gQ<=L.length
 Cf:∀ b,b<gQ->b≠p->L[b]?=l0[b]?
 ex:∃ s r out h g m j,sgZ 7=h/\sgZ 5=g/\jj s r/\r.length+s.pl.l.length+k<=N/\fI (N - k) s r out=fin/\L[p]?=some (.q 9 (bp s))/\aM 45 L h m (r.map aZ)/\aM 34 L g j (out.map cP)/\(h=.af\/gQ<=m)/\(g=.af\/gQ<=j)/\(h=.af\/g=.af\/m≠j)/\out.length<=k
theorem Qf (t:a6) (cj:dH t) (du:cU t.bN t.pl.l=0) (y:List B) (cl:y.length=32) (aW:jj (rM t y) (aN.cM y t.pl.l)) {N:Nat} (dY:(aN.cM y t.pl.l).length+(aN.cK y t.pl.l).length<=N) (ea:N<=1000) {l0:ae} {p:Nat} (bI:l0[p]?=some (.q 9 (bp t)))
  {aR:a6 × List c7} (da:fI N (rM t y) (aN.cM y t.pl.l) []=aR) {K:cA}
  (bB:∀ v j l',l0.length<=l'.length->(∀ b,b<l0.length->b≠p->l'[b]?=l0[b]?)->l'[p]?=some (.q 9 (bp aR.1))->aM 34 l' v j (aR.2.map cP)->(v=.af\/l0.length<=j)->K v l') :
  cJ 56 [.ptr p 0 9,.ah (ar y)] l0 K:=by
 apply cW func56 [db 0 5++[[10],[5,10]]++db 6 4,[],[],db 0 6++[[11],[6,11]]++db 7 4,db 0 4++[[4,1]]];have dw:=dF;have dt:=a2 bI;have dC:=bu cl;have bV:=hR t;have ck:bp (rM t y)=ax (bp t) 5 [.i6 t.bN,cQ (dZ (aN.cK y t.pl.l))]:=rfl;have ek:=cj.len;obtain⟨bj,cZ⟩:=ao (bp t);rw[<-cZ] at bV bI ck;obtain⟨bg,dP,cD,cC,_⟩:=bV;have cw:∀ g:ae,(l0++g)[p]?=some (.q 9 bj):=fun g=>by rw[aV dt];exact bI
 simp[dC,cw,bg,cC,aL];refine MT t.bN t.pl cj.pl F y cl du fun aH iK u ce a3 J d7=>?_
 simp at ce a3;have q1:u[l0.length+1]?=some (.q 2 [.i6 0,.af]):=by rw[a3 _ F];simp
 have dO:u[p]?=some (.q 9 bj):=by rw[a3 _ F];exact cw _
 have eu:=J.cells;have bs:bS t.bN (dZ (aN.cK y t.pl.l))=[.i6 t.bN,cQ (dZ (aN.cK y t.pl.l))]:=rfl;have bR:∀ a b:U,ax [U.i6 0,.af] 0 [a,b]=[a,b]:=fun _ _=>rfl
 have oO:∀ c:am,(u.set (l0.length+1) c)[l0.length+1]?=some c:=fun c=>b1 F
 have dQ:∀ c:am,(u.set (l0.length+1) c)[p]?=some (.q 9 bj):=fun c=>by rw[br F];exact dO
 simp[bs,q1,bR,oO,dQ,<-ck];have bY:aH=.af\/l0.length+2<=iK:=by simpa using d7
 refine bz N (Oh aR N p l0.length l0) ?_ ⟨V,by simp;omega,fun b m P=>?_,rM t y,aN.cM y t.pl.l,[],aH,.af,iK,0,V,V,aW,?_,by simpa using da,?_,J.c6 (bY.imp id fun h=>?_),.nil 0,bY.imp id fun h=>F,.inl rfl,.inr (.inl rfl),V⟩
 ·rintro k dR L hk ⟨bZ,dl,bD,s,r,out,aH,bT,iK,aC,b4,b3,z,ec,a8,a7,J,bd,d7,d5,d75,ep⟩;obtain⟨dR,rfl⟩:=gK bZ b3 b4;clear bZ b3 b4;have a4:=J.len;rw[cx] at a4;by_cases W:r=[]
  ·subst W;rw[sB] at a8;subst a8;simp at a4;simp[a4];exact bB bT aC L dl bD a7 bd d5
  ·have dv:0<r.length:=td.2 W;have C:=v2 W;have bK:∀ x∈r,(aZ x).length=45:=fun x C=>(hE (z.sp x C)).len
   have R:aH≠.af:=fun e=>by
    subst e;have:=J.q.pJ;rw[nU] at this;exact W this
   have eg:=J.lt.resolve_left R;have di:=d7.resolve_left R;simp[a4,dv];refine Tx J bK (fun x C=>(z.gr x C).2.2.2.2) W F fun u ce ci=>?_
   have aX:=hE (z.sp _ C);have bb:=z.sp _ C;have ca:=z.gr _ C;have cg:=fun D=>z.next C D
   have cc:=fun D=>z.y0 C D
   have dn:=WC C;have aB:fI (N - k) s r out=if hP s then fI (N - k - 1) s (g1 r (de r)) (out++[⟨(de r).aF,8,(de r).id⟩])
     else fI (N - k - 1) (gk s (de r)) (g1 r (de r)++aN.cM (de r).id s.pl.l) (out++[⟨(de r).aF,1,(de r).id⟩]):=by
    obtain⟨g,dp⟩:∃ g,N - k=g+1:=⟨N - k - 1,F⟩
    rw[dp];exact pS g s out W
   rw[show iN r (r.length - 1)=de r from rfl];obtain⟨x,dB⟩:=ao (de r);rw[<-dB] at C aX bb ca cg cc dn aB ⊢;have f2:(aZ x)[0]?=some (.i6 x.aF):=rfl;have bo:∀ h,(aZ x)[0]'h=.i6 x.aF:=fun _=>rfl
   have b9:=fun (l:ae) (j cN:Nat) h1 cR=>W9 x aX.len (j:=j) (bi:=cN) (l:=l) bK h1 cR
   obtain⟨T,b7⟩:=ao (aZ x);rw[<-b7] at aX f2 ⊢;simp only[<-b7] at bo b9;obtain⟨Z,eR,cH,aK,eQ,eP⟩:=aX;have dy:=je Z;have dN:aM 45 (u++[am.q 45 T]) aH iK (r.map aZ):=(J.frame fun df=>ci iK df).more _;simp[Z,dy];refine Qn Rk dN bK F (b9 _ iK u.length V F) fun bh G ct bG en _=>?_
   have dd:=bG.le;simp at dd;have aT:∀ b,b<L.length->b≠iK->G[b]?=L[b]?:=fun b m c0=>by rw[bG.same b (by simp;omega) c0,aV F];exact ci b m
   have H:G[p]?=some (.q 9 (bp s)):=by rw[aT p (a2 a7) F];exact a7
   have aE:G[u.length]?=some (.q 45 T):=by rw[bG.same _ V F];simp
   have bQ:aM 34 G bT aC (out.map cP):=bd.c6 (by
    rcases bd.lt with h | h
    ·exact .inl h
    ·rcases d75 with e | e | e
     ·exact bP e R
     ·exact .inl e
     ·exact .inr (aT aC h (Ne.symm e)))
   have aW:=hR s;have aA:=z.ok;have eo:=aA.aD.no;have cf:bx (.ad 32) (ai s.aD.aJ)=_:=cd _;obtain⟨bU,bv⟩:=ao (bp s);rw[<-bv] at H aW;obtain⟨bg,dP,cD,cC,eH,eK,eF,eD,eC,eI,cB,eL,eG,eE,cz,eJ,eB⟩:=aW;have w:=bu bb.id;have ex:∀ g:ae,(G++g)[p]?=some (.q 9 bU):=fun g=>by rw[aV (a2 H)];exact H
   have ey:∀ g:ae,(G++g)[u.length]?=some (.q 45 T):=fun g=>by rw[aV (a2 aE)];exact aE
   by_cases D:hP s=true
   ·have bC:(s.aD.aJ.l.length:Int)=s.aD.cap:=by unfold hP at D;exact iZ D
    rw[aj D] at aB;have dz:=a8;obtain⟨Y,ip,o,O,al,cL,ap,ay,bk⟩:=F0 bQ (s:=⟨x.aF,8,x.id⟩) (by simp[cP,w]) F;have bt:cP ⟨x.aF,8,x.id⟩=.i6 x.aF::.int .u8 8::ar x.id:=rfl;rw[bt] at O;obtain⟨cI,aU⟩:=ao (ar x.id);rw[<-aU] at O aK w;have bl:=zV (.int .u8 8);have aO:=xd (.int .u8 8) w;have aP:=xe (.int .u8 8) w;simp[H,aE,bg,cB,cz,cf,bC,Z,bo,aK,ew,bl,aO,aP,xc w,w,O];refine b2.bq ?_;simp;have ej:=bQ.lt;have cT:Y=.af\/l0.length<=ip:=.inr (by
     rcases ay with h | ⟨h,h'⟩
     ·omega
     ·rw[h'];exact d5.resolve_left h)
    refine⟨F,V,F,fun b m P=>?_,s,g1 r x,out++[⟨x.aF,8,x.id⟩],bh,Y,iK,ip,V,V,z.full x,F,by rw[<-dz,show N - (k+1)=N - k - 1 by omega,aB],?_,ct.c6 ?_,al,.inr di,cT,?_,by simp;omega⟩
    ·rw[ap b F (d5.imp id fun h=>F),aT b F F];exact bD b m P
    ·rw[ap p (a2 H) (d5.imp id fun h=>F),<-bv];exact H
    ·exact .inr (ap iK F (by
      rcases d75 with e | e | e
      ·exact bP e R
      ·exact .inl e
      ·exact .inr e))
    ·right;right;rcases ay with h | ⟨h,h'⟩
     ·omega
     ·rw[h'];rcases d75 with e | e | e
      ·exact bP e R
      ·exact bP e h
      ·exact e
   ·have a0:hP s=false:=by cases h:hP s with | true=>exact bP h D | false=>rfl
    have bC:¬ (s.aD.aJ.l.length:Int)=s.aD.cap:=by unfold hP at a0;exact of_decide_eq_false a0
    rw[ak D] at aB;have dk:=cc a0;have dq:=cg a0;have bH:=LW s.aD aA.aD z.st x.op bb.op ca.1 dk;have c1:=z.pen;have c8:=k7 s.aD;have ch:=dV x.op;obtain⟨Q,b6⟩:=ao (nC s.aD (bE x.op) x.op);rw[<-b6] at bH;have cY:(cv Q).length=5:=rfl;have eb:(cv Q).take 5=cv Q:=rfl;obtain⟨oO,a9⟩:=ao (⟨Q,s.bN,s.pl,s.bA,s.dj⟩:a6);have dx:ax bU 0 (cv Q)=bp oO:=by rw[bv,a9];rfl
    have cV:=c4 x.id;obtain⟨dU,cX⟩:=ao (au x.op);rw[<-cX] at bH ch cH;simp[H,aE,bg,cB,cz,cf,bC,Z,cH,cD];refine av bH (by simp[aq,U.aw,c8,ch]) ?_;obtain⟨I,az⟩:=ao (G.set p (am.q 9 (bp oO)));have eh:I.length=G.length:=by rw[az];simp
    have bL:I[p]?=some (.q 9 (bp oO)):=by rw[az];exact b1 (a2 H)
    have aS:∀ b,b≠p->I[b]?=G[b]?:=fun b m=>by rw[az];exact br (fun e=>m e.symm)
    have bM:I[u.length]?=some (.q 45 T):=by rw[aS _ (by have:=a2 a7;omega)];exact aE
    have cs:aM 34 I bT aC (out.map cP):=bQ.c6 (d5.imp id fun h=>aS aC F);have dJ:aM 45 I bh iK ((g1 r x).map aZ):=ct.c6 (.inr (aS iK F));obtain⟨Y,ip,o,O,al,cL,ap,ay,bk⟩:=F0 cs (s:=⟨x.aF,1,x.id⟩) (by simp[cP,w]) F;have bt:cP ⟨x.aF,1,x.id⟩=.i6 x.aF::.int .u8 1::ar x.id:=rfl;rw[bt] at O;have bl:=zV (.int .u8 1);have aO:=xd (.int .u8 1) w;have aP:=xe (.int .u8 1) w;have b8:=fun (l:ae) (K:cA) bB=>MT s.bN s.pl aA.pl (by have:=aA.len;omega) x.id bb.id c1 (l0:=l) (K:=K) bB
    have bc:∀ b,b<I.length->(b<l0.length\/b=iK\/b=u.length)->o[b]?=I[b]?:=fun b m aY=>ap b m (by
     rcases cs.lt with h | h
     ·exact .inl h
     ·rcases aY with aY | aY | aY
      ·exact d5.imp id fun h=>F
      ·rcases d75 with e | e | e
       ·exact bP e R
       ·exact .inl e
       ·exact .inr F
      ·have cS:=bd.lt;exact cS.imp id fun h=>F)
    have S:o[p]?=some (.q 9 (bp oO)):=by rw[bc p (a2 bL) (.inl F)];exact bL
    have bO:o[u.length]?=some (.q 45 T):=by rw[bc _ (a2 bM) (.inr (.inr rfl))];exact bM
    have dK:aM 45 o bh iK ((g1 r x).map aZ):=dJ.c6 (.inr (bc iK F (.inr (.inl rfl))));have bW:=hR oO;have dr:oO.bN=s.bN:=by rw[a9]
    have ds:oO.pl=s.pl:=by rw[a9]
    obtain⟨ag,bw⟩:=ao (bp oO);rw[<-bw] at bW S az bL;obtain⟨dS,eM,eO,cE,_⟩:=bW;rw[dr,ds] at cE;have ez:∀ g:ae,(o++g)[p]?=some (.q 9 ag):=fun g=>by rw[aV (a2 S)];exact S
    have eA:∀ g:ae,(o++g)[u.length]?=some (.q 45 T):=fun g=>by rw[aV (a2 bO)];exact bO
    obtain⟨cI,aU⟩:=ao (ar x.id);rw[<-aU] at O aK w aO aP cV;simp only[<-aU] at b8;simp[H,cY,dx];rw[<-bw,<-az];simp[bM,Z,bo,aK,ew,bl,aO,aP,xc w,w,O];refine b2.bq ?_;simp[S,bO,dS,cE,Z,aK];refine b8 _ _ fun cG cm X dm bF cu d9=>?_
    simp at dm bF;have q1:X[o.length]?=some (.q 2 [.i6 0,.af]):=by rw[bF _ F];simp
    have bf:∀ b,b<o.length->X[b]?=o[b]?:=fun b m=>by rw[bF b F,aV m]
    have dE:X[p]?=some (.q 9 ag):=by rw[bf p (a2 S)];exact S
    have ev:=cu.cells;obtain⟨fF,a5⟩:=ao (X.set o.length (am.q 2 [U.i6 s.bN,cQ (dZ (aN.cK x.id s.pl.l))]));have aG:∀ b,b≠o.length->fF[b]?=X[b]?:=fun b m=>by rw[a5];exact br (fun e=>m e.symm)
    have es:fF.length=X.length:=by rw[a5];simp
    have n8:fF[o.length]?=some (.q 2 [U.i6 s.bN,cQ (dZ (aN.cK x.id s.pl.l))]):=by rw[a5];exact b1 F
    have cp:fF[p]?=some (.q 9 ag):=by rw[aG p (by have:=a2 S;omega)];exact dE
    have dh:iK<o.length:=F;have dL:aM 45 fF bh iK ((g1 r x).map aZ):=dK.c6 (.inr (by rw[aG iK F,bf iK dh]));have dM:aM 45 fF cG cm ((aN.cM x.id s.pl.l).map aZ):=cu.c6 (d9.imp id fun h=>aG cm (by simp at h;omega));have dI:aM 34 fF Y ip ((out++[(⟨x.aF,1,x.id⟩:c7)]).map cP):=al.c6 (al.lt.imp id fun h=>by rw[aG ip F,bf ip h]);have ed:(aN.cM x.id s.pl.l).length<=1000:=by have:=aN.su x.id s.pl.l;omega
    have dc:∀ e∈(aN.cM x.id s.pl.l).map aZ,e.length=45:=fun e c9=>by
     obtain⟨dT,dD,rfl⟩:=cy.1 c9;exact (hE (JD aA.pl dT dD)).len
    obtain⟨cF,It,cn,cO,bm,dW,aQ,bX,dX⟩:=iG (by_:=176) (x:=cG) (xs:=(aN.cM x.id s.pl.l).map aZ) dL (by rw[dM.contents]) dc F F (by rw[dw];simp;omega);rw[<-c5] at bm;have et:=bm.cells;have dG:cn[o.length]?=some (.q 2 [U.i6 s.bN,cQ (dZ (aN.cK x.id s.pl.l))]):=by rw[aQ _ (a2 n8) (.inr F)];exact n8
    have cq:cn[p]?=some (.q 9 ag):=by rw[aQ _ (a2 cp) (.inr F)];exact cp
    have bs:bS s.bN (dZ (aN.cK x.id s.pl.l))=[.i6 s.bN,cQ (dZ (aN.cK x.id s.pl.l))]:=rfl;have bR:∀ a b:U,ax [U.i6 0,.af] 0 [a,b]=[a,b]:=fun _ _=>rfl
    have c2:ax ag 5 [.i6 s.bN,cQ (dZ (aN.cK x.id s.pl.l))]=bp (gk s x):=by rw[bw,a9,b6];rfl
    simp[q1,bs,bR];rw[<-a5];simp[n8,cO];refine b2.bq ?_;simp[dG,cq,c2];have dA:Y≠.af:=fun e=>by rw[e] at bk;cases bk
    have ef:=al.lt.resolve_left dA;have dg:l0.length<=ip:=by
     rcases ay with h | ⟨h,h'⟩
     ·omega
     ·rw[h'];exact d5.resolve_left h
    have b5:iK≠ip:=by
     rcases ay with h | ⟨h,h'⟩
     ·omega
     ·rw[h'];rcases d75 with e | e | e
      ·exact bP e R
      ·exact bP e h
      ·exact e
    have cb:cF=.af\/l0.length<=It:=by
     rcases bX with h | ⟨_,h⟩ | h
     ·exact .inr F
     ·exact .inr F
     ·exact .inl h
    have er:=aN.su x.id s.pl.l;have c3:(gk s x).pl.l.length=(aN.cK x.id s.pl.l).length:=by rw[vN]
    refine⟨F,V,by simp;omega,fun b m P=>?_,gk s x,g1 r x++aN.cM x.id s.pl.l,out++[⟨x.aF,1,x.id⟩],cF,Y,It,ip,V,V,dq,by rw[cr,c3];omega,?_,b1 (a2 cq),bm.c6 (cb.imp id fun h=>br F),dI.c6 (.inr ?_),cb,.inr dg,?_,by simp;omega⟩
    ·rw[br (fun e=>P e.symm),aQ b F (.inr F),aG b F,bf b F,bc b F (.inl m),aS b P,aT b F F];exact bD b m P
    ·rw[show N - (k+1)=N - k - 1 by omega,<-aB];exact a8
    ·rw[br F,aQ ip F (.inr (fun e=>b5 e.symm))]
    ·rcases bX with h | ⟨_,h⟩ | h
     ·exact .inr (.inr F)
     ·exact .inr (.inr (by rw[h];exact b5))
     ·exact .inl h
 ·rw[br (fun e=>P e.symm),br F,a3 _ F,aV m]
 ·show (aN.cM y t.pl.l).length+(dZ (aN.cK y t.pl.l)).l.length+0<=N;rw[gJ];omega
 ·exact b1 (by simp;omega)
 ·rw[br F,br F]
open ca aN
structure hs (s:a6) :Prop where
 st:hJ s.aD
 pen:cU s.bN s.pl.l=0
 gQ:0<=s.bA
 gZ:s.bA<=1000000000
 kB:∀ x∈s.pl.l,x.aF<s.bA/\eA x.op=0/\x.id∉s.aD.aJ.l/\x.bl.l=dA s.aD.aJ.l x.op
theorem iR (s:a6) :fl s=0<->hs s:=by
 have q:∀ b:Bool,(if b then (0:Int) else 8)=0<->b=true:=fun b=>by cases b<;>simp
 unfold fl;rw[q,bH];unfold q0 vA;rw[bH,bH,bH,bC,bC,bC,bC,bC,xo];have p:∀ x:aB,pq s x=true<->x.aF<s.bA/\eA x.op=0/\x.id∉s.aD.aJ.l/\x.bl.l=dA s.aD.aJ.l x.op:=fun x=>by
  unfold pq;rw[bH,bH,bH,bC,bC,bC,bC]
 constructor
 ·rintro⟨⟨h1,g,h,j⟩,m⟩;refine⟨h1,g,h,j,fun x o=>?_⟩;obtain⟨k,hk⟩:=cj.1 o;have:=m k (aK.1 hk).1;rw[fb hk] at this;exact (p x).1 this
 ·rintro⟨h1,g,h,j,m⟩;refine⟨⟨h1,g,h,j⟩,fun k hk=>?_⟩;obtain⟨x,t,o⟩:=aP hk;rw[fb t];exact (p x).2 (m x o)
theorem Af {s:a6} (h:¬ hs s) :fl s=8:=by
 have:¬ fl s=0:=fun e=>h ((iR s).1 e)
 unfold fl at this ⊢;split
 ·rename_i g;rw[aj g] at this;exact bP rfl this
 ·rfl
def eM (s:a6) :a6:=⟨s.aD,s.bN,dZ s.pl.l,s.bA+1,s.dj⟩
def go (j:b7) :aB:=⟨j.aF,j.op,j.id,none⟩
def nH (s:a6) (j:b7) :a6:=⟨s.aD,s.bN,some (s.pl.l++[⟨j.aF,j.op,bE j.op,fy (dA s.aD.aJ.l j.op)⟩]),s.bA+1,s.dj⟩
def gu (s:a6) (j:b7) :a6 × List c7:=fI s.pl.l.length (gk (eM s) (go j)) (aN.cM j.id s.pl.l) []
def cl (s:a6) (j:b7) :a6 × List c7:=
 if ef s j=6 then (nH s j,[⟨j.aF,6,j.id⟩])
 else if ef s j=1 then ((gu s j).1,⟨j.aF,1,j.id⟩::(gu s j).2)
 else (eM s,[⟨j.aF,ef s j,j.id⟩])
noncomputable def dh (s:a6) (j:b7) :Int:=if fl s=0 then (if fi j then (if j.aF=s.bA then (if s.bA=1000000000 then 18 else 0) else 32) else 8) else 8
theorem wM {s:a6} {j:b7} (h:dh s j=0) :hs s/\fi j=true/\j.aF=s.bA/\s.bA≠1000000000:=by
 unfold dh at h;split at h
 ·rename_i h1;split at h
  ·rename_i g;split at h
   ·rename_i m;split at h
    ·cases h
    ·rename_i o;exact⟨(iR s).1 h1,g,m,o⟩
   ·cases h
  ·cases h
 ·cases h
theorem tU {j:b7} (h:fi j=true) (g:j.cN=0) :c3 j.op=0/\bE j.op=j.id/\eA j.op=0:=by unfold fi at h;rw[aj g,bH,bH,bH,bC,bC,bC] at h;exact h.2
theorem Hs {j:b7} (h:fi j=true) :j.cN=0\/j.cN=2\/j.cN=3\/j.cN=4:=by
 unfold fi at h;rw[bH] at h;have h:=h.2;split at h
 ·rename_i g;exact .inl g
 ·rw[bH,qb,qb,bC,bC,bC] at h;exact .inr h.1
theorem u0 {s:a6} {j:b7} (h:fi j=true) (g:ef s j=6\/ef s j=1) :j.cN=0/\s.dj=false/\j.id∉s.aD.aJ.l/\j.id∉s.pl.l.map aB.id:=by
 have o:j.cN=0:=by
  rcases Hs h with e | e | e | e
  ·exact e
  all_goals
   have q:¬ j.cN=0:=by rw[e];decide
   have t:ef s j=(u j.cN:Int):=by unfold ef;rw[ak q]
   rw[t,e] at g;exact bP g (by decide)
 unfold ef at g;rw[aj o] at g;cases p:s.dj with
 | true=>rw[p,aj rfl] at g;omega
 | false=>
  rw[p,ak V] at g;by_cases h1:j.id∈s.aD.aJ.l\/j.id∈s.pl.l.map aB.id
  ·rw[aj h1] at g;omega
  ·exact⟨o,rfl,fun m=>h1 (.inl m),fun m=>h1 (.inr m)⟩
theorem Au {s:a6} {j:b7} (g:j.cN=0) (o:s.dj=false) (h1:j.id∉s.aD.aJ.l) (m:j.id∉s.pl.l.map aB.id) :
  ef s j=if dA s.aD.aJ.l j.op=[] then (if (s.aD.aJ.l.length:Int)=s.aD.cap then 8 else 1) else if (s.pl.l.length:Int)<s.bN then 6 else 7:=by unfold ef;rw[aj g,o,ak V,ak (by rintro (h | h);exact h1 h;exact m h)]
theorem YY {s:a6} {j:b7} (h:fi j=true) (g:ef s j=6) :dA s.aD.aJ.l j.op≠[]/\(s.pl.l.length:Int)<s.bN:=by
 obtain⟨m,t,h1,o⟩:=u0 h (.inl g);rw[Au m t h1 o] at g;split at g
 ·split at g<;>cases g
 ·rename_i p;split at g
  ·rename_i q;exact⟨p,q⟩
  ·cases g
theorem MO {s:a6} {j:b7} (h:fi j=true) (g:ef s j=1) :dA s.aD.aJ.l j.op=[]/\(s.aD.aJ.l.length:Int)≠s.aD.cap:=by
 obtain⟨m,t,h1,o⟩:=u0 h (.inr g);rw[Au m t h1 o] at g;split at g
 ·rename_i p;split at g
  ·cases g
  ·rename_i q;exact⟨p,q⟩
 ·split at g<;>cases g
theorem SM {ord:aO} {o:aG} (h:dA ord o=[]) :∀ p∈o.ay.l,p∈ord:=fun p j=>by
 refine Classical.byContradiction fun g=>?_
 have:p∈dA ord o:=dy.2 ⟨j,by unfold h7;simp[g]⟩;rw[h] at this;cases this
theorem Kn {s:a6} (m:hs s) {j:b7} (o:fi j=true) (H:j.aF=s.bA) (t:ef s j=6) :gH s.bN s.pl.l j.aF j.op (dA s.aD.aJ.l j.op)=0:=by
 obtain⟨u,G,h1,v⟩:=u0 o (.inl t);obtain⟨w,D⟩:=YY o t;obtain⟨f1,f2,f3⟩:=tU o u;have I:=m.gQ;have J:=m.gZ;unfold gH;rw[ak (by rw[m.pen];simp),ak (by rw[f1];simp),ak,ak (by rw[f2];exact v),ak,ak F]
 ·intro g;by_cases q:s.pl.l.length=0
  ·unfold eL at g;rw[aj q] at g;omega
  ·unfold eL at g;rw[ak q] at g;obtain⟨x,p,C⟩:=aP (l:=s.pl.l) (k:=s.pl.l.length - 1) F;rw[fb p] at g;have:=(m.kB x C).1;omega
 ·rintro (h | h | h)
  ·omega
  ·omega
  ·have B:bX j.op.ay.l=true:=by
    unfold c3 at f1;split at f1
    ·cases f1
    ·split at f1
     ·rename_i z;exact z
     ·cases f1
   have:e3 j.op (dA s.aD.aJ.l j.op)=true:=by
    unfold e3;rw[bH,bH,bC];refine⟨td.2 w,uD ((oN B).sublist ki),gg.2 fun x p=>bY (dy.1 p).1⟩
   rw[this] at h;cases h
theorem DV {s:a6} (q:dH s) (h:hs s) {j:b7} (t:fv j) (p:fi j=true) (D:j.aF=s.bA) (u:ef s j=1) :jj (eM s) [go j]:=by
 obtain⟨v,C,h1,w⟩:=u0 p (.inr u);obtain⟨z,B⟩:=MO p u;obtain⟨f1,f2,f3⟩:=tU p v;have F:=h.gQ;have G:=h.gZ;have m:(eM s).pl.l=s.pl.l:=gJ _;refine⟨⟨q.aD,by rw[m];exact q.pl,by rw[m];exact q.len⟩,h.st,by rw[m];exact h.pen,fun x g=>by rw[m] at g;exact (h.kB x g).2,fun x g=>?_,fun x g=>?_,V,fun x g y o=>?_⟩
 ·rw[fB.1 g];exact⟨t.op,t.id,fun y o=>(fX o).elim,ek _⟩
 ·rw[fB.1 g];exact⟨f3,f2,h1,SM z,by show 0<=j.aF;omega,by show j.aF<=_;omega⟩
 ·rw[fB.1 g];rw[m] at o;exact fun e=>w (cy.2 ⟨y,o,e.symm⟩)
theorem Cg {s:a6} {j:b7} (g:fi j=true) (h:ef s j=1) :hP (eM s)=false:=cC (MO g h).2
theorem DW {s:a6} (q:dH s) (m:hs s) {j:b7} (o:fv j) (g:fi j=true) (t:j.aF=s.bA) (h:ef s j=1) :jj (gk (eM s) (go j)) (aN.cM j.id s.pl.l):=by
 have:=(DV q m o g t h).next (x:=go j) V (Cg g h)
 have e:g1 [go j] (go j)=[]:=by unfold g1;simp
 rw[e,iD] at this;have p:(eM s).pl.l=s.pl.l:=gJ _;rw[p] at this;exact this
open ca aN
theorem zN:∀ (n:Nat) (s:a6) (r:List aB) (out:List c7),(fI n s r out).2.length<=out.length+n
 | 0,s,r,out=>aI _
 | n+1,s,r,out=>by
  by_cases h:r=[]
  ·subst h;rw[sB];show out.length<=_;omega
  ·rw[pS n s out h];split
   ·refine dL (zN n _ _ _) ?_;rw[cr];simp;omega
   ·refine dL (zN n _ _ _) ?_;rw[cr];simp;omega
def g2:a6:=⟨⟨0,⟨none,none,0⟩,none⟩,0,none,0,false⟩
def gb (s:bL c7) :U:=b4 34 cP s
theorem rT (r:c7) :aq (cP r)=true:=by have:=c4 r.id;simp[cP,aq,U.aw,this]
noncomputable def so (s:a6) (j:b7) :a6:=if dh s j=0 then (cl s j).1 else g2
noncomputable def sn (s:a6) (j:b7) :bL c7:=if dh s j=0 then some (cl s j).2 else none
theorem B3:bp g2=[.i6 0,.af,.af,.i6 0,.af,.i6 0,.af,.i6 0,.bool false]:=rfl
theorem Qd (s:a6) (t:dH s) (j:b7) (m:fv j) :aY 18 [.ah (bp s),.ah (dN j)] (.a1 [.ah (bp (so s j)),gb (sn s j),.i6 (dh s j)]):=by
 apply bc func18 [db 0 4++[[5],[6],[8],[4,8,6,1],[7]],db 0 9++[[9,5,3,1]]];have ci:=dF;have aO:=hR s;have J:=mK m;have bk:=BO s t;have bl:=Ra j m;have bad:dh s j≠0->∀ l:ae,Rd l (.a1 [.ah [.i6 0,.af,.af,.i6 0,.af,.i6 0,.af,.i6 0,.bool false],.af,.i6 (dh s j)]) (.a1 [.ah (bp (so s j)),gb (sn s j),.i6 (dh s j)]):=fun h l=>by
  unfold so sn;rw[ak h,ak h];exact aE
 have W:dh s j=if fl s=0 then (if fi j then (if j.aF=s.bA then (if s.bA=1000000000 then 18 else 0) else 32) else 8) else 8:=rfl
 obtain⟨cL,aT⟩:=ao (bp s);obtain⟨L,bh⟩:=ao (dN j);rw[<-aT] at aO bk ⊢;rw[<-bh] at J bl ⊢;have cT:=aO;have cR:=J;obtain⟨R,aG,dr,dn,di,dp,dg,de,dc,dl,dk,dq,a4,df,dd,dm,aH⟩:=aO;obtain⟨B,ai,c2,ag,oA,c1,c3,bw,bx⟩:=J;simp[R,aG,B];refine av bk (by simp[aq,U.aw,aH]) ?_;by_cases h1:fl s=0
 ·simp[h1,B,bw];refine av bl (by simp[aq,U.aw,bx]) ?_;cases u:fi j with
  | false=>
   have g:dh s j=8:=by rw[W,aj h1,u];rfl
   have:=bad (by rw[g];decide);rw[g] at this;simp;rw[g];exact this _
  | true=>
   simp[B,ai,R,a4];by_cases z:j.aF=s.bA
   ·by_cases ap:s.bA=1000000000
    ·have g:dh s j=18:=by rw[W,aj h1,u,aj rfl,aj z,aj ap]
     have:=bad (by rw[g];decide);rw[g] at this;simp[z,ap,R,a4];rw[g];exact this _
    ·have g:dh s j=0:=by rw[W,aj h1,u,aj rfl,aj z,ak ap]
     have v:=(iR s).1 h1;have cZ:=v.gQ;have c0:=v.gZ;have cn:so s j=(cl s j).1:=by unfold so;rw[aj g]
     have ck:sn s j=some (cl s j).2:=by unfold sn;rw[aj g]
     rw[cn,ck,g];have aX:=BQ s t v.pen;have aC:=Qa s t v.pen j m;rw[<-aT] at aX aC;rw[<-bh] at aC;have bP:IntKind.i64.wrap (s.bA+1)=s.bA+1:=by rw[IntKind.wrap_i64];omega
     have a8:=hR (dP s);have bv:ax (bp (dP s)) 7 [.i6 (s.bA+1)]=bp (eM s):=rfl;have cf:(dP s).bA=s.bA:=rfl;obtain⟨vv,bY⟩:=ao (bp (dP s));rw[<-bY] at a8 bv aX;obtain⟨bC,ds,dJ,dE,dz,dG,dy,dw,du,dC,dB,dI,cA,dx,dv,dD,dt⟩:=a8;have cB:ax [U.i6 0,.af,.af,.i6 0,.af,.i6 0,.af,.i6 0,.bool false] 0 vv=vv:=cI (by rw[bC];rfl);have C:=bu m.id;obtain⟨G,D⟩:=ao (ef s j);rw[<-D] at aC;have bK:=zV (.int .u8 G);have bd:=xd (.int .u8 G) C;have bf:=xe (.int .u8 G) C;have aR:∀ w,cP ⟨j.aF,w,j.id⟩=.i6 j.aF::.int .u8 w::ar j.id:=fun _=>rfl
     obtain⟨I,aS⟩:=ao (ar j.id);rw[<-aS] at oA C bd bf aR;have bV:I.take 32=I:=aL F;simp[z,ap,R,aG,a4];refine av aX (by simp[aq,U.aw,aH]) ?_;simp[bC,cB,cA,cf,bP,bv,B,ai,bw,R,aG,oA];refine av aC (by simp[aq,U.aw,aH,bx]) ?_;simp[B,ai,oA,ew,bK,bd,bf,xc C,C,bV];have a5:∀ (l:ae) (b:Nat) (w:Int),l[b]?=some (.q 34 (.i6 j.aF::.int .u8 w::I))->aM 34 l (.ad 34 b 0 1 1 34) b ([(⟨j.aF,w,j.id⟩:c7)].map cP):=fun l b w bZ=>
      .ad b 1 1 34 _ _ bZ (by simp[C]) rfl (by simp[aR,C]) F F (by simp[aR,C,aL])
     have aQ:∀ (l:ae) (al:a6) (w:U) (b:Nat) (aK:List c7),aM 34 l w b (aK.map cP)->bt w=false->Rd l (.a1 [.ah (bp al),w,.i6 0]) (.a1 [.ah (bp al),gb (some aK),.i6 0]):=fun l al w b aK cg ce=>
      DM (.same _ (jp al)) (cg.q.jA rT (some aK) ce rfl) (.same _ rfl)
     have a9:=hR (eM s);have cr:(eM s).bN=s.bN:=rfl;have cs:(eM s).pl=dZ s.pl.l:=rfl;have ct:(eM s).aD=s.aD:=rfl;have b8:=jp (eM s);obtain⟨tx,aA⟩:=ao (bp (eM s));rw[<-aA] at a9 b8 ⊢;obtain⟨S,cC,bD,a7,_⟩:=a9;rw[cr,cs] at a7;rw[ct] at bD;have cD:ax [U.i6 0,.af,.af,.i6 0,.af,.i6 0,.af,.i6 0,.bool false] 0 tx=tx:=cI (by rw[S];rfl);by_cases H:G=6
     ·have bm:=BP s t j.op m.op;have Y:=Zh s.bN (dZ s.pl.l) (by rw[gJ];exact t.pl) (by rw[gJ];exact t.len) j.aF j.op m.op (fy (dA s.aD.aJ.l j.op)) (y4 m.op) (II m.op);have bo:gH s.bN (dZ s.pl.l).l j.aF j.op (fy (dA s.aD.aJ.l j.op)).l=0:=by rw[gJ,m0];exact Kn v u z (by rw[<-D];exact H)
      rw[Vt,aj bo,aj bo,gJ] at Y;obtain⟨Q,T⟩:=ao (some (s.pl.l++[(⟨j.aF,j.op,bE j.op,fy (dA s.aD.aJ.l j.op)⟩:aB)]));rw[<-T] at Y;have X:cl s j=(nH s j,[⟨j.aF,6,j.id⟩]):=by unfold cl;rw[aj (by rw[<-D];exact H)]
      rw[X];have b5:aq (bS s.bN (dZ s.pl.l))=true:=by simp[bS,aq,U.aw,hx]
      have K:=dV j.op;have cc:=bU (fy (dA s.aD.aJ.l j.op));have bR:bS s.bN Q=[.i6 s.bN,cQ Q]:=rfl;rw[bR] at Y;have aW:ax (bp (eM s)) 5 [.i6 s.bN,cQ Q]=bp (nH s j):=by rw[T];rfl
      have bb:=hR (nH s j);have cY:=jp (nH s j);obtain⟨FL,bi⟩:=ao (bp (nH s j));rw[<-aA] at aW;rw[<-bi] at bb aW;obtain⟨bF,cE,_⟩:=bb;obtain⟨bH,az⟩:=ao (au j.op);rw[<-aT,<-az] at bm;rw[<-az] at Y K ag;have cF:ax [U.i6 0,.af,.af,.i6 0,.af,.i6 0,.af,.i6 0,.bool false] 0 FL=FL:=cI (by rw[bF];rfl);simp[H,S,a7,B,ai,ag,R,aG];refine av bm (by simp[aq,U.aw,aH,K]) ?_;simp[H,S,a7,B,ai,ag];refine av Y (by simp[aq,U.aw,b5,K,cc]) ?_;simp[S,aW,bF,cE,cF];rw[bi];exact aQ _ _ _ 5 _ (a5 _ 5 6 rfl) rfl
     ·by_cases ay:G=1
      ·have P:ef s j=1:=by rw[<-D];exact ay
       obtain⟨cu,_⟩:=u0 u (.inr P);obtain⟨f1,f2,f3⟩:=tU u cu;have bT:=DV t v m u z P;have ca:=Cg (s:=s) u P;have cb:lj s.aD j.op=1:=bT.y0 (x:=go j) V ca;have aV:=LW s.aD t.aD v.st j.op m.op f3 cb;have cj:=DW t v m u z P;have ch:=Jx t.aD v.st (x:=bE j.op) (o:=j.op) (px _) m.op;have b6:=k7 s.aD;have K:=dV j.op;have X:cl s j=((gu s j).1,⟨j.aF,1,j.id⟩::(gu s j).2):=by unfold cl;rw[ak (by rw[P];decide),aj P]
       rw[X];obtain⟨t1,Z⟩:=ao (⟨nC s.aD (bE j.op) j.op,s.bN,dZ s.pl.l,s.bA+1,s.dj⟩:a6);have O:t1.pl.l=s.pl.l:=by rw[Z];exact gJ _
       have cp:dH t1:=⟨by rw[Z];exact ch,by rw[O];exact t.pl,by rw[O];exact t.len⟩
       have cq:cU t1.bN t1.pl.l=0:=by rw[O,show t1.bN=s.bN by rw[Z]];exact v.pen
       have bj:rM t1 j.id=gk (eM s) (go j):=by rw[Z];rfl
       have bX:jj (rM t1 j.id) (aN.cM j.id t1.pl.l):=by rw[bj,O];exact cj
       have cX:=aN.su j.id s.pl.l;obtain⟨c9,da⟩:=oK v.pen;have b9:fI s.pl.l.length (rM t1 j.id) (aN.cM j.id t1.pl.l) []=gu s j:=by rw[bj,O];rfl
       have bs:ax tx 0 (cv (nC s.aD (bE j.op) j.op))=bp t1:=by rw[aA,Z];rfl
       obtain⟨Q,T⟩:=ao (cv (nC s.aD (bE j.op) j.op));rw[<-T] at aV bs;have bW:Q.length=5:=by rw[T];rfl
       obtain⟨bH,az⟩:=ao (au j.op);rw[<-az] at aV K ag;have cS:Q.take 5=Q:=aL F;simp[ay,S,bD,B,ag];refine av aV (by simp[aq,U.aw,b6,K]) ?_;simp[bW,bs,B,oA];rw[aS];refine Qf t1 cp cq j.id m.id bX (N:=s.pl.l.length) (by rw[O];omega) F (p:=3) rfl b9 fun w c4 a0 cd aU cm bB cO=>?_
       simp at cd aU;have b4:a0[5]?=some (.q 34 (.i6 j.aF::.int .u8 1::I)):=by rw[aU 5 F F,aS];rfl
       have b3:a0[2]?=some (.q 9 [.i6 0,.af,.af,.i6 0,.af,.i6 0,.af,.i6 0,.bool false]):=by rw[aU 2 F F];rfl
       have cz:=a5 a0 5 1 b4;have cw:∀ e∈(gu s j).2.map cP,e.length=34:=bB.row;have cW:((gu s j).2).length*48<=100000000000000:=by
        have h:=zN s.pl.l.length (gk (eM s) (go j)) (aN.cM j.id s.pl.l) [];have u:(gu s j).2.length<=0+s.pl.l.length:=h;omega
       obtain⟨cG,cx,a3,bL,aP,cN,bg,bM,bO⟩:=iG (by_:=48) (x:=w) (xs:=(gu s j).2.map cP) cz (by rw[bB.contents]) cw F F (by rw[ci];simp;omega);rw[<-c5] at aP;have aZ:bt cG=false:=by rw[bO];rfl
       have cy:a3[3]?=some (.q 9 (bp (gu s j).1)):=by rw[bg 3 F (.inr F)];exact cm
       have bz:a3[2]?=some (.q 9 [.i6 0,.af,.af,.i6 0,.af,.i6 0,.af,.i6 0,.bool false]):=by rw[bg 2 F (.inr F)];exact b3
       have bI:=hR (gu s j).1;obtain⟨bG,cH,_⟩:=bI;have cJ:ax [U.i6 0,.af,.af,.i6 0,.af,.i6 0,.af,.i6 0,.bool false] 0 (bp (gu s j).1)=bp (gu s j).1:=cI (by rw[bG];rfl);have cK:∀ c:am,(a3.set 2 c)[2]?=some c:=fun c=>b1 (a2 bz)
       have c8:=aP.cells;simp[bL];refine b2.bq ?_;simp[cy,bz,bG,cH,cJ,cK];refine aQ _ _ _ cx (⟨j.aF,1,j.id⟩::(gu s j).2) (aP.c6 (.inr (br ?_))) aZ;rcases bM with h | ⟨_,h⟩ | h
       ·omega
       ·omega
       ·rw[h] at aZ;cases aZ
      ·have X:cl s j=(eM s,[⟨j.aF,G,j.id⟩]):=by unfold cl;rw[ak (by rw[<-D];exact H),ak (by rw[<-D];exact ay),D]
       rw[X];simp[H,ay,S,cC,cD];rw[aA];exact aQ _ _ _ 5 _ (a5 _ 5 G rfl) rfl
   ·have g:dh s j=32:=by rw[W,aj h1,u,aj rfl,ak z]
    have:=bad (by rw[g];decide);rw[g] at this;simp[z];rw[g];exact this _
 ·have g:dh s j=8:=by rw[W,ak h1]
  have bQ:fl s=8:=Af fun h=>h1 ((iR s).2 h)
  have:=bad (by rw[g];decide);rw[g] at this;simp[bQ];rw[g];exact this _
open ca aN
theorem Jf {x:List B} {l:List aB} {b:Int} (h:∀ y∈l,y.aF<b) :∀ y∈aN.cK x l,y.aF<b:=fun y g=>by
 obtain⟨m,j,rfl⟩:=cy.1 (dy.1 g).1;exact h m j
theorem DP {b:Int}:∀ (n:Nat) (s:a6) (r:List aB) (out:List c7),jj s r->(∀ y∈s.pl.l,y.aF<b)->
  ∃ m,jj (fI n s r out).1 m/\(fI n s r out).1.bA=s.bA/\(fI n s r out).1.dj=s.dj/\(fI n s r out).1.bN=s.bN/\(fI n s r out).1.aD.cap=s.aD.cap/\∀ y∈(fI n s r out).1.pl.l,y.aF<b
 | 0,s,r,out,h,g=>⟨r,h,rfl,rfl,rfl,rfl,g⟩
 | n+1,s,r,out,h,g=>by
  by_cases j:r=[]
  ·subst j;rw[sB];exact⟨[],h,rfl,rfl,rfl,rfl,g⟩
  ·rw[pS n s out j];cases w:hP s with
   | true=>
    rw[aj rfl];exact DP n s _ _ (h.full _) g
   | false=>
    rw[ak V];obtain⟨m,o,p,q,t,u,v⟩:=DP (b:=b) n (gk s (de r)) (g1 r (de r)++aN.cM (de r).id s.pl.l) (out++[⟨(de r).aF,1,(de r).id⟩]) (h.next (v2 j) w) (by rw[vN];exact Jf g);exact⟨m,o,p,q,t,u,v⟩
theorem pL {s:a6} (o:dH s) {j:b7} (v:fv j) (R:dh s j=0) :dH (cl s j).1/\hs (cl s j).1/\(cl s j).1.bA=s.bA+1/\(cl s j).1.dj=s.dj/\(cl s j).1.bN=s.bN/\(cl s j).1.aD.cap=s.aD.cap:=by
 obtain⟨h,u,B,Y⟩:=wM R;have Z:=h.gQ;have ae:=h.gZ;have p:(eM s).pl.l=s.pl.l:=gJ _;unfold cl;by_cases t:ef s j=6
 ·rw[aj t];obtain⟨O,W,h1,V⟩:=u0 u (.inl t);obtain⟨f1,f2,f3⟩:=tU u O;have S:=Kn h u B t;have T:=(Vv (m:=fy (dA s.aD.aJ.l j.op)) (by rw[m0];exact S)).2.2.2;have X:s.pl.l.length<=8:=by obtain⟨ag,_⟩:=oK h.pen;omega
  refine⟨⟨o.aD,fun x g=>?_,?_⟩,⟨h.st,T,by show 0<=s.bA+1;omega,by show s.bA+1<=_;omega,fun x g=>?_⟩,rfl,rfl,rfl,rfl⟩
  ·have z:x∈s.pl.l++[(⟨j.aF,j.op,bE j.op,fy (dA s.aD.aJ.l j.op)⟩:aB)]:=g;rcases fm.1 z with g | g
   ·exact o.pl x g
   ·rw[fB.1 g];exact⟨v.op,px _,y4 v.op,II v.op⟩
  ·show (s.pl.l++[_]).length<=_;rw[cr];simp;omega
  ·have z:x∈s.pl.l++[(⟨j.aF,j.op,bE j.op,fy (dA s.aD.aJ.l j.op)⟩:aB)]:=g;rcases fm.1 z with g | g
   ·obtain⟨K,w⟩:=h.kB x g;exact⟨by show x.aF<s.bA+1;omega,w⟩
   ·rw[fB.1 g];exact⟨by show j.aF<s.bA+1;omega,f3,by show bE j.op∉_;rw[f2];exact h1,by show (fy _).l=_;rw[m0];rfl⟩
 ·rw[ak t];by_cases h1:ef s j=1
  ·rw[aj h1];have P:=DW o h v u B h1;have Q:∀ y∈(gk (eM s) (go j)).pl.l,y.aF<s.bA:=by
    rw[vN,p];exact Jf fun y U=>(h.kB y U).1
   obtain⟨ai,q,C,G,H,I,J⟩:=DP (b:=s.bA) s.pl.l.length (gk (eM s) (go j)) (aN.cM j.id s.pl.l) [] P Q;have e:(gu s j).1=(fI s.pl.l.length (gk (eM s) (go j)) (aN.cM j.id s.pl.l) []).1:=rfl;show dH (gu s j).1/\hs (gu s j).1/\(gu s j).1.bA=_/\(gu s j).1.dj=_/\(gu s j).1.bN=_/\(gu s j).1.aD.cap=_;rw[e];have D:(fI s.pl.l.length (gk (eM s) (go j)) (aN.cM j.id s.pl.l) []).1.bA=s.bA+1:=C;exact⟨q.ok,⟨q.st,q.pen,F,F,fun x g=>⟨by have:=J x g;omega,q.kB x g⟩⟩,D,G,H,I⟩
  ·rw[ak h1];refine⟨⟨o.aD,by rw[p];exact o.pl,by rw[p];exact o.len⟩,⟨h.st,by rw[p];exact h.pen,by show 0<=s.bA+1;omega,by show s.bA+1<=_;omega,fun x g=>?_⟩,rfl,rfl,rfl,rfl⟩;rw[p] at g;obtain⟨K,w⟩:=h.kB x g;exact⟨by show x.aF<s.bA+1;omega,w⟩
theorem DQ:∀ (n:Nat) (s:a6) (r:List aB) (out:List c7),jj s r->(∀ x∈out,(cP x).length=34)->∀ x∈(fI n s r out).2,(cP x).length=34
 | 0,s,r,out,h,m=>m
 | n+1,s,r,out,h,m=>by
  by_cases o:r=[]
  ·subst o;rw[sB];exact m
  ·rw[pS n s out o];have g:=(h.sp _ (v2 o)).id;have row:∀ j:Int,(cP ⟨(de r).aF,j,(de r).id⟩).length=34:=fun j=>by simp[cP,bu g]
   have p:∀ j:Int,∀ x∈out++[(⟨(de r).aF,j,(de r).id⟩:c7)],(cP x).length=34:=fun j x g=>by
    rcases fm.1 g with g | g
    ·exact m x g
    ·rw[fB.1 g];exact row j
   cases q:hP s with
   | true=>
    rw[aj rfl];exact DQ n s _ _ (h.full _) (p 8)
   | false=>
    rw[ak V];exact DQ n _ _ _ (h.next (v2 o) q) (p 1)
theorem Jz {s:a6} (t:dH s) {j:b7} (m:fv j) (p:dh s j=0) :∀ x∈(cl s j).2,(cP x).length=34:=by
 obtain⟨o,q,u,w⟩:=wM p;have row:∀ h:Int,(cP ⟨j.aF,h,j.id⟩).length=34:=fun h=>by simp[cP,bu m.id]
 have one:∀ h:Int,∀ x∈[(⟨j.aF,h,j.id⟩:c7)],(cP x).length=34:=fun h x g=>by rw[fB.1 g];exact row h
 unfold cl;split
 ·exact one 6
 ·split
  ·rename_i h1;intro x g;have v:x∈(⟨j.aF,1,j.id⟩:c7) ::(gu s j).2:=g;rcases hZ.1 v with rfl | g
   ·exact row 1
   ·exact DQ _ _ _ _ (DW t o m q u h1) (fun x g=>(fX g).elim) x g
  ·exact one _
theorem xn:dH g2:=⟨⟨⟨fun _ h=>(fX h).elim,ek _,fun _ h=>(fX h).elim,ek _⟩,fun _ h=>(fX h).elim,ek _⟩,fun _ h=>(fX h).elim,ek _⟩
open ca aN
def hc (s:bL b7) :U:=b4 45 dN s
def ia (l:List c7) :bL c7:=match l with | []=>none | a::r=>some (a::r)
theorem lB (l:List c7) :(ia l).l=l:=by cases l<;>rfl
theorem Ya (l:List c7) :(ia l).isNone=l.isEmpty:=by cases l<;>rfl
noncomputable def cw:List b7->a6->List c7->a6 × List c7 × Int
 | [],s,all=>(s,all,0)
 | g::r,s,all=>if dh s g=0 then cw r (cl s g).1 (all++(cl s g).2) else (g2,[],dh s g)
noncomputable def eY (s:a6) (l:List b7) :a6 × List c7 × Int:=if fl s=0 then (if 60<l.length then (g2,[],4) else cw l (dP s) []) else (g2,[],8)
theorem WU {l:List b7} {k:Nat} {j:b7} (h:l[k]?=some j) {s:a6} {all:List c7} (g:dh s j=0) :cw (l.drop k) s all=cw (l.drop (k+1)) (cl s j).1 (all++(cl s j).2):=by
 obtain⟨hk,rfl⟩:=aK.1 h;rw[ml hk]
 conv=>lhs;unfold cw
 rw[aj g]
theorem WT {l:List b7} {k:Nat} {j:b7} (h:l[k]?=some j) {s:a6} {all:List c7} (g:dh s j≠0) :cw (l.drop k) s all=(g2,[],dh s j):=by
 obtain⟨hk,rfl⟩:=aK.1 h;rw[ml hk]
 conv=>lhs;unfold cw
 rw[ak g]
theorem Jy {s:a6} (u:dH s) {j:b7} (q:fv j) (m:dh s j=0) :1<=(cl s j).2.length/\(cl s j).2.length<=9:=by
 obtain⟨g,p,v,t⟩:=wM m;obtain⟨w,z⟩:=oK g.pen;unfold cl;split
 ·simp
 ·split
  ·have h:=zN s.pl.l.length (gk (eM s) (go j)) (aN.cM j.id s.pl.l) [];have o:(gu s j).2.length<=0+s.pl.l.length:=h;simp;omega
  ·simp
structure NG (s:a6) (l:bL b7) (fin:a6 × List c7 × Int) (k:Nat) (sgZ:aR) (L:ae) :Prop where
 iI:sgZ 2=.ptr 0 0 9
 kz:sgZ 4=.ptr 1 0 9
 oo:sgZ 8=.ptr 2 0 9
 yK:sgZ 27=hc l
 RA:sgZ 28=.i6 l.l.length
 RB:sgZ 29=.i6 k
 nE:L[1]?=some (.q 9 (bp g2))
 ex:∃ t all v g,L[2]?=some (.q 9 (bp t))/\dH t/\sgZ 9=v/\aM 34 L v g (all.map cP)/\(v=.af\/3<=g)/\bt v=all.isEmpty/\all.length<=9*k/\cw (l.l.drop k) t all=fin
theorem tP (s:a6) (D:dH s) (l:bL b7) (bw:∀ j∈l.l,fv j) (b9:l.l.length<=1000000) :aY 12 [.ah (bp s),hc l] (.a1 [.ah (bp (eY s l.l).1),gb (ia (eY s l.l).2.1),.i6 (eY s l.l).2.2]):=by
 apply bc func12 [[[0],[1],[2],[3,0]]];have bA:=dF;have au:=hR s;have aQ:=BO s D;have ai:bx (.ad 45) (hc l)=_:=cd _;have bad:∀ (e:Int) (L:ae),Rd L (.a1 [.ah [.i6 0,.af,.af,.i6 0,.af,.i6 0,.af,.i6 0,.bool false],.af,.i6 e]) (.a1 [.ah (bp g2),gb (ia []),.i6 e]):=fun e L=>aE
 have Y:eY s l.l=if fl s=0 then (if 60<l.l.length then (g2,[],4) else cw l.l (dP s) []) else (g2,[],8):=rfl
 obtain⟨bZ,aO⟩:=ao (bp s);rw[<-aO] at au aQ ⊢;obtain⟨a4,a0,cC,cz,ct,cA,cr,cn,ck,cv,cu,cB,cs,cp,cm,cx,a3⟩:=au;simp[a4,a0];refine av aQ (by simp[aq,U.aw,a3]) ?_;by_cases h1:fl s=0
 ·by_cases aN:60<l.l.length
  ·have W:(60:Int)<(l.l.length:Int):=F;simp[h1,ai,W];rw[Y,aj h1,aj aN];exact bad 4 _
  ·have bh:=(iR s).1 h1;have aW:=BQ s D bh.pen;rw[<-aO] at aW;have bF:dH (dP s):=⟨D.aD,by show gF (dZ s.pl.l).l;rw[gJ];exact D.pl,by show (dZ s.pl.l).l.length<=_;rw[gJ];exact D.len⟩
   have b3:=hR (dP s);rw[Y,aj h1,ak aN];obtain⟨aA,aS⟩:=ao (cw l.l (dP s) []);rw[<-aS];have ar:∀ t:a6,ax [U.i6 0,.af,.af,.i6 0,.af,.i6 0,.af,.i6 0,.bool false] 0 (bp t)=bp t:=fun t=>cI rfl
   have u:∀ t:a6,(bp t).length=9:=fun _=>rfl
   have P:∀ t:a6,(bp t).take 9=bp t:=fun _=>rfl
   have W:¬ (60:Int)<(l.l.length:Int):=F;simp[h1,ai,W,a4,a0];refine av aW (by simp[aq,U.aw,a3]) ?_;simp[u,ar,ai];refine bz l.l.length (NG s l aA) ?_ ⟨V,V,V,V,V,V,by simp[B3],dP s,[],.af,0,V,bF,V,.nil 0,.inl rfl,rfl,V,aS.symm⟩;rintro k bX L hk ⟨aB,aH,aJ,aC,aF,aG,p,t,all,bY,bP,G,O,aL,al,I,aU,b6,C⟩;obtain⟨bX,rfl⟩:=Ar aB aH aJ aL aC aF aG;clear aB aH aJ aL aC aF aG;by_cases ag:k<l.l.length
   ·obtain⟨j,Z,bs⟩:=aP ag;have B:=bw j bs;have J:=mK B;have bf:=cq (k:=k) F;have aT:bO (.ad 45) (hc l) _=_:=dg Z;have ap:=Qd t O j B;have aR:=jp t;obtain⟨X,bk⟩:=ao (dN j);rw[<-bk] at J aT ap;obtain⟨aX,cf,ch,ce,oA,cg,ci,bM,bN⟩:=J;have bD:ax (U.i6 0::.int .u8 0::.int .u32 0::.af::.int .u64 0::.int .u8 0::.str [] ::.int .u8 0::.i6 0::.int .u64 0::.str [] ::.int .u32 0::.int .u32 0::bT 32 (.int .u8 0)) 0 X=X:=cI (by rw[aX];rfl);have H:∀ (g:ae) (c:Nat) (b:am),L[c]?=some b->(L++g)[c]?=some b:=fun g c b w=>by rw[aV (a2 w)];exact w
    have R:=u t;have ay:=P t;obtain⟨S,bi⟩:=ao (bp t);rw[<-bi] at G R ay ap aR;simp[ag,aT,aX,bM,bD,H _ _ _ G,R,ay];refine av ap (by simp[aq,U.aw,aR,bN]) ?_;by_cases m:dh t j=0
    ·have bE:so t j=(cl t j).1:=by unfold so;rw[aj m]
     have bC:sn t j=some (cl t j).2:=by unfold sn;rw[aj m]
     rw[bE,bC,m];obtain⟨K,b8⟩:=Jy O B m;obtain⟨bH,_⟩:=pL O B m;obtain⟨o,v⟩:=ao (L++[am.q 45 X,am.q 9 (bp (cl t j).1)]);have bQ:aM 34 o bY bP (all.map cP):=by rw[v];exact al.more _
     have bI:∀ e∈(cl t j).2.map cP,e.length=34:=fun e bm=>by
      obtain⟨r,bB,rfl⟩:=cy.1 bm;exact Jz O B m r bB
     obtain⟨a7,bK,z,a9,T,b4,bb,az,bd⟩:=iG (by_:=48) (x:=gb (some (cl t j).2)) (xs:=(cl t j).2.map cP) bQ (by simp[gb]) bI F F (by rw[bA];simp;omega);rw[<-c5] at T;have cj:=T.cells;have q1:o[1]?=some (.q 9 (bp g2)):=by rw[v];exact H _ _ _ p
     have bR:o[2]?=some (.q 9 S):=by rw[v];exact H _ _ _ G
     have bS:o[L.length+1]?=some (.q 9 (bp (cl t j).1)):=by rw[v];simp
     have b5:o.length=L.length+2:=by rw[v];simp
     have ca:=a2 G;have bu:=al.lt;have Q:∀ b,(b<3\/L.length<=b)->b<o.length->z[b]?=o[b]?:=fun b w bl=>bb b bl (by
      rcases bu with h | h
      ·exact .inl h
      ·rcases w with w | w
       ·exact I.imp id fun h=>F
       ·exact .inr F)
     have bU:z[1]?=some (.q 9 (bp g2)):=by rw[Q 1 (.inl F) F];exact q1
     have aZ:z[2]?=some (.q 9 S):=by rw[Q 2 (.inl F) F];exact bR
     have bW:z[L.length+1]?=some (.q 9 (bp (cl t j).1)):=by rw[Q _ (.inr F) F];exact bS
     have bG:bt a7=(all++(cl t j).2).isEmpty:=by
      rw[bd,aU];cases h:(cl t j).2 with
      | nil=>rw[h] at K;simp at K
      | cons a b=>simp
     have cb:(all++(cl t j).2).isEmpty=false:=by
      cases h:(cl t j).2 with
      | nil=>rw[h] at K;simp at K
      | cons a b=>simp
     simp[u,P,ar];rw[<-v];simp[a9];refine b2.bq ?_;simp[bW,u,P,aZ,bf];have bV:∀ c:am,(z.set 2 c)[2]?=some c:=fun c=>b1 (a2 aZ)
     have bj:ax S 0 (bp (cl t j).1)=bp (cl t j).1:=cI (by rw[u,R]);refine⟨F,V,V,V,V,V,V,?_,(cl t j).1,all++(cl t j).2,a7,bK,?_,bH,V,T.c6 ?_,?_,bG,by simp;omega,?_⟩
     ·rw[br F];exact bU
     ·rw[bV,bj]
     ·rcases az with h | ⟨h,h'⟩ | h
      ·exact .inr (br F)
      ·exact .inr (br (by have:=I.resolve_left h;omega))
      ·exact .inl h
     ·rcases az with h | ⟨h,h'⟩ | h
      ·exact .inr F
      ·exact .inr (by have:=I.resolve_left h;omega)
      ·exact .inl h
     ·rw[<-WU Z m];exact C
    ·rw[B3] at p;have a8:∀ (g:ae) (h:1<(L++g).length),(L++g)[1]'h=.q 9 [.i6 0,.af,.af,.i6 0,.af,.i6 0,.af,.i6 0,.bool false]:=fun g h=>(aK.1 (H g 1 _ p)).2
     have cc:=a2 p;have a5:∀ (g:ae) (c:am),((L++g).set 1 c)[1]?=some c:=fun g c=>b1 (by simp;omega)
     rw[WT Z m] at C;subst C;simp[m,u,a8,ax];exact bad _ _
   ·rw[B3] at p;have a5:∀ c:am,(L.set 1 c)[1]?=some c:=fun c=>b1 (a2 p)
    have bv:k=l.l.length:=F;rw[bv,Fc] at C;have bo:aA=(t,all,0):=C.symm;simp[ag,G,p,u,P,ar,a5];rw[bo];exact DM (.same _ (jp t)) ((al.c6 (I.imp id fun h=>br F)).q.jA rT (ia all) (by rw[aU,Ya]) (lB all)) (.same _ rfl)
 ·have bg:fl s=8:=Af fun h=>h1 ((iR s).2 h)
  simp[bg];rw[Y,ak h1];exact bad 8 _
end Op
end Go.bh

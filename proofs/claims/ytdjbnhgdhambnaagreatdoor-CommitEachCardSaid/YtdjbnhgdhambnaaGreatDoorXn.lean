/-
  Stages: checked, walked in both texts.
-/
import Derived.Test.YtdjbnhgdhambnaaGreatDoorXm
set_option maxHeartbeats 16000000
set_option maxRecDepth 100000
set_option linter.unusedVariables false
set_option linter.unusedSimpArgs false
set_option linter.unnecessarySimpa false
namespace Go.bf
open Go Go.Proofs Go.Proofs.Tryz
namespace Op
open b8 bm
def o7 (s:bl) (x:aK) :Bool:=decide (x.aA<s.b4)&&(decide (fk x.op=0)&&(decide (x.id∉s.aL.aD.l)&&decide (x.bA.l=dp s.aL.aD.l x.op)))
noncomputable def qJ (s:bl) :Bool:=decide (fy s.aL=0)&&(decide (c2 s.cr s.pl.l=0)&&(decide (0<=s.b4)&&decide (s.b4<=1000000000)))
def vg (s:bl) :Bool:=decide (∀ k,k<s.pl.l.length->o7 s (gB s.pl.l k)=true)
noncomputable def gi (s:bl) :Int:=if qJ s&&vg s then 0 else 8
theorem qT {s:bl} (h:qJ s=false) :gi s=8:=by unfold gi;rw[h];rfl
theorem qS {s:bl} {k:Nat} (hk:k<s.pl.l.length) (h:o7 s (gB s.pl.l k)=false) :gi s=8:=by
 unfold gi;have:vg s=false:=by
  unfold vg;rw[cp];intro g;have:=g k hk;rw[h] at this;cases this
 rw[this,uN];rfl
theorem KV {s:bl} (h:qJ s=true) (g:∀ k,k<s.pl.l.length->o7 s (gB s.pl.l k)=true) :gi s=0:=by unfold gi vg;rw[h,bW g];rfl
structure MB (s:bl) (k:Nat) (sgZ:aP) (l:ae) :Prop where
 e7:sgZ 1=.ptr 0 0 9
 yk:sgZ 27=cJ s.pl
 Qw:sgZ 28=.i6 s.pl.l.length
 Qx:sgZ 29=.i6 k
 ol:l[0]?=some (.q 9 (bx s))
 jC:∀ j,j<k->o7 s (gB s.pl.l j)=true
theorem Gk (s:bl) (m:fQ s) :aV 24 [.ah (bx s)] (.i6 (gi s)):=by
 apply a8 func24 [da 0 25++[[25,21]]];have Q:=iN s;have aT:=mi s.aL;have aP:ar (b1 s.cr s.pl)=true:=by simp[b1,ar,U.ax,jw]
 have aK:=Dy s.aL m.aL;have a0:=uH s.cr s.pl m.pl (by have:=m.len;omega);have aW:bt (.ad 45) (cJ s.pl)=_:=ca _;have bh:=m.aL.no;have C:qJ s=(decide (fy s.aL=0)&&(decide (c2 s.cr s.pl.l=0)&&(decide (0<=s.b4)&&decide (s.b4<=1000000000)))):=rfl;have aO:=bV s.aL.aD;obtain⟨S,z⟩:=aq (bx s);rw[<-z] at Q ⊢;obtain⟨o,a5,bc,a9,bp,bu,bo,bm,bi,bq,a7,bb,H,bn,bk,bs,a6⟩:=Q;simp[o,bc];refine av aK (by simp[ar,U.ax,aT]) ?_;by_cases h1:fy s.aL=0
 ·simp[h1,o,a9];refine av a0 (by simp[ar,U.ax,aP]) ?_;by_cases v:c2 s.cr s.pl.l=0
  ·by_cases J:s.b4<0
   ·simp[h1,v,J,o,H];exact aR (by rw[qT (by rw[C,cp (show ¬ 0<=s.b4 by omega)];simp)]) rfl
   ·by_cases Z:1000000000<s.b4
    ·simp[h1,v,J,Z,o,H];exact aR (by rw[qT (by rw[C,cp (show ¬ s.b4<=1000000000 by omega)];simp)]) rfl
    ·have a1:qJ s=true:=by rw[C,bW h1,bW v,bW (show 0<=s.b4 by omega),bW (show s.b4<=1000000000 by omega)];rfl
     simp[h1,v,J,Z,o,H,bb,aW];refine bw s.pl.l.length (MB s) ?_ ⟨V,V,V,V,by simp[z],fun D h=>F⟩;rintro k bd l hk ⟨R,T,W,Y,P,ap⟩;obtain⟨bd,rfl⟩:=e2 R T W Y;clear R T W Y;rw[<-z] at P;by_cases p:k<s.pl.l.length
     ·obtain⟨x,ay,a3⟩:=aQ p;have j:=m.pl x a3;have w:=hn j;have aC:IntKind.i64.wrap ((k:Int)+1)=((k+1:Nat) :Int):=by rw[IntKind.wrap_i64];have:=m.len;omega
      have al:bF (.ad 45) (cJ s.pl) _=_:=c6 ay;have aJ:=g3 ay;have aw:=xa x.op j.op;have am:=pK s.aL.aD m.aL.aD F x.id j.id;have K:=Bg s m x.op j.op;have heq:=GK x.bA (fp (dp s.aL.aD.l x.op)) j.bA (yD j.op) j.len;rw[kw] at heq;have a4:=br j.id;have O:=dN x.op;have aN:=bV x.bA;have aM:=bV (fp (dp s.aL.aD.l x.op));have ak:=cP x.id;have B:o7 s (gB s.pl.l k)=(decide (x.aA<s.b4)&&(decide (fk x.op=0)&&(decide (x.id∉s.aL.aD.l)&&decide (x.bA.l=dp s.aL.aD.l x.op)))):=by rw[aJ];rfl
      obtain⟨X,aj⟩:=aq (aX x);rw[<-aj] at w al;obtain⟨aB,ag⟩:=aq (au x.op);obtain⟨bf,aE⟩:=aq (ao x.id);have f1:=w.len;have f2:=w.aA;have f3:=w.op;have f4:=w.id;have f5:=w.bA;rw[<-ag] at f3 aw K O;rw[<-aE] at f4 am a4 ak;rw[<-z] at K;have aG:X.take 45=X:=aI F;have f20:X[0]?=some (.i6 x.aA):=by rw[aj];rfl
      have f50:X[44]?=some (ai x.bA):=by rw[bC F,f5]
      have bg:aB.length=11:=by rw[ag];rfl
      have a2:=iU f1;have az:∀ t:ae,(l++t)[0]?=some (.q 9 S):=fun t=>by rw[aS (aY P)];exact P
      have I:∀ (t:ae) (h:0<(l++t).length),(l++t)[0]'h=.q 9 S:=fun t h=>(aH.1 (az t)).2
      simp[p,al,f1,aG,a2,I,o,H,f2];by_cases q1:s.b4<=x.aA
      ·simp[q1];exact aR (by rw[qS p (by rw[B,cp (show ¬ x.aA<s.b4 by omega)];rfl)]) rfl
      ·simp[q1,f1,f3];refine av aw (by simp[ar,U.ax,O]) ?_;by_cases g:fk x.op=0
       ·simp[q1,g,I,o,a7,f1,f4];refine av am (by simp[ar,U.ax,aO,ak]) ?_;by_cases u:x.id∈s.aL.aD.l
        ·simp[q1,g,u];exact aR (by rw[qS p (by rw[B,cp (show ¬ x.id∉s.aL.aD.l by simpa using u)];simp)]) rfl
        ·simp[q1,g,u,f1,f5,I,o,a5,f3];refine av K (by simp[ar,U.ax,O,a6]) ?_;simp[q1,g,u];refine⟨f50,av heq (by simp[ar,aN,aM]) ?_⟩;by_cases G:x.bA.l=dp s.aL.aD.l x.op
         ·simp[q1,g,u,G,aC];refine⟨F,V,V,V,V,by rw[<-z];exact az _,fun D aU=>?_⟩;by_cases e:D=k
          ·subst e;rw[B,bW (show x.aA<s.b4 by omega),bW g,bW u,bW G];rfl
          ·exact ap D F
         ·simp[q1,g,u,G];exact aR (by rw[qS p (by rw[B,cp G];simp)]) rfl
       ·simp[q1,g];exact aR (by rw[qS p (by rw[B,cp g];simp)]) rfl
     ·simp[p];exact aR (by rw[KV a1 fun D aU=>ap D F]) rfl
  ·simp[v];exact aR (by rw[qT (by rw[C,cp v];simp)]) rfl
 ·simp[h1];exact aR (by rw[qT (by rw[C,cp h1];simp)]) rfl
structure MG (s:bl) (k:Nat) (sgZ:aP) (l:ae) :Prop where
 e7:sgZ 1=.ptr 0 0 9
 i9:sgZ 3=.i6 k
 ol:l[0]?=some (.q 9 (bx s))
 jC:∀ j,j<k->o7 s (gB s.pl.l j)=true
theorem Gp (s:bl) (o:fQ s) :aV 25 [.ah (bx s)] (.i6 (gi s)):=by
 apply a8 func25 [da 0 27++[[27,21]]];have P:=iN s;have aU:=mi s.aL;have aT:ar (b1 s.cr s.pl)=true:=by simp[b1,ar,U.ax,jw]
 have aN:=UR s.aL o.aL;have a0:=UB s.cr s.pl o.pl (by have:=o.len;omega);have al:bt (.ad 45) (cJ s.pl)=_:=ca _;have bc:=o.aL.no;have B:qJ s=(decide (fy s.aL=0)&&(decide (c2 s.cr s.pl.l=0)&&(decide (0<=s.b4)&&decide (s.b4<=1000000000)))):=rfl;have ag:=bV s.aL.aD;obtain⟨S,G⟩:=aq (bx s);rw[<-G] at P ⊢;obtain⟨j,bd,a6,a5,bn,bq,bm,bi,bg,bo,aB,aC,I,bk,bh,bp,bf⟩:=P;simp[j,a6];refine av aN (by simp[ar,U.ax,aU]) ?_;by_cases h1:fy s.aL=0
 ·simp[h1,j,a5];refine av a0 (by simp[ar,U.ax,aT]) ?_;by_cases v:c2 s.cr s.pl.l=0
  ·by_cases K:s.b4<0
   ·simp[h1,v,K,j,I];exact aR (by rw[qT (by rw[B,cp (show ¬ 0<=s.b4 by omega)];simp)]) rfl
   ·by_cases T:1000000000<s.b4
    ·simp[h1,v,K,T,j,I];exact aR (by rw[qT (by rw[B,cp (show ¬ s.b4<=1000000000 by omega)];simp)]) rfl
    ·have a1:qJ s=true:=by rw[B,bW h1,bW v,bW (show 0<=s.b4 by omega),bW (show s.b4<=1000000000 by omega)];rfl
     simp[h1,v,K,T,j,I];refine bw s.pl.l.length (MG s) ?_ ⟨V,V,by simp[G],fun C h=>F⟩;rintro k a7 l hk ⟨Q,R,D,ap⟩;obtain⟨a7,rfl⟩:=jP Q R;clear Q R;rw[<-G] at D;by_cases p:k<s.pl.l.length
     ·obtain⟨x,ay,a3⟩:=aQ p;have m:=o.pl x a3;have w:=hn m;have aG:IntKind.i64.wrap ((k:Int)+1)=((k+1:Nat) :Int):=by rw[IntKind.wrap_i64];have:=o.len;omega
      have aj:bF (.ad 45) (cJ s.pl) _=_:=c6 ay;have aM:=g3 ay;have aw:=JQ x.op m.op;have ak:=C3 s.aL.aD o.aL.aD F x.id m.id;have am:=Gl s.aL.aD o.aL.aD F x.op m.op;have heq:=ur x.bA (fp (dp s.aL.aD.l x.op)) m.bA (yD m.op) m.len;rw[kw] at heq;have a4:=br m.id;have O:=dN x.op;have aP:=bV x.bA;have aO:=bV (fp (dp s.aL.aD.l x.op));have Z:=cP x.id;have z:o7 s (gB s.pl.l k)=(decide (x.aA<s.b4)&&(decide (fk x.op=0)&&(decide (x.id∉s.aL.aD.l)&&decide (x.bA.l=dp s.aL.aD.l x.op)))):=by rw[aM];rfl
      obtain⟨X,Y⟩:=aq (aX x);rw[<-Y] at w aj;obtain⟨aE,W⟩:=aq (au x.op);obtain⟨a9,aJ⟩:=aq (ao x.id);have f1:=w.len;have f2:=w.aA;have f3:=w.op;have f4:=w.id;have f5:=w.bA;rw[<-W] at f3 aw am O;rw[<-aJ] at f4 ak a4 Z;have aK:X.take 45=X:=aI F;have f20:X[0]?=some (.i6 x.aA):=by rw[Y];rfl
      have f50:X[44]?=some (ai x.bA):=by rw[bC F,f5]
      have bb:aE.length=11:=by rw[W];rfl
      have a2:=iU f1;have az:∀ t:ae,(l++t)[0]?=some (.q 9 S):=fun t=>by rw[aS (aY D)];exact D
      have J:∀ (t:ae) (h:0<(l++t).length),(l++t)[0]'h=.q 9 S:=fun t h=>(aH.1 (az t)).2
      simp[D,j,aC,al,p,aj,f1,aK,a2,J,I,f2];by_cases q1:s.b4<=x.aA
      ·simp[q1];exact aR (by rw[qS p (by rw[z,cp (show ¬ x.aA<s.b4 by omega)];rfl)]) rfl
      ·simp[q1,f1,f3];refine av aw (by simp[ar,U.ax,O]) ?_;by_cases g:fk x.op=0
       ·simp[q1,g,J,j,aB,f1,f4];refine av ak (by simp[ar,U.ax,ag,Z]) ?_;by_cases u:x.id∈s.aL.aD.l
        ·simp[q1,g,u];exact aR (by rw[qS p (by rw[z,cp (show ¬ x.id∉s.aL.aD.l by simpa using u)];simp)]) rfl
        ·simp[q1,g,u,f1,f5,J,j,aB,f3];refine av am (by simp[ar,U.ax,O,ag]) ?_;simp[q1,g,u];refine⟨f50,av heq (by simp[ar,aP,aO]) ?_⟩;by_cases H:x.bA.l=dp s.aL.aD.l x.op
         ·simp[q1,g,u,H,aG];refine⟨F,V,V,by rw[<-G];exact az _,fun C aW=>?_⟩;by_cases e:C=k
          ·subst e;rw[z,bW (show x.aA<s.b4 by omega),bW g,bW u,bW H];rfl
          ·exact ap C F
         ·simp[q1,g,u,H];exact aR (by rw[qS p (by rw[z,cp H];simp)]) rfl
       ·simp[q1,g];exact aR (by rw[qS p (by rw[z,cp g];simp)]) rfl
     ·simp[D,j,aC,al,p];exact aR (by rw[KV a1 fun C aW=>ap C F]) rfl
  ·simp[v];exact aR (by rw[qT (by rw[B,cp v];simp)]) rfl
 ·simp[h1];exact aR (by rw[qT (by rw[B,cp h1];simp)]) rfl
open b8 bm
def eW (s:bl) (j:cx) :Int:=
 if j.ct=0 then
  (if s.gH then 9 else if j.id∈s.aL.aD.l\/j.id∈s.pl.l.map aK.id then 5
   else if dp s.aL.aD.l j.op=[] then (if (s.aL.aD.l.length:Int)=s.aL.cap then 8 else 1)
   else if (s.pl.l.length:Int)<s.cr then 6 else 7)
 else (u j.ct:Int)
theorem Pd (s:bl) (t:fQ s) (aC:c2 s.cr s.pl.l=0) (j:cx) (D:hr j) :aV 52 [.ah (bx s),.ah (dy j)] (.int .u8 (eW s j)):=by
 apply a8 func52 [];have Q:=iN s;have J:=lD D;have aw:ar (b1 s.cr s.pl)=true:=by simp[b1,ar,U.ax,jw]
 have az:bt (.ad 45) (cJ s.pl)=_:=ca _;have aA:bt (.ad 32) (ai s.aL.aD)=_:=ca _;have aS:=t.aL.no;have ap:=bV s.aL.aD;have C:=XM s.cr s.pl t.pl (by have:=t.len;omega) j.id D.id;have ay:yn s.cr s.pl.l j.id=.aZ [.bool (decide (j.id∈s.pl.l.map aK.id)),.i6 0]:=by unfold yn;rw[aj aC]
 rw[ay] at C;obtain⟨R,K⟩:=aq (decide (j.id∈s.pl.l.map aK.id));rw[<-K] at C;have P:=Bg s t j.op D.op;have aB:bt (.ad 32) (ai (fp (dp s.aL.aD.l j.op)))=some (.i6 ((dp s.aL.aD.l j.op).length)):=by
  have:(fp (dp s.aL.aD.l j.op)).l.length=(dp s.aL.aD.l j.op).length:=by rw[kw]
  simp[ai,this]
 have W:=pK s.aL.aD t.aL.aD F j.id D.id;have O:=cP j.id;have X:=dN j.op;have Y:(u j.ct:Int)=0<->j.ct=0:=jO j.ct 0;obtain⟨aQ,am⟩:=aq (bx s);obtain⟨L,al⟩:=aq (dy j);obtain⟨aP,V⟩:=aq (au j.op);obtain⟨aO,T⟩:=aq (ao j.id);rw[<-am] at Q P ⊢;rw[<-al] at J ⊢;rw[<-T] at C W O;rw[<-V] at P X;obtain⟨q,aE,a7,aM,a4,a6,a2,a1,a0,a5,ag,aN,a3,aI,aH,aJ,aG⟩:=Q;obtain⟨v,aW,ae,Z,nd,aX,aY,aT,aU⟩:=J;rw[<-V] at Z;rw[<-T] at nd;simp[q,aM,v,nd];refine av C (by simp[ar,U.ax,aw,O]) ?_;simp[q,aE,v,Z];refine av P (by simp[ar,U.ax,aG,X]) ?_;simp[aB,v,ae];by_cases h1:j.ct=0
 ·have G:=Y.2 h1;have o:eW s j=(if s.gH then 9 else if j.id∈s.aL.aD.l\/j.id∈s.pl.l.map aK.id then 5
   else if dp s.aL.aD.l j.op=[] then (if (s.aL.aD.l.length:Int)=s.aL.cap then 8 else 1)
   else if (s.pl.l.length:Int)<s.cr then 6 else 7):=by unfold eW;rw[aj h1]
  simp[G,q,aI];cases S:s.gH with
  | true=>
   simp;exact aR (by rw[o,aj S]) rfl
  | false=>
   have p:¬ s.gH=true:=by rw[S];simp
   by_cases w:j.id∈s.pl.l.map aK.id
   ·have I:R=true:=by rw[K,bW w]
    simp[I];exact aR (by rw[o,ak p,aj (.inr w)]) rfl
   ·have I:R=false:=by rw[K,cp w]
    simp[I,q,ag,v,nd];refine av W (by simp[ar,U.ax,ap,O]) ?_;by_cases B:j.id∈s.aL.aD.l
    ·simp[B];exact aR (by rw[o,ak p,aj (.inl B)]) rfl
    ·have z:¬ (j.id∈s.aL.aD.l\/j.id∈s.pl.l.map aK.id):=by rintro (h | h);exact B h;exact w h
     simp[B];by_cases m:dp s.aL.aD.l j.op=[]
     ·have H:¬ 0<(dp s.aL.aD.l j.op).length:=by rw[m];simp
      simp[m,q,ag,aH,aA];by_cases g:(s.aL.aD.l.length:Int)=s.aL.cap
      ·simp[g];exact aR (by rw[o,ak p,ak z,aj m,aj g]) rfl
      ·simp[g];exact aR (by rw[o,ak p,ak z,aj m,ak g]) rfl
     ·have H:0<(dp s.aL.aD.l j.op).length:=uU.2 m;simp[H,q,aN,aJ,az];by_cases g:(s.pl.l.length:Int)<s.cr
      ·simp[g];exact aR (by rw[o,ak p,ak z,ak m,aj g]) rfl
      ·simp[g,H];exact aR (by rw[o,ak p,ak z,ak m,ak g]) rfl
 ·have G:¬ (u j.ct:Int)=0:=fun h=>h1 (Y.1 h)
  simp[G,v,ae];exact aR (by unfold eW;rw[ak h1]) rfl
open b8 bm
structure MC (s:eR) (k:Nat) (sgZ:aP) (L:ae) :Prop where
 e7:sgZ 1=.ptr 0 0 5
 h0:sgZ 2=.ptr 1 0 5
 BG:sgZ 26=.int .i64 s.a2.al.l.length
 yk:sgZ 27=.int .i64 k
 z:L[1]?=some (.cells 5 [.int .i64 0,.af,.af,.int .i64 0,.af])
 st:∃ g,sgZ 25=g/\L[0]?=some (.cells 5 [.int .i64 s.cap,g,ai s.a2.ce,.int .i64 s.a2.b6,ai s.aD])/\nM s.a2.al k 2 g L
theorem O9 (s:eR) (w:lm s) :aV 92 [.ah (ck s)] (.ah (ck s)):=by
 apply a8 func92 [da 0 6++[[7],[6,2]]];have b8:=w.no;have aJ:=bV s.a2.ce;have aK:=bV s.aD;have bK:=hd s.a2.ce;have bM:=hd s.aD;have bc:=kT s.a2.ce w.a2.ce w.a2.qz;have bf:=kT s.aD w.aD F;simp[ck];refine av bf (by simp[ar,aK]) ?_;simp[bM,aw];refine av bc (by simp[ar,aJ]) ?_;simp[bK,aw];refine F0 s.a2.al (by have:=w.a2.lJ;omega) fun az bY dS aR=>?_
 have bn:=aR.bt;simp[dS,aw,bn];refine bw s.a2.al.l.length (MC s) ?_ ⟨V,V,V,V,V,az,V,V,⟨?_⟩⟩
 ·rintro k m L hk ⟨D,G,I,J,z,az,H,T,X⟩;obtain⟨m,rfl⟩:=gk D G H I J;clear D G H I J;have a1:IntKind.i64.wrap ((k:Int)+1)=((k+1:Nat) :Int):=by rw[IntKind.wrap_i64];have:=w.a2.lJ;omega
  by_cases v:k<s.a2.al.l.length
  ·rcases X.ex with ⟨aj,_⟩ | ⟨t,u,bP,bQ,rfl,ax,bS⟩
   ·rw[aj] at v;simp at v
   ·obtain⟨p,bu,bv⟩:=aQ v;have Z:df s.a2.al.l k=p:=dZ bu;have P:=(w.a2.al p bv).1;have aL:=hx (k6 (ps:=s.a2.al.l) (wk:=u) (k:=k));rw[pA] at aL;have ao:=sg (wk:=u) (k:=k) v;rw[ak F,Z] at ao;have a0:((g2 s.a2.al.l u k).flatten.drop (k*2)).take 2=bb p:=G6 k6 ao;have bd:=kT p.idsZ P.idsZ P.li;have a7:=bV p.idsZ;have bL:=hd p.idsZ;have aI:(bb p).length=2:=rfl;have bG:aw [U.af,.af] 0 (bb p)=bb p:=cH rfl;have bW:∀ (C:ae) (c:Nat) (b:am),L[c]?=some b->(L++C)[c]?=some b:=fun C c b O=>by rw[aS (aY O)];exact O
    have a6:∀ h,(bb p)[1]'h=bB p.opsZ:=fun _=>rfl
    have b0:(bb p)[0]?=some (ai p.idsZ):=rfl;simp[v,ax,a0,aI,bG,aL,a6];refine⟨F,?_⟩;refine A8 p.opsZ P.jE fun w' C bN W=>?_
    have bo:=W.bt;have b9:=P.jE;simp[bo];obtain⟨E0,K⟩:=aq (L++am.cells 2 (bb p) ::C);have a4:L++[am.cells 2 (bb p)]++C=E0:=by rw[K];simp
    rw[a4] at W;rw[<-K];refine bw p.opsZ.l.length (fun q m B=>B=E0/\m 1=.ptr 0 0 5/\m 2=.ptr 1 0 5/\m 3=.int .i64 k/\m 4=.ptr L.length 0 2/\m 5=w'/\m 25=.ad 2 t 0 s.a2.al.l.length s.a2.al.l.length (s.a2.al.l.length*2)/\m 26=.int .i64 s.a2.al.l.length/\m 27=.int .i64 k/\m 36=.int .i64 p.opsZ.l.length/\m 37=.int .i64 q) ?_ ⟨rfl,V,V,V,V,V,V,V,V,V,V⟩;rintro q m B ca ⟨rfl,D,G,aB,aG,aH,H,I,J,aC,aE⟩;obtain⟨m,rfl⟩:=Eb D G aB aG aH H I J aC aE;clear D G aB aG aH H I J aC aE;have a3:=cl (k:=q) F;by_cases Q:q<p.opsZ.l.length
    ·obtain⟨o,br,bs⟩:=aQ Q;rcases W with ⟨aj,_⟩ | ⟨b,b1,b2,rfl,Y⟩
     ·rw[aj] at Q;simp at Q
     ·have aN:=P.opsZ o bs;have bg:=bV o.ay;have a9:=kT o.ay aN.idsZ aN.len;have z:∀ e∈p.opsZ.l.map au,e.length=11:=fun e bh=>by obtain⟨y,_,rfl⟩:=cF.1 bh;rfl
      have ag:(p.opsZ.l.map au)[q]?=some (au o):=by rw[bX,br];rfl
      have bi:(p.opsZ.l.map au).flatten[q*11+1]?=some (ai o.ay):=lx z ag F;have bF:aw (p.opsZ.l.map au).flatten (q*11+1) [ai o.ay]=(p.opsZ.l.map au).flatten:=by
       rw[o6 z ag (show 1+[ai o.ay].length<=11 by simp),wx o,DC ag]
      have mp:=hd o.ay;have b4:=vI p.opsZ.l;have bH:=us Y;simp[Q,Y,bi];refine av a9 (by simp[ar,bg]) ?_;simp[Q,Y,bF,mp,a3,bH];omega
    ·have bx:q=p.opsZ.l.length:=F;subst bx;have b5:=aY ax;have R:∀ (c:Nat) (b:am),L[c]?=some b->B[c]?=some b:=fun c b O=>by rw[K,aS (aY O)];exact O
     have bO:B[L.length]?=some (.cells 2 (bb p)):=by rw[K];simp
     have bA:aw (g2 s.a2.al.l u k).flatten (k*2) [ai p.idsZ,w']=(g2 s.a2.al.l (fun i=>if i=k then w' else u i) (k+1)).flatten:=by
      have t1:=o6 k6 ao (j:=0) (vs:=[ai p.idsZ,w']) V;rw[nG,show aw (bb p) 0 [ai p.idsZ,w']=[ai p.idsZ,w'] from rfl] at t1;rw[t1,<-Z,Kj v]
     have a5:∀ h,(bb p)[0]'h=ai p.idsZ:=fun _=>rfl
     simp[R _ _ T,bO,aI,a5];refine av bd (by simp[ar,a7]) ?_;have b3:(g2 s.a2.al.l (fun i=>if i=k then w' else u i) (k+1)).flatten.length=s.a2.al.l.length*2:=by rw[hx k6,pA]
     have bC:aw [U.af,.af] 0 [ai p.idsZ]=[ai p.idsZ,.af]:=rfl;have bE:aw [ai p.idsZ,U.af] 1 [w']=[ai p.idsZ,w']:=rfl;simp[R _ _ T,R _ _ ax,bC,bE,bL,bN,v,bA,a1];have b7:L.length<=B.length:=by rw[K];simp
     obtain⟨aT,S⟩:=aq (am.cells (s.a2.al.l.length*2) (g2 s.a2.al.l (fun i=>if i=k then w' else u i) (k+1)).flatten);have ap:∀ (c:Nat) (b:am),c≠t->L[c]?=some b->(B.set t aT)[c]?=some b:=fun c b h1 g=>by
      rw[bp (fun e=>h1 e.symm)];exact R c b g
     refine⟨F,V,V,V,V,by rw[<-S];exact ap _ _ F z,_,V,by rw[<-S];exact ap _ _ F T,⟨.inr ⟨t,fun i=>if i=k then w' else u i,bP,bQ,rfl,bT F,fun i bk bl=>?_⟩⟩⟩;by_cases aM:i=k
     ·subst aM;simp only[if_true];rw[Z,<-S];refine (W.frame fun b h1 g=>?_).mono (by simp;omega);rw[bp (by simp at h1;omega)]
     ·simp only[ak aM];rw[<-S];exact (bS i F bl).frame fun b h1 g=>by
       obtain⟨y,aO,_⟩:=aQ g;rw[aO];exact ap b y F aO
  ·have bm:k=s.a2.al.l.length:=F;subst bm;have cb:=X.cells;have bJ:=aY z;have bU:∀ c:am,(L.set 1 c)[1]?=some c:=fun c=>bT bJ
   simp[T,z,aw,bU];have bz:=(X.frame (L':=L.set 1 (am.cells 5 [U.int .i64 s.cap,az,ai s.a2.ce,.int .i64 s.a2.b6,ai s.aD])) fun b h1 g=>bp F).rd;refine .ah _ _ rfl fun i c bZ h1 g=>?_
   rcases i with _ | _ | _ | _ | _ | i
   ·simp[ck] at h1 g;subst h1 g;exact .same _ rfl
   ·simp[ck] at h1 g;subst h1 g;exact bz
   ·simp[ck] at h1 g;subst h1 g;exact .same _ aJ
   ·simp[ck] at h1 g;subst h1 g;exact .same _ rfl
   ·simp[ck] at h1 g;subst h1 g;exact .same _ aK
   ·simp at h1
 ·rcases aR with ⟨bq,bI⟩ | ⟨t,aA,aU,aW,aX⟩
  ·exact .inl ⟨bq,bI⟩
  ·refine .inr ⟨t,fun _=>.af,by simp at aA;omega,aU,aW,?_,fun i bk=>F⟩;rw[Kk];obtain⟨aP,rfl⟩:∃ aP,t=aP+2:=⟨t - 2,by simp at aA;omega⟩
   simpa using aX
open b8 bm
def nZ (s:List B) :List UInt8:=s.map fun x=>UInt8.ofNat x.toNat
theorem Gr:∀ {a b:List B},nZ a=nZ b->a=b
 | [],[],_=>rfl
 | [],_::_,h=>by simp[nZ] at h
 | _::_,[],h=>by simp[nZ] at h
 | x::a,y::b,h=>by
  simp only[nZ,dh,List.cons.injEq] at h;have h1:=cm UInt8.toNat h.1;simp only[ET] at h1;have g:=x.isLt;have j:=y.isLt;rw[Gr (a:=a) (b:=b) h.2,eC (x:=x) (y:=y) F]
theorem Ph (a b:List B) :(nZ a=nZ b)<->a=b:=⟨Gr,fun h=>by rw[h]⟩
theorem Gi:∀ a:List B,jv (a.map a7)=some (nZ a)
 | []=>rfl
 | x::a=>by
  simp only[dh,jv,Gi a,cu];simp[u,nZ]
theorem Gj {l:ae} {b:Nat} {x:List B} (j:x.length=32) (h:l[b]?=some (.q 32 (ao x))) :oT l (.ad 1 b 0 32 32 32)=some (.str (nZ x)):=by
 have m:=br j;have g:cD l 1 (.ad 1 b 0 32 32 32)=some (x.map a7,32):=by
  have:ao x=x.map a7:=rfl;rw[<-this];simp[cD,h,m,aI]
 unfold oT;simp only[g,Gi];rfl
theorem Pb {l:ae} {a b:Nat} {x y:List B} (j:x.length=32) (m:y.length=32) (h1:l[a]?=some (.q 32 (ao x))) (g:l[b]?=some (.q 32 (ao y))) {K:cv} (h:K (.bool (decide (x=y))) l) :
  cG 90 [.ad 1 a 0 32 32 32,.ad 1 b 0 32 32 32] l K:=by apply cR func90 [];simp[Gj j h1,Gj m g,Ph];exact h
def fw (k:Nat) :List B:=List.replicate k 1#8++List.replicate (32 - k) 0#8
theorem yY {k:Nat} (h:k<=32) :(fw k).length=32:=by unfold fw;simp;omega
theorem Pj (x:List B) (h:x.length=32) {bi:Nat} {l:ae} {xs:aN} (m:∀ y∈xs,y.length=32) (h1:l[bi]?=some (.q 32 (ao x))) :
  s4 89 [.ptr bi 0 32] l xs (fun y=>decide (y=x)):=by
 intro y j o v D t;apply cR func89 [];have g:o[bi]?=some (.q 32 (ao x)):=by rw[v.2 _ (aY h1)];exact h1
 have w:=aY g;have p:∀ c:am,(o++[c])[bi]?=some (.q 32 (ao x)):=fun c=>by rw[aS w];exact g
 have z:=br (m y j);have G:=br h;have C:∀ b:Nat,dB (.arr 32 1) (.ptr b 0 32) none none none=some (.ad 1 b 0 32 32 32):=fun b=>uv F
 simp[z,C];refine Pb (m y j) h V (p _) ?_;simp;exact t _ ⟨V,fun b u=>aS u⟩
open b8 bm
theorem IA (k:Nat) :(fw k).count 1#8=k:=by unfold fw;rw[uQ,List.count_replicate_self,List.count_replicate];simp
theorem SV {a b:Nat} (h:fw a=fw b) :a=b:=by rw[<-IA a,h,IA]
theorem SU {m:aN} (u:m.length<=32) {k:Nat} (hk:k<=32) (h:∀ j,j<k->fw j∈m) (g:fw k∈m) :k<32:=by
 refine Classical.byContradiction fun v=>?_
 have e:k=32:=F;subst e;have p:((List.range 33).map fw).Nodup:=by
  rw[List.Nodup,nF];exact (Am).imp fun q e=>q (SV e)
 have:=wj p fun x t=>by
  obtain⟨j,o,rfl⟩:=cF.1 t;rw[gS] at o;by_cases e:j=32
  ·subst e;exact g
  ·exact h j F
 simp at this;omega
theorem SX {k:Nat} (h:k<32) :aw (ao (fw k)) k [.int .u8 1]=ao (fw (k+1)):=by
 have g:k<(ao (fw k)).length:=by rw[br (yY F)];exact h
 rw[nr _ g];unfold ao fw;apply g7;intro i;by_cases e:k=i
 ·subst e;rw[bT (by simpa [ao,fw] using g),bX,aS V];simp;rfl
 ·rw[bp e,bX,bX];congr 1;by_cases h1:i<k
  ·rw[aS (by simp;omega),aS (by simp;omega)];simp[h1,show i<k+1 by omega]
  ·rw[ej (by simp;omega),ej (by simp;omega)];simp only[List.length_replicate];rw[Ak,Ak];by_cases j:i<32
   ·rw[aj F,aj F]
   ·rw[ak F,ak F]
theorem SS {k:Nat} (h:k<32) :(ao (fw k))[k]?=some (.int .u8 0):=by unfold ao fw;rw[bX,ej V];simp[show 0<32 - k by omega]
theorem Su {c:Int} {l:List aK} (h:c2 c l=0) :(mA l).l.length<=32/\(allM l).length<=32:=by
 obtain⟨h1,g⟩:=mG h;have j:=((m9 l).1 g).1;have o:=Ny (n:=4) fun s m=>Sx (j s m)
 have p:=St l;have:l.length<=8:=F;omega
structure MJ (s:bl) (m:bP) (k:Nat) (sgZ:aP) (L:ae) :Prop where
 e7:sgZ 1=.ptr 0 0 9
 h0:sgZ 2=.ptr 1 0 9
 i9:sgZ 3=.ptr 2 0 32
 kb:sgZ 4=ai m
 lz:sgZ 6=.i6 k
 ol:L[0]?=some (.q 9 (bx s))
 mF:L[1]?=some (.q 9 [.i6 0,.af,.af,.i6 0,.af,.i6 0,.af,.i6 0,.bool false])
 kn:L[2]?=some (.q 32 (ao (fw k)))
 hm:∀ j,j<k->fw j∈m.l
def ih (s:bl) :bl:=⟨s.aL,s.cr,eU s.pl.l,s.b4,s.gH⟩
theorem Gs (s:bl) (o:fQ s) (j:c2 s.cr s.pl.l=0) :aV 46 [.ah (bx s)] (.ah (bx (ih s))):=by
 apply a8 func46 [];have W:=iN s;have aX:=mi s.aL;have au:ar (b1 s.cr s.pl)=true:=by simp[b1,ar,U.ax,jw]
 obtain⟨az,bt⟩:=Su j;have bs:=o.len;have I:=XQ s.cr s.pl o.pl F F;rw[show yO s.cr s.pl.l=.aZ [ai (mA s.pl.l),.i6 0] by unfold yO;rw[aj j]] at I;have H:cU (mA s.pl.l):=fun y K=>by
  obtain⟨x,J,bb⟩:=(Ip _ _).1 K;exact (o.pl x J).bA y bb
 obtain⟨p,aB⟩:=aq (mA s.pl.l);rw[<-aB] at I H az;have a1:fI prog 89=true:=bd;obtain⟨z,h⟩:=aq (bx s);rw[<-h] at W ⊢;obtain⟨aK,bz,bQ,aM,bJ,bN,bH,bF,bC,bL,bK,bP,bI,bG,bE,bM,bB⟩:=W;have bc:aw (bO 32 (.int .u8 0)) 0 (bO 32 (.int .u8 0))=ao (fw 0):=rfl;have bf:(bO 32 (.int .u8 0) :ag).length=32:=rfl;have bv:(bO 32 (.int .u8 0) :ag)=ao (fw 0):=rfl;simp[aK,aM,bc,bf];refine av I (by simp[ar,U.ax,au]) ?_;simp;refine bw 32 (MJ s p) ?_ ⟨V,V,V,V,V,by simp[h],V,V,fun O a4=>F⟩;rintro k bi L hk ⟨X,Y,Z,ae,ak,P,aJ,R,aA⟩;obtain⟨bi,rfl⟩:=gk X Y Z ae ak;clear X Y Z ae ak;rw[<-h] at P;simp;refine xY p H F a1 (Pj (fw k) (yY hk) H R) fun g D=>?_
 have v:g[0]?=some (.q 9 z):=by rw[D.2 _ (aY P)];exact P
 have q1:g[1]?=some (.q 9 [.i6 0,.af,.af,.i6 0,.af,.i6 0,.af,.i6 0,.bool false]):=by rw[D.2 _ (aY aJ)];exact aJ
 have w:g[2]?=some (.q 32 (ao (fw k))):=by rw[D.2 _ (aY R)];exact R
 have aC:=br (yY hk);by_cases m:fw k∈p.l
 ·have G:=SU az hk aA m;have t:p.l.any (fun y=>decide (y=fw k))=true:=sP.2 ⟨_,m,V⟩;have a5:cn .rem .i64 (k:Int) .i64 32=some (.i6 k):=by
   have:(k:Int).tmod 32=k:=Int.tmod_eq_of_lt F F;simp[cn,this]
  have aQ:=cl (k:=k) F;have ap:=SS G;have aE:=SX G;obtain⟨N,aS⟩:=aq (ao (fw k));rw[<-aS] at w ap aE aC;simp[t,a5,w,ap,aQ,G];have a9:U.int .u8 (u (1#8:B))=.int .u8 1:=rfl;rw[a9,aE];have bh:∀ c:am,(g.set 2 c)[2]?=some c:=fun c=>bT (aY w)
  refine⟨F,F,V,V,V,V,V,?_,?_,bh _,fun O a4=>?_⟩
  ·rw[bp F,<-h];exact v
  ·rw[bp F];exact q1
  ·by_cases e:O=k
   ·subst e;exact m
   ·exact aA O F
 ·have t:p.l.any (fun y=>decide (y=fw k))=false:=by
   rw[Af];intro y K;simp;intro e;exact m (e ▸ K)
  have C:=XI s.cr s.pl o.pl F (fw k) (yY hk);obtain⟨aP,bo⟩:=OV (x:=fw k) ((m9 s.pl.l).1 (mG j).2).1 fun x J a3=>m (by rw[aB];exact (Ip _ _).2 ⟨x,J,a3⟩)
  rw[OT,aj j,aj j,aj j,aP] at C;have aT:(ao (fw k)).take 32=ao (fw k):=aI F;have a0:=cP (fw k);have aR:b1 s.cr (eU s.pl.l)=[.i6 s.cr,cJ (eU s.pl.l)]:=rfl;rw[aR] at C;have aW:=O9 s.aL o.aL;have bq:z=[.i6 s.aL.cap,e0 s.aL.a2.al,ai s.aL.a2.ce,.i6 s.aL.a2.b6,ai s.aL.aD,.i6 s.cr,cJ s.pl,.i6 s.b4,.bool s.gH]:=h;simp[t,v,w,aK,aM,aC,aT];refine av C (by simp[ar,U.ax,au,a0]) ?_;have aG:aw z 5 [U.i6 s.cr,cJ (eU s.pl.l)]=bx (ih s):=by rw[h];rfl
  have aO:∀ c:am,(g.set 0 c)[0]?=some c:=fun c=>bT (aY v)
  have bm:∀ c:am,(g.set 0 c)[1]?=some (.q 9 [.i6 0,.af,.af,.i6 0,.af,.i6 0,.af,.i6 0,.bool false]):=fun c=>by rw[bp F];exact q1
  have Q:=iN (ih s);have ay:=kN (ih s);have aH:aw (bx (ih s)) 0 (ck s.aL)=bx (ih s):=rfl;have a7:(ih s).aL=s.aL:=rfl;obtain⟨T,aU⟩:=aq (bx (ih s));rw[<-aU] at aG aH ay Q ⊢;obtain⟨S,bk,aN,_⟩:=Q;rw[a7] at aN;have a6:(ck s.aL).length=5:=rfl;have bu:(ck s.aL).take 5=ck s.aL:=rfl;simp[t,v,aG,aO,S,aN];refine av aW (by simp[ar,U.ax,aX]) ?_;have bg:aw [U.i6 0,.af,.af,.i6 0,.af,.i6 0,.af,.i6 0,.bool false] 0 T=T:=cH (by rw[S];rfl);have bn:∀ c d:am,((g.set 0 c).set 1 d)[1]?=some d:=fun c d=>bT (by simpa using aY q1)
  simp[aO,bm,bn,S,bk,a6,aH,bg];exact .same _ ay
end Op
theorem Om {P:bg} {G:Nat->U} {f:cb} {args:ag} {h h' n2:aE} {cs cs' : ag} (C:jq P G f args h (.aZ cs) h') (wk:ir h' n2) (H:cs'.length=cs.length)
  (J:∀ (j:Nat) (c c' : U),cs[j]?=some c->cs'[j]?=some c'->ip h' n2 c c') :jq P G f args h (.aZ cs') n2:=by
 intro u B w muZ o rel z I K;refine (C u B w muZ o rel z I K).mono ?_;rintro e w' ⟨m,muZ',rfl,v,t,g⟩;refine⟨m,muZ',rfl,v.trans (wk.ext w' muZ'),wk.rel t,?_⟩;cases g with
 | aZ _ o O g=>
  refine .aZ cs' o F fun j c' m p D=>?_
  have q:j<cs.length:=by rw[<-H];exact (aH.1 p).1
  exact wk.ky t (J j cs[j] c' (bC q) p) (g j cs[j] m (bC q) D)
theorem Oi {P:bg} {G:Nat->U} (u:P.follows .mixedOrders=true) (o:∀ g,(G g).ax=true) {f:cb} {args:ag} {l:ae} {K:cv}
  (h:fP P G f args l (c:=⟨fun r l'=>∃ cs cs' m,r=.aZ cs/\ir (aU l') (aU m)/\cs'.length=cs.length/\(∀ (j:Nat) (c c' : U),cs[j]?=some c->cs'[j]?=some c'->ip (aU l') (aU m) c c')/\l.length<=m.length/\K (.aZ cs') m⟩)) :fP P G f args l (c:=⟨K⟩):=by obtain⟨r,l',p,z,cs,cs',m,rfl,w,q,v,t,hk⟩:=h;exact⟨.aZ cs',m,.ext (Om (sn u o p) w q v),t,hk⟩
namespace Op.bm
open b8 Op
structure MK (c:Int) (s:fr) (x:List B) (gY:Nat) (l0:ae) (k:Nat) (v1:U) (l:ae) :Prop where
 ol:l[gY]?=some (.q 2 (b1 c s))
 mF:l[gY+1]?=some (.q 32 (ao x))
 kn:l[gY+2]?=some (.q 2 [.i6 0,.af])
 ex:∃ g h j,l[gY+3]?=some (.q 2 [.i6 c,g])/\aJ 45 l v1 h ((cK x (s.l.take k)).map aX)/\aJ 45 l g j ((cL x (s.l.take k)).map aX)/\(v1=.af\/gY+4<=h)/\(g=.af\/gY+4<=j)/\(v1=.af\/g=.af\/h≠j) ∧
  bq v1=(cK x (s.l.take k)).isEmpty/\bq g=(cL x (s.l.take k)).isEmpty
 len:gY+4<=l.length
 BE:∀ b,b<gY->l[b]?=l0[b]?
structure ML (c:Int) (s:fr) (x:List B) (gY:Nat) (l0:ae) (k:Nat) (sgZ:aP) (l:ae) :Prop where
 h0:sgZ 2=.ptr gY 0 2
 i9:sgZ 3=.ptr (gY+1) 0 32
 kb:sgZ 4=.ptr (gY+2) 0 2
 m8:sgZ 8=.ptr (gY+3) 0 2
 Hj:sgZ 22=cJ s
 Hk:sgZ 23=.i6 s.l.length
 Qv:sgZ 24=.i6 k
 h:∃ v1,sgZ 9=v1/\MK c s x gY l0 k v1 l
theorem XJ (c:Int) (s:fr) (bs:hR s.l) (bZ:s.l.length<=1000000) (x:List B) (bx:x.length=32) (bH:c2 c s.l=0) {l0:ae} {K:cv}
  (az:∀ C u t v l',l0.length<=l'.length->(∀ b,b<l0.length->l'[b]?=l0[b]?)->aJ 45 l' C t ((cK x s.l).map aX)->aJ 45 l' u v ((cL x s.l).map aX)->(C=.af\/l0.length<=t)->(u=.af\/l0.length<=v)->(C=.af\/u=.af\/t≠v)->bq C=(cK x s.l).isEmpty->bq u=(cL x s.l).isEmpty->K (.aZ [.ah [.i6 c,u],C,.i6 0]) l') :
  cG 91 [.ah (b1 c s),.ah (ao x)] l0 K:=by
 apply cR func91 [];have b3:bt (.ad 45) (cJ s)=_:=ca _;have bS:=jw s;have ck:=br bx;have bO:=uH c s bs bZ;have bQ:ar [U.ah (b1 c s)]=true:=by simp[b1,ar,U.ax,bS]
 simp[b1,ck];refine av bO bQ ?_;simp[bH,b3];obtain⟨j,R⟩:=aq (l0.length);rw[<-R] at az ⊢;refine bw s.l.length (ML c s x j l0) ?_ ⟨V,V,V,V,V,V,V,.af,V,⟨by rw[R];simp[b1],by rw[R];simp,by rw[R];simp,⟨.af,0,0,by rw[R];simp,.nil 0,.nil 0,.inl rfl,.inl rfl,.inl rfl,rfl,rfl⟩,by simp[R],fun b o=>aS F⟩⟩;rintro k cw l hk ⟨a4,a8,a9,bb,a5,a6,a7,C,bc,hH⟩;obtain⟨cw,rfl⟩:=zR a4 a8 a9 bb bc a5 a6 a7;clear a4 a8 a9 bb bc a5 a6 a7;simp;refine gq (fun h=>?_) (fun h=>?_)
 ·simp only[bI] at h;obtain⟨y,aU,cm⟩:=aQ (l:=s.l) (k:=k) F;have S:=bs y cm;have bf:=hn S;have cd:=DS (x:=x) S;have aA:=hn cd;have a3:=cl (k:=k) F;have bl:bF (.ad 45) (cJ s) _=_:=c6 aU;have aT:=zD S.id;obtain⟨aY,aE,aG,⟨u,t,v,ay,au,J,d1,d2,d3,aC,aD⟩,b4,aB⟩:=hH;obtain⟨n,aP⟩:=aq (l.length);have bv:∀ K:cv,(∀ w l',b7 32 ao (l++[am.q 45 (aX y)]) l' w y.bA.l y.bA.isNone->K (.ah (ic y w)) l')->cG 101 [.ah (aX y)] (l++[am.q 45 (aX y)]) K:=fun K az=>D6 y S az
  obtain⟨P,bM⟩:=aq (aX y);rw[<-bM] at bf bl aT bv;have f1:=bf.len;have cg:=iU f1;simp[bl,f1,cg,aI,<-aP];refine bv _ fun w aW z=>?_
  have b0:=z.le;have b5:(l++[am.q 45 P]).length=n+1:=by rw[aP];simp
  rw[b5] at b0;have cq:aW[n]?=some (.q 45 P):=by rw[z.same n F,aP];simp
  have aL:=aT w;have aM:(ic y w).length=45:=by rw[<-aL,nr w F,jU,f1]
  have bg:∀ h:44<(ic y w).length,(ic y w)[44]'h=w:=fun h=>by
   have:(ic y w)[44]?=some w:=by rw[<-aL,nr w F,bT F]
   exact (aH.1 this).2
  have bk:∀ m:bP,m=lU x y.bA->aw (ic y w) 44 [ai m]=aX (eA x y):=fun m Z=>by
   rw[<-aL,KP P 44 _ _ F,aT (ai m),Z];rfl
  obtain⟨lo,bL⟩:=aq (ic y w);rw[<-bL] at aM bg bk ⊢;have ch:aw P 0 lo=lo:=cH (by rw[aM,f1]);have cs:∀ c:am,(aW.set n c)[n]?=some c:=fun c=>bT F
  simp[cq,aM,ch,cs,bg]
  -- the struck idsZ
  have cc:b7 32 ao ((l++[am.q 45 P]).set n (.q 45 lo)) (aW.set n (.q 45 lo)) w y.bA.l y.bA.isNone:=by
   obtain⟨cn,H,cy,bC,a2,bE⟩:=z;refine⟨cn,H.cY (a2.imp id fun h=>by rw[bp F]),by simp;omega,fun b o=>?_,a2.imp id V,bE⟩;rw[jU] at o;by_cases bN:b=n
   ·rw[bN,bT F,bT F]
   ·rw[bp F,bp F];exact bC b o
  have bh:∀ b,b<n->((l++[am.q 45 P]).set n (.q 45 lo))[b]?=l[b]?:=fun b o=>by rw[bp F,aS F]
  refine Gv cc S.bA S.len x bx (bi:=j+1) (by rw[bh (j+1) F];exact aE) fun m ap b2 bu b6 b8=>?_
  have Z:=K4 b6 b8;have bJ:n+1<=ap.length:=by simp at b2;omega
  have ce:ap[n]?=some (.q 45 lo):=by rw[bu n (by simp;omega),bT F]
  have cf:∀ b,b<n->ap[b]?=l[b]?:=fun b o=>by rw[bu b (by simp;omega)];exact bh b o
  have b9:(ai m).cells=some [ai m]:=by cases m<;>rfl
  have bd:=bk m Z;have cu:∀ c:am,(ap.set n c)[n]?=some c:=fun c=>bT F
  have aV:∀ h:44<(aX (eA x y)).length,(aX (eA x y))[44]'h=ai m:=fun h=>by rw[aA.bA h,Z];rfl
  have bn:bt (.ad 32) (ai m)=_:=ca _;have al:=aA.len;obtain⟨O,Y⟩:=aq (ap.set n (.q 45 (aX (eA x y))));have t5:n+1<=O.length:=by rw[Y];simpa using bJ
  have t0:∀ b,b<n->O[b]?=l[b]?:=fun b o=>by rw[Y,bp F];exact cf b o
  have t1:O[n]?=some (.q 45 (aX (eA x y))):=by rw[Y];exact cu _
  have a0:aJ 45 O C t ((cK x (s.l.take k)).map aX):=au.cY (by
   rcases au.lt with h | h
   ·exact .inl h
   ·exact .inr (t0 t F))
  have a1:aJ 45 O u v ((cL x (s.l.take k)).map aX):=J.cY (by
   rcases J.lt with h | h
   ·exact .inl h
   ·exact .inr (t0 v F))
  have bU:(cK x (s.l.take k)).length<=1000000:=by
   unfold cK;refine dC (hG _ _) ?_;rw[cC,cI];omega
  have cb:(cL x (s.l.take k)).length<=1000000:=by
   unfold cL;refine dC (hG _ _) ?_;rw[cC,cI];omega
  have T:=zF (p:=gone) (f:=eA x) aU;have I:=zF (p:=fun s=>!gone s) (f:=eA x) aU;have Q:gone (eA x y)=decide (m.l.length=0):=by
   have e:(eA x y).bA=m:=Z.symm;unfold gone;rw[e];cases m.l<;>simp
  obtain⟨cx,aN⟩:=aq (aX (eA x y));simp only[<-aN] at bd aV al t1 Y;simp[ce,b9,bd];rw[<-Y];by_cases ag:m.l.length=0
  ·rw[ag,bW rfl] at Q;rw[Q,aj rfl] at T;rw[Q] at I;simp only[xk,kA,if_false,eb] at I;obtain⟨W,dd,G,X,H,bG,dQ,ee,aK⟩:=tb a0 aA.len bU;rw[<-aN] at X;have aR:=iU al;simp[t1,al,aV,bn,ag,aR,aI,X];refine bY.bo ?_;have D:∀ b,b<j+4->G[b]?=l[b]?:=fun b o=>by rw[dQ b F (d1.imp id fun h=>F)];exact t0 b F
   have aO:=a1.lt;have bB:aJ 45 G u v ((cL x (s.l.take k)).map aX):=a1.cY (by
    rcases aO with h | h
    ·exact .inl h
    ·rcases d3 with g | g | g
     ·exact .inr (dQ v h (.inl g))
     ·exact .inl g
     ·exact .inr (dQ v h (.inr fun e=>g e.symm)))
   simp[a3];refine⟨F,V,V,V,V,V,V,V,W,V,⟨by rw[D j F];exact aY,by rw[D (j+1) F];exact aE,by rw[D (j+2) F];exact aG,⟨u,dd,v,by rw[D (j+3) F];exact ay,?_,?_,.inr ?_,d2,?_,?_,?_⟩,F,fun b o=>by rw[D b F];exact aB b o⟩⟩
   ·show aJ 45 G W dd ((cK x (s.l.take (k+1))).map aX);unfold cK at H ⊢;rw[T];exact H
   ·show aJ 45 G u v ((cL x (s.l.take (k+1))).map aX);unfold cL at bB ⊢;rw[I];exact bB
   ·rcases ee with h | ⟨h,h'⟩
    ·omega
    ·rw[h'];exact d1.resolve_left h
   ·right;rcases d3 with g | g | g
    ·rcases aO with z | z
     ·exact .inl z
     ·rcases ee with h | ⟨h,_⟩
      ·exact .inr F
      ·exact bK g h
    ·exact .inl g
    ·rcases aO with z | z
     ·exact .inl z
     ·rcases ee with h | ⟨_,h'⟩
      ·exact .inr F
      ·exact .inr (by rw[h'];exact g)
   ·rw[aK];unfold cK;rw[T];simp
   ·rw[aD];unfold cL;rw[I]
  ·rw[cp ag] at Q;rw[Q,ak V,eb] at T;rw[Q] at I;simp only[sO,if_true] at I;obtain⟨W,dd,G,X,H,bG,dQ,ee,aK⟩:=tb a1 aA.len cb;rw[<-aN] at X;have aR:=iU al;have t3:O[j+3]?=some (.q 2 [.i6 c,u]):=by rw[t0 (j+3) F];exact ay
   have cj:=J.cells;have ci:=H.cells;have cz:¬ m.l=[]:=fun h=>ag (by rw[h];rfl)
   simp[t1,t3,al,aV,bn,ag,aR,aI,X];refine bY.bo ?_;have D:∀ b,b<j+4->G[b]?=l[b]?:=fun b o=>by rw[dQ b F (d2.imp id fun h=>F)];exact t0 b F
   have cr:G[j+3]?=some (.q 2 [.i6 c,u]):=by rw[D (j+3) F];exact ay
   have bm:=a0.lt;have bV:j+4<=dd:=by
    rcases ee with h | ⟨h,h'⟩
    ·omega
    ·rw[h'];exact d2.resolve_left h
   have bz:aJ 45 G C t ((cK x (s.l.take k)).map aX):=a0.cY (by
    rcases bm with h | h
    ·exact .inl h
    ·rcases d3 with g | g | g
     ·exact .inl g
     ·exact .inr (dQ t h (.inl g))
     ·exact .inr (dQ t h (.inr g)))
   simp[cr,ci,aw,a3];refine⟨F,V,V,V,V,V,V,V,C,V,⟨by rw[bp F,D j F];exact aY,by rw[bp F,D (j+1) F];exact aE,by rw[bp F,D (j+2) F];exact aG,⟨W,t,dd,bT F,?_,?_,d1,.inr bV,?_,?_,?_⟩,by simp;omega,fun b o=>by rw[bp F,D b F];exact aB b o⟩⟩
   ·show aJ 45 _ C t ((cK x (s.l.take (k+1))).map aX);refine (show aJ 45 G C t ((cK x (s.l.take (k+1))).map aX) from ?_).cY (d1.imp id fun h=>by rw[bp F]);unfold cK at bz ⊢;rw[T];exact bz
   ·show aJ 45 _ W dd ((cL x (s.l.take (k+1))).map aX);refine (show aJ 45 G W dd ((cL x (s.l.take (k+1))).map aX) from ?_).cY (.inr (by rw[bp F]));unfold cL at H ⊢;rw[I];exact H
   ·rcases bm with z | z
    ·exact .inl z
    ·rcases ee with h | ⟨h,h'⟩
     ·exact .inr (.inr F)
     ·rcases d3 with g | g | g
      ·exact .inl g
      ·exact bK g h
      ·exact .inr (.inr (by rw[h'];exact g))
   ·rw[aC];unfold cK;rw[T]
   ·rw[aK];unfold cL;rw[I];simp
 ·simp[h];have bX:k=s.l.length:=by simp at h;omega
  obtain⟨aY,aE,aG,⟨u,t,v,ay,au,J,d1,d2,d3,aC,aD⟩,b4,aB⟩:=hH;rw[bX,fl] at au J aC aD;have ct:∀ c:am,(l.set (j+2) c)[j+2]?=some c:=fun c=>bT F
  have cj:=J.cells;simp[aG,ay,ct,aw];exact az C u t v _ (by simp;omega) (fun b o=>by rw[bp F];exact aB b o) (au.cY (d1.imp id fun h=>by rw[bp F])) (J.cY (d2.imp id fun h=>by rw[bp F])) (d1.imp id fun h=>F) (d2.imp id fun h=>F) d3 aC aD
theorem LR (c:Int) (s:fr) (G:hR s.l) (D:s.l.length<=1000000) (x:List B) (H:x.length=32) (t:c2 c s.l=0) {l0:ae} {K:cv}
  (u:∀ v j l',l0.length<=l'.length->(∀ b,b<l0.length->l'[b]?=l0[b]?)->aJ 45 l' v j ((cK x s.l).map aX)->(v=.af\/l0.length<=j)->K (.aZ [.ah (b1 c (eU (cL x s.l))),v,.i6 0]) l') :
  cG 91 [.ah (b1 c s),.ah (ao x)] l0 K:=by
 refine Oi checked.mixed ed (XJ c s G D x H t fun p S m Q l' P C J O d1 d2 d3 R I=>?_);obtain⟨o,w,r,e,f⟩:=wB (eU (cL x s.l)) O (by rw[I,DX]) (iV _);refine⟨_,[.ah (b1 c (eU (cL x s.l))),p,.i6 0],o,rfl,w,rfl,fun i a q h1 g=>?_,F,u p m o F (fun b z=>?_) (J.cY ?_) d1⟩
 ·rcases i with _ | _ | _ | i
  ·simp at h1 g;subst h1 g;refine .ah _ _ rfl fun i a q h1 g=>?_
   rcases i with _ | _ | i
   ·simp[b1] at h1 g;subst h1 g;exact .same _
   ·simp[b1] at h1 g;subst h1 g;exact r
   ·simp at h1
  ·simp at h1 g;subst h1 g;exact .same _
  ·simp at h1 g;subst h1 g;exact .same _
  ·simp at h1
 ·rw[f b (d2.imp id fun h=>F)];exact C b z
 ·rcases d3 with h | h | h
  ·exact .inl h
  ·exact .inr (f m (.inl h))
  ·exact .inr (f m (.inr h))
end Op.bm
namespace Op.bm
open b8 Op
def AA (g:cb) (cap:ag) (j:Nat) (l0:ae) (xs:List aK) (p:aK->Bool) :Prop:=
 ∀ x∈xs,∀ l,mS j l0 l->∀ m:cv,(∀ h,l.length<=h.length->(∀ b,b<l.length->h[b]?=l[b]?)->m (.bool (p x)) h)->cG g ([]++[.ah (aX x)]++cap) l m
structure Nn (l0:ae) (v:U) (g:cb) (cap:ag) (xs:List aK) (p:aK->Bool) (k:Nat) (sgZ:aP) (l:ae) :Prop where
 kS:sgZ 0=v
 e7:sgZ 1=.fn g [] cap
 yl:sgZ 7=.i6 xs.length
 m8:sgZ 8=.i6 k
 jC:∀ (j:Nat) (z:aK),j<k->xs[j]?=some z->p z=false
 le:l0.length<=l.length
 same:∀ b,b<l0.length->l[b]?=l0[b]?
theorem QZ {g:cb} {cap:ag} {j:Nat} {l:ae} {v:U} {xs:List aK} {p:aK->Bool} (ak:fI prog g=true) (S:aJ 45 l v j (xs.map aX)) (m:(∀ x∈xs,(aX x).length=45)) (av:xs.length<=1000000) (aq:AA g cap j l xs p)
  {K:cv} (P:∀ n l',(n=-1/\(∀ z∈xs,p z=false)\/∃ k:Nat,n=(k:Int)/\k<xs.length/\(∀ (i:Nat) (z:aK),i<k->xs[i]?=some z->p z=false)/\∀ y,xs[k]?=some y->p y=true)->l.length<=l'.length->(∀ b,b<l.length->l'[b]?=l[b]?)->K (.i6 n) l') :
  cG 151 [v,.fn g [] cap] l K:=by
 apply cR func151 [];have R:=S.len;rw[cC] at R;simp[R];refine bw xs.length (Nn l v g cap xs p) ?_ ⟨V,V,V,V,fun j z h=>F,aF _,fun _ _=>rfl⟩;rintro k au W hk ⟨D,G,H,I,B,Q,u⟩;obtain⟨au,rfl⟩:=e2 D G H I;clear D G H I;simp;refine gq (fun h=>?_) (fun h=>?_)
 ·simp only[bI] at h;obtain⟨y,C,ar⟩:=aQ (l:=xs) (k:=k) F;have aj:=cl (k:=k) F;have ap:aJ 45 W v j (xs.map aX):=S.frame fun am=>u j am
  obtain⟨q,cs,ax,X,Y,Z,ai⟩:=ap.q.get (k:=.i64) (i:=k) (e:=aX y) (by rw[bX,C];rfl);simp[X,Y,Z,ai];refine⟨ak,?_⟩;have:=aq y ar W ⟨Q,fun b o _=>u b o⟩;simp at this;refine this _ fun aw h1 J=>?_
  cases O:p y with
  | true=>
   simp;refine P _ _ (.inr ⟨k,rfl,h,fun i z t m=>B i z t m,fun w T=>?_⟩) F (fun b o=>by rw[J b F];exact u b o);rw[C] at T;obtain rfl:=cd T;exact O
  | false=>
   simp[aj];refine⟨F,V,V,V,V,fun i z t m=>?_,F,fun b o=>by rw[J b F];exact u b o⟩;by_cases al:i=k
   ·rw[al,C] at m;obtain rfl:=cd m;exact O
   ·exact B i z F m
 ·simp[h];have ao:k=xs.length:=by simp at h;omega
  refine P _ _ (.inl ⟨rfl,fun z m=>?_⟩) Q u;obtain⟨i,t⟩:=cc.1 m;exact B i z (by rw[ao];exact (aH.1 t).1) t
structure Nj (l0:ae) (v:U) (g:cb) (cap:ag) (j:Nat) (xs:List aK) (p:aK->Bool) (k:Nat) (sgZ:aP) (l:ae) :Prop where
 kS:sgZ 0=v
 e7:sgZ 1=.fn g [] cap
 lz:sgZ 6=.i6 k
 QO:mS j l0 l
 ex:∃ (q:Nat) (h:List aK),sgZ 5=.i6 (q:Int)/\aJ 45 l v j (h.map aX)/\h.length=xs.length/\(∀ x∈h,(aX x).length=45)/\h.take q=(xs.take k).filter (fun t=>!p t)/\q<k/\∀ t,k<=t->h[t]?=xs[t]?
theorem GY {p:aK->Bool} {l:List aK} (h:∀ z∈l,p z=false) :l.filter (fun t=>!p t)=l:=by rw[rb];intro a g;rw[h a g];rfl
theorem P8 {p:aK->Bool} {l:List aK} {k:Nat} (h:∀ (i:Nat) (z:aK),i<k->l[i]?=some z->p z=false) :(l.take k).filter (fun t=>!p t)=l.take k:=by
 refine GY fun z m=>?_
 obtain⟨i,g⟩:=cc.1 m;have j:=(aH.1 g).1;rw[cI] at j;rw[dG F] at g;exact h i z F g
theorem P6 {p:aK->Bool} {l:List aK} {k:Nat} {y:aK} (h:l[k]?=some y) :(l.take (k+1)).filter (fun t=>!p t)=(l.take k).filter (fun t=>!p t)++(if p y then [] else [y]):=by rw[eD,h,kB];cases g:p y<;>simp[g]
theorem Po {g:cb} {cap:ag} {j:Nat} {l:ae} {v:U} {xs:List aK} {p:aK->Bool} (aM:fI prog g=true) (G:aJ 45 l v j (xs.map aX)) (av:(∀ x∈xs,(aX x).length=45)) (bh:xs.length<=1000000) (aO:AA g cap j l xs p)
  {K:cv} (aL:∀ r l',aJ 45 l' r j ((xs.filter fun t=>!p t).map aX)->mS j l l'->bq r=bq v->(r=v\/∃ q:Nat,dB (.ad 45) v none (some (.i6 (q:Int))) none=some r)->K r l') :
  cG 108 [v,.fn g [] cap] l K:=by
 apply cR func108 [];have bd:=G.len;rw[cC] at bd;simp;refine QZ aM G av bh aO fun n br a9 aN S=>?_
 rcases a9 with ⟨rfl,a6⟩ | ⟨w,rfl,al,bf,a7⟩
 ·simp;refine aL _ _ ?_ ⟨aN,fun b m _=>S b m⟩ rfl (.inl rfl);rw[GY a6];exact G.frame fun D=>S j D
 ·have bi:¬ ((w:Int)=-1):=F;have a3:=cl (k:=w) F;have bl:aJ 45 br v j (xs.map aX):=G.frame fun D=>S j D
  have bn:bq v=false:=by
   cases bk:bq v with
   | false=>rfl
   | true=>
    have:=go.1 bk;subst this;have:=G.q.pn;rw[nD] at this;rw[this] at al;simp at al
  simp[bi,a3];refine bw (xs.length - (w+1)) (fun T=>Nj l v g cap j xs p (w+1+T)) ?_ ⟨V,V,V,⟨aN,fun b m _=>S b m⟩,w,xs,V,bl,rfl,av,?_,F,fun _ _=>rfl⟩
  ·rintro T bs O bx ⟨aC,aD,Y,u,q,B,aE,Q,ar,au,I,bm,R⟩;obtain⟨k,hk⟩:=aq (w+1+T);rw[show w+1+(T+1)=k+1 by omega];rw[<-hk] at Y I bm R;obtain⟨bs,rfl⟩:=e2 aC aD aE Y;clear aC aD aE Y;have ao:=Q.len;rw[cC,ar] at ao;by_cases bg:k<xs.length
   ·have ap:(k:Int)<(xs.length:Int):=F;obtain⟨y,J,aW⟩:=aQ (l:=xs) (k:=k) bg;have aV:=av y aW;have C:=aV;have aU:=iU C;have aB:=cl (k:=k) F;have a4:=cl (k:=q) F;have bo:B[k]?=some y:=by rw[R k (aF _)];exact J
    obtain⟨bE,cs,bB,a0,a1,a2,aA⟩:=Q.q.get (k:=.i64) (i:=k) (e:=aX y) (by rw[bX,bo];rfl);have bb:mS j l (O++[am.q 45 (aX y)]):=⟨by have:=u.le;simp;omega,fun b m o=>by rw[aS (by have:=u.le;omega)];exact u.same b m o⟩
    have Z:=aO y aW _ bb;have P:=P6 (p:=p) J;have aT:=fun (iy:ae) (h:aJ 45 iy v j (B.map aX))=>y6 (X:=.ah (aX y)) rfl h (fun t H=>au t H) (k:=q) (x:=y) F C
    simp at Z;obtain⟨aY,a5⟩:=aq (aX y);rw[<-a5] at C aU aA Z aT;simp[ao,ap,a0,a1,a2,aA,C,aU,aI];refine⟨aM,?_⟩;refine Z _ fun iy h1 aG=>?_
    have bv:O.length<iy.length:=F;have aR:∀ b,b<O.length->iy[b]?=O[b]?:=fun b m=>by rw[aG b F,aS m]
    have aP:aJ 45 iy v j (B.map aX):=Q.frame fun D=>aR j D
    have a8:iy[O.length]?=some (.q 45 aY):=by rw[aG _ V];simp
    have ai:mS j l iy:=⟨by have:=u.le;omega,fun b m o=>by rw[aR b (by have:=u.le;omega)];exact u.same b m o⟩
    cases aH:p y with
    | true=>
     rw[aH,aj rfl,eb] at P;simp[aB];refine⟨F,V,V,V,ai,q,B,V,aP,ar,au,by rw[P];exact I,F,fun t H=>R t F⟩
    | false=>
     rw[aH,ak V] at P;obtain⟨bC,bA,aw,ax,W,ay,az⟩:=aT iy aP;simp[a8,C,aw,ax,aB,a4,aI];refine⟨F,V,V,V,⟨by have:=ai.le;omega,fun b m o=>by rw[az b o];exact ai.same b m o⟩,q+1,B.set q y,V,W,by simp[ar],fun t H=>?_,?_,F,fun t H=>?_⟩
     ·rcases nE H with h | h
      ·exact au _ h
      ·rw[h];exact aV
     ·have bt:(B.take q).length=q:=by rw[cI];omega
      rw[re,aj F,pU,bt,aI F,show q+1 - q=1 by omega,P,<-I];simp
     ·rw[bp F];exact R t F
   ·have ap:¬ (k:Int)<(xs.length:Int):=F;have bc:k=xs.length:=F;obtain⟨bF,bz,r,aw,ax,W,ay,az,bG,bu⟩:=I2 (z:=45) (zr:=mO) rfl Q (k:=q) F;simp[ao,ap,aw,ax,W];rw[bc,fl] at I;rw[I] at ay;exact aL _ _ ay ⟨by have:=u.le;omega,fun b m o=>by rw[bu b o];exact u.same b m o⟩ (by rw[az,bn]) (.inr ⟨q,W⟩)
  ·rw[eD,kB,P8 bf];obtain⟨y,J,_⟩:=aQ (l:=xs) (k:=w) al;have:=a7 y J;rw[J];simp[this]
def kj (l:List aK) :Nat->aK
 | 0=>gB l 0
 | k+1=>if (gB l (k+1)).aA<(kj l k).aA then gB l (k+1) else kj l k
theorem wg {l:List aK}:∀ {k:Nat},k<l.length->kj l k∈l
 | 0,h=>by
  obtain⟨x,j,g⟩:=aQ h;unfold kj;rw[g3 j];exact g
 | k+1,h=>by
  unfold kj;split
  ·obtain⟨x,j,g⟩:=aQ h;rw[g3 j];exact g
  ·exact wg F
def w4 (l:List aK) :Prop:=∀ s∈l,0<=s.aA/\s.aA<=1000000000
structure M0 (l0:ae) (v:U) (g:cb) (h j:Nat) (xs:List aK) (k:Nat) (sgZ:aP) (l:ae) :Prop where
 kS:sgZ 0=v
 e7:sgZ 1=.fn g [] []
 kb:sgZ 4=.ptr j 0 45
 ja:sgZ 5=.ptr h 0 45
 lz:sgZ 6=.i6 ((k+1:Nat) :Int)
 abs:l[j]?=some (.q 45 mO)
 abt:l[h]?=some (.q 45 (aX (kj xs k)))
 le:l0.length+2<=l.length
 same:∀ b,b<l0.length->l[b]?=l0[b]?
theorem WY (y m:aK) (o:(aX y).length=45) (g:(aX m).length=45) (h1:0<=y.aA/\y.aA<=1000000000) (D:0<=m.aA/\m.aA<=1000000000) {l:ae} {K:cv} (v:∀ l',l.length<=l'.length->(∀ b,b<l.length->l'[b]?=l[b]?)->K (.i6 (y.aA - m.aA)) l') :
  cG 107 [.ah (aX y),.ah (aX m)] l K:=by
 apply cR func107 [];have B:(aX y)[0]?=some (.i6 y.aA):=rfl;have z:(aX m)[0]?=some (.i6 m.aA):=rfl;have t:∀ h,(aX y)[0]'h=.i6 y.aA:=fun _=>rfl
 have q:∀ h,(aX m)[0]'h=.i6 m.aA:=fun _=>rfl
 have u:IntKind.i64.wrap (y.aA - m.aA)=y.aA - m.aA:=by rw[IntKind.wrap_i64];omega
 obtain⟨C,p⟩:=aq (aX y);obtain⟨M,j⟩:=aq (aX m);rw[<-p] at o B ⊢;rw[<-j] at g z ⊢;simp only[<-p] at t;simp only[<-j] at q;simp[o,g,t,q,u];exact v _ V fun b w=>aS w
theorem Ss {j:Nat} {l:ae} {v:U} {xs:List aK} (P:aJ 45 l v j (xs.map aX)) (G:∀ x∈xs,(aX x).length=45) (aG:w4 xs) (a6:xs≠[]) (br:xs.length<=1000000)
  {K:cv} (t:∀ l',l.length<=l'.length->(∀ b,b<l.length->l'[b]?=l[b]?)->K (.ah (aX (kj xs (xs.length - 1)))) l') :
  cG 106 [v,.fn 107 [] []] l K:=by
 apply cR func106 [];have a2:fI prog 107=true:=bd;have C:=P.len;rw[cC] at C;have a9:0<xs.length:=uU.2 a6;have h1:¬ ((xs.length:Int)<1):=F;have a7:aJ 45 (l++[am.q 45 mO]) v j (xs.map aX):=P.more _;obtain⟨zZ,aL,bf⟩:=aQ a9;obtain⟨q,cs,bg,Y,Z,aP,aR⟩:=a7.q.get (k:=.i64) (i:=0) (e:=aX zZ) (by rw[bX,aL];rfl);have ay:=G zZ bf;have bb:=iU ay;change bF (.ad 45) v (.i6 (0:Int))=_ at Y;simp[mO] at Z;simp[C,h1,Y,Z,aP,aR,ay,bb];obtain⟨bl,o⟩:=aq (l++[am.q 45 mO,am.q 45 (aX zZ)]);have a5:kj xs 0=zZ:=g3 aL;unfold mO at o;rw[<-o];refine bw (xs.length - 1) (M0 l v 107 (l.length+1) l.length xs) ?_ ⟨V,V,V,V,V,by rw[o];simp[mO],by rw[o,a5];simp,by rw[o];simp,fun b h=>by rw[o,aS h]⟩;rintro k bk W hk ⟨ap,ar,au,av,ax,X,p,bo,Q⟩;obtain⟨bk,rfl⟩:=gk ap ar au av ax;clear ap ar au av ax;have aD:aJ 45 W v j (xs.map aX):=P.frame fun J=>Q j J
 obtain⟨i,B⟩:=aq (k+1);rw[<-B];by_cases a4:i<xs.length
 ·obtain⟨y,T,aM⟩:=aQ a4;have a1:=g3 T;have z:=G y aM;have g:=G _ (wg (l:=xs) (k:=k) F);have bc:=aG y aM;have aH:=aG _ (wg (l:=xs) (k:=k) F);have al:=cl (k:=i) F;obtain⟨q,cs,bg,aT,aU,aV,ag⟩:=aD.q.get (k:=.i64) (i:=i) (e:=aX y) (by rw[bX,T];rfl);have O:(i:Int)<(xs.length:Int):=F;obtain⟨m,aB⟩:=aq (kj xs k);have aC:kj xs i=if y.aA<m.aA then y else m:=by
   rw[aB,<-a1,B];rfl
  rw[<-aB] at p g aH;have S:=fun (K:cv) t=>WY y m z g bc aH (l:=W) (K:=K) t
  have R:aw (aX m) 0 (aX y)=aX y:=cH (by rw[g,z]);obtain⟨bm,H⟩:=aq (aX y);obtain⟨M,w⟩:=aq (aX m);rw[<-H] at z ag S R;rw[<-w] at g p S R;simp[C,O,aT,aU,aV,ag,p,g,aI];refine⟨a2,S _ fun u bq D=>?_⟩;have a8:aJ 45 u v j (xs.map aX):=aD.frame fun J=>D j J
  have aN:u[l.length]?=some (.q 45 mO):=by rw[D _ F];exact X
  have aO:u[l.length+1]?=some (.q 45 M):=by rw[D _ F];exact p
  have ao:∀ b,b<l.length->u[b]?=l[b]?:=fun b h=>by rw[D b F];exact Q b h
  obtain⟨bt,bn,bs,aW,aY,a0,ai⟩:=a8.q.get (k:=.i64) (i:=i) (e:=aX y) (by rw[bX,T];rfl);rw[<-H] at ai;have bi:∀ c:am,(u.set (l.length+1) c)[l.length+1]?=some c:=fun c=>bT F
  by_cases az:y.aA<m.aA
  ·have I:y.aA - m.aA<0:=F;simp[I,aW,aY,a0,ai,aO,z,R,al];refine⟨F,V,V,V,V,by simp[B],?_,?_,by simp;omega,fun b h=>?_⟩
   ·rw[bp F];exact aN
   ·rw[bi,aC,aj az,H]
   ·rw[bp F];exact ao b h
  ·have I:¬ y.aA - m.aA<0:=F;simp[I,al];exact⟨F,V,V,V,V,by simp[B],aN,by rw[aC,ak az,<-w];exact aO,F,ao⟩
 ·have O:¬ (i:Int)<(xs.length:Int):=F;have a3:k=xs.length - 1:=F;have g:=G _ (wg (l:=xs) (k:=k) F);have aE:=iU g;rw[<-a3] at t;obtain⟨M,w⟩:=aq (aX (kj xs k));rw[<-w] at g aE p t;unfold mO at X;have bh:∀ c:am,(W.set l.length c)[l.length]?=some c:=fun c=>bT F
  simp[C,O,X,p,g,aE,bh,aI];exact t _ (by simp;omega) fun b h=>by rw[bp F];exact Q b h
end Op.bm
namespace Op
open b8 bm
theorem wC {alZ o:Type} {f:alZ->o} {l:List alZ} (h:l.Pairwise fun a b=>f a≠f b) {i k:Nat} {a b:alZ} (p:l[i]?=some a) (hk:l[k]?=some b) (e:f a=f b) :i=k:=by
 obtain⟨j,rfl⟩:=aH.1 p;obtain⟨m,rfl⟩:=aH.1 hk;rcases oG i k with g | he | g
 ·exact bK e (kD.1 h i k j m g)
 ·exact he
 ·exact bK e.symm (kD.1 h k i m j g)
theorem pu {s:cA} (h:fo s) {p:aW} (g:p∈s.al.l) :p.idsZ.l.length<=(bS s).length:=by
 have W:=sC h;have h1:=wj (Dm (W.bQ p g)) (m:=(b2 (bS s)).idsZ.l) fun y j=>CL h g j
 rw[q2,cC] at h1;exact h1
theorem Ue {s:cA} (t:hs s) (h:fo s) {x:List B} (D:x.length=32) {o:aM} (I:dv o) (O:s.b6<60) :hs (gy s x o):=by
 have W:=sC h;have R:=h.lc;have K:num x s.al.l.length<s.al.l.length:=by unfold num;exact iG _ (by have:=h.hy;omega)
 obtain⟨p,J,w⟩:=aQ K;have H:df s.al.l (num x s.al.l.length)=p:=dZ J;have C:(gy s x o).al.l=s.al.l.set (num x s.al.l.length) (ib p x o):=by
  show s.al.l.set _ (ib (df s.al.l _) x o)=_;rw[H]
 have Q:=pu h w;have z:=(t.al p w).1;have P:=W.len p w;have u:(ib p x o).idsZ.l=c9 p.idsZ.l (er p.idsZ.l x) x:=rfl;have v:(ib p x o).opsZ.l=c9 p.opsZ.l (er p.idsZ.l x) o:=rfl;refine⟨fun G j=>?_,?_,fun y g=>?_,?_⟩
 ·rw[C] at j;rcases nE j with j | rfl
  ·exact t.al G j
  ·refine⟨⟨fun y g=>?_,fun q m=>?_,?_,?_⟩,?_,?_⟩
   ·rw[u] at g;rcases mr.1 g with rfl | g
    ·exact D
    ·exact z.idsZ y g
   ·rw[v] at m;rcases mr.1 m with rfl | m
    ·exact I
    ·exact z.opsZ q m
   ·rw[u,jc];omega
   ·rw[v,jc];omega
   ·rw[u,jc];omega
   ·rw[v,jc];omega
 ·rw[C,jU];exact t.lJ
 ·have F:y∈rQ s.ce.l x o:=g;unfold rQ at F;rcases mr.1 F with rfl | g
  ·exact D
  ·exact t.ce y (c7.1 g).1
 ·show (rQ s.ce.l x o).length<=_;have h1:s.ce.l.length<=(bS s).length:=by
   rw[<-h.vN];unfold eM h2;refine dC (hG _ _) ?_;rw[q2,cC];exact aF _
  unfold rQ;rw[jc];have:=hG (fun y=>!decide (y∈o.ay.l)) s.ce.l;omega
theorem IK {s:eR} (j:lm s) (h:iq s) {x:List B} (m:x.length=32) {o:aM} (p:dv o) :lm (oh s x o):=by
 have v:=h.lc;have t:=h.vp;have u:=h.le;refine⟨Ue j.a2 h.a2 m p F,fun y g=>?_,?_⟩
 ·have q:y∈s.aD.l++[x]:=g;rcases eQ.1 q with g | g
  ·exact j.aD y g
  ·rw[fO.1 g];exact m
 ·show (s.aD.l++[x]).length<=_;rw[cg];simp;omega
structure cZ where
 aA:Int
 ct:Int
 id:List B
def ch (r:cZ) :ag:=.i6 r.aA::.int .u8 r.ct::ao r.id
def i8 (s:bl) :Bool:=decide ((s.aL.aD.l.length:Int)=s.aL.cap)
def fE (s:bl) (x:aK) :bl:=⟨oh s.aL (bJ x.op) x.op,s.cr,eU (bm.cL x.id s.pl.l),s.b4,s.gH⟩
def fU (r:List aK) (x:aK) :List aK:=r.filter fun y=>!decide (y.aA=x.aA)
def dY (r:List aK) :aK:=kj r (r.length - 1)
def gA:Nat->bl->List aK->List cZ->bl × List cZ
 | 0,s,_,out=>(s,out)
 | n+1,s,r,out=>
  if r=[] then (s,out)
  else if i8 s then gA n s (fU r (dY r)) (out++[⟨(dY r).aA,8,(dY r).id⟩])
  else gA n (fE s (dY r)) (fU r (dY r)++bm.cK (dY r).id s.pl.l) (out++[⟨(dY r).aA,1,(dY r).id⟩])
structure i0 (s:bl) (r:List aK) :Prop where
 ok:fQ s
 st:iq s.aL
 pen:c2 s.cr s.pl.l=0
 ke:∀ x∈s.pl.l,fk x.op=0/\x.id∉s.aL.aD.l/\x.bA.l=dp s.aL.aD.l x.op
 r3:hR r
 gr:∀ x∈r,fk x.op=0/\bJ x.op=x.id/\x.id∉s.aL.aD.l/\(∀ p∈x.op.ay.l,p∈s.aL.aD.l)/\0<=x.aA/\x.aA<=1000000000
 Bi:r.Pairwise fun a b=>a.id≠b.id
 x5:∀ x∈r,∀ y∈s.pl.l,x.id≠y.id
theorem vJ {r:List aK} (h:r≠[]) :dY r∈r:=wg (by have:=uU.2 h;omega)
theorem Vm {r:List aK} {x:aK} (h:x∈r) :(fU r x).length<r.length:=by
 unfold fU;refine Nat.lt_of_le_of_ne (hG _ _) fun e=>?_
 have:=List.length_filter_eq_length_iff.1 e x h;simp at this
theorem i0.full {s:bl} {r:List aK} (h:i0 s r) (x:aK) :i0 s (fU r x):=
 ⟨h.ok,h.st,h.pen,h.ke,fun y g=>h.r3 y (c7.1 g).1,fun y g=>h.gr y (c7.1 g).1,h.Bi.sublist jT,fun y g=>h.x5 y (c7.1 g).1⟩
theorem i0.B5 {s:bl} {r:List aK} (h:i0 s r) {x:aK} (p:x∈r) (g:i8 s=false) :qu s.aL x.op=1:=by obtain⟨q,j,m,o,_⟩:=h.gr x p;unfold i8 at g;rw[decide_eq_false_iff_not] at g;unfold qu;rw[ak (by rw[j];exact m),aj o,ak (by have:=h.st.le;omega)]
theorem RH {g:aN} {x:List B} {o:aM}:dp (g++[x]) o=(dp g o).filter (nh x):=by
 unfold dp;rw[List.filter_filter];refine List.filter_congr fun y _=>?_
 unfold hQ nh;by_cases h1:y∈g<;>by_cases h:y=x<;>simp[h1,h]
theorem vv (s:bl) {x:aK} (h:bJ x.op=x.id) :(fE s x).aL.aD.l=s.aL.aD.l++[x.id]:=by rw[<-h];rfl
theorem ry (s:bl) (x:aK) :(fE s x).pl.l=bm.cL x.id s.pl.l:=iV _
theorem i0.next {s:bl} {r:List aK} (h:i0 s r) {x:aK} (w:x∈r) (ap:i8 s=false) :i0 (fE s x) (fU r x++bm.cK x.id s.pl.l):=by
 obtain⟨ak,al,aI,aJ,aM,aN⟩:=h.gr x w;obtain⟨aP,ax⟩:=mG h.pen;obtain⟨T,aQ,aG⟩:=(m9 s.pl.l).1 ax;have J:bm.cL x.id s.pl.l=bm.lI [x.id] s.pl.l:=by
  have:=Ix x.id [] s.pl.l;rw[S1 T] at this;simpa using this
 obtain⟨aB,aC,aE⟩:=HV (h.B5 w ap);have az:=h.r3 x w;have av:=Tj h.st (x:=bJ x.op) (o:=x.op) aB aE ak rfl aC;have aw:=IK h.ok.aL h.st (x:=bJ x.op) (o:=x.op) (pb _) az.op;have K:=vv s al;have v:=ry s x;have ay:c2 (fE s x).cr (fE s x).pl.l=0:=by rw[v,J];exact S2 h.pen _
 have au:hR (bm.cL x.id s.pl.l):=by rw[J];exact Tv h.ok.pl
 have aO:(bm.cL x.id s.pl.l).length<=s.pl.l.length:=by have:=bm.pu x.id s.pl.l;omega
 have O:∀ y∈s.pl.l,(eA x.id y).op=y.op/\(eA x.id y).id=y.id/\(eA x.id y).aA=y.aA/\(eA x.id y).bA.l=dp (s.aL.aD.l++[x.id]) y.op:=fun y j=>⟨rfl,rfl,rfl,by
  show (lU x.id y.bA).l=_;rw[w1,(h.ke y j).2.2,RH]⟩
 have S:∀ m∈bm.cL x.id s.pl.l,∃ y∈s.pl.l,m=eA x.id y:=fun m g=>by
  obtain⟨y,j,e⟩:=cF.1 (c7.1 g).1;exact⟨y,j,e.symm⟩
 have R:∀ m∈bm.cK x.id s.pl.l,∃ y∈s.pl.l,m=eA x.id y/\gone m=true:=fun m g=>by
  obtain⟨y,j,e⟩:=cF.1 (c7.1 g).1;exact⟨y,j,e.symm,(c7.1 g).2⟩
 have U:∀ y∈s.pl.l,y.id∉s.aL.aD.l++[x.id]:=fun y j p=>by
  rcases eQ.1 p with p | p
  ·exact (h.ke y j).2.1 p
  ·exact h.x5 x w y j (fO.1 p).symm
 have Q:(s.pl.l.map (eA x.id)).Pairwise fun a b=>a.id≠b.id:=by
  rw[nF];exact aG
 have aj:(bm.cK x.id s.pl.l).Pairwise fun a b=>a.id≠b.id:=Q.sublist jT
 refine⟨⟨aw,by rw[v];exact au,by rw[v];have:=h.ok.len;omega⟩,av,ay,fun m g=>?_,fun m g=>?_,fun m g=>?_,?_,fun a q m g=>?_⟩
 ·rw[v] at g;obtain⟨y,j,rfl⟩:=S m g;obtain⟨u,z,F,C⟩:=O y j;rw[K];exact⟨by rw[u];exact (h.ke y j).1,by rw[z];exact U y j,by rw[C,u]⟩
 ·rcases eQ.1 g with g | g
  ·exact h.r3 m (c7.1 g).1
  ·exact IQ h.ok.pl m g
 ·rw[K];rcases eQ.1 g with g | g
  ·have P:=(c7.1 g).1;obtain⟨V,W,X,Y,Z⟩:=h.gr m P;refine⟨V,W,fun p=>?_,fun D B=>xt _ (Y D B),Z⟩;rcases eQ.1 p with p | p
   ·exact X p
   ·have ar:=(c7.1 g).2;have ao:m.id=x.id:=fO.1 p;obtain⟨i,t⟩:=cc.1 P;obtain⟨k,hk⟩:=cc.1 w;have:=wC (f:=aK.id) h.Bi t hk ao;rw[this,hk] at t;obtain rfl:=cd t;simp at ar
  ·obtain⟨y,j,rfl,H⟩:=R m g;obtain⟨u,z,F,C⟩:=O y j;obtain⟨aH,ae,ag,ai,_⟩:=T y j;refine⟨by rw[u];exact (h.ke y j).1,by rw[u,z];exact ae,by rw[z];exact U y j,fun D B=>?_,by rw[F];exact⟨ag,ai⟩⟩;have aq:dp (s.aL.aD.l++[x.id]) y.op=[]:=by
    rw[<-C];unfold gone at H;exact uT.1 H
   refine Classical.byContradiction fun I=>?_
   have:D∈dp (s.aL.aD.l++[x.id]) y.op:=c7.2 ⟨by rw[u] at B;exact B,by unfold hQ;simp at I;simp[I]⟩;rw[aq] at this;cases this
 ·rw[rc];refine⟨h.Bi.sublist jT,aj,fun a q b am=>?_⟩;obtain⟨y,j,rfl,_⟩:=R b am;exact h.x5 a (c7.1 q).1 y j
 ·rw[v] at g;rcases eQ.1 q with q | q
  ·obtain⟨y,j,rfl⟩:=S m g;exact h.x5 a (c7.1 q).1 y j
  ·have h1:=(c7.1 q).2;have G:=(c7.1 g).2;intro e;obtain⟨i,t⟩:=cc.1 (c7.1 q).1;obtain⟨k,hk⟩:=cc.1 (c7.1 g).1;have:=wC (f:=aK.id) Q t hk e;rw[this,hk] at t;obtain rfl:=cd t;rw[h1] at G;cases G
open b8 bm
theorem qM (n:Nat) (s:bl) (out:List cZ) :gA n s [] out=(s,out):=by
 cases n with
 | zero=>rfl
 | succ n=>unfold gA;rw[aj rfl]
theorem uh (n:Nat) (s:bl) {r:List aK} (out:List cZ) (h:r≠[]) :gA (n+1) s r out=if i8 s then gA n s (fU r (dY r)) (out++[⟨(dY r).aA,8,(dY r).id⟩])
  else gA n (fE s (dY r)) (fU r (dY r)++bm.cK (dY r).id s.pl.l) (out++[⟨(dY r).aA,1,(dY r).id⟩]):=by
 conv=>lhs;unfold gA
 rw[ak h]
theorem zs (v:U) :aw (bO 33 (U.int .u8 0)) 0 [v]=v::bO 32 (U.int .u8 0):=rfl
theorem wP (v:U) {I:ag} (h:I.length=32) :aw (v::bO 32 (U.int .u8 0)) 1 I=v::I:=by have e:(bO 32 (U.int .u8 0) :ag).drop 32=[]:=rfl;simp[aw,h,e]
theorem uq {I:ag} (h:I.length=32) :aw (bO 32 (U.int .u8 0)) 0 I=I:=cH (by simp[h])
theorem wQ (v:U) {I:ag} (h:I.length=32) :aw (bO 33 (U.int .u8 0)) 0 (v::I)=v::I:=cH (by simp[h])
theorem VP (x:aK) (t:(aX x).length=45) {j bi:Nat} {l:ae} {xs:List aK} (I:∀ y∈xs,(aX y).length=45) (h1:l[bi]?=some (.q 45 (aX x))) (F:bi≠j) :
  AA 109 [.ptr bi 0 45] j l xs (fun y=>decide (y.aA=x.aA)):=by
 intro y H v D O B;apply cR func109 [];have m:v[bi]?=some (.q 45 (aX x)):=by rw[D.same _ (aY h1) F];exact h1
 have G:=aY m;have g:∀ c:am,(v++[c])[bi]?=some (.q 45 (aX x)):=fun c=>by rw[aS G];exact m
 have u:=I y H;have K:(aX y)[0]?=some (.i6 y.aA):=rfl;have J:(aX x)[0]?=some (.i6 x.aA):=rfl;have z:∀ h,(aX y)[0]'h=.i6 y.aA:=fun _=>rfl
 have w:∀ h,(aX x)[0]'h=.i6 x.aA:=fun _=>rfl
 obtain⟨P,o⟩:=aq (aX x);obtain⟨Q,p⟩:=aq (aX y);rw[<-o] at g t J;rw[<-p] at u K ⊢;simp only[<-o] at w;simp only[<-p] at z;simp[g,u,t,z,w];exact B _ V fun b C=>aS C
theorem Qk:fI prog 109=true:=bd
theorem Fk {l:ae} {v:U} {j:Nat} {es:List cZ} {s:cZ} (h:aJ 34 l v j (es.map ch)) (o:(ch s).length=34) (D:es.length<=1000000) :
  ∃ g m l',ep (l++[.q 34 (ch s)]) 34 48 v (.ad 34 l.length 0 1 1 34)=some (g,l')/\aJ 34 l' g m ((es++[s]).map ch)/\l.length+1<=l'.length/\(∀ b,b<l.length->v=.af\/b≠j->l'[b]?=l[b]?)/\(l.length<=m\/(v≠.af/\m=j))/\bq g=false:=by
 have B:=dw;obtain⟨g,m,l',p,t,u,d1,w,f1⟩:=i3 (h.more [.q 34 (ch s)]) (by_:=48) (x:=.ad 34 l.length 0 1 1 34) (xs:=[ch s]) (by simp[cD,o,aI]) (by simp[o]) F F (by rw[B];simp;omega);have f2:bq g=false:=by rw[f1];simp
 refine⟨g,m,l',p,by rw[dk];exact t,by simpa using u,fun b z C=>?_,?_,f2⟩
 ·rw[d1 b (by simp;omega) C,aS z]
 ·rcases w with h | h | h
  ·exact .inl (by simp at h;omega)
  ·exact .inr h
  ·rw[h] at f2;cases f2
def rq (t:bl) (y:List B) :bl:=⟨t.aL,t.cr,eU (bm.cL y t.pl.l),t.b4,t.gH⟩
structure Ni (fin:bl × List cZ) (N p gY:Nat) (l0:ae) (k:Nat) (sgZ:aP) (L:ae) :Prop where
 kS:sgZ 0=.ptr p 0 9
 le:gY<=L.length
 BE:∀ b,b<gY->b≠p->L[b]?=l0[b]?
 ex:∃ s r out h g m j,sgZ 7=h/\sgZ 5=g/\i0 s r/\r.length+s.pl.l.length+k<=N/\gA (N - k) s r out=fin/\L[p]?=some (.q 9 (bx s))/\aJ 45 L h m (r.map aX)/\aJ 34 L g j (out.map ch)/\(h=.af\/gY<=m)/\(g=.af\/gY<=j)/\(h=.af\/g=.af\/m≠j)/\out.length<=k
theorem Pf (t:bl) (cl:fQ t) (ds:c2 t.cr t.pl.l=0) (y:List B) (cn:y.length=32) (aV:i0 (rq t y) (bm.cK y t.pl.l)) {N:Nat} (dW:(bm.cK y t.pl.l).length+(bm.cL y t.pl.l).length<=N) (dX:N<=1000) {l0:ae} {p:Nat} (bH:l0[p]?=some (.q 9 (bx t)))
  {aQ:bl × List cZ} (c9:gA N (rq t y) (bm.cK y t.pl.l) []=aQ) {K:cv}
  (bA:∀ v j l',l0.length<=l'.length->(∀ b,b<l0.length->b≠p->l'[b]?=l0[b]?)->l'[p]?=some (.q 9 (bx aQ.1))->aJ 34 l' v j (aQ.2.map ch)->(v=.af\/l0.length<=j)->K v l') :
  cG 56 [.ptr p 0 9,.ah (ao y)] l0 K:=by
 apply cR func56 [da 0 5++[[10],[5,10]]++da 6 4,[],[],da 0 6++[[11],[6,11]]++da 7 4,da 0 4++[[4,1]]];have du:=dw;have dr:=aY bH;have dB:=br cn;have bU:=iN t;have cm:bx (rq t y)=aw (bx t) 5 [.i6 t.cr,cJ (eU (bm.cL y t.pl.l))]:=rfl;have ej:=cl.len;obtain⟨bg,c1⟩:=aq (bx t);rw[<-c1] at bU bH cm;obtain⟨bd,dM,cD,cB,_⟩:=bU;have cy:∀ g:ae,(l0++g)[p]?=some (.q 9 bg):=fun g=>by rw[aS dr];exact bH
 simp[dB,cy,bd,cB,aI];refine LR t.cr t.pl cl.pl F y cn ds fun aK ix u cd a2 J d7=>?_
 simp at cd a2;have q1:u[l0.length+1]?=some (.q 2 [.i6 0,.af]):=by rw[a2 _ F];simp
 have dL:u[p]?=some (.q 9 bg):=by rw[a2 _ F];exact cy _
 have et:=J.cells;have bs:b1 t.cr (eU (bm.cL y t.pl.l))=[.i6 t.cr,cJ (eU (bm.cL y t.pl.l))]:=rfl;have bP:∀ a b:U,aw [U.i6 0,.af] 0 [a,b]=[a,b]:=fun _ _=>rfl
 have oq:∀ c:am,(u.set (l0.length+1) c)[l0.length+1]?=some c:=fun c=>bT F
 have dO:∀ c:am,(u.set (l0.length+1) c)[p]?=some (.q 9 bg):=fun c=>by rw[bp F];exact dL
 simp[bs,q1,bP,oq,dO,<-cm];have bX:aK=.af\/l0.length+2<=ix:=by simpa using d7
 refine bw N (Ni aQ N p l0.length l0) ?_ ⟨V,by simp;omega,fun b m P=>?_,rq t y,bm.cK y t.pl.l,[],aK,.af,ix,0,V,V,aV,?_,by simpa using c9,?_,J.cY (bX.imp id fun h=>?_),.nil 0,bX.imp id fun h=>F,.inl rfl,.inr (.inl rfl),V⟩
 ·rintro k dP L hk ⟨bZ,di,bC,s,r,out,aK,bQ,ix,aE,b2,b0,z,ea,a6,a5,J,bb,d7,d5,d75,eo⟩;obtain⟨dP,rfl⟩:=gj bZ b0 b2;clear bZ b0 b2;have a3:=J.len;rw[cC] at a3;by_cases W:r=[]
  ·subst W;rw[qM] at a6;subst a6;simp at a3;simp[a3];exact bA bQ aE L di bC a5 bb d5
  ·have dt:0<r.length:=uU.2 W;have C:=vJ W;have bI:∀ x∈r,(aX x).length=45:=fun x C=>(hn (z.r3 x C)).len
   have R:aK≠.af:=fun e=>by
    subst e;have:=J.q.pn;rw[nD] at this;exact W this
   have eg:=J.lt.resolve_left R;have dg:=d7.resolve_left R;simp[a3,dt];refine Ss J bI (fun x C=>(z.gr x C).2.2.2.2) W F fun u cd cj=>?_
   have aW:=hn (z.r3 _ C);have a8:=z.r3 _ C;have b9:=z.gr _ C;have cf:=fun D=>z.next C D
   have cc:=fun D=>z.B5 C D
   have dl:=Vm C;have aC:gA (N - k) s r out=if i8 s then gA (N - k - 1) s (fU r (dY r)) (out++[⟨(dY r).aA,8,(dY r).id⟩])
     else gA (N - k - 1) (fE s (dY r)) (fU r (dY r)++bm.cK (dY r).id s.pl.l) (out++[⟨(dY r).aA,1,(dY r).id⟩]):=by
    obtain⟨g,dm⟩:∃ g,N - k=g+1:=⟨N - k - 1,F⟩
    rw[dm];exact uh g s out W
   rw[show kj r (r.length - 1)=dY r from rfl];obtain⟨x,dA⟩:=aq (dY r);rw[<-dA] at C aW a8 b9 cf cc dl aC ⊢;have f2:(aX x)[0]?=some (.i6 x.aA):=rfl;have bq:∀ h,(aX x)[0]'h=.i6 x.aA:=fun _=>rfl
   have b8:=fun (l:ae) (j cQ:Nat) h1 cT=>VP x aW.len (j:=j) (bi:=cQ) (l:=l) bI h1 cT
   obtain⟨T,b6⟩:=aq (aX x);rw[<-b6] at aW f2 ⊢;simp only[<-b6] at bq b8;obtain⟨Z,eP,cM,aM,eO,eN⟩:=aW;have dx:=iU Z;have dK:aJ 45 (u++[am.q 45 T]) aK ix (r.map aX):=(J.frame fun dd=>cj ix dd).more _;simp[Z,dx];refine Po Qk dK bI F (b8 _ ix u.length V F) fun bf G cw bF ek _=>?_
   have dc:=bF.le;simp at dc;have aT:∀ b,b<L.length->b≠ix->G[b]?=L[b]?:=fun b m c3=>by rw[bF.same b (by simp;omega) c3,aS F];exact cj b m
   have H:G[p]?=some (.q 9 (bx s)):=by rw[aT p (aY a5) F];exact a5
   have aG:G[u.length]?=some (.q 45 T):=by rw[bF.same _ V F];simp
   have bO:aJ 34 G bQ aE (out.map ch):=bb.cY (by
    rcases bb.lt with h | h
    ·exact .inl h
    ·rcases d75 with e | e | e
     ·exact bK e R
     ·exact .inl e
     ·exact .inr (aT aE h (Ne.symm e)))
   have aV:=iN s;have aB:=z.ok;have en:=aB.aL.no;have ce:bt (.ad 32) (ai s.aL.aD)=_:=ca _;obtain⟨bS,bv⟩:=aq (bx s);rw[<-bv] at H aV;obtain⟨bd,dM,cD,cB,eG,eJ,eE,eC,eA,eH,cA,eK,eF,eD,cz,eI,ez⟩:=aV;have w:=br a8.id;have ev:∀ g:ae,(G++g)[p]?=some (.q 9 bS):=fun g=>by rw[aS (aY H)];exact H
   have ew:∀ g:ae,(G++g)[u.length]?=some (.q 45 T):=fun g=>by rw[aS (aY aG)];exact aG
   by_cases D:i8 s=true
   ·have bB:(s.aL.aD.l.length:Int)=s.aL.cap:=by unfold i8 at D;exact io D
    rw[aj D] at aC;have dy:=a6;obtain⟨Y,h5,o,O,al,cO,ap,ay,bh⟩:=Fk bO (s:=⟨x.aA,8,x.id⟩) (by simp[ch,w]) F;have bu:ch ⟨x.aA,8,x.id⟩=.i6 x.aA::.int .u8 8::ao x.id:=rfl;rw[bu] at O;obtain⟨cN,aU⟩:=aq (ao x.id);rw[<-aU] at O aM w;have bk:=zs (.int .u8 8);have aN:=wP (.int .u8 8) w;have aO:=wQ (.int .u8 8) w;simp[H,aG,bd,cA,cz,ce,bB,Z,bq,aM,ef,bk,aN,aO,uq w,w,O];refine bY.bo ?_;simp;have ei:=bO.lt;have cV:Y=.af\/l0.length<=h5:=.inr (by
     rcases ay with h | ⟨h,h'⟩
     ·omega
     ·rw[h'];exact d5.resolve_left h)
    refine⟨F,V,F,fun b m P=>?_,s,fU r x,out++[⟨x.aA,8,x.id⟩],bf,Y,ix,h5,V,V,z.full x,F,by rw[<-dy,show N - (k+1)=N - k - 1 by omega,aC],?_,cw.cY ?_,al,.inr dg,cV,?_,by simp;omega⟩
    ·rw[ap b F (d5.imp id fun h=>F),aT b F F];exact bC b m P
    ·rw[ap p (aY H) (d5.imp id fun h=>F),<-bv];exact H
    ·exact .inr (ap ix F (by
      rcases d75 with e | e | e
      ·exact bK e R
      ·exact .inl e
      ·exact .inr e))
    ·right;right;rcases ay with h | ⟨h,h'⟩
     ·omega
     ·rw[h'];rcases d75 with e | e | e
      ·exact bK e R
      ·exact bK e h
      ·exact e
   ·have a1:i8 s=false:=by cases h:i8 s with | true=>exact bK h D | false=>rfl
    have bB:¬ (s.aL.aD.l.length:Int)=s.aL.cap:=by unfold i8 at a1;exact of_decide_eq_false a1
    rw[ak D] at aC;have dh:=cc a1;have dn:=cf a1;have bG:=KW s.aL aB.aL z.st x.op a8.op b9.1 dh;have c4:=z.pen;have c7:=mi s.aL;have ci:=dN x.op;obtain⟨Q,b5⟩:=aq (oh s.aL (bJ x.op) x.op);rw[<-b5] at bG;have c0:(ck Q).length=5:=rfl;have dZ:(ck Q).take 5=ck Q:=rfl;obtain⟨oq,a7⟩:=aq (⟨Q,s.cr,s.pl,s.b4,s.gH⟩:bl);have dv:aw bS 0 (ck Q)=bx oq:=by rw[bv,a7];rfl
    have cW:=cP x.id;obtain⟨dT,cX⟩:=aq (au x.op);rw[<-cX] at bG ci cM;simp[H,aG,bd,cA,cz,ce,bB,Z,cM,cD];refine av bG (by simp[ar,U.ax,c7,ci]) ?_;obtain⟨I,az⟩:=aq (G.set p (am.q 9 (bx oq)));have eh:I.length=G.length:=by rw[az];simp
    have bL:I[p]?=some (.q 9 (bx oq)):=by rw[az];exact bT (aY H)
    have aR:∀ b,b≠p->I[b]?=G[b]?:=fun b m=>by rw[az];exact bp (fun e=>m e.symm)
    have bM:I[u.length]?=some (.q 45 T):=by rw[aR _ (by have:=aY a5;omega)];exact aG
    have cu:aJ 34 I bQ aE (out.map ch):=bO.cY (d5.imp id fun h=>aR aE F);have dG:aJ 45 I bf ix ((fU r x).map aX):=cw.cY (.inr (aR ix F));obtain⟨Y,h5,o,O,al,cO,ap,ay,bh⟩:=Fk cu (s:=⟨x.aA,1,x.id⟩) (by simp[ch,w]) F;have bu:ch ⟨x.aA,1,x.id⟩=.i6 x.aA::.int .u8 1::ao x.id:=rfl;rw[bu] at O;have bk:=zs (.int .u8 1);have aN:=wP (.int .u8 1) w;have aO:=wQ (.int .u8 1) w;have b7:=fun (l:ae) (K:cv) bA=>LR s.cr s.pl aB.pl (by have:=aB.len;omega) x.id a8.id c4 (l0:=l) (K:=K) bA
    have a9:∀ b,b<I.length->(b<l0.length\/b=ix\/b=u.length)->o[b]?=I[b]?:=fun b m a0=>ap b m (by
     rcases cu.lt with h | h
     ·exact .inl h
     ·rcases a0 with a0 | a0 | a0
      ·exact d5.imp id fun h=>F
      ·rcases d75 with e | e | e
       ·exact bK e R
       ·exact .inl e
       ·exact .inr F
      ·have cU:=bb.lt;exact cU.imp id fun h=>F)
    have S:o[p]?=some (.q 9 (bx oq)):=by rw[a9 p (aY bL) (.inl F)];exact bL
    have bN:o[u.length]?=some (.q 45 T):=by rw[a9 _ (aY bM) (.inr (.inr rfl))];exact bM
    have dH:aJ 45 o bf ix ((fU r x).map aX):=dG.cY (.inr (a9 ix F (.inr (.inl rfl))));have bV:=iN oq;have dp:oq.cr=s.cr:=by rw[a7]
    have dq:oq.pl=s.pl:=by rw[a7]
    obtain⟨ag,bz⟩:=aq (bx oq);rw[<-bz] at bV S az bL;obtain⟨dQ,eL,eM,cE,_⟩:=bV;rw[dp,dq] at cE;have ex:∀ g:ae,(o++g)[p]?=some (.q 9 ag):=fun g=>by rw[aS (aY S)];exact S
    have ey:∀ g:ae,(o++g)[u.length]?=some (.q 45 T):=fun g=>by rw[aS (aY bN)];exact bN
    obtain⟨cN,aU⟩:=aq (ao x.id);rw[<-aU] at O aM w aN aO cW;simp only[<-aU] at b7;simp[H,c0,dv];rw[<-bz,<-az];simp[bM,Z,bq,aM,ef,bk,aN,aO,uq w,w,O];refine bY.bo ?_;simp[S,bN,dQ,cE,Z,aM];refine b7 _ _ fun cI cp X dj bE cx d9=>?_
    simp at dj bE;have q1:X[o.length]?=some (.q 2 [.i6 0,.af]):=by rw[bE _ F];simp
    have bc:∀ b,b<o.length->X[b]?=o[b]?:=fun b m=>by rw[bE b F,aS m]
    have dD:X[p]?=some (.q 9 ag):=by rw[bc p (aY S)];exact S
    have eu:=cx.cells;obtain⟨fu,a4⟩:=aq (X.set o.length (am.q 2 [U.i6 s.cr,cJ (eU (bm.cL x.id s.pl.l))]));have aH:∀ b,b≠o.length->fu[b]?=X[b]?:=fun b m=>by rw[a4];exact bp (fun e=>m e.symm)
    have er:fu.length=X.length:=by rw[a4];simp
    have n8:fu[o.length]?=some (.q 2 [U.i6 s.cr,cJ (eU (bm.cL x.id s.pl.l))]):=by rw[a4];exact bT F
    have cs:fu[p]?=some (.q 9 ag):=by rw[aH p (by have:=aY S;omega)];exact dD
    have df:ix<o.length:=F;have dI:aJ 45 fu bf ix ((fU r x).map aX):=dH.cY (.inr (by rw[aH ix F,bc ix df]));have dJ:aJ 45 fu cI cp ((bm.cK x.id s.pl.l).map aX):=cx.cY (d9.imp id fun h=>aH cp (by simp at h;omega));have dF:aJ 34 fu Y h5 ((out++[(⟨x.aA,1,x.id⟩:cZ)]).map ch):=al.cY (al.lt.imp id fun h=>by rw[aH h5 F,bc h5 h]);have ec:(bm.cK x.id s.pl.l).length<=1000:=by have:=bm.pu x.id s.pl.l;omega
    have db:∀ e∈(bm.cK x.id s.pl.l).map aX,e.length=45:=fun e c8=>by
     obtain⟨dR,dC,rfl⟩:=cF.1 c8;exact (hn (IQ aB.pl dR dC)).len
    obtain⟨cH,HR,cq,cS,bn,dU,aP,bW,dV⟩:=i3 (by_:=176) (x:=cI) (xs:=(bm.cK x.id s.pl.l).map aX) dI (by rw[dJ.contents]) db F F (by rw[du];simp;omega);rw[<-dk] at bn;have es:=bn.cells;have dE:cq[o.length]?=some (.q 2 [U.i6 s.cr,cJ (eU (bm.cL x.id s.pl.l))]):=by rw[aP _ (aY n8) (.inr F)];exact n8
    have ct:cq[p]?=some (.q 9 ag):=by rw[aP _ (aY cs) (.inr F)];exact cs
    have bs:b1 s.cr (eU (bm.cL x.id s.pl.l))=[.i6 s.cr,cJ (eU (bm.cL x.id s.pl.l))]:=rfl;have bP:∀ a b:U,aw [U.i6 0,.af] 0 [a,b]=[a,b]:=fun _ _=>rfl
    have c5:aw ag 5 [.i6 s.cr,cJ (eU (bm.cL x.id s.pl.l))]=bx (fE s x):=by rw[bz,a7,b5];rfl
    simp[q1,bs,bP];rw[<-a4];simp[n8,cS];refine bY.bo ?_;simp[dE,ct,c5];have dz:Y≠.af:=fun e=>by rw[e] at bh;cases bh
    have ed:=al.lt.resolve_left dz;have de:l0.length<=h5:=by
     rcases ay with h | ⟨h,h'⟩
     ·omega
     ·rw[h'];exact d5.resolve_left h
    have b3:ix≠h5:=by
     rcases ay with h | ⟨h,h'⟩
     ·omega
     ·rw[h'];rcases d75 with e | e | e
      ·exact bK e R
      ·exact bK e h
      ·exact e
    have cb:cH=.af\/l0.length<=HR:=by
     rcases bW with h | ⟨_,h⟩ | h
     ·exact .inr F
     ·exact .inr F
     ·exact .inl h
    have ep:=bm.pu x.id s.pl.l;have c6:(fE s x).pl.l.length=(bm.cL x.id s.pl.l).length:=by rw[ry]
    refine⟨F,V,by simp;omega,fun b m P=>?_,fE s x,fU r x++bm.cK x.id s.pl.l,out++[⟨x.aA,1,x.id⟩],cH,Y,HR,h5,V,V,dn,by rw[cg,c6];omega,?_,bT (aY ct),bn.cY (cb.imp id fun h=>bp F),dF.cY (.inr ?_),cb,.inr de,?_,by simp;omega⟩
    ·rw[bp (fun e=>P e.symm),aP b F (.inr F),aH b F,bc b F,a9 b F (.inl m),aR b P,aT b F F];exact bC b m P
    ·rw[show N - (k+1)=N - k - 1 by omega,<-aC];exact a6
    ·rw[bp F,aP h5 F (.inr (fun e=>b3 e.symm))]
    ·rcases bW with h | ⟨_,h⟩ | h
     ·exact .inr (.inr F)
     ·exact .inr (.inr (by rw[h];exact b3))
     ·exact .inl h
 ·rw[bp (fun e=>P e.symm),bp F,a2 _ F,aS m]
 ·show (bm.cK y t.pl.l).length+(eU (bm.cL y t.pl.l)).l.length+0<=N;rw[iV];omega
 ·exact bT (by simp;omega)
 ·rw[bp F,bp F]
open b8 bm
structure jZ (s:bl) :Prop where
 st:iq s.aL
 pen:c2 s.cr s.pl.l=0
 gY:0<=s.b4
 hy:s.b4<=1000000000
 ke:∀ x∈s.pl.l,x.aA<s.b4/\fk x.op=0/\x.id∉s.aL.aD.l/\x.bA.l=dp s.aL.aD.l x.op
theorem nt (s:bl) :gi s=0<->jZ s:=by
 have q:∀ b:Bool,(if b then (0:Int) else 8)=0<->b=true:=fun b=>by cases b<;>simp
 unfold gi;rw[q,bN];unfold qJ vg;rw[bN,bN,bN,bI,bI,bI,bI,bI,wY];have p:∀ x:aK,o7 s x=true<->x.aA<s.b4/\fk x.op=0/\x.id∉s.aL.aD.l/\x.bA.l=dp s.aL.aD.l x.op:=fun x=>by
  unfold o7;rw[bN,bN,bN,bI,bI,bI,bI]
 constructor
 ·rintro⟨⟨h1,g,h,j⟩,m⟩;refine⟨h1,g,h,j,fun x o=>?_⟩;obtain⟨k,hk⟩:=cc.1 o;have:=m k (aH.1 hk).1;rw[g3 hk] at this;exact (p x).1 this
 ·rintro⟨h1,g,h,j,m⟩;refine⟨⟨h1,g,h,j⟩,fun k hk=>?_⟩;obtain⟨x,t,o⟩:=aQ hk;rw[g3 t];exact (p x).2 (m x o)
theorem KT {s:bl} (h:¬ jZ s) :gi s=8:=by
 have:¬ gi s=0:=fun e=>h ((nt s).1 e)
 unfold gi at this ⊢;split
 ·rename_i g;rw[aj g] at this;exact bK rfl this
 ·rfl
def eG (s:bl) :bl:=⟨s.aL,s.cr,eU s.pl.l,s.b4+1,s.gH⟩
def gp (j:cx) :aK:=⟨j.aA,j.op,j.id,none⟩
def lO (s:bl) (j:cx) :bl:=⟨s.aL,s.cr,some (s.pl.l++[⟨j.aA,j.op,bJ j.op,fp (dp s.aL.aD.l j.op)⟩]),s.b4+1,s.gH⟩
def fh (s:bl) (j:cx) :bl × List cZ:=gA s.pl.l.length (fE (eG s) (gp j)) (bm.cK j.id s.pl.l) []
def cT (s:bl) (j:cx) :bl × List cZ:=
 if eW s j=6 then (lO s j,[⟨j.aA,6,j.id⟩])
 else if eW s j=1 then ((fh s j).1,⟨j.aA,1,j.id⟩::(fh s j).2)
 else (eG s,[⟨j.aA,eW s j,j.id⟩])
noncomputable def eS (s:bl) (j:cx) :Int:=if gi s=0 then (if ff j then (if j.aA=s.b4 then (if s.b4=1000000000 then 18 else 0) else 32) else 8) else 8
theorem y0 {s:bl} {j:cx} (h:eS s j=0) :jZ s/\ff j=true/\j.aA=s.b4/\s.b4≠1000000000:=by
 unfold eS at h;split at h
 ·rename_i h1;split at h
  ·rename_i g;split at h
   ·rename_i m;split at h
    ·cases h
    ·rename_i o;exact⟨(nt s).1 h1,g,m,o⟩
   ·cases h
  ·cases h
 ·cases h
theorem rG {j:cx} (h:ff j=true) (g:j.ct=0) :c4 j.op=0/\bJ j.op=j.id/\fk j.op=0:=by unfold ff at h;rw[aj g,bN,bN,bN,bI,bI,bI] at h;exact h.2
theorem GO {j:cx} (h:ff j=true) :j.ct=0\/j.ct=2\/j.ct=3\/j.ct=4:=by
 unfold ff at h;rw[bN] at h;have h:=h.2;split at h
 ·rename_i g;exact .inl g
 ·rw[bN,q9,q9,bI,bI,bI] at h;exact .inr h.1
theorem sx {s:bl} {j:cx} (h:ff j=true) (g:eW s j=6\/eW s j=1) :j.ct=0/\s.gH=false/\j.id∉s.aL.aD.l/\j.id∉s.pl.l.map aK.id:=by
 have o:j.ct=0:=by
  rcases GO h with e | e | e | e
  ·exact e
  all_goals
   have q:¬ j.ct=0:=by rw[e];decide
   have t:eW s j=(u j.ct:Int):=by unfold eW;rw[ak q]
   rw[t,e] at g;exact bK g (by decide)
 unfold eW at g;rw[aj o] at g;cases p:s.gH with
 | true=>rw[p,aj rfl] at g;omega
 | false=>
  rw[p,ak V] at g;by_cases h1:j.id∈s.aL.aD.l\/j.id∈s.pl.l.map aK.id
  ·rw[aj h1] at g;omega
  ·exact⟨o,rfl,fun m=>h1 (.inl m),fun m=>h1 (.inr m)⟩
theorem zS {s:bl} {j:cx} (g:j.ct=0) (o:s.gH=false) (h1:j.id∉s.aL.aD.l) (m:j.id∉s.pl.l.map aK.id) :
  eW s j=if dp s.aL.aD.l j.op=[] then (if (s.aL.aD.l.length:Int)=s.aL.cap then 8 else 1) else if (s.pl.l.length:Int)<s.cr then 6 else 7:=by unfold eW;rw[aj g,o,ak V,ak (by rintro (h | h);exact h1 h;exact m h)]
theorem XA {s:bl} {j:cx} (h:ff j=true) (g:eW s j=6) :dp s.aL.aD.l j.op≠[]/\(s.pl.l.length:Int)<s.cr:=by
 obtain⟨m,t,h1,o⟩:=sx h (.inl g);rw[zS m t h1 o] at g;split at g
 ·split at g<;>cases g
 ·rename_i p;split at g
  ·rename_i q;exact⟨p,q⟩
  ·cases g
theorem LN {s:bl} {j:cx} (h:ff j=true) (g:eW s j=1) :dp s.aL.aD.l j.op=[]/\(s.aL.aD.l.length:Int)≠s.aL.cap:=by
 obtain⟨m,t,h1,o⟩:=sx h (.inr g);rw[zS m t h1 o] at g;split at g
 ·rename_i p;split at g
  ·cases g
  ·rename_i q;exact⟨p,q⟩
 ·split at g<;>cases g
theorem RI {ord:aN} {o:aM} (h:dp ord o=[]) :∀ p∈o.ay.l,p∈ord:=fun p j=>by
 refine Classical.byContradiction fun g=>?_
 have:p∈dp ord o:=c7.2 ⟨j,by unfold hQ;simp[g]⟩;rw[h] at this;cases this
theorem JC {s:bl} (m:jZ s) {j:cx} (o:ff j=true) (H:j.aA=s.b4) (t:eW s j=6) :gx s.cr s.pl.l j.aA j.op (dp s.aL.aD.l j.op)=0:=by
 obtain⟨u,G,h1,v⟩:=sx o (.inl t);obtain⟨w,D⟩:=XA o t;obtain⟨f1,f2,f3⟩:=rG o u;have I:=m.gY;have J:=m.hy;unfold gx;rw[ak (by rw[m.pen];simp),ak (by rw[f1];simp),ak,ak (by rw[f2];exact v),ak,ak F]
 ·intro g;by_cases q:s.pl.l.length=0
  ·unfold eJ at g;rw[aj q] at g;omega
  ·unfold eJ at g;rw[ak q] at g;obtain⟨x,p,C⟩:=aQ (l:=s.pl.l) (k:=s.pl.l.length - 1) F;rw[g3 p] at g;have:=(m.ke x C).1;omega
 ·rintro (h | h | h)
  ·omega
  ·omega
  ·have B:bQ j.op.ay.l=true:=by
    unfold c4 at f1;split at f1
    ·cases f1
    ·split at f1
     ·rename_i z;exact z
     ·cases f1
   have:eO j.op (dp s.aL.aD.l j.op)=true:=by
    unfold eO;rw[bN,bN,bI];refine⟨uU.2 w,ub ((oo B).sublist jT),fW.2 fun x p=>bW (c7.1 p).1⟩
   rw[this] at h;cases h
theorem Ka {s:bl} (q:fQ s) (h:jZ s) {j:cx} (t:hr j) (p:ff j=true) (D:j.aA=s.b4) (u:eW s j=1) :i0 (eG s) [gp j]:=by
 obtain⟨v,C,h1,w⟩:=sx p (.inr u);obtain⟨z,B⟩:=LN p u;obtain⟨f1,f2,f3⟩:=rG p v;have F:=h.gY;have G:=h.hy;have m:(eG s).pl.l=s.pl.l:=iV _;refine⟨⟨q.aL,by rw[m];exact q.pl,by rw[m];exact q.len⟩,h.st,by rw[m];exact h.pen,fun x g=>by rw[m] at g;exact (h.ke x g).2,fun x g=>?_,fun x g=>?_,V,fun x g y o=>?_⟩
 ·rw[fO.1 g];exact⟨t.op,t.id,fun y o=>(eK o).elim,ek _⟩
 ·rw[fO.1 g];exact⟨f3,f2,h1,RI z,by show 0<=j.aA;omega,by show j.aA<=_;omega⟩
 ·rw[fO.1 g];rw[m] at o;exact fun e=>w (cF.2 ⟨y,o,e.symm⟩)
theorem Hf {s:bl} {j:cx} (g:ff j=true) (h:eW s j=1) :i8 (eG s)=false:=cp (LN g h).2
theorem zn {s:bl} (q:fQ s) (m:jZ s) {j:cx} (o:hr j) (g:ff j=true) (t:j.aA=s.b4) (h:eW s j=1) :i0 (fE (eG s) (gp j)) (bm.cK j.id s.pl.l):=by
 have:=(Ka q m o g t h).next (x:=gp j) V (Hf g h)
 have e:fU [gp j] (gp j)=[]:=by unfold fU;simp
 rw[e,im] at this;have p:(eG s).pl.l=s.pl.l:=iV _;rw[p] at this;exact this
open b8 bm
theorem zh:∀ (n:Nat) (s:bl) (r:List aK) (out:List cZ),(gA n s r out).2.length<=out.length+n
 | 0,s,r,out=>aF _
 | n+1,s,r,out=>by
  by_cases h:r=[]
  ·subst h;rw[qM];show out.length<=_;omega
  ·rw[uh n s out h];split
   ·refine dC (zh n _ _ _) ?_;rw[cg];simp;omega
   ·refine dC (zh n _ _ _) ?_;rw[cg];simp;omega
def ku:bl:=⟨⟨0,⟨none,none,0⟩,none⟩,0,none,0,false⟩
def fG (s:bH cZ) :U:=b0 34 ch s
theorem tp (r:cZ) :ar (ch r)=true:=by have:=cP r.id;simp[ch,ar,U.ax,this]
noncomputable def qE (s:bl) (j:cx) :bl:=if eS s j=0 then (cT s j).1 else ku
noncomputable def qD (s:bl) (j:cx) :bH cZ:=if eS s j=0 then some (cT s j).2 else none
theorem Bs:bx ku=[.i6 0,.af,.af,.i6 0,.af,.i6 0,.af,.i6 0,.bool false]:=rfl
theorem Gn (s:bl) (t:fQ s) (j:cx) (m:hr j) :aV 18 [.ah (bx s),.ah (dy j)] (.aZ [.ah (bx (qE s j)),fG (qD s j),.i6 (eS s j)]):=by
 apply a8 func18 [da 0 4++[[5],[6],[8],[4,8,6,1],[7]],da 0 9++[[9,5,3,1]]];have cg:=dw;have aN:=iN s;have J:=lD m;have bi:=Gk s t;have bk:=Qb j m;have bad:eS s j≠0->∀ l:ae,Rd l (.aZ [.ah [.i6 0,.af,.af,.i6 0,.af,.i6 0,.af,.i6 0,.bool false],.af,.i6 (eS s j)]) (.aZ [.ah (bx (qE s j)),fG (qD s j),.i6 (eS s j)]):=fun h l=>by
  unfold qE qD;rw[ak h,ak h];exact aG
 have W:eS s j=if gi s=0 then (if ff j then (if j.aA=s.b4 then (if s.b4=1000000000 then 18 else 0) else 32) else 8) else 8:=rfl
 obtain⟨cN,aS⟩:=aq (bx s);obtain⟨L,bf⟩:=aq (dy j);rw[<-aS] at aN bi ⊢;rw[<-bf] at J bk ⊢;have cU:=aN;have cR:=J;obtain⟨R,aE,dq,dl,dg,dm,df,dd,db,di,dh,dn,a3,de,dc,dj,aH⟩:=aN;obtain⟨B,ai,c4,ag,nd,c3,c5,bv,bw⟩:=J;simp[R,aE,B];refine av bi (by simp[ar,U.ax,aH]) ?_;by_cases h1:gi s=0
 ·simp[h1,B,bv];refine av bk (by simp[ar,U.ax,bw]) ?_;cases u:ff j with
  | false=>
   have g:eS s j=8:=by rw[W,aj h1,u];rfl
   have:=bad (by rw[g];decide);rw[g] at this;simp;rw[g];exact this _
  | true=>
   simp[B,ai,R,a3];by_cases z:j.aA=s.b4
   ·by_cases ap:s.b4=1000000000
    ·have g:eS s j=18:=by rw[W,aj h1,u,aj rfl,aj z,aj ap]
     have:=bad (by rw[g];decide);rw[g] at this;simp[z,ap,R,a3];rw[g];exact this _
    ·have g:eS s j=0:=by rw[W,aj h1,u,aj rfl,aj z,ak ap]
     have v:=(nt s).1 h1;have c0:=v.gY;have c1:=v.hy;have cm:qE s j=(cT s j).1:=by unfold qE;rw[aj g]
     have cl:qD s j=some (cT s j).2:=by unfold qD;rw[aj g]
     rw[cm,cl,g];have aX:=Gs s t v.pen;have aC:=Pd s t v.pen j m;rw[<-aS] at aX aC;rw[<-bf] at aC;have bN:IntKind.i64.wrap (s.b4+1)=s.b4+1:=by rw[IntKind.wrap_i64];omega
     have a6:=iN (ih s);have bu:aw (bx (ih s)) 7 [.i6 (s.b4+1)]=bx (eG s):=rfl;have cd:(ih s).b4=s.b4:=rfl;obtain⟨E2,bX⟩:=aq (bx (ih s));rw[<-bX] at a6 bu aX;obtain⟨bB,dr,dH,dE,dA,dF,dz,dv,dt,dC,dB,dG,cA,dx,du,dD,ds⟩:=a6;have cB:aw [U.i6 0,.af,.af,.i6 0,.af,.i6 0,.af,.i6 0,.bool false] 0 E2=E2:=cH (by rw[bB];rfl);have C:=br m.id;obtain⟨G,D⟩:=aq (eW s j);rw[<-D] at aC;have bI:=zs (.int .u8 G);have bb:=wP (.int .u8 G) C;have bc:=wQ (.int .u8 G) C;have aQ:∀ w,ch ⟨j.aA,w,j.id⟩=.i6 j.aA::.int .u8 w::ao j.id:=fun _=>rfl
     obtain⟨I,aR⟩:=aq (ao j.id);rw[<-aR] at nd C bb bc aQ;have bS:I.take 32=I:=aI F;simp[z,ap,R,aE,a3];refine av aX (by simp[ar,U.ax,aH]) ?_;simp[bB,cB,cA,cd,bN,bu,B,ai,bv,R,aE,nd];refine av aC (by simp[ar,U.ax,aH,bw]) ?_;simp[B,ai,nd,ef,bI,bb,bc,uq C,C,bS];have a4:∀ (l:ae) (b:Nat) (w:Int),l[b]?=some (.q 34 (.i6 j.aA::.int .u8 w::I))->aJ 34 l (.ad 34 b 0 1 1 34) b ([(⟨j.aA,w,j.id⟩:cZ)].map ch):=fun l b w bZ=>
      .ad b 1 1 34 _ _ bZ (by simp[C]) rfl (by simp[aQ,C]) F F (by simp[aQ,C,aI])
     have aP:∀ (l:ae) (al:bl) (w:U) (b:Nat) (aM:List cZ),aJ 34 l w b (aM.map ch)->bq w=false->Rd l (.aZ [.ah (bx al),w,.i6 0]) (.aZ [.ah (bx al),fG (some aM),.i6 0]):=fun l al w b aM ce cc=>
      Dc (.same _ (kN al)) (ce.q.jg tp (some aM) cc rfl) (.same _ rfl)
     have a7:=iN (eG s);have cq:(eG s).cr=s.cr:=rfl;have cs:(eG s).pl=eU s.pl.l:=rfl;have ct:(eG s).aL=s.aL:=rfl;have b6:=kN (eG s);obtain⟨AH,aB⟩:=aq (bx (eG s));rw[<-aB] at a7 b6 ⊢;obtain⟨S,cC,bC,a5,_⟩:=a7;rw[cq,cs] at a5;rw[ct] at bC;have cD:aw [U.i6 0,.af,.af,.i6 0,.af,.i6 0,.af,.i6 0,.bool false] 0 AH=AH:=cH (by rw[S];rfl);by_cases H:G=6
     ·have bn:=Bg s t j.op m.op;have Y:=XT s.cr (eU s.pl.l) (by rw[iV];exact t.pl) (by rw[iV];exact t.len) j.aA j.op m.op (fp (dp s.aL.aD.l j.op)) (yD m.op) (H5 m.op);have bs:gx s.cr (eU s.pl.l).l j.aA j.op (fp (dp s.aL.aD.l j.op)).l=0:=by rw[iV,kw];exact JC v u z (by rw[<-D];exact H)
      rw[Uf,aj bs,aj bs,iV] at Y;obtain⟨Q,T⟩:=aq (some (s.pl.l++[(⟨j.aA,j.op,bJ j.op,fp (dp s.aL.aD.l j.op)⟩:aK)]));rw[<-T] at Y;have X:cT s j=(lO s j,[⟨j.aA,6,j.id⟩]):=by unfold cT;rw[aj (by rw[<-D];exact H)]
      rw[X];have b3:ar (b1 s.cr (eU s.pl.l))=true:=by simp[b1,ar,U.ax,jw]
      have K:=dN j.op;have ca:=bV (fp (dp s.aL.aD.l j.op));have bP:b1 s.cr Q=[.i6 s.cr,cJ Q]:=rfl;rw[bP] at Y;have aW:aw (bx (eG s)) 5 [.i6 s.cr,cJ Q]=bx (lO s j):=by rw[T];rfl
      have a9:=iN (lO s j);have cX:=kN (lO s j);obtain⟨E5,bg⟩:=aq (bx (lO s j));rw[<-aB] at aW;rw[<-bg] at a9 aW;obtain⟨bE,cE,_⟩:=a9;obtain⟨bG,az⟩:=aq (au j.op);rw[<-aS,<-az] at bn;rw[<-az] at Y K ag;have cF:aw [U.i6 0,.af,.af,.i6 0,.af,.i6 0,.af,.i6 0,.bool false] 0 E5=E5:=cH (by rw[bE];rfl);simp[H,S,a5,B,ai,ag,R,aE];refine av bn (by simp[ar,U.ax,aH,K]) ?_;simp[H,S,a5,B,ai,ag];refine av Y (by simp[ar,U.ax,b3,K,ca]) ?_;simp[S,aW,bE,cE,cF];rw[bg];exact aP _ _ _ 5 _ (a4 _ 5 6 rfl) rfl
     ·by_cases ay:G=1
      ·have P:eW s j=1:=by rw[<-D];exact ay
       obtain⟨cu,_⟩:=sx u (.inr P);obtain⟨f1,f2,f3⟩:=rG u cu;have bQ:=Ka t v m u z P;have b8:=Hf (s:=s) u P;have b9:qu s.aL j.op=1:=bQ.B5 (x:=gp j) V b8;have aU:=KW s.aL t.aL v.st j.op m.op f3 b9;have cj:=zn t v m u z P;have cf:=IK t.aL v.st (x:=bJ j.op) (o:=j.op) (pb _) m.op;have b5:=mi s.aL;have K:=dN j.op;have X:cT s j=((fh s j).1,⟨j.aA,1,j.id⟩::(fh s j).2):=by unfold cT;rw[ak (by rw[P];decide),aj P]
       rw[X];obtain⟨t1,Z⟩:=aq (⟨oh s.aL (bJ j.op) j.op,s.cr,eU s.pl.l,s.b4+1,s.gH⟩:bl);have O:t1.pl.l=s.pl.l:=by rw[Z];exact iV _
       have cn:fQ t1:=⟨by rw[Z];exact cf,by rw[O];exact t.pl,by rw[O];exact t.len⟩
       have cp:c2 t1.cr t1.pl.l=0:=by rw[O,show t1.cr=s.cr by rw[Z]];exact v.pen
       have bh:rq t1 j.id=fE (eG s) (gp j):=by rw[Z];rfl
       have bW:i0 (rq t1 j.id) (bm.cK j.id t1.pl.l):=by rw[bh,O];exact cj
       have cW:=bm.pu j.id s.pl.l;obtain⟨c8,c9⟩:=mG v.pen;have b7:gA s.pl.l.length (rq t1 j.id) (bm.cK j.id t1.pl.l) []=fh s j:=by rw[bh,O];rfl
       have bt:aw AH 0 (ck (oh s.aL (bJ j.op) j.op))=bx t1:=by rw[aB,Z];rfl
       obtain⟨Q,T⟩:=aq (ck (oh s.aL (bJ j.op) j.op));rw[<-T] at aU bt;have bU:Q.length=5:=by rw[T];rfl
       obtain⟨bG,az⟩:=aq (au j.op);rw[<-az] at aU K ag;have cS:Q.take 5=Q:=aI F;simp[ay,S,bC,B,ag];refine av aU (by simp[ar,U.ax,b5,K]) ?_;simp[bU,bt,B,nd];rw[aR];refine Pf t1 cn cp j.id m.id bW (N:=s.pl.l.length) (by rw[O];omega) F (p:=3) rfl b7 fun w c6 a1 cb aT ci bA cP=>?_
       simp at cb aT;have b2:a1[5]?=some (.q 34 (.i6 j.aA::.int .u8 1::I)):=by rw[aT 5 F F,aR];rfl
       have b0:a1[2]?=some (.q 9 [.i6 0,.af,.af,.i6 0,.af,.i6 0,.af,.i6 0,.bool false]):=by rw[aT 2 F F];rfl
       have cz:=a4 a1 5 1 b2;have cv:∀ e∈(fh s j).2.map ch,e.length=34:=bA.row;have cV:((fh s j).2).length*48<=100000000000000:=by
        have h:=zh s.pl.l.length (fE (eG s) (gp j)) (bm.cK j.id s.pl.l) [];have u:(fh s j).2.length<=0+s.pl.l.length:=h;omega
       obtain⟨cG,cw,a2,bK,aO,cO,bd,bL,bM⟩:=i3 (by_:=48) (x:=w) (xs:=(fh s j).2.map ch) cz (by rw[bA.contents]) cv F F (by rw[cg];simp;omega);rw[<-dk] at aO;have a0:bq cG=false:=by rw[bM];rfl
       have cy:a2[3]?=some (.q 9 (bx (fh s j).1)):=by rw[bd 3 F (.inr F)];exact ci
       have bz:a2[2]?=some (.q 9 [.i6 0,.af,.af,.i6 0,.af,.i6 0,.af,.i6 0,.bool false]):=by rw[bd 2 F (.inr F)];exact b0
       have bH:=iN (fh s j).1;obtain⟨bF,cI,_⟩:=bH;have cL:aw [U.i6 0,.af,.af,.i6 0,.af,.i6 0,.af,.i6 0,.bool false] 0 (bx (fh s j).1)=bx (fh s j).1:=cH (by rw[bF];rfl);have cM:∀ c:am,(a2.set 2 c)[2]?=some c:=fun c=>bT (aY bz)
       have c7:=aO.cells;simp[bK];refine bY.bo ?_;simp[cy,bz,bF,cI,cL,cM];refine aP _ _ _ cw (⟨j.aA,1,j.id⟩::(fh s j).2) (aO.cY (.inr (bp ?_))) a0;rcases bL with h | ⟨_,h⟩ | h
       ·omega
       ·omega
       ·rw[h] at a0;cases a0
      ·have X:cT s j=(eG s,[⟨j.aA,G,j.id⟩]):=by unfold cT;rw[ak (by rw[<-D];exact H),ak (by rw[<-D];exact ay),D]
       rw[X];simp[H,ay,S,cC,cD];rw[aB];exact aP _ _ _ 5 _ (a4 _ 5 G rfl) rfl
   ·have g:eS s j=32:=by rw[W,aj h1,u,aj rfl,ak z]
    have:=bad (by rw[g];decide);rw[g] at this;simp[z];rw[g];exact this _
 ·have g:eS s j=8:=by rw[W,ak h1]
  have bO:gi s=8:=KT fun h=>h1 ((nt s).2 h)
  have:=bad (by rw[g];decide);rw[g] at this;simp[bO];rw[g];exact this _
open b8 bm
theorem Iy {x:List B} {l:List aK} {b:Int} (h:∀ y∈l,y.aA<b) :∀ y∈bm.cL x l,y.aA<b:=fun y g=>by
 obtain⟨m,j,rfl⟩:=cF.1 (c7.1 g).1;exact h m j
theorem Dg {b:Int}:∀ (n:Nat) (s:bl) (r:List aK) (out:List cZ),i0 s r->(∀ y∈s.pl.l,y.aA<b)->
  ∃ m,i0 (gA n s r out).1 m/\(gA n s r out).1.b4=s.b4/\(gA n s r out).1.gH=s.gH/\(gA n s r out).1.cr=s.cr/\(gA n s r out).1.aL.cap=s.aL.cap/\∀ y∈(gA n s r out).1.pl.l,y.aA<b
 | 0,s,r,out,h,g=>⟨r,h,rfl,rfl,rfl,rfl,g⟩
 | n+1,s,r,out,h,g=>by
  by_cases j:r=[]
  ·subst j;rw[qM];exact⟨[],h,rfl,rfl,rfl,rfl,g⟩
  ·rw[uh n s out j];cases w:i8 s with
   | true=>
    rw[aj rfl];exact Dg n s _ _ (h.full _) g
   | false=>
    rw[ak V];obtain⟨m,o,p,q,t,u,v⟩:=Dg (b:=b) n (fE s (dY r)) (fU r (dY r)++bm.cK (dY r).id s.pl.l) (out++[⟨(dY r).aA,1,(dY r).id⟩]) (h.next (vJ j) w) (by rw[ry];exact Iy g);exact⟨m,o,p,q,t,u,v⟩
theorem wq {s:bl} (o:fQ s) {j:cx} (v:hr j) (R:eS s j=0) :fQ (cT s j).1/\jZ (cT s j).1/\(cT s j).1.b4=s.b4+1/\(cT s j).1.gH=s.gH/\(cT s j).1.cr=s.cr/\(cT s j).1.aL.cap=s.aL.cap:=by
 obtain⟨h,u,B,Y⟩:=y0 R;have Z:=h.gY;have ae:=h.hy;have p:(eG s).pl.l=s.pl.l:=iV _;unfold cT;by_cases t:eW s j=6
 ·rw[aj t];obtain⟨O,W,h1,V⟩:=sx u (.inl t);obtain⟨f1,f2,f3⟩:=rG u O;have S:=JC h u B t;have T:=(Uh (m:=fp (dp s.aL.aD.l j.op)) (by rw[kw];exact S)).2.2.2;have X:s.pl.l.length<=8:=by obtain⟨ag,_⟩:=mG h.pen;omega
  refine⟨⟨o.aL,fun x g=>?_,?_⟩,⟨h.st,T,by show 0<=s.b4+1;omega,by show s.b4+1<=_;omega,fun x g=>?_⟩,rfl,rfl,rfl,rfl⟩
  ·have z:x∈s.pl.l++[(⟨j.aA,j.op,bJ j.op,fp (dp s.aL.aD.l j.op)⟩:aK)]:=g;rcases eQ.1 z with g | g
   ·exact o.pl x g
   ·rw[fO.1 g];exact⟨v.op,pb _,yD v.op,H5 v.op⟩
  ·show (s.pl.l++[_]).length<=_;rw[cg];simp;omega
  ·have z:x∈s.pl.l++[(⟨j.aA,j.op,bJ j.op,fp (dp s.aL.aD.l j.op)⟩:aK)]:=g;rcases eQ.1 z with g | g
   ·obtain⟨K,w⟩:=h.ke x g;exact⟨by show x.aA<s.b4+1;omega,w⟩
   ·rw[fO.1 g];exact⟨by show j.aA<s.b4+1;omega,f3,by show bJ j.op∉_;rw[f2];exact h1,by show (fp _).l=_;rw[kw];rfl⟩
 ·rw[ak t];by_cases h1:eW s j=1
  ·rw[aj h1];have P:=zn o h v u B h1;have Q:∀ y∈(fE (eG s) (gp j)).pl.l,y.aA<s.b4:=by
    rw[ry,p];exact Iy fun y U=>(h.ke y U).1
   obtain⟨ai,q,C,G,H,I,J⟩:=Dg (b:=s.b4) s.pl.l.length (fE (eG s) (gp j)) (bm.cK j.id s.pl.l) [] P Q;have e:(fh s j).1=(gA s.pl.l.length (fE (eG s) (gp j)) (bm.cK j.id s.pl.l) []).1:=rfl;show fQ (fh s j).1/\jZ (fh s j).1/\(fh s j).1.b4=_/\(fh s j).1.gH=_/\(fh s j).1.cr=_/\(fh s j).1.aL.cap=_;rw[e];have D:(gA s.pl.l.length (fE (eG s) (gp j)) (bm.cK j.id s.pl.l) []).1.b4=s.b4+1:=C;exact⟨q.ok,⟨q.st,q.pen,F,F,fun x g=>⟨by have:=J x g;omega,q.ke x g⟩⟩,D,G,H,I⟩
  ·rw[ak h1];refine⟨⟨o.aL,by rw[p];exact o.pl,by rw[p];exact o.len⟩,⟨h.st,by rw[p];exact h.pen,by show 0<=s.b4+1;omega,by show s.b4+1<=_;omega,fun x g=>?_⟩,rfl,rfl,rfl,rfl⟩;rw[p] at g;obtain⟨K,w⟩:=h.ke x g;exact⟨by show x.aA<s.b4+1;omega,w⟩
theorem Dh:∀ (n:Nat) (s:bl) (r:List aK) (out:List cZ),i0 s r->(∀ x∈out,(ch x).length=34)->∀ x∈(gA n s r out).2,(ch x).length=34
 | 0,s,r,out,h,m=>m
 | n+1,s,r,out,h,m=>by
  by_cases o:r=[]
  ·subst o;rw[qM];exact m
  ·rw[uh n s out o];have g:=(h.r3 _ (vJ o)).id;have row:∀ j:Int,(ch ⟨(dY r).aA,j,(dY r).id⟩).length=34:=fun j=>by simp[ch,br g]
   have p:∀ j:Int,∀ x∈out++[(⟨(dY r).aA,j,(dY r).id⟩:cZ)],(ch x).length=34:=fun j x g=>by
    rcases eQ.1 g with g | g
    ·exact m x g
    ·rw[fO.1 g];exact row j
   cases q:i8 s with
   | true=>
    rw[aj rfl];exact Dh n s _ _ (h.full _) (p 8)
   | false=>
    rw[ak V];exact Dh n _ _ _ (h.next (vJ o) q) (p 1)
theorem IM {s:bl} (t:fQ s) {j:cx} (m:hr j) (p:eS s j=0) :∀ x∈(cT s j).2,(ch x).length=34:=by
 obtain⟨o,q,u,w⟩:=y0 p;have row:∀ h:Int,(ch ⟨j.aA,h,j.id⟩).length=34:=fun h=>by simp[ch,br m.id]
 have one:∀ h:Int,∀ x∈[(⟨j.aA,h,j.id⟩:cZ)],(ch x).length=34:=fun h x g=>by rw[fO.1 g];exact row h
 unfold cT;split
 ·exact one 6
 ·split
  ·rename_i h1;intro x g;have v:x∈(⟨j.aA,1,j.id⟩:cZ) ::(fh s j).2:=g;rcases fX.1 v with rfl | g
   ·exact row 1
   ·exact Dh _ _ _ _ (zn t o m q u h1) (fun x g=>(eK g).elim) x g
  ·exact one _
theorem KU:fQ ku:=⟨⟨⟨fun _ h=>(eK h).elim,ek _,fun _ h=>(eK h).elim,ek _⟩,fun _ h=>(eK h).elim,ek _⟩,fun _ h=>(eK h).elim,ek _⟩
open b8 bm
def hZ (s:bH cx) :U:=b0 45 dy s
def pE (l:List cZ) :bH cZ:=match l with | []=>none | a::r=>some (a::r)
theorem zI (l:List cZ) :(pE l).l=l:=by cases l<;>rfl
theorem WP (l:List cZ) :(pE l).isNone=l.isEmpty:=by cases l<;>rfl
noncomputable def k7:List cx->bl->List cZ->bl × List cZ × Int
 | [],s,all=>(s,all,0)
 | g::r,s,all=>if eS s g=0 then k7 r (cT s g).1 (all++(cT s g).2) else (ku,[],eS s g)
noncomputable def qO (s:bl) (l:List cx) :bl × List cZ × Int:=if gi s=0 then (if 60<l.length then (ku,[],4) else k7 l (ih s) []) else (ku,[],8)
theorem VE {l:List cx} {k:Nat} {j:cx} (h:l[k]?=some j) {s:bl} {all:List cZ} (g:eS s j=0) :k7 (l.drop k) s all=k7 (l.drop (k+1)) (cT s j).1 (all++(cT s j).2):=by
 obtain⟨hk,rfl⟩:=aH.1 h;rw[l5 hk]
 conv=>lhs;unfold k7
 rw[aj g]
theorem VD {l:List cx} {k:Nat} {j:cx} (h:l[k]?=some j) {s:bl} {all:List cZ} (g:eS s j≠0) :k7 (l.drop k) s all=(ku,[],eS s j):=by
 obtain⟨hk,rfl⟩:=aH.1 h;rw[l5 hk]
 conv=>lhs;unfold k7
 rw[ak g]
theorem IL {s:bl} (u:fQ s) {j:cx} (q:hr j) (m:eS s j=0) :1<=(cT s j).2.length/\(cT s j).2.length<=9:=by
 obtain⟨g,p,v,t⟩:=y0 m;obtain⟨w,z⟩:=mG g.pen;unfold cT;split
 ·simp
 ·split
  ·have h:=zh s.pl.l.length (fE (eG s) (gp j)) (bm.cK j.id s.pl.l) [];have o:(fh s j).2.length<=0+s.pl.l.length:=h;simp;omega
  ·simp
structure MH (s:bl) (l:bH cx) (fin:bl × List cZ × Int) (k:Nat) (sgZ:aP) (L:ae) :Prop where
 h0:sgZ 2=.ptr 0 0 9
 kb:sgZ 4=.ptr 1 0 9
 m8:sgZ 8=.ptr 2 0 9
 yk:sgZ 27=hZ l
 Qw:sgZ 28=.i6 l.l.length
 Qx:sgZ 29=.i6 k
 mF:L[1]?=some (.q 9 (bx ku))
 ex:∃ t all v g,L[2]?=some (.q 9 (bx t))/\fQ t/\sgZ 9=v/\aJ 34 L v g (all.map ch)/\(v=.af\/3<=g)/\bq v=all.isEmpty/\all.length<=9*k/\k7 (l.l.drop k) t all=fin
theorem Gq (s:bl) (D:fQ s) (l:bH cx) (bz:∀ j∈l.l,hr j) (b8:l.l.length<=1000000) :aV 12 [.ah (bx s),hZ l] (.aZ [.ah (bx (qO s l.l).1),fG (pE (qO s l.l).2.1),.i6 (qO s l.l).2.2]):=by
 apply a8 func12 [[[0],[1],[2],[3,0]]];have bA:=dw;have au:=iN s;have aP:=Gk s D;have ai:bt (.ad 45) (hZ l)=_:=ca _;have bad:∀ (e:Int) (L:ae),Rd L (.aZ [.ah [.i6 0,.af,.af,.i6 0,.af,.i6 0,.af,.i6 0,.bool false],.af,.i6 e]) (.aZ [.ah (bx ku),fG (pE []),.i6 e]):=fun e L=>aG
 have Y:qO s l.l=if gi s=0 then (if 60<l.l.length then (ku,[],4) else k7 l.l (ih s) []) else (ku,[],8):=rfl
 obtain⟨b2,aO⟩:=aq (bx s);rw[<-aO] at au aP ⊢;obtain⟨a4,a2,cA,cw,cs,cy,cq,cn,ck,cu,ct,cz,cr,cp,cm,cv,a3⟩:=au;simp[a4,a2];refine av aP (by simp[ar,U.ax,a3]) ?_;by_cases h1:gi s=0
 ·by_cases aN:60<l.l.length
  ·have W:(60:Int)<(l.l.length:Int):=F;simp[h1,ai,W];rw[Y,aj h1,aj aN];exact bad 4 _
  ·have bg:=(nt s).1 h1;have aX:=Gs s D bg.pen;rw[<-aO] at aX;have bI:fQ (ih s):=⟨D.aL,by show hR (eU s.pl.l).l;rw[iV];exact D.pl,by show (eU s.pl.l).l.length<=_;rw[iV];exact D.len⟩
   have b3:=iN (ih s);rw[Y,aj h1,ak aN];obtain⟨aA,aT⟩:=aq (k7 l.l (ih s) []);rw[<-aT];have ap:∀ t:bl,aw [U.i6 0,.af,.af,.i6 0,.af,.i6 0,.af,.i6 0,.bool false] 0 (bx t)=bx t:=fun t=>cH rfl
   have u:∀ t:bl,(bx t).length=9:=fun _=>rfl
   have P:∀ t:bl,(bx t).take 9=bx t:=fun _=>rfl
   have W:¬ (60:Int)<(l.l.length:Int):=F;simp[h1,ai,W,a4,a2];refine av aX (by simp[ar,U.ax,a3]) ?_;simp[u,ap,ai];refine bw l.l.length (MH s l aA) ?_ ⟨V,V,V,V,V,V,by simp[Bs],ih s,[],.af,0,V,bI,V,.nil 0,.inl rfl,rfl,V,aT.symm⟩;rintro k b0 L hk ⟨aB,aI,aK,aC,aD,aE,p,t,all,b1,bQ,G,O,aM,al,I,aW,b6,C⟩;obtain⟨b0,rfl⟩:=zQ aB aI aK aM aC aD aE;clear aB aI aK aM aC aD aE;by_cases ag:k<l.l.length
   ·obtain⟨j,Z,bs⟩:=aQ ag;have B:=bz j bs;have J:=lD B;have bd:=cl (k:=k) F;have aU:bF (.ad 45) (hZ l) _=_:=c6 Z;have ao:=Gn t O j B;have aR:=kN t;obtain⟨X,bk⟩:=aq (dy j);rw[<-bk] at J aU ao;obtain⟨a0,ce,cg,cd,nd,cf,ci,bN,bP⟩:=J;have bE:aw (U.i6 0::.int .u8 0::.int .u32 0::.af::.int .u64 0::.int .u8 0::.str [] ::.int .u8 0::.i6 0::.int .u64 0::.str [] ::.int .u32 0::.int .u32 0::bO 32 (.int .u8 0)) 0 X=X:=cH (by rw[a0];rfl);have H:∀ (g:ae) (c:Nat) (b:am),L[c]?=some b->(L++g)[c]?=some b:=fun g c b w=>by rw[aS (aY w)];exact w
    have R:=u t;have ay:=P t;obtain⟨S,bh⟩:=aq (bx t);rw[<-bh] at G R ay ao aR;simp[ag,aU,a0,bN,bE,H _ _ _ G,R,ay];refine av ao (by simp[ar,U.ax,aR,bP]) ?_;by_cases m:eS t j=0
    ·have bG:qE t j=(cT t j).1:=by unfold qE;rw[aj m]
     have bC:qD t j=some (cT t j).2:=by unfold qD;rw[aj m]
     rw[bG,bC,m];obtain⟨K,b7⟩:=IL O B m;obtain⟨bK,_⟩:=wq O B m;obtain⟨o,v⟩:=aq (L++[am.q 45 X,am.q 9 (bx (cT t j).1)]);have bS:aJ 34 o b1 bQ (all.map ch):=by rw[v];exact al.more _
     have bL:∀ e∈(cT t j).2.map ch,e.length=34:=fun e bn=>by
      obtain⟨r,bB,rfl⟩:=cF.1 bn;exact IM O B m r bB
     obtain⟨a6,bM,z,a9,T,b4,bb,az,bc⟩:=i3 (by_:=48) (x:=fG (some (cT t j).2)) (xs:=(cT t j).2.map ch) bS (by simp[fG]) bL F F (by rw[bA];simp;omega);rw[<-dk] at T;have cj:=T.cells;have q1:o[1]?=some (.q 9 (bx ku)):=by rw[v];exact H _ _ _ p
     have bU:o[2]?=some (.q 9 S):=by rw[v];exact H _ _ _ G
     have bV:o[L.length+1]?=some (.q 9 (bx (cT t j).1)):=by rw[v];simp
     have b5:o.length=L.length+2:=by rw[v];simp
     have b9:=aY G;have bu:=al.lt;have Q:∀ b,(b<3\/L.length<=b)->b<o.length->z[b]?=o[b]?:=fun b w bm=>bb b bm (by
      rcases bu with h | h
      ·exact .inl h
      ·rcases w with w | w
       ·exact I.imp id fun h=>F
       ·exact .inr F)
     have bW:z[1]?=some (.q 9 (bx ku)):=by rw[Q 1 (.inl F) F];exact q1
     have a1:z[2]?=some (.q 9 S):=by rw[Q 2 (.inl F) F];exact bU
     have bZ:z[L.length+1]?=some (.q 9 (bx (cT t j).1)):=by rw[Q _ (.inr F) F];exact bV
     have bJ:bq a6=(all++(cT t j).2).isEmpty:=by
      rw[bc,aW];cases h:(cT t j).2 with
      | nil=>rw[h] at K;simp at K
      | cons a b=>simp
     have cb:(all++(cT t j).2).isEmpty=false:=by
      cases h:(cT t j).2 with
      | nil=>rw[h] at K;simp at K
      | cons a b=>simp
     simp[u,P,ap];rw[<-v];simp[a9];refine bY.bo ?_;simp[bZ,u,P,a1,bd];have bX:∀ c:am,(z.set 2 c)[2]?=some c:=fun c=>bT (aY a1)
     have bi:aw S 0 (bx (cT t j).1)=bx (cT t j).1:=cH (by rw[u,R]);refine⟨F,V,V,V,V,V,V,?_,(cT t j).1,all++(cT t j).2,a6,bM,?_,bK,V,T.cY ?_,?_,bJ,by simp;omega,?_⟩
     ·rw[bp F];exact bW
     ·rw[bX,bi]
     ·rcases az with h | ⟨h,h'⟩ | h
      ·exact .inr (bp F)
      ·exact .inr (bp (by have:=I.resolve_left h;omega))
      ·exact .inl h
     ·rcases az with h | ⟨h,h'⟩ | h
      ·exact .inr F
      ·exact .inr (by have:=I.resolve_left h;omega)
      ·exact .inl h
     ·rw[<-VE Z m];exact C
    ·rw[Bs] at p;have a7:∀ (g:ae) (h:1<(L++g).length),(L++g)[1]'h=.q 9 [.i6 0,.af,.af,.i6 0,.af,.i6 0,.af,.i6 0,.bool false]:=fun g h=>(aH.1 (H g 1 _ p)).2
     have cc:=aY p;have a5:∀ (g:ae) (c:am),((L++g).set 1 c)[1]?=some c:=fun g c=>bT (by simp;omega)
     rw[VD Z m] at C;subst C;simp[m,u,a7,aw];exact bad _ _
   ·rw[Bs] at p;have a5:∀ c:am,(L.set 1 c)[1]?=some c:=fun c=>bT (aY p)
    have bv:k=l.l.length:=F;rw[bv,Ew] at C;have br:aA=(t,all,0):=C.symm;simp[ag,G,p,u,P,ap,a5];rw[br];exact Dc (.same _ (kN t)) ((al.cY (I.imp id fun h=>bp F)).q.jg tp (pE all) (by rw[aW,WP]) (zI all)) (.same _ rfl)
 ·have bf:gi s=8:=KT fun h=>h1 ((nt s).2 h)
  simp[bf];rw[Y,ak h1];exact bad 8 _
open b8 bm
def rT (l:List aK) :Nat->Nat
 | 0=>0
 | k+1=>if (gB l (k+1)).aA<(gB l (rT l k)).aA then k+1 else rT l k
theorem HQ (l:List aK) :∀ k,rT l k<=k
 | 0=>aF _
 | k+1=>by
  unfold rT;split
  ·exact aF _
  ·have:=HQ l k;omega
theorem B2 (l:List aK) :∀ k,gB l (rT l k)=kj l k
 | 0=>rfl
 | k+1=>by
  unfold rT kj;rw[B2 l k];split
  ·rfl
  ·exact B2 l k
def rY (r:List aK) :Nat:=rT r (r.length - 1)
def zm (r:List aK) :List aK:=r.take (rY r)++r.drop (rY r+1)
theorem Cg {r:List aK} (h:r≠[]) :rY r<r.length:=by have:=HQ r (r.length - 1);have:=uU.2 h;unfold rY;omega
theorem R0 {r:List aK} (h:r≠[]) :r[rY r]?=some (dY r):=by obtain⟨x,g,_⟩:=aQ (Cg h);have:gB r (rY r)=dY r:=B2 _ _;rw[g3 g] at this;rw[g,this]
structure oO (s:bl) (r:List aK) :Prop where
 Do:r.Pairwise fun a b=>a.aA≠b.aA
 pp:s.pl.l.Pairwise fun a b=>a.aA≠b.aA
 sh:∀ x∈r,∀ y∈s.pl.l,x.aA≠y.aA
theorem oO.full {s:bl} {r:List aK} (h:oO s r) (x:aK) :oO s (fU r x):=
 ⟨h.Do.sublist jT,h.pp,fun y g=>h.sh y (c7.1 g).1⟩
theorem oO.next {s:bl} {r:List aK} (h:oO s r) (x:aK) :oO (fE s x) (fU r x++bm.cK x.id s.pl.l):=by
 have p:(s.pl.l.map (eA x.id)).Pairwise fun a b=>a.aA≠b.aA:=by
  rw[nF];exact h.pp
 have t:=ry s x;refine⟨?_,by rw[t];exact p.sublist jT,fun a g v j=>?_⟩
 ·rw[rc];refine⟨h.Do.sublist jT,p.sublist jT,fun a g b u=>?_⟩;obtain⟨y,o,rfl⟩:=cF.1 (c7.1 u).1;exact h.sh a (c7.1 g).1 y o
 ·rw[t] at j;rcases eQ.1 g with g | g
  ·obtain⟨y,o,rfl⟩:=cF.1 (c7.1 j).1;exact h.sh a (c7.1 g).1 y o
  ·intro e;obtain⟨i,m⟩:=cc.1 (c7.1 g).1;obtain⟨k,hk⟩:=cc.1 (c7.1 j).1;have:=wC (f:=aK.aA) p m hk e;rw[this,hk] at m;obtain rfl:=cd m;have h1:=(c7.1 g).2;have q:=(c7.1 j).2;rw[h1] at q;cases q
theorem Vl {r:List aK} (h:r.Pairwise fun a b=>a.aA≠b.aA) (p:r≠[]) :fU r (dY r)=zm r:=by
 have m:=R0 p;have w:=Cg p;obtain⟨x,q⟩:=aq (dY r);obtain⟨i,g⟩:=aq (rY r);unfold zm fU;rw[<-q,<-g] at m;rw[<-g] at w;rw[<-q,<-g];have e:r=r.take i++x::r.drop (i+1):=by
  obtain⟨t,u⟩:=aH.1 m;have:=iY i r;rw[l5 t,u] at this;exact this.symm
 have o:=h;rw[e,rc,uW] at o;obtain⟨C,⟨z,D⟩,B⟩:=o
 conv=>lhs;rw[e]
 rw[kB,kC];have h1:(r.take i).filter (fun y=>!decide (y.aA=x.aA))=r.take i:=rb.2 fun y j=>by
  have:=B y j x V;simp[this]
 have v:(r.drop (i+1)).filter (fun y=>!decide (y.aA=x.aA))=r.drop (i+1):=rb.2 fun y j=>by
  have:=z y j;simp[show ¬ y.aA=x.aA from fun e=>this e.symm]
 rw[h1,v];simp
open b8 bm
theorem Vk {q:List aK} (h:q≠[]) :(zm q).length+1=q.length:=by have:=Cg h;unfold zm;rw[cg,cI,iX];omega
end Op
end Go.bf

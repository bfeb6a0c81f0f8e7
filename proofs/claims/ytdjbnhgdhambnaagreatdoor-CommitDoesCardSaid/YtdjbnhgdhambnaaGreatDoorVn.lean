/-
  Buffers of sleepers: a sleeper copied by value, a buffer copied, put; walked in the program's text.
-/
import Derived.Test.YtdjbnhgdhambnaaGreatDoorVm
set_option maxHeartbeats 16000000
set_option maxRecDepth 100000
set_option linter.unusedVariables false
set_option linter.unusedSimpArgs false
set_option linter.unnecessarySimpa false
namespace Go.bh
open Go Go.Proofs Go.Proofs.Tryz
namespace Op.aJ
open cl Op
theorem WQ {s:aA} (h:s.id.length=32) (w:U) :ii s w=(aO s).set 44 w:=by
 have g:=bo h;have j:(aO s).length=45:=by unfold aO aw;simp[g]
 rw[<-xw h w,nZ w F]
theorem Wo {s:aA} (h:s.id.length=32) {l:ae} {w:U} (q:Rd l w (ah s.a6)) :Rd l (.af (ii s w)) (.af (aO s)):=by
 rw[WQ h w];refine .af _ _ V fun o x t g j=>?_
 by_cases m:o=44
 ·subst m;rw[Aj h] at j;have p:=(aL.1 (Aj h)).1;rw[bY p] at g;cases g;cases j;exact q
 ·rw[bj (fun e=>m e.symm),j] at g;cases g;exact .same _ (r2 (jd s) o _ j)
theorem Mi (s:aA) (g:h5 s) :aU 101 [.af (aO s)] (.af (aO s)):=by
 refine uB checked.mixed eD ?_;refine EZ s g fun w j h=>?_
 exact Wo g.id (h.rd cG s.a6 rfl rfl)
structure Nj (c:Int) (s:ek) (L:ae) (k:Nat) (sgZ:aS) (l:ae) :Prop where
 e5:sgZ 1=.ptr L.length 0 2
 hP:sgZ 2=.ptr (L.length+1) 0 2
 hQ:sgZ 3=.ptr (L.length+2) 0 2
 CA:sgZ 10=cg s
 H2:sgZ 11=.i6 s.l.length
 H3:sgZ 12=.i6 k
 yZ:∀ b,b<L.length->l[b]?=L[b]?
 len:L.length+3<=l.length
 mY:l[L.length+1]?=some (.q 2 [.i6 0,.ad])
 ex:∃ v j,l[L.length+2]?=some (.q 2 [.i6 c,v])/\aH 45 l v j ((s.l.take k).map aO)/\(v=.ad\/L.length+3<=j)/\bq v=(s.l.take k).isEmpty
theorem PW (c:Int) (s:ek) (aA:fr s.l) (aL:s.l.length<=1000000) {L:ae} {K:cB}
  (ap:∀ v l' j,aH 45 l' v j (s.l.map aO)->(v=.ad\/L.length<=j)->L.length<=l'.length->(∀ b,b<L.length->l'[b]?=L[b]?)->bq v=s.l.isEmpty->K (.af [.i6 c,v]) l') :
  cM 100 [.af (bt c s)] L K:=by
 apply c1 func100 [[[0],[1],[2],[3,1]]];have az:bD (.Z 45) (cg s)=_:=b9 _;have aK:=fT s;simp[bt,az,av];refine bB s.l.length (Nj c s L) ?_ ⟨V,V,V,V,V,V,fun b g=>by simp[List.getElem?_append,g],V,V,.ad,0,V,.nil 0,.inl rfl,rfl⟩;rintro k aG l hk ⟨B,H,I,C,D,G,z,aM,ah,v,j,t,m,d1,ag⟩;obtain⟨aG,rfl⟩:=n4 B H I C D G;clear B H I C D G;simp;refine fk (fun h=>?_) (fun h=>?_)
 ·simp only[bK] at h;obtain⟨y,X,aD⟩:=aQ (l:=s.l) (k:=k) F;have Q:=aA y aD;have p:=eQ Q;have ak:=ci (k:=k) F;have O:bQ (.Z 45) (cg s) _=_:=c8 X;have W:=Mi y Q;have J:=jd y;have T:s.l.take (k+1)=s.l.take k++[y]:=by rw[ei,X];rfl
  have ay:(s.l.take k).length<=1000000:=by rw[cL];omega
  have aP:∀ cS:aq,(l++[cS])[l.length]?=some cS:=fun cS=>od
  have R:∀ cS:aq,(l++[cS])[L.length+2]?=some (.q 2 [.i6 c,v]):=fun cS=>by rw[aV F];exact t
  obtain⟨ai,c3,Y,o,w,aj,df,ee,ao⟩:=ov (m.more [.q 45 (aO y)]) p.len ay;obtain⟨aJ,aw⟩:=al (aO y);rw[<-aw] at p O W J o;have f1:=p.len;have S:=gZ f1;have aC:=m.cells;have aB:=w.cells;simp at aj ee;simp[O,f1,S,aI,R];refine au W (by simp[am,U.ar,J]) ?_;simp at o df;simp[f1,S,o,R];refine bR.bm ?_;have u:∀ b,b<L.length+3->Y[b]?=l[b]?:=fun b g=>by
   rw[df b F (d1.imp id fun h=>F),aV F]
  have aE:Y[L.length+2]?=some (.q 2 [.i6 c,v]):=by rw[u _ F];exact t
  have P:ai=.ad\/L.length+3<=c3:=by
   rcases ee with h | ⟨h,h'⟩
   ·right;omega
   ·right;rw[h'];exact d1.resolve_left h
  simp[aE,aB,av,ak];refine⟨F,V,V,V,V,V,V,fun b g=>?_,by simp;omega,?_,ai,c3,bY F,?_,P,?_⟩
  ·rw[bj F,u b F];exact z b g
  ·rw[bj F,u _ F];exact ah
  ·rw[T];exact w.cx (P.imp id fun h=>by rw[bj F])
  ·rw[ao,T];simp
 ·simp[h];have ax:k=s.l.length:=by simp at h;omega
  rw[ax,e0] at m ag;have aF:∀ c:aq,(l.set (L.length+1) c)[L.length+1]?=some c:=fun c=>bY F
  have aC:=m.cells;simp[t,ah,aF];refine ap v _ j (m.cx (d1.imp id fun h=>by rw[bj F])) (d1.imp id fun h=>F) (by simp;omega) (fun b g=>?_) ag;rw[bj F];exact z b g
def dB (c:Int) (l:List aA) (t:Int) (o:aK) (m:aR) :Int:=
 if cH c l≠0 then cH c l else if dd o≠0 then 8 else if t<0\/1000000000<t\/eV o m=false then 2 else if bf o∈l.map aA.id then 14 else if t<=dL l l.length then 32 else if (l.length:Int)=c then 18 else 0
def zZ (c:Int) (l:List aA) (t:Int) (o:aK) (m:b2) :U:=
 .aX [if dB c l t o m.l=0 then .af (bt c (some (l++[⟨t,o,bf o,m⟩]))) else .af [.i6 0,.ad],.i6 (dB c l t o m.l)]
theorem Zb (c:Int) (s:ek) (T:fr s.l) (b4:s.l.length<=900000) (t:Int) (o:aK) (aR:dk o) (m:b2) (a8:c5 m) (bb:m.l.length<=1000000) :
  aU 53 [.af (bt c s),.i6 t,.af (aw o),ah m] (zZ c s.l t o m):=by
 apply a2 func53 [cT 0 7++[[7,1]]];unfold zZ;have ae:bD (.Z 45) (cg s)=_:=b9 _;have a5:=fT s;have aL:=dt o;have bs:=bO m;have a3:=u3 c s T F;have ax:=u2 o aR;have a9:=MH o aR m a8 bb;have aP:=y5 o;have v:=bo aP;have bd:=DE s T F (bf o) aP;have a6:=lr (bf o) (s.l.map aA.id) 0;have a1:=cG (bf o);have aM:am [U.af (bt c s)]=true:=by simp[bt,am,U.ar,a5]
 have b1:∀ h:True,am [U.af (bt c s)]=true:=fun _=>aM
 obtain⟨u,aH⟩:=al (aw o);have w:u.length=11:=by rw[aH];rfl
 have aW:aO ⟨t,o,bf o,m⟩=.i6 t::(u++(ao (bf o)++[ah m])):=by rw[aH];rfl
 have bc:h5 ⟨t,o,bf o,m⟩:=⟨aR,aP,a8,bb⟩
 have bg:=Mi _ bc;have aj:=(eQ bc).len;have a4:=jd ⟨t,o,bf o,m⟩;rw[<-aH] at ax a9 aL ⊢;have bx:eo (bf o)=.af (ao (bf o)):=rfl;rw[bx] at ax;obtain⟨D,bp⟩:=al (ao (bf o));rw[<-bp] at ax v bd a1 aW;obtain⟨b0,a0⟩:=al (aO ⟨t,o,bf o,m⟩);have bC:=aj;rw[<-a0] at aW bg aj a4;have ap:av (bZ 32 (.int .u8 0)) 0 D=D:=cD (by rw[v];rfl);have bA:(ah m).cells=some [ah m]:=by cases m<;>rfl
 have bS:av (U.int .u32 0::U.ad::U.int .u64 0::U.int .u8 0::U.str [] ::U.int .u8 0::U.i6 0::U.int .u64 0::U.str [] ::U.int .u32 0::U.int .u32 0::(bZ 32 (.int .u8 0)++[U.ad])) 0 u=u++(bZ 32 (.int .u8 0)++[U.ad]):=by
  unfold av;simp[w]
 have bI:(u++(bZ 32 (.int .u8 0)++[U.ad])).length=44:=by simp[w,bZ]
 have bM:av (u++(bZ 32 (.int .u8 0)++[U.ad])) 11 D=u++(D++[U.ad]):=by
  unfold av;simp[w,v,vh,bZ]
 have bH:(u++(D++[U.ad])).length=44:=by simp[w,v]
 have bN:av (u++(D++[U.ad])) 43 [ah m]=u++(D++[ah m]):=by
  unfold av;simp[w,v,pm,vh,aI]
 by_cases z:cH c s.l=0
 ·simp[bt,w];refine au a3 aM ?_;simp[z,w,aI];refine au ax (by simp[am,U.ar,aL]) ?_;by_cases h1:dd o=0
  ·by_cases B:t<0
   ·have g:dB c s.l t o m.l=2:=by unfold dB;simp[z,h1,B]
    rw[g];simp[v,ap,ae,h1,B,aI];exact aF
   ·by_cases O:1000000000<t
    ·have g:dB c s.l t o m.l=2:=by unfold dB;simp[z,h1,O]
     rw[g];simp[v,ap,ae,h1,B,O,aI];exact aF
    ·simp[v,ap,ae,h1,B,O,w,aI];refine au a9 (by simp[am,U.ar,aL,bs]) ?_;cases aB:eV o m.l with
     | false=>
      have g:dB c s.l t o m.l=2:=by unfold dB;simp[z,h1,aB]
      rw[g];simp;exact aF
     | true=>
      simp[v,aI];refine au bd (by simp[am,U.ar,a5,a1]) ?_;by_cases Y:bf o∈s.l.map aA.id
      ·have g:dB c s.l t o m.l=14:=by unfold dB;rw[ai F,ai F,ai (by simp[B,O,aB]),ak Y]
       have R:0<=dH (bf o) (s.l.map aA.id) 0:=a6.2 Y;rw[g];simp[R];exact aF
      ·have R:¬ 0<=dH (bf o) (s.l.map aA.id) 0:=fun h=>Y (a6.1 h)
       have aT:dB c s.l t o m.l=if t<=dL s.l s.l.length then 32 else if (s.l.length:Int)=c then 18 else 0:=by
        unfold dB;rw[ai F,ai F,ai (by simp[B,O,aB]),ai Y]
       have b5:∀ K:Prop,K->K:=fun _ h=>h
       by_cases C:t<=dL s.l s.l.length
       ·have g:dB c s.l t o m.l=32:=by rw[aT,ak C]
        have H:s.l.length≠0:=fun bw=>by rw[bw] at C;simp[dL] at C;omega
        obtain⟨j,G,W⟩:=aQ (l:=s.l) (k:=s.l.length - 1) F;have bF:dL s.l s.l.length=j.aC:=by unfold dL;rw[ai H,eR G]
        have az:IntKind.i64.wrap ((s.l.length:Int) - 1)=((s.l.length - 1:Nat) :Int):=by rw[IntKind.wrap_i64];omega
        have S:bQ (.Z 45) (cg s) (.i6 ((s.l.length - 1:Nat) :Int))=some (.b6 (aO j) 0):=by simp[cg,G]
        have Q:=eQ (T j W);have J:=Q.aC;have I:=Q.len;obtain⟨bk,aJ⟩:=al (aO j);simp only[<-aJ] at I J S;have aD:t<=j.aC:=by rw[<-bF];exact C
        have aS:0<s.l.length:=F;rw[g];simp[R,aS,az,S,I,J,aD];exact aF
       ·have bv:∀ {P:Prop},((s.l.length=0->P)/\(∀ j,s.l[s.l.length - 1]?=some j->j∈s.l->0<s.l.length->¬ t<=j.aC->P))->P:=fun {P} ⟨bq,br⟩=>by
         by_cases H:s.l.length=0
         ·exact bq H
         ·obtain⟨j,G,W⟩:=aQ (l:=s.l) (k:=s.l.length - 1) F;exact br j G W F (fun h=>C (by unfold dL;rw[ai H,eR G];exact h))
        -- what comes behind
        refine bv ⟨fun H=>?_,fun j G W aS aD=>?_⟩
        rotate_left
        have az:IntKind.i64.wrap ((s.l.length:Int) - 1)=((s.l.length - 1:Nat) :Int):=by rw[IntKind.wrap_i64];omega
        have S:bQ (.Z 45) (cg s) (.i6 ((s.l.length - 1:Nat) :Int))=some (.b6 (aO j) 0):=by simp[cg,G]
        have Q:=eQ (T j W);have J:=Q.aC;have I:=Q.len;obtain⟨bk,aJ⟩:=al (aO j);simp only[<-aJ] at I J S;simp[R,aS,az,S,I,J,aD]
        rotate_left
        simp[R,H]
        all_goals
         refine fk (fun aE=>?_) (fun aE=>?_)
         ·have aG:(s.l.length:Int)=c:=by simp at aE;omega
          have g:dB c s.l t o m.l=18:=by rw[aT,ai C,ak aG]
          rw[g];simp;exact aF
         ·have aG:¬ (s.l.length:Int)=c:=by simp at aE;omega
          have g:dB c s.l t o m.l=0:=by rw[aT,ai C,ai aG]
          rw[g];simp;refine PW c s T F fun bi p cc ag a7 bz aY b8=>?_
          have b7:4<=p.length:=by simpa using bz
          have bT:∀ cS:aq,(p++[cS])[1]?=some (.q 11 u):=fun cS=>by rw[aV F,aY 1 V];rfl
          have bU:∀ cS:aq,(p++[cS])[2]?=some (.q 2 [.i6 0,.ad]):=fun cS=>by rw[aV F,aY 2 V];rfl
          have bV:∀ cS:aq,(p++[cS])[3]?=some (.q 32 D):=fun cS=>by rw[aV F,aY 3 V];rfl
          have ca:s.l.length<=1000000:=F;obtain⟨cd,bh,X,ay,aZ,bl,df,ee,bn⟩:=ov (s:=⟨t,o,bf o,m⟩) ((ag.more [.q 2 [.i6 c,bi]])) bC F;rw[<-a0] at ay;have cb:=ag.cells;have bG:=aZ.cells;have bB:∀ cS:aq,(p++[cS])[p.length]?=some cS:=fun cS=>od
          simp at ay bl ee df;simp[bT,bV,w,v,aI,bS,bM,bN,bI,bH,bA,<-aW];refine au bg (by simp[am,U.ar,a4]) ?_;have bE:=gZ aj;simp[aj,bE,ay];refine bR.bm ?_;have bW:X[2]?=some (.q 2 [.i6 0,.ad]):=by
           rw[df 2 F (a7.imp id fun h=>by simp at h;omega)];exact bU _
          have bX:X[p.length]?=some (.q 2 [.i6 c,bi]):=by
           rw[df _ F (ag.lt.imp id fun h=>F)];exact bB _
          have b3:4<=bh/\bh≠p.length:=by
           rcases ee with h | ⟨h,h'⟩
           ·omega
           ·have h1:=a7.resolve_left h;have B:=ag.lt.resolve_left h;simp at h1;omega
          have bJ:∀ cS:aq,(X.set p.length cS)[p.length]?=some cS:=fun cS=>bY F
          have bK:∀ cS:aq,(X.set p.length cS)[2]?=some (.q 2 [.i6 0,.ad]):=fun cS=>by rw[bj F];exact bW
          have bL:∀ cS rZ:aq,((X.set p.length cS).set 2 rZ)[2]?=some rZ:=fun cS rZ=>bY (by simp;omega)
          simp[bX,bG,av,bJ,bK,bL];refine xh (xg (.same _ rfl) ((aZ.cx (.inr (by rw[bj F,bj F]))).q.gP jd (some (s.l++[⟨t,o,bf o,m⟩])) (by rw[bn];rfl) rfl)) (.same _ rfl)
  ·have g:dB c s.l t o m.l=8:=by unfold dB;simp[z,h1]
   rw[g];simp[v,ap,ae,h1,aI];exact aF
 ·have g:dB c s.l t o m.l=cH c s.l:=by unfold dB;simp[z]
  rw[g];simp[bt,w];refine au a3 aM ?_;simp[z];exact aF
end Op.aJ
namespace Op.aJ
open cl Op
def cw (o:aK) :aK:={ o with ax:=some o.ax.l }
def bl (s:aA) :aA:={ s with op:=cw s.op,a6:=some s.a6.l }
theorem AO {o:aK} (h:dk o) :dk (cw o):=⟨h.idsZ,h.len,h.val,h.key⟩
theorem xF {s:aA} (h:h5 s) :h5 (bl s):=⟨AO h.op,h.id,h.a6,h.len⟩
theorem Ym (o:aK) (h:dk o) :aU 135 [.af (aw o)] (.af (aw (cw o))):=by
 apply a2 func135 [];have t:=du;have w:=h.len;have j:∀ x∈o.ax.l,(ao x).length=32:=fun x u=>bo (h.idsZ x u)
 have g:=yi (enc:=ao) (by_:=32) [aq.q 11 (aw o),aq.q 11 [.int .u32 0,.ad,.int .u64 0,.int .u8 0,.str [],.int .u8 0,.i6 0,.int .u64 0,.str [],.int .u32 0,.int .u32 0]] o.ax j F F (by rw[t];omega);have p:∀ x:b2,(ah x).cells=some [ah x]:=fun x=>by cases x<;>rfl
 have v:=bO (some o.ax.l);simp only[aw,ah,dM,hp,iK,h2] at g;simp[aw,ah,g];refine bR.oH (by exact ly j rfl rfl) rfl ?_;have m:U.bu 32 (o.ax.l.map ao)=ah (some o.ax.l):=rfl;simp[m,p,av];exact aP rfl (show (U.af (aw (cw o))).ar=true by have:=dt (cw o);simpa [U.ar] using this)
theorem Cr {t:Int} {O D:ag} {x:U} (g:O.length=11) (h:D.length=32) (j:x.cells=some [x]) :
  av (U.int .u32 0::U.ad::U.int .u64 0::U.int .u8 0::U.str [] ::U.int .u8 0::U.i6 0::U.int .u64 0::U.str [] ::U.int .u32 0::U.int .u32 0::(bZ 32 (.int .u8 0)++[U.ad])) 0 O=O++(bZ 32 (.int .u8 0)++[U.ad]) ∧
  (O++(bZ 32 (.int .u8 0)++[U.ad])).length=44 ∧
  av (O++(bZ 32 (.int .u8 0)++[U.ad])) 11 D=O++(D++[U.ad]) ∧
  (O++(D++[U.ad])).length=44 ∧
  av (O++(D++[U.ad])) 43 [x]=O++(D++[x]):=by
 refine⟨?_,?_,?_,?_,?_⟩
 ·unfold av;simp[g]
 ·simp[g,bZ]
 ·unfold av;simp[g,h,vh,bZ]
 ·simp[g,h]
 ·unfold av;simp[g,h,pm,vh,aI]
theorem EY (s:aA) (h:h5 s) :aU 86 [.af (aO s)] (.af (aO (bl s))):=by
 apply a2 func86 [cT 0 4++cT 5 5++[[4,9,7,6,1],[10,6,1]]];have T:=du;have g:=eQ h;have m:=eQ (xF h);have o:=Ym s.op h.op;have G:∀ x∈s.a6.l,(ao x).length=32:=fun x V=>bo (h.a6 x V)
 have ap:=h.len;have p:=bo h.id;have ak:=bO (some s.a6.l);have C:=dt s.op;have j:aO (bl s)=.i6 s.aC::(aw (cw s.op)++(ao s.id++[ah (some s.a6.l)])):=rfl;obtain⟨I,O⟩:=al (aO s);obtain⟨ai,P⟩:=al (aO (bl s));obtain⟨H,u⟩:=al (aw s.op);obtain⟨J,w⟩:=al (aw (cw s.op));obtain⟨D,K⟩:=al (ao s.id);rw[<-O] at g ⊢;rw[<-P] at m j ⊢;have f1:=g.len;have f2:=g.aC;have f3:=g.op;have f4:=g.id;have f5:=g.a6;rw[<-u] at f3 o C;rw[<-w] at o j;rw[<-K] at f4 j p;have aj:H.length=11:=by rw[u];rfl
 have z:J.length=11:=by rw[w];rfl
 obtain⟨ag,X,Y,W,ae⟩:=Cr (t:=s.aC) z p (x:=ah (some s.a6.l)) rfl;have S:(ah (some s.a6.l)).cells=some [ah (some s.a6.l)]:=rfl;have B:=yi (enc:=ao) (by_:=32) [aq.q 45 I,aq.q 45 (U.i6 0::U.int .u32 0::U.ad::U.int .u64 0::U.int .u8 0::U.str [] ::U.int .u8 0::U.i6 0::U.int .u64 0::U.str [] ::U.int .u32 0::U.int .u32 0::(bZ 32 (.int .u8 0)++[U.ad]))] s.a6 G F F (by rw[T];omega);simp only[dM,hp,iK,h2] at B;have R:ah s.a6=b4 32 ao s.a6:=rfl;rw[R] at f5;simp[f1,f2,f3,f4,f5];refine au o (by simp[am,U.ar,C]) ?_;simp[f1,f2,f4,f5,B];refine bR.oH (by exact ly G rfl rfl) rfl ?_;have Q:U.bu 32 (s.a6.l.map ao)=ah (some s.a6.l):=rfl;have v:=m.len;simp[Q,f1,f2,f4,f5,z,p,S,ag,X,Y,W,ae,<-j,gZ v,v,aI];exact aP rfl (by simp[U.ar,m.ar])
end Op.aJ
namespace Op.aJ
open cl Op
structure Of (c:Int) (s:ek) (L:ae) (k:Nat) (sgZ:aS) (l:ae) :Prop where
 e5:sgZ 1=.ptr L.length 0 2
 hP:sgZ 2=.ptr (L.length+1) 0 2
 hQ:sgZ 3=.ptr (L.length+2) 0 2
 iq:sgZ 4=.i6 k
 yZ:∀ b,b<L.length->l[b]?=L[b]?
 len:L.length+3<=l.length
 nT:l[L.length]?=some (.q 2 (bt c s))
 mY:l[L.length+1]?=some (.q 2 [.i6 0,.ad])
 ex:∃ v j,l[L.length+2]?=some (.q 2 [.i6 c,v])/\aH 45 l v j (((s.l.take k).map bl).map aO)/\(v=.ad\/L.length+3<=j)/\bq v=(s.l.take k).isEmpty
theorem Mh (c:Int) (s:ek) (aA:fr s.l) (aS:s.l.length<=1000000) {L:ae} {K:cB}
  (ai:∀ v l' j,aH 45 l' v j ((s.l.map bl).map aO)->(v=.ad\/L.length<=j)->L.length<=l'.length->(∀ b,b<L.length->l'[b]?=L[b]?)->bq v=s.l.isEmpty->K (.af [.i6 c,v]) l') :
  cM 45 [.af (bt c s)] L K:=by
 apply c1 func45 [cT 0 7++[[7,1]]];have ay:bD (.Z 45) (cg s)=_:=b9 _;have aR:=fT s;simp[bt,av];refine bB s.l.length (Of c s L) ?_ ⟨V,V,V,V,fun b g=>by simp[List.getElem?_append,g],V,by simp[bt],V,.ad,0,V,.nil 0,.inl rfl,rfl⟩;rintro k aK l hk ⟨H,I,J,O,G,aT,o,X,v,j,p,m,d1,W⟩;obtain⟨aK,rfl⟩:=eO H I J O;clear H I J O;unfold bt at o;simp[o,ay];refine fk (fun h=>?_) (fun h=>?_)
 ·simp only[bK] at h;obtain⟨y,z,aF⟩:=aQ (l:=s.l) (k:=k) F;have u:=aA y aF;have az:=xF u;have aj:=eQ u;have P:=eQ az;have ag:=ci (k:=k) F;have R:bQ (.Z 45) (cg s) _=_:=c8 z;have w:=EY y u;have Q:=jd y;have ap:=jd (bl y);have aC:(s.l.take (k+1)).map bl=(s.l.take k).map bl++[bl y]:=by rw[ei,z,cV];rfl
  have ax:((s.l.take k).map bl).length<=1000000:=by rw[ce,cL];omega
  obtain⟨Y,c3,T,C,D,aP,df,ee,ah⟩:=ov m P.len ax;have f1:=aj.len;have B:=P.len;obtain⟨aL,ak⟩:=al (aO y);obtain⟨aM,ao⟩:=al (aO (bl y));rw[<-ak] at f1 R w Q;rw[<-ao] at B w ap C;have aB:=gZ B;have aE:=m.cells;have aD:=D.cells;simp at ee;simp[o,p,R,f1,aI];refine au w (by simp[am,U.ar,Q]) ?_;simp[B,aB,C,p];refine bR.bm ?_;have t:∀ b,b<L.length+3->T[b]?=l[b]?:=fun b g=>df b F (d1.imp id fun h=>F)
  have aG:T[L.length+2]?=some (.q 2 [.i6 c,v]):=by rw[t _ F];exact p
  have S:Y=.ad\/L.length+3<=c3:=by
   rcases ee with h | ⟨h,h'⟩
   ·right;omega
   ·right;rw[h'];exact d1.resolve_left h
  simp[aG,aD,av,ag];refine⟨F,V,V,V,V,fun b g=>?_,by simp;omega,?_,?_,Y,c3,bY F,?_,S,?_⟩
  ·rw[bj F,t b F];exact G b g
  ·rw[bj F,t _ F];exact o
  ·rw[bj F,t _ F];exact X
  ·rw[aC];exact D.cx (S.imp id fun h=>by rw[bj F])
  ·rw[ah,ei,z];simp
 ·simp[h];have aw:k=s.l.length:=by simp at h;omega
  rw[aw,e0] at m W;have aJ:∀ c:aq,(l.set (L.length+1) c)[L.length+1]?=some c:=fun c=>bY F
  have aE:=m.cells;simp[p,X,aJ];refine ai v _ j (m.cx (d1.imp id fun h=>by rw[bj F])) (d1.imp id fun h=>F) (by simp;omega) (fun b g=>?_) W;rw[bj F];exact G b g
theorem Yn (c:Int) (s:ek) (j:fr s.l) (h:s.l.length<=1000000) :aU 45 [.af (bt c s)] (.af (bt c (c2 (s.l.map bl)))):=by
 refine uB checked.mixed eD ?_;refine Mh c s j h fun v u t h1 m o p g=>?_
 exact xg (.same _ rfl) (h1.q.gP jd (c2 (s.l.map bl)) (by rw[g,uW];simp) (fb _))
def eC (l:aR) :b2:=match l with | []=>none | a::r=>some (a::r)
theorem kj (l:aR) :(eC l).l=l:=by cases l<;>rfl
theorem EO (l:aR) :(eC l).isNone=l.isEmpty:=by cases l<;>rfl
theorem CZ {p:List B->Bool} {l:aR} {k:Nat} {y:List B} (h:l[k]?=some y) :(l.take (k+1)).filter p=(l.take k).filter p++(if p y then [y] else []):=by rw[ei,h,lJ];cases g:p y<;>simp[g]
structure Oh (m:b2) (x:List B) (k:Nat) (sgZ:aS) (l:ae) :Prop where
 kI:sgZ 0=ah m
 hQ:sgZ 3=.ptr 0 0 32
 lo:sgZ 6=.i6 k
 nT:l[0]?=some (.q 32 (ao x))
 ex:∃ v j,sgZ 5=v/\aH 32 l v j (((m.l.take k).filter (fA x)).map ao)/\(v=.ad\/1<=j)/\bq v=((m.l.take k).filter (fA x)).isEmpty
theorem Wf (m:b2) (P:c5 m) (ax:m.l.length<=1000000) (x:List B) (Q:x.length=32) :aU 165 [ah m,.af (ao x)] (ah (eC (m.l.filter (fA x)))):=by
 apply a2 func165 [];have ag:bD (.Z 32) (ah m)=_:=b9 _;have C:=bo Q;simp[C];refine bB m.l.length (Oh m x) ?_ ⟨V,V,V,rfl,.ad,0,V,.nil 0,.inl rfl,rfl⟩;rintro k aq l hk ⟨I,J,O,j,ar,am,K,v,d1,D⟩;obtain⟨aq,rfl⟩:=eO I J K O;clear I J K O;simp[ag];refine fk (fun h=>?_) (fun h=>?_)
 ·simp only[bK] at h;obtain⟨y,R,S⟩:=aQ (l:=m.l) (k:=k) F;have o:=bo (P y S);have H:=ci (k:=k) F;have w:bQ (.Z 32) (ah m) _=_:=c8 R;have u:=oN (P y S) Q;have g:=CZ (p:=fA x) R;have ae:((m.l.take k).filter (fA x)).length<=1000000:=by
   refine dC (g2 _ _) ?_;rw[cL];omega
  obtain⟨au,ap,ay,G,T,aw,df,ee,U⟩:=BM v o ae;obtain⟨Y,W⟩:=al (ao y);rw[<-W] at o w u G;have aj:av (bZ 32 (.int .u8 0)) 0 Y=Y:=cD (by rw[o];rfl);by_cases t:y=x
  ·have z:fA x y=false:=by unfold fA;simp[t]
   rw[z,ai V,eJ] at g;rw[t] at u;simp[w,o,j,C,u,aI,H];exact⟨F,V,V,V,j,ar,am,V,by rw[g];exact v,d1,by rw[g];exact D⟩
  ·have z:fA x y=true:=by unfold fA;simp[t]
   rw[z,ak rfl] at g;simp[w,o,j,C,u,t,aj,aI,G];refine bR.bm ?_;simp[H];refine⟨F,V,V,V,?_,au,ap,V,by rw[g];exact T,?_,by rw[U,g];simp⟩
   ·rw[df 0 (a1 j) (d1.imp id fun h=>F)];exact j
   ·have:=a1 j;rcases ee with h | ⟨h,h'⟩
    ·right;omega
    ·right;rw[h'];exact d1.resolve_left h
 ·simp[h];have X:k=m.l.length:=by simp at h;omega
  rw[X,e0] at v D;exact v.q.gP cG (eC _) (by rw[D,EO]) (kj _)
end Op.aJ
namespace Op.aJ
open cl Op
def kh (x:List B) (s:aA) :aA:={ bl s with a6:=eC (s.a6.l.filter (fA x)) }
def gA (x:List B) (l:List aA) :List aA:=(l.map (kh x)).filter gone
def gl (x:List B) (l:List aA) :List aA:=(l.map (kh x)).filter fun s=>!gone s
theorem XX {x:List B} {s:aA} (h:h5 s) :h5 (kh x s):=by
 refine⟨AO h.op,h.id,fun y g=>?_,?_⟩
 ·have:y∈(eC (s.a6.l.filter (fA x))).l:=g;rw[kj] at this;exact h.a6 y (dx.1 this).1
 ·show (eC (s.a6.l.filter (fA x))).l.length<=_;rw[kj];exact dC (g2 _ _) h.len
def yx (c:Int) (l:List aA) (x:List B) :U:=
 if cH c l=0 then .aX [.af (bt c (c2 (gl x l))),cg (c2 (gA x l)),.i6 0] else .aX [.af [.i6 0,.ad],.ad,.i6 (cH c l)]
structure Nf (c:Int) (s:ek) (x:List B) (k:Nat) (fg:U) (l:ae) :Prop where
 nT:l[0]?=some (.q 2 (bt c s))
 mY:l[1]?=some (.q 32 (ao x))
 jH:l[2]?=some (.q 2 [.i6 0,.ad])
 ex:∃ g h j,l[3]?=some (.q 2 [.i6 c,g])/\aH 45 l fg h ((gA x (s.l.take k)).map aO)/\aH 45 l g j ((gl x (s.l.take k)).map aO)/\(fg=.ad\/4<=h)/\(g=.ad\/4<=j)/\(fg=.ad\/g=.ad\/h≠j) ∧
  bq fg=(gA x (s.l.take k)).isEmpty/\bq g=(gl x (s.l.take k)).isEmpty
 len:4<=l.length
structure Ng (c:Int) (s:ek) (x:List B) (k:Nat) (sgZ:aS) (l:ae) :Prop where
 hP:sgZ 2=.ptr 0 0 2
 hQ:sgZ 3=.ptr 1 0 32
 iq:sgZ 4=.ptr 2 0 2
 tS:sgZ 7=.ptr 3 0 2
 y0:sgZ 9=.i6 k
 h:∃ fg,sgZ 8=fg/\Nf c s x k fg l
theorem VH (c:Int) (s:ek) (bc:fr s.l) (bG:s.l.length<=1000000) (x:List B) (bg:x.length=32) :aU 113 [.af (bt c s),.af (ao x)] (yx c s.l x):=by
 apply a2 func113 [];unfold yx;have bH:bD (.Z 45) (cg s)=_:=b9 _;have bz:=fT s;have bA:=cG x;have aD:=bo bg;have aw:=DY c s bc bG;have ax:am [U.af (bt c s)]=true:=by simp[bt,am,U.ar,bz]
 by_cases R:cH c s.l=0
 ·simp[bt,aD];refine au aw ax ?_;simp[R];refine bB s.l.length (Ng c s x) ?_ ⟨V,V,V,V,V,.ad,V,⟨rfl,rfl,rfl,⟨.ad,0,0,rfl,.nil 0,.nil 0,.inl rfl,.inl rfl,.inl rfl,rfl,rfl⟩,V⟩⟩;rintro k b4 l hk ⟨aW,aY,aZ,a0,a3,K,a1,hH⟩;obtain⟨b4,rfl⟩:=n4 aW aY aZ a0 a1 a3;clear aW aY aZ a0 a1 a3;obtain⟨Q,aL,aM,⟨z,w,C,ae,aK,Y,d1,d2,d3,aG,aJ⟩,cb⟩:=hH;unfold bt at Q;simp[Q,bH];refine fk (fun h=>?_) (fun h=>?_)
  ·simp only[bK] at h;obtain⟨y,aE,bX⟩:=aQ (l:=s.l) (k:=k) F;have H:=bc y bX;have bs:=eQ H;have bb:=xF H;have a4:=eQ bb;have bN:=XX (x:=x) H;have T:=eQ bN;have aT:=ci (k:=k) F;have a8:bQ (.Z 45) (cg s) _=_:=c8 aE;have bf:=xw bb.id;have aB:=EY y H;have a7:=jd y;have aC:=Wf (some y.a6.l) H.a6 H.len x bg;have bx:=bO (some y.a6.l);obtain⟨n,X⟩:=al (l.length);have bS:ii (bl y) (ah (eC (y.a6.l.filter (fA x))))=aO (kh x y):=rfl;have f1:=bs.len;have t1:=a4.len;have t5:=a4.a6;have bL:ah (bl y).a6=ah (some y.a6.l):=rfl;rw[bL] at t5;obtain⟨ca,bv⟩:=al (aO y);obtain⟨bq,bw⟩:=al (aO (bl y));simp only[<-bv] at f1 a8 aB a7;simp only[<-bw] at t1 t5 aB bf;have bT:=gZ t1;have S:=bf (ah (eC (y.a6.l.filter (fA x))));rw[bS] at S;have q1:∀ cS:aq,(l++[cS])[1]?=some (.q 32 (ao x)):=fun cS=>by rw[aV F];exact aL
   have bZ:∀ cS:aq,(l++[cS])[3]?=some (.q 2 [.i6 c,z]):=fun cS=>by rw[aV F];exact ae
   have b0:∀ cS:aq,(l++[cS])[n]?=some cS:=fun cS=>by rw[X];exact od
   have bW:eC ((b1.l (some y.a6.l)).filter (fA x))=eC (y.a6.l.filter (fA x)):=rfl;rw[bW] at aC;obtain⟨m,az⟩:=al (eC (y.a6.l.filter (fA x)));rw[<-az] at S aC;have bI:(ah m).cells=some [ah m]:=by cases m<;>rfl
   have bJ:bD (.Z 32) (ah m)=_:=b9 _;have bh:∀ h:44<(aO (kh x y)).length,(aO (kh x y))[44]'h=ah m:=fun h=>by rw[T.a6 h,az];rfl
   have P:=T.len;have I:=uU (p:=gone) (f:=kh x) aE;have v:=uU (p:=fun s=>!gone s) (f:=kh x) aE;have G:gone (kh x y)=decide (m.l.length=0):=by
    have e:(kh x y).a6=m:=az.symm;unfold gone;rw[e];cases m.l<;>simp
   have bC:(gA x (s.l.take k)).length<=1000000:=by
    unfold gA;refine dC (g2 _ _) ?_;rw[ce,cL];omega
   have bM:(gl x (s.l.take k)).length<=1000000:=by
    unfold gl;refine dC (g2 _ _) ?_;rw[ce,cL];omega
   obtain⟨qz,o⟩:=al (l++[aq.q 45 (aO (kh x y))]);have cf:qz.length=n+1:=by rw[o,X];simp
   have bi:∀ b,b<n->qz[b]?=l[b]?:=fun b a5=>by rw[o,aV F]
   have aP:aH 45 qz K w ((gA x (s.l.take k)).map aO):=by rw[o];exact aK.more _
   have aR:aH 45 qz z C ((gl x (s.l.take k)).map aO):=by rw[o];exact Y.more _
   have ag:qz[n]?=some (.q 45 (aO (kh x y))):=by rw[o];exact b0 _
   have b8:qz[3]?=some (.q 2 [.i6 c,z]):=by rw[o];exact bZ _
   simp[Q,a8,f1,aI];refine au aB (by simp[am,U.ar,a7]) ?_;simp[t1,bT,t5,q1,aD,aI];refine au aC (by simp[am,U.ar,bx,bA]) ?_;obtain⟨aS,ap⟩:=al (aO (kh x y));simp only[<-ap] at S bh P ag o;have bd:=gZ P;have cc:(l++[aq.q 45 bq]).set n (aq.q 45 aS)=qz:=by rw[X,o];simp
   simp[bI,S,bh,P,bJ];rw[<-o];have bk:qz[l.length]?=some (.q 45 aS):=by rw[<-X];exact ag
   by_cases W:m.l.length=0
   ·rw[W,b7 rfl] at G;rw[G,ak rfl] at I;rw[G] at v;simp only[vd,jq,if_false,eJ] at v;obtain⟨J,c3,j,O,D,br,df,ee,aj⟩:=ov aP T.len bC;rw[<-ap] at O;have aA:m.l=[]:=ho.1 W;simp[bk,P,aA,bd,aI,O];refine bR.bm ?_;have t:∀ b,b<4->j[b]?=l[b]?:=fun b a5=>by rw[df b F (d1.imp id fun h=>F)];exact bi b F
    have ay:=aR.lt;have bp:aH 45 j z C ((gl x (s.l.take k)).map aO):=aR.cx (by
     rcases ay with h | h
     ·exact .inl h
     ·rcases d3 with g | g | g
      ·exact .inr (df C h (.inl g))
      ·exact .inl g
      ·exact .inr (df C h (.inr fun e=>g e.symm)))
    simp[aT];refine⟨F,V,V,V,V,V,J,V,⟨by rw[t 0 F];exact Q,by rw[t 1 F];exact aL,by rw[t 2 F];exact aM,⟨z,c3,C,by rw[t 3 F];exact ae,?_,?_,.inr ?_,d2,?_,?_,?_⟩,F⟩⟩
    ·show aH 45 j J c3 ((gA x (s.l.take (k+1))).map aO);unfold gA at D ⊢;rw[I];exact D
    ·show aH 45 j z C ((gl x (s.l.take (k+1))).map aO);unfold gl at bp ⊢;rw[v];exact bp
    ·rcases ee with h | ⟨h,h'⟩
     ·omega
     ·rw[h'];exact d1.resolve_left h
    ·right;rcases d3 with g | g | g
     ·rcases ay with u | u
      ·exact .inl u
      ·rcases ee with h | ⟨h,_⟩
       ·exact .inr F
       ·exact bV g h
     ·exact .inl g
     ·rcases ay with u | u
      ·exact .inl u
      ·rcases ee with h | ⟨_,h'⟩
       ·exact .inr F
       ·exact .inr (by rw[h'];exact g)
    ·rw[aj];unfold gA;rw[I];simp
    ·rw[aJ];unfold gl;rw[v]
   ·rw[cu W] at G;rw[G,ai V,eJ] at I;rw[G] at v;simp only[rE,if_true] at v;obtain⟨J,c3,j,O,D,br,df,ee,aj⟩:=ov aR T.len bM;rw[<-ap] at O;have cd:=Y.cells;have bU:=D.cells;have aA:¬ m.l=[]:=fun h=>W (by rw[h];rfl)
    simp[bk,b8,P,aA,bd,aI,O];refine bR.bm ?_;have t:∀ b,b<4->j[b]?=l[b]?:=fun b a5=>by rw[df b F (d2.imp id fun h=>F)];exact bi b F
    have b2:j[3]?=some (.q 2 [.i6 c,z]):=by rw[t 3 F];exact ae
    have a9:=aP.lt;have bE:4<=c3:=by
     rcases ee with h | ⟨h,h'⟩
     ·omega
     ·rw[h'];exact d2.resolve_left h
    have bn:aH 45 j K w ((gA x (s.l.take k)).map aO):=aP.cx (by
     rcases a9 with h | h
     ·exact .inl h
     ·rcases d3 with g | g | g
      ·exact .inl g
      ·exact .inr (df w h (.inl g))
      ·exact .inr (df w h (.inr g)))
    simp[b2,bU,av,aT];refine⟨F,V,V,V,V,V,K,V,⟨by rw[bj F,t 0 F];exact Q,by rw[bj F,t 1 F];exact aL,by rw[bj F,t 2 F];exact aM,⟨J,w,c3,bY F,?_,?_,d1,.inr bE,?_,?_,?_⟩,by simp;omega⟩⟩
    ·show aH 45 _ K w ((gA x (s.l.take (k+1))).map aO);refine (show aH 45 j K w ((gA x (s.l.take (k+1))).map aO) from ?_).cx (d1.imp id fun h=>by rw[bj F]);unfold gA at bn ⊢;rw[I];exact bn
    ·show aH 45 _ J c3 ((gl x (s.l.take (k+1))).map aO);refine (show aH 45 j J c3 ((gl x (s.l.take (k+1))).map aO) from ?_).cx (.inr (by rw[bj F]));unfold gl at D ⊢;rw[v];exact D
    ·rcases a9 with u | u
     ·exact .inl u
     ·rcases ee with h | ⟨h,h'⟩
      ·exact .inr (.inr F)
      ·rcases d3 with g | g | g
       ·exact .inl g
       ·exact bV g h
       ·exact .inr (.inr (by rw[h'];exact g))
    ·rw[aG];unfold gA;rw[I]
    ·rw[aj];unfold gl;rw[v];simp
  ·simp[h];have bF:k=s.l.length:=by simp at h;omega
   rw[bF,e0] at aK Y aG aJ;have b3:∀ c:aq,(l.set 2 c)[2]?=some c:=fun c=>bY F
   have ag:∀ c:aq,aH 45 (l.set 2 c) K w ((gA x s.l).map aO):=fun c=>aK.cx (d1.imp id fun h=>by rw[bj F])
   have b5:∀ c:aq,aH 45 (l.set 2 c) z C ((gl x s.l).map aO):=fun c=>Y.cx (d2.imp id fun h=>by rw[bj F])
   simp[ae,aM,b3];rw[ak R];exact xi (xg (.same _ rfl) ((b5 _).q.gP jd (c2 _) (by rw[aJ,uW]) (fb _))) ((ag _).q.gP jd (c2 _) (by rw[aG,uW]) (fb _)) (.same _ rfl)
 ·rw[ai R];simp[bt,aD];refine au aw ax ?_;simp[R];refine au aw ax ?_;simp;exact aF
end Op.aJ
namespace Op.aJ
open cl Op
def zX (c:Int) (l:List aA) (t:Int) (o:aK) (m:b2) :U:=
 .aX [if dB c l t o m.l=0 then .af (bt c (some (l.map bl++[bl ⟨t,o,bf o,m⟩]))) else .af [.i6 0,.ad],.i6 (dB c l t o m.l)]
theorem Ma {c:Int} {l:List aA} (q:cH c l=0) {t:Int} (h:¬ t<=dL l l.length) :∀ s∈l,¬ t<=s.aC:=by
 obtain⟨_,o⟩:=nV q;obtain⟨_,p,_⟩:=(pK l).1 o;intro s z w;obtain⟨m,g⟩:=cp.1 z;have u:=(aL.1 g).1;obtain⟨C,j,D⟩:=aQ (l:=l) (k:=l.length - 1) F;have B:dL l l.length=C.aC:=by unfold dL;rw[ai F,eR j]
 rw[B] at h;by_cases v:m=l.length - 1
 ·rw[v,j] at g;obtain rfl:=cc g;exact h w
 ·have:=(kq.1 p) m (l.length - 1) u F F;rw[(aL.1 g).2,(aL.1 j).2] at this;omega
structure N1 (c:Int) (s:ek) (t:Int) (o:aK) (m:b2) (L:ae) (k:Nat) (sgZ:aS) (l:ae) :Prop where
 nI:l=L
 e5:sgZ 1=.i6 t
 hQ:sgZ 3=ah m
 iq:sgZ 4=.ptr 0 0 2
 lo:sgZ 6=.ptr 1 0 11
 oI:sgZ 8=.ptr 2 0 2
 CA:sgZ 10=.ptr 3 0 32
 H3:sgZ 12=.i6 k
 jB:∀ (j:Nat) (z:aA),j<k->s.l[j]?=some z->¬ t<=z.aC
theorem VW (c:Int) (s:ek) (T:fr s.l) (cr:s.l.length<=900000) (t:Int) (o:aK) (aM:dk o) (m:b2) (bk:c5 m) (bq:m.l.length<=1000000) :
  aU 60 [.af (bt c s),.i6 t,.af (aw o),ah m] (zX c s.l t o m):=by
 apply a2 func60 [cT 0 7++[[7,1]]];unfold zX;have bi:bD (.Z 45) (cg s)=_:=b9 _;have bg:=fT s;have aD:=dt o;have bI:=bO m;have aB:=DY c s T F;have X:=DV o aM;have bp:=Ks o aM m bk bq;have aH:=y5 o;have v:=bo aH;have bs:=nX c s T F (bf o) aH;have bh:=lr (bf o) (s.l.map aA.id) 0;have bc:=cG (bf o);have aE:am [U.af (bt c s)]=true:=by simp[bt,am,U.ar,bg]
 obtain⟨K,az⟩:=al (aw o);have I:K.length=11:=by rw[az];rfl
 have aS:aO ⟨t,o,bf o,m⟩=.i6 t::(K++(ao (bf o)++[ah m])):=by rw[az];rfl
 have aP:h5 ⟨t,o,bf o,m⟩:=⟨aM,aH,bk,bq⟩
 have aW:=EY _ aP;have bS:=(eQ aP).len;have bd:=jd ⟨t,o,bf o,m⟩;have Y:=(eQ (xF aP)).len;have bJ:=jd (bl ⟨t,o,bf o,m⟩);rw[<-az] at X bp aD ⊢;have bL:eo (bf o)=.af (ao (bf o)):=rfl;rw[bL] at X;obtain⟨D,bF⟩:=al (ao (bf o));rw[<-bF] at X v bs bc aS;obtain⟨cl,bG⟩:=al (aO ⟨t,o,bf o,m⟩);obtain⟨cn,bb⟩:=al (aO (bl ⟨t,o,bf o,m⟩));have bV:=Y;rw[<-bG] at aS aW bS bd;rw[<-bb] at aW Y bJ;have W:av (bZ 32 (.int .u8 0)) 0 D=D:=cD (by rw[v];rfl);have bn:(ah m).cells=some [ah m]:=by cases m<;>rfl
 obtain⟨ca,b1,b7,b0,b8⟩:=Cr (t:=t) I v bn;by_cases u:cH c s.l=0
 ·simp[bt,I];refine au aB aE ?_;simp[u,I,aI];refine au X (by simp[am,U.ar,aD]) ?_;by_cases h1:dd o=0
  ·by_cases z:t<0
   ·have g:dB c s.l t o m.l=2:=by unfold dB;simp[u,h1,z]
    rw[g];simp[v,W,h1,z,aI];exact aF
   ·by_cases O:1000000000<t
    ·have g:dB c s.l t o m.l=2:=by unfold dB;simp[u,h1,O]
     rw[g];simp[v,W,h1,z,O,aI];exact aF
    ·simp[v,W,h1,z,O,I,aI];refine au bp (by simp[am,U.ar,aD,bI]) ?_;cases ax:eV o m.l with
     | false=>
      have g:dB c s.l t o m.l=2:=by unfold dB;simp[u,h1,ax]
      rw[g];simp;exact aF
     | true=>
      simp[v,aI];refine au bs (show am [U.af (bt c s),U.af D]=true by simp[bt,am,U.ar,bg,bc]) ?_;by_cases R:bf o∈s.l.map aA.id
      ·have g:dB c s.l t o m.l=14:=by unfold dB;rw[ai F,ai F,ai (by simp[z,O,ax]),ak R]
       have aG:0<=dH (bf o) (s.l.map aA.id) 0:=bh.2 R;rw[g];simp[aG];exact aF
      ·have aG:¬ 0<=dH (bf o) (s.l.map aA.id) 0:=fun h=>R (bh.1 h)
       have aR:dB c s.l t o m.l=if t<=dL s.l s.l.length then 32 else if (s.l.length:Int)=c then 18 else 0:=by
        unfold dB;rw[ai F,ai F,ai (by simp[z,O,ax]),ai R]
       simp[aG];obtain⟨L,C⟩:=al ([aq.q 2 (bt c s),aq.q 11 K,aq.q 2 [.i6 0,.ad],aq.q 32 D] :ae);have J:L[0]?=some (.q 2 (bt c s)):=by rw[C];rfl
       have bW:L[1]?=some (.q 11 K):=by rw[C];rfl
       have a0:L[2]?=some (.q 2 [.i6 0,.ad]):=by rw[C];rfl
       have bX:L[3]?=some (.q 32 D):=by rw[C];rfl
       have cv:L.length=4:=by rw[C];rfl
       unfold bt at C J;rw[<-C];have bx:∀ cS:aq,(L.set 2 cS)[2]?=some cS:=fun cS=>bY F
       refine bB s.l.length (N1 c s t o m L) ?_ ⟨rfl,V,V,V,V,V,V,V,fun ag G h=>F⟩;rintro k cb l hk ⟨rfl,H,a5,a6,a7,a8,a3,a4,bv⟩;obtain⟨cb,rfl⟩:=AU H a5 a6 a7 a8 a3 a4;clear H a5 a6 a7 a8 a3 a4;simp[J,bi];refine fk (fun h=>?_) (fun h=>?_)
       ·simp only[bK] at h;obtain⟨G,P,aZ⟩:=aQ (l:=s.l) (k:=k) F;have bC:=ci (k:=k) F;have aJ:bQ (.Z 45) (cg s) _=_:=c8 P;have a9:=eQ (T G aZ);have ap:=a9.aC;have H:=a9.len;obtain⟨cm,bH⟩:=al (aO G);simp only[<-bH] at H ap aJ;by_cases B:t<=G.aC
        ·have j:t<=dL s.l s.l.length:=Decidable.byContradiction fun h=>Ma u h G aZ B
         have g:dB c s.l t o m.l=32:=by rw[aR,ak j]
         rw[g];simp[J,aJ,H,ap,B,a0,bx,av];exact aF
        ·simp[J,aJ,H,ap,B,bC];exact⟨F,rfl,V,V,V,V,V,V,V,fun ag w aL aY=>by
          by_cases bM:ag=k
          ·rw[bM,P] at aY;obtain rfl:=cc aY;exact B
          ·exact bv ag w F aY⟩
       ·have cq:k=s.l.length:=by simp at h;omega
        have B:¬ t<=dL s.l s.l.length:=fun j=>by
         by_cases br:s.l.length=0
         ·rw[br] at j;simp[dL] at j;omega
         ·obtain⟨G,P,aZ⟩:=aQ (l:=s.l) (k:=s.l.length - 1) F;refine bv (s.l.length - 1) G F P ?_;unfold dL at j;rw[ai br,eR P] at j;exact j
        simp[h,J,bi];refine fk (fun j=>?_) (fun j=>?_)
        ·have ay:(s.l.length:Int)=c:=by simpa using j
         have g:dB c s.l t o m.l=18:=by rw[aR,ai B,ak ay]
         rw[g];simp[a0,bx,av];exact aF
        ·have ay:¬ (s.l.length:Int)=c:=by simpa using j
         have g:dB c s.l t o m.l=0:=by rw[aR,ai B,ai ay]
         rw[g];simp[J];refine Mh c s T F fun bz p ag S aL cs aT ct=>?_
         simp;have cd:∀ cS:aq,(p++[cS])[1]?=some (.q 11 K):=fun cS=>by rw[aV F,aT 1 F];exact bW
         have cf:∀ cS:aq,(p++[cS])[2]?=some (.q 2 [.i6 0,.ad]):=fun cS=>by rw[aV F,aT 2 F];exact a0
         have ch:∀ cS:aq,(p++[cS])[3]?=some (.q 32 D):=fun cS=>by rw[aV F,aT 3 F];exact bX
         obtain⟨cw,bw,Q,aj,a1,bA,df,ee,bE⟩:=ov (s:=bl ⟨t,o,bf o,m⟩) ((S.more [.q 2 [.i6 c,bz]])) bV (by rw[ce];omega);rw[<-bb] at aj;have cu:=S.cells;have bU:=a1.cells;have bN:∀ cS:aq,(p++[cS])[p.length]?=some cS:=fun cS=>od
         simp at aj bA ee df;simp[cd,ch,I,v,aI,ca,b7,b8,b1,b0,bn,<-aS];refine au aW (by simp[am,U.ar,bd]) ?_;have bT:=gZ Y;simp[Y,bT,aj];refine bR.bm ?_;have cj:Q[2]?=some (.q 2 [.i6 0,.ad]):=by
          rw[df 2 F (aL.imp id fun h=>F)];exact cf _
         have ck:Q[p.length]?=some (.q 2 [.i6 c,bz]):=by
          rw[df _ F (S.lt.imp id fun h=>F)];exact bN _
         have cp:4<=bw/\bw≠p.length:=by
          rcases ee with h | ⟨h,h'⟩
          ·omega
          ·have h1:=aL.resolve_left h;have z:=S.lt.resolve_left h;omega
         have b3:∀ cS:aq,(Q.set p.length cS)[p.length]?=some cS:=fun cS=>bY F
         have b4:∀ cS:aq,(Q.set p.length cS)[2]?=some (.q 2 [.i6 0,.ad]):=fun cS=>by rw[bj F];exact cj
         have b5:∀ cS rZ:aq,((Q.set p.length cS).set 2 rZ)[2]?=some rZ:=fun cS rZ=>bY (by simp;omega)
         simp[ck,bU,av,b3,b4,b5];refine xh (xg (.same _ rfl) ((a1.cx (.inr (by rw[bj F,bj F]))).q.gP jd (some (s.l.map bl++[bl ⟨t,o,bf o,m⟩])) (by rw[bE];rfl) rfl)) (.same _ rfl)
  ·have g:dB c s.l t o m.l=8:=by unfold dB;simp[u,h1]
   rw[g];simp[v,W,h1,aI];exact aF
 ·have g:dB c s.l t o m.l=cH c s.l:=by unfold dB;simp[u]
  rw[g];simp[bt,I];refine au aB aE ?_;simp[u];refine au aB aE ?_;simp;rw[ai u];exact aF
def y1 (c:Int) (l:List aA) (x:List B) :U:=if cH c l=0 then .aX [.bool (decide (x∈l.map aA.id)),.i6 0] else .aX [.bool false,.i6 (cH c l)]
theorem Y4 (c:Int) (s:ek) (q:fr s.l) (p:s.l.length<=1000000) (x:List B) (t:x.length=32) :aU 96 [.af (bt c s),.af (ao x)] (y1 c s.l x):=by
 apply a2 func96 [];unfold y1;have o:=fT s;have u:=cG x;have h:=bo t;have j:=u3 c s q p;have w:=DE s q p x t;have v:=lr x (s.l.map aA.id) 0;have m:am [U.af (bt c s)]=true:=by simp[bt,am,U.ar,o]
 by_cases g:cH c s.l=0
 ·simp[bt,h];refine au j m ?_;simp[g,h,aI];refine au w (by simp[am,U.ar,o,u]) ?_;rw[ak g];simp;exact aP (by simp[v]) rfl
 ·simp[bt,h];refine au j m ?_;rw[ai g];simp[g];exact aF
def uo (n:Int) :U:=if n<1\/8<n then .aX [.af (bt 0 none),.i6 2] else .aX [.af (bt n none),.i6 0]
theorem Za (n:Int) :aU 48 [.i6 n] (uo n):=by
 apply a2 func48 [];unfold uo;by_cases h1:n<1
 ·simp[h1];exact aF
 ·by_cases g:8<n
  ·simp[h1,g];exact aF
  ·rw[ai F];simp[h1,g,av];exact aF
theorem VV (n:Int) :aU 50 [.i6 n] (uo n):=by
 apply a2 func50 [];unfold uo;by_cases h1:n<1
 ·simp[h1];exact aF
 ·by_cases g:8<n
  ·simp[h1,g];exact aF
  ·rw[ai F];simp[h1,g,av];exact aF
end Op.aJ
end Go.bh
namespace Go.bh
open Go Go.Proofs Go.Proofs.Tryz Go.Sort
namespace Op.aJ
open cl Op
theorem Db (a:List B) :eM a a=false:=by
 cases h:eM a a with
 | false=>rfl
 | true=>rw[ib,lj] at h;omega
theorem ui (a b c:List B) (h1:eM a b=true) (g:eM b c=true) :eM a c=true:=(ib _ _).2 (oE a b c ((ib _ _).1 h1) ((ib _ _).1 g))
theorem IW (a b:List B) (g:a≠b) (h:eM a b=false) :eM b a=true:=by
 rw[ib,oD];rcases vW a b with h1 | h1 | h1
 ·rw[(ib a b).2 F] at h;cases h
 ·exact bV (oC h1) g
 ·omega
end Op.aJ
end Go.bh
namespace Go.bh
open Go Go.Proofs Go.Proofs.Tryz
namespace Op.aJ
open cl Op
theorem EA (f:aA->aA) {l:List aA} {k:Nat} (h:k<l.length) :e8 (l.map f) k=f (e8 l k):=by obtain⟨y,g,_⟩:=aQ h;rw[eR g,eR (by rw[b0,g];rfl)]
theorem CM (o:aK) :bf (cw o)=bf o:=rfl
theorem Ia {l:List aA} {k:Nat} (h:k<l.length) :hR (l.map bl) k=hR l k:=by
 have h1:dL (l.map bl) k=dL l k:=by
  unfold dL;by_cases hk:k=0
  ·rw[ak hk,ak hk]
  ·rw[ai hk,ai hk,EA _ F];rfl
 have g:((l.map bl).take k).map aA.id=(l.take k).map aA.id:=by
  rw[<-i2,iL];rfl
 unfold hR;rw[h1,g,EA _ h];rfl
theorem DL (c:Int) (l:List aA) :cH c (l.map bl)=cH c l:=by
 unfold cH;rw[ce];have:oK (l.map bl)=oK l:=by
  unfold oK;rw[ce];congr 1;exact propext ⟨fun h k hk=>by rw[<-Ia hk];exact h k hk,fun h k hk=>by rw[Ia hk];exact h k hk⟩
 rw[this]
theorem RS (l:List aA) :(l.map bl).map aA.id=l.map aA.id:=by rw[iL];rfl
theorem Vp (c:Int) (l:List aA) (t:Int) (o:aK) (m:aR) :dB c (l.map bl) t o m=dB c l t o m:=by
 unfold dB;have h1:dL (l.map bl) (l.map bl).length=dL l l.length:=by
  rw[ce];unfold dL;by_cases hk:l.length=0
  ·rw[ak hk,ak hk]
  ·rw[ai hk,ai hk,EA _ F];rfl
 rw[DL,RS,h1,ce]
theorem Li (o:aK) :gn (cw o) o=true:=by have:=Lh o;unfold gn at this ⊢;exact this
end Op.aJ
namespace Op.aJ
open cl Op
theorem Vv (c:Int) (l:List aA) (t:Int) (o:aK) (m:b2) :zZ c l t o m=.aX [.af (bt (if dB c l t o m.l=0 then c else 0) (if dB c l t o m.l=0 then some (l++[⟨t,o,bf o,m⟩]) else none)),.i6 (dB c l t o m.l)]:=by unfold zZ;split<;>rfl
theorem Vt (c:Int) (l:List aA) (t:Int) (o:aK) (m:b2) :zX c l t o m=.aX [.af (bt (if dB c l t o m.l=0 then c else 0) (if dB c l t o m.l=0 then some (l.map bl++[bl ⟨t,o,bf o,m⟩]) else none)),.i6 (dB c l t o m.l)]:=by unfold zX;split<;>rfl
theorem PJ (c:Int) (l:List aA) (x:List B) :yy c l x=.aX [.af (bt (if cH c l=0 then c else 0) (if cH c l=0 then c2 (cP x l) else none)),cg (if cH c l=0 then c2 (c0 x l) else none),.i6 (cH c l)]:=by
 unfold yy;split
 ·rename_i h;rw[h]
 ·rfl
theorem PI (c:Int) (l:List aA) (x:List B) :yx c l x=.aX [.af (bt (if cH c l=0 then c else 0) (if cH c l=0 then c2 (gl x l) else none)),cg (if cH c l=0 then c2 (gA x l) else none),.i6 (cH c l)]:=by
 unfold yx;split
 ·rename_i h;rw[h]
 ·rfl
end Op.aJ
namespace Op.aJ
open cl Op
theorem Vw {c:Int} {l:List aA} {t:Int} {o:aK} {m:b2} (h:dB c l t o m.l=0) :cH c l=0/\dd o=0/\eV o m.l=true/\cH c (l++[⟨t,o,bf o,m⟩])=0:=by
 unfold dB at h;by_cases g:cH c l=0
 case neg=>rw[ak g] at h;exact bV h g
 rw[ai F] at h;by_cases h1:dd o=0
 case neg=>rw[ak h1] at h;cases h
 rw[ai F] at h;by_cases v:t<0\/1000000000<t\/eV o m.l=false
 case pos=>rw[ak v] at h;cases h
 rw[ai v] at h;by_cases j:bf o∈l.map aA.id
 case pos=>rw[ak j] at h;cases h
 rw[ai j] at h;by_cases p:t<=dL l l.length
 case pos=>rw[ak p] at h;cases h
 rw[ai p] at h;by_cases B:(l.length:Int)=c
 case pos=>rw[ak B] at h;cases h
 have w:eV o m.l=true:=by cases K:eV o m.l<;>simp_all
 refine⟨g,h1,w,?_⟩;obtain⟨J,z⟩:=nV g;obtain⟨q1,H,I⟩:=(pK l).1 z;have D:=Ma g p;have C:oK (l++[⟨t,o,bf o,m⟩])=true:=by
  refine (pK _).2 ⟨fun s G=>?_,?_,?_⟩
  ·rcases fE.1 G with h | h
   ·exact q1 s h
   ·rw[fQ.1 h];exact⟨h1,rfl,by show 0<=t;omega,by show t<=_;omega,w⟩
  ·refine rH.2 ⟨H,Bn _ _,fun a q b u=>?_⟩;rw[fQ.1 u];have:=D a q;show a.aC<t;omega
  ·refine rH.2 ⟨I,Bn _ _,fun a q b u=>?_⟩;rw[fQ.1 u];exact fun e=>j (cE.2 ⟨a,q,e⟩)
 unfold cH;rw[ai (by simp only[cI,xY];omega),C];rfl
end Op.aJ
namespace Op
open cl aJ
structure bd where
 ay:cW
 bE:Int
 pl:ek
 bH:Int
 ds:Bool
def bz (s:bd) :ag:=[.i6 s.ay.cap,dn s.ay.aD.aj,ah s.ay.aD.bI,.i6 s.ay.aD.bN,ah s.ay.az,.i6 s.bE,cg s.pl,.i6 s.bH,.bool s.ds]
structure eF (s:bd) :Prop where
 ay:hK s.ay
 pl:fr s.pl.l
 len:s.pl.l.length<=900000
theorem hN (s:bd) :am (bz s)=true:=by simp[bz,am,U.ar,kC,bO,fT]
structure Nz (s:bd) (R:ag) :Prop where
 len:R.length=9
 all:R.take 9=R
 ay:R.take 5=bw s.ay
 pen:(R.drop 5).take 2=bt s.bE s.pl
 ord:R[4]?=some (ah s.ay.az)
 acT:R[6]?=some (cg s.pl)
 bH:R[7]?=some (.i6 s.bH)
 ds:R[8]?=some (.bool s.ds)
 cap:R[0]?=some (.i6 s.ay.cap)
 bE:R[5]?=some (.i6 s.bE)
 acN:∀ h:4<R.length,R[4]'h=ah s.ay.az
 acU:∀ h:6<R.length,R[6]'h=cg s.pl
 acL:∀ h:7<R.length,R[7]'h=.i6 s.bH
 aaj:∀ h:8<R.length,R[8]'h=.bool s.ds
 cap' : ∀ h:0<R.length,R[0]'h=.i6 s.ay.cap
 acR:∀ h:5<R.length,R[5]'h=.i6 s.bE
 ar:am R=true
theorem fe (s:bd) :Nz s (bz s):=⟨rfl,rfl,rfl,rfl,rfl,rfl,rfl,rfl,rfl,rfl,fun _=>rfl,fun _=>rfl,fun _=>rfl,fun _=>rfl,fun _=>rfl,fun _=>rfl,hN s⟩
def ie (g:aR) (y:List B) :Bool:=!decide (y∈g)
def da (g:aR) (o:aK) :aR:=o.ax.l.filter (ie g)
theorem wF {j:aR} {o:aK} (h:dk o) :c5 (eC (da j o)):=fun y g=>by
 rw[kj] at g;exact h.idsZ y (dx.1 g).1
theorem C4 {h:aR} {o:aK} (g:dk o) :(eC (da h o)).l.length<=1000000:=by rw[kj];exact dC (g2 _ _) g.len
structure Nq (S O:ag) (ord:aR) (ps:aR) (P:U) (k:Nat) (sgZ:aS) (l:ae) :Prop where
 hP:sgZ 2=.ptr 0 0 9
 y0:sgZ 9=P
 CA:sgZ 10=.i6 ps.length
 H2:sgZ 11=.i6 k
 nT:l[0]?=some (.q 9 S)
 ex:∃ v j,sgZ 5=v/\aH 32 l v j (((ps.take k).filter (ie ord)).map ao)/\(v=.ad\/2<=j)/\bq v=((ps.take k).filter (ie ord)).isEmpty
theorem B8 (s:bd) (aC:eF s) (o:aK) (C:dk o) :aU 54 [.af (bz s),.af (aw o)] (ah (eC (da s.ay.az.l o))):=by
 apply a2 func54 [];have K:=fe s;have aY:=bO s.ay.az;have bf:=aC.ay.no;have aZ:=fun x a5=>qe s.ay.az aC.ay.az F x a5
 have aB:(aw o).length=11:=rfl;have aT:(aw o)[1]?=some (ah o.ax):=rfl;have ag:∀ h,(aw o)[1]'h=ah o.ax:=fun _=>rfl
 have a4:bD (.Z 32) (ah o.ax)=_:=b9 _;have bg:=C.len;obtain⟨S,aW⟩:=al (bz s);obtain⟨aP,X⟩:=al (aw o);rw[<-aW] at K ⊢;rw[<-X] at aB aT ⊢;simp only[<-X] at ag;obtain⟨m,bi,bC,bw,bs,bx,bq,bn,bk,bt,a7,bA,br,bp,bl,bv,bj⟩:=K;simp[aB,ag,a4];refine bB o.ax.l.length (Nq S aP s.ay.az.l o.ax.l (ah o.ax)) ?_ ⟨by simp[m],by simp[m],by simp[m],by simp[m],by simp[m],.ad,0,V,.nil 0,.inl rfl,rfl⟩;rintro k a8 l hk ⟨R,W,P,Q,I,aM,aJ,T,G,d1,D⟩;obtain⟨a8,rfl⟩:=gu R T W P Q;clear R T W P Q;by_cases z:k<o.ax.l.length
 ·obtain⟨y,aE,aG⟩:=aQ z;have t:=bo (C.idsZ y aG);have aF:=cG y;have O:=ci (k:=k) F;have ap:bQ (.Z 32) (ah o.ax) _=_:=c8 aE;have aA:=aZ y (C.idsZ y aG);have j:=CZ (p:=ie s.ay.az.l) aE;have a3:((o.ax.l.take k).filter (ie s.ay.az.l)).length<=1000000:=by
   refine dC (g2 _ _) ?_;rw[cL];omega
  have H:aH 32 (l++[aq.q 32 (ao y)]) aM aJ (((o.ax.l.take k).filter (ie s.ay.az.l)).map ao):=G.more _;have J:∀ g:ae,(l++g)[0]?=some (.q 9 S):=fun g=>by rw[aV (a1 I)];exact I
  obtain⟨Y,u⟩:=al (ao y);have aj:Y.take 32=Y:=aI (by rw[u];omega);rw[<-u] at t ap aA aF H;have aD:av (bZ 32 (.int .u8 0)) 0 Y=Y:=cD (by rw[t];rfl);have aO:∀ (g:ae) (h:0<(l++g).length),(l++g)[0]'h=.q 9 S:=fun g h=>(aL.1 (J g)).2
  simp[z,ap,t,aj,aD,aO,m,a7];refine au aA (by simp[am,U.ar,aY,aF]) ?_;by_cases v:y∈s.ay.az.l
  ·have B:ie s.ay.az.l y=false:=by unfold ie;simp[v]
   rw[B,ai V,eJ] at j;simp[v,O];exact⟨F,V,V,V,V,J _,aM,aJ,V,by rw[j];exact H,d1,by rw[j];exact D⟩
  ·have B:ie s.ay.az.l y=true:=by unfold ie;simp[v]
   rw[B,ak rfl] at j;obtain⟨a9,a6,bh,w,aR,bb,df,ee,aS⟩:=BM H (by rw[<-u];exact t) a3;rw[<-u] at w;simp at w;simp[v,t,aj,aD,w];refine bR.bm ?_;simp[O];have bc:=a1 I;refine⟨F,V,V,V,V,?_,a9,a6,V,by rw[j];exact aR,?_,by rw[aS,j];simp⟩
   ·rw[df 0 V (d1.imp id fun h=>F)];exact J _
   ·rcases ee with h | ⟨h,h'⟩
    ·right;simp at h;omega
    ·right;rw[h'];exact d1.resolve_left h
 ·have a0:k=o.ax.l.length:=F;simp[z];rw[a0,e0] at G D;exact G.q.gP cG (eC _) (by rw[D,EO];rfl) (kj _)
structure Nn (O:ag) (g:b2) (ps:aR) (k:Nat) (sgZ:aS) (l:ae) :Prop where
 kI:sgZ 0=ah g
 hQ:sgZ 3=.ptr 0 0 11
 lo:sgZ 6=.i6 k
 nT:l[0]?=some (.q 11 O)
 ex:∃ v j,sgZ 5=v/\aH 32 l v j (((ps.take k).filter (ie g.l)).map ao)/\(v=.ad\/1<=j)/\bq v=((ps.take k).filter (ie g.l)).isEmpty
theorem B7 (g:b2) (aH:c5 g) (aJ:g.l.length<=1000000) (o:aK) (G:dk o) :aU 36 [ah g,.af (aw o)] (ah (eC (da g.l o))):=by
 apply a2 func36 [];have aC:=bO g;have aD:=fun x aM=>z2 g aH aJ x aM
 have t:(aw o).length=11:=rfl;have aB:(aw o)[1]?=some (ah o.ax):=rfl;have v:∀ h,(aw o)[1]'h=ah o.ax:=fun _=>rfl
 have ag:bD (.Z 32) (ah o.ax)=_:=b9 _;have aY:=G.len;obtain⟨I,S⟩:=al (aw o);rw[<-S] at t aB ⊢;simp only[<-S] at v;simp[t];refine bB o.ax.l.length (Nn I g o.ax.l) ?_ ⟨V,V,V,V,.ad,0,V,.nil 0,.inl rfl,rfl⟩;rintro k aR l hk ⟨O,P,R,j,aS,aO,Q,z,d1,H⟩;obtain⟨aR,rfl⟩:=eO O P Q R;clear O P Q R;by_cases C:k<o.ax.l.length
 ·obtain⟨y,aj,aq⟩:=aQ C;have u:=bo (G.idsZ y aq);have ap:=cG y;have K:=ci (k:=k) F;have B:bQ (.Z 32) (ah o.ax) _=_:=c8 aj;have X:=aD y (G.idsZ y aq);have m:=CZ (p:=ie g.l) aj;have aF:((o.ax.l.take k).filter (ie g.l)).length<=1000000:=by
   refine dC (g2 _ _) ?_;rw[cL];omega
  have a0:∀ ay:ae,(l++ay)[0]?=some (.q 11 I):=fun ay=>by rw[aV (a1 j)];exact j
  obtain⟨aT,aP,aZ,J,az,aW,df,ee,aA⟩:=BM z u aF;obtain⟨Y,T⟩:=al (ao y);have W:Y.take 32=Y:=aI (by rw[T];omega);rw[<-T] at u B X ap J;have aL:av (bZ 32 (.int .u8 0)) 0 Y=Y:=cD (by rw[u];rfl);simp[C,B,u,W,j,t,v,ag];refine au X (by simp[am,U.ar,aC,ap]) ?_;by_cases w:y∈g.l
  ·have D:ie g.l y=false:=by unfold ie;simp[w]
   rw[D,ai V,eJ] at m;simp[w,K];exact⟨F,V,V,V,j,aS,aO,V,by rw[m];exact z,d1,by rw[m];exact H⟩
  ·have D:ie g.l y=true:=by unfold ie;simp[w]
   rw[D,ak rfl] at m;simp[w,B,u,W,aL,j,t,v,J];refine bR.bm ?_;simp[K];have aG:=a1 j;refine⟨F,V,V,V,?_,aT,aP,V,by rw[m];exact az,?_,by rw[aA,m];simp⟩
   ·rw[df 0 aG (d1.imp id fun h=>F)];exact j
   ·rcases ee with h | ⟨h,h'⟩
    ·right;omega
    ·right;rw[h'];exact d1.resolve_left h
 ·have aE:k=o.ax.l.length:=F;simp[C,j,t,v,ag];rw[aE,e0] at z H;exact z.q.gP cG (eC _) (by rw[H,EO];rfl) (kj _)
open cl aJ
def pJ (s:bd) (x:aA) :Bool:=decide (x.aC<s.bH)&&(decide (eh x.op=0)&&(decide (x.id∉s.ay.az.l)&&decide (x.a6.l=da s.ay.az.l x.op)))
noncomputable def re (s:bd) :Bool:=decide (fa s.ay=0)&&(decide (cH s.bE s.pl.l=0)&&(decide (0<=s.bH)&&decide (s.bH<=1000000000)))
def vG (s:bd) :Bool:=decide (∀ k,k<s.pl.l.length->pJ s (e8 s.pl.l k)=true)
noncomputable def eg (s:bd) :Int:=if re s&&vG s then 0 else 8
theorem rn {s:bd} (h:re s=false) :eg s=8:=by unfold eg;rw[h];rfl
theorem rm {s:bd} {k:Nat} (hk:k<s.pl.l.length) (h:pJ s (e8 s.pl.l k)=false) :eg s=8:=by
 unfold eg;have:vG s=false:=by
  unfold vG;rw[cu];intro g;have:=g k hk;rw[h] at this;cases this
 rw[this,vb];rfl
theorem LI {s:bd} (h:re s=true) (g:∀ k,k<s.pl.l.length->pJ s (e8 s.pl.l k)=true) :eg s=0:=by unfold eg vG;rw[h,b7 g];rfl
structure Nk (s:bd) (k:Nat) (sgZ:aS) (l:ae) :Prop where
 e5:sgZ 1=.ptr 0 0 9
 CC:sgZ 27=cg s.pl
 aaL:sgZ 28=.i6 s.pl.l.length
 aaM:sgZ 29=.i6 k
 nT:l[0]?=some (.q 9 (bz s))
 jB:∀ j,j<k->pJ s (e8 s.pl.l j)=true
theorem yF (s:bd) (m:eF s) :aU 24 [.af (bz s)] (.i6 (eg s)):=by
 apply a2 func24 [cT 0 25++[[25,21]]];have Q:=fe s;have aT:=g7 s.ay;have aS:am (bt s.bE s.pl)=true:=by simp[bt,am,U.ar,fT]
 have aJ:=Le s.ay m.ay;have aZ:=u3 s.bE s.pl m.pl (by have:=m.len;omega);have aY:bD (.Z 45) (cg s.pl)=_:=b9 _;have bj:=m.ay.no;have C:re s=(decide (fa s.ay=0)&&(decide (cH s.bE s.pl.l=0)&&(decide (0<=s.bH)&&decide (s.bH<=1000000000)))):=rfl;have aR:=bO s.ay.az;obtain⟨S,z⟩:=al (bz s);rw[<-z] at Q ⊢;obtain⟨o,a7,bf,bb,bq,bv,bp,bm,bk,br,a9,bc,H,bn,bl,bs,a8⟩:=Q;simp[o,bf];refine au aJ (by simp[am,U.ar,aT]) ?_;by_cases h1:fa s.ay=0
 ·simp[h1,o,bb];refine au aZ (by simp[am,U.ar,aS]) ?_;by_cases v:cH s.bE s.pl.l=0
  ·by_cases J:s.bH<0
   ·simp[h1,v,J,o,H];exact aP (by rw[rn (by rw[C,cu (show ¬ 0<=s.bH by omega)];simp)]) rfl
   ·by_cases ag:1000000000<s.bH
    ·simp[h1,v,J,ag,o,H];exact aP (by rw[rn (by rw[C,cu (show ¬ s.bH<=1000000000 by omega)];simp)]) rfl
    ·have a0:re s=true:=by rw[C,b7 h1,b7 v,b7 (show 0<=s.bH by omega),b7 (show s.bH<=1000000000 by omega)];rfl
     simp[h1,v,J,ag,o,H,bc,aY];refine bB s.pl.l.length (Nk s) ?_ ⟨V,V,V,V,by simp[z],fun D h=>F⟩;rintro k bg l hk ⟨R,T,W,Y,P,av⟩;obtain⟨bg,rfl⟩:=eO R T W Y;clear R T W Y;rw[<-z] at P;by_cases p:k<s.pl.l.length
     ·obtain⟨x,aA,a4⟩:=aQ p;have j:=m.pl x a4;have w:=eQ j;have aE:IntKind.i64.wrap ((k:Int)+1)=((k+1:Nat) :Int):=by rw[IntKind.wrap_i64];have:=m.len;omega
      have ap:bQ (.Z 45) (cg s.pl) _=_:=c8 aA;have aH:=eR aA;have ax:=xK x.op j.op;have aq:=qe s.ay.az m.ay.az F x.id j.id;have K:=B8 s m x.op j.op;have heq:=HC x.a6 (eC (da s.ay.az.l x.op)) j.a6 (wF j.op) j.len;rw[kj] at heq;have a5:=bo j.id;have O:=dt x.op;have aM:=bO x.a6;have aK:=bO (eC (da s.ay.az.l x.op));have ak:=cG x.id;have B:pJ s (e8 s.pl.l k)=(decide (x.aC<s.bH)&&(decide (eh x.op=0)&&(decide (x.id∉s.ay.az.l)&&decide (x.a6.l=da s.ay.az.l x.op)))):=by rw[aH];rfl
      obtain⟨X,aj⟩:=al (aO x);rw[<-aj] at w ap;obtain⟨aD,ai⟩:=al (aw x.op);obtain⟨bh,aF⟩:=al (ao x.id);have f1:=w.len;have f2:=w.aC;have f3:=w.op;have f4:=w.id;have f5:=w.a6;rw[<-ai] at f3 ax K O;rw[<-aF] at f4 aq a5 ak;rw[<-z] at K;have aG:X.take 45=X:=aI F;have f20:X[0]?=some (.i6 x.aC):=by rw[aj];rfl
      have f50:X[44]?=some (ah x.a6):=by rw[bM F,f5]
      have bi:aD.length=11:=by rw[ai];rfl
      have a3:=gZ f1;have aB:∀ t:ae,(l++t)[0]?=some (.q 9 S):=fun t=>by rw[aV (a1 P)];exact P
      have I:∀ (t:ae) (h:0<(l++t).length),(l++t)[0]'h=.q 9 S:=fun t h=>(aL.1 (aB t)).2
      simp[p,ap,f1,aG,a3,I,o,H,f2];by_cases q1:s.bH<=x.aC
      ·simp[q1];exact aP (by rw[rm p (by rw[B,cu (show ¬ x.aC<s.bH by omega)];rfl)]) rfl
      ·simp[q1,f1,f3];refine au ax (by simp[am,U.ar,O]) ?_;by_cases g:eh x.op=0
       ·simp[q1,g,I,o,a9,f1,f4];refine au aq (by simp[am,U.ar,aR,ak]) ?_;by_cases u:x.id∈s.ay.az.l
        ·simp[q1,g,u];exact aP (by rw[rm p (by rw[B,cu (show ¬ x.id∉s.ay.az.l by simpa using u)];simp)]) rfl
        ·simp[q1,g,u,f1,f5,I,o,a7,f3];refine au K (by simp[am,U.ar,O,a8]) ?_;simp[q1,g,u];refine⟨f50,au heq (by simp[am,aM,aK]) ?_⟩;by_cases G:x.a6.l=da s.ay.az.l x.op
         ·simp[q1,g,u,G,aE];refine⟨F,V,V,V,V,by rw[<-z];exact aB _,fun D aW=>?_⟩;by_cases e:D=k
          ·subst e;rw[B,b7 (show x.aC<s.bH by omega),b7 g,b7 u,b7 G];rfl
          ·exact av D F
         ·simp[q1,g,u,G];exact aP (by rw[rm p (by rw[B,cu G];simp)]) rfl
       ·simp[q1,g];exact aP (by rw[rm p (by rw[B,cu g];simp)]) rfl
     ·simp[p];exact aP (by rw[LI a0 fun D aW=>av D F]) rfl
  ·simp[v];exact aP (by rw[rn (by rw[C,cu v];simp)]) rfl
 ·simp[h1];exact aP (by rw[rn (by rw[C,cu h1];simp)]) rfl
structure Nr (s:bd) (k:Nat) (sgZ:aS) (l:ae) :Prop where
 e5:sgZ 1=.ptr 0 0 9
 hQ:sgZ 3=.i6 k
 nT:l[0]?=some (.q 9 (bz s))
 jB:∀ j,j<k->pJ s (e8 s.pl.l j)=true
theorem yG (s:bd) (o:eF s) :aU 25 [.af (bz s)] (.i6 (eg s)):=by
 apply a2 func25 [cT 0 27++[[27,21]]];have P:=fe s;have aW:=g7 s.ay;have aT:am (bt s.bE s.pl)=true:=by simp[bt,am,U.ar,fT]
 have aM:=D1 s.ay o.ay;have aZ:=DY s.bE s.pl o.pl (by have:=o.len;omega);have ap:bD (.Z 45) (cg s.pl)=_:=b9 _;have bf:=o.ay.no;have B:re s=(decide (fa s.ay=0)&&(decide (cH s.bE s.pl.l=0)&&(decide (0<=s.bH)&&decide (s.bH<=1000000000)))):=rfl;have ai:=bO s.ay.az;obtain⟨S,G⟩:=al (bz s);rw[<-G] at P ⊢;obtain⟨j,bg,a8,a7,bn,br,bm,bk,bi,bp,aD,aE,I,bl,bj,bq,bh⟩:=P;simp[j,a8];refine au aM (by simp[am,U.ar,aW]) ?_;by_cases h1:fa s.ay=0
 ·simp[h1,j,a7];refine au aZ (by simp[am,U.ar,aT]) ?_;by_cases v:cH s.bE s.pl.l=0
  ·by_cases K:s.bH<0
   ·simp[h1,v,K,j,I];exact aP (by rw[rn (by rw[B,cu (show ¬ 0<=s.bH by omega)];simp)]) rfl
   ·by_cases T:1000000000<s.bH
    ·simp[h1,v,K,T,j,I];exact aP (by rw[rn (by rw[B,cu (show ¬ s.bH<=1000000000 by omega)];simp)]) rfl
    ·have a0:re s=true:=by rw[B,b7 h1,b7 v,b7 (show 0<=s.bH by omega),b7 (show s.bH<=1000000000 by omega)];rfl
     simp[h1,v,K,T,j,I];refine bB s.pl.l.length (Nr s) ?_ ⟨V,V,by simp[G],fun C h=>F⟩;rintro k a9 l hk ⟨Q,R,D,av⟩;obtain⟨a9,rfl⟩:=kk Q R;clear Q R;rw[<-G] at D;by_cases p:k<s.pl.l.length
     ·obtain⟨x,aA,a4⟩:=aQ p;have m:=o.pl x a4;have w:=eQ m;have aG:IntKind.i64.wrap ((k:Int)+1)=((k+1:Nat) :Int):=by rw[IntKind.wrap_i64];have:=o.len;omega
      have aj:bQ (.Z 45) (cg s.pl) _=_:=c8 aA;have aK:=eR aA;have ax:=z8 x.op m.op;have ak:=z2 s.ay.az o.ay.az F x.id m.id;have aq:=B7 s.ay.az o.ay.az F x.op m.op;have heq:=sL x.a6 (eC (da s.ay.az.l x.op)) m.a6 (wF m.op) m.len;rw[kj] at heq;have a5:=bo m.id;have O:=dt x.op;have aS:=bO x.a6;have aR:=bO (eC (da s.ay.az.l x.op));have ag:=cG x.id;have z:pJ s (e8 s.pl.l k)=(decide (x.aC<s.bH)&&(decide (eh x.op=0)&&(decide (x.id∉s.ay.az.l)&&decide (x.a6.l=da s.ay.az.l x.op)))):=by rw[aK];rfl
      obtain⟨X,Y⟩:=al (aO x);rw[<-Y] at w aj;obtain⟨aF,W⟩:=al (aw x.op);obtain⟨bb,aH⟩:=al (ao x.id);have f1:=w.len;have f2:=w.aC;have f3:=w.op;have f4:=w.id;have f5:=w.a6;rw[<-W] at f3 ax aq O;rw[<-aH] at f4 ak a5 ag;have aJ:X.take 45=X:=aI F;have f20:X[0]?=some (.i6 x.aC):=by rw[Y];rfl
      have f50:X[44]?=some (ah x.a6):=by rw[bM F,f5]
      have bc:aF.length=11:=by rw[W];rfl
      have a3:=gZ f1;have aB:∀ t:ae,(l++t)[0]?=some (.q 9 S):=fun t=>by rw[aV (a1 D)];exact D
      have J:∀ (t:ae) (h:0<(l++t).length),(l++t)[0]'h=.q 9 S:=fun t h=>(aL.1 (aB t)).2
      simp[D,j,aE,ap,p,aj,f1,aJ,a3,J,I,f2];by_cases q1:s.bH<=x.aC
      ·simp[q1];exact aP (by rw[rm p (by rw[z,cu (show ¬ x.aC<s.bH by omega)];rfl)]) rfl
      ·simp[q1,f1,f3];refine au ax (by simp[am,U.ar,O]) ?_;by_cases g:eh x.op=0
       ·simp[q1,g,J,j,aD,f1,f4];refine au ak (by simp[am,U.ar,ai,ag]) ?_;by_cases u:x.id∈s.ay.az.l
        ·simp[q1,g,u];exact aP (by rw[rm p (by rw[z,cu (show ¬ x.id∉s.ay.az.l by simpa using u)];simp)]) rfl
        ·simp[q1,g,u,f1,f5,J,j,aD,f3];refine au aq (by simp[am,U.ar,O,ai]) ?_;simp[q1,g,u];refine⟨f50,au heq (by simp[am,aS,aR]) ?_⟩;by_cases H:x.a6.l=da s.ay.az.l x.op
         ·simp[q1,g,u,H,aG];refine⟨F,V,V,by rw[<-G];exact aB _,fun C aY=>?_⟩;by_cases e:C=k
          ·subst e;rw[z,b7 (show x.aC<s.bH by omega),b7 g,b7 u,b7 H];rfl
          ·exact av C F
         ·simp[q1,g,u,H];exact aP (by rw[rm p (by rw[z,cu H];simp)]) rfl
       ·simp[q1,g];exact aP (by rw[rm p (by rw[z,cu g];simp)]) rfl
     ·simp[D,j,aE,ap,p];exact aP (by rw[LI a0 fun C aY=>av C F]) rfl
  ·simp[v];exact aP (by rw[rn (by rw[B,cu v];simp)]) rfl
 ·simp[h1];exact aP (by rw[rn (by rw[B,cu h1];simp)]) rfl
open cl aJ
def eI (s:bd) (j:cR) :Int:=
 if j.bX=0 then
  (if s.ds then 9 else if j.id∈s.ay.az.l\/j.id∈s.pl.l.map aA.id then 5
   else if da s.ay.az.l j.op=[] then (if (s.ay.az.l.length:Int)=s.ay.cap then 8 else 1)
   else if (s.pl.l.length:Int)<s.bE then 6 else 7)
 else (u j.bX:Int)
theorem P4 (s:bd) (t:eF s) (aF:cH s.bE s.pl.l=0) (j:cR) (D:gQ j) :aU 52 [.af (bz s),.af (dG j)] (.int .u8 (eI s j)):=by
 apply a2 func52 [];have Q:=fe s;have J:=nK D;have ax:am (bt s.bE s.pl)=true:=by simp[bt,am,U.ar,fT]
 have aC:bD (.Z 45) (cg s.pl)=_:=b9 _;have aD:bD (.Z 32) (ah s.ay.az)=_:=b9 _;have aS:=t.ay.no;have av:=bO s.ay.az;have C:=Y4 s.bE s.pl t.pl (by have:=t.len;omega) j.id D.id;have aB:y1 s.bE s.pl.l j.id=.aX [.bool (decide (j.id∈s.pl.l.map aA.id)),.i6 0]:=by unfold y1;rw[ak aF]
 rw[aB] at C;obtain⟨R,K⟩:=al (decide (j.id∈s.pl.l.map aA.id));rw[<-K] at C;have P:=B8 s t j.op D.op;have aE:bD (.Z 32) (ah (eC (da s.ay.az.l j.op)))=some (.i6 ((da s.ay.az.l j.op).length)):=by
  have:(eC (da s.ay.az.l j.op)).l.length=(da s.ay.az.l j.op).length:=by rw[kj]
  simp[ah,this]
 have W:=qe s.ay.az t.ay.az F j.id D.id;have O:=cG j.id;have X:=dt j.op;have Y:(u j.bX:Int)=0<->j.bX=0:=hZ j.bX 0;obtain⟨aR,aq⟩:=al (bz s);obtain⟨L,ap⟩:=al (dG j);obtain⟨aQ,V⟩:=al (aw j.op);obtain⟨aO,T⟩:=al (ao j.id);rw[<-aq] at Q P ⊢;rw[<-ap] at J ⊢;rw[<-T] at C W O;rw[<-V] at P X;obtain⟨q,aG,a8,aL,a5,a7,a3,a1,a0,a6,aj,aM,a4,aJ,aI,aK,aH⟩:=Q;obtain⟨v,aW,ag,ae,jg,aY,aZ,aT,aV⟩:=J;rw[<-V] at ae;rw[<-T] at jg;simp[q,aL,v,jg];refine au C (by simp[am,U.ar,ax,O]) ?_;simp[q,aG,v,ae];refine au P (by simp[am,U.ar,aH,X]) ?_;simp[aE,v,ag];by_cases h1:j.bX=0
 ·have G:=Y.2 h1;have o:eI s j=(if s.ds then 9 else if j.id∈s.ay.az.l\/j.id∈s.pl.l.map aA.id then 5
   else if da s.ay.az.l j.op=[] then (if (s.ay.az.l.length:Int)=s.ay.cap then 8 else 1)
   else if (s.pl.l.length:Int)<s.bE then 6 else 7):=by unfold eI;rw[ak h1]
  simp[G,q,aJ];cases S:s.ds with
  | true=>
   simp;exact aP (by rw[o,ak S]) rfl
  | false=>
   have p:¬ s.ds=true:=by rw[S];simp
   by_cases w:j.id∈s.pl.l.map aA.id
   ·have I:R=true:=by rw[K,b7 w]
    simp[I];exact aP (by rw[o,ai p,ak (.inr w)]) rfl
   ·have I:R=false:=by rw[K,cu w]
    simp[I,q,aj,v,jg];refine au W (by simp[am,U.ar,av,O]) ?_;by_cases B:j.id∈s.ay.az.l
    ·simp[B];exact aP (by rw[o,ai p,ak (.inl B)]) rfl
    ·have z:¬ (j.id∈s.ay.az.l\/j.id∈s.pl.l.map aA.id):=by rintro (h | h);exact B h;exact w h
     simp[B];by_cases m:da s.ay.az.l j.op=[]
     ·have H:¬ 0<(da s.ay.az.l j.op).length:=by rw[m];simp
      simp[m,q,aj,aI,aD];by_cases g:(s.ay.az.l.length:Int)=s.ay.cap
      ·simp[g];exact aP (by rw[o,ai p,ai z,ak m,ak g]) rfl
      ·simp[g];exact aP (by rw[o,ai p,ai z,ak m,ai g]) rfl
     ·have H:0<(da s.ay.az.l j.op).length:=qp.2 m;simp[H,q,aM,aK,aC];by_cases g:(s.pl.l.length:Int)<s.bE
      ·simp[g];exact aP (by rw[o,ai p,ai z,ai m,ak g]) rfl
      ·simp[g,H];exact aP (by rw[o,ai p,ai z,ai m,ai g]) rfl
 ·have G:¬ (u j.bX:Int)=0:=fun h=>h1 (Y.1 h)
  simp[G,v,ag];exact aP (by unfold eI;rw[ai h1]) rfl
theorem Qg (s:bd) (v:eF s) (j:cR) (C:gQ j) :aU 58 [.af (bz s),.af (dG j)] (.int .u8 (eI s j)):=by
 apply a2 func58 [];have O:=fe s;have J:=nK C;have ax:am (bt s.bE s.pl)=true:=by simp[bt,am,U.ar,fT]
 have aC:bD (.Z 45) (cg s.pl)=_:=b9 _;have aD:bD (.Z 32) (ah s.ay.az)=_:=b9 _;have aQ:=v.ay.no;have T:=bO s.ay.az;have G:=aJ.nX s.bE s.pl v.pl (by have:=v.len;omega) j.id C.id;obtain⟨aE,aB⟩:=al (dH j.id (s.pl.l.map aA.id) 0);have I:=lr j.id (s.pl.l.map aA.id) 0;rw[<-aB] at G I;have Y:=B7 s.ay.az v.ay.az F j.op C.op;have W:bD (.Z 32) (ah (eC (da s.ay.az.l j.op)))=some (.i6 ((da s.ay.az.l j.op).length)):=by
  have:(eC (da s.ay.az.l j.op)).l.length=(da s.ay.az.l j.op).length:=by rw[kj]
  simp[ah,this]
 have V:=z2 s.ay.az v.ay.az F j.id C.id;have H:=cG j.id;have ae:=dt j.op;have ag:(u j.bX:Int)=0<->j.bX=0:=hZ j.bX 0;obtain⟨aO,av⟩:=al (bz s);obtain⟨L,aq⟩:=al (dG j);obtain⟨aM,S⟩:=al (aw j.op);obtain⟨aL,R⟩:=al (ao j.id);rw[<-av] at O ⊢;rw[<-aq] at J ⊢;rw[<-R] at G V H;rw[<-S] at Y ae;obtain⟨t,aY,a8,aI,a5,a7,a3,a1,a0,a6,K,aK,a4,aG,aF,aH,aZ⟩:=O;obtain⟨w,aT,ap,aj,jg,aV,aW,aR,aS⟩:=J;rw[<-S] at aj;rw[<-R] at jg;simp[w,ap];by_cases h1:j.bX=0
 ·have D:=ag.2 h1;have o:eI s j=(if s.ds then 9 else if j.id∈s.ay.az.l\/j.id∈s.pl.l.map aA.id then 5
   else if da s.ay.az.l j.op=[] then (if (s.ay.az.l.length:Int)=s.ay.cap then 8 else 1)
   else if (s.pl.l.length:Int)<s.bE then 6 else 7):=by unfold eI;rw[ak h1]
  simp[D,t,aG];cases P:s.ds with
  | true=>
   simp;exact aP (by rw[o,ak P]) rfl
  | false=>
   have p:¬ s.ds=true:=by rw[P];simp
   simp[t,K,w,jg];refine au V (by simp[am,U.ar,T,H]) ?_;by_cases q:j.id∈s.ay.az.l
   ·simp[q];exact aP (by rw[o,ai p,ak (.inl q)]) rfl
   ·simp[q,t,aI,w,jg];refine au G (by simp[am,U.ar,ax,H]) ?_;by_cases z:0<=aE
    ·simp[q,z];exact aP (by rw[o,ai p,ak (.inr (I.1 z))]) rfl
    ·have B:¬ (j.id∈s.ay.az.l\/j.id∈s.pl.l.map aA.id):=by rintro (h | h);exact q h;exact z (I.2 h)
     simp[q,z,t,K,w,aj];refine au Y (by simp[am,U.ar,T,ae]) ?_;by_cases m:da s.ay.az.l j.op=[]
     ·have Q:¬ 0<(da s.ay.az.l j.op).length:=by rw[m];simp
      have X:=W;rw[m] at X;simp[X,m,t,K,aF,aD];by_cases g:(s.ay.az.l.length:Int)=s.ay.cap
      ·simp[g];exact aP (by rw[o,ai p,ai B,ak m,ak g]) rfl
      ·simp[g];exact aP (by rw[o,ai p,ai B,ak m,ai g]) rfl
     ·have Q:0<(da s.ay.az.l j.op).length:=qp.2 m;simp[W,Q,t,aK,aH,aC];by_cases g:(s.pl.l.length:Int)<s.bE
      ·simp[g];exact aP (by rw[o,ai p,ai B,ai m,ak g]) rfl
      ·simp[g];exact aP (by rw[o,ai p,ai B,ai m,ai g]) rfl
 ·have D:¬ (u j.bX:Int)=0:=fun h=>h1 (ag.1 h)
  simp[D,w,ap];exact aP (by unfold eI;rw[ai h1]) rfl
open cl aJ
structure Nl (s:cW) (k:Nat) (sgZ:aS) (L:ae) :Prop where
 e5:sgZ 1=.ptr 0 0 5
 hP:sgZ 2=.ptr 1 0 5
 CB:sgZ 26=.int .i64 s.aD.aj.l.length
 CC:sgZ 27=.int .i64 k
 z:L[1]?=some (.cells 5 [.int .i64 0,.ad,.ad,.int .i64 0,.ad])
 st:∃ g,sgZ 25=g/\L[0]?=some (.cells 5 [.int .i64 s.cap,g,ah s.aD.bI,.int .i64 s.aD.bN,ah s.az])/\oq s.aD.aj k 2 g L
theorem P0 (s:cW) (w:hK s) :aU 92 [.af (bw s)] (.af (bw s)):=by
 apply a2 func92 [cT 0 6++[[7],[6,2]]];have ca:=w.no;have aJ:=bO s.aD.bI;have aK:=bO s.az;have bL:=fi s.aD.bI;have bQ:=fi s.az;have bc:=l4 s.aD.bI w.aD.bI w.aD.nQ;have bf:=l4 s.az w.az F;simp[bw];refine au bf (by simp[am,aK]) ?_;simp[bQ,av];refine au bc (by simp[am,aJ]) ?_;simp[bL,av];refine GZ s.aD.aj (by have:=w.aD.ka;omega) fun aA bZ dU aS=>?_
 have bn:=aS.bD;simp[dU,av,bn];refine bB s.aD.aj.l.length (Nl s) ?_ ⟨V,V,V,V,V,aA,V,V,⟨?_⟩⟩
 ·rintro k m L hk ⟨D,G,I,J,z,aA,H,T,X⟩;obtain⟨m,rfl⟩:=gu D G H I J;clear D G H I J;have a3:IntKind.i64.wrap ((k:Int)+1)=((k+1:Nat) :Int):=by rw[IntKind.wrap_i64];have:=w.aD.ka;omega
  by_cases v:k<s.aD.aj.l.length
  ·rcases X.ex with ⟨ao,_⟩ | ⟨t,u,bT,bU,rfl,ay,bV⟩
   ·rw[ao] at v;simp at v
   ·obtain⟨p,bs,bt⟩:=aQ v;have ag:dp s.aD.aj.l k=p:=dq bs;have P:=(w.aD.aj p bt).1;have aL:=hv (lB (ps:=s.aD.aj.l) (wk:=u) (k:=k));rw[p6] at aL;have ap:=sJ (wk:=u) (k:=k) v;rw[ai F,ag] at ap;have a0:((hc s.aD.aj.l u k).flatten.drop (k*2)).take 2=bb p:=Cu lB ap;have bd:=l4 p.idsZ P.idsZ P.li;have a8:=bO p.idsZ;have bM:=fi p.idsZ;have aI:(bb p).length=2:=rfl;have bG:av [U.ad,.ad] 0 (bb p)=bb p:=cD rfl;have bX:∀ (C:ae) (c:Nat) (b:aq),L[c]?=some b->(L++C)[c]?=some b:=fun C c b O=>by rw[aV (a1 O)];exact O
    have a7:∀ h,(bb p)[1]'h=bA p.opsZ:=fun _=>rfl
    have b2:(bb p)[0]?=some (ah p.idsZ):=rfl;simp[v,ay,a0,aI,bG,aL,a7];refine⟨F,?_⟩;refine B1 p.opsZ P.jh fun w' C bR W=>?_
    have bo:=W.bD;have cb:=P.jh;simp[bo];obtain⟨FX,K⟩:=al (L++aq.cells 2 (bb p) ::C);have a5:L++[aq.cells 2 (bb p)]++C=FX:=by rw[K];simp
    rw[a5] at W;rw[<-K];refine bB p.opsZ.l.length (fun q m B=>B=FX/\m 1=.ptr 0 0 5/\m 2=.ptr 1 0 5/\m 3=.int .i64 k/\m 4=.ptr L.length 0 2/\m 5=w'/\m 25=.Z 2 t 0 s.aD.aj.l.length s.aD.aj.l.length (s.aD.aj.l.length*2)/\m 26=.int .i64 s.aD.aj.l.length/\m 27=.int .i64 k/\m 36=.int .i64 p.opsZ.l.length/\m 37=.int .i64 q) ?_ ⟨rfl,V,V,V,V,V,V,V,V,V,V⟩;rintro q m B cc ⟨rfl,D,G,aC,aG,aH,H,I,J,aE,aF⟩;obtain⟨m,rfl⟩:=Mo D G aC aG aH H I J aE aF;clear D G aC aG aH H I J aE aF;have a4:=ci (k:=q) F;by_cases Q:q<p.opsZ.l.length
    ·obtain⟨o,bq,br⟩:=aQ Q;rcases W with ⟨ao,_⟩ | ⟨b,b3,b4,rfl,Y⟩
     ·rw[ao] at Q;simp at Q
     ·have aO:=P.opsZ o br;have bg:=bO o.ax;have a9:=l4 o.ax aO.idsZ aO.len;have z:∀ e∈p.opsZ.l.map aw,e.length=11:=fun e bh=>by obtain⟨y,_,rfl⟩:=cE.1 bh;rfl
      have ak:(p.opsZ.l.map aw)[q]?=some (aw o):=by rw[b0,bq];rfl
      have bi:(p.opsZ.l.map aw).flatten[q*11+1]?=some (ah o.ax):=ln z ak F;have bF:av (p.opsZ.l.map aw).flatten (q*11+1) [ah o.ax]=(p.opsZ.l.map aw).flatten:=by
       rw[pH z ak (show 1+[ah o.ax].length<=11 by simp),w1 o,Eu ak]
      have mp:=fi o.ax;have b7:=wg p.opsZ.l;have bH:=uO Y;simp[Q,Y,bi];refine au a9 (by simp[am,bg]) ?_;simp[Q,Y,bF,mp,a4,bH];omega
    ·have bv:q=p.opsZ.l.length:=F;subst bv;have b8:=a1 ay;have R:∀ (c:Nat) (b:aq),L[c]?=some b->B[c]?=some b:=fun c b O=>by rw[K,aV (a1 O)];exact O
     have bS:B[L.length]?=some (.cells 2 (bb p)):=by rw[K];simp
     have bz:av (hc s.aD.aj.l u k).flatten (k*2) [ah p.idsZ,w']=(hc s.aD.aj.l (fun i=>if i=k then w' else u i) (k+1)).flatten:=by
      have t1:=pH lB ap (j:=0) (vs:=[ah p.idsZ,w']) V;rw[nm,show av (bb p) 0 [ah p.idsZ,w']=[ah p.idsZ,w'] from rfl] at t1;rw[t1,<-ag,K2 v]
     have a6:∀ h,(bb p)[0]'h=ah p.idsZ:=fun _=>rfl
     simp[R _ _ T,bS,aI,a6];refine au bd (by simp[am,a8]) ?_;have b5:(hc s.aD.aj.l (fun i=>if i=k then w' else u i) (k+1)).flatten.length=s.aD.aj.l.length*2:=by rw[hv lB,p6]
     have bC:av [U.ad,.ad] 0 [ah p.idsZ]=[ah p.idsZ,.ad]:=rfl;have bE:av [ah p.idsZ,U.ad] 1 [w']=[ah p.idsZ,w']:=rfl;simp[R _ _ T,R _ _ ay,bC,bE,bM,bR,v,bz,a3];have b9:L.length<=B.length:=by rw[K];simp
     obtain⟨aT,S⟩:=al (aq.cells (s.aD.aj.l.length*2) (hc s.aD.aj.l (fun i=>if i=k then w' else u i) (k+1)).flatten);have ar:∀ (c:Nat) (b:aq),c≠t->L[c]?=some b->(B.set t aT)[c]?=some b:=fun c b h1 g=>by
      rw[bj (fun e=>h1 e.symm)];exact R c b g
     refine⟨F,V,V,V,V,by rw[<-S];exact ar _ _ F z,_,V,by rw[<-S];exact ar _ _ F T,⟨.inr ⟨t,fun i=>if i=k then w' else u i,bT,bU,rfl,bY F,fun i bk bl=>?_⟩⟩⟩;by_cases aM:i=k
     ·subst aM;simp only[if_true];rw[ag,<-S];refine (W.frame fun b h1 g=>?_).mono (by simp;omega);rw[bj (by simp at h1;omega)]
     ·simp only[ai aM];rw[<-S];exact (bV i F bl).frame fun b h1 g=>by
       obtain⟨y,aP,_⟩:=aQ g;rw[aP];exact ar b y F aP
  ·have bm:k=s.aD.aj.l.length:=F;subst bm;have cd:=X.cells;have bK:=a1 z;have bW:∀ c:aq,(L.set 1 c)[1]?=some c:=fun c=>bY bK
   simp[T,z,av,bW];have bx:=(X.frame (L':=L.set 1 (aq.cells 5 [U.int .i64 s.cap,aA,ah s.aD.bI,.int .i64 s.aD.bN,ah s.az])) fun b h1 g=>bj F).rd;refine .af _ _ rfl fun i c b1 h1 g=>?_
   rcases i with _ | _ | _ | _ | _ | i
   ·simp[bw] at h1 g;subst h1 g;exact .same _ rfl
   ·simp[bw] at h1 g;subst h1 g;exact bx
   ·simp[bw] at h1 g;subst h1 g;exact .same _ aJ
   ·simp[bw] at h1 g;subst h1 g;exact .same _ rfl
   ·simp[bw] at h1 g;subst h1 g;exact .same _ aK
   ·simp at h1
 ·rcases aS with ⟨bp,bJ⟩ | ⟨t,aB,aW,aY,aZ⟩
  ·exact .inl ⟨bp,bJ⟩
  ·refine .inr ⟨t,fun _=>.ad,by simp at aB;omega,aW,aY,?_,fun i bk=>F⟩;rw[K3];obtain⟨aR,rfl⟩:∃ aR,t=aR+2:=⟨t - 2,by simp at aB;omega⟩
   simpa using aZ
open cl aJ
def gq (s:bd) :bd:=⟨dY s.ay,s.bE,c2 (s.pl.l.map aJ.bl),s.bH,s.ds⟩
theorem B9 (s:bd) (h:eF s) :aU 11 [.af (bz s)] (.af (bz (gq s))):=by
 apply a2 func11 [[[0],[1],[3],[4]]++cT 6 4++[[2,9,7,4],[5,9,7]]];have t:=fe s;have F:=g7 s.ay;have D:am (bt s.bE s.pl)=true:=by simp[bt,am,U.ar,fT]
 have u:=Wc s.ay h.ay;have j:=Yn s.bE s.pl h.pl (by have:=h.len;omega);have C:bz (gq s)=[.i6 (dY s.ay).cap,dn (dY s.ay).aD.aj,ah (dY s.ay).aD.bI,.i6 (dY s.ay).aD.bN,ah (dY s.ay).az,.i6 s.bE,cg (c2 (s.pl.l.map aJ.bl)),.i6 s.bH,.bool s.ds]:=rfl;have g:=hN (gq s);rw[C] at g ⊢;obtain⟨Q,z⟩:=al (c2 (s.pl.l.map aJ.bl));rw[<-z] at j g ⊢;obtain⟨H,B⟩:=al (bz s);rw[<-B] at t ⊢;obtain⟨o,I,G,q,S,X,R,P,K,V,T,Y,p,m,O,W,J⟩:=t;have v:bw (dY s.ay)=[.i6 (dY s.ay).cap,dn (dY s.ay).aD.aj,ah (dY s.ay).aD.bI,.i6 (dY s.ay).aD.bN,ah (dY s.ay).az]:=rfl;rw[v] at u;have w:bt s.bE Q=[.i6 s.bE,cg Q]:=rfl;rw[w] at j;simp[o,G,q,p,m];refine au u (by simp[am,U.ar,F]) ?_;simp[o,q,p,m];refine au j (by simp[am,U.ar,D]) ?_;simp[o,q,p,m,av];exact .same _ (by simpa [U.ar] using g)
def oF (s:List B) :List UInt8:=s.map fun x=>UInt8.ofNat x.toNat
theorem Hj:∀ {a b:List B},oF a=oF b->a=b
 | [],[],_=>rfl
 | [],_::_,h=>by simp[oF] at h
 | _::_,[],h=>by simp[oF] at h
 | x::a,y::b,h=>by
  simp only[oF,dg,List.cons.injEq] at h;have h1:=ch UInt8.toNat h.1;simp only[FP] at h1;have g:=x.isLt;have j:=y.isLt;rw[Hj (a:=a) (b:=b) h.2,eZ (x:=x) (y:=y) F]
theorem Qe (a b:List B) :(oF a=oF b)<->a=b:=⟨Hj,fun h=>by rw[h]⟩
theorem Hh:∀ a:List B,jZ (a.map a7)=some (oF a)
 | []=>rfl
 | x::a=>by
  simp only[dg,jZ,Hh a,cA];simp[u,oF]
theorem Hi {l:ae} {b:Nat} {x:List B} (j:x.length=32) (h:l[b]?=some (.q 32 (ao x))) :pA l (.Z 1 b 0 32 32 32)=some (.str (oF x)):=by
 have m:=bo j;have g:cq l 1 (.Z 1 b 0 32 32 32)=some (x.map a7,32):=by
  have:ao x=x.map a7:=rfl;rw[<-this];simp[cq,h,m,aI]
 unfold pA;simp only[g,Hh];rfl
theorem P1 {l:ae} {a b:Nat} {x y:List B} (j:x.length=32) (m:y.length=32) (h1:l[a]?=some (.q 32 (ao x))) (g:l[b]?=some (.q 32 (ao y))) {K:cB} (h:K (.bool (decide (x=y))) l) :
  cM 90 [.Z 1 a 0 32 32 32,.Z 1 b 0 32 32 32] l K:=by apply c1 func90 [];simp[Hi j h1,Hi m g,Qe];exact h
def fz (k:Nat) :List B:=List.replicate k 1#8++List.replicate (32 - k) 0#8
theorem zD {k:Nat} (h:k<=32) :(fz k).length=32:=by unfold fz;simp;omega
theorem Qh (x:List B) (h:x.length=32) {bi:Nat} {l:ae} {xs:aR} (m:∀ y∈xs,y.length=32) (h1:l[bi]?=some (.q 32 (ao x))) :
  tl 89 [.ptr bi 0 32] l xs (fun y=>decide (y=x)):=by
 intro y j o v D t;apply c1 func89 [];have g:o[bi]?=some (.q 32 (ao x)):=by rw[v.2 _ (a1 h1)];exact h1
 have w:=a1 g;have p:∀ c:aq,(o++[c])[bi]?=some (.q 32 (ao x)):=fun c=>by rw[aV w];exact g
 have z:=bo (m y j);have G:=bo h;have C:∀ b:Nat,dw (.arr 32 1) (.ptr b 0 32) none none none=some (.Z 1 b 0 32 32 32):=fun b=>uR F
 simp[z,C];refine P1 (m y j) h V (p _) ?_;simp;exact t _ ⟨V,fun b u=>aV u⟩
open cl aJ
theorem Jk (k:Nat) :(fz k).count 1#8=k:=by unfold fz;rw[vg,List.count_replicate_self,List.count_replicate];simp
theorem TU {a b:Nat} (h:fz a=fz b) :a=b:=by rw[<-Jk a,h,Jk]
theorem TT {m:aR} (u:m.length<=32) {k:Nat} (hk:k<=32) (h:∀ j,j<k->fz j∈m) (g:fz k∈m) :k<32:=by
 refine Classical.byContradiction fun v=>?_
 have e:k=32:=F;subst e;have p:((List.range 33).map fz).Nodup:=by
  rw[List.Nodup,nj];exact (Bl).imp fun q e=>q (TU e)
 have:=wU p fun x t=>by
  obtain⟨j,o,rfl⟩:=cE.1 t;rw[g3] at o;by_cases e:j=32
  ·subst e;exact g
  ·exact h j F
 simp at this;omega
theorem TV {k:Nat} (h:k<32) :av (ao (fz k)) k [.int .u8 1]=ao (fz (k+1)):=by
 have g:k<(ao (fz k)).length:=by rw[bo (zD F)];exact h
 rw[nZ _ g];unfold ao fz;apply g1;intro i;by_cases e:k=i
 ·subst e;rw[bY (by simpa [ao,fz] using g),b0,aV V];simp;rfl
 ·rw[bj e,b0,b0];congr 1;by_cases h1:i<k
  ·rw[aV (by simp;omega),aV (by simp;omega)];simp[h1,show i<k+1 by omega]
  ·rw[eu (by simp;omega),eu (by simp;omega)];simp only[List.length_replicate];rw[Bj,Bj];by_cases j:i<32
   ·rw[ak F,ak F]
   ·rw[ai F,ai F]
theorem TS {k:Nat} (h:k<32) :(ao (fz k))[k]?=some (.int .u8 0):=by unfold ao fz;rw[b0,eu V];simp[show 0<32 - k by omega]
theorem Tr {c:Int} {l:List aA} (h:cH c l=0) :(mR l).l.length<=32/\(allM l).length<=32:=by
 obtain⟨h1,g⟩:=nV h;have j:=((pK l).1 g).1;have o:=On (n:=4) fun s m=>Tu (j s m)
 have p:=Tq l;have:l.length<=8:=F;omega
structure Nu (s:bd) (m:b2) (k:Nat) (sgZ:aS) (L:ae) :Prop where
 e5:sgZ 1=.ptr 0 0 9
 hP:sgZ 2=.ptr 1 0 9
 hQ:sgZ 3=.ptr 2 0 32
 iq:sgZ 4=ah m
 lo:sgZ 6=.i6 k
 nT:L[0]?=some (.q 9 (bz s))
 mY:L[1]?=some (.q 9 [.i6 0,.ad,.ad,.i6 0,.ad,.i6 0,.ad,.i6 0,.bool false])
 jH:L[2]?=some (.q 32 (ao (fz k)))
 hm:∀ j,j<k->fz j∈m.l
def hY (s:bd) :bd:=⟨s.ay,s.bE,c2 s.pl.l,s.bH,s.ds⟩
theorem Hk (s:bd) (o:eF s) (j:cH s.bE s.pl.l=0) :aU 46 [.af (bz s)] (.af (bz (hY s))):=by
 apply a2 func46 [];have W:=fe s;have aZ:=g7 s.ay;have ax:am (bt s.bE s.pl)=true:=by simp[bt,am,U.ar,fT]
 obtain⟨aB,bv⟩:=Tr j;have bs:=o.len;have I:=Y8 s.bE s.pl o.pl F F;rw[show zs s.bE s.pl.l=.aX [ah (mR s.pl.l),.i6 0] by unfold zs;rw[ak j]] at I;have H:c5 (mR s.pl.l):=fun y K=>by
  obtain⟨x,J,bc⟩:=(I6 _ _).1 K;exact (o.pl x J).a6 y bc
 obtain⟨p,aE⟩:=al (mR s.pl.l);rw[<-aE] at I H aB;have a3:fJ prog 89=true:=bn;obtain⟨z,h⟩:=al (bz s);rw[<-h] at W ⊢;obtain⟨aL,bC,bV,aM,bO,bT,bL,bJ,bF,bR,bQ,bU,bM,bK,bG,bS,bD⟩:=W;have bf:av (bZ 32 (.int .u8 0)) 0 (bZ 32 (.int .u8 0))=ao (fz 0):=rfl;have bg:(bZ 32 (.int .u8 0) :ag).length=32:=rfl;have bA:(bZ 32 (.int .u8 0) :ag)=ao (fz 0):=rfl;simp[aL,aM,bf,bg];refine au I (by simp[am,U.ar,ax]) ?_;simp;refine bB 32 (Nu s p) ?_ ⟨V,V,V,V,V,by simp[h],V,V,fun O a5=>F⟩;rintro k bk L hk ⟨X,Y,ae,ai,ap,P,aK,R,aC⟩;obtain⟨bk,rfl⟩:=gu X Y ae ai ap;clear X Y ae ai ap;rw[<-h] at P;simp;refine yz p H F a3 (Qh (fz k) (zD hk) H R) fun g D=>?_
 have v:g[0]?=some (.q 9 z):=by rw[D.2 _ (a1 P)];exact P
 have q1:g[1]?=some (.q 9 [.i6 0,.ad,.ad,.i6 0,.ad,.i6 0,.ad,.i6 0,.bool false]):=by rw[D.2 _ (a1 aK)];exact aK
 have w:g[2]?=some (.q 32 (ao (fz k))):=by rw[D.2 _ (a1 R)];exact R
 have aF:=bo (zD hk);by_cases m:fz k∈p.l
 ·have G:=TT aB hk aC m;have t:p.l.any (fun y=>decide (y=fz k))=true:=s8.2 ⟨_,m,V⟩;have a7:cz .rem .i64 (k:Int) .i64 32=some (.i6 k):=by
   have:(k:Int).tmod 32=k:=Int.tmod_eq_of_lt F F;simp[cz,this]
  have aR:=ci (k:=k) F;have aw:=TS G;have aG:=TV G;obtain⟨N,aT⟩:=al (ao (fz k));rw[<-aT] at w aw aG aF;simp[t,a7,w,aw,aR,G];have bb:U.int .u8 (u (1#8:B))=.int .u8 1:=rfl;rw[bb,aG];have bi:∀ c:aq,(g.set 2 c)[2]?=some c:=fun c=>bY (a1 w)
  refine⟨F,F,V,V,V,V,V,?_,?_,bi _,fun O a5=>?_⟩
  ·rw[bj F,<-h];exact v
  ·rw[bj F];exact q1
  ·by_cases e:O=k
   ·subst e;exact m
   ·exact aC O F
 ·have t:p.l.any (fun y=>decide (y=fz k))=false:=by
   rw[Bf];intro y K;simp;intro e;exact m (e ▸ K)
  have C:=Y0 s.bE s.pl o.pl F (fz k) (zD hk);obtain⟨aQ,bq⟩:=PL (x:=fz k) ((pK s.pl.l).1 (nV j).2).1 fun x J a4=>m (by rw[aE];exact (I6 _ _).2 ⟨x,J,a4⟩)
  rw[PJ,ak j,ak j,ak j,aQ] at C;have aV:(ao (fz k)).take 32=ao (fz k):=aI F;have a0:=cG (fz k);have aS:bt s.bE (c2 s.pl.l)=[.i6 s.bE,cg (c2 s.pl.l)]:=rfl;rw[aS] at C;have aY:=P0 s.ay o.ay;have br:z=[.i6 s.ay.cap,dn s.ay.aD.aj,ah s.ay.aD.bI,.i6 s.ay.aD.bN,ah s.ay.az,.i6 s.bE,cg s.pl,.i6 s.bH,.bool s.ds]:=h;simp[t,v,w,aL,aM,aF,aV];refine au C (by simp[am,U.ar,ax,a0]) ?_;have aH:av z 5 [U.i6 s.bE,cg (c2 s.pl.l)]=bz (hY s):=by rw[h];rfl
  have aP:∀ c:aq,(g.set 0 c)[0]?=some c:=fun c=>bY (a1 v)
  have bm:∀ c:aq,(g.set 0 c)[1]?=some (.q 9 [.i6 0,.ad,.ad,.i6 0,.ad,.i6 0,.ad,.i6 0,.bool false]):=fun c=>by rw[bj F];exact q1
  have Q:=fe (hY s);have aA:=hN (hY s);have aJ:av (bz (hY s)) 0 (bw s.ay)=bz (hY s):=rfl;have a9:(hY s).ay=s.ay:=rfl;obtain⟨T,aW⟩:=al (bz (hY s));rw[<-aW] at aH aJ aA Q ⊢;obtain⟨S,bl,aO,_⟩:=Q;rw[a9] at aO;have a8:(bw s.ay).length=5:=rfl;have bx:(bw s.ay).take 5=bw s.ay:=rfl;simp[t,v,aH,aP,S,aO];refine au aY (by simp[am,U.ar,aZ]) ?_;have bh:av [U.i6 0,.ad,.ad,.i6 0,.ad,.i6 0,.ad,.i6 0,.bool false] 0 T=T:=cD (by rw[S];rfl);have bp:∀ c d:aq,((g.set 0 c).set 1 d)[1]?=some d:=fun c d=>bY (by simpa using a1 q1)
  simp[aP,bm,bp,S,bl,a8,aJ,bh];exact .same _ aA
end Op
theorem Pe {P:bp} {G:Nat->U} {f:cj} {args:ag} {h h' oL:aM} {cs cs' : ag} (C:jU P G f args h (.aX cs) h') (wk:iO h' oL) (H:cs'.length=cs.length)
  (J:∀ (j:Nat) (c c' : U),cs[j]?=some c->cs'[j]?=some c'->iN h' oL c c') :jU P G f args h (.aX cs') oL:=by
 intro u B w muZ o rel z I K;refine (C u B w muZ o rel z I K).mono ?_;rintro e w' ⟨m,muZ',rfl,v,t,g⟩;refine⟨m,muZ',rfl,v.trans (wk.ext w' muZ'),wk.rel t,?_⟩;cases g with
 | aX _ o O g=>
  refine .aX cs' o F fun j c' m p D=>?_
  have q:j<cs.length:=by rw[<-H];exact (aL.1 p).1
  exact wk.k3 t (J j cs[j] c' (bM q) p) (g j cs[j] m (bM q) D)
theorem Pb {P:bp} {G:Nat->U} (u:P.follows .mixedOrders=true) (o:∀ g,(G g).ar=true) {f:cj} {args:ag} {l:ae} {K:cB}
  (h:fR P G f args l (c:=⟨fun r l'=>∃ cs cs' m,r=.aX cs/\iO (aZ l') (aZ m)/\cs'.length=cs.length/\(∀ (j:Nat) (c c' : U),cs[j]?=some c->cs'[j]?=some c'->iN (aZ l') (aZ m) c c')/\l.length<=m.length/\K (.aX cs') m⟩)) :fR P G f args l (c:=⟨K⟩):=by obtain⟨r,l',p,z,cs,cs',m,rfl,w,q,v,t,hk⟩:=h;exact⟨.aX cs',m,.ext (Pe (sO u o p) w q v),t,hk⟩
namespace Op.aJ
open cl Op
structure Nv (c:Int) (s:ek) (x:List B) (gM:Nat) (l0:ae) (k:Nat) (fg:U) (l:ae) :Prop where
 nT:l[gM]?=some (.q 2 (bt c s))
 mY:l[gM+1]?=some (.q 32 (ao x))
 jH:l[gM+2]?=some (.q 2 [.i6 0,.ad])
 ex:∃ g h j,l[gM+3]?=some (.q 2 [.i6 c,g])/\aH 45 l fg h ((c0 x (s.l.take k)).map aO)/\aH 45 l g j ((cP x (s.l.take k)).map aO)/\(fg=.ad\/gM+4<=h)/\(g=.ad\/gM+4<=j)/\(fg=.ad\/g=.ad\/h≠j) ∧
  bq fg=(c0 x (s.l.take k)).isEmpty/\bq g=(cP x (s.l.take k)).isEmpty
 len:gM+4<=l.length
 yZ:∀ b,b<gM->l[b]?=l0[b]?
structure Nw (c:Int) (s:ek) (x:List B) (gM:Nat) (l0:ae) (k:Nat) (sgZ:aS) (l:ae) :Prop where
 hP:sgZ 2=.ptr gM 0 2
 hQ:sgZ 3=.ptr (gM+1) 0 32
 iq:sgZ 4=.ptr (gM+2) 0 2
 oI:sgZ 8=.ptr (gM+3) 0 2
 H4:sgZ 22=cg s
 H5:sgZ 23=.i6 s.l.length
 Rt:sgZ 24=.i6 k
 h:∃ fg,sgZ 9=fg/\Nv c s x gM l0 k fg l
theorem Y1 (c:Int) (s:ek) (bs:fr s.l) (bW:s.l.length<=1000000) (x:List B) (bx:x.length=32) (bG:cH c s.l=0) {l0:ae} {K:cB}
  (az:∀ C u t v l',l0.length<=l'.length->(∀ b,b<l0.length->l'[b]?=l0[b]?)->aH 45 l' C t ((c0 x s.l).map aO)->aH 45 l' u v ((cP x s.l).map aO)->(C=.ad\/l0.length<=t)->(u=.ad\/l0.length<=v)->(C=.ad\/u=.ad\/t≠v)->bq C=(c0 x s.l).isEmpty->bq u=(cP x s.l).isEmpty->K (.aX [.af [.i6 c,u],C,.i6 0]) l') :
  cM 91 [.af (bt c s),.af (ao x)] l0 K:=by
 apply c1 func91 [];have b0:bD (.Z 45) (cg s)=_:=b9 _;have bO:=fT s;have cn:=bo bx;have bM:=u3 c s bs bW;have bN:am [U.af (bt c s)]=true:=by simp[bt,am,U.ar,bO]
 simp[bt,cn];refine au bM bN ?_;simp[bG,b0];obtain⟨j,R⟩:=al (l0.length);rw[<-R] at az ⊢;refine bB s.l.length (Nw c s x j l0) ?_ ⟨V,V,V,V,V,V,V,.ad,V,⟨by rw[R];simp[bt],by rw[R];simp,by rw[R];simp,⟨.ad,0,0,by rw[R];simp,.nil 0,.nil 0,.inl rfl,.inl rfl,.inl rfl,rfl,rfl⟩,by simp[R],fun b o=>aV F⟩⟩;rintro k cy l hk ⟨a4,a9,bb,bc,a5,a7,a8,C,bd,hH⟩;obtain⟨cy,rfl⟩:=AV a4 a9 bb bc bd a5 a7 a8;clear a4 a9 bb bc bd a5 a7 a8;simp;refine fk (fun h=>?_) (fun h=>?_)
 ·simp only[bK] at h;obtain⟨y,aU,cp⟩:=aQ (l:=s.l) (k:=k) F;have S:=bs y cp;have bg:=eQ S;have cc:=EL (x:=x) S;have aA:=eQ cc;have a3:=ci (k:=k) F;have bn:bQ (.Z 45) (cg s) _=_:=c8 aU;have aT:=xw S.id;obtain⟨aZ,aE,aF,⟨u,t,v,ay,ax,J,d1,d2,d3,aC,aD⟩,b1,aB⟩:=hH;obtain⟨n,aR⟩:=al (l.length);have bw:∀ K:cB,(∀ w l',cd 32 ao (l++[aq.q 45 (aO y)]) l' w y.a6.l y.a6.isNone->K (.af (ii y w)) l')->cM 101 [.af (aO y)] (l++[aq.q 45 (aO y)]) K:=fun K az=>EZ y S az
  obtain⟨P,bJ⟩:=al (aO y);rw[<-bJ] at bg bn aT bw;have f1:=bg.len;have cj:=gZ f1;simp[bn,f1,cj,aI,<-aR];refine bw _ fun w aY z=>?_
  have bX:=z.le;have b3:(l++[aq.q 45 P]).length=n+1:=by rw[aR];simp
  rw[b3] at bX;have cr:aY[n]?=some (.q 45 P):=by rw[z.same n F,aR];simp
  have aJ:=aT w;have aK:(ii y w).length=45:=by rw[<-aJ,nZ w F,ko,f1]
  have bh:∀ h:44<(ii y w).length,(ii y w)[44]'h=w:=fun h=>by
   have:(ii y w)[44]?=some w:=by rw[<-aJ,nZ w F,bY F]
   exact (aL.1 this).2
  have bl:∀ m:b2,m=n0 x y.a6->av (ii y w) 44 [ah m]=aO (er x y):=fun m ag=>by
   rw[<-aJ,LC P 44 _ _ F,aT (ah m),ag];rfl
  obtain⟨lQ,bI⟩:=al (ii y w);rw[<-bI] at aK bh bl ⊢;have ck:av P 0 lQ=lQ:=cD (by rw[aK,f1]);have ct:∀ c:aq,(aY.set n c)[n]?=some c:=fun c=>bY F
  simp[cr,aK,ck,ct,bh]
  -- the struck idsZ
  have cb:cd 32 ao ((l++[aq.q 45 P]).set n (.q 45 lQ)) (aY.set n (.q 45 lQ)) w y.a6.l y.a6.isNone:=by
   obtain⟨cq,H,cA,bC,a2,bE⟩:=z;refine⟨cq,H.cx (a2.imp id fun h=>by rw[bj F]),by simp;omega,fun b o=>?_,a2.imp id V,bE⟩;rw[ko] at o;by_cases bL:b=n
   ·rw[bL,bY F,bY F]
   ·rw[bj F,bj F];exact bC b o
  have bk:∀ b,b<n->((l++[aq.q 45 P]).set n (.q 45 lQ))[b]?=l[b]?:=fun b o=>by rw[bj F,aV F]
  refine Hn cb S.a6 S.len x bx (bi:=j+1) (by rw[bk (j+1) F];exact aE) fun m aw bZ bv b4 b5=>?_
  have ag:=LQ b4 b5;have bH:n+1<=aw.length:=by simp at bZ;omega
  have cf:aw[n]?=some (.q 45 lQ):=by rw[bv n (by simp;omega),bY F]
  have ch:∀ b,b<n->aw[b]?=l[b]?:=fun b o=>by rw[bv b (by simp;omega)];exact bk b o
  have b8:(ah m).cells=some [ah m]:=by cases m<;>rfl
  have bf:=bl m ag;have cw:∀ c:aq,(aw.set n c)[n]?=some c:=fun c=>bY F
  have aW:∀ h:44<(aO (er x y)).length,(aO (er x y))[44]'h=ah m:=fun h=>by rw[aA.a6 h,ag];rfl
  have br:bD (.Z 32) (ah m)=_:=b9 _;have ap:=aA.len;obtain⟨O,Y⟩:=al (aw.set n (.q 45 (aO (er x y))));have t5:n+1<=O.length:=by rw[Y];simpa using bH
  have t0:∀ b,b<n->O[b]?=l[b]?:=fun b o=>by rw[Y,bj F];exact ch b o
  have t1:O[n]?=some (.q 45 (aO (er x y))):=by rw[Y];exact cw _
  have a0:aH 45 O C t ((c0 x (s.l.take k)).map aO):=ax.cx (by
   rcases ax.lt with h | h
   ·exact .inl h
   ·exact .inr (t0 t F))
  have a1:aH 45 O u v ((cP x (s.l.take k)).map aO):=J.cx (by
   rcases J.lt with h | h
   ·exact .inl h
   ·exact .inr (t0 v F))
  have bS:(c0 x (s.l.take k)).length<=1000000:=by
   unfold c0;refine dC (g2 _ _) ?_;rw[ce,cL];omega
  have ca:(cP x (s.l.take k)).length<=1000000:=by
   unfold cP;refine dC (g2 _ _) ?_;rw[ce,cL];omega
  have T:=uU (p:=gone) (f:=er x) aU;have I:=uU (p:=fun s=>!gone s) (f:=er x) aU;have Q:gone (er x y)=decide (m.l.length=0):=by
   have e:(er x y).a6=m:=ag.symm;unfold gone;rw[e];cases m.l<;>simp
  obtain⟨cz,aM⟩:=al (aO (er x y));simp only[<-aM] at bf aW ap t1 Y;simp[cf,b8,bf];rw[<-Y];by_cases aj:m.l.length=0
  ·rw[aj,b7 rfl] at Q;rw[Q,ak rfl] at T;rw[Q] at I;simp only[vd,jq,if_false,eJ] at I;obtain⟨W,c3,G,X,H,bF,df,ee,aG⟩:=ov a0 aA.len bS;rw[<-aM] at X;have aS:=gZ ap;simp[t1,ap,aW,br,aj,aS,aI,X];refine bR.bm ?_;have D:∀ b,b<j+4->G[b]?=l[b]?:=fun b o=>by rw[df b F (d1.imp id fun h=>F)];exact t0 b F
   have aP:=a1.lt;have bA:aH 45 G u v ((cP x (s.l.take k)).map aO):=a1.cx (by
    rcases aP with h | h
    ·exact .inl h
    ·rcases d3 with g | g | g
     ·exact .inr (df v h (.inl g))
     ·exact .inl g
     ·exact .inr (df v h (.inr fun e=>g e.symm)))
   simp[a3];refine⟨F,V,V,V,V,V,V,V,W,V,⟨by rw[D j F];exact aZ,by rw[D (j+1) F];exact aE,by rw[D (j+2) F];exact aF,⟨u,c3,v,by rw[D (j+3) F];exact ay,?_,?_,.inr ?_,d2,?_,?_,?_⟩,F,fun b o=>by rw[D b F];exact aB b o⟩⟩
   ·show aH 45 G W c3 ((c0 x (s.l.take (k+1))).map aO);unfold c0 at H ⊢;rw[T];exact H
   ·show aH 45 G u v ((cP x (s.l.take (k+1))).map aO);unfold cP at bA ⊢;rw[I];exact bA
   ·rcases ee with h | ⟨h,h'⟩
    ·omega
    ·rw[h'];exact d1.resolve_left h
   ·right;rcases d3 with g | g | g
    ·rcases aP with z | z
     ·exact .inl z
     ·rcases ee with h | ⟨h,_⟩
      ·exact .inr F
      ·exact bV g h
    ·exact .inl g
    ·rcases aP with z | z
     ·exact .inl z
     ·rcases ee with h | ⟨_,h'⟩
      ·exact .inr F
      ·exact .inr (by rw[h'];exact g)
   ·rw[aG];unfold c0;rw[T];simp
   ·rw[aD];unfold cP;rw[I]
  ·rw[cu aj] at Q;rw[Q,ai V,eJ] at T;rw[Q] at I;simp only[rE,if_true] at I;obtain⟨W,c3,G,X,H,bF,df,ee,aG⟩:=ov a1 aA.len ca;rw[<-aM] at X;have aS:=gZ ap;have t3:O[j+3]?=some (.q 2 [.i6 c,u]):=by rw[t0 (j+3) F];exact ay
   have cm:=J.cells;have cl:=H.cells;have cC:¬ m.l=[]:=fun h=>aj (by rw[h];rfl)
   simp[t1,t3,ap,aW,br,aj,aS,aI,X];refine bR.bm ?_;have D:∀ b,b<j+4->G[b]?=l[b]?:=fun b o=>by rw[df b F (d2.imp id fun h=>F)];exact t0 b F
   have cs:G[j+3]?=some (.q 2 [.i6 c,u]):=by rw[D (j+3) F];exact ay
   have bp:=a0.lt;have bT:j+4<=c3:=by
    rcases ee with h | ⟨h,h'⟩
    ·omega
    ·rw[h'];exact d2.resolve_left h
   have bz:aH 45 G C t ((c0 x (s.l.take k)).map aO):=a0.cx (by
    rcases bp with h | h
    ·exact .inl h
    ·rcases d3 with g | g | g
     ·exact .inl g
     ·exact .inr (df t h (.inl g))
     ·exact .inr (df t h (.inr g)))
   simp[cs,cl,av,a3];refine⟨F,V,V,V,V,V,V,V,C,V,⟨by rw[bj F,D j F];exact aZ,by rw[bj F,D (j+1) F];exact aE,by rw[bj F,D (j+2) F];exact aF,⟨W,t,c3,bY F,?_,?_,d1,.inr bT,?_,?_,?_⟩,by simp;omega,fun b o=>by rw[bj F,D b F];exact aB b o⟩⟩
   ·show aH 45 _ C t ((c0 x (s.l.take (k+1))).map aO);refine (show aH 45 G C t ((c0 x (s.l.take (k+1))).map aO) from ?_).cx (d1.imp id fun h=>by rw[bj F]);unfold c0 at bz ⊢;rw[T];exact bz
   ·show aH 45 _ W c3 ((cP x (s.l.take (k+1))).map aO);refine (show aH 45 G W c3 ((cP x (s.l.take (k+1))).map aO) from ?_).cx (.inr (by rw[bj F]));unfold cP at H ⊢;rw[I];exact H
   ·rcases bp with z | z
    ·exact .inl z
    ·rcases ee with h | ⟨h,h'⟩
     ·exact .inr (.inr F)
     ·rcases d3 with g | g | g
      ·exact .inl g
      ·exact bV g h
      ·exact .inr (.inr (by rw[h'];exact g))
   ·rw[aC];unfold c0;rw[T]
   ·rw[aG];unfold cP;rw[I];simp
 ·simp[h];have bU:k=s.l.length:=by simp at h;omega
  obtain⟨aZ,aE,aF,⟨u,t,v,ay,ax,J,d1,d2,d3,aC,aD⟩,b1,aB⟩:=hH;rw[bU,e0] at ax J aC aD;have cv:∀ c:aq,(l.set (j+2) c)[j+2]?=some c:=fun c=>bY F
  have cm:=J.cells;simp[aF,ay,cv,av];exact az C u t v _ (by simp;omega) (fun b o=>by rw[bj F];exact aB b o) (ax.cx (d1.imp id fun h=>by rw[bj F])) (J.cx (d2.imp id fun h=>by rw[bj F])) (d1.imp id fun h=>F) (d2.imp id fun h=>F) d3 aC aD
theorem MG (c:Int) (s:ek) (G:fr s.l) (D:s.l.length<=1000000) (x:List B) (H:x.length=32) (t:cH c s.l=0) {l0:ae} {K:cB}
  (u:∀ v j l',l0.length<=l'.length->(∀ b,b<l0.length->l'[b]?=l0[b]?)->aH 45 l' v j ((c0 x s.l).map aO)->(v=.ad\/l0.length<=j)->K (.aX [.af (bt c (c2 (cP x s.l))),v,.i6 0]) l') :
  cM 91 [.af (bt c s),.af (ao x)] l0 K:=by
 refine Pb checked.mixed eD (Y1 c s G D x H t fun p S m Q l' P C J O d1 d2 d3 R I=>?_);obtain⟨o,w,r,e,f⟩:=w6 (c2 (cP x s.l)) O (by rw[I,uW]) (fb _);refine⟨_,[.af (bt c (c2 (cP x s.l))),p,.i6 0],o,rfl,w,rfl,fun i a q h1 g=>?_,F,u p m o F (fun b z=>?_) (J.cx ?_) d1⟩
 ·rcases i with _ | _ | _ | i
  ·simp at h1 g;subst h1 g;refine .af _ _ rfl fun i a q h1 g=>?_
   rcases i with _ | _ | i
   ·simp[bt] at h1 g;subst h1 g;exact .same _
   ·simp[bt] at h1 g;subst h1 g;exact r
   ·simp at h1
  ·simp at h1 g;subst h1 g;exact .same _
  ·simp at h1 g;subst h1 g;exact .same _
  ·simp at h1
 ·rw[f b (d2.imp id fun h=>F)];exact C b z
 ·rcases d3 with h | h | h
  ·exact .inl h
  ·exact .inr (f m (.inl h))
  ·exact .inr (f m (.inr h))
end Op.aJ
namespace Op.aJ
open cl Op
def Bz (g:cj) (cap:ag) (j:Nat) (l0:ae) (xs:List aA) (p:aA->Bool) :Prop:=
 ∀ x∈xs,∀ l,nq j l0 l->∀ m:cB,(∀ h,l.length<=h.length->(∀ b,b<l.length->h[b]?=l[b]?)->m (.bool (p x)) h)->cM g ([]++[.af (aO x)]++cap) l m
structure Oa (l0:ae) (v:U) (g:cj) (cap:ag) (xs:List aA) (p:aA->Bool) (k:Nat) (sgZ:aS) (l:ae) :Prop where
 kI:sgZ 0=v
 e5:sgZ 1=.fn g [] cap
 tS:sgZ 7=.i6 xs.length
 oI:sgZ 8=.i6 k
 jB:∀ (j:Nat) (z:aA),j<k->xs[j]?=some z->p z=false
 le:l0.length<=l.length
 same:∀ b,b<l0.length->l[b]?=l0[b]?
theorem RX {g:cj} {cap:ag} {j:Nat} {l:ae} {v:U} {xs:List aA} {p:aA->Bool} (ak:fJ prog g=true) (S:aH 45 l v j (xs.map aO)) (m:(∀ x∈xs,(aO x).length=45)) (av:xs.length<=1000000) (aq:Bz g cap j l xs p)
  {K:cB} (P:∀ n l',(n=-1/\(∀ z∈xs,p z=false)\/∃ k:Nat,n=(k:Int)/\k<xs.length/\(∀ (i:Nat) (z:aA),i<k->xs[i]?=some z->p z=false)/\∀ y,xs[k]?=some y->p y=true)->l.length<=l'.length->(∀ b,b<l.length->l'[b]?=l[b]?)->K (.i6 n) l') :
  cM 151 [v,.fn g [] cap] l K:=by
 apply c1 func151 [];have R:=S.len;rw[ce] at R;simp[R];refine bB xs.length (Oa l v g cap xs p) ?_ ⟨V,V,V,V,fun j z h=>F,aN _,fun _ _=>rfl⟩;rintro k au W hk ⟨D,G,H,I,B,Q,u⟩;obtain⟨au,rfl⟩:=eO D G H I;clear D G H I;simp;refine fk (fun h=>?_) (fun h=>?_)
 ·simp only[bK] at h;obtain⟨y,C,ar⟩:=aQ (l:=xs) (k:=k) F;have aj:=ci (k:=k) F;have ap:aH 45 W v j (xs.map aO):=S.frame fun am=>u j am
  obtain⟨q,cs,ax,X,Y,ah,ai⟩:=ap.q.get (k:=.i64) (i:=k) (e:=aO y) (by rw[b0,C];rfl);simp[X,Y,ah,ai];refine⟨ak,?_⟩;have:=aq y ar W ⟨Q,fun b o _=>u b o⟩;simp at this;refine this _ fun aw h1 J=>?_
  cases O:p y with
  | true=>
   simp;refine P _ _ (.inr ⟨k,rfl,h,fun i z t m=>B i z t m,fun w T=>?_⟩) F (fun b o=>by rw[J b F];exact u b o);rw[C] at T;obtain rfl:=cc T;exact O
  | false=>
   simp[aj];refine⟨F,V,V,V,V,fun i z t m=>?_,F,fun b o=>by rw[J b F];exact u b o⟩;by_cases al:i=k
   ·rw[al,C] at m;obtain rfl:=cc m;exact O
   ·exact B i z F m
 ·simp[h];have ao:k=xs.length:=by simp at h;omega
  refine P _ _ (.inl ⟨rfl,fun z m=>?_⟩) Q u;obtain⟨i,t⟩:=cp.1 m;exact B i z (by rw[ao];exact (aL.1 t).1) t
structure N6 (l0:ae) (v:U) (g:cj) (cap:ag) (j:Nat) (xs:List aA) (p:aA->Bool) (k:Nat) (sgZ:aS) (l:ae) :Prop where
 kI:sgZ 0=v
 e5:sgZ 1=.fn g [] cap
 lo:sgZ 6=.i6 k
 RL:nq j l0 l
 ex:∃ (q:Nat) (h:List aA),sgZ 5=.i6 (q:Int)/\aH 45 l v j (h.map aO)/\h.length=xs.length/\(∀ x∈h,(aO x).length=45)/\h.take q=(xs.take k).filter (fun t=>!p t)/\q<k/\∀ t,k<=t->h[t]?=xs[t]?
theorem HK {p:aA->Bool} {l:List aA} (h:∀ z∈l,p z=false) :l.filter (fun t=>!p t)=l:=by rw[rG];intro a g;rw[h a g];rfl
theorem Q6 {p:aA->Bool} {l:List aA} {k:Nat} (h:∀ (i:Nat) (z:aA),i<k->l[i]?=some z->p z=false) :(l.take k).filter (fun t=>!p t)=l.take k:=by
 refine HK fun z m=>?_
 obtain⟨i,g⟩:=cp.1 m;have j:=(aL.1 g).1;rw[cL] at j;rw[dQ F] at g;exact h i z F g
theorem Q4 {p:aA->Bool} {l:List aA} {k:Nat} {y:aA} (h:l[k]?=some y) :(l.take (k+1)).filter (fun t=>!p t)=(l.take k).filter (fun t=>!p t)++(if p y then [] else [y]):=by rw[ei,h,lJ];cases g:p y<;>simp[g]
theorem Qm {g:cj} {cap:ag} {j:Nat} {l:ae} {v:U} {xs:List aA} {p:aA->Bool} (aL:fJ prog g=true) (G:aH 45 l v j (xs.map aO)) (av:(∀ x∈xs,(aO x).length=45)) (bh:xs.length<=1000000) (aP:Bz g cap j l xs p)
  {K:cB} (aK:∀ r l',aH 45 l' r j ((xs.filter fun t=>!p t).map aO)->nq j l l'->bq r=bq v->(r=v\/∃ q:Nat,dw (.Z 45) v none (some (.i6 (q:Int))) none=some r)->K r l') :
  cM 108 [v,.fn g [] cap] l K:=by
 apply c1 func108 [];have bd:=G.len;rw[ce] at bd;simp;refine RX aL G av bh aP fun n bp a9 aM S=>?_
 rcases a9 with ⟨rfl,a6⟩ | ⟨w,rfl,am,bf,a7⟩
 ·simp;refine aK _ _ ?_ ⟨aM,fun b m _=>S b m⟩ rfl (.inl rfl);rw[HK a6];exact G.frame fun D=>S j D
 ·have bi:¬ ((w:Int)=-1):=F;have a3:=ci (k:=w) F;have bl:aH 45 bp v j (xs.map aO):=G.frame fun D=>S j D
  have bn:bq v=false:=by
   cases bk:bq v with
   | false=>rfl
   | true=>
    have:=gk.1 bk;subst this;have:=G.q.oX;rw[ni] at this;rw[this] at am;simp at am
  simp[bi,a3];refine bB (xs.length - (w+1)) (fun T=>N6 l v g cap j xs p (w+1+T)) ?_ ⟨V,V,V,⟨aM,fun b m _=>S b m⟩,w,xs,V,bl,rfl,av,?_,F,fun _ _=>rfl⟩
  ·rintro T br O bw ⟨aD,aE,Y,u,q,B,aF,Q,ar,au,I,bm,R⟩;obtain⟨k,hk⟩:=al (w+1+T);rw[show w+1+(T+1)=k+1 by omega];rw[<-hk] at Y I bm R;obtain⟨br,rfl⟩:=eO aD aE aF Y;clear aD aE aF Y;have ao:=Q.len;rw[ce,ar] at ao;by_cases bg:k<xs.length
   ·have ap:(k:Int)<(xs.length:Int):=F;obtain⟨y,J,aY⟩:=aQ (l:=xs) (k:=k) bg;have aW:=av y aY;have C:=aW;have aU:=gZ C;have aC:=ci (k:=k) F;have a4:=ci (k:=q) F;have bo:B[k]?=some y:=by rw[R k (aN _)];exact J
    obtain⟨bD,cs,bA,a0,a1,a2,aB⟩:=Q.q.get (k:=.i64) (i:=k) (e:=aO y) (by rw[b0,bo];rfl);have bb:nq j l (O++[aq.q 45 (aO y)]):=⟨by have:=u.le;simp;omega,fun b m o=>by rw[aV (by have:=u.le;omega)];exact u.same b m o⟩
    have ah:=aP y aY _ bb;have P:=Q4 (p:=p) J;have aT:=fun (iU:ae) (h:aH 45 iU v j (B.map aO))=>zN (X:=.af (aO y)) rfl h (fun t H=>au t H) (k:=q) (x:=y) F C
    simp at ah;obtain⟨aZ,a5⟩:=al (aO y);rw[<-a5] at C aU aB ah aT;simp[ao,ap,a0,a1,a2,aB,C,aU,aI];refine⟨aL,?_⟩;refine ah _ fun iU h1 aG=>?_
    have bv:O.length<iU.length:=F;have aS:∀ b,b<O.length->iU[b]?=O[b]?:=fun b m=>by rw[aG b F,aV m]
    have aR:aH 45 iU v j (B.map aO):=Q.frame fun D=>aS j D
    have a8:iU[O.length]?=some (.q 45 aZ):=by rw[aG _ V];simp
    have aj:nq j l iU:=⟨by have:=u.le;omega,fun b m o=>by rw[aS b (by have:=u.le;omega)];exact u.same b m o⟩
    cases aJ:p y with
    | true=>
     rw[aJ,ak rfl,eJ] at P;simp[aC];refine⟨F,V,V,V,aj,q,B,V,aR,ar,au,by rw[P];exact I,F,fun t H=>R t F⟩
    | false=>
     rw[aJ,ai V] at P;obtain⟨bC,bz,aw,ax,W,ay,az⟩:=aT iU aR;simp[a8,C,aw,ax,aC,a4,aI];refine⟨F,V,V,V,⟨by have:=aj.le;omega,fun b m o=>by rw[az b o];exact aj.same b m o⟩,q+1,B.set q y,V,W,by simp[ar],fun t H=>?_,?_,F,fun t H=>?_⟩
     ·rcases oh H with h | h
      ·exact au _ h
      ·rw[h];exact aW
     ·have bs:(B.take q).length=q:=by rw[cL];omega
      rw[rI,ak F,pm,bs,aI F,show q+1 - q=1 by omega,P,<-I];simp
     ·rw[bj F];exact R t F
   ·have ap:¬ (k:Int)<(xs.length:Int):=F;have bc:k=xs.length:=F;obtain⟨bE,bx,r,aw,ax,W,ay,az,bF,bt⟩:=JH (z:=45) (zr:=nf) rfl Q (k:=q) F;simp[ao,ap,aw,ax,W];rw[bc,e0] at I;rw[I] at ay;exact aK _ _ ay ⟨by have:=u.le;omega,fun b m o=>by rw[bt b o];exact u.same b m o⟩ (by rw[az,bn]) (.inr ⟨q,W⟩)
  ·rw[ei,lJ,Q6 bf];obtain⟨y,J,_⟩:=aQ (l:=xs) (k:=w) am;have:=a7 y J;rw[J];simp[this]
def iW (l:List aA) :Nat->aA
 | 0=>e8 l 0
 | k+1=>if (e8 l (k+1)).aC<(iW l k).aC then e8 l (k+1) else iW l k
theorem wQ {l:List aA}:∀ {k:Nat},k<l.length->iW l k∈l
 | 0,h=>by
  obtain⟨x,j,g⟩:=aQ h;unfold iW;rw[eR j];exact g
 | k+1,h=>by
  unfold iW;split
  ·obtain⟨x,j,g⟩:=aQ h;rw[eR j];exact g
  ·exact wQ F
def xE (l:List aA) :Prop:=∀ s∈l,0<=s.aC/\s.aC<=1000000000
structure NL (l0:ae) (v:U) (g:cj) (h j:Nat) (xs:List aA) (k:Nat) (sgZ:aS) (l:ae) :Prop where
 kI:sgZ 0=v
 e5:sgZ 1=.fn g [] []
 iq:sgZ 4=.ptr j 0 45
 kJ:sgZ 5=.ptr h 0 45
 lo:sgZ 6=.i6 ((k+1:Nat) :Int)
 acO:l[j]?=some (.q 45 nf)
 acP:l[h]?=some (.q 45 (aO (iW xs k)))
 le:l0.length+2<=l.length
 same:∀ b,b<l0.length->l[b]?=l0[b]?
theorem Yc (y m:aA) (o:(aO y).length=45) (g:(aO m).length=45) (h1:0<=y.aC/\y.aC<=1000000000) (D:0<=m.aC/\m.aC<=1000000000) {l:ae} {K:cB} (v:∀ l',l.length<=l'.length->(∀ b,b<l.length->l'[b]?=l[b]?)->K (.i6 (y.aC - m.aC)) l') :
  cM 107 [.af (aO y),.af (aO m)] l K:=by
 apply c1 func107 [];have B:(aO y)[0]?=some (.i6 y.aC):=rfl;have z:(aO m)[0]?=some (.i6 m.aC):=rfl;have t:∀ h,(aO y)[0]'h=.i6 y.aC:=fun _=>rfl
 have q:∀ h,(aO m)[0]'h=.i6 m.aC:=fun _=>rfl
 have u:IntKind.i64.wrap (y.aC - m.aC)=y.aC - m.aC:=by rw[IntKind.wrap_i64];omega
 obtain⟨C,p⟩:=al (aO y);obtain⟨M,j⟩:=al (aO m);rw[<-p] at o B ⊢;rw[<-j] at g z ⊢;simp only[<-p] at t;simp only[<-j] at q;simp[o,g,t,q,u];exact v _ V fun b w=>aV w
theorem Tp {j:Nat} {l:ae} {v:U} {xs:List aA} (P:aH 45 l v j (xs.map aO)) (G:∀ x∈xs,(aO x).length=45) (aG:xE xs) (a6:xs≠[]) (bq:xs.length<=1000000)
  {K:cB} (t:∀ l',l.length<=l'.length->(∀ b,b<l.length->l'[b]?=l[b]?)->K (.af (aO (iW xs (xs.length - 1)))) l') :
  cM 106 [v,.fn 107 [] []] l K:=by
 apply c1 func106 [];have a2:fJ prog 107=true:=bn;have C:=P.len;rw[ce] at C;have a9:0<xs.length:=qp.2 a6;have h1:¬ ((xs.length:Int)<1):=F;have a7:aH 45 (l++[aq.q 45 nf]) v j (xs.map aO):=P.more _;obtain⟨A2,aK,bd⟩:=aQ a9;obtain⟨q,cs,bf,Y,ag,aR,aS⟩:=a7.q.get (k:=.i64) (i:=0) (e:=aO A2) (by rw[b0,aK];rfl);have ay:=G A2 bd;have bb:=gZ ay;change bQ (.Z 45) v (.i6 (0:Int))=_ at Y;simp[nf] at ag;simp[C,h1,Y,ag,aR,aS,ay,bb];obtain⟨bk,o⟩:=al (l++[aq.q 45 nf,aq.q 45 (aO A2)]);have a5:iW xs 0=A2:=eR aK;unfold nf at o;rw[<-o];refine bB (xs.length - 1) (NL l v 107 (l.length+1) l.length xs) ?_ ⟨V,V,V,V,V,by rw[o];simp[nf],by rw[o,a5];simp,by rw[o];simp,fun b h=>by rw[o,aV h]⟩;rintro k bi W hk ⟨ap,ar,au,aw,ax,X,p,bo,Q⟩;obtain⟨bi,rfl⟩:=gu ap ar au aw ax;clear ap ar au aw ax;have aE:aH 45 W v j (xs.map aO):=P.frame fun J=>Q j J
 obtain⟨i,B⟩:=al (k+1);rw[<-B];by_cases a4:i<xs.length
 ·obtain⟨y,T,aL⟩:=aQ a4;have a1:=eR T;have z:=G y aL;have g:=G _ (wQ (l:=xs) (k:=k) F);have bc:=aG y aL;have aJ:=aG _ (wQ (l:=xs) (k:=k) F);have am:=ci (k:=i) F;obtain⟨q,cs,bf,aT,aU,aW,ah⟩:=aE.q.get (k:=.i64) (i:=i) (e:=aO y) (by rw[b0,T];rfl);have O:(i:Int)<(xs.length:Int):=F;obtain⟨m,aB⟩:=al (iW xs k);have aD:iW xs i=if y.aC<m.aC then y else m:=by
   rw[aB,<-a1,B];rfl
  rw[<-aB] at p g aJ;have S:=fun (K:cB) t=>Yc y m z g bc aJ (l:=W) (K:=K) t
  have R:av (aO m) 0 (aO y)=aO y:=cD (by rw[g,z]);obtain⟨bl,H⟩:=al (aO y);obtain⟨M,w⟩:=al (aO m);rw[<-H] at z ah S R;rw[<-w] at g p S R;simp[C,O,aT,aU,aW,ah,p,g,aI];refine⟨a2,S _ fun u bp D=>?_⟩;have a8:aH 45 u v j (xs.map aO):=aE.frame fun J=>D j J
  have aM:u[l.length]?=some (.q 45 nf):=by rw[D _ F];exact X
  have aP:u[l.length+1]?=some (.q 45 M):=by rw[D _ F];exact p
  have ao:∀ b,b<l.length->u[b]?=l[b]?:=fun b h=>by rw[D b F];exact Q b h
  obtain⟨bs,bm,br,aY,aZ,a0,aj⟩:=a8.q.get (k:=.i64) (i:=i) (e:=aO y) (by rw[b0,T];rfl);rw[<-H] at aj;have bh:∀ c:aq,(u.set (l.length+1) c)[l.length+1]?=some c:=fun c=>bY F
  by_cases az:y.aC<m.aC
  ·have I:y.aC - m.aC<0:=F;simp[I,aY,aZ,a0,aj,aP,z,R,am];refine⟨F,V,V,V,V,by simp[B],?_,?_,by simp;omega,fun b h=>?_⟩
   ·rw[bj F];exact aM
   ·rw[bh,aD,ak az,H]
   ·rw[bj F];exact ao b h
  ·have I:¬ y.aC - m.aC<0:=F;simp[I,am];exact⟨F,V,V,V,V,by simp[B],aM,by rw[aD,ai az,<-w];exact aP,F,ao⟩
 ·have O:¬ (i:Int)<(xs.length:Int):=F;have a3:k=xs.length - 1:=F;have g:=G _ (wQ (l:=xs) (k:=k) F);have aF:=gZ g;rw[<-a3] at t;obtain⟨M,w⟩:=al (aO (iW xs k));rw[<-w] at g aF p t;unfold nf at X;have bg:∀ c:aq,(W.set l.length c)[l.length]?=some c:=fun c=>bY F
  simp[C,O,X,p,g,aF,bg,aI];exact t _ (by simp;omega) fun b h=>by rw[bj F];exact Q b h
end Op.aJ
end Go.bh

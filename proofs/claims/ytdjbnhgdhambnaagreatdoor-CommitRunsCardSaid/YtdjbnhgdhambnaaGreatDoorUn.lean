/-
  Buffers of sleepers: a sleeper copied by value, a buffer copied, put; walked in the program's text.
-/
import Derived.Test.YtdjbnhgdhambnaaGreatDoorUm
set_option maxHeartbeats 16000000
set_option maxRecDepth 100000
set_option linter.unusedVariables false
set_option linter.unusedSimpArgs false
set_option linter.unnecessarySimpa false
namespace Go.bl
open Go Go.Proofs Go.Proofs.Tryz
namespace Op.aI
open cu Op
theorem Wg {s:az} (h:s.id.length=32) (w:U) :ig s w=(aO s).set 44 w:=by
 have g:=br h;have j:(aO s).length=45:=by unfold aO av;simp[g]
 rw[<-xh h w,nP w F]
theorem VO {s:az} (h:s.id.length=32) {l:ad} {w:U} (q:Rd l w (ah s.a2)) :Rd l (.af (ig s w)) (.af (aO s)):=by
 rw[Wg h w];refine .af _ _ V fun o x t g j=>?_
 by_cases m:o=44
 ·subst m;rw[zW h] at j;have p:=(aK.1 (zW h)).1;rw[bV p] at g;cases g;cases j;exact q
 ·rw[bg (fun e=>m e.symm),j] at g;cases g;exact .same _ (rP (jf s) o _ j)
theorem LW (s:az) (g:h4 s) :aW 101 [.af (aO s)] (.af (aO s)):=by
 refine uo checked.mixed eG ?_;refine EF s g fun w j h=>?_
 exact VO g.id (h.rd cG s.a2 rfl rfl)
structure MW (c:Int) (s:en) (L:ad) (k:Nat) (sgZ:aS) (l:ad) :Prop where
 eZ:sgZ 1=.ptr L.length 0 2
 ha:sgZ 2=.ptr (L.length+1) 0 2
 hP:sgZ 3=.ptr (L.length+2) 0 2
 Cd:sgZ 10=ch s
 HH:sgZ 11=.i6 s.l.length
 HI:sgZ 12=.i6 k
 yI:∀ b,b<L.length->l[b]?=L[b]?
 len:L.length+3<=l.length
 lw:l[L.length+1]?=some (.q 2 [.i6 0,.ae])
 ex:∃ v j,l[L.length+2]?=some (.q 2 [.i6 c,v])/\aE 45 l v j ((s.l.take k).map aO)/\(v=.ae\/L.length+3<=j)/\bo v=(s.l.take k).isEmpty
theorem Pz (c:Int) (s:en) (aA:fj s.l) (aL:s.l.length<=1000000) {L:ad} {K:cA}
  (ap:∀ v l' j,aE 45 l' v j (s.l.map aO)->(v=.ae\/L.length<=j)->L.length<=l'.length->(∀ b,b<L.length->l'[b]?=L[b]?)->bo v=s.l.isEmpty->K (.af [.i6 c,v]) l') :
  cM 100 [.af (bA c s)] L K:=by
 apply c0 func100 [[[0],[1],[2],[3,1]]];have az:bz (.Z 45) (ch s)=_:=b6 _;have aK:=fU s;simp[bA,az,aw];refine bx s.l.length (MW c s L) ?_ ⟨V,V,V,V,V,V,fun b g=>by simp[List.getElem?_append,g],V,V,.ae,0,V,.nil 0,.inl rfl,rfl⟩;rintro k aI l hk ⟨B,H,I,C,D,G,z,aM,ah,v,j,t,m,d1,ag⟩;obtain⟨aI,rfl⟩:=m0 B H I C D G;clear B H I C D G;simp;refine fh (fun h=>?_) (fun h=>?_)
 ·simp only[bI] at h;obtain⟨y,X,aD⟩:=aP (l:=s.l) (k:=k) F;have Q:=aA y aD;have p:=eQ Q;have ak:=cf (k:=k) F;have O:bO (.Z 45) (ch s) _=_:=c5 X;have W:=LW y Q;have J:=jf y;have T:s.l.take (k+1)=s.l.take k++[y]:=by rw[ej,X];rfl
  have ay:(s.l.take k).length<=1000000:=by rw[cL];omega
  have aQ:∀ cT:ao,(l++[cT])[l.length]?=some cT:=fun cT=>nZ
  have R:∀ cT:ao,(l++[cT])[L.length+2]?=some (.q 2 [.i6 c,v]):=fun cT=>by rw[aU F];exact t
  obtain⟨ai,c2,Y,o,w,aj,dh,ee,am⟩:=oe (m.more [.q 45 (aO y)]) p.len ay;obtain⟨aJ,av⟩:=al (aO y);rw[<-av] at p O W J o;have f1:=p.len;have S:=g1 f1;have aC:=m.cells;have aB:=w.cells;simp at aj ee;simp[O,f1,S,aH,R];refine au W (by simp[aq,U.ar,J]) ?_;simp at o dh;simp[f1,S,o,R];refine bP.bm ?_;have u:∀ b,b<L.length+3->Y[b]?=l[b]?:=fun b g=>by
   rw[dh b F (d1.imp id fun h=>F),aU F]
  have aF:Y[L.length+2]?=some (.q 2 [.i6 c,v]):=by rw[u _ F];exact t
  have P:ai=.ae\/L.length+3<=c2:=by
   rcases ee with h | ⟨h,h'⟩
   ·right;omega
   ·right;rw[h'];exact d1.resolve_left h
  simp[aF,aB,aw,ak];refine⟨F,V,V,V,V,V,V,fun b g=>?_,by simp;omega,?_,ai,c2,bV F,?_,P,?_⟩
  ·rw[bg F,u b F];exact z b g
  ·rw[bg F,u _ F];exact ah
  ·rw[T];exact w.cl (P.imp id fun h=>by rw[bg F])
  ·rw[am,T];simp
 ·simp[h];have ax:k=s.l.length:=by simp at h;omega
  rw[ax,e3] at m ag;have aG:∀ c:ao,(l.set (L.length+1) c)[L.length+1]?=some c:=fun c=>bV F
  have aC:=m.cells;simp[t,ah,aG];refine ap v _ j (m.cl (d1.imp id fun h=>by rw[bg F])) (d1.imp id fun h=>F) (by simp;omega) (fun b g=>?_) ag;rw[bg F];exact z b g
def dB (c:Int) (l:List az) (t:Int) (o:aJ) (m:aQ) :Int:=
 if cH c l≠0 then cH c l else if de o≠0 then 8 else if t<0\/1000000000<t\/eV o m=false then 2 else if bd o∈l.map az.id then 14 else if t<=dM l l.length then 32 else if (l.length:Int)=c then 18 else 0
def zI (c:Int) (l:List az) (t:Int) (o:aJ) (m:b2) :U:=
 .a1 [if dB c l t o m.l=0 then .af (bA c (some (l++[⟨t,o,bd o,m⟩]))) else .af [.i6 0,.ae],.i6 (dB c l t o m.l)]
theorem YD (c:Int) (s:en) (T:fj s.l) (b4:s.l.length<=900000) (t:Int) (o:aJ) (aR:dm o) (m:b2) (a7:c6 m) (bb:m.l.length<=1000000) :
  aW 53 [.af (bA c s),.i6 t,.af (av o),ah m] (zI c s.l t o m):=by
 apply a8 func53 [cR 0 7++[[7,1]]];unfold zI;have ad:bz (.Z 45) (ch s)=_:=b6 _;have a4:=fU s;have aK:=du o;have bs:=bM m;have a2:=uR c s T F;have ax:=uQ o aR;have a9:=Ml o aR m a7 bb;have aQ:=yO o;have v:=br aQ;have bf:=Di s T F (bd o) aQ;have a5:=lp (bd o) (s.l.map az.id) 0;have a0:=cG (bd o);have aM:aq [U.af (bA c s)]=true:=by simp[bA,aq,U.ar,a4]
 have b1:∀ h:True,aq [U.af (bA c s)]=true:=fun _=>aM
 obtain⟨u,aG⟩:=al (av o);have w:u.length=11:=by rw[aG];rfl
 have aV:aO ⟨t,o,bd o,m⟩=.i6 t::(u++(am (bd o)++[ah m])):=by rw[aG];rfl
 have bc:h4 ⟨t,o,bd o,m⟩:=⟨aR,aQ,a7,bb⟩
 have bh:=LW _ bc;have ai:=(eQ bc).len;have a3:=jf ⟨t,o,bd o,m⟩;rw[<-aG] at ax a9 aK ⊢;have bw:eo (bd o)=.af (am (bd o)):=rfl;rw[bw] at ax;obtain⟨D,bo⟩:=al (am (bd o));rw[<-bo] at ax v bf a0 aV;obtain⟨b0,aZ⟩:=al (aO ⟨t,o,bd o,m⟩);have bD:=ai;rw[<-aZ] at aV bh ai a3;have ap:aw (bZ 32 (.int .u8 0)) 0 D=D:=cy (by rw[v];rfl);have bB:(ah m).cells=some [ah m]:=by cases m<;>rfl
 have bS:aw (U.int .u32 0::U.ae::U.int .u64 0::U.int .u8 0::U.str [] ::U.int .u8 0::U.i6 0::U.int .u64 0::U.str [] ::U.int .u32 0::U.int .u32 0::(bZ 32 (.int .u8 0)++[U.ae])) 0 u=u++(bZ 32 (.int .u8 0)++[U.ae]):=by
  unfold aw;simp[w]
 have bI:(u++(bZ 32 (.int .u8 0)++[U.ae])).length=44:=by simp[w,bZ]
 have bN:aw (u++(bZ 32 (.int .u8 0)++[U.ae])) 11 D=u++(D++[U.ae]):=by
  unfold aw;simp[w,v,u4,bZ]
 have bH:(u++(D++[U.ae])).length=44:=by simp[w,v]
 have bR:aw (u++(D++[U.ae])) 43 [ah m]=u++(D++[ah m]):=by
  unfold aw;simp[w,v,o7,u4,aH]
 by_cases z:cH c s.l=0
 ·simp[bA,w];refine au a2 aM ?_;simp[z,w,aH];refine au ax (by simp[aq,U.ar,aK]) ?_;by_cases h1:de o=0
  ·by_cases B:t<0
   ·have g:dB c s.l t o m.l=2:=by unfold dB;simp[z,h1,B]
    rw[g];simp[v,ap,ad,h1,B,aH];exact aL
   ·by_cases O:1000000000<t
    ·have g:dB c s.l t o m.l=2:=by unfold dB;simp[z,h1,O]
     rw[g];simp[v,ap,ad,h1,B,O,aH];exact aL
    ·simp[v,ap,ad,h1,B,O,w,aH];refine au a9 (by simp[aq,U.ar,aK,bs]) ?_;cases aC:eV o m.l with
     | false=>
      have g:dB c s.l t o m.l=2:=by unfold dB;simp[z,h1,aC]
      rw[g];simp;exact aL
     | true=>
      simp[v,aH];refine au bf (by simp[aq,U.ar,a4,a0]) ?_;by_cases Y:bd o∈s.l.map az.id
      ·have g:dB c s.l t o m.l=14:=by unfold dB;rw[aj F,aj F,aj (by simp[B,O,aC]),ak Y]
       have R:0<=dG (bd o) (s.l.map az.id) 0:=a5.2 Y;rw[g];simp[R];exact aL
      ·have R:¬ 0<=dG (bd o) (s.l.map az.id) 0:=fun h=>Y (a5.1 h)
       have aT:dB c s.l t o m.l=if t<=dM s.l s.l.length then 32 else if (s.l.length:Int)=c then 18 else 0:=by
        unfold dB;rw[aj F,aj F,aj (by simp[B,O,aC]),aj Y]
       have b5:∀ K:Prop,K->K:=fun _ h=>h
       by_cases C:t<=dM s.l s.l.length
       ·have g:dB c s.l t o m.l=32:=by rw[aT,ak C]
        have H:s.l.length≠0:=fun bv=>by rw[bv] at C;simp[dM] at C;omega
        obtain⟨j,G,W⟩:=aP (l:=s.l) (k:=s.l.length - 1) F;have bF:dM s.l s.l.length=j.aB:=by unfold dM;rw[aj H,eR G]
        have aA:IntKind.i64.wrap ((s.l.length:Int) - 1)=((s.l.length - 1:Nat) :Int):=by rw[IntKind.wrap_i64];omega
        have S:bO (.Z 45) (ch s) (.i6 ((s.l.length - 1:Nat) :Int))=some (.b7 (aO j) 0):=by simp[ch,G]
        have Q:=eQ (T j W);have J:=Q.aB;have I:=Q.len;obtain⟨bk,aI⟩:=al (aO j);simp only[<-aI] at I J S;have aD:t<=j.aB:=by rw[<-bF];exact C
        have aS:0<s.l.length:=F;rw[g];simp[R,aS,aA,S,I,J,aD];exact aL
       ·have bt:∀ {P:Prop},((s.l.length=0->P)/\(∀ j,s.l[s.l.length - 1]?=some j->j∈s.l->0<s.l.length->¬ t<=j.aB->P))->P:=fun {P} ⟨bp,bq⟩=>by
         by_cases H:s.l.length=0
         ·exact bp H
         ·obtain⟨j,G,W⟩:=aP (l:=s.l) (k:=s.l.length - 1) F;exact bq j G W F (fun h=>C (by unfold dM;rw[aj H,eR G];exact h))
        -- what comes behind
        refine bt ⟨fun H=>?_,fun j G W aS aD=>?_⟩
        rotate_left
        have aA:IntKind.i64.wrap ((s.l.length:Int) - 1)=((s.l.length - 1:Nat) :Int):=by rw[IntKind.wrap_i64];omega
        have S:bO (.Z 45) (ch s) (.i6 ((s.l.length - 1:Nat) :Int))=some (.b7 (aO j) 0):=by simp[ch,G]
        have Q:=eQ (T j W);have J:=Q.aB;have I:=Q.len;obtain⟨bk,aI⟩:=al (aO j);simp only[<-aI] at I J S;simp[R,aS,aA,S,I,J,aD]
        rotate_left
        simp[R,H]
        all_goals
         refine fh (fun aE=>?_) (fun aE=>?_)
         ·have aF:(s.l.length:Int)=c:=by simp at aE;omega
          have g:dB c s.l t o m.l=18:=by rw[aT,aj C,ak aF]
          rw[g];simp;exact aL
         ·have aF:¬ (s.l.length:Int)=c:=by simp at aE;omega
          have g:dB c s.l t o m.l=0:=by rw[aT,aj C,aj aF]
          rw[g];simp;refine Pz c s T F fun bj p cc ag a6 bx aX b9=>?_
          have b8:4<=p.length:=by simpa using bx
          have bT:∀ cT:ao,(p++[cT])[1]?=some (.q 11 u):=fun cT=>by rw[aU F,aX 1 V];rfl
          have bU:∀ cT:ao,(p++[cT])[2]?=some (.q 2 [.i6 0,.ae]):=fun cT=>by rw[aU F,aX 2 V];rfl
          have bW:∀ cT:ao,(p++[cT])[3]?=some (.q 32 D):=fun cT=>by rw[aU F,aX 3 V];rfl
          have ca:s.l.length<=1000000:=F;obtain⟨cd,bi,X,ay,aY,bl,dh,ee,bn⟩:=oe (s:=⟨t,o,bd o,m⟩) ((ag.more [.q 2 [.i6 c,bj]])) bD F;rw[<-aZ] at ay;have cb:=ag.cells;have bG:=aY.cells;have bC:∀ cT:ao,(p++[cT])[p.length]?=some cT:=fun cT=>nZ
          simp at ay bl ee dh;simp[bT,bW,w,v,aH,bS,bN,bR,bI,bH,bB,<-aV];refine au bh (by simp[aq,U.ar,a3]) ?_;have bE:=g1 ai;simp[ai,bE,ay];refine bP.bm ?_;have bX:X[2]?=some (.q 2 [.i6 0,.ae]):=by
           rw[dh 2 F (a6.imp id fun h=>by simp at h;omega)];exact bU _
          have bY:X[p.length]?=some (.q 2 [.i6 c,bj]):=by
           rw[dh _ F (ag.lt.imp id fun h=>F)];exact bC _
          have b3:4<=bi/\bi≠p.length:=by
           rcases ee with h | ⟨h,h'⟩
           ·omega
           ·have h1:=a6.resolve_left h;have B:=ag.lt.resolve_left h;simp at h1;omega
          have bJ:∀ cT:ao,(X.set p.length cT)[p.length]?=some cT:=fun cT=>bV F
          have bK:∀ cT:ao,(X.set p.length cT)[2]?=some (.q 2 [.i6 0,.ae]):=fun cT=>by rw[bg F];exact bX
          have bL:∀ cT rN:ao,((X.set p.length cT).set 2 rN)[2]?=some rN:=fun cT rN=>bV (by simp;omega)
          simp[bY,bG,aw,bJ,bK,bL];refine zQ (w5 (.same _ rfl) ((aY.cl (.inr (by rw[bg F,bg F]))).q.gG jf (some (s.l++[⟨t,o,bd o,m⟩])) (by rw[bn];rfl) rfl)) (.same _ rfl)
  ·have g:dB c s.l t o m.l=8:=by unfold dB;simp[z,h1]
   rw[g];simp[v,ap,ad,h1,aH];exact aL
 ·have g:dB c s.l t o m.l=cH c s.l:=by unfold dB;simp[z]
  rw[g];simp[bA,w];refine au a2 aM ?_;simp[z];exact aL
end Op.aI
namespace Op.aI
open cu Op
def cw (o:aJ) :aJ:={ o with ax:=some o.ax.l }
def bj (s:az) :az:={ s with op:=cw s.op,a2:=some s.a2.l }
theorem Aq {o:aJ} (h:dm o) :dm (cw o):=⟨h.idsZ,h.len,h.val,h.key⟩
theorem xo {s:az} (h:h4 s) :h4 (bj s):=⟨Aq h.op,h.id,h.a2,h.len⟩
theorem XO (o:aJ) (h:dm o) :aW 135 [.af (av o)] (.af (av (cw o))):=by
 apply a8 func135 [];have t:=ds;have w:=h.len;have j:∀ x∈o.ax.l,(am x).length=32:=fun x u=>br (h.idsZ x u)
 have g:=x4 (enc:=am) (by_:=32) [ao.q 11 (av o),ao.q 11 [.int .u32 0,.ae,.int .u64 0,.int .u8 0,.str [],.int .u8 0,.i6 0,.int .u64 0,.str [],.int .u32 0,.int .u32 0]] o.ax j F F (by rw[t];omega);have p:∀ x:b2,(ah x).cells=some [ah x]:=fun x=>by cases x<;>rfl
 have v:=bM (some o.ax.l);simp only[av,ah,dN,hq,iK,h0] at g;simp[av,ah,g];refine bP.oz (by exact lv j rfl rfl) rfl ?_;have m:U.bu 32 (o.ax.l.map am)=ah (some o.ax.l):=rfl;simp[m,p,aw];exact aR rfl (show (U.af (av (cw o))).ar=true by have:=du (cw o);simpa [U.ar] using this)
theorem B4 {t:Int} {O D:ag} {x:U} (g:O.length=11) (h:D.length=32) (j:x.cells=some [x]) :
  aw (U.int .u32 0::U.ae::U.int .u64 0::U.int .u8 0::U.str [] ::U.int .u8 0::U.i6 0::U.int .u64 0::U.str [] ::U.int .u32 0::U.int .u32 0::(bZ 32 (.int .u8 0)++[U.ae])) 0 O=O++(bZ 32 (.int .u8 0)++[U.ae]) ∧
  (O++(bZ 32 (.int .u8 0)++[U.ae])).length=44 ∧
  aw (O++(bZ 32 (.int .u8 0)++[U.ae])) 11 D=O++(D++[U.ae]) ∧
  (O++(D++[U.ae])).length=44 ∧
  aw (O++(D++[U.ae])) 43 [x]=O++(D++[x]):=by
 refine⟨?_,?_,?_,?_,?_⟩
 ·unfold aw;simp[g]
 ·simp[g,bZ]
 ·unfold aw;simp[g,h,u4,bZ]
 ·simp[g,h]
 ·unfold aw;simp[g,h,o7,u4,aH]
theorem EE (s:az) (h:h4 s) :aW 86 [.af (aO s)] (.af (aO (bj s))):=by
 apply a8 func86 [cR 0 4++cR 5 5++[[4,9,7,6,1],[10,6,1]]];have T:=ds;have g:=eQ h;have m:=eQ (xo h);have o:=XO s.op h.op;have G:∀ x∈s.a2.l,(am x).length=32:=fun x V=>br (h.a2 x V)
 have ap:=h.len;have p:=br h.id;have ak:=bM (some s.a2.l);have C:=du s.op;have j:aO (bj s)=.i6 s.aB::(av (cw s.op)++(am s.id++[ah (some s.a2.l)])):=rfl;obtain⟨I,O⟩:=al (aO s);obtain⟨ai,P⟩:=al (aO (bj s));obtain⟨H,u⟩:=al (av s.op);obtain⟨J,w⟩:=al (av (cw s.op));obtain⟨D,K⟩:=al (am s.id);rw[<-O] at g ⊢;rw[<-P] at m j ⊢;have f1:=g.len;have f2:=g.aB;have f3:=g.op;have f4:=g.id;have f5:=g.a2;rw[<-u] at f3 o C;rw[<-w] at o j;rw[<-K] at f4 j p;have aj:H.length=11:=by rw[u];rfl
 have z:J.length=11:=by rw[w];rfl
 obtain⟨ag,X,Y,W,ad⟩:=B4 (t:=s.aB) z p (x:=ah (some s.a2.l)) rfl;have S:(ah (some s.a2.l)).cells=some [ah (some s.a2.l)]:=rfl;have B:=x4 (enc:=am) (by_:=32) [ao.q 45 I,ao.q 45 (U.i6 0::U.int .u32 0::U.ae::U.int .u64 0::U.int .u8 0::U.str [] ::U.int .u8 0::U.i6 0::U.int .u64 0::U.str [] ::U.int .u32 0::U.int .u32 0::(bZ 32 (.int .u8 0)++[U.ae]))] s.a2 G F F (by rw[T];omega);simp only[dN,hq,iK,h0] at B;have R:ah s.a2=b4 32 am s.a2:=rfl;rw[R] at f5;simp[f1,f2,f3,f4,f5];refine au o (by simp[aq,U.ar,C]) ?_;simp[f1,f2,f4,f5,B];refine bP.oz (by exact lv G rfl rfl) rfl ?_;have Q:U.bu 32 (s.a2.l.map am)=ah (some s.a2.l):=rfl;have v:=m.len;simp[Q,f1,f2,f4,f5,z,p,S,ag,X,Y,W,ad,<-j,g1 v,v,aH];exact aR rfl (by simp[U.ar,m.ar])
end Op.aI
namespace Op.aI
open cu Op
structure NU (c:Int) (s:en) (L:ad) (k:Nat) (sgZ:aS) (l:ad) :Prop where
 eZ:sgZ 1=.ptr L.length 0 2
 ha:sgZ 2=.ptr (L.length+1) 0 2
 hP:sgZ 3=.ptr (L.length+2) 0 2
 hQ:sgZ 4=.i6 k
 yI:∀ b,b<L.length->l[b]?=L[b]?
 len:L.length+3<=l.length
 nH:l[L.length]?=some (.q 2 (bA c s))
 lw:l[L.length+1]?=some (.q 2 [.i6 0,.ae])
 ex:∃ v j,l[L.length+2]?=some (.q 2 [.i6 c,v])/\aE 45 l v j (((s.l.take k).map bj).map aO)/\(v=.ae\/L.length+3<=j)/\bo v=(s.l.take k).isEmpty
theorem LV (c:Int) (s:en) (aA:fj s.l) (aS:s.l.length<=1000000) {L:ad} {K:cA}
  (ai:∀ v l' j,aE 45 l' v j ((s.l.map bj).map aO)->(v=.ae\/L.length<=j)->L.length<=l'.length->(∀ b,b<L.length->l'[b]?=L[b]?)->bo v=s.l.isEmpty->K (.af [.i6 c,v]) l') :
  cM 45 [.af (bA c s)] L K:=by
 apply c0 func45 [cR 0 7++[[7,1]]];have ay:bz (.Z 45) (ch s)=_:=b6 _;have aR:=fU s;simp[bA,aw];refine bx s.l.length (NU c s L) ?_ ⟨V,V,V,V,fun b g=>by simp[List.getElem?_append,g],V,by simp[bA],V,.ae,0,V,.nil 0,.inl rfl,rfl⟩;rintro k aK l hk ⟨H,I,J,O,G,aT,o,X,v,j,p,m,d1,W⟩;obtain⟨aK,rfl⟩:=eO H I J O;clear H I J O;unfold bA at o;simp[o,ay];refine fh (fun h=>?_) (fun h=>?_)
 ·simp only[bI] at h;obtain⟨y,z,aG⟩:=aP (l:=s.l) (k:=k) F;have u:=aA y aG;have az:=xo u;have aj:=eQ u;have P:=eQ az;have ag:=cf (k:=k) F;have R:bO (.Z 45) (ch s) _=_:=c5 z;have w:=EE y u;have Q:=jf y;have ap:=jf (bj y);have aC:(s.l.take (k+1)).map bj=(s.l.take k).map bj++[bj y]:=by rw[ej,z,cS];rfl
  have ax:((s.l.take k).map bj).length<=1000000:=by rw[cg,cL];omega
  obtain⟨Y,c2,T,C,D,aQ,dh,ee,ah⟩:=oe m P.len ax;have f1:=aj.len;have B:=P.len;obtain⟨aL,ak⟩:=al (aO y);obtain⟨aM,am⟩:=al (aO (bj y));rw[<-ak] at f1 R w Q;rw[<-am] at B w ap C;have aB:=g1 B;have aF:=m.cells;have aD:=D.cells;simp at ee;simp[o,p,R,f1,aH];refine au w (by simp[aq,U.ar,Q]) ?_;simp[B,aB,C,p];refine bP.bm ?_;have t:∀ b,b<L.length+3->T[b]?=l[b]?:=fun b g=>dh b F (d1.imp id fun h=>F)
  have aI:T[L.length+2]?=some (.q 2 [.i6 c,v]):=by rw[t _ F];exact p
  have S:Y=.ae\/L.length+3<=c2:=by
   rcases ee with h | ⟨h,h'⟩
   ·right;omega
   ·right;rw[h'];exact d1.resolve_left h
  simp[aI,aD,aw,ag];refine⟨F,V,V,V,V,fun b g=>?_,by simp;omega,?_,?_,Y,c2,bV F,?_,S,?_⟩
  ·rw[bg F,t b F];exact G b g
  ·rw[bg F,t _ F];exact o
  ·rw[bg F,t _ F];exact X
  ·rw[aC];exact D.cl (S.imp id fun h=>by rw[bg F])
  ·rw[ah,ej,z];simp
 ·simp[h];have av:k=s.l.length:=by simp at h;omega
  rw[av,e3] at m W;have aJ:∀ c:ao,(l.set (L.length+1) c)[L.length+1]?=some c:=fun c=>bV F
  have aF:=m.cells;simp[p,X,aJ];refine ai v _ j (m.cl (d1.imp id fun h=>by rw[bg F])) (d1.imp id fun h=>F) (by simp;omega) (fun b g=>?_) W;rw[bg F];exact G b g
theorem XP (c:Int) (s:en) (j:fj s.l) (h:s.l.length<=1000000) :aW 45 [.af (bA c s)] (.af (bA c (cU (s.l.map bj)))):=by
 refine uo checked.mixed eG ?_;refine LV c s j h fun v u t h1 m o p g=>?_
 exact w5 (.same _ rfl) (h1.q.gG jf (cU (s.l.map bj)) (by rw[g,uL];simp) (eW _))
def eE (l:aQ) :b2:=match l with | []=>none | a::r=>some (a::r)
theorem kg (l:aQ) :(eE l).l=l:=by cases l<;>rfl
theorem Eu (l:aQ) :(eE l).isNone=l.isEmpty:=by cases l<;>rfl
theorem CB {p:List B->Bool} {l:aQ} {k:Nat} {y:List B} (h:l[k]?=some y) :(l.take (k+1)).filter p=(l.take k).filter p++(if p y then [y] else []):=by rw[ej,h,lH];cases g:p y<;>simp[g]
structure NW (m:b2) (x:List B) (k:Nat) (sgZ:aS) (l:ad) :Prop where
 kF:sgZ 0=ah m
 hP:sgZ 3=.ptr 0 0 32
 lm:sgZ 6=.i6 k
 nH:l[0]?=some (.q 32 (am x))
 ex:∃ v j,sgZ 5=v/\aE 32 l v j (((m.l.take k).filter (fA x)).map am)/\(v=.ae\/1<=j)/\bo v=((m.l.take k).filter (fA x)).isEmpty
theorem VG (m:b2) (P:c6 m) (ax:m.l.length<=1000000) (x:List B) (Q:x.length=32) :aW 165 [ah m,.af (am x)] (ah (eE (m.l.filter (fA x)))):=by
 apply a8 func165 [];have ag:bz (.Z 32) (ah m)=_:=b6 _;have C:=br Q;simp[C];refine bx m.l.length (NW m x) ?_ ⟨V,V,V,rfl,.ae,0,V,.nil 0,.inl rfl,rfl⟩;rintro k aq l hk ⟨I,J,O,j,ar,ao,K,v,d1,D⟩;obtain⟨aq,rfl⟩:=eO I J K O;clear I J K O;simp[ag];refine fh (fun h=>?_) (fun h=>?_)
 ·simp only[bI] at h;obtain⟨y,R,S⟩:=aP (l:=m.l) (k:=k) F;have o:=br (P y S);have H:=cf (k:=k) F;have w:bO (.Z 32) (ah m) _=_:=c5 R;have u:=oE (P y S) Q;have g:=CB (p:=fA x) R;have ad:((m.l.take k).filter (fA x)).length<=1000000:=by
   refine dC (g4 _ _) ?_;rw[cL];omega
  obtain⟨au,ap,ay,G,T,av,dh,ee,U⟩:=Bp v o ad;obtain⟨Y,W⟩:=al (am y);rw[<-W] at o w u G;have ai:aw (bZ 32 (.int .u8 0)) 0 Y=Y:=cy (by rw[o];rfl);by_cases t:y=x
  ·have z:fA x y=false:=by unfold fA;simp[t]
   rw[z,aj V,eK] at g;rw[t] at u;simp[w,o,j,C,u,aH,H];exact⟨F,V,V,V,j,ar,ao,V,by rw[g];exact v,d1,by rw[g];exact D⟩
  ·have z:fA x y=true:=by unfold fA;simp[t]
   rw[z,ak rfl] at g;simp[w,o,j,C,u,t,ai,aH,G];refine bP.bm ?_;simp[H];refine⟨F,V,V,V,?_,au,ap,V,by rw[g];exact T,?_,by rw[U,g];simp⟩
   ·rw[dh 0 (aX j) (d1.imp id fun h=>F)];exact j
   ·have:=aX j;rcases ee with h | ⟨h,h'⟩
    ·right;omega
    ·right;rw[h'];exact d1.resolve_left h
 ·simp[h];have X:k=m.l.length:=by simp at h;omega
  rw[X,e3] at v D;exact v.q.gG cG (eE _) (by rw[D,Eu]) (kg _)
end Op.aI
namespace Op.aI
open cu Op
def ke (x:List B) (s:az) :az:={ bj s with a2:=eE (s.a2.l.filter (fA x)) }
def gD (x:List B) (l:List az) :List az:=(l.map (ke x)).filter gone
def gn (x:List B) (l:List az) :List az:=(l.map (ke x)).filter fun s=>!gone s
theorem Xq {x:List B} {s:az} (h:h4 s) :h4 (ke x s):=by
 refine⟨Aq h.op,h.id,fun y g=>?_,?_⟩
 ·have:y∈(eE (s.a2.l.filter (fA x))).l:=g;rw[kg] at this;exact h.a2 y (dx.1 this).1
 ·show (eE (s.a2.l.filter (fA x))).l.length<=_;rw[kg];exact dC (g4 _ _) h.len
def yk (c:Int) (l:List az) (x:List B) :U:=
 if cH c l=0 then .a1 [.af (bA c (cU (gn x l))),ch (cU (gD x l)),.i6 0] else .a1 [.af [.i6 0,.ae],.ae,.i6 (cH c l)]
structure MS (c:Int) (s:en) (x:List B) (k:Nat) (fe:U) (l:ad) :Prop where
 nH:l[0]?=some (.q 2 (bA c s))
 lw:l[1]?=some (.q 32 (am x))
 jE:l[2]?=some (.q 2 [.i6 0,.ae])
 ex:∃ g h j,l[3]?=some (.q 2 [.i6 c,g])/\aE 45 l fe h ((gD x (s.l.take k)).map aO)/\aE 45 l g j ((gn x (s.l.take k)).map aO)/\(fe=.ae\/4<=h)/\(g=.ae\/4<=j)/\(fe=.ae\/g=.ae\/h≠j) ∧
  bo fe=(gD x (s.l.take k)).isEmpty/\bo g=(gn x (s.l.take k)).isEmpty
 len:4<=l.length
structure MT (c:Int) (s:en) (x:List B) (k:Nat) (sgZ:aS) (l:ad) :Prop where
 ha:sgZ 2=.ptr 0 0 2
 hP:sgZ 3=.ptr 1 0 32
 hQ:sgZ 4=.ptr 2 0 2
 r0:sgZ 7=.ptr 3 0 2
 vY:sgZ 9=.i6 k
 h:∃ fe,sgZ 8=fe/\MS c s x k fe l
theorem U8 (c:Int) (s:en) (bc:fj s.l) (bG:s.l.length<=1000000) (x:List B) (bh:x.length=32) :aW 113 [.af (bA c s),.af (am x)] (yk c s.l x):=by
 apply a8 func113 [];unfold yk;have bH:bz (.Z 45) (ch s)=_:=b6 _;have bB:=fU s;have bC:=cG x;have aD:=br bh;have av:=DB c s bc bG;have ax:aq [U.af (bA c s)]=true:=by simp[bA,aq,U.ar,bB]
 by_cases R:cH c s.l=0
 ·simp[bA,aD];refine au av ax ?_;simp[R];refine bx s.l.length (MT c s x) ?_ ⟨V,V,V,V,V,.ae,V,⟨rfl,rfl,rfl,⟨.ae,0,0,rfl,.nil 0,.nil 0,.inl rfl,.inl rfl,.inl rfl,rfl,rfl⟩,V⟩⟩;rintro k b4 l hk ⟨aV,aX,aY,aZ,a3,K,a0,hH⟩;obtain⟨b4,rfl⟩:=m0 aV aX aY aZ a0 a3;clear aV aX aY aZ a0 a3;obtain⟨Q,aK,aM,⟨z,w,C,ad,aJ,Y,d1,d2,d3,aG,aI⟩,cb⟩:=hH;unfold bA at Q;simp[Q,bH];refine fh (fun h=>?_) (fun h=>?_)
  ·simp only[bI] at h;obtain⟨y,aF,bZ⟩:=aP (l:=s.l) (k:=k) F;have H:=bc y bZ;have bs:=eQ H;have bb:=xo H;have a4:=eQ bb;have bR:=Xq (x:=x) H;have T:=eQ bR;have aT:=cf (k:=k) F;have a7:bO (.Z 45) (ch s) _=_:=c5 aF;have bf:=xh bb.id;have aB:=EE y H;have a6:=jf y;have aC:=VG (some y.a2.l) H.a2 H.len x bh;have bw:=bM (some y.a2.l);obtain⟨n,X⟩:=al (l.length);have bS:ig (bj y) (ah (eE (y.a2.l.filter (fA x))))=aO (ke x y):=rfl;have f1:=bs.len;have t1:=a4.len;have t5:=a4.a2;have bL:ah (bj y).a2=ah (some y.a2.l):=rfl;rw[bL] at t5;obtain⟨b9,bt⟩:=al (aO y);obtain⟨bp,bv⟩:=al (aO (bj y));simp only[<-bt] at f1 a7 aB a6;simp only[<-bv] at t1 t5 aB bf;have bT:=g1 t1;have S:=bf (ah (eE (y.a2.l.filter (fA x))));rw[bS] at S;have q1:∀ cT:ao,(l++[cT])[1]?=some (.q 32 (am x)):=fun cT=>by rw[aU F];exact aK
   have b0:∀ cT:ao,(l++[cT])[3]?=some (.q 2 [.i6 c,z]):=fun cT=>by rw[aU F];exact ad
   have b1:∀ cT:ao,(l++[cT])[n]?=some cT:=fun cT=>by rw[X];exact nZ
   have bY:eE ((bX.l (some y.a2.l)).filter (fA x))=eE (y.a2.l.filter (fA x)):=rfl;rw[bY] at aC;obtain⟨m,az⟩:=al (eE (y.a2.l.filter (fA x)));rw[<-az] at S aC;have bJ:(ah m).cells=some [ah m]:=by cases m<;>rfl
   have bK:bz (.Z 32) (ah m)=_:=b6 _;have bi:∀ h:44<(aO (ke x y)).length,(aO (ke x y))[44]'h=ah m:=fun h=>by rw[T.a2 h,az];rfl
   have P:=T.len;have I:=uH (p:=gone) (f:=ke x) aF;have v:=uH (p:=fun s=>!gone s) (f:=ke x) aF;have G:gone (ke x y)=decide (m.l.length=0):=by
    have e:(ke x y).a2=m:=az.symm;unfold gone;rw[e];cases m.l<;>simp
   have bD:(gD x (s.l.take k)).length<=1000000:=by
    unfold gD;refine dC (g4 _ _) ?_;rw[cg,cL];omega
   have bN:(gn x (s.l.take k)).length<=1000000:=by
    unfold gn;refine dC (g4 _ _) ?_;rw[cg,cL];omega
   obtain⟨qk,o⟩:=al (l++[ao.q 45 (aO (ke x y))]);have ce:qk.length=n+1:=by rw[o,X];simp
   have bk:∀ b,b<n->qk[b]?=l[b]?:=fun b a5=>by rw[o,aU F]
   have aQ:aE 45 qk K w ((gD x (s.l.take k)).map aO):=by rw[o];exact aJ.more _
   have aR:aE 45 qk z C ((gn x (s.l.take k)).map aO):=by rw[o];exact Y.more _
   have ag:qk[n]?=some (.q 45 (aO (ke x y))):=by rw[o];exact b1 _
   have b8:qk[3]?=some (.q 2 [.i6 c,z]):=by rw[o];exact b0 _
   simp[Q,a7,f1,aH];refine au aB (by simp[aq,U.ar,a6]) ?_;simp[t1,bT,t5,q1,aD,aH];refine au aC (by simp[aq,U.ar,bw,bC]) ?_;obtain⟨aS,ap⟩:=al (aO (ke x y));simp only[<-ap] at S bi P ag o;have bd:=g1 P;have cc:(l++[ao.q 45 bp]).set n (ao.q 45 aS)=qk:=by rw[X,o];simp
   simp[bJ,S,bi,P,bK];rw[<-o];have bl:qk[l.length]?=some (.q 45 aS):=by rw[<-X];exact ag
   by_cases W:m.l.length=0
   ·rw[W,ca rfl] at G;rw[G,ak rfl] at I;rw[G] at v;simp only[u0,kj,if_false,eK] at v;obtain⟨J,c2,j,O,D,bq,dh,ee,ai⟩:=oe aQ T.len bD;rw[<-ap] at O;have aA:m.l=[]:=hp.1 W;simp[bl,P,aA,bd,aH,O];refine bP.bm ?_;have t:∀ b,b<4->j[b]?=l[b]?:=fun b a5=>by rw[dh b F (d1.imp id fun h=>F)];exact bk b F
    have ay:=aR.lt;have bo:aE 45 j z C ((gn x (s.l.take k)).map aO):=aR.cl (by
     rcases ay with h | h
     ·exact .inl h
     ·rcases d3 with g | g | g
      ·exact .inr (dh C h (.inl g))
      ·exact .inl g
      ·exact .inr (dh C h (.inr fun e=>g e.symm)))
    simp[aT];refine⟨F,V,V,V,V,V,J,V,⟨by rw[t 0 F];exact Q,by rw[t 1 F];exact aK,by rw[t 2 F];exact aM,⟨z,c2,C,by rw[t 3 F];exact ad,?_,?_,.inr ?_,d2,?_,?_,?_⟩,F⟩⟩
    ·show aE 45 j J c2 ((gD x (s.l.take (k+1))).map aO);unfold gD at D ⊢;rw[I];exact D
    ·show aE 45 j z C ((gn x (s.l.take (k+1))).map aO);unfold gn at bo ⊢;rw[v];exact bo
    ·rcases ee with h | ⟨h,h'⟩
     ·omega
     ·rw[h'];exact d1.resolve_left h
    ·right;rcases d3 with g | g | g
     ·rcases ay with u | u
      ·exact .inl u
      ·rcases ee with h | ⟨h,_⟩
       ·exact .inr F
       ·exact bW g h
     ·exact .inl g
     ·rcases ay with u | u
      ·exact .inl u
      ·rcases ee with h | ⟨_,h'⟩
       ·exact .inr F
       ·exact .inr (by rw[h'];exact g)
    ·rw[ai];unfold gD;rw[I];simp
    ·rw[aI];unfold gn;rw[v]
   ·rw[ct W] at G;rw[G,aj V,eK] at I;rw[G] at v;simp only[rq,if_true] at v;obtain⟨J,c2,j,O,D,bq,dh,ee,ai⟩:=oe aR T.len bN;rw[<-ap] at O;have cd:=Y.cells;have bU:=D.cells;have aA:¬ m.l=[]:=fun h=>W (by rw[h];rfl)
    simp[bl,b8,P,aA,bd,aH,O];refine bP.bm ?_;have t:∀ b,b<4->j[b]?=l[b]?:=fun b a5=>by rw[dh b F (d2.imp id fun h=>F)];exact bk b F
    have b2:j[3]?=some (.q 2 [.i6 c,z]):=by rw[t 3 F];exact ad
    have a9:=aQ.lt;have bE:4<=c2:=by
     rcases ee with h | ⟨h,h'⟩
     ·omega
     ·rw[h'];exact d2.resolve_left h
    have bn:aE 45 j K w ((gD x (s.l.take k)).map aO):=aQ.cl (by
     rcases a9 with h | h
     ·exact .inl h
     ·rcases d3 with g | g | g
      ·exact .inl g
      ·exact .inr (dh w h (.inl g))
      ·exact .inr (dh w h (.inr g)))
    simp[b2,bU,aw,aT];refine⟨F,V,V,V,V,V,K,V,⟨by rw[bg F,t 0 F];exact Q,by rw[bg F,t 1 F];exact aK,by rw[bg F,t 2 F];exact aM,⟨J,w,c2,bV F,?_,?_,d1,.inr bE,?_,?_,?_⟩,by simp;omega⟩⟩
    ·show aE 45 _ K w ((gD x (s.l.take (k+1))).map aO);refine (show aE 45 j K w ((gD x (s.l.take (k+1))).map aO) from ?_).cl (d1.imp id fun h=>by rw[bg F]);unfold gD at bn ⊢;rw[I];exact bn
    ·show aE 45 _ J c2 ((gn x (s.l.take (k+1))).map aO);refine (show aE 45 j J c2 ((gn x (s.l.take (k+1))).map aO) from ?_).cl (.inr (by rw[bg F]));unfold gn at D ⊢;rw[v];exact D
    ·rcases a9 with u | u
     ·exact .inl u
     ·rcases ee with h | ⟨h,h'⟩
      ·exact .inr (.inr F)
      ·rcases d3 with g | g | g
       ·exact .inl g
       ·exact bW g h
       ·exact .inr (.inr (by rw[h'];exact g))
    ·rw[aG];unfold gD;rw[I]
    ·rw[ai];unfold gn;rw[v];simp
  ·simp[h];have bF:k=s.l.length:=by simp at h;omega
   rw[bF,e3] at aJ Y aG aI;have b3:∀ c:ao,(l.set 2 c)[2]?=some c:=fun c=>bV F
   have ag:∀ c:ao,aE 45 (l.set 2 c) K w ((gD x s.l).map aO):=fun c=>aJ.cl (d1.imp id fun h=>by rw[bg F])
   have b5:∀ c:ao,aE 45 (l.set 2 c) z C ((gn x s.l).map aO):=fun c=>Y.cl (d2.imp id fun h=>by rw[bg F])
   simp[ad,aM,b3];rw[ak R];exact sv (w5 (.same _ rfl) ((b5 _).q.gG jf (cU _) (by rw[aI,uL]) (eW _))) ((ag _).q.gG jf (cU _) (by rw[aG,uL]) (eW _)) (.same _ rfl)
 ·rw[aj R];simp[bA,aD];refine au av ax ?_;simp[R];refine au av ax ?_;simp;exact aL
end Op.aI
namespace Op.aI
open cu Op
def zG (c:Int) (l:List az) (t:Int) (o:aJ) (m:b2) :U:=
 .a1 [if dB c l t o m.l=0 then .af (bA c (some (l.map bj++[bj ⟨t,o,bd o,m⟩]))) else .af [.i6 0,.ae],.i6 (dB c l t o m.l)]
theorem LN {c:Int} {l:List az} (q:cH c l=0) {t:Int} (h:¬ t<=dM l l.length) :∀ s∈l,¬ t<=s.aB:=by
 obtain⟨_,o⟩:=nJ q;obtain⟨_,p,_⟩:=(pw l).1 o;intro s z w;obtain⟨m,g⟩:=cq.1 z;have u:=(aK.1 g).1;obtain⟨C,j,D⟩:=aP (l:=l) (k:=l.length - 1) F;have B:dM l l.length=C.aB:=by unfold dM;rw[aj F,eR j]
 rw[B] at h;by_cases v:m=l.length - 1
 ·rw[v,j] at g;obtain rfl:=cd g;exact h w
 ·have:=(ko.1 p) m (l.length - 1) u F F;rw[(aK.1 g).2,(aK.1 j).2] at this;omega
structure NF (c:Int) (s:en) (t:Int) (o:aJ) (m:b2) (L:ad) (k:Nat) (sgZ:aS) (l:ad) :Prop where
 ny:l=L
 eZ:sgZ 1=.i6 t
 hP:sgZ 3=ah m
 hQ:sgZ 4=.ptr 0 0 2
 lm:sgZ 6=.ptr 1 0 11
 nw:sgZ 8=.ptr 2 0 2
 Cd:sgZ 10=.ptr 3 0 32
 HI:sgZ 12=.i6 k
 jy:∀ (j:Nat) (z:az),j<k->s.l[j]?=some z->¬ t<=z.aB
theorem Vm (c:Int) (s:en) (T:fj s.l) (cs:s.l.length<=900000) (t:Int) (o:aJ) (aM:dm o) (m:b2) (bl:c6 m) (bp:m.l.length<=1000000) :
  aW 60 [.af (bA c s),.i6 t,.af (av o),ah m] (zG c s.l t o m):=by
 apply a8 func60 [cR 0 7++[[7,1]]];unfold zG;have bk:bz (.Z 45) (ch s)=_:=b6 _;have bh:=fU s;have aD:=du o;have bJ:=bM m;have aC:=DB c s T F;have X:=Dz o aM;have bo:=J5 o aM m bl bp;have aG:=yO o;have v:=br aG;have bs:=nL c s T F (bd o) aG;have bi:=lp (bd o) (s.l.map az.id) 0;have bc:=cG (bd o);have aE:aq [U.af (bA c s)]=true:=by simp[bA,aq,U.ar,bh]
 obtain⟨K,aA⟩:=al (av o);have I:K.length=11:=by rw[aA];rfl
 have aS:aO ⟨t,o,bd o,m⟩=.i6 t::(K++(am (bd o)++[ah m])):=by rw[aA];rfl
 have aQ:h4 ⟨t,o,bd o,m⟩:=⟨aM,aG,bl,bp⟩
 have aV:=EE _ aQ;have bS:=(eQ aQ).len;have bf:=jf ⟨t,o,bd o,m⟩;have Y:=(eQ (xo aQ)).len;have bK:=jf (bj ⟨t,o,bd o,m⟩);rw[<-aA] at X bo aD ⊢;have bL:eo (bd o)=.af (am (bd o)):=rfl;rw[bL] at X;obtain⟨D,bF⟩:=al (am (bd o));rw[<-bF] at X v bs bc aS;obtain⟨cm,bG⟩:=al (aO ⟨t,o,bd o,m⟩);obtain⟨cp,bb⟩:=al (aO (bj ⟨t,o,bd o,m⟩));have bW:=Y;rw[<-bG] at aS aV bS bf;rw[<-bb] at aV Y bK;have W:aw (bZ 32 (.int .u8 0)) 0 D=D:=cy (by rw[v];rfl);have bn:(ah m).cells=some [ah m]:=by cases m<;>rfl
 obtain⟨ca,b1,b8,b0,b9⟩:=B4 (t:=t) I v bn;by_cases u:cH c s.l=0
 ·simp[bA,I];refine au aC aE ?_;simp[u,I,aH];refine au X (by simp[aq,U.ar,aD]) ?_;by_cases h1:de o=0
  ·by_cases z:t<0
   ·have g:dB c s.l t o m.l=2:=by unfold dB;simp[u,h1,z]
    rw[g];simp[v,W,h1,z,aH];exact aL
   ·by_cases O:1000000000<t
    ·have g:dB c s.l t o m.l=2:=by unfold dB;simp[u,h1,O]
     rw[g];simp[v,W,h1,z,O,aH];exact aL
    ·simp[v,W,h1,z,O,I,aH];refine au bo (by simp[aq,U.ar,aD,bJ]) ?_;cases ax:eV o m.l with
     | false=>
      have g:dB c s.l t o m.l=2:=by unfold dB;simp[u,h1,ax]
      rw[g];simp;exact aL
     | true=>
      simp[v,aH];refine au bs (show aq [U.af (bA c s),U.af D]=true by simp[bA,aq,U.ar,bh,bc]) ?_;by_cases R:bd o∈s.l.map az.id
      ·have g:dB c s.l t o m.l=14:=by unfold dB;rw[aj F,aj F,aj (by simp[z,O,ax]),ak R]
       have aF:0<=dG (bd o) (s.l.map az.id) 0:=bi.2 R;rw[g];simp[aF];exact aL
      ·have aF:¬ 0<=dG (bd o) (s.l.map az.id) 0:=fun h=>R (bi.1 h)
       have aR:dB c s.l t o m.l=if t<=dM s.l s.l.length then 32 else if (s.l.length:Int)=c then 18 else 0:=by
        unfold dB;rw[aj F,aj F,aj (by simp[z,O,ax]),aj R]
       simp[aF];obtain⟨L,C⟩:=al ([ao.q 2 (bA c s),ao.q 11 K,ao.q 2 [.i6 0,.ae],ao.q 32 D] :ad);have J:L[0]?=some (.q 2 (bA c s)):=by rw[C];rfl
       have bX:L[1]?=some (.q 11 K):=by rw[C];rfl
       have aZ:L[2]?=some (.q 2 [.i6 0,.ae]):=by rw[C];rfl
       have bY:L[3]?=some (.q 32 D):=by rw[C];rfl
       have cw:L.length=4:=by rw[C];rfl
       unfold bA at C J;rw[<-C];have bw:∀ cT:ao,(L.set 2 cT)[2]?=some cT:=fun cT=>bV F
       refine bx s.l.length (NF c s t o m L) ?_ ⟨rfl,V,V,V,V,V,V,V,fun ag G h=>F⟩;rintro k cb l hk ⟨rfl,H,a4,a5,a6,a7,a2,a3,bt⟩;obtain⟨cb,rfl⟩:=xt H a4 a5 a6 a7 a2 a3;clear H a4 a5 a6 a7 a2 a3;simp[J,bk];refine fh (fun h=>?_) (fun h=>?_)
       ·simp only[bI] at h;obtain⟨G,P,aY⟩:=aP (l:=s.l) (k:=k) F;have bD:=cf (k:=k) F;have aI:bO (.Z 45) (ch s) _=_:=c5 P;have a9:=eQ (T G aY);have ap:=a9.aB;have H:=a9.len;obtain⟨cn,bH⟩:=al (aO G);simp only[<-bH] at H ap aI;by_cases B:t<=G.aB
        ·have j:t<=dM s.l s.l.length:=Decidable.byContradiction fun h=>LN u h G aY B
         have g:dB c s.l t o m.l=32:=by rw[aR,ak j]
         rw[g];simp[J,aI,H,ap,B,aZ,bw,aw];exact aL
        ·simp[J,aI,H,ap,B,bD];exact⟨F,rfl,V,V,V,V,V,V,V,fun ag w aK aX=>by
          by_cases bN:ag=k
          ·rw[bN,P] at aX;obtain rfl:=cd aX;exact B
          ·exact bt ag w F aX⟩
       ·have cr:k=s.l.length:=by simp at h;omega
        have B:¬ t<=dM s.l s.l.length:=fun j=>by
         by_cases bq:s.l.length=0
         ·rw[bq] at j;simp[dM] at j;omega
         ·obtain⟨G,P,aY⟩:=aP (l:=s.l) (k:=s.l.length - 1) F;refine bt (s.l.length - 1) G F P ?_;unfold dM at j;rw[aj bq,eR P] at j;exact j
        simp[h,J,bk];refine fh (fun j=>?_) (fun j=>?_)
        ·have ay:(s.l.length:Int)=c:=by simpa using j
         have g:dB c s.l t o m.l=18:=by rw[aR,aj B,ak ay]
         rw[g];simp[aZ,bw,aw];exact aL
        ·have ay:¬ (s.l.length:Int)=c:=by simpa using j
         have g:dB c s.l t o m.l=0:=by rw[aR,aj B,aj ay]
         rw[g];simp[J];refine LV c s T F fun bB p ag S aK ct aT cu=>?_
         simp;have cc:∀ cT:ao,(p++[cT])[1]?=some (.q 11 K):=fun cT=>by rw[aU F,aT 1 F];exact bX
         have ce:∀ cT:ao,(p++[cT])[2]?=some (.q 2 [.i6 0,.ae]):=fun cT=>by rw[aU F,aT 2 F];exact aZ
         have ci:∀ cT:ao,(p++[cT])[3]?=some (.q 32 D):=fun cT=>by rw[aU F,aT 3 F];exact bY
         obtain⟨cx,bv,Q,ai,a0,bC,dh,ee,bE⟩:=oe (s:=bj ⟨t,o,bd o,m⟩) ((S.more [.q 2 [.i6 c,bB]])) bW (by rw[cg];omega);rw[<-bb] at ai;have cv:=S.cells;have bU:=a0.cells;have bR:∀ cT:ao,(p++[cT])[p.length]?=some cT:=fun cT=>nZ
         simp at ai bC ee dh;simp[cc,ci,I,v,aH,ca,b8,b9,b1,b0,bn,<-aS];refine au aV (by simp[aq,U.ar,bf]) ?_;have bT:=g1 Y;simp[Y,bT,ai];refine bP.bm ?_;have cj:Q[2]?=some (.q 2 [.i6 0,.ae]):=by
          rw[dh 2 F (aK.imp id fun h=>F)];exact ce _
         have ck:Q[p.length]?=some (.q 2 [.i6 c,bB]):=by
          rw[dh _ F (S.lt.imp id fun h=>F)];exact bR _
         have cq:4<=bv/\bv≠p.length:=by
          rcases ee with h | ⟨h,h'⟩
          ·omega
          ·have h1:=aK.resolve_left h;have z:=S.lt.resolve_left h;omega
         have b3:∀ cT:ao,(Q.set p.length cT)[p.length]?=some cT:=fun cT=>bV F
         have b4:∀ cT:ao,(Q.set p.length cT)[2]?=some (.q 2 [.i6 0,.ae]):=fun cT=>by rw[bg F];exact cj
         have b5:∀ cT rN:ao,((Q.set p.length cT).set 2 rN)[2]?=some rN:=fun cT rN=>bV (by simp;omega)
         simp[ck,bU,aw,b3,b4,b5];refine zQ (w5 (.same _ rfl) ((a0.cl (.inr (by rw[bg F,bg F]))).q.gG jf (some (s.l.map bj++[bj ⟨t,o,bd o,m⟩])) (by rw[bE];rfl) rfl)) (.same _ rfl)
  ·have g:dB c s.l t o m.l=8:=by unfold dB;simp[u,h1]
   rw[g];simp[v,W,h1,aH];exact aL
 ·have g:dB c s.l t o m.l=cH c s.l:=by unfold dB;simp[u]
  rw[g];simp[bA,I];refine au aC aE ?_;simp[u];refine au aC aE ?_;simp;rw[aj u];exact aL
def yK (c:Int) (l:List az) (x:List B) :U:=if cH c l=0 then .a1 [.bool (decide (x∈l.map az.id)),.i6 0] else .a1 [.bool false,.i6 (cH c l)]
theorem Yx (c:Int) (s:en) (q:fj s.l) (p:s.l.length<=1000000) (x:List B) (t:x.length=32) :aW 96 [.af (bA c s),.af (am x)] (yK c s.l x):=by
 apply a8 func96 [];unfold yK;have o:=fU s;have u:=cG x;have h:=br t;have j:=uR c s q p;have w:=Di s q p x t;have v:=lp x (s.l.map az.id) 0;have m:aq [U.af (bA c s)]=true:=by simp[bA,aq,U.ar,o]
 by_cases g:cH c s.l=0
 ·simp[bA,h];refine au j m ?_;simp[g,h,aH];refine au w (by simp[aq,U.ar,o,u]) ?_;rw[ak g];simp;exact aR (by simp[v]) rfl
 ·simp[bA,h];refine au j m ?_;rw[aj g];simp[g];exact aL
end Op.aI
end Go.bl
namespace Go.bl
open Go Go.Proofs Go.Proofs.Tryz Go.Sort
namespace Op.aI
open cu Op
theorem CN (a:List B) :eM a a=false:=by
 cases h:eM a a with
 | false=>rfl
 | true=>rw[ia,lg] at h;omega
theorem tX (a b c:List B) (h1:eM a b=true) (g:eM b c=true) :eM a c=true:=(ia _ _).2 (ow a b c ((ia _ _).1 h1) ((ia _ _).1 g))
theorem Ix (a b:List B) (g:a≠b) (h:eM a b=false) :eM b a=true:=by
 rw[ia,ov];rcases vJ a b with h1 | h1 | h1
 ·rw[(ia a b).2 F] at h;cases h
 ·exact bW (ou h1) g
 ·omega
end Op.aI
end Go.bl
namespace Go.bl
open Go Go.Proofs Go.Proofs.Tryz
namespace Op.aI
open cu Op
theorem Ee (f:az->az) {l:List az} {k:Nat} (h:k<l.length) :e9 (l.map f) k=f (e9 l k):=by obtain⟨y,g,_⟩:=aP h;rw[eR g,eR (by rw[b1,g];rfl)]
theorem Co (o:aJ) :bd (cw o)=bd o:=rfl
theorem HP {l:List az} {k:Nat} (h:k<l.length) :hR (l.map bj) k=hR l k:=by
 have h1:dM (l.map bj) k=dM l k:=by
  unfold dM;by_cases hk:k=0
  ·rw[ak hk,ak hk]
  ·rw[aj hk,aj hk,Ee _ F];rfl
 have g:((l.map bj).take k).map az.id=(l.take k).map az.id:=by
  rw[<-i3,iL];rfl
 unfold hR;rw[h1,g,Ee _ h];rfl
theorem Dp (c:Int) (l:List az) :cH c (l.map bj)=cH c l:=by
 unfold cH;rw[cg];have:oB (l.map bj)=oB l:=by
  unfold oB;rw[cg];congr 1;exact propext ⟨fun h k hk=>by rw[<-HP hk];exact h k hk,fun h k hk=>by rw[HP hk];exact h k hk⟩
 rw[this]
theorem Rs (l:List az) :(l.map bj).map az.id=l.map az.id:=by rw[iL];rfl
theorem UR (c:Int) (l:List az) (t:Int) (o:aJ) (m:aQ) :dB c (l.map bj) t o m=dB c l t o m:=by
 unfold dB;have h1:dM (l.map bj) (l.map bj).length=dM l l.length:=by
  rw[cg];unfold dM;by_cases hk:l.length=0
  ·rw[ak hk,ak hk]
  ·rw[aj hk,aj hk,Ee _ F];rfl
 rw[Dp,Rs,h1,cg]
theorem KW (o:aJ) :gp (cw o) o=true:=by have:=KV o;unfold gp at this ⊢;exact this
end Op.aI
namespace Op.aI
open cu Op
theorem UX (c:Int) (l:List az) (t:Int) (o:aJ) (m:b2) :zI c l t o m=.a1 [.af (bA (if dB c l t o m.l=0 then c else 0) (if dB c l t o m.l=0 then some (l++[⟨t,o,bd o,m⟩]) else none)),.i6 (dB c l t o m.l)]:=by unfold zI;split<;>rfl
theorem UV (c:Int) (l:List az) (t:Int) (o:aJ) (m:b2) :zG c l t o m=.a1 [.af (bA (if dB c l t o m.l=0 then c else 0) (if dB c l t o m.l=0 then some (l.map bj++[bj ⟨t,o,bd o,m⟩]) else none)),.i6 (dB c l t o m.l)]:=by unfold zG;split<;>rfl
theorem Pm (c:Int) (l:List az) (x:List B) :yl c l x=.a1 [.af (bA (if cH c l=0 then c else 0) (if cH c l=0 then cU (cP x l) else none)),ch (if cH c l=0 then cU (cZ x l) else none),.i6 (cH c l)]:=by
 unfold yl;split
 ·rename_i h;rw[h]
 ·rfl
theorem Pl (c:Int) (l:List az) (x:List B) :yk c l x=.a1 [.af (bA (if cH c l=0 then c else 0) (if cH c l=0 then cU (gn x l) else none)),ch (if cH c l=0 then cU (gD x l) else none),.i6 (cH c l)]:=by
 unfold yk;split
 ·rename_i h;rw[h]
 ·rfl
end Op.aI
namespace Op.aI
open cu Op
theorem UY {c:Int} {l:List az} {t:Int} {o:aJ} {m:b2} (h:dB c l t o m.l=0) :cH c l=0/\de o=0/\eV o m.l=true/\cH c (l++[⟨t,o,bd o,m⟩])=0:=by
 unfold dB at h;by_cases g:cH c l=0
 case neg=>rw[ak g] at h;exact bW h g
 rw[aj F] at h;by_cases h1:de o=0
 case neg=>rw[ak h1] at h;cases h
 rw[aj F] at h;by_cases v:t<0\/1000000000<t\/eV o m.l=false
 case pos=>rw[ak v] at h;cases h
 rw[aj v] at h;by_cases j:bd o∈l.map az.id
 case pos=>rw[ak j] at h;cases h
 rw[aj j] at h;by_cases p:t<=dM l l.length
 case pos=>rw[ak p] at h;cases h
 rw[aj p] at h;by_cases B:(l.length:Int)=c
 case pos=>rw[ak B] at h;cases h
 have w:eV o m.l=true:=by cases K:eV o m.l<;>simp_all
 refine⟨g,h1,w,?_⟩;obtain⟨J,z⟩:=nJ g;obtain⟨q1,H,I⟩:=(pw l).1 z;have D:=LN g p;have C:oB (l++[⟨t,o,bd o,m⟩])=true:=by
  refine (pw _).2 ⟨fun s G=>?_,?_,?_⟩
  ·rcases fx.1 G with h | h
   ·exact q1 s h
   ·rw[gd.1 h];exact⟨h1,rfl,by show 0<=t;omega,by show t<=_;omega,w⟩
  ·refine ru.2 ⟨H,A0 _ _,fun a q b u=>?_⟩;rw[gd.1 u];have:=D a q;show a.aB<t;omega
  ·refine ru.2 ⟨I,A0 _ _,fun a q b u=>?_⟩;rw[gd.1 u];exact fun e=>j (cC.2 ⟨a,q,e⟩)
 unfold cH;rw[aj (by simp only[cF,xL];omega),C];rfl
end Op.aI
namespace Op
open cu aI
structure a6 where
 aC:c9
 bD:Int
 pl:en
 bG:Int
 dP:Bool
def bn (s:a6) :ag:=[.i6 s.aC.cap,dp s.aC.aG.ai,ah s.aC.aG.bE,.i6 s.aC.aG.bL,ah s.aC.ay,.i6 s.bD,ch s.pl,.i6 s.bG,.bool s.dP]
structure dT (s:a6) :Prop where
 aC:iN s.aC
 pl:fj s.pl.l
 len:s.pl.l.length<=900000
theorem jd (s:a6) :aq (bn s)=true:=by simp[bn,aq,U.ar,ky,bM,fU]
structure Nd (s:a6) (R:ag) :Prop where
 len:R.length=9
 all:R.take 9=R
 aC:R.take 5=bJ s.aC
 pen:(R.drop 5).take 2=bA s.bD s.pl
 ord:R[4]?=some (ah s.aC.ay)
 ach:R[6]?=some (ch s.pl)
 bG:R[7]?=some (.i6 s.bG)
 dP:R[8]?=some (.bool s.dP)
 cap:R[0]?=some (.i6 s.aC.cap)
 bD:R[5]?=some (.i6 s.bD)
 aca:∀ h:4<R.length,R[4]'h=ah s.aC.ay
 aci:∀ h:6<R.length,R[6]'h=ch s.pl
 ab8:∀ h:7<R.length,R[7]'h=.i6 s.bG
 ZI:∀ h:8<R.length,R[8]'h=.bool s.dP
 cap' : ∀ h:0<R.length,R[0]'h=.i6 s.aC.cap
 acf:∀ h:5<R.length,R[5]'h=.i6 s.bD
 ar:aq R=true
theorem fK (s:a6) :Nd s (bn s):=⟨rfl,rfl,rfl,rfl,rfl,rfl,rfl,rfl,rfl,rfl,fun _=>rfl,fun _=>rfl,fun _=>rfl,fun _=>rfl,fun _=>rfl,fun _=>rfl,jd s⟩
def ic (g:aQ) (y:List B) :Bool:=!decide (y∈g)
def db (g:aQ) (o:aJ) :aQ:=o.ax.l.filter (ic g)
theorem ws {j:aQ} {o:aJ} (h:dm o) :c6 (eE (db j o)):=fun y g=>by
 rw[kg] at g;exact h.idsZ y (dx.1 g).1
theorem CG {h:aQ} {o:aJ} (g:dm o) :(eE (db h o)).l.length<=1000000:=by rw[kg];exact dC (g4 _ _) g.len
structure M2 (S O:ag) (ord:aQ) (ps:aQ) (P:U) (k:Nat) (sgZ:aS) (l:ad) :Prop where
 ha:sgZ 2=.ptr 0 0 9
 vY:sgZ 9=P
 Cd:sgZ 10=.i6 ps.length
 HH:sgZ 11=.i6 k
 nH:l[0]?=some (.q 9 S)
 ex:∃ v j,sgZ 5=v/\aE 32 l v j (((ps.take k).filter (ic ord)).map am)/\(v=.ae\/2<=j)/\bo v=((ps.take k).filter (ic ord)).isEmpty
theorem BK (s:a6) (aB:dT s) (o:aJ) (C:dm o) :aW 54 [.af (bn s),.af (av o)] (ah (eE (db s.aC.ay.l o))):=by
 apply a8 func54 [];have K:=fK s;have aY:=bM s.aC.ay;have bf:=aB.aC.no;have aZ:=fun x a4=>pZ s.aC.ay aB.aC.ay F x a4
 have aA:(av o).length=11:=rfl;have aT:(av o)[1]?=some (ah o.ax):=rfl;have ag:∀ h,(av o)[1]'h=ah o.ax:=fun _=>rfl
 have a3:bz (.Z 32) (ah o.ax)=_:=b6 _;have bg:=C.len;obtain⟨S,aV⟩:=al (bn s);obtain⟨aQ,X⟩:=al (av o);rw[<-aV] at K ⊢;rw[<-X] at aA aT ⊢;simp only[<-X] at ag;obtain⟨m,bi,bD,bA,bt,bB,bq,bo,bk,bv,a7,bC,bs,bp,bl,bw,bj⟩:=K;simp[aA,ag,a3];refine bx o.ax.l.length (M2 S aQ s.aC.ay.l o.ax.l (ah o.ax)) ?_ ⟨by simp[m],by simp[m],by simp[m],by simp[m],by simp[m],.ae,0,V,.nil 0,.inl rfl,rfl⟩;rintro k a9 l hk ⟨R,W,P,Q,I,aM,aL,T,G,d1,D⟩;obtain⟨a9,rfl⟩:=gv R T W P Q;clear R T W P Q;by_cases z:k<o.ax.l.length
 ·obtain⟨y,aF,aI⟩:=aP z;have t:=br (C.idsZ y aI);have aG:=cG y;have O:=cf (k:=k) F;have ap:bO (.Z 32) (ah o.ax) _=_:=c5 aF;have az:=aZ y (C.idsZ y aI);have j:=CB (p:=ic s.aC.ay.l) aF;have a2:((o.ax.l.take k).filter (ic s.aC.ay.l)).length<=1000000:=by
   refine dC (g4 _ _) ?_;rw[cL];omega
  have H:aE 32 (l++[ao.q 32 (am y)]) aM aL (((o.ax.l.take k).filter (ic s.aC.ay.l)).map am):=G.more _;have J:∀ g:ad,(l++g)[0]?=some (.q 9 S):=fun g=>by rw[aU (aX I)];exact I
  obtain⟨Y,u⟩:=al (am y);have ai:Y.take 32=Y:=aH (by rw[u];omega);rw[<-u] at t ap az aG H;have aD:aw (bZ 32 (.int .u8 0)) 0 Y=Y:=cy (by rw[t];rfl);have aO:∀ (g:ad) (h:0<(l++g).length),(l++g)[0]'h=.q 9 S:=fun g h=>(aK.1 (J g)).2
  simp[z,ap,t,ai,aD,aO,m,a7];refine au az (by simp[aq,U.ar,aY,aG]) ?_;by_cases v:y∈s.aC.ay.l
  ·have B:ic s.aC.ay.l y=false:=by unfold ic;simp[v]
   rw[B,aj V,eK] at j;simp[v,O];exact⟨F,V,V,V,V,J _,aM,aL,V,by rw[j];exact H,d1,by rw[j];exact D⟩
  ·have B:ic s.aC.ay.l y=true:=by unfold ic;simp[v]
   rw[B,ak rfl] at j;obtain⟨bb,a5,bh,w,aR,bc,dh,ee,aS⟩:=Bp H (by rw[<-u];exact t) a2;rw[<-u] at w;simp at w;simp[v,t,ai,aD,w];refine bP.bm ?_;simp[O];have bd:=aX I;refine⟨F,V,V,V,V,?_,bb,a5,V,by rw[j];exact aR,?_,by rw[aS,j];simp⟩
   ·rw[dh 0 V (d1.imp id fun h=>F)];exact J _
   ·rcases ee with h | ⟨h,h'⟩
    ·right;simp at h;omega
    ·right;rw[h'];exact d1.resolve_left h
 ·have a0:k=o.ax.l.length:=F;simp[z];rw[a0,e3] at G D;exact G.q.gG cG (eE _) (by rw[D,Eu];rfl) (kg _)
structure MZ (O:ag) (g:b2) (ps:aQ) (k:Nat) (sgZ:aS) (l:ad) :Prop where
 kF:sgZ 0=ah g
 hP:sgZ 3=.ptr 0 0 11
 lm:sgZ 6=.i6 k
 nH:l[0]?=some (.q 11 O)
 ex:∃ v j,sgZ 5=v/\aE 32 l v j (((ps.take k).filter (ic g.l)).map am)/\(v=.ae\/1<=j)/\bo v=((ps.take k).filter (ic g.l)).isEmpty
theorem BJ (g:b2) (aI:c6 g) (aK:g.l.length<=1000000) (o:aJ) (G:dm o) :aW 36 [ah g,.af (av o)] (ah (eE (db g.l o))):=by
 apply a8 func36 [];have aC:=bM g;have aD:=fun x aM=>zK g aI aK x aM
 have t:(av o).length=11:=rfl;have aB:(av o)[1]?=some (ah o.ax):=rfl;have v:∀ h,(av o)[1]'h=ah o.ax:=fun _=>rfl
 have ag:bz (.Z 32) (ah o.ax)=_:=b6 _;have aY:=G.len;obtain⟨I,S⟩:=al (av o);rw[<-S] at t aB ⊢;simp only[<-S] at v;simp[t];refine bx o.ax.l.length (MZ I g o.ax.l) ?_ ⟨V,V,V,V,.ae,0,V,.nil 0,.inl rfl,rfl⟩;rintro k aR l hk ⟨O,P,R,j,aS,aO,Q,z,d1,H⟩;obtain⟨aR,rfl⟩:=eO O P Q R;clear O P Q R;by_cases C:k<o.ax.l.length
 ·obtain⟨y,ai,ap⟩:=aP C;have u:=br (G.idsZ y ap);have ao:=cG y;have K:=cf (k:=k) F;have B:bO (.Z 32) (ah o.ax) _=_:=c5 ai;have X:=aD y (G.idsZ y ap);have m:=CB (p:=ic g.l) ai;have aF:((o.ax.l.take k).filter (ic g.l)).length<=1000000:=by
   refine dC (g4 _ _) ?_;rw[cL];omega
  have a0:∀ ay:ad,(l++ay)[0]?=some (.q 11 I):=fun ay=>by rw[aU (aX j)];exact j
  obtain⟨aT,aQ,aZ,J,az,aV,dh,ee,aA⟩:=Bp z u aF;obtain⟨Y,T⟩:=al (am y);have W:Y.take 32=Y:=aH (by rw[T];omega);rw[<-T] at u B X ao J;have aL:aw (bZ 32 (.int .u8 0)) 0 Y=Y:=cy (by rw[u];rfl);simp[C,B,u,W,j,t,v,ag];refine au X (by simp[aq,U.ar,aC,ao]) ?_;by_cases w:y∈g.l
  ·have D:ic g.l y=false:=by unfold ic;simp[w]
   rw[D,aj V,eK] at m;simp[w,K];exact⟨F,V,V,V,j,aS,aO,V,by rw[m];exact z,d1,by rw[m];exact H⟩
  ·have D:ic g.l y=true:=by unfold ic;simp[w]
   rw[D,ak rfl] at m;simp[w,B,u,W,aL,j,t,v,J];refine bP.bm ?_;simp[K];have aG:=aX j;refine⟨F,V,V,V,?_,aT,aQ,V,by rw[m];exact az,?_,by rw[aA,m];simp⟩
   ·rw[dh 0 aG (d1.imp id fun h=>F)];exact j
   ·rcases ee with h | ⟨h,h'⟩
    ·right;omega
    ·right;rw[h'];exact d1.resolve_left h
 ·have aE:k=o.ax.l.length:=F;simp[C,j,t,v,ag];rw[aE,e3] at z H;exact z.q.gG cG (eE _) (by rw[H,Eu];rfl) (kg _)
open cu aI
def pv (s:a6) (x:az) :Bool:=decide (x.aB<s.bG)&&(decide (ei x.op=0)&&(decide (x.id∉s.aC.ay.l)&&decide (x.a2.l=db s.aC.ay.l x.op)))
noncomputable def qY (s:a6) :Bool:=decide (fl s.aC=0)&&(decide (cH s.bD s.pl.l=0)&&(decide (0<=s.bG)&&decide (s.bG<=1000000000)))
def vv (s:a6) :Bool:=decide (∀ k,k<s.pl.l.length->pv s (e9 s.pl.l k)=true)
noncomputable def fP (s:a6) :Int:=if qY s&&vv s then 0 else 8
theorem ra {s:a6} (h:qY s=false) :fP s=8:=by unfold fP;rw[h];rfl
theorem q9 {s:a6} {k:Nat} (hk:k<s.pl.l.length) (h:pv s (e9 s.pl.l k)=false) :fP s=8:=by
 unfold fP;have:vv s=false:=by
  unfold vv;rw[ct];intro g;have:=g k hk;rw[h] at this;cases this
 rw[this,uY];rfl
theorem Ll {s:a6} (h:qY s=true) (g:∀ k,k<s.pl.l.length->pv s (e9 s.pl.l k)=true) :fP s=0:=by unfold fP vv;rw[h,ca g];rfl
structure MX (s:a6) (k:Nat) (sgZ:aS) (l:ad) :Prop where
 eZ:sgZ 1=.ptr 0 0 9
 yJ:sgZ 27=ch s.pl
 Q2:sgZ 28=.i6 s.pl.l.length
 Q3:sgZ 29=.i6 k
 nH:l[0]?=some (.q 9 (bn s))
 jy:∀ j,j<k->pv s (e9 s.pl.l j)=true
theorem GV (s:a6) (m:dT s) :aW 24 [.af (bn s)] (.i6 (fP s)):=by
 apply a8 func24 [cR 0 25++[[25,21]]];have Q:=fK s;have aT:=je s.aC;have aS:aq (bA s.bD s.pl)=true:=by simp[bA,aq,U.ar,fU]
 have aJ:=KU s.aC m.aC;have aZ:=uR s.bD s.pl m.pl (by have:=m.len;omega);have aY:bz (.Z 45) (ch s.pl)=_:=b6 _;have bj:=m.aC.no;have C:qY s=(decide (fl s.aC=0)&&(decide (cH s.bD s.pl.l=0)&&(decide (0<=s.bG)&&decide (s.bG<=1000000000)))):=rfl;have aQ:=bM s.aC.ay;obtain⟨S,z⟩:=al (bn s);rw[<-z] at Q ⊢;obtain⟨o,a7,bf,bc,bq,bv,bp,bm,bk,bs,bb,bd,H,bo,bl,bt,a9⟩:=Q;simp[o,bf];refine au aJ (by simp[aq,U.ar,aT]) ?_;by_cases h1:fl s.aC=0
 ·simp[h1,o,bc];refine au aZ (by simp[aq,U.ar,aS]) ?_;by_cases v:cH s.bD s.pl.l=0
  ·by_cases J:s.bG<0
   ·simp[h1,v,J,o,H];exact aR (by rw[ra (by rw[C,ct (show ¬ 0<=s.bG by omega)];simp)]) rfl
   ·by_cases ag:1000000000<s.bG
    ·simp[h1,v,J,ag,o,H];exact aR (by rw[ra (by rw[C,ct (show ¬ s.bG<=1000000000 by omega)];simp)]) rfl
    ·have a0:qY s=true:=by rw[C,ca h1,ca v,ca (show 0<=s.bG by omega),ca (show s.bG<=1000000000 by omega)];rfl
     simp[h1,v,J,ag,o,H,bd,aY];refine bx s.pl.l.length (MX s) ?_ ⟨V,V,V,V,by simp[z],fun D h=>F⟩;rintro k bg l hk ⟨R,T,W,Y,P,aw⟩;obtain⟨bg,rfl⟩:=eO R T W Y;clear R T W Y;rw[<-z] at P;by_cases p:k<s.pl.l.length
     ·obtain⟨x,az,a4⟩:=aP p;have j:=m.pl x a4;have w:=eQ j;have aE:IntKind.i64.wrap ((k:Int)+1)=((k+1:Nat) :Int):=by rw[IntKind.wrap_i64];have:=m.len;omega
      have ao:bO (.Z 45) (ch s.pl) _=_:=c5 az;have aI:=eR az;have ax:=xw x.op j.op;have ap:=pZ s.aC.ay m.aC.ay F x.id j.id;have K:=BK s m x.op j.op;have heq:=Hg x.a2 (eE (db s.aC.ay.l x.op)) j.a2 (ws j.op) j.len;rw[kg] at heq;have a5:=br j.id;have O:=du x.op;have aM:=bM x.a2;have aL:=bM (eE (db s.aC.ay.l x.op));have ak:=cG x.id;have B:pv s (e9 s.pl.l k)=(decide (x.aB<s.bG)&&(decide (ei x.op=0)&&(decide (x.id∉s.aC.ay.l)&&decide (x.a2.l=db s.aC.ay.l x.op)))):=by rw[aI];rfl
      obtain⟨X,aj⟩:=al (aO x);rw[<-aj] at w ao;obtain⟨aD,ai⟩:=al (av x.op);obtain⟨bh,aF⟩:=al (am x.id);have f1:=w.len;have f2:=w.aB;have f3:=w.op;have f4:=w.id;have f5:=w.a2;rw[<-ai] at f3 ax K O;rw[<-aF] at f4 ap a5 ak;rw[<-z] at K;have aG:X.take 45=X:=aH F;have f20:X[0]?=some (.i6 x.aB):=by rw[aj];rfl
      have f50:X[44]?=some (ah x.a2):=by rw[bK F,f5]
      have bi:aD.length=11:=by rw[ai];rfl
      have a3:=g1 f1;have aA:∀ t:ad,(l++t)[0]?=some (.q 9 S):=fun t=>by rw[aU (aX P)];exact P
      have I:∀ (t:ad) (h:0<(l++t).length),(l++t)[0]'h=.q 9 S:=fun t h=>(aK.1 (aA t)).2
      simp[p,ao,f1,aG,a3,I,o,H,f2];by_cases q1:s.bG<=x.aB
      ·simp[q1];exact aR (by rw[q9 p (by rw[B,ct (show ¬ x.aB<s.bG by omega)];rfl)]) rfl
      ·simp[q1,f1,f3];refine au ax (by simp[aq,U.ar,O]) ?_;by_cases g:ei x.op=0
       ·simp[q1,g,I,o,bb,f1,f4];refine au ap (by simp[aq,U.ar,aQ,ak]) ?_;by_cases u:x.id∈s.aC.ay.l
        ·simp[q1,g,u];exact aR (by rw[q9 p (by rw[B,ct (show ¬ x.id∉s.aC.ay.l by simpa using u)];simp)]) rfl
        ·simp[q1,g,u,f1,f5,I,o,a7,f3];refine au K (by simp[aq,U.ar,O,a9]) ?_;simp[q1,g,u];refine⟨f50,au heq (by simp[aq,aM,aL]) ?_⟩;by_cases G:x.a2.l=db s.aC.ay.l x.op
         ·simp[q1,g,u,G,aE];refine⟨F,V,V,V,V,by rw[<-z];exact aA _,fun D aV=>?_⟩;by_cases e:D=k
          ·subst e;rw[B,ca (show x.aB<s.bG by omega),ca g,ca u,ca G];rfl
          ·exact aw D F
         ·simp[q1,g,u,G];exact aR (by rw[q9 p (by rw[B,ct G];simp)]) rfl
       ·simp[q1,g];exact aR (by rw[q9 p (by rw[B,ct g];simp)]) rfl
     ·simp[p];exact aR (by rw[Ll a0 fun D aV=>aw D F]) rfl
  ·simp[v];exact aR (by rw[ra (by rw[C,ct v];simp)]) rfl
 ·simp[h1];exact aR (by rw[ra (by rw[C,ct h1];simp)]) rfl
structure M3 (s:a6) (k:Nat) (sgZ:aS) (l:ad) :Prop where
 eZ:sgZ 1=.ptr 0 0 9
 hP:sgZ 3=.i6 k
 nH:l[0]?=some (.q 9 (bn s))
 jy:∀ j,j<k->pv s (e9 s.pl.l j)=true
theorem GX (s:a6) (o:dT s) :aW 25 [.af (bn s)] (.i6 (fP s)):=by
 apply a8 func25 [cR 0 27++[[27,21]]];have P:=fK s;have aV:=je s.aC;have aT:aq (bA s.bD s.pl)=true:=by simp[bA,aq,U.ar,fU]
 have aM:=Kb s.aC o.aC;have aZ:=DB s.bD s.pl o.pl (by have:=o.len;omega);have ao:bz (.Z 45) (ch s.pl)=_:=b6 _;have bf:=o.aC.no;have B:qY s=(decide (fl s.aC=0)&&(decide (cH s.bD s.pl.l=0)&&(decide (0<=s.bG)&&decide (s.bG<=1000000000)))):=rfl;have ai:=bM s.aC.ay;obtain⟨S,G⟩:=al (bn s);rw[<-G] at P ⊢;obtain⟨j,bg,a9,a7,bo,bs,bm,bk,bi,bp,aD,aE,I,bl,bj,bq,bh⟩:=P;simp[j,a9];refine au aM (by simp[aq,U.ar,aV]) ?_;by_cases h1:fl s.aC=0
 ·simp[h1,j,a7];refine au aZ (by simp[aq,U.ar,aT]) ?_;by_cases v:cH s.bD s.pl.l=0
  ·by_cases K:s.bG<0
   ·simp[h1,v,K,j,I];exact aR (by rw[ra (by rw[B,ct (show ¬ 0<=s.bG by omega)];simp)]) rfl
   ·by_cases T:1000000000<s.bG
    ·simp[h1,v,K,T,j,I];exact aR (by rw[ra (by rw[B,ct (show ¬ s.bG<=1000000000 by omega)];simp)]) rfl
    ·have a0:qY s=true:=by rw[B,ca h1,ca v,ca (show 0<=s.bG by omega),ca (show s.bG<=1000000000 by omega)];rfl
     simp[h1,v,K,T,j,I];refine bx s.pl.l.length (M3 s) ?_ ⟨V,V,by simp[G],fun C h=>F⟩;rintro k bb l hk ⟨Q,R,D,aw⟩;obtain⟨bb,rfl⟩:=kh Q R;clear Q R;rw[<-G] at D;by_cases p:k<s.pl.l.length
     ·obtain⟨x,az,a4⟩:=aP p;have m:=o.pl x a4;have w:=eQ m;have aG:IntKind.i64.wrap ((k:Int)+1)=((k+1:Nat) :Int):=by rw[IntKind.wrap_i64];have:=o.len;omega
      have aj:bO (.Z 45) (ch s.pl) _=_:=c5 az;have aL:=eR az;have ax:=zN x.op m.op;have ak:=zK s.aC.ay o.aC.ay F x.id m.id;have ap:=BJ s.aC.ay o.aC.ay F x.op m.op;have heq:=sD x.a2 (eE (db s.aC.ay.l x.op)) m.a2 (ws m.op) m.len;rw[kg] at heq;have a5:=br m.id;have O:=du x.op;have aS:=bM x.a2;have aQ:=bM (eE (db s.aC.ay.l x.op));have ag:=cG x.id;have z:pv s (e9 s.pl.l k)=(decide (x.aB<s.bG)&&(decide (ei x.op=0)&&(decide (x.id∉s.aC.ay.l)&&decide (x.a2.l=db s.aC.ay.l x.op)))):=by rw[aL];rfl
      obtain⟨X,Y⟩:=al (aO x);rw[<-Y] at w aj;obtain⟨aF,W⟩:=al (av x.op);obtain⟨bc,aI⟩:=al (am x.id);have f1:=w.len;have f2:=w.aB;have f3:=w.op;have f4:=w.id;have f5:=w.a2;rw[<-W] at f3 ax ap O;rw[<-aI] at f4 ak a5 ag;have aJ:X.take 45=X:=aH F;have f20:X[0]?=some (.i6 x.aB):=by rw[Y];rfl
      have f50:X[44]?=some (ah x.a2):=by rw[bK F,f5]
      have bd:aF.length=11:=by rw[W];rfl
      have a3:=g1 f1;have aA:∀ t:ad,(l++t)[0]?=some (.q 9 S):=fun t=>by rw[aU (aX D)];exact D
      have J:∀ (t:ad) (h:0<(l++t).length),(l++t)[0]'h=.q 9 S:=fun t h=>(aK.1 (aA t)).2
      simp[D,j,aE,ao,p,aj,f1,aJ,a3,J,I,f2];by_cases q1:s.bG<=x.aB
      ·simp[q1];exact aR (by rw[q9 p (by rw[z,ct (show ¬ x.aB<s.bG by omega)];rfl)]) rfl
      ·simp[q1,f1,f3];refine au ax (by simp[aq,U.ar,O]) ?_;by_cases g:ei x.op=0
       ·simp[q1,g,J,j,aD,f1,f4];refine au ak (by simp[aq,U.ar,ai,ag]) ?_;by_cases u:x.id∈s.aC.ay.l
        ·simp[q1,g,u];exact aR (by rw[q9 p (by rw[z,ct (show ¬ x.id∉s.aC.ay.l by simpa using u)];simp)]) rfl
        ·simp[q1,g,u,f1,f5,J,j,aD,f3];refine au ap (by simp[aq,U.ar,O,ai]) ?_;simp[q1,g,u];refine⟨f50,au heq (by simp[aq,aS,aQ]) ?_⟩;by_cases H:x.a2.l=db s.aC.ay.l x.op
         ·simp[q1,g,u,H,aG];refine⟨F,V,V,by rw[<-G];exact aA _,fun C aY=>?_⟩;by_cases e:C=k
          ·subst e;rw[z,ca (show x.aB<s.bG by omega),ca g,ca u,ca H];rfl
          ·exact aw C F
         ·simp[q1,g,u,H];exact aR (by rw[q9 p (by rw[z,ct H];simp)]) rfl
       ·simp[q1,g];exact aR (by rw[q9 p (by rw[z,ct g];simp)]) rfl
     ·simp[D,j,aE,ao,p];exact aR (by rw[Ll a0 fun C aY=>aw C F]) rfl
  ·simp[v];exact aR (by rw[ra (by rw[B,ct v];simp)]) rfl
 ·simp[h1];exact aR (by rw[ra (by rw[B,ct h1];simp)]) rfl
open cu aI
def eJ (s:a6) (j:cb) :Int:=
 if j.b0=0 then
  (if s.dP then 9 else if j.id∈s.aC.ay.l\/j.id∈s.pl.l.map az.id then 5
   else if db s.aC.ay.l j.op=[] then (if (s.aC.ay.l.length:Int)=s.aC.cap then 8 else 1)
   else if (s.pl.l.length:Int)<s.bD then 6 else 7)
 else (u j.b0:Int)
theorem PF (s:a6) (t:dT s) (aF:cH s.bD s.pl.l=0) (j:cb) (D:fo j) :aW 52 [.af (bn s),.af (ed j)] (.int .u8 (eJ s j)):=by
 apply a8 func52 [];have Q:=fK s;have J:=l4 D;have ax:aq (bA s.bD s.pl)=true:=by simp[bA,aq,U.ar,fU]
 have aB:bz (.Z 45) (ch s.pl)=_:=b6 _;have aD:bz (.Z 32) (ah s.aC.ay)=_:=b6 _;have aS:=t.aC.no;have aw:=bM s.aC.ay;have C:=Yx s.bD s.pl t.pl (by have:=t.len;omega) j.id D.id;have aA:yK s.bD s.pl.l j.id=.a1 [.bool (decide (j.id∈s.pl.l.map az.id)),.i6 0]:=by unfold yK;rw[ak aF]
 rw[aA] at C;obtain⟨R,K⟩:=al (decide (j.id∈s.pl.l.map az.id));rw[<-K] at C;have P:=BK s t j.op D.op;have aE:bz (.Z 32) (ah (eE (db s.aC.ay.l j.op)))=some (.i6 ((db s.aC.ay.l j.op).length)):=by
  have:(eE (db s.aC.ay.l j.op)).l.length=(db s.aC.ay.l j.op).length:=by rw[kg]
  simp[ah,this]
 have W:=pZ s.aC.ay t.aC.ay F j.id D.id;have O:=cG j.id;have X:=du j.op;have Y:(u j.b0:Int)=0<->j.b0=0:=hY j.b0 0;obtain⟨aQ,ap⟩:=al (bn s);obtain⟨L,ao⟩:=al (ed j);obtain⟨aP,V⟩:=al (av j.op);obtain⟨aO,T⟩:=al (am j.id);rw[<-ap] at Q P ⊢;rw[<-ao] at J ⊢;rw[<-T] at C W O;rw[<-V] at P X;obtain⟨q,aG,a9,aL,a4,a7,a2,a0,aZ,a5,ai,aM,a3,aJ,aI,aK,aH⟩:=Q;obtain⟨v,aV,ag,ad,iu,aX,aY,aT,aU⟩:=J;rw[<-V] at ad;rw[<-T] at iu;simp[q,aL,v,iu];refine au C (by simp[aq,U.ar,ax,O]) ?_;simp[q,aG,v,ad];refine au P (by simp[aq,U.ar,aH,X]) ?_;simp[aE,v,ag];by_cases h1:j.b0=0
 ·have G:=Y.2 h1;have o:eJ s j=(if s.dP then 9 else if j.id∈s.aC.ay.l\/j.id∈s.pl.l.map az.id then 5
   else if db s.aC.ay.l j.op=[] then (if (s.aC.ay.l.length:Int)=s.aC.cap then 8 else 1)
   else if (s.pl.l.length:Int)<s.bD then 6 else 7):=by unfold eJ;rw[ak h1]
  simp[G,q,aJ];cases S:s.dP with
  | true=>
   simp;exact aR (by rw[o,ak S]) rfl
  | false=>
   have p:¬ s.dP=true:=by rw[S];simp
   by_cases w:j.id∈s.pl.l.map az.id
   ·have I:R=true:=by rw[K,ca w]
    simp[I];exact aR (by rw[o,aj p,ak (.inr w)]) rfl
   ·have I:R=false:=by rw[K,ct w]
    simp[I,q,ai,v,iu];refine au W (by simp[aq,U.ar,aw,O]) ?_;by_cases B:j.id∈s.aC.ay.l
    ·simp[B];exact aR (by rw[o,aj p,ak (.inl B)]) rfl
    ·have z:¬ (j.id∈s.aC.ay.l\/j.id∈s.pl.l.map az.id):=by rintro (h | h);exact B h;exact w h
     simp[B];by_cases m:db s.aC.ay.l j.op=[]
     ·have H:¬ 0<(db s.aC.ay.l j.op).length:=by rw[m];simp
      simp[m,q,ai,aI,aD];by_cases g:(s.aC.ay.l.length:Int)=s.aC.cap
      ·simp[g];exact aR (by rw[o,aj p,aj z,ak m,ak g]) rfl
      ·simp[g];exact aR (by rw[o,aj p,aj z,ak m,aj g]) rfl
     ·have H:0<(db s.aC.ay.l j.op).length:=qa.2 m;simp[H,q,aM,aK,aB];by_cases g:(s.pl.l.length:Int)<s.bD
      ·simp[g];exact aR (by rw[o,aj p,aj z,aj m,ak g]) rfl
      ·simp[g,H];exact aR (by rw[o,aj p,aj z,aj m,aj g]) rfl
 ·have G:¬ (u j.b0:Int)=0:=fun h=>h1 (Y.1 h)
  simp[G,v,ag];exact aR (by unfold eJ;rw[aj h1]) rfl
theorem PP (s:a6) (v:dT s) (j:cb) (C:fo j) :aW 58 [.af (bn s),.af (ed j)] (.int .u8 (eJ s j)):=by
 apply a8 func58 [];have O:=fK s;have J:=l4 C;have ax:aq (bA s.bD s.pl)=true:=by simp[bA,aq,U.ar,fU]
 have aB:bz (.Z 45) (ch s.pl)=_:=b6 _;have aD:bz (.Z 32) (ah s.aC.ay)=_:=b6 _;have aP:=v.aC.no;have T:=bM s.aC.ay;have G:=aI.nL s.bD s.pl v.pl (by have:=v.len;omega) j.id C.id;obtain⟨aE,aA⟩:=al (dG j.id (s.pl.l.map az.id) 0);have I:=lp j.id (s.pl.l.map az.id) 0;rw[<-aA] at G I;have Y:=BJ s.aC.ay v.aC.ay F j.op C.op;have W:bz (.Z 32) (ah (eE (db s.aC.ay.l j.op)))=some (.i6 ((db s.aC.ay.l j.op).length)):=by
  have:(eE (db s.aC.ay.l j.op)).l.length=(db s.aC.ay.l j.op).length:=by rw[kg]
  simp[ah,this]
 have V:=zK s.aC.ay v.aC.ay F j.id C.id;have H:=cG j.id;have ad:=du j.op;have ag:(u j.b0:Int)=0<->j.b0=0:=hY j.b0 0;obtain⟨aO,aw⟩:=al (bn s);obtain⟨L,ap⟩:=al (ed j);obtain⟨aM,S⟩:=al (av j.op);obtain⟨aL,R⟩:=al (am j.id);rw[<-aw] at O ⊢;rw[<-ap] at J ⊢;rw[<-R] at G V H;rw[<-S] at Y ad;obtain⟨t,aX,a9,aJ,a4,a7,a2,a0,aZ,a5,K,aK,a3,aG,aF,aH,aY⟩:=O;obtain⟨w,aT,ao,ai,iu,aU,aV,aQ,aS⟩:=J;rw[<-S] at ai;rw[<-R] at iu;simp[w,ao];by_cases h1:j.b0=0
 ·have D:=ag.2 h1;have o:eJ s j=(if s.dP then 9 else if j.id∈s.aC.ay.l\/j.id∈s.pl.l.map az.id then 5
   else if db s.aC.ay.l j.op=[] then (if (s.aC.ay.l.length:Int)=s.aC.cap then 8 else 1)
   else if (s.pl.l.length:Int)<s.bD then 6 else 7):=by unfold eJ;rw[ak h1]
  simp[D,t,aG];cases P:s.dP with
  | true=>
   simp;exact aR (by rw[o,ak P]) rfl
  | false=>
   have p:¬ s.dP=true:=by rw[P];simp
   simp[t,K,w,iu];refine au V (by simp[aq,U.ar,T,H]) ?_;by_cases q:j.id∈s.aC.ay.l
   ·simp[q];exact aR (by rw[o,aj p,ak (.inl q)]) rfl
   ·simp[q,t,aJ,w,iu];refine au G (by simp[aq,U.ar,ax,H]) ?_;by_cases z:0<=aE
    ·simp[q,z];exact aR (by rw[o,aj p,ak (.inr (I.1 z))]) rfl
    ·have B:¬ (j.id∈s.aC.ay.l\/j.id∈s.pl.l.map az.id):=by rintro (h | h);exact q h;exact z (I.2 h)
     simp[q,z,t,K,w,ai];refine au Y (by simp[aq,U.ar,T,ad]) ?_;by_cases m:db s.aC.ay.l j.op=[]
     ·have Q:¬ 0<(db s.aC.ay.l j.op).length:=by rw[m];simp
      have X:=W;rw[m] at X;simp[X,m,t,K,aF,aD];by_cases g:(s.aC.ay.l.length:Int)=s.aC.cap
      ·simp[g];exact aR (by rw[o,aj p,aj B,ak m,ak g]) rfl
      ·simp[g];exact aR (by rw[o,aj p,aj B,ak m,aj g]) rfl
     ·have Q:0<(db s.aC.ay.l j.op).length:=qa.2 m;simp[W,Q,t,aK,aH,aB];by_cases g:(s.pl.l.length:Int)<s.bD
      ·simp[g];exact aR (by rw[o,aj p,aj B,aj m,ak g]) rfl
      ·simp[g];exact aR (by rw[o,aj p,aj B,aj m,aj g]) rfl
 ·have D:¬ (u j.b0:Int)=0:=fun h=>h1 (ag.1 h)
  simp[D,w,ao];exact aR (by unfold eJ;rw[aj h1]) rfl
open cu aI
structure MY (s:c9) (k:Nat) (sgZ:aS) (L:ad) :Prop where
 eZ:sgZ 1=.ptr 0 0 5
 ha:sgZ 2=.ptr 1 0 5
 Ce:sgZ 26=.int .i64 s.aG.ai.l.length
 yJ:sgZ 27=.int .i64 k
 z:L[1]?=some (.cells 5 [.int .i64 0,.ae,.ae,.int .i64 0,.ae])
 st:∃ g,sgZ 25=g/\L[0]?=some (.cells 5 [.int .i64 s.cap,g,ah s.aG.bE,.int .i64 s.aG.bL,ah s.ay])/\ob s.aG.ai k 2 g L
theorem PC (s:c9) (w:iN s) :aW 92 [.af (bJ s)] (.af (bJ s)):=by
 apply a8 func92 [cR 0 6++[[7],[6,2]]];have ca:=w.no;have aJ:=bM s.aG.bE;have aK:=bM s.ay;have bN:=gB s.aG.bE;have bP:=gB s.ay;have bb:=l3 s.aG.bE w.aG.bE w.aG.nE;have bd:=l3 s.ay w.ay F;simp[bJ];refine au bd (by simp[aq,aK]) ?_;simp[bP,aw];refine au bb (by simp[aq,aJ]) ?_;simp[bN,aw];refine Gv s.aG.ai (by have:=w.aG.j8;omega) fun aA bZ dW aS=>?_
 have bn:=aS.bz;simp[dW,aw,bn];refine bx s.aG.ai.l.length (MY s) ?_ ⟨V,V,V,V,V,aA,V,V,⟨?_⟩⟩
 ·rintro k m L hk ⟨D,G,I,J,z,aA,H,T,X⟩;obtain⟨m,rfl⟩:=gv D G H I J;clear D G H I J;have a2:IntKind.i64.wrap ((k:Int)+1)=((k+1:Nat) :Int):=by rw[IntKind.wrap_i64];have:=w.aG.j8;omega
  by_cases v:k<s.aG.ai.l.length
  ·rcases X.ex with ⟨am,_⟩ | ⟨t,u,bT,bU,rfl,az,bW⟩
   ·rw[am] at v;simp at v
   ·obtain⟨p,bs,bt⟩:=aP v;have ag:dq s.aG.ai.l k=p:=dr bs;have P:=(w.aG.ai p bt).1;have aL:=hw (lz (ps:=s.aG.ai.l) (wk:=u) (k:=k));rw[pQ] at aL;have ap:=sB (wk:=u) (k:=k) v;rw[aj F,ag] at ap;have a0:((hf s.aG.ai.l u k).flatten.drop (k*2)).take 2=bf p:=B7 lz ap;have bc:=l3 p.idsZ P.idsZ P.li;have a7:=bM p.idsZ;have bO:=gB p.idsZ;have aI:(bf p).length=2:=rfl;have bG:aw [U.ae,.ae] 0 (bf p)=bf p:=cy rfl;have bY:∀ (C:ad) (c:Nat) (b:ao),L[c]?=some b->(L++C)[c]?=some b:=fun C c b O=>by rw[aU (aX O)];exact O
    have a6:∀ h,(bf p)[1]'h=bB p.opsZ:=fun _=>rfl
    have b2:(bf p)[0]?=some (ah p.idsZ):=rfl;simp[v,az,a0,aI,bG,aL,a6];refine⟨F,?_⟩;refine BD p.opsZ P.ji fun w' C bR W=>?_
    have bo:=W.bz;have cb:=P.ji;simp[bo];obtain⟨FB,K⟩:=al (L++ao.cells 2 (bf p) ::C);have a4:L++[ao.cells 2 (bf p)]++C=FB:=by rw[K];simp
    rw[a4] at W;rw[<-K];refine bx p.opsZ.l.length (fun q m B=>B=FB/\m 1=.ptr 0 0 5/\m 2=.ptr 1 0 5/\m 3=.int .i64 k/\m 4=.ptr L.length 0 2/\m 5=w'/\m 25=.Z 2 t 0 s.aG.ai.l.length s.aG.ai.l.length (s.aG.ai.l.length*2)/\m 26=.int .i64 s.aG.ai.l.length/\m 27=.int .i64 k/\m 36=.int .i64 p.opsZ.l.length/\m 37=.int .i64 q) ?_ ⟨rfl,V,V,V,V,V,V,V,V,V,V⟩;rintro q m B cc ⟨rfl,D,G,aC,aF,aH,H,I,J,aD,aE⟩;obtain⟨m,rfl⟩:=L2 D G aC aF aH H I J aD aE;clear D G aC aF aH H I J aD aE;have a3:=cf (k:=q) F;by_cases Q:q<p.opsZ.l.length
    ·obtain⟨o,bq,br⟩:=aP Q;rcases W with ⟨am,_⟩ | ⟨b,b3,b4,rfl,Y⟩
     ·rw[am] at Q;simp at Q
     ·have aO:=P.opsZ o br;have bh:=bM o.ax;have a9:=l3 o.ax aO.idsZ aO.len;have z:∀ e∈p.opsZ.l.map av,e.length=11:=fun e bi=>by obtain⟨y,_,rfl⟩:=cC.1 bi;rfl
      have ak:(p.opsZ.l.map av)[q]?=some (av o):=by rw[b1,bq];rfl
      have bj:(p.opsZ.l.map av).flatten[q*11+1]?=some (ah o.ax):=ll z ak F;have bF:aw (p.opsZ.l.map av).flatten (q*11+1) [ah o.ax]=(p.opsZ.l.map av).flatten:=by
       rw[pt z ak (show 1+[ah o.ax].length<=11 by simp),wQ o,D8 ak]
      have mp:=gB o.ax;have b6:=vX p.opsZ.l;have bH:=uB Y;simp[Q,Y,bj];refine au a9 (by simp[aq,bh]) ?_;simp[Q,Y,bF,mp,a3,bH];omega
    ·have bv:q=p.opsZ.l.length:=F;subst bv;have b8:=aX az;have R:∀ (c:Nat) (b:ao),L[c]?=some b->B[c]?=some b:=fun c b O=>by rw[K,aU (aX O)];exact O
     have bS:B[L.length]?=some (.cells 2 (bf p)):=by rw[K];simp
     have bA:aw (hf s.aG.ai.l u k).flatten (k*2) [ah p.idsZ,w']=(hf s.aG.ai.l (fun i=>if i=k then w' else u i) (k+1)).flatten:=by
      have t1:=pt lz ap (j:=0) (vs:=[ah p.idsZ,w']) V;rw[na,show aw (bf p) 0 [ah p.idsZ,w']=[ah p.idsZ,w'] from rfl] at t1;rw[t1,<-ag,KG v]
     have a5:∀ h,(bf p)[0]'h=ah p.idsZ:=fun _=>rfl
     simp[R _ _ T,bS,aI,a5];refine au bc (by simp[aq,a7]) ?_;have b5:(hf s.aG.ai.l (fun i=>if i=k then w' else u i) (k+1)).flatten.length=s.aG.ai.l.length*2:=by rw[hw lz,pQ]
     have bC:aw [U.ae,.ae] 0 [ah p.idsZ]=[ah p.idsZ,.ae]:=rfl;have bD:aw [ah p.idsZ,U.ae] 1 [w']=[ah p.idsZ,w']:=rfl;simp[R _ _ T,R _ _ az,bC,bD,bO,bR,v,bA,a2];have b9:L.length<=B.length:=by rw[K];simp
     obtain⟨aT,S⟩:=al (ao.cells (s.aG.ai.l.length*2) (hf s.aG.ai.l (fun i=>if i=k then w' else u i) (k+1)).flatten);have ar:∀ (c:Nat) (b:ao),c≠t->L[c]?=some b->(B.set t aT)[c]?=some b:=fun c b h1 g=>by
      rw[bg (fun e=>h1 e.symm)];exact R c b g
     refine⟨F,V,V,V,V,by rw[<-S];exact ar _ _ F z,_,V,by rw[<-S];exact ar _ _ F T,⟨.inr ⟨t,fun i=>if i=k then w' else u i,bT,bU,rfl,bV F,fun i bk bl=>?_⟩⟩⟩;by_cases aM:i=k
     ·subst aM;simp only[if_true];rw[ag,<-S];refine (W.frame fun b h1 g=>?_).mono (by simp;omega);rw[bg (by simp at h1;omega)]
     ·simp only[aj aM];rw[<-S];exact (bW i F bl).frame fun b h1 g=>by
       obtain⟨y,aQ,_⟩:=aP g;rw[aQ];exact ar b y F aQ
  ·have bm:k=s.aG.ai.l.length:=F;subst bm;have cd:=X.cells;have bK:=aX z;have bX:∀ c:ao,(L.set 1 c)[1]?=some c:=fun c=>bV bK
   simp[T,z,aw,bX];have bw:=(X.frame (L':=L.set 1 (ao.cells 5 [U.int .i64 s.cap,aA,ah s.aG.bE,.int .i64 s.aG.bL,ah s.ay])) fun b h1 g=>bg F).rd;refine .af _ _ rfl fun i c b0 h1 g=>?_
   rcases i with _ | _ | _ | _ | _ | i
   ·simp[bJ] at h1 g;subst h1 g;exact .same _ rfl
   ·simp[bJ] at h1 g;subst h1 g;exact bw
   ·simp[bJ] at h1 g;subst h1 g;exact .same _ aJ
   ·simp[bJ] at h1 g;subst h1 g;exact .same _ rfl
   ·simp[bJ] at h1 g;subst h1 g;exact .same _ aK
   ·simp at h1
 ·rcases aS with ⟨bp,bI⟩ | ⟨t,aB,aV,aY,aZ⟩
  ·exact .inl ⟨bp,bI⟩
  ·refine .inr ⟨t,fun _=>.ae,by simp at aB;omega,aV,aY,?_,fun i bk=>F⟩;rw[KH];obtain⟨aR,rfl⟩:∃ aR,t=aR+2:=⟨t - 2,by simp at aB;omega⟩
   simpa using aZ
open cu aI
def i0 (s:a6) :a6:=⟨eF s.aC,s.bD,cU (s.pl.l.map aI.bj),s.bG,s.dP⟩
theorem BL (s:a6) (h:dT s) :aW 11 [.af (bn s)] (.af (bn (i0 s))):=by
 apply a8 func11 [[[0],[1],[3],[4]]++cR 6 4++[[2,9,7,4],[5,9,7]]];have t:=fK s;have F:=je s.aC;have D:aq (bA s.bD s.pl)=true:=by simp[bA,aq,U.ar,fU]
 have u:=VD s.aC h.aC;have j:=XP s.bD s.pl h.pl (by have:=h.len;omega);have C:bn (i0 s)=[.i6 (eF s.aC).cap,dp (eF s.aC).aG.ai,ah (eF s.aC).aG.bE,.i6 (eF s.aC).aG.bL,ah (eF s.aC).ay,.i6 s.bD,ch (cU (s.pl.l.map aI.bj)),.i6 s.bG,.bool s.dP]:=rfl;have g:=jd (i0 s);rw[C] at g ⊢;obtain⟨Q,z⟩:=al (cU (s.pl.l.map aI.bj));rw[<-z] at j g ⊢;obtain⟨H,B⟩:=al (bn s);rw[<-B] at t ⊢;obtain⟨o,I,G,q,S,X,R,P,K,V,T,Y,p,m,O,W,J⟩:=t;have v:bJ (eF s.aC)=[.i6 (eF s.aC).cap,dp (eF s.aC).aG.ai,ah (eF s.aC).aG.bE,.i6 (eF s.aC).aG.bL,ah (eF s.aC).ay]:=rfl;rw[v] at u;have w:bA s.bD Q=[.i6 s.bD,ch Q]:=rfl;rw[w] at j;simp[o,G,q,p,m];refine au u (by simp[aq,U.ar,F]) ?_;simp[o,q,p,m];refine au j (by simp[aq,U.ar,D]) ?_;simp[o,q,p,m,aw];exact .same _ (by simpa [U.ar] using g)
def ox (s:List B) :List UInt8:=s.map fun x=>UInt8.ofNat x.toNat
theorem GZ:∀ {a b:List B},ox a=ox b->a=b
 | [],[],_=>rfl
 | [],_::_,h=>by simp[ox] at h
 | _::_,[],h=>by simp[ox] at h
 | x::a,y::b,h=>by
  simp only[ox,di,List.cons.injEq] at h;have h1:=ci UInt8.toNat h.1;simp only[Ft] at h1;have g:=x.isLt;have j:=y.isLt;rw[GZ (a:=a) (b:=b) h.2,e2 (x:=x) (y:=y) F]
theorem PN (a b:List B) :(ox a=ox b)<->a=b:=⟨GZ,fun h=>by rw[h]⟩
theorem GR:∀ a:List B,jX (a.map a7)=some (ox a)
 | []=>rfl
 | x::a=>by
  simp only[di,jX,GR a,cz];simp[u,ox]
theorem GU {l:ad} {b:Nat} {x:List B} (j:x.length=32) (h:l[b]?=some (.q 32 (am x))) :pj l (.Z 1 b 0 32 32 32)=some (.str (ox x)):=by
 have m:=br j;have g:cr l 1 (.Z 1 b 0 32 32 32)=some (x.map a7,32):=by
  have:am x=x.map a7:=rfl;rw[<-this];simp[cr,h,m,aH]
 unfold pj;simp only[g,GR];rfl
theorem PD {l:ad} {a b:Nat} {x y:List B} (j:x.length=32) (m:y.length=32) (h1:l[a]?=some (.q 32 (am x))) (g:l[b]?=some (.q 32 (am y))) {K:cA} (h:K (.bool (decide (x=y))) l) :
  cM 90 [.Z 1 a 0 32 32 32,.Z 1 b 0 32 32 32] l K:=by apply c0 func90 [];simp[GU j h1,GU m g,PN];exact h
def fz (k:Nat) :List B:=List.replicate k 1#8++List.replicate (32 - k) 0#8
theorem zj {k:Nat} (h:k<=32) :(fz k).length=32:=by unfold fz;simp;omega
theorem PQ (x:List B) (h:x.length=32) {bi:Nat} {l:ad} {xs:aQ} (m:∀ y∈xs,y.length=32) (h1:l[bi]?=some (.q 32 (am x))) :
  td 89 [.ptr bi 0 32] l xs (fun y=>decide (y=x)):=by
 intro y j o v D t;apply c0 func89 [];have g:o[bi]?=some (.q 32 (am x)):=by rw[v.2 _ (aX h1)];exact h1
 have w:=aX g;have p:∀ c:ao,(o++[c])[bi]?=some (.q 32 (am x)):=fun c=>by rw[aU w];exact g
 have z:=br (m y j);have G:=br h;have C:∀ b:Nat,dw (.arr 32 1) (.ptr b 0 32) none none none=some (.Z 1 b 0 32 32 32):=fun b=>uE F
 simp[z,C];refine PD (m y j) h V (p _) ?_;simp;exact t _ ⟨V,fun b u=>aU u⟩
open cu aI
theorem IX (k:Nat) :(fz k).count 1#8=k:=by unfold fz;rw[u3,List.count_replicate_self,List.count_replicate];simp
theorem Tp {a b:Nat} (h:fz a=fz b) :a=b:=by rw[<-IX a,h,IX]
theorem To {m:aQ} (u:m.length<=32) {k:Nat} (hk:k<=32) (h:∀ j,j<k->fz j∈m) (g:fz k∈m) :k<32:=by
 refine Classical.byContradiction fun v=>?_
 have e:k=32:=F;subst e;have p:((List.range 33).map fz).Nodup:=by
  rw[List.Nodup,m8];exact (AY).imp fun q e=>q (Tp e)
 have:=wJ p fun x t=>by
  obtain⟨j,o,rfl⟩:=cC.1 t;rw[g5] at o;by_cases e:j=32
  ·subst e;exact g
  ·exact h j F
 simp at this;omega
theorem Tq {k:Nat} (h:k<32) :aw (am (fz k)) k [.int .u8 1]=am (fz (k+1)):=by
 have g:k<(am (fz k)).length:=by rw[br (zj F)];exact h
 rw[nP _ g];unfold am fz;apply g3;intro i;by_cases e:k=i
 ·subst e;rw[bV (by simpa [am,fz] using g),b1,aU V];simp;rfl
 ·rw[bg e,b1,b1];congr 1;by_cases h1:i<k
  ·rw[aU (by simp;omega),aU (by simp;omega)];simp[h1,show i<k+1 by omega]
  ·rw[eu (by simp;omega),eu (by simp;omega)];simp only[List.length_replicate];rw[AV,AV];by_cases j:i<32
   ·rw[ak F,ak F]
   ·rw[aj F,aj F]
theorem Tn {k:Nat} (h:k<32) :(am (fz k))[k]?=some (.int .u8 0):=by unfold am fz;rw[b1,eu V];simp[show 0<32 - k by omega]
theorem S1 {c:Int} {l:List az} (h:cH c l=0) :(mM l).l.length<=32/\(allM l).length<=32:=by
 obtain⟨h1,g⟩:=nJ h;have j:=((pw l).1 g).1;have o:=N2 (n:=4) fun s m=>S4 (j s m)
 have p:=S0 l;have:l.length<=8:=F;omega
structure M8 (s:a6) (m:b2) (k:Nat) (sgZ:aS) (L:ad) :Prop where
 eZ:sgZ 1=.ptr 0 0 9
 ha:sgZ 2=.ptr 1 0 9
 hP:sgZ 3=.ptr 2 0 32
 hQ:sgZ 4=ah m
 lm:sgZ 6=.i6 k
 nH:L[0]?=some (.q 9 (bn s))
 lw:L[1]?=some (.q 9 [.i6 0,.ae,.ae,.i6 0,.ae,.i6 0,.ae,.i6 0,.bool false])
 jE:L[2]?=some (.q 32 (am (fz k)))
 hm:∀ j,j<k->fz j∈m.l
def iH (s:a6) :a6:=⟨s.aC,s.bD,cU s.pl.l,s.bG,s.dP⟩
theorem G0 (s:a6) (o:dT s) (j:cH s.bD s.pl.l=0) :aW 46 [.af (bn s)] (.af (bn (iH s))):=by
 apply a8 func46 [];have W:=fK s;have aZ:=je s.aC;have ax:aq (bA s.bD s.pl)=true:=by simp[bA,aq,U.ar,fU]
 obtain⟨aA,bv⟩:=S1 j;have bt:=o.len;have I:=YB s.bD s.pl o.pl F F;rw[show za s.bD s.pl.l=.a1 [ah (mM s.pl.l),.i6 0] by unfold za;rw[ak j]] at I;have H:c6 (mM s.pl.l):=fun y K=>by
  obtain⟨x,J,bd⟩:=(IH _ _).1 K;exact (o.pl x J).a2 y bd
 obtain⟨p,aD⟩:=al (mM s.pl.l);rw[<-aD] at I H aA;have a3:fI prog 89=true:=bp;obtain⟨z,h⟩:=al (bn s);rw[<-h] at W ⊢;obtain⟨aL,bB,bW,aM,bO,bT,bM,bI,bF,bR,bP,bU,bN,bK,bH,bS,bC⟩:=W;have bf:aw (bZ 32 (.int .u8 0)) 0 (bZ 32 (.int .u8 0))=am (fz 0):=rfl;have bh:(bZ 32 (.int .u8 0) :ag).length=32:=rfl;have bz:(bZ 32 (.int .u8 0) :ag)=am (fz 0):=rfl;simp[aL,aM,bf,bh];refine au I (by simp[aq,U.ar,ax]) ?_;simp;refine bx 32 (M8 s p) ?_ ⟨V,V,V,V,V,by simp[h],V,V,fun O a5=>F⟩;rintro k bk L hk ⟨X,Y,ad,aj,ap,P,aK,R,aB⟩;obtain⟨bk,rfl⟩:=gv X Y ad aj ap;clear X Y ad aj ap;rw[<-h] at P;simp;refine ym p H F a3 (PQ (fz k) (zj hk) H R) fun g D=>?_
 have v:g[0]?=some (.q 9 z):=by rw[D.2 _ (aX P)];exact P
 have q1:g[1]?=some (.q 9 [.i6 0,.ae,.ae,.i6 0,.ae,.i6 0,.ae,.i6 0,.bool false]):=by rw[D.2 _ (aX aK)];exact aK
 have w:g[2]?=some (.q 32 (am (fz k))):=by rw[D.2 _ (aX R)];exact R
 have aE:=br (zj hk);by_cases m:fz k∈p.l
 ·have G:=To aA hk aB m;have t:p.l.any (fun y=>decide (y=fz k))=true:=s1.2 ⟨_,m,V⟩;have a7:cx .rem .i64 (k:Int) .i64 32=some (.i6 k):=by
   have:(k:Int).tmod 32=k:=Int.tmod_eq_of_lt F F;simp[cx,this]
  have aR:=cf (k:=k) F;have av:=Tn G;have aF:=Tq G;obtain⟨N,aT⟩:=al (am (fz k));rw[<-aT] at w av aF aE;simp[t,a7,w,av,aR,G];have bc:U.int .u8 (u (1#8:B))=.int .u8 1:=rfl;rw[bc,aF];have bj:∀ c:ao,(g.set 2 c)[2]?=some c:=fun c=>bV (aX w)
  refine⟨F,F,V,V,V,V,V,?_,?_,bj _,fun O a5=>?_⟩
  ·rw[bg F,<-h];exact v
  ·rw[bg F];exact q1
  ·by_cases e:O=k
   ·subst e;exact m
   ·exact aB O F
 ·have t:p.l.any (fun y=>decide (y=fz k))=false:=by
   rw[AO];intro y K;simp;intro e;exact m (e ▸ K)
  have C:=Yt s.bD s.pl o.pl F (fz k) (zj hk);obtain⟨aQ,bq⟩:=Po (x:=fz k) ((pw s.pl.l).1 (nJ j).2).1 fun x J a4=>m (by rw[aD];exact (IH _ _).2 ⟨x,J,a4⟩)
  rw[Pm,ak j,ak j,ak j,aQ] at C;have aU:(am (fz k)).take 32=am (fz k):=aH F;have a0:=cG (fz k);have aS:bA s.bD (cU s.pl.l)=[.i6 s.bD,ch (cU s.pl.l)]:=rfl;rw[aS] at C;have aY:=PC s.aC o.aC;have bs:z=[.i6 s.aC.cap,dp s.aC.aG.ai,ah s.aC.aG.bE,.i6 s.aC.aG.bL,ah s.aC.ay,.i6 s.bD,ch s.pl,.i6 s.bG,.bool s.dP]:=h;simp[t,v,w,aL,aM,aE,aU];refine au C (by simp[aq,U.ar,ax,a0]) ?_;have aI:aw z 5 [U.i6 s.bD,ch (cU s.pl.l)]=bn (iH s):=by rw[h];rfl
  have aP:∀ c:ao,(g.set 0 c)[0]?=some c:=fun c=>bV (aX v)
  have bm:∀ c:ao,(g.set 0 c)[1]?=some (.q 9 [.i6 0,.ae,.ae,.i6 0,.ae,.i6 0,.ae,.i6 0,.bool false]):=fun c=>by rw[bg F];exact q1
  have Q:=fK (iH s);have az:=jd (iH s);have aJ:aw (bn (iH s)) 0 (bJ s.aC)=bn (iH s):=rfl;have bb:(iH s).aC=s.aC:=rfl;obtain⟨T,aV⟩:=al (bn (iH s));rw[<-aV] at aI aJ az Q ⊢;obtain⟨S,bl,aO,_⟩:=Q;rw[bb] at aO;have a9:(bJ s.aC).length=5:=rfl;have bw:(bJ s.aC).take 5=bJ s.aC:=rfl;simp[t,v,aI,aP,S,aO];refine au aY (by simp[aq,U.ar,aZ]) ?_;have bi:aw [U.i6 0,.ae,.ae,.i6 0,.ae,.i6 0,.ae,.i6 0,.bool false] 0 T=T:=cy (by rw[S];rfl);have bo:∀ c d:ao,((g.set 0 c).set 1 d)[1]?=some d:=fun c d=>bV (by simpa using aX q1)
  simp[aP,bm,bo,S,bl,a9,aJ,bi];exact .same _ az
end Op
theorem OT {P:bq} {G:Nat->U} {f:cj} {args:ag} {h h' oC:aM} {cs cs' : ag} (C:jR P G f args h (.a1 cs) h') (wk:iP h' oC) (H:cs'.length=cs.length)
  (J:∀ (j:Nat) (c c' : U),cs[j]?=some c->cs'[j]?=some c'->iO h' oC c c') :jR P G f args h (.a1 cs') oC:=by
 intro u B w muZ o rel z I K;refine (C u B w muZ o rel z I K).mono ?_;rintro e w' ⟨m,muZ',rfl,v,t,g⟩;refine⟨m,muZ',rfl,v.trans (wk.ext w' muZ'),wk.rel t,?_⟩;cases g with
 | a1 _ o O g=>
  refine .a1 cs' o F fun j c' m p D=>?_
  have q:j<cs.length:=by rw[<-H];exact (aK.1 p).1
  exact wk.kZ t (J j cs[j] c' (bK q) p) (g j cs[j] m (bK q) D)
theorem OP {P:bq} {G:Nat->U} (u:P.follows .mixedOrders=true) (o:∀ g,(G g).ar=true) {f:cj} {args:ag} {l:ad} {K:cA}
  (h:fS P G f args l (c:=⟨fun r l'=>∃ cs cs' m,r=.a1 cs/\iP (aZ l') (aZ m)/\cs'.length=cs.length/\(∀ (j:Nat) (c c' : U),cs[j]?=some c->cs'[j]?=some c'->iO (aZ l') (aZ m) c c')/\l.length<=m.length/\K (.a1 cs') m⟩)) :fS P G f args l (c:=⟨K⟩):=by obtain⟨r,l',p,z,cs,cs',m,rfl,w,q,v,t,hk⟩:=h;exact⟨.a1 cs',m,.ext (OT (sH u o p) w q v),t,hk⟩
namespace Op.aI
open cu Op
structure M9 (c:Int) (s:en) (x:List B) (gO:Nat) (l0:ad) (k:Nat) (fe:U) (l:ad) :Prop where
 nH:l[gO]?=some (.q 2 (bA c s))
 lw:l[gO+1]?=some (.q 32 (am x))
 jE:l[gO+2]?=some (.q 2 [.i6 0,.ae])
 ex:∃ g h j,l[gO+3]?=some (.q 2 [.i6 c,g])/\aE 45 l fe h ((cZ x (s.l.take k)).map aO)/\aE 45 l g j ((cP x (s.l.take k)).map aO)/\(fe=.ae\/gO+4<=h)/\(g=.ae\/gO+4<=j)/\(fe=.ae\/g=.ae\/h≠j) ∧
  bo fe=(cZ x (s.l.take k)).isEmpty/\bo g=(cP x (s.l.take k)).isEmpty
 len:gO+4<=l.length
 yI:∀ b,b<gO->l[b]?=l0[b]?
structure Na (c:Int) (s:en) (x:List B) (gO:Nat) (l0:ad) (k:Nat) (sgZ:aS) (l:ad) :Prop where
 ha:sgZ 2=.ptr gO 0 2
 hP:sgZ 3=.ptr (gO+1) 0 32
 hQ:sgZ 4=.ptr (gO+2) 0 2
 nw:sgZ 8=.ptr (gO+3) 0 2
 HJ:sgZ 22=ch s
 HK:sgZ 23=.i6 s.l.length
 Q1:sgZ 24=.i6 k
 h:∃ fe,sgZ 9=fe/\M9 c s x gO l0 k fe l
theorem Yu (c:Int) (s:en) (bs:fj s.l) (bX:s.l.length<=1000000) (x:List B) (bw:x.length=32) (bG:cH c s.l=0) {l0:ad} {K:cA}
  (az:∀ C u t v l',l0.length<=l'.length->(∀ b,b<l0.length->l'[b]?=l0[b]?)->aE 45 l' C t ((cZ x s.l).map aO)->aE 45 l' u v ((cP x s.l).map aO)->(C=.ae\/l0.length<=t)->(u=.ae\/l0.length<=v)->(C=.ae\/u=.ae\/t≠v)->bo C=(cZ x s.l).isEmpty->bo u=(cP x s.l).isEmpty->K (.a1 [.af [.i6 c,u],C,.i6 0]) l') :
  cM 91 [.af (bA c s),.af (am x)] l0 K:=by
 apply c0 func91 [];have b0:bz (.Z 45) (ch s)=_:=b6 _;have bR:=fU s;have cp:=br bw;have bM:=uR c s bs bX;have bN:aq [U.af (bA c s)]=true:=by simp[bA,aq,U.ar,bR]
 simp[bA,cp];refine au bM bN ?_;simp[bG,b0];obtain⟨j,R⟩:=al (l0.length);rw[<-R] at az ⊢;refine bx s.l.length (Na c s x j l0) ?_ ⟨V,V,V,V,V,V,V,.ae,V,⟨by rw[R];simp[bA],by rw[R];simp,by rw[R];simp,⟨.ae,0,0,by rw[R];simp,.nil 0,.nil 0,.inl rfl,.inl rfl,.inl rfl,rfl,rfl⟩,by simp[R],fun b o=>aU F⟩⟩;rintro k cz l hk ⟨a5,a9,bb,bc,a6,a7,a8,C,bd,hH⟩;obtain⟨cz,rfl⟩:=Au a5 a9 bb bc bd a6 a7 a8;clear a5 a9 bb bc bd a6 a7 a8;simp;refine fh (fun h=>?_) (fun h=>?_)
 ·simp only[bI] at h;obtain⟨y,aV,cq⟩:=aP (l:=s.l) (k:=k) F;have S:=bs y cq;have bh:=eQ S;have cc:=Er (x:=x) S;have aA:=eQ cc;have a4:=cf (k:=k) F;have bn:bO (.Z 45) (ch s) _=_:=c5 aV;have aT:=xh S.id;obtain⟨aY,aF,aG,⟨u,t,v,ay,ax,J,d1,d2,d3,aC,aD⟩,b1,aB⟩:=hH;obtain⟨n,aR⟩:=al (l.length);have bv:∀ K:cA,(∀ w l',ce 32 am (l++[ao.q 45 (aO y)]) l' w y.a2.l y.a2.isNone->K (.af (ig y w)) l')->cM 101 [.af (aO y)] (l++[ao.q 45 (aO y)]) K:=fun K az=>EF y S az
  obtain⟨P,bK⟩:=al (aO y);rw[<-bK] at bh bn aT bv;have f1:=bh.len;have cj:=g1 f1;simp[bn,f1,cj,aH,<-aR];refine bv _ fun w aX z=>?_
  have bY:=z.le;have b3:(l++[ao.q 45 P]).length=n+1:=by rw[aR];simp
  rw[b3] at bY;have cs:aX[n]?=some (.q 45 P):=by rw[z.same n F,aR];simp
  have aJ:=aT w;have aL:(ig y w).length=45:=by rw[<-aJ,nP w F,km,f1]
  have bj:∀ h:44<(ig y w).length,(ig y w)[44]'h=w:=fun h=>by
   have:(ig y w)[44]?=some w:=by rw[<-aJ,nP w F,bV F]
   exact (aK.1 this).2
  have bl:∀ m:b2,m=nQ x y.a2->aw (ig y w) 44 [ah m]=aO (er x y):=fun m ag=>by
   rw[<-aJ,Lf P 44 _ _ F,aT (ah m),ag];rfl
  obtain⟨lP,bJ⟩:=al (ig y w);rw[<-bJ] at aL bj bl ⊢;have ck:aw P 0 lP=lP:=cy (by rw[aL,f1]);have cv:∀ c:ao,(aX.set n c)[n]?=some c:=fun c=>bV F
  simp[cs,aL,ck,cv,bj]
  -- the struck idsZ
  have cb:ce 32 am ((l++[ao.q 45 P]).set n (.q 45 lP)) (aX.set n (.q 45 lP)) w y.a2.l y.a2.isNone:=by
   obtain⟨cr,H,cC,bD,a3,bE⟩:=z;refine⟨cr,H.cl (a3.imp id fun h=>by rw[bg F]),by simp;omega,fun b o=>?_,a3.imp id V,bE⟩;rw[km] at o;by_cases bL:b=n
   ·rw[bL,bV F,bV F]
   ·rw[bg F,bg F];exact bD b o
  have bk:∀ b,b<n->((l++[ao.q 45 P]).set n (.q 45 lP))[b]?=l[b]?:=fun b o=>by rw[bg F,aU F]
  refine G3 cb S.a2 S.len x bw (bi:=j+1) (by rw[bk (j+1) F];exact aF) fun m av bZ bt b4 b5=>?_
  have ag:=Lt b4 b5;have bH:n+1<=av.length:=by simp at bZ;omega
  have cd:av[n]?=some (.q 45 lP):=by rw[bt n (by simp;omega),bV F]
  have ci:∀ b,b<n->av[b]?=l[b]?:=fun b o=>by rw[bt b (by simp;omega)];exact bk b o
  have b8:(ah m).cells=some [ah m]:=by cases m<;>rfl
  have bf:=bl m ag;have cx:∀ c:ao,(av.set n c)[n]?=some c:=fun c=>bV F
  have aW:∀ h:44<(aO (er x y)).length,(aO (er x y))[44]'h=ah m:=fun h=>by rw[aA.a2 h,ag];rfl
  have bq:bz (.Z 32) (ah m)=_:=b6 _;have ap:=aA.len;obtain⟨O,Y⟩:=al (av.set n (.q 45 (aO (er x y))));have t5:n+1<=O.length:=by rw[Y];simpa using bH
  have t0:∀ b,b<n->O[b]?=l[b]?:=fun b o=>by rw[Y,bg F];exact ci b o
  have t1:O[n]?=some (.q 45 (aO (er x y))):=by rw[Y];exact cx _
  have aZ:aE 45 O C t ((cZ x (s.l.take k)).map aO):=ax.cl (by
   rcases ax.lt with h | h
   ·exact .inl h
   ·exact .inr (t0 t F))
  have a0:aE 45 O u v ((cP x (s.l.take k)).map aO):=J.cl (by
   rcases J.lt with h | h
   ·exact .inl h
   ·exact .inr (t0 v F))
  have bS:(cZ x (s.l.take k)).length<=1000000:=by
   unfold cZ;refine dC (g4 _ _) ?_;rw[cg,cL];omega
  have b9:(cP x (s.l.take k)).length<=1000000:=by
   unfold cP;refine dC (g4 _ _) ?_;rw[cg,cL];omega
  have T:=uH (p:=gone) (f:=er x) aV;have I:=uH (p:=fun s=>!gone s) (f:=er x) aV;have Q:gone (er x y)=decide (m.l.length=0):=by
   have e:(er x y).a2=m:=ag.symm;unfold gone;rw[e];cases m.l<;>simp
  obtain⟨cB,aM⟩:=al (aO (er x y));simp only[<-aM] at bf aW ap t1 Y;simp[cd,b8,bf];rw[<-Y];by_cases ai:m.l.length=0
  ·rw[ai,ca rfl] at Q;rw[Q,ak rfl] at T;rw[Q] at I;simp only[u0,kj,if_false,eK] at I;obtain⟨W,c2,G,X,H,bF,dh,ee,aI⟩:=oe aZ aA.len bS;rw[<-aM] at X;have aS:=g1 ap;simp[t1,ap,aW,bq,ai,aS,aH,X];refine bP.bm ?_;have D:∀ b,b<j+4->G[b]?=l[b]?:=fun b o=>by rw[dh b F (d1.imp id fun h=>F)];exact t0 b F
   have aQ:=a0.lt;have bC:aE 45 G u v ((cP x (s.l.take k)).map aO):=a0.cl (by
    rcases aQ with h | h
    ·exact .inl h
    ·rcases d3 with g | g | g
     ·exact .inr (dh v h (.inl g))
     ·exact .inl g
     ·exact .inr (dh v h (.inr fun e=>g e.symm)))
   simp[a4];refine⟨F,V,V,V,V,V,V,V,W,V,⟨by rw[D j F];exact aY,by rw[D (j+1) F];exact aF,by rw[D (j+2) F];exact aG,⟨u,c2,v,by rw[D (j+3) F];exact ay,?_,?_,.inr ?_,d2,?_,?_,?_⟩,F,fun b o=>by rw[D b F];exact aB b o⟩⟩
   ·show aE 45 G W c2 ((cZ x (s.l.take (k+1))).map aO);unfold cZ at H ⊢;rw[T];exact H
   ·show aE 45 G u v ((cP x (s.l.take (k+1))).map aO);unfold cP at bC ⊢;rw[I];exact bC
   ·rcases ee with h | ⟨h,h'⟩
    ·omega
    ·rw[h'];exact d1.resolve_left h
   ·right;rcases d3 with g | g | g
    ·rcases aQ with z | z
     ·exact .inl z
     ·rcases ee with h | ⟨h,_⟩
      ·exact .inr F
      ·exact bW g h
    ·exact .inl g
    ·rcases aQ with z | z
     ·exact .inl z
     ·rcases ee with h | ⟨_,h'⟩
      ·exact .inr F
      ·exact .inr (by rw[h'];exact g)
   ·rw[aI];unfold cZ;rw[T];simp
   ·rw[aD];unfold cP;rw[I]
  ·rw[ct ai] at Q;rw[Q,aj V,eK] at T;rw[Q] at I;simp only[rq,if_true] at I;obtain⟨W,c2,G,X,H,bF,dh,ee,aI⟩:=oe a0 aA.len b9;rw[<-aM] at X;have aS:=g1 ap;have t3:O[j+3]?=some (.q 2 [.i6 c,u]):=by rw[t0 (j+3) F];exact ay
   have cn:=J.cells;have cm:=H.cells;have cD:¬ m.l=[]:=fun h=>ai (by rw[h];rfl)
   simp[t1,t3,ap,aW,bq,ai,aS,aH,X];refine bP.bm ?_;have D:∀ b,b<j+4->G[b]?=l[b]?:=fun b o=>by rw[dh b F (d2.imp id fun h=>F)];exact t0 b F
   have cu:G[j+3]?=some (.q 2 [.i6 c,u]):=by rw[D (j+3) F];exact ay
   have bp:=aZ.lt;have bT:j+4<=c2:=by
    rcases ee with h | ⟨h,h'⟩
    ·omega
    ·rw[h'];exact d2.resolve_left h
   have bB:aE 45 G C t ((cZ x (s.l.take k)).map aO):=aZ.cl (by
    rcases bp with h | h
    ·exact .inl h
    ·rcases d3 with g | g | g
     ·exact .inl g
     ·exact .inr (dh t h (.inl g))
     ·exact .inr (dh t h (.inr g)))
   simp[cu,cm,aw,a4];refine⟨F,V,V,V,V,V,V,V,C,V,⟨by rw[bg F,D j F];exact aY,by rw[bg F,D (j+1) F];exact aF,by rw[bg F,D (j+2) F];exact aG,⟨W,t,c2,bV F,?_,?_,d1,.inr bT,?_,?_,?_⟩,by simp;omega,fun b o=>by rw[bg F,D b F];exact aB b o⟩⟩
   ·show aE 45 _ C t ((cZ x (s.l.take (k+1))).map aO);refine (show aE 45 G C t ((cZ x (s.l.take (k+1))).map aO) from ?_).cl (d1.imp id fun h=>by rw[bg F]);unfold cZ at bB ⊢;rw[T];exact bB
   ·show aE 45 _ W c2 ((cP x (s.l.take (k+1))).map aO);refine (show aE 45 G W c2 ((cP x (s.l.take (k+1))).map aO) from ?_).cl (.inr (by rw[bg F]));unfold cP at H ⊢;rw[I];exact H
   ·rcases bp with z | z
    ·exact .inl z
    ·rcases ee with h | ⟨h,h'⟩
     ·exact .inr (.inr F)
     ·rcases d3 with g | g | g
      ·exact .inl g
      ·exact bW g h
      ·exact .inr (.inr (by rw[h'];exact g))
   ·rw[aC];unfold cZ;rw[T]
   ·rw[aI];unfold cP;rw[I];simp
 ·simp[h];have bU:k=s.l.length:=by simp at h;omega
  obtain⟨aY,aF,aG,⟨u,t,v,ay,ax,J,d1,d2,d3,aC,aD⟩,b1,aB⟩:=hH;rw[bU,e3] at ax J aC aD;have cw:∀ c:ao,(l.set (j+2) c)[j+2]?=some c:=fun c=>bV F
  have cn:=J.cells;simp[aG,ay,cw,aw];exact az C u t v _ (by simp;omega) (fun b o=>by rw[bg F];exact aB b o) (ax.cl (d1.imp id fun h=>by rw[bg F])) (J.cl (d2.imp id fun h=>by rw[bg F])) (d1.imp id fun h=>F) (d2.imp id fun h=>F) d3 aC aD
theorem Mk (c:Int) (s:en) (G:fj s.l) (D:s.l.length<=1000000) (x:List B) (H:x.length=32) (t:cH c s.l=0) {l0:ad} {K:cA}
  (u:∀ v j l',l0.length<=l'.length->(∀ b,b<l0.length->l'[b]?=l0[b]?)->aE 45 l' v j ((cZ x s.l).map aO)->(v=.ae\/l0.length<=j)->K (.a1 [.af (bA c (cU (cP x s.l))),v,.i6 0]) l') :
  cM 91 [.af (bA c s),.af (am x)] l0 K:=by
 refine OP checked.mixed eG (Yu c s G D x H t fun p S m Q l' P C J O d1 d2 d3 R I=>?_);obtain⟨o,w,r,e,f⟩:=wU (cU (cP x s.l)) O (by rw[I,uL]) (eW _);refine⟨_,[.af (bA c (cU (cP x s.l))),p,.i6 0],o,rfl,w,rfl,fun i a q h1 g=>?_,F,u p m o F (fun b z=>?_) (J.cl ?_) d1⟩
 ·rcases i with _ | _ | _ | i
  ·simp at h1 g;subst h1 g;refine .af _ _ rfl fun i a q h1 g=>?_
   rcases i with _ | _ | i
   ·simp[bA] at h1 g;subst h1 g;exact .same _
   ·simp[bA] at h1 g;subst h1 g;exact r
   ·simp at h1
  ·simp at h1 g;subst h1 g;exact .same _
  ·simp at h1 g;subst h1 g;exact .same _
  ·simp at h1
 ·rw[f b (d2.imp id fun h=>F)];exact C b z
 ·rcases d3 with h | h | h
  ·exact .inl h
  ·exact .inr (f m (.inl h))
  ·exact .inr (f m (.inr h))
end Op.aI
namespace Op.aI
open cu Op
def Bc (g:cj) (cap:ag) (j:Nat) (l0:ad) (xs:List az) (p:az->Bool) :Prop:=
 ∀ x∈xs,∀ l,nf j l0 l->∀ m:cA,(∀ h,l.length<=h.length->(∀ b,b<l.length->h[b]?=l[b]?)->m (.bool (p x)) h)->cM g ([]++[.af (aO x)]++cap) l m
structure NP (l0:ad) (v:U) (g:cj) (cap:ag) (xs:List az) (p:az->Bool) (k:Nat) (sgZ:aS) (l:ad) :Prop where
 kF:sgZ 0=v
 eZ:sgZ 1=.fn g [] cap
 r0:sgZ 7=.i6 xs.length
 nw:sgZ 8=.i6 k
 jy:∀ (j:Nat) (z:az),j<k->xs[j]?=some z->p z=false
 le:l0.length<=l.length
 same:∀ b,b<l0.length->l[b]?=l0[b]?
theorem Rx {g:cj} {cap:ag} {j:Nat} {l:ad} {v:U} {xs:List az} {p:az->Bool} (ak:fI prog g=true) (S:aE 45 l v j (xs.map aO)) (m:(∀ x∈xs,(aO x).length=45)) (av:xs.length<=1000000) (aq:Bc g cap j l xs p)
  {K:cA} (P:∀ n l',(n=-1/\(∀ z∈xs,p z=false)\/∃ k:Nat,n=(k:Int)/\k<xs.length/\(∀ (i:Nat) (z:az),i<k->xs[i]?=some z->p z=false)/\∀ y,xs[k]?=some y->p y=true)->l.length<=l'.length->(∀ b,b<l.length->l'[b]?=l[b]?)->K (.i6 n) l') :
  cM 151 [v,.fn g [] cap] l K:=by
 apply c0 func151 [];have R:=S.len;rw[cg] at R;simp[R];refine bx xs.length (NP l v g cap xs p) ?_ ⟨V,V,V,V,fun j z h=>F,aN _,fun _ _=>rfl⟩;rintro k au W hk ⟨D,G,H,I,B,Q,u⟩;obtain⟨au,rfl⟩:=eO D G H I;clear D G H I;simp;refine fh (fun h=>?_) (fun h=>?_)
 ·simp only[bI] at h;obtain⟨y,C,ar⟩:=aP (l:=xs) (k:=k) F;have aj:=cf (k:=k) F;have ap:aE 45 W v j (xs.map aO):=S.frame fun am=>u j am
  obtain⟨q,cs,ax,X,Y,ah,ai⟩:=ap.q.get (k:=.i64) (i:=k) (e:=aO y) (by rw[b1,C];rfl);simp[X,Y,ah,ai];refine⟨ak,?_⟩;have:=aq y ar W ⟨Q,fun b o _=>u b o⟩;simp at this;refine this _ fun aw h1 J=>?_
  cases O:p y with
  | true=>
   simp;refine P _ _ (.inr ⟨k,rfl,h,fun i z t m=>B i z t m,fun w T=>?_⟩) F (fun b o=>by rw[J b F];exact u b o);rw[C] at T;obtain rfl:=cd T;exact O
  | false=>
   simp[aj];refine⟨F,V,V,V,V,fun i z t m=>?_,F,fun b o=>by rw[J b F];exact u b o⟩;by_cases al:i=k
   ·rw[al,C] at m;obtain rfl:=cd m;exact O
   ·exact B i z F m
 ·simp[h];have ao:k=xs.length:=by simp at h;omega
  refine P _ _ (.inl ⟨rfl,fun z m=>?_⟩) Q u;obtain⟨i,t⟩:=cq.1 m;exact B i z (by rw[ao];exact (aK.1 t).1) t
structure NK (l0:ad) (v:U) (g:cj) (cap:ag) (j:Nat) (xs:List az) (p:az->Bool) (k:Nat) (sgZ:aS) (l:ad) :Prop where
 kF:sgZ 0=v
 eZ:sgZ 1=.fn g [] cap
 lm:sgZ 6=.i6 k
 Rl:nf j l0 l
 ex:∃ (q:Nat) (h:List az),sgZ 5=.i6 (q:Int)/\aE 45 l v j (h.map aO)/\h.length=xs.length/\(∀ x∈h,(aO x).length=45)/\h.take q=(xs.take k).filter (fun t=>!p t)/\q<k/\∀ t,k<=t->h[t]?=xs[t]?
theorem Ho {p:az->Bool} {l:List az} (h:∀ z∈l,p z=false) :l.filter (fun t=>!p t)=l:=by rw[rs];intro a g;rw[h a g];rfl
theorem QF {p:az->Bool} {l:List az} {k:Nat} (h:∀ (i:Nat) (z:az),i<k->l[i]?=some z->p z=false) :(l.take k).filter (fun t=>!p t)=l.take k:=by
 refine Ho fun z m=>?_
 obtain⟨i,g⟩:=cq.1 m;have j:=(aK.1 g).1;rw[cL] at j;rw[dS F] at g;exact h i z F g
theorem QD {p:az->Bool} {l:List az} {k:Nat} {y:az} (h:l[k]?=some y) :(l.take (k+1)).filter (fun t=>!p t)=(l.take k).filter (fun t=>!p t)++(if p y then [] else [y]):=by rw[ej,h,lH];cases g:p y<;>simp[g]
theorem PV {g:cj} {cap:ag} {j:Nat} {l:ad} {v:U} {xs:List az} {p:az->Bool} (aL:fI prog g=true) (G:aE 45 l v j (xs.map aO)) (av:(∀ x∈xs,(aO x).length=45)) (bi:xs.length<=1000000) (aQ:Bc g cap j l xs p)
  {K:cA} (aK:∀ r l',aE 45 l' r j ((xs.filter fun t=>!p t).map aO)->nf j l l'->bo r=bo v->(r=v\/∃ q:Nat,dw (.Z 45) v none (some (.i6 (q:Int))) none=some r)->K r l') :
  cM 108 [v,.fn g [] cap] l K:=by
 apply c0 func108 [];have bd:=G.len;rw[cg] at bd;simp;refine Rx aL G av bi aQ fun n bq a9 aM S=>?_
 rcases a9 with ⟨rfl,a6⟩ | ⟨w,rfl,am,bf,a7⟩
 ·simp;refine aK _ _ ?_ ⟨aM,fun b m _=>S b m⟩ rfl (.inl rfl);rw[Ho a6];exact G.frame fun D=>S j D
 ·have bj:¬ ((w:Int)=-1):=F;have a3:=cf (k:=w) F;have bl:aE 45 bq v j (xs.map aO):=G.frame fun D=>S j D
  have bn:bo v=false:=by
   cases bk:bo v with
   | false=>rfl
   | true=>
    have:=gm.1 bk;subst this;have:=G.q.oN;rw[m7] at this;rw[this] at am;simp at am
  simp[bj,a3];refine bx (xs.length - (w+1)) (fun T=>NK l v g cap j xs p (w+1+T)) ?_ ⟨V,V,V,⟨aM,fun b m _=>S b m⟩,w,xs,V,bl,rfl,av,?_,F,fun _ _=>rfl⟩
  ·rintro T br O bw ⟨aD,aF,Y,u,q,B,aG,Q,ar,au,I,bm,R⟩;obtain⟨k,hk⟩:=al (w+1+T);rw[show w+1+(T+1)=k+1 by omega];rw[<-hk] at Y I bm R;obtain⟨br,rfl⟩:=eO aD aF aG Y;clear aD aF aG Y;have ap:=Q.len;rw[cg,ar] at ap;by_cases bh:k<xs.length
   ·have aq:(k:Int)<(xs.length:Int):=F;obtain⟨y,J,aX⟩:=aP (l:=xs) (k:=k) bh;have aW:=av y aX;have C:=aW;have aV:=g1 C;have aC:=cf (k:=k) F;have a4:=cf (k:=q) F;have bp:B[k]?=some y:=by rw[R k (aN _)];exact J
    obtain⟨bD,cs,bB,aZ,a0,a2,aB⟩:=Q.q.get (k:=.i64) (i:=k) (e:=aO y) (by rw[b1,bp];rfl);have bb:nf j l (O++[ao.q 45 (aO y)]):=⟨by have:=u.le;simp;omega,fun b m o=>by rw[aU (by have:=u.le;omega)];exact u.same b m o⟩
    have ah:=aQ y aX _ bb;have P:=QD (p:=p) J;have aT:=fun (iU:ad) (h:aE 45 iU v j (B.map aO))=>zw (X:=.af (aO y)) rfl h (fun t H=>au t H) (k:=q) (x:=y) F C
    simp at ah;obtain⟨aY,a5⟩:=al (aO y);rw[<-a5] at C aV aB ah aT;simp[ap,aq,aZ,a0,a2,aB,C,aV,aH];refine⟨aL,?_⟩;refine ah _ fun iU h1 aI=>?_
    have bv:O.length<iU.length:=F;have aS:∀ b,b<O.length->iU[b]?=O[b]?:=fun b m=>by rw[aI b F,aU m]
    have aR:aE 45 iU v j (B.map aO):=Q.frame fun D=>aS j D
    have a8:iU[O.length]?=some (.q 45 aY):=by rw[aI _ V];simp
    have ai:nf j l iU:=⟨by have:=u.le;omega,fun b m o=>by rw[aS b (by have:=u.le;omega)];exact u.same b m o⟩
    cases aJ:p y with
    | true=>
     rw[aJ,ak rfl,eK] at P;simp[aC];refine⟨F,V,V,V,ai,q,B,V,aR,ar,au,by rw[P];exact I,F,fun t H=>R t F⟩
    | false=>
     rw[aJ,aj V] at P;obtain⟨bC,bA,aw,ax,W,ay,aA⟩:=aT iU aR;simp[a8,C,aw,ax,aC,a4,aH];refine⟨F,V,V,V,⟨by have:=ai.le;omega,fun b m o=>by rw[aA b o];exact ai.same b m o⟩,q+1,B.set q y,V,W,by simp[ar],fun t H=>?_,?_,F,fun t H=>?_⟩
     ·rcases n2 H with h | h
      ·exact au _ h
      ·rw[h];exact aW
     ·have bs:(B.take q).length=q:=by rw[cL];omega
      rw[rv,ak F,o7,bs,aH F,show q+1 - q=1 by omega,P,<-I];simp
     ·rw[bg F];exact R t F
   ·have aq:¬ (k:Int)<(xs.length:Int):=F;have bc:k=xs.length:=F;obtain⟨bE,bz,r,aw,ax,W,ay,aA,bF,bt⟩:=Jk (z:=45) (zr:=m4) rfl Q (k:=q) F;simp[ap,aq,aw,ax,W];rw[bc,e3] at I;rw[I] at ay;exact aK _ _ ay ⟨by have:=u.le;omega,fun b m o=>by rw[bt b o];exact u.same b m o⟩ (by rw[aA,bn]) (.inr ⟨q,W⟩)
  ·rw[ej,lH,QF bf];obtain⟨y,J,_⟩:=aP (l:=xs) (k:=w) am;have:=a7 y J;rw[J];simp[this]
def iW (l:List az) :Nat->az
 | 0=>e9 l 0
 | k+1=>if (e9 l (k+1)).aB<(iW l k).aB then e9 l (k+1) else iW l k
theorem wE {l:List az}:∀ {k:Nat},k<l.length->iW l k∈l
 | 0,h=>by
  obtain⟨x,j,g⟩:=aP h;unfold iW;rw[eR j];exact g
 | k+1,h=>by
  unfold iW;split
  ·obtain⟨x,j,g⟩:=aP h;rw[eR j];exact g
  ·exact wE F
def xn (l:List az) :Prop:=∀ s∈l,0<=s.aB/\s.aB<=1000000000
structure Nr (l0:ad) (v:U) (g:cj) (h j:Nat) (xs:List az) (k:Nat) (sgZ:aS) (l:ad) :Prop where
 kF:sgZ 0=v
 eZ:sgZ 1=.fn g [] []
 hQ:sgZ 4=.ptr j 0 45
 kG:sgZ 5=.ptr h 0 45
 lm:sgZ 6=.i6 ((k+1:Nat) :Int)
 acb:l[j]?=some (.q 45 m4)
 acd:l[h]?=some (.q 45 (aO (iW xs k)))
 le:l0.length+2<=l.length
 same:∀ b,b<l0.length->l[b]?=l0[b]?
theorem XF (y m:az) (o:(aO y).length=45) (g:(aO m).length=45) (h1:0<=y.aB/\y.aB<=1000000000) (D:0<=m.aB/\m.aB<=1000000000) {l:ad} {K:cA} (v:∀ l',l.length<=l'.length->(∀ b,b<l.length->l'[b]?=l[b]?)->K (.i6 (y.aB - m.aB)) l') :
  cM 107 [.af (aO y),.af (aO m)] l K:=by
 apply c0 func107 [];have B:(aO y)[0]?=some (.i6 y.aB):=rfl;have z:(aO m)[0]?=some (.i6 m.aB):=rfl;have t:∀ h,(aO y)[0]'h=.i6 y.aB:=fun _=>rfl
 have q:∀ h,(aO m)[0]'h=.i6 m.aB:=fun _=>rfl
 have u:IntKind.i64.wrap (y.aB - m.aB)=y.aB - m.aB:=by rw[IntKind.wrap_i64];omega
 obtain⟨C,p⟩:=al (aO y);obtain⟨M,j⟩:=al (aO m);rw[<-p] at o B ⊢;rw[<-j] at g z ⊢;simp only[<-p] at t;simp only[<-j] at q;simp[o,g,t,q,u];exact v _ V fun b w=>aU w
theorem SZ {j:Nat} {l:ad} {v:U} {xs:List az} (P:aE 45 l v j (xs.map aO)) (G:∀ x∈xs,(aO x).length=45) (aI:xn xs) (a6:xs≠[]) (bq:xs.length<=1000000)
  {K:cA} (t:∀ l',l.length<=l'.length->(∀ b,b<l.length->l'[b]?=l[b]?)->K (.af (aO (iW xs (xs.length - 1)))) l') :
  cM 106 [v,.fn 107 [] []] l K:=by
 apply c0 func106 [];have a2:fI prog 107=true:=bp;have C:=P.len;rw[cg] at C;have a9:0<xs.length:=qa.2 a6;have h1:¬ ((xs.length:Int)<1):=F;have a7:aE 45 (l++[ao.q 45 m4]) v j (xs.map aO):=P.more _;obtain⟨AC,aK,bd⟩:=aP a9;obtain⟨q,cs,bf,Y,ag,aR,aS⟩:=a7.q.get (k:=.i64) (i:=0) (e:=aO AC) (by rw[b1,aK];rfl);have ay:=G AC bd;have bb:=g1 ay;change bO (.Z 45) v (.i6 (0:Int))=_ at Y;simp[m4] at ag;simp[C,h1,Y,ag,aR,aS,ay,bb];obtain⟨bk,o⟩:=al (l++[ao.q 45 m4,ao.q 45 (aO AC)]);have a5:iW xs 0=AC:=eR aK;unfold m4 at o;rw[<-o];refine bx (xs.length - 1) (Nr l v 107 (l.length+1) l.length xs) ?_ ⟨V,V,V,V,V,by rw[o];simp[m4],by rw[o,a5];simp,by rw[o];simp,fun b h=>by rw[o,aU h]⟩;rintro k bj W hk ⟨aq,ar,au,av,ax,X,p,bn,Q⟩;obtain⟨bj,rfl⟩:=gv aq ar au av ax;clear aq ar au av ax;have aF:aE 45 W v j (xs.map aO):=P.frame fun J=>Q j J
 obtain⟨i,B⟩:=al (k+1);rw[<-B];by_cases a4:i<xs.length
 ·obtain⟨y,T,aL⟩:=aP a4;have a0:=eR T;have z:=G y aL;have g:=G _ (wE (l:=xs) (k:=k) F);have bc:=aI y aL;have aJ:=aI _ (wE (l:=xs) (k:=k) F);have am:=cf (k:=i) F;obtain⟨q,cs,bf,aT,aV,aW,ah⟩:=aF.q.get (k:=.i64) (i:=i) (e:=aO y) (by rw[b1,T];rfl);have O:(i:Int)<(xs.length:Int):=F;obtain⟨m,aC⟩:=al (iW xs k);have aD:iW xs i=if y.aB<m.aB then y else m:=by
   rw[aC,<-a0,B];rfl
  rw[<-aC] at p g aJ;have S:=fun (K:cA) t=>XF y m z g bc aJ (l:=W) (K:=K) t
  have R:aw (aO m) 0 (aO y)=aO y:=cy (by rw[g,z]);obtain⟨bl,H⟩:=al (aO y);obtain⟨M,w⟩:=al (aO m);rw[<-H] at z ah S R;rw[<-w] at g p S R;simp[C,O,aT,aV,aW,ah,p,g,aH];refine⟨a2,S _ fun u bo D=>?_⟩;have a8:aE 45 u v j (xs.map aO):=aF.frame fun J=>D j J
  have aM:u[l.length]?=some (.q 45 m4):=by rw[D _ F];exact X
  have aQ:u[l.length+1]?=some (.q 45 M):=by rw[D _ F];exact p
  have ap:∀ b,b<l.length->u[b]?=l[b]?:=fun b h=>by rw[D b F];exact Q b h
  obtain⟨bs,bm,br,aX,aY,aZ,ai⟩:=a8.q.get (k:=.i64) (i:=i) (e:=aO y) (by rw[b1,T];rfl);rw[<-H] at ai;have bi:∀ c:ao,(u.set (l.length+1) c)[l.length+1]?=some c:=fun c=>bV F
  by_cases aA:y.aB<m.aB
  ·have I:y.aB - m.aB<0:=F;simp[I,aX,aY,aZ,ai,aQ,z,R,am];refine⟨F,V,V,V,V,by simp[B],?_,?_,by simp;omega,fun b h=>?_⟩
   ·rw[bg F];exact aM
   ·rw[bi,aD,ak aA,H]
   ·rw[bg F];exact ap b h
  ·have I:¬ y.aB - m.aB<0:=F;simp[I,am];exact⟨F,V,V,V,V,by simp[B],aM,by rw[aD,aj aA,<-w];exact aQ,F,ap⟩
 ·have O:¬ (i:Int)<(xs.length:Int):=F;have a3:k=xs.length - 1:=F;have g:=G _ (wE (l:=xs) (k:=k) F);have aG:=g1 g;rw[<-a3] at t;obtain⟨M,w⟩:=al (aO (iW xs k));rw[<-w] at g aG p t;unfold m4 at X;have bh:∀ c:ao,(W.set l.length c)[l.length]?=some c:=fun c=>bV F
  simp[C,O,X,p,g,aG,bh,aH];exact t _ (by simp;omega) fun b h=>by rw[bg F];exact Q b h
end Op.aI
end Go.bl

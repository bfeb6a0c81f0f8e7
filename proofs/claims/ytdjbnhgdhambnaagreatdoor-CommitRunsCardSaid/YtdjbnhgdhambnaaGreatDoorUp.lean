/-
  A stage takes findings, one after the other: walked in the reference.
-/
import Derived.Test.YtdjbnhgdhambnaaGreatDoorUo
set_option maxHeartbeats 16000000
set_option maxRecDepth 100000
set_option linter.unusedVariables false
set_option linter.unusedSimpArgs false
set_option linter.unnecessarySimpa false
namespace Go.bl
open Go Go.Proofs Go.Proofs.Tryz
namespace Op
open cu aI
noncomputable def me:List cb->a6->List df->a6 × List df × Int
 | [],s,all=>(s,all,0)
 | g::r,s,all=>if dH s g=0 then me r (eA s g).1 (all++(eA s g).2) else (ga,[],dH s g)
noncomputable def q4 (s:a6) (l:List cb) :a6 × List df × Int:=if fP s=0 then (if 60<l.length then (ga,[],4) else me l (i0 s) []) else (ga,[],8)
theorem Wm {l:List cb} {k:Nat} {j:cb} (h:l[k]?=some j) {s:a6} {all:List df} (g:dH s j=0) :me (l.drop k) s all=me (l.drop (k+1)) (eA s j).1 (all++(eA s j).2):=by
 obtain⟨hk,rfl⟩:=aK.1 h;rw[k2 hk]
 conv=>lhs;unfold me
 rw[ak g]
theorem Wl {l:List cb} {k:Nat} {j:cb} (h:l[k]?=some j) {s:a6} {all:List df} (g:dH s j≠0) :me (l.drop k) s all=(ga,[],dH s j):=by
 obtain⟨hk,rfl⟩:=aK.1 h;rw[k2 hk]
 conv=>lhs;unfold me
 rw[aj g]
theorem TP {t:a6} (m:dT t) {j:cb} (h:fo j) (g:dH t j=0) :dT (eA t j).1/\True:=⟨TN m h g,trivial⟩
theorem TM {s:a6} (m:dT s) {j:cb} (h:fo j) (g:dH s j=0) :1<=(eA s j).2.length/\(eA s j).2.length<=9:=by rw[<-(zn m h g (eS.refl s)).2];exact C5 m h g
theorem TQ {s:a6} (m:dT s) {j:cb} (h:fo j) (g:dH s j=0) :∀ x∈(eA s j).2,(c1 x).length=34:=by rw[<-(zn m h g (eS.refl s)).2];exact C6 m h g
structure M5 (s:a6) (l:bX cb) (fin:a6 × List df × Int) (k:Nat) (sgZ:aS) (L:ad) :Prop where
 ha:sgZ 2=.ptr 0 0 9
 hQ:sgZ 4=.ptr 1 0 9
 eZ:sgZ 1=kB l
 r0:sgZ 7=.ptr 2 0 9
 vY:sgZ 9=.i6 k
 lw:L[1]?=some (.q 9 (bn ga))
 ex:∃ t all v g,L[2]?=some (.q 9 (bn t))/\dT t/\sgZ 8=v/\aE 34 L v g (all.map c1)/\(v=.ae\/3<=g)/\bo v=all.isEmpty/\all.length<=9*k/\me (l.l.drop k) t all=fin
theorem PJ (s:a6) (av:dT s) (l:bX cb) (br:∀ j∈l.l,fo j) (b4:l.l.length<=1000000) :aW 13 [.af (bn s),kB l] (.a1 [.af (bn (q4 s l.l).1),gC (hX (q4 s l.l).2.1),.i6 (q4 s l.l).2.2]):=by
 apply a8 func13 [cR 0 5++[[10],[5,10]]++cR 6 4,[[0],[1],[2],[3,0]]];have bs:=ds;have aC:=fK s;have H:=GX s av;have O:bz (.Z 45) (kB l)=_:=b6 _;have bad:∀ (e:Int) (L:ad),Rd L (.a1 [.af [.i6 0,.ae,.ae,.i6 0,.ae,.i6 0,.ae,.i6 0,.bool false],.ae,.i6 e]) (.a1 [.af (bn ga),gC (hX []),.i6 e]):=fun e L=>aL
 have ag:q4 s l.l=if fP s=0 then (if 60<l.l.length then (ga,[],4) else me l.l (i0 s) []) else (ga,[],8):=rfl
 obtain⟨bU,aT⟩:=al (bn s);rw[<-aT] at aC H ⊢;obtain⟨az,ax,cz,cv,cr,cw,cp,cm,cj,ct,cs,cx,cq,cn,ck,cu,ay⟩:=aC;simp[az,ax];refine au H (by simp[aq,U.ar,ay]) ?_;by_cases h1:fP s=0
 ·by_cases aR:60<l.l.length
  ·have Y:(60:Int)<(l.l.length:Int):=F;simp[h1,O,Y];rw[ag,ak h1,ak aR];exact bad 4 _
  ·have b0:=(mV s).1 h1;have a2:=BL s av;rw[<-aT] at a2;have bA:dT (i0 s):=sm av (wH s);have bW:=fK (i0 s);rw[ag,ak h1,aj aR];obtain⟨aG,aY⟩:=al (me l.l (i0 s) []);rw[<-aY];have aB:∀ t:a6,aw [U.i6 0,.ae,.ae,.i6 0,.ae,.i6 0,.ae,.i6 0,.bool false] 0 (bn t)=bn t:=fun t=>cy rfl
   have u:∀ t:a6,(bn t).length=9:=fun _=>rfl
   have Q:∀ t:a6,(bn t).take 9=bn t:=fun _=>rfl
   have Y:¬ (60:Int)<(l.l.length:Int):=F;simp[h1,O,Y,az,ax];refine au a2 (by simp[aq,U.ar,ay]) ?_;simp[u,aB];refine bx l.l.length (M5 s l aG) ?_ ⟨V,V,V,V,V,by simp[qE],i0 s,[],.ae,0,V,bA,V,.nil 0,.inl rfl,rfl,V,aY.symm⟩;rintro k bR L hk ⟨aI,aJ,aH,aM,aQ,o,t,all,bS,bH,D,P,aO,am,I,a0,b2,C⟩;obtain⟨bR,rfl⟩:=m0 aH aI aJ aM aO aQ;clear aH aI aJ aM aO aQ;by_cases ai:k<l.l.length
   ·obtain⟨j,ah,bl⟩:=aP ai;have B:=br j bl;have J:=l4 B;have bc:=cf (k:=k) F;have aZ:bO (.Z 45) (kB l) _=_:=c5 ah;have ap:=PI t P j B;have aV:=jd t;obtain⟨X,bh⟩:=al (ed j);rw[<-bh] at J aZ ap;obtain⟨a3,cd,cg,cc,iu,ce,ch,bF,bG⟩:=J;have ca:aw (U.i6 0::.int .u8 0::.int .u32 0::.ae::.int .u64 0::.int .u8 0::.str [] ::.int .u8 0::.i6 0::.int .u64 0::.str [] ::.int .u32 0::.int .u32 0::bZ 32 (.int .u8 0)) 0 X=X:=cy (by rw[a3];rfl);have G:∀ (g:ad) (c:Nat) (b:ao),L[c]?=some b->(L++g)[c]?=some b:=fun g c b w=>by rw[aU (aX w)];exact w
    have S:=u t;have aD:=Q t;obtain⟨T,bd⟩:=al (bn t);rw[<-bd] at D S aD ap aV;simp[O,ai,aZ,a3,bF,D,S,aD];refine au ap (by simp[aq,U.ar,aV,bG]) ?_;by_cases m:dH t j=0
    ·have bw:sk t j=(eA t j).1:=by unfold sk;rw[ak m]
     have bv:si t j=(eA t j).2:=by unfold si;rw[ak m]
     rw[bw,bv,m];obtain⟨K,b3⟩:=TM P B m;obtain⟨bC,_⟩:=TP P B m;obtain⟨p,v⟩:=al (L++[ao.q 9 (bn (eA t j).1)]);have bI:aE 34 p bS bH (all.map c1):=by rw[v];exact am.more _
     have bD:∀ e∈(eA t j).2.map c1,e.length=34:=fun e bj=>by
      obtain⟨r,bt,rfl⟩:=cC.1 bj;exact TQ P B m r bt
     obtain⟨a5,bE,z,a7,W,bY,a9,aF,bb⟩:=hN (by_:=48) (x:=gC (hX (eA t j).2)) (xs:=(eA t j).2.map c1) bI (by simp[gC,sJ]) bD F F (by rw[bs];simp;omega);rw[<-cS] at W;have ci:=W.cells;have q1:p[1]?=some (.q 9 (bn ga)):=by rw[v];exact G _ _ _ o
     have bJ:p[2]?=some (.q 9 T):=by rw[v];exact G _ _ _ D
     have bK:p[L.length]?=some (.q 9 (bn (eA t j).1)):=by rw[v];simp
     have b1:p.length=L.length+1:=by rw[v];simp
     have b5:=aX D;have bp:=am.lt;have R:∀ b,(b<3\/L.length<=b)->b<p.length->z[b]?=p[b]?:=fun b w bi=>a9 b bi (by
      rcases bp with h | h
      ·exact .inl h
      ·rcases w with w | w
       ·exact I.imp id fun h=>F
       ·exact .inr F)
     have bL:z[1]?=some (.q 9 (bn ga)):=by rw[R 1 (.inl F) F];exact q1
     have a4:z[2]?=some (.q 9 T):=by rw[R 2 (.inl F) F];exact bJ
     have bN:z[L.length]?=some (.q 9 (bn (eA t j).1)):=by rw[R _ (.inr F) F];exact bK
     have bB:bo a5=(all++(eA t j).2).isEmpty:=by
      rw[bb,a0];cases h:(eA t j).2 with
      | nil=>rw[h] at K;simp at K
      | cons a b=>simp
     have b8:(all++(eA t j).2).isEmpty=false:=by
      cases h:(eA t j).2 with
      | nil=>rw[h] at K;simp at K
      | cons a b=>simp
     simp[u,Q,aB];rw[<-v];simp[a7];refine bP.bm ?_;simp[bN,u,Q,a4,bc];have bM:∀ c:ao,(z.set 2 c)[2]?=some c:=fun c=>bV (aX a4)
     have bf:aw T 0 (bn (eA t j).1)=bn (eA t j).1:=cy (by rw[u,S]);refine⟨F,V,V,V,V,V,?_,(eA t j).1,all++(eA t j).2,a5,bE,?_,bC,V,W.cl ?_,?_,bB,by simp;omega,?_⟩
     ·rw[bg F];exact bL
     ·rw[bM,bf]
     ·rcases aF with h | ⟨h,h'⟩ | h
      ·exact .inr (bg F)
      ·exact .inr (bg (by have:=I.resolve_left h;omega))
      ·exact .inl h
     ·rcases aF with h | ⟨h,h'⟩ | h
      ·exact .inr F
      ·exact .inr (by have:=I.resolve_left h;omega)
      ·exact .inl h
     ·rw[<-Wm ah m];exact C
    ·rw[qE] at o;have bT:∀ (g:ad) (h:1<(L++g).length),(L++g)[1]'h=.q 9 [.i6 0,.ae,.ae,.i6 0,.ae,.i6 0,.ae,.i6 0,.bool false]:=fun g h=>(aK.1 (G g 1 _ o)).2
     have b9:=aX o;have aA:∀ (g:ad) (c:ao),((L++g).set 1 c)[1]?=some c:=fun g c=>bV (by simp;omega)
     rw[Wl ah m] at C;subst C;simp[m,u,G _ _ _ o,aA,aw];exact bad _ _
   ·rw[qE] at o;have aA:∀ c:ao,(L.set 1 c)[1]?=some c:=fun c=>bV (aX o)
    have bq:k=l.l.length:=F;rw[bq,AQ] at C;have bk:aG=(t,all,0):=C.symm;simp[O,ai,D,o,u,Q,aB,aA];rw[bk];exact sv (.same _ (jd t)) ((am.cl (I.imp id fun h=>bg F)).q.gG qv (hX all) (by rw[a0,Ai]) (sJ all)) (.same _ rfl)
 ·have aS:fP s=8:=uI fun h=>h1 ((mV s).2 h)
  rw[aS] at H;simp[aS,az,ax];refine au H (by simp[aq,U.ar,ay]) ?_;simp;rw[ag,aj h1];exact bad 8 _
open cu aI
structure xX (s:a6) :Prop where
 aC:FD s.aC
 pl:∀ t∈s.pl.l,vq t
theorem XT {ts:List aF} {cs:ag} (h:jV prog (32::ts) cs) :∃ (s:a6) (cs' : ag),cs=.af (bn s) ::cs'/\xX s/\jV prog ts cs':=by
 obtain⟨c,cs',rfl,h1,B⟩:=LX h;obtain⟨cs,rfl,g⟩:=XU bp h1;have j:=nT (fs:=[27,30,3,4]) bp g;have j:=nT (fs:=[3,25,23]) bp j;obtain⟨n,_,rfl,_,_,C⟩:=nS (k:=.i64) bp j;have D:=nT (fs:=[22,23,3]) bp C;obtain⟨S,_,rfl,_,O,F⟩:=xq (e:=70) (z:=2) (enc:=bf) (Q:=xW) bp bp (fun r m=>by
  obtain⟨x,_,rfl,o,g⟩:=XZ m;rw[sN g,eK];exact⟨x,rfl,o⟩) D
 obtain⟨i,_,rfl,I,G⟩:=xp F;obtain⟨T,_,rfl,_,_,H⟩:=nS (k:=.i64) bp G;obtain⟨R,_,rfl,K,p⟩:=xp H;have q:=nT (fs:=[3,28]) bp p;obtain⟨c,_,rfl,_,_,t⟩:=nS (k:=.i64) bp q;obtain⟨l,_,rfl,_,J,u⟩:=xq (e:=94) (z:=45) (enc:=aO) (Q:=vq) bp bp (fun r m=>by
  obtain⟨x,_,rfl,o,g⟩:=X1 m;rw[sN g,eK];exact⟨x,rfl,o⟩) t
 obtain⟨P,_,rfl,_,_,v⟩:=nS (k:=.i64) bp u;obtain⟨b,_,rfl,w⟩:=XY bp v;rw[sN w];exact⟨⟨⟨n,⟨S,i,T⟩,R⟩,c,l,P,b⟩,cs',rfl,⟨⟨O,I,K⟩,J⟩,B⟩
structure th (j:cb) :Prop where
 op:vp j.op
 id:j.id.length=32
theorem X0 {ts:List aF} {cs:ag} (h:c4 prog (59::ts) cs) :∃ (j:cb) (cs' : ag),cs=ed j++cs'/\th j/\c4 prog ts cs':=by have h1:=nT (fs:=[3,5,55,57]) bp h;obtain⟨n,_,rfl,_,_,g⟩:=nS (k:=.i64) bp h1;obtain⟨v,_,rfl,p⟩:=EJ g;obtain⟨u,_,rfl,q,m⟩:=EH p;obtain⟨x,cs',rfl,t,o⟩:=EG m;exact⟨⟨n,v,u,x⟩,cs',by simp[ed,am],⟨q,t⟩,o⟩
theorem XR {ts:List aF} {cs:ag} (h:jV prog (33::ts) cs) :∃ (s:bX cb) (cs' : ag),cs=kB s::cs'/\(∀ t∈s.l,th t)/\jV prog ts cs':=by
 obtain⟨c,cs',rfl,h1,m⟩:=LX h;obtain⟨s,v,g,_,p,j⟩:=xq (e:=59) (z:=45) (enc:=ed) (Q:=th) bp bp (fun r q=>by
  obtain⟨x,_,rfl,u,j⟩:=X0 q;rw[sN j,eK];exact⟨x,rfl,u⟩) (XV bp h1)
 have o:=sN j;rw[o] at g;injection g with g _
 exact⟨s,cs',by rw[g];rfl,p,m⟩
theorem TY {j:cb} (h:th j) (g:l5 j.op=false) :fo j:=by unfold l5 at g;simp only[p7,decide_eq_false_iff_not] at g;exact⟨⟨h.op.idsZ,F,⟨h.op.gP,h.op.qP,F⟩,F⟩,h.id⟩
def z6 (a b:a6) :Bool:=lB a.aC b.aC&&((decide (a.bD=b.bD)&&lA a.pl.l b.pl.l)&&(decide (a.bG=b.bG)&&decide (a.dP=b.dP)))
theorem KY {a b:a6}:z6 a b=true<->eS a b:=by unfold z6;simp only[bU,bI];rw[q5,WD];exact⟨fun ⟨h1,⟨g,h⟩,j,m⟩=>⟨h1,g,h,j,m⟩,fun ⟨h1,g,h,j,m⟩=>⟨h1,⟨g,h⟩,j,m⟩⟩
theorem GY (a b:a6) (g:dT a) (m:dT b) :aW 14 [.af (bn a),.af (bn b)] (.bool (z6 a b)):=by
 apply a8 func14 [];have J:=Vv a.aC b.aC g.aC.aG.w m.aC.aG.w g.aC.ay m.aC.ay (by have:=g.aC.no;omega);have I:=Vt a.bD b.bD a.pl b.pl g.pl m.pl (by have:=g.len;omega);have o:=fK a;have p:=fK b;have C:=je a.aC;have D:=je b.aC;have G:aq (bA a.bD a.pl)=true:=by simp[bA,aq,U.ar,fU]
 have H:aq (bA b.bD b.pl)=true:=by simp[bA,aq,U.ar,fU]
 have F:z6 a b=(lB a.aC b.aC&&((decide (a.bD=b.bD)&&lA a.pl.l b.pl.l)&&(decide (a.bG=b.bG)&&decide (a.dP=b.dP)))):=rfl;obtain⟨T,v⟩:=al (bn a);obtain⟨V,z⟩:=al (bn b);rw[<-v] at o ⊢;rw[<-z] at p ⊢;obtain⟨h,X,P,O,aj,ap,ai,ah,ad,am,ak,av,t,K,ag,ao,Y⟩:=o;obtain⟨j,aw,S,R,aE,aJ,aD,aB,az,aH,aF,aK,u,Q,aA,aI,ax⟩:=p;simp[h,P,j,S];refine au J (by simp[aq,U.ar,C,D]) ?_;rw[F];cases h1:lB a.aC b.aC with
 | false=>
  simp;exact aL
 | true=>
  simp[h,O,j,R];refine au I (by simp[aq,U.ar,G,H]) ?_;cases W:(decide (a.bD=b.bD)&&lA a.pl.l b.pl.l) with
  | false=>
   simp;exact aL
  | true=>
   by_cases q:a.bG=b.bG
   ·have B:∀ x y:Bool,eb prog .eql 4 (.bool x) (.bool y)=some (.bool (decide (x=y))):=by
     intro x y;cases x<;>cases y<;>kernel_rfl
    simp[h,t,j,u,q,K,Q,B];exact aL
   ·simp[h,t,j,u,q];exact aL
open cu aI
def v6 (s:a6) :Bool:=r4 s.aC||nx s.pl.l
theorem PE (s:a6) (u:xX s) :aW 9 [.af (bn s)] (.bool (v6 s)):=by
 apply a8 func9 [];have q:=Vd s.aC;have t:=Vl s.bD s.pl u.pl;have g:=fK s;have o:=je s.aC;have m:aq (bA s.bD s.pl)=true:=by simp[bA,aq,U.ar,fU]
 have p:v6 s=(r4 s.aC||nx s.pl.l):=rfl;obtain⟨z,j⟩:=al (bn s);rw[<-j] at g ⊢;obtain⟨h,B,w,v,_⟩:=g;simp[h,w];refine au q (by simp[aq,U.ar,o]) ?_;rw[p];cases h1:r4 s.aC with
 | true=>
  simp;exact aL
 | false=>
  simp[h,v];refine au t (by simp[aq,U.ar,m]) ?_;simp;exact aL
theorem T4 {s:a6} (h:xX s) (g:v6 s=false) :dT s:=by unfold v6 at g;rw[p7] at g;obtain⟨h1,o⟩:=Up g.2;exact⟨T6 h.aC g.1,fun m j=>T3 (h.pl m j) (o m j),F⟩
def qN (l:List cb) :Bool:=decide (∃ g∈l.take 71,l5 g.op=true)||(decide (12<l.length/\l.length<=60)||decide (70<l.length))
structure M0 (s:bX cb) (k:Nat) (sgZ:aS) (l:ad) :Prop where
 ny:l=[]
 kF:sgZ 0=kB s
 hP:sgZ 3=.i6 k
 jy:∀ (j:Nat) (t:cb),j<k->s.l[j]?=some t->l5 t.op=false
theorem PG (s:bX cb) (X:∀ t∈s.l,th t) :aW 10 [kB s] (.bool (qN s.l)):=by
 apply a8 func10 [];have q:bz (.Z 45) (kB s)=_:=b6 _;simp;refine bx (min s.l.length 71) (M0 s) ?_ ⟨rfl,V,V,fun g t h=>F⟩;rintro k ad l hk ⟨rfl,C,D,z⟩;obtain⟨ad,rfl⟩:=kh C D;clear C D;have done:∀ (H:∀ (g:Nat) (t:cb),g<min s.l.length 71->s.l[g]?=some t->l5 t.op=false),qN s.l=(decide (12<s.l.length/\s.l.length<=60)||decide (70<s.l.length)):=fun H=>by
  unfold qN;rw[ct,AK];rintro⟨t,j,K⟩;obtain⟨g,p⟩:=cq.1 j;have W:=(aK.1 p).1;rw[cL] at W;rw[dS F] at p;rw[H g t F p] at K;cases K
 by_cases h:k<s.l.length
 ·have h' : (k:Int)<(s.l.length:Int):=F;by_cases ai:k<=70
  ·have v:(k:Int)<=70:=F;obtain⟨y,B,Y⟩:=aP (l:=s.l) (k:=k) h;have G:(ed y).length=45:=by unfold ed av;simp[br (X y Y).id]
   have w:((ed y).drop 2).take 11=av y.op:=by unfold ed av;simp
   have J:bO (.Z 45) (kB s) _=_:=c5 B;have Q:=cf (k:=k) F;have P:=J6 y.op;have I:=du y.op;obtain⟨ah,S⟩:=al (ed y);obtain⟨ag,R⟩:=al (av y.op);rw[<-S] at G J w;rw[<-R] at w P I;simp[q,h',v,J,G,w];refine au P (by simp[aq,U.ar,I]) ?_;cases O:l5 y.op with
   | true=>
    have T:qN s.l=true:=by
     unfold qN;rw[ca (⟨y,cq.2 ⟨k,by rw[dS F];exact B⟩,O⟩:∃ t∈s.l.take 71,l5 t.op=true)];rfl
    rw[T];simp;exact aL
   | false=>
    simp[Q];refine⟨F,rfl,V,V,fun g t p j=>?_⟩;by_cases e:g=k
    ·subst e;rw[B] at j;obtain rfl:=cd j;exact O
    ·exact z g t F j
  ·have v:¬ (k:Int)<=70:=F;rw[done fun g t p j=>z g t F j];have m:(12:Int)<(s.l.length:Int):=F;have u:¬ (s.l.length:Int)<=60:=F;have o:(70:Int)<(s.l.length:Int):=F;simp[q,h',v,m,u,o];exact aR (by rw[ca (show 70<s.l.length by omega),AL]) rfl
 ·have h' : ¬ (k:Int)<(s.l.length:Int):=F;rw[done fun g t p j=>z g t F j];by_cases m:(12:Int)<(s.l.length:Int)
  ·by_cases u:(s.l.length:Int)<=60
   ·simp[q,h',m,u];exact aR (by rw[ca (show 12<s.l.length by omega),ca (show s.l.length<=60 by omega)];rfl) rfl
   ·by_cases o:(70:Int)<(s.l.length:Int)
    ·simp[q,h',m,u,o];exact aR (by rw[ca (show 70<s.l.length by omega),AL]) rfl
    ·simp[q,h',m,u,o];exact aR (by simp[show ¬ s.l.length<=60 by omega,show ¬ 70<s.l.length by omega]) rfl
  ·have o:¬ (70:Int)<(s.l.length:Int):=F;simp[q,h',m,o];exact aR (by simp[show ¬ 12<s.l.length by omega,show ¬ 70<s.l.length by omega]) rfl
theorem Ss {l:List cb} (h:qN l=false) :l.length<=70/\∀ j∈l,l5 j.op=false:=by unfold qN at h;rw[p7,p7,decide_eq_false_iff_not,decide_eq_false_iff_not,decide_eq_false_iff_not] at h;refine⟨F,fun j m=>?_⟩;rw[aH F] at h;exact p6.2 fun g=>h.1 ⟨j,m,g⟩
theorem R6:mK prog 20 86=some (.i .i64::.i .u8::List.replicate 32 (.i .u8)):=bp
theorem Wi {a b:df} (g:a.id.length=32) (h:b.id.length=32) :eb prog .neq 86 (.af (c1 a)) (.af (c1 b))=some (.bool (!(decide (a.aB=b.aB)&&(decide (a.b0=b.b0)&&decide (a.id=b.id))))):=by
 have m:gQ (.i .i64::.i .u8::List.replicate 32 (.i .u8)) (c1 a)=true:=by
  have:=sl a.id;rw[g] at this;exact this
 have o:gQ (.i .i64::.i .u8::List.replicate 32 (.i .u8)) (c1 b)=true:=by
  have:=sl b.id;rw[h] at this;exact this
 rw[Bt R6 bp bp m o];have j:=x6 a.id b.id F;have:dz (c1 a) (c1 b)=(decide (a.aB=b.aB)&&(decide (a.b0=b.b0)&&dz (am a.id) (am b.id))):=by
  simp[c1,dz,U.beq]
 rw[this];unfold am;rw[j]
instance ZP:DecidableEq df:=fun a b=>decidable_of_iff (a.aB=b.aB/\a.b0=b.b0/\a.id=b.id) ⟨fun ⟨h1,g,j⟩=>by cases a;cases b;simp_all,fun h=>by subst h;exact⟨rfl,rfl,rfl⟩⟩
theorem Wj (a b:df) :(decide (a.aB=b.aB)&&(decide (a.b0=b.b0)&&decide (a.id=b.id)))=decide (a=b):=by rw[xE];simp only[bU,bI];exact⟨fun ⟨h1,g,j⟩=>by cases a;cases b;simp_all,fun h=>by subst h;exact⟨rfl,rfl,rfl⟩⟩
structure M6 (a b:bX df) (k:Nat) (sgZ:aS) (l:ad) :Prop where
 ny:l=[]
 kF:sgZ 0=gC a
 eZ:sgZ 1=gC b
 kG:sgZ 5=.i6 k
 jy:∀ j,j<k->a.l[j]?=b.l[j]?
def C8 (s:bX df) :Prop:=(∀ r∈s.l,r.id.length=32)/\s.l.length<=1000000
theorem PM (a b:bX df) (v:C8 a) (H:C8 b) :aW 15 [gC a,gC b] (.bool (decide (a.l=b.l))):=by
 apply a8 func15 [];have m:bz (.Z 34) (gC a)=_:=b6 _;have I:bz (.Z 34) (gC b)=_:=b6 _;have Y:=v.2;by_cases h1:a.l.length=b.l.length
 ·have q:(a.l.length:Int)=(b.l.length:Int):=F;simp[m,I,q];refine bx a.l.length (M6 a b) ?_ ⟨rfl,V,V,V,fun j h=>F⟩;rintro k U l hk ⟨rfl,C,D,G,J⟩;obtain⟨U,rfl⟩:=gJ C D G;clear C D G;by_cases o:k<a.l.length
  ·obtain⟨x,p,K⟩:=aP o;obtain⟨y,B,O⟩:=aP (l:=b.l) (k:=k) F;have P:=cf (k:=k) F;have w:bO (.Z 34) (gC a) _=_:=c5 p;have z:bO (.Z 34) (gC b) _=_:=c5 B;have t:(c1 x).length=34:=by simp[c1,br (v.1 x K)]
   have u:(c1 y).length=34:=by simp[c1,br (H.1 y O)]
   have g:=Wi (v.1 x K) (H.1 y O);rw[Wj] at g;obtain⟨W,R⟩:=al (c1 x);obtain⟨X,S⟩:=al (c1 y);rw[<-R] at t w g;rw[<-S] at u z g;by_cases e:x=y
   ·rw[ca e] at g;simp[m,o,w,z,t,u,g,P,aH];refine⟨rfl,V,V,V,fun j T=>?_⟩;by_cases Q:j=k
    ·subst Q;rw[p,B,e]
    ·exact J j F
   ·rw[ct e] at g;simp[m,o,w,z,t,u,g,aH];refine aR ?_ rfl;rw[ct];intro h;rw[h,B] at p;exact e (cd p).symm
  ·have ad:k=a.l.length:=F;simp[m,o];refine aR ?_ rfl;rw[ca];apply g3;intro j;by_cases T:j<a.l.length
   ·exact J j F
   ·rw[dY F,dY F]
 ·have q:¬ (a.l.length:Int)=(b.l.length:Int):=F;simp[m,I,q];exact aR (by rw[ct fun h=>h1 (by rw[h])]) rfl
open cu aI
theorem KQ:∀ (l:List cb),(∀ j∈l,fo j)->∀ (s t:a6) (all:List df),dT s->eS s t->eS (jJ l s all).1 (me l t all).1/\(jJ l s all).2=(me l t all).2
 | [],_,s,t,all,m,e=>⟨e,rfl⟩
 | j::r,p,s,t,all,m,e=>by
  have o:=p j V;have g:=TK e j;unfold jJ me;by_cases h:dH s j=0
  ·rw[ak h,ak (by rw[<-g];exact h)];obtain⟨h1,q⟩:=zn m o h e;rw[q];exact KQ r (fun x u=>p x (by simp[u])) _ _ _ (zm m o h).1 h1
  ·rw[aj h,aj (by rw[<-g];exact h),g];exact⟨eS.refl _,rfl⟩
theorem Qb {x:df} (h:(c1 x).length=34) :x.id.length=32:=by simp[c1,am] at h;exact h
theorem KP:∀ (l:List cb),(∀ j∈l,fo j)->∀ (s:a6) (all:List df),dT s->(∀ r∈all,r.id.length=32)->dT (jJ l s all).1/\(∀ r∈(jJ l s all).2.1,r.id.length=32)/\(jJ l s all).2.1.length<=all.length+9*l.length
 | [],_,s,all,m,o=>⟨m,o,by show all.length<=_;simp⟩
 | j::r,q,s,all,m,o=>by
  have p:=q j V;unfold jJ;by_cases h:dH s j=0
  ·rw[ak h];obtain⟨h1,w⟩:=C5 m p h;obtain⟨t,u,v⟩:=KP r (fun x g=>q x (by simp[g])) (dJ s j).1 (all++(dJ s j).2) (zm m p h).1 (fun x g=>by
    rcases fx.1 g with g | g
    ·exact o x g
    ·exact Qb (C6 m p h x g))
   refine⟨t,u,?_⟩;rw[cF] at v;simp;omega
  ·rw[aj h];exact⟨En,fun x g=>(lJ g).elim,V⟩
theorem Wq {s t:a6} (h:dT s) (e:eS s t) {l:List cb} (g:∀ j∈l,fo j) :eS (nN s l).1 (q4 t l).1/\(nN s l).2=(q4 t l).2:=by
 unfold nN q4;rw[Lk e];split
 ·split
  ·exact⟨eS.refl _,rfl⟩
  ·exact KQ l g _ _ _ (sm h (C0 s)) ((C0 s).symm.trans (e.trans (wH t)))
 ·exact⟨eS.refl _,rfl⟩
theorem Wp {s:a6} (q:dT s) {l:List cb} (p:∀ j∈l,fo j) (t:l.length<=1000) :dT (nN s l).1/\C8 (hX (nN s l).2.1):=by
 unfold nN;split
 ·split
  ·exact⟨En,fun x g=>(lJ g).elim,fR _⟩
  ·obtain⟨h,m,o⟩:=KP l p (iH s) [] (sm q (C0 s)) (fun x g=>(lJ g).elim);refine⟨h,?_,?_⟩
   ·rw[sJ];exact m
   ·rw[sJ];simp at o;omega
 ·exact⟨En,fun x g=>(lJ g).elim,fR _⟩
theorem Pp (s:a6) (Q:xX s) (l:bX cb) (K:∀ j∈l.l,th j) :MO 3 [.af (bn s),kB l] [] (c:=⟨fun r _=>r=.bool true⟩):=by
 apply c0 func3 [];have ah:=PE s Q;have aj:=PG l K;have o:=jd s;have w:(kB l).ar=true:=ot yh l;obtain⟨ao,ap⟩:=al (bn s);have m:∀ t:a6,(bn t).length=9:=fun _=>rfl
 have h:∀ t:a6,(bn t).take 9=bn t:=fun _=>rfl
 have D:∀ t:a6,aw [U.i6 0,.ae,.ae,.i6 0,.ae,.i6 0,.ae,.i6 0,.bool false] 0 (bn t)=bn t:=fun t=>cy rfl
 simp[m,h];refine au ah (by simp[aq,U.ar,o]) ?_;cases h1:v6 s with
 | true=>simp
 | false=>
  simp;refine au aj (by simp[aq,w]) ?_;cases ad:qN l.l with
  | true=>simp
  | false=>
   have q:=T4 Q h1;obtain⟨av,ai⟩:=Ss ad;have p:∀ j∈l.l,fo j:=fun j J=>TY (K j J) (ai j J)
   have u:dT (i0 s):=sm q (wH s);have ak:=BL s q;have P:=PL (i0 s) u l p F;have O:=PJ s q l p F;obtain⟨z,v⟩:=Wq u (wH s).symm p;obtain⟨B,C⟩:=Wp u p F;obtain⟨A,H⟩:=al (nN (i0 s) l.l);obtain⟨g,I⟩:=al (q4 s l.l);rw[<-H,<-I] at z v;rw[<-H] at B C P;rw[<-I] at O;have am:dT g.1:=sm B z;have R:=GY A.1 g.1 B am;rw[KY.2 z] at R;have T:=PM (hX A.2.1) (hX g.2.1) C (by rw[<-v];exact C);rw[ca (by rw[v])] at T;have S:=GY (i0 s) s u q;rw[KY.2 (wH s).symm] at S;have ag:A.2.2=g.2.2:=by rw[v]
   have G:=jd (i0 s);have V:=jd A.1;have W:=jd g.1;have X:(gC (hX A.2.1)).ar=true:=ot qv _;have Y:(gC (hX g.2.1)).ar=true:=ot qv _;simp[m,h];refine au ak (by simp[aq,U.ar,o]) ?_;simp[m,h,D];refine au P (by simp[aq,U.ar,G,w]) ?_;simp[m,h,D];refine au O (by simp[aq,U.ar,o,w]) ?_;simp[m,h,D];refine au R (by simp[aq,U.ar,V,W]) ?_;simp;refine au T (by simp[aq,X,Y]) ?_;simp[ag,m,h];refine au S (by simp[aq,U.ar,G,o]) ?_;simp
end Op
end Go.bl

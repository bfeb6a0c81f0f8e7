/-
  What is committed frees others: data and what stays true (plain).
-/
import Derived.Test.YtdjbnhgdhambnaaGreatDoorUn
set_option maxHeartbeats 16000000
set_option maxRecDepth 100000
set_option linter.unusedVariables false
set_option linter.unusedSimpArgs false
set_option linter.unnecessarySimpa false
namespace Go.bl
open Go Go.Proofs Go.Proofs.Tryz
namespace Op
open cu aI
theorem Dj {alZ o:Type} {f:alZ->o} {l:List alZ} (h:l.Pairwise fun a b=>f a≠f b) {i k:Nat} {a b:alZ} (p:l[i]?=some a) (hk:l[k]?=some b) (e:f a=f b) :i=k:=by
 obtain⟨j,rfl⟩:=aK.1 p;obtain⟨m,rfl⟩:=aK.1 hk;rcases o8 i k with g | he | g
 ·exact bW e (ko.1 h i k j m g)
 ·exact he
 ·exact bW e.symm (ko.1 h k i m j g)
theorem qV {s:cn} (h:e4 s) {p:aV} (g:p∈s.ai.l) :p.idsZ.l.length<=(bH s).length:=by
 have W:=rj h;have h1:=wJ (DT (W.b8 p g)) (m:=(bR (bH s)).idsZ.l) fun y j=>Dm h g j
 rw[o2,cg] at h1;exact h1
theorem UW {s:cn} (t:gR s) (h:e4 s) {x:List B} (D:x.length=32) {o:aJ} (I:dm o) (O:s.bL<60) :gR (ft s x o):=by
 have W:=rj h;have R:=h.jP;have K:num x s.ai.l.length<s.ai.l.length:=by unfold num;exact mq _ (by have:=h.gP;omega)
 obtain⟨p,J,w⟩:=aP K;have H:dq s.ai.l (num x s.ai.l.length)=p:=dr J;have C:(ft s x o).ai.l=s.ai.l.set (num x s.ai.l.length) (iD p x o):=by
  show s.ai.l.set _ (iD (dq s.ai.l _) x o)=_;rw[H]
 have Q:=qV h w;have z:=(t.ai p w).1;have P:=W.len p w;have u:(iD p x o).idsZ.l=cW p.idsZ.l (dU p.idsZ.l x) x:=rfl;have v:(iD p x o).opsZ.l=cW p.opsZ.l (dU p.idsZ.l x) o:=rfl;refine⟨fun G j=>?_,?_,fun y g=>?_,?_⟩
 ·rw[C] at j;rcases n2 j with j | rfl
  ·exact t.ai G j
  ·refine⟨⟨fun y g=>?_,fun q m=>?_,?_,?_⟩,?_,?_⟩
   ·rw[u] at g;rcases jA.1 g with rfl | g
    ·exact D
    ·exact z.idsZ y g
   ·rw[v] at m;rcases jA.1 m with rfl | m
    ·exact I
    ·exact z.opsZ q m
   ·rw[u,h8];omega
   ·rw[v,h8];omega
   ·rw[u,h8];omega
   ·rw[v,h8];omega
 ·rw[C,km];exact t.j8
 ·have F:y∈r5 s.bE.l x o:=g;unfold r5 at F;rcases jA.1 F with rfl | g
  ·exact D
  ·exact t.bE y (dx.1 g).1
 ·show (r5 s.bE.l x o).length<=_;have h1:s.bE.l.length<=(bH s).length:=by
   rw[<-h.tL];unfold eU io;refine dC (g4 _ _) ?_;rw[o2,cg];exact aN _
  unfold r5;rw[h8];have:=g4 (fun y=>!decide (y∈o.ax.l)) s.bE.l;omega
theorem I7 {s:c9} (j:iN s) (h:gT s) {x:List B} (m:x.length=32) {o:aJ} (p:dm o) :iN (nG s x o):=by
 have v:=h.jP;have t:=h.tv;have u:=h.le;refine⟨UW j.aG h.aG m p F,fun y g=>?_,?_⟩
 ·have q:y∈s.ay.l++[x]:=g;rcases fx.1 q with g | g
  ·exact j.ay y g
  ·rw[gd.1 g];exact m
 ·show (s.ay.l++[x]).length<=_;rw[cF];simp;omega
structure df where
 aB:Int
 b0:Int
 id:List B
def c1 (r:df) :ag:=.i6 r.aB::.int .u8 r.b0::am r.id
def fW (s:a6) :Bool:=decide ((s.aC.ay.l.length:Int)=s.aC.cap)
def hu (s:a6) (x:az) :a6:=⟨nG s.aC (bd x.op) x.op,s.bD,cU (aI.cP x.id s.pl.l),s.bG,s.dP⟩
def gH (r:List az) (x:az) :List az:=r.filter fun y=>!decide (y.aB=x.aB)
def cN (r:List az) :az:=iW r (r.length - 1)
def fB:Nat->a6->List az->List df->a6 × List df
 | 0,s,_,out=>(s,out)
 | n+1,s,r,out=>
  if r=[] then (s,out)
  else if fW s then fB n s (gH r (cN r)) (out++[⟨(cN r).aB,8,(cN r).id⟩])
  else fB n (hu s (cN r)) (gH r (cN r)++aI.cZ (cN r).id s.pl.l) (out++[⟨(cN r).aB,1,(cN r).id⟩])
structure h5 (s:a6) (r:List az) :Prop where
 ok:dT s
 st:gT s.aC
 pen:cH s.bD s.pl.l=0
 kH:∀ x∈s.pl.l,ei x.op=0/\x.id∉s.aC.ay.l/\x.a2.l=db s.aC.ay.l x.op
 l8:fj r
 gr:∀ x∈r,ei x.op=0/\bd x.op=x.id/\x.id∉s.aC.ay.l/\(∀ p∈x.op.ax.l,p∈s.aC.ay.l)/\0<=x.aB/\x.aB<=1000000000
 yt:r.Pairwise fun a b=>a.id≠b.id
 vQ:∀ x∈r,∀ y∈s.pl.l,x.id≠y.id
theorem rZ {r:List az} (h:r≠[]) :cN r∈r:=wE (by have:=qa.2 h;omega)
theorem V4 {r:List az} {x:az} (h:x∈r) :(gH r x).length<r.length:=by
 unfold gH;refine Nat.lt_of_le_of_ne (g4 _ _) fun e=>?_
 have:=List.length_filter_eq_length_iff.1 e x h;simp at this
theorem h5.full {s:a6} {r:List az} (h:h5 s r) (x:az) :h5 s (gH r x):=
 ⟨h.ok,h.st,h.pen,h.kH,fun y g=>h.l8 y (dx.1 g).1,fun y g=>h.gr y (dx.1 g).1,h.yt.sublist kk,fun y g=>h.vQ y (dx.1 g).1⟩
theorem h5.wm {s:a6} {r:List az} (h:h5 s r) {x:az} (p:x∈r) (g:fW s=false) :iv s.aC x.op=1:=by obtain⟨q,j,m,o,_⟩:=h.gr x p;unfold fW at g;rw[decide_eq_false_iff_not] at g;unfold iv;rw[aj (by rw[j];exact m),ak o,aj (by have:=h.st.le;omega)]
theorem Sd {g:aQ} {x:List B} {o:aJ}:db (g++[x]) o=(db g o).filter (fA x):=by
 unfold db;rw[List.filter_filter];refine E6 fun y _=>?_
 unfold ic fA;by_cases h1:y∈g<;>by_cases h:y=x<;>simp[h1,h]
theorem Ph (s:a6) {x:az} (h:bd x.op=x.id) :(hu s x).aC.ay.l=s.aC.ay.l++[x.id]:=by rw[<-h];rfl
theorem vI (s:a6) (x:az) :(hu s x).pl.l=aI.cP x.id s.pl.l:=eW _
theorem h5.next {s:a6} {r:List az} (h:h5 s r) {x:az} (w:x∈r) (ap:fW s=false) :h5 (hu s x) (gH r x++aI.cZ x.id s.pl.l):=by
 obtain⟨ak,al,aK,aL,aM,aO⟩:=h.gr x w;obtain⟨aQ,ax⟩:=nJ h.pen;obtain⟨T,aR,aH⟩:=(pw s.pl.l).1 ax;have J:aI.cP x.id s.pl.l=aI.l6 [x.id] s.pl.l:=by
  have:=IR x.id [] s.pl.l;rw[Ts T] at this;simpa using this
 obtain⟨aE,aF,aG⟩:=Ij (h.wm w ap);have aD:=h.l8 x w;have av:=TL h.st (x:=bd x.op) (o:=x.op) aE aG ak rfl aF;have aw:=I7 h.ok.aC h.st (x:=bd x.op) (o:=x.op) (mF _) aD.op;have K:=Ph s al;have v:=vI s x;have aA:cH (hu s x).bD (hu s x).pl.l=0:=by rw[v,J];exact Tt h.pen _
 have au:fj (aI.cP x.id s.pl.l):=by rw[J];exact T7 h.ok.pl
 have aP:(aI.cP x.id s.pl.l).length<=s.pl.l.length:=by have:=aI.qV x.id s.pl.l;omega
 have O:∀ y∈s.pl.l,(er x.id y).op=y.op/\(er x.id y).id=y.id/\(er x.id y).aB=y.aB/\(er x.id y).a2.l=db (s.aC.ay.l++[x.id]) y.op:=fun y j=>⟨rfl,rfl,rfl,by
  show (nQ x.id y.a2).l=_;rw[xl,(h.kH y j).2.2,Sd]⟩
 have S:∀ m∈aI.cP x.id s.pl.l,∃ y∈s.pl.l,m=er x.id y:=fun m g=>by
  obtain⟨y,j,e⟩:=cC.1 (dx.1 g).1;exact⟨y,j,e.symm⟩
 have R:∀ m∈aI.cZ x.id s.pl.l,∃ y∈s.pl.l,m=er x.id y/\gone m=true:=fun m g=>by
  obtain⟨y,j,e⟩:=cC.1 (dx.1 g).1;exact⟨y,j,e.symm,(dx.1 g).2⟩
 have U:∀ y∈s.pl.l,y.id∉s.aC.ay.l++[x.id]:=fun y j p=>by
  rcases fx.1 p with p | p
  ·exact (h.kH y j).2.1 p
  ·exact h.vQ x w y j (gd.1 p).symm
 have Q:(s.pl.l.map (er x.id)).Pairwise fun a b=>a.id≠b.id:=by
  rw[m8];exact aH
 have aj:(aI.cZ x.id s.pl.l).Pairwise fun a b=>a.id≠b.id:=Q.sublist kk
 refine⟨⟨aw,by rw[v];exact au,by rw[v];have:=h.ok.len;omega⟩,av,aA,fun m g=>?_,fun m g=>?_,fun m g=>?_,?_,fun a q m g=>?_⟩
 ·rw[v] at g;obtain⟨y,j,rfl⟩:=S m g;obtain⟨u,z,F,C⟩:=O y j;rw[K];exact⟨by rw[u];exact (h.kH y j).1,by rw[z];exact U y j,by rw[C,u]⟩
 ·rcases fx.1 g with g | g
  ·exact h.l8 m (dx.1 g).1
  ·exact Ja h.ok.pl m g
 ·rw[K];rcases fx.1 g with g | g
  ·have P:=(dx.1 g).1;obtain⟨V,W,X,Y,ad⟩:=h.gr m P;refine⟨V,W,fun p=>?_,fun D B=>List.mem_append_left _ (Y D B),ad⟩;rcases fx.1 p with p | p
   ·exact X p
   ·have ar:=(dx.1 g).2;have ao:m.id=x.id:=gd.1 p;obtain⟨i,t⟩:=cq.1 P;obtain⟨k,hk⟩:=cq.1 w;have:=Dj (f:=az.id) h.yt t hk ao;rw[this,hk] at t;obtain rfl:=cd t;simp at ar
  ·obtain⟨y,j,rfl,H⟩:=R m g;obtain⟨u,z,F,C⟩:=O y j;obtain⟨aJ,ag,ah,ai,_⟩:=T y j;refine⟨by rw[u];exact (h.kH y j).1,by rw[u,z];exact ag,by rw[z];exact U y j,fun D B=>?_,by rw[F];exact⟨ah,ai⟩⟩;have aq:db (s.aC.ay.l++[x.id]) y.op=[]:=by
    rw[<-C];unfold gone at H;exact xK.1 H
   refine Classical.byContradiction fun I=>?_
   have:D∈db (s.aC.ay.l++[x.id]) y.op:=dx.2 ⟨by rw[u] at B;exact B,by unfold ic;simp at I;simp[I]⟩;rw[aq] at this;cases this
 ·rw[ru];refine⟨h.yt.sublist kk,aj,fun a q b am=>?_⟩;obtain⟨y,j,rfl,_⟩:=R b am;exact h.vQ a (dx.1 q).1 y j
 ·rw[v] at g;rcases fx.1 q with q | q
  ·obtain⟨y,j,rfl⟩:=S m g;exact h.vQ a (dx.1 q).1 y j
  ·have h1:=(dx.1 q).2;have G:=(dx.1 g).2;intro e;obtain⟨i,t⟩:=cq.1 (dx.1 q).1;obtain⟨k,hk⟩:=cq.1 (dx.1 g).1;have:=Dj (f:=az.id) Q t hk e;rw[this,hk] at t;obtain rfl:=cd t;rw[h1] at G;cases G
open cu aI
theorem sw (n:Nat) (s:a6) (out:List df) :fB n s [] out=(s,out):=by
 cases n with
 | zero=>rfl
 | succ n=>unfold fB;rw[ak rfl]
theorem q2 (n:Nat) (s:a6) {r:List az} (out:List df) (h:r≠[]) :fB (n+1) s r out=if fW s then fB n s (gH r (cN r)) (out++[⟨(cN r).aB,8,(cN r).id⟩])
  else fB n (hu s (cN r)) (gH r (cN r)++aI.cZ (cN r).id s.pl.l) (out++[⟨(cN r).aB,1,(cN r).id⟩]):=by
 conv=>lhs;unfold fB
 rw[aj h]
theorem uy (v:U) :aw (bZ 33 (U.int .u8 0)) 0 [v]=v::bZ 32 (U.int .u8 0):=rfl
theorem uz (v:U) {I:ag} (h:I.length=32) :aw (v::bZ 32 (U.int .u8 0)) 1 I=v::I:=by have e:(bZ 32 (U.int .u8 0) :ag).drop 32=[]:=rfl;simp[aw,h,e]
theorem sC {I:ag} (h:I.length=32) :aw (bZ 32 (U.int .u8 0)) 0 I=I:=cy (by simp[h])
theorem uA (v:U) {I:ag} (h:I.length=32) :aw (bZ 33 (U.int .u8 0)) 0 (v::I)=v::I:=cy (by simp[h])
theorem WF (x:az) (t:(aO x).length=45) {j bi:Nat} {l:ad} {xs:List az} (I:∀ y∈xs,(aO y).length=45) (h1:l[bi]?=some (.q 45 (aO x))) (F:bi≠j) :
  Bc 109 [.ptr bi 0 45] j l xs (fun y=>decide (y.aB=x.aB)):=by
 intro y H v D O B;apply c0 func109 [];have m:v[bi]?=some (.q 45 (aO x)):=by rw[D.same _ (aX h1) F];exact h1
 have G:=aX m;have g:∀ c:ao,(v++[c])[bi]?=some (.q 45 (aO x)):=fun c=>by rw[aU G];exact m
 have u:=I y H;have K:(aO y)[0]?=some (.i6 y.aB):=rfl;have J:(aO x)[0]?=some (.i6 x.aB):=rfl;have z:∀ h,(aO y)[0]'h=.i6 y.aB:=fun _=>rfl
 have w:∀ h,(aO x)[0]'h=.i6 x.aB:=fun _=>rfl
 obtain⟨P,o⟩:=al (aO x);obtain⟨Q,p⟩:=al (aO y);rw[<-o] at g t J;rw[<-p] at u K ⊢;simp only[<-o] at w;simp only[<-p] at z;simp[g,u,t,z,w];exact B _ V fun b C=>aU C
theorem QR:fI prog 109=true:=bp
theorem x3 {l:ad} {v:U} {j:Nat} {es:List df} {s:df} (h:aE 34 l v j (es.map c1)) (o:(c1 s).length=34) (D:es.length<=1000000) :
  ∃ g m l',ea (l++[.q 34 (c1 s)]) 34 48 v (.Z 34 l.length 0 1 1 34)=some (g,l')/\aE 34 l' g m ((es++[s]).map c1)/\l.length+1<=l'.length/\(∀ b,b<l.length->v=.ae\/b≠j->l'[b]?=l[b]?)/\(l.length<=m\/(v≠.ae/\m=j))/\bo g=false:=by
 have B:=ds;obtain⟨g,m,l',p,t,u,d1,w,f1⟩:=hN (h.more [.q 34 (c1 s)]) (by_:=48) (x:=.Z 34 l.length 0 1 1 34) (xs:=[c1 s]) (by simp[cr,o,aH]) (by simp[o]) F F (by rw[B];simp;omega);have f2:bo g=false:=by rw[f1];simp
 refine⟨g,m,l',p,by rw[cS];exact t,by simpa using u,fun b z C=>?_,?_,f2⟩
 ·rw[d1 b (by simp;omega) C,aU z]
 ·rcases w with h | h | h
  ·exact .inl (by simp at h;omega)
  ·exact .inr h
  ·rw[h] at f2;cases f2
def rJ (t:a6) (y:List B) :a6:=⟨t.aC,t.bD,cU (aI.cP y t.pl.l),t.bG,t.dP⟩
structure NI (fin:a6 × List df) (N p gO:Nat) (l0:ad) (k:Nat) (sgZ:aS) (L:ad) :Prop where
 kF:sgZ 0=.ptr p 0 9
 le:gO<=L.length
 yI:∀ b,b<gO->b≠p->L[b]?=l0[b]?
 ex:∃ s r out h g m j,sgZ 7=h/\sgZ 5=g/\h5 s r/\r.length+s.pl.l.length+k<=N/\fB (N - k) s r out=fin/\L[p]?=some (.q 9 (bn s))/\aE 45 L h m (r.map aO)/\aE 34 L g j (out.map c1)/\(h=.ae\/gO<=m)/\(g=.ae\/gO<=j)/\(h=.ae\/g=.ae\/m≠j)/\out.length<=k
theorem PK (t:a6) (cn:dT t) (dw:cH t.bD t.pl.l=0) (y:List B) (cq:y.length=32) (aY:h5 (rJ t y) (aI.cZ y t.pl.l)) {N:Nat} (ea:(aI.cZ y t.pl.l).length+(aI.cP y t.pl.l).length<=N) (eb:N<=1000) {l0:ad} {p:Nat} (bL:l0[p]?=some (.q 9 (bn t)))
  {aS:a6 × List df} (dc:fB N (rJ t y) (aI.cZ y t.pl.l) []=aS) {K:cA}
  (bC:∀ v j l',l0.length<=l'.length->(∀ b,b<l0.length->b≠p->l'[b]?=l0[b]?)->l'[p]?=some (.q 9 (bn aS.1))->aE 34 l' v j (aS.2.map c1)->(v=.ae\/l0.length<=j)->K v l') :
  cM 56 [.ptr p 0 9,.af (am y)] l0 K:=by
 apply c0 func56 [cR 0 5++[[10],[5,10]]++cR 6 4,[],[],cR 0 6++[[11],[6,11]]++cR 7 4,cR 0 4++[[4,1]]];have dy:=ds;have dv:=aX bL;have dE:=br cq;have bY:=fK t;have cp:bn (rJ t y)=aw (bn t) 5 [.i6 t.bD,ch (cU (aI.cP y t.pl.l))]:=rfl;have ek:=cn.len;obtain⟨bl,c5⟩:=al (bn t);rw[<-c5] at bY bL cp;obtain⟨bj,dQ,cE,cD,_⟩:=bY;have cy:∀ g:ad,(l0++g)[p]?=some (.q 9 bl):=fun g=>by rw[aU dv];exact bL
 simp[dE,cy,bj,cD,aH];refine Mk t.bD t.pl cn.pl F y cq dw fun aL iT u cf a3 J d7=>?_
 simp at cf a3;have q1:u[l0.length+1]?=some (.q 2 [.i6 0,.ae]):=by rw[a3 _ F];simp
 have dO:u[p]?=some (.q 9 bl):=by rw[a3 _ F];exact cy _
 have eu:=J.cells;have bt:bA t.bD (cU (aI.cP y t.pl.l))=[.i6 t.bD,ch (cU (aI.cP y t.pl.l))]:=rfl;have bT:∀ a b:U,aw [U.i6 0,.ae] 0 [a,b]=[a,b]:=fun _ _=>rfl
 have iF:∀ c:ao,(u.set (l0.length+1) c)[l0.length+1]?=some c:=fun c=>bV F
 have dR:∀ c:ao,(u.set (l0.length+1) c)[p]?=some (.q 9 bl):=fun c=>by rw[bg F];exact dO
 simp[bt,q1,bT,iF,dR,<-cp];have b1:aL=.ae\/l0.length+2<=iT:=by simpa using d7
 refine bx N (NI aS N p l0.length l0) ?_ ⟨V,by simp;omega,fun b m P=>?_,rJ t y,aI.cZ y t.pl.l,[],aL,.ae,iT,0,V,V,aY,?_,by simpa using dc,?_,J.cl (b1.imp id fun h=>?_),.nil 0,b1.imp id fun h=>F,.inl rfl,.inr (.inl rfl),V⟩
 ·rintro k dS L hk ⟨b2,dl,bF,s,r,out,aL,bU,iT,aG,b4,b3,z,ed,a8,a7,J,bf,d7,d5,d75,ep⟩;obtain⟨dS,rfl⟩:=gJ b2 b3 b4;clear b2 b3 b4;have a4:=J.len;rw[cg] at a4;by_cases W:r=[]
  ·subst W;rw[sw] at a8;subst a8;simp at a4;simp[a4];exact bC bU aG L dl bF a7 bf d5
  ·have dx:0<r.length:=qa.2 W;have C:=rZ W;have bM:∀ x∈r,(aO x).length=45:=fun x C=>(eQ (z.l8 x C)).len
   have R:aL≠.ae:=fun e=>by
    subst e;have:=J.q.oN;rw[m7] at this;exact W this
   have eh:=J.lt.resolve_left R;have dj:=d7.resolve_left R;simp[a4,dx];refine SZ J bM (fun x C=>(z.gr x C).2.2.2.2) W F fun u cf cm=>?_
   have aZ:=eQ (z.l8 _ C);have bb:=z.l8 _ C;have cc:=z.gr _ C;have cj:=fun D=>z.next C D
   have ce:=fun D=>z.wm C D
   have dn:=V4 C;have aF:fB (N - k) s r out=if fW s then fB (N - k - 1) s (gH r (cN r)) (out++[⟨(cN r).aB,8,(cN r).id⟩])
     else fB (N - k - 1) (hu s (cN r)) (gH r (cN r)++aI.cZ (cN r).id s.pl.l) (out++[⟨(cN r).aB,1,(cN r).id⟩]):=by
    obtain⟨g,dp⟩:∃ g,N - k=g+1:=⟨N - k - 1,F⟩
    rw[dp];exact q2 g s out W
   rw[show iW r (r.length - 1)=cN r from rfl];obtain⟨x,dD⟩:=al (cN r);rw[<-dD] at C aZ bb cc cj ce dn aF ⊢;have f2:(aO x)[0]?=some (.i6 x.aB):=rfl;have bs:∀ h,(aO x)[0]'h=.i6 x.aB:=fun _=>rfl
   have cb:=fun (l:ad) (j cT:Nat) h1 cW=>WF x aZ.len (j:=j) (bi:=cT) (l:=l) bM h1 cW
   obtain⟨T,b9⟩:=al (aO x);rw[<-b9] at aZ f2 ⊢;simp only[<-b9] at bs cb;obtain⟨ag,eT,cL,aM,eS,eR⟩:=aZ;have dA:=g1 ag;have dN:aE 45 (u++[ao.q 45 T]) aL iT (r.map aO):=(J.frame fun dg=>cm iT dg).more _;simp[ag,dA];refine PV QR dN bM F (cb _ iT u.length V F) fun bk G cw bI en _=>?_
   have de:=bI.le;simp at de;have aV:∀ b,b<L.length->b≠iT->G[b]?=L[b]?:=fun b m c6=>by rw[bI.same b (by simp;omega) c6,aU F];exact cm b m
   have H:G[p]?=some (.q 9 (bn s)):=by rw[aV p (aX a7) F];exact a7
   have aJ:G[u.length]?=some (.q 45 T):=by rw[bI.same _ V F];simp
   have bS:aE 34 G bU aG (out.map c1):=bf.cl (by
    rcases bf.lt with h | h
    ·exact .inl h
    ·rcases d75 with e | e | e
     ·exact bW e R
     ·exact .inl e
     ·exact .inr (aV aG h (Ne.symm e)))
   have aY:=fK s;have aD:=z.ok;have eo:=aD.aC.no;have ci:bz (.Z 32) (ah s.aC.ay)=_:=b6 _;obtain⟨bX,bw⟩:=al (bn s);rw[<-bw] at H aY;obtain⟨bj,dQ,cE,cD,eH,eM,eF,eD,eC,eJ,cB,eN,eG,eE,cz,eL,eB⟩:=aY;have w:=br bb.id;have ew:∀ g:ad,(G++g)[p]?=some (.q 9 bX):=fun g=>by rw[aU (aX H)];exact H
   have ex:∀ g:ad,(G++g)[u.length]?=some (.q 45 T):=fun g=>by rw[aU (aX aJ)];exact aJ
   by_cases D:fW s=true
   ·have bE:(s.aC.ay.l.length:Int)=s.aC.cap:=by unfold fW at D;exact iM D
    rw[ak D] at aF;have dB:=a8;obtain⟨Y,ir,o,O,ap,cQ,ax,az,bo⟩:=x3 bS (s:=⟨x.aB,8,x.id⟩) (by simp[c1,w]) F;have bv:c1 ⟨x.aB,8,x.id⟩=.i6 x.aB::.int .u8 8::am x.id:=rfl;rw[bv] at O;obtain⟨cO,aW⟩:=al (am x.id);rw[<-aW] at O aM w;have bp:=uy (.int .u8 8);have aP:=uz (.int .u8 8) w;have aQ:=uA (.int .u8 8) w;simp[H,aJ,bj,cB,cz,ci,bE,ag,bs,aM,ey,bp,aP,aQ,sC w,w,O];refine bP.bm ?_;simp;have ej:=bS.lt;have cY:Y=.ae\/l0.length<=ir:=.inr (by
     rcases az with h | ⟨h,h'⟩
     ·omega
     ·rw[h'];exact d5.resolve_left h)
    refine⟨F,V,F,fun b m P=>?_,s,gH r x,out++[⟨x.aB,8,x.id⟩],bk,Y,iT,ir,V,V,z.full x,F,by rw[<-dB,show N - (k+1)=N - k - 1 by omega,aF],?_,cw.cl ?_,ap,.inr dj,cY,?_,by simp;omega⟩
    ·rw[ax b F (d5.imp id fun h=>F),aV b F F];exact bF b m P
    ·rw[ax p (aX H) (d5.imp id fun h=>F),<-bw];exact H
    ·exact .inr (ax iT F (by
      rcases d75 with e | e | e
      ·exact bW e R
      ·exact .inl e
      ·exact .inr e))
    ·right;right;rcases az with h | ⟨h,h'⟩
     ·omega
     ·rw[h'];rcases d75 with e | e | e
      ·exact bW e R
      ·exact bW e h
      ·exact e
   ·have a2:fW s=false:=by cases h:fW s with | true=>exact bW h D | false=>rfl
    have bE:¬ (s.aC.ay.l.length:Int)=s.aC.cap:=by unfold fW at a2;exact of_decide_eq_false a2
    rw[aj D] at aF;have dk:=ce a2;have dq:=cj a2;have bK:=Lm s.aC aD.aC z.st x.op bb.op cc.1 dk;have c7:=z.pen;have da:=je s.aC;have ck:=du x.op;obtain⟨Q,b8⟩:=al (nG s.aC (bd x.op) x.op);rw[<-b8] at bK;have c4:(bJ Q).length=5:=rfl;have ec:(bJ Q).take 5=bJ Q:=rfl;obtain⟨iF,a9⟩:=al (⟨Q,s.bD,s.pl,s.bG,s.dP⟩:a6);have dz:aw bX 0 (bJ Q)=bn iF:=by rw[bw,a9];rfl
    have c2:=cG x.id;obtain⟨dX,c3⟩:=al (av x.op);rw[<-c3] at bK ck cL;simp[H,aJ,bj,cB,cz,ci,bE,ag,cL,cE];refine au bK (by simp[aq,U.ar,da,ck]) ?_;obtain⟨I,aA⟩:=al (G.set p (ao.q 9 (bn iF)));have ei:I.length=G.length:=by rw[aA];simp
    have bN:I[p]?=some (.q 9 (bn iF)):=by rw[aA];exact bV (aX H)
    have aT:∀ b,b≠p->I[b]?=G[b]?:=fun b m=>by rw[aA];exact bg (fun e=>m e.symm)
    have bO:I[u.length]?=some (.q 45 T):=by rw[aT _ (by have:=aX a7;omega)];exact aJ
    have cv:aE 34 I bU aG (out.map c1):=bS.cl (d5.imp id fun h=>aT aG F);have dJ:aE 45 I bk iT ((gH r x).map aO):=cw.cl (.inr (aT iT F));obtain⟨Y,ir,o,O,ap,cQ,ax,az,bo⟩:=x3 cv (s:=⟨x.aB,1,x.id⟩) (by simp[c1,w]) F;have bv:c1 ⟨x.aB,1,x.id⟩=.i6 x.aB::.int .u8 1::am x.id:=rfl;rw[bv] at O;have bp:=uy (.int .u8 1);have aP:=uz (.int .u8 1) w;have aQ:=uA (.int .u8 1) w;have ca:=fun (l:ad) (K:cA) bC=>Mk s.bD s.pl aD.pl (by have:=aD.len;omega) x.id bb.id c7 (l0:=l) (K:=K) bC
    have bc:∀ b,b<I.length->(b<l0.length\/b=iT\/b=u.length)->o[b]?=I[b]?:=fun b m a0=>ax b m (by
     rcases cv.lt with h | h
     ·exact .inl h
     ·rcases a0 with a0 | a0 | a0
      ·exact d5.imp id fun h=>F
      ·rcases d75 with e | e | e
       ·exact bW e R
       ·exact .inl e
       ·exact .inr F
      ·have cX:=bf.lt;exact cX.imp id fun h=>F)
    have S:o[p]?=some (.q 9 (bn iF)):=by rw[bc p (aX bN) (.inl F)];exact bN
    have bR:o[u.length]?=some (.q 45 T):=by rw[bc _ (aX bO) (.inr (.inr rfl))];exact bO
    have dK:aE 45 o bk iT ((gH r x).map aO):=dJ.cl (.inr (bc iT F (.inr (.inl rfl))));have bZ:=fK iF;have dr:iF.bD=s.bD:=by rw[a9]
    have dt:iF.pl=s.pl:=by rw[a9]
    obtain⟨ai,bB⟩:=al (bn iF);rw[<-bB] at bZ S aA bN;obtain⟨dU,eO,eP,cI,_⟩:=bZ;rw[dr,dt] at cI;have ez:∀ g:ad,(o++g)[p]?=some (.q 9 ai):=fun g=>by rw[aU (aX S)];exact S
    have eA:∀ g:ad,(o++g)[u.length]?=some (.q 45 T):=fun g=>by rw[aU (aX bR)];exact bR
    obtain⟨cO,aW⟩:=al (am x.id);rw[<-aW] at O aM w aP aQ c2;simp only[<-aW] at ca;simp[H,c4,dz];rw[<-bB,<-aA];simp[bO,ag,bs,aM,ey,bp,aP,aQ,sC w,w,O];refine bP.bm ?_;simp[S,bR,dU,cI,ag,aM];refine ca _ _ fun cK cr X dm bH cx d9=>?_
    simp at dm bH;have q1:X[o.length]?=some (.q 2 [.i6 0,.ae]):=by rw[bH _ F];simp
    have bh:∀ b,b<o.length->X[b]?=o[b]?:=fun b m=>by rw[bH b F,aU m]
    have dG:X[p]?=some (.q 9 ai):=by rw[bh p (aX S)];exact S
    have ev:=cx.cells;obtain⟨fq,a5⟩:=al (X.set o.length (ao.q 2 [U.i6 s.bD,ch (cU (aI.cP x.id s.pl.l))]));have aK:∀ b,b≠o.length->fq[b]?=X[b]?:=fun b m=>by rw[a5];exact bg (fun e=>m e.symm)
    have es:fq.length=X.length:=by rw[a5];simp
    have n8:fq[o.length]?=some (.q 2 [U.i6 s.bD,ch (cU (aI.cP x.id s.pl.l))]):=by rw[a5];exact bV F
    have ct:fq[p]?=some (.q 9 ai):=by rw[aK p (by have:=aX S;omega)];exact dG
    have di:iT<o.length:=F;have dL:aE 45 fq bk iT ((gH r x).map aO):=dK.cl (.inr (by rw[aK iT F,bh iT di]));have dM:aE 45 fq cK cr ((aI.cZ x.id s.pl.l).map aO):=cx.cl (d9.imp id fun h=>aK cr (by simp at h;omega));have dI:aE 34 fq Y ir ((out++[(⟨x.aB,1,x.id⟩:df)]).map c1):=ap.cl (ap.lt.imp id fun h=>by rw[aK ir F,bh ir h]);have ef:(aI.cZ x.id s.pl.l).length<=1000:=by have:=aI.qV x.id s.pl.l;omega
    have dd:∀ e∈(aI.cZ x.id s.pl.l).map aO,e.length=45:=fun e db=>by
     obtain⟨dV,dF,rfl⟩:=cC.1 db;exact (eQ (Ja aD.pl dV dF)).len
    obtain⟨cJ,Ih,cs,cV,bq,dY,aR,b0,dZ⟩:=hN (by_:=176) (x:=cK) (xs:=(aI.cZ x.id s.pl.l).map aO) dL (by rw[dM.contents]) dd F F (by rw[dy];simp;omega);rw[<-cS] at bq;have et:=bq.cells;have dH:cs[o.length]?=some (.q 2 [U.i6 s.bD,ch (cU (aI.cP x.id s.pl.l))]):=by rw[aR _ (aX n8) (.inr F)];exact n8
    have cu:cs[p]?=some (.q 9 ai):=by rw[aR _ (aX ct) (.inr F)];exact ct
    have bt:bA s.bD (cU (aI.cP x.id s.pl.l))=[.i6 s.bD,ch (cU (aI.cP x.id s.pl.l))]:=rfl;have bT:∀ a b:U,aw [U.i6 0,.ae] 0 [a,b]=[a,b]:=fun _ _=>rfl
    have c8:aw ai 5 [.i6 s.bD,ch (cU (aI.cP x.id s.pl.l))]=bn (hu s x):=by rw[bB,a9,b8];rfl
    simp[q1,bt,bT];rw[<-a5];simp[n8,cV];refine bP.bm ?_;simp[dH,cu,c8];have dC:Y≠.ae:=fun e=>by rw[e] at bo;cases bo
    have eg:=ap.lt.resolve_left dC;have dh:l0.length<=ir:=by
     rcases az with h | ⟨h,h'⟩
     ·omega
     ·rw[h'];exact d5.resolve_left h
    have b5:iT≠ir:=by
     rcases az with h | ⟨h,h'⟩
     ·omega
     ·rw[h'];rcases d75 with e | e | e
      ·exact bW e R
      ·exact bW e h
      ·exact e
    have cd:cJ=.ae\/l0.length<=Ih:=by
     rcases b0 with h | ⟨_,h⟩ | h
     ·exact .inr F
     ·exact .inr F
     ·exact .inl h
    have er:=aI.qV x.id s.pl.l;have c9:(hu s x).pl.l.length=(aI.cP x.id s.pl.l).length:=by rw[vI]
    refine⟨F,V,by simp;omega,fun b m P=>?_,hu s x,gH r x++aI.cZ x.id s.pl.l,out++[⟨x.aB,1,x.id⟩],cJ,Y,Ih,ir,V,V,dq,by rw[cF,c9];omega,?_,bV (aX cu),bq.cl (cd.imp id fun h=>bg F),dI.cl (.inr ?_),cd,.inr dh,?_,by simp;omega⟩
    ·rw[bg (fun e=>P e.symm),aR b F (.inr F),aK b F,bh b F,bc b F (.inl m),aT b P,aV b F F];exact bF b m P
    ·rw[show N - (k+1)=N - k - 1 by omega,<-aF];exact a8
    ·rw[bg F,aR ir F (.inr (fun e=>b5 e.symm))]
    ·rcases b0 with h | ⟨_,h⟩ | h
     ·exact .inr (.inr F)
     ·exact .inr (.inr (by rw[h];exact b5))
     ·exact .inl h
 ·rw[bg (fun e=>P e.symm),bg F,a3 _ F,aU m]
 ·show (aI.cZ y t.pl.l).length+(cU (aI.cP y t.pl.l)).l.length+0<=N;rw[eW];omega
 ·exact bV (by simp;omega)
 ·rw[bg F,bg F]
open cu aI
structure lQ (s:a6) :Prop where
 st:gT s.aC
 pen:cH s.bD s.pl.l=0
 gO:0<=s.bG
 gP:s.bG<=1000000000
 kH:∀ x∈s.pl.l,x.aB<s.bG/\ei x.op=0/\x.id∉s.aC.ay.l/\x.a2.l=db s.aC.ay.l x.op
theorem mV (s:a6) :fP s=0<->lQ s:=by
 have q:∀ b:Bool,(if b then (0:Int) else 8)=0<->b=true:=fun b=>by cases b<;>simp
 unfold fP;rw[q,bU];unfold qY vv;rw[bU,bU,bU,bI,bI,bI,bI,bI,uJ];have p:∀ x:az,pv s x=true<->x.aB<s.bG/\ei x.op=0/\x.id∉s.aC.ay.l/\x.a2.l=db s.aC.ay.l x.op:=fun x=>by
  unfold pv;rw[bU,bU,bU,bI,bI,bI,bI]
 constructor
 ·rintro⟨⟨h1,g,h,j⟩,m⟩;refine⟨h1,g,h,j,fun x o=>?_⟩;obtain⟨k,hk⟩:=cq.1 o;have:=m k (aK.1 hk).1;rw[eR hk] at this;exact (p x).1 this
 ·rintro⟨h1,g,h,j,m⟩;refine⟨⟨h1,g,h,j⟩,fun k hk=>?_⟩;obtain⟨x,t,o⟩:=aP hk;rw[eR t];exact (p x).2 (m x o)
theorem uI {s:a6} (h:¬ lQ s) :fP s=8:=by
 have:¬ fP s=0:=fun e=>h ((mV s).1 e)
 unfold fP at this ⊢;split
 ·rename_i g;rw[ak g] at this;exact bW rfl this
 ·rfl
def fu (s:a6) :a6:=⟨s.aC,s.bD,cU s.pl.l,s.bG+1,s.dP⟩
def fY (j:cb) :az:=⟨j.aB,j.op,j.id,none⟩
def uq (s:a6) (j:cb) :a6:=⟨s.aC,s.bD,some (s.pl.l++[⟨j.aB,j.op,bd j.op,eE (db s.aC.ay.l j.op)⟩]),s.bG+1,s.dP⟩
def hb (s:a6) (j:cb) :a6 × List df:=fB s.pl.l.length (hu (fu s) (fY j)) (aI.cZ j.id s.pl.l) []
def dJ (s:a6) (j:cb) :a6 × List df:=
 if eJ s j=6 then (uq s j,[⟨j.aB,6,j.id⟩])
 else if eJ s j=1 then ((hb s j).1,⟨j.aB,1,j.id⟩::(hb s j).2)
 else (fu s,[⟨j.aB,eJ s j,j.id⟩])
noncomputable def dH (s:a6) (j:cb) :Int:=if fP s=0 then (if fg j then (if j.aB=s.bG then (if s.bG=1000000000 then 18 else 0) else 32) else 8) else 8
theorem zl {s:a6} {j:cb} (h:dH s j=0) :lQ s/\fg j=true/\j.aB=s.bG/\s.bG≠1000000000:=by
 unfold dH at h;split at h
 ·rename_i h1;split at h
  ·rename_i g;split at h
   ·rename_i m;split at h
    ·cases h
    ·rename_i o;exact⟨(mV s).1 h1,g,m,o⟩
   ·cases h
  ·cases h
 ·cases h
theorem yA {j:cb} (h:fg j=true) (g:j.b0=0) :de j.op=0/\bd j.op=j.id/\ei j.op=0:=by unfold fg at h;rw[ak g,bU,bU,bU,bI,bI,bI] at h;exact h.2
theorem Qv {j:cb} (h:fg j=true) :j.b0=0\/j.b0=2\/j.b0=3\/j.b0=4:=by
 unfold fg at h;rw[bU] at h;have h:=h.2;split at h
 ·rename_i g;exact .inl g
 ·rw[bU,rr,rr,bI,bI,bI] at h;exact .inr h.1
theorem uP {s:a6} {j:cb} (h:fg j=true) (g:eJ s j=6\/eJ s j=1) :j.b0=0/\s.dP=false/\j.id∉s.aC.ay.l/\j.id∉s.pl.l.map az.id:=by
 have o:j.b0=0:=by
  rcases Qv h with e | e | e | e
  ·exact e
  all_goals
   have q:¬ j.b0=0:=by rw[e];decide
   have t:eJ s j=(u j.b0:Int):=by unfold eJ;rw[aj q]
   rw[t,e] at g;exact bW g (by decide)
 unfold eJ at g;rw[ak o] at g;cases p:s.dP with
 | true=>rw[p,ak rfl] at g;omega
 | false=>
  rw[p,aj V] at g;by_cases h1:j.id∈s.aC.ay.l\/j.id∈s.pl.l.map az.id
  ·rw[ak h1] at g;omega
  ·exact⟨o,rfl,fun m=>h1 (.inl m),fun m=>h1 (.inr m)⟩
theorem Me {s:a6} {j:cb} (g:j.b0=0) (o:s.dP=false) (h1:j.id∉s.aC.ay.l) (m:j.id∉s.pl.l.map az.id) :
  eJ s j=if db s.aC.ay.l j.op=[] then (if (s.aC.ay.l.length:Int)=s.aC.cap then 8 else 1) else if (s.pl.l.length:Int)<s.bD then 6 else 7:=by unfold eJ;rw[ak g,o,aj V,aj (by rintro (h | h);exact h1 h;exact m h)]
theorem Yl {s:a6} {j:cb} (h:fg j=true) (g:eJ s j=6) :db s.aC.ay.l j.op≠[]/\(s.pl.l.length:Int)<s.bD:=by
 obtain⟨m,t,h1,o⟩:=uP h (.inl g);rw[Me m t h1 o] at g;split at g
 ·split at g<;>cases g
 ·rename_i p;split at g
  ·rename_i q;exact⟨p,q⟩
  ·cases g
theorem Mf {s:a6} {j:cb} (h:fg j=true) (g:eJ s j=1) :db s.aC.ay.l j.op=[]/\(s.aC.ay.l.length:Int)≠s.aC.cap:=by
 obtain⟨m,t,h1,o⟩:=uP h (.inr g);rw[Me m t h1 o] at g;split at g
 ·rename_i p;split at g
  ·cases g
  ·rename_i q;exact⟨p,q⟩
 ·split at g<;>cases g
theorem Se {ord:aQ} {o:aJ} (h:db ord o=[]) :∀ p∈o.ax.l,p∈ord:=fun p j=>by
 refine Classical.byContradiction fun g=>?_
 have:p∈db ord o:=dx.2 ⟨j,by unfold ic;simp[g]⟩;rw[h] at this;cases this
theorem Dt {s:a6} (m:lQ s) {j:cb} (o:fg j=true) (H:j.aB=s.bG) (t:eJ s j=6) :dB s.bD s.pl.l j.aB j.op (db s.aC.ay.l j.op)=0:=by
 obtain⟨u,G,h1,v⟩:=uP o (.inl t);obtain⟨w,D⟩:=Yl o t;obtain⟨f1,f2,f3⟩:=yA o u;have I:=m.gO;have J:=m.gP;unfold dB;rw[aj (by rw[m.pen];simp),aj (by rw[f1];simp),aj,aj (by rw[f2];exact v),aj,aj F]
 ·intro g;by_cases q:s.pl.l.length=0
  ·unfold dM at g;rw[ak q] at g;omega
  ·unfold dM at g;rw[aj q] at g;obtain⟨x,p,C⟩:=aP (l:=s.pl.l) (k:=s.pl.l.length - 1) F;rw[eR p] at g;have:=(m.kH x C).1;omega
 ·rintro (h | h | h)
  ·omega
  ·omega
  ·have B:b8 j.op.ax.l=true:=by
    unfold de at f1;split at f1
    ·cases f1
    ·split at f1
     ·rename_i z;exact z
     ·cases f1
   have:eV j.op (db s.aC.ay.l j.op)=true:=by
    unfold eV;rw[bU,bU,bI];refine⟨qa.2 w,ul ((oS B).sublist kk),gc.2 fun x p=>ca (dx.1 p).1⟩
   rw[this] at h;cases h
theorem zU {s:a6} (q:dT s) (h:lQ s) {j:cb} (t:fo j) (p:fg j=true) (D:j.aB=s.bG) (u:eJ s j=1) :h5 (fu s) [fY j]:=by
 obtain⟨v,C,h1,w⟩:=uP p (.inr u);obtain⟨z,B⟩:=Mf p u;obtain⟨f1,f2,f3⟩:=yA p v;have F:=h.gO;have G:=h.gP;have m:(fu s).pl.l=s.pl.l:=eW _;refine⟨⟨q.aC,by rw[m];exact q.pl,by rw[m];exact q.len⟩,h.st,by rw[m];exact h.pen,fun x g=>by rw[m] at g;exact (h.kH x g).2,fun x g=>?_,fun x g=>?_,V,fun x g y o=>?_⟩
 ·rw[gd.1 g];exact⟨t.op,t.id,fun y o=>(lJ o).elim,fR _⟩
 ·rw[gd.1 g];exact⟨f3,f2,h1,Se z,by show 0<=j.aB;omega,by show j.aB<=_;omega⟩
 ·rw[gd.1 g];rw[m] at o;exact fun e=>w (cC.2 ⟨y,o,e.symm⟩)
theorem Cc {s:a6} {j:cb} (g:fg j=true) (h:eJ s j=1) :fW (fu s)=false:=ct (Mf g h).2
theorem DR {s:a6} (q:dT s) (m:lQ s) {j:cb} (o:fo j) (g:fg j=true) (t:j.aB=s.bG) (h:eJ s j=1) :h5 (hu (fu s) (fY j)) (aI.cZ j.id s.pl.l):=by
 have:=(zU q m o g t h).next (x:=fY j) V (Cc g h)
 have e:gH [fY j] (fY j)=[]:=by unfold gH;simp
 rw[e,h0] at this;have p:(fu s).pl.l=s.pl.l:=eW _;rw[p] at this;exact this
open cu aI
theorem zR:∀ (n:Nat) (s:a6) (r:List az) (out:List df),(fB n s r out).2.length<=out.length+n
 | 0,s,r,out=>aN _
 | n+1,s,r,out=>by
  by_cases h:r=[]
  ·subst h;rw[sw];show out.length<=_;omega
  ·rw[q2 n s out h];split
   ·refine dC (zR n _ _ _) ?_;rw[cF];simp;omega
   ·refine dC (zR n _ _ _) ?_;rw[cF];simp;omega
def ga:a6:=⟨⟨0,⟨none,none,0⟩,none⟩,0,none,0,false⟩
def gC (s:bX df) :U:=b4 34 c1 s
theorem qv (r:df) :aq (c1 r)=true:=by have:=cG r.id;simp[c1,aq,U.ar,this]
noncomputable def sj (s:a6) (j:cb) :a6:=if dH s j=0 then (dJ s j).1 else ga
noncomputable def sh (s:a6) (j:cb) :bX df:=if dH s j=0 then some (dJ s j).2 else none
theorem qE:bn ga=[.i6 0,.ae,.ae,.i6 0,.ae,.i6 0,.ae,.i6 0,.bool false]:=rfl
theorem PH (s:a6) (t:dT s) (j:cb) (m:fo j) :aW 18 [.af (bn s),.af (ed j)] (.a1 [.af (bn (sj s j)),gC (sh s j),.i6 (dH s j)]):=by
 apply a8 func18 [cR 0 4++[[5],[6],[8],[4,8,6,1],[7]],cR 0 9++[[9,5,3,1]]];have ck:=ds;have aO:=fK s;have J:=l4 m;have bp:=GV s t;have bq:=QI j m;have bad:dH s j≠0->∀ l:ad,Rd l (.a1 [.af [.i6 0,.ae,.ae,.i6 0,.ae,.i6 0,.ae,.i6 0,.bool false],.ae,.i6 (dH s j)]) (.a1 [.af (bn (sj s j)),gC (sh s j),.i6 (dH s j)]):=fun h l=>by
  unfold sj sh;rw[aj h,aj h];exact aL
 have W:dH s j=if fP s=0 then (if fg j then (if j.aB=s.bG then (if s.bG=1000000000 then 18 else 0) else 32) else 8) else 8:=rfl
 obtain⟨cN,aT⟩:=al (bn s);obtain⟨L,bj⟩:=al (ed j);rw[<-aT] at aO bp ⊢;rw[<-bj] at J bq ⊢;have cW:=aO;have cQ:=J;obtain⟨R,aJ,dq,dm,di,dn,dh,de,dc,dk,dj,dp,a4,dg,dd,dl,aK⟩:=aO;obtain⟨B,ai,c5,ah,iu,c4,c6,bx,bz⟩:=J;simp[R,aJ,B];refine au bp (by simp[aq,U.ar,aK]) ?_;by_cases h1:fP s=0
 ·simp[h1,B,bx];refine au bq (by simp[aq,U.ar,bz]) ?_;cases u:fg j with
  | false=>
   have g:dH s j=8:=by rw[W,ak h1,u];rfl
   have:=bad (by rw[g];decide);rw[g] at this;simp;rw[g];exact this _
  | true=>
   simp[B,ai,R,a4];by_cases z:j.aB=s.bG
   ·by_cases ax:s.bG=1000000000
    ·have g:dH s j=18:=by rw[W,ak h1,u,ak rfl,ak z,ak ax]
     have:=bad (by rw[g];decide);rw[g] at this;simp[z,ax,R,a4];rw[g];exact this _
    ·have g:dH s j=0:=by rw[W,ak h1,u,ak rfl,ak z,aj ax]
     have v:=(mV s).1 h1;have c2:=v.gO;have c3:=v.gP;have cp:sj s j=(dJ s j).1:=by unfold sj;rw[ak g]
     have cn:sh s j=some (dJ s j).2:=by unfold sh;rw[ak g]
     rw[cp,cn,g];have aZ:=G0 s t v.pen;have aG:=PF s t v.pen j m;rw[<-aT] at aZ aG;rw[<-bj] at aG;have bT:IntKind.i64.wrap (s.bG+1)=s.bG+1:=by rw[IntKind.wrap_i64];omega
     have a9:=fK (iH s);have bw:aw (bn (iH s)) 7 [.i6 (s.bG+1)]=bn (fu s):=rfl;have cg:(iH s).bG=s.bG:=rfl;obtain⟨vo,b1⟩:=al (bn (iH s));rw[<-b1] at a9 bw aZ;obtain⟨bE,dr,dK,dF,dA,dG,dz,dx,dv,dD,dC,dI,cC,dy,dw,dE,dt⟩:=a9;have cD:aw [U.i6 0,.ae,.ae,.i6 0,.ae,.i6 0,.ae,.i6 0,.bool false] 0 vo=vo:=cy (by rw[bE];rfl);have C:=br m.id;obtain⟨G,D⟩:=al (eJ s j);rw[<-D] at aG;have bN:=uy (.int .u8 G);have bf:=uz (.int .u8 G) C;have bh:=uA (.int .u8 G) C;have aR:∀ w,c1 ⟨j.aB,w,j.id⟩=.i6 j.aB::.int .u8 w::am j.id:=fun _=>rfl
     obtain⟨I,aS⟩:=al (am j.id);rw[<-aS] at iu C bf bh aR;have bY:I.take 32=I:=aH F;simp[z,ax,R,aJ,a4];refine au aZ (by simp[aq,U.ar,aK]) ?_;simp[bE,cD,cC,cg,bT,bw,B,ai,bx,R,aJ,iu];refine au aG (by simp[aq,U.ar,aK,bz]) ?_;simp[B,ai,iu,ey,bN,bf,bh,sC C,C,bY];have a5:∀ (l:ad) (b:Nat) (w:Int),l[b]?=some (.q 34 (.i6 j.aB::.int .u8 w::I))->aE 34 l (.Z 34 b 0 1 1 34) b ([(⟨j.aB,w,j.id⟩:df)].map c1):=fun l b w b2=>
      .Z b 1 1 34 _ _ b2 (by simp[C]) rfl (by simp[aR,C]) F F (by simp[aR,C,aH])
     have aQ:∀ (l:ad) (ap:a6) (w:U) (b:Nat) (aM:List df),aE 34 l w b (aM.map c1)->bo w=false->Rd l (.a1 [.af (bn ap),w,.i6 0]) (.a1 [.af (bn ap),gC (some aM),.i6 0]):=fun l ap w b aM ci cf=>
      sv (.same _ (jd ap)) (ci.q.gG qv (some aM) cf rfl) (.same _ rfl)
     have bb:=fK (fu s);have cs:(fu s).bD=s.bD:=rfl;have ct:(fu s).pl=cU s.pl.l:=rfl;have cu:(fu s).aC=s.aC:=rfl;have b8:=jd (fu s);obtain⟨ti,aF⟩:=al (bn (fu s));rw[<-aF] at bb b8 ⊢;obtain⟨S,cE,bF,a7,_⟩:=bb;rw[cs,ct] at a7;rw[cu] at bF;have cF:aw [U.i6 0,.ae,.ae,.i6 0,.ae,.i6 0,.ae,.i6 0,.bool false] 0 ti=ti:=cy (by rw[S];rfl);by_cases H:G=6
     ·have bs:=BK s t j.op m.op;have Y:=YD s.bD (cU s.pl.l) (by rw[eW];exact t.pl) (by rw[eW];exact t.len) j.aB j.op m.op (eE (db s.aC.ay.l j.op)) (ws m.op) (CG m.op);have bt:dB s.bD (cU s.pl.l).l j.aB j.op (eE (db s.aC.ay.l j.op)).l=0:=by rw[eW,kg];exact Dt v u z (by rw[<-D];exact H)
      rw[UX,ak bt,ak bt,eW] at Y;obtain⟨Q,T⟩:=al (some (s.pl.l++[(⟨j.aB,j.op,bd j.op,eE (db s.aC.ay.l j.op)⟩:az)]));rw[<-T] at Y;have X:dJ s j=(uq s j,[⟨j.aB,6,j.id⟩]):=by unfold dJ;rw[ak (by rw[<-D];exact H)]
      rw[X];have b5:aq (bA s.bD (cU s.pl.l))=true:=by simp[bA,aq,U.ar,fU]
      have K:=du j.op;have cd:=bM (eE (db s.aC.ay.l j.op));have bW:bA s.bD Q=[.i6 s.bD,ch Q]:=rfl;rw[bW] at Y;have aY:aw (bn (fu s)) 5 [.i6 s.bD,ch Q]=bn (uq s j):=by rw[T];rfl
      have bc:=fK (uq s j);have c0:=jd (uq s j);obtain⟨vr,bk⟩:=al (bn (uq s j));rw[<-aF] at aY;rw[<-bk] at bc aY;obtain⟨bH,cG,_⟩:=bc;obtain⟨bK,aD⟩:=al (av j.op);rw[<-aT,<-aD] at bs;rw[<-aD] at Y K ah;have cI:aw [U.i6 0,.ae,.ae,.i6 0,.ae,.i6 0,.ae,.i6 0,.bool false] 0 vr=vr:=cy (by rw[bH];rfl);simp[H,S,a7,B,ai,ah,R,aJ];refine au bs (by simp[aq,U.ar,aK,K]) ?_;simp[H,S,a7,B,ai,ah];refine au Y (by simp[aq,U.ar,b5,K,cd]) ?_;simp[S,aY,bH,cG,cI];rw[bk];exact aQ _ _ _ 5 _ (a5 _ 5 6 rfl) rfl
     ·by_cases aA:G=1
      ·have P:eJ s j=1:=by rw[<-D];exact aA
       obtain⟨cw,_⟩:=uP u (.inr P);obtain⟨f1,f2,f3⟩:=yA u cw;have bX:=zU t v m u z P;have ca:=Cc (s:=s) u P;have cc:iv s.aC j.op=1:=bX.wm (x:=fY j) V ca;have aV:=Lm s.aC t.aC v.st j.op m.op f3 cc;have cm:=DR t v m u z P;have cj:=I7 t.aC v.st (x:=bd j.op) (o:=j.op) (mF _) m.op;have b6:=je s.aC;have K:=du j.op;have X:dJ s j=((hb s j).1,⟨j.aB,1,j.id⟩::(hb s j).2):=by unfold dJ;rw[aj (by rw[P];decide),ak P]
       rw[X];obtain⟨t1,ag⟩:=al (⟨nG s.aC (bd j.op) j.op,s.bD,cU s.pl.l,s.bG+1,s.dP⟩:a6);have O:t1.pl.l=s.pl.l:=by rw[ag];exact eW _
       have cq:dT t1:=⟨by rw[ag];exact cj,by rw[O];exact t.pl,by rw[O];exact t.len⟩
       have cr:cH t1.bD t1.pl.l=0:=by rw[O,show t1.bD=s.bD by rw[ag]];exact v.pen
       have bl:rJ t1 j.id=hu (fu s) (fY j):=by rw[ag];rfl
       have b0:h5 (rJ t1 j.id) (aI.cZ j.id t1.pl.l):=by rw[bl,O];exact cm
       have cY:=aI.qV j.id s.pl.l;obtain⟨c9,da⟩:=nJ v.pen;have b9:fB s.pl.l.length (rJ t1 j.id) (aI.cZ j.id t1.pl.l) []=hb s j:=by rw[bl,O];rfl
       have bv:aw ti 0 (bJ (nG s.aC (bd j.op) j.op))=bn t1:=by rw[aF,ag];rfl
       obtain⟨Q,T⟩:=al (bJ (nG s.aC (bd j.op) j.op));rw[<-T] at aV bv;have bZ:Q.length=5:=by rw[T];rfl
       obtain⟨bK,aD⟩:=al (av j.op);rw[<-aD] at aV K ah;have cT:Q.take 5=Q:=aH F;simp[aA,S,bF,B,ah];refine au aV (by simp[aq,U.ar,b6,K]) ?_;simp[bZ,bv,B,iu];rw[aS];refine PK t1 cq cr j.id m.id b0 (N:=s.pl.l.length) (by rw[O];omega) F (p:=3) rfl b9 fun w c7 a2 ce aU cv bC cP=>?_
       simp at ce aU;have b4:a2[5]?=some (.q 34 (.i6 j.aB::.int .u8 1::I)):=by rw[aU 5 F F,aS];rfl
       have b3:a2[2]?=some (.q 9 [.i6 0,.ae,.ae,.i6 0,.ae,.i6 0,.ae,.i6 0,.bool false]):=by rw[aU 2 F F];rfl
       have cB:=a5 a2 5 1 b4;have cx:∀ e∈(hb s j).2.map c1,e.length=34:=bC.row;have cX:((hb s j).2).length*48<=100000000000000:=by
        have h:=zR s.pl.l.length (hu (fu s) (fY j)) (aI.cZ j.id s.pl.l) [];have u:(hb s j).2.length<=0+s.pl.l.length:=h;omega
       obtain⟨cJ,cz,a3,bO,aP,cO,bi,bR,bS⟩:=hN (by_:=48) (x:=w) (xs:=(hb s j).2.map c1) cB (by rw[bC.contents]) cx F F (by rw[ck];simp;omega);rw[<-cS] at aP;have a0:bo cJ=false:=by rw[bS];rfl
       have cA:a3[3]?=some (.q 9 (bn (hb s j).1)):=by rw[bi 3 F (.inr F)];exact cv
       have bB:a3[2]?=some (.q 9 [.i6 0,.ae,.ae,.i6 0,.ae,.i6 0,.ae,.i6 0,.bool false]):=by rw[bi 2 F (.inr F)];exact b3
       have bL:=fK (hb s j).1;obtain⟨bI,cK,_⟩:=bL;have cL:aw [U.i6 0,.ae,.ae,.i6 0,.ae,.i6 0,.ae,.i6 0,.bool false] 0 (bn (hb s j).1)=bn (hb s j).1:=cy (by rw[bI];rfl);have cM:∀ c:ao,(a3.set 2 c)[2]?=some c:=fun c=>bV (aX bB)
       have c8:=aP.cells;simp[bO];refine bP.bm ?_;simp[cA,bB,bI,cK,cL,cM];refine aQ _ _ _ cz (⟨j.aB,1,j.id⟩::(hb s j).2) (aP.cl (.inr (bg ?_))) a0;rcases bR with h | ⟨_,h⟩ | h
       ·omega
       ·omega
       ·rw[h] at a0;cases a0
      ·have X:dJ s j=(fu s,[⟨j.aB,G,j.id⟩]):=by unfold dJ;rw[aj (by rw[<-D];exact H),aj (by rw[<-D];exact aA),D]
       rw[X];simp[H,aA,S,cE,cF];rw[aF];exact aQ _ _ _ 5 _ (a5 _ 5 G rfl) rfl
   ·have g:dH s j=32:=by rw[W,ak h1,u,ak rfl,aj z]
    have:=bad (by rw[g];decide);rw[g] at this;simp[z];rw[g];exact this _
 ·have g:dH s j=8:=by rw[W,aj h1]
  have bU:fP s=8:=uI fun h=>h1 ((mV s).2 h)
  have:=bad (by rw[g];decide);rw[g] at this;simp[bU];rw[g];exact this _
open cu aI
theorem IU {x:List B} {l:List az} {b:Int} (h:∀ y∈l,y.aB<b) :∀ y∈aI.cP x l,y.aB<b:=fun y g=>by
 obtain⟨m,j,rfl⟩:=cC.1 (dx.1 g).1;exact h m j
theorem DI {b:Int}:∀ (n:Nat) (s:a6) (r:List az) (out:List df),h5 s r->(∀ y∈s.pl.l,y.aB<b)->
  ∃ m,h5 (fB n s r out).1 m/\(fB n s r out).1.bG=s.bG/\(fB n s r out).1.dP=s.dP/\(fB n s r out).1.bD=s.bD/\(fB n s r out).1.aC.cap=s.aC.cap/\∀ y∈(fB n s r out).1.pl.l,y.aB<b
 | 0,s,r,out,h,g=>⟨r,h,rfl,rfl,rfl,rfl,g⟩
 | n+1,s,r,out,h,g=>by
  by_cases j:r=[]
  ·subst j;rw[sw];exact⟨[],h,rfl,rfl,rfl,rfl,g⟩
  ·rw[q2 n s out j];cases w:fW s with
   | true=>
    rw[ak rfl];exact DI n s _ _ (h.full _) g
   | false=>
    rw[aj V];obtain⟨m,o,p,q,t,u,v⟩:=DI (b:=b) n (hu s (cN r)) (gH r (cN r)++aI.cZ (cN r).id s.pl.l) (out++[⟨(cN r).aB,1,(cN r).id⟩]) (h.next (rZ j) w) (by rw[vI];exact IU g);exact⟨m,o,p,q,t,u,v⟩
theorem zm {s:a6} (o:dT s) {j:cb} (v:fo j) (R:dH s j=0) :dT (dJ s j).1/\lQ (dJ s j).1/\(dJ s j).1.bG=s.bG+1/\(dJ s j).1.dP=s.dP/\(dJ s j).1.bD=s.bD/\(dJ s j).1.aC.cap=s.aC.cap:=by
 obtain⟨h,u,B,Y⟩:=zl R;have ad:=h.gO;have ag:=h.gP;have p:(fu s).pl.l=s.pl.l:=eW _;unfold dJ;by_cases t:eJ s j=6
 ·rw[ak t];obtain⟨O,W,h1,V⟩:=uP u (.inl t);obtain⟨f1,f2,f3⟩:=yA u O;have S:=Dt h u B t;have T:=(UY (m:=eE (db s.aC.ay.l j.op)) (by rw[kg];exact S)).2.2.2;have X:s.pl.l.length<=8:=by obtain⟨ah,_⟩:=nJ h.pen;omega
  refine⟨⟨o.aC,fun x g=>?_,?_⟩,⟨h.st,T,by show 0<=s.bG+1;omega,by show s.bG+1<=_;omega,fun x g=>?_⟩,rfl,rfl,rfl,rfl⟩
  ·have z:x∈s.pl.l++[(⟨j.aB,j.op,bd j.op,eE (db s.aC.ay.l j.op)⟩:az)]:=g;rcases fx.1 z with g | g
   ·exact o.pl x g
   ·rw[gd.1 g];exact⟨v.op,mF _,ws v.op,CG v.op⟩
  ·show (s.pl.l++[_]).length<=_;rw[cF];simp;omega
  ·have z:x∈s.pl.l++[(⟨j.aB,j.op,bd j.op,eE (db s.aC.ay.l j.op)⟩:az)]:=g;rcases fx.1 z with g | g
   ·obtain⟨K,w⟩:=h.kH x g;exact⟨by show x.aB<s.bG+1;omega,w⟩
   ·rw[gd.1 g];exact⟨by show j.aB<s.bG+1;omega,f3,by show bd j.op∉_;rw[f2];exact h1,by show (eE _).l=_;rw[kg];rfl⟩
 ·rw[aj t];by_cases h1:eJ s j=1
  ·rw[ak h1];have P:=DR o h v u B h1;have Q:∀ y∈(hu (fu s) (fY j)).pl.l,y.aB<s.bG:=by
    rw[vI,p];exact IU fun y U=>(h.kH y U).1
   obtain⟨ai,q,C,G,H,I,J⟩:=DI (b:=s.bG) s.pl.l.length (hu (fu s) (fY j)) (aI.cZ j.id s.pl.l) [] P Q;have e:(hb s j).1=(fB s.pl.l.length (hu (fu s) (fY j)) (aI.cZ j.id s.pl.l) []).1:=rfl;show dT (hb s j).1/\lQ (hb s j).1/\(hb s j).1.bG=_/\(hb s j).1.dP=_/\(hb s j).1.bD=_/\(hb s j).1.aC.cap=_;rw[e];have D:(fB s.pl.l.length (hu (fu s) (fY j)) (aI.cZ j.id s.pl.l) []).1.bG=s.bG+1:=C;exact⟨q.ok,⟨q.st,q.pen,F,F,fun x g=>⟨by have:=J x g;omega,q.kH x g⟩⟩,D,G,H,I⟩
  ·rw[aj h1];refine⟨⟨o.aC,by rw[p];exact o.pl,by rw[p];exact o.len⟩,⟨h.st,by rw[p];exact h.pen,by show 0<=s.bG+1;omega,by show s.bG+1<=_;omega,fun x g=>?_⟩,rfl,rfl,rfl,rfl⟩;rw[p] at g;obtain⟨K,w⟩:=h.kH x g;exact⟨by show x.aB<s.bG+1;omega,w⟩
theorem DJ:∀ (n:Nat) (s:a6) (r:List az) (out:List df),h5 s r->(∀ x∈out,(c1 x).length=34)->∀ x∈(fB n s r out).2,(c1 x).length=34
 | 0,s,r,out,h,m=>m
 | n+1,s,r,out,h,m=>by
  by_cases o:r=[]
  ·subst o;rw[sw];exact m
  ·rw[q2 n s out o];have g:=(h.l8 _ (rZ o)).id;have row:∀ j:Int,(c1 ⟨(cN r).aB,j,(cN r).id⟩).length=34:=fun j=>by simp[c1,br g]
   have p:∀ j:Int,∀ x∈out++[(⟨(cN r).aB,j,(cN r).id⟩:df)],(c1 x).length=34:=fun j x g=>by
    rcases fx.1 g with g | g
    ·exact m x g
    ·rw[gd.1 g];exact row j
   cases q:fW s with
   | true=>
    rw[ak rfl];exact DJ n s _ _ (h.full _) (p 8)
   | false=>
    rw[aj V];exact DJ n _ _ _ (h.next (rZ o) q) (p 1)
theorem C6 {s:a6} (t:dT s) {j:cb} (m:fo j) (p:dH s j=0) :∀ x∈(dJ s j).2,(c1 x).length=34:=by
 obtain⟨o,q,u,w⟩:=zl p;have row:∀ h:Int,(c1 ⟨j.aB,h,j.id⟩).length=34:=fun h=>by simp[c1,br m.id]
 have one:∀ h:Int,∀ x∈[(⟨j.aB,h,j.id⟩:df)],(c1 x).length=34:=fun h x g=>by rw[gd.1 g];exact row h
 unfold dJ;split
 ·exact one 6
 ·split
  ·rename_i h1;intro x g;have v:x∈(⟨j.aB,1,j.id⟩:df) ::(hb s j).2:=g;rcases kn.1 v with rfl | g
   ·exact row 1
   ·exact DJ _ _ _ _ (DR t o m q u h1) (fun x g=>(lJ g).elim) x g
  ·exact one _
theorem En:dT ga:=⟨⟨⟨fun _ h=>(lJ h).elim,fR _,fun _ h=>(lJ h).elim,fR _⟩,fun _ h=>(lJ h).elim,fR _⟩,fun _ h=>(lJ h).elim,fR _⟩
open cu aI
def kB (s:bX cb) :U:=b4 45 ed s
def hX (l:List df) :bX df:=match l with | []=>none | a::r=>some (a::r)
theorem sJ (l:List df) :(hX l).l=l:=by cases l<;>rfl
theorem Ai (l:List df) :(hX l).isNone=l.isEmpty:=by cases l<;>rfl
noncomputable def jJ:List cb->a6->List df->a6 × List df × Int
 | [],s,all=>(s,all,0)
 | g::r,s,all=>if dH s g=0 then jJ r (dJ s g).1 (all++(dJ s g).2) else (ga,[],dH s g)
noncomputable def nN (s:a6) (l:List cb) :a6 × List df × Int:=if fP s=0 then (if 60<l.length then (ga,[],4) else jJ l (iH s) []) else (ga,[],8)
theorem Wo {l:List cb} {k:Nat} {j:cb} (h:l[k]?=some j) {s:a6} {all:List df} (g:dH s j=0) :jJ (l.drop k) s all=jJ (l.drop (k+1)) (dJ s j).1 (all++(dJ s j).2):=by
 obtain⟨hk,rfl⟩:=aK.1 h;rw[k2 hk]
 conv=>lhs;unfold jJ
 rw[ak g]
theorem Wn {l:List cb} {k:Nat} {j:cb} (h:l[k]?=some j) {s:a6} {all:List df} (g:dH s j≠0) :jJ (l.drop k) s all=(ga,[],dH s j):=by
 obtain⟨hk,rfl⟩:=aK.1 h;rw[k2 hk]
 conv=>lhs;unfold jJ
 rw[aj g]
theorem C5 {s:a6} (u:dT s) {j:cb} (q:fo j) (m:dH s j=0) :1<=(dJ s j).2.length/\(dJ s j).2.length<=9:=by
 obtain⟨g,p,v,t⟩:=zl m;obtain⟨w,z⟩:=nJ g.pen;unfold dJ;split
 ·simp
 ·split
  ·have h:=zR s.pl.l.length (hu (fu s) (fY j)) (aI.cZ j.id s.pl.l) [];have o:(hb s j).2.length<=0+s.pl.l.length:=h;simp;omega
  ·simp
structure M4 (s:a6) (l:bX cb) (fin:a6 × List df × Int) (k:Nat) (sgZ:aS) (L:ad) :Prop where
 ha:sgZ 2=.ptr 0 0 9
 hQ:sgZ 4=.ptr 1 0 9
 nw:sgZ 8=.ptr 2 0 9
 yJ:sgZ 27=kB l
 Q2:sgZ 28=.i6 l.l.length
 Q3:sgZ 29=.i6 k
 lw:L[1]?=some (.q 9 (bn ga))
 ex:∃ t all v g,L[2]?=some (.q 9 (bn t))/\dT t/\sgZ 9=v/\aE 34 L v g (all.map c1)/\(v=.ae\/3<=g)/\bo v=all.isEmpty/\all.length<=9*k/\jJ (l.l.drop k) t all=fin
theorem PL (s:a6) (D:dT s) (l:bX cb) (bw:∀ j∈l.l,fo j) (b9:l.l.length<=1000000) :aW 12 [.af (bn s),kB l] (.a1 [.af (bn (nN s l.l).1),gC (hX (nN s l.l).2.1),.i6 (nN s l.l).2.2]):=by
 apply a8 func12 [[[0],[1],[2],[3,0]]];have bA:=ds;have ax:=fK s;have aQ:=GV s D;have ai:bz (.Z 45) (kB l)=_:=b6 _;have bad:∀ (e:Int) (L:ad),Rd L (.a1 [.af [.i6 0,.ae,.ae,.i6 0,.ae,.i6 0,.ae,.i6 0,.bool false],.ae,.i6 e]) (.a1 [.af (bn ga),gC (hX []),.i6 e]):=fun e L=>aL
 have Y:nN s l.l=if fP s=0 then (if 60<l.l.length then (ga,[],4) else jJ l.l (iH s) []) else (ga,[],8):=rfl
 obtain⟨b1,aO⟩:=al (bn s);rw[<-aO] at ax aQ ⊢;obtain⟨a4,a2,cB,cx,ct,cz,cr,cp,cm,cv,cu,cA,cs,cq,cn,cw,a3⟩:=ax;simp[a4,a2];refine au aQ (by simp[aq,U.ar,a3]) ?_;by_cases h1:fP s=0
 ·by_cases aM:60<l.l.length
  ·have W:(60:Int)<(l.l.length:Int):=F;simp[h1,ai,W];rw[Y,ak h1,ak aM];exact bad 4 _
  ·have bi:=(mV s).1 h1;have aY:=G0 s D bi.pen;rw[<-aO] at aY;have bF:dT (iH s):=⟨D.aC,by show fj (cU s.pl.l).l;rw[eW];exact D.pl,by show (cU s.pl.l).l.length<=_;rw[eW];exact D.len⟩
   have b2:=fK (iH s);rw[Y,ak h1,aj aM];obtain⟨aA,aS⟩:=al (jJ l.l (iH s) []);rw[<-aS];have av:∀ t:a6,aw [U.i6 0,.ae,.ae,.i6 0,.ae,.i6 0,.ae,.i6 0,.bool false] 0 (bn t)=bn t:=fun t=>cy rfl
   have u:∀ t:a6,(bn t).length=9:=fun _=>rfl
   have P:∀ t:a6,(bn t).take 9=bn t:=fun _=>rfl
   have W:¬ (60:Int)<(l.l.length:Int):=F;simp[h1,ai,W,a4,a2];refine au aY (by simp[aq,U.ar,a3]) ?_;simp[u,av,ai];refine bx l.l.length (M4 s l aA) ?_ ⟨V,V,V,V,V,V,by simp[qE],iH s,[],.ae,0,V,bF,V,.nil 0,.inl rfl,rfl,V,aS.symm⟩;rintro k bY L hk ⟨aB,aH,aI,aD,aF,aG,p,t,all,b0,bM,G,O,aJ,am,I,aV,b5,C⟩;obtain⟨bY,rfl⟩:=xt aB aH aI aJ aD aF aG;clear aB aH aI aJ aD aF aG;by_cases ah:k<l.l.length
   ·obtain⟨j,ag,bs⟩:=aP ah;have B:=bw j bs;have J:=l4 B;have bf:=cf (k:=k) F;have aT:bO (.Z 45) (kB l) _=_:=c5 ag;have ap:=PH t O j B;have aR:=jd t;obtain⟨X,bl⟩:=al (ed j);rw[<-bl] at J aT ap;obtain⟨aZ,cg,ci,ce,iu,ch,cj,bK,bL⟩:=J;have bD:aw (U.i6 0::.int .u8 0::.int .u32 0::.ae::.int .u64 0::.int .u8 0::.str [] ::.int .u8 0::.i6 0::.int .u64 0::.str [] ::.int .u32 0::.int .u32 0::bZ 32 (.int .u8 0)) 0 X=X:=cy (by rw[aZ];rfl);have H:∀ (g:ad) (c:Nat) (b:ao),L[c]?=some b->(L++g)[c]?=some b:=fun g c b w=>by rw[aU (aX w)];exact w
    have R:=u t;have ay:=P t;obtain⟨S,bj⟩:=al (bn t);rw[<-bj] at G R ay ap aR;simp[ah,aT,aZ,bK,bD,H _ _ _ G,R,ay];refine au ap (by simp[aq,U.ar,aR,bL]) ?_;by_cases m:dH t j=0
    ·have bE:sj t j=(dJ t j).1:=by unfold sj;rw[ak m]
     have bC:sh t j=some (dJ t j).2:=by unfold sh;rw[ak m]
     rw[bE,bC,m];obtain⟨K,b8⟩:=C5 O B m;obtain⟨bH,_⟩:=zm O B m;obtain⟨o,v⟩:=al (L++[ao.q 45 X,ao.q 9 (bn (dJ t j).1)]);have bN:aE 34 o b0 bM (all.map c1):=by rw[v];exact am.more _
     have bI:∀ e∈(dJ t j).2.map c1,e.length=34:=fun e bq=>by
      obtain⟨r,bB,rfl⟩:=cC.1 bq;exact C6 O B m r bB
     obtain⟨a7,bJ,z,bb,T,b3,bc,az,bd⟩:=hN (by_:=48) (x:=gC (some (dJ t j).2)) (xs:=(dJ t j).2.map c1) bN (by simp[gC]) bI F F (by rw[bA];simp;omega);rw[<-cS] at T;have ck:=T.cells;have q1:o[1]?=some (.q 9 (bn ga)):=by rw[v];exact H _ _ _ p
     have bR:o[2]?=some (.q 9 S):=by rw[v];exact H _ _ _ G
     have bS:o[L.length+1]?=some (.q 9 (bn (dJ t j).1)):=by rw[v];simp
     have b4:o.length=L.length+2:=by rw[v];simp
     have ca:=aX G;have bt:=am.lt;have Q:∀ b,(b<3\/L.length<=b)->b<o.length->z[b]?=o[b]?:=fun b w bp=>bc b bp (by
      rcases bt with h | h
      ·exact .inl h
      ·rcases w with w | w
       ·exact I.imp id fun h=>F
       ·exact .inr F)
     have bT:z[1]?=some (.q 9 (bn ga)):=by rw[Q 1 (.inl F) F];exact q1
     have a0:z[2]?=some (.q 9 S):=by rw[Q 2 (.inl F) F];exact bR
     have bW:z[L.length+1]?=some (.q 9 (bn (dJ t j).1)):=by rw[Q _ (.inr F) F];exact bS
     have bG:bo a7=(all++(dJ t j).2).isEmpty:=by
      rw[bd,aV];cases h:(dJ t j).2 with
      | nil=>rw[h] at K;simp at K
      | cons a b=>simp
     have cc:(all++(dJ t j).2).isEmpty=false:=by
      cases h:(dJ t j).2 with
      | nil=>rw[h] at K;simp at K
      | cons a b=>simp
     simp[u,P,av];rw[<-v];simp[bb];refine bP.bm ?_;simp[bW,u,P,a0,bf];have bU:∀ c:ao,(z.set 2 c)[2]?=some c:=fun c=>bV (aX a0)
     have bk:aw S 0 (bn (dJ t j).1)=bn (dJ t j).1:=cy (by rw[u,R]);refine⟨F,V,V,V,V,V,V,?_,(dJ t j).1,all++(dJ t j).2,a7,bJ,?_,bH,V,T.cl ?_,?_,bG,by simp;omega,?_⟩
     ·rw[bg F];exact bT
     ·rw[bU,bk]
     ·rcases az with h | ⟨h,h'⟩ | h
      ·exact .inr (bg F)
      ·exact .inr (bg (by have:=I.resolve_left h;omega))
      ·exact .inl h
     ·rcases az with h | ⟨h,h'⟩ | h
      ·exact .inr F
      ·exact .inr (by have:=I.resolve_left h;omega)
      ·exact .inl h
     ·rw[<-Wo ag m];exact C
    ·rw[qE] at p;have a9:∀ (g:ad) (h:1<(L++g).length),(L++g)[1]'h=.q 9 [.i6 0,.ae,.ae,.i6 0,.ae,.i6 0,.ae,.i6 0,.bool false]:=fun g h=>(aK.1 (H g 1 _ p)).2
     have cd:=aX p;have a5:∀ (g:ad) (c:ao),((L++g).set 1 c)[1]?=some c:=fun g c=>bV (by simp;omega)
     rw[Wn ag m] at C;subst C;simp[m,u,a9,aw];exact bad _ _
   ·rw[qE] at p;have a5:∀ c:ao,(L.set 1 c)[1]?=some c:=fun c=>bV (aX p)
    have bv:k=l.l.length:=F;rw[bv,AQ] at C;have br:aA=(t,all,0):=C.symm;simp[ah,G,p,u,P,av,a5];rw[br];exact sv (.same _ (jd t)) ((am.cl (I.imp id fun h=>bg F)).q.gG qv (hX all) (by rw[aV,Ai]) (sJ all)) (.same _ rfl)
 ·have bh:fP s=8:=uI fun h=>h1 ((mV s).2 h)
  simp[bh];rw[Y,aj h1];exact bad 8 _
open cu aI
theorem N0 {a b:Act} (h:dz (e7 a) (e7 b)=true) :a=b:=by
 obtain⟨k,y,g⟩:=a;obtain⟨u,F,j⟩:=b;obtain⟨v,z,C,G⟩:=g;obtain⟨w,B,D,H⟩:=j;simp[e7,dz,U.beq] at h;obtain⟨h1,m,o,p,q,t⟩:=h
 simp_all
theorem D4 {a b:aJ}:Op.gp a b=true<->Op.cw a=Op.cw b:=by
 unfold Op.gp Op.cw;simp only[bU,bI];constructor
 ·rintro⟨h1,g,j,m,o,p⟩;obtain⟨q,t,u,v,w,z⟩:=a;obtain⟨B,C,D,F,G,H⟩:=b;simp only at h1 g j m o p;have:=N0 m;subst this;simp[h1,g,j,o,p]
 ·intro h;obtain⟨q,t,u,v,w,z⟩:=a;obtain⟨B,C,D,F,G,H⟩:=b;simp only[aJ.mk.injEq,bc] at h;obtain⟨h1,g,j,m,o,p⟩:=h;subst m;refine⟨h1,g,j,?_,o,p⟩;simp[e7,dz,U.beq]
theorem Ah {alZ:Type} {l m:List alZ} (h:cK l=cK m) :l=m:=by
 have:=ci bX.l h
 rwa [dj,dj] at this
theorem CR {alZ o:Type} {f:alZ->o} {l m:List alZ} (p:l.length=m.length) (h:∀ (k:Nat) (x y:alZ),l[k]?=some x->m[k]?=some y->f x=f y) :l.map f=m.map f:=by
 apply g3;intro k;rw[b1,b1];by_cases hk:k<l.length
 ·obtain⟨x,g,_⟩:=aP hk;obtain⟨y,j,_⟩:=aP (l:=m) (k:=k) F;rw[g,j];simp[h k x y g j]
 ·rw[dY F,dY F]
theorem pF {alZ g:Type} {f:alZ->g} {l m:List alZ} (h:l.map f=m.map f) {k:Nat} {x y:alZ} (j:l[k]?=some x) (o:m[k]?=some y) :f x=f y:=by have:=ci (fun p=>p[k]?) h;simp only[b1,j,o,cz,bc] at this;exact this
theorem hA {alZ g:Type} {f:alZ->g} {l m:List alZ} (h:l.map f=m.map f) :l.length=m.length:=by have:=ci List.length h;simpa using this
theorem z1 {a b:aV}:kS a b=true<->cI a=cI b:=by
 unfold kS;simp only[bU,bI];constructor
 ·rintro⟨h1,o,g⟩;unfold cI;rw[h1,CR o fun k x y j m=>?_];have:=g k (aK.1 j).1;rw[jD j,jD m] at this;exact D4.1 this
 ·intro h;unfold cI at h;simp only[aV.mk.injEq,bc] at h;obtain⟨h1,o⟩:=h;have g:=Ah o;refine⟨h1,hA g,fun k hk=>?_⟩;obtain⟨x,j,_⟩:=aP hk;obtain⟨y,m,_⟩:=aP (l:=b.opsZ.l) (k:=k) (by have:=hA g;omega);rw[jD j,jD m];exact D4.2 (pF g j m)
theorem WB {a b:cn}:ih a b=true<->Op.bj a=Op.bj b:=by
 rw[mf];unfold Op.bj;constructor
 ·rintro⟨h1,o,p,g⟩;rw[o,p,CR h1 fun k x y j m=>?_];have:=g k (aK.1 j).1;rw[dr j,dr m] at this;exact z1.1 this
 ·intro h;simp only[cn.mk.injEq,bc] at h;obtain⟨h1,o,p⟩:=h;have g:=Ah h1;refine⟨hA g,p,o,fun k hk=>?_⟩;obtain⟨x,j,_⟩:=aP hk;obtain⟨y,m,_⟩:=aP (l:=b.ai.l) (k:=k) (by have:=hA g;omega);rw[dr j,dr m];exact z1.2 (pF g j m)
theorem q5 {a b:c9}:lB a b=true<->eF a=eF b:=by
 unfold lB;simp only[bU,bI];rw[WB];unfold eF;constructor
 ·rintro⟨h1,g,j⟩;rw[h1,g,j]
 ·intro h;simp only[c9.mk.injEq,bc] at h;exact⟨h.1,h.2.1,h.2.2⟩
theorem KX {a b:az}:sE a b=true<->aI.bj a=aI.bj b:=by
 unfold sE;simp only[bU,bI];have e:aI.gp a.op b.op=Op.gp a.op b.op:=rfl;rw[e,D4];unfold aI.bj;constructor
 ·rintro⟨h1,t,u,v⟩;obtain⟨g,m,j,o⟩:=a;obtain⟨w,p,z,q⟩:=b;simp only at h1 t u v;subst h1 t;show (⟨g,Op.cw m,j,some o.l⟩:az)=⟨g,Op.cw p,j,some q.l⟩
  rw[u,v]
 ·intro h;obtain⟨g,m,j,o⟩:=a;obtain⟨w,p,z,q⟩:=b;simp only[az.mk.injEq,bc] at h;exact⟨h.1,h.2.2.1,h.2.1,h.2.2.2⟩
theorem WD {a b:List az}:lA a b=true<->a.map aI.bj=b.map aI.bj:=by
 unfold lA;simp only[bU,bI];constructor
 ·rintro⟨h1,m⟩;refine CR h1 fun k x y g j=>?_
  have:=m k (aK.1 g).1;rw[eR g,eR j] at this;exact KX.1 this
 ·intro h;refine⟨hA h,fun k hk=>?_⟩;obtain⟨x,g,_⟩:=aP hk;obtain⟨y,j,_⟩:=aP (l:=b) (k:=k) (by have:=hA h;omega);rw[eR g,eR j];exact KX.2 (pF h g j)
def sM (q:List B × aJ) :List B × aJ:=(q.1,Op.cw q.2)
theorem WG {s t:cn} (h:e4 s) (e:ih s t=true) :e4 t/\(bH t).map sM=(bH s).map sM/\cQ t=cQ s:=by
 obtain⟨I,X,Y,ad⟩:=(mf s t).1 e;have W:=rj h;have D:∀ k,k<s.ai.l.length->∃ g q,s.ai.l[k]?=some g/\t.ai.l[k]?=some q/\g∈s.ai.l/\q∈t.ai.l/\g.idsZ.l=q.idsZ.l/\g.opsZ.l.map Op.cw=q.opsZ.l.map Op.cw:=fun k hk=>by
  obtain⟨g,j,z⟩:=aP hk;obtain⟨q,m,P⟩:=aP (l:=t.ai.l) (k:=k) F;have:=ad k hk;rw[dr j,dr m,z1] at this;unfold cI at this;simp only[aV.mk.injEq,bc] at this;exact⟨g,q,j,m,z,P,this.1,Ah this.2⟩
 have al:kN t.ai.l=true:=by
  have O:=h.al;unfold kN at O ⊢;rw[bI] at O ⊢;intro i am x T;obtain⟨g,q,j,m,_,_,o,_⟩:=D i F;rw[dr m,<-o] at T;rw[<-I];exact O i F x (by rw[dr j];exact T)
 have wf:nV t.ai.l=true:=by
  refine jQ.2 fun q m=>?_
  obtain⟨k,hk⟩:=cq.1 m;obtain⟨g,ah,j,u,z,_,o,p⟩:=D k (by have:=(aK.1 hk).1;omega);rw[hk] at u;obtain rfl:=cd u;obtain⟨aj,ak⟩:=jQ.1 h.wf g z;rw[<-o];exact⟨by rw[aj];exact hA p,ak⟩
 have G:ng t.ai.l:=⟨fun g j=>(jQ.1 wf g j).1,fun g j=>(jQ.1 wf g j).2,wI al⟩
 have S:∀ {l:List (List B × aJ)},(l.Pairwise fun a b=>eM a.1 b.1=true)->(l.map sM).Pairwise fun a b=>eM a.1 b.1=true:=fun ag=>by
  rw[m8];exact ag
 have K:(bH t).map sM=(bH s).map sM:=by
  refine zE (S (xA G)) (S (xA W)) fun q=>?_
  rw[cC,cC];constructor
  ·rintro⟨r,Q,rfl⟩;obtain⟨q,m,a,H,v⟩:=(nW G r).1 Q;obtain⟨k,hk⟩:=cq.1 m;obtain⟨g,ah,j,u,z,_,o,p⟩:=D k (by have:=(aK.1 hk).1;omega);rw[hk] at u;obtain rfl:=cd u;obtain⟨C,w,_⟩:=aP (l:=g.opsZ.l) (k:=a) (by have:=hA p;have:=(aK.1 v).1;omega);refine⟨(r.1,C),(nW W _).2 ⟨g,z,a,by rw[o];exact H,w⟩,?_⟩;show (r.1,Op.cw C)=(r.1,Op.cw r.2)
   rw[pF p w v]
  ·rintro⟨r,Q,rfl⟩;obtain⟨g,j,a,H,v⟩:=(nW W r).1 Q;obtain⟨k,hk⟩:=cq.1 j;obtain⟨ao,q,R,u,_,P,o,p⟩:=D k (aK.1 hk).1;rw[hk] at R;obtain rfl:=cd R;obtain⟨C,w,_⟩:=aP (l:=q.opsZ.l) (k:=a) (by have:=hA p;have:=(aK.1 v).1;omega);refine⟨(r.1,C),(nW G _).2 ⟨q,P,a,by rw[<-o];exact H,w⟩,?_⟩;show (r.1,Op.cw C)=(r.1,Op.cw r.2)
   rw[pF p v w]
 have J:cQ t=cQ s:=by
  have U:∀ l:List (List B × aJ),cI (bR l)=⟨some ((l.map sM).map (·.1)),cK ((l.map sM).map (·.2))⟩:=fun l=>by
   unfold cI bR;simp only[dj,iL];rfl
  unfold cQ;rw[U,U,K]
 have V:eY (bR (bH t))=0:=by rw[<-yg,J,yg];exact h.kx
 refine⟨⟨by rw[<-I];exact h.gP,by rw[<-I];exact h.qQ,al,wf,V,?_,?_⟩,K,J⟩
 ·rw[<-X,h.jP];have:=ci List.length K;simp at this;omega
 ·rw[<-yM,show cI (bR (bH t))=cQ t from rfl,J,show cQ s=cI (bR (bH s)) from rfl,yM,h.tL,Y]
theorem D5 {s t:c9} (h:gT s) (e:lB s t=true) :gT t/\cQ t.aG=cQ s.aG:=by unfold lB at e;simp only[bU,bI] at e;obtain⟨g,j,m⟩:=e;obtain⟨q,w,p⟩:=WG h.aG j;obtain⟨q1,o,u,v⟩:=(mf _ _).1 j;refine⟨⟨by rw[<-g];exact h.jY,by rw[<-g];exact h.tv,q,by rw[<-o,<-g];exact h.jP,by rw[<-m,<-o];exact h.le,?_⟩,p⟩;rw[<-zu,show cI (bR (bH t.aG))=cQ t.aG from rfl,p,show cQ s.aG=cI (bR (bH s.aG)) from rfl,zu,<-m];exact h.ord
open cu aI
structure eS (s t:a6) :Prop where
 aC:eF s.aC=eF t.aC
 bD:s.bD=t.bD
 pl:s.pl.l.map aI.bj=t.pl.l.map aI.bj
 bG:s.bG=t.bG
 dP:s.dP=t.dP
theorem zf {a b:aJ} (h:Op.cw a=Op.cw b) :a.ax.l=b.ax.l/\a.act=b.act/\ei a=ei b/\bd a=bd b/\de a=de b:=by
 refine⟨?_,?_,?_,?_,?_⟩
 ·have:=ci (fun o:aJ=>o.ax.l) h;exact this
 ·have:=ci (fun o:aJ=>o.act) h;exact this
 ·rw[<-Mg a,h,Mg b]
 ·rw[<-Co a,h,Co b]
 ·have:∀ o:aJ,de (Op.cw o)=de o:=fun _=>rfl
  rw[<-this a,h,this b]
theorem I9 {a b:aJ} (h:dm a) (e:Op.cw a=Op.cw b) :dm b:=by obtain⟨g,j,_⟩:=zf e;refine⟨fun y m=>h.idsZ y (by rw[g];exact m),by rw[<-g];exact h.len,by rw[<-j];exact h.val,by rw[<-j];exact h.key⟩
theorem oM {a b:az} (h:aI.bj a=aI.bj b) :a.aB=b.aB/\Op.cw a.op=Op.cw b.op/\a.id=b.id/\a.a2.l=b.a2.l:=by unfold aI.bj at h;simp only[az.mk.injEq,bc] at h;exact h
theorem T2 {a b:az} (h:h4 a) (e:aI.bj a=aI.bj b) :h4 b:=by obtain⟨p,j,m,g⟩:=oM e;exact⟨I9 h.op j,by rw[<-m];exact h.id,fun y o=>h.a2 y (by rw[g];exact o),by rw[<-g];exact h.len⟩
theorem wG {l m:List az} (h:l.map aI.bj=m.map aI.bj) {y:az} (j:y∈m) :∃ x∈l,aI.bj x=aI.bj y:=by
 have:aI.bj y∈l.map aI.bj:=by rw[h];exact cC.2 ⟨y,j,rfl⟩
 obtain⟨x,g,e⟩:=cC.1 this;exact⟨x,g,e⟩
theorem C9 {l m:List az} (h:fj l) (e:l.map aI.bj=m.map aI.bj) :fj m:=fun y o=>by
 obtain⟨x,j,g⟩:=wG e o;exact T2 (h x j) g
theorem T1 {s t:cn} (h:gR s) (e:ih s t=true) :gR t:=by
 obtain⟨D,O,p,F⟩:=(mf s t).1 e;refine⟨fun q J=>?_,by rw[<-D];exact h.j8,fun y o=>h.bE y (by rw[p];exact o),by rw[<-p];exact h.nE⟩;obtain⟨k,hk⟩:=cq.1 J;obtain⟨z,v,I⟩:=aP (l:=s.ai.l) (k:=k) (by have:=(aK.1 hk).1;omega);have:=F k (aK.1 v).1;rw[dr v,dr hk,z1] at this;unfold cI at this;simp only[aV.mk.injEq,bc] at this;obtain⟨m,j⟩:=this;have j:=Ah j;obtain⟨g,B,C⟩:=h.ai z I;have u:=hA j;refine⟨⟨fun y o=>g.idsZ y (by rw[m];exact o),fun w H=>?_,by rw[<-m];exact g.li,by rw[<-u];exact g.ji⟩,by rw[<-m];exact B,by rw[<-u];exact C⟩;have:Op.cw w∈z.opsZ.l.map Op.cw:=by rw[j];exact cC.2 ⟨w,H,rfl⟩
 obtain⟨x,K,G⟩:=cC.1 this;exact I9 (g.opsZ x K) G
theorem T5 {s t:c9} (h:iN s) (e:eF s=eF t) :iN t:=by have g:=q5.2 e;unfold lB at g;simp only[bU,bI] at g;obtain⟨p,m,j⟩:=g;exact⟨T1 h.aG m,fun y o=>h.ay y (by rw[j];exact o),by rw[<-j];exact h.no⟩
theorem sg {s t:c9} (e:eF s=eF t) :s.cap=t.cap/\s.ay.l=t.ay.l:=by unfold eF at e;simp only[c9.mk.injEq,bc] at e;exact⟨e.1,e.2.2⟩
theorem sm {s t:a6} (h:dT s) (e:eS s t) :dT t:=
 ⟨T5 h.aC e.aC,C9 h.pl e.pl,by rw[<-hA e.pl];exact h.len⟩
theorem Jw {c:Int} {l m:List az} (e:l.map aI.bj=m.map aI.bj) :cH c l=cH c m:=by rw[<-Dp,e,Dp]
theorem HQ {s t:a6} (e:eS s t) (P:Int->Prop) (h:∀ x∈s.pl.l,P x.aB/\ei x.op=0/\x.id∉s.aC.ay.l/\x.a2.l=db s.aC.ay.l x.op) :∀ x∈t.pl.l,P x.aB/\ei x.op=0/\x.id∉t.aC.ay.l/\x.a2.l=db t.aC.ay.l x.op:=fun y B=>by
 obtain⟨x,z,q⟩:=wG e.pl B;obtain⟨j,m,o,p⟩:=oM q;obtain⟨C,F,D,G,H⟩:=zf m;obtain⟨h1,u,v,w⟩:=h x z;have g:=(sg e.aC).2;refine⟨by rw[<-j];exact h1,by rw[<-D];exact u,by rw[<-o,<-g];exact v,?_⟩;rw[<-p,w,g];unfold db;rw[C]
theorem K4 {s t:a6} (h:lQ s) (e:eS s t) :lQ t:=by refine⟨(D5 h.st (q5.2 e.aC)).1,by rw[<-e.bD,<-Jw e.pl];exact h.pen,by rw[<-e.bG];exact h.gO,by rw[<-e.bG];exact h.gP,?_⟩;rw[<-e.bG];exact HQ e (fun k=>k<s.bG) h.kH
theorem eS.symm {s t:a6} (e:eS s t) :eS t s:=⟨e.aC.symm,e.bD.symm,e.pl.symm,e.bG.symm,e.dP.symm⟩
theorem eS.trans {s t w:a6} (e:eS s t) (f:eS t w) :eS s w:=⟨e.aC.trans f.aC,e.bD.trans f.bD,e.pl.trans f.pl,e.bG.trans f.bG,e.dP.trans f.dP⟩
theorem eS.refl (s:a6) :eS s s:=⟨rfl,rfl,rfl,rfl,rfl⟩
theorem Lk {s t:a6} (e:eS s t) :fP s=fP t:=by
 by_cases h:lQ s
 ·rw[(mV s).2 h,(mV t).2 (K4 h e)]
 ·rw[uI h,uI fun g=>h (K4 g e.symm)]
theorem TK {s t:a6} (e:eS s t) (j:cb) :dH s j=dH t j:=by unfold dH;rw[Lk e,e.bG]
theorem Ti {l m:List az} (e:l.map aI.bj=m.map aI.bj) :l.map az.id=m.map az.id:=by
 have:∀ k:List az,k.map az.id=(k.map aI.bj).map az.id:=fun k=>by rw[iL];rfl
 rw[this l,e,<-this m]
theorem Yk {s t:a6} (e:eS s t) (j:cb) :eJ s j=eJ t j:=by obtain⟨h1,g⟩:=sg e.aC;unfold eJ;rw[e.dP,g,Ti e.pl,h1,hA e.pl,e.bD]
theorem Ur {f:az->List B} {l m:List az} (g:∀ x y,aI.bj x=aI.bj y->f x=f y) (e:l.map aI.bj=m.map aI.bj) (h:l.Pairwise fun a b=>f a≠f b) :m.Pairwise fun a b=>f a≠f b:=by rw[ko] at h ⊢;intro i k o hk p;have q:=hA e;have j:=h i k F F p;rw[<-g l[i] m[i] (pF e (bK F) (bK o)),<-g l[k] m[k] (pF e (bK F) (bK hk))];exact j
theorem V5 {s t:a6} {r q:List az} (h:h5 s r) (e:eS s t) (j:r.map aI.bj=q.map aI.bj) :h5 t q:=by
 have u:=(sg e.aC).2;refine⟨sm h.ok e,(D5 h.st (q5.2 e.aC)).1,by rw[<-e.bD,<-Jw e.pl];exact h.pen,fun x g=>(HQ e (fun _=>True) (fun x g=>⟨trivial,h.kH x g⟩) x g).2,C9 h.l8 j,fun y o=>?_,?_,fun y o U J=>?_⟩
 ·obtain⟨x,g,m⟩:=wG j o;obtain⟨v,z,p,R⟩:=oM m;obtain⟨K,S,O,P,T⟩:=zf z;obtain⟨h1,C,D,F,G⟩:=h.gr x g;exact⟨by rw[<-O];exact h1,by rw[<-P,C,p],by rw[<-p,<-u];exact D,fun Q H=>by rw[<-u];exact F Q (by rw[K];exact H),by rw[<-v];exact G⟩
 ·exact Ur (f:=az.id) (fun x y h=>(oM h).2.2.1) j h.yt
 ·obtain⟨x,g,m⟩:=wG j o;obtain⟨w,I,B⟩:=wG e.pl J;rw[<-(oM m).2.2.1,<-(oM B).2.2.1];exact h.vQ x g w I
open cu aI
def jh (l:List az) :Nat->Nat
 | 0=>0
 | k+1=>if (e9 l (k+1)).aB<(e9 l (jh l k)).aB then k+1 else jh l k
theorem Cy (l:List az) :∀ k,jh l k<=k
 | 0=>aN _
 | k+1=>by
  unfold jh;split
  ·exact aN _
  ·have:=Cy l k;omega
theorem wj (l:List az) :∀ k,e9 l (jh l k)=iW l k
 | 0=>rfl
 | k+1=>by
  unfold jh iW;rw[wj l k];split
  ·rfl
  ·exact wj l k
def gY (r:List az) :Nat:=jh r (r.length - 1)
def hE (r:List az) :List az:=r.take (gY r)++r.drop (gY r+1)
theorem y3 {r:List az} (h:r≠[]) :gY r<r.length:=by have:=Cy r (r.length - 1);have:=qa.2 h;unfold gY;omega
theorem Iu {r:List az} (h:r≠[]) :r[gY r]?=some (cN r):=by obtain⟨x,g,_⟩:=aP (y3 h);have:e9 r (gY r)=cN r:=wj _ _;rw[eR g] at this;rw[g,this]
noncomputable def po (s:a6) (x:az) :a6:=⟨su s.aC x.op,s.bD,cU (aI.gn x.id s.pl.l),s.bG,s.dP⟩
noncomputable def ie:Nat->a6->List az->List df->a6 × List df
 | 0,s,_,out=>(s,out)
 | n+1,s,r,out=>
  if r=[] then (s,out)
  else if fW s then ie n s (hE r) (out++[⟨(cN r).aB,8,(cN r).id⟩])
  else ie n (po s (cN r)) (hE r++aI.gD (cN r).id s.pl.l) (out++[⟨(cN r).aB,1,(cN r).id⟩])
theorem Kq (n:Nat) (s:a6) (out:List df) :ie n s [] out=(s,out):=by
 cases n with
 | zero=>rfl
 | succ n=>unfold ie;rw[ak rfl]
theorem Kp (n:Nat) (s:a6) {r:List az} (out:List df) (h:r≠[]) :ie (n+1) s r out=if fW s then ie n s (hE r) (out++[⟨(cN r).aB,8,(cN r).id⟩])
  else ie n (po s (cN r)) (hE r++aI.gD (cN r).id s.pl.l) (out++[⟨(cN r).aB,1,(cN r).id⟩]):=by
 conv=>lhs;unfold ie
 rw[aj h]
structure pf (s:a6) (r:List az) :Prop where
 xb:r.Pairwise fun a b=>a.aB≠b.aB
 pp:s.pl.l.Pairwise fun a b=>a.aB≠b.aB
 DV:∀ x∈r,∀ y∈s.pl.l,x.aB≠y.aB
theorem pf.full {s:a6} {r:List az} (h:pf s r) (x:az) :pf s (gH r x):=
 ⟨h.xb.sublist kk,h.pp,fun y g=>h.DV y (dx.1 g).1⟩
theorem pf.next {s:a6} {r:List az} (h:pf s r) (x:az) :pf (hu s x) (gH r x++aI.cZ x.id s.pl.l):=by
 have p:(s.pl.l.map (er x.id)).Pairwise fun a b=>a.aB≠b.aB:=by
  rw[m8];exact h.pp
 have t:=vI s x;refine⟨?_,by rw[t];exact p.sublist kk,fun a g v j=>?_⟩
 ·rw[ru];refine⟨h.xb.sublist kk,p.sublist kk,fun a g b u=>?_⟩;obtain⟨y,o,rfl⟩:=cC.1 (dx.1 u).1;exact h.DV a (dx.1 g).1 y o
 ·rw[t] at j;rcases fx.1 g with g | g
  ·obtain⟨y,o,rfl⟩:=cC.1 (dx.1 j).1;exact h.DV a (dx.1 g).1 y o
  ·intro e;obtain⟨i,m⟩:=cq.1 (dx.1 g).1;obtain⟨k,hk⟩:=cq.1 (dx.1 j).1;have:=Dj (f:=az.aB) p m hk e;rw[this,hk] at m;obtain rfl:=cd m;have h1:=(dx.1 g).2;have q:=(dx.1 j).2;rw[h1] at q;cases q
theorem DQ {r:List az} (h:r.Pairwise fun a b=>a.aB≠b.aB) (p:r≠[]) :gH r (cN r)=hE r:=by
 have m:=Iu p;have w:=y3 p;obtain⟨x,q⟩:=al (cN r);obtain⟨i,g⟩:=al (gY r);unfold hE gH;rw[<-q,<-g] at m;rw[<-g] at w;rw[<-q,<-g];have e:r=r.take i++x::r.drop (i+1):=by
  obtain⟨t,u⟩:=aK.1 m;have:=i4 i r;rw[k2 t,u] at this;exact this.symm
 have o:=h;rw[e,ru,AZ] at o;obtain⟨C,⟨z,D⟩,B⟩:=o
 conv=>lhs;rw[e]
 rw[lH,s2];have h1:(r.take i).filter (fun y=>!decide (y.aB=x.aB))=r.take i:=rs.2 fun y j=>by
  have:=B y j x V;simp[this]
 have v:(r.drop (i+1)).filter (fun y=>!decide (y.aB=x.aB))=r.drop (i+1):=rs.2 fun y j=>by
  have:=z y j;simp[show ¬ y.aB=x.aB from fun e=>this e.symm]
 rw[h1,v];simp
theorem IL {r q:List az} (e:r.map aI.bj=q.map aI.bj) :∀ k,k<r.length->jh r k=jh q k/\aI.bj (iW r k)=aI.bj (iW q k)
 | 0,h=>by
  obtain⟨x,g,_⟩:=aP h;obtain⟨y,j,_⟩:=aP (l:=q) (k:=0) (by have:=hA e;omega);refine⟨rfl,?_⟩;unfold iW;rw[eR g,eR j];exact pF e g j
 | k+1,h=>by
  obtain⟨h1,o⟩:=IL e k F;obtain⟨x,g,_⟩:=aP h;obtain⟨y,j,_⟩:=aP (l:=q) (k:=k+1) (by have:=hA e;omega);have m:=pF e g j;have p:=(oM m).1;have em:=(oM o).1;unfold jh iW;rw[eR g,eR j,wj,wj,p,em,h1];split
  ·exact⟨rfl,m⟩
  ·exact⟨rfl,o⟩
theorem Cb {r q:List az} (e:r.map aI.bj=q.map aI.bj) (h:r≠[]) :gY r=gY q/\aI.bj (cN r)=aI.bj (cN q):=by have g:=hA e;unfold gY cN;rw[<-g];exact IL e _ (by have:=qa.2 h;omega)
theorem DP {r q:List az} (e:r.map aI.bj=q.map aI.bj) (h:r≠[]) :(hE r).map aI.bj=(hE q).map aI.bj:=by unfold hE;rw[(Cb e h).1,cS,cS,i3,n1,i3,n1,e]
def Ag (x:List B) (s:az) :az:=⟨s.aB,s.op,s.id,some (s.a2.l.filter (fA x))⟩
theorem XN (x:List B) (s:az) :aI.bj (er x s)=Ag x (aI.bj s):=by
 show (⟨s.aB,aI.cw s.op,s.id,some (nQ x s.a2).l⟩:az)=⟨s.aB,aI.cw s.op,s.id,some (s.a2.l.filter (fA x))⟩
 rw[xl]
theorem XM (x:List B) (s:az) :aI.bj (ke x s)=Ag x (aI.bj s):=by
 show (⟨s.aB,aI.cw (aI.cw s.op),s.id,some (eE (s.a2.l.filter (fA x))).l⟩:az)=⟨s.aB,aI.cw s.op,s.id,some (s.a2.l.filter (fA x))⟩
 rw[kg];rfl
theorem yD {p:az->Bool} (g:∀ s,p (aI.bj s)=p s) (l:List az) :(l.filter p).map aI.bj=(l.map aI.bj).filter p:=by rw[List.filter_map];congr 1;exact E6 fun s _=>(g s).symm
theorem Lv {x:List B} {l m:List az} (e:l.map aI.bj=m.map aI.bj) :(l.map (er x)).map aI.bj=(m.map (ke x)).map aI.bj:=by
 have h1:∀ l:List az,(l.map (er x)).map aI.bj=(l.map aI.bj).map (Ag x):=fun l=>by
  rw[iL,iL];exact mn fun s _=>XN x s
 have g:∀ l:List az,(l.map (ke x)).map aI.bj=(l.map aI.bj).map (Ag x):=fun l=>by
  rw[iL,iL];exact mn fun s _=>XM x s
 rw[h1,g,e]
theorem CZ {x:List B} {l m:List az} (e:l.map aI.bj=m.map aI.bj) :(aI.cP x l).map aI.bj=(aI.gn x m).map aI.bj:=by unfold aI.cP aI.gn;rw[yD (fun s=>rfl),yD (fun s=>rfl),Lv e]
theorem Ca {x:List B} {l m:List az} (e:l.map aI.bj=m.map aI.bj) :(aI.cZ x l).map aI.bj=(aI.gD x m).map aI.bj:=by unfold aI.cZ aI.gD;rw[yD (fun s=>rfl),yD (fun s=>rfl),Lv e]
theorem UT {g:aV} {x:List B} {a b:aJ} (e:Op.cw a=Op.cw b) :jG g x a=jG g x b:=by unfold jG cI;simp only[bX.qL];congr 2;unfold cW;simp only[cS,di,e]
theorem I8 {s t:c9} (h:gT s) {a b:aJ} (u:ei a=0) (q:iv s a=1) (e:eF s=eF t) (p:Op.cw a=Op.cw b) :eF (nG s (bd a) a)=eF (su t b):=by
 obtain⟨C,P,D,j,Q⟩:=zf p;obtain⟨H,I⟩:=D5 h (q5.2 e);obtain⟨m,o⟩:=sg e;have g:=q5.2 e;unfold lB at g;simp only[bU,bI] at g;obtain⟨F,G,R,S⟩:=(mf _ _).1 g.2.1;have v:iv t b=1:=by
  have:iv t b=iv s a:=by
   unfold iv;rw[<-j,<-C,<-o,<-m,<-G]
  rw[this];exact q
 have w:mR t b=0:=by unfold mR;rw[ak ((uJ t).2 H),<-D];exact u
 have z:su t b=C4 t b:=by
  unfold su;rw[ak w];unfold lu;rw[ak v]
 obtain⟨J,K,O⟩:=Cz h q;obtain⟨_,B⟩:=JZ h.aG J O u rfl K;rw[z];refine q5.1 ?_;unfold lB;simp only[bU,bI];refine⟨m,?_,?_⟩
 ·show ih (ft s.aG (bd a) a) (jj (jG (cQ t.aG) (bd b) b) t.aG.ai.l.length)=true;rw[I,<-j,<-UT p,<-F];exact B
 ·show s.ay.l++[bd a]=t.ay.l++[bd b]
  rw[o,j]
theorem DL:∀ (n:Nat) (s t:a6) (r q:List az) (out:List df),h5 s r->pf s r->eS s t->r.map aI.bj=q.map aI.bj->eS (fB n s r out).1 (ie n t q out).1/\(fB n s r out).2=(ie n t q out).2
 | 0,s,t,r,q,out,h,o,e,j=>⟨e,rfl⟩
 | n+1,s,t,r,q,out,h,o,e,j=>by
  by_cases g:r=[]
  ·subst g;have m:q=[]:=by have:=hA j;exact hp.1 this.symm
   subst m;rw[sw,Kq];exact⟨e,rfl⟩
  ·have m:q≠[]:=fun m=>by
    have:=hA j;rw[m] at this;exact g (hp.1 this)
   rw[q2 n s out g,Kp n t out m];obtain⟨_,F⟩:=Cb j g;obtain⟨C,D,u,H⟩:=oM F;have G:fW s=fW t:=by
    obtain⟨z,B⟩:=sg e.aC;unfold fW;rw[z,B]
   have w:(gH r (cN r)).map aI.bj=(hE q).map aI.bj:=by rw[DQ o.xb g];exact DP j g
   rw[<-G,<-C,<-u];cases v:fW s with
   | true=>
    rw[ak rfl,ak rfl];exact DL n s t _ _ _ (h.full _) (o.full _) e w
   | false=>
    rw[aj V,aj V];have p:=rZ g;refine DL n _ _ _ _ _ (h.next p v) (o.next _) ⟨?_,e.bD,?_,e.bG,e.dP⟩ ?_
    ·exact I8 h.st (h.gr _ p).1 (h.wm p v) e.aC D
    ·show (cU (aI.cP (cN r).id s.pl.l)).l.map _=(cU (aI.gn (cN q).id t.pl.l)).l.map _;rw[eW,eW,<-u];exact CZ e.pl
    ·rw[cS,cS,w,Ca e.pl]
end Op
theorem aE.upto {z:Nat} {l:ad} {v:U} {j:Nat} {es:List (ag)} (h:aE z l v j es) (H:bo v=false) {k:cV} {i:Nat} (C:i<=es.length) :∃ o,dw (.Z z) v none (some (.int k (i:Int))) none=some o/\cr l z o=some ((es.take i).flatten,i):=by
 cases h with
 | nil j=>cases H
 | Z j n cap Q cs es g K G I q J t=>
  subst G;have B:(es.flatten).take (i*z)=(es.take i).flatten:=by
   have h1:es.flatten=(es.take i).flatten++(es.drop i).flatten:=by rw[<-jq,i4]
   have p:(es.take i).flatten.length=i*z:=by
    rw[hw (z:=z) (fun e w=>I e (gA w)),cL];congr 1;omega
   rw[h1,<-p,List.take_left]
  have O:i*z<=es.length*z:=ck _ C;have P:es.length*z<=cap*z:=ck _ q;have u:(cs.take (i*z))=(es.take i).flatten:=by
   rw[<-B,<-t,lK];congr 1;omega
  rw[q7,ya,ak ⟨F,F⟩];simp only[fm,cz,bc,exists_eq_left'];by_cases m:cap=0
  ·have D:i=0:=F;subst D;rw[ak m];simp[cr,g]
  ·rw[aj m];simp[cr,g,u]
theorem aE.Jc {z:Nat} {l:ad} {v:U} {j:Nat} {es:List (ag)} (h:aE z l v j es) (D:bo v=false) {k:cV} {i:Nat} (B:i<=es.length) :∃ g,dw (.Z z) v (some (.int k (i:Int))) none none=some g/\cr l z g=some ((es.drop i).flatten,es.length - i):=by
 obtain⟨g,h1,m,t⟩:=h.q.from D (k:=k) B;refine⟨g,h1,?_⟩;have o:es.length - i=(es.drop i).length:=by rw[i2]
 rw[o];generalize es.drop i=p at m;cases m with
 | nil j=>cases t
 | Z j I n cap J cs p u o C H F G w=>
  subst C;simp[cr,u,w]
theorem GN {z:Nat} {l m:ad} {v:U} {cs:ag} {n:Nat} (h:cr l z v=some (cs,n)) :cr (l++m) z v=some (cs,n):=by
 cases v<;>simp only[cr] at h ⊢<;>try exact h
 rename_i p b j len cap o;cases g:l[b]? with
 | none=>rw[g] at h;cases h
 | some c=>
  rw[aU (aX g),g];rw[g] at h;exact h
theorem aE.at {z:Nat} {l:ad} {v:U} {j:Nat} {es:List (ag)} (h:aE z l v j es) {k:cV} {i:Nat} {e:ag} (g:es[i]?=some e) :
  ∃ sz cs,bO (.Z z) v (.int k (i:Int))=some (.ptr j (i*z) sz)/\l[j]?=some (.q sz cs)/\cs.length=sz/\i*z+z<=sz/\(cs.drop (i*z)).take z=e/\∀ c,0<z->e[0]?=some c->cs[i*z]?=some c:=by
 cases h with
 | nil j=>simp at g
 | Z j n cap sz cs es t C D o u I m=>
  have B:=(aK.1 g).1;have h1:i*z+z<=n*z:=by rw[<-ek];exact ck _ F
  have H:n*z<=cap*z:=ck _ u;have G:=B7 o g;refine⟨sz,cs,?_,t,C,F,?_,fun c p w=>?_⟩
  ·simp[bO,D ▸ B]
  ·rw[<-G,<-m,p9,lK];congr 1;omega
  ·have:=ll o g p;rw[<-m,dS F,na] at this;rw[this,w]
namespace Op
open cu aI
def ni (t:a6) (q:List az) :Prop:=∃ s r,h5 s r/\pf s r/\eS s t/\r.map aI.bj=q.map aI.bj
theorem ni.inv {t:a6} {q:List az} (h:ni t q) :h5 t q:=by obtain⟨s,r,h1,m,g,j⟩:=h;exact V5 h1 g j
theorem ni.full {t:a6} {q:List az} (h:ni t q) (p:q≠[]) :ni t (hE q):=by
 obtain⟨s,r,h1,j,o,m⟩:=h;have g:r≠[]:=fun g=>by
  have:=hA m;rw[g] at this;exact p (hp.1 this.symm)
 exact⟨s,gH r (cN r),h1.full _,j.full _,o,by rw[DQ j.xb g];exact DP m g⟩
theorem ni.next {t:a6} {q:List az} (h:ni t q) (F:q≠[]) (v:fW t=false) :ni (po t (cN q)) (hE q++aI.gD (cN q).id t.pl.l):=by
 obtain⟨s,r,h1,u,g,m⟩:=h;have j:r≠[]:=fun j=>by
  have:=hA m;rw[j] at this;exact F (hp.1 this.symm)
 have w:fW s=false:=by
  obtain⟨z,B⟩:=sg g.aC;unfold fW at v ⊢;rw[z,B];exact v
 obtain⟨_,D⟩:=Cb m j;obtain⟨G,C,p,H⟩:=oM D;have o:=rZ j;refine⟨hu s (cN r),gH r (cN r)++aI.cZ (cN r).id s.pl.l,h1.next o w,u.next _,⟨?_,g.bD,?_,g.bG,g.dP⟩,?_⟩
 ·exact I8 h1.st (h1.gr _ o).1 (h1.wm o w) g.aC C
 ·show (cU (aI.cP (cN r).id s.pl.l)).l.map _=(cU (aI.gn (cN q).id t.pl.l)).l.map _;rw[eW,eW,<-p];exact CZ g.pl
 ·rw[cS,cS,DQ u.xb j,DP m j,<-p,Ca g.pl]
theorem Uu (x:List B) (l:List az) :(aI.gn x l).length+(aI.gD x l).length=l.length:=by have h1:=hA (CZ (x:=x) (l:=l) (m:=l) rfl);have g:=hA (Ca (x:=x) (l:=l) (m:=l) rfl);rw[<-h1,<-g];exact aI.qV x l
theorem V3 {q:List az} (h:q≠[]) :(hE q).length+1=q.length:=by have:=y3 h;unfold hE;rw[cF,cL,i2];omega
structure M1 (g:U) (q:List az) (L:ad) (jp:U) (k:Nat) (sgZ:aS) (l:ad) :Prop where
 ny:l=L
 ha:sgZ 2=.ptr 0 0 9
 hQ:sgZ 4=.ptr 2 0 9
 lm:sgZ 6=jp
 r0:sgZ 7=g
 nw:sgZ 8=.i6 (jh q k:Int)
 vY:sgZ 9=.i6 ((k+1:Nat) :Int)
structure M7 (fin:a6 × List df) (N:Nat) (k:Nat) (sgZ:aS) (L:ad) :Prop where
 ha:sgZ 2=.ptr 0 0 9
 hQ:sgZ 4=.ptr 2 0 9
 jE:L[2]?=some (.q 9 (bn ga))
 ex:∃ t q out g jp j h,sgZ 7=g/\sgZ 6=jp/\ni t q/\q.length+t.pl.l.length+k<=N/\ie (N - k) t q out=fin/\L[0]?=some (.q 9 (bn t))/\aE 45 L g j (q.map aO)/\aE 34 L jp h (out.map c1)/\(g=.ae\/3<=j)/\(jp=.ae\/3<=h)/\bo jp=out.isEmpty/\out.length<=k
theorem PO (t0:a6) (C:az) (dN:h4 C) (dJ:ni t0 [C]) {N:Nat} (ew:1+t0.pl.l.length<=N) (ex:N<=1000) :
  aW 59 [.af (bn t0),.af (aO C)] (.a1 [.af (bn (ie N t0 [C] []).1),gC (hX (ie N t0 [C] []).2)]):=by
 apply a8 func59 [[],cR 0 4++cR 5 4++[[4]]];have bL:=ds;obtain⟨dk,cv⟩:=al (ie N t0 [C] []);rw[<-cv];have aD:=(eQ dN).len;have dK:=g1 aD;have c3:∀ t:a6,(bn t).length=9:=fun _=>rfl
 have en:∀ t:a6,(bn t).take 9=bn t:=fun _=>rfl
 simp[aD,dK,c3,aH];refine bx N (M7 dk N) ?_ ⟨V,V,by simp[qE],t0,[C],[],.Z 45 3 0 1 1 45,.ae,3,0,V,V,dJ,by simp;omega,by simpa using cv.symm,V,.Z 3 1 1 45 (aO C) [aO C] V aD rfl (by simp[aD]) F F (by simp[aD,aH]),.nil 0,.inr F,.inl rfl,rfl,V⟩;rintro k bZ L hk ⟨K,O,aS,t,q,out,ai,b0,cM,bd,aA,P,bB,eD,a9,cT,B,aR,d7,d6,n6,eV⟩;obtain⟨bZ,rfl⟩:=eO K O P aA;clear K O P aA;have S:=B.len;rw[cg] at S;by_cases v:q=[]
 ·subst v;rw[Kq] at a9;subst a9;simp at S;rw[qE] at aS;have eo:aw [U.i6 0,.ae,.ae,.i6 0,.ae,.i6 0,.ae,.i6 0,.bool false] 0 (bn t)=bn t:=cy rfl;have eh:∀ c:ao,(L.set 2 c)[2]?=some c:=fun c=>bV (aX aS)
  simp[S,cT,aS,c3,en,eo,eh];exact zQ (.same _ (jd t)) ((aR.cl (d6.imp id fun h=>bg F)).q.gG qv (hX out) (by rw[n6,Ai]) (sJ out))
 ·have dH:0<q.length:=qa.2 v;have bM:ai≠.ae:=fun e=>by
   subst e;have:=B.q.oN;rw[m7] at this;exact v this
  have bN:bo ai=false:=by
   cases h:bo ai with
   | false=>rfl
   | true=>exact bW (gm.1 h) bM
  have eF:=B.lt.resolve_left bM;have eG:=d7.resolve_left bM;have G:=bB.inv;simp[S,dH];refine bx (q.length - 1) (M1 ai q L b0) ?_ ⟨rfl,V,V,V,V,by simp[jh],V⟩;rintro m bZ g cx ⟨rfl,K,O,P,aA,cj,bt⟩;obtain⟨i,aG⟩:=al (m+1);rw[<-aG] at bt;obtain⟨bZ,rfl⟩:=m0 K O P aA cj bt;clear K O P aA cj bt;have eE:=Cy q m;by_cases a5:i<q.length
  ·obtain⟨y,cJ,dQ⟩:=aP a5;obtain⟨w,cE,dM⟩:=aP (l:=q) (k:=jh q m) F;have eB:=(eQ (G.l8 y dQ)).len;have eA:=(eQ (G.l8 w dM)).len;have aZ:=cf (k:=i) F;obtain⟨c2,cs,aV,ax,dh,di,bp,b4⟩:=B.at (k:=.i64) (i:=i) (e:=aO y) (by rw[b1,cJ];rfl)
   obtain⟨ek,cs',aY,I,dj,b9,ca,bq⟩:=B.at (k:=.i64) (i:=jh q m) (e:=aO w) (by rw[b1,cE];rfl)
   have b5:=b4 (.i6 y.aB) F rfl;have cb:=bq (.i6 w.aB) F rfl;have bc:jh q (m+1)=if y.aB<w.aB then m+1 else jh q m:=by
    have h1:e9 q (m+1)=y:=by rw[<-aG];exact eR cJ
    have dn:e9 q (jh q m)=w:=eR cE;rw[<-h1,<-dn];rfl
   rw[ax] at I;obtain⟨rfl,rfl⟩:c2=ek/\cs=cs':=by simpa using I
   by_cases aL:y.aB<w.aB
   ·rw[ak aL] at bc;simp[S,a5,aV,ax,aY,b5,cb,aL,aZ];exact⟨F,rfl,V,V,V,V,by simp[bc,aG],by simp[aG]⟩
   ·rw[aj aL] at bc;simp[S,a5,aV,ax,aY,b5,cb,aL,aZ];exact⟨F,rfl,V,V,V,V,by simp[bc],by simp[aG]⟩
  ·have dD:m=q.length - 1:=F;have dC:jh q m=gY q:=by rw[dD];rfl
   rw[dC];have aL:=y3 v;have ct:=Iu v;have cI:=rZ v;have aM:ie (N - k) t q out=if fW t then ie (N - k - 1) t (hE q) (out++[⟨(cN q).aB,8,(cN q).id⟩])
     else ie (N - k - 1) (po t (cN q)) (hE q++aI.gD (cN q).id t.pl.l) (out++[⟨(cN q).aB,1,(cN q).id⟩]):=by
    obtain⟨m,cx⟩:∃ m,N - k=m+1:=⟨N - k - 1,F⟩
    rw[cx];exact Kp m t out v
   have aQ:=G.l8 _ cI;have H:=eQ aQ;have dy:=bB.full v;have cA:=fun R=>bB.next v R
   have eT:=V3 v;obtain⟨x,dO⟩:=al (cN q);rw[<-dO] at ct cI aM aQ H cA;obtain⟨c2,cs,aV,ax,dh,di,bp,b4⟩:=B.at (k:=.i64) (i:=gY q) (e:=aO x) (by rw[b1,ct];rfl)
   have aZ:IntKind.i64.wrap ((gY q:Int)+1)=((gY q+1:Nat) :Int):=by rw[IntKind.wrap_i64];have:=G.l8;omega
   have cD:=g1 H.len;obtain⟨Y,cq⟩:=al (aO x);rw[<-cq] at bp H cD;obtain⟨c4,dl,K⟩:=B.upto bN (k:=.i64) (i:=gY q) (by simp;omega);obtain⟨EK,ce,O⟩:=B.Jc bN (k:=.i64) (i:=gY q+1) (by simp;omega);have dm:dw (.Z 45) ai (some (.i6 ((gY q:Int)+1))) none none=some EK:=ce;have eY:q.length<=1000:=F
   -- the row without the least one
   obtain⟨X,D⟩:=al (g++[ao.q 45 Y,ao.q 0 []]);have es:∀ (c:Nat) (b:ao),g[c]?=some b->X[c]?=some b:=fun c b p=>by rw[D,aU (aX p)];exact p
   have ev:X.length=g.length+2:=by rw[D];simp
   have ep:aE 45 X (.Z 45 (g.length+1) 0 0 0 0) (g.length+1) []:=.Z _ 0 0 0 [] [] (by rw[D];simp) rfl rfl V (aN _) F V;have dT:cr X 45 c4=some (((q.map aO).take (gY q)).flatten,gY q):=by rw[D];exact GN K
   have eZ:cr X 45 EK=some (((q.map aO).drop (gY q+1)).flatten,q.length - (gY q+1)):=by
    rw[D];have:=GN (m:=[ao.q 45 Y,ao.q 0 []]) O;simpa using this
   have cK:∀ e∈q.map aO,e.length=45:=B.row;obtain⟨c5,R1,dc,dd,bl,eu,b3,de,dg⟩:=hN (by_:=176) (x:=c4) (xs:=(q.map aO).take (gY q)) ep (by rw[dT,cL];simp;omega) (fun e aF=>cK e (gA aF)) F F (by rw[bL];simp;omega);have dZ:aE 45 dc ai cM (q.map aO):=B.frame fun bI=>by rw[b3 cM F (.inr F),D,aU bI]
   obtain⟨fo,ci,P⟩:=dZ.Jc bN (k:=.i64) (i:=gY q+1) (by simp;omega);rw[ce] at ci;obtain rfl:=cd ci;have dS:∀ e∈(q.map aO).drop (gY q+1),e.length=45:=fun e aF=>cK e (u7 aF)
   rw[h0] at bl;obtain⟨W,nA,u,aY,I,dj,b9,ca,bq⟩:=hN (by_:=176) (x:=EK) (xs:=(q.map aO).drop (gY q+1)) bl (by rw[P,i2]) dS F F (by rw[bL];simp;omega);have bR:bo c5=false:=by rw[dg];rfl
   have dL:c5≠.ae:=fun e=>by rw[e] at bR;cases bR
   have eJ:g.length+1<=R1:=by
    rcases de with h | ⟨_,h⟩ | h
    ·omega
    ·omega
    ·exact bW h dL
   have cH:bo W=false:=by rw[bq,bR];rfl
   have bS:W≠.ae:=fun e=>by rw[e] at cH;cases cH
   have eL:g.length+1<=nA:=by
    rcases ca with h | ⟨_,h⟩ | h
    ·omega
    ·omega
    ·exact bW h bS
   have b8:aE 45 u W nA ((hE q).map aO):=by
    unfold hE;rw[cS,i3,n1];exact I
   have cc:∀ b,b<=g.length->u[b]?=X[b]?:=fun b p=>by rw[b9 b F (.inr F),b3 b F (.inr F)]
   have bs:∀ b,b<g.length->u[b]?=g[b]?:=fun b p=>by rw[cc b F,D,aU p]
   have bT:u[g.length]?=some (.q 45 Y):=by rw[cc _ (aN _),D];simp
   have T:u[0]?=some (.q 9 (bn t)):=by rw[bs 0 F];exact cT
   have n32:u[2]?=some (.q 9 (bn ga)):=by rw[bs 2 (aX aS)];exact aS
   have cQ:aE 34 u b0 bd (out.map c1):=aR.frame fun bI=>bs bd bI
   have e0:=bl.cells;have e1:=I.cells;simp[S,a5,aV,ax,bp,cD,H.len,dl,aZ,dm];refine⟨F,?_⟩;rw[<-D];simp[dd];refine bP.bm ?_;simp[aY];refine bP.bm ?_;have ck:=fK t;have a7:=G.ok;have eU:=a7.aC.no;have cw:bz (.Z 32) (ah t.aC.ay)=_:=b6 _;obtain⟨da,bw⟩:=al (bn t);rw[<-bw] at T ck;obtain⟨cY,e4,eg,fi,fe,fj,fa,e7,e6,fg,cZ,fk,fd,e8,cX,fh,e5⟩:=ck;have o:=br aQ.id;have bk:=H.len;have c8:=H.aB;have c7:=H.op;have aT:=H.id;have C:Y[0]?=some (.i6 x.aB):=by rw[cq];rfl
   by_cases R:fW t=true
   ·have bF:(t.aC.ay.l.length:Int)=t.aC.cap:=by unfold fW at R;exact iM R
    rw[ak R] at aM;obtain⟨ap,pA,j,d1,d2,d3,d4,d5,J⟩:=x3 cQ (s:=⟨x.aB,8,x.id⟩) (by simp[c1,o]) F;have bv:c1 ⟨x.aB,8,x.id⟩=.i6 x.aB::.int .u8 8::am x.id:=rfl;rw[bv] at d1;obtain⟨db,bC⟩:=al (am x.id);rw[<-bC] at d1 aT o;have q1:=uy (.int .u8 8);have bi:=uz (.int .u8 8) o;have bj:=uA (.int .u8 8) o;simp[T,bT,cY,cZ,cX,cw,bF,bk,c8,aT,ey,q1,bi,bj,sC o,o,d1];refine bP.bm ?_;simp;have a3:3<=pA:=by
     rcases d5 with h | ⟨h,h'⟩
     ·omega
     ·rw[h'];exact d6.resolve_left h
    refine⟨F,V,V,?_,t,hE q,out++[⟨x.aB,8,x.id⟩],W,ap,nA,pA,V,V,dy,F,by rw[<-a9,show N - (k+1)=N - k - 1 by omega,aM],?_,b8.cl (.inr (d4 nA (I.lt.resolve_left bS) ?_)),d2,.inr F,.inr a3,by rw[J];simp,by simp;omega⟩
    ·rw[d4 2 (aX n32) (d6.imp id fun h=>F)];exact n32
    ·rw[d4 0 (aX T) (d6.imp id fun h=>F),<-bw];exact T
    ·rcases aR.lt with h | h
     ·exact .inl h
     ·exact .inr F
   ·have bH:fW t=false:=by cases h:fW t with | true=>exact bW h R | false=>rfl
    have bF:¬ (t.aC.ay.l.length:Int)=t.aC.cap:=by unfold fW at bH;exact of_decide_eq_false bH
    rw[aj R] at aM;have cz:=cA bH;have bK:=Vi t.aC a7.aC x.op aQ.op;have dx:=je t.aC;have cB:=du x.op;have a2:=U8 t.bD t.pl a7.pl (by have:=a7.len;omega) x.id aQ.id;rw[Pl,ak G.pen,ak G.pen,ak G.pen] at a2;have dv:aq (bA t.bD t.pl)=true:=by simp[bA,aq,U.ar,fU]
    have cn:=cG x.id;obtain⟨Q,cp⟩:=al (su t.aC x.op);rw[<-cp] at bK;have dr:(bJ Q).length=5:=rfl;have ez:(bJ Q).take 5=bJ Q:=rfl;obtain⟨iF,bb⟩:=al (⟨Q,t.bD,t.pl,t.bG,t.dP⟩:a6);have dI:aw da 0 (bJ Q)=bn iF:=by rw[bw,bb];rfl
    obtain⟨z,aJ⟩:=al (u.set 0 (ao.q 9 (bn iF)));have eN:z.length=u.length:=by rw[aJ];simp
    have bU:z[0]?=some (.q 9 (bn iF)):=by rw[aJ];exact bV (aX T)
    have a0:∀ b,b≠0->z[b]?=u[b]?:=fun b p=>by rw[aJ];exact bg (fun e=>p e.symm)
    have bX:z[g.length]?=some (.q 45 Y):=by rw[a0 _ F];exact bT
    have n42:z[2]?=some (.q 9 (bn ga)):=by rw[a0 2 F];exact n32
    have dX:aE 34 z b0 bd (out.map c1):=cQ.cl (d6.imp id fun h=>a0 bd F);have ea:aE 45 z W nA ((hE q).map aO):=b8.cl (.inr (a0 nA F));obtain⟨ap,pA,j,d1,d2,d3,d4,d5,J⟩:=x3 dX (s:=⟨x.aB,1,x.id⟩) (by simp[c1,o]) F;have bv:c1 ⟨x.aB,1,x.id⟩=.i6 x.aB::.int .u8 1::am x.id:=rfl;rw[bv] at d1;have q1:=uy (.int .u8 1);have bi:=uz (.int .u8 1) o;have bj:=uA (.int .u8 1) o;have dA:=aR.lt;have bf:∀ b,b<z.length->(b<3\/g.length<=b)->j[b]?=z[b]?:=fun b p bE=>d4 b p (by
     rcases bE with bE | bE
     ·exact d6.imp id fun h=>F
     ·exact dA.imp id fun h=>F)
    have bh:j[0]?=some (.q 9 (bn iF)):=by rw[bf 0 (aX bU) (.inl F)];exact bU
    have dV:j[g.length]?=some (.q 45 Y):=by rw[bf _ (aX bX) (.inr (aN _))];exact bX
    have n62:j[2]?=some (.q 9 (bn ga)):=by rw[bf 2 (aX n42) (.inl F)];exact n42
    have eM:=I.lt.resolve_left bS;have eb:aE 45 j W nA ((hE q).map aO):=ea.cl (.inr (bf nA F (.inr F)));have b2:=fK iF;have dF:iF.bD=t.bD:=by rw[bb]
    have dG:iF.pl=t.pl:=by rw[bb]
    have cu:aw (bn iF) 5 [.i6 t.bD,ch (cU (aI.gn x.id t.pl.l))]=bn (po t x):=by rw[bb,cp];rfl
    obtain⟨nd,cm⟩:=al (bn iF);rw[<-cm] at b2 bh aJ bU cu;obtain⟨ei,fl,fm,c0,_⟩:=b2;rw[dF,dG] at c0;have dp:bA t.bD (cU (aI.gn x.id t.pl.l))=[.i6 t.bD,ch (cU (aI.gn x.id t.pl.l))]:=rfl;rw[dp] at a2;have ej:∀ a b:U,aw [U.i6 0,.ae] 0 [a,b]=[a,b]:=fun _ _=>rfl
    have eC:(ch (cU (aI.gn x.id t.pl.l))).ar=true:=fU _;obtain⟨db,bC⟩:=al (am x.id);rw[<-bC] at d1 aT o bi bj cn a2;obtain⟨et,dq⟩:=al (av x.op);rw[<-dq] at bK cB c7;have dU:∀ m:ad,(j++m)[0]?=some (.q 9 nd):=fun m=>by rw[aU (aX bh)];exact bh
    simp[T,bT,cY,cZ,cX,cw,bF,bk,c7,eg];refine au bK (by simp[aq,U.ar,dx,cB]) ?_;simp[T,dr,dI];rw[<-cm,<-aJ];simp[bX,bk,c8,aT,ey,q1,bi,bj,sC o,o,d1];refine bP.bm ?_;simp[bh,dV,ei,c0,bk,aT];refine au a2 (by simp[aq,U.ar,dv,cn]) ?_;have c9:∀ (m:ad) (h:0<(j++m).length),(j++m)[0]'h=.q 9 nd:=fun m h=>(aK.1 (dU m)).2
    obtain⟨ag,a4⟩:=al ((j++[ao.q 2 [U.i6 t.bD,ch (cU (aI.gn x.id t.pl.l))]]).set 0 (ao.q 9 (bn (po t x))));have eS:ag.length=j.length+1:=by rw[a4];simp
    have eP:z.length+1<=j.length:=d3;have f7:∀ b,b≠0->b<j.length->ag[b]?=j[b]?:=fun b p dt=>by rw[a4,bg (fun e=>p e.symm),aU dt]
    have cP:ag[0]?=some (.q 9 (bn (po t x))):=by rw[a4];exact bV V
    have cO:ag[2]?=some (.q 9 (bn ga)):=by rw[f7 2 F (aX n62)];exact n62
    have ec:aE 45 ag W nA ((hE q).map aO):=eb.cl (.inr (f7 nA F F));have dY:aE 34 ag ap pA ((out++[(⟨x.aB,1,x.id⟩:df)]).map c1):=by
     have bO:ap≠.ae:=fun e=>by rw[e] at J;cases J
     refine d2.cl (.inr (f7 pA ?_ (d2.lt.resolve_left bO)));rcases d5 with h | ⟨h,h'⟩
     ·omega
     ·rw[h'];have:=d6.resolve_left h;omega
    have eX:=Uu x.id t.pl.l;have dE:=cz.inv.l8;have dz:∀ e∈(aI.gD x.id t.pl.l).map aO,e.length=45:=fun e aF=>by
     obtain⟨er,dR,rfl⟩:=cC.1 aF;exact (eQ (dE er (List.mem_append_right _ dR))).len
    obtain⟨c6,Ik,fq,ed,cW,e2,bY,ef,e3⟩:=hN (by_:=176) (x:=ch (cU (aI.gD x.id t.pl.l))) (xs:=(aI.gD x.id t.pl.l).map aO) ec (by simp[ch,eW]) dz F F (by rw[bL];simp;omega);rw[<-cS] at cW;have bO:ap≠.ae:=fun e=>by rw[e] at J;cases J
    have eH:=d2.lt.resolve_left bO;have a3:3<=pA/\pA≠nA:=by
     rcases d5 with h | ⟨h,h'⟩
     ·exact⟨F,F⟩
     ·have:=d6.resolve_left h;have:=aR.lt.resolve_left h;rw[h'];exact⟨F,F⟩
    have dB:c6=.ae\/3<=Ik:=by
     rcases ef with h | ⟨_,h⟩ | h
     ·exact .inr F
     ·exact .inr F
     ·exact .inl h
    simp[ej,c9,cu];rw[<-a4];simp[ed];refine bP.bm ?_;simp;refine⟨F,V,V,?_,po t x,hE q++aI.gD x.id t.pl.l,out++[⟨x.aB,1,x.id⟩],c6,ap,Ik,pA,V,V,cz,?_,by rw[<-a9,show N - (k+1)=N - k - 1 by omega,aM],?_,cW,dY.cl (.inr (bY pA F (.inr a3.2))),dB,.inr a3.1,by rw[J];simp,by simp;omega⟩
    ·rw[bY 2 (aX cO) (.inr F)];exact cO
    ·have:(po t x).pl.l.length=(aI.gn x.id t.pl.l).length:=by show (cU _).l.length=_;rw[eW]
     rw[cF,this];omega
    ·rw[bY 0 (aX cP) (.inr F)];exact cP
end Op
namespace Op
open cu aI
def jO (s:a6) :a6:=⟨eF s.aC,s.bD,cU (s.pl.l.map aI.bj),s.bG+1,s.dP⟩
def wZ (s:a6) (j:cb) :a6:=⟨eF s.aC,s.bD,some ((s.pl.l.map aI.bj).map aI.bj++[aI.bj ⟨j.aB,j.op,bd j.op,eE (db s.aC.ay.l j.op)⟩]),s.bG+1,s.dP⟩
noncomputable def eA (s:a6) (j:cb) :a6 × List df:=
 if eJ s j=6 then (wZ s j,[⟨j.aB,6,j.id⟩])
 else if eJ s j=1 then ie (1+s.pl.l.length) (jO s) [fY j] []
 else (jO s,[⟨j.aB,eJ s j,j.id⟩])
theorem ED (s:c9) :eF (eF s)=eF s:=(q5.1 (WE s)).symm
theorem wA (l:List az) :(l.map aI.bj).map aI.bj=l.map aI.bj:=by rw[iL];exact mn fun s _=>rfl
theorem C1 (s:a6) :eS (fu s) (jO s):=by refine⟨(ED s.aC).symm,rfl,?_,rfl,rfl⟩;show (cU s.pl.l).l.map _=(cU (s.pl.l.map aI.bj)).l.map _;rw[eW,eW,wA]
theorem IV {s t:a6} (e:eS s t) :eS (fu s) (fu t):=by refine⟨e.aC,e.bD,?_,by show s.bG+1=t.bG+1;rw[e.bG],e.dP⟩;show (cU s.pl.l).l.map _=(cU t.pl.l).l.map _;rw[eW,eW,e.pl]
theorem wH (s:a6) :eS s (i0 s):=by refine⟨(ED s.aC).symm,rfl,?_,rfl,rfl⟩;show s.pl.l.map _=(cU (s.pl.l.map aI.bj)).l.map _;rw[eW,wA]
theorem C0 (s:a6) :eS s (iH s):=by refine⟨rfl,rfl,?_,rfl,rfl⟩;show s.pl.l.map _=(cU s.pl.l).l.map _;rw[eW]
theorem w7:∀ (n:Nat) (s:a6) (r:List az) (out:List df),fB n s r out=((fB n s r []).1,out++(fB n s r []).2)
 | 0,s,r,out=>by show (s,out)=(s,out++[]);rw[eK]
 | n+1,s,r,out=>by
  by_cases h:r=[]
  ·subst h;rw[sw,sw];simp
  ·rw[q2 n s out h,q2 n s [] h];split
   ·rw[w7 n _ _ (out++_),w7 n _ _ ([]++_)];simp
   ·rw[w7 n _ _ (out++_),w7 n _ _ ([]++_)];simp
theorem TR {s:a6} {j:cb} (h:fg j=true) (h1:eJ s j=1) :dJ s j=fB (1+s.pl.l.length) (fu s) [fY j] []:=by
 have m:=Cc (s:=s) h h1;have e:gH [fY j] (fY j)=[]:=by unfold gH;simp
 have g:cN [fY j]=fY j:=rfl;have o:(fu s).pl.l=s.pl.l:=eW _;rw[rx,q2 _ _ _ V,m,aj V,g,e,h0,o,w7];unfold dJ hb;rw[aj (by rw[h1];decide),ak h1];rfl
theorem LM {s:a6} (g:lQ s) {j:cb} (u:j.aB=s.bG) :pf (fu s) [fY j]:=by have m:(fu s).pl.l=s.pl.l:=eW _;obtain⟨z,t⟩:=nJ g.pen;obtain⟨v,q,w⟩:=(pw s.pl.l).1 t;refine⟨V,by rw[m];exact q.imp fun h e=>F,fun x p y o=>?_⟩;rw[gd.1 p];rw[m] at o;have:=(g.kH y o).1;show j.aB≠y.aB;omega
theorem WW {s:a6} (p:dT s) (g:lQ s) {j:cb} (o:fo j) (m:fg j=true) (h:j.aB=s.bG) (q:eJ s j=1) :ni (jO s) [fY j]:=
 ⟨fu s,[fY j],zU p g o m h q,LM g h,C1 s,rfl⟩
theorem zn {s t:a6} (z:dT s) {j:cb} (v:fo j) (u:dH s j=0) (e:eS s t) :eS (dJ s j).1 (eA t j).1/\(dJ s j).2=(eA t j).2:=by
 obtain⟨m,o,p,B⟩:=zl u;have g:=Yk e j;obtain⟨_,w⟩:=sg e.aC;by_cases h:eJ s j=6
 ·unfold dJ eA;rw[ak h,ak (by rw[<-g];exact h)];refine⟨⟨?_,e.bD,?_,by show s.bG+1=t.bG+1;rw[e.bG],e.dP⟩,rfl⟩
  ·show eF s.aC=eF (eF t.aC);rw[ED,e.aC]
  ·show (s.pl.l++[_]).map _=((t.pl.l.map aI.bj).map aI.bj++[_]).map _;rw[cS,cS,wA,wA,e.pl,w];rfl
 ·by_cases h1:eJ s j=1
  ·have q:eA t j=ie (1+t.pl.l.length) (jO t) [fY j] []:=by
    unfold eA;rw[aj (by rw[<-g,h1];decide),ak (by rw[<-g];exact h1)]
   rw[TR o h1,q,hA e.pl];exact DL _ _ _ _ _ _ (zU z m v o p h1) (LM m p) ((IV e).trans (C1 t)) rfl
  ·unfold dJ eA;rw[aj h,aj h1,aj (by rw[<-g];exact h),aj (by rw[<-g];exact h1),<-g];exact⟨(IV e).trans (C1 t),rfl⟩
theorem XL {l:List az} (h:fj l) :fj (l.map aI.bj):=C9 h (wA l).symm
theorem TN {t:a6} (m:dT t) {j:cb} (h:fo j) (g:dH t j=0) :dT (eA t j).1:=sm (zm m h g).1 (zn m h g (eS.refl t)).1
open cu aI
noncomputable def sk (s:a6) (j:cb) :a6:=if dH s j=0 then (eA s j).1 else ga
noncomputable def si (s:a6) (j:cb) :List df:=if dH s j=0 then (eA s j).2 else []
theorem R0 (j:cb) :aO (fY j)=.i6 j.aB::(av j.op++(am j.id++[.ae])):=rfl
theorem PI (s:a6) (z:dT s) (j:cb) (o:fo j) :aW 19 [.af (bn s),.af (ed j)] (.a1 [.af (bn (sk s j)),gC (hX (si s j)),.i6 (dH s j)]):=by
 apply a8 func19 [cR 0 11++[[11,5,3,1]],cR 0 8++[[8,7,5,2]]];have cl:=ds;have aX:=fK s;have J:=l4 o;have aG:=GX s z;have bl:=U9 j o;have bad:dH s j≠0->∀ l:ad,Rd l (.a1 [.af [.i6 0,.ae,.ae,.i6 0,.ae,.i6 0,.ae,.i6 0,.bool false],.ae,.i6 (dH s j)]) (.a1 [.af (bn (sk s j)),gC (hX (si s j)),.i6 (dH s j)]):=fun h l=>by
  unfold sk si;rw[aj h,aj h];exact aL
 have W:dH s j=if fP s=0 then (if fg j then (if j.aB=s.bG then (if s.bG=1000000000 then 18 else 0) else 32) else 8) else 8:=rfl
 obtain⟨cf,bf⟩:=al (bn s);obtain⟨L,a9⟩:=al (ed j);rw[<-bf] at aX aG ⊢;rw[<-a9] at J bl ⊢;obtain⟨C,aK,cE,cB,cx,cC,cw,cu,cs,cz,b1,cD,aU,cv,ct,cA,aM⟩:=aX;obtain⟨p,R,cn,ag,iu,cm,cp,bs,bt⟩:=J;simp[C,aK,p];refine au aG (by simp[aq,U.ar,aM]) ?_;by_cases h1:fP s=0
 ·simp[h1,p,bs];refine au bl (by simp[aq,U.ar,bt]) ?_;cases H:fg j with
  | false=>
   have g:dH s j=8:=by rw[W,ak h1,H];rfl
   have:=bad (by rw[g];decide);rw[g] at this;simp;rw[g];exact this _
  | true=>
   simp[p,R,C,aU];by_cases u:j.aB=s.bG
   ·by_cases ax:s.bG=1000000000
    ·have g:dH s j=18:=by rw[W,ak h1,H,ak rfl,ak u,ak ax]
     have:=bad (by rw[g];decide);rw[g] at this;simp[u,ax,C,aU];rw[g];exact this _
    ·have g:dH s j=0:=by rw[W,ak h1,H,ak rfl,ak u,aj ax]
     have V:=(mV s).1 h1;have cj:=V.gO;have ck:=V.gP;have bW:sk s j=(eA s j).1:=by unfold sk;rw[ak g]
     have bV:si s j=(eA s j).2:=by unfold si;rw[ak g]
     rw[bW,bV,g];have aR:=BL s z;have aJ:=PP s z j o;rw[<-bf] at aR aJ;rw[<-a9] at aJ;have bC:IntKind.i64.wrap (s.bG+1)=s.bG+1:=by rw[IntKind.wrap_i64];omega
     have aY:=fK (i0 s);have aS:aw (bn (i0 s)) 7 [.i6 (s.bG+1)]=bn (jO s):=rfl;have bR:(i0 s).bG=s.bG:=rfl;obtain⟨vo,bI⟩:=al (bn (i0 s));rw[<-bI] at aY aS aR;obtain⟨bw,cF,cX,cS,cN,cT,cM,cK,cI,cP,cO,cW,b2,cL,cJ,cQ,cH⟩:=aY;have b3:aw [U.i6 0,.ae,.ae,.i6 0,.ae,.i6 0,.ae,.i6 0,.bool false] 0 vo=vo:=cy (by rw[bw];rfl);have m:=br o.id;obtain⟨G,B⟩:=al (eJ s j);rw[<-B] at aJ;have aO:=uy (.int .u8 G);have ao:=uz (.int .u8 G) m;have ap:=uA (.int .u8 G) m;have aP:∀ w,c1 ⟨j.aB,w,j.id⟩=.i6 j.aB::.int .u8 w::am j.id:=fun _=>rfl
     have bm:=R0 j;obtain⟨I,a7⟩:=al (am j.id);rw[<-a7] at iu m ao ap aP bm;have ci:I.take 32=I:=aH F;have aZ:=fK (jO s);have bX:(jO s).bD=s.bD:=rfl;have bY:(jO s).pl=cU (s.pl.l.map aI.bj):=rfl;have bk:=jd (jO s);obtain⟨ti,aF⟩:=al (bn (jO s));rw[<-aF] at aZ bk aS;obtain⟨T,bx,cY,aV,_⟩:=aZ;rw[bX,bY] at aV;have b4:aw [U.i6 0,.ae,.ae,.i6 0,.ae,.i6 0,.ae,.i6 0,.bool false] 0 ti=ti:=cy (by rw[T];rfl);simp[u,ax,C,aK,aU];refine au aR (by simp[aq,U.ar,aM]) ?_;simp[bw,b3,b2,bR,bC,aS,p,bs,C,aK];refine au aJ (by simp[aq,U.ar,aM,bt]) ?_;have bv:∀ (l:ad) (b:Nat) (w:Int),l[b]?=some (.q 34 (.i6 j.aB::.int .u8 w::I))->aE 34 l (.Z 34 b 0 1 1 34) b ([(⟨j.aB,w,j.id⟩:df)].map c1):=fun l b w bJ=>
      .Z b 1 1 34 _ _ bJ (by simp[m]) rfl (by simp[aP,m]) F F (by simp[aP,m,aH])
     have a3:∀ (l:ad) (ah:a6) (w:U) (b:Nat) (S:List df),aE 34 l w b (S.map c1)->bo w=S.isEmpty->Rd l (.a1 [.af (bn ah),w,.i6 0]) (.a1 [.af (bn ah),gC (hX S),.i6 0]):=fun l ah w b S bS bP=>
      sv (.same _ (jd ah)) (bS.q.gG qv (hX S) (by rw[bP,Ai]) (sJ S)) (.same _ rfl)
     by_cases v:G=6
     ·have bp:=BJ s.aC.ay z.aC.ay (by have:=z.aC.no;omega) j.op o.op;have Y:=Vm s.bD (cU (s.pl.l.map aI.bj)) (by rw[eW];exact XL z.pl) (by rw[eW,cg];exact z.len) j.aB j.op o.op (eE (db s.aC.ay.l j.op)) (ws o.op) (CG o.op);have bq:dB s.bD (cU (s.pl.l.map aI.bj)).l j.aB j.op (eE (db s.aC.ay.l j.op)).l=0:=by rw[eW,kg,UR];exact Dt V H u (by rw[<-B];exact v)
      rw[UV,ak bq,ak bq,eW] at Y;obtain⟨Q,bc⟩:=al (some ((s.pl.l.map aI.bj).map aI.bj++[aI.bj (⟨j.aB,j.op,bd j.op,eE (db s.aC.ay.l j.op)⟩:az)]));rw[<-bc] at Y;have X:eA s j=(wZ s j,[⟨j.aB,6,j.id⟩]):=by unfold eA;rw[ak (by rw[<-B];exact v)]
      rw[X];have bK:aq (bA s.bD (cU (s.pl.l.map aI.bj)))=true:=by simp[bA,aq,U.ar,fU]
      have K:=du j.op;have bT:=bM s.aC.ay;have bO:=bM (eE (db s.aC.ay.l j.op));have bE:bA s.bD Q=[.i6 s.bD,ch Q]:=rfl;rw[bE] at Y;have aQ:aw (bn (jO s)) 5 [.i6 s.bD,ch Q]=bn (wZ s j):=by rw[bc];rfl
      have a0:=fK (wZ s j);obtain⟨vr,bg⟩:=al (bn (wZ s j));rw[<-aF] at aQ;rw[<-bg] at a0 aQ;obtain⟨bz,b5,_⟩:=a0;obtain⟨ai,aD⟩:=al (av j.op);rw[<-aD] at bp Y K ag;have b6:aw [U.i6 0,.ae,.ae,.i6 0,.ae,.i6 0,.ae,.i6 0,.bool false] 0 vr=vr:=cy (by rw[bz];rfl);simp[v,T,aV,p,R,ag,C,b1];refine au bp (by simp[aq,U.ar,bT,K]) ?_;simp[v,T,aV,p,R,ag];refine au Y (by simp[aq,U.ar,bK,K,bO]) ?_;rw[v] at aO ao ap;simp[T,aQ,bz,b5,b6,p,R,iu,ey,aO,ao,ap,sC m,m,v];rw[bg];exact a3 _ _ _ 4 _ (bv _ 4 6 rfl) rfl
     ·by_cases aA:G=1
      ·have aT:eJ s j=1:=by rw[<-B];exact aA
       have X:eA s j=ie (1+s.pl.l.length) (jO s) [fY j] []:=by unfold eA;rw[aj (by rw[aT];decide),ak aT]
       rw[X];obtain⟨cq,cr⟩:=nJ V.pen;have bZ:h4 (fY j):=⟨o.op,o.id,fun y b0=>(lJ b0).elim,fR _⟩
       have bU:(jO s).pl.l.length=s.pl.l.length:=by show (cU _).l.length=_;rw[eW,cg]
       have P:=PO (jO s) (fY j) bZ (WW z V o H u aT) (N:=1+s.pl.l.length) (by rw[bU];omega) F;obtain⟨f,bN⟩:=al (ie (1+s.pl.l.length) (jO s) [fY j] []);rw[<-bN] at P ⊢;rw[<-aF,bm] at P;have K:=du j.op;have a5:=cG j.id;rw[<-a7] at a5;obtain⟨ai,aD⟩:=al (av j.op);have bb:ai.length=11:=by rw[aD];rfl
       rw[<-aD] at K ag P;have a2:=fK f.1;have bh:=jd f.1;have bi:(gC (hX f.2)).ar=true:=ot qv _;obtain⟨Fv,bF⟩:=al (bn f.1);obtain⟨ce,bH⟩:=al (gC (hX f.2));rw[<-bF] at a2 bh P ⊢;rw[<-bH] at bi P ⊢;obtain⟨bB,b8,_⟩:=a2;have b9:aw [U.i6 0,.ae,.ae,.i6 0,.ae,.i6 0,.ae,.i6 0,.bool false] 0 Fv=Fv:=cy (by rw[bB];rfl);obtain⟨ca,cc,cd,cZ,_⟩:=B4 (t:=j.aB) (O:=ai) (D:=I) (x:=.ae) bb m rfl;have bL:aq (ai++(I++[U.ae]))=true:=by simp[BE,aq,U.ar,K,a5]
       simp[aA,T,bx,p,R,ag,iu,m,bb,ca,cc,cd];refine au P (by simp[aq,U.ar,bk,bL]) ?_;simp[bB,b8,b9];exact sv (.same _ bh) (.same _ bi) (.same _ rfl)
      ·have X:eA s j=(jO s,[⟨j.aB,G,j.id⟩]):=by unfold eA;rw[aj (by rw[<-B];exact v),aj (by rw[<-B];exact aA),B]
       rw[X];simp[v,aA,T,bx,b4,p,R,iu,ey,aO,ao,ap,sC m,m];rw[aF];exact a3 _ _ _ 4 _ (bv _ 4 G rfl) rfl
   ·have g:dH s j=32:=by rw[W,ak h1,H,ak rfl,aj u]
    have:=bad (by rw[g];decide);rw[g] at this;simp[u];rw[g];exact this _
 ·have g:dH s j=8:=by rw[W,aj h1]
  have a4:fP s=8:=uI fun h=>h1 ((mV s).2 h)
  have:=bad (by rw[g];decide);rw[g] at this;rw[a4] at aG;simp[a4,C,aK];refine au aG (by simp[aq,U.ar,aM]) ?_;simp;rw[g];exact this _
end Op
end Go.bl

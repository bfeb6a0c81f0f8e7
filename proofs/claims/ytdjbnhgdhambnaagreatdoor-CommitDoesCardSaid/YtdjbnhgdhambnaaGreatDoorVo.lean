/-
  What is committed frees others: data and what stays true (plain).
-/
import Derived.Test.YtdjbnhgdhambnaaGreatDoorVn
set_option maxHeartbeats 16000000
set_option maxRecDepth 100000
set_option linter.unusedVariables false
set_option linter.unusedSimpArgs false
set_option linter.unnecessarySimpa false
namespace Go.bh
open Go Go.Proofs Go.Proofs.Tryz
namespace Op
open cl aJ
theorem DF {alZ o:Type} {f:alZ->o} {l:List alZ} (h:l.Pairwise fun a b=>f a≠f b) {i k:Nat} {a b:alZ} (p:l[i]?=some a) (hk:l[k]?=some b) (e:f a=f b) :i=k:=by
 obtain⟨j,rfl⟩:=aL.1 p;obtain⟨m,rfl⟩:=aL.1 hk;rcases pn i k with g | he | g
 ·exact bV e (kq.1 h i k j m g)
 ·exact he
 ·exact bV e.symm (kq.1 h k i m j g)
theorem ra {s:cf} (h:e1 s) {p:aW} (g:p∈s.aj.l) :p.idsZ.l.length<=(bC s).length:=by
 have W:=ry h;have h1:=wU (Ef (W.b8 p g)) (m:=(bL (bC s)).idsZ.l) fun y j=>DI h g j
 rw[pg,ce] at h1;exact h1
theorem Vu {s:cf} (t:gH s) (h:e1 s) {x:List B} (D:x.length=32) {o:aK} (I:dk o) (O:s.bN<60) :gH (fu s x o):=by
 have W:=ry h;have R:=h.jS;have K:num x s.aj.l.length<s.aj.l.length:=by unfold num;exact mv _ (by have:=h.gN;omega)
 obtain⟨p,J,w⟩:=aQ K;have H:dp s.aj.l (num x s.aj.l.length)=p:=dq J;have C:(fu s x o).aj.l=s.aj.l.set (num x s.aj.l.length) (iE p x o):=by
  show s.aj.l.set _ (iE (dp s.aj.l _) x o)=_;rw[H]
 have Q:=ra h w;have z:=(t.aj p w).1;have P:=W.len p w;have u:(iE p x o).idsZ.l=cX p.idsZ.l (dS p.idsZ.l x) x:=rfl;have v:(iE p x o).opsZ.l=cX p.opsZ.l (dS p.idsZ.l x) o:=rfl;refine⟨fun G j=>?_,?_,fun y g=>?_,?_⟩
 ·rw[C] at j;rcases oh j with j | rfl
  ·exact t.aj G j
  ·refine⟨⟨fun y g=>?_,fun q m=>?_,?_,?_⟩,?_,?_⟩
   ·rw[u] at g;rcases jD.1 g with rfl | g
    ·exact D
    ·exact z.idsZ y g
   ·rw[v] at m;rcases jD.1 m with rfl | m
    ·exact I
    ·exact z.opsZ q m
   ·rw[u,h9];omega
   ·rw[v,h9];omega
   ·rw[u,h9];omega
   ·rw[v,h9];omega
 ·rw[C,ko];exact t.ka
 ·have F:y∈si s.bI.l x o:=g;unfold si at F;rcases jD.1 F with rfl | g
  ·exact D
  ·exact t.bI y (dx.1 g).1
 ·show (si s.bI.l x o).length<=_;have h1:s.bI.l.length<=(bC s).length:=by
   rw[<-h.tV];unfold eU ir;refine dC (g2 _ _) ?_;rw[pg,ce];exact aN _
  unfold si;rw[h9];have:=g2 (fun y=>!decide (y∈o.ax.l)) s.bI.l;omega
theorem Ju {s:cW} (j:hK s) (h:gJ s) {x:List B} (m:x.length=32) {o:aK} (p:dk o) :hK (nS s x o):=by
 have v:=h.jS;have t:=h.tC;have u:=h.le;refine⟨Vu j.aD h.aD m p F,fun y g=>?_,?_⟩
 ·have q:y∈s.az.l++[x]:=g;rcases fE.1 q with g | g
  ·exact j.az y g
  ·rw[fQ.1 g];exact m
 ·show (s.az.l++[x]).length<=_;rw[cI];simp;omega
structure dR where
 aC:Int
 bX:Int
 id:List B
def di (r:dR) :ag:=.i6 r.aC::.int .u8 r.bX::ao r.id
def fV (s:bd) :Bool:=decide ((s.ay.az.l.length:Int)=s.ay.cap)
def ht (s:bd) (x:aA) :bd:=⟨nS s.ay (bf x.op) x.op,s.bE,c2 (aJ.cP x.id s.pl.l),s.bH,s.ds⟩
def gD (r:List aA) (x:aA) :List aA:=r.filter fun y=>!decide (y.aC=x.aC)
def cN (r:List aA) :aA:=iW r (r.length - 1)
def fB:Nat->bd->List aA->List dR->bd × List dR
 | 0,s,_,out=>(s,out)
 | n+1,s,r,out=>
  if r=[] then (s,out)
  else if fV s then fB n s (gD r (cN r)) (out++[⟨(cN r).aC,8,(cN r).id⟩])
  else fB n (ht s (cN r)) (gD r (cN r)++aJ.c0 (cN r).id s.pl.l) (out++[⟨(cN r).aC,1,(cN r).id⟩])
structure h6 (s:bd) (r:List aA) :Prop where
 ok:eF s
 st:gJ s.ay
 pen:cH s.bE s.pl.l=0
 kK:∀ x∈s.pl.l,eh x.op=0/\x.id∉s.ay.az.l/\x.a6.l=da s.ay.az.l x.op
 mb:fr r
 gr:∀ x∈r,eh x.op=0/\bf x.op=x.id/\x.id∉s.ay.az.l/\(∀ p∈x.op.ax.l,p∈s.ay.az.l)/\0<=x.aC/\x.aC<=1000000000
 yJ:r.Pairwise fun a b=>a.id≠b.id
 v7:∀ x∈r,∀ y∈s.pl.l,x.id≠y.id
theorem sd {r:List aA} (h:r≠[]) :cN r∈r:=wQ (by have:=qp.2 h;omega)
theorem WE {r:List aA} {x:aA} (h:x∈r) :(gD r x).length<r.length:=by
 unfold gD;refine Nat.lt_of_le_of_ne (g2 _ _) fun e=>?_
 have:=List.length_filter_eq_length_iff.1 e x h;simp at this
theorem h6.full {s:bd} {r:List aA} (h:h6 s r) (x:aA) :h6 s (gD r x):=
 ⟨h.ok,h.st,h.pen,h.kK,fun y g=>h.mb y (dx.1 g).1,fun y g=>h.gr y (dx.1 g).1,h.yJ.sublist kn,fun y g=>h.v7 y (dx.1 g).1⟩
theorem h6.wA {s:bd} {r:List aA} (h:h6 s r) {x:aA} (p:x∈r) (g:fV s=false) :ix s.ay x.op=1:=by obtain⟨q,j,m,o,_⟩:=h.gr x p;unfold fV at g;rw[decide_eq_false_iff_not] at g;unfold ix;rw[ai (by rw[j];exact m),ak o,ai (by have:=h.st.le;omega)]
theorem SE {g:aR} {x:List B} {o:aK}:da (g++[x]) o=(da g o).filter (fA x):=by
 unfold da;rw[List.filter_filter];refine Fu fun y _=>?_
 unfold ie fA;by_cases h1:y∈g<;>by_cases h:y=x<;>simp[h1,h]
theorem PF (s:bd) {x:aA} (h:bf x.op=x.id) :(ht s x).ay.az.l=s.ay.az.l++[x.id]:=by rw[<-h];rfl
theorem vV (s:bd) (x:aA) :(ht s x).pl.l=aJ.cP x.id s.pl.l:=fb _
theorem h6.next {s:bd} {r:List aA} (h:h6 s r) {x:aA} (w:x∈r) (ap:fV s=false) :h6 (ht s x) (gD r x++aJ.c0 x.id s.pl.l):=by
 obtain⟨ak,al,aK,aL,aM,aO⟩:=h.gr x w;obtain⟨aQ,ax⟩:=nV h.pen;obtain⟨T,aR,aH⟩:=(pK s.pl.l).1 ax;have J:aJ.cP x.id s.pl.l=aJ.l8 [x.id] s.pl.l:=by
  have:=Jf x.id [] s.pl.l;rw[TX T] at this;simpa using this
 obtain⟨aE,aF,aG⟩:=IE (h.wA w ap);have aD:=h.mb x w;have av:=Ui h.st (x:=bf x.op) (o:=x.op) aE aG ak rfl aF;have aw:=Ju h.ok.ay h.st (x:=bf x.op) (o:=x.op) (mK _) aD.op;have K:=PF s al;have v:=vV s x;have aB:cH (ht s x).bE (ht s x).pl.l=0:=by rw[v,J];exact TY h.pen _
 have au:fr (aJ.cP x.id s.pl.l):=by rw[J];exact UF h.ok.pl
 have aP:(aJ.cP x.id s.pl.l).length<=s.pl.l.length:=by have:=aJ.ra x.id s.pl.l;omega
 have O:∀ y∈s.pl.l,(er x.id y).op=y.op/\(er x.id y).id=y.id/\(er x.id y).aC=y.aC/\(er x.id y).a6.l=da (s.ay.az.l++[x.id]) y.op:=fun y j=>⟨rfl,rfl,rfl,by
  show (n0 x.id y.a6).l=_;rw[xC,(h.kK y j).2.2,SE]⟩
 have S:∀ m∈aJ.cP x.id s.pl.l,∃ y∈s.pl.l,m=er x.id y:=fun m g=>by
  obtain⟨y,j,e⟩:=cE.1 (dx.1 g).1;exact⟨y,j,e.symm⟩
 have R:∀ m∈aJ.c0 x.id s.pl.l,∃ y∈s.pl.l,m=er x.id y/\gone m=true:=fun m g=>by
  obtain⟨y,j,e⟩:=cE.1 (dx.1 g).1;exact⟨y,j,e.symm,(dx.1 g).2⟩
 have U:∀ y∈s.pl.l,y.id∉s.ay.az.l++[x.id]:=fun y j p=>by
  rcases fE.1 p with p | p
  ·exact (h.kK y j).2.1 p
  ·exact h.v7 x w y j (fQ.1 p).symm
 have Q:(s.pl.l.map (er x.id)).Pairwise fun a b=>a.id≠b.id:=by
  rw[nj];exact aH
 have aj:(aJ.c0 x.id s.pl.l).Pairwise fun a b=>a.id≠b.id:=Q.sublist kn
 refine⟨⟨aw,by rw[v];exact au,by rw[v];have:=h.ok.len;omega⟩,av,aB,fun m g=>?_,fun m g=>?_,fun m g=>?_,?_,fun a q m g=>?_⟩
 ·rw[v] at g;obtain⟨y,j,rfl⟩:=S m g;obtain⟨u,z,F,C⟩:=O y j;rw[K];exact⟨by rw[u];exact (h.kK y j).1,by rw[z];exact U y j,by rw[C,u]⟩
 ·rcases fE.1 g with g | g
  ·exact h.mb m (dx.1 g).1
  ·exact Jx h.ok.pl m g
 ·rw[K];rcases fE.1 g with g | g
  ·have P:=(dx.1 g).1;obtain⟨V,W,X,Y,ae⟩:=h.gr m P;refine⟨V,W,fun p=>?_,fun D B=>List.mem_append_left _ (Y D B),ae⟩;rcases fE.1 p with p | p
   ·exact X p
   ·have ar:=(dx.1 g).2;have ao:m.id=x.id:=fQ.1 p;obtain⟨i,t⟩:=cp.1 P;obtain⟨k,hk⟩:=cp.1 w;have:=DF (f:=aA.id) h.yJ t hk ao;rw[this,hk] at t;obtain rfl:=cc t;simp at ar
  ·obtain⟨y,j,rfl,H⟩:=R m g;obtain⟨u,z,F,C⟩:=O y j;obtain⟨aI,ag,ah,ai,_⟩:=T y j;refine⟨by rw[u];exact (h.kK y j).1,by rw[u,z];exact ag,by rw[z];exact U y j,fun D B=>?_,by rw[F];exact⟨ah,ai⟩⟩;have aq:da (s.ay.az.l++[x.id]) y.op=[]:=by
    rw[<-C];unfold gone at H;exact xX.1 H
   refine Classical.byContradiction fun I=>?_
   have:D∈da (s.ay.az.l++[x.id]) y.op:=dx.2 ⟨by rw[u] at B;exact B,by unfold ie;simp at I;simp[I]⟩;rw[aq] at this;cases this
 ·rw[rH];refine⟨h.yJ.sublist kn,aj,fun a q b am=>?_⟩;obtain⟨y,j,rfl,_⟩:=R b am;exact h.v7 a (dx.1 q).1 y j
 ·rw[v] at g;rcases fE.1 q with q | q
  ·obtain⟨y,j,rfl⟩:=S m g;exact h.v7 a (dx.1 q).1 y j
  ·have h1:=(dx.1 q).2;have G:=(dx.1 g).2;intro e;obtain⟨i,t⟩:=cp.1 (dx.1 q).1;obtain⟨k,hk⟩:=cp.1 (dx.1 g).1;have:=DF (f:=aA.id) Q t hk e;rw[this,hk] at t;obtain rfl:=cc t;rw[h1] at G;cases G
open cl aJ
theorem sF (n:Nat) (s:bd) (out:List dR) :fB n s [] out=(s,out):=by
 cases n with
 | zero=>rfl
 | succ n=>unfold fB;rw[ak rfl]
theorem rh (n:Nat) (s:bd) {r:List aA} (out:List dR) (h:r≠[]) :fB (n+1) s r out=if fV s then fB n s (gD r (cN r)) (out++[⟨(cN r).aC,8,(cN r).id⟩])
  else fB n (ht s (cN r)) (gD r (cN r)++aJ.c0 (cN r).id s.pl.l) (out++[⟨(cN r).aC,1,(cN r).id⟩]):=by
 conv=>lhs;unfold fB
 rw[ai h]
theorem uK (v:U) :av (bZ 33 (U.int .u8 0)) 0 [v]=v::bZ 32 (U.int .u8 0):=rfl
theorem uL (v:U) {I:ag} (h:I.length=32) :av (v::bZ 32 (U.int .u8 0)) 1 I=v::I:=by have e:(bZ 32 (U.int .u8 0) :ag).drop 32=[]:=rfl;simp[av,h,e]
theorem sK {I:ag} (h:I.length=32) :av (bZ 32 (U.int .u8 0)) 0 I=I:=cD (by simp[h])
theorem uM (v:U) {I:ag} (h:I.length=32) :av (bZ 33 (U.int .u8 0)) 0 (v::I)=v::I:=cD (by simp[h])
theorem W8 (x:aA) (t:(aO x).length=45) {j bi:Nat} {l:ae} {xs:List aA} (I:∀ y∈xs,(aO y).length=45) (h1:l[bi]?=some (.q 45 (aO x))) (F:bi≠j) :
  Bz 109 [.ptr bi 0 45] j l xs (fun y=>decide (y.aC=x.aC)):=by
 intro y H v D O B;apply c1 func109 [];have m:v[bi]?=some (.q 45 (aO x)):=by rw[D.same _ (a1 h1) F];exact h1
 have G:=a1 m;have g:∀ c:aq,(v++[c])[bi]?=some (.q 45 (aO x)):=fun c=>by rw[aV G];exact m
 have u:=I y H;have K:(aO y)[0]?=some (.i6 y.aC):=rfl;have J:(aO x)[0]?=some (.i6 x.aC):=rfl;have z:∀ h,(aO y)[0]'h=.i6 y.aC:=fun _=>rfl
 have w:∀ h,(aO x)[0]'h=.i6 x.aC:=fun _=>rfl
 obtain⟨P,o⟩:=al (aO x);obtain⟨Q,p⟩:=al (aO y);rw[<-o] at g t J;rw[<-p] at u K ⊢;simp only[<-o] at w;simp only[<-p] at z;simp[g,u,t,z,w];exact B _ V fun b C=>aV C
theorem Rj:fJ prog 109=true:=bn
theorem yh {l:ae} {v:U} {j:Nat} {es:List dR} {s:dR} (h:aH 34 l v j (es.map di)) (o:(di s).length=34) (D:es.length<=1000000) :
  ∃ g m l',dZ (l++[.q 34 (di s)]) 34 48 v (.Z 34 l.length 0 1 1 34)=some (g,l')/\aH 34 l' g m ((es++[s]).map di)/\l.length+1<=l'.length/\(∀ b,b<l.length->v=.ad\/b≠j->l'[b]?=l[b]?)/\(l.length<=m\/(v≠.ad/\m=j))/\bq g=false:=by
 have B:=du;obtain⟨g,m,l',p,t,u,d1,w,f1⟩:=io (h.more [.q 34 (di s)]) (by_:=48) (x:=.Z 34 l.length 0 1 1 34) (xs:=[di s]) (by simp[cq,o,aI]) (by simp[o]) F F (by rw[B];simp;omega);have f2:bq g=false:=by rw[f1];simp
 refine⟨g,m,l',p,by rw[cV];exact t,by simpa using u,fun b z C=>?_,?_,f2⟩
 ·rw[d1 b (by simp;omega) C,aV z]
 ·rcases w with h | h | h
  ·exact .inl (by simp at h;omega)
  ·exact .inr h
  ·rw[h] at f2;cases f2
def rV (t:bd) (y:List B) :bd:=⟨t.ay,t.bE,c2 (aJ.cP y t.pl.l),t.bH,t.ds⟩
structure N4 (fin:bd × List dR) (N p gM:Nat) (l0:ae) (k:Nat) (sgZ:aS) (L:ae) :Prop where
 kI:sgZ 0=.ptr p 0 9
 le:gM<=L.length
 yZ:∀ b,b<gM->b≠p->L[b]?=l0[b]?
 ex:∃ s r out h g m j,sgZ 7=h/\sgZ 5=g/\h6 s r/\r.length+s.pl.l.length+k<=N/\fB (N - k) s r out=fin/\L[p]?=some (.q 9 (bz s))/\aH 45 L h m (r.map aO)/\aH 34 L g j (out.map di)/\(h=.ad\/gM<=m)/\(g=.ad\/gM<=j)/\(h=.ad\/g=.ad\/m≠j)/\out.length<=k
theorem Qc (t:bd) (cm:eF t) (dw:cH t.bE t.pl.l=0) (y:List B) (cp:y.length=32) (aY:h6 (rV t y) (aJ.c0 y t.pl.l)) {N:Nat} (dZ:(aJ.c0 y t.pl.l).length+(aJ.cP y t.pl.l).length<=N) (ea:N<=1000) {l0:ae} {p:Nat} (bL:l0[p]?=some (.q 9 (bz t)))
  {aS:bd × List dR} (db:fB N (rV t y) (aJ.c0 y t.pl.l) []=aS) {K:cB}
  (bC:∀ v j l',l0.length<=l'.length->(∀ b,b<l0.length->b≠p->l'[b]?=l0[b]?)->l'[p]?=some (.q 9 (bz aS.1))->aH 34 l' v j (aS.2.map di)->(v=.ad\/l0.length<=j)->K v l') :
  cM 56 [.ptr p 0 9,.af (ao y)] l0 K:=by
 apply c1 func56 [cT 0 5++[[10],[5,10]]++cT 6 4,[],[],cT 0 6++[[11],[6,11]]++cT 7 4,cT 0 4++[[4,1]]];have dy:=du;have dv:=a1 bL;have dE:=bo cp;have bX:=fe t;have cn:bz (rV t y)=av (bz t) 5 [.i6 t.bE,cg (c2 (aJ.cP y t.pl.l))]:=rfl;have ej:=cm.len;obtain⟨bl,c4⟩:=al (bz t);rw[<-c4] at bX bL cn;obtain⟨bh,dP,cD,cC,_⟩:=bX;have cy:∀ g:ae,(l0++g)[p]?=some (.q 9 bl):=fun g=>by rw[aV dv];exact bL
 simp[dE,cy,bh,cC,aI];refine MG t.bE t.pl cm.pl F y cp dw fun aL iT u ch a3 J d7=>?_
 simp at ch a3;have q1:u[l0.length+1]?=some (.q 2 [.i6 0,.ad]):=by rw[a3 _ F];simp
 have dO:u[p]?=some (.q 9 bl):=by rw[a3 _ F];exact cy _
 have eu:=J.cells;have bs:bt t.bE (c2 (aJ.cP y t.pl.l))=[.i6 t.bE,cg (c2 (aJ.cP y t.pl.l))]:=rfl;have bT:∀ a b:U,av [U.i6 0,.ad] 0 [a,b]=[a,b]:=fun _ _=>rfl
 have iG:∀ c:aq,(u.set (l0.length+1) c)[l0.length+1]?=some c:=fun c=>bY F
 have dQ:∀ c:aq,(u.set (l0.length+1) c)[p]?=some (.q 9 bl):=fun c=>by rw[bj F];exact dO
 simp[bs,q1,bT,iG,dQ,<-cn];have b1:aL=.ad\/l0.length+2<=iT:=by simpa using d7
 refine bB N (N4 aS N p l0.length l0) ?_ ⟨V,by simp;omega,fun b m P=>?_,rV t y,aJ.c0 y t.pl.l,[],aL,.ad,iT,0,V,V,aY,?_,by simpa using db,?_,J.cx (b1.imp id fun h=>?_),.nil 0,b1.imp id fun h=>F,.inl rfl,.inr (.inl rfl),V⟩
 ·rintro k dS L hk ⟨b2,dk,bG,s,r,out,aL,bU,iT,aF,b4,b3,z,ec,a7,a6,J,bc,d7,d5,d75,ep⟩;obtain⟨dS,rfl⟩:=gF b2 b3 b4;clear b2 b3 b4;have a4:=J.len;rw[ce] at a4;by_cases W:r=[]
  ·subst W;rw[sF] at a7;subst a7;simp at a4;simp[a4];exact bC bU aF L dk bG a6 bc d5
  ·have dx:0<r.length:=qp.2 W;have C:=sd W;have bM:∀ x∈r,(aO x).length=45:=fun x C=>(eQ (z.mb x C)).len
   have R:aL≠.ad:=fun e=>by
    subst e;have:=J.q.oX;rw[ni] at this;exact W this
   have eg:=J.lt.resolve_left R;have dh:=d7.resolve_left R;simp[a4,dx];refine Tp J bM (fun x C=>(z.gr x C).2.2.2.2) W F fun u ch cl=>?_
   have aZ:=eQ (z.mb _ C);have a9:=z.mb _ C;have cc:=z.gr _ C;have cj:=fun D=>z.next C D
   have cf:=fun D=>z.wA C D
   have dm:=WE C;have aE:fB (N - k) s r out=if fV s then fB (N - k - 1) s (gD r (cN r)) (out++[⟨(cN r).aC,8,(cN r).id⟩])
     else fB (N - k - 1) (ht s (cN r)) (gD r (cN r)++aJ.c0 (cN r).id s.pl.l) (out++[⟨(cN r).aC,1,(cN r).id⟩]):=by
    obtain⟨g,dn⟩:∃ g,N - k=g+1:=⟨N - k - 1,F⟩
    rw[dn];exact rh g s out W
   rw[show iW r (r.length - 1)=cN r from rfl];obtain⟨x,dD⟩:=al (cN r);rw[<-dD] at C aZ a9 cc cj cf dm aE ⊢;have f2:(aO x)[0]?=some (.i6 x.aC):=rfl;have br:∀ h,(aO x)[0]'h=.i6 x.aC:=fun _=>rfl
   have cb:=fun (l:ae) (j cR:Nat) h1 cU=>W8 x aZ.len (j:=j) (bi:=cR) (l:=l) bM h1 cU
   obtain⟨T,b8⟩:=al (aO x);rw[<-b8] at aZ f2 ⊢;simp only[<-b8] at br cb;obtain⟨ag,eT,cL,aM,eS,eR⟩:=aZ;have dA:=gZ ag;have dN:aH 45 (u++[aq.q 45 T]) aL iT (r.map aO):=(J.frame fun de=>cl iT de).more _;simp[ag,dA];refine Qm Rj dN bM F (cb _ iT u.length V F) fun bk G cv bJ ek _=>?_
   have dd:=bJ.le;simp at dd;have aU:∀ b,b<L.length->b≠iT->G[b]?=L[b]?:=fun b m c5=>by rw[bJ.same b (by simp;omega) c5,aV F];exact cl b m
   have H:G[p]?=some (.q 9 (bz s)):=by rw[aU p (a1 a6) F];exact a6
   have aG:G[u.length]?=some (.q 45 T):=by rw[bJ.same _ V F];simp
   have bS:aH 34 G bU aF (out.map di):=bc.cx (by
    rcases bc.lt with h | h
    ·exact .inl h
    ·rcases d75 with e | e | e
     ·exact bV e R
     ·exact .inl e
     ·exact .inr (aU aF h (Ne.symm e)))
   have aY:=fe s;have aD:=z.ok;have eo:=aD.ay.no;have ci:bD (.Z 32) (ah s.ay.az)=_:=b9 _;obtain⟨bW,bx⟩:=al (bz s);rw[<-bx] at H aY;obtain⟨bh,dP,cD,cC,eI,eM,eE,eC,eB,eK,cA,eN,eG,eD,cz,eL,eA⟩:=aY;have w:=bo a9.id;have ew:∀ g:ae,(G++g)[p]?=some (.q 9 bW):=fun g=>by rw[aV (a1 H)];exact H
   have ex:∀ g:ae,(G++g)[u.length]?=some (.q 45 T):=fun g=>by rw[aV (a1 aG)];exact aG
   by_cases D:fV s=true
   ·have bF:(s.ay.az.l.length:Int)=s.ay.cap:=by unfold fV at D;exact iM D
    rw[ak D] at aE;have dB:=a7;obtain⟨Y,iw,o,O,ap,cQ,ax,aA,bn⟩:=yh bS (s:=⟨x.aC,8,x.id⟩) (by simp[di,w]) F;have bv:di ⟨x.aC,8,x.id⟩=.i6 x.aC::.int .u8 8::ao x.id:=rfl;rw[bv] at O;obtain⟨cO,aW⟩:=al (ao x.id);rw[<-aW] at O aM w;have bp:=uK (.int .u8 8);have aP:=uL (.int .u8 8) w;have aQ:=uM (.int .u8 8) w;simp[H,aG,bh,cA,cz,ci,bF,ag,br,aM,en,bp,aP,aQ,sK w,w,O];refine bR.bm ?_;simp;have ei:=bS.lt;have cX:Y=.ad\/l0.length<=iw:=.inr (by
     rcases aA with h | ⟨h,h'⟩
     ·omega
     ·rw[h'];exact d5.resolve_left h)
    refine⟨F,V,F,fun b m P=>?_,s,gD r x,out++[⟨x.aC,8,x.id⟩],bk,Y,iT,iw,V,V,z.full x,F,by rw[<-dB,show N - (k+1)=N - k - 1 by omega,aE],?_,cv.cx ?_,ap,.inr dh,cX,?_,by simp;omega⟩
    ·rw[ax b F (d5.imp id fun h=>F),aU b F F];exact bG b m P
    ·rw[ax p (a1 H) (d5.imp id fun h=>F),<-bx];exact H
    ·exact .inr (ax iT F (by
      rcases d75 with e | e | e
      ·exact bV e R
      ·exact .inl e
      ·exact .inr e))
    ·right;right;rcases aA with h | ⟨h,h'⟩
     ·omega
     ·rw[h'];rcases d75 with e | e | e
      ·exact bV e R
      ·exact bV e h
      ·exact e
   ·have a2:fV s=false:=by cases h:fV s with | true=>exact bV h D | false=>rfl
    have bF:¬ (s.ay.az.l.length:Int)=s.ay.cap:=by unfold fV at a2;exact of_decide_eq_false a2
    rw[ai D] at aE;have dj:=cf a2;have dp:=cj a2;have bK:=LJ s.ay aD.ay z.st x.op a9.op cc.1 dj;have c6:=z.pen;have c9:=g7 s.ay;have ck:=dt x.op;obtain⟨Q,b7⟩:=al (nS s.ay (bf x.op) x.op);rw[<-b7] at bK;have c3:(bw Q).length=5:=rfl;have eb:(bw Q).take 5=bw Q:=rfl;obtain⟨iG,a8⟩:=al (⟨Q,s.bE,s.pl,s.bH,s.ds⟩:bd);have dz:av bW 0 (bw Q)=bz iG:=by rw[bx,a8];rfl
    have cY:=cG x.id;obtain⟨dW,cZ⟩:=al (aw x.op);rw[<-cZ] at bK ck cL;simp[H,aG,bh,cA,cz,ci,bF,ag,cL,cD];refine au bK (by simp[am,U.ar,c9,ck]) ?_;obtain⟨I,aB⟩:=al (G.set p (aq.q 9 (bz iG)));have eh:I.length=G.length:=by rw[aB];simp
    have bN:I[p]?=some (.q 9 (bz iG)):=by rw[aB];exact bY (a1 H)
    have aT:∀ b,b≠p->I[b]?=G[b]?:=fun b m=>by rw[aB];exact bj (fun e=>m e.symm)
    have bO:I[u.length]?=some (.q 45 T):=by rw[aT _ (by have:=a1 a6;omega)];exact aG
    have cu:aH 34 I bU aF (out.map di):=bS.cx (d5.imp id fun h=>aT aF F);have dJ:aH 45 I bk iT ((gD r x).map aO):=cv.cx (.inr (aT iT F));obtain⟨Y,iw,o,O,ap,cQ,ax,aA,bn⟩:=yh cu (s:=⟨x.aC,1,x.id⟩) (by simp[di,w]) F;have bv:di ⟨x.aC,1,x.id⟩=.i6 x.aC::.int .u8 1::ao x.id:=rfl;rw[bv] at O;have bp:=uK (.int .u8 1);have aP:=uL (.int .u8 1) w;have aQ:=uM (.int .u8 1) w;have ca:=fun (l:ae) (K:cB) bC=>MG s.bE s.pl aD.pl (by have:=aD.len;omega) x.id a9.id c6 (l0:=l) (K:=K) bC
    have bb:∀ b,b<I.length->(b<l0.length\/b=iT\/b=u.length)->o[b]?=I[b]?:=fun b m a0=>ax b m (by
     rcases cu.lt with h | h
     ·exact .inl h
     ·rcases a0 with a0 | a0 | a0
      ·exact d5.imp id fun h=>F
      ·rcases d75 with e | e | e
       ·exact bV e R
       ·exact .inl e
       ·exact .inr F
      ·have cW:=bc.lt;exact cW.imp id fun h=>F)
    have S:o[p]?=some (.q 9 (bz iG)):=by rw[bb p (a1 bN) (.inl F)];exact bN
    have bQ:o[u.length]?=some (.q 45 T):=by rw[bb _ (a1 bO) (.inr (.inr rfl))];exact bO
    have dK:aH 45 o bk iT ((gD r x).map aO):=dJ.cx (.inr (bb iT F (.inr (.inl rfl))));have bZ:=fe iG;have dq:iG.bE=s.bE:=by rw[a8]
    have dr:iG.pl=s.pl:=by rw[a8]
    obtain⟨aj,bA⟩:=al (bz iG);rw[<-bA] at bZ S aB bN;obtain⟨dT,eO,eP,cF,_⟩:=bZ;rw[dq,dr] at cF;have ey:∀ g:ae,(o++g)[p]?=some (.q 9 aj):=fun g=>by rw[aV (a1 S)];exact S
    have ez:∀ g:ae,(o++g)[u.length]?=some (.q 45 T):=fun g=>by rw[aV (a1 bQ)];exact bQ
    obtain⟨cO,aW⟩:=al (ao x.id);rw[<-aW] at O aM w aP aQ cY;simp only[<-aW] at ca;simp[H,c3,dz];rw[<-bA,<-aB];simp[bO,ag,br,aM,en,bp,aP,aQ,sK w,w,O];refine bR.bm ?_;simp[S,bQ,dT,cF,ag,aM];refine ca _ _ fun cK cq X dl bI cw d9=>?_
    simp at dl bI;have q1:X[o.length]?=some (.q 2 [.i6 0,.ad]):=by rw[bI _ F];simp
    have bg:∀ b,b<o.length->X[b]?=o[b]?:=fun b m=>by rw[bI b F,aV m]
    have dG:X[p]?=some (.q 9 aj):=by rw[bg p (a1 S)];exact S
    have ev:=cw.cells;obtain⟨fq,a5⟩:=al (X.set o.length (aq.q 2 [U.i6 s.bE,cg (c2 (aJ.cP x.id s.pl.l))]));have aK:∀ b,b≠o.length->fq[b]?=X[b]?:=fun b m=>by rw[a5];exact bj (fun e=>m e.symm)
    have es:fq.length=X.length:=by rw[a5];simp
    have n8:fq[o.length]?=some (.q 2 [U.i6 s.bE,cg (c2 (aJ.cP x.id s.pl.l))]):=by rw[a5];exact bY F
    have cs:fq[p]?=some (.q 9 aj):=by rw[aK p (by have:=a1 S;omega)];exact dG
    have dg:iT<o.length:=F;have dL:aH 45 fq bk iT ((gD r x).map aO):=dK.cx (.inr (by rw[aK iT F,bg iT dg]));have dM:aH 45 fq cK cq ((aJ.c0 x.id s.pl.l).map aO):=cw.cx (d9.imp id fun h=>aK cq (by simp at h;omega));have dI:aH 34 fq Y iw ((out++[(⟨x.aC,1,x.id⟩:dR)]).map di):=ap.cx (ap.lt.imp id fun h=>by rw[aK iw F,bg iw h]);have ed:(aJ.c0 x.id s.pl.l).length<=1000:=by have:=aJ.ra x.id s.pl.l;omega
    have dc:∀ e∈(aJ.c0 x.id s.pl.l).map aO,e.length=45:=fun e da=>by
     obtain⟨dV,dF,rfl⟩:=cE.1 da;exact (eQ (Jx aD.pl dV dF)).len
    obtain⟨cJ,IC,cr,cS,bq,dX,aR,b0,dY⟩:=io (by_:=176) (x:=cK) (xs:=(aJ.c0 x.id s.pl.l).map aO) dL (by rw[dM.contents]) dc F F (by rw[dy];simp;omega);rw[<-cV] at bq;have et:=bq.cells;have dH:cr[o.length]?=some (.q 2 [U.i6 s.bE,cg (c2 (aJ.cP x.id s.pl.l))]):=by rw[aR _ (a1 n8) (.inr F)];exact n8
    have ct:cr[p]?=some (.q 9 aj):=by rw[aR _ (a1 cs) (.inr F)];exact cs
    have bs:bt s.bE (c2 (aJ.cP x.id s.pl.l))=[.i6 s.bE,cg (c2 (aJ.cP x.id s.pl.l))]:=rfl;have bT:∀ a b:U,av [U.i6 0,.ad] 0 [a,b]=[a,b]:=fun _ _=>rfl
    have c7:av aj 5 [.i6 s.bE,cg (c2 (aJ.cP x.id s.pl.l))]=bz (ht s x):=by rw[bA,a8,b7];rfl
    simp[q1,bs,bT];rw[<-a5];simp[n8,cS];refine bR.bm ?_;simp[dH,ct,c7];have dC:Y≠.ad:=fun e=>by rw[e] at bn;cases bn
    have ef:=ap.lt.resolve_left dC;have df:l0.length<=iw:=by
     rcases aA with h | ⟨h,h'⟩
     ·omega
     ·rw[h'];exact d5.resolve_left h
    have b5:iT≠iw:=by
     rcases aA with h | ⟨h,h'⟩
     ·omega
     ·rw[h'];rcases d75 with e | e | e
      ·exact bV e R
      ·exact bV e h
      ·exact e
    have cd:cJ=.ad\/l0.length<=IC:=by
     rcases b0 with h | ⟨_,h⟩ | h
     ·exact .inr F
     ·exact .inr F
     ·exact .inl h
    have er:=aJ.ra x.id s.pl.l;have c8:(ht s x).pl.l.length=(aJ.cP x.id s.pl.l).length:=by rw[vV]
    refine⟨F,V,by simp;omega,fun b m P=>?_,ht s x,gD r x++aJ.c0 x.id s.pl.l,out++[⟨x.aC,1,x.id⟩],cJ,Y,IC,iw,V,V,dp,by rw[cI,c8];omega,?_,bY (a1 ct),bq.cx (cd.imp id fun h=>bj F),dI.cx (.inr ?_),cd,.inr df,?_,by simp;omega⟩
    ·rw[bj (fun e=>P e.symm),aR b F (.inr F),aK b F,bg b F,bb b F (.inl m),aT b P,aU b F F];exact bG b m P
    ·rw[show N - (k+1)=N - k - 1 by omega,<-aE];exact a7
    ·rw[bj F,aR iw F (.inr (fun e=>b5 e.symm))]
    ·rcases b0 with h | ⟨_,h⟩ | h
     ·exact .inr (.inr F)
     ·exact .inr (.inr (by rw[h];exact b5))
     ·exact .inl h
 ·rw[bj (fun e=>P e.symm),bj F,a3 _ F,aV m]
 ·show (aJ.c0 y t.pl.l).length+(c2 (aJ.cP y t.pl.l)).l.length+0<=N;rw[fb];omega
 ·exact bY (by simp;omega)
 ·rw[bj F,bj F]
open cl aJ
structure lR (s:bd) :Prop where
 st:gJ s.ay
 pen:cH s.bE s.pl.l=0
 gM:0<=s.bH
 gN:s.bH<=1000000000
 kK:∀ x∈s.pl.l,x.aC<s.bH/\eh x.op=0/\x.id∉s.ay.az.l/\x.a6.l=da s.ay.az.l x.op
theorem m5 (s:bd) :eg s=0<->lR s:=by
 have q:∀ b:Bool,(if b then (0:Int) else 8)=0<->b=true:=fun b=>by cases b<;>simp
 unfold eg;rw[q,bU];unfold re vG;rw[bU,bU,bU,bK,bK,bK,bK,bK,sQ];have p:∀ x:aA,pJ s x=true<->x.aC<s.bH/\eh x.op=0/\x.id∉s.ay.az.l/\x.a6.l=da s.ay.az.l x.op:=fun x=>by
  unfold pJ;rw[bU,bU,bU,bK,bK,bK,bK]
 constructor
 ·rintro⟨⟨h1,g,h,j⟩,m⟩;refine⟨h1,g,h,j,fun x o=>?_⟩;obtain⟨k,hk⟩:=cp.1 o;have:=m k (aL.1 hk).1;rw[eR hk] at this;exact (p x).1 this
 ·rintro⟨h1,g,h,j,m⟩;refine⟨⟨h1,g,h,j⟩,fun k hk=>?_⟩;obtain⟨x,t,o⟩:=aQ hk;rw[eR t];exact (p x).2 (m x o)
theorem Az {s:bd} (h:¬ lR s) :eg s=8:=by
 have:¬ eg s=0:=fun e=>h ((m5 s).1 e)
 unfold eg at this ⊢;split
 ·rename_i g;rw[ak g] at this;exact bV rfl this
 ·rfl
def fv (s:bd) :bd:=⟨s.ay,s.bE,c2 s.pl.l,s.bH+1,s.ds⟩
def fX (j:cR) :aA:=⟨j.aC,j.op,j.id,none⟩
def uC (s:bd) (j:cR) :bd:=⟨s.ay,s.bE,some (s.pl.l++[⟨j.aC,j.op,bf j.op,eC (da s.ay.az.l j.op)⟩]),s.bH+1,s.ds⟩
def g9 (s:bd) (j:cR) :bd × List dR:=fB s.pl.l.length (ht (fv s) (fX j)) (aJ.c0 j.id s.pl.l) []
def fY (s:bd) (j:cR) :bd × List dR:=
 if eI s j=6 then (uC s j,[⟨j.aC,6,j.id⟩])
 else if eI s j=1 then ((g9 s j).1,⟨j.aC,1,j.id⟩::(g9 s j).2)
 else (fv s,[⟨j.aC,eI s j,j.id⟩])
noncomputable def e6 (s:bd) (j:cR) :Int:=if eg s=0 then (if fj j then (if j.aC=s.bH then (if s.bH=1000000000 then 18 else 0) else 32) else 8) else 8
theorem zF {s:bd} {j:cR} (h:e6 s j=0) :lR s/\fj j=true/\j.aC=s.bH/\s.bH≠1000000000:=by
 unfold e6 at h;split at h
 ·rename_i h1;split at h
  ·rename_i g;split at h
   ·rename_i m;split at h
    ·cases h
    ·rename_i o;exact⟨(m5 s).1 h1,g,m,o⟩
   ·cases h
  ·cases h
 ·cases h
theorem yR {j:cR} (h:fj j=true) (g:j.bX=0) :dd j.op=0/\bf j.op=j.id/\eh j.op=0:=by unfold fj at h;rw[ak g,bU,bU,bU,bK,bK,bK] at h;exact h.2
theorem QW {j:cR} (h:fj j=true) :j.bX=0\/j.bX=2\/j.bX=3\/j.bX=4:=by
 unfold fj at h;rw[bU] at h;have h:=h.2;split at h
 ·rename_i g;exact .inl g
 ·rw[bU,rF,rF,bK,bK,bK] at h;exact .inr h.1
theorem u1 {s:bd} {j:cR} (h:fj j=true) (g:eI s j=6\/eI s j=1) :j.bX=0/\s.ds=false/\j.id∉s.ay.az.l/\j.id∉s.pl.l.map aA.id:=by
 have o:j.bX=0:=by
  rcases QW h with e | e | e | e
  ·exact e
  all_goals
   have q:¬ j.bX=0:=by rw[e];decide
   have t:eI s j=(u j.bX:Int):=by unfold eI;rw[ai q]
   rw[t,e] at g;exact bV g (by decide)
 unfold eI at g;rw[ak o] at g;cases p:s.ds with
 | true=>rw[p,ak rfl] at g;omega
 | false=>
  rw[p,ai V] at g;by_cases h1:j.id∈s.ay.az.l\/j.id∈s.pl.l.map aA.id
  ·rw[ak h1] at g;omega
  ·exact⟨o,rfl,fun m=>h1 (.inl m),fun m=>h1 (.inr m)⟩
theorem MA {s:bd} {j:cR} (g:j.bX=0) (o:s.ds=false) (h1:j.id∉s.ay.az.l) (m:j.id∉s.pl.l.map aA.id) :
  eI s j=if da s.ay.az.l j.op=[] then (if (s.ay.az.l.length:Int)=s.ay.cap then 8 else 1) else if (s.pl.l.length:Int)<s.bE then 6 else 7:=by unfold eI;rw[ak g,o,ai V,ai (by rintro (h | h);exact h1 h;exact m h)]
theorem YS {s:bd} {j:cR} (h:fj j=true) (g:eI s j=6) :da s.ay.az.l j.op≠[]/\(s.pl.l.length:Int)<s.bE:=by
 obtain⟨m,t,h1,o⟩:=u1 h (.inl g);rw[MA m t h1 o] at g;split at g
 ·split at g<;>cases g
 ·rename_i p;split at g
  ·rename_i q;exact⟨p,q⟩
  ·cases g
theorem MB {s:bd} {j:cR} (h:fj j=true) (g:eI s j=1) :da s.ay.az.l j.op=[]/\(s.ay.az.l.length:Int)≠s.ay.cap:=by
 obtain⟨m,t,h1,o⟩:=u1 h (.inr g);rw[MA m t h1 o] at g;split at g
 ·rename_i p;split at g
  ·cases g
  ·rename_i q;exact⟨p,q⟩
 ·split at g<;>cases g
theorem SF {ord:aR} {o:aK} (h:da ord o=[]) :∀ p∈o.ax.l,p∈ord:=fun p j=>by
 refine Classical.byContradiction fun g=>?_
 have:p∈da ord o:=dx.2 ⟨j,by unfold ie;simp[g]⟩;rw[h] at this;cases this
theorem DP {s:bd} (m:lR s) {j:cR} (o:fj j=true) (H:j.aC=s.bH) (t:eI s j=6) :dB s.bE s.pl.l j.aC j.op (da s.ay.az.l j.op)=0:=by
 obtain⟨u,G,h1,v⟩:=u1 o (.inl t);obtain⟨w,D⟩:=YS o t;obtain⟨f1,f2,f3⟩:=yR o u;have I:=m.gM;have J:=m.gN;unfold dB;rw[ai (by rw[m.pen];simp),ai (by rw[f1];simp),ai,ai (by rw[f2];exact v),ai,ai F]
 ·intro g;by_cases q:s.pl.l.length=0
  ·unfold dL at g;rw[ak q] at g;omega
  ·unfold dL at g;rw[ai q] at g;obtain⟨x,p,C⟩:=aQ (l:=s.pl.l) (k:=s.pl.l.length - 1) F;rw[eR p] at g;have:=(m.kK x C).1;omega
 ·rintro (h | h | h)
  ·omega
  ·omega
  ·have B:b8 j.op.ax.l=true:=by
    unfold dd at f1;split at f1
    ·cases f1
    ·split at f1
     ·rename_i z;exact z
     ·cases f1
   have:eV j.op (da s.ay.az.l j.op)=true:=by
    unfold eV;rw[bU,bU,bK];refine⟨qp.2 w,uz ((o4 B).sublist kn),gb.2 fun x p=>b7 (dx.1 p).1⟩
   rw[this] at h;cases h
theorem Ah {s:bd} (q:eF s) (h:lR s) {j:cR} (t:gQ j) (p:fj j=true) (D:j.aC=s.bH) (u:eI s j=1) :h6 (fv s) [fX j]:=by
 obtain⟨v,C,h1,w⟩:=u1 p (.inr u);obtain⟨z,B⟩:=MB p u;obtain⟨f1,f2,f3⟩:=yR p v;have F:=h.gM;have G:=h.gN;have m:(fv s).pl.l=s.pl.l:=fb _;refine⟨⟨q.ay,by rw[m];exact q.pl,by rw[m];exact q.len⟩,h.st,by rw[m];exact h.pen,fun x g=>by rw[m] at g;exact (h.kK x g).2,fun x g=>?_,fun x g=>?_,V,fun x g y o=>?_⟩
 ·rw[fQ.1 g];exact⟨t.op,t.id,fun y o=>(jt o).elim,eS _⟩
 ·rw[fQ.1 g];exact⟨f3,f2,h1,SF z,by show 0<=j.aC;omega,by show j.aC<=_;omega⟩
 ·rw[fQ.1 g];rw[m] at o;exact fun e=>w (cE.2 ⟨y,o,e.symm⟩)
theorem Cz {s:bd} {j:cR} (g:fj j=true) (h:eI s j=1) :fV (fv s)=false:=cu (MB g h).2
theorem Ed {s:bd} (q:eF s) (m:lR s) {j:cR} (o:gQ j) (g:fj j=true) (t:j.aC=s.bH) (h:eI s j=1) :h6 (ht (fv s) (fX j)) (aJ.c0 j.id s.pl.l):=by
 have:=(Ah q m o g t h).next (x:=fX j) V (Cz g h)
 have e:gD [fX j] (fX j)=[]:=by unfold gD;simp
 rw[e,h2] at this;have p:(fv s).pl.l=s.pl.l:=fb _;rw[p] at this;exact this
open cl aJ
theorem Ad:∀ (n:Nat) (s:bd) (r:List aA) (out:List dR),(fB n s r out).2.length<=out.length+n
 | 0,s,r,out=>aN _
 | n+1,s,r,out=>by
  by_cases h:r=[]
  ·subst h;rw[sF];show out.length<=_;omega
  ·rw[rh n s out h];split
   ·refine dC (Ad n _ _ _) ?_;rw[cI];simp;omega
   ·refine dC (Ad n _ _ _) ?_;rw[cI];simp;omega
def jO:bd:=⟨⟨0,⟨none,none,0⟩,none⟩,0,none,0,false⟩
def iR (s:b1 dR) :U:=b4 34 di s
theorem tI (r:dR) :am (di r)=true:=by have:=cG r.id;simp[di,am,U.ar,this]
noncomputable def oZ (s:bd) (j:cR) :bd:=if e6 s j=0 then (fY s j).1 else jO
noncomputable def oY (s:bd) (j:cR) :b1 dR:=if e6 s j=0 then some (fY s j).2 else none
theorem Hw:bz jO=[.i6 0,.ad,.ad,.i6 0,.ad,.i6 0,.ad,.i6 0,.bool false]:=rfl
theorem P7 (s:bd) (t:eF s) (j:cR) (m:gQ j) :aU 18 [.af (bz s),.af (dG j)] (.aX [.af (bz (oZ s j)),iR (oY s j),.i6 (e6 s j)]):=by
 apply a2 func18 [cT 0 4++[[5],[6],[8],[4,8,6,1],[7]],cT 0 9++[[9,5,3,1]]];have cj:=du;have aO:=fe s;have J:=nK m;have bn:=yF s t;have bp:=Q9 j m;have bad:e6 s j≠0->∀ l:ae,Rd l (.aX [.af [.i6 0,.ad,.ad,.i6 0,.ad,.i6 0,.ad,.i6 0,.bool false],.ad,.i6 (e6 s j)]) (.aX [.af (bz (oZ s j)),iR (oY s j),.i6 (e6 s j)]):=fun h l=>by
  unfold oZ oY;rw[ai h,ai h];exact aF
 have W:e6 s j=if eg s=0 then (if fj j then (if j.aC=s.bH then (if s.bH=1000000000 then 18 else 0) else 32) else 8) else 8:=rfl
 obtain⟨cM,aT⟩:=al (bz s);obtain⟨L,bi⟩:=al (dG j);rw[<-aT] at aO bn ⊢;rw[<-bi] at J bp ⊢;have cS:=aO;have cP:=J;obtain⟨R,aK,dp,dl,dg,dm,df,dd,db,dj,dh,dn,a5,de,dc,dk,aL⟩:=aO;obtain⟨B,aj,c4,ah,jg,c3,c5,bA,bB⟩:=J;simp[R,aK,B];refine au bn (by simp[am,U.ar,aL]) ?_;by_cases h1:eg s=0
 ·simp[h1,B,bA];refine au bp (by simp[am,U.ar,bB]) ?_;cases u:fj j with
  | false=>
   have g:e6 s j=8:=by rw[W,ak h1,u];rfl
   have:=bad (by rw[g];decide);rw[g] at this;simp;rw[g];exact this _
  | true=>
   simp[B,aj,R,a5];by_cases z:j.aC=s.bH
   ·by_cases ax:s.bH=1000000000
    ·have g:e6 s j=18:=by rw[W,ak h1,u,ak rfl,ak z,ak ax]
     have:=bad (by rw[g];decide);rw[g] at this;simp[z,ax,R,a5];rw[g];exact this _
    ·have g:e6 s j=0:=by rw[W,ak h1,u,ak rfl,ak z,ai ax]
     have v:=(m5 s).1 h1;have cZ:=v.gM;have c1:=v.gN;have cm:oZ s j=(fY s j).1:=by unfold oZ;rw[ak g]
     have cl:oY s j=some (fY s j).2:=by unfold oY;rw[ak g]
     rw[cm,cl,g];have aZ:=Hk s t v.pen;have aG:=P4 s t v.pen j m;rw[<-aT] at aZ aG;rw[<-bi] at aG;have bT:IntKind.i64.wrap (s.bH+1)=s.bH+1:=by rw[IntKind.wrap_i64];omega
     have a8:=fe (hY s);have bx:av (bz (hY s)) 7 [.i6 (s.bH+1)]=bz (fv s):=rfl;have cf:(hY s).bH=s.bH:=rfl;obtain⟨nv,b1⟩:=al (bz (hY s));rw[<-b1] at a8 bx aZ;obtain⟨bF,dq,dJ,dF,dA,dH,dz,dx,dv,dD,dC,dI,cA,dy,dw,dE,dr⟩:=a8;have cB:av [U.i6 0,.ad,.ad,.i6 0,.ad,.i6 0,.ad,.i6 0,.bool false] 0 nv=nv:=cD (by rw[bF];rfl);have C:=bo m.id;obtain⟨G,D⟩:=al (eI s j);rw[<-D] at aG;have bM:=uK (.int .u8 G);have bc:=uL (.int .u8 G) C;have bg:=uM (.int .u8 G) C;have aR:∀ w,di ⟨j.aC,w,j.id⟩=.i6 j.aC::.int .u8 w::ao j.id:=fun _=>rfl
     obtain⟨I,aS⟩:=al (ao j.id);rw[<-aS] at jg C bc bg aR;have bX:I.take 32=I:=aI F;simp[z,ax,R,aK,a5];refine au aZ (by simp[am,U.ar,aL]) ?_;simp[bF,cB,cA,cf,bT,bx,B,aj,bA,R,aK,jg];refine au aG (by simp[am,U.ar,aL,bB]) ?_;simp[B,aj,jg,en,bM,bc,bg,sK C,C,bX];have a6:∀ (l:ae) (b:Nat) (w:Int),l[b]?=some (.q 34 (.i6 j.aC::.int .u8 w::I))->aH 34 l (.Z 34 b 0 1 1 34) b ([(⟨j.aC,w,j.id⟩:dR)].map di):=fun l b w b2=>
      .Z b 1 1 34 _ _ b2 (by simp[C]) rfl (by simp[aR,C]) F F (by simp[aR,C,aI])
     have aQ:∀ (l:ae) (ap:bd) (w:U) (b:Nat) (aM:List dR),aH 34 l w b (aM.map di)->bq w=false->Rd l (.aX [.af (bz ap),w,.i6 0]) (.aX [.af (bz ap),iR (some aM),.i6 0]):=fun l ap w b aM ch ce=>
      xi (.same _ (hN ap)) (ch.q.gP tI (some aM) ce rfl) (.same _ rfl)
     have a9:=fe (fv s);have cq:(fv s).bE=s.bE:=rfl;have cr:(fv s).pl=c2 s.pl.l:=rfl;have cs:(fv s).ay=s.ay:=rfl;have b8:=hN (fv s);obtain⟨mB,aE⟩:=al (bz (fv s));rw[<-aE] at a9 b8 ⊢;obtain⟨S,cC,bG,a7,_⟩:=a9;rw[cq,cr] at a7;rw[cs] at bG;have cE:av [U.i6 0,.ad,.ad,.i6 0,.ad,.i6 0,.ad,.i6 0,.bool false] 0 mB=mB:=cD (by rw[S];rfl);by_cases H:G=6
     ·have br:=B8 s t j.op m.op;have Y:=Zb s.bE (c2 s.pl.l) (by rw[fb];exact t.pl) (by rw[fb];exact t.len) j.aC j.op m.op (eC (da s.ay.az.l j.op)) (wF m.op) (C4 m.op);have bs:dB s.bE (c2 s.pl.l).l j.aC j.op (eC (da s.ay.az.l j.op)).l=0:=by rw[fb,kj];exact DP v u z (by rw[<-D];exact H)
      rw[Vv,ak bs,ak bs,fb] at Y;obtain⟨Q,T⟩:=al (some (s.pl.l++[(⟨j.aC,j.op,bf j.op,eC (da s.ay.az.l j.op)⟩:aA)]));rw[<-T] at Y;have X:fY s j=(uC s j,[⟨j.aC,6,j.id⟩]):=by unfold fY;rw[ak (by rw[<-D];exact H)]
      rw[X];have b5:am (bt s.bE (c2 s.pl.l))=true:=by simp[bt,am,U.ar,fT]
      have K:=dt j.op;have cc:=bO (eC (da s.ay.az.l j.op));have bV:bt s.bE Q=[.i6 s.bE,cg Q]:=rfl;rw[bV] at Y;have aY:av (bz (fv s)) 5 [.i6 s.bE,cg Q]=bz (uC s j):=by rw[T];rfl
      have bb:=fe (uC s j);have cY:=hN (uC s j);obtain⟨vD,bk⟩:=al (bz (uC s j));rw[<-aE] at aY;rw[<-bk] at bb aY;obtain⟨bI,cF,_⟩:=bb;obtain⟨bK,aD⟩:=al (aw j.op);rw[<-aT,<-aD] at br;rw[<-aD] at Y K ah;have cG:av [U.i6 0,.ad,.ad,.i6 0,.ad,.i6 0,.ad,.i6 0,.bool false] 0 vD=vD:=cD (by rw[bI];rfl);simp[H,S,a7,B,aj,ah,R,aK];refine au br (by simp[am,U.ar,aL,K]) ?_;simp[H,S,a7,B,aj,ah];refine au Y (by simp[am,U.ar,b5,K,cc]) ?_;simp[S,aY,bI,cF,cG];rw[bk];exact aQ _ _ _ 5 _ (a6 _ 5 6 rfl) rfl
     ·by_cases aB:G=1
      ·have P:eI s j=1:=by rw[<-D];exact aB
       obtain⟨ct,_⟩:=u1 u (.inr P);obtain⟨f1,f2,f3⟩:=yR u ct;have bW:=Ah t v m u z P;have ca:=Cz (s:=s) u P;have cb:ix s.ay j.op=1:=bW.wA (x:=fX j) V ca;have aW:=LJ s.ay t.ay v.st j.op m.op f3 cb;have ck:=Ed t v m u z P;have ci:=Ju t.ay v.st (x:=bf j.op) (o:=j.op) (mK _) m.op;have b7:=g7 s.ay;have K:=dt j.op;have X:fY s j=((g9 s j).1,⟨j.aC,1,j.id⟩::(g9 s j).2):=by unfold fY;rw[ai (by rw[P];decide),ak P]
       rw[X];obtain⟨t1,ag⟩:=al (⟨nS s.ay (bf j.op) j.op,s.bE,c2 s.pl.l,s.bH+1,s.ds⟩:bd);have O:t1.pl.l=s.pl.l:=by rw[ag];exact fb _
       have cn:eF t1:=⟨by rw[ag];exact ci,by rw[O];exact t.pl,by rw[O];exact t.len⟩
       have cp:cH t1.bE t1.pl.l=0:=by rw[O,show t1.bE=s.bE by rw[ag]];exact v.pen
       have bl:rV t1 j.id=ht (fv s) (fX j):=by rw[ag];rfl
       have b0:h6 (rV t1 j.id) (aJ.c0 j.id t1.pl.l):=by rw[bl,O];exact ck
       have cX:=aJ.ra j.id s.pl.l;obtain⟨c8,c9⟩:=nV v.pen;have b9:fB s.pl.l.length (rV t1 j.id) (aJ.c0 j.id t1.pl.l) []=g9 s j:=by rw[bl,O];rfl
       have bv:av mB 0 (bw (nS s.ay (bf j.op) j.op))=bz t1:=by rw[aE,ag];rfl
       obtain⟨Q,T⟩:=al (bw (nS s.ay (bf j.op) j.op));rw[<-T] at aW bv;have bZ:Q.length=5:=by rw[T];rfl
       obtain⟨bK,aD⟩:=al (aw j.op);rw[<-aD] at aW K ah;have cQ:Q.take 5=Q:=aI F;simp[aB,S,bG,B,ah];refine au aW (by simp[am,U.ar,b7,K]) ?_;simp[bZ,bv,B,jg];rw[aS];refine Qc t1 cn cp j.id m.id b0 (N:=s.pl.l.length) (by rw[O];omega) F (p:=3) rfl b9 fun w c6 a3 cd aV cv bD cO=>?_
       simp at cd aV;have b4:a3[5]?=some (.q 34 (.i6 j.aC::.int .u8 1::I)):=by rw[aV 5 F F,aS];rfl
       have b3:a3[2]?=some (.q 9 [.i6 0,.ad,.ad,.i6 0,.ad,.i6 0,.ad,.i6 0,.bool false]):=by rw[aV 2 F F];rfl
       have cz:=a6 a3 5 1 b4;have cu:∀ e∈(g9 s j).2.map di,e.length=34:=bD.row;have cW:((g9 s j).2).length*48<=100000000000000:=by
        have h:=Ad s.pl.l.length (ht (fv s) (fX j)) (aJ.c0 j.id s.pl.l) [];have u:(g9 s j).2.length<=0+s.pl.l.length:=h;omega
       obtain⟨cI,cw,a4,bN,aP,cN,bh,bQ,bS⟩:=io (by_:=48) (x:=w) (xs:=(g9 s j).2.map di) cz (by rw[bD.contents]) cu F F (by rw[cj];simp;omega);rw[<-cV] at aP;have a0:bq cI=false:=by rw[bS];rfl
       have cy:a4[3]?=some (.q 9 (bz (g9 s j).1)):=by rw[bh 3 F (.inr F)];exact cv
       have bC:a4[2]?=some (.q 9 [.i6 0,.ad,.ad,.i6 0,.ad,.i6 0,.ad,.i6 0,.bool false]):=by rw[bh 2 F (.inr F)];exact b3
       have bL:=fe (g9 s j).1;obtain⟨bJ,cJ,_⟩:=bL;have cK:av [U.i6 0,.ad,.ad,.i6 0,.ad,.i6 0,.ad,.i6 0,.bool false] 0 (bz (g9 s j).1)=bz (g9 s j).1:=cD (by rw[bJ];rfl);have cL:∀ c:aq,(a4.set 2 c)[2]?=some c:=fun c=>bY (a1 bC)
       have c7:=aP.cells;simp[bN];refine bR.bm ?_;simp[cy,bC,bJ,cJ,cK,cL];refine aQ _ _ _ cw (⟨j.aC,1,j.id⟩::(g9 s j).2) (aP.cx (.inr (bj ?_))) a0;rcases bQ with h | ⟨_,h⟩ | h
       ·omega
       ·omega
       ·rw[h] at a0;cases a0
      ·have X:fY s j=(fv s,[⟨j.aC,G,j.id⟩]):=by unfold fY;rw[ai (by rw[<-D];exact H),ai (by rw[<-D];exact aB),D]
       rw[X];simp[H,aB,S,cC,cE];rw[aE];exact aQ _ _ _ 5 _ (a6 _ 5 G rfl) rfl
   ·have g:e6 s j=32:=by rw[W,ak h1,u,ak rfl,ai z]
    have:=bad (by rw[g];decide);rw[g] at this;simp[z];rw[g];exact this _
 ·have g:e6 s j=8:=by rw[W,ai h1]
  have bU:eg s=8:=Az fun h=>h1 ((m5 s).2 h)
  have:=bad (by rw[g];decide);rw[g] at this;simp[bU];rw[g];exact this _
open cl aJ
theorem Jg {x:List B} {l:List aA} {b:Int} (h:∀ y∈l,y.aC<b) :∀ y∈aJ.cP x l,y.aC<b:=fun y g=>by
 obtain⟨m,j,rfl⟩:=cE.1 (dx.1 g).1;exact h m j
theorem D5 {b:Int}:∀ (n:Nat) (s:bd) (r:List aA) (out:List dR),h6 s r->(∀ y∈s.pl.l,y.aC<b)->
  ∃ m,h6 (fB n s r out).1 m/\(fB n s r out).1.bH=s.bH/\(fB n s r out).1.ds=s.ds/\(fB n s r out).1.bE=s.bE/\(fB n s r out).1.ay.cap=s.ay.cap/\∀ y∈(fB n s r out).1.pl.l,y.aC<b
 | 0,s,r,out,h,g=>⟨r,h,rfl,rfl,rfl,rfl,g⟩
 | n+1,s,r,out,h,g=>by
  by_cases j:r=[]
  ·subst j;rw[sF];exact⟨[],h,rfl,rfl,rfl,rfl,g⟩
  ·rw[rh n s out j];cases w:fV s with
   | true=>
    rw[ak rfl];exact D5 n s _ _ (h.full _) g
   | false=>
    rw[ai V];obtain⟨m,o,p,q,t,u,v⟩:=D5 (b:=b) n (ht s (cN r)) (gD r (cN r)++aJ.c0 (cN r).id s.pl.l) (out++[⟨(cN r).aC,1,(cN r).id⟩]) (h.next (sd j) w) (by rw[vV];exact Jg g);exact⟨m,o,p,q,t,u,v⟩
theorem Ul {s:bd} (o:eF s) {j:cR} (v:gQ j) (R:e6 s j=0) :eF (fY s j).1/\lR (fY s j).1/\(fY s j).1.bH=s.bH+1/\(fY s j).1.ds=s.ds/\(fY s j).1.bE=s.bE/\(fY s j).1.ay.cap=s.ay.cap:=by
 obtain⟨h,u,B,Y⟩:=zF R;have ae:=h.gM;have ag:=h.gN;have p:(fv s).pl.l=s.pl.l:=fb _;unfold fY;by_cases t:eI s j=6
 ·rw[ak t];obtain⟨O,W,h1,V⟩:=u1 u (.inl t);obtain⟨f1,f2,f3⟩:=yR u O;have S:=DP h u B t;have T:=(Vw (m:=eC (da s.ay.az.l j.op)) (by rw[kj];exact S)).2.2.2;have X:s.pl.l.length<=8:=by obtain⟨ah,_⟩:=nV h.pen;omega
  refine⟨⟨o.ay,fun x g=>?_,?_⟩,⟨h.st,T,by show 0<=s.bH+1;omega,by show s.bH+1<=_;omega,fun x g=>?_⟩,rfl,rfl,rfl,rfl⟩
  ·have z:x∈s.pl.l++[(⟨j.aC,j.op,bf j.op,eC (da s.ay.az.l j.op)⟩:aA)]:=g;rcases fE.1 z with g | g
   ·exact o.pl x g
   ·rw[fQ.1 g];exact⟨v.op,mK _,wF v.op,C4 v.op⟩
  ·show (s.pl.l++[_]).length<=_;rw[cI];simp;omega
  ·have z:x∈s.pl.l++[(⟨j.aC,j.op,bf j.op,eC (da s.ay.az.l j.op)⟩:aA)]:=g;rcases fE.1 z with g | g
   ·obtain⟨K,w⟩:=h.kK x g;exact⟨by show x.aC<s.bH+1;omega,w⟩
   ·rw[fQ.1 g];exact⟨by show j.aC<s.bH+1;omega,f3,by show bf j.op∉_;rw[f2];exact h1,by show (eC _).l=_;rw[kj];rfl⟩
 ·rw[ai t];by_cases h1:eI s j=1
  ·rw[ak h1];have P:=Ed o h v u B h1;have Q:∀ y∈(ht (fv s) (fX j)).pl.l,y.aC<s.bH:=by
    rw[vV,p];exact Jg fun y U=>(h.kK y U).1
   obtain⟨aj,q,C,G,H,I,J⟩:=D5 (b:=s.bH) s.pl.l.length (ht (fv s) (fX j)) (aJ.c0 j.id s.pl.l) [] P Q;have e:(g9 s j).1=(fB s.pl.l.length (ht (fv s) (fX j)) (aJ.c0 j.id s.pl.l) []).1:=rfl;show eF (g9 s j).1/\lR (g9 s j).1/\(g9 s j).1.bH=_/\(g9 s j).1.ds=_/\(g9 s j).1.bE=_/\(g9 s j).1.ay.cap=_;rw[e];have D:(fB s.pl.l.length (ht (fv s) (fX j)) (aJ.c0 j.id s.pl.l) []).1.bH=s.bH+1:=C;exact⟨q.ok,⟨q.st,q.pen,F,F,fun x g=>⟨by have:=J x g;omega,q.kK x g⟩⟩,D,G,H,I⟩
  ·rw[ai h1];refine⟨⟨o.ay,by rw[p];exact o.pl,by rw[p];exact o.len⟩,⟨h.st,by rw[p];exact h.pen,by show 0<=s.bH+1;omega,by show s.bH+1<=_;omega,fun x g=>?_⟩,rfl,rfl,rfl,rfl⟩;rw[p] at g;obtain⟨K,w⟩:=h.kK x g;exact⟨by show x.aC<s.bH+1;omega,w⟩
theorem D6:∀ (n:Nat) (s:bd) (r:List aA) (out:List dR),h6 s r->(∀ x∈out,(di x).length=34)->∀ x∈(fB n s r out).2,(di x).length=34
 | 0,s,r,out,h,m=>m
 | n+1,s,r,out,h,m=>by
  by_cases o:r=[]
  ·subst o;rw[sF];exact m
  ·rw[rh n s out o];have g:=(h.mb _ (sd o)).id;have row:∀ j:Int,(di ⟨(cN r).aC,j,(cN r).id⟩).length=34:=fun j=>by simp[di,bo g]
   have p:∀ j:Int,∀ x∈out++[(⟨(cN r).aC,j,(cN r).id⟩:dR)],(di x).length=34:=fun j x g=>by
    rcases fE.1 g with g | g
    ·exact m x g
    ·rw[fQ.1 g];exact row j
   cases q:fV s with
   | true=>
    rw[ak rfl];exact D6 n s _ _ (h.full _) (p 8)
   | false=>
    rw[ai V];exact D6 n _ _ _ (h.next (sd o) q) (p 1)
theorem Uo {s:bd} (t:eF s) {j:cR} (m:gQ j) (p:e6 s j=0) :∀ x∈(fY s j).2,(di x).length=34:=by
 obtain⟨o,q,u,w⟩:=zF p;have row:∀ h:Int,(di ⟨j.aC,h,j.id⟩).length=34:=fun h=>by simp[di,bo m.id]
 have one:∀ h:Int,∀ x∈[(⟨j.aC,h,j.id⟩:dR)],(di x).length=34:=fun h x g=>by rw[fQ.1 g];exact row h
 unfold fY;split
 ·exact one 6
 ·split
  ·rename_i h1;intro x g;have v:x∈(⟨j.aC,1,j.id⟩:dR) ::(g9 s j).2:=g;rcases kp.1 v with rfl | g
   ·exact row 1
   ·exact D6 _ _ _ _ (Ed t o m q u h1) (fun x g=>(jt g).elim) x g
  ·exact one _
theorem AB:eF jO:=⟨⟨⟨fun _ h=>(jt h).elim,eS _,fun _ h=>(jt h).elim,eS _⟩,fun _ h=>(jt h).elim,eS _⟩,fun _ h=>(jt h).elim,eS _⟩
theorem Uk {s:bd} (m:eF s) {j:cR} (g:gQ j) :eF (oZ s j):=by
 unfold oZ;split
 ·rename_i h;exact (Ul m g h).1
 ·exact AB
open cl aJ
def yN (s:b1 cR) :U:=b4 45 dG s
def m7 (l:List dR) :b1 dR:=match l with | []=>none | a::r=>some (a::r)
theorem AG (l:List dR) :(m7 l).l=l:=by cases l<;>rfl
theorem L2 (l:List dR) :(m7 l).isNone=l.isEmpty:=by cases l<;>rfl
theorem Um {s:bd} (u:eF s) {j:cR} (q:gQ j) (m:e6 s j=0) :1<=(fY s j).2.length/\(fY s j).2.length<=9:=by
 obtain⟨g,p,v,t⟩:=zF m;obtain⟨w,z⟩:=nV g.pen;unfold fY;split
 ·simp
 ·split
  ·have h:=Ad s.pl.l.length (ht (fv s) (fX j)) (aJ.c0 j.id s.pl.l) [];have o:(g9 s j).2.length<=0+s.pl.l.length:=h;simp;omega
  ·simp
open cl aJ
theorem Ol {a b:Act} (h:dz (e4 a) (e4 b)=true) :a=b:=by
 obtain⟨k,y,g⟩:=a;obtain⟨u,F,j⟩:=b;obtain⟨v,z,C,G⟩:=g;obtain⟨w,B,D,H⟩:=j;simp[e4,dz,U.beq] at h;obtain⟨h1,m,o,p,q,t⟩:=h
 simp_all
theorem Er {a b:aK}:Op.gn a b=true<->Op.cw a=Op.cw b:=by
 unfold Op.gn Op.cw;simp only[bU,bK];constructor
 ·rintro⟨h1,g,j,m,o,p⟩;obtain⟨q,t,u,v,w,z⟩:=a;obtain⟨B,C,D,F,G,H⟩:=b;simp only at h1 g j m o p;have:=Ol m;subst this;simp[h1,g,j,o,p]
 ·intro h;obtain⟨q,t,u,v,w,z⟩:=a;obtain⟨B,C,D,F,G,H⟩:=b;simp only[aK.mk.injEq,bc] at h;obtain⟨h1,g,j,m,o,p⟩:=h;subst m;refine⟨h1,g,j,?_,o,p⟩;simp[e4,dz,U.beq]
theorem AF {alZ:Type} {l m:List alZ} (h:cK l=cK m) :l=m:=by
 have:=ch b1.l h
 rwa [dh,dh] at this
theorem Df {alZ o:Type} {f:alZ->o} {l m:List alZ} (p:l.length=m.length) (h:∀ (k:Nat) (x y:alZ),l[k]?=some x->m[k]?=some y->f x=f y) :l.map f=m.map f:=by
 apply g1;intro k;rw[b0,b0];by_cases hk:k<l.length
 ·obtain⟨x,g,_⟩:=aQ hk;obtain⟨y,j,_⟩:=aQ (l:=m) (k:=k) F;rw[g,j];simp[h k x y g j]
 ·rw[dW F,dW F]
theorem pU {alZ g:Type} {f:alZ->g} {l m:List alZ} (h:l.map f=m.map f) {k:Nat} {x y:alZ} (j:l[k]?=some x) (o:m[k]?=some y) :f x=f y:=by have:=ch (fun p=>p[k]?) h;simp only[b0,j,o,cA,bc] at this;exact this
theorem hA {alZ g:Type} {f:alZ->g} {l m:List alZ} (h:l.map f=m.map f) :l.length=m.length:=by have:=ch List.length h;simpa using this
theorem uN {a b:aW}:kV a b=true<->cy a=cy b:=by
 unfold kV;simp only[bU,bK];constructor
 ·rintro⟨h1,o,g⟩;unfold cy;rw[h1,Df o fun k x y j m=>?_];have:=g k (aL.1 j).1;rw[jG j,jG m] at this;exact Er.1 this
 ·intro h;unfold cy at h;simp only[aW.mk.injEq,bc] at h;obtain⟨h1,o⟩:=h;have g:=AF o;refine⟨h1,hA g,fun k hk=>?_⟩;obtain⟨x,j,_⟩:=aQ hk;obtain⟨y,m,_⟩:=aQ (l:=b.opsZ.l) (k:=k) (by have:=hA g;omega);rw[jG j,jG m];exact Er.2 (pU g j m)
theorem W4 {a b:cf}:hW a b=true<->Op.bl a=Op.bl b:=by
 rw[mh];unfold Op.bl;constructor
 ·rintro⟨h1,o,p,g⟩;rw[o,p,Df h1 fun k x y j m=>?_];have:=g k (aL.1 j).1;rw[dq j,dq m] at this;exact uN.1 this
 ·intro h;simp only[cf.mk.injEq,bc] at h;obtain⟨h1,o,p⟩:=h;have g:=AF h1;refine⟨hA g,p,o,fun k hk=>?_⟩;obtain⟨x,j,_⟩:=aQ hk;obtain⟨y,m,_⟩:=aQ (l:=b.aj.l) (k:=k) (by have:=hA g;omega);rw[dq j,dq m];exact uN.2 (pU g j m)
theorem o5 {a b:cW}:kW a b=true<->dY a=dY b:=by
 unfold kW;simp only[bU,bK];rw[W4];unfold dY;constructor
 ·rintro⟨h1,g,j⟩;rw[h1,g,j]
 ·intro h;simp only[cW.mk.injEq,bc] at h;exact⟨h.1,h.2.1,h.2.2⟩
theorem Lj {a b:aA}:sM a b=true<->aJ.bl a=aJ.bl b:=by
 unfold sM;simp only[bU,bK];have e:aJ.gn a.op b.op=Op.gn a.op b.op:=rfl;rw[e,Er];unfold aJ.bl;constructor
 ·rintro⟨h1,t,u,v⟩;obtain⟨g,m,j,o⟩:=a;obtain⟨w,p,z,q⟩:=b;simp only at h1 t u v;subst h1 t;show (⟨g,Op.cw m,j,some o.l⟩:aA)=⟨g,Op.cw p,j,some q.l⟩
  rw[u,v]
 ·intro h;obtain⟨g,m,j,o⟩:=a;obtain⟨w,p,z,q⟩:=b;simp only[aA.mk.injEq,bc] at h;exact⟨h.1,h.2.2.1,h.2.1,h.2.2.2⟩
theorem W6 {a b:List aA}:lC a b=true<->a.map aJ.bl=b.map aJ.bl:=by
 unfold lC;simp only[bU,bK];constructor
 ·rintro⟨h1,m⟩;refine Df h1 fun k x y g j=>?_
  have:=m k (aL.1 g).1;rw[eR g,eR j] at this;exact Lj.1 this
 ·intro h;refine⟨hA h,fun k hk=>?_⟩;obtain⟨x,g,_⟩:=aQ hk;obtain⟨y,j,_⟩:=aQ (l:=b) (k:=k) (by have:=hA h;omega);rw[eR g,eR j];exact Lj.2 (pU h g j)
def sT (q:List B × aK) :List B × aK:=(q.1,Op.cw q.2)
theorem W9 {s t:cf} (h:e1 s) (e:hW s t=true) :e1 t/\(bC t).map sT=(bC s).map sT/\ct t=ct s:=by
 obtain⟨I,X,Y,ae⟩:=(mh s t).1 e;have W:=ry h;have D:∀ k,k<s.aj.l.length->∃ g q,s.aj.l[k]?=some g/\t.aj.l[k]?=some q/\g∈s.aj.l/\q∈t.aj.l/\g.idsZ.l=q.idsZ.l/\g.opsZ.l.map Op.cw=q.opsZ.l.map Op.cw:=fun k hk=>by
  obtain⟨g,j,z⟩:=aQ hk;obtain⟨q,m,P⟩:=aQ (l:=t.aj.l) (k:=k) F;have:=ae k hk;rw[dq j,dq m,uN] at this;unfold cy at this;simp only[aW.mk.injEq,bc] at this;exact⟨g,q,j,m,z,P,this.1,AF this.2⟩
 have al:kQ t.aj.l=true:=by
  have O:=h.al;unfold kQ at O ⊢;rw[bK] at O ⊢;intro i am x T;obtain⟨g,q,j,m,_,_,o,_⟩:=D i F;rw[dq m,<-o] at T;rw[<-I];exact O i F x (by rw[dq j];exact T)
 have wf:n5 t.aj.l=true:=by
  refine jT.2 fun q m=>?_
  obtain⟨k,hk⟩:=cp.1 m;obtain⟨g,ah,j,u,z,_,o,p⟩:=D k (by have:=(aL.1 hk).1;omega);rw[hk] at u;obtain rfl:=cc u;obtain⟨ai,ak⟩:=jT.1 h.wf g z;rw[<-o];exact⟨by rw[ai];exact hA p,ak⟩
 have G:nr t.aj.l:=⟨fun g j=>(jT.1 wf g j).1,fun g j=>(jT.1 wf g j).2,wT al⟩
 have S:∀ {l:List (List B × aK)},(l.Pairwise fun a b=>eM a.1 b.1=true)->(l.map sT).Pairwise fun a b=>eM a.1 b.1=true:=fun ag=>by
  rw[nj];exact ag
 have K:(bC t).map sT=(bC s).map sT:=by
  refine zV (S (xN G)) (S (xN W)) fun q=>?_
  rw[cE,cE];constructor
  ·rintro⟨r,Q,rfl⟩;obtain⟨q,m,a,H,v⟩:=(n9 G r).1 Q;obtain⟨k,hk⟩:=cp.1 m;obtain⟨g,ah,j,u,z,_,o,p⟩:=D k (by have:=(aL.1 hk).1;omega);rw[hk] at u;obtain rfl:=cc u;obtain⟨C,w,_⟩:=aQ (l:=g.opsZ.l) (k:=a) (by have:=hA p;have:=(aL.1 v).1;omega);refine⟨(r.1,C),(n9 W _).2 ⟨g,z,a,by rw[o];exact H,w⟩,?_⟩;show (r.1,Op.cw C)=(r.1,Op.cw r.2)
   rw[pU p w v]
  ·rintro⟨r,Q,rfl⟩;obtain⟨g,j,a,H,v⟩:=(n9 W r).1 Q;obtain⟨k,hk⟩:=cp.1 j;obtain⟨ao,q,R,u,_,P,o,p⟩:=D k (aL.1 hk).1;rw[hk] at R;obtain rfl:=cc R;obtain⟨C,w,_⟩:=aQ (l:=q.opsZ.l) (k:=a) (by have:=hA p;have:=(aL.1 v).1;omega);refine⟨(r.1,C),(n9 G _).2 ⟨q,P,a,by rw[<-o];exact H,w⟩,?_⟩;show (r.1,Op.cw C)=(r.1,Op.cw r.2)
   rw[pU p v w]
 have J:ct t=ct s:=by
  have U:∀ l:List (List B × aK),cy (bL l)=⟨some ((l.map sT).map (·.1)),cK ((l.map sT).map (·.2))⟩:=fun l=>by
   unfold cy bL;simp only[dh,iL];rfl
  unfold ct;rw[U,U,K]
 have V:eT (bL (bC t))=0:=by rw[<-yu,J,yu];exact h.kB
 refine⟨⟨by rw[<-I];exact h.gN,by rw[<-I];exact h.q3,al,wf,V,?_,?_⟩,K,J⟩
 ·rw[<-X,h.jS];have:=ch List.length K;simp at this;omega
 ·rw[<-y3,show cy (bL (bC t))=ct t from rfl,J,show ct s=cy (bL (bC s)) from rfl,y3,h.tV,Y]
theorem Aq {s t:cW} (h:gJ s) (e:kW s t=true) :gJ t/\ct t.aD=ct s.aD:=by unfold kW at e;simp only[bU,bK] at e;obtain⟨g,j,m⟩:=e;obtain⟨q,w,p⟩:=W9 h.aD j;obtain⟨q1,o,u,v⟩:=(mh _ _).1 j;refine⟨⟨by rw[<-g];exact h.j0,by rw[<-g];exact h.tC,q,by rw[<-o,<-g];exact h.jS,by rw[<-m,<-o];exact h.le,?_⟩,p⟩;rw[<-zM,show cy (bL (bC t.aD))=ct t.aD from rfl,p,show ct s.aD=cy (bL (bC s.aD)) from rfl,zM,<-m];exact h.ord
open cl aJ
structure eK (s t:bd) :Prop where
 ay:dY s.ay=dY t.ay
 bE:s.bE=t.bE
 pl:s.pl.l.map aJ.bl=t.pl.l.map aJ.bl
 bH:s.bH=t.bH
 ds:s.ds=t.ds
theorem zz {a b:aK} (h:Op.cw a=Op.cw b) :a.ax.l=b.ax.l/\a.act=b.act/\eh a=eh b/\bf a=bf b/\dd a=dd b:=by
 refine⟨?_,?_,?_,?_,?_⟩
 ·have:=ch (fun o:aK=>o.ax.l) h;exact this
 ·have:=ch (fun o:aK=>o.act) h;exact this
 ·rw[<-MC a,h,MC b]
 ·rw[<-CM a,h,CM b]
 ·have:∀ o:aK,dd (Op.cw o)=dd o:=fun _=>rfl
  rw[<-this a,h,this b]
theorem Jw {a b:aK} (h:dk a) (e:Op.cw a=Op.cw b) :dk b:=by obtain⟨g,j,_⟩:=zz e;refine⟨fun y m=>h.idsZ y (by rw[g];exact m),by rw[<-g];exact h.len,by rw[<-j];exact h.val,by rw[<-j];exact h.key⟩
theorem oW {a b:aA} (h:aJ.bl a=aJ.bl b) :a.aC=b.aC/\Op.cw a.op=Op.cw b.op/\a.id=b.id/\a.a6.l=b.a6.l:=by unfold aJ.bl at h;simp only[aA.mk.injEq,bc] at h;exact h
theorem UA {a b:aA} (h:h5 a) (e:aJ.bl a=aJ.bl b) :h5 b:=by obtain⟨p,j,m,g⟩:=oW e;exact⟨Jw h.op j,by rw[<-m];exact h.id,fun y o=>h.a6 y (by rw[g];exact o),by rw[<-g];exact h.len⟩
theorem wS {l m:List aA} (h:l.map aJ.bl=m.map aJ.bl) {y:aA} (j:y∈m) :∃ x∈l,aJ.bl x=aJ.bl y:=by
 have:aJ.bl y∈l.map aJ.bl:=by rw[h];exact cE.2 ⟨y,j,rfl⟩
 obtain⟨x,g,e⟩:=cE.1 this;exact⟨x,g,e⟩
theorem Dv {l m:List aA} (h:fr l) (e:l.map aJ.bl=m.map aJ.bl) :fr m:=fun y o=>by
 obtain⟨x,j,g⟩:=wS e o;exact UA (h x j) g
theorem Uz {s t:cf} (h:gH s) (e:hW s t=true) :gH t:=by
 obtain⟨D,O,p,F⟩:=(mh s t).1 e;refine⟨fun q J=>?_,by rw[<-D];exact h.ka,fun y o=>h.bI y (by rw[p];exact o),by rw[<-p];exact h.nQ⟩;obtain⟨k,hk⟩:=cp.1 J;obtain⟨z,v,I⟩:=aQ (l:=s.aj.l) (k:=k) (by have:=(aL.1 hk).1;omega);have:=F k (aL.1 v).1;rw[dq v,dq hk,uN] at this;unfold cy at this;simp only[aW.mk.injEq,bc] at this;obtain⟨m,j⟩:=this;have j:=AF j;obtain⟨g,B,C⟩:=h.aj z I;have u:=hA j;refine⟨⟨fun y o=>g.idsZ y (by rw[m];exact o),fun w H=>?_,by rw[<-m];exact g.li,by rw[<-u];exact g.jh⟩,by rw[<-m];exact B,by rw[<-u];exact C⟩;have:Op.cw w∈z.opsZ.l.map Op.cw:=by rw[j];exact cE.2 ⟨w,H,rfl⟩
 obtain⟨x,K,G⟩:=cE.1 this;exact Jw (g.opsZ x K) G
theorem UD {s t:cW} (h:hK s) (e:dY s=dY t) :hK t:=by have g:=o5.2 e;unfold kW at g;simp only[bU,bK] at g;obtain⟨p,m,j⟩:=g;exact⟨Uz h.aD m,fun y o=>h.az y (by rw[j];exact o),by rw[<-j];exact h.no⟩
theorem ss {s t:cW} (e:dY s=dY t) :s.cap=t.cap/\s.az.l=t.az.l:=by unfold dY at e;simp only[cW.mk.injEq,bc] at e;exact⟨e.1,e.2.2⟩
theorem sw {s t:bd} (h:eF s) (e:eK s t) :eF t:=
 ⟨UD h.ay e.ay,Dv h.pl e.pl,by rw[<-hA e.pl];exact h.len⟩
theorem JT {c:Int} {l m:List aA} (e:l.map aJ.bl=m.map aJ.bl) :cH c l=cH c m:=by rw[<-DL,e,DL]
theorem Ib {s t:bd} (e:eK s t) (P:Int->Prop) (h:∀ x∈s.pl.l,P x.aC/\eh x.op=0/\x.id∉s.ay.az.l/\x.a6.l=da s.ay.az.l x.op) :∀ x∈t.pl.l,P x.aC/\eh x.op=0/\x.id∉t.ay.az.l/\x.a6.l=da t.ay.az.l x.op:=fun y B=>by
 obtain⟨x,z,q⟩:=wS e.pl B;obtain⟨j,m,o,p⟩:=oW q;obtain⟨C,F,D,G,H⟩:=zz m;obtain⟨h1,u,v,w⟩:=h x z;have g:=(ss e.ay).2;refine⟨by rw[<-j];exact h1,by rw[<-D];exact u,by rw[<-o,<-g];exact v,?_⟩;rw[<-p,w,g];unfold da;rw[C]
theorem Lq {s t:bd} (h:lR s) (e:eK s t) :lR t:=by refine⟨(Aq h.st (o5.2 e.ay)).1,by rw[<-e.bE,<-JT e.pl];exact h.pen,by rw[<-e.bH];exact h.gM,by rw[<-e.bH];exact h.gN,?_⟩;rw[<-e.bH];exact Ib e (fun k=>k<s.bH) h.kK
theorem eK.symm {s t:bd} (e:eK s t) :eK t s:=⟨e.ay.symm,e.bE.symm,e.pl.symm,e.bH.symm,e.ds.symm⟩
theorem eK.trans {s t w:bd} (e:eK s t) (f:eK t w) :eK s w:=⟨e.ay.trans f.ay,e.bE.trans f.bE,e.pl.trans f.pl,e.bH.trans f.bH,e.ds.trans f.ds⟩
theorem eK.refl (s:bd) :eK s s:=⟨rfl,rfl,rfl,rfl,rfl⟩
theorem xy {s t:bd} (e:eK s t) :eg s=eg t:=by
 by_cases h:lR s
 ·rw[(m5 s).2 h,(m5 t).2 (Lq h e)]
 ·rw[Az h,Az fun g=>h (Lq g e.symm)]
theorem Ds {s t:bd} (e:eK s t) (j:cR) :e6 s j=e6 t j:=by unfold e6;rw[xy e,e.bH]
theorem TM {l m:List aA} (e:l.map aJ.bl=m.map aJ.bl) :l.map aA.id=m.map aA.id:=by
 have:∀ k:List aA,k.map aA.id=(k.map aJ.bl).map aA.id:=fun k=>by rw[iL];rfl
 rw[this l,e,<-this m]
theorem YR {s t:bd} (e:eK s t) (j:cR) :eI s j=eI t j:=by obtain⟨h1,g⟩:=ss e.ay;unfold eI;rw[e.ds,g,TM e.pl,h1,hA e.pl,e.bE]
theorem UZ {f:aA->List B} {l m:List aA} (g:∀ x y,aJ.bl x=aJ.bl y->f x=f y) (e:l.map aJ.bl=m.map aJ.bl) (h:l.Pairwise fun a b=>f a≠f b) :m.Pairwise fun a b=>f a≠f b:=by rw[kq] at h ⊢;intro i k o hk p;have q:=hA e;have j:=h i k F F p;rw[<-g l[i] m[i] (pU e (bM F) (bM o)),<-g l[k] m[k] (pU e (bM F) (bM hk))];exact j
theorem WF {s t:bd} {r q:List aA} (h:h6 s r) (e:eK s t) (j:r.map aJ.bl=q.map aJ.bl) :h6 t q:=by
 have u:=(ss e.ay).2;refine⟨sw h.ok e,(Aq h.st (o5.2 e.ay)).1,by rw[<-e.bE,<-JT e.pl];exact h.pen,fun x g=>(Ib e (fun _=>True) (fun x g=>⟨trivial,h.kK x g⟩) x g).2,Dv h.mb j,fun y o=>?_,?_,fun y o U J=>?_⟩
 ·obtain⟨x,g,m⟩:=wS j o;obtain⟨v,z,p,R⟩:=oW m;obtain⟨K,S,O,P,T⟩:=zz z;obtain⟨h1,C,D,F,G⟩:=h.gr x g;exact⟨by rw[<-O];exact h1,by rw[<-P,C,p],by rw[<-p,<-u];exact D,fun Q H=>by rw[<-u];exact F Q (by rw[K];exact H),by rw[<-v];exact G⟩
 ·exact UZ (f:=aA.id) (fun x y h=>(oW h).2.2.1) j h.yJ
 ·obtain⟨x,g,m⟩:=wS j o;obtain⟨w,I,B⟩:=wS e.pl J;rw[<-(oW m).2.2.1,<-(oW B).2.2.1];exact h.v7 x g w I
open cl aJ
def jf (l:List aA) :Nat->Nat
 | 0=>0
 | k+1=>if (e8 l (k+1)).aC<(e8 l (jf l k)).aC then k+1 else jf l k
theorem CW (l:List aA) :∀ k,jf l k<=k
 | 0=>aN _
 | k+1=>by
  unfold jf;split
  ·exact aN _
  ·have:=CW l k;omega
theorem wz (l:List aA) :∀ k,e8 l (jf l k)=iW l k
 | 0=>rfl
 | k+1=>by
  unfold jf iW;rw[wz l k];split
  ·rfl
  ·exact wz l k
def gW (r:List aA) :Nat:=jf r (r.length - 1)
def hE (r:List aA) :List aA:=r.take (gW r)++r.drop (gW r+1)
theorem zk {r:List aA} (h:r≠[]) :gW r<r.length:=by have:=CW r (r.length - 1);have:=qp.2 h;unfold gW;omega
theorem IR {r:List aA} (h:r≠[]) :r[gW r]?=some (cN r):=by obtain⟨x,g,_⟩:=aQ (zk h);have:e8 r (gW r)=cN r:=wz _ _;rw[eR g] at this;rw[g,this]
noncomputable def pE (s:bd) (x:aA) :bd:=⟨sE s.ay x.op,s.bE,c2 (aJ.gl x.id s.pl.l),s.bH,s.ds⟩
noncomputable def ih:Nat->bd->List aA->List dR->bd × List dR
 | 0,s,_,out=>(s,out)
 | n+1,s,r,out=>
  if r=[] then (s,out)
  else if fV s then ih n s (hE r) (out++[⟨(cN r).aC,8,(cN r).id⟩])
  else ih n (pE s (cN r)) (hE r++aJ.gA (cN r).id s.pl.l) (out++[⟨(cN r).aC,1,(cN r).id⟩])
theorem KM (n:Nat) (s:bd) (out:List dR) :ih n s [] out=(s,out):=by
 cases n with
 | zero=>rfl
 | succ n=>unfold ih;rw[ak rfl]
theorem KL (n:Nat) (s:bd) {r:List aA} (out:List dR) (h:r≠[]) :ih (n+1) s r out=if fV s then ih n s (hE r) (out++[⟨(cN r).aC,8,(cN r).id⟩])
  else ih n (pE s (cN r)) (hE r++aJ.gA (cN r).id s.pl.l) (out++[⟨(cN r).aC,1,(cN r).id⟩]):=by
 conv=>lhs;unfold ih
 rw[ai h]
structure pw (s:bd) (r:List aA) :Prop where
 xo:r.Pairwise fun a b=>a.aC≠b.aC
 pp:s.pl.l.Pairwise fun a b=>a.aC≠b.aC
 Eh:∀ x∈r,∀ y∈s.pl.l,x.aC≠y.aC
theorem pw.full {s:bd} {r:List aA} (h:pw s r) (x:aA) :pw s (gD r x):=
 ⟨h.xo.sublist kn,h.pp,fun y g=>h.Eh y (dx.1 g).1⟩
theorem pw.next {s:bd} {r:List aA} (h:pw s r) (x:aA) :pw (ht s x) (gD r x++aJ.c0 x.id s.pl.l):=by
 have p:(s.pl.l.map (er x.id)).Pairwise fun a b=>a.aC≠b.aC:=by
  rw[nj];exact h.pp
 have t:=vV s x;refine⟨?_,by rw[t];exact p.sublist kn,fun a g v j=>?_⟩
 ·rw[rH];refine⟨h.xo.sublist kn,p.sublist kn,fun a g b u=>?_⟩;obtain⟨y,o,rfl⟩:=cE.1 (dx.1 u).1;exact h.Eh a (dx.1 g).1 y o
 ·rw[t] at j;rcases fE.1 g with g | g
  ·obtain⟨y,o,rfl⟩:=cE.1 (dx.1 j).1;exact h.Eh a (dx.1 g).1 y o
  ·intro e;obtain⟨i,m⟩:=cp.1 (dx.1 g).1;obtain⟨k,hk⟩:=cp.1 (dx.1 j).1;have:=DF (f:=aA.aC) p m hk e;rw[this,hk] at m;obtain rfl:=cc m;have h1:=(dx.1 g).2;have q:=(dx.1 j).2;rw[h1] at q;cases q
theorem Ec {r:List aA} (h:r.Pairwise fun a b=>a.aC≠b.aC) (p:r≠[]) :gD r (cN r)=hE r:=by
 have m:=IR p;have w:=zk p;obtain⟨x,q⟩:=al (cN r);obtain⟨i,g⟩:=al (gW r);unfold hE gD;rw[<-q,<-g] at m;rw[<-g] at w;rw[<-q,<-g];have e:r=r.take i++x::r.drop (i+1):=by
  obtain⟨t,u⟩:=aL.1 m;have:=i3 i r;rw[oc t,u] at this;exact this.symm
 have o:=h;rw[e,rH,Bm] at o;obtain⟨C,⟨z,D⟩,B⟩:=o
 conv=>lhs;rw[e]
 rw[lJ,ta];have h1:(r.take i).filter (fun y=>!decide (y.aC=x.aC))=r.take i:=rG.2 fun y j=>by
  have:=B y j x V;simp[this]
 have v:(r.drop (i+1)).filter (fun y=>!decide (y.aC=x.aC))=r.drop (i+1):=rG.2 fun y j=>by
  have:=z y j;simp[show ¬ y.aC=x.aC from fun e=>this e.symm]
 rw[h1,v];simp
theorem Ja {r q:List aA} (e:r.map aJ.bl=q.map aJ.bl) :∀ k,k<r.length->jf r k=jf q k/\aJ.bl (iW r k)=aJ.bl (iW q k)
 | 0,h=>by
  obtain⟨x,g,_⟩:=aQ h;obtain⟨y,j,_⟩:=aQ (l:=q) (k:=0) (by have:=hA e;omega);refine⟨rfl,?_⟩;unfold iW;rw[eR g,eR j];exact pU e g j
 | k+1,h=>by
  obtain⟨h1,o⟩:=Ja e k F;obtain⟨x,g,_⟩:=aQ h;obtain⟨y,j,_⟩:=aQ (l:=q) (k:=k+1) (by have:=hA e;omega);have m:=pU e g j;have p:=(oW m).1;have em:=(oW o).1;unfold jf iW;rw[eR g,eR j,wz,wz,p,em,h1];split
  ·exact⟨rfl,m⟩
  ·exact⟨rfl,o⟩
theorem Cy {r q:List aA} (e:r.map aJ.bl=q.map aJ.bl) (h:r≠[]) :gW r=gW q/\aJ.bl (cN r)=aJ.bl (cN q):=by have g:=hA e;unfold gW cN;rw[<-g];exact Ja e _ (by have:=qp.2 h;omega)
theorem Eb {r q:List aA} (e:r.map aJ.bl=q.map aJ.bl) (h:r≠[]) :(hE r).map aJ.bl=(hE q).map aJ.bl:=by unfold hE;rw[(Cy e h).1,cV,cV,i2,og,i2,og,e]
def AE (x:List B) (s:aA) :aA:=⟨s.aC,s.op,s.id,some (s.a6.l.filter (fA x))⟩
theorem Yl (x:List B) (s:aA) :aJ.bl (er x s)=AE x (aJ.bl s):=by
 show (⟨s.aC,aJ.cw s.op,s.id,some (n0 x s.a6).l⟩:aA)=⟨s.aC,aJ.cw s.op,s.id,some (s.a6.l.filter (fA x))⟩
 rw[xC]
theorem Yk (x:List B) (s:aA) :aJ.bl (kh x s)=AE x (aJ.bl s):=by
 show (⟨s.aC,aJ.cw (aJ.cw s.op),s.id,some (eC (s.a6.l.filter (fA x))).l⟩:aA)=⟨s.aC,aJ.cw s.op,s.id,some (s.a6.l.filter (fA x))⟩
 rw[kj];rfl
theorem yU {p:aA->Bool} (g:∀ s,p (aJ.bl s)=p s) (l:List aA) :(l.filter p).map aJ.bl=(l.map aJ.bl).filter p:=by rw[List.filter_map];congr 1;exact Fu fun s _=>(g s).symm
theorem LS {x:List B} {l m:List aA} (e:l.map aJ.bl=m.map aJ.bl) :(l.map (er x)).map aJ.bl=(m.map (kh x)).map aJ.bl:=by
 have h1:∀ l:List aA,(l.map (er x)).map aJ.bl=(l.map aJ.bl).map (AE x):=fun l=>by
  rw[iL,iL];exact mr fun s _=>Yl x s
 have g:∀ l:List aA,(l.map (kh x)).map aJ.bl=(l.map aJ.bl).map (AE x):=fun l=>by
  rw[iL,iL];exact mr fun s _=>Yk x s
 rw[h1,g,e]
theorem Dn {x:List B} {l m:List aA} (e:l.map aJ.bl=m.map aJ.bl) :(aJ.cP x l).map aJ.bl=(aJ.gl x m).map aJ.bl:=by unfold aJ.cP aJ.gl;rw[yU (fun s=>rfl),yU (fun s=>rfl),LS e]
theorem Cx {x:List B} {l m:List aA} (e:l.map aJ.bl=m.map aJ.bl) :(aJ.c0 x l).map aJ.bl=(aJ.gA x m).map aJ.bl:=by unfold aJ.c0 aJ.gA;rw[yU (fun s=>rfl),yU (fun s=>rfl),LS e]
theorem Vr {g:aW} {x:List B} {a b:aK} (e:Op.cw a=Op.cw b) :jJ g x a=jJ g x b:=by unfold jJ cy;simp only[b1.pT];congr 2;unfold cX;simp only[cV,dg,e]
theorem Jv {s t:cW} (h:gJ s) {a b:aK} (u:eh a=0) (q:ix s a=1) (e:dY s=dY t) (p:Op.cw a=Op.cw b) :dY (nS s (bf a) a)=dY (sE t b):=by
 obtain⟨C,P,D,j,Q⟩:=zz p;obtain⟨H,I⟩:=Aq h (o5.2 e);obtain⟨m,o⟩:=ss e;have g:=o5.2 e;unfold kW at g;simp only[bU,bK] at g;obtain⟨F,G,R,S⟩:=(mh _ _).1 g.2.1;have v:ix t b=1:=by
  have:ix t b=ix s a:=by
   unfold ix;rw[<-j,<-C,<-o,<-m,<-G]
  rw[this];exact q
 have w:mW t b=0:=by unfold mW;rw[ak ((sQ t).2 H),<-D];exact u
 have z:sE t b=Dt t b:=by
  unfold sE;rw[ak w];unfold lx;rw[ak v]
 obtain⟨J,K,O⟩:=CX h q;obtain⟨_,B⟩:=Km h.aD J O u rfl K;rw[z];refine o5.1 ?_;unfold kW;simp only[bU,bK];refine⟨m,?_,?_⟩
 ·show hW (fu s.aD (bf a) a) (hz (jJ (ct t.aD) (bf b) b) t.aD.aj.l.length)=true;rw[I,<-j,<-Vr p,<-F];exact B
 ·show s.az.l++[bf a]=t.az.l++[bf b]
  rw[o,j]
theorem D8:∀ (n:Nat) (s t:bd) (r q:List aA) (out:List dR),h6 s r->pw s r->eK s t->r.map aJ.bl=q.map aJ.bl->eK (fB n s r out).1 (ih n t q out).1/\(fB n s r out).2=(ih n t q out).2
 | 0,s,t,r,q,out,h,o,e,j=>⟨e,rfl⟩
 | n+1,s,t,r,q,out,h,o,e,j=>by
  by_cases g:r=[]
  ·subst g;have m:q=[]:=by have:=hA j;exact ho.1 this.symm
   subst m;rw[sF,KM];exact⟨e,rfl⟩
  ·have m:q≠[]:=fun m=>by
    have:=hA j;rw[m] at this;exact g (ho.1 this)
   rw[rh n s out g,KL n t out m];obtain⟨_,F⟩:=Cy j g;obtain⟨C,D,u,H⟩:=oW F;have G:fV s=fV t:=by
    obtain⟨z,B⟩:=ss e.ay;unfold fV;rw[z,B]
   have w:(gD r (cN r)).map aJ.bl=(hE q).map aJ.bl:=by rw[Ec o.xo g];exact Eb j g
   rw[<-G,<-C,<-u];cases v:fV s with
   | true=>
    rw[ak rfl,ak rfl];exact D8 n s t _ _ _ (h.full _) (o.full _) e w
   | false=>
    rw[ai V,ai V];have p:=sd g;refine D8 n _ _ _ _ _ (h.next p v) (o.next _) ⟨?_,e.bE,?_,e.bH,e.ds⟩ ?_
    ·exact Jv h.st (h.gr _ p).1 (h.wA p v) e.ay D
    ·show (c2 (aJ.cP (cN r).id s.pl.l)).l.map _=(c2 (aJ.gl (cN q).id t.pl.l)).l.map _;rw[fb,fb,<-u];exact Dn e.pl
    ·rw[cV,cV,w,Cx e.pl]
end Op
theorem aH.upto {z:Nat} {l:ae} {v:U} {j:Nat} {es:List (ag)} (h:aH z l v j es) (H:bq v=false) {k:cU} {i:Nat} (C:i<=es.length) :∃ o,dw (.Z z) v none (some (.int k (i:Int))) none=some o/\cq l z o=some ((es.take i).flatten,i):=by
 cases h with
 | nil j=>cases H
 | Z j n cap Q cs es g K G I q J t=>
  subst G;have B:(es.flatten).take (i*z)=(es.take i).flatten:=by
   have h1:es.flatten=(es.take i).flatten++(es.drop i).flatten:=by rw[<-jr,i3]
   have p:(es.take i).flatten.length=i*z:=by
    rw[hv (z:=z) (fun e w=>I e (gy w)),cL];congr 1;omega
   rw[h1,<-p,List.take_left]
  have O:i*z<=es.length*z:=ck _ C;have P:es.length*z<=cap*z:=ck _ q;have u:(cs.take (i*z))=(es.take i).flatten:=by
   rw[<-B,<-t,lL];congr 1;omega
  rw[rk,yo,ak ⟨F,F⟩];simp only[fo,cA,bc,exists_eq_left'];by_cases m:cap=0
  ·have D:i=0:=F;subst D;rw[ak m];simp[cq,g]
  ·rw[ai m];simp[cq,g,u]
theorem aH.Jz {z:Nat} {l:ae} {v:U} {j:Nat} {es:List (ag)} (h:aH z l v j es) (D:bq v=false) {k:cU} {i:Nat} (B:i<=es.length) :∃ g,dw (.Z z) v (some (.int k (i:Int))) none none=some g/\cq l z g=some ((es.drop i).flatten,es.length - i):=by
 obtain⟨g,h1,m,t⟩:=h.q.from D (k:=k) B;refine⟨g,h1,?_⟩;have o:es.length - i=(es.drop i).length:=by rw[i1]
 rw[o];generalize es.drop i=p at m;cases m with
 | nil j=>cases t
 | Z j I n cap J cs p u o C H F G w=>
  subst C;simp[cq,u,w]
theorem He {z:Nat} {l m:ae} {v:U} {cs:ag} {n:Nat} (h:cq l z v=some (cs,n)) :cq (l++m) z v=some (cs,n):=by
 cases v<;>simp only[cq] at h ⊢<;>try exact h
 rename_i p b j len cap o;cases g:l[b]? with
 | none=>rw[g] at h;cases h
 | some c=>
  rw[aV (a1 g),g];rw[g] at h;exact h
theorem aH.at {z:Nat} {l:ae} {v:U} {j:Nat} {es:List (ag)} (h:aH z l v j es) {k:cU} {i:Nat} {e:ag} (g:es[i]?=some e) :
  ∃ sz cs,bQ (.Z z) v (.int k (i:Int))=some (.ptr j (i*z) sz)/\l[j]?=some (.q sz cs)/\cs.length=sz/\i*z+z<=sz/\(cs.drop (i*z)).take z=e/\∀ c,0<z->e[0]?=some c->cs[i*z]?=some c:=by
 cases h with
 | nil j=>simp at g
 | Z j n cap sz cs es t C D o u I m=>
  have B:=(aL.1 g).1;have h1:i*z+z<=n*z:=by rw[<-ej];exact ck _ F
  have H:n*z<=cap*z:=ck _ u;have G:=Cu o g;refine⟨sz,cs,?_,t,C,F,?_,fun c p w=>?_⟩
  ·simp[bQ,D ▸ B]
  ·rw[<-G,<-m,qo,lL];congr 1;omega
  ·have:=ln o g p;rw[<-m,dQ F,nm] at this;rw[this,w]
namespace Op
open cl aJ
def nu (t:bd) (q:List aA) :Prop:=∃ s r,h6 s r/\pw s r/\eK s t/\r.map aJ.bl=q.map aJ.bl
theorem nu.inv {t:bd} {q:List aA} (h:nu t q) :h6 t q:=by obtain⟨s,r,h1,m,g,j⟩:=h;exact WF h1 g j
theorem nu.full {t:bd} {q:List aA} (h:nu t q) (p:q≠[]) :nu t (hE q):=by
 obtain⟨s,r,h1,j,o,m⟩:=h;have g:r≠[]:=fun g=>by
  have:=hA m;rw[g] at this;exact p (ho.1 this.symm)
 exact⟨s,gD r (cN r),h1.full _,j.full _,o,by rw[Ec j.xo g];exact Eb m g⟩
theorem nu.next {t:bd} {q:List aA} (h:nu t q) (F:q≠[]) (v:fV t=false) :nu (pE t (cN q)) (hE q++aJ.gA (cN q).id t.pl.l):=by
 obtain⟨s,r,h1,u,g,m⟩:=h;have j:r≠[]:=fun j=>by
  have:=hA m;rw[j] at this;exact F (ho.1 this.symm)
 have w:fV s=false:=by
  obtain⟨z,B⟩:=ss g.ay;unfold fV at v ⊢;rw[z,B];exact v
 obtain⟨_,D⟩:=Cy m j;obtain⟨G,C,p,H⟩:=oW D;have o:=sd j;refine⟨ht s (cN r),gD r (cN r)++aJ.c0 (cN r).id s.pl.l,h1.next o w,u.next _,⟨?_,g.bE,?_,g.bH,g.ds⟩,?_⟩
 ·exact Jv h1.st (h1.gr _ o).1 (h1.wA o w) g.ay C
 ·show (c2 (aJ.cP (cN r).id s.pl.l)).l.map _=(c2 (aJ.gl (cN q).id t.pl.l)).l.map _;rw[fb,fb,<-p];exact Dn g.pl
 ·rw[cV,cV,Ec u.xo j,Eb m j,<-p,Cx g.pl]
theorem U2 (x:List B) (l:List aA) :(aJ.gl x l).length+(aJ.gA x l).length=l.length:=by have h1:=hA (Dn (x:=x) (l:=l) (m:=l) rfl);have g:=hA (Cx (x:=x) (l:=l) (m:=l) rfl);rw[<-h1,<-g];exact aJ.ra x l
theorem WD {q:List aA} (h:q≠[]) :(hE q).length+1=q.length:=by have:=zk h;unfold hE;rw[cI,cL,i1];omega
structure Np (g:U) (q:List aA) (L:ae) (jo:U) (k:Nat) (sgZ:aS) (l:ae) :Prop where
 nI:l=L
 hP:sgZ 2=.ptr 0 0 9
 iq:sgZ 4=.ptr 2 0 9
 lo:sgZ 6=jo
 tS:sgZ 7=g
 oI:sgZ 8=.i6 (jf q k:Int)
 y0:sgZ 9=.i6 ((k+1:Nat) :Int)
structure Nt (fin:bd × List dR) (N:Nat) (k:Nat) (sgZ:aS) (L:ae) :Prop where
 hP:sgZ 2=.ptr 0 0 9
 iq:sgZ 4=.ptr 2 0 9
 jH:L[2]?=some (.q 9 (bz jO))
 ex:∃ t q out g jo j h,sgZ 7=g/\sgZ 6=jo/\nu t q/\q.length+t.pl.l.length+k<=N/\ih (N - k) t q out=fin/\L[0]?=some (.q 9 (bz t))/\aH 45 L g j (q.map aO)/\aH 34 L jo h (out.map di)/\(g=.ad\/3<=j)/\(jo=.ad\/3<=h)/\bq jo=out.isEmpty/\out.length<=k
theorem Qf (t0:bd) (C:aA) (dN:h5 C) (dJ:nu t0 [C]) {N:Nat} (ex:1+t0.pl.l.length<=N) (ey:N<=1000) :
  aU 59 [.af (bz t0),.af (aO C)] (.aX [.af (bz (ih N t0 [C] []).1),iR (m7 (ih N t0 [C] []).2)]):=by
 apply a2 func59 [[],cT 0 4++cT 5 4++[[4]]];have bL:=du;obtain⟨dj,cu⟩:=al (ih N t0 [C] []);rw[<-cu];have aD:=(eQ dN).len;have dK:=gZ aD;have c1:∀ t:bd,(bz t).length=9:=fun _=>rfl
 have eo:∀ t:bd,(bz t).take 9=bz t:=fun _=>rfl
 simp[aD,dK,c1,aI];refine bB N (Nt dj N) ?_ ⟨V,V,by simp[Hw],t0,[C],[],.Z 45 3 0 1 1 45,.ad,3,0,V,V,dJ,by simp;omega,by simpa using cu.symm,V,.Z 3 1 1 45 (aO C) [aO C] V aD rfl (by simp[aD]) F F (by simp[aD,aI]),.nil 0,.inr F,.inl rfl,rfl,V⟩;rintro k bZ L hk ⟨K,O,aS,t,q,out,aj,b1,cM,bc,aB,P,bA,eD,a8,cR,B,aR,d7,d6,n6,eV⟩;obtain⟨bZ,rfl⟩:=eO K O P aB;clear K O P aB;have S:=B.len;rw[ce] at S;by_cases v:q=[]
 ·subst v;rw[KM] at a8;subst a8;simp at S;rw[Hw] at aS;have ep:av [U.i6 0,.ad,.ad,.i6 0,.ad,.i6 0,.ad,.i6 0,.bool false] 0 (bz t)=bz t:=cD rfl;have eh:∀ c:aq,(L.set 2 c)[2]?=some c:=fun c=>bY (a1 aS)
  simp[S,cR,aS,c1,eo,ep,eh];exact xh (.same _ (hN t)) ((aR.cx (d6.imp id fun h=>bj F)).q.gP tI (m7 out) (by rw[n6,L2]) (AG out))
 ·have dH:0<q.length:=qp.2 v;have bM:aj≠.ad:=fun e=>by
   subst e;have:=B.q.oX;rw[ni] at this;exact v this
  have bN:bq aj=false:=by
   cases h:bq aj with
   | false=>rfl
   | true=>exact bV (gk.1 h) bM
  have eF:=B.lt.resolve_left bM;have eG:=d7.resolve_left bM;have G:=bA.inv;simp[S,dH];refine bB (q.length - 1) (Np aj q L b1) ?_ ⟨rfl,V,V,V,V,by simp[jf],V⟩;rintro m bZ g cw ⟨rfl,K,O,P,aB,cj,bs⟩;obtain⟨i,aF⟩:=al (m+1);rw[<-aF] at bs;obtain⟨bZ,rfl⟩:=n4 K O P aB cj bs;clear K O P aB cj bs;have eE:=CW q m;by_cases a6:i<q.length
  ·obtain⟨y,cJ,dP⟩:=aQ a6;obtain⟨w,cC,dM⟩:=aQ (l:=q) (k:=jf q m) F;have eB:=(eQ (G.mb y dP)).len;have eA:=(eQ (G.mb w dM)).len;have aZ:=ci (k:=i) F;obtain⟨c0,cs,aW,ax,df,dg,bn,b4⟩:=B.at (k:=.i64) (i:=i) (e:=aO y) (by rw[b0,cJ];rfl)
   obtain⟨ek,cs',aY,I,dh,b8,ca,bp⟩:=B.at (k:=.i64) (i:=jf q m) (e:=aO w) (by rw[b0,cC];rfl)
   have b5:=b4 (.i6 y.aC) F rfl;have cb:=bp (.i6 w.aC) F rfl;have bb:jf q (m+1)=if y.aC<w.aC then m+1 else jf q m:=by
    have h1:e8 q (m+1)=y:=by rw[<-aF];exact eR cJ
    have dm:e8 q (jf q m)=w:=eR cC;rw[<-h1,<-dm];rfl
   rw[ax] at I;obtain⟨rfl,rfl⟩:c0=ek/\cs=cs':=by simpa using I
   by_cases aK:y.aC<w.aC
   ·rw[ak aK] at bb;simp[S,a6,aW,ax,aY,b5,cb,aK,aZ];exact⟨F,rfl,V,V,V,V,by simp[bb,aF],by simp[aF]⟩
   ·rw[ai aK] at bb;simp[S,a6,aW,ax,aY,b5,cb,aK,aZ];exact⟨F,rfl,V,V,V,V,by simp[bb],by simp[aF]⟩
  ·have dD:m=q.length - 1:=F;have dC:jf q m=gW q:=by rw[dD];rfl
   rw[dC];have aK:=zk v;have cr:=IR v;have cH:=sd v;have aM:ih (N - k) t q out=if fV t then ih (N - k - 1) t (hE q) (out++[⟨(cN q).aC,8,(cN q).id⟩])
     else ih (N - k - 1) (pE t (cN q)) (hE q++aJ.gA (cN q).id t.pl.l) (out++[⟨(cN q).aC,1,(cN q).id⟩]):=by
    obtain⟨m,cw⟩:∃ m,N - k=m+1:=⟨N - k - 1,F⟩
    rw[cw];exact KL m t out v
   have aP:=G.mb _ cH;have H:=eQ aP;have dy:=bA.full v;have cz:=fun R=>bA.next v R
   have eT:=WD v;obtain⟨x,dO⟩:=al (cN q);rw[<-dO] at cr cH aM aP H cz;obtain⟨c0,cs,aW,ax,df,dg,bn,b4⟩:=B.at (k:=.i64) (i:=gW q) (e:=aO x) (by rw[b0,cr];rfl)
   have aZ:IntKind.i64.wrap ((gW q:Int)+1)=((gW q+1:Nat) :Int):=by rw[IntKind.wrap_i64];have:=G.mb;omega
   have cB:=gZ H.len;obtain⟨Y,cp⟩:=al (aO x);rw[<-cp] at bn H cB;obtain⟨c3,dk,K⟩:=B.upto bN (k:=.i64) (i:=gW q) (by simp;omega);obtain⟨E6,cf,O⟩:=B.Jz bN (k:=.i64) (i:=gW q+1) (by simp;omega);have dl:dw (.Z 45) aj (some (.i6 ((gW q:Int)+1))) none none=some E6:=cf;have eX:q.length<=1000:=F
   -- the row without the least one
   obtain⟨X,D⟩:=al (g++[aq.q 45 Y,aq.q 0 []]);have et:∀ (c:Nat) (b:aq),g[c]?=some b->X[c]?=some b:=fun c b p=>by rw[D,aV (a1 p)];exact p
   have ew:X.length=g.length+2:=by rw[D];simp
   have er:aH 45 X (.Z 45 (g.length+1) 0 0 0 0) (g.length+1) []:=.Z _ 0 0 0 [] [] (by rw[D];simp) rfl rfl V (aN _) F V;have dT:cq X 45 c3=some (((q.map aO).take (gW q)).flatten,gW q):=by rw[D];exact He K
   have eY:cq X 45 E6=some (((q.map aO).drop (gW q+1)).flatten,q.length - (gW q+1)):=by
    rw[D];have:=He (m:=[aq.q 45 Y,aq.q 0 []]) O;simpa using this
   have cK:∀ e∈q.map aO,e.length=45:=B.row;obtain⟨c4,Ss,db,dc,bl,ev,b3,dd,de⟩:=io (by_:=176) (x:=c3) (xs:=(q.map aO).take (gW q)) er (by rw[dT,cL];simp;omega) (fun e aE=>cK e (gy aE)) F F (by rw[bL];simp;omega);have dZ:aH 45 db aj cM (q.map aO):=B.frame fun bJ=>by rw[b3 cM F (.inr F),D,aV bJ]
   obtain⟨fp,ch,P⟩:=dZ.Jz bN (k:=.i64) (i:=gW q+1) (by simp;omega);rw[cf] at ch;obtain rfl:=cc ch;have dS:∀ e∈(q.map aO).drop (gW q+1),e.length=45:=fun e aE=>cK e (vj aE)
   rw[h2] at bl;obtain⟨W,nL,u,aY,I,dh,b8,ca,bp⟩:=io (by_:=176) (x:=E6) (xs:=(q.map aO).drop (gW q+1)) bl (by rw[P,i1]) dS F F (by rw[bL];simp;omega);have bQ:bq c4=false:=by rw[de];rfl
   have dL:c4≠.ad:=fun e=>by rw[e] at bQ;cases bQ
   have eK:g.length+1<=Ss:=by
    rcases dd with h | ⟨_,h⟩ | h
    ·omega
    ·omega
    ·exact bV h dL
   have cF:bq W=false:=by rw[bp,bQ];rfl
   have bS:W≠.ad:=fun e=>by rw[e] at cF;cases cF
   have eL:g.length+1<=nL:=by
    rcases ca with h | ⟨_,h⟩ | h
    ·omega
    ·omega
    ·exact bV h bS
   have b7:aH 45 u W nL ((hE q).map aO):=by
    unfold hE;rw[cV,i2,og];exact I
   have cd:∀ b,b<=g.length->u[b]?=X[b]?:=fun b p=>by rw[b8 b F (.inr F),b3 b F (.inr F)]
   have br:∀ b,b<g.length->u[b]?=g[b]?:=fun b p=>by rw[cd b F,D,aV p]
   have bT:u[g.length]?=some (.q 45 Y):=by rw[cd _ (aN _),D];simp
   have T:u[0]?=some (.q 9 (bz t)):=by rw[br 0 F];exact cR
   have n32:u[2]?=some (.q 9 (bz jO)):=by rw[br 2 (a1 aS)];exact aS
   have cQ:aH 34 u b1 bc (out.map di):=aR.frame fun bJ=>br bc bJ
   have eZ:=bl.cells;have e0:=I.cells;simp[S,a6,aW,ax,bn,cB,H.len,dk,aZ,dl];refine⟨F,?_⟩;rw[<-D];simp[dc];refine bR.bm ?_;simp[aY];refine bR.bm ?_;have ck:=fe t;have a7:=G.ok;have eU:=a7.ay.no;have cv:bD (.Z 32) (ah t.ay.az)=_:=b9 _;obtain⟨c9,bx⟩:=al (bz t);rw[<-bx] at T ck;obtain⟨cX,e3,eg,fj,fd,fk,e9,e6,e5,fg,cY,fl,fa,e7,cW,fi,e4⟩:=ck;have o:=bo aP.id;have bk:=H.len;have c7:=H.aC;have c6:=H.op;have aT:=H.id;have C:Y[0]?=some (.i6 x.aC):=by rw[cp];rfl
   by_cases R:fV t=true
   ·have bG:(t.ay.az.l.length:Int)=t.ay.cap:=by unfold fV at R;exact iM R
    rw[ak R] at aM;obtain⟨ap,pO,j,d1,d2,d3,d4,d5,J⟩:=yh cQ (s:=⟨x.aC,8,x.id⟩) (by simp[di,o]) F;have bv:di ⟨x.aC,8,x.id⟩=.i6 x.aC::.int .u8 8::ao x.id:=rfl;rw[bv] at d1;obtain⟨da,bC⟩:=al (ao x.id);rw[<-bC] at d1 aT o;have q1:=uK (.int .u8 8);have bh:=uL (.int .u8 8) o;have bi:=uM (.int .u8 8) o;simp[T,bT,cX,cY,cW,cv,bG,bk,c7,aT,en,q1,bh,bi,sK o,o,d1];refine bR.bm ?_;simp;have a4:3<=pO:=by
     rcases d5 with h | ⟨h,h'⟩
     ·omega
     ·rw[h'];exact d6.resolve_left h
    refine⟨F,V,V,?_,t,hE q,out++[⟨x.aC,8,x.id⟩],W,ap,nL,pO,V,V,dy,F,by rw[<-a8,show N - (k+1)=N - k - 1 by omega,aM],?_,b7.cx (.inr (d4 nL (I.lt.resolve_left bS) ?_)),d2,.inr F,.inr a4,by rw[J];simp,by simp;omega⟩
    ·rw[d4 2 (a1 n32) (d6.imp id fun h=>F)];exact n32
    ·rw[d4 0 (a1 T) (d6.imp id fun h=>F),<-bx];exact T
    ·rcases aR.lt with h | h
     ·exact .inl h
     ·exact .inr F
   ·have bI:fV t=false:=by cases h:fV t with | true=>exact bV h R | false=>rfl
    have bG:¬ (t.ay.az.l.length:Int)=t.ay.cap:=by unfold fV at bI;exact of_decide_eq_false bI
    rw[ai R] at aM;have cy:=cz bI;have bK:=VR t.ay a7.ay x.op aP.op;have dx:=g7 t.ay;have cA:=dt x.op;have a3:=VH t.bE t.pl a7.pl (by have:=a7.len;omega) x.id aP.id;rw[PI,ak G.pen,ak G.pen,ak G.pen] at a3;have dv:am (bt t.bE t.pl)=true:=by simp[bt,am,U.ar,fT]
    have cm:=cG x.id;obtain⟨Q,cn⟩:=al (sE t.ay x.op);rw[<-cn] at bK;have dq:(bw Q).length=5:=rfl;have ez:(bw Q).take 5=bw Q:=rfl;obtain⟨iG,a9⟩:=al (⟨Q,t.bE,t.pl,t.bH,t.ds⟩:bd);have dI:av c9 0 (bw Q)=bz iG:=by rw[bx,a9];rfl
    obtain⟨z,aG⟩:=al (u.set 0 (aq.q 9 (bz iG)));have eN:z.length=u.length:=by rw[aG];simp
    have bU:z[0]?=some (.q 9 (bz iG)):=by rw[aG];exact bY (a1 T)
    have a0:∀ b,b≠0->z[b]?=u[b]?:=fun b p=>by rw[aG];exact bj (fun e=>p e.symm)
    have bW:z[g.length]?=some (.q 45 Y):=by rw[a0 _ F];exact bT
    have n42:z[2]?=some (.q 9 (bz jO)):=by rw[a0 2 F];exact n32
    have dX:aH 34 z b1 bc (out.map di):=cQ.cx (d6.imp id fun h=>a0 bc F);have ea:aH 45 z W nL ((hE q).map aO):=b7.cx (.inr (a0 nL F));obtain⟨ap,pO,j,d1,d2,d3,d4,d5,J⟩:=yh dX (s:=⟨x.aC,1,x.id⟩) (by simp[di,o]) F;have bv:di ⟨x.aC,1,x.id⟩=.i6 x.aC::.int .u8 1::ao x.id:=rfl;rw[bv] at d1;have q1:=uK (.int .u8 1);have bh:=uL (.int .u8 1) o;have bi:=uM (.int .u8 1) o;have dA:=aR.lt;have bf:∀ b,b<z.length->(b<3\/g.length<=b)->j[b]?=z[b]?:=fun b p bF=>d4 b p (by
     rcases bF with bF | bF
     ·exact d6.imp id fun h=>F
     ·exact dA.imp id fun h=>F)
    have bg:j[0]?=some (.q 9 (bz iG)):=by rw[bf 0 (a1 bU) (.inl F)];exact bU
    have dW:j[g.length]?=some (.q 45 Y):=by rw[bf _ (a1 bW) (.inr (aN _))];exact bW
    have n62:j[2]?=some (.q 9 (bz jO)):=by rw[bf 2 (a1 n42) (.inl F)];exact n42
    have eM:=I.lt.resolve_left bS;have eb:aH 45 j W nL ((hE q).map aO):=ea.cx (.inr (bf nL F (.inr F)));have b2:=fe iG;have dF:iG.bE=t.bE:=by rw[a9]
    have dG:iG.pl=t.pl:=by rw[a9]
    have ct:av (bz iG) 5 [.i6 t.bE,cg (c2 (aJ.gl x.id t.pl.l))]=bz (pE t x):=by rw[a9,cn];rfl
    obtain⟨np,cl⟩:=al (bz iG);rw[<-cl] at b2 bg aG bU ct;obtain⟨ei,fm,fo,cZ,_⟩:=b2;rw[dF,dG] at cZ;have dn:bt t.bE (c2 (aJ.gl x.id t.pl.l))=[.i6 t.bE,cg (c2 (aJ.gl x.id t.pl.l))]:=rfl;rw[dn] at a3;have ej:∀ a b:U,av [U.i6 0,.ad] 0 [a,b]=[a,b]:=fun _ _=>rfl
    have eC:(cg (c2 (aJ.gl x.id t.pl.l))).ar=true:=fT _;obtain⟨da,bC⟩:=al (ao x.id);rw[<-bC] at d1 aT o bh bi cm a3;obtain⟨eu,dp⟩:=al (aw x.op);rw[<-dp] at bK cA c6;have dV:∀ m:ae,(j++m)[0]?=some (.q 9 np):=fun m=>by rw[aV (a1 bg)];exact bg
    simp[T,bT,cX,cY,cW,cv,bG,bk,c6,eg];refine au bK (by simp[am,U.ar,dx,cA]) ?_;simp[T,dq,dI];rw[<-cl,<-aG];simp[bW,bk,c7,aT,en,q1,bh,bi,sK o,o,d1];refine bR.bm ?_;simp[bg,dW,ei,cZ,bk,aT];refine au a3 (by simp[am,U.ar,dv,cm]) ?_;have c8:∀ (m:ae) (h:0<(j++m).length),(j++m)[0]'h=.q 9 np:=fun m h=>(aL.1 (dV m)).2
    obtain⟨ag,a5⟩:=al ((j++[aq.q 2 [U.i6 t.bE,cg (c2 (aJ.gl x.id t.pl.l))]]).set 0 (aq.q 9 (bz (pE t x))));have eS:ag.length=j.length+1:=by rw[a5];simp
    have eP:z.length+1<=j.length:=d3;have f7:∀ b,b≠0->b<j.length->ag[b]?=j[b]?:=fun b p dr=>by rw[a5,bj (fun e=>p e.symm),aV dr]
    have cP:ag[0]?=some (.q 9 (bz (pE t x))):=by rw[a5];exact bY V
    have cO:ag[2]?=some (.q 9 (bz jO)):=by rw[f7 2 F (a1 n62)];exact n62
    have ec:aH 45 ag W nL ((hE q).map aO):=eb.cx (.inr (f7 nL F F));have dY:aH 34 ag ap pO ((out++[(⟨x.aC,1,x.id⟩:dR)]).map di):=by
     have bO:ap≠.ad:=fun e=>by rw[e] at J;cases J
     refine d2.cx (.inr (f7 pO ?_ (d2.lt.resolve_left bO)));rcases d5 with h | ⟨h,h'⟩
     ·omega
     ·rw[h'];have:=d6.resolve_left h;omega
    have eW:=U2 x.id t.pl.l;have dE:=cy.inv.mb;have dz:∀ e∈(aJ.gA x.id t.pl.l).map aO,e.length=45:=fun e aE=>by
     obtain⟨es,dQ,rfl⟩:=cE.1 aE;exact (eQ (dE es (List.mem_append_right _ dQ))).len
    obtain⟨c5,IF,fq,ed,cS,e1,bX,ef,e2⟩:=io (by_:=176) (x:=cg (c2 (aJ.gA x.id t.pl.l))) (xs:=(aJ.gA x.id t.pl.l).map aO) ec (by simp[cg,fb]) dz F F (by rw[bL];simp;omega);rw[<-cV] at cS;have bO:ap≠.ad:=fun e=>by rw[e] at J;cases J
    have eI:=d2.lt.resolve_left bO;have a4:3<=pO/\pO≠nL:=by
     rcases d5 with h | ⟨h,h'⟩
     ·exact⟨F,F⟩
     ·have:=d6.resolve_left h;have:=aR.lt.resolve_left h;rw[h'];exact⟨F,F⟩
    have dB:c5=.ad\/3<=IF:=by
     rcases ef with h | ⟨_,h⟩ | h
     ·exact .inr F
     ·exact .inr F
     ·exact .inl h
    simp[ej,c8,ct];rw[<-a5];simp[ed];refine bR.bm ?_;simp;refine⟨F,V,V,?_,pE t x,hE q++aJ.gA x.id t.pl.l,out++[⟨x.aC,1,x.id⟩],c5,ap,IF,pO,V,V,cy,?_,by rw[<-a8,show N - (k+1)=N - k - 1 by omega,aM],?_,cS,dY.cx (.inr (bX pO F (.inr a4.2))),dB,.inr a4.1,by rw[J];simp,by simp;omega⟩
    ·rw[bX 2 (a1 cO) (.inr F)];exact cO
    ·have:(pE t x).pl.l.length=(aJ.gl x.id t.pl.l).length:=by show (c2 _).l.length=_;rw[fb]
     rw[cI,this];omega
    ·rw[bX 0 (a1 cP) (.inr F)];exact cP
end Op
namespace Op
open cl aJ
def jR (s:bd) :bd:=⟨dY s.ay,s.bE,c2 (s.pl.l.map aJ.bl),s.bH+1,s.ds⟩
def xb (s:bd) (j:cR) :bd:=⟨dY s.ay,s.bE,some ((s.pl.l.map aJ.bl).map aJ.bl++[aJ.bl ⟨j.aC,j.op,bf j.op,eC (da s.ay.az.l j.op)⟩]),s.bH+1,s.ds⟩
noncomputable def kb (s:bd) (j:cR) :bd × List dR:=
 if eI s j=6 then (xb s j,[⟨j.aC,6,j.id⟩])
 else if eI s j=1 then ih (1+s.pl.l.length) (jR s) [fX j] []
 else (jR s,[⟨j.aC,eI s j,j.id⟩])
theorem EX (s:cW) :dY (dY s)=dY s:=(o5.1 (W7 s)).symm
theorem wM (l:List aA) :(l.map aJ.bl).map aJ.bl=l.map aJ.bl:=by rw[iL];exact mr fun s _=>rfl
theorem Dp (s:bd) :eK (fv s) (jR s):=by refine⟨(EX s.ay).symm,rfl,?_,rfl,rfl⟩;show (c2 s.pl.l).l.map _=(c2 (s.pl.l.map aJ.bl)).l.map _;rw[fb,fb,wM]
theorem Ji {s t:bd} (e:eK s t) :eK (fv s) (fv t):=by refine⟨e.ay,e.bE,?_,by show s.bH+1=t.bH+1;rw[e.bH],e.ds⟩;show (c2 s.pl.l).l.map _=(c2 t.pl.l).l.map _;rw[fb,fb,e.pl]
theorem Do (s:bd) :eK s (gq s):=by refine⟨(EX s.ay).symm,rfl,?_,rfl,rfl⟩;show s.pl.l.map _=(c2 (s.pl.l.map aJ.bl)).l.map _;rw[fb,wM]
theorem Jh (s:bd) :eK s (hY s):=by refine⟨rfl,rfl,?_,rfl,rfl⟩;show s.pl.l.map _=(c2 s.pl.l).l.map _;rw[fb]
theorem xk:∀ (n:Nat) (s:bd) (r:List aA) (out:List dR),fB n s r out=((fB n s r []).1,out++(fB n s r []).2)
 | 0,s,r,out=>by show (s,out)=(s,out++[]);rw[eJ]
 | n+1,s,r,out=>by
  by_cases h:r=[]
  ·subst h;rw[sF,sF];simp
  ·rw[rh n s out h,rh n s [] h];split
   ·rw[xk n _ _ (out++_),xk n _ _ ([]++_)];simp
   ·rw[xk n _ _ (out++_),xk n _ _ ([]++_)];simp
theorem Un {s:bd} {j:cR} (h:fj j=true) (h1:eI s j=1) :fY s j=fB (1+s.pl.l.length) (fv s) [fX j] []:=by
 have m:=Cz (s:=s) h h1;have e:gD [fX j] (fX j)=[]:=by unfold gD;simp
 have g:cN [fX j]=fX j:=rfl;have o:(fv s).pl.l=s.pl.l:=fb _;rw[rJ,rh _ _ _ V,m,ai V,g,e,h2,o,xk];unfold fY g9;rw[ai (by rw[h1];decide),ak h1];rfl
theorem L9 {s:bd} (g:lR s) {j:cR} (u:j.aC=s.bH) :pw (fv s) [fX j]:=by have m:(fv s).pl.l=s.pl.l:=fb _;obtain⟨z,t⟩:=nV g.pen;obtain⟨v,q,w⟩:=(pK s.pl.l).1 t;refine⟨V,by rw[m];exact q.imp fun h e=>F,fun x p y o=>?_⟩;rw[fQ.1 p];rw[m] at o;have:=(g.kK y o).1;show j.aC≠y.aC;omega
theorem Xr {s:bd} (p:eF s) (g:lR s) {j:cR} (o:gQ j) (m:fj j=true) (h:j.aC=s.bH) (q:eI s j=1) :nu (jR s) [fX j]:=
 ⟨fv s,[fX j],Ah p g o m h q,L9 g h,Dp s,rfl⟩
theorem Up {s t:bd} (z:eF s) {j:cR} (v:gQ j) (u:e6 s j=0) (e:eK s t) :eK (fY s j).1 (kb t j).1/\(fY s j).2=(kb t j).2:=by
 obtain⟨m,o,p,B⟩:=zF u;have g:=YR e j;obtain⟨_,w⟩:=ss e.ay;by_cases h:eI s j=6
 ·unfold fY kb;rw[ak h,ak (by rw[<-g];exact h)];refine⟨⟨?_,e.bE,?_,by show s.bH+1=t.bH+1;rw[e.bH],e.ds⟩,rfl⟩
  ·show dY s.ay=dY (dY t.ay);rw[EX,e.ay]
  ·show (s.pl.l++[_]).map _=((t.pl.l.map aJ.bl).map aJ.bl++[_]).map _;rw[cV,cV,wM,wM,e.pl,w];rfl
 ·by_cases h1:eI s j=1
  ·have q:kb t j=ih (1+t.pl.l.length) (jR t) [fX j] []:=by
    unfold kb;rw[ai (by rw[<-g,h1];decide),ak (by rw[<-g];exact h1)]
   rw[Un o h1,q,hA e.pl];exact D8 _ _ _ _ _ _ (Ah z m v o p h1) (L9 m p) ((Ji e).trans (Dp t)) rfl
  ·unfold fY kb;rw[ai h,ai h1,ai (by rw[<-g];exact h),ai (by rw[<-g];exact h1),<-g];exact⟨(Ji e).trans (Dp t),rfl⟩
theorem Yi {l:List aA} (h:fr l) :fr (l.map aJ.bl):=Dv h (wM l).symm
open cl aJ
noncomputable def q8 (s:bd) (j:cR) :bd:=if e6 s j=0 then (kb s j).1 else jO
noncomputable def q7 (s:bd) (j:cR) :List dR:=if e6 s j=0 then (kb s j).2 else []
theorem Sr (j:cR) :aO (fX j)=.i6 j.aC::(aw j.op++(ao j.id++[.ad])):=rfl
theorem Qb (s:bd) (z:eF s) (j:cR) (o:gQ j) :aU 19 [.af (bz s),.af (dG j)] (.aX [.af (bz (q8 s j)),iR (m7 (q7 s j)),.i6 (e6 s j)]):=by
 apply a2 func19 [cT 0 11++[[11,5,3,1]],cT 0 8++[[8,7,5,2]]];have ck:=du;have aY:=fe s;have J:=nK o;have aG:=yG s z;have bk:=VI j o;have bad:e6 s j≠0->∀ l:ae,Rd l (.aX [.af [.i6 0,.ad,.ad,.i6 0,.ad,.i6 0,.ad,.i6 0,.bool false],.ad,.i6 (e6 s j)]) (.aX [.af (bz (q8 s j)),iR (m7 (q7 s j)),.i6 (e6 s j)]):=fun h l=>by
  unfold q8 q7;rw[ai h,ai h];exact aF
 have W:e6 s j=if eg s=0 then (if fj j then (if j.aC=s.bH then (if s.bH=1000000000 then 18 else 0) else 32) else 8) else 8:=rfl
 obtain⟨cf,bc⟩:=al (bz s);obtain⟨L,a8⟩:=al (dG j);rw[<-bc] at aY aG ⊢;rw[<-a8] at J bk ⊢;obtain⟨C,aL,cC,cz,cw,cA,cv,ct,cr,cx,b1,cB,aV,cu,cs,cy,aM⟩:=aY;obtain⟨p,R,cm,ag,jg,cl,cn,br,bs⟩:=J;simp[C,aL,p];refine au aG (by simp[am,U.ar,aM]) ?_;by_cases h1:eg s=0
 ·simp[h1,p,br];refine au bk (by simp[am,U.ar,bs]) ?_;cases H:fj j with
  | false=>
   have g:e6 s j=8:=by rw[W,ak h1,H];rfl
   have:=bad (by rw[g];decide);rw[g] at this;simp;rw[g];exact this _
  | true=>
   simp[p,R,C,aV];by_cases u:j.aC=s.bH
   ·by_cases ax:s.bH=1000000000
    ·have g:e6 s j=18:=by rw[W,ak h1,H,ak rfl,ak u,ak ax]
     have:=bad (by rw[g];decide);rw[g] at this;simp[u,ax,C,aV];rw[g];exact this _
    ·have g:e6 s j=0:=by rw[W,ak h1,H,ak rfl,ak u,ai ax]
     have V:=(m5 s).1 h1;have ci:=V.gM;have cj:=V.gN;have bW:q8 s j=(kb s j).1:=by unfold q8;rw[ak g]
     have bV:q7 s j=(kb s j).2:=by unfold q7;rw[ak g]
     rw[bW,bV,g];have aR:=B9 s z;have aK:=Qg s z j o;rw[<-bc] at aR aK;rw[<-a8] at aK;have bC:IntKind.i64.wrap (s.bH+1)=s.bH+1:=by rw[IntKind.wrap_i64];omega
     have aZ:=fe (gq s);have aS:av (bz (gq s)) 7 [.i6 (s.bH+1)]=bz (jR s):=rfl;have bR:(gq s).bH=s.bH:=rfl;obtain⟨nv,bI⟩:=al (bz (gq s));rw[<-bI] at aZ aS aR;obtain⟨bw,cE,cW,cQ,cM,cS,cL,cJ,cH,cO,cN,cV,b2,cK,cI,cP,cF⟩:=aZ;have b3:av [U.i6 0,.ad,.ad,.i6 0,.ad,.i6 0,.ad,.i6 0,.bool false] 0 nv=nv:=cD (by rw[bw];rfl);have m:=bo o.id;obtain⟨G,B⟩:=al (eI s j);rw[<-B] at aK;have aO:=uK (.int .u8 G);have ap:=uL (.int .u8 G) m;have aq:=uM (.int .u8 G) m;have aP:∀ w,di ⟨j.aC,w,j.id⟩=.i6 j.aC::.int .u8 w::ao j.id:=fun _=>rfl
     have bm:=Sr j;obtain⟨I,a7⟩:=al (ao j.id);rw[<-a7] at jg m ap aq aP bm;have ch:I.take 32=I:=aI F;have a0:=fe (jR s);have bX:(jR s).bE=s.bE:=rfl;have bY:(jR s).pl=c2 (s.pl.l.map aJ.bl):=rfl;have bj:=hN (jR s);obtain⟨mB,aE⟩:=al (bz (jR s));rw[<-aE] at a0 bj aS;obtain⟨T,bx,cX,aW,_⟩:=a0;rw[bX,bY] at aW;have b4:av [U.i6 0,.ad,.ad,.i6 0,.ad,.i6 0,.ad,.i6 0,.bool false] 0 mB=mB:=cD (by rw[T];rfl);simp[u,ax,C,aL,aV];refine au aR (by simp[am,U.ar,aM]) ?_;simp[bw,b3,b2,bR,bC,aS,p,br,C,aL];refine au aK (by simp[am,U.ar,aM,bs]) ?_;have bv:∀ (l:ae) (b:Nat) (w:Int),l[b]?=some (.q 34 (.i6 j.aC::.int .u8 w::I))->aH 34 l (.Z 34 b 0 1 1 34) b ([(⟨j.aC,w,j.id⟩:dR)].map di):=fun l b w bJ=>
      .Z b 1 1 34 _ _ bJ (by simp[m]) rfl (by simp[aP,m]) F F (by simp[aP,m,aI])
     have a4:∀ (l:ae) (ah:bd) (w:U) (b:Nat) (S:List dR),aH 34 l w b (S.map di)->bq w=S.isEmpty->Rd l (.aX [.af (bz ah),w,.i6 0]) (.aX [.af (bz ah),iR (m7 S),.i6 0]):=fun l ah w b S bS bQ=>
      xi (.same _ (hN ah)) (bS.q.gP tI (m7 S) (by rw[bQ,L2]) (AG S)) (.same _ rfl)
     by_cases v:G=6
     ·have bn:=B7 s.ay.az z.ay.az (by have:=z.ay.no;omega) j.op o.op;have Y:=VW s.bE (c2 (s.pl.l.map aJ.bl)) (by rw[fb];exact Yi z.pl) (by rw[fb,ce];exact z.len) j.aC j.op o.op (eC (da s.ay.az.l j.op)) (wF o.op) (C4 o.op);have bp:dB s.bE (c2 (s.pl.l.map aJ.bl)).l j.aC j.op (eC (da s.ay.az.l j.op)).l=0:=by rw[fb,kj,Vp];exact DP V H u (by rw[<-B];exact v)
      rw[Vt,ak bp,ak bp,fb] at Y;obtain⟨Q,bb⟩:=al (some ((s.pl.l.map aJ.bl).map aJ.bl++[aJ.bl (⟨j.aC,j.op,bf j.op,eC (da s.ay.az.l j.op)⟩:aA)]));rw[<-bb] at Y;have X:kb s j=(xb s j,[⟨j.aC,6,j.id⟩]):=by unfold kb;rw[ak (by rw[<-B];exact v)]
      rw[X];have bK:am (bt s.bE (c2 (s.pl.l.map aJ.bl)))=true:=by simp[bt,am,U.ar,fT]
      have K:=dt j.op;have bT:=bO s.ay.az;have bN:=bO (eC (da s.ay.az.l j.op));have bD:bt s.bE Q=[.i6 s.bE,cg Q]:=rfl;rw[bD] at Y;have aQ:av (bz (jR s)) 5 [.i6 s.bE,cg Q]=bz (xb s j):=by rw[bb];rfl
      have a1:=fe (xb s j);obtain⟨vD,bg⟩:=al (bz (xb s j));rw[<-aE] at aQ;rw[<-bg] at a1 aQ;obtain⟨bA,b5,_⟩:=a1;obtain⟨aj,aD⟩:=al (aw j.op);rw[<-aD] at bn Y K ag;have b7:av [U.i6 0,.ad,.ad,.i6 0,.ad,.i6 0,.ad,.i6 0,.bool false] 0 vD=vD:=cD (by rw[bA];rfl);simp[v,T,aW,p,R,ag,C,b1];refine au bn (by simp[am,U.ar,bT,K]) ?_;simp[v,T,aW,p,R,ag];refine au Y (by simp[am,U.ar,bK,K,bN]) ?_;rw[v] at aO ap aq;simp[T,aQ,bA,b5,b7,p,R,jg,en,aO,ap,aq,sK m,m,v];rw[bg];exact a4 _ _ _ 4 _ (bv _ 4 6 rfl) rfl
     ·by_cases aB:G=1
      ·have aT:eI s j=1:=by rw[<-B];exact aB
       have X:kb s j=ih (1+s.pl.l.length) (jR s) [fX j] []:=by unfold kb;rw[ai (by rw[aT];decide),ak aT]
       rw[X];obtain⟨cp,cq⟩:=nV V.pen;have bZ:h5 (fX j):=⟨o.op,o.id,fun y b0=>(jt b0).elim,eS _⟩
       have bU:(jR s).pl.l.length=s.pl.l.length:=by show (c2 _).l.length=_;rw[fb,ce]
       have P:=Qf (jR s) (fX j) bZ (Xr z V o H u aT) (N:=1+s.pl.l.length) (by rw[bU];omega) F;obtain⟨f,bM⟩:=al (ih (1+s.pl.l.length) (jR s) [fX j] []);rw[<-bM] at P ⊢;rw[<-aE,bm] at P;have K:=dt j.op;have a6:=cG j.id;rw[<-a7] at a6;obtain⟨aj,aD⟩:=al (aw j.op);have a9:aj.length=11:=by rw[aD];rfl
       rw[<-aD] at K ag P;have a3:=fe f.1;have bh:=hN f.1;have bi:(iR (m7 f.2)).ar=true:=pD tI _;obtain⟨FR,bF⟩:=al (bz f.1);obtain⟨cd,bG⟩:=al (iR (m7 f.2));rw[<-bF] at a3 bh P ⊢;rw[<-bG] at bi P ⊢;obtain⟨bB,b8,_⟩:=a3;have b9:av [U.i6 0,.ad,.ad,.i6 0,.ad,.i6 0,.ad,.i6 0,.bool false] 0 FR=FR:=cD (by rw[bB];rfl);obtain⟨ca,cb,cc,cY,_⟩:=Cr (t:=j.aC) (O:=aj) (D:=I) (x:=.ad) a9 m rfl;have bL:am (aj++(I++[U.ad]))=true:=by simp[B2,am,U.ar,K,a6]
       simp[aB,T,bx,p,R,ag,jg,m,a9,ca,cb,cc];refine au P (by simp[am,U.ar,bj,bL]) ?_;simp[bB,b8,b9];exact xi (.same _ bh) (.same _ bi) (.same _ rfl)
      ·have X:kb s j=(jR s,[⟨j.aC,G,j.id⟩]):=by unfold kb;rw[ai (by rw[<-B];exact v),ai (by rw[<-B];exact aB),B]
       rw[X];simp[v,aB,T,bx,b4,p,R,jg,en,aO,ap,aq,sK m,m];rw[aE];exact a4 _ _ _ 4 _ (bv _ 4 G rfl) rfl
   ·have g:e6 s j=32:=by rw[W,ak h1,H,ak rfl,ai u]
    have:=bad (by rw[g];decide);rw[g] at this;simp[u];rw[g];exact this _
 ·have g:e6 s j=8:=by rw[W,ai h1]
  have a5:eg s=8:=Az fun h=>h1 ((m5 s).2 h)
  have:=bad (by rw[g];decide);rw[g] at this;rw[a5] at aG;simp[a5,C,aL];refine au aG (by simp[am,U.ar,aM]) ?_;simp;rw[g];exact this _
open cl aJ
structure yb (s:bd) :Prop where
 ay:FZ s.ay
 pl:∀ t∈s.pl.l,vC t
theorem Yr {ts:List aG} {cs:ag} (h:jb prog (32::ts) cs) :∃ (s:bd) (cs' : ag),cs=.af (bz s) ::cs'/\yb s/\jb prog ts cs':=by
 obtain⟨c,cs',rfl,h1,B⟩:=E0 h;obtain⟨cs,rfl,g⟩:=Mj bn h1;have j:=n2 (fs:=[27,30,3,4]) bn g;have j:=n2 (fs:=[3,25,23]) bn j;obtain⟨n,_,rfl,_,_,C⟩:=na (k:=.i64) bn j;have D:=n2 (fs:=[22,23,3]) bn C;obtain⟨S,_,rfl,_,O,F⟩:=AQ (e:=70) (z:=2) (enc:=bb) (Q:=ya) bn bn (fun r m=>by
  obtain⟨x,_,rfl,o,g⟩:=Yw m;rw[u0 g,eJ];exact⟨x,rfl,o⟩) D
 obtain⟨i,_,rfl,I,G⟩:=xG F;obtain⟨T,_,rfl,_,_,H⟩:=na (k:=.i64) bn G;obtain⟨R,_,rfl,K,p⟩:=xG H;have q:=n2 (fs:=[3,28]) bn p;obtain⟨c,_,rfl,_,_,t⟩:=na (k:=.i64) bn q;obtain⟨l,_,rfl,_,J,u⟩:=AQ (e:=94) (z:=45) (enc:=aO) (Q:=vC) bn bn (fun r m=>by
  obtain⟨x,_,rfl,o,g⟩:=Yy m;rw[u0 g,eJ];exact⟨x,rfl,o⟩) t
 obtain⟨P,_,rfl,_,_,v⟩:=na (k:=.i64) bn u;obtain⟨b,_,rfl,w⟩:=Yv bn v;rw[u0 w];exact⟨⟨⟨n,⟨S,i,T⟩,R⟩,c,l,P,b⟩,cs',rfl,⟨⟨O,I,K⟩,J⟩,B⟩
structure vA (j:cR) :Prop where
 op:vB j.op
 id:j.id.length=32
theorem Yx {ts:List aG} {cs:ag} (h:c4 prog (59::ts) cs) :∃ (j:cR) (cs' : ag),cs=dG j++cs'/\vA j/\c4 prog ts cs':=by have h1:=n2 (fs:=[3,5,55,57]) bn h;obtain⟨n,_,rfl,_,_,g⟩:=na (k:=.i64) bn h1;obtain⟨v,_,rfl,p⟩:=E5 g;obtain⟨u,_,rfl,q,m⟩:=E3 p;obtain⟨x,cs',rfl,t,o⟩:=E2 m;exact⟨⟨n,v,u,x⟩,cs',by simp[dG,ao],⟨q,t⟩,o⟩
theorem Yp {ts:List aG} {cs:ag} (h:jb prog (59::ts) cs) :∃ (j:cR) (cs' : ag),cs=.af (dG j) ::cs'/\vA j/\jb prog ts cs':=by obtain⟨c,cs',rfl,h1,g⟩:=E0 h;obtain⟨cs,rfl,m⟩:=Mj bn h1;obtain⟨j,_,rfl,p,o⟩:=Yx m;rw[u0 o,eJ];exact⟨j,cs',rfl,p,g⟩
theorem Uw {j:cR} (h:vA j) (g:l5 j.op=false) :gQ j:=by unfold l5 at g;simp only[qm,decide_eq_false_iff_not] at g;exact⟨⟨h.op.idsZ,F,⟨h.op.gN,h.op.q2,F⟩,F⟩,h.id⟩
def Ao (a b:bd) :Bool:=kW a.ay b.ay&&((decide (a.bE=b.bE)&&lC a.pl.l b.pl.l)&&(decide (a.bH=b.bH)&&decide (a.ds=b.ds)))
theorem Ap {a b:bd}:Ao a b=true<->eK a b:=by unfold Ao;simp only[bU,bK];rw[o5,W6];exact⟨fun ⟨h1,⟨g,h⟩,j,m⟩=>⟨h1,g,h,j,m⟩,fun ⟨h1,g,h,j,m⟩=>⟨h1,⟨g,h⟩,j,m⟩⟩
theorem yH (a b:bd) (g:eF a) (m:eF b) :aU 14 [.af (bz a),.af (bz b)] (.bool (Ao a b)):=by
 apply a2 func14 [];have J:=V4 a.ay b.ay g.ay.aD.w m.ay.aD.w g.ay.az m.ay.az (by have:=g.ay.no;omega);have I:=V2 a.bE b.bE a.pl b.pl g.pl m.pl (by have:=g.len;omega);have o:=fe a;have p:=fe b;have C:=g7 a.ay;have D:=g7 b.ay;have G:am (bt a.bE a.pl)=true:=by simp[bt,am,U.ar,fT]
 have H:am (bt b.bE b.pl)=true:=by simp[bt,am,U.ar,fT]
 have F:Ao a b=(kW a.ay b.ay&&((decide (a.bE=b.bE)&&lC a.pl.l b.pl.l)&&(decide (a.bH=b.bH)&&decide (a.ds=b.ds)))):=rfl;obtain⟨T,v⟩:=al (bz a);obtain⟨V,z⟩:=al (bz b);rw[<-v] at o ⊢;rw[<-z] at p ⊢;obtain⟨h,X,P,O,aj,aq,ai,ah,ae,ao,ak,av,t,K,ag,ap,Y⟩:=o;obtain⟨j,aw,S,R,aG,aK,aE,aC,aA,aI,aH,aL,u,Q,aB,aJ,ax⟩:=p;simp[h,P,j,S];refine au J (by simp[am,U.ar,C,D]) ?_;rw[F];cases h1:kW a.ay b.ay with
 | false=>
  simp;exact aF
 | true=>
  simp[h,O,j,R];refine au I (by simp[am,U.ar,G,H]) ?_;cases W:(decide (a.bE=b.bE)&&lC a.pl.l b.pl.l) with
  | false=>
   simp;exact aF
  | true=>
   by_cases q:a.bH=b.bH
   ·have B:∀ x y:Bool,ea prog .eql 4 (.bool x) (.bool y)=some (.bool (decide (x=y))):=by
     intro x y;cases x<;>cases y<;>kernel_rfl
    simp[h,t,j,u,q,K,Q,B];exact aF
   ·simp[h,t,j,u,q];exact aF
end Op
end Go.bh

/-
  A store takes an operation, in the program, walked (the walk). (no i6)
-/
import Derived.Test.YtdjbnhgdhambnaaGreatDoorVl
import Derived.Test.YtdjbnhgdhambnaaGreatDoorRows
import Derived.Shelf.SlSortCmp.WholeK
import Derived.Shelf.SlGeneric
set_option maxHeartbeats 16000000
set_option maxRecDepth 100000
set_option linter.unusedVariables false
set_option linter.unusedSimpArgs false
set_option linter.unnecessarySimpa false
namespace Go.bh
open Go Go.Proofs Go.Proofs.Tryz
namespace Op
open cl
theorem YY (s:cW) (v:hK s) (h:gJ s) (o:aK) (t:dk o) :aU 102 [.af (bw s),.af (aw o)] (.int .i64 (eh o)):=by apply a2 func102 [];have w:(bw s).length=5:=rfl;have q:(bw s).take 5=bw s:=rfl;have p:=g7 s;have j:(aw o).length=11:=rfl;have m:(aw o).take 11=aw o:=rfl;have u:=dt o;have g:=Le s v;rw[(sQ s).2 h] at g;have z:=xK o t;simp[w,q,j];refine au g (by simp[am,U.ar,p]) ?_;simp[j,m];refine au z (by simp[am,U.ar,u]) ?_;simp;exact aF
theorem LJ (s:cW) (u:hK s) (h:gJ s) (o:aK) (W:dk o) (ak:eh o=0) (aT:ix s o=1) :
  aU 55 [.af (bw s),.af (aw o)] (.aX [.af (bw (nS s (bf o) o)),.int .u8 1,.int .i64 0]):=by
 apply a2 func55 [cT 0 5++[[6],[5,0]]];have bx:=du;obtain⟨bT,bU,bW⟩:=CX h aT;have a0:=mK o;have b8:=u.no;have T:=YY s u h o W;rw[ak] at T;have I:=u2 o W;rw[sV ak] at I;have bs:eo (bf o)=.af (ao (bf o)):=rfl;rw[bs] at I;have v:=YU o W (bf o) a0 s.az u.az F s.cap s.aD.bN (dn s.aD.aj) (ah s.aD.bI) (kC _) (bO _);change aU _ [.af (bw s),.af (aw o),.af (ao (bf o))] (.int .u8 (ix s o)) at v;rw[aT] at v;have Y:=XM s.aD u.aD h.aD o W ak bW bT bU;have P:(bw s).length=5:=rfl;have R:(bw s).take 5=bw s:=rfl;have ai:=g7 s;have aM:(bw s).tail.take 3=bG s.aD:=rfl;have bp:((bw s).drop 1).take 3=bG s.aD:=rfl;have bn:=mG s.aD;have K:(aw o).length=11:=rfl;have G:(aw o).take 11=aw o:=rfl;have J:=dt o;have z:=bo a0;have a3:=cG (bf o);obtain⟨X,aO⟩:=al (ao (bf o));rw[<-aO] at I v Y z a3;have aP:X.take 32=X:=aI F;have aZ:av (bZ 32 (.int .u8 0)) 0 X=X:=cD (by rw[z];rfl);obtain⟨O,bk⟩:=al (aw o);obtain⟨S,aJ⟩:=al (bw s);rw[<-bk] at K G J T I v Y ⊢;rw[<-aJ] at P R ai bp aM T v ⊢;obtain⟨Q,aE⟩:=al (fu s.aD (bf o) o);rw[<-aE] at Y;have aF:(bG Q).length=3:=rfl;simp[P,R,K,G];refine au T (by simp[am,U.ar,ai,J]) ?_;simp[K,G];refine au I (by simp[am,U.ar,J]) ?_;simp[P,R,K,G,aZ,z,aP];refine au v (by simp[am,U.ar,ai,J,a3]) ?_;simp[P,R];refine XZ s u aJ fun ay w m g H bv ca b7 bl cb=>?_
 have bd:g[0]?=some (.cells 5 S):=by rw[H.2 0 V];rfl
 have aC:g[1]?=some (.cells 11 O):=by rw[H.2 1 V];rfl
 have bg:g[2]?=some (.cells 5 [.int .i64 0,.ad,.ad,.int .i64 0,.ad]):=by rw[H.2 2 V];rfl
 have bh:g[3]?=some (.cells 32 X):=by rw[H.2 3 V];rfl
 have ge:4<=g.length:=by have:=H.1;simpa using this
 have C:∀ (m:ae) (c:Nat) (b:aq),g[c]?=some b->(g++m)[c]?=some b:=fun m c b aQ=>by rw[aV (a1 aQ)];exact aQ
 have a6:∀ (m:ae) (h:0<(g++m).length),(g++m)[0]'h=.cells 5 S:=fun m h=>(aL.1 (C m 0 _ bd)).2
 have bX:∀ (m:ae) (h:1<(g++m).length),(g++m)[1]'h=.cells 11 O:=fun m h=>(aL.1 (C m 1 _ aC)).2
 have bF:∀ y∈s.az.l,(ao y).length=32:=fun y bE=>bo (u.az y bE)
 obtain⟨b,br,aR,b3,b4⟩:=bv.own bF;have cc:=bl.cells;simp[av,C _ _ _ aC,a6,P,aM,K,G];refine au Y (by simp[am,U.ar,bn,J]) ?_;have aG:(bG Q).take 3=bG Q:=rfl;have bA:av [U.ad,.ad,.int .i64 0] 0 (bG Q)=bG Q:=cD rfl;simp[C _ _ _ bh,aF,aG,bA,z,aP,aZ];obtain⟨t,p⟩:=al (g++[aq.cells 5 [U.int .i64 s.cap,ay,ah s.aD.bI,U.int .i64 s.aD.bN,w],aq.cells 3 (bG Q),aq.cells 32 X,aq.cells 32 X]);have aS:w=.ad\/b<g.length:=aR.lt;have b1:6<=b:=by simpa using br
 have bQ:aH 32 t w b (s.az.l.map ao):=by rw[p];exact aR.more _
 have bL:t[g.length]?=some (aq.cells 5 [U.int .i64 s.cap,ay,ah s.aD.bI,U.int .i64 s.aD.bN,w]):=by rw[p];simp
 have bJ:t[g.length+1]?=some (aq.cells 3 (bG Q)):=by rw[p];simp
 have bH:t[2]?=some (.cells 5 [.int .i64 0,.ad,.ad,.int .i64 0,.ad]):=by rw[p];exact C _ _ _ bg
 obtain⟨B,ax,D,a7,aB,b0,a8,a9,bb⟩:=io (by_:=32) (x:=.Z 32 (g.length+3) 0 1 1 32) (xs:=[X]) bQ (by rw[p];simp[cq,z,aI]) (by simp[z]) F F (by rw[bx];simp;omega);have ap:bq B=false:=by rw[bb];simp
 have bD:B≠.ad:=fun e=>by rw[e] at ap;cases ap
 have b2:t.length=g.length+4:=by rw[p];simp
 have ag:∀ (c:Nat) (q:aq),(c=2\/g.length<=c)->t[c]?=some q->D[c]?=some q:=fun c q b5 aY=>by
  rw[a8 _ (a1 aY) (by rcases aS with r | r;exact .inl r;exact .inr F)];exact aY
 have a5:=ag _ _ (.inr (aN _)) bL;have bK:=ag _ _ (.inr F) bJ;have a4:=ag _ _ (.inl rfl) bH;have aW:ax≠g.length/\ax≠2:=by
  rcases a9 with q | ⟨q1,cd⟩ | q
  ·exact⟨F,F⟩
  ·have:=aS.resolve_left q1;exact⟨F,F⟩
  ·exact bV q bD
 rw[<-p];simp[a7];refine bR.bm ?_;have dU:=aB.cells;have bM:∀ c:aq,(D.set g.length c)[g.length]?=some c:=fun c=>bY (a1 a5)
 have t3:∀ c:aq,(D.set g.length c)[2]?=some (.cells 5 [.int .i64 0,.ad,.ad,.int .i64 0,.ad]):=fun c=>by rw[bj F];exact a4
 have t4:∀ c d:aq,((D.set g.length c).set 2 d)[2]?=some d:=fun c d=>bY (by simpa using a1 a4)
 have bB:av [ay,ah s.aD.bI,U.int .i64 s.aD.bN,w] 0 (bG Q)=[dn Q.aj,ah Q.bI,U.int .i64 Q.bN,w]:=rfl;have b9:∀ a b c d:U,av [a,b,c,d] 3 [B]=[a,b,c,B]:=fun _ _ _ _=>rfl
 have bC:∀ a b c d:U,av [U.ad,.ad,.int .i64 0,.ad] 0 [a,b,c,d]=[a,b,c,d]:=fun _ _ _ _=>rfl
 simp[a5,bK,dU,aF,aG,bB,bC,bM,t3,t4];have bt:nS s (bf o) o=⟨s.cap,⟨Q.aj,Q.bI,Q.bN⟩,some (s.az.l++[bf o])⟩:=by unfold nS;rw[<-aE]
 rw[bt];obtain⟨aA,bi⟩:=al (aq.cells 5 [U.int .i64 s.cap,dn Q.aj,ah Q.bI,U.int .i64 Q.bN,B]);have bS:aH 32 ((D.set g.length aA).set 2 aA) B ax ((s.az.l++[bf o]).map ao):=by
  rw[cV,dg,lK,<-aO];exact aB.cx (.inr (by rw[bj (fun e=>aW.2 e.symm),bj (fun e=>aW.1 e.symm)]))
 rw[<-bi];have bz:=bS.q.gP cG (some (s.az.l++[bf o])) ap rfl;refine .aX _ _ rfl fun i c bc h1 j=>?_
 rcases i with _ | _ | _ | i
 ·simp at h1 j;subst h1 j;refine .af _ _ rfl fun i c bc h1 j=>?_
  rcases i with _ | _ | _ | _ | _ | i
  ·simp[bw] at h1 j;subst h1 j;exact .same _ rfl
  ·simp[bw] at h1 j;subst h1 j;exact .same _ (kC _)
  ·simp[bw] at h1 j;subst h1 j;exact .same _ (bO _)
  ·simp[bw] at h1 j;subst h1 j;exact .same _ rfl
  ·simp[bw] at h1 j;subst h1 j;exact bz
  ·simp at h1
 ·simp at h1 j;subst h1 j;exact .same _ rfl
 ·simp at h1 j;subst h1 j;exact .same _ rfl
 ·simp at h1
end Op
end Go.bh
namespace Go.Proofs
open Go.Shelf
def Tryz.XC:Go.Shelf.Ren:=⟨fun | 6=>136 | 15=>201 | 14=>200 | 28=>243 | 29=>220 | 20=>235 | 21=>236 | 22=>237 | 23=>238 | 24=>239 | 25=>240 | 26=>241 | 27=>242 | 46=>267 | 47=>268 | 48=>269 | 49=>270 | 50=>271 | 57=>284 | n=>n,fun | 22=>23 | 24=>57 | 25=>197 | 3=>3 | 39=>259 | 0=>0 | 53=>46 | 55=>47 | 4=>4 | 46=>288 | 45=>287 | 50=>206 | 5=>5 | 9=>9 | 66=>314 | 70=>318 | 76=>330 | 77=>331 | n=>n,fun | n=>n⟩
theorem Tryz.XA:Go.Proofs.SlLaysF0.n6 Tryz.prog Tryz.XC where
 mixed:=by kernel_rfl
 f6:=⟨ "slices.SortFunc[[]braid/api.ID,braid/api.ID]",by decide,Tryz.func136.trans (congrArg some (by kernel_rfl))⟩
 f14:=⟨ "slices.pdqsortCmpFunc[braid/api.ID]",by decide,Tryz.func200.trans (congrArg some (by kernel_rfl))⟩
 f15:=Tryz.func201.trans (congrArg some (by kernel_rfl))
 f20:=⟨ "slices.insertionSortCmpFunc[braid/api.ID]",by decide,Tryz.func235.trans (congrArg some (by kernel_rfl))⟩
 f21:=⟨ "slices.heapSortCmpFunc[braid/api.ID]",by decide,Tryz.func236.trans (congrArg some (by kernel_rfl))⟩
 f22:=⟨ "slices.breakPatternsCmpFunc[braid/api.ID]",by decide,Tryz.func237.trans (congrArg some (by kernel_rfl))⟩
 f23:=⟨ "slices.choosePivotCmpFunc[braid/api.ID]",by decide,Tryz.func238.trans (congrArg some (by kernel_rfl))⟩
 f24:=⟨ "slices.reverseRangeCmpFunc[braid/api.ID]",by decide,Tryz.func239.trans (congrArg some (by kernel_rfl))⟩
 f25:=⟨ "slices.partialInsertionSortCmpFunc[braid/api.ID]",by decide,Tryz.func240.trans (congrArg some (by kernel_rfl))⟩
 f26:=⟨ "slices.partitionEqualCmpFunc[braid/api.ID]",by decide,Tryz.func241.trans (congrArg some (by kernel_rfl))⟩
 f27:=⟨ "slices.partitionCmpFunc[braid/api.ID]",by decide,Tryz.func242.trans (congrArg some (by kernel_rfl))⟩
 f28:=Tryz.func243.trans (congrArg some (by kernel_rfl))
 f29:=Tryz.func220.trans (congrArg some (by kernel_rfl))
 f46:=⟨ "slices.siftDownCmpFunc[braid/api.ID]",by decide,Tryz.func267.trans (congrArg some (by kernel_rfl))⟩
 f47:=Tryz.func268.trans (congrArg some (by kernel_rfl))
 f48:=Tryz.func269.trans (congrArg some (by kernel_rfl))
 f49:=⟨ "slices.medianAdjacentCmpFunc[braid/api.ID]",by decide,Tryz.func270.trans (congrArg some (by kernel_rfl))⟩
 f50:=⟨ "slices.medianCmpFunc[braid/api.ID]",by decide,Tryz.func271.trans (congrArg some (by kernel_rfl))⟩
 f57:=⟨ "slices.order2CmpFunc[braid/api.ID]",by decide,Tryz.func284.trans (congrArg some (by kernel_rfl))⟩
 t0:=Tryz.underlying0
 a0:=Tryz.isAgg0
 z0:=Tryz.sizeOf0
 v0:=Tryz.zeroValue0
 t3:=Tryz.underlying3
 a3:=Tryz.isAgg3
 z3:=Tryz.sizeOf3
 v3:=Tryz.zeroValue3
 t4:=Tryz.underlying4
 a4:=Tryz.isAgg4
 z4:=Tryz.sizeOf4
 v4:=Tryz.zeroValue4
 t5:=Tryz.underlying5
 a5:=Tryz.isAgg5
 z5:=Tryz.sizeOf5
 v5:=Tryz.zeroValue5
 t9:=Tryz.underlying9
 a9:=Tryz.isAgg9
 z9:=Tryz.sizeOf9
 v9:=Tryz.zeroValue9
 t22:=Tryz.underlying23
 a22:=Tryz.isAgg23
 z22:=Tryz.sizeOf23
 v22:=Tryz.zeroValue23
 t25:=Tryz.underlying197
 a25:=Tryz.isAgg197
 z25:=Tryz.sizeOf197
 v25:=Tryz.zeroValue197
 t39:=Tryz.underlying259
 a39:=Tryz.isAgg259
 z39:=Tryz.sizeOf259
 v39:=Tryz.zeroValue259
 t45:=Tryz.underlying287
 a45:=Tryz.isAgg287
 z45:=Tryz.sizeOf287
 v45:=Tryz.zeroValue287
 t46:=Tryz.underlying288
 a46:=Tryz.isAgg288
 z46:=Tryz.sizeOf288
 v46:=Tryz.zeroValue288
 t50:=Tryz.underlying206
 a50:=Tryz.isAgg206
 z50:=Tryz.sizeOf206
 v50:=Tryz.zeroValue206
 t53:=Tryz.underlying46
 a53:=Tryz.isAgg46
 z53:=Tryz.sizeOf46
 v53:=Tryz.zeroValue46
 t55:=Tryz.underlying47
 a55:=Tryz.isAgg47
 z55:=Tryz.sizeOf47
 v55:=Tryz.zeroValue47
 t66:=Tryz.underlying314
 a66:=Tryz.isAgg314
 z66:=Tryz.sizeOf314
 v66:=Tryz.zeroValue314
 t70:=Tryz.underlying318
 a70:=Tryz.isAgg318
 z70:=Tryz.sizeOf318
 v70:=Tryz.zeroValue318
 t76:=Tryz.underlying330
 a76:=Tryz.isAgg330
 z76:=Tryz.sizeOf330
 v76:=Tryz.zeroValue330
 t77:=Tryz.underlying331
 a77:=Tryz.isAgg331
 z77:=Tryz.sizeOf331
 v77:=Tryz.zeroValue331
end Go.Proofs
namespace Go.bh
open Go Go.Proofs Go.Proofs.Tryz Go.Sort Go.Shelf
open cl
abbrev qw:={l:List B // l.length=32}
instance:Inhabited qw:=⟨⟨List.replicate 32 0#8,V⟩⟩
def tO (x:qw) :ag:=x.1.map a7
def qK (x y:qw) :Int:=bP x.1 y.1
theorem L3:SWO (ltOf qK) where
 irrefl x:=EQ.irrefl x.1
 trans x y z:=EQ.trans x.1 y.1 z.1
 ntrans x y z:=EQ.ntrans x.1 y.1 z.1
theorem Ov (x y:qw) (h1:ltOf qK x y=false) (g:ltOf qK y x=false) :x=y:=Subtype.ext (Ow x.1 y.1 h1 g)
theorem Hv (x:qw) :(tO x).length=32:=by unfold tO;rw[ce,x.2]
theorem QD (x:qw) :∀ c∈tO x,uA c=true:=fun c g=>by obtain⟨b,_,rfl⟩:=cE.1 g;rfl
theorem XB {g:Nat} (j:∀ args w,(callFunc g args).run prog w=.ok (.enter g args) w) :BC prog 136 g 32 (fun x=>(tO x).map valOf) qK:=
 fun h q cap d w m hH hblk o=>
  AnyQ.slices_SortFunc Tryz.XA 32 (by intro w;exact Tryz.isAgg57 w) (by intro w;exact Tryz.sizeOf57 w) _ (fun x=>by rw[ce,Hv]) (fun x t p=>by obtain⟨c,_,rfl⟩:=cE.1 p;exact Fa c) qK L3 g #[] h q cap d w j m hH hblk o
end Go.bh
namespace Go.bh
open Go Go.Proofs Go.Proofs.Tryz
namespace Op
open cl
structure cR where
 aC:Int
 bX:B
 op:aK
 id:List B
def dG (j:cR) :ag:=.i6 j.aC::a7 j.bX::(aw j.op++ao j.id)
structure gQ (j:cR) :Prop where
 op:dk j.op
 id:j.id.length=32
theorem vU (j:cR) :am (dG j)=true:=by
 have h1:=dt j.op;have g:=cG j.id;have app:∀ a b:ag,am (a++b)=(am a&&am b):=fun a b=>by
  induction a with
  | nil=>simp[am]
  | cons x a h=>rw[iK];simp only[am,h,Fo]
 unfold dG;simp only[am,app,h1,g];rfl
structure ND (j:cR) (R:ag) :Prop where
 len:R.length=45
 aC:∀ h:0<R.length,R[0]'h=.i6 j.aC
 bX:∀ h:1<R.length,R[1]'h=a7 j.bX
 op:(R.drop 2).take 11=aw j.op
 id:(R.drop 13).take 32=ao j.id
 adx:R[0]?=some (.i6 j.aC)
 adI:R[1]?=some (a7 j.bX)
 t45:R.take 45=R
 ar:am R=true
theorem nK {j:cR} (h:gQ j) :ND j (dG j):=by
 have g:=bo h.id;have m:(dG j).length=45:=by unfold dG aw;simp[g]
 refine⟨m,fun _=>rfl,fun _=>rfl,?_,?_,rfl,rfl,aI F,vU j⟩
 ·unfold dG aw;simp
 ·unfold dG aw;simp[aI,g]
def k4:aK:=⟨0,none,0,⟨0,[],ph⟩,0,0⟩
def qi:List B:=List.replicate 32 0
theorem QE:ao qi=bZ 32 (.int .u8 0):=rfl
def pY (j:cR) :Bool:=gn j.op k4&&decide (j.id=qi)
def qb (n:Int) :Bool:=decide (0<=n)&&decide (n<=1000000000)
def fj (j:cR) :Bool:=qb j.aC&&(if j.bX=0 then decide (dd j.op=0)&&(decide (bf j.op=j.id)&&decide (eh j.op=0)) else (decide (j.bX=2)||(decide (j.bX=3)||decide (j.bX=4)))&&pY j)
theorem Vl (n:Int) :aU 148 [.i6 n] (.bool (qb n)):=by
 apply a2 func148 [];unfold qb;by_cases h1:0<=n
 ·by_cases g:n<=1000000000
  ·simp[h1,g];exact aP V rfl
  ·simp[h1,g];exact aP V rfl
 ·simp[h1];exact aP V rfl
theorem JZ (j:cR) (t:gQ j) :aU 203 [.af (dG j)] (.bool (pY j)):=by
 apply a2 func203 [];have w:=nK t;have v:=nJ t.id (b:=qi) (by rfl);rw[QE] at v;have p:bD (.Z 32) (ah j.op.ax)=_:=b9 _;have V:(aw j.op).length=11:=rfl;have H:=bo t.id;obtain⟨I,B⟩:=al (ao j.id);obtain⟨L,J⟩:=al (dG j);rw[<-J] at w ⊢;rw[<-B] at v H;obtain⟨F,rt,ak,S,C,aj,am,ag,ai⟩:=w;rw[<-B] at C;have Y:av [U.int .u32 0,.ad,.int .u64 0,.int .u8 0,.str [],.int .u8 0,.i6 0,.int .u64 0,.str [],.int .u32 0,.int .u32 0] 0 (aw j.op)=aw j.op:=cD rfl;have o:=yd j.op.act k4.act;have P:=Am j.op.e j.op.s 0 0;have O:pY j=(decide (j.op.eL=0)&&(decide (j.op.ax.l=[])&&(decide (j.op.e9=0)&&(dz (e4 j.op.act) (e4 k4.act)&&(decide (j.op.e=0)&&decide (j.op.s=0))))) &&decide (j.id=qi)):=rfl;rw[O];unfold e4 at o ⊢;have ae:∀ a:D,((u a:Int)=0)<->a=0:=fun a=>hZ a 0
 have X:((j.op.ax.l.length:Int)=0)<->j.op.ax.l=[]:=by rw[<-ho];omega
 have W:e4 k4.act=[a7 0,.str [],a7 0,.i6 0,c6 0,.str []]:=rfl;have K:(List.drop 13 L).take 32=I:=C;simp[F,S,aw,av];by_cases h1:j.op.eL=0
 ·by_cases g:j.op.ax.l=[]
  ·by_cases m:j.op.e9=0
   ·cases z:dz [a7 j.op.act.kind,.str j.op.act.key,a7 j.op.act.val.kind,.i6 j.op.act.val.num,c6 j.op.act.val.bits,.str j.op.act.val.text] [a7 k4.act.kind,.str k4.act.key,a7 k4.act.val.kind,.i6 k4.act.val.num,c6 k4.act.val.bits,.str k4.act.val.text] with
    | false=>
     rw[z] at o;have q:ea prog .eql 51 (.af [a7 j.op.act.kind,.str j.op.act.key,a7 j.op.act.val.kind,.i6 j.op.act.val.num,c6 j.op.act.val.bits,.str j.op.act.val.text]) (.af [.int .u8 0,.str [],.int .u8 0,.i6 0,.int .u64 0,.str []])=some (.bool false):=o;simp[h1,g,m,q,p];exact aF
    | true=>
     rw[z] at o;have q:ea prog .eql 51 (.af [a7 j.op.act.kind,.str j.op.act.key,a7 j.op.act.val.kind,.i6 j.op.act.val.num,c6 j.op.act.val.bits,.str j.op.act.val.text]) (.af [.int .u8 0,.str [],.int .u8 0,.i6 0,.int .u64 0,.str []])=some (.bool true):=o;have Q:ea prog .eql 53 (.af [bg j.op.e,bg j.op.s]) (.af [.int .u32 0,.int .u32 0])=some (.bool (decide (j.op.e=0)&&decide (j.op.s=0))):=P;simp[h1,g,m,q,Q,p];cases T:(decide (j.op.e=0)&&decide (j.op.s=0)) with
     | false=>
      simp;exact aF
     | true=>
      simp[K,F,v];exact aP (by simp[h1,g,m]) rfl
   ·have R:¬ (u j.op.e9:Int)=0:=fun h=>m ((hZ _ 0).1 h)
    rw[cu m];simp[h1,g,R,p];exact aF
  ·rw[cu g];simp[h1,g,p];exact aF
 ·have G:¬ (u j.op.eL:Int)=0:=fun h=>h1 ((hZ _ 0).1 h)
  rw[cu h1];simp[G];exact aF
theorem Cq {j:cR} (h:qb j.aC=false) :fj j=false:=by unfold fj;rw[h];rfl
theorem U6 (j:cR) (q:gQ j) :aU 144 [.af (dG j)] (.bool (fj j)):=by
 apply a2 func144 [];have J:=nK q;have aj:=Vl j.aC;have t:=JZ j q;have w:=u2 j.op q.op;have ah:eo (bf j.op)=.af (ao (bf j.op)):=rfl;rw[ah] at w;have Q:=xK j.op q.op;have R:=mK j.op;have z:=bo R;have heq:=nJ R q.id;have W:=bo q.id;have D:=dt j.op;have P:av (bZ 32 (.int .u8 0)) 0 (ao (bf j.op))=ao (bf j.op):=cD (by rw[z];rfl);have ap:(u j.bX:Int)=0<->j.bX=0:=hZ j.bX 0;have aq:(u j.bX:Int)=2<->j.bX=2:=hZ j.bX 2;have ax:(u j.bX:Int)=3<->j.bX=3:=hZ j.bX 3;have ay:(u j.bX:Int)=4<->j.bX=4:=hZ j.bX 4;obtain⟨aH,O⟩:=al (ao j.id);obtain⟨Y,ae⟩:=al (ao (bf j.op));obtain⟨L,X⟩:=al (dG j);obtain⟨T,C⟩:=al (aw j.op);have aJ:T.length=11:=by rw[C];rfl
 rw[<-C] at w Q D;rw[<-X] at J t ⊢;rw[<-O] at heq W;rw[<-ae] at heq z P w;obtain⟨m,rt,aG,I,S,aL,aM,G,H⟩:=J;rw[<-O] at S;rw[<-C] at I;have ag:Y.take 32=Y:=aI F;simp[m,rt];refine au aj rfl ?_;cases K:qb j.aC with
 | false=>
  simp;exact aP (by rw[Cq K]) rfl
 | true=>
  have p:fj j=(if j.bX=0 then decide (dd j.op=0)&&(decide (bf j.op=j.id)&&decide (eh j.op=0)) else (decide (j.bX=2)||(decide (j.bX=3)||decide (j.bX=4)))&&pY j):=by unfold fj;rw[K];rfl
  simp[m,aG];by_cases h1:j.bX=0
  ·simp[h1,m,I];refine au w (by simp[am,U.ar,D]) ?_;simp[z,P];by_cases g:dd j.op=0
   ·simp[g,z,ag,m,S,heq];cases o:decide (bf j.op=j.id) with
    | false=>
     simp;exact aP (by rw[p,ak h1,o];simp) rfl
    | true=>
     simp[m,I];refine au Q (by simp[am,U.ar,D]) ?_;simp;exact aP (by rw[p,ak h1,o,g];simp) rfl
   ·simp[g];exact aP (by rw[p,ak h1,cu g];simp) rfl
  ·have aK:∀ b:Bool,(b=true)->aU 203 [.af L] (.bool (pY j)):=fun _ _=>t
   have az:(u (2#8:B) :Int)=2:=rfl;have aA:(u (3#8:B) :Int)=3:=rfl;have aB:(u (4#8:B) :Int)=4:=rfl;have V:¬ (u j.bX:Int)=0:=fun h=>h1 (ap.1 h)
   simp[V];by_cases g:j.bX=2
   ·simp[g,az,m,G];refine au t (by simp[am,U.ar,H]) ?_;simp;exact aP (by rw[p,ai h1,b7 g];simp) rfl
   ·by_cases o:j.bX=3
    ·simp[o,aA,m,G];refine au t (by simp[am,U.ar,H]) ?_;simp;exact aP (by rw[p,ai h1,b7 o];simp) rfl
    ·by_cases v:j.bX=4
     ·simp[v,aB,m,G];refine au t (by simp[am,U.ar,H]) ?_;simp;exact aP (by rw[p,ai h1,b7 v];simp) rfl
     ·have aD:¬ (u j.bX:Int)=2:=fun h=>g (aq.1 h)
      have aE:¬ (u j.bX:Int)=3:=fun h=>o (ax.1 h)
      have aF:¬ (u j.bX:Int)=4:=fun h=>v (ay.1 h)
      simp[aD,aE,aF];exact aP (by rw[p,ai h1,cu g,cu o,cu v];rfl) rfl
def s4:cR:=⟨0,0,k4,qi⟩
theorem Fh:gQ s4:=⟨⟨fun _ h=>(jt h).elim,eS _,⟨by decide,by decide,eS _⟩,eS _⟩,rfl⟩
def gi:ag:=[.int .u8 0,.int .i64 0,.ad]++dG s4
theorem QB:gi=[U.int .u8 0,.int .i64 0,.ad,.int .i64 0,.int .u8 0,.int .u32 0,.ad,.int .u64 0,.int .u8 0,.str [],.int .u8 0,.int .i64 0,.int .u64 0,.str [],.int .u32 0,.int .u32 0]++bZ 32 (.int .u8 0):=rfl
theorem G1:am gi=true:=bn
theorem Ch:gi.length=48:=bn
theorem Vb:aU 145 [.af gi] (.aX [.int .i64 (-1),.bool true]):=by
 apply a2 func145 [cT 0 8++[[8,2]],cT 0 7++[[7,2]]];have m:=JZ s4 Fh;rw[show pY s4=true by kernel_rfl] at m;have j:=Ch;have w:gi[0]?=some (.int .u8 0):=rfl;have h1:gi[1]?=some (.int .i64 0):=rfl;have z:gi[2]?=some .ad:=rfl;have B:gi[3]?=some (.int .i64 0):=rfl;have C:gi[4]?=some (.int .u8 0):=rfl;have g:(gi.drop 3).take 45=dG s4:=bn;have o:∀ h,gi[0]'h=.int .u8 0:=fun _=>rfl
 have p:∀ h,gi[1]'h=.int .i64 0:=fun _=>rfl
 have q:∀ h,gi[2]'h=.ad:=fun _=>rfl
 have t:∀ h,gi[3]'h=.int .i64 0:=fun _=>rfl
 have u:∀ h,gi[4]'h=.int .u8 0:=fun _=>rfl
 obtain⟨F,hH⟩:=al (gi);rw[<-hH] at j w h1 z B C g ⊢;simp only[<-hH] at o p q t u;have v:=vU s4;obtain⟨G,D⟩:=al (dG s4);rw[<-D] at m g v;simp[j,g,p,q];refine au m (by simp[am,U.ar,v]) ?_;simp[j,o,t,u];exact aF
def lX (n:Int) :ag:=[.int .i64 n]
def zw (a b:Int) :Int:=if a<b then b else a
theorem Tf (a b:Int) :aU 147 [b4 1 lX (some [a,b])] (.int .i64 (zw a b)):=by
 apply a2 func147 [];have o:oU (U.int .i64 a) (U.int .i64 b)=some (.int .i64 (zw a b)):=by simp[oU,zw]
 simp[lX];refine bB 1 (fun k g l=>g 0=b4 1 lX (some [a,b])/\g 3=.int .i64 (if k=0 then a else zw a b)/\g 4=.int .i64 ((k+1:Nat) :Int)) ?_ ⟨V,V,V⟩;rintro k g l hk ⟨h,j,m⟩;obtain⟨g,rfl⟩:=gF h j m;clear h j m;rcases k with _ | _ | k
 ·simp[lX,o];rfl
 ·simp;exact aF
 ·omega
def Cj (j:cR) :ag:=[.int .i64 1,.ad,.bu 48 [gi],.bu 45 [dG j]]
structure NV (j:cR) (g:aq) (L:ag) (k:Nat) (sgZ:aS) (l:ae) :Prop where
 e5:sgZ 1=.ptr 0 0 4
 aaN:sgZ 48=.bu 45 [L]
 Ru:sgZ 49=.int .i64 1
 Rv:sgZ 50=.int .i64 k
 st:(k=0/\l=[g]/\sgZ 3=.ad)\/(k=1/\fj j=true/\∃ b v,1<=b/\sgZ 3=v/\l[0]?=some g/\aH 1 l v b [lX j.aC]/\bq v=false)
structure NW (j:cR) (g:aq) (h:ag) (k:Nat) (sgZ:aS) (l:ae) :Prop where
 e5:sgZ 1=.ptr 0 0 4
 aaS:sgZ 81=.bu 48 [h]
 aaT:sgZ 82=.int .i64 1
 aaU:sgZ 83=.int .i64 k
 st:∃ b v,1<=b/\sgZ 3=v/\l[0]?=some g/\aH 1 l v b ((if k=0 then [j.aC] else [j.aC,-1]).map lX)/\bq v=false
theorem U4 (j:cR) (ah:gQ j) :aU 95 [.af (Cj j)] (.int .i64 (if fj j then 0 else 8)):=by
 apply a2 func95 [];have ai:=du;have Y:=U6 j ah;have ag:=Vb;have X:=G1;have G:=Ch;obtain⟨L,T⟩:=al (dG j);have P:=nK ah;rw[<-T] at P Y;have aD:Cj j=[.int .i64 1,.ad,.bu 48 [gi],.bu 45 [L]]:=by rw[T];rfl
 rw[aD];obtain⟨H,hH⟩:=al (gi);rw[<-hH] at ag X G ⊢;obtain⟨J,rt,a6,a4,a3,a5,a7,aQ,aR⟩:=P;have aB:H.take 48=H:=aI F;have aM:av (U.int .i64 0::.int .u8 0::.int .u32 0::.ad::.int .u64 0::.int .u8 0::.str [] ::.int .u8 0::.int .i64 0::.int .u64 0::.str [] ::.int .u32 0::.int .u32 0::bZ 32 (.int .u8 0)) 0 L=L:=cD (by rw[J];rfl);have aL:av (U.int .u8 0::.int .i64 0::.ad::.int .i64 0::.int .u8 0::.int .u32 0::.ad::.int .u64 0::.int .u8 0::.str [] ::.int .u8 0::.int .i64 0::.int .u64 0::.str [] ::.int .u32 0::.int .u32 0::bZ 32 (.int .u8 0)) 0 H=H:=cD (by rw[G];rfl);simp;obtain⟨ao,B⟩:=al (aq.cells 4 [.int .i64 1,.ad,.bu 48 [H],.bu 45 [L]]);rw[<-B];refine bB 1 (NV j ao L) ?_ ⟨V,V,V,V,.inl ⟨rfl,rfl,V⟩⟩;rintro k g l hk ⟨m,u,v,w,⟨rfl,rfl,p⟩ | ⟨rfl,aH,b,K,W,p,q,C,t⟩⟩
 ·obtain⟨g,rfl⟩:=gu m p u v w;clear m p u v w;simp[J,aQ,aM,B];refine au Y (by simp[am,U.ar,aR]) ?_;cases h:fj j with
  | false=>
   simp;exact aF
  | true=>
   have D:∀ (o:ae) (c:Nat),o[c]?=some (.cells 1 [.int .i64 j.aC])->dZ o 1 8 .ad (.Z 1 c 0 1 1 1)=some (.Z 1 o.length 0 1 1 1,o++[.cells 1 [.int .i64 j.aC]]):=fun o c aE=>by
    have:=Oy (l:=o) (z:=1) (by_:=8) (xs:=[[U.int .i64 j.aC]]) (x:=.Z 1 c 0 1 1 1) (by simp[cq,aE]) F F V (by rw[ai];simp);simpa using this
   simp[J,rt,D];refine bR.bm ?_;simp;have O:IntKind.i64.wrap 1=1:=rfl;exact⟨V,V,V,by simp[O],.inr ⟨rfl,h,3,_,F,V,by simp[B],.Z _ 1 1 1 [.int .i64 j.aC] [lX j.aC] V V rfl (by simp[lX]) F F (by simp[lX]),rfl⟩⟩
 ·obtain⟨g,rfl⟩:=gu m p u v w;clear m p u v w;rw[B] at q;simp[q];obtain⟨aS,aW⟩:=al (l);refine bB 1 (NW j (.cells 4 [.int .i64 1,.ad,.bu 48 [H],.bu 45 [L]]) H) ?_ ⟨V,V,V,V,b,K,W,V,q,by simpa using C,t⟩;rintro k g l hk ⟨m,Q,R,S,b,K,W,p,q,C,t⟩;obtain⟨g,rfl⟩:=gu m p Q R S;clear m p Q R S;rcases k with _ | _ | k
  ·have FT:∀ o:ae,(l++o)[0]?=some (.cells 4 [.int .i64 1,.ad,.bu 48 [H],.bu 45 [L]]):=fun o=>by rw[aV (a1 q)];exact q
   simp[G,aB,aL];refine au ag (by simp[am,U.ar,X]) ?_;simp;obtain⟨ak,aO,a0,D,ap,aT,aw,ax,ay⟩:=io (by_:=8) (x:=.Z 1 (l.length+1) 0 1 1 1) (xs:=[lX (-1)]) (C.more [aq.cells 48 H,aq.cells 1 [U.int .i64 (-1)]]) (by simp[cq,lX]) (by simp[lX]) F F (by rw[ai];simp);simp[D];refine bR.bm ?_;simp;have O:IntKind.i64.wrap 1=1:=rfl;have aZ:K≠.ad:=fun e=>by rw[e] at t;cases t
   have I:bq ak=false:=by rw[ay,t];rfl
   refine⟨V,V,V,by simp[O],aO,ak,?_,V,?_,by simpa using ap,I⟩
   ·rcases ax with e | ⟨_,e⟩ | e
    ·simp at e;omega
    ·omega
    ·rw[e] at I;cases I
   ·rw[aw 0 V (.inr F)];exact FT _
  ·simp;refine JJ (some [j.aC,-1]) C t rfl fun aj aY aG=>?_
   refine au (Tf j.aC (-1)) (by simp[am,r1,b4,lX,U.ar]) ?_;have aK:aj[0]?=some (.cells 4 [.int .i64 1,.ad,.bu 48 [H],.bu 45 [L]]):=by rw[aG 0 (.inr F)];exact q
   simp[aK];have aJ:=aH;refine bB 0 (fun k g l=>l=aj/\g 1=.ptr 0 0 4/\g 112=.int .i64 0/\g 113=.int .i64 0) ?_ ⟨rfl,V,V,V⟩;rintro k g l hk ⟨rfl,m,az,aA⟩;obtain⟨g,rfl⟩:=gF m az aA;simp;exact aP (by simp[aJ]) rfl
  ·omega
theorem Q9 (j:cR) (v:gQ j) :aU 51 [.af (dG j)] (.bool (fj j)):=by
 apply a2 func51 [];have O:=du;have o:=U4 j v;have u:=nK v;have H:=G1;have q:=Ch;unfold Cj at o;have hH:=QB;obtain⟨L,G⟩:=al (dG j);rw[<-G] at u o ⊢;obtain⟨m,rt,aj,ah,ag,ai,ak,z,T⟩:=u;have J:l6 48 200 (U.int .u8 0::.int .i64 0::.ad::.int .i64 0::.int .u8 0::.int .u32 0::.ad::.int .u64 0::.int .u8 0::.str [] ::.int .u8 0::.int .i64 0::.int .u64 0::.str [] ::.int .u32 0::.int .u32 0::bZ 32 (.int .u8 0)) [aq.cells 45 L] (U.int .i64 1) (U.int .i64 1)=some (.Z 48 1 0 1 1 48,[aq.cells 45 L,.cells 48 gi]):=by
  show l6 48 200 gi _ _ _=_;simp[l6,O,cQ]
 have Y:av (U.int .i64 0::.int .u8 0::.int .u32 0::.ad::.int .u64 0::.int .u8 0::.str [] ::.int .u8 0::.int .i64 0::.int .u64 0::.str [] ::.int .u32 0::.int .u32 0::bZ 32 (.int .u8 0)) 0 L=L:=cD (by rw[m];rfl);have I:List.drop 32 (bZ 32 (U.int .u8 0))=[]:=rfl;simp[m,z,J,I,en,av];have D:∀ t:ae,∀ K:cB,K (.int .i64 (if fj j then 0 else 8)) t->cM 95 [.af [.int .i64 1,.ad,.bu 48 [gi],.bu 45 [L]]] t K:=fun t K hk=>
  au o (by simp[am,r1,U.ar,H,T]) hk
 obtain⟨w,p⟩:=al ([aq.cells 45 L,.cells 48 gi,.cells 45 L,.cells 4 [.int .i64 1,.ad,.Z 48 1 0 1 1 48,.Z 45 2 0 1 1 45]]);have P:aH 48 w (.Z 48 1 0 1 1 48) 1 [gi]:=.Z _ 1 1 48 gi [gi] (by rw[p];rfl) q rfl (by simp[q]) F F (by simp[aI,q]);obtain⟨W,R⟩:=uy P rfl;have Q:aH 45 (w.set 1 .dead) (.Z 45 2 0 1 1 45) 2 [L]:=.Z _ 1 1 45 L [L] (by rw[p];rfl) m rfl (by simp[m]) F F (by simp[z]);obtain⟨X,S⟩:=uy Q rfl;rw[<-p];refine tD checked.mixed eD (args2:=[.af [.int .i64 1,.ad,.bu 48 [gi],.Z 45 2 0 1 1 45]]) W V rfl (fun i c C h1 g=>?_) (tD checked.mixed eD (args2:=[.af [.int .i64 1,.ad,.bu 48 [gi],.bu 45 [L]]]) X V rfl (fun i c C h1 g=>?_) (D _ _ ?_))
 ·obtain⟨rfl,rfl⟩:=oJ h1;obtain⟨_,rfl⟩:=oJ g;refine .af _ _ rfl fun i c B h1 g=>?_
  rcases i with _ | _ | _ | _ | i
  ·simp at h1 g;subst h1 g;exact .same _
  ·simp at h1 g;subst h1 g;exact .same _
  ·simp at h1 g;subst h1 g;exact R
  ·simp at h1 g;subst h1 g;exact .same _
  ·simp at h1
 ·obtain⟨rfl,rfl⟩:=oJ h1;obtain⟨_,rfl⟩:=oJ g;refine .af _ _ rfl fun i c B h1 g=>?_
  rcases i with _ | _ | _ | _ | i
  ·simp at h1 g;subst h1 g;exact .same _
  ·simp at h1 g;subst h1 g;exact .same _
  ·simp at h1 g;subst h1 g;exact .same _
  ·simp at h1 g;subst h1 g;exact S
  ·simp at h1
 ·cases h:fj j with
  | false=>
   simp;exact aF
  | true=>
   simp;exact aF
def An (a b:cR) :Bool:=decide (a.aC=b.aC)&&(decide (a.bX=b.bX)&&(decide (a.id=b.id)&&gn a.op b.op))
theorem V1 (a b:cR) (q:gQ a) (t:gQ b) :aU 111 [.af (dG a),.af (dG b)] (.bool (An a b)):=by
 apply a2 func111 [];have G:=z6 a.op b.op q.op t.op;have heq:=nJ q.id t.id;have D:=dt a.op;have F:=dt b.op;have v:=nK q;have w:=nK t;have j:An a b=(decide (a.aC=b.aC)&&(decide (a.bX=b.bX)&&(decide (a.id=b.id)&&gn a.op b.op))):=rfl;obtain⟨L,P⟩:=al (dG a);obtain⟨M,R⟩:=al (dG b);obtain⟨V,o⟩:=al (aw a.op);obtain⟨Q,p⟩:=al (aw b.op);obtain⟨T,B⟩:=al (ao a.id);obtain⟨J,C⟩:=al (ao b.id);rw[<-P] at v ⊢;rw[<-R] at w ⊢;rw[<-o,<-p] at G;rw[<-o] at D;rw[<-p] at F;rw[<-B,<-C] at heq;obtain⟨m,rt,S,I,H,ae,ag,X,Y⟩:=v;obtain⟨Z,st,jm,O,K,ai,aj,ah,sc⟩:=w;rw[<-B] at H;rw[<-C] at K;rw[<-o] at I;rw[<-p] at O;simp[m,rt,Z,st];by_cases h1:a.aC=b.aC
 ·simp[h1,m,S,Z,jm];by_cases g:a.bX=b.bX
  ·simp[g,m,H,Z,K,heq];cases z:decide (a.id=b.id) with
   | false=>
    simp;exact aP (by rw[j,z];simp) rfl
   | true=>
    simp[m,I,Z,O];refine au G (by simp[am,U.ar,D,F]) ?_;simp;exact aP (by rw[j,z,b7 h1,b7 g];simp) rfl
  ·have W:¬ (u a.bX:Int)=u b.bX:=fun h=>g ((hZ _ _).1 h)
   simp[g];exact aP (by rw[j,cu g];simp) rfl
 ·simp[h1];exact aP (by rw[j,cu h1];simp) rfl
theorem VI (j:cR) (z:gQ j) :aU 57 [.af (dG j)] (.bool (fj j)):=by
 apply a2 func57 [];have V:=nK z;have C:=DV j.op z.op;have aG:eo (bf j.op)=.af (ao (bf j.op)):=rfl;rw[aG] at C;have ap:=z8 j.op z.op;have aq:=mK j.op;have D:=bo aq;have heq:=nJ aq z.id;have aA:=bo z.id;have P:=dt j.op;have ae:av (bZ 32 (.int .u8 0)) 0 (ao (bf j.op))=ao (bf j.op):=cD (by rw[D];rfl);have ag:(u j.bX:Int)=0<->j.bX=0:=hZ j.bX 0;have ah:(u j.bX:Int)=2<->j.bX=2:=hZ j.bX 2;have aj:(u j.bX:Int)=3<->j.bX=3:=hZ j.bX 3;have Q:(u j.bX:Int)=4<->j.bX=4:=hZ j.bX 4;have o:=V1 j ⟨j.aC,j.bX,k4,qi⟩ z ⟨Fh.op,Fh.id⟩;have aH:An j ⟨j.aC,j.bX,k4,qi⟩=pY j:=by
  unfold An pY;simp[Bool.and_comm]
 rw[aH] at o;have aF:dG ⟨j.aC,j.bX,k4,qi⟩=.i6 j.aC::a7 j.bX::.int .u32 0::.ad::.int .u64 0::.int .u8 0::.str [] ::.int .u8 0::.i6 0::.int .u64 0::.str [] ::.int .u32 0::.int .u32 0::bZ 32 (.int .u8 0):=rfl;have q:=vU ⟨j.aC,j.bX,k4,qi⟩;rw[aF] at o q;obtain⟨aJ,W⟩:=al (ao j.id);obtain⟨Y,aD⟩:=al (ao (bf j.op));obtain⟨L,aB⟩:=al (dG j);obtain⟨ay,K⟩:=al (aw j.op);have aK:ay.length=11:=by rw[K];rfl
 rw[<-K] at C ap P;rw[<-aB] at V o ⊢;rw[<-W] at heq aA;rw[<-aD] at heq D ae C;obtain⟨g,rt,v,T,ax,aL,aM,R,S⟩:=V;rw[<-W] at ax;rw[<-K] at T;have aE:Y.take 32=Y:=aI F;simp[g,rt];by_cases O:j.aC<0
 ·simp[O];exact aP (by rw[Cq];unfold qb;simp;omega) rfl
 ·by_cases X:1000000000<j.aC
  ·simp[O,X,g,rt];exact aP (by rw[Cq];unfold qb;simp;omega) rfl
  ·have az:qb j.aC=true:=by unfold qb;simp;omega
   have t:fj j=(if j.bX=0 then decide (dd j.op=0)&&(decide (bf j.op=j.id)&&decide (eh j.op=0)) else (decide (j.bX=2)||(decide (j.bX=3)||decide (j.bX=4)))&&pY j):=by unfold fj;rw[az];rfl
   simp[O,X,g,v,rt];by_cases h1:j.bX=0
   ·have G:(u j.bX:Int)=0:=ag.2 h1;simp[G,g,T];refine au C (by simp[am,U.ar,P]) ?_;simp[D,ae];by_cases m:dd j.op=0
    ·simp[m,D,aE,g,ax,heq];cases p:decide (bf j.op=j.id) with
     | false=>
      simp;exact aP (by rw[t,ak h1,p];simp) rfl
     | true=>
      simp[g,T];refine au ap (by simp[am,U.ar,P]) ?_;simp;exact aP (by rw[t,ak h1,p,m];simp) rfl
    ·simp[m];exact aP (by rw[t,ak h1,cu m];simp) rfl
   ·have G:¬ (u j.bX:Int)=0:=fun h=>h1 (ag.1 h)
    simp[G,g,v];by_cases m:j.bX=2
    ·have H:=ah.2 m;simp[H,g,v,rt,R,av];have B:a7 j.bX=.int .u8 2:=by rw[m];rfl
     rw[B] at o q;refine au o (by simp[am,U.ar,S];simpa [am,U.ar] using q) ?_;simp;exact aP (by rw[t,ai h1,b7 m];simp) rfl
    ·have H:¬ (u j.bX:Int)=2:=fun h=>m (ah.1 h)
     simp[H,g,v];by_cases p:j.bX=3
     ·have I:=aj.2 p;simp[I,g,v,rt,R,av];have B:a7 j.bX=.int .u8 3:=by rw[p];rfl
      rw[B] at o q;refine au o (by simp[am,U.ar,S];simpa [am,U.ar] using q) ?_;simp;exact aP (by rw[t,ai h1,b7 p];simp) rfl
     ·have I:¬ (u j.bX:Int)=3:=fun h=>p (aj.1 h)
      simp[I,g,v];by_cases w:j.bX=4
      ·have J:=Q.2 w;simp[J,g,v,rt,R,av];have B:a7 j.bX=.int .u8 4:=by rw[w];rfl
       rw[B] at o q;refine au o (by simp[am,U.ar,S];simpa [am,U.ar] using q) ?_;simp;exact aP (by rw[t,ai h1,b7 w,Bc,Bc,lH,ak (Q.2 w)]) rfl
      ·have J:¬ (u j.bX:Int)=4:=fun h=>w (Q.1 h)
       simp[J];exact aP (by rw[t,ai h1,cu m,cu p,cu w];rfl) rfl
end Op
namespace Op.aJ
open cl Op
structure aA where
 aC:Int
 op:aK
 id:List B
 a6:b2
def aO (s:aA) :ag:=.i6 s.aC::(aw s.op++(ao s.id++[ah s.a6]))
abbrev ek:=b1 aA
def cg (s:ek) :U:=b4 45 aO s
structure h5 (s:aA) :Prop where
 op:dk s.op
 id:s.id.length=32
 a6:c5 s.a6
 len:s.a6.l.length<=1000000
def fr (l:List aA) :Prop:=∀ s∈l,h5 s
theorem B2:∀ a b:ag,am (a++b)=(am a&&am b)
 | [],b=>by simp[am]
 | x::a,b=>by
  rw[iK];simp only[am,B2 a b,Fo]
theorem jd (s:aA) :am (aO s)=true:=by have h1:=dt s.op;have g:=cG s.id;have h:=bO s.a6;unfold aO;simp only[am,U.ar,B2,h1,g,h,k5]
theorem fT (s:ek) :(cg s).ar=true:=pD jd s
structure Row (s:aA) (R:ag) :Prop where
 len:R.length=45
 aC:∀ h:0<R.length,R[0]'h=.i6 s.aC
 op:R.tail.take 11=aw s.op
 id:(R.drop 12).take 32=ao s.id
 a6:∀ h:44<R.length,R[44]'h=ah s.a6
 ar:am R=true
theorem eQ {s:aA} (h:h5 s) :Row s (aO s):=by
 have g:=bo h.id;have j:(aO s).length=45:=by unfold aO aw;simp[g]
 refine⟨j,fun _=>rfl,?_,?_,fun m=>?_,jd s⟩
 ·unfold aO aw;simp
 ·unfold aO aw;simp[g]
 ·have:(aO s)[44]?=some (ah s.a6):=by
   unfold aO aw;simp[g]
  exact (aL.1 this).2
theorem Rf:fJ prog 152=true:=bn
theorem OC (s:aA) (h:h5 s) (x:List B) (m:x.length=32) (r:ae) {K:cB} (j:∀ w,K (.bool (decide (s.id=x))) (.q 32 (ao x) ::w)) :
  cM 152 [.af (aO s),.ptr 0 0 32] (.q 32 (ao x) ::r) K:=by apply c1 func152 [];have g:=eQ h;have o:=bo m;have heq:=nJ h.id m;obtain⟨p,u⟩:=al (aO s);obtain⟨z,v⟩:=al (ao x);rw[<-u] at g ⊢;rw[<-v] at o heq j ⊢;have h1:=g.len;have t:=g.id;have C:=bo h.id;simp[h1,t,o,heq,aI];have:=j (r++[aq.q 45 p]);simpa using this
structure M5 (s:ek) (x:List B) (k:Nat) (sgZ:aS) (l:ae) :Prop where
 nI:∃ r,l=.q 32 (ao x) ::r
 kI:sgZ 0=cg s
 e5:sgZ 1=.fn 152 [] [.ptr 0 0 32]
 tS:sgZ 7=.i6 s.l.length
 oI:sgZ 8=.i6 k
 jB:∀ (j:Nat) (z:List B),j<k->(s.l.map aA.id)[j]?=some z->z≠x
theorem OE (s:ek) (C:fr s.l) (X:s.l.length<=1000000) (x:List B) (T:x.length=32) {r:ae} {K:cB} (z:∀ I,K (.i6 (dH x (s.l.map aA.id) 0)) I) :
  cM 151 [cg s,.fn 152 [] [.ptr 0 0 32]] (.q 32 (ao x) ::r) K:=by
 apply c1 func151 [];have S:bD (.Z 45) (cg s)=_:=b9 _;simp[S];refine bB s.l.length (M5 s x) ?_ ⟨⟨_,rfl⟩,V,V,V,V,fun j o h=>F⟩;rintro k U l hk ⟨⟨r,rfl⟩,t,u,v,w,p⟩;obtain⟨U,rfl⟩:=eO t u v w;clear t u v w;simp;refine fk (fun h=>?_) (fun h=>?_)
 ·simp only[bK] at h;obtain⟨y,D,H⟩:=aQ (l:=s.l) (k:=k) F;have O:=eQ (C y H);have J:=ci (k:=k) F;have P:bQ (.Z 45) (cg s) _=_:=c8 D;have G:(s.l.map aA.id)[k]?=some y.id:=by rw[b0,D];rfl
  simp[P,O.len,aI];refine⟨Rf,OC y (C y H) x T r fun I=>?_⟩;by_cases m:y.id=x
  ·simp[m];have:=qV (n:=0) G p m;rw[hI] at this;rw[<-this];exact z _
  ·simp[m,J];refine⟨F,⟨_,rfl⟩,V,V,V,V,fun j o W g=>?_⟩;by_cases Q:j=k
   ·rw[Q,G] at g;obtain rfl:=cc g;exact m
   ·exact p j o F g
 ·simp[h];have R:k=s.l.length:=by simp at h;omega
  have:=wy (n:=0) (l:=s.l.map aA.id) (x:=x) fun j o g=>p j o (by rw[R];have:=(aL.1 g).1;simpa using this) g
  rw[<-this];exact z _
theorem DE (s:ek) (j:fr s.l) (h:s.l.length<=1000000) (x:List B) (g:x.length=32) :aU 99 [cg s,.af (ao x)] (.i6 (dH x (s.l.map aA.id) 0)):=by
 apply a2 func99 [];simp[bo g];refine OE s j h x g fun m=>?_
 simp;exact aF
end Op.aJ
namespace Op.aJ
open cl Op
def e8 (l:List aA) (k:Nat) :aA:=l.getD k ⟨0,⟨0#32,none,0#64,⟨0#8,[],ph⟩,0#32,0#32⟩,[],none⟩
theorem eR {l:List aA} {k:Nat} {x:aA} (h:l[k]?=some x) :e8 l k=x:=by unfold e8;rw[gw,h];rfl
def dL (l:List aA) (k:Nat) :Int:=if k=0 then -1 else (e8 l (k - 1)).aC
def hR (l:List aA) (k:Nat) :Bool:=
 decide (dd (e8 l k).op=0)&&(decide (bf (e8 l k).op=(e8 l k).id)&&(decide (dL l k<(e8 l k).aC)&&(decide ((e8 l k).aC<=1000000000)&&(eV (e8 l k).op (e8 l k).a6.l&&decide ((e8 l k).id∉(l.take k).map aA.id)))))
def oK (l:List aA) :Bool:=decide (∀ k,k<l.length->hR l k=true)
def cH (c:Int) (l:List aA) :Int:=if c<1\/8<c\/c<l.length then 8 else if oK l then 0 else 8
theorem JU {c:Int} {l:List aA} (h:¬ (c<1\/8<c\/c<l.length)) (g:∀ k,k<l.length->hR l k=true) :cH c l=0:=by unfold cH oK;rw[ai h,b7 g];rfl
theorem JS {c:Int} {l:List aA} (h:¬ (c<1\/8<c\/c<l.length)) {k:Nat} (hk:k<l.length) (g:hR l k=false) :cH c l=8:=by unfold cH oK;rw[ai h,cu fun j=>by rw[j k hk] at g;cases g];rfl
theorem y5 (o:aK) :(bf o).length=32:=by
 unfold bf;split
 ·exact o7 _
 ·simp
def bt (c:Int) (s:ek) :ag:=[.i6 c,cg s]
theorem X7 (s:ek) {k:Nat} {y:aA} (g:s.l[k]?=some y) :dw (.Z 45) (cg s) none (some (.i6 (k:Int))) none=some (cg (some (s.l.take k))):=by
 cases s with
 | none=>simp at g
 | some a=>
  have hk:=(aL.1 g).1;have:=EB (z:=45) (enc:=aO) (l:=a) (k:=.i64) (i:=(k:Int)) F (by simp at hk;omega);simpa [cg] using this
abbrev nf:ag:=U.i6 0::U.int .u32 0::U.ad::U.int .u64 0::U.int .u8 0::U.str [] ::U.int .u8 0::U.i6 0::U.int .u64 0::U.str [] ::U.int .u32 0::U.int .u32 0::(bZ 32 (.int .u8 0)++[U.ad])
theorem gZ {R:ag} (h:R.length=45) :av (U.i6 0::U.int .u32 0::U.ad::U.int .u64 0::U.int .u8 0::U.str [] ::U.int .u8 0::U.i6 0::U.int .u64 0::U.str [] ::U.int .u32 0::U.int .u32 0::(bZ 32 (.int .u8 0)++[U.ad])) 0 R=R:=cD (by rw[h];rfl)
structure NY (c:Int) (s:ek) (k:Nat) (sgZ:aS) (l:ae) :Prop where
 nI:∃ r,l=.q 2 (bt c s) ::r
 e5:sgZ 1=.ptr 0 0 2
 hQ:sgZ 3=.i6 (dL s.l k)
 H6:sgZ 25=cg s
 CB:sgZ 26=.i6 s.l.length
 CC:sgZ 27=.i6 k
 jB:∀ j,j<k->hR s.l j=true
theorem u3 (c:Int) (s:ek) (aB:fr s.l) (bd:s.l.length<=1000000) :aU 64 [.af (bt c s)] (.i6 (cH c s.l)):=by
 apply a2 func64 [];have ax:bD (.Z 45) (cg s)=_:=b9 _;by_cases h1:c<1
 ·have v:cH c s.l=8:=by unfold cH;rw[ak (.inl h1)]
  rw[v];simp[bt,h1];exact aF
 ·by_cases C:8<c
  ·have v:cH c s.l=8:=by unfold cH;rw[ak (.inr (.inl C))]
   rw[v];simp[bt,h1,C];exact aF
  ·by_cases J:c<s.l.length
   ·have v:cH c s.l=8:=by unfold cH;rw[ak (.inr (.inr J))]
    rw[v];simp[bt,ax,h1,C,J];exact aF
   ·have az:¬ (c<1\/8<c\/c<s.l.length):=F;simp[bt,ax,h1,C,J];refine bB s.l.length (NY c s) ?_ ⟨⟨_,rfl⟩,V,by simp[dL],V,V,V,fun w h=>F⟩;rintro k a8 l hk ⟨⟨r,rfl⟩,T,ae,W,X,Y,aD⟩;obtain⟨a8,rfl⟩:=gu T ae W X Y;clear T ae W X Y;simp;refine fk (fun h=>?_) (fun h=>?_)
    ·simp only[bK] at h;obtain⟨y,P,a5⟩:=aQ (l:=s.l) (k:=k) F;have j:=aB y a5;have t:=eQ j;have aG:=ci (k:=k) F;have aj:bQ (.Z 45) (cg s) _=_:=c8 P;have a0:=X7 s P;have ah:=eR P;have H:=u2 y.op j.op;have ay:=MH y.op j.op y.a6 j.a6 j.len;have a3:fr ((s.l.take k)):=fun a9 a1=>aB a9 (gy a1)
     have aW:=DE (some (s.l.take k)) a3 (by simp;omega) y.id j.id;have aq:=lr y.id ((s.l.take k).map aA.id) 0;have ap:=y5 y.op;have aV:=oN ap j.id;have bg:=bo j.id;have aK:=fT (some (s.l.take k));have O:=dt y.op;have aL:=bO y.a6;have aJ:=cG y.id;have o:hR s.l k=(decide (dd y.op=0)&&(decide (bf y.op=y.id)&&(decide (dL s.l k<y.aC)&&(decide (y.aC<=1000000000)&&(eV y.op y.a6.l&&decide (y.id∉(s.l.take k).map aA.id)))))):=by unfold hR;rw[ah]
     have u:hR s.l k=false->cH c s.l=8:=fun g=>JS az h g
     have a4:dL s.l (k+1)=y.aC:=by unfold dL;rw[ai F,tg,ah]
     obtain⟨bb,aH⟩:=al (aO y);rw[<-aH] at t aj;obtain⟨aE,ag⟩:=al (aw y.op);have f1:=t.len;have f2:=t.aC;have f3:=t.op;have f4:=t.id;have f5:=t.a6;rw[<-ag] at f3 H ay O;have bc:aE.length=11:=by rw[ag];rfl
     have aZ:=gZ f1;obtain⟨D,K⟩:=al ((bf y.op).map a7);have q:D.length=32:=by rw[K,ce,ap]
     have aY:av (bZ 32 (.int .u8 0)) 0 D=D:=cD (by rw[q];rfl);unfold eo at H;rw[<-K] at H;simp[aj,f1,aZ,f3,aI];refine au H (by simp[am,U.ar,O]) ?_;simp[q,aY];have G:ea prog .neq 57 (.af D) (.af (ao y.id))=some (.bool !decide (bf y.op=y.id)):=by rw[K];exact aV
     by_cases m:dd y.op=0
     ·by_cases p:bf y.op=y.id
      ·by_cases Q:dL s.l k<y.aC
       ·have z:¬ y.aC<=dL s.l k:=F;by_cases R:y.aC<=1000000000
        ·have I:¬ 1000000000<y.aC:=F;simp[m,p,G,f1,f2,f3,f4,f5,q,z,I,aI];refine au ay (by simp[am,U.ar,O,aL]) ?_;cases S:eV y.op y.a6.l with
         | false=>
          have g:=u (by rw[o];simp[S]);rw[g];simp;exact aF
         | true=>
          simp[bt,a0,f1,f4];refine au aW (by simp[am,U.ar,aK,aJ]) ?_;by_cases B:y.id∈(s.l.take k).map aA.id
          ·have g:=u (by rw[o];simp only[B,not_true,vq,vb]);have:0<=dH y.id ((s.l.map aA.id).take k) 0:=by rw[<-i2];exact aq.2 B
           rw[g];simp[this];exact aF
          ·have aM:¬ (0<=dH y.id ((s.l.map aA.id).take k) 0):=by rw[<-i2];exact fun h=>B (aq.1 h)
           have aR:hR s.l k=true:=by rw[o,S];simp only[m,p,Q,R,B,ol,x5,k5]
           simp[aM,f1,f2,aG];refine⟨F,⟨_,rfl⟩,V,by simp[a4],V,V,V,fun w aS=>?_⟩;by_cases aT:w=k
           ·rw[aT];exact aR
           ·exact aD w F
        ·have I:1000000000<y.aC:=F;have g:=u (by rw[o];simp[R]);rw[g];simp[m,p,G,f1,f2,f4,q,z,I,aI];exact aF
       ·have z:y.aC<=dL s.l k:=F;have g:=u (by rw[o];simp[Q]);rw[g];simp[m,p,G,f1,f2,f4,q,z,aI];exact aF
      ·have g:=u (by rw[o];simp[p]);rw[g];simp[m,p,G,f1,f4,q,aI];exact aF
     ·have g:=u (by rw[o];simp[m]);rw[g];simp[m];exact aF
    ·simp[h];exact aP (by rw[JU az fun w aS=>aD w (by simp at h;omega)]) rfl
end Op.aJ
namespace Op.aJ
open cl Op
structure N2 (c:Int) (s:ek) (x:List B) (k:Nat) (sgZ:aS) (l:ae) :Prop where
 nI:l=[.q 2 (bt c s),.q 32 (ao x)]
 hP:sgZ 2=.ptr 0 0 2
 hQ:sgZ 3=.ptr 1 0 32
 kJ:sgZ 5=.i6 k
 jB:∀ (j:Nat) (z:List B),j<k->(s.l.map aA.id)[j]?=some z->z≠x
theorem nX (c:Int) (s:ek) (q:fr s.l) (U:s.l.length<=1000000) (x:List B) (D:x.length=32) :aU 79 [.af (bt c s),.af (ao x)] (.i6 (dH x (s.l.map aA.id) 0)):=by
 apply a2 func79 [];have Q:bD (.Z 45) (cg s)=_:=b9 _;have G:=bo D;simp[bt,G];refine bB s.l.length (N2 c s x) ?_ ⟨rfl,V,V,V,fun j o h=>F⟩;rintro k R l hk ⟨rfl,v,w,z,t⟩;obtain⟨R,rfl⟩:=gF v w z;clear v w z;simp[bt,Q];refine fk (fun h=>?_) (fun h=>?_)
 ·simp only[bK] at h;obtain⟨y,H,u⟩:=aQ (l:=s.l) (k:=k) F;have p:=eQ (q y u);have J:=ci (k:=k) F;have C:bQ (.Z 45) (cg s) _=_:=c8 H;have I:(s.l.map aA.id)[k]?=some y.id:=by rw[b0,H];rfl
  have heq:=nJ (q y u).id D;have W:=bo (q y u).id;obtain⟨S,K⟩:=al (aO y);rw[<-K] at p C;have f1:=p.len;have f4:=p.id;simp[C,f1,f4,G,aI,heq];by_cases m:y.id=x
  ·simp[m];have:=qV (n:=0) I t m;rw[hI] at this;exact aP (by rw[this]) rfl
  ·simp[m,J];refine⟨F,rfl,V,V,V,fun j o T g=>?_⟩;by_cases O:j=k
   ·rw[O,I] at g;obtain rfl:=cc g;exact m
   ·exact t j o F g
 ·simp[h];have P:k=s.l.length:=by simp at h;omega
  have:=wy (n:=0) (l:=s.l.map aA.id) (x:=x) fun j o g=>t j o (by rw[P];have:=(aL.1 g).1;simpa using this) g
  exact aP (by rw[this]) rfl
theorem wU {alZ:Type} [DecidableEq alZ] :∀ {l m:List alZ},l.Nodup->(∀ x∈l,x∈m)->l.length<=m.length
 | [],m,_,_=>eS _
 | x::l,m,h,g=>by
  obtain⟨h1,p⟩:=vk.1 h;have j:=g x V;have q:=wU (l:=l) (m:=m.erase x) p fun y o=>(FB (fun e=>h1 (by rw[<-e];exact o))).2 (g y (by simp[o]))
  have:=Fy j;have:=Fz j;simp only[dM];omega
theorem kg {l:aR} (h:b8 l=true) :∀ {d i:Nat},i+d+1<l.length->bP (bx l i) (bx l (i+d+1))<0
 | 0,i,g=>KY h g
 | d+1,i,g=>oE _ _ _ (kg h (d:=d) (i:=i) F) (KY h (k:=i+d+1) g)
theorem Ef {l:aR} (h:b8 l=true) :l.Nodup:=by
 refine kq.2 fun i g p q t o=>?_
 have:=kg h (d:=g - i - 1) (i:=i) F;rw[show i+(g - i - 1)+1=g by omega] at this;have j:bx l i=l[i]:=dI (bM p);have m:bx l g=l[g]:=dI (bM q);rw[j,m,o,lj] at this;omega
structure NE (o:aK) (m:b2) (k:Nat) (sgZ:aS) (l:ae) :Prop where
 nI:l=[.q 11 (aw o)]
 e5:sgZ 1=ah m
 hP:sgZ 2=.ptr 0 0 11
 kJ:sgZ 5=.i6 k
 jB:∀ j,j<k->bx m.l j∈o.ax.l
theorem Ks (o:aK) (J:dk o) (m:b2) (z:c5 m) (ag:m.l.length<=1000000) :aU 114 [.af (aw o),ah m] (.bool (eV o m.l)):=by
 apply a2 func114 [];have q:bD (.Z 32) (ah m)=_:=b9 _;have K:bD (.Z 32) (ah o.ax)=_:=b9 _;have S:=bO o.ax;have R:=bO m;by_cases p:m.l.length=0
 ·have g:eV o m.l=false:=by unfold eV;rw[p];rfl
  rw[g];simp[q,p];exact aF
 ·have ak:¬ ((m.l.length:Int)=0):=F;by_cases h1:o.ax.l.length<m.l.length
  ·have u:((o.ax.l.length:Int)<(m.l.length:Int)):=F;have g:eV o m.l=false:=by
    cases h:eV o m.l with
    | false=>rfl
    | true=>
     unfold eV at h;rw[bU,bU] at h;have:=wU (Ef h.2.1) fun x B=>iM (gb.1 h.2.2 x B)
     omega
   rw[g];simp[aw,q,K,p,u];exact aF
  ·have u:¬ ((o.ax.l.length:Int)<(m.l.length:Int)):=F;simp[aw,q,K,p,u];refine au (D0 m z ag) (by simp[am,R]) ?_;cases I:b8 m.l with
   | false=>
    have g:eV o m.l=false:=by unfold eV;rw[I];simp
    rw[g];simp;exact aF
   | true=>
    simp;refine bB m.l.length (NE o m) ?_ ⟨rfl,V,V,V,fun j h=>F⟩;rintro k aj l hk ⟨rfl,D,G,H,O⟩;obtain⟨aj,rfl⟩:=gF D G H;clear D G H;simp[q];refine fk (fun h=>?_) (fun h=>?_)
    ·simp only[bK] at h;obtain⟨y,P,C⟩:=aQ (l:=m.l) (k:=k) F;have ai:=bo (z y C);have Q:=ci (k:=k) F;have W:bQ (.Z 32) (ah m) _=_:=c8 P;have X:=z2 o.ax J.idsZ J.len y (z y C);have T:=cG y;simp[aw,W,ai,aI];refine au X (by simp[am,U.ar,S,T]) ?_;by_cases t:y∈o.ax.l
     ·simp[t,Q];refine⟨F,rfl,V,V,V,fun j w=>?_⟩;by_cases Y:j=k
      ·rw[Y,dI P];exact t
      ·exact O j F
     ·have g:eV o m.l=false:=by
       unfold eV;cases v:(m.l.all fun x=>decide (x∈o.ax.l)) with
       | false=>simp
       | true=>exact bV (iM (gb.1 v y C)) t
      rw[g];simp[t];exact aF
    ·simp[h];have ae:k=m.l.length:=by simp at h;omega
     have g:eV o m.l=true:=by
      unfold eV;have v:(m.l.all fun x=>decide (x∈o.ax.l))=true:=gb.2 fun x B=>by
       obtain⟨j,w⟩:=cp.1 B;have:=O j (by rw[ae];exact (aL.1 w).1);rw[dI w] at this;exact b7 this
      rw[I,v,b7 F];rfl
     rw[g];exact aF
end Op.aJ
namespace Op.aJ
open cl Op
structure N3 (c:Int) (s:ek) (k:Nat) (sgZ:aS) (l:ae) :Prop where
 nI:∃ r,l=.q 2 (bt c s) ::r
 e5:sgZ 1=.ptr 0 0 2
 hQ:sgZ 3=.i6 k
 jB:∀ j,j<k->hR s.l j=true
theorem EV {l:List aA}:∀ {k:Nat},k<=l.length->(∀ j,j<k->hR l j=true)->-1<=dL l k
 | 0,_,_=>by simp[dL]
 | k+1,hk,h=>by
  have o:=EV (l:=l) (k:=k) F fun j m=>h j F
  have g:=h k F;unfold hR at g;simp only[bU,bK] at g;have:=g.2.2.1;unfold dL;rw[ai F,tg];omega
theorem Sq {l:List aA} {k:Nat} {y:aA} (v:l[k]?=some y) :dH y.id (l.map aA.id) 0=(k:Int)<->y.id∉(l.take k).map aA.id:=by
 have o:(l.map aA.id)[k]?=some y.id:=by rw[b0,v];rfl
 have C:=(aL.1 o).1;constructor
 ·intro h m;rw[i2] at m;obtain⟨j,g⟩:=cp.1 m;have t:=(aL.1 g).1;rw[cL] at t;rw[dQ F] at g
  -- the first place is at most j
  have q:∀ {l:aR} {j n:Nat},l[j]?=some y.id->dH y.id l n<=((n+j:Nat) :Int):=by
   intro l
   induction l with
   | nil=>intro j n h;simp at h
   | cons w r B=>
    intro j n h;unfold dH;split
    ·omega
    ·rename_i u;rcases j with _ | j
     ·simp at h;exact bV h u
     ·have:=B (j:=j) (n:=n+1) (by simpa using h);omega
  have:=q (n:=0) g;rw[h] at this;omega
 ·intro h;have:=qV (n:=0) o (fun j D g z p=>h (by
   rw[i2];exact cp.2 ⟨j,by rw[dQ g,z,p]⟩)) rfl
  simpa using this
theorem DY (c:Int) (s:ek) (aD:fr s.l) (bc:s.l.length<=1000000) :aU 68 [.af (bt c s)] (.i6 (cH c s.l)):=by
 apply a2 func68 [cT 0 28++[[29],[28]]];have az:bD (.Z 45) (cg s)=_:=b9 _;have aS:=fT s;by_cases h1:c<1
 ·have P:cH c s.l=8:=by unfold cH;rw[ak (.inl h1)]
  rw[P];simp[bt,h1];exact aF
 ·by_cases T:8<c
  ·have P:cH c s.l=8:=by unfold cH;rw[ak (.inr (.inl T))]
   rw[P];simp[bt,h1,T];exact aF
  ·by_cases aj:c<s.l.length
   ·have P:cH c s.l=8:=by unfold cH;rw[ak (.inr (.inr aj))]
    rw[P];simp[bt,az,h1,T,aj];exact aF
   ·have aZ:¬ (c<1\/8<c\/c<s.l.length):=F;simp[bt,az,h1,T,aj];refine bB s.l.length (N3 c s) ?_ ⟨⟨_,rfl⟩,V,V,fun u h=>F⟩;rintro k bi l hk ⟨⟨r,rfl⟩,z,aJ,Y⟩;obtain⟨bi,rfl⟩:=kk z aJ;clear z aJ;simp[bt,az];refine fk (fun h=>?_) (fun h=>?_)
    ·simp only[bK] at h;obtain⟨y,aE,bg⟩:=aQ (l:=s.l) (k:=k) F;have t:=aD y bg;have B:=eQ t;have aG:=ci (k:=k) F;have C:bQ (.Z 45) (cg s) _=_:=c8 aE;have a8:=eR aE;have R:=DV y.op t.op;have aB:=Ks y.op t.op y.a6 t.a6 t.len;have a0:=nX c s aD bc y.id t.id;have W:=Sq aE;have aT:=y5 y.op;have bd:=oN aT t.id;have bq:=bo t.id;have O:=dt y.op;have aR:=bO y.a6;have aM:=cG y.id;have j:hR s.l k=(decide (dd y.op=0)&&(decide (bf y.op=y.id)&&(decide (dL s.l k<y.aC)&&(decide (y.aC<=1000000000)&&(eV y.op y.a6.l&&decide (y.id∉(s.l.take k).map aA.id)))))):=by unfold hR;rw[a8]
     have o:hR s.l k=false->cH c s.l=8:=fun g=>JS aZ h g
     have bm:=EV (l:=s.l) (k:=k) F Y;obtain⟨bj,a4⟩:=al (aO y);rw[<-a4] at B C;obtain⟨a3,aK⟩:=al (aw y.op);have f1:=B.len;have f2:=B.aC;have f3:=B.op;have f4:=B.id;have f5:=B.a6;rw[<-aK] at f3 R aB O;have bl:a3.length=11:=by rw[aK];rfl
     have Q:=gZ f1;obtain⟨D,ap⟩:=al ((bf y.op).map a7);have v:D.length=32:=by rw[ap,ce,aT]
     have G:av (bZ 32 (.int .u8 0)) 0 D=D:=cD (by rw[v];rfl);have X:ea prog .neq 57 (.af D) (.af (ao y.id))=some (.bool !decide (bf y.op=y.id)):=by rw[ap];exact bd
     unfold eo at R;rw[<-ap] at R
     -- what comes behind the tickets
     have bn:dL s.l k<y.aC->y.aC<=1000000000->True:=fun _ _=>trivial
     by_cases I:y.aC<0
     ·have g:=o (by rw[j,cu (show ¬ dL s.l k<y.aC by omega)];simp);rw[g];simp[C,f1,Q,f2,I,aI];exact aF
     ·by_cases ag:y.aC<=1000000000
      ·have J:¬ 1000000000<y.aC:=F;by_cases aW:k=0
       ·have S:dL s.l k<y.aC:=by rw[aW];simp[dL];omega
        have a9:¬ (0:Int)<(k:Int):=F;have bb:¬ 0<k:=F;simp[C,f1,Q,f2,f4,I,J,bb,aI];refine au a0 (show am [U.af (bt c s),U.af (ao y.id)]=true by simp[bt,am,U.ar,aS,aM]) ?_;by_cases q:y.id∈(s.l.take k).map aA.id
        ·have g:=o (by rw[j];simp only[q,not_true,vq,vb]);have w:¬ dH y.id (s.l.map aA.id) 0=(k:Int):=fun h=>(W.1 h) q
         rw[g];simp[w];exact aF
        ·have w:dH y.id (s.l.map aA.id) 0=(k:Int):=W.2 q;simp[w,f1,f3];refine au R (by simp[am,U.ar,O]) ?_;by_cases m:dd y.op=0
         ·by_cases p:bf y.op=y.id
          ·simp[m,p,X,f1,f3,f4,f5,v,G,aI];refine au aB (by simp[am,U.ar,O,aR]) ?_;cases K:eV y.op y.a6.l with
           | false=>
            have g:=o (by rw[j];simp[K]);rw[g];simp;exact aF
           | true=>
            have aq:hR s.l k=true:=by rw[j,K];simp only[m,p,S,ag,q,ol,x5,k5]
            simp[aG];exact⟨F,⟨_,rfl⟩,V,V,fun u aV=>by
             by_cases ay:u=k
             ·rw[ay];exact aq
             ·exact Y u F⟩
          ·have g:=o (by rw[j];simp[p]);rw[g];simp[m,p,X,f1,f4,v,G,aI];exact aF
         ·have g:=o (by rw[j];simp[m]);rw[g];simp[m,v,G];exact aF
       ·obtain⟨H,a1,bh⟩:=aQ (l:=s.l) (k:=k - 1) F;have aH:IntKind.i64.wrap ((k:Int) - 1)=((k - 1:Nat) :Int):=by rw[IntKind.wrap_i64];omega
        have a9:(0:Int)<(k:Int):=F;have aY:0<k:=F;have ax:bQ (.Z 45) (cg s) (.i6 ((k - 1:Nat) :Int))=some (.b6 (aO H) 0):=by simp[cg,a1]
        have aL:=eQ (aD H bh);have ah:=aL.aC;have z:=aL.len;have bp:dL s.l k=H.aC:=by unfold dL;rw[ai aW,eR a1]
        obtain⟨bk,a5⟩:=al (aO H);simp only[<-a5] at z ah ax;by_cases S:dL s.l k<y.aC
        ·have ae:¬ y.aC<=H.aC:=F;simp[C,ax,f1,z,Q,f2,ah,f4,I,J,aY,aH,ae,aI];refine au a0 (show am [U.af (bt c s),U.af (ao y.id)]=true by simp[bt,am,U.ar,aS,aM]) ?_;by_cases q:y.id∈(s.l.take k).map aA.id
         ·have g:=o (by rw[j];simp only[q,not_true,vq,vb]);have w:¬ dH y.id (s.l.map aA.id) 0=(k:Int):=fun h=>(W.1 h) q
          rw[g];simp[w];exact aF
         ·have w:dH y.id (s.l.map aA.id) 0=(k:Int):=W.2 q;simp[w,f1,f3];refine au R (by simp[am,U.ar,O]) ?_;by_cases m:dd y.op=0
          ·by_cases p:bf y.op=y.id
           ·simp[m,p,X,f1,f3,f4,f5,v,G,aI];refine au aB (by simp[am,U.ar,O,aR]) ?_;cases K:eV y.op y.a6.l with
            | false=>
             have g:=o (by rw[j];simp[K]);rw[g];simp;exact aF
            | true=>
             have aq:hR s.l k=true:=by rw[j,K];simp only[m,p,S,ag,q,ol,x5,k5]
             simp[aG];exact⟨F,⟨_,rfl⟩,V,V,fun u aV=>by
              by_cases ay:u=k
              ·rw[ay];exact aq
              ·exact Y u F⟩
           ·have g:=o (by rw[j];simp[p]);rw[g];simp[m,p,X,f1,f4,v,G,aI];exact aF
          ·have g:=o (by rw[j];simp[m]);rw[g];simp[m,v,G];exact aF
        ·have ae:y.aC<=H.aC:=F;have g:=o (by rw[j];simp[S]);rw[g];simp[C,ax,f1,z,Q,f2,ah,I,J,aY,aH,ae,aI];exact aF
      ·have J:1000000000<y.aC:=F;have g:=o (by rw[j];simp[ag]);rw[g];simp[C,f1,Q,f2,I,J,aI];exact aF
    ·simp[h];exact aP (by rw[JU aZ fun u aV=>Y u (by simp at h;omega)]) rfl
end Op.aJ
namespace Op.aJ
open cl Op
theorem l4 (s:b2) (g:c5 s) (j:s.l.length<=1000000) :aU 80 [ah s] (ah s):=by
 refine uB checked.mixed eD ?_;refine y6 s g j fun o m h=>?_
 exact h.rd cG s rfl rfl
theorem nZ {R:ag} {i:Nat} (v:U) (g:i<R.length) :av R i [v]=R.set i v:=by unfold av;rw[rI,ak g,xY,hi,FE]
theorem XK {R:ag} {i:Nat} {v:U} (h:R[i]?=some v) :av R i [v]=R:=by obtain⟨j,g⟩:=aL.1 h;rw[nZ v j,<-g,Bo]
theorem LC (R:ag) (i:Nat) (v w:U) (g:i<R.length) :av (av R i [v]) i [w]=av R i [w]:=by rw[nZ v g,nZ w (by rw[ko];exact g),nZ w g,Bp]
def ii (s:aA) (w:U) :ag:=.i6 s.aC::(aw s.op++(ao s.id++[w]))
theorem xw {s:aA} (h:s.id.length=32) (w:U) :av (aO s) 44 [w]=ii s w:=by have g:=bo h;unfold av aO ii aw;simp[g,vh]
theorem WP (s:aA) :(aO s)[2]?=some (ah s.op.ax):=rfl
theorem Aj {s:aA} (h:s.id.length=32) :(aO s)[44]?=some (ah s.a6):=by have g:=bo h;unfold aO aw;simp[g]
theorem EZ (s:aA) (g:h5 s) {l:ae} {K:cB} (H:∀ w l',cd 32 ao l l' w s.a6.l s.a6.isNone->K (.af (ii s w)) l') :
  cM 101 [.af (aO s)] l K:=by
 apply c1 func101 [[[0],[1],[2],[4],[5],[3,5],[7],[8],[6]]];have p:=eQ g;have o:=WP s;have G:=Aj g.id;have z:=xw g.id;have O:=l4 s.op.ax g.op.idsZ g.op.len;have P:=bO s.op.ax;have R:(ah s.op.ax).cells=some [ah s.op.ax]:=by cases s.op.ax<;>rfl
 obtain⟨j,I⟩:=al (aO s);rw[<-I] at p o G z ⊢;have f1:=p.len;have S:=XK o;have D:∀ h:2<j.length,j[2]'h=ah s.op.ax:=fun h=>(aL.1 o).2
 have t:=p.a6;simp[f1,D,t];refine au O (by simp[am,P]) ?_;simp[f1,t];obtain⟨L,m⟩:=al (l++[aq.q 45 j,aq.q 45 nf]);have aw:L.length=l.length+2:=by rw[m];simp
 have aj:L[l.length]?=some (.q 45 j):=by rw[m];simp
 have q1:L[l.length+1]?=some (.q 45 nf):=by rw[m];simp
 unfold nf at m q1;rw[<-m];refine y6 s.a6 g.a6 g.len fun w l1 h1=>?_
 have az:=h1.le;have C:l1[l.length]?=some (.q 45 j):=by rw[h1.same _ F];exact aj
 have ai:l1[l.length+1]?=some (.q 45 (U.i6 0::U.int .u32 0::U.ad::U.int .u64 0::U.int .u8 0::U.str [] ::U.int .u8 0::U.i6 0::U.int .u64 0::U.str [] ::U.int .u32 0::U.int .u32 0::(bZ 32 (.int .u8 0)++[U.ad]))):=by rw[h1.same _ F];exact q1
 have V:=h1.cells;have u:=z w;have v:(ii s w).length=45:=by rw[<-u,nZ w F,ko,f1]
 have T:=gZ v;have ak:∀ c:aq,(l1.set l.length c)[l.length]?=some c:=fun c=>bY F
 have ap:∀ c:aq,(l1.set l.length c)[l.length+1]?=l1[l.length+1]?:=fun c=>bj F
 have ar:∀ c d:aq,((l1.set l.length c).set (l.length+1) d)[l.length+1]?=some d:=fun c d=>bY (by simp;omega)
 have av:(l1.set l.length (.q 45 j))=l1:=by
  obtain⟨ay,Q⟩:=aL.1 C;rw[<-Q,Bo]
 simp[C,ai,f1,R,V,S,ak,ap,ar,av,u,v,T,aI];obtain⟨W,X,aB,Y,B,ag⟩:=h1;refine H w _ ⟨W,X.cx (B.imp id fun h=>?_),by simp;omega,fun b J=>?_,B.imp id F,ag⟩
 ·rw[bj F,bj F]
 ·rw[bj F,bj F,Y b F,m,aV J]
end Op.aJ
namespace Op.aJ
open cl Op
theorem HW:fJ prog 141=true:=bn
theorem PK (x:List B) (m:x.length=32) {j bi:Nat} {l:ae} {xs:aR} (u:∀ y∈xs,y.length=32) (h1:l[bi]?=some (.q 32 (ao x))) (G:bi≠j) :
  vr 141 [.ptr bi 0 32] j l xs (fun y=>decide (y=x)):=by
 intro y p v F I w;apply c1 func141 [];have h:v[bi]?=some (.q 32 (ao x)):=by rw[F.same _ (a1 h1) G];exact h1
 have H:=a1 h;have g:∀ c:aq,(v++[c])[bi]?=some (.q 32 (ao x)):=fun c=>by rw[aV H];exact h
 have t:=bo (u y p);have o:=bo m;have heq:=nJ (u y p) m;obtain⟨J,z⟩:=al (ao x);obtain⟨K,C⟩:=al (ao y);rw[<-z] at g o heq;rw[<-C] at t heq ⊢;simp[g,t,o,heq,aI];exact w _ V fun b D=>aV D
def fA (x y:List B) :Bool:=!decide (y=x)
theorem Hn {l0 l:ae} {w:U} {xs:aR} {J:Bool} (h:cd 32 ao l0 l w xs J) (I:∀ y∈xs,y.length=32) (S:xs.length<=1000000) (x:List B) (X:x.length=32) {bi:Nat} (h1:l0[bi]?=some (.q 32 (ao x)))
  {K:cB} (D:∀ (m:b2) z,l.length<=z.length->(∀ b,b<l0.length->z[b]?=l0[b]?)->m.l=xs.filter (fA x)->m.isNone=J->K (ah m) z) :
  cM 140 [w,.fn 141 [] [.ptr bi 0 32]] l K:=by
 refine GO checked.mixed eD ?_;obtain⟨j,O,am,C,ak,P⟩:=h;have R:=a1 h1;have Q:l[bi]?=some (.q 32 (ao x)):=by rw[C bi R];exact h1
 by_cases v:bq w=true
 ·have W:=gk.1 v;subst W;have Y:xs=[]:=by have:=O.q.oX;rwa [ni] at this
  subst Y;refine Ho (j:=l.length+1) (xs:=[]) (p:=fun y=>decide (y=x)) HW (.nil _) V V (fun y ag=>by cases ag) fun r o G g u=>?_
  obtain rfl:=gk.1 u;refine⟨.ad,o,⟨rfl,fun _=>.inl rfl⟩,.same _,g.le,D none o g.le (fun b t=>?_) rfl (by rw[<-P];rfl)⟩;rw[g.same b F F];exact C b t
 ·have H:bq w=false:=ql.2 v;have al:l0.length<=j:=ak.resolve_left fun h=>v (gk.2 h)
  refine Ho (p:=fun y=>decide (y=x)) HW O I S (PK x X I Q F) fun r o G g u=>?_
  have T:bq r=false:=by rw[u];exact H
  obtain⟨ai,aj⟩:=uy G T;refine⟨_,o.set j .dead,ai,aj,by have:=g.le;simpa using this,D (some (xs.filter (fA x))) _ (by have:=g.le;simpa using this) (fun b t=>?_) rfl (by rw[<-P,H];rfl)⟩;rw[bj F,g.same b F F];exact C b t
def n0 (x:List B) (m:b2) :b2:=match m with | none=>none | some a=>some (a.filter (fA x))
def er (x:List B) (s:aA) :aA:={ s with a6:=n0 x s.a6 }
theorem xC (x:List B) (m:b2) :(n0 x m).l=m.l.filter (fA x):=by cases m<;>rfl
theorem LQ {x:List B} {m g:b2} (h1:g.l=m.l.filter (fA x)) (h:g.isNone=m.isNone) :g=n0 x m:=by
 cases m with
 | none=>cases g with
  | none=>rfl
  | some a=>cases h
 | some a=>cases g with
  | none=>cases h
  | some b=>exact ch some h1
theorem EL {x:List B} {s:aA} (h:h5 s) :h5 (er x s):=by
 refine⟨h.op,h.id,fun y g=>?_,?_⟩
 ·have:y∈(n0 x s.a6).l:=g;rw[xC] at this;exact h.a6 y (dx.1 this).1
 ·show (n0 x s.a6).l.length<=_;rw[xC];exact dC (g2 _ _) h.len
def gone (s:aA) :Bool:=s.a6.l.isEmpty
def c0 (x:List B) (l:List aA) :List aA:=(l.map (er x)).filter gone
def cP (x:List B) (l:List aA) :List aA:=(l.map (er x)).filter fun s=>!gone s
def c2 (l:List aA) :ek:=match l with | []=>none | a::r=>some (a::r)
theorem fb (l:List aA) :(c2 l).l=l:=by cases l<;>rfl
theorem uW (l:List aA) :(c2 l).isNone=l.isEmpty:=by cases l<;>rfl
theorem uU {p:aA->Bool} {f:aA->aA} {l:List aA} {k:Nat} {y:aA} (h:l[k]?=some y) :((l.take (k+1)).map f).filter p=((l.take k).map f).filter p++(if p (f y) then [f y] else []):=by rw[ei,h,cV,lJ];cases g:p (f y)<;>simp[g]
structure Nh (c:Int) (s:ek) (x:List B) (k:Nat) (fg:U) (l:ae) :Prop where
 nT:l[0]?=some (.q 2 (bt c s))
 mY:l[1]?=some (.q 32 (ao x))
 jH:l[2]?=some (.q 2 [.i6 0,.ad])
 ex:∃ g h j,l[3]?=some (.q 2 [.i6 c,g])/\aH 45 l fg h ((c0 x (s.l.take k)).map aO)/\aH 45 l g j ((cP x (s.l.take k)).map aO)/\(fg=.ad\/4<=h)/\(g=.ad\/4<=j)/\(fg=.ad\/g=.ad\/h≠j) ∧
  bq fg=(c0 x (s.l.take k)).isEmpty/\bq g=(cP x (s.l.take k)).isEmpty
 len:4<=l.length
structure Ni (c:Int) (s:ek) (x:List B) (k:Nat) (sgZ:aS) (l:ae) :Prop where
 hP:sgZ 2=.ptr 0 0 2
 hQ:sgZ 3=.ptr 1 0 32
 iq:sgZ 4=.ptr 2 0 2
 oI:sgZ 8=.ptr 3 0 2
 H4:sgZ 22=cg s
 H5:sgZ 23=.i6 s.l.length
 Rt:sgZ 24=.i6 k
 h:∃ fg,sgZ 9=fg/\Nh c s x k fg l
theorem ov {l:ae} {v:U} {j:Nat} {es:List aA} {s:aA} (h:aH 45 l v j (es.map aO)) (o:(aO s).length=45) (D:es.length<=1000000) :
  ∃ g m l',dZ (l++[.q 45 (aO s)]) 45 176 v (.Z 45 l.length 0 1 1 45)=some (g,l')/\aH 45 l' g m ((es++[s]).map aO)/\l.length+1<=l'.length/\(∀ b,b<l.length->v=.ad\/b≠j->l'[b]?=l[b]?)/\(l.length<=m\/(v≠.ad/\m=j))/\bq g=false:=by
 have B:=du;obtain⟨g,m,l',p,t,u,d1,w,f1⟩:=io (h.more [.q 45 (aO s)]) (by_:=176) (x:=.Z 45 l.length 0 1 1 45) (xs:=[aO s]) (by simp[cq,o,aI]) (by simp[o]) F F (by rw[B];simp;omega);have f2:bq g=false:=by rw[f1];simp
 refine⟨g,m,l',p,by rw[cV];exact t,by simpa using u,fun b z C=>?_,?_,f2⟩
 ·rw[d1 b (by simp;omega) C,aV z]
 ·rcases w with h | h | h
  ·exact .inl (by simp at h;omega)
  ·exact .inr h
  ·rw[h] at f2;cases f2
def yy (c:Int) (l:List aA) (x:List B) :U:=
 if cH c l=0 then .aX [.af (bt c (c2 (cP x l))),cg (c2 (c0 x l)),.i6 0] else .aX [.af [.i6 0,.ad],.ad,.i6 (cH c l)]
theorem xi {l:ae} {a b c j m c' : U} (h1:Rd l a j) (p:Rd l b m) (q:Rd l c c') :Rd l (.aX [a,b,c]) (.aX [j,m,c']):=by
 refine .aX _ _ rfl fun o x t g h=>?_
 rcases o with _ | _ | _ | o
 ·simp at g h;subst g h;exact h1
 ·simp at g h;subst g h;exact p
 ·simp at g h;subst g h;exact q
 ·simp at g
theorem xg {l:ae} {a b j m:U} (h1:Rd l a j) (p:Rd l b m) :Rd l (.af [a,b]) (.af [j,m]):=by
 refine .af _ _ rfl fun o x q g h=>?_
 rcases o with _ | _ | o
 ·simp at g h;subst g h;exact h1
 ·simp at g h;subst g h;exact p
 ·simp at g
theorem Y0 (c:Int) (s:ek) (bw:fr s.l) (bW:s.l.length<=1000000) (x:List B) (bA:x.length=32) :aU 91 [.af (bt c s),.af (ao x)] (yy c s.l x):=by
 apply a2 func91 [];unfold yy;have b0:bD (.Z 45) (cg s)=_:=b9 _;have bO:=fT s;have bC:=bo bA;have bn:=u3 c s bw bW;have bp:am [U.af (bt c s)]=true:=by simp[bt,am,U.ar,bO]
 by_cases aw:cH c s.l=0
 ·simp[bt,bC];refine au bn bp ?_;simp[aw,b0];refine bB s.l.length (Ni c s x) ?_ ⟨V,V,V,V,V,V,V,.ad,V,⟨rfl,rfl,rfl,⟨.ad,0,0,rfl,.nil 0,.nil 0,.inl rfl,.inl rfl,.inl rfl,rfl,rfl⟩,V⟩⟩;rintro k cv l hk ⟨a5,bb,bc,bd,a7,a8,a9,S,bf,hH⟩;obtain⟨cv,rfl⟩:=AV a5 bb bc bd bf a7 a8 a9;clear a5 bb bc bd bf a7 a8 a9;simp;refine fk (fun h=>?_) (fun h=>?_)
  ·simp only[bK] at h;obtain⟨y,aT,cm⟩:=aQ (l:=s.l) (k:=k) F;have O:=bw y cm;have bh:=eQ O;have cc:=EL (x:=x) O;have ax:=eQ cc;have a4:=ci (k:=k) F;have br:bQ (.Z 45) (cg s) _=_:=c8 aT;have aS:=xw O.id;obtain⟨aZ,aA,aB,⟨G,o,v,ap,aj,Q,d1,d2,d3,ay,az⟩,b1⟩:=hH;obtain⟨n,aP⟩:=al (l.length);have bz:∀ K:cB,(∀ w bE,cd 32 ao (l++[aq.q 45 (aO y)]) bE w y.a6.l y.a6.isNone->K (.af (ii y w)) bE)->cM 101 [.af (aO y)] (l++[aq.q 45 (aO y)]) K:=fun K bI=>EZ y O bI
   obtain⟨I,bM⟩:=al (aO y);rw[<-bM] at bh br aS bz;have f1:=bh.len;have cj:=gZ f1;simp[br,f1,cj,aI,<-aP];refine bz _ fun w aY j=>?_
   have bX:=j.le;have b3:(l++[aq.q 45 I]).length=n+1:=by rw[aP];simp
   rw[b3] at bX;have cp:aY[n]?=some (.q 45 I):=by rw[j.same n F,aP];simp
   have aG:=aS w;have aJ:(ii y w).length=45:=by rw[<-aG,nZ w F,ko,f1]
   have bk:∀ h:44<(ii y w).length,(ii y w)[44]'h=w:=fun h=>by
    have:(ii y w)[44]?=some w:=by rw[<-aG,nZ w F,bY F]
    exact (aL.1 this).2
   have bq:∀ m:b2,m=n0 x y.a6->av (ii y w) 44 [ah m]=aO (er x y):=fun m X=>by
    rw[<-aG,LC I 44 _ _ F,aS (ah m),X];rfl
   obtain⟨lQ,bL⟩:=al (ii y w);rw[<-bL] at aJ bk bq ⊢;have ck:av I 0 lQ=lQ:=cD (by rw[aJ,f1]);have cr:∀ c:aq,(aY.set n c)[n]?=some c:=fun c=>bY F
   simp[cp,aJ,ck,cr,bk]
   -- the struck idsZ
   have cb:cd 32 ao ((l++[aq.q 45 I]).set n (.q 45 lQ)) (aY.set n (.q 45 lQ)) w y.a6.l y.a6.isNone:=by
    obtain⟨cn,C,cy,bF,a3,bG⟩:=j;refine⟨cn,C.cx (a3.imp id fun h=>by rw[bj F]),by simp;omega,fun b u=>?_,a3.imp id V,bG⟩;rw[ko] at u;by_cases bN:b=n
    ·rw[bN,bY F,bY F]
    ·rw[bj F,bj F];exact bF b u
   have bl:∀ b,b<n->((l++[aq.q 45 I]).set n (.q 45 lQ))[b]?=l[b]?:=fun b u=>by rw[bj F,aV F]
   refine Hn cb O.a6 O.len x bA (bi:=1) (by rw[bl 1 F];exact aA) fun m ag bZ bx b4 b5=>?_
   have X:=LQ b4 b5;have bJ:n+1<=ag.length:=by simp at bZ;omega
   have cf:ag[n]?=some (.q 45 lQ):=by rw[bx n (by simp;omega),bY F]
   have ch:∀ b,b<n->ag[b]?=l[b]?:=fun b u=>by rw[bx b (by simp;omega)];exact bl b u
   have b8:(ah m).cells=some [ah m]:=by cases m<;>rfl
   have bg:=bq m X;have ct:∀ c:aq,(ag.set n c)[n]?=some c:=fun c=>bY F
   have aW:∀ h:44<(aO (er x y)).length,(aO (er x y))[44]'h=ah m:=fun h=>by rw[ax.a6 h,X];rfl
   have bv:bD (.Z 32) (ah m)=_:=b9 _;have ae:=ax.len;obtain⟨H,W⟩:=al (ag.set n (.q 45 (aO (er x y))));have t5:n+1<=H.length:=by rw[W];simpa using bJ
   have t0:∀ b,b<n->H[b]?=l[b]?:=fun b u=>by rw[W,bj F];exact ch b u
   have t1:H[n]?=some (.q 45 (aO (er x y))):=by rw[W];exact ct _
   have a0:aH 45 H S o ((c0 x (s.l.take k)).map aO):=aj.cx (by
    rcases aj.lt with h | h
    ·exact .inl h
    ·exact .inr (t0 o F))
   have a1:aH 45 H G v ((cP x (s.l.take k)).map aO):=Q.cx (by
    rcases Q.lt with h | h
    ·exact .inl h
    ·exact .inr (t0 v F))
   have bS:(c0 x (s.l.take k)).length<=1000000:=by
    unfold c0;refine dC (g2 _ _) ?_;rw[ce,cL];omega
   have ca:(cP x (s.l.take k)).length<=1000000:=by
    unfold cP;refine dC (g2 _ _) ?_;rw[ce,cL];omega
   have P:=uU (p:=gone) (f:=er x) aT;have D:=uU (p:=fun s=>!gone s) (f:=er x) aT;have J:gone (er x y)=decide (m.l.length=0):=by
    have e:(er x y).a6=m:=X.symm;unfold gone;rw[e];cases m.l<;>simp
   obtain⟨cw,aK⟩:=al (aO (er x y));simp only[<-aK] at bg aW ae t1 W;simp[cf,b8,bg];rw[<-W];by_cases Y:m.l.length=0
   ·rw[Y,b7 rfl] at J;rw[J,ak rfl] at P;rw[J] at D;simp only[vd,jq,if_false,eJ] at D;obtain⟨R,c3,t,T,C,bH,df,ee,aE⟩:=ov a0 ax.len bS;rw[<-aK] at T;have aR:=gZ ae;simp[t1,ae,aW,bv,Y,aR,aI,T];refine bR.bm ?_;have z:∀ b,b<4->t[b]?=l[b]?:=fun b u=>by rw[df b F (d1.imp id fun h=>F)];exact t0 b F
    have aM:=a1.lt;have aD:aH 45 t G v ((cP x (s.l.take k)).map aO):=a1.cx (by
     rcases aM with h | h
     ·exact .inl h
     ·rcases d3 with g | g | g
      ·exact .inr (df v h (.inl g))
      ·exact .inl g
      ·exact .inr (df v h (.inr fun e=>g e.symm)))
    simp[a4];refine⟨F,V,V,V,V,V,V,V,R,V,⟨by rw[z 0 F];exact aZ,by rw[z 1 F];exact aA,by rw[z 2 F];exact aB,⟨G,c3,v,by rw[z 3 F];exact ap,?_,?_,.inr ?_,d2,?_,?_,?_⟩,F⟩⟩
    ·show aH 45 t R c3 ((c0 x (s.l.take (k+1))).map aO);unfold c0 at C ⊢;rw[P];exact C
    ·show aH 45 t G v ((cP x (s.l.take (k+1))).map aO);unfold cP at aD ⊢;rw[D];exact aD
    ·rcases ee with h | ⟨h,h'⟩
     ·omega
     ·rw[h'];exact d1.resolve_left h
    ·right;rcases d3 with g | g | g
     ·rcases aM with j | j
      ·exact .inl j
      ·rcases ee with h | ⟨h,_⟩
       ·exact .inr F
       ·exact bV g h
     ·exact .inl g
     ·rcases aM with j | j
      ·exact .inl j
      ·rcases ee with h | ⟨_,h'⟩
       ·exact .inr F
       ·exact .inr (by rw[h'];exact g)
    ·rw[aE];unfold c0;rw[P];simp
    ·rw[az];unfold cP;rw[D]
   ·rw[cu Y] at J;rw[J,ai V,eJ] at P;rw[J] at D;simp only[rE,if_true] at D;obtain⟨R,c3,t,T,C,bH,df,ee,aE⟩:=ov a1 ax.len ca;rw[<-aK] at T;have aR:=gZ ae;have t3:H[3]?=some (.q 2 [.i6 c,G]):=by rw[t0 3 F];exact ap
    have cA:=Q.cells;have cl:=C.cells;have cz:¬ m.l=[]:=fun h=>Y (by rw[h];rfl)
    simp[t1,t3,ae,aW,bv,Y,aR,aI,T];refine bR.bm ?_;have z:∀ b,b<4->t[b]?=l[b]?:=fun b u=>by rw[df b F (d2.imp id fun h=>F)];exact t0 b F
    have cq:t[3]?=some (.q 2 [.i6 c,G]):=by rw[z 3 F];exact ap
    have bs:=a0.lt;have bT:4<=c3:=by
     rcases ee with h | ⟨h,h'⟩
     ·omega
     ·rw[h'];exact d2.resolve_left h
    have aC:aH 45 t S o ((c0 x (s.l.take k)).map aO):=a0.cx (by
     rcases bs with h | h
     ·exact .inl h
     ·rcases d3 with g | g | g
      ·exact .inl g
      ·exact .inr (df o h (.inl g))
      ·exact .inr (df o h (.inr g)))
    simp[cq,cl,av,a4];refine⟨F,V,V,V,V,V,V,V,S,V,⟨by rw[bj F,z 0 F];exact aZ,by rw[bj F,z 1 F];exact aA,by rw[bj F,z 2 F];exact aB,⟨R,o,c3,bY F,?_,?_,d1,.inr bT,?_,?_,?_⟩,by simp;omega⟩⟩
    ·show aH 45 _ S o ((c0 x (s.l.take (k+1))).map aO);refine (show aH 45 t S o ((c0 x (s.l.take (k+1))).map aO) from ?_).cx (d1.imp id fun h=>by rw[bj F]);unfold c0 at aC ⊢;rw[P];exact aC
    ·show aH 45 _ R c3 ((cP x (s.l.take (k+1))).map aO);refine (show aH 45 t R c3 ((cP x (s.l.take (k+1))).map aO) from ?_).cx (.inr (by rw[bj F]));unfold cP at C ⊢;rw[D];exact C
    ·rcases bs with j | j
     ·exact .inl j
     ·rcases ee with h | ⟨h,h'⟩
      ·exact .inr (.inr F)
      ·rcases d3 with g | g | g
       ·exact .inl g
       ·exact bV g h
       ·exact .inr (.inr (by rw[h'];exact g))
    ·rw[ay];unfold c0;rw[P]
    ·rw[aE];unfold cP;rw[D];simp
  ·simp[h];have bU:k=s.l.length:=by simp at h;omega
   obtain⟨aZ,aA,aB,⟨G,o,v,ap,aj,Q,d1,d2,d3,ay,az⟩,b1⟩:=hH;rw[bU,e0] at aj Q ay az;have cs:∀ c:aq,(l.set 2 c)[2]?=some c:=fun c=>bY F
   have aC:∀ c:aq,aH 45 (l.set 2 c) S o ((c0 x s.l).map aO):=fun c=>aj.cx (d1.imp id fun h=>by rw[bj F])
   have aD:∀ c:aq,aH 45 (l.set 2 c) G v ((cP x s.l).map aO):=fun c=>Q.cx (d2.imp id fun h=>by rw[bj F])
   simp[ap,aB,cs];rw[ak aw];exact xi (xg (.same _ rfl) ((aD _).q.gP jd (c2 _) (by rw[az,uW]) (fb _))) ((aC _).q.gP jd (c2 _) (by rw[ay,uW]) (fb _)) (.same _ rfl)
 ·rw[ai aw];simp[bt,bC];refine au bn bp ?_;simp[aw];exact aF
end Op.aJ
namespace Op.aJ
open cl Op
def pW (g:aR) (y:List B) :Bool:=!decide (y∈g)
def xB (g:aR) (m:b2) :b2:=match m with | none=>none | some a=>some (a.filter (pW g))
def jQ (g:aR) (s:aA) :aA:={ s with a6:=xB g s.a6 }
def l8 (g:aR) (l:List aA) :List aA:=(l.map (jQ g)).filter fun s=>!gone s
theorem EK (g:aR) (m:b2) :(xB g m).l=m.l.filter (pW g):=by cases m<;>rfl
theorem LR (g:aR) (x:List B) (s:aA) :er x (jQ g s)=jQ (g++[x]) s:=by
 unfold er jQ;congr 1;cases j:s.a6 with
 | none=>rfl
 | some a=>
  show some ((a.filter (pW g)).filter (fA x))=some (a.filter (pW (g++[x])));rw[List.filter_filter];congr 2;funext y;unfold pW fA;by_cases h1:y=x<;>by_cases h:y∈g<;>simp[h1,h]
theorem RD {g:aR} {x:List B} {s:aA} (h:gone (jQ g s)=true) :gone (er x (jQ g s))=true:=by unfold gone at h ⊢;have h1:(jQ g s).a6.l=[]:=xX.1 h;show (n0 x (jQ g s).a6).l.isEmpty=true;rw[xC,h1];rfl
theorem Jf (x:List B) (g:aR) :∀ l:List aA,cP x (l8 g l)=l8 (g++[x]) l
 | []=>rfl
 | s::l=>by
  have h:=Jf x g l;unfold cP l8 at h ⊢;rw[dg,dg,ta];cases j:gone (jQ g s) with
  | true=>
   have:=RD (x:=x) j;rw[LR] at this;simp only[vd,jq,if_false];rw[h,ta,this];simp
  | false=>
   simp only[rE,if_true];rw[dg,ta,LR,ta,h]
theorem ra (x:List B) :∀ l:List aA,(cP x l).length+(c0 x l).length=l.length
 | []=>rfl
 | s::l=>by
  have g:=ra x l;unfold cP c0 at g ⊢;rw[dg,ta,ta];cases gone (er x s)<;>simp<;>omega
def hC (s:aA) :Prop:=dd s.op=0/\bf s.op=s.id/\0<=s.aC/\s.aC<=1000000000/\eV s.op s.a6.l=true
theorem pK (l:List aA) :oK l=true<->(∀ s∈l,hC s)/\l.Pairwise (fun a b=>a.aC<b.aC)/\l.Pairwise fun a b=>a.id≠b.id:=by
 constructor
 ·intro h;have hk:∀ k,k<l.length->hR l k=true:=iM h;have q:∀ (k:Nat) (s:aA),l[k]?=some s->dd s.op=0/\bf s.op=s.id/\dL l k<s.aC/\s.aC<=1000000000/\eV s.op s.a6.l=true/\s.id∉(l.take k).map aA.id:=fun k s o=>by
   have:=hk k (aL.1 o).1;unfold hR at this;rw[eR o] at this;simp only[bU,bK] at this;exact this
  have T:∀ (d i:Nat) (a b:aA),l[i]?=some a->l[i+d+1]?=some b->a.aC<b.aC:=by
   intro d
   induction d with
   | zero=>
    intro i a b u p;have:=(q (i+1) b p).2.2.1;unfold dL at this;rw[ai F,tg,eR u] at this;exact this
   | succ d W=>
    intro i a b u p;obtain⟨D,t,_⟩:=aQ (l:=l) (k:=i+d+1) (by have:=(aL.1 p).1;omega);have h1:=W i a D u t;have m:=(q (i+d+1+1) b p).2.2.1;unfold dL at m;rw[ai F,tg,eR t] at m;omega
  refine⟨fun s o=>?_,kq.2 fun i g v j C=>?_,kq.2 fun i g v j C R=>?_⟩
  ·obtain⟨k,w⟩:=cp.1 o;obtain⟨h1,m,B,P,Q,_⟩:=q k s w;have Y:=EV (l:=l) (k:=k) (by have:=(aL.1 w).1;omega) fun g j=>hk g (by have:=(aL.1 w).1;omega)
   exact⟨h1,m,F,P,Q⟩
  ·exact T (g - i - 1) i _ _ (bM v) (by rw[show i+(g - i - 1)+1=g by omega];exact bM j)
  ·have:=(q g _ (bM j)).2.2.2.2.2;refine this ?_;rw[<-R];exact tc (cp.2 ⟨i,by rw[dQ C];exact bM v⟩)
 ·rintro⟨h1,m,B⟩;refine b7 fun k hk=>?_
  have o:=bM hk;obtain⟨I,J,X,K,O⟩:=h1 _ (Fw hk);unfold hR;rw[eR o];have G:dL l k<l[k].aC:=by
   unfold dL;by_cases z:k=0
   ·rw[ak z];omega
   ·rw[ai z,eR (bM (l:=l) (i:=k - 1) F)];exact (kq.1 m) (k - 1) k F hk F
  have H:l[k].id∉(l.take k).map aA.id:=fun U=>by
   obtain⟨D,t,V⟩:=cE.1 U;obtain⟨g,j⟩:=cp.1 t;have S:=(aL.1 j).1;rw[cL] at S;rw[dQ F] at j;have:=(kq.1 B) g k F hk F;rw[(aL.1 j).2] at this;exact this V
  simp only[I,J,G,K,O,H,ol,x5,k5]
theorem KX (l:aR) :b8 l=true<->l.Pairwise fun a b=>bP a b<0:=by
 constructor
 ·intro h;refine kq.2 fun i g j m o=>?_
  have:=kg h (d:=g - i - 1) (i:=i) F;rw[show i+(g - i - 1)+1=g by omega] at this
  rwa [dI (bM j),dI (bM m)] at this
 ·intro h;refine uI fun k hk h1=>?_
  have:=(kq.1 h) (k - 1) k F hk F
  rwa [dI (bM (l:=l) (i:=k - 1) F),dI (bM hk)]
theorem Ux {g:aR} {s:aA} (h:hC s) (m:gone (jQ g s)=false) :hC (jQ g s):=by
 obtain⟨h1,o,p,q,j⟩:=h;refine⟨h1,o,p,q,?_⟩;unfold eV at j ⊢;rw[bU,bU,bK] at j;have u:(jQ g s).a6.l=s.a6.l.filter (pW g):=EK g s.a6;unfold gone at m;rw[u] at m ⊢;have v:0<(s.a6.l.filter (pW g)).length:=by
  cases t:s.a6.l.filter (pW g) with
  | nil=>rw[t] at m;cases m
  | cons a r=>simp
 rw[b7 v,(KX _).2 (((KX _).1 j.2.1).sublist kn)];simp only[lH];exact gb.2 fun y w=>gb.1 j.2.2 y (dx.1 w).1
theorem nV {c:Int} {l:List aA} (h:cH c l=0) :¬ (c<1\/8<c\/c<l.length)/\oK l=true:=by
 unfold cH at h;split at h
 ·cases h
 ·rename_i h1;split at h
  ·rename_i g;exact⟨h1,g⟩
  ·cases h
theorem TY {c:Int} {l:List aA} (h:cH c l=0) (g:aR) :cH c (l8 g l)=0:=by
 obtain⟨h1,q⟩:=nV h;obtain⟨m,o,p⟩:=(pK l).1 q;have B:(l8 g l).length<=l.length:=by
  unfold l8;refine dC (g2 _ _) ?_;simp
 have t:oK (l8 g l)=true:=(pK _).2 ⟨fun s j=>by
  unfold l8 at j;obtain⟨v,u⟩:=dx.1 j;obtain⟨z,w,rfl⟩:=cE.1 v;exact Ux (m z w) (by simpa using u),((nj (f:=jQ g) (R:=fun a b=>a.aC<b.aC)).2 o).sublist kn,((nj (f:=jQ g) (R:=fun a b=>a.id≠b.id)).2 p).sublist kn⟩
 unfold cH;rw[ai F,t];rfl
theorem TX {l:List aA} (h:∀ s∈l,hC s) :l8 [] l=l:=by
 have h1:∀ s:aA,jQ [] s=s:=fun s=>by
  unfold jQ;have:xB [] s.a6=s.a6:=by
   cases j:s.a6 with
   | none=>rfl
   | some a=>exact ch some (rG.2 fun y _=>by unfold pW;simp)
  rw[this]
 unfold l8;rw[mr (g:=id) (fun s _=>h1 s),List.map_id,rG.2];intro s m;have:=(h s m).2.2.2.2;unfold eV at this;rw[bU,bK] at this;unfold gone;cases j:s.a6.l with
 | nil=>rw[j] at this;simp at this
 | cons a r=>rfl
end Op.aJ
end Go.bh
namespace Go.bh
open Go Go.Proofs Go.Proofs.Tryz Go.RowKit
namespace Op.aJ
open cl Op
structure vC (s:aA) :Prop where
 op:vB s.op
 id:s.id.length=32
 a6:c5 s.a6
theorem Yy {ts:List aG} {cs:ag} (h:c4 prog (94::ts) cs) :∃ (s:aA) (cs' : ag),cs=aO s++cs'/\vC s/\c4 prog ts cs':=by have h1:=n2 (fs:=[3,55,57,23]) bn h;obtain⟨n,_,rfl,_,_,g⟩:=na (k:=.i64) bn h1;obtain⟨v,_,rfl,q,j⟩:=E3 g;obtain⟨x,_,rfl,t,m⟩:=E2 j;obtain⟨u,cs',rfl,p,o⟩:=xG m;exact⟨⟨n,v,x,u⟩,cs',by simp[aO,ao],⟨q,t,p⟩,o⟩
theorem WO {s:aA} (h:s.id.length=32) :Row s (aO s):=by
 have g:=bo h;have j:(aO s).length=45:=by unfold aO aw;simp[g]
 refine⟨j,fun _=>rfl,?_,?_,fun m=>?_,jd s⟩
 ·unfold aO aw;simp
 ·unfold aO aw;simp[g]
 ·exact (aL.1 (Aj h)).2
def nx (s:aA) :Bool:=l5 s.op||decide (40<s.a6.l.length)
def nH (l:List aA) :Bool:=decide (∃ g∈l.take 21,nx g=true)||decide (20<l.length)
theorem UX {l:List aA} (h:nH l=false) :l.length<=20/\∀ t∈l,nx t=false:=by unfold nH at h;rw[qm,decide_eq_false_iff_not,decide_eq_false_iff_not] at h;refine⟨F,fun t j=>?_⟩;rw[aI F] at h;exact ql.2 fun g=>h.1 ⟨t,j,g⟩
theorem UB {s:aA} (h:vC s) (g:nx s=false) :h5 s:=by unfold nx at g;rw[qm,decide_eq_false_iff_not] at g;have j:=g.1;unfold l5 at j;simp only[qm,decide_eq_false_iff_not] at j;exact⟨⟨h.op.idsZ,F,⟨h.op.gN,h.op.q2,F⟩,F⟩,h.id,h.a6,F⟩
structure NA (c:Int) (s:ek) (k:Nat) (sgZ:aS) (l:ae) :Prop where
 nI:l=[.q 2 (bt c s)]
 e5:sgZ 1=.ptr 0 0 2
 hQ:sgZ 3=.i6 k
 jB:∀ (j:Nat) (t:aA),j<k->s.l[j]?=some t->nx t=false
theorem VU (c:Int) (s:ek) (ai:∀ t∈s.l,vC t) :aU 42 [.af (bt c s)] (.bool (nH s.l)):=by
 apply a2 func42 [];have B:bD (.Z 45) (cg s)=_:=b9 _;simp[bt];refine bB (min s.l.length 21) (NA c s) ?_ ⟨rfl,V,V,fun m t h=>F⟩;rintro k ak l hk ⟨rfl,D,G,R⟩;obtain⟨ak,rfl⟩:=kk D G;clear D G;by_cases h:k<s.l.length
 ·have h' : (k:Int)<(s.l.length:Int):=F;by_cases ap:k<=20
  ·have v:(k:Int)<=20:=F;obtain⟨y,C,aj⟩:=aQ (l:=s.l) (k:=k) h;have o:=WO (ai y aj).id;have q:bQ (.Z 45) (cg s) _=_:=c8 C;have W:=ci (k:=k) F;have P:=Kt y.op;have K:=dt y.op;have Q:bD (.Z 32) (ah y.a6)=_:=b9 _;have J:nx y=true->nH s.l=true:=fun g=>by
    unfold nH;rw[b7 (⟨y,cp.2 ⟨k,by rw[dQ F];exact C⟩,g⟩:∃ t∈s.l.take 21,nx t=true)];rfl
   obtain⟨ao,Y⟩:=al (aO y);rw[<-Y] at o q;obtain⟨T,I⟩:=al (aw y.op);have f1:=o.len;have f3:=o.op;have f5:=o.a6;rw[<-I] at f3 P K;have aq:T.length=11:=by rw[I];rfl
   simp[bt,B,h',v,q,f1,f3];refine au P (by simp[am,U.ar,K]) ?_;cases O:l5 y.op with
   | true=>
    have g:=J (by unfold nx;rw[O];rfl);rw[g];simp;exact aF
   | false=>
    by_cases H:40<y.a6.l.length
    ·have g:=J (by unfold nx;rw[b7 H];simp);have z:(40:Int)<(y.a6.l.length:Int):=F;rw[g];simp[q,f1,f5,Q,z];exact aF
    ·have z:¬ (40:Int)<(y.a6.l.length:Int):=F;simp[q,f1,f5,Q,z,W];refine⟨F,rfl,V,V,fun m t u j=>?_⟩;by_cases ae:m=k
     ·rw[ae,C] at j;obtain rfl:=cc j;unfold nx;rw[O,cu H];rfl
     ·exact R m t F j
  ·have v:¬ (k:Int)<=20:=F;have w:20<s.l.length:=F;have X:(20:Int)<(s.l.length:Int):=F;have g:nH s.l=true:=by unfold nH;simp[w]
   rw[g];simp[bt,B,h',v,X];exact aF
 ·have h' : ¬ (k:Int)<(s.l.length:Int):=F;have w:((20:Int)<(s.l.length:Int))<->20<s.l.length:=F;have g:nH s.l=decide (20<s.l.length):=by
   unfold nH;rw[cu (p:=∃ t∈s.l.take 21,nx t=true),Bb];rintro⟨t,j,S⟩;obtain⟨m,u⟩:=cp.1 j;have ag:=(aL.1 u).1;rw[cL] at ag;rw[dQ F] at u;rw[R m t F u] at S;cases S
  rw[g];simp[bt,B,h',w];exact aF
end Op.aJ
end Go.bh
namespace Go.bh
open Go Go.Proofs Go.Proofs.Tryz
namespace Op.aJ
open cl Op
theorem BM {l:ae} {v:U} {j:Nat} {es:aR} {x:List B} (h:aH 32 l v j (es.map ao)) (o:(ao x).length=32) (G:es.length<=1000000) :
  ∃ g m l',dZ (l++[.q 32 (ao x)]) 32 32 v (.Z 32 l.length 0 1 1 32)=some (g,l')/\aH 32 l' g m ((es++[x]).map ao)/\l.length+1<=l'.length/\(∀ b,b<l.length->v=.ad\/b≠j->l'[b]?=l[b]?)/\(l.length<=m\/(v≠.ad/\m=j))/\bq g=false:=by
 have C:=du;obtain⟨g,m,l',p,t,u,d1,w,f1⟩:=io (h.more [.q 32 (ao x)]) (by_:=32) (x:=.Z 32 l.length 0 1 1 32) (xs:=[ao x]) (by simp[cq,o,aI]) (by simp[o]) F F (by rw[C];simp;omega);have f2:bq g=false:=by rw[f1];simp
 refine⟨g,m,l',p,by rw[cV];exact t,by simpa using u,fun b z D=>?_,?_,f2⟩
 ·rw[d1 b (by simp;omega) D,aV z]
 ·rcases w with h | h | h
  ·exact .inl (by simp at h;omega)
  ·exact .inr h
  ·rw[h] at f2;cases f2
theorem UG {g:aR} {s:aA} (h:h5 s) :h5 (jQ g s):=by
 refine⟨h.op,h.id,fun y j=>?_,?_⟩
 ·have:y∈(xB g s.a6).l:=j;rw[EK] at this;exact h.a6 y (dx.1 this).1
 ·show (xB g s.a6).l.length<=_;rw[EK];exact dC (g2 _ _) h.len
theorem UF {j:aR} {l:List aA} (h:fr l) :fr (l8 j l):=fun s g=>by
 unfold l8 at g;obtain⟨m,_⟩:=dx.1 g;obtain⟨p,o,rfl⟩:=cE.1 m;exact UG (h p o)
theorem Jx {x:List B} {l:List aA} (h:fr l) :fr (c0 x l):=fun s g=>by
 unfold c0 at g;obtain⟨j,_⟩:=dx.1 g;obtain⟨o,m,rfl⟩:=cE.1 j;exact EL (h o m)
end Op.aJ
end Go.bh
namespace Go.bh
open Go Go.Proofs Go.Proofs.Tryz Go.Sort Go.Shelf
namespace Op.aJ
open cl Op
def lE (l:aR) :aR:=l.mergeSort fun x y=>!eM y x
theorem Iq:∀ {xs:aR},(∀ i∈xs,i.length=32)->∃ g:List qw,g.map (·.1)=xs
 | [],_=>⟨[],rfl⟩
 | x::xs,h=>by
  obtain⟨g,m⟩:=Iq (xs:=xs) fun i j=>h i (by simp[j])
  exact⟨⟨x,h x V⟩::g,by simp[m]⟩
theorem XF (g:List qw) :(sorted qK g).map (·.1)=lE (g.map (·.1)):=by unfold sorted lE;rw[List.map_mergeSort];intro a _ b _;rfl
theorem Vz {z:Nat} {l l' : ae} {v:U} {j:Nat} {es we:List (ag)} (h:aH z l v j es) (h' : gR z l' v j we) :aH z l' v j we:=by
 cases h with
 | nil j=>have:=h'.oX;subst this;exact .nil j
 | Z j n cap m cs es P V W X Q R T=>
  generalize g:U.Z z j 0 n cap m=w at h';cases h' with
  | nil=>cases g
  | Z Y ai ah J aj o O B G H I C S D=>
   injection g with _ K p q t u
   subst p q t u;exact .Z j n cap m o _ B G H I C F (by simpa using D)
theorem Vj {l:ae} {v:U} {j:Nat} {xs:aR} (J:∀ i∈xs,i.length=32) (O:xs.length<=1000000) (m:bq v=xs.isEmpty) (h:aH 32 l v j (xs.map ao)) {K:cB}
  (u:∀ l',l'.length=l.length->(∀ b,v=.ad\/b≠j->l'[b]?=l[b]?)->aH 32 l' v j ((lE xs).map ao)->K (.aX []) l') :cM 136 [v,.fn 137 [] []] l K:=by
 by_cases o:xs=[]
 ·subst o;have p:v=.ad:=gk.1 (by rw[m];rfl);subst p;exact Xz .ad _ rfl l (u l rfl (fun _ _=>rfl) (by simpa [lE] using aH.nil j))
 ·obtain⟨t,g⟩:=Iq J;have D:t.map tO=xs.map ao:=by rw[<-g,iL];rfl
  have H:(sorted qK t).map tO=(lE xs).map ao:=by rw[<-g,<-XF,iL];rfl
  have P:t.length=xs.length:=by rw[<-g];simp
  have p:v≠.ad:=fun I=>by subst I;rw[show bq .ad=true from rfl] at m;exact o (by simpa using m.symm)
  rw[<-D] at h;exact XD qK (XB (by intro args w;exact enters_of func137 bn rfl args w)) L3 Ov Hv QD (fun x y=>JM x.1 y.1 x.2 y.2) h.q F (fun G=>bV (by rw[<-g,G];rfl) o)
   (fun l' h1 z B=>u l' h1 (fun b C=>z b (C.resolve_left p)) (by rw[<-H];exact Vz h B))
theorem Lx (l:aR) (y:List B) :y∈lE l<->y∈l:=by unfold lE;exact List.mem_mergeSort
theorem Lw (l:aR) :(lE l).length=l.length:=by unfold lE;exact List.length_mergeSort l
theorem I4 (l:aR) :∀ m,m<=l.length->∀ y,y∈j2 l m<->y∈l.take m
 | 0,_,y=>by simp[j2]
 | m+1,v,y=>by
  have t:=I4 l m F;have q:m<l.length:=F;obtain⟨o,j,_⟩:=aQ q;rw[tL,fE,t y,ei,j,fE,dI j];simp only[Option.toList_some,fQ];by_cases h:m=0\/o≠bx l (m - 1)
  ·rw[ak h];simp
  ·rw[ai h];have u:m≠0:=fun e=>h (.inl e)
   have h1:o=bx l (m - 1):=Decidable.byContradiction fun e=>h (.inr e)
   obtain⟨w,g,_⟩:=aQ (l:=l) (k:=m - 1) F;rw[dI g] at h1;simp only[jt,or_false];exact⟨.inl,fun p=>p.elim id fun e=>by
    rw[e,h1];exact cp.2 ⟨m - 1,by rw[dQ F];exact g⟩⟩
theorem Th (l:aR) (y:List B) :y∈df l<->y∈l:=by unfold df;rw[I4 l _ (aN _),e0]
end Op.aJ
end Go.bh
namespace Go.bh
open Go Go.Proofs Go.Proofs.Tryz
namespace Op.aJ
open cl Op
def allM (l:List aA) :aR:=l.flatMap fun s=>s.a6.l
def mR (l:List aA) :b2:=if allM l=[] then none else some (df (lE (allM l)))
def zs (c:Int) (l:List aA) :U:=if cH c l=0 then .aX [ah (mR l),.i6 0] else .aX [.ad,.i6 (cH c l)]
theorem xh {l:ae} {a b j m:U} (h1:Rd l a j) (p:Rd l b m) :Rd l (.aX [a,b]) (.aX [j,m]):=by
 refine .aX _ _ rfl fun o x q g h=>?_
 rcases o with _ | _ | o
 ·simp at g h;subst g h;exact h1
 ·simp at g h;subst g h;exact p
 ·simp at g
theorem On {l:List aA} {n:Nat} (h:∀ s∈l,s.a6.l.length<=n) :(allM l).length<=l.length*n:=by
 induction l with
 | nil=>simp[allM]
 | cons s l m=>
  have h1:=h s V;have g:=m fun o j=>h o (by simp[j])
  unfold allM at g ⊢;rw[List.flatMap_cons,cI,dM,eP];omega
structure NN (c:Int) (s:ek) (k:Nat) (v:U) (l:ae) :Prop where
 nT:l[0]?=some (.q 2 (bt c s))
 ex:∃ j,aH 32 l v j ((allM (s.l.take k)).map ao)/\(v=.ad\/1<=j)/\bq v=(allM (s.l.take k)).isEmpty
 len:1<=l.length
structure NP (c:Int) (s:ek) (k:Nat) (sgZ:aS) (l:ae) :Prop where
 Rs:sgZ 14=cg s
 aaF:sgZ 15=.i6 s.l.length
 aaG:sgZ 16=.i6 k
 h:∃ v,sgZ 5=v/\NN c s k v l
theorem Y8 (c:Int) (s:ek) (v:fr s.l) (az:s.l.length<=1000000) (u:(allM s.l).length<=1000000) :aU 87 [.af (bt c s)] (zs c s.l):=by
 apply a2 func87 [];unfold zs;have aB:bD (.Z 45) (cg s)=_:=b9 _;have ax:=fT s;have I:=u3 c s v az;have J:am [U.af (bt c s)]=true:=by simp[bt,am,U.ar,ax]
 have aH:=du;by_cases o:cH c s.l=0
 ·simp[bt];refine au I J ?_;simp[o,aB];refine bB s.l.length (NP c s) ?_ ⟨V,V,V,.ad,V,⟨rfl,⟨0,.nil 0,.inl rfl,rfl⟩,V⟩⟩;rintro k aS l hk ⟨C,D,G,aW,H,hH⟩;obtain⟨aS,rfl⟩:=eO C D G H;clear C D G H;simp;refine fk (fun h=>?_) (fun h=>?_)
  ·simp only[bK] at h;obtain⟨y,Q,aM⟩:=aQ (l:=s.l) (k:=k) F;have R:=v y aM;have p:=eQ R;have ai:=ci (k:=k) F;have O:bQ (.Z 45) (cg s) _=_:=c8 Q;obtain⟨T,⟨S,m,d1,j⟩,aC⟩:=hH;have w:allM (s.l.take (k+1))=allM (s.l.take k)++y.a6.l:=by unfold allM;rw[ei,Q,xU];simp
   have aA:(allM (s.l.take (k+1))).length<=1000000:=by
    refine dC ?_ u;have:allM s.l=allM (s.l.take (k+1))++allM (s.l.drop (k+1)):=by unfold allM;rw[<-xU,i3]
    rw[this,cI];omega
   rw[w,cI] at aA;obtain⟨X,av⟩:=al (aO y);rw[<-av] at p O;have f1:=p.len;have f5:=p.a6;have aJ:=gZ f1;obtain⟨W,aR,z,Y,B,ae,ag,ee,aj⟩:=io (m.more [.q 45 X]) (by_:=32) (x:=ah y.a6) (xs:=y.a6.l.map ao) (by simp[ah]) (fun e t=>by obtain⟨aY,aP,rfl⟩:=cE.1 t;exact bo (R.a6 aY aP)) F F (by rw[aH];simp;omega);rw[<-cV,<-w] at B;have a0:∀ cS:aq,(l++[cS])[l.length]?=some cS:=fun cS=>od
   simp[O,f1,aJ,f5,Y,aI];refine bR.bm ?_;simp[ai];have aD:bq W=(allM (s.l.take (k+1))).isEmpty:=by
    rw[aj,j,w];cases allM (s.l.take k)<;>cases y.a6.l<;>rfl
   refine⟨F,V,V,V,W,V,⟨?_,⟨aR,B,?_,aD⟩,?_⟩⟩
   ·rw[ag 0 V (d1.imp id fun h=>F),aV F];exact T
   ·rcases ee with g | ⟨g,ap⟩ | g
    ·right;simp at g;omega
    ·right;rw[ap];exact d1.resolve_left g
    ·exact .inl g
   ·simp at ae;omega
  ·simp[h];have ay:k=s.l.length:=by simp at h;omega
   obtain⟨T,⟨S,m,d1,j⟩,aC⟩:=hH;rw[ay,e0] at m j;have P:∀ i∈allM s.l,i.length=32:=fun i K=>by
    unfold allM at K;obtain⟨aT,aK,hit⟩:=FC.1 K;exact (v aT aK).a6 i hit
   refine Vj P u j m fun z a3 a4 aZ=>?_
   simp;have aG:cd 32 ao (z.take 1) z aW (lE (allM s.l)) (allM s.l).isEmpty:=⟨S,aZ,by simp;omega,fun b aw=>by
    rw[cL] at aw;rw[dQ F],d1.imp id fun h=>by rw[cL];omega,j⟩
   refine Ha aG (fun x aL=>P x ((Lx _ _).1 aL)) (by rw[Lw];exact u) fun r a1 aE=>?_
   simp;rw[ak o];refine xh (aE.rd cG (mR s.l) ?_ ?_) (.same _ rfl)
   ·unfold mR;cases allM s.l<;>rfl
   ·unfold mR;split
    ·rename_i t;rw[t];simp[lE,df,j2]
    ·rfl
 ·simp[bt];refine au I J ?_;simp[o];exact aF
end Op.aJ
namespace Op.aJ
open cl Op
def gn (a b:aK) :Bool:=decide (a.eL=b.eL)&&(decide (a.ax.l=b.ax.l)&&(decide (a.e9=b.e9)&&(dz (e4 a.act) (e4 b.act)&&(decide (a.e=b.e)&&decide (a.s=b.s)))))
theorem C3:mP prog 20 53=some [.i .u32,.i .u32]:=bn
theorem Am (a b c d:D) :ea prog .eql 53 (.af [bg a,bg b]) (.af [bg c,bg d])=some (.bool (decide (a=c)&&decide (b=d))):=by rw[vL C3 bn bn rfl rfl];simp[dz,U.beq]
theorem z6 (a b:aK) (o:dk a) (p:dk b) :aU 71 [.af (aw a),.af (aw b)] (.bool (gn a b)):=by
 apply a2 func71 [];unfold gn;have q:=bO a.ax;have t:=bO b.ax;have u:=sL a.ax b.ax o.idsZ p.idsZ o.len;have g:=yd a.act b.act;have v:=Am a.e a.s b.e b.s;have w:(ah a.ax).cells=some [ah a.ax]:=by cases a.ax<;>rfl
 have z:(ah b.ax).cells=some [ah b.ax]:=by cases b.ax<;>rfl
 unfold e4 at g ⊢;simp[aw];by_cases h1:a.eL=b.eL
 ·simp[h1];refine au u (by simp[am,q,t]) ?_;by_cases h:a.ax.l=b.ax.l
  ·by_cases j:a.e9=b.e9
   ·cases m:dz [a7 a.act.kind,.str a.act.key,a7 a.act.val.kind,.i6 a.act.val.num,c6 a.act.val.bits,.str a.act.val.text] [a7 b.act.kind,.str b.act.key,a7 b.act.val.kind,.i6 b.act.val.num,c6 b.act.val.bits,.str b.act.val.text] with
    | false=>
     rw[m] at g;simp[h1,h,j,g];exact aF
    | true=>
     rw[m] at g;simp[h1,h,j,g,v];exact aF
   ·simp[h1,h,j];exact aF
  ·simp[h1,h];exact aF
 ·simp[h1];exact aF
theorem Lh (a:aK) :gn a a=true:=by unfold gn;simp[e4,dz,U.beq]
def sM (a b:aA) :Bool:=decide (a.aC=b.aC)&&(decide (a.id=b.id)&&(gn a.op b.op&&decide (a.a6.l=b.a6.l)))
def lC (a b:List aA) :Bool:=decide (a.length=b.length)&&decide (∀ k,k<a.length->sM (e8 a k) (e8 b k)=true)
structure N5 (a b:ek) (k:Nat) (sgZ:aS) (l:ae) :Prop where
 kI:sgZ 0=cg a
 e5:sgZ 1=cg b
 kJ:sgZ 5=.i6 k
 jB:∀ j,j<k->sM (e8 a.l j) (e8 b.l j)=true
theorem V3 (a b:ek) (aE:fr a.l) (aH:fr b.l) (a7:a.l.length<=1000000) :aU 82 [cg a,cg b] (.bool (lC a.l b.l)):=by
 apply a2 func82 [];have J:bD (.Z 45) (cg a)=_:=b9 _;have aj:bD (.Z 45) (cg b)=_:=b9 _;have a3:=fT a;have a4:=fT b;by_cases D:a.l.length=b.l.length
 ·simp[J,aj,D];refine bB b.l.length (N5 a b) ?_ ⟨V,V,V,fun B h=>F⟩;rintro k aT l hk ⟨W,X,Y,ak⟩;obtain⟨aT,rfl⟩:=gF W X Y;clear W X Y;simp[J,D];refine fk (fun h=>?_) (fun h=>?_)
  ·simp only[bK] at h;obtain⟨x,P,aR⟩:=aQ (l:=a.l) (k:=k) F;obtain⟨y,Q,aS⟩:=aQ (l:=b.l) (k:=k) F;have o:=aE x aR;have z:=aH y aS;have j:=eQ o;have m:=eQ z;have az:=ci (k:=k) F;have v:bQ (.Z 45) (cg a) _=_:=c8 P;have w:bQ (.Z 45) (cg b) _=_:=c8 Q;have O:=z6 x.op y.op o.op z.op;have aP:=sL x.a6 y.a6 o.a6 z.a6 o.len;have K:=oN o.id z.id;have a8:=bo o.id;have a9:=bo z.id;have ah:=dt x.op;have ai:=dt y.op;have aJ:=bO x.a6;have aK:=bO y.a6;have G:sM x y=false->lC a.l b.l=false:=fun aI=>by
    unfold lC;rw[cu (p:=∀ k,k<a.l.length->sM (e8 a.l k) (e8 b.l k)=true),vb];intro aG;have:=aG k F;rw[eR P,eR Q,aI] at this;cases this
   have u:sM x y=(decide (x.aC=y.aC)&&(decide (x.id=y.id)&&(gn x.op y.op&&decide (x.a6.l=y.a6.l)))):=rfl;obtain⟨aY,aB⟩:=al (aO x);obtain⟨aZ,aD⟩:=al (aO y);obtain⟨ax,ae⟩:=al (aw x.op);obtain⟨ay,ag⟩:=al (aw y.op);rw[<-aB] at j v;rw[<-aD] at m w;have H:=j.len;have R:=j.aC;have ao:=j.op;have ap:=j.id;have aV:=j.a6;have I:=m.len;have S:=m.aC;have aq:=m.op;have av:=m.id;have aW:=m.a6;rw[<-ae] at ao O ah;rw[<-ag] at aq O ai;have a0:ax.length=11:=by rw[ae];rfl
   have a1:ay.length=11:=by rw[ag];rfl
   by_cases q:x.aC=y.aC
   ·by_cases t:x.id=y.id
    ·rw[t,b7 rfl] at K;simp[v,w,H,R,ao,ap,I,S,aq,av,K,q,t];refine au O (by simp[am,U.ar,ah,ai]) ?_;cases T:gn x.op y.op with
     | false=>
      have g:=G (by rw[u,T];simp);rw[g];simp;exact aF
     | true=>
      simp[v,w,H,aV,I,aW];refine au aP (by simp[am,aJ,aK]) ?_;by_cases C:x.a6.l=y.a6.l
      ·simp[C,az];exact⟨F,V,V,V,fun B aL=>by
        by_cases aM:B=k
        ·rw[aM,eR P,eR Q,u,T];simp[q,t,C]
        ·exact ak B F⟩
      ·have g:=G (by rw[u];simp[C]);rw[g];simp[C];exact aF
    ·have g:=G (by rw[u];simp[t]);rw[g];simp[v,w,H,R,ap,I,S,av,K,q,t];exact aF
   ·have g:=G (by rw[u];simp[q]);rw[g];simp[v,w,H,R,I,S,q];exact aF
  ·simp[h];have a5:k=b.l.length:=by simp at h;omega
   have g:lC a.l b.l=true:=by
    unfold lC;rw[b7 D,lH];exact b7 fun B aL=>ak B F
   rw[g];exact aF
 ·have aA:¬ (a.l.length:Int)=(b.l.length:Int):=F;have g:lC a.l b.l=false:=by unfold lC;rw[cu D];rfl
  rw[g];simp[J,aj,aA];exact aF
theorem V2 (c c' : Int) (a b:ek) (g:fr a.l) (j:fr b.l) (p:a.l.length<=1000000) :aU 38 [.af (bt c a),.af (bt c' b)] (.bool (decide (c=c')&&lC a.l b.l)):=by
 apply a2 func38 [];have m:=fT a;have o:=fT b;have q:=V3 a b g j p;by_cases h:c=c'
 ·simp[bt,h];refine au q (by simp[am,m,o]) ?_;cases lC a.l b.l<;>simp[h]<;>exact aF
 ·simp[bt,h];exact aF
end Op.aJ
namespace Op.aJ
open cl Op
theorem Tv {s:aA} (h:hC s) :s.a6.l≠[]:=by have:=h.2.2.2.2;unfold eV at this;rw[bU,bK] at this;intro e;rw[e] at this;simp at this
theorem Tu {s:aA} (h:hC s) :s.a6.l.length<=4:=by
 obtain⟨h1,_,_,_,g⟩:=h;unfold eV at g;rw[bU,bU] at g;have p:=wU (Ef g.2.1) (m:=s.op.ax.l) fun x o=>iM (gb.1 g.2.2 x o)
 have q:¬ 4<s.op.ax.l.length:=fun j=>by
  unfold dd at h1;rw[ak j] at h1;cases h1
 omega
theorem I5 (l:List aA) :(mR l).l=df (lE (allM l)):=by
 unfold mR;split
 ·rename_i h;rw[h];simp[lE,df,j2]
 ·rfl
theorem I6 (l:List aA) (y:List B) :y∈(mR l).l<->∃ s∈l,y∈s.a6.l:=by rw[I5,Th,Lx];unfold allM;exact FC
theorem Tq (l:List aA) :(mR l).l.length<=(allM l).length:=by rw[I5];unfold df;refine dC (Ca _ _) ?_;rw[Lw];exact aN _
theorem XY {x:List B} {s:aA} (h:x∉s.a6.l) :er x s=s:=by
 unfold er;have:n0 x s.a6=s.a6:=by
  cases g:s.a6 with
  | none=>rfl
  | some a=>
   rw[g] at h;exact ch some (rG.2 fun y j=>by
    unfold fA;rw[cu (fun e=>h (by rw[<-e];exact j))];rfl)
 rw[this]
theorem PL {x:List B} {l:List aA} (q:∀ s∈l,hC s) (h:∀ s∈l,x∉s.a6.l) :cP x l=l/\c0 x l=[]:=by
 have o:l.map (er x)=l:=(mr (f:=er x) (g:=id) fun s j=>XY (h s j)).trans (List.map_id l);have m:∀ s∈l,gone s=false:=fun s j=>by
  have:=Tv (q s j);unfold gone;cases p:s.a6.l with
  | nil=>exact bV p this
  | cons a r=>rfl
 unfold cP c0;rw[o];exact⟨rG.2 fun s j=>by rw[m s j];rfl,List.filter_eq_nil_iff.2 fun s j=>by rw[m s j];simp⟩
end Op.aJ
end Go.bh

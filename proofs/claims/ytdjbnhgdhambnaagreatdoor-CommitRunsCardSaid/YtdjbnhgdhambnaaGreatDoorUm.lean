/-
  A store takes an operation, in the program, walked (the walk). (no i6)
-/
import Derived.Test.YtdjbnhgdhambnaaGreatDoorUl
import Derived.Test.YtdjbnhgdhambnaaGreatDoorRows
import Derived.Shelf.SlSortCmp.WholeK
import Derived.Shelf.SlGeneric
set_option maxHeartbeats 16000000
set_option maxRecDepth 100000
set_option linter.unusedVariables false
set_option linter.unusedSimpArgs false
set_option linter.unnecessarySimpa false
namespace Go.bl
open Go Go.Proofs Go.Proofs.Tryz
namespace Op
open cu
theorem Yr (s:c9) (v:iN s) (h:gT s) (o:aJ) (t:dm o) :aW 102 [.af (bJ s),.af (av o)] (.int .i64 (ei o)):=by apply a8 func102 [];have w:(bJ s).length=5:=rfl;have q:(bJ s).take 5=bJ s:=rfl;have p:=je s;have j:(av o).length=11:=rfl;have m:(av o).take 11=av o:=rfl;have u:=du o;have g:=KU s v;rw[(uJ s).2 h] at g;have z:=xw o t;simp[w,q,j];refine au g (by simp[aq,U.ar,p]) ?_;simp[j,m];refine au z (by simp[aq,U.ar,u]) ?_;simp;exact aL
theorem Lm (s:c9) (u:iN s) (h:gT s) (o:aJ) (W:dm o) (ak:ei o=0) (aT:iv s o=1) :
  aW 55 [.af (bJ s),.af (av o)] (.a1 [.af (bJ (nG s (bd o) o)),.int .u8 1,.int .i64 0]):=by
 apply a8 func55 [cR 0 5++[[6],[5,0]]];have bw:=ds;obtain⟨bT,bU,bX⟩:=Cz h aT;have a0:=mF o;have b8:=u.no;have T:=Yr s u h o W;rw[ak] at T;have I:=uQ o W;rw[sP ak] at I;have bs:eo (bd o)=.af (am (bd o)):=rfl;rw[bs] at I;have v:=Yn o W (bd o) a0 s.ay u.ay F s.cap s.aG.bL (dp s.aG.ai) (ah s.aG.bE) (ky _) (bM _);change aW _ [.af (bJ s),.af (av o),.af (am (bd o))] (.int .u8 (iv s o)) at v;rw[aT] at v;have Y:=Xh s.aG u.aG h.aG o W ak bX bT bU;have P:(bJ s).length=5:=rfl;have R:(bJ s).take 5=bJ s:=rfl;have aj:=je s;have aM:(bJ s).tail.take 3=bN s.aG:=rfl;have bp:((bJ s).drop 1).take 3=bN s.aG:=rfl;have bn:=oq s.aG;have K:(av o).length=11:=rfl;have G:(av o).take 11=av o:=rfl;have J:=du o;have z:=br a0;have a2:=cG (bd o);obtain⟨X,aO⟩:=al (am (bd o));rw[<-aO] at I v Y z a2;have aP:X.take 32=X:=aH F;have aZ:aw (bZ 32 (.int .u8 0)) 0 X=X:=cy (by rw[z];rfl);obtain⟨O,bk⟩:=al (av o);obtain⟨S,aL⟩:=al (bJ s);rw[<-bk] at K G J T I v Y ⊢;rw[<-aL] at P R aj bp aM T v ⊢;obtain⟨Q,aD⟩:=al (ft s.aG (bd o) o);rw[<-aD] at Y;have aF:(bN Q).length=3:=rfl;simp[P,R,K,G];refine au T (by simp[aq,U.ar,aj,J]) ?_;simp[K,G];refine au I (by simp[aq,U.ar,J]) ?_;simp[P,R,K,G,aZ,z,aP];refine au v (by simp[aq,U.ar,aj,J,a2]) ?_;simp[P,R];refine Xs s u aL fun az w m g H bv ca b6 bl cb=>?_
 have bf:g[0]?=some (.cells 5 S):=by rw[H.2 0 V];rfl
 have aC:g[1]?=some (.cells 11 O):=by rw[H.2 1 V];rfl
 have bh:g[2]?=some (.cells 5 [.int .i64 0,.ae,.ae,.int .i64 0,.ae]):=by rw[H.2 2 V];rfl
 have bi:g[3]?=some (.cells 32 X):=by rw[H.2 3 V];rfl
 have ge:4<=g.length:=by have:=H.1;simpa using this
 have C:∀ (m:ad) (c:Nat) (b:ao),g[c]?=some b->(g++m)[c]?=some b:=fun m c b aQ=>by rw[aU (aX aQ)];exact aQ
 have a5:∀ (m:ad) (h:0<(g++m).length),(g++m)[0]'h=.cells 5 S:=fun m h=>(aK.1 (C m 0 _ bf)).2
 have bY:∀ (m:ad) (h:1<(g++m).length),(g++m)[1]'h=.cells 11 O:=fun m h=>(aK.1 (C m 1 _ aC)).2
 have bF:∀ y∈s.ay.l,(am y).length=32:=fun y bD=>br (u.ay y bD)
 obtain⟨b,bq,aR,b3,b4⟩:=bv.own bF;have cc:=bl.cells;simp[aw,C _ _ _ aC,a5,P,aM,K,G];refine au Y (by simp[aq,U.ar,bn,J]) ?_;have aI:(bN Q).take 3=bN Q:=rfl;have bz:aw [U.ae,.ae,.int .i64 0] 0 (bN Q)=bN Q:=cy rfl;simp[C _ _ _ bi,aF,aI,bz,z,aP,aZ];obtain⟨t,p⟩:=al (g++[ao.cells 5 [U.int .i64 s.cap,az,ah s.aG.bE,U.int .i64 s.aG.bL,w],ao.cells 3 (bN Q),ao.cells 32 X,ao.cells 32 X]);have aS:w=.ae\/b<g.length:=aR.lt;have b1:6<=b:=by simpa using bq
 have bR:aE 32 t w b (s.ay.l.map am):=by rw[p];exact aR.more _
 have bK:t[g.length]?=some (ao.cells 5 [U.int .i64 s.cap,az,ah s.aG.bE,U.int .i64 s.aG.bL,w]):=by rw[p];simp
 have bH:t[g.length+1]?=some (ao.cells 3 (bN Q)):=by rw[p];simp
 have bG:t[2]?=some (.cells 5 [.int .i64 0,.ae,.ae,.int .i64 0,.ae]):=by rw[p];exact C _ _ _ bh
 obtain⟨B,ax,D,a6,aB,b0,a7,a9,bb⟩:=hN (by_:=32) (x:=.Z 32 (g.length+3) 0 1 1 32) (xs:=[X]) bR (by rw[p];simp[cr,z,aH]) (by simp[z]) F F (by rw[bw];simp;omega);have ap:bo B=false:=by rw[bb];simp
 have bC:B≠.ae:=fun e=>by rw[e] at ap;cases ap
 have b2:t.length=g.length+4:=by rw[p];simp
 have ag:∀ (c:Nat) (q:ao),(c=2\/g.length<=c)->t[c]?=some q->D[c]?=some q:=fun c q b5 aY=>by
  rw[a7 _ (aX aY) (by rcases aS with r | r;exact .inl r;exact .inr F)];exact aY
 have a4:=ag _ _ (.inr (aN _)) bK;have bI:=ag _ _ (.inr F) bH;have a3:=ag _ _ (.inl rfl) bG;have aV:ax≠g.length/\ax≠2:=by
  rcases a9 with q | ⟨q1,cd⟩ | q
  ·exact⟨F,F⟩
  ·have:=aS.resolve_left q1;exact⟨F,F⟩
  ·exact bW q bC
 rw[<-p];simp[a6];refine bP.bm ?_;have dW:=aB.cells;have bO:∀ c:ao,(D.set g.length c)[g.length]?=some c:=fun c=>bV (aX a4)
 have t3:∀ c:ao,(D.set g.length c)[2]?=some (.cells 5 [.int .i64 0,.ae,.ae,.int .i64 0,.ae]):=fun c=>by rw[bg F];exact a3
 have t4:∀ c d:ao,((D.set g.length c).set 2 d)[2]?=some d:=fun c d=>bV (by simpa using aX a3)
 have bA:aw [az,ah s.aG.bE,U.int .i64 s.aG.bL,w] 0 (bN Q)=[dp Q.ai,ah Q.bE,U.int .i64 Q.bL,w]:=rfl;have b9:∀ a b c d:U,aw [a,b,c,d] 3 [B]=[a,b,c,B]:=fun _ _ _ _=>rfl
 have bB:∀ a b c d:U,aw [U.ae,.ae,.int .i64 0,.ae] 0 [a,b,c,d]=[a,b,c,d]:=fun _ _ _ _=>rfl
 simp[a4,bI,dW,aF,aI,bA,bB,bO,t3,t4];have bt:nG s (bd o) o=⟨s.cap,⟨Q.ai,Q.bE,Q.bL⟩,some (s.ay.l++[bd o])⟩:=by unfold nG;rw[<-aD]
 rw[bt];obtain⟨aA,bj⟩:=al (ao.cells 5 [U.int .i64 s.cap,dp Q.ai,ah Q.bE,U.int .i64 Q.bL,B]);have bS:aE 32 ((D.set g.length aA).set 2 aA) B ax ((s.ay.l++[bd o]).map am):=by
  rw[cS,di,lI,<-aO];exact aB.cl (.inr (by rw[bg (fun e=>aV.2 e.symm),bg (fun e=>aV.1 e.symm)]))
 rw[<-bj];have bx:=bS.q.gG cG (some (s.ay.l++[bd o])) ap rfl;refine .a1 _ _ rfl fun i c bc h1 j=>?_
 rcases i with _ | _ | _ | i
 ·simp at h1 j;subst h1 j;refine .af _ _ rfl fun i c bc h1 j=>?_
  rcases i with _ | _ | _ | _ | _ | i
  ·simp[bJ] at h1 j;subst h1 j;exact .same _ rfl
  ·simp[bJ] at h1 j;subst h1 j;exact .same _ (ky _)
  ·simp[bJ] at h1 j;subst h1 j;exact .same _ (bM _)
  ·simp[bJ] at h1 j;subst h1 j;exact .same _ rfl
  ·simp[bJ] at h1 j;subst h1 j;exact bx
  ·simp at h1
 ·simp at h1 j;subst h1 j;exact .same _ rfl
 ·simp at h1 j;subst h1 j;exact .same _ rfl
 ·simp at h1
end Op
end Go.bl
namespace Go.Proofs
open Go.Shelf
def Tryz.W7:Go.Shelf.Ren:=⟨fun | 6=>136 | 15=>201 | 14=>200 | 28=>243 | 29=>220 | 20=>235 | 21=>236 | 22=>237 | 23=>238 | 24=>239 | 25=>240 | 26=>241 | 27=>242 | 46=>267 | 47=>268 | 48=>269 | 49=>270 | 50=>271 | 57=>284 | n=>n,fun | 22=>23 | 24=>57 | 25=>197 | 3=>3 | 39=>259 | 0=>0 | 53=>46 | 55=>47 | 4=>4 | 46=>288 | 45=>287 | 50=>206 | 5=>5 | 9=>9 | 66=>314 | 70=>318 | 76=>330 | 77=>331 | n=>n,fun | n=>n⟩
theorem Tryz.W5:Go.Proofs.SlLaysF0.n6 Tryz.prog Tryz.W7 where
 mixed:=by kernel_rfl
 f6:=⟨ "slices.SortFunc[[]braid/api.ID,braid/api.ID]",by decide,Tryz.func136.trans (congrArg some (by kernel_rfl))⟩
 f14:=⟨ "slices.pdqsortCmpFunc[braid/api.ID]",by decide,Tryz.func200.trans (congrArg some (by kernel_rfl))⟩
 f15:=Tryz.func201.trans (congrArg some (by kernel_rfl))
 f20:=⟨ "slices.insertionSortCmpFunc[braid/api.ID]",by decide,Tryz.func235.trans (congrArg some (by kernel_rfl))⟩
 f21:=⟨ "slices.heapSortCmpFunc[braid/api.ID]",by decide,Tryz.func236.trans (congrArg some (by kernel_rfl))⟩
 f22:=⟨ "slices.breakPatternsCmpFunc[braid/api.ID]",by decide,Tryz.func237.trans (congrArg some (by kernel_rfl))⟩
 f23:=⟨ "slices.choosePivotCmpFunc[braid/api.ID]",by decide,Tryz.func238.trans (congrArg some (by kernel_rfl))⟩
 f24:=⟨ "slices.reverseRangeCmpFunc[braid/api.ID]",by decide,Tryz.func239.trans (congrArg some (by kernel_rfl))⟩
 f25:=⟨ "slices.partialInsertionSortCmpFunc[braid/api.ID]",by decide,Tryz.func240.trans (congrArg some (by kernel_rfl))⟩
 f26:=⟨ "slices.partitionEqualCmpFunc[braid/api.ID]",by decide,Tryz.func241.trans (congrArg some (by kernel_rfl))⟩
 f27:=⟨ "slices.partitionCmpFunc[braid/api.ID]",by decide,Tryz.func242.trans (congrArg some (by kernel_rfl))⟩
 f28:=Tryz.func243.trans (congrArg some (by kernel_rfl))
 f29:=Tryz.func220.trans (congrArg some (by kernel_rfl))
 f46:=⟨ "slices.siftDownCmpFunc[braid/api.ID]",by decide,Tryz.func267.trans (congrArg some (by kernel_rfl))⟩
 f47:=Tryz.func268.trans (congrArg some (by kernel_rfl))
 f48:=Tryz.func269.trans (congrArg some (by kernel_rfl))
 f49:=⟨ "slices.medianAdjacentCmpFunc[braid/api.ID]",by decide,Tryz.func270.trans (congrArg some (by kernel_rfl))⟩
 f50:=⟨ "slices.medianCmpFunc[braid/api.ID]",by decide,Tryz.func271.trans (congrArg some (by kernel_rfl))⟩
 f57:=⟨ "slices.order2CmpFunc[braid/api.ID]",by decide,Tryz.func284.trans (congrArg some (by kernel_rfl))⟩
 t0:=Tryz.underlying0
 a0:=Tryz.isAgg0
 z0:=Tryz.sizeOf0
 v0:=Tryz.zeroValue0
 t3:=Tryz.underlying3
 a3:=Tryz.isAgg3
 z3:=Tryz.sizeOf3
 v3:=Tryz.zeroValue3
 t4:=Tryz.underlying4
 a4:=Tryz.isAgg4
 z4:=Tryz.sizeOf4
 v4:=Tryz.zeroValue4
 t5:=Tryz.underlying5
 a5:=Tryz.isAgg5
 z5:=Tryz.sizeOf5
 v5:=Tryz.zeroValue5
 t9:=Tryz.underlying9
 a9:=Tryz.isAgg9
 z9:=Tryz.sizeOf9
 v9:=Tryz.zeroValue9
 t22:=Tryz.underlying23
 a22:=Tryz.isAgg23
 z22:=Tryz.sizeOf23
 v22:=Tryz.zeroValue23
 t25:=Tryz.underlying197
 a25:=Tryz.isAgg197
 z25:=Tryz.sizeOf197
 v25:=Tryz.zeroValue197
 t39:=Tryz.underlying259
 a39:=Tryz.isAgg259
 z39:=Tryz.sizeOf259
 v39:=Tryz.zeroValue259
 t45:=Tryz.underlying287
 a45:=Tryz.isAgg287
 z45:=Tryz.sizeOf287
 v45:=Tryz.zeroValue287
 t46:=Tryz.underlying288
 a46:=Tryz.isAgg288
 z46:=Tryz.sizeOf288
 v46:=Tryz.zeroValue288
 t50:=Tryz.underlying206
 a50:=Tryz.isAgg206
 z50:=Tryz.sizeOf206
 v50:=Tryz.zeroValue206
 t53:=Tryz.underlying46
 a53:=Tryz.isAgg46
 z53:=Tryz.sizeOf46
 v53:=Tryz.zeroValue46
 t55:=Tryz.underlying47
 a55:=Tryz.isAgg47
 z55:=Tryz.sizeOf47
 v55:=Tryz.zeroValue47
 t66:=Tryz.underlying314
 a66:=Tryz.isAgg314
 z66:=Tryz.sizeOf314
 v66:=Tryz.zeroValue314
 t70:=Tryz.underlying318
 a70:=Tryz.isAgg318
 z70:=Tryz.sizeOf318
 v70:=Tryz.zeroValue318
 t76:=Tryz.underlying330
 a76:=Tryz.isAgg330
 z76:=Tryz.sizeOf330
 v76:=Tryz.zeroValue330
 t77:=Tryz.underlying331
 a77:=Tryz.isAgg331
 z77:=Tryz.sizeOf331
 v77:=Tryz.zeroValue331
end Go.Proofs
namespace Go.bl
open Go Go.Proofs Go.Proofs.Tryz Go.Sort Go.Shelf
open cu
abbrev qh:={l:List B // l.length=32}
instance:Inhabited qh:=⟨⟨List.replicate 32 0#8,V⟩⟩
def tH (x:qh) :ag:=x.1.map a7
def qw (x y:qh) :Int:=bQ x.1 y.1
theorem LG:SWO (ltOf qw) where
 irrefl x:=Ew.irrefl x.1
 trans x y z:=Ew.trans x.1 y.1 z.1
 ntrans x y z:=Ew.ntrans x.1 y.1 z.1
theorem N7 (x y:qh) (h1:ltOf qw x y=false) (g:ltOf qw y x=false) :x=y:=Subtype.ext (N8 x.1 y.1 h1 g)
theorem Hb (x:qh) :(tH x).length=32:=by unfold tH;rw[cg,x.2]
theorem Qc (x:qh) :∀ c∈tH x,um c=true:=fun c g=>by obtain⟨b,_,rfl⟩:=cC.1 g;rfl
theorem W6 {g:Nat} (j:∀ args w,(callFunc g args).run prog w=.ok (.enter g args) w) :Bf prog 136 g 32 (fun x=>(tH x).map valOf) qw:=
 fun h q cap d w m hH hblk o=>
  AnyQ.slices_SortFunc Tryz.W5 32 (by intro w;exact Tryz.isAgg57 w) (by intro w;exact Tryz.sizeOf57 w) _ (fun x=>by rw[cg,Hb]) (fun x t p=>by obtain⟨c,_,rfl⟩:=cC.1 p;exact EO c) qw LG g #[] h q cap d w j m hH hblk o
end Go.bl
namespace Go.bl
open Go Go.Proofs Go.Proofs.Tryz
namespace Op
open cu
structure cb where
 aB:Int
 b0:B
 op:aJ
 id:List B
def ed (j:cb) :ag:=.i6 j.aB::a7 j.b0::(av j.op++am j.id)
structure fo (j:cb) :Prop where
 op:dm j.op
 id:j.id.length=32
theorem yh (j:cb) :aq (ed j)=true:=by
 have h1:=du j.op;have g:=cG j.id;have app:∀ a b:ag,aq (a++b)=(aq a&&aq b):=fun a b=>by
  induction a with
  | nil=>simp[aq]
  | cons x a h=>rw[iK];simp only[aq,h,E0]
 unfold ed;simp only[aq,app,h1,g];rfl
structure Ni (j:cb) (R:ag) :Prop where
 len:R.length=45
 aB:∀ h:0<R.length,R[0]'h=.i6 j.aB
 b0:∀ h:1<R.length,R[1]'h=a7 j.b0
 op:(R.drop 2).take 11=av j.op
 id:(R.drop 13).take 32=am j.id
 acV:R[0]?=some (.i6 j.aB)
 ac6:R[1]?=some (a7 j.b0)
 t45:R.take 45=R
 ar:aq R=true
theorem l4 {j:cb} (h:fo j) :Ni j (ed j):=by
 have g:=br h.id;have m:(ed j).length=45:=by unfold ed av;simp[g]
 refine⟨m,fun _=>rfl,fun _=>rfl,?_,?_,rfl,rfl,aH F,yh j⟩
 ·unfold ed av;simp
 ·unfold ed av;simp[aH,g]
def k0:aJ:=⟨0,none,0,⟨0,[],o3⟩,0,0⟩
def p3:List B:=List.replicate 32 0
theorem Qd:am p3=bZ 32 (.int .u8 0):=rfl
def pJ (j:cb) :Bool:=gp j.op k0&&decide (j.id=p3)
def pW (n:Int) :Bool:=decide (0<=n)&&decide (n<=1000000000)
def fg (j:cb) :Bool:=pW j.aB&&(if j.b0=0 then decide (de j.op=0)&&(decide (bd j.op=j.id)&&decide (ei j.op=0)) else (decide (j.b0=2)||(decide (j.b0=3)||decide (j.b0=4)))&&pJ j)
theorem UN (n:Int) :aW 148 [.i6 n] (.bool (pW n)):=by
 apply a8 func148 [];unfold pW;by_cases h1:0<=n
 ·by_cases g:n<=1000000000
  ·simp[h1,g];exact aR V rfl
  ·simp[h1,g];exact aR V rfl
 ·simp[h1];exact aR V rfl
theorem JC (j:cb) (t:fo j) :aW 203 [.af (ed j)] (.bool (pJ j)):=by
 apply a8 func203 [];have w:=l4 t;have v:=nz t.id (b:=p3) (by rfl);rw[Qd] at v;have p:bz (.Z 32) (ah j.op.ax)=_:=b6 _;have V:(av j.op).length=11:=rfl;have H:=br t.id;obtain⟨I,B⟩:=al (am j.id);obtain⟨L,J⟩:=al (ed j);rw[<-J] at w ⊢;rw[<-B] at v H;obtain⟨F,rt,ak,S,C,aj,ao,ag,ai⟩:=w;rw[<-B] at C;have Y:aw [U.int .u32 0,.ae,.int .u64 0,.int .u8 0,.str [],.int .u8 0,.i6 0,.int .u64 0,.str [],.int .u32 0,.int .u32 0] 0 (av j.op)=av j.op:=cy rfl;have o:=xZ j.op.act k0.act;have P:=zZ j.op.e j.op.s 0 0;have O:pJ j=(decide (j.op.eL=0)&&(decide (j.op.ax.l=[])&&(decide (j.op.fa=0)&&(dz (e7 j.op.act) (e7 k0.act)&&(decide (j.op.e=0)&&decide (j.op.s=0))))) &&decide (j.id=p3)):=rfl;rw[O];unfold e7 at o ⊢;have ad:∀ a:D,((u a:Int)=0)<->a=0:=fun a=>hY a 0
 have X:((j.op.ax.l.length:Int)=0)<->j.op.ax.l=[]:=by rw[<-hp];omega
 have W:e7 k0.act=[a7 0,.str [],a7 0,.i6 0,c7 0,.str []]:=rfl;have K:(List.drop 13 L).take 32=I:=C;simp[F,S,av,aw];by_cases h1:j.op.eL=0
 ·by_cases g:j.op.ax.l=[]
  ·by_cases m:j.op.fa=0
   ·cases z:dz [a7 j.op.act.kind,.str j.op.act.key,a7 j.op.act.val.kind,.i6 j.op.act.val.num,c7 j.op.act.val.bits,.str j.op.act.val.text] [a7 k0.act.kind,.str k0.act.key,a7 k0.act.val.kind,.i6 k0.act.val.num,c7 k0.act.val.bits,.str k0.act.val.text] with
    | false=>
     rw[z] at o;have q:eb prog .eql 51 (.af [a7 j.op.act.kind,.str j.op.act.key,a7 j.op.act.val.kind,.i6 j.op.act.val.num,c7 j.op.act.val.bits,.str j.op.act.val.text]) (.af [.int .u8 0,.str [],.int .u8 0,.i6 0,.int .u64 0,.str []])=some (.bool false):=o;simp[h1,g,m,q,p];exact aL
    | true=>
     rw[z] at o;have q:eb prog .eql 51 (.af [a7 j.op.act.kind,.str j.op.act.key,a7 j.op.act.val.kind,.i6 j.op.act.val.num,c7 j.op.act.val.bits,.str j.op.act.val.text]) (.af [.int .u8 0,.str [],.int .u8 0,.i6 0,.int .u64 0,.str []])=some (.bool true):=o;have Q:eb prog .eql 53 (.af [bh j.op.e,bh j.op.s]) (.af [.int .u32 0,.int .u32 0])=some (.bool (decide (j.op.e=0)&&decide (j.op.s=0))):=P;simp[h1,g,m,q,Q,p];cases T:(decide (j.op.e=0)&&decide (j.op.s=0)) with
     | false=>
      simp;exact aL
     | true=>
      simp[K,F,v];exact aR (by simp[h1,g,m]) rfl
   ·have R:¬ (u j.op.fa:Int)=0:=fun h=>m ((hY _ 0).1 h)
    rw[ct m];simp[h1,g,R,p];exact aL
  ·rw[ct g];simp[h1,g,p];exact aL
 ·have G:¬ (u j.op.eL:Int)=0:=fun h=>h1 ((hY _ 0).1 h)
  rw[ct h1];simp[G];exact aL
theorem B3 {j:cb} (h:pW j.aB=false) :fg j=false:=by unfold fg;rw[h];rfl
theorem Uy (j:cb) (q:fo j) :aW 144 [.af (ed j)] (.bool (fg j)):=by
 apply a8 func144 [];have J:=l4 q;have ai:=UN j.aB;have t:=JC j q;have w:=uQ j.op q.op;have ah:eo (bd j.op)=.af (am (bd j.op)):=rfl;rw[ah] at w;have Q:=xw j.op q.op;have R:=mF j.op;have z:=br R;have heq:=nz R q.id;have W:=br q.id;have D:=du j.op;have P:aw (bZ 32 (.int .u8 0)) 0 (am (bd j.op))=am (bd j.op):=cy (by rw[z];rfl);have ao:(u j.b0:Int)=0<->j.b0=0:=hY j.b0 0;have ap:(u j.b0:Int)=2<->j.b0=2:=hY j.b0 2;have ax:(u j.b0:Int)=3<->j.b0=3:=hY j.b0 3;have ay:(u j.b0:Int)=4<->j.b0=4:=hY j.b0 4;obtain⟨aI,O⟩:=al (am j.id);obtain⟨Y,ad⟩:=al (am (bd j.op));obtain⟨L,X⟩:=al (ed j);obtain⟨T,C⟩:=al (av j.op);have aJ:T.length=11:=by rw[C];rfl
 rw[<-C] at w Q D;rw[<-X] at J t ⊢;rw[<-O] at heq W;rw[<-ad] at heq z P w;obtain⟨m,rt,aG,I,S,aL,aM,G,H⟩:=J;rw[<-O] at S;rw[<-C] at I;have ag:Y.take 32=Y:=aH F;simp[m,rt];refine au ai rfl ?_;cases K:pW j.aB with
 | false=>
  simp;exact aR (by rw[B3 K]) rfl
 | true=>
  have p:fg j=(if j.b0=0 then decide (de j.op=0)&&(decide (bd j.op=j.id)&&decide (ei j.op=0)) else (decide (j.b0=2)||(decide (j.b0=3)||decide (j.b0=4)))&&pJ j):=by unfold fg;rw[K];rfl
  simp[m,aG];by_cases h1:j.b0=0
  ·simp[h1,m,I];refine au w (by simp[aq,U.ar,D]) ?_;simp[z,P];by_cases g:de j.op=0
   ·simp[g,z,ag,m,S,heq];cases o:decide (bd j.op=j.id) with
    | false=>
     simp;exact aR (by rw[p,ak h1,o];simp) rfl
    | true=>
     simp[m,I];refine au Q (by simp[aq,U.ar,D]) ?_;simp;exact aR (by rw[p,ak h1,o,g];simp) rfl
   ·simp[g];exact aR (by rw[p,ak h1,ct g];simp) rfl
  ·have aK:∀ b:Bool,(b=true)->aW 203 [.af L] (.bool (pJ j)):=fun _ _=>t
   have az:(u (2#8:B) :Int)=2:=rfl;have aA:(u (3#8:B) :Int)=3:=rfl;have aC:(u (4#8:B) :Int)=4:=rfl;have V:¬ (u j.b0:Int)=0:=fun h=>h1 (ao.1 h)
   simp[V];by_cases g:j.b0=2
   ·simp[g,az,m,G];refine au t (by simp[aq,U.ar,H]) ?_;simp;exact aR (by rw[p,aj h1,ca g];simp) rfl
   ·by_cases o:j.b0=3
    ·simp[o,aA,m,G];refine au t (by simp[aq,U.ar,H]) ?_;simp;exact aR (by rw[p,aj h1,ca o];simp) rfl
    ·by_cases v:j.b0=4
     ·simp[v,aC,m,G];refine au t (by simp[aq,U.ar,H]) ?_;simp;exact aR (by rw[p,aj h1,ca v];simp) rfl
     ·have aD:¬ (u j.b0:Int)=2:=fun h=>g (ap.1 h)
      have aE:¬ (u j.b0:Int)=3:=fun h=>o (ax.1 h)
      have aF:¬ (u j.b0:Int)=4:=fun h=>v (ay.1 h)
      simp[aD,aE,aF];exact aR (by rw[p,aj h1,ct g,ct o,ct v];rfl) rfl
def sW:cb:=⟨0,0,k0,p3⟩
theorem EU:fo sW:=⟨⟨fun _ h=>(lJ h).elim,fR _,⟨by decide,by decide,fR _⟩,fR _⟩,rfl⟩
def gk:ag:=[.int .u8 0,.int .i64 0,.ae]++ed sW
theorem Qa:gk=[U.int .u8 0,.int .i64 0,.ae,.int .i64 0,.int .u8 0,.int .u32 0,.ae,.int .u64 0,.int .u8 0,.str [],.int .u8 0,.int .i64 0,.int .u64 0,.str [],.int .u32 0,.int .u32 0]++bZ 32 (.int .u8 0):=rfl
theorem Gx:aq gk=true:=bp
theorem BT:gk.length=48:=bp
theorem UD:aW 145 [.af gk] (.a1 [.int .i64 (-1),.bool true]):=by
 apply a8 func145 [cR 0 8++[[8,2]],cR 0 7++[[7,2]]];have m:=JC sW EU;rw[show pJ sW=true by kernel_rfl] at m;have j:=BT;have w:gk[0]?=some (.int .u8 0):=rfl;have h1:gk[1]?=some (.int .i64 0):=rfl;have z:gk[2]?=some .ae:=rfl;have B:gk[3]?=some (.int .i64 0):=rfl;have C:gk[4]?=some (.int .u8 0):=rfl;have g:(gk.drop 3).take 45=ed sW:=bp;have o:∀ h,gk[0]'h=.int .u8 0:=fun _=>rfl
 have p:∀ h,gk[1]'h=.int .i64 0:=fun _=>rfl
 have q:∀ h,gk[2]'h=.ae:=fun _=>rfl
 have t:∀ h,gk[3]'h=.int .i64 0:=fun _=>rfl
 have u:∀ h,gk[4]'h=.int .u8 0:=fun _=>rfl
 obtain⟨F,hH⟩:=al (gk);rw[<-hH] at j w h1 z B C g ⊢;simp only[<-hH] at o p q t u;have v:=yh sW;obtain⟨G,D⟩:=al (ed sW);rw[<-D] at m g v;simp[j,g,p,q];refine au m (by simp[aq,U.ar,v]) ?_;simp[j,o,t,u];exact aL
def lW (n:Int) :ag:=[.int .i64 n]
def zd (a b:Int) :Int:=if a<b then b else a
theorem SN (a b:Int) :aW 147 [b4 1 lW (some [a,b])] (.int .i64 (zd a b)):=by
 apply a8 func147 [];have o:oL (U.int .i64 a) (U.int .i64 b)=some (.int .i64 (zd a b)):=by simp[oL,zd]
 simp[lW];refine bx 1 (fun k g l=>g 0=b4 1 lW (some [a,b])/\g 3=.int .i64 (if k=0 then a else zd a b)/\g 4=.int .i64 ((k+1:Nat) :Int)) ?_ ⟨V,V,V⟩;rintro k g l hk ⟨h,j,m⟩;obtain⟨g,rfl⟩:=gJ h j m;clear h j m;rcases k with _ | _ | k
 ·simp[lW,o];rfl
 ·simp;exact aL
 ·omega
def BV (j:cb) :ag:=[.int .i64 1,.ae,.bu 48 [gk],.bu 45 [ed j]]
structure NA (j:cb) (g:ao) (L:ag) (k:Nat) (sgZ:aS) (l:ad) :Prop where
 eZ:sgZ 1=.ptr 0 0 4
 aac:sgZ 48=.bu 45 [L]
 Q4:sgZ 49=.int .i64 1
 Q5:sgZ 50=.int .i64 k
 st:(k=0/\l=[g]/\sgZ 3=.ae)\/(k=1/\fg j=true/\∃ b v,1<=b/\sgZ 3=v/\l[0]?=some g/\aE 1 l v b [lW j.aB]/\bo v=false)
structure NB (j:cb) (g:ao) (h:ag) (k:Nat) (sgZ:aS) (l:ad) :Prop where
 eZ:sgZ 1=.ptr 0 0 4
 aah:sgZ 81=.bu 48 [h]
 aai:sgZ 82=.int .i64 1
 aaj:sgZ 83=.int .i64 k
 st:∃ b v,1<=b/\sgZ 3=v/\l[0]?=some g/\aE 1 l v b ((if k=0 then [j.aB] else [j.aB,-1]).map lW)/\bo v=false
theorem Uw (j:cb) (ah:fo j) :aW 95 [.af (BV j)] (.int .i64 (if fg j then 0 else 8)):=by
 apply a8 func95 [];have ai:=ds;have Y:=Uy j ah;have ag:=UD;have X:=Gx;have G:=BT;obtain⟨L,T⟩:=al (ed j);have P:=l4 ah;rw[<-T] at P Y;have aD:BV j=[.int .i64 1,.ae,.bu 48 [gk],.bu 45 [L]]:=by rw[T];rfl
 rw[aD];obtain⟨H,hH⟩:=al (gk);rw[<-hH] at ag X G ⊢;obtain⟨J,rt,a5,a3,a2,a4,a6,aP,aQ⟩:=P;have aC:H.take 48=H:=aH F;have aM:aw (U.int .i64 0::.int .u8 0::.int .u32 0::.ae::.int .u64 0::.int .u8 0::.str [] ::.int .u8 0::.int .i64 0::.int .u64 0::.str [] ::.int .u32 0::.int .u32 0::bZ 32 (.int .u8 0)) 0 L=L:=cy (by rw[J];rfl);have aK:aw (U.int .u8 0::.int .i64 0::.ae::.int .i64 0::.int .u8 0::.int .u32 0::.ae::.int .u64 0::.int .u8 0::.str [] ::.int .u8 0::.int .i64 0::.int .u64 0::.str [] ::.int .u32 0::.int .u32 0::bZ 32 (.int .u8 0)) 0 H=H:=cy (by rw[G];rfl);simp;obtain⟨am,B⟩:=al (ao.cells 4 [.int .i64 1,.ae,.bu 48 [H],.bu 45 [L]]);rw[<-B];refine bx 1 (NA j am L) ?_ ⟨V,V,V,V,.inl ⟨rfl,rfl,V⟩⟩;rintro k g l hk ⟨m,u,v,w,⟨rfl,rfl,p⟩ | ⟨rfl,aG,b,K,W,p,q,C,t⟩⟩
 ·obtain⟨g,rfl⟩:=gv m p u v w;clear m p u v w;simp[J,aP,aM,B];refine au Y (by simp[aq,U.ar,aQ]) ?_;cases h:fg j with
  | false=>
   simp;exact aL
  | true=>
   have D:∀ (o:ad) (c:Nat),o[c]?=some (.cells 1 [.int .i64 j.aB])->ea o 1 8 .ae (.Z 1 c 0 1 1 1)=some (.Z 1 o.length 0 1 1 1,o++[.cells 1 [.int .i64 j.aB]]):=fun o c aE=>by
    have:=Oa (l:=o) (z:=1) (by_:=8) (xs:=[[U.int .i64 j.aB]]) (x:=.Z 1 c 0 1 1 1) (by simp[cr,aE]) F F V (by rw[ai];simp);simpa using this
   simp[J,rt,D];refine bP.bm ?_;simp;have O:IntKind.i64.wrap 1=1:=rfl;exact⟨V,V,V,by simp[O],.inr ⟨rfl,h,3,_,F,V,by simp[B],.Z _ 1 1 1 [.int .i64 j.aB] [lW j.aB] V V rfl (by simp[lW]) F F (by simp[lW]),rfl⟩⟩
 ·obtain⟨g,rfl⟩:=gv m p u v w;clear m p u v w;rw[B] at q;simp[q];obtain⟨aS,aV⟩:=al (l);refine bx 1 (NB j (.cells 4 [.int .i64 1,.ae,.bu 48 [H],.bu 45 [L]]) H) ?_ ⟨V,V,V,V,b,K,W,V,q,by simpa using C,t⟩;rintro k g l hk ⟨m,Q,R,S,b,K,W,p,q,C,t⟩;obtain⟨g,rfl⟩:=gv m p Q R S;clear m p Q R S;rcases k with _ | _ | k
  ·have Fx:∀ o:ad,(l++o)[0]?=some (.cells 4 [.int .i64 1,.ae,.bu 48 [H],.bu 45 [L]]):=fun o=>by rw[aU (aX q)];exact q
   simp[G,aC,aK];refine au ag (by simp[aq,U.ar,X]) ?_;simp;obtain⟨ak,aO,a0,D,ap,aT,av,ax,ay⟩:=hN (by_:=8) (x:=.Z 1 (l.length+1) 0 1 1 1) (xs:=[lW (-1)]) (C.more [ao.cells 48 H,ao.cells 1 [U.int .i64 (-1)]]) (by simp[cr,lW]) (by simp[lW]) F F (by rw[ai];simp);simp[D];refine bP.bm ?_;simp;have O:IntKind.i64.wrap 1=1:=rfl;have aZ:K≠.ae:=fun e=>by rw[e] at t;cases t
   have I:bo ak=false:=by rw[ay,t];rfl
   refine⟨V,V,V,by simp[O],aO,ak,?_,V,?_,by simpa using ap,I⟩
   ·rcases ax with e | ⟨_,e⟩ | e
    ·simp at e;omega
    ·omega
    ·rw[e] at I;cases I
   ·rw[av 0 V (.inr F)];exact Fx _
  ·simp;refine Jm (some [j.aB,-1]) C t rfl fun aj aY aF=>?_
   refine au (SN j.aB (-1)) (by simp[aq,rO,b4,lW,U.ar]) ?_;have aJ:aj[0]?=some (.cells 4 [.int .i64 1,.ae,.bu 48 [H],.bu 45 [L]]):=by rw[aF 0 (.inr F)];exact q
   simp[aJ];have aI:=aG;refine bx 0 (fun k g l=>l=aj/\g 1=.ptr 0 0 4/\g 112=.int .i64 0/\g 113=.int .i64 0) ?_ ⟨rfl,V,V,V⟩;rintro k g l hk ⟨rfl,m,az,aA⟩;obtain⟨g,rfl⟩:=gJ m az aA;simp;exact aR (by simp[aI]) rfl
  ·omega
theorem QI (j:cb) (v:fo j) :aW 51 [.af (ed j)] (.bool (fg j)):=by
 apply a8 func51 [];have O:=ds;have o:=Uw j v;have u:=l4 v;have H:=Gx;have q:=BT;unfold BV at o;have hH:=Qa;obtain⟨L,G⟩:=al (ed j);rw[<-G] at u o ⊢;obtain⟨m,rt,aj,ah,ag,ai,ak,z,T⟩:=u;have J:mO 48 200 (U.int .u8 0::.int .i64 0::.ae::.int .i64 0::.int .u8 0::.int .u32 0::.ae::.int .u64 0::.int .u8 0::.str [] ::.int .u8 0::.int .i64 0::.int .u64 0::.str [] ::.int .u32 0::.int .u32 0::bZ 32 (.int .u8 0)) [ao.cells 45 L] (U.int .i64 1) (U.int .i64 1)=some (.Z 48 1 0 1 1 48,[ao.cells 45 L,.cells 48 gk]):=by
  show mO 48 200 gk _ _ _=_;simp[mO,O,c3]
 have Y:aw (U.int .i64 0::.int .u8 0::.int .u32 0::.ae::.int .u64 0::.int .u8 0::.str [] ::.int .u8 0::.int .i64 0::.int .u64 0::.str [] ::.int .u32 0::.int .u32 0::bZ 32 (.int .u8 0)) 0 L=L:=cy (by rw[m];rfl);have I:List.drop 32 (bZ 32 (U.int .u8 0))=[]:=rfl;simp[m,z,J,I,ey,aw];have D:∀ t:ad,∀ K:cA,K (.int .i64 (if fg j then 0 else 8)) t->cM 95 [.af [.int .i64 1,.ae,.bu 48 [gk],.bu 45 [L]]] t K:=fun t K hk=>
  au o (by simp[aq,rO,U.ar,H,T]) hk
 obtain⟨w,p⟩:=al ([ao.cells 45 L,.cells 48 gk,.cells 45 L,.cells 4 [.int .i64 1,.ae,.Z 48 1 0 1 1 48,.Z 45 2 0 1 1 45]]);have P:aE 48 w (.Z 48 1 0 1 1 48) 1 [gk]:=.Z _ 1 1 48 gk [gk] (by rw[p];rfl) q rfl (by simp[q]) F F (by simp[aH,q]);obtain⟨W,R⟩:=uk P rfl;have Q:aE 45 (w.set 1 .dead) (.Z 45 2 0 1 1 45) 2 [L]:=.Z _ 1 1 45 L [L] (by rw[p];rfl) m rfl (by simp[m]) F F (by simp[z]);obtain⟨X,S⟩:=uk Q rfl;rw[<-p];refine tw checked.mixed eG (args2:=[.af [.int .i64 1,.ae,.bu 48 [gk],.Z 45 2 0 1 1 45]]) W V rfl (fun i c C h1 g=>?_) (tw checked.mixed eG (args2:=[.af [.int .i64 1,.ae,.bu 48 [gk],.bu 45 [L]]]) X V rfl (fun i c C h1 g=>?_) (D _ _ ?_))
 ·obtain⟨rfl,rfl⟩:=oA h1;obtain⟨_,rfl⟩:=oA g;refine .af _ _ rfl fun i c B h1 g=>?_
  rcases i with _ | _ | _ | _ | i
  ·simp at h1 g;subst h1 g;exact .same _
  ·simp at h1 g;subst h1 g;exact .same _
  ·simp at h1 g;subst h1 g;exact R
  ·simp at h1 g;subst h1 g;exact .same _
  ·simp at h1
 ·obtain⟨rfl,rfl⟩:=oA h1;obtain⟨_,rfl⟩:=oA g;refine .af _ _ rfl fun i c B h1 g=>?_
  rcases i with _ | _ | _ | _ | i
  ·simp at h1 g;subst h1 g;exact .same _
  ·simp at h1 g;subst h1 g;exact .same _
  ·simp at h1 g;subst h1 g;exact .same _
  ·simp at h1 g;subst h1 g;exact S
  ·simp at h1
 ·cases h:fg j with
  | false=>
   simp;exact aL
  | true=>
   simp;exact aL
def z2 (a b:cb) :Bool:=decide (a.aB=b.aB)&&(decide (a.b0=b.b0)&&(decide (a.id=b.id)&&gp a.op b.op))
theorem Vs (a b:cb) (q:fo a) (t:fo b) :aW 111 [.af (ed a),.af (ed b)] (.bool (z2 a b)):=by
 apply a8 func111 [];have G:=zL a.op b.op q.op t.op;have heq:=nz q.id t.id;have D:=du a.op;have F:=du b.op;have v:=l4 q;have w:=l4 t;have j:z2 a b=(decide (a.aB=b.aB)&&(decide (a.b0=b.b0)&&(decide (a.id=b.id)&&gp a.op b.op))):=rfl;obtain⟨L,P⟩:=al (ed a);obtain⟨M,R⟩:=al (ed b);obtain⟨V,o⟩:=al (av a.op);obtain⟨Q,p⟩:=al (av b.op);obtain⟨T,B⟩:=al (am a.id);obtain⟨J,C⟩:=al (am b.id);rw[<-P] at v ⊢;rw[<-R] at w ⊢;rw[<-o,<-p] at G;rw[<-o] at D;rw[<-p] at F;rw[<-B,<-C] at heq;obtain⟨m,rt,S,I,H,ad,ag,X,Y⟩:=v;obtain⟨Z,st,jn,O,K,ai,aj,ah,sc⟩:=w;rw[<-B] at H;rw[<-C] at K;rw[<-o] at I;rw[<-p] at O;simp[m,rt,Z,st];by_cases h1:a.aB=b.aB
 ·simp[h1,m,S,Z,jn];by_cases g:a.b0=b.b0
  ·simp[g,m,H,Z,K,heq];cases z:decide (a.id=b.id) with
   | false=>
    simp;exact aR (by rw[j,z];simp) rfl
   | true=>
    simp[m,I,Z,O];refine au G (by simp[aq,U.ar,D,F]) ?_;simp;exact aR (by rw[j,z,ca h1,ca g];simp) rfl
  ·have W:¬ (u a.b0:Int)=u b.b0:=fun h=>g ((hY _ _).1 h)
   simp[g];exact aR (by rw[j,ct g];simp) rfl
 ·simp[h1];exact aR (by rw[j,ct h1];simp) rfl
theorem U9 (j:cb) (z:fo j) :aW 57 [.af (ed j)] (.bool (fg j)):=by
 apply a8 func57 [];have V:=l4 z;have C:=Dz j.op z.op;have aG:eo (bd j.op)=.af (am (bd j.op)):=rfl;rw[aG] at C;have ao:=zN j.op z.op;have ap:=mF j.op;have D:=br ap;have heq:=nz ap z.id;have aA:=br z.id;have P:=du j.op;have ad:aw (bZ 32 (.int .u8 0)) 0 (am (bd j.op))=am (bd j.op):=cy (by rw[D];rfl);have ag:(u j.b0:Int)=0<->j.b0=0:=hY j.b0 0;have ah:(u j.b0:Int)=2<->j.b0=2:=hY j.b0 2;have ai:(u j.b0:Int)=3<->j.b0=3:=hY j.b0 3;have Q:(u j.b0:Int)=4<->j.b0=4:=hY j.b0 4;have o:=Vs j ⟨j.aB,j.b0,k0,p3⟩ z ⟨EU.op,EU.id⟩;have aI:z2 j ⟨j.aB,j.b0,k0,p3⟩=pJ j:=by
  unfold z2 pJ;simp[Bool.and_comm]
 rw[aI] at o;have aF:ed ⟨j.aB,j.b0,k0,p3⟩=.i6 j.aB::a7 j.b0::.int .u32 0::.ae::.int .u64 0::.int .u8 0::.str [] ::.int .u8 0::.i6 0::.int .u64 0::.str [] ::.int .u32 0::.int .u32 0::bZ 32 (.int .u8 0):=rfl;have q:=yh ⟨j.aB,j.b0,k0,p3⟩;rw[aF] at o q;obtain⟨aJ,W⟩:=al (am j.id);obtain⟨Y,aD⟩:=al (am (bd j.op));obtain⟨L,aC⟩:=al (ed j);obtain⟨ay,K⟩:=al (av j.op);have aK:ay.length=11:=by rw[K];rfl
 rw[<-K] at C ao P;rw[<-aC] at V o ⊢;rw[<-W] at heq aA;rw[<-aD] at heq D ad C;obtain⟨g,rt,v,T,ax,aL,aM,R,S⟩:=V;rw[<-W] at ax;rw[<-K] at T;have aE:Y.take 32=Y:=aH F;simp[g,rt];by_cases O:j.aB<0
 ·simp[O];exact aR (by rw[B3];unfold pW;simp;omega) rfl
 ·by_cases X:1000000000<j.aB
  ·simp[O,X,g,rt];exact aR (by rw[B3];unfold pW;simp;omega) rfl
  ·have az:pW j.aB=true:=by unfold pW;simp;omega
   have t:fg j=(if j.b0=0 then decide (de j.op=0)&&(decide (bd j.op=j.id)&&decide (ei j.op=0)) else (decide (j.b0=2)||(decide (j.b0=3)||decide (j.b0=4)))&&pJ j):=by unfold fg;rw[az];rfl
   simp[O,X,g,v,rt];by_cases h1:j.b0=0
   ·have G:(u j.b0:Int)=0:=ag.2 h1;simp[G,g,T];refine au C (by simp[aq,U.ar,P]) ?_;simp[D,ad];by_cases m:de j.op=0
    ·simp[m,D,aE,g,ax,heq];cases p:decide (bd j.op=j.id) with
     | false=>
      simp;exact aR (by rw[t,ak h1,p];simp) rfl
     | true=>
      simp[g,T];refine au ao (by simp[aq,U.ar,P]) ?_;simp;exact aR (by rw[t,ak h1,p,m];simp) rfl
    ·simp[m];exact aR (by rw[t,ak h1,ct m];simp) rfl
   ·have G:¬ (u j.b0:Int)=0:=fun h=>h1 (ag.1 h)
    simp[G,g,v];by_cases m:j.b0=2
    ·have H:=ah.2 m;simp[H,g,v,rt,R,aw];have B:a7 j.b0=.int .u8 2:=by rw[m];rfl
     rw[B] at o q;refine au o (by simp[aq,U.ar,S];simpa [aq,U.ar] using q) ?_;simp;exact aR (by rw[t,aj h1,ca m];simp) rfl
    ·have H:¬ (u j.b0:Int)=2:=fun h=>m (ah.1 h)
     simp[H,g,v];by_cases p:j.b0=3
     ·have I:=ai.2 p;simp[I,g,v,rt,R,aw];have B:a7 j.b0=.int .u8 3:=by rw[p];rfl
      rw[B] at o q;refine au o (by simp[aq,U.ar,S];simpa [aq,U.ar] using q) ?_;simp;exact aR (by rw[t,aj h1,ca p];simp) rfl
     ·have I:¬ (u j.b0:Int)=3:=fun h=>p (ai.1 h)
      simp[I,g,v];by_cases w:j.b0=4
      ·have J:=Q.2 w;simp[J,g,v,rt,R,aw];have B:a7 j.b0=.int .u8 4:=by rw[w];rfl
       rw[B] at o q;refine au o (by simp[aq,U.ar,S];simpa [aq,U.ar] using q) ?_;simp;exact aR (by rw[t,aj h1,ca w,AL,AL,lF,ak (Q.2 w)]) rfl
      ·have J:¬ (u j.b0:Int)=4:=fun h=>w (Q.1 h)
       simp[J];exact aR (by rw[t,aj h1,ct m,ct p,ct w];rfl) rfl
end Op
namespace Op.aI
open cu Op
structure az where
 aB:Int
 op:aJ
 id:List B
 a2:b2
def aO (s:az) :ag:=.i6 s.aB::(av s.op++(am s.id++[ah s.a2]))
abbrev en:=bX az
def ch (s:en) :U:=b4 45 aO s
structure h4 (s:az) :Prop where
 op:dm s.op
 id:s.id.length=32
 a2:c6 s.a2
 len:s.a2.l.length<=1000000
def fj (l:List az) :Prop:=∀ s∈l,h4 s
theorem BE:∀ a b:ag,aq (a++b)=(aq a&&aq b)
 | [],b=>by simp[aq]
 | x::a,b=>by
  rw[iK];simp only[aq,BE a b,E0]
theorem jf (s:az) :aq (aO s)=true:=by have h1:=du s.op;have g:=cG s.id;have h:=bM s.a2;unfold aO;simp only[aq,U.ar,BE,h1,g,h,k1]
theorem fU (s:en) :(ch s).ar=true:=ot jf s
structure Row (s:az) (R:ag) :Prop where
 len:R.length=45
 aB:∀ h:0<R.length,R[0]'h=.i6 s.aB
 op:R.tail.take 11=av s.op
 id:(R.drop 12).take 32=am s.id
 a2:∀ h:44<R.length,R[44]'h=ah s.a2
 ar:aq R=true
theorem eQ {s:az} (h:h4 s) :Row s (aO s):=by
 have g:=br h.id;have j:(aO s).length=45:=by unfold aO av;simp[g]
 refine⟨j,fun _=>rfl,?_,?_,fun m=>?_,jf s⟩
 ·unfold aO av;simp
 ·unfold aO av;simp[g]
 ·have:(aO s)[44]?=some (ah s.a2):=by
   unfold aO av;simp[g]
  exact (aK.1 this).2
theorem QN:fI prog 152=true:=bp
theorem Oe (s:az) (h:h4 s) (x:List B) (m:x.length=32) (r:ad) {K:cA} (j:∀ w,K (.bool (decide (s.id=x))) (.q 32 (am x) ::w)) :
  cM 152 [.af (aO s),.ptr 0 0 32] (.q 32 (am x) ::r) K:=by apply c0 func152 [];have g:=eQ h;have o:=br m;have heq:=nz h.id m;obtain⟨p,u⟩:=al (aO s);obtain⟨z,v⟩:=al (am x);rw[<-u] at g ⊢;rw[<-v] at o heq j ⊢;have h1:=g.len;have t:=g.id;have C:=br h.id;simp[h1,t,o,heq,aH];have:=j (r++[ao.q 45 p]);simpa using this
structure MJ (s:en) (x:List B) (k:Nat) (sgZ:aS) (l:ad) :Prop where
 ny:∃ r,l=.q 32 (am x) ::r
 kF:sgZ 0=ch s
 eZ:sgZ 1=.fn 152 [] [.ptr 0 0 32]
 r0:sgZ 7=.i6 s.l.length
 nw:sgZ 8=.i6 k
 jy:∀ (j:Nat) (z:List B),j<k->(s.l.map az.id)[j]?=some z->z≠x
theorem Og (s:en) (C:fj s.l) (X:s.l.length<=1000000) (x:List B) (T:x.length=32) {r:ad} {K:cA} (z:∀ I,K (.i6 (dG x (s.l.map az.id) 0)) I) :
  cM 151 [ch s,.fn 152 [] [.ptr 0 0 32]] (.q 32 (am x) ::r) K:=by
 apply c0 func151 [];have S:bz (.Z 45) (ch s)=_:=b6 _;simp[S];refine bx s.l.length (MJ s x) ?_ ⟨⟨_,rfl⟩,V,V,V,V,fun j o h=>F⟩;rintro k U l hk ⟨⟨r,rfl⟩,t,u,v,w,p⟩;obtain⟨U,rfl⟩:=eO t u v w;clear t u v w;simp;refine fh (fun h=>?_) (fun h=>?_)
 ·simp only[bI] at h;obtain⟨y,D,H⟩:=aP (l:=s.l) (k:=k) F;have O:=eQ (C y H);have J:=cf (k:=k) F;have P:bO (.Z 45) (ch s) _=_:=c5 D;have G:(s.l.map az.id)[k]?=some y.id:=by rw[b1,D];rfl
  simp[P,O.len,aH];refine⟨QN,Oe y (C y H) x T r fun I=>?_⟩;by_cases m:y.id=x
  ·simp[m];have:=qI (n:=0) G p m;rw[hJ] at this;rw[<-this];exact z _
  ·simp[m,J];refine⟨F,⟨_,rfl⟩,V,V,V,V,fun j o W g=>?_⟩;by_cases Q:j=k
   ·rw[Q,G] at g;obtain rfl:=cd g;exact m
   ·exact p j o F g
 ·simp[h];have R:k=s.l.length:=by simp at h;omega
  have:=wi (n:=0) (l:=s.l.map az.id) (x:=x) fun j o g=>p j o (by rw[R];have:=(aK.1 g).1;simpa using this) g
  rw[<-this];exact z _
theorem Di (s:en) (j:fj s.l) (h:s.l.length<=1000000) (x:List B) (g:x.length=32) :aW 99 [ch s,.af (am x)] (.i6 (dG x (s.l.map az.id) 0)):=by
 apply a8 func99 [];simp[br g];refine Og s j h x g fun m=>?_
 simp;exact aL
end Op.aI
namespace Op.aI
open cu Op
def e9 (l:List az) (k:Nat) :az:=l.getD k ⟨0,⟨0#32,none,0#64,⟨0#8,[],o3⟩,0#32,0#32⟩,[],none⟩
theorem eR {l:List az} {k:Nat} {x:az} (h:l[k]?=some x) :e9 l k=x:=by unfold e9;rw[gx,h];rfl
def dM (l:List az) (k:Nat) :Int:=if k=0 then -1 else (e9 l (k - 1)).aB
def hR (l:List az) (k:Nat) :Bool:=
 decide (de (e9 l k).op=0)&&(decide (bd (e9 l k).op=(e9 l k).id)&&(decide (dM l k<(e9 l k).aB)&&(decide ((e9 l k).aB<=1000000000)&&(eV (e9 l k).op (e9 l k).a2.l&&decide ((e9 l k).id∉(l.take k).map az.id)))))
def oB (l:List az) :Bool:=decide (∀ k,k<l.length->hR l k=true)
def cH (c:Int) (l:List az) :Int:=if c<1\/8<c\/c<l.length then 8 else if oB l then 0 else 8
theorem Jx {c:Int} {l:List az} (h:¬ (c<1\/8<c\/c<l.length)) (g:∀ k,k<l.length->hR l k=true) :cH c l=0:=by unfold cH oB;rw[aj h,ca g];rfl
theorem Jv {c:Int} {l:List az} (h:¬ (c<1\/8<c\/c<l.length)) {k:Nat} (hk:k<l.length) (g:hR l k=false) :cH c l=8:=by unfold cH oB;rw[aj h,ct fun j=>by rw[j k hk] at g;cases g];rfl
theorem yO (o:aJ) :(bd o).length=32:=by
 unfold bd;split
 ·exact oT _
 ·simp
def bA (c:Int) (s:en) :ag:=[.i6 c,ch s]
theorem XA (s:en) {k:Nat} {y:az} (g:s.l[k]?=some y) :dw (.Z 45) (ch s) none (some (.i6 (k:Int))) none=some (ch (some (s.l.take k))):=by
 cases s with
 | none=>simp at g
 | some a=>
  have hk:=(aK.1 g).1;have:=Ef (z:=45) (enc:=aO) (l:=a) (k:=.i64) (i:=(k:Int)) F (by simp at hk;omega);simpa [ch] using this
abbrev m4:ag:=U.i6 0::U.int .u32 0::U.ae::U.int .u64 0::U.int .u8 0::U.str [] ::U.int .u8 0::U.i6 0::U.int .u64 0::U.str [] ::U.int .u32 0::U.int .u32 0::(bZ 32 (.int .u8 0)++[U.ae])
theorem g1 {R:ag} (h:R.length=45) :aw (U.i6 0::U.int .u32 0::U.ae::U.int .u64 0::U.int .u8 0::U.str [] ::U.int .u8 0::U.i6 0::U.int .u64 0::U.str [] ::U.int .u32 0::U.int .u32 0::(bZ 32 (.int .u8 0)++[U.ae])) 0 R=R:=cy (by rw[h];rfl)
structure NC (c:Int) (s:en) (k:Nat) (sgZ:aS) (l:ad) :Prop where
 ny:∃ r,l=.q 2 (bA c s) ::r
 eZ:sgZ 1=.ptr 0 0 2
 hP:sgZ 3=.i6 (dM s.l k)
 HL:sgZ 25=ch s
 Ce:sgZ 26=.i6 s.l.length
 yJ:sgZ 27=.i6 k
 jy:∀ j,j<k->hR s.l j=true
theorem uR (c:Int) (s:en) (aC:fj s.l) (bf:s.l.length<=1000000) :aW 64 [.af (bA c s)] (.i6 (cH c s.l)):=by
 apply a8 func64 [];have ax:bz (.Z 45) (ch s)=_:=b6 _;by_cases h1:c<1
 ·have v:cH c s.l=8:=by unfold cH;rw[ak (.inl h1)]
  rw[v];simp[bA,h1];exact aL
 ·by_cases C:8<c
  ·have v:cH c s.l=8:=by unfold cH;rw[ak (.inr (.inl C))]
   rw[v];simp[bA,h1,C];exact aL
  ·by_cases J:c<s.l.length
   ·have v:cH c s.l=8:=by unfold cH;rw[ak (.inr (.inr J))]
    rw[v];simp[bA,ax,h1,C,J];exact aL
   ·have aA:¬ (c<1\/8<c\/c<s.l.length):=F;simp[bA,ax,h1,C,J];refine bx s.l.length (NC c s) ?_ ⟨⟨_,rfl⟩,V,by simp[dM],V,V,V,fun w h=>F⟩;rintro k a6 l hk ⟨⟨r,rfl⟩,T,ad,W,X,Y,aD⟩;obtain⟨a6,rfl⟩:=gv T ad W X Y;clear T ad W X Y;simp;refine fh (fun h=>?_) (fun h=>?_)
    ·simp only[bI] at h;obtain⟨y,P,a5⟩:=aP (l:=s.l) (k:=k) F;have j:=aC y a5;have t:=eQ j;have aF:=cf (k:=k) F;have ai:bO (.Z 45) (ch s) _=_:=c5 P;have aZ:=XA s P;have ah:=eR P;have H:=uQ y.op j.op;have ay:=Ml y.op j.op y.a2 j.a2 j.len;have a3:fj ((s.l.take k)):=fun a9 a0=>aC a9 (gA a0)
     have aV:=Di (some (s.l.take k)) a3 (by simp;omega) y.id j.id;have ap:=lp y.id ((s.l.take k).map az.id) 0;have ao:=yO y.op;have aU:=oE ao j.id;have bg:=br j.id;have aJ:=fU (some (s.l.take k));have O:=du y.op;have aK:=bM y.a2;have aI:=cG y.id;have o:hR s.l k=(decide (de y.op=0)&&(decide (bd y.op=y.id)&&(decide (dM s.l k<y.aB)&&(decide (y.aB<=1000000000)&&(eV y.op y.a2.l&&decide (y.id∉(s.l.take k).map az.id)))))):=by unfold hR;rw[ah]
     have u:hR s.l k=false->cH c s.l=8:=fun g=>Jv aA h g
     have a4:dM s.l (k+1)=y.aB:=by unfold dM;rw[aj F,s8,ah]
     obtain⟨bb,aG⟩:=al (aO y);rw[<-aG] at t ai;obtain⟨aE,ag⟩:=al (av y.op);have f1:=t.len;have f2:=t.aB;have f3:=t.op;have f4:=t.id;have f5:=t.a2;rw[<-ag] at f3 H ay O;have bc:aE.length=11:=by rw[ag];rfl
     have aY:=g1 f1;obtain⟨D,K⟩:=al ((bd y.op).map a7);have q:D.length=32:=by rw[K,cg,ao]
     have aX:aw (bZ 32 (.int .u8 0)) 0 D=D:=cy (by rw[q];rfl);unfold eo at H;rw[<-K] at H;simp[ai,f1,aY,f3,aH];refine au H (by simp[aq,U.ar,O]) ?_;simp[q,aX];have G:eb prog .neq 57 (.af D) (.af (am y.id))=some (.bool !decide (bd y.op=y.id)):=by rw[K];exact aU
     by_cases m:de y.op=0
     ·by_cases p:bd y.op=y.id
      ·by_cases Q:dM s.l k<y.aB
       ·have z:¬ y.aB<=dM s.l k:=F;by_cases R:y.aB<=1000000000
        ·have I:¬ 1000000000<y.aB:=F;simp[m,p,G,f1,f2,f3,f4,f5,q,z,I,aH];refine au ay (by simp[aq,U.ar,O,aK]) ?_;cases S:eV y.op y.a2.l with
         | false=>
          have g:=u (by rw[o];simp[S]);rw[g];simp;exact aL
         | true=>
          simp[bA,aZ,f1,f4];refine au aV (by simp[aq,U.ar,aJ,aI]) ?_;by_cases B:y.id∈(s.l.take k).map az.id
          ·have g:=u (by rw[o];simp only[B,not_true,vf,uY]);have:0<=dG y.id ((s.l.map az.id).take k) 0:=by rw[<-i3];exact ap.2 B
           rw[g];simp[this];exact aL
          ·have aM:¬ (0<=dG y.id ((s.l.map az.id).take k) 0):=by rw[<-i3];exact fun h=>B (ap.1 h)
           have aQ:hR s.l k=true:=by rw[o,S];simp only[m,p,Q,R,B,n5,xR,k1]
           simp[aM,f1,f2,aF];refine⟨F,⟨_,rfl⟩,V,by simp[a4],V,V,V,fun w aS=>?_⟩;by_cases aT:w=k
           ·rw[aT];exact aQ
           ·exact aD w F
        ·have I:1000000000<y.aB:=F;have g:=u (by rw[o];simp[R]);rw[g];simp[m,p,G,f1,f2,f4,q,z,I,aH];exact aL
       ·have z:y.aB<=dM s.l k:=F;have g:=u (by rw[o];simp[Q]);rw[g];simp[m,p,G,f1,f2,f4,q,z,aH];exact aL
      ·have g:=u (by rw[o];simp[p]);rw[g];simp[m,p,G,f1,f4,q,aH];exact aL
     ·have g:=u (by rw[o];simp[m]);rw[g];simp[m];exact aL
    ·simp[h];exact aR (by rw[Jx aA fun w aS=>aD w (by simp at h;omega)]) rfl
end Op.aI
namespace Op.aI
open cu Op
structure NG (c:Int) (s:en) (x:List B) (k:Nat) (sgZ:aS) (l:ad) :Prop where
 ny:l=[.q 2 (bA c s),.q 32 (am x)]
 ha:sgZ 2=.ptr 0 0 2
 hP:sgZ 3=.ptr 1 0 32
 kG:sgZ 5=.i6 k
 jy:∀ (j:Nat) (z:List B),j<k->(s.l.map az.id)[j]?=some z->z≠x
theorem nL (c:Int) (s:en) (q:fj s.l) (U:s.l.length<=1000000) (x:List B) (D:x.length=32) :aW 79 [.af (bA c s),.af (am x)] (.i6 (dG x (s.l.map az.id) 0)):=by
 apply a8 func79 [];have Q:bz (.Z 45) (ch s)=_:=b6 _;have G:=br D;simp[bA,G];refine bx s.l.length (NG c s x) ?_ ⟨rfl,V,V,V,fun j o h=>F⟩;rintro k R l hk ⟨rfl,v,w,z,t⟩;obtain⟨R,rfl⟩:=gJ v w z;clear v w z;simp[bA,Q];refine fh (fun h=>?_) (fun h=>?_)
 ·simp only[bI] at h;obtain⟨y,H,u⟩:=aP (l:=s.l) (k:=k) F;have p:=eQ (q y u);have J:=cf (k:=k) F;have C:bO (.Z 45) (ch s) _=_:=c5 H;have I:(s.l.map az.id)[k]?=some y.id:=by rw[b1,H];rfl
  have heq:=nz (q y u).id D;have W:=br (q y u).id;obtain⟨S,K⟩:=al (aO y);rw[<-K] at p C;have f1:=p.len;have f4:=p.id;simp[C,f1,f4,G,aH,heq];by_cases m:y.id=x
  ·simp[m];have:=qI (n:=0) I t m;rw[hJ] at this;exact aR (by rw[this]) rfl
  ·simp[m,J];refine⟨F,rfl,V,V,V,fun j o T g=>?_⟩;by_cases O:j=k
   ·rw[O,I] at g;obtain rfl:=cd g;exact m
   ·exact t j o F g
 ·simp[h];have P:k=s.l.length:=by simp at h;omega
  have:=wi (n:=0) (l:=s.l.map az.id) (x:=x) fun j o g=>t j o (by rw[P];have:=(aK.1 g).1;simpa using this) g
  exact aR (by rw[this]) rfl
theorem wJ {alZ:Type} [DecidableEq alZ] :∀ {l m:List alZ},l.Nodup->(∀ x∈l,x∈m)->l.length<=m.length
 | [],m,_,_=>fR _
 | x::l,m,h,g=>by
  obtain⟨h1,p⟩:=u9.1 h;have j:=g x V;have q:=wJ (l:=l) (m:=m.erase x) p fun y o=>(Fe (fun e=>h1 (by rw[<-e];exact o))).2 (g y (by simp[o]))
  have:=Fa j;have:=Fb j;simp only[dN];omega
theorem kb {l:aQ} (h:b8 l=true) :∀ {d i:Nat},i+d+1<l.length->bQ (bw l i) (bw l (i+d+1))<0
 | 0,i,g=>KC h g
 | d+1,i,g=>ow _ _ _ (kb h (d:=d) (i:=i) F) (KC h (k:=i+d+1) g)
theorem DT {l:aQ} (h:b8 l=true) :l.Nodup:=by
 refine ko.2 fun i g p q t o=>?_
 have:=kb h (d:=g - i - 1) (i:=i) F;rw[show i+(g - i - 1)+1=g by omega] at this;have j:bw l i=l[i]:=dI (bK p);have m:bw l g=l[g]:=dI (bK q);rw[j,m,o,lg] at this;omega
structure Nj (o:aJ) (m:b2) (k:Nat) (sgZ:aS) (l:ad) :Prop where
 ny:l=[.q 11 (av o)]
 eZ:sgZ 1=ah m
 ha:sgZ 2=.ptr 0 0 11
 kG:sgZ 5=.i6 k
 jy:∀ j,j<k->bw m.l j∈o.ax.l
theorem J5 (o:aJ) (J:dm o) (m:b2) (z:c6 m) (ag:m.l.length<=1000000) :aW 114 [.af (av o),ah m] (.bool (eV o m.l)):=by
 apply a8 func114 [];have q:bz (.Z 32) (ah m)=_:=b6 _;have K:bz (.Z 32) (ah o.ax)=_:=b6 _;have S:=bM o.ax;have R:=bM m;by_cases p:m.l.length=0
 ·have g:eV o m.l=false:=by unfold eV;rw[p];rfl
  rw[g];simp[q,p];exact aL
 ·have ak:¬ ((m.l.length:Int)=0):=F;by_cases h1:o.ax.l.length<m.l.length
  ·have u:((o.ax.l.length:Int)<(m.l.length:Int)):=F;have g:eV o m.l=false:=by
    cases h:eV o m.l with
    | false=>rfl
    | true=>
     unfold eV at h;rw[bU,bU] at h;have:=wJ (DT h.2.1) fun x B=>iM (gc.1 h.2.2 x B)
     omega
   rw[g];simp[av,q,K,p,u];exact aL
  ·have u:¬ ((o.ax.l.length:Int)<(m.l.length:Int)):=F;simp[av,q,K,p,u];refine au (DD m z ag) (by simp[aq,R]) ?_;cases I:b8 m.l with
   | false=>
    have g:eV o m.l=false:=by unfold eV;rw[I];simp
    rw[g];simp;exact aL
   | true=>
    simp;refine bx m.l.length (Nj o m) ?_ ⟨rfl,V,V,V,fun j h=>F⟩;rintro k aj l hk ⟨rfl,D,G,H,O⟩;obtain⟨aj,rfl⟩:=gJ D G H;clear D G H;simp[q];refine fh (fun h=>?_) (fun h=>?_)
    ·simp only[bI] at h;obtain⟨y,P,C⟩:=aP (l:=m.l) (k:=k) F;have ai:=br (z y C);have Q:=cf (k:=k) F;have W:bO (.Z 32) (ah m) _=_:=c5 P;have X:=zK o.ax J.idsZ J.len y (z y C);have T:=cG y;simp[av,W,ai,aH];refine au X (by simp[aq,U.ar,S,T]) ?_;by_cases t:y∈o.ax.l
     ·simp[t,Q];refine⟨F,rfl,V,V,V,fun j w=>?_⟩;by_cases Y:j=k
      ·rw[Y,dI P];exact t
      ·exact O j F
     ·have g:eV o m.l=false:=by
       unfold eV;cases v:(m.l.all fun x=>decide (x∈o.ax.l)) with
       | false=>simp
       | true=>exact bW (iM (gc.1 v y C)) t
      rw[g];simp[t];exact aL
    ·simp[h];have ad:k=m.l.length:=by simp at h;omega
     have g:eV o m.l=true:=by
      unfold eV;have v:(m.l.all fun x=>decide (x∈o.ax.l))=true:=gc.2 fun x B=>by
       obtain⟨j,w⟩:=cq.1 B;have:=O j (by rw[ad];exact (aK.1 w).1);rw[dI w] at this;exact ca this
      rw[I,v,ca F];rfl
     rw[g];exact aL
end Op.aI
namespace Op.aI
open cu Op
structure NH (c:Int) (s:en) (k:Nat) (sgZ:aS) (l:ad) :Prop where
 ny:∃ r,l=.q 2 (bA c s) ::r
 eZ:sgZ 1=.ptr 0 0 2
 hP:sgZ 3=.i6 k
 jy:∀ j,j<k->hR s.l j=true
theorem EB {l:List az}:∀ {k:Nat},k<=l.length->(∀ j,j<k->hR l j=true)->-1<=dM l k
 | 0,_,_=>by simp[dM]
 | k+1,hk,h=>by
  have o:=EB (l:=l) (k:=k) F fun j m=>h j F
  have g:=h k F;unfold hR at g;simp only[bU,bI] at g;have:=g.2.2.1;unfold dM;rw[aj F,s8];omega
theorem RZ {l:List az} {k:Nat} {y:az} (v:l[k]?=some y) :dG y.id (l.map az.id) 0=(k:Int)<->y.id∉(l.take k).map az.id:=by
 have o:(l.map az.id)[k]?=some y.id:=by rw[b1,v];rfl
 have C:=(aK.1 o).1;constructor
 ·intro h m;rw[i3] at m;obtain⟨j,g⟩:=cq.1 m;have t:=(aK.1 g).1;rw[cL] at t;rw[dS F] at g
  -- the first place is at most j
  have q:∀ {l:aQ} {j n:Nat},l[j]?=some y.id->dG y.id l n<=((n+j:Nat) :Int):=by
   intro l
   induction l with
   | nil=>intro j n h;simp at h
   | cons w r B=>
    intro j n h;unfold dG;split
    ·omega
    ·rename_i u;rcases j with _ | j
     ·simp at h;exact bW h u
     ·have:=B (j:=j) (n:=n+1) (by simpa using h);omega
  have:=q (n:=0) g;rw[h] at this;omega
 ·intro h;have:=qI (n:=0) o (fun j D g z p=>h (by
   rw[i3];exact cq.2 ⟨j,by rw[dS g,z,p]⟩)) rfl
  simpa using this
theorem DB (c:Int) (s:en) (aD:fj s.l) (bc:s.l.length<=1000000) :aW 68 [.af (bA c s)] (.i6 (cH c s.l)):=by
 apply a8 func68 [cR 0 28++[[29],[28]]];have aA:bz (.Z 45) (ch s)=_:=b6 _;have aS:=fU s;by_cases h1:c<1
 ·have P:cH c s.l=8:=by unfold cH;rw[ak (.inl h1)]
  rw[P];simp[bA,h1];exact aL
 ·by_cases T:8<c
  ·have P:cH c s.l=8:=by unfold cH;rw[ak (.inr (.inl T))]
   rw[P];simp[bA,h1,T];exact aL
  ·by_cases ai:c<s.l.length
   ·have P:cH c s.l=8:=by unfold cH;rw[ak (.inr (.inr ai))]
    rw[P];simp[bA,aA,h1,T,ai];exact aL
   ·have aY:¬ (c<1\/8<c\/c<s.l.length):=F;simp[bA,aA,h1,T,ai];refine bx s.l.length (NH c s) ?_ ⟨⟨_,rfl⟩,V,V,fun u h=>F⟩;rintro k bi l hk ⟨⟨r,rfl⟩,z,aI,Y⟩;obtain⟨bi,rfl⟩:=kh z aI;clear z aI;simp[bA,aA];refine fh (fun h=>?_) (fun h=>?_)
    ·simp only[bI] at h;obtain⟨y,aE,bg⟩:=aP (l:=s.l) (k:=k) F;have t:=aD y bg;have B:=eQ t;have aF:=cf (k:=k) F;have C:bO (.Z 45) (ch s) _=_:=c5 aE;have a6:=eR aE;have R:=Dz y.op t.op;have aC:=J5 y.op t.op y.a2 t.a2 t.len;have aZ:=nL c s aD bc y.id t.id;have W:=RZ aE;have aT:=yO y.op;have bf:=oE aT t.id;have bp:=br t.id;have O:=du y.op;have aQ:=bM y.a2;have aM:=cG y.id;have j:hR s.l k=(decide (de y.op=0)&&(decide (bd y.op=y.id)&&(decide (dM s.l k<y.aB)&&(decide (y.aB<=1000000000)&&(eV y.op y.a2.l&&decide (y.id∉(s.l.take k).map az.id)))))):=by unfold hR;rw[a6]
     have o:hR s.l k=false->cH c s.l=8:=fun g=>Jv aY h g
     have bm:=EB (l:=s.l) (k:=k) F Y;obtain⟨bj,a4⟩:=al (aO y);rw[<-a4] at B C;obtain⟨a3,aJ⟩:=al (av y.op);have f1:=B.len;have f2:=B.aB;have f3:=B.op;have f4:=B.id;have f5:=B.a2;rw[<-aJ] at f3 R aC O;have bl:a3.length=11:=by rw[aJ];rfl
     have Q:=g1 f1;obtain⟨D,ao⟩:=al ((bd y.op).map a7);have v:D.length=32:=by rw[ao,cg,aT]
     have G:aw (bZ 32 (.int .u8 0)) 0 D=D:=cy (by rw[v];rfl);have X:eb prog .neq 57 (.af D) (.af (am y.id))=some (.bool !decide (bd y.op=y.id)):=by rw[ao];exact bf
     unfold eo at R;rw[<-ao] at R
     -- what comes behind the tickets
     have bn:dM s.l k<y.aB->y.aB<=1000000000->True:=fun _ _=>trivial
     by_cases I:y.aB<0
     ·have g:=o (by rw[j,ct (show ¬ dM s.l k<y.aB by omega)];simp);rw[g];simp[C,f1,Q,f2,I,aH];exact aL
     ·by_cases ag:y.aB<=1000000000
      ·have J:¬ 1000000000<y.aB:=F;by_cases aV:k=0
       ·have S:dM s.l k<y.aB:=by rw[aV];simp[dM];omega
        have a9:¬ (0:Int)<(k:Int):=F;have bb:¬ 0<k:=F;simp[C,f1,Q,f2,f4,I,J,bb,aH];refine au aZ (show aq [U.af (bA c s),U.af (am y.id)]=true by simp[bA,aq,U.ar,aS,aM]) ?_;by_cases q:y.id∈(s.l.take k).map az.id
        ·have g:=o (by rw[j];simp only[q,not_true,vf,uY]);have w:¬ dG y.id (s.l.map az.id) 0=(k:Int):=fun h=>(W.1 h) q
         rw[g];simp[w];exact aL
        ·have w:dG y.id (s.l.map az.id) 0=(k:Int):=W.2 q;simp[w,f1,f3];refine au R (by simp[aq,U.ar,O]) ?_;by_cases m:de y.op=0
         ·by_cases p:bd y.op=y.id
          ·simp[m,p,X,f1,f3,f4,f5,v,G,aH];refine au aC (by simp[aq,U.ar,O,aQ]) ?_;cases K:eV y.op y.a2.l with
           | false=>
            have g:=o (by rw[j];simp[K]);rw[g];simp;exact aL
           | true=>
            have ap:hR s.l k=true:=by rw[j,K];simp only[m,p,S,ag,q,n5,xR,k1]
            simp[aF];exact⟨F,⟨_,rfl⟩,V,V,fun u aU=>by
             by_cases ay:u=k
             ·rw[ay];exact ap
             ·exact Y u F⟩
          ·have g:=o (by rw[j];simp[p]);rw[g];simp[m,p,X,f1,f4,v,G,aH];exact aL
         ·have g:=o (by rw[j];simp[m]);rw[g];simp[m,v,G];exact aL
       ·obtain⟨H,a0,bh⟩:=aP (l:=s.l) (k:=k - 1) F;have aG:IntKind.i64.wrap ((k:Int) - 1)=((k - 1:Nat) :Int):=by rw[IntKind.wrap_i64];omega
        have a9:(0:Int)<(k:Int):=F;have aX:0<k:=F;have ax:bO (.Z 45) (ch s) (.i6 ((k - 1:Nat) :Int))=some (.b7 (aO H) 0):=by simp[ch,a0]
        have aK:=eQ (aD H bh);have ah:=aK.aB;have z:=aK.len;have bo:dM s.l k=H.aB:=by unfold dM;rw[aj aV,eR a0]
        obtain⟨bk,a5⟩:=al (aO H);simp only[<-a5] at z ah ax;by_cases S:dM s.l k<y.aB
        ·have ad:¬ y.aB<=H.aB:=F;simp[C,ax,f1,z,Q,f2,ah,f4,I,J,aX,aG,ad,aH];refine au aZ (show aq [U.af (bA c s),U.af (am y.id)]=true by simp[bA,aq,U.ar,aS,aM]) ?_;by_cases q:y.id∈(s.l.take k).map az.id
         ·have g:=o (by rw[j];simp only[q,not_true,vf,uY]);have w:¬ dG y.id (s.l.map az.id) 0=(k:Int):=fun h=>(W.1 h) q
          rw[g];simp[w];exact aL
         ·have w:dG y.id (s.l.map az.id) 0=(k:Int):=W.2 q;simp[w,f1,f3];refine au R (by simp[aq,U.ar,O]) ?_;by_cases m:de y.op=0
          ·by_cases p:bd y.op=y.id
           ·simp[m,p,X,f1,f3,f4,f5,v,G,aH];refine au aC (by simp[aq,U.ar,O,aQ]) ?_;cases K:eV y.op y.a2.l with
            | false=>
             have g:=o (by rw[j];simp[K]);rw[g];simp;exact aL
            | true=>
             have ap:hR s.l k=true:=by rw[j,K];simp only[m,p,S,ag,q,n5,xR,k1]
             simp[aF];exact⟨F,⟨_,rfl⟩,V,V,fun u aU=>by
              by_cases ay:u=k
              ·rw[ay];exact ap
              ·exact Y u F⟩
           ·have g:=o (by rw[j];simp[p]);rw[g];simp[m,p,X,f1,f4,v,G,aH];exact aL
          ·have g:=o (by rw[j];simp[m]);rw[g];simp[m,v,G];exact aL
        ·have ad:y.aB<=H.aB:=F;have g:=o (by rw[j];simp[S]);rw[g];simp[C,ax,f1,z,Q,f2,ah,I,J,aX,aG,ad,aH];exact aL
      ·have J:1000000000<y.aB:=F;have g:=o (by rw[j];simp[ag]);rw[g];simp[C,f1,Q,f2,I,J,aH];exact aL
    ·simp[h];exact aR (by rw[Jx aY fun u aU=>Y u (by simp at h;omega)]) rfl
end Op.aI
namespace Op.aI
open cu Op
theorem l3 (s:b2) (g:c6 s) (j:s.l.length<=1000000) :aW 80 [ah s] (ah s):=by
 refine uo checked.mixed eG ?_;refine yP s g j fun o m h=>?_
 exact h.rd cG s rfl rfl
theorem nP {R:ag} {i:Nat} (v:U) (g:i<R.length) :aw R i [v]=R.set i v:=by unfold aw;rw[rv,ak g,xL,hl,Fh]
theorem Xf {R:ag} {i:Nat} {v:U} (h:R[i]?=some v) :aw R i [v]=R:=by obtain⟨j,g⟩:=aK.1 h;rw[nP v j,<-g,A1]
theorem Lf (R:ag) (i:Nat) (v w:U) (g:i<R.length) :aw (aw R i [v]) i [w]=aw R i [w]:=by rw[nP v g,nP w (by rw[km];exact g),nP w g,A2]
def ig (s:az) (w:U) :ag:=.i6 s.aB::(av s.op++(am s.id++[w]))
theorem xh {s:az} (h:s.id.length=32) (w:U) :aw (aO s) 44 [w]=ig s w:=by have g:=br h;unfold aw aO ig av;simp[g,u4]
theorem Wf (s:az) :(aO s)[2]?=some (ah s.op.ax):=rfl
theorem zW {s:az} (h:s.id.length=32) :(aO s)[44]?=some (ah s.a2):=by have g:=br h;unfold aO av;simp[g]
theorem EF (s:az) (g:h4 s) {l:ad} {K:cA} (H:∀ w l',ce 32 am l l' w s.a2.l s.a2.isNone->K (.af (ig s w)) l') :
  cM 101 [.af (aO s)] l K:=by
 apply c0 func101 [[[0],[1],[2],[4],[5],[3,5],[7],[8],[6]]];have p:=eQ g;have o:=Wf s;have G:=zW g.id;have z:=xh g.id;have O:=l3 s.op.ax g.op.idsZ g.op.len;have P:=bM s.op.ax;have R:(ah s.op.ax).cells=some [ah s.op.ax]:=by cases s.op.ax<;>rfl
 obtain⟨j,I⟩:=al (aO s);rw[<-I] at p o G z ⊢;have f1:=p.len;have S:=Xf o;have D:∀ h:2<j.length,j[2]'h=ah s.op.ax:=fun h=>(aK.1 o).2
 have t:=p.a2;simp[f1,D,t];refine au O (by simp[aq,P]) ?_;simp[f1,t];obtain⟨L,m⟩:=al (l++[ao.q 45 j,ao.q 45 m4]);have aw:L.length=l.length+2:=by rw[m];simp
 have aj:L[l.length]?=some (.q 45 j):=by rw[m];simp
 have q1:L[l.length+1]?=some (.q 45 m4):=by rw[m];simp
 unfold m4 at m q1;rw[<-m];refine yP s.a2 g.a2 g.len fun w l1 h1=>?_
 have aA:=h1.le;have C:l1[l.length]?=some (.q 45 j):=by rw[h1.same _ F];exact aj
 have ai:l1[l.length+1]?=some (.q 45 (U.i6 0::U.int .u32 0::U.ae::U.int .u64 0::U.int .u8 0::U.str [] ::U.int .u8 0::U.i6 0::U.int .u64 0::U.str [] ::U.int .u32 0::U.int .u32 0::(bZ 32 (.int .u8 0)++[U.ae]))):=by rw[h1.same _ F];exact q1
 have V:=h1.cells;have u:=z w;have v:(ig s w).length=45:=by rw[<-u,nP w F,km,f1]
 have T:=g1 v;have ak:∀ c:ao,(l1.set l.length c)[l.length]?=some c:=fun c=>bV F
 have ap:∀ c:ao,(l1.set l.length c)[l.length+1]?=l1[l.length+1]?:=fun c=>bg F
 have ar:∀ c d:ao,((l1.set l.length c).set (l.length+1) d)[l.length+1]?=some d:=fun c d=>bV (by simp;omega)
 have av:(l1.set l.length (.q 45 j))=l1:=by
  obtain⟨ay,Q⟩:=aK.1 C;rw[<-Q,A1]
 simp[C,ai,f1,R,V,S,ak,ap,ar,av,u,v,T,aH];obtain⟨W,X,aB,Y,B,ag⟩:=h1;refine H w _ ⟨W,X.cl (B.imp id fun h=>?_),by simp;omega,fun b J=>?_,B.imp id F,ag⟩
 ·rw[bg F,bg F]
 ·rw[bg F,bg F,Y b F,m,aU J]
end Op.aI
namespace Op.aI
open cu Op
theorem HB:fI prog 141=true:=bp
theorem Pn (x:List B) (m:x.length=32) {j bi:Nat} {l:ad} {xs:aQ} (u:∀ y∈xs,y.length=32) (h1:l[bi]?=some (.q 32 (am x))) (G:bi≠j) :
  vg 141 [.ptr bi 0 32] j l xs (fun y=>decide (y=x)):=by
 intro y p v F I w;apply c0 func141 [];have h:v[bi]?=some (.q 32 (am x)):=by rw[F.same _ (aX h1) G];exact h1
 have H:=aX h;have g:∀ c:ao,(v++[c])[bi]?=some (.q 32 (am x)):=fun c=>by rw[aU H];exact h
 have t:=br (u y p);have o:=br m;have heq:=nz (u y p) m;obtain⟨J,z⟩:=al (am x);obtain⟨K,C⟩:=al (am y);rw[<-z] at g o heq;rw[<-C] at t heq ⊢;simp[g,t,o,heq,aH];exact w _ V fun b D=>aU D
def fA (x y:List B) :Bool:=!decide (y=x)
theorem G3 {l0 l:ad} {w:U} {xs:aQ} {J:Bool} (h:ce 32 am l0 l w xs J) (I:∀ y∈xs,y.length=32) (S:xs.length<=1000000) (x:List B) (X:x.length=32) {bi:Nat} (h1:l0[bi]?=some (.q 32 (am x)))
  {K:cA} (D:∀ (m:b2) z,l.length<=z.length->(∀ b,b<l0.length->z[b]?=l0[b]?)->m.l=xs.filter (fA x)->m.isNone=J->K (ah m) z) :
  cM 140 [w,.fn 141 [] [.ptr bi 0 32]] l K:=by
 refine Gp checked.mixed eG ?_;obtain⟨j,O,ao,C,ak,P⟩:=h;have R:=aX h1;have Q:l[bi]?=some (.q 32 (am x)):=by rw[C bi R];exact h1
 by_cases v:bo w=true
 ·have W:=gm.1 v;subst W;have Y:xs=[]:=by have:=O.q.oN;rwa [m7] at this
  subst Y;refine G4 (j:=l.length+1) (xs:=[]) (p:=fun y=>decide (y=x)) HB (.nil _) V V (fun y ag=>by cases ag) fun r o G g u=>?_
  obtain rfl:=gm.1 u;refine⟨.ae,o,⟨rfl,fun _=>.inl rfl⟩,.same _,g.le,D none o g.le (fun b t=>?_) rfl (by rw[<-P];rfl)⟩;rw[g.same b F F];exact C b t
 ·have H:bo w=false:=p6.2 v;have al:l0.length<=j:=ak.resolve_left fun h=>v (gm.2 h)
  refine G4 (p:=fun y=>decide (y=x)) HB O I S (Pn x X I Q F) fun r o G g u=>?_
  have T:bo r=false:=by rw[u];exact H
  obtain⟨ai,aj⟩:=uk G T;refine⟨_,o.set j .dead,ai,aj,by have:=g.le;simpa using this,D (some (xs.filter (fA x))) _ (by have:=g.le;simpa using this) (fun b t=>?_) rfl (by rw[<-P,H];rfl)⟩;rw[bg F,g.same b F F];exact C b t
def nQ (x:List B) (m:b2) :b2:=match m with | none=>none | some a=>some (a.filter (fA x))
def er (x:List B) (s:az) :az:={ s with a2:=nQ x s.a2 }
theorem xl (x:List B) (m:b2) :(nQ x m).l=m.l.filter (fA x):=by cases m<;>rfl
theorem Lt {x:List B} {m g:b2} (h1:g.l=m.l.filter (fA x)) (h:g.isNone=m.isNone) :g=nQ x m:=by
 cases m with
 | none=>cases g with
  | none=>rfl
  | some a=>cases h
 | some a=>cases g with
  | none=>cases h
  | some b=>exact ci some h1
theorem Er {x:List B} {s:az} (h:h4 s) :h4 (er x s):=by
 refine⟨h.op,h.id,fun y g=>?_,?_⟩
 ·have:y∈(nQ x s.a2).l:=g;rw[xl] at this;exact h.a2 y (dx.1 this).1
 ·show (nQ x s.a2).l.length<=_;rw[xl];exact dC (g4 _ _) h.len
def gone (s:az) :Bool:=s.a2.l.isEmpty
def cZ (x:List B) (l:List az) :List az:=(l.map (er x)).filter gone
def cP (x:List B) (l:List az) :List az:=(l.map (er x)).filter fun s=>!gone s
def cU (l:List az) :en:=match l with | []=>none | a::r=>some (a::r)
theorem eW (l:List az) :(cU l).l=l:=by cases l<;>rfl
theorem uL (l:List az) :(cU l).isNone=l.isEmpty:=by cases l<;>rfl
theorem uH {p:az->Bool} {f:az->az} {l:List az} {k:Nat} {y:az} (h:l[k]?=some y) :((l.take (k+1)).map f).filter p=((l.take k).map f).filter p++(if p (f y) then [f y] else []):=by rw[ej,h,cS,lH];cases g:p (f y)<;>simp[g]
structure MU (c:Int) (s:en) (x:List B) (k:Nat) (fe:U) (l:ad) :Prop where
 nH:l[0]?=some (.q 2 (bA c s))
 lw:l[1]?=some (.q 32 (am x))
 jE:l[2]?=some (.q 2 [.i6 0,.ae])
 ex:∃ g h j,l[3]?=some (.q 2 [.i6 c,g])/\aE 45 l fe h ((cZ x (s.l.take k)).map aO)/\aE 45 l g j ((cP x (s.l.take k)).map aO)/\(fe=.ae\/4<=h)/\(g=.ae\/4<=j)/\(fe=.ae\/g=.ae\/h≠j) ∧
  bo fe=(cZ x (s.l.take k)).isEmpty/\bo g=(cP x (s.l.take k)).isEmpty
 len:4<=l.length
structure MV (c:Int) (s:en) (x:List B) (k:Nat) (sgZ:aS) (l:ad) :Prop where
 ha:sgZ 2=.ptr 0 0 2
 hP:sgZ 3=.ptr 1 0 32
 hQ:sgZ 4=.ptr 2 0 2
 nw:sgZ 8=.ptr 3 0 2
 HJ:sgZ 22=ch s
 HK:sgZ 23=.i6 s.l.length
 Q1:sgZ 24=.i6 k
 h:∃ fe,sgZ 9=fe/\MU c s x k fe l
theorem oe {l:ad} {v:U} {j:Nat} {es:List az} {s:az} (h:aE 45 l v j (es.map aO)) (o:(aO s).length=45) (D:es.length<=1000000) :
  ∃ g m l',ea (l++[.q 45 (aO s)]) 45 176 v (.Z 45 l.length 0 1 1 45)=some (g,l')/\aE 45 l' g m ((es++[s]).map aO)/\l.length+1<=l'.length/\(∀ b,b<l.length->v=.ae\/b≠j->l'[b]?=l[b]?)/\(l.length<=m\/(v≠.ae/\m=j))/\bo g=false:=by
 have B:=ds;obtain⟨g,m,l',p,t,u,d1,w,f1⟩:=hN (h.more [.q 45 (aO s)]) (by_:=176) (x:=.Z 45 l.length 0 1 1 45) (xs:=[aO s]) (by simp[cr,o,aH]) (by simp[o]) F F (by rw[B];simp;omega);have f2:bo g=false:=by rw[f1];simp
 refine⟨g,m,l',p,by rw[cS];exact t,by simpa using u,fun b z C=>?_,?_,f2⟩
 ·rw[d1 b (by simp;omega) C,aU z]
 ·rcases w with h | h | h
  ·exact .inl (by simp at h;omega)
  ·exact .inr h
  ·rw[h] at f2;cases f2
def yl (c:Int) (l:List az) (x:List B) :U:=
 if cH c l=0 then .a1 [.af (bA c (cU (cP x l))),ch (cU (cZ x l)),.i6 0] else .a1 [.af [.i6 0,.ae],.ae,.i6 (cH c l)]
theorem sv {l:ad} {a b c j m c' : U} (h1:Rd l a j) (p:Rd l b m) (q:Rd l c c') :Rd l (.a1 [a,b,c]) (.a1 [j,m,c']):=by
 refine .a1 _ _ rfl fun o x t g h=>?_
 rcases o with _ | _ | _ | o
 ·simp at g h;subst g h;exact h1
 ·simp at g h;subst g h;exact p
 ·simp at g h;subst g h;exact q
 ·simp at g
theorem w5 {l:ad} {a b j m:U} (h1:Rd l a j) (p:Rd l b m) :Rd l (.af [a,b]) (.af [j,m]):=by
 refine .af _ _ rfl fun o x q g h=>?_
 rcases o with _ | _ | o
 ·simp at g h;subst g h;exact h1
 ·simp at g h;subst g h;exact p
 ·simp at g
theorem Yt (c:Int) (s:en) (bv:fj s.l) (bX:s.l.length<=1000000) (x:List B) (bC:x.length=32) :aW 91 [.af (bA c s),.af (am x)] (yl c s.l x):=by
 apply a8 func91 [];unfold yl;have b0:bz (.Z 45) (ch s)=_:=b6 _;have bR:=fU s;have bD:=br bC;have bn:=uR c s bv bX;have bo:aq [U.af (bA c s)]=true:=by simp[bA,aq,U.ar,bR]
 by_cases av:cH c s.l=0
 ·simp[bA,bD];refine au bn bo ?_;simp[av,b0];refine bx s.l.length (MV c s x) ?_ ⟨V,V,V,V,V,V,V,.ae,V,⟨rfl,rfl,rfl,⟨.ae,0,0,rfl,.nil 0,.nil 0,.inl rfl,.inl rfl,.inl rfl,rfl,rfl⟩,V⟩⟩;rintro k cw l hk ⟨a5,bb,bc,bd,a6,a7,a9,S,bf,hH⟩;obtain⟨cw,rfl⟩:=Au a5 bb bc bd bf a6 a7 a9;clear a5 bb bc bd bf a6 a7 a9;simp;refine fh (fun h=>?_) (fun h=>?_)
  ·simp only[bI] at h;obtain⟨y,aT,cn⟩:=aP (l:=s.l) (k:=k) F;have O:=bv y cn;have bj:=eQ O;have cc:=Er (x:=x) O;have ax:=eQ cc;have a4:=cf (k:=k) F;have bq:bO (.Z 45) (ch s) _=_:=c5 aT;have aS:=xh O.id;obtain⟨aY,aA,aB,⟨G,o,v,ap,ai,Q,d1,d2,d3,ay,az⟩,b1⟩:=hH;obtain⟨n,aQ⟩:=al (l.length);have bB:∀ K:cA,(∀ w bE,ce 32 am (l++[ao.q 45 (aO y)]) bE w y.a2.l y.a2.isNone->K (.af (ig y w)) bE)->cM 101 [.af (aO y)] (l++[ao.q 45 (aO y)]) K:=fun K bJ=>EF y O bJ
   obtain⟨I,bM⟩:=al (aO y);rw[<-bM] at bj bq aS bB;have f1:=bj.len;have cj:=g1 f1;simp[bq,f1,cj,aH,<-aQ];refine bB _ fun w aX j=>?_
   have bY:=j.le;have b3:(l++[ao.q 45 I]).length=n+1:=by rw[aQ];simp
   rw[b3] at bY;have cq:aX[n]?=some (.q 45 I):=by rw[j.same n F,aQ];simp
   have aG:=aS w;have aI:(ig y w).length=45:=by rw[<-aG,nP w F,km,f1]
   have bk:∀ h:44<(ig y w).length,(ig y w)[44]'h=w:=fun h=>by
    have:(ig y w)[44]?=some w:=by rw[<-aG,nP w F,bV F]
    exact (aK.1 this).2
   have bp:∀ m:b2,m=nQ x y.a2->aw (ig y w) 44 [ah m]=aO (er x y):=fun m X=>by
    rw[<-aG,Lf I 44 _ _ F,aS (ah m),X];rfl
   obtain⟨lP,bL⟩:=al (ig y w);rw[<-bL] at aI bk bp ⊢;have ck:aw I 0 lP=lP:=cy (by rw[aI,f1]);have cs:∀ c:ao,(aX.set n c)[n]?=some c:=fun c=>bV F
   simp[cq,aI,ck,cs,bk]
   -- the struck idsZ
   have cb:ce 32 am ((l++[ao.q 45 I]).set n (.q 45 lP)) (aX.set n (.q 45 lP)) w y.a2.l y.a2.isNone:=by
    obtain⟨cp,C,cz,bF,a3,bG⟩:=j;refine⟨cp,C.cl (a3.imp id fun h=>by rw[bg F]),by simp;omega,fun b u=>?_,a3.imp id V,bG⟩;rw[km] at u;by_cases bN:b=n
    ·rw[bN,bV F,bV F]
    ·rw[bg F,bg F];exact bF b u
   have bl:∀ b,b<n->((l++[ao.q 45 I]).set n (.q 45 lP))[b]?=l[b]?:=fun b u=>by rw[bg F,aU F]
   refine G3 cb O.a2 O.len x bC (bi:=1) (by rw[bl 1 F];exact aA) fun m ag bZ bw b4 b5=>?_
   have X:=Lt b4 b5;have bK:n+1<=ag.length:=by simp at bZ;omega
   have cd:ag[n]?=some (.q 45 lP):=by rw[bw n (by simp;omega),bV F]
   have ci:∀ b,b<n->ag[b]?=l[b]?:=fun b u=>by rw[bw b (by simp;omega)];exact bl b u
   have b8:(ah m).cells=some [ah m]:=by cases m<;>rfl
   have bh:=bp m X;have cv:∀ c:ao,(ag.set n c)[n]?=some c:=fun c=>bV F
   have aV:∀ h:44<(aO (er x y)).length,(aO (er x y))[44]'h=ah m:=fun h=>by rw[ax.a2 h,X];rfl
   have bt:bz (.Z 32) (ah m)=_:=b6 _;have ad:=ax.len;obtain⟨H,W⟩:=al (ag.set n (.q 45 (aO (er x y))));have t5:n+1<=H.length:=by rw[W];simpa using bK
   have t0:∀ b,b<n->H[b]?=l[b]?:=fun b u=>by rw[W,bg F];exact ci b u
   have t1:H[n]?=some (.q 45 (aO (er x y))):=by rw[W];exact cv _
   have aZ:aE 45 H S o ((cZ x (s.l.take k)).map aO):=ai.cl (by
    rcases ai.lt with h | h
    ·exact .inl h
    ·exact .inr (t0 o F))
   have a0:aE 45 H G v ((cP x (s.l.take k)).map aO):=Q.cl (by
    rcases Q.lt with h | h
    ·exact .inl h
    ·exact .inr (t0 v F))
   have bS:(cZ x (s.l.take k)).length<=1000000:=by
    unfold cZ;refine dC (g4 _ _) ?_;rw[cg,cL];omega
   have b9:(cP x (s.l.take k)).length<=1000000:=by
    unfold cP;refine dC (g4 _ _) ?_;rw[cg,cL];omega
   have P:=uH (p:=gone) (f:=er x) aT;have D:=uH (p:=fun s=>!gone s) (f:=er x) aT;have J:gone (er x y)=decide (m.l.length=0):=by
    have e:(er x y).a2=m:=X.symm;unfold gone;rw[e];cases m.l<;>simp
   obtain⟨cx,aJ⟩:=al (aO (er x y));simp only[<-aJ] at bh aV ad t1 W;simp[cd,b8,bh];rw[<-W];by_cases Y:m.l.length=0
   ·rw[Y,ca rfl] at J;rw[J,ak rfl] at P;rw[J] at D;simp only[u0,kj,if_false,eK] at D;obtain⟨R,c2,t,T,C,bH,dh,ee,aF⟩:=oe aZ ax.len bS;rw[<-aJ] at T;have aR:=g1 ad;simp[t1,ad,aV,bt,Y,aR,aH,T];refine bP.bm ?_;have z:∀ b,b<4->t[b]?=l[b]?:=fun b u=>by rw[dh b F (d1.imp id fun h=>F)];exact t0 b F
    have aM:=a0.lt;have aD:aE 45 t G v ((cP x (s.l.take k)).map aO):=a0.cl (by
     rcases aM with h | h
     ·exact .inl h
     ·rcases d3 with g | g | g
      ·exact .inr (dh v h (.inl g))
      ·exact .inl g
      ·exact .inr (dh v h (.inr fun e=>g e.symm)))
    simp[a4];refine⟨F,V,V,V,V,V,V,V,R,V,⟨by rw[z 0 F];exact aY,by rw[z 1 F];exact aA,by rw[z 2 F];exact aB,⟨G,c2,v,by rw[z 3 F];exact ap,?_,?_,.inr ?_,d2,?_,?_,?_⟩,F⟩⟩
    ·show aE 45 t R c2 ((cZ x (s.l.take (k+1))).map aO);unfold cZ at C ⊢;rw[P];exact C
    ·show aE 45 t G v ((cP x (s.l.take (k+1))).map aO);unfold cP at aD ⊢;rw[D];exact aD
    ·rcases ee with h | ⟨h,h'⟩
     ·omega
     ·rw[h'];exact d1.resolve_left h
    ·right;rcases d3 with g | g | g
     ·rcases aM with j | j
      ·exact .inl j
      ·rcases ee with h | ⟨h,_⟩
       ·exact .inr F
       ·exact bW g h
     ·exact .inl g
     ·rcases aM with j | j
      ·exact .inl j
      ·rcases ee with h | ⟨_,h'⟩
       ·exact .inr F
       ·exact .inr (by rw[h'];exact g)
    ·rw[aF];unfold cZ;rw[P];simp
    ·rw[az];unfold cP;rw[D]
   ·rw[ct Y] at J;rw[J,aj V,eK] at P;rw[J] at D;simp only[rq,if_true] at D;obtain⟨R,c2,t,T,C,bH,dh,ee,aF⟩:=oe a0 ax.len b9;rw[<-aJ] at T;have aR:=g1 ad;have t3:H[3]?=some (.q 2 [.i6 c,G]):=by rw[t0 3 F];exact ap
    have cC:=Q.cells;have cm:=C.cells;have cB:¬ m.l=[]:=fun h=>Y (by rw[h];rfl)
    simp[t1,t3,ad,aV,bt,Y,aR,aH,T];refine bP.bm ?_;have z:∀ b,b<4->t[b]?=l[b]?:=fun b u=>by rw[dh b F (d2.imp id fun h=>F)];exact t0 b F
    have cr:t[3]?=some (.q 2 [.i6 c,G]):=by rw[z 3 F];exact ap
    have bs:=aZ.lt;have bT:4<=c2:=by
     rcases ee with h | ⟨h,h'⟩
     ·omega
     ·rw[h'];exact d2.resolve_left h
    have aC:aE 45 t S o ((cZ x (s.l.take k)).map aO):=aZ.cl (by
     rcases bs with h | h
     ·exact .inl h
     ·rcases d3 with g | g | g
      ·exact .inl g
      ·exact .inr (dh o h (.inl g))
      ·exact .inr (dh o h (.inr g)))
    simp[cr,cm,aw,a4];refine⟨F,V,V,V,V,V,V,V,S,V,⟨by rw[bg F,z 0 F];exact aY,by rw[bg F,z 1 F];exact aA,by rw[bg F,z 2 F];exact aB,⟨R,o,c2,bV F,?_,?_,d1,.inr bT,?_,?_,?_⟩,by simp;omega⟩⟩
    ·show aE 45 _ S o ((cZ x (s.l.take (k+1))).map aO);refine (show aE 45 t S o ((cZ x (s.l.take (k+1))).map aO) from ?_).cl (d1.imp id fun h=>by rw[bg F]);unfold cZ at aC ⊢;rw[P];exact aC
    ·show aE 45 _ R c2 ((cP x (s.l.take (k+1))).map aO);refine (show aE 45 t R c2 ((cP x (s.l.take (k+1))).map aO) from ?_).cl (.inr (by rw[bg F]));unfold cP at C ⊢;rw[D];exact C
    ·rcases bs with j | j
     ·exact .inl j
     ·rcases ee with h | ⟨h,h'⟩
      ·exact .inr (.inr F)
      ·rcases d3 with g | g | g
       ·exact .inl g
       ·exact bW g h
       ·exact .inr (.inr (by rw[h'];exact g))
    ·rw[ay];unfold cZ;rw[P]
    ·rw[aF];unfold cP;rw[D];simp
  ·simp[h];have bU:k=s.l.length:=by simp at h;omega
   obtain⟨aY,aA,aB,⟨G,o,v,ap,ai,Q,d1,d2,d3,ay,az⟩,b1⟩:=hH;rw[bU,e3] at ai Q ay az;have cu:∀ c:ao,(l.set 2 c)[2]?=some c:=fun c=>bV F
   have aC:∀ c:ao,aE 45 (l.set 2 c) S o ((cZ x s.l).map aO):=fun c=>ai.cl (d1.imp id fun h=>by rw[bg F])
   have aD:∀ c:ao,aE 45 (l.set 2 c) G v ((cP x s.l).map aO):=fun c=>Q.cl (d2.imp id fun h=>by rw[bg F])
   simp[ap,aB,cu];rw[ak av];exact sv (w5 (.same _ rfl) ((aD _).q.gG jf (cU _) (by rw[az,uL]) (eW _))) ((aC _).q.gG jf (cU _) (by rw[ay,uL]) (eW _)) (.same _ rfl)
 ·rw[aj av];simp[bA,bD];refine au bn bo ?_;simp[av];exact aL
end Op.aI
namespace Op.aI
open cu Op
def pH (g:aQ) (y:List B) :Bool:=!decide (y∈g)
def xk (g:aQ) (m:b2) :b2:=match m with | none=>none | some a=>some (a.filter (pH g))
def jN (g:aQ) (s:az) :az:={ s with a2:=xk g s.a2 }
def l6 (g:aQ) (l:List az) :List az:=(l.map (jN g)).filter fun s=>!gone s
theorem Ep (g:aQ) (m:b2) :(xk g m).l=m.l.filter (pH g):=by cases m<;>rfl
theorem Lu (g:aQ) (x:List B) (s:az) :er x (jN g s)=jN (g++[x]) s:=by
 unfold er jN;congr 1;cases j:s.a2 with
 | none=>rfl
 | some a=>
  show some ((a.filter (pH g)).filter (fA x))=some (a.filter (pH (g++[x])));rw[List.filter_filter];congr 2;funext y;unfold pH fA;by_cases h1:y=x<;>by_cases h:y∈g<;>simp[h1,h]
theorem Re {g:aQ} {x:List B} {s:az} (h:gone (jN g s)=true) :gone (er x (jN g s))=true:=by unfold gone at h ⊢;have h1:(jN g s).a2.l=[]:=xK.1 h;show (nQ x (jN g s).a2).l.isEmpty=true;rw[xl,h1];rfl
theorem IR (x:List B) (g:aQ) :∀ l:List az,cP x (l6 g l)=l6 (g++[x]) l
 | []=>rfl
 | s::l=>by
  have h:=IR x g l;unfold cP l6 at h ⊢;rw[di,di,s2];cases j:gone (jN g s) with
  | true=>
   have:=Re (x:=x) j;rw[Lu] at this;simp only[u0,kj,if_false];rw[h,s2,this];simp
  | false=>
   simp only[rq,if_true];rw[di,s2,Lu,s2,h]
theorem qV (x:List B) :∀ l:List az,(cP x l).length+(cZ x l).length=l.length
 | []=>rfl
 | s::l=>by
  have g:=qV x l;unfold cP cZ at g ⊢;rw[di,s2,s2];cases gone (er x s)<;>simp<;>omega
def hC (s:az) :Prop:=de s.op=0/\bd s.op=s.id/\0<=s.aB/\s.aB<=1000000000/\eV s.op s.a2.l=true
theorem pw (l:List az) :oB l=true<->(∀ s∈l,hC s)/\l.Pairwise (fun a b=>a.aB<b.aB)/\l.Pairwise fun a b=>a.id≠b.id:=by
 constructor
 ·intro h;have hk:∀ k,k<l.length->hR l k=true:=iM h;have q:∀ (k:Nat) (s:az),l[k]?=some s->de s.op=0/\bd s.op=s.id/\dM l k<s.aB/\s.aB<=1000000000/\eV s.op s.a2.l=true/\s.id∉(l.take k).map az.id:=fun k s o=>by
   have:=hk k (aK.1 o).1;unfold hR at this;rw[eR o] at this;simp only[bU,bI] at this;exact this
  have T:∀ (d i:Nat) (a b:az),l[i]?=some a->l[i+d+1]?=some b->a.aB<b.aB:=by
   intro d
   induction d with
   | zero=>
    intro i a b u p;have:=(q (i+1) b p).2.2.1;unfold dM at this;rw[aj F,s8,eR u] at this;exact this
   | succ d W=>
    intro i a b u p;obtain⟨D,t,_⟩:=aP (l:=l) (k:=i+d+1) (by have:=(aK.1 p).1;omega);have h1:=W i a D u t;have m:=(q (i+d+1+1) b p).2.2.1;unfold dM at m;rw[aj F,s8,eR t] at m;omega
  refine⟨fun s o=>?_,ko.2 fun i g v j C=>?_,ko.2 fun i g v j C R=>?_⟩
  ·obtain⟨k,w⟩:=cq.1 o;obtain⟨h1,m,B,P,Q,_⟩:=q k s w;have Y:=EB (l:=l) (k:=k) (by have:=(aK.1 w).1;omega) fun g j=>hk g (by have:=(aK.1 w).1;omega)
   exact⟨h1,m,F,P,Q⟩
  ·exact T (g - i - 1) i _ _ (bK v) (by rw[show i+(g - i - 1)+1=g by omega];exact bK j)
  ·have:=(q g _ (bK j)).2.2.2.2.2;refine this ?_;rw[<-R];exact s4 (cq.2 ⟨i,by rw[dS C];exact bK v⟩)
 ·rintro⟨h1,m,B⟩;refine ca fun k hk=>?_
  have o:=bK hk;obtain⟨I,J,X,K,O⟩:=h1 _ (E8 hk);unfold hR;rw[eR o];have G:dM l k<l[k].aB:=by
   unfold dM;by_cases z:k=0
   ·rw[ak z];omega
   ·rw[aj z,eR (bK (l:=l) (i:=k - 1) F)];exact (ko.1 m) (k - 1) k F hk F
  have H:l[k].id∉(l.take k).map az.id:=fun U=>by
   obtain⟨D,t,V⟩:=cC.1 U;obtain⟨g,j⟩:=cq.1 t;have S:=(aK.1 j).1;rw[cL] at S;rw[dS F] at j;have:=(ko.1 B) g k F hk F;rw[(aK.1 j).2] at this;exact this V
  simp only[I,J,G,K,O,H,n5,xR,k1]
theorem KB (l:aQ) :b8 l=true<->l.Pairwise fun a b=>bQ a b<0:=by
 constructor
 ·intro h;refine ko.2 fun i g j m o=>?_
  have:=kb h (d:=g - i - 1) (i:=i) F;rw[show i+(g - i - 1)+1=g by omega] at this
  rwa [dI (bK j),dI (bK m)] at this
 ·intro h;refine uw fun k hk h1=>?_
  have:=(ko.1 h) (k - 1) k F hk F
  rwa [dI (bK (l:=l) (i:=k - 1) F),dI (bK hk)]
theorem TZ {g:aQ} {s:az} (h:hC s) (m:gone (jN g s)=false) :hC (jN g s):=by
 obtain⟨h1,o,p,q,j⟩:=h;refine⟨h1,o,p,q,?_⟩;unfold eV at j ⊢;rw[bU,bU,bI] at j;have u:(jN g s).a2.l=s.a2.l.filter (pH g):=Ep g s.a2;unfold gone at m;rw[u] at m ⊢;have v:0<(s.a2.l.filter (pH g)).length:=by
  cases t:s.a2.l.filter (pH g) with
  | nil=>rw[t] at m;cases m
  | cons a r=>simp
 rw[ca v,(KB _).2 (((KB _).1 j.2.1).sublist kk)];simp only[lF];exact gc.2 fun y w=>gc.1 j.2.2 y (dx.1 w).1
theorem nJ {c:Int} {l:List az} (h:cH c l=0) :¬ (c<1\/8<c\/c<l.length)/\oB l=true:=by
 unfold cH at h;split at h
 ·cases h
 ·rename_i h1;split at h
  ·rename_i g;exact⟨h1,g⟩
  ·cases h
theorem Tt {c:Int} {l:List az} (h:cH c l=0) (g:aQ) :cH c (l6 g l)=0:=by
 obtain⟨h1,q⟩:=nJ h;obtain⟨m,o,p⟩:=(pw l).1 q;have B:(l6 g l).length<=l.length:=by
  unfold l6;refine dC (g4 _ _) ?_;simp
 have t:oB (l6 g l)=true:=(pw _).2 ⟨fun s j=>by
  unfold l6 at j;obtain⟨v,u⟩:=dx.1 j;obtain⟨z,w,rfl⟩:=cC.1 v;exact TZ (m z w) (by simpa using u),((m8 (f:=jN g) (R:=fun a b=>a.aB<b.aB)).2 o).sublist kk,((m8 (f:=jN g) (R:=fun a b=>a.id≠b.id)).2 p).sublist kk⟩
 unfold cH;rw[aj F,t];rfl
theorem Ts {l:List az} (h:∀ s∈l,hC s) :l6 [] l=l:=by
 have h1:∀ s:az,jN [] s=s:=fun s=>by
  unfold jN;have:xk [] s.a2=s.a2:=by
   cases j:s.a2 with
   | none=>rfl
   | some a=>exact ci some (rs.2 fun y _=>by unfold pH;simp)
  rw[this]
 unfold l6;rw[mn (g:=id) (fun s _=>h1 s),List.map_id,rs.2];intro s m;have:=(h s m).2.2.2.2;unfold eV at this;rw[bU,bI] at this;unfold gone;cases j:s.a2.l with
 | nil=>rw[j] at this;simp at this
 | cons a r=>rfl
end Op.aI
end Go.bl
namespace Go.bl
open Go Go.Proofs Go.Proofs.Tryz Go.RowKit
namespace Op.aI
open cu Op
structure vq (s:az) :Prop where
 op:vp s.op
 id:s.id.length=32
 a2:c6 s.a2
theorem X1 {ts:List aF} {cs:ag} (h:c4 prog (94::ts) cs) :∃ (s:az) (cs' : ag),cs=aO s++cs'/\vq s/\c4 prog ts cs':=by have h1:=nT (fs:=[3,55,57,23]) bp h;obtain⟨n,_,rfl,_,_,g⟩:=nS (k:=.i64) bp h1;obtain⟨v,_,rfl,q,j⟩:=EH g;obtain⟨x,_,rfl,t,m⟩:=EG j;obtain⟨u,cs',rfl,p,o⟩:=xp m;exact⟨⟨n,v,x,u⟩,cs',by simp[aO,am],⟨q,t,p⟩,o⟩
theorem We {s:az} (h:s.id.length=32) :Row s (aO s):=by
 have g:=br h;have j:(aO s).length=45:=by unfold aO av;simp[g]
 refine⟨j,fun _=>rfl,?_,?_,fun m=>?_,jf s⟩
 ·unfold aO av;simp
 ·unfold aO av;simp[g]
 ·exact (aK.1 (zW h)).2
def nk (s:az) :Bool:=l5 s.op||decide (40<s.a2.l.length)
def nx (l:List az) :Bool:=decide (∃ g∈l.take 21,nk g=true)||decide (20<l.length)
theorem Up {l:List az} (h:nx l=false) :l.length<=20/\∀ t∈l,nk t=false:=by unfold nx at h;rw[p7,decide_eq_false_iff_not,decide_eq_false_iff_not] at h;refine⟨F,fun t j=>?_⟩;rw[aH F] at h;exact p6.2 fun g=>h.1 ⟨t,j,g⟩
theorem T3 {s:az} (h:vq s) (g:nk s=false) :h4 s:=by unfold nk at g;rw[p7,decide_eq_false_iff_not] at g;have j:=g.1;unfold l5 at j;simp only[p7,decide_eq_false_iff_not] at j;exact⟨⟨h.op.idsZ,F,⟨h.op.gP,h.op.qP,F⟩,F⟩,h.id,h.a2,F⟩
structure Nf (c:Int) (s:en) (k:Nat) (sgZ:aS) (l:ad) :Prop where
 ny:l=[.q 2 (bA c s)]
 eZ:sgZ 1=.ptr 0 0 2
 hP:sgZ 3=.i6 k
 jy:∀ (j:Nat) (t:az),j<k->s.l[j]?=some t->nk t=false
theorem Vl (c:Int) (s:en) (ai:∀ t∈s.l,vq t) :aW 42 [.af (bA c s)] (.bool (nx s.l)):=by
 apply a8 func42 [];have B:bz (.Z 45) (ch s)=_:=b6 _;simp[bA];refine bx (min s.l.length 21) (Nf c s) ?_ ⟨rfl,V,V,fun m t h=>F⟩;rintro k ak l hk ⟨rfl,D,G,R⟩;obtain⟨ak,rfl⟩:=kh D G;clear D G;by_cases h:k<s.l.length
 ·have h' : (k:Int)<(s.l.length:Int):=F;by_cases ao:k<=20
  ·have v:(k:Int)<=20:=F;obtain⟨y,C,aj⟩:=aP (l:=s.l) (k:=k) h;have o:=We (ai y aj).id;have q:bO (.Z 45) (ch s) _=_:=c5 C;have W:=cf (k:=k) F;have P:=J6 y.op;have K:=du y.op;have Q:bz (.Z 32) (ah y.a2)=_:=b6 _;have J:nk y=true->nx s.l=true:=fun g=>by
    unfold nx;rw[ca (⟨y,cq.2 ⟨k,by rw[dS F];exact C⟩,g⟩:∃ t∈s.l.take 21,nk t=true)];rfl
   obtain⟨am,Y⟩:=al (aO y);rw[<-Y] at o q;obtain⟨T,I⟩:=al (av y.op);have f1:=o.len;have f3:=o.op;have f5:=o.a2;rw[<-I] at f3 P K;have ap:T.length=11:=by rw[I];rfl
   simp[bA,B,h',v,q,f1,f3];refine au P (by simp[aq,U.ar,K]) ?_;cases O:l5 y.op with
   | true=>
    have g:=J (by unfold nk;rw[O];rfl);rw[g];simp;exact aL
   | false=>
    by_cases H:40<y.a2.l.length
    ·have g:=J (by unfold nk;rw[ca H];simp);have z:(40:Int)<(y.a2.l.length:Int):=F;rw[g];simp[q,f1,f5,Q,z];exact aL
    ·have z:¬ (40:Int)<(y.a2.l.length:Int):=F;simp[q,f1,f5,Q,z,W];refine⟨F,rfl,V,V,fun m t u j=>?_⟩;by_cases ad:m=k
     ·rw[ad,C] at j;obtain rfl:=cd j;unfold nk;rw[O,ct H];rfl
     ·exact R m t F j
  ·have v:¬ (k:Int)<=20:=F;have w:20<s.l.length:=F;have X:(20:Int)<(s.l.length:Int):=F;have g:nx s.l=true:=by unfold nx;simp[w]
   rw[g];simp[bA,B,h',v,X];exact aL
 ·have h' : ¬ (k:Int)<(s.l.length:Int):=F;have w:((20:Int)<(s.l.length:Int))<->20<s.l.length:=F;have g:nx s.l=decide (20<s.l.length):=by
   unfold nx;rw[ct (p:=∃ t∈s.l.take 21,nk t=true),AK];rintro⟨t,j,S⟩;obtain⟨m,u⟩:=cq.1 j;have ag:=(aK.1 u).1;rw[cL] at ag;rw[dS F] at u;rw[R m t F u] at S;cases S
  rw[g];simp[bA,B,h',w];exact aL
end Op.aI
end Go.bl
namespace Go.bl
open Go Go.Proofs Go.Proofs.Tryz
namespace Op.aI
open cu Op
theorem Bp {l:ad} {v:U} {j:Nat} {es:aQ} {x:List B} (h:aE 32 l v j (es.map am)) (o:(am x).length=32) (G:es.length<=1000000) :
  ∃ g m l',ea (l++[.q 32 (am x)]) 32 32 v (.Z 32 l.length 0 1 1 32)=some (g,l')/\aE 32 l' g m ((es++[x]).map am)/\l.length+1<=l'.length/\(∀ b,b<l.length->v=.ae\/b≠j->l'[b]?=l[b]?)/\(l.length<=m\/(v≠.ae/\m=j))/\bo g=false:=by
 have C:=ds;obtain⟨g,m,l',p,t,u,d1,w,f1⟩:=hN (h.more [.q 32 (am x)]) (by_:=32) (x:=.Z 32 l.length 0 1 1 32) (xs:=[am x]) (by simp[cr,o,aH]) (by simp[o]) F F (by rw[C];simp;omega);have f2:bo g=false:=by rw[f1];simp
 refine⟨g,m,l',p,by rw[cS];exact t,by simpa using u,fun b z D=>?_,?_,f2⟩
 ·rw[d1 b (by simp;omega) D,aU z]
 ·rcases w with h | h | h
  ·exact .inl (by simp at h;omega)
  ·exact .inr h
  ·rw[h] at f2;cases f2
theorem T8 {g:aQ} {s:az} (h:h4 s) :h4 (jN g s):=by
 refine⟨h.op,h.id,fun y j=>?_,?_⟩
 ·have:y∈(xk g s.a2).l:=j;rw[Ep] at this;exact h.a2 y (dx.1 this).1
 ·show (xk g s.a2).l.length<=_;rw[Ep];exact dC (g4 _ _) h.len
theorem T7 {j:aQ} {l:List az} (h:fj l) :fj (l6 j l):=fun s g=>by
 unfold l6 at g;obtain⟨m,_⟩:=dx.1 g;obtain⟨p,o,rfl⟩:=cC.1 m;exact T8 (h p o)
theorem Ja {x:List B} {l:List az} (h:fj l) :fj (cZ x l):=fun s g=>by
 unfold cZ at g;obtain⟨j,_⟩:=dx.1 g;obtain⟨o,m,rfl⟩:=cC.1 j;exact Er (h o m)
end Op.aI
end Go.bl
namespace Go.bl
open Go Go.Proofs Go.Proofs.Tryz Go.Sort Go.Shelf
namespace Op.aI
open cu Op
def lC (l:aQ) :aQ:=l.mergeSort fun x y=>!eM y x
theorem H3:∀ {xs:aQ},(∀ i∈xs,i.length=32)->∃ g:List qh,g.map (·.1)=xs
 | [],_=>⟨[],rfl⟩
 | x::xs,h=>by
  obtain⟨g,m⟩:=H3 (xs:=xs) fun i j=>h i (by simp[j])
  exact⟨⟨x,h x V⟩::g,by simp[m]⟩
theorem Xa (g:List qh) :(sorted qw g).map (·.1)=lC (g.map (·.1)):=by unfold sorted lC;rw[List.map_mergeSort];intro a _ b _;rfl
theorem U1 {z:Nat} {l l' : ad} {v:U} {j:Nat} {es vW:List (ag)} (h:aE z l v j es) (h' : gS z l' v j vW) :aE z l' v j vW:=by
 cases h with
 | nil j=>have:=h'.oN;subst this;exact .nil j
 | Z j n cap m cs es P V W X Q R T=>
  generalize g:U.Z z j 0 n cap m=w at h';cases h' with
  | nil=>cases g
  | Z Y ai ah J aj o O B G H I C S D=>
   injection g with _ K p q t u
   subst p q t u;exact .Z j n cap m o _ B G H I C F (by simpa using D)
theorem UL {l:ad} {v:U} {j:Nat} {xs:aQ} (J:∀ i∈xs,i.length=32) (O:xs.length<=1000000) (m:bo v=xs.isEmpty) (h:aE 32 l v j (xs.map am)) {K:cA}
  (u:∀ l',l'.length=l.length->(∀ b,v=.ae\/b≠j->l'[b]?=l[b]?)->aE 32 l' v j ((lC xs).map am)->K (.a1 []) l') :cM 136 [v,.fn 137 [] []] l K:=by
 by_cases o:xs=[]
 ·subst o;have p:v=.ae:=gm.1 (by rw[m];rfl);subst p;exact W4 .ae _ rfl l (u l rfl (fun _ _=>rfl) (by simpa [lC] using aE.nil j))
 ·obtain⟨t,g⟩:=H3 J;have D:t.map tH=xs.map am:=by rw[<-g,iL];rfl
  have H:(sorted qw t).map tH=(lC xs).map am:=by rw[<-g,<-Xa,iL];rfl
  have P:t.length=xs.length:=by rw[<-g];simp
  have p:v≠.ae:=fun I=>by subst I;rw[show bo .ae=true from rfl] at m;exact o (by simpa using m.symm)
  rw[<-D] at h;exact W8 qw (W6 (by intro args w;exact enters_of func137 bp rfl args w)) LG N7 Hb Qc (fun x y=>Jp x.1 y.1 x.2 y.2) h.q F (fun G=>bW (by rw[<-g,G];rfl) o)
   (fun l' h1 z B=>u l' h1 (fun b C=>z b (C.resolve_left p)) (by rw[<-H];exact U1 h B))
theorem Lb (l:aQ) (y:List B) :y∈lC l<->y∈l:=by unfold lC;exact List.mem_mergeSort
theorem La (l:aQ) :(lC l).length=l.length:=by unfold lC;exact List.length_mergeSort l
theorem IF (l:aQ) :∀ m,m<=l.length->∀ y,y∈j0 l m<->y∈l.take m
 | 0,_,y=>by simp[j0]
 | m+1,v,y=>by
  have t:=IF l m F;have q:m<l.length:=F;obtain⟨o,j,_⟩:=aP q;rw[tE,fx,t y,ej,j,fx,dI j];simp only[Option.toList_some,gd];by_cases h:m=0\/o≠bw l (m - 1)
  ·rw[ak h];simp
  ·rw[aj h];have u:m≠0:=fun e=>h (.inl e)
   have h1:o=bw l (m - 1):=Decidable.byContradiction fun e=>h (.inr e)
   obtain⟨w,g,_⟩:=aP (l:=l) (k:=m - 1) F;rw[dI g] at h1;simp only[lJ,or_false];exact⟨.inl,fun p=>p.elim id fun e=>by
    rw[e,h1];exact cq.2 ⟨m - 1,by rw[dS F];exact g⟩⟩
theorem SP (l:aQ) (y:List B) :y∈dh l<->y∈l:=by unfold dh;rw[IF l _ (aN _),e3]
end Op.aI
end Go.bl
namespace Go.bl
open Go Go.Proofs Go.Proofs.Tryz
namespace Op.aI
open cu Op
def allM (l:List az) :aQ:=l.flatMap fun s=>s.a2.l
def mM (l:List az) :b2:=if allM l=[] then none else some (dh (lC (allM l)))
def za (c:Int) (l:List az) :U:=if cH c l=0 then .a1 [ah (mM l),.i6 0] else .a1 [.ae,.i6 (cH c l)]
theorem zQ {l:ad} {a b j m:U} (h1:Rd l a j) (p:Rd l b m) :Rd l (.a1 [a,b]) (.a1 [j,m]):=by
 refine .a1 _ _ rfl fun o x q g h=>?_
 rcases o with _ | _ | o
 ·simp at g h;subst g h;exact h1
 ·simp at g h;subst g h;exact p
 ·simp at g
theorem N2 {l:List az} {n:Nat} (h:∀ s∈l,s.a2.l.length<=n) :(allM l).length<=l.length*n:=by
 induction l with
 | nil=>simp[allM]
 | cons s l m=>
  have h1:=h s V;have g:=m fun o j=>h o (by simp[j])
  unfold allM at g ⊢;rw[List.flatMap_cons,cF,dN,eP];omega
structure Nt (c:Int) (s:en) (k:Nat) (v:U) (l:ad) :Prop where
 nH:l[0]?=some (.q 2 (bA c s))
 ex:∃ j,aE 32 l v j ((allM (s.l.take k)).map am)/\(v=.ae\/1<=j)/\bo v=(allM (s.l.take k)).isEmpty
 len:1<=l.length
structure Nu (c:Int) (s:en) (k:Nat) (sgZ:aS) (l:ad) :Prop where
 Q0:sgZ 14=ch s
 Z4:sgZ 15=.i6 s.l.length
 Z5:sgZ 16=.i6 k
 h:∃ v,sgZ 5=v/\Nt c s k v l
theorem YB (c:Int) (s:en) (v:fj s.l) (az:s.l.length<=1000000) (u:(allM s.l).length<=1000000) :aW 87 [.af (bA c s)] (za c s.l):=by
 apply a8 func87 [];unfold za;have aB:bz (.Z 45) (ch s)=_:=b6 _;have ax:=fU s;have I:=uR c s v az;have J:aq [U.af (bA c s)]=true:=by simp[bA,aq,U.ar,ax]
 have aG:=ds;by_cases o:cH c s.l=0
 ·simp[bA];refine au I J ?_;simp[o,aB];refine bx s.l.length (Nu c s) ?_ ⟨V,V,V,.ae,V,⟨rfl,⟨0,.nil 0,.inl rfl,rfl⟩,V⟩⟩;rintro k aS l hk ⟨C,D,G,aV,H,hH⟩;obtain⟨aS,rfl⟩:=eO C D G H;clear C D G H;simp;refine fh (fun h=>?_) (fun h=>?_)
  ·simp only[bI] at h;obtain⟨y,Q,aM⟩:=aP (l:=s.l) (k:=k) F;have R:=v y aM;have p:=eQ R;have ai:=cf (k:=k) F;have O:bO (.Z 45) (ch s) _=_:=c5 Q;obtain⟨T,⟨S,m,d1,j⟩,aC⟩:=hH;have w:allM (s.l.take (k+1))=allM (s.l.take k)++y.a2.l:=by unfold allM;rw[ej,Q,xH];simp
   have aA:(allM (s.l.take (k+1))).length<=1000000:=by
    refine dC ?_ u;have:allM s.l=allM (s.l.take (k+1))++allM (s.l.drop (k+1)):=by unfold allM;rw[<-xH,i4]
    rw[this,cF];omega
   rw[w,cF] at aA;obtain⟨X,av⟩:=al (aO y);rw[<-av] at p O;have f1:=p.len;have f5:=p.a2;have aI:=g1 f1;obtain⟨W,aR,z,Y,B,ad,ag,ee,aj⟩:=hN (m.more [.q 45 X]) (by_:=32) (x:=ah y.a2) (xs:=y.a2.l.map am) (by simp[ah]) (fun e t=>by obtain⟨aX,aQ,rfl⟩:=cC.1 t;exact br (R.a2 aX aQ)) F F (by rw[aG];simp;omega);rw[<-cS,<-w] at B;have aZ:∀ cT:ao,(l++[cT])[l.length]?=some cT:=fun cT=>nZ
   simp[O,f1,aI,f5,Y,aH];refine bP.bm ?_;simp[ai];have aD:bo W=(allM (s.l.take (k+1))).isEmpty:=by
    rw[aj,j,w];cases allM (s.l.take k)<;>cases y.a2.l<;>rfl
   refine⟨F,V,V,V,W,V,⟨?_,⟨aR,B,?_,aD⟩,?_⟩⟩
   ·rw[ag 0 V (d1.imp id fun h=>F),aU F];exact T
   ·rcases ee with g | ⟨g,ap⟩ | g
    ·right;simp at g;omega
    ·right;rw[ap];exact d1.resolve_left g
    ·exact .inl g
   ·simp at ad;omega
  ·simp[h];have ay:k=s.l.length:=by simp at h;omega
   obtain⟨T,⟨S,m,d1,j⟩,aC⟩:=hH;rw[ay,e3] at m j;have P:∀ i∈allM s.l,i.length=32:=fun i K=>by
    unfold allM at K;obtain⟨aT,aJ,hit⟩:=Ff.1 K;exact (v aT aJ).a2 i hit
   refine UL P u j m fun z a3 a4 aY=>?_
   simp;have aF:ce 32 am (z.take 1) z aV (lC (allM s.l)) (allM s.l).isEmpty:=⟨S,aY,by simp;omega,fun b aw=>by
    rw[cL] at aw;rw[dS F],d1.imp id fun h=>by rw[cL];omega,j⟩
   refine GJ aF (fun x aK=>P x ((Lb _ _).1 aK)) (by rw[La];exact u) fun r a0 aE=>?_
   simp;rw[ak o];refine zQ (aE.rd cG (mM s.l) ?_ ?_) (.same _ rfl)
   ·unfold mM;cases allM s.l<;>rfl
   ·unfold mM;split
    ·rename_i t;rw[t];simp[lC,dh,j0]
    ·rfl
 ·simp[bA];refine au I J ?_;simp[o];exact aL
end Op.aI
namespace Op.aI
open cu Op
def gp (a b:aJ) :Bool:=decide (a.eL=b.eL)&&(decide (a.ax.l=b.ax.l)&&(decide (a.fa=b.fa)&&(dz (e7 a.act) (e7 b.act)&&(decide (a.e=b.e)&&decide (a.s=b.s)))))
theorem CF:mK prog 20 53=some [.i .u32,.i .u32]:=bp
theorem zZ (a b c d:D) :eb prog .eql 53 (.af [bh a,bh b]) (.af [bh c,bh d])=some (.bool (decide (a=c)&&decide (b=d))):=by rw[vA CF bp bp rfl rfl];simp[dz,U.beq]
theorem zL (a b:aJ) (o:dm a) (p:dm b) :aW 71 [.af (av a),.af (av b)] (.bool (gp a b)):=by
 apply a8 func71 [];unfold gp;have q:=bM a.ax;have t:=bM b.ax;have u:=sD a.ax b.ax o.idsZ p.idsZ o.len;have g:=xZ a.act b.act;have v:=zZ a.e a.s b.e b.s;have w:(ah a.ax).cells=some [ah a.ax]:=by cases a.ax<;>rfl
 have z:(ah b.ax).cells=some [ah b.ax]:=by cases b.ax<;>rfl
 unfold e7 at g ⊢;simp[av];by_cases h1:a.eL=b.eL
 ·simp[h1];refine au u (by simp[aq,q,t]) ?_;by_cases h:a.ax.l=b.ax.l
  ·by_cases j:a.fa=b.fa
   ·cases m:dz [a7 a.act.kind,.str a.act.key,a7 a.act.val.kind,.i6 a.act.val.num,c7 a.act.val.bits,.str a.act.val.text] [a7 b.act.kind,.str b.act.key,a7 b.act.val.kind,.i6 b.act.val.num,c7 b.act.val.bits,.str b.act.val.text] with
    | false=>
     rw[m] at g;simp[h1,h,j,g];exact aL
    | true=>
     rw[m] at g;simp[h1,h,j,g,v];exact aL
   ·simp[h1,h,j];exact aL
  ·simp[h1,h];exact aL
 ·simp[h1];exact aL
theorem KV (a:aJ) :gp a a=true:=by unfold gp;simp[e7,dz,U.beq]
def sE (a b:az) :Bool:=decide (a.aB=b.aB)&&(decide (a.id=b.id)&&(gp a.op b.op&&decide (a.a2.l=b.a2.l)))
def lA (a b:List az) :Bool:=decide (a.length=b.length)&&decide (∀ k,k<a.length->sE (e9 a k) (e9 b k)=true)
structure NJ (a b:en) (k:Nat) (sgZ:aS) (l:ad) :Prop where
 kF:sgZ 0=ch a
 eZ:sgZ 1=ch b
 kG:sgZ 5=.i6 k
 jy:∀ j,j<k->sE (e9 a.l j) (e9 b.l j)=true
theorem Vu (a b:en) (aE:fj a.l) (aG:fj b.l) (a6:a.l.length<=1000000) :aW 82 [ch a,ch b] (.bool (lA a.l b.l)):=by
 apply a8 func82 [];have J:bz (.Z 45) (ch a)=_:=b6 _;have aj:bz (.Z 45) (ch b)=_:=b6 _;have a3:=fU a;have a4:=fU b;by_cases D:a.l.length=b.l.length
 ·simp[J,aj,D];refine bx b.l.length (NJ a b) ?_ ⟨V,V,V,fun B h=>F⟩;rintro k aT l hk ⟨W,X,Y,ak⟩;obtain⟨aT,rfl⟩:=gJ W X Y;clear W X Y;simp[J,D];refine fh (fun h=>?_) (fun h=>?_)
  ·simp only[bI] at h;obtain⟨x,P,aR⟩:=aP (l:=a.l) (k:=k) F;obtain⟨y,Q,aS⟩:=aP (l:=b.l) (k:=k) F;have o:=aE x aR;have z:=aG y aS;have j:=eQ o;have m:=eQ z;have az:=cf (k:=k) F;have v:bO (.Z 45) (ch a) _=_:=c5 P;have w:bO (.Z 45) (ch b) _=_:=c5 Q;have O:=zL x.op y.op o.op z.op;have aQ:=sD x.a2 y.a2 o.a2 z.a2 o.len;have K:=oE o.id z.id;have a7:=br o.id;have a9:=br z.id;have ah:=du x.op;have ai:=du y.op;have aI:=bM x.a2;have aJ:=bM y.a2;have G:sE x y=false->lA a.l b.l=false:=fun aH=>by
    unfold lA;rw[ct (p:=∀ k,k<a.l.length->sE (e9 a.l k) (e9 b.l k)=true),uY];intro aF;have:=aF k F;rw[eR P,eR Q,aH] at this;cases this
   have u:sE x y=(decide (x.aB=y.aB)&&(decide (x.id=y.id)&&(gp x.op y.op&&decide (x.a2.l=y.a2.l)))):=rfl;obtain⟨aX,aC⟩:=al (aO x);obtain⟨aY,aD⟩:=al (aO y);obtain⟨ax,ad⟩:=al (av x.op);obtain⟨ay,ag⟩:=al (av y.op);rw[<-aC] at j v;rw[<-aD] at m w;have H:=j.len;have R:=j.aB;have am:=j.op;have ao:=j.id;have aU:=j.a2;have I:=m.len;have S:=m.aB;have ap:=m.op;have aw:=m.id;have aV:=m.a2;rw[<-ad] at am O ah;rw[<-ag] at ap O ai;have aZ:ax.length=11:=by rw[ad];rfl
   have a0:ay.length=11:=by rw[ag];rfl
   by_cases q:x.aB=y.aB
   ·by_cases t:x.id=y.id
    ·rw[t,ca rfl] at K;simp[v,w,H,R,am,ao,I,S,ap,aw,K,q,t];refine au O (by simp[aq,U.ar,ah,ai]) ?_;cases T:gp x.op y.op with
     | false=>
      have g:=G (by rw[u,T];simp);rw[g];simp;exact aL
     | true=>
      simp[v,w,H,aU,I,aV];refine au aQ (by simp[aq,aI,aJ]) ?_;by_cases C:x.a2.l=y.a2.l
      ·simp[C,az];exact⟨F,V,V,V,fun B aK=>by
        by_cases aM:B=k
        ·rw[aM,eR P,eR Q,u,T];simp[q,t,C]
        ·exact ak B F⟩
      ·have g:=G (by rw[u];simp[C]);rw[g];simp[C];exact aL
    ·have g:=G (by rw[u];simp[t]);rw[g];simp[v,w,H,R,ao,I,S,aw,K,q,t];exact aL
   ·have g:=G (by rw[u];simp[q]);rw[g];simp[v,w,H,R,I,S,q];exact aL
  ·simp[h];have a5:k=b.l.length:=by simp at h;omega
   have g:lA a.l b.l=true:=by
    unfold lA;rw[ca D,lF];exact ca fun B aK=>ak B F
   rw[g];exact aL
 ·have aA:¬ (a.l.length:Int)=(b.l.length:Int):=F;have g:lA a.l b.l=false:=by unfold lA;rw[ct D];rfl
  rw[g];simp[J,aj,aA];exact aL
theorem Vt (c c' : Int) (a b:en) (g:fj a.l) (j:fj b.l) (p:a.l.length<=1000000) :aW 38 [.af (bA c a),.af (bA c' b)] (.bool (decide (c=c')&&lA a.l b.l)):=by
 apply a8 func38 [];have m:=fU a;have o:=fU b;have q:=Vu a b g j p;by_cases h:c=c'
 ·simp[bA,h];refine au q (by simp[aq,m,o]) ?_;cases lA a.l b.l<;>simp[h]<;>exact aL
 ·simp[bA,h];exact aL
end Op.aI
namespace Op.aI
open cu Op
theorem S5 {s:az} (h:hC s) :s.a2.l≠[]:=by have:=h.2.2.2.2;unfold eV at this;rw[bU,bI] at this;intro e;rw[e] at this;simp at this
theorem S4 {s:az} (h:hC s) :s.a2.l.length<=4:=by
 obtain⟨h1,_,_,_,g⟩:=h;unfold eV at g;rw[bU,bU] at g;have p:=wJ (DT g.2.1) (m:=s.op.ax.l) fun x o=>iM (gc.1 g.2.2 x o)
 have q:¬ 4<s.op.ax.l.length:=fun j=>by
  unfold de at h1;rw[ak j] at h1;cases h1
 omega
theorem IG (l:List az) :(mM l).l=dh (lC (allM l)):=by
 unfold mM;split
 ·rename_i h;rw[h];simp[lC,dh,j0]
 ·rfl
theorem IH (l:List az) (y:List B) :y∈(mM l).l<->∃ s∈l,y∈s.a2.l:=by rw[IG,SP,Lb];unfold allM;exact Ff
theorem S0 (l:List az) :(mM l).l.length<=(allM l).length:=by rw[IG];unfold dh;refine dC (BM _ _) ?_;rw[La];exact aN _
theorem Xr {x:List B} {s:az} (h:x∉s.a2.l) :er x s=s:=by
 unfold er;have:nQ x s.a2=s.a2:=by
  cases g:s.a2 with
  | none=>rfl
  | some a=>
   rw[g] at h;exact ci some (rs.2 fun y j=>by
    unfold fA;rw[ct (fun e=>h (by rw[<-e];exact j))];rfl)
 rw[this]
theorem Po {x:List B} {l:List az} (q:∀ s∈l,hC s) (h:∀ s∈l,x∉s.a2.l) :cP x l=l/\cZ x l=[]:=by
 have o:l.map (er x)=l:=(mn (f:=er x) (g:=id) fun s j=>Xr (h s j)).trans (List.map_id l);have m:∀ s∈l,gone s=false:=fun s j=>by
  have:=S5 (q s j);unfold gone;cases p:s.a2.l with
  | nil=>exact bW p this
  | cons a r=>rfl
 unfold cP cZ;rw[o];exact⟨rs.2 fun s j=>by rw[m s j];rfl,List.filter_eq_nil_iff.2 fun s j=>by rw[m s j];simp⟩
end Op.aI
end Go.bl

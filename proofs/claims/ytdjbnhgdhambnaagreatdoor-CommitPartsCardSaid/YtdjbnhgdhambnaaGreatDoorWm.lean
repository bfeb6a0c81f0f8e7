/-
  Findings: data; which are valid, walked in both texts.
-/
import Derived.Test.YtdjbnhgdhambnaaGreatDoorWl
set_option maxHeartbeats 16000000
set_option maxRecDepth 100000
set_option linter.unusedVariables false
set_option linter.unusedSimpArgs false
set_option linter.unnecessarySimpa false
namespace Go.bh
open Go Go.Proofs Go.Proofs.Tryz
namespace Op
open ca
structure b7 where
 aF:Int
 cN:B
 op:aG
 id:List B
def dN (j:b7) :ag:=.i6 j.aF::a8 j.cN::(au j.op++ar j.id)
structure fv (j:b7) :Prop where
 op:dz j.op
 id:j.id.length=32
theorem nn (j:b7) :aq (dN j)=true:=by
 have h1:=dV j.op;have g:=c4 j.id;have app:∀ a b:ag,aq (a++b)=(aq a&&aq b):=fun a b=>by
  induction a with
  | nil=>simp[aq]
  | cons x a h=>rw[jK];simp only[aq,h,E6]
 unfold dN;simp only[aq,app,h1,g];rfl
structure NS (j:b7) (R:ag) :Prop where
 len:R.length=45
 aF:∀ h:0<R.length,R[0]'h=.i6 j.aF
 cN:∀ h:1<R.length,R[1]'h=a8 j.cN
 op:(R.drop 2).take 11=au j.op
 id:(R.drop 13).take 32=ar j.id
 adz:R[0]?=some (.i6 j.aF)
 adK:R[1]?=some (a8 j.cN)
 t45:R.take 45=R
 aw:aq R=true
theorem mK {j:b7} (h:fv j) :NS j (dN j):=by
 have g:=bu h.id;have m:(dN j).length=45:=by unfold dN au;simp[g]
 refine⟨m,fun _=>rfl,fun _=>rfl,?_,?_,rfl,rfl,aL F,nn j⟩
 ·unfold dN au;simp
 ·unfold dN au;simp[aL,g]
def nQ:aG:=⟨0,none,0,⟨0,[],mi⟩,0,0⟩
def xG:List B:=List.replicate 32 0
theorem QF:ar xG=bT 32 (.int .u8 0):=rfl
def ut (j:b7) :Bool:=gR j.op nQ&&decide (j.id=xG)
def sP (n:Int) :Bool:=decide (0<=n)&&decide (n<=1000000000)
def fi (j:b7) :Bool:=sP j.aF&&(if j.cN=0 then decide (c3 j.op=0)&&(decide (bE j.op=j.id)&&decide (eA j.op=0)) else (decide (j.cN=2)||(decide (j.cN=3)||decide (j.cN=4)))&&ut j)
theorem Vk (n:Int) :aY 148 [.i6 n] (.bool (sP n)):=by
 apply bc func148 [];unfold sP;by_cases h1:0<=n
 ·by_cases g:n<=1000000000
  ·simp[h1,g];exact aT V rfl
  ·simp[h1,g];exact aT V rfl
 ·simp[h1];exact aT V rfl
theorem J3 (j:b7) (t:fv j) :aY 203 [.ah (dN j)] (.bool (ut j)):=by
 apply bc func203 [];have w:=mK t;have v:=pv t.id (b:=xG) (by rfl);rw[QF] at v;have p:bx (.ad 32) (ai j.op.ay)=_:=cd _;have V:(au j.op).length=11:=rfl;have H:=bu t.id;obtain⟨I,B⟩:=ao (ar j.id);obtain⟨L,J⟩:=ao (dN j);rw[<-J] at w ⊢;rw[<-B] at v H;obtain⟨F,rt,ak,S,C,aj,al,ae,ag⟩:=w;rw[<-B] at C;have Y:ax [U.int .u32 0,.af,.int .u64 0,.int .u8 0,.str [],.int .u8 0,.i6 0,.int .u64 0,.str [],.int .u32 0,.int .u32 0] 0 (au j.op)=au j.op:=cI rfl;have o:=x7 j.op.act nQ.act;have P:=zX j.op.e j.op.s 0 0;have O:ut j=(decide (j.op.en=0)&&(decide (j.op.ay.l=[])&&(decide (j.op.eZ=0)&&(dn (e8 j.op.act) (e8 nQ.act)&&(decide (j.op.e=0)&&decide (j.op.s=0))))) &&decide (j.id=xG)):=rfl;rw[O];unfold e8 at o ⊢;have Z:∀ a:D,((u a:Int)=0)<->a=0:=fun a=>ka a 0
 have X:((j.op.ay.l.length:Int)=0)<->j.op.ay.l=[]:=by rw[<-ic];omega
 have W:e8 nQ.act=[a8 0,.str [],a8 0,.i6 0,c1 0,.str []]:=rfl;have K:(List.drop 13 L).take 32=I:=C;simp[F,S,au,ax];by_cases h1:j.op.en=0
 ·by_cases g:j.op.ay.l=[]
  ·by_cases m:j.op.eZ=0
   ·cases z:dn [a8 j.op.act.kind,.str j.op.act.key,a8 j.op.act.val.kind,.i6 j.op.act.val.num,c1 j.op.act.val.bits,.str j.op.act.val.text] [a8 nQ.act.kind,.str nQ.act.key,a8 nQ.act.val.kind,.i6 nQ.act.val.num,c1 nQ.act.val.bits,.str nQ.act.val.text] with
    | false=>
     rw[z] at o;have q:eb prog .eql 51 (.ah [a8 j.op.act.kind,.str j.op.act.key,a8 j.op.act.val.kind,.i6 j.op.act.val.num,c1 j.op.act.val.bits,.str j.op.act.val.text]) (.ah [.int .u8 0,.str [],.int .u8 0,.i6 0,.int .u64 0,.str []])=some (.bool false):=o;simp[h1,g,m,q,p];exact aE
    | true=>
     rw[z] at o;have q:eb prog .eql 51 (.ah [a8 j.op.act.kind,.str j.op.act.key,a8 j.op.act.val.kind,.i6 j.op.act.val.num,c1 j.op.act.val.bits,.str j.op.act.val.text]) (.ah [.int .u8 0,.str [],.int .u8 0,.i6 0,.int .u64 0,.str []])=some (.bool true):=o;have Q:eb prog .eql 53 (.ah [a7 j.op.e,a7 j.op.s]) (.ah [.int .u32 0,.int .u32 0])=some (.bool (decide (j.op.e=0)&&decide (j.op.s=0))):=P;simp[h1,g,m,q,Q,p];cases T:(decide (j.op.e=0)&&decide (j.op.s=0)) with
     | false=>
      simp;exact aE
     | true=>
      simp[K,F,v];exact aT (by simp[h1,g,m]) rfl
   ·have R:¬ (u j.op.eZ:Int)=0:=fun h=>m ((ka _ 0).1 h)
    rw[cC m];simp[h1,g,R,p];exact aE
  ·rw[cC g];simp[h1,g,p];exact aE
 ·have G:¬ (u j.op.en:Int)=0:=fun h=>h1 ((ka _ 0).1 h)
  rw[cC h1];simp[G];exact aE
theorem QX {j:b7} (h:sP j.aF=false) :fi j=false:=by unfold fi;rw[h];rfl
theorem U6 (j:b7) (q:fv j) :aY 144 [.ah (dN j)] (.bool (fi j)):=by
 apply bc func144 [];have J:=mK q;have ai:=Vk j.aF;have t:=J3 j q;have w:=u2 j.op q.op;have ag:eF (bE j.op)=.ah (ar (bE j.op)):=rfl;rw[ag] at w;have Q:=xB j.op q.op;have R:=px j.op;have z:=bu R;have heq:=pv R q.id;have W:=bu q.id;have D:=dV j.op;have P:ax (bT 32 (.int .u8 0)) 0 (ar (bE j.op))=ar (bE j.op):=cI (by rw[z];rfl);have al:(u j.cN:Int)=0<->j.cN=0:=ka j.cN 0;have am:(u j.cN:Int)=2<->j.cN=2:=ka j.cN 2;have ap:(u j.cN:Int)=3<->j.cN=3:=ka j.cN 3;have ay:(u j.cN:Int)=4<->j.cN=4:=ka j.cN 4;obtain⟨aH,O⟩:=ao (ar j.id);obtain⟨Y,Z⟩:=ao (ar (bE j.op));obtain⟨L,X⟩:=ao (dN j);obtain⟨T,C⟩:=ao (au j.op);have aJ:T.length=11:=by rw[C];rfl
 rw[<-C] at w Q D;rw[<-X] at J t ⊢;rw[<-O] at heq W;rw[<-Z] at heq z P w;obtain⟨m,rt,aG,I,S,aM,aN,G,H⟩:=J;rw[<-O] at S;rw[<-C] at I;have ae:Y.take 32=Y:=aL F;simp[m,rt];refine av ai rfl ?_;cases K:sP j.aF with
 | false=>
  simp;exact aT (by rw[QX K]) rfl
 | true=>
  have p:fi j=(if j.cN=0 then decide (c3 j.op=0)&&(decide (bE j.op=j.id)&&decide (eA j.op=0)) else (decide (j.cN=2)||(decide (j.cN=3)||decide (j.cN=4)))&&ut j):=by unfold fi;rw[K];rfl
  simp[m,aG];by_cases h1:j.cN=0
  ·simp[h1,m,I];refine av w (by simp[aq,U.aw,D]) ?_;simp[z,P];by_cases g:c3 j.op=0
   ·simp[g,z,ae,m,S,heq];cases o:decide (bE j.op=j.id) with
    | false=>
     simp;exact aT (by rw[p,aj h1,o];simp) rfl
    | true=>
     simp[m,I];refine av Q (by simp[aq,U.aw,D]) ?_;simp;exact aT (by rw[p,aj h1,o,g];simp) rfl
   ·simp[g];exact aT (by rw[p,aj h1,cC g];simp) rfl
  ·have aK:∀ b:Bool,(b=true)->aY 203 [.ah L] (.bool (ut j)):=fun _ _=>t
   have az:(u (2#8:B) :Int)=2:=rfl;have aA:(u (3#8:B) :Int)=3:=rfl;have aB:(u (4#8:B) :Int)=4:=rfl;have V:¬ (u j.cN:Int)=0:=fun h=>h1 (al.1 h)
   simp[V];by_cases g:j.cN=2
   ·simp[g,az,m,G];refine av t (by simp[aq,U.aw,H]) ?_;simp;exact aT (by rw[p,ak h1,bY g];simp) rfl
   ·by_cases o:j.cN=3
    ·simp[o,aA,m,G];refine av t (by simp[aq,U.aw,H]) ?_;simp;exact aT (by rw[p,ak h1,bY o];simp) rfl
    ·by_cases v:j.cN=4
     ·simp[v,aB,m,G];refine av t (by simp[aq,U.aw,H]) ?_;simp;exact aT (by rw[p,ak h1,bY v];simp) rfl
     ·have aC:¬ (u j.cN:Int)=2:=fun h=>g (am.1 h)
      have aD:¬ (u j.cN:Int)=3:=fun h=>o (ap.1 h)
      have aE:¬ (u j.cN:Int)=4:=fun h=>v (ay.1 h)
      simp[aC,aD,aE];exact aT (by rw[p,ak h1,cC g,cC o,cC v];rfl) rfl
def s3:b7:=⟨0,0,nQ,xG⟩
theorem ZE:fv s3:=⟨⟨fun _ h=>(fX h).elim,ek _,⟨by decide,by decide,ek _⟩,ek _⟩,rfl⟩
def gn:ag:=[.int .u8 0,.int .i64 0,.af]++dN s3
theorem QC:gn=[U.int .u8 0,.int .i64 0,.af,.int .i64 0,.int .u8 0,.int .u32 0,.af,.int .u64 0,.int .u8 0,.str [],.int .u8 0,.int .i64 0,.int .u64 0,.str [],.int .u32 0,.int .u32 0]++bT 32 (.int .u8 0):=rfl
theorem GL:aq gn=true:=bg
theorem B0:gn.length=48:=bg
theorem Vb:aY 145 [.ah gn] (.a1 [.int .i64 (-1),.bool true]):=by
 apply bc func145 [db 0 8++[[8,2]],db 0 7++[[7,2]]];have m:=J3 s3 ZE;rw[show ut s3=true by kernel_rfl] at m;have j:=B0;have w:gn[0]?=some (.int .u8 0):=rfl;have h1:gn[1]?=some (.int .i64 0):=rfl;have z:gn[2]?=some .af:=rfl;have B:gn[3]?=some (.int .i64 0):=rfl;have C:gn[4]?=some (.int .u8 0):=rfl;have g:(gn.drop 3).take 45=dN s3:=bg;have o:∀ h,gn[0]'h=.int .u8 0:=fun _=>rfl
 have p:∀ h,gn[1]'h=.int .i64 0:=fun _=>rfl
 have q:∀ h,gn[2]'h=.af:=fun _=>rfl
 have t:∀ h,gn[3]'h=.int .i64 0:=fun _=>rfl
 have u:∀ h,gn[4]'h=.int .u8 0:=fun _=>rfl
 obtain⟨F,hH⟩:=ao (gn);rw[<-hH] at j w h1 z B C g ⊢;simp only[<-hH] at o p q t u;have v:=nn s3;obtain⟨G,D⟩:=ao (dN s3);rw[<-D] at m g v;simp[j,g,p,q];refine av m (by simp[aq,U.aw,v]) ?_;simp[j,o,t,u];exact aE
def lS (n:Int) :ag:=[.int .i64 n]
def zi (a b:Int) :Int:=if a<b then b else a
theorem Tn (a b:Int) :aY 147 [b4 1 lS (some [a,b])] (.int .i64 (zi a b)):=by
 apply bc func147 [];have o:oH (U.int .i64 a) (U.int .i64 b)=some (.int .i64 (zi a b)):=by simp[oH,zi]
 simp[lS];refine bz 1 (fun k g l=>g 0=b4 1 lS (some [a,b])/\g 3=.int .i64 (if k=0 then a else zi a b)/\g 4=.int .i64 ((k+1:Nat) :Int)) ?_ ⟨V,V,V⟩;rintro k g l hk ⟨h,j,m⟩;obtain⟨g,rfl⟩:=gK h j m;clear h j m;rcases k with _ | _ | k
 ·simp[lS,o];rfl
 ·simp;exact aE
 ·omega
def B2 (j:b7) :ag:=[.int .i64 1,.af,.bn 48 [gn],.bn 45 [dN j]]
structure Oa (j:b7) (g:am) (L:ag) (k:Nat) (sgZ:aR) (l:ae) :Prop where
 fp:sgZ 1=.ptr 0 0 4
 aaP:sgZ 48=.bn 45 [L]
 RC:sgZ 49=.int .i64 1
 RD:sgZ 50=.int .i64 k
 st:(k=0/\l=[g]/\sgZ 3=.af)\/(k=1/\fi j=true/\∃ b v,1<=b/\sgZ 3=v/\l[0]?=some g/\aM 1 l v b [lS j.aF]/\bt v=false)
structure Ob (j:b7) (g:am) (h:ag) (k:Nat) (sgZ:aR) (l:ae) :Prop where
 fp:sgZ 1=.ptr 0 0 4
 aaU:sgZ 81=.bn 48 [h]
 aaV:sgZ 82=.int .i64 1
 aaW:sgZ 83=.int .i64 k
 st:∃ b v,1<=b/\sgZ 3=v/\l[0]?=some g/\aM 1 l v b ((if k=0 then [j.aF] else [j.aF,-1]).map lS)/\bt v=false
theorem U3 (j:b7) (ag:fv j) :aY 95 [.ah (B2 j)] (.int .i64 (if fi j then 0 else 8)):=by
 apply bc func95 [];have ai:=dF;have Y:=U6 j ag;have Z:=Vb;have X:=GL;have G:=B0;obtain⟨L,T⟩:=ao (dN j);have P:=mK ag;rw[<-T] at P Y;have aC:B2 j=[.int .i64 1,.af,.bn 48 [gn],.bn 45 [L]]:=by rw[T];rfl
 rw[aC];obtain⟨H,hH⟩:=ao (gn);rw[<-hH] at Z X G ⊢;obtain⟨J,rt,a5,a3,a0,a4,a6,aP,aQ⟩:=P;have aB:H.take 48=H:=aL F;have aN:ax (U.int .i64 0::.int .u8 0::.int .u32 0::.af::.int .u64 0::.int .u8 0::.str [] ::.int .u8 0::.int .i64 0::.int .u64 0::.str [] ::.int .u32 0::.int .u32 0::bT 32 (.int .u8 0)) 0 L=L:=cI (by rw[J];rfl);have aM:ax (U.int .u8 0::.int .i64 0::.af::.int .i64 0::.int .u8 0::.int .u32 0::.af::.int .u64 0::.int .u8 0::.str [] ::.int .u8 0::.int .i64 0::.int .u64 0::.str [] ::.int .u32 0::.int .u32 0::bT 32 (.int .u8 0)) 0 H=H:=cI (by rw[G];rfl);simp;obtain⟨al,B⟩:=ao (am.cells 4 [.int .i64 1,.af,.bn 48 [H],.bn 45 [L]]);rw[<-B];refine bz 1 (Oa j al L) ?_ ⟨V,V,V,V,.inl ⟨rfl,rfl,V⟩⟩;rintro k g l hk ⟨m,u,v,w,⟨rfl,rfl,p⟩ | ⟨rfl,aH,b,K,W,p,q,C,t⟩⟩
 ·obtain⟨g,rfl⟩:=gx m p u v w;clear m p u v w;simp[J,aP,aN,B];refine av Y (by simp[aq,U.aw,aQ]) ?_;cases h:fi j with
  | false=>
   simp;exact aE
  | true=>
   have D:∀ (o:ae) (c:Nat),o[c]?=some (.cells 1 [.int .i64 j.aF])->eE o 1 8 .af (.ad 1 c 0 1 1 1)=some (.ad 1 o.length 0 1 1 1,o++[.cells 1 [.int .i64 j.aF]]):=fun o c aD=>by
    have:=OJ (l:=o) (z:=1) (by_:=8) (xs:=[[U.int .i64 j.aF]]) (x:=.ad 1 c 0 1 1 1) (by simp[cG,aD]) F F V (by rw[ai];simp);simpa using this
   simp[J,rt,D];refine b2.bq ?_;simp;have O:IntKind.i64.wrap 1=1:=rfl;exact⟨V,V,V,by simp[O],.inr ⟨rfl,h,3,_,F,V,by simp[B],.ad _ 1 1 1 [.int .i64 j.aF] [lS j.aF] V V rfl (by simp[lS]) F F (by simp[lS]),rfl⟩⟩
 ·obtain⟨g,rfl⟩:=gx m p u v w;clear m p u v w;rw[B] at q;simp[q];obtain⟨aR,aU⟩:=ao (l);refine bz 1 (Ob j (.cells 4 [.int .i64 1,.af,.bn 48 [H],.bn 45 [L]]) H) ?_ ⟨V,V,V,V,b,K,W,V,q,by simpa using C,t⟩;rintro k g l hk ⟨m,Q,R,S,b,K,W,p,q,C,t⟩;obtain⟨g,rfl⟩:=gx m p Q R S;clear m p Q R S;rcases k with _ | _ | k
  ·have FE:∀ o:ae,(l++o)[0]?=some (.cells 4 [.int .i64 1,.af,.bn 48 [H],.bn 45 [L]]):=fun o=>by rw[aV (a2 q)];exact q
   simp[G,aB,aM];refine av Z (by simp[aq,U.aw,X]) ?_;simp;obtain⟨ak,aO,aZ,D,ap,aS,ar,au,ay⟩:=iG (by_:=8) (x:=.ad 1 (l.length+1) 0 1 1 1) (xs:=[lS (-1)]) (C.more [am.cells 48 H,am.cells 1 [U.int .i64 (-1)]]) (by simp[cG,lS]) (by simp[lS]) F F (by rw[ai];simp);simp[D];refine b2.bq ?_;simp;have O:IntKind.i64.wrap 1=1:=rfl;have aX:K≠.af:=fun e=>by rw[e] at t;cases t
   have I:bt ak=false:=by rw[ay,t];rfl
   refine⟨V,V,V,by simp[O],aO,ak,?_,V,?_,by simpa using ap,I⟩
   ·rcases au with e | ⟨_,e⟩ | e
    ·simp at e;omega
    ·omega
    ·rw[e] at I;cases I
   ·rw[ar 0 V (.inr F)];exact FE _
  ·simp;refine JO (some [j.aF,-1]) C t rfl fun aj aW aG=>?_
   refine av (Tn j.aF (-1)) (by simp[aq,oe,b4,lS,U.aw]) ?_;have aK:aj[0]?=some (.cells 4 [.int .i64 1,.af,.bn 48 [H],.bn 45 [L]]):=by rw[aG 0 (.inr F)];exact q
   simp[aK];have aJ:=aH;refine bz 0 (fun k g l=>l=aj/\g 1=.ptr 0 0 4/\g 112=.int .i64 0/\g 113=.int .i64 0) ?_ ⟨rfl,V,V,V⟩;rintro k g l hk ⟨rfl,m,az,aA⟩;obtain⟨g,rfl⟩:=gK m az aA;simp;exact aT (by simp[aJ]) rfl
  ·omega
theorem Ra (j:b7) (v:fv j) :aY 51 [.ah (dN j)] (.bool (fi j)):=by
 apply bc func51 [];have O:=dF;have o:=U3 j v;have u:=mK v;have H:=GL;have q:=B0;unfold B2 at o;have hH:=QC;obtain⟨L,G⟩:=ao (dN j);rw[<-G] at u o ⊢;obtain⟨m,rt,aj,ag,Z,ai,ak,z,T⟩:=u;have J:l2 48 200 (U.int .u8 0::.int .i64 0::.af::.int .i64 0::.int .u8 0::.int .u32 0::.af::.int .u64 0::.int .u8 0::.str [] ::.int .u8 0::.int .i64 0::.int .u64 0::.str [] ::.int .u32 0::.int .u32 0::bT 32 (.int .u8 0)) [am.cells 45 L] (U.int .i64 1) (U.int .i64 1)=some (.ad 48 1 0 1 1 48,[am.cells 45 L,.cells 48 gn]):=by
  show l2 48 200 gn _ _ _=_;simp[l2,O,cD]
 have Y:ax (U.int .i64 0::.int .u8 0::.int .u32 0::.af::.int .u64 0::.int .u8 0::.str [] ::.int .u8 0::.int .i64 0::.int .u64 0::.str [] ::.int .u32 0::.int .u32 0::bT 32 (.int .u8 0)) 0 L=L:=cI (by rw[m];rfl);have I:List.drop 32 (bT 32 (U.int .u8 0))=[]:=rfl;simp[m,z,J,I,ew,ax];have D:∀ t:ae,∀ K:cA,K (.int .i64 (if fi j then 0 else 8)) t->cJ 95 [.ah [.int .i64 1,.af,.bn 48 [gn],.bn 45 [L]]] t K:=fun t K hk=>
  av o (by simp[aq,oe,U.aw,H,T]) hk
 obtain⟨w,p⟩:=ao ([am.cells 45 L,.cells 48 gn,.cells 45 L,.cells 4 [.int .i64 1,.af,.ad 48 1 0 1 1 48,.ad 45 2 0 1 1 45]]);have P:aM 48 w (.ad 48 1 0 1 1 48) 1 [gn]:=.ad _ 1 1 48 gn [gn] (by rw[p];rfl) q rfl (by simp[q]) F F (by simp[aL,q]);obtain⟨W,R⟩:=pO P rfl;have Q:aM 45 (w.set 1 .dead) (.ad 45 2 0 1 1 45) 2 [L]:=.ad _ 1 1 45 L [L] (by rw[p];rfl) m rfl (by simp[m]) F F (by simp[z]);obtain⟨X,S⟩:=pO Q rfl;rw[<-p];refine pb checked.mixed ev (args2:=[.ah [.int .i64 1,.af,.bn 48 [gn],.ad 45 2 0 1 1 45]]) W V rfl (fun i c C h1 g=>?_) (pb checked.mixed ev (args2:=[.ah [.int .i64 1,.af,.bn 48 [gn],.bn 45 [L]]]) X V rfl (fun i c C h1 g=>?_) (D _ _ ?_))
 ·obtain⟨rfl,rfl⟩:=oq h1;obtain⟨_,rfl⟩:=oq g;refine .ah _ _ rfl fun i c B h1 g=>?_
  rcases i with _ | _ | _ | _ | i
  ·simp at h1 g;subst h1 g;exact .same _
  ·simp at h1 g;subst h1 g;exact .same _
  ·simp at h1 g;subst h1 g;exact R
  ·simp at h1 g;subst h1 g;exact .same _
  ·simp at h1
 ·obtain⟨rfl,rfl⟩:=oq h1;obtain⟨_,rfl⟩:=oq g;refine .ah _ _ rfl fun i c B h1 g=>?_
  rcases i with _ | _ | _ | _ | i
  ·simp at h1 g;subst h1 g;exact .same _
  ·simp at h1 g;subst h1 g;exact .same _
  ·simp at h1 g;subst h1 g;exact .same _
  ·simp at h1 g;subst h1 g;exact S
  ·simp at h1
 ·cases h:fi j with
  | false=>
   simp;exact aE
  | true=>
   simp;exact aE
end Op
namespace Op.aN
open ca Op
structure aB where
 aF:Int
 op:aG
 id:List B
 bl:bV
def aZ (s:aB) :ag:=.i6 s.aF::(au s.op++(ar s.id++[ai s.bl]))
abbrev fg:=bL aB
def cQ (s:fg) :U:=b4 45 aZ s
structure lJ (s:aB) :Prop where
 op:dz s.op
 id:s.id.length=32
 bl:cT s.bl
 len:s.bl.l.length<=1000000
def gF (l:List aB) :Prop:=∀ s∈l,lJ s
theorem GK:∀ a b:ag,aq (a++b)=(aq a&&aq b)
 | [],b=>by simp[aq]
 | x::a,b=>by
  rw[jK];simp only[aq,GK a b,E6]
theorem pk (s:aB) :aq (aZ s)=true:=by have h1:=dV s.op;have g:=c4 s.id;have h:=bU s.bl;unfold aZ;simp only[aq,U.aw,GK,h1,g,h,kU]
theorem hx (s:fg) :(cQ s).aw=true:=lQ pk s
structure Row (s:aB) (R:ag) :Prop where
 len:R.length=45
 aF:∀ h:0<R.length,R[0]'h=.i6 s.aF
 op:R.tail.take 11=au s.op
 id:(R.drop 12).take 32=ar s.id
 bl:∀ h:44<R.length,R[44]'h=ai s.bl
 aw:aq R=true
theorem hE {s:aB} (h:lJ s) :Row s (aZ s):=by
 have g:=bu h.id;have j:(aZ s).length=45:=by unfold aZ au;simp[g]
 refine⟨j,fun _=>rfl,?_,?_,fun m=>?_,pk s⟩
 ·unfold aZ au;simp
 ·unfold aZ au;simp[g]
 ·have:(aZ s)[44]?=some (ai s.bl):=by
   unfold aZ au;simp[g]
  exact (aK.1 this).2
theorem Rg:fR prog 152=true:=bg
theorem OO (s:aB) (h:lJ s) (x:List B) (m:x.length=32) (r:ae) {K:cA} (j:∀ w,K (.bool (decide (s.id=x))) (.q 32 (ar x) ::w)) :
  cJ 152 [.ah (aZ s),.ptr 0 0 32] (.q 32 (ar x) ::r) K:=by apply cW func152 [];have g:=hE h;have o:=bu m;have heq:=pv h.id m;obtain⟨p,u⟩:=ao (aZ s);obtain⟨z,v⟩:=ao (ar x);rw[<-u] at g ⊢;rw[<-v] at o heq j ⊢;have h1:=g.len;have t:=g.id;have C:=bu h.id;simp[h1,t,o,heq,aL];have:=j (r++[am.q 45 p]);simpa using this
structure Nl (s:fg) (x:List B) (k:Nat) (sgZ:aR) (l:ae) :Prop where
 ov:∃ r,l=.q 32 (ar x) ::r
 lf:sgZ 0=cQ s
 fp:sgZ 1=.fn 152 [] [.ptr 0 0 32]
 v6:sgZ 7=.i6 s.l.length
 oo:sgZ 8=.i6 k
 jX:∀ (j:Nat) (z:List B),j<k->(s.l.map aB.id)[j]?=some z->z≠x
theorem OQ (s:fg) (C:gF s.l) (X:s.l.length<=1000000) (x:List B) (T:x.length=32) {r:ae} {K:cA} (z:∀ I,K (.i6 (dT x (s.l.map aB.id) 0)) I) :
  cJ 151 [cQ s,.fn 152 [] [.ptr 0 0 32]] (.q 32 (ar x) ::r) K:=by
 apply cW func151 [];have S:bx (.ad 45) (cQ s)=_:=cd _;simp[S];refine bz s.l.length (Nl s x) ?_ ⟨⟨_,rfl⟩,V,V,V,V,fun j o h=>F⟩;rintro k U l hk ⟨⟨r,rfl⟩,t,u,v,w,p⟩;obtain⟨U,rfl⟩:=fc t u v w;clear t u v w;simp;refine gp (fun h=>?_) (fun h=>?_)
 ·simp only[bC] at h;obtain⟨y,D,H⟩:=aP (l:=s.l) (k:=k) F;have O:=hE (C y H);have J:=cq (k:=k) F;have P:bO (.ad 45) (cQ s) _=_:=dg D;have G:(s.l.map aB.id)[k]?=some y.id:=by rw[bW,D];rfl
  simp[P,O.len,aL];refine⟨Rg,OO y (C y H) x T r fun I=>?_⟩;by_cases m:y.id=x
  ·simp[m];have:=qM (n:=0) G p m;rw[hr] at this;rw[<-this];exact z _
  ·simp[m,J];refine⟨F,⟨_,rfl⟩,V,V,V,V,fun j o W g=>?_⟩;by_cases Q:j=k
   ·rw[Q,G] at g;obtain rfl:=cg g;exact m
   ·exact p j o F g
 ·simp[h];have R:k=s.l.length:=by simp at h;omega
  have:=wj (n:=0) (l:=s.l.map aB.id) (x:=x) fun j o g=>p j o (by rw[R];have:=(aK.1 g).1;simpa using this) g
  rw[<-this];exact z _
theorem Di (s:fg) (j:gF s.l) (h:s.l.length<=1000000) (x:List B) (g:x.length=32) :aY 99 [cQ s,.ah (ar x)] (.i6 (dT x (s.l.map aB.id) 0)):=by
 apply bc func99 [];simp[bu g];refine OQ s j h x g fun m=>?_
 simp;exact aE
end Op.aN
namespace Op.aN
open ca Op
def ft (l:List aB) (k:Nat) :aB:=l.getD k ⟨0,⟨0#32,none,0#64,⟨0#8,[],mi⟩,0#32,0#32⟩,[],none⟩
theorem fb {l:List aB} {k:Nat} {x:aB} (h:l[k]?=some x) :ft l k=x:=by unfold ft;rw[gA,h];rfl
def eL (l:List aB) (k:Nat) :Int:=if k=0 then -1 else (ft l (k - 1)).aF
def hQ (l:List aB) (k:Nat) :Bool:=
 decide (c3 (ft l k).op=0)&&(decide (bE (ft l k).op=(ft l k).id)&&(decide (eL l k<(ft l k).aF)&&(decide ((ft l k).aF<=1000000000)&&(e3 (ft l k).op (ft l k).bl.l&&decide ((ft l k).id∉(l.take k).map aB.id)))))
def ot (l:List aB) :Bool:=decide (∀ k,k<l.length->hQ l k=true)
def cU (c:Int) (l:List aB) :Int:=if c<1\/8<c\/c<l.length then 8 else if ot l then 0 else 8
theorem Dp {c:Int} {l:List aB} (h:¬ (c<1\/8<c\/c<l.length)) (g:∀ k,k<l.length->hQ l k=true) :cU c l=0:=by unfold cU ot;rw[ak h,bY g];rfl
theorem JZ {c:Int} {l:List aB} (h:¬ (c<1\/8<c\/c<l.length)) {k:Nat} (hk:k<l.length) (g:hQ l k=false) :cU c l=8:=by unfold cU ot;rw[ak h,cC fun j=>by rw[j k hk] at g;cases g];rfl
theorem Cs (o:aG) :(bE o).length=32:=by
 unfold bE;split
 ·exact jE _
 ·simp
def bS (c:Int) (s:fg) :ag:=[.i6 c,cQ s]
theorem Yc (s:fg) {k:Nat} {y:aB} (g:s.l[k]?=some y) :dK (.ad 45) (cQ s) none (some (.i6 (k:Int))) none=some (cQ (some (s.l.take k))):=by
 cases s with
 | none=>simp at g
 | some a=>
  have hk:=(aK.1 g).1;have:=Eo (z:=45) (enc:=aZ) (l:=a) (k:=.i64) (i:=(k:Int)) F (by simp at hk;omega);simpa [cQ] using this
abbrev m7:ag:=U.i6 0::U.int .u32 0::U.af::U.int .u64 0::U.int .u8 0::U.str [] ::U.int .u8 0::U.i6 0::U.int .u64 0::U.str [] ::U.int .u32 0::U.int .u32 0::(bT 32 (.int .u8 0)++[U.af])
theorem je {R:ag} (h:R.length=45) :ax (U.i6 0::U.int .u32 0::U.af::U.int .u64 0::U.int .u8 0::U.str [] ::U.int .u8 0::U.i6 0::U.int .u64 0::U.str [] ::U.int .u32 0::U.int .u32 0::(bT 32 (.int .u8 0)++[U.af])) 0 R=R:=cI (by rw[h];rfl)
structure Oc (c:Int) (s:fg) (k:Nat) (sgZ:aR) (l:ae) :Prop where
 ov:∃ r,l=.q 2 (bS c s) ::r
 fp:sgZ 1=.ptr 0 0 2
 jq:sgZ 3=.i6 (eL s.l k)
 HV:sgZ 25=cQ s
 Ci:sgZ 26=.i6 s.l.length
 yK:sgZ 27=.i6 k
 jX:∀ j,j<k->hQ s.l j=true
theorem u3 (c:Int) (s:fg) (aA:gF s.l) (bb:s.l.length<=1000000) :aY 64 [.ah (bS c s)] (.i6 (cU c s.l)):=by
 apply bc func64 [];have ap:bx (.ad 45) (cQ s)=_:=cd _;by_cases h1:c<1
 ·have v:cU c s.l=8:=by unfold cU;rw[aj (.inl h1)]
  rw[v];simp[bS,h1];exact aE
 ·by_cases C:8<c
  ·have v:cU c s.l=8:=by unfold cU;rw[aj (.inr (.inl C))]
   rw[v];simp[bS,h1,C];exact aE
  ·by_cases J:c<s.l.length
   ·have v:cU c s.l=8:=by unfold cU;rw[aj (.inr (.inr J))]
    rw[v];simp[bS,ap,h1,C,J];exact aE
   ·have az:¬ (c<1\/8<c\/c<s.l.length):=F;simp[bS,ap,h1,C,J];refine bz s.l.length (Oc c s) ?_ ⟨⟨_,rfl⟩,V,by simp[eL],V,V,V,fun w h=>F⟩;rintro k a5 l hk ⟨⟨r,rfl⟩,T,Z,W,X,Y,aC⟩;obtain⟨a5,rfl⟩:=gx T Z W X Y;clear T Z W X Y;simp;refine gp (fun h=>?_) (fun h=>?_)
    ·simp only[bC] at h;obtain⟨y,P,a4⟩:=aP (l:=s.l) (k:=k) F;have j:=aA y a4;have t:=hE j;have aG:=cq (k:=k) F;have ai:bO (.ad 45) (cQ s) _=_:=dg P;have aX:=Yc s P;have ag:=fb P;have H:=u2 y.op j.op;have ay:=MU y.op j.op y.bl j.bl j.len;have a2:gF ((s.l.take k)):=fun a6 a0=>aA a6 (gh a0)
     have aU:=Di (some (s.l.take k)) a2 (by simp;omega) y.id j.id;have am:=ny y.id ((s.l.take k).map aB.id) 0;have al:=Cs y.op;have aS:=pw al j.id;have bd:=bu j.id;have aK:=hx (some (s.l.take k));have O:=dV y.op;have aM:=bU y.bl;have aJ:=c4 y.id;have o:hQ s.l k=(decide (c3 y.op=0)&&(decide (bE y.op=y.id)&&(decide (eL s.l k<y.aF)&&(decide (y.aF<=1000000000)&&(e3 y.op y.bl.l&&decide (y.id∉(s.l.take k).map aB.id)))))):=by unfold hQ;rw[ag]
     have u:hQ s.l k=false->cU c s.l=8:=fun g=>JZ az h g
     have a3:eL s.l (k+1)=y.aF:=by unfold eL;rw[ak F,ti,ag]
     obtain⟨a7,aH⟩:=ao (aZ y);rw[<-aH] at t ai;obtain⟨aD,ae⟩:=ao (au y.op);have f1:=t.len;have f2:=t.aF;have f3:=t.op;have f4:=t.id;have f5:=t.bl;rw[<-ae] at f3 H ay O;have a9:aD.length=11:=by rw[ae];rfl
     have aW:=je f1;obtain⟨D,K⟩:=ao ((bE y.op).map a8);have q:D.length=32:=by rw[K,cx,al]
     have aV:ax (bT 32 (.int .u8 0)) 0 D=D:=cI (by rw[q];rfl);unfold eF at H;rw[<-K] at H;simp[ai,f1,aW,f3,aL];refine av H (by simp[aq,U.aw,O]) ?_;simp[q,aV];have G:eb prog .neq 57 (.ah D) (.ah (ar y.id))=some (.bool !decide (bE y.op=y.id)):=by rw[K];exact aS
     by_cases m:c3 y.op=0
     ·by_cases p:bE y.op=y.id
      ·by_cases Q:eL s.l k<y.aF
       ·have z:¬ y.aF<=eL s.l k:=F;by_cases R:y.aF<=1000000000
        ·have I:¬ 1000000000<y.aF:=F;simp[m,p,G,f1,f2,f3,f4,f5,q,z,I,aL];refine av ay (by simp[aq,U.aw,O,aM]) ?_;cases S:e3 y.op y.bl.l with
         | false=>
          have g:=u (by rw[o];simp[S]);rw[g];simp;exact aE
         | true=>
          simp[bS,aX,f1,f4];refine av aU (by simp[aq,U.aw,aK,aJ]) ?_;by_cases B:y.id∈(s.l.take k).map aB.id
          ·have g:=u (by rw[o];simp only[B,not_true,vk,u9]);have:0<=dT y.id ((s.l.map aB.id).take k) 0:=by rw[<-jh];exact am.2 B
           rw[g];simp[this];exact aE
          ·have aN:¬ (0<=dT y.id ((s.l.map aB.id).take k) 0):=by rw[<-jh];exact fun h=>B (am.1 h)
           have aO:hQ s.l k=true:=by rw[o,S];simp only[m,p,Q,R,B,nZ,x0,kU]
           simp[aN,f1,f2,aG];refine⟨F,⟨_,rfl⟩,V,by simp[a3],V,V,V,fun w aQ=>?_⟩;by_cases aR:w=k
           ·rw[aR];exact aO
           ·exact aC w F
        ·have I:1000000000<y.aF:=F;have g:=u (by rw[o];simp[R]);rw[g];simp[m,p,G,f1,f2,f4,q,z,I,aL];exact aE
       ·have z:y.aF<=eL s.l k:=F;have g:=u (by rw[o];simp[Q]);rw[g];simp[m,p,G,f1,f2,f4,q,z,aL];exact aE
      ·have g:=u (by rw[o];simp[p]);rw[g];simp[m,p,G,f1,f4,q,aL];exact aE
     ·have g:=u (by rw[o];simp[m]);rw[g];simp[m];exact aE
    ·simp[h];exact aT (by rw[Dp az fun w aQ=>aC w (by simp at h;omega)]) rfl
end Op.aN
namespace Op.aN
open ca Op
structure Of (c:Int) (s:fg) (x:List B) (k:Nat) (sgZ:aR) (l:ae) :Prop where
 ov:l=[.q 2 (bS c s),.q 32 (ar x)]
 iI:sgZ 2=.ptr 0 0 2
 jq:sgZ 3=.ptr 1 0 32
 kA:sgZ 5=.i6 k
 jX:∀ (j:Nat) (z:List B),j<k->(s.l.map aB.id)[j]?=some z->z≠x
theorem q3 (c:Int) (s:fg) (q:gF s.l) (U:s.l.length<=1000000) (x:List B) (D:x.length=32) :aY 79 [.ah (bS c s),.ah (ar x)] (.i6 (dT x (s.l.map aB.id) 0)):=by
 apply bc func79 [];have Q:bx (.ad 45) (cQ s)=_:=cd _;have G:=bu D;simp[bS,G];refine bz s.l.length (Of c s x) ?_ ⟨rfl,V,V,V,fun j o h=>F⟩;rintro k R l hk ⟨rfl,v,w,z,t⟩;obtain⟨R,rfl⟩:=gK v w z;clear v w z;simp[bS,Q];refine gp (fun h=>?_) (fun h=>?_)
 ·simp only[bC] at h;obtain⟨y,H,u⟩:=aP (l:=s.l) (k:=k) F;have p:=hE (q y u);have J:=cq (k:=k) F;have C:bO (.ad 45) (cQ s) _=_:=dg H;have I:(s.l.map aB.id)[k]?=some y.id:=by rw[bW,H];rfl
  have heq:=pv (q y u).id D;have W:=bu (q y u).id;obtain⟨S,K⟩:=ao (aZ y);rw[<-K] at p C;have f1:=p.len;have f4:=p.id;simp[C,f1,f4,G,aL,heq];by_cases m:y.id=x
  ·simp[m];have:=qM (n:=0) I t m;rw[hr] at this;exact aT (by rw[this]) rfl
  ·simp[m,J];refine⟨F,rfl,V,V,V,fun j o T g=>?_⟩;by_cases O:j=k
   ·rw[O,I] at g;obtain rfl:=cg g;exact m
   ·exact t j o F g
 ·simp[h];have P:k=s.l.length:=by simp at h;omega
  have:=wj (n:=0) (l:=s.l.map aB.id) (x:=x) fun j o g=>t j o (by rw[P];have:=(aK.1 g).1;simpa using this) g
  exact aT (by rw[this]) rfl
theorem wI {alZ:Type} [DecidableEq alZ] :∀ {l m:List alZ},l.Nodup->(∀ x∈l,x∈m)->l.length<=m.length
 | [],m,_,_=>ek _
 | x::l,m,h,g=>by
  obtain⟨h1,p⟩:=vf.1 h;have j:=g x V;have q:=wI (l:=l) (m:=m.erase x) p fun y o=>(Fl (fun e=>h1 (by rw[<-e];exact o))).2 (g y (by simp[o]))
  have:=Fi j;have:=Fj j;simp only[dE];omega
theorem j6 {l:aO} (h:bX l=true) :∀ {d i:Nat},i+d+1<l.length->bJ (bo l i) (bo l (i+d+1))<0
 | 0,i,g=>K2 h g
 | d+1,i,g=>oi _ _ _ (j6 h (d:=d) (i:=i) F) (K2 h (k:=i+d+1) g)
theorem DY {l:aO} (h:bX l=true) :l.Nodup:=by
 refine kV.2 fun i g p q t o=>?_
 have:=j6 h (d:=g - i - 1) (i:=i) F;rw[show i+(g - i - 1)+1=g by omega] at this;have j:bo l i=l[i]:=dG (bI p);have m:bo l g=l[g]:=dG (bI q);rw[j,m,o,k8] at this;omega
structure NT (o:aG) (m:bV) (k:Nat) (sgZ:aR) (l:ae) :Prop where
 ov:l=[.q 11 (au o)]
 fp:sgZ 1=ai m
 iI:sgZ 2=.ptr 0 0 11
 kA:sgZ 5=.i6 k
 jX:∀ j,j<k->bo m.l j∈o.ay.l
theorem VK (o:aG) (J:dz o) (m:bV) (z:cT m) (ae:m.l.length<=1000000) :aY 114 [.ah (au o),ai m] (.bool (e3 o m.l)):=by
 apply bc func114 [];have q:bx (.ad 32) (ai m)=_:=cd _;have K:bx (.ad 32) (ai o.ay)=_:=cd _;have S:=bU o.ay;have R:=bU m;by_cases p:m.l.length=0
 ·have g:e3 o m.l=false:=by unfold e3;rw[p];rfl
  rw[g];simp[q,p];exact aE
 ·have ak:¬ ((m.l.length:Int)=0):=F;by_cases h1:o.ay.l.length<m.l.length
  ·have u:((o.ay.l.length:Int)<(m.l.length:Int)):=F;have g:e3 o m.l=false:=by
    cases h:e3 o m.l with
    | false=>rfl
    | true=>
     unfold e3 at h;rw[bH,bH] at h;have:=wI (DY h.2.1) fun x B=>iZ (gg.1 h.2.2 x B)
     omega
   rw[g];simp[au,q,K,p,u];exact aE
  ·have u:¬ ((o.ay.l.length:Int)<(m.l.length:Int)):=F;simp[au,q,K,p,u];refine av (DG m z ae) (by simp[aq,R]) ?_;cases I:bX m.l with
   | false=>
    have g:e3 o m.l=false:=by unfold e3;rw[I];simp
    rw[g];simp;exact aE
   | true=>
    simp;refine bz m.l.length (NT o m) ?_ ⟨rfl,V,V,V,fun j h=>F⟩;rintro k aj l hk ⟨rfl,D,G,H,O⟩;obtain⟨aj,rfl⟩:=gK D G H;clear D G H;simp[q];refine gp (fun h=>?_) (fun h=>?_)
    ·simp only[bC] at h;obtain⟨y,P,C⟩:=aP (l:=m.l) (k:=k) F;have ag:=bu (z y C);have Q:=cq (k:=k) F;have W:bO (.ad 32) (ai m) _=_:=dg P;have X:=DC o.ay J.idsZ J.len y (z y C);have T:=c4 y;simp[au,W,ag,aL];refine av X (by simp[aq,U.aw,S,T]) ?_;by_cases t:y∈o.ay.l
     ·simp[t,Q];refine⟨F,rfl,V,V,V,fun j w=>?_⟩;by_cases Y:j=k
      ·rw[Y,dG P];exact t
      ·exact O j F
     ·have g:e3 o m.l=false:=by
       unfold e3;cases v:(m.l.all fun x=>decide (x∈o.ay.l)) with
       | false=>simp
       | true=>exact bP (iZ (gg.1 v y C)) t
      rw[g];simp[t];exact aE
    ·simp[h];have Z:k=m.l.length:=by simp at h;omega
     have g:e3 o m.l=true:=by
      unfold e3;have v:(m.l.all fun x=>decide (x∈o.ay.l))=true:=gg.2 fun x B=>by
       obtain⟨j,w⟩:=cj.1 B;have:=O j (by rw[Z];exact (aK.1 w).1);rw[dG w] at this;exact bY this
      rw[I,v,bY F];rfl
     rw[g];exact aE
end Op.aN
namespace Op.aN
open ca Op
structure Og (c:Int) (s:fg) (k:Nat) (sgZ:aR) (l:ae) :Prop where
 ov:∃ r,l=.q 2 (bS c s) ::r
 fp:sgZ 1=.ptr 0 0 2
 jq:sgZ 3=.i6 k
 jX:∀ j,j<k->hQ s.l j=true
theorem EK {l:List aB}:∀ {k:Nat},k<=l.length->(∀ j,j<k->hQ l j=true)->-1<=eL l k
 | 0,_,_=>by simp[eL]
 | k+1,hk,h=>by
  have o:=EK (l:=l) (k:=k) F fun j m=>h j F
  have g:=h k F;unfold hQ at g;simp only[bH,bC] at g;have:=g.2.2.1;unfold eL;rw[ak F,ti];omega
theorem Sx {l:List aB} {k:Nat} {y:aB} (v:l[k]?=some y) :dT y.id (l.map aB.id) 0=(k:Int)<->y.id∉(l.take k).map aB.id:=by
 have o:(l.map aB.id)[k]?=some y.id:=by rw[bW,v];rfl
 have C:=(aK.1 o).1;constructor
 ·intro h m;rw[jh] at m;obtain⟨j,g⟩:=cj.1 m;have t:=(aK.1 g).1;rw[cO] at t;rw[dU F] at g
  -- the first place is at most j
  have q:∀ {l:aO} {j n:Nat},l[j]?=some y.id->dT y.id l n<=((n+j:Nat) :Int):=by
   intro l
   induction l with
   | nil=>intro j n h;simp at h
   | cons w r B=>
    intro j n h;unfold dT;split
    ·omega
    ·rename_i u;rcases j with _ | j
     ·simp at h;exact bP h u
     ·have:=B (j:=j) (n:=n+1) (by simpa using h);omega
  have:=q (n:=0) g;rw[h] at this;omega
 ·intro h;have:=qM (n:=0) o (fun j D g z p=>h (by
   rw[jh];exact cj.2 ⟨j,by rw[dU g,z,p]⟩)) rfl
  simpa using this
theorem VP (c:Int) (s:fg) (aC:gF s.l) (a9:s.l.length<=1000000) :aY 68 [.ah (bS c s)] (.i6 (cU c s.l)):=by
 apply bc func68 [db 0 28++[[29],[28]]];have az:bx (.ad 45) (cQ s)=_:=cd _;have aQ:=hx s;by_cases h1:c<1
 ·have P:cU c s.l=8:=by unfold cU;rw[aj (.inl h1)]
  rw[P];simp[bS,h1];exact aE
 ·by_cases T:8<c
  ·have P:cU c s.l=8:=by unfold cU;rw[aj (.inr (.inl T))]
   rw[P];simp[bS,h1,T];exact aE
  ·by_cases ai:c<s.l.length
   ·have P:cU c s.l=8:=by unfold cU;rw[aj (.inr (.inr ai))]
    rw[P];simp[bS,az,h1,T,ai];exact aE
   ·have aW:¬ (c<1\/8<c\/c<s.l.length):=F;simp[bS,az,h1,T,ai];refine bz s.l.length (Og c s) ?_ ⟨⟨_,rfl⟩,V,V,fun u h=>F⟩;rintro k bg l hk ⟨⟨r,rfl⟩,z,aJ,Y⟩;obtain⟨bg,rfl⟩:=kb z aJ;clear z aJ;simp[bS,az];refine gp (fun h=>?_) (fun h=>?_)
    ·simp only[bC] at h;obtain⟨y,aD,bd⟩:=aP (l:=s.l) (k:=k) F;have t:=aC y bd;have B:=hE t;have aG:=cq (k:=k) F;have C:bO (.ad 45) (cQ s) _=_:=dg aD;have a5:=fb aD;have R:=VI y.op t.op;have aA:=VK y.op t.op y.bl t.bl t.len;have aX:=q3 c s aC a9 y.id t.id;have W:=Sx aD;have aR:=Cs y.op;have bb:=pw aR t.id;have bp:=bu t.id;have O:=dV y.op;have aO:=bU y.bl;have aN:=c4 y.id;have j:hQ s.l k=(decide (c3 y.op=0)&&(decide (bE y.op=y.id)&&(decide (eL s.l k<y.aF)&&(decide (y.aF<=1000000000)&&(e3 y.op y.bl.l&&decide (y.id∉(s.l.take k).map aB.id)))))):=by unfold hQ;rw[a5]
     have o:hQ s.l k=false->cU c s.l=8:=fun g=>JZ aW h g
     have bk:=EK (l:=s.l) (k:=k) F Y;obtain⟨bh,a3⟩:=ao (aZ y);rw[<-a3] at B C;obtain⟨a2,aK⟩:=ao (au y.op);have f1:=B.len;have f2:=B.aF;have f3:=B.op;have f4:=B.id;have f5:=B.bl;rw[<-aK] at f3 R aA O;have bj:a2.length=11:=by rw[aK];rfl
     have Q:=je f1;obtain⟨D,al⟩:=ao ((bE y.op).map a8);have v:D.length=32:=by rw[al,cx,aR]
     have G:ax (bT 32 (.int .u8 0)) 0 D=D:=cI (by rw[v];rfl);have X:eb prog .neq 57 (.ah D) (.ah (ar y.id))=some (.bool !decide (bE y.op=y.id)):=by rw[al];exact bb
     unfold eF at R;rw[<-al] at R
     -- what comes behind the tickets
     have bm:eL s.l k<y.aF->y.aF<=1000000000->True:=fun _ _=>trivial
     by_cases I:y.aF<0
     ·have g:=o (by rw[j,cC (show ¬ eL s.l k<y.aF by omega)];simp);rw[g];simp[C,f1,Q,f2,I,aL];exact aE
     ·by_cases ae:y.aF<=1000000000
      ·have J:¬ 1000000000<y.aF:=F;by_cases aU:k=0
       ·have S:eL s.l k<y.aF:=by rw[aU];simp[eL];omega
        have a6:¬ (0:Int)<(k:Int):=F;have a7:¬ 0<k:=F;simp[C,f1,Q,f2,f4,I,J,a7,aL];refine av aX (show aq [U.ah (bS c s),U.ah (ar y.id)]=true by simp[bS,aq,U.aw,aQ,aN]) ?_;by_cases q:y.id∈(s.l.take k).map aB.id
        ·have g:=o (by rw[j];simp only[q,not_true,vk,u9]);have w:¬ dT y.id (s.l.map aB.id) 0=(k:Int):=fun h=>(W.1 h) q
         rw[g];simp[w];exact aE
        ·have w:dT y.id (s.l.map aB.id) 0=(k:Int):=W.2 q;simp[w,f1,f3];refine av R (by simp[aq,U.aw,O]) ?_;by_cases m:c3 y.op=0
         ·by_cases p:bE y.op=y.id
          ·simp[m,p,X,f1,f3,f4,f5,v,G,aL];refine av aA (by simp[aq,U.aw,O,aO]) ?_;cases K:e3 y.op y.bl.l with
           | false=>
            have g:=o (by rw[j];simp[K]);rw[g];simp;exact aE
           | true=>
            have am:hQ s.l k=true:=by rw[j,K];simp only[m,p,S,ae,q,nZ,x0,kU]
            simp[aG];exact⟨F,⟨_,rfl⟩,V,V,fun u aS=>by
             by_cases ay:u=k
             ·rw[ay];exact am
             ·exact Y u F⟩
          ·have g:=o (by rw[j];simp[p]);rw[g];simp[m,p,X,f1,f4,v,G,aL];exact aE
         ·have g:=o (by rw[j];simp[m]);rw[g];simp[m,v,G];exact aE
       ·obtain⟨H,a0,bf⟩:=aP (l:=s.l) (k:=k - 1) F;have aH:IntKind.i64.wrap ((k:Int) - 1)=((k - 1:Nat) :Int):=by rw[IntKind.wrap_i64];omega
        have a6:(0:Int)<(k:Int):=F;have aV:0<k:=F;have ap:bO (.ad 45) (cQ s) (.i6 ((k - 1:Nat) :Int))=some (.b0 (aZ H) 0):=by simp[cQ,a0]
        have aM:=hE (aC H bf);have ag:=aM.aF;have z:=aM.len;have bo:eL s.l k=H.aF:=by unfold eL;rw[ak aU,fb a0]
        obtain⟨bi,a4⟩:=ao (aZ H);simp only[<-a4] at z ag ap;by_cases S:eL s.l k<y.aF
        ·have Z:¬ y.aF<=H.aF:=F;simp[C,ap,f1,z,Q,f2,ag,f4,I,J,aV,aH,Z,aL];refine av aX (show aq [U.ah (bS c s),U.ah (ar y.id)]=true by simp[bS,aq,U.aw,aQ,aN]) ?_;by_cases q:y.id∈(s.l.take k).map aB.id
         ·have g:=o (by rw[j];simp only[q,not_true,vk,u9]);have w:¬ dT y.id (s.l.map aB.id) 0=(k:Int):=fun h=>(W.1 h) q
          rw[g];simp[w];exact aE
         ·have w:dT y.id (s.l.map aB.id) 0=(k:Int):=W.2 q;simp[w,f1,f3];refine av R (by simp[aq,U.aw,O]) ?_;by_cases m:c3 y.op=0
          ·by_cases p:bE y.op=y.id
           ·simp[m,p,X,f1,f3,f4,f5,v,G,aL];refine av aA (by simp[aq,U.aw,O,aO]) ?_;cases K:e3 y.op y.bl.l with
            | false=>
             have g:=o (by rw[j];simp[K]);rw[g];simp;exact aE
            | true=>
             have am:hQ s.l k=true:=by rw[j,K];simp only[m,p,S,ae,q,nZ,x0,kU]
             simp[aG];exact⟨F,⟨_,rfl⟩,V,V,fun u aS=>by
              by_cases ay:u=k
              ·rw[ay];exact am
              ·exact Y u F⟩
           ·have g:=o (by rw[j];simp[p]);rw[g];simp[m,p,X,f1,f4,v,G,aL];exact aE
          ·have g:=o (by rw[j];simp[m]);rw[g];simp[m,v,G];exact aE
        ·have Z:y.aF<=H.aF:=F;have g:=o (by rw[j];simp[S]);rw[g];simp[C,ap,f1,z,Q,f2,ag,I,J,aV,aH,Z,aL];exact aE
      ·have J:1000000000<y.aF:=F;have g:=o (by rw[j];simp[ae]);rw[g];simp[C,f1,Q,f2,I,J,aL];exact aE
    ·simp[h];exact aT (by rw[Dp aW fun u aS=>Y u (by simp at h;omega)]) rfl
end Op.aN
namespace Op.aN
open ca Op
theorem lY (s:bV) (g:cT s) (j:s.l.length<=1000000) :aY 80 [ai s] (ai s):=by
 refine w4 checked.mixed ev ?_;refine yQ s g j fun o m h=>?_
 exact h.rd c4 s rfl rfl
theorem nJ {R:ag} {i:Nat} (v:U) (g:i<R.length) :ax R i [v]=R.set i v:=by unfold ax;rw[rA,aj g,xS,gM,Fq]
theorem XO {R:ag} {i:Nat} {v:U} (h:R[i]?=some v) :ax R i [v]=R:=by obtain⟨j,g⟩:=aK.1 h;rw[nJ v j,<-g,AY]
theorem LP (R:ag) (i:Nat) (v w:U) (g:i<R.length) :ax (ax R i [v]) i [w]=ax R i [w]:=by rw[nJ v g,nJ w (by rw[kj];exact g),nJ w g,AZ]
def iy (s:aB) (w:U) :ag:=.i6 s.aF::(au s.op++(ar s.id++[w]))
theorem Ac {s:aB} (h:s.id.length=32) (w:U) :ax (aZ s) 44 [w]=iy s w:=by have g:=bu h;unfold ax aZ iy au;simp[g,AO]
theorem WM (s:aB) :(aZ s)[2]?=some (ai s.op.ay):=rfl
theorem zT {s:aB} (h:s.id.length=32) :(aZ s)[44]?=some (ai s.bl):=by have g:=bu h;unfold aZ au;simp[g]
theorem EM (s:aB) (g:lJ s) {l:ae} {K:cA} (H:∀ w l',b9 32 ar l l' w s.bl.l s.bl.isNone->K (.ah (iy s w)) l') :
  cJ 101 [.ah (aZ s)] l K:=by
 apply cW func101 [[[0],[1],[2],[4],[5],[3,5],[7],[8],[6]]];have p:=hE g;have o:=WM s;have G:=zT g.id;have z:=Ac g.id;have O:=lY s.op.ay g.op.idsZ g.op.len;have P:=bU s.op.ay;have R:(ai s.op.ay).cells=some [ai s.op.ay]:=by cases s.op.ay<;>rfl
 obtain⟨j,I⟩:=ao (aZ s);rw[<-I] at p o G z ⊢;have f1:=p.len;have S:=XO o;have D:∀ h:2<j.length,j[2]'h=ai s.op.ay:=fun h=>(aK.1 o).2
 have t:=p.bl;simp[f1,D,t];refine av O (by simp[aq,P]) ?_;simp[f1,t];obtain⟨L,m⟩:=ao (l++[am.q 45 j,am.q 45 m7]);have aw:L.length=l.length+2:=by rw[m];simp
 have aj:L[l.length]?=some (.q 45 j):=by rw[m];simp
 have q1:L[l.length+1]?=some (.q 45 m7):=by rw[m];simp
 unfold m7 at m q1;rw[<-m];refine yQ s.bl g.bl g.len fun w l1 h1=>?_
 have az:=h1.le;have C:l1[l.length]?=some (.q 45 j):=by rw[h1.same _ F];exact aj
 have ag:l1[l.length+1]?=some (.q 45 (U.i6 0::U.int .u32 0::U.af::U.int .u64 0::U.int .u8 0::U.str [] ::U.int .u8 0::U.i6 0::U.int .u64 0::U.str [] ::U.int .u32 0::U.int .u32 0::(bT 32 (.int .u8 0)++[U.af]))):=by rw[h1.same _ F];exact q1
 have V:=h1.cells;have u:=z w;have v:(iy s w).length=45:=by rw[<-u,nJ w F,kj,f1]
 have T:=je v;have ak:∀ c:am,(l1.set l.length c)[l.length]?=some c:=fun c=>b1 F
 have al:∀ c:am,(l1.set l.length c)[l.length+1]?=l1[l.length+1]?:=fun c=>br F
 have ap:∀ c d:am,((l1.set l.length c).set (l.length+1) d)[l.length+1]?=some d:=fun c d=>b1 (by simp;omega)
 have au:(l1.set l.length (.q 45 j))=l1:=by
  obtain⟨ax,Q⟩:=aK.1 C;rw[<-Q,AY]
 simp[C,ag,f1,R,V,S,ak,al,ap,au,u,v,T,aL];obtain⟨W,X,aA,Y,B,Z⟩:=h1;refine H w _ ⟨W,X.c6 (B.imp id fun h=>?_),by simp;omega,fun b J=>?_,B.imp id F,Z⟩
 ·rw[br F,br F]
 ·rw[br F,br F,Y b F,m,aV J]
end Op.aN
namespace Op.aN
open ca Op
theorem HM:fR prog 141=true:=bg
theorem PR (x:List B) (m:x.length=32) {j bi:Nat} {l:ae} {xs:aO} (u:∀ y∈xs,y.length=32) (h1:l[bi]?=some (.q 32 (ar x))) (G:bi≠j) :
  vl 141 [.ptr bi 0 32] j l xs (fun y=>decide (y=x)):=by
 intro y p v F I w;apply cW func141 [];have h:v[bi]?=some (.q 32 (ar x)):=by rw[F.same _ (a2 h1) G];exact h1
 have H:=a2 h;have g:∀ c:am,(v++[c])[bi]?=some (.q 32 (ar x)):=fun c=>by rw[aV H];exact h
 have t:=bu (u y p);have o:=bu m;have heq:=pv (u y p) m;obtain⟨J,z⟩:=ao (ar x);obtain⟨K,C⟩:=ao (ar y);rw[<-z] at g o heq;rw[<-C] at t heq ⊢;simp[g,t,o,heq,aL];exact w _ V fun b D=>aV D
def j2 (x y:List B) :Bool:=!decide (y=x)
theorem Hb {l0 l:ae} {w:U} {xs:aO} {J:Bool} (h:b9 32 ar l0 l w xs J) (I:∀ y∈xs,y.length=32) (S:xs.length<=1000000) (x:List B) (X:x.length=32) {bi:Nat} (h1:l0[bi]?=some (.q 32 (ar x)))
  {K:cA} (D:∀ (m:bV) z,l.length<=z.length->(∀ b,b<l0.length->z[b]?=l0[b]?)->m.l=xs.filter (j2 x)->m.isNone=J->K (ai m) z) :
  cJ 140 [w,.fn 141 [] [.ptr bi 0 32]] l K:=by
 refine Gz checked.mixed ev ?_;obtain⟨j,O,am,C,ak,P⟩:=h;have R:=a2 h1;have Q:l[bi]?=some (.q 32 (ar x)):=by rw[C bi R];exact h1
 by_cases v:bt w=true
 ·have W:=gC.1 v;subst W;have Y:xs=[]:=by have:=O.q.pJ;rwa [nU] at this
  subst Y;refine Hc (j:=l.length+1) (xs:=[]) (p:=fun y=>decide (y=x)) HM (.nil _) V V (fun y Z=>by cases Z) fun r o G g u=>?_
  obtain rfl:=gC.1 u;refine⟨.af,o,⟨rfl,fun _=>.inl rfl⟩,.same _,g.le,D none o g.le (fun b t=>?_) rfl (by rw[<-P];rfl)⟩;rw[g.same b F F];exact C b t
 ·have H:bt w=false:=p9.2 v;have al:l0.length<=j:=ak.resolve_left fun h=>v (gC.2 h)
  refine Hc (p:=fun y=>decide (y=x)) HM O I S (PR x X I Q F) fun r o G g u=>?_
  have T:bt r=false:=by rw[u];exact H
  obtain⟨ag,aj⟩:=pO G T;refine⟨_,o.set j .dead,ag,aj,by have:=g.le;simpa using this,D (some (xs.filter (j2 x))) _ (by have:=g.le;simpa using this) (fun b t=>?_) rfl (by rw[<-P,H];rfl)⟩;rw[br F,g.same b F F];exact C b t
def lz (x:List B) (m:bV) :bV:=match m with | none=>none | some a=>some (a.filter (j2 x))
def er (x:List B) (s:aB) :aB:={ s with bl:=lz x s.bl }
theorem uV (x:List B) (m:bV) :(lz x m).l=m.l.filter (j2 x):=by cases m<;>rfl
theorem L4 {x:List B} {m g:bV} (h1:g.l=m.l.filter (j2 x)) (h:g.isNone=m.isNone) :g=lz x m:=by
 cases m with
 | none=>cases g with
  | none=>rfl
  | some a=>cases h
 | some a=>cases g with
  | none=>cases h
  | some b=>exact ch some h1
theorem Ez {x:List B} {s:aB} (h:lJ s) :lJ (er x s):=by
 refine⟨h.op,h.id,fun y g=>?_,?_⟩
 ·have:y∈(lz x s.bl).l:=g;rw[uV] at this;exact h.bl y (dy.1 this).1
 ·show (lz x s.bl).l.length<=_;rw[uV];exact dL (ie _ _) h.len
def gone (s:aB) :Bool:=s.bl.l.isEmpty
def cM (x:List B) (l:List aB) :List aB:=(l.map (er x)).filter gone
def cK (x:List B) (l:List aB) :List aB:=(l.map (er x)).filter fun s=>!gone s
def dZ (l:List aB) :fg:=match l with | []=>none | a::r=>some (a::r)
theorem gJ (l:List aB) :(dZ l).l=l:=by cases l<;>rfl
theorem ED (l:List aB) :(dZ l).isNone=l.isEmpty:=by cases l<;>rfl
theorem Ae {p:aB->Bool} {f:aB->aB} {l:List aB} {k:Nat} {y:aB} (h:l[k]?=some y) :((l.take (k+1)).map f).filter p=((l.take k).map f).filter p++(if p (f y) then [f y] else []):=by rw[eU,h,c5,lF];cases g:p (f y)<;>simp[g]
structure Nw (c:Int) (s:fg) (x:List B) (k:Nat) (gT:U) (l:ae) :Prop where
 qX:l[0]?=some (.q 2 (bS c s))
 nE:l[1]?=some (.q 32 (ar x))
 kJ:l[2]?=some (.q 2 [.i6 0,.af])
 ex:∃ g h j,l[3]?=some (.q 2 [.i6 c,g])/\aM 45 l gT h ((cM x (s.l.take k)).map aZ)/\aM 45 l g j ((cK x (s.l.take k)).map aZ)/\(gT=.af\/4<=h)/\(g=.af\/4<=j)/\(gT=.af\/g=.af\/h≠j) ∧
  bt gT=(cM x (s.l.take k)).isEmpty/\bt g=(cK x (s.l.take k)).isEmpty
 len:4<=l.length
structure Nx (c:Int) (s:fg) (x:List B) (k:Nat) (sgZ:aR) (l:ae) :Prop where
 iI:sgZ 2=.ptr 0 0 2
 jq:sgZ 3=.ptr 1 0 32
 kz:sgZ 4=.ptr 2 0 2
 oo:sgZ 8=.ptr 3 0 2
 HT:sgZ 22=cQ s
 HU:sgZ 23=.i6 s.l.length
 Rz:sgZ 24=.i6 k
 h:∃ gT,sgZ 9=gT/\Nw c s x k gT l
theorem tA {l:ae} {v:U} {j:Nat} {es:List aB} {s:aB} (h:aM 45 l v j (es.map aZ)) (o:(aZ s).length=45) (D:es.length<=1000000) :
  ∃ g m l',eE (l++[.q 45 (aZ s)]) 45 176 v (.ad 45 l.length 0 1 1 45)=some (g,l')/\aM 45 l' g m ((es++[s]).map aZ)/\l.length+1<=l'.length/\(∀ b,b<l.length->v=.af\/b≠j->l'[b]?=l[b]?)/\(l.length<=m\/(v≠.af/\m=j))/\bt g=false:=by
 have B:=dF;obtain⟨g,m,l',p,t,u,d1,w,f1⟩:=iG (h.more [.q 45 (aZ s)]) (by_:=176) (x:=.ad 45 l.length 0 1 1 45) (xs:=[aZ s]) (by simp[cG,o,aL]) (by simp[o]) F F (by rw[B];simp;omega);have f2:bt g=false:=by rw[f1];simp
 refine⟨g,m,l',p,by rw[c5];exact t,by simpa using u,fun b z C=>?_,?_,f2⟩
 ·rw[d1 b (by simp;omega) C,aV z]
 ·rcases w with h | h | h
  ·exact .inl (by simp at h;omega)
  ·exact .inr h
  ·rw[h] at f2;cases f2
def yl (c:Int) (l:List aB) (x:List B) :U:=
 if cU c l=0 then .a1 [.ah (bS c (dZ (cK x l))),cQ (dZ (cM x l)),.i6 0] else .a1 [.ah [.i6 0,.af],.af,.i6 (cU c l)]
theorem DM {l:ae} {a b c j m c' : U} (h1:Rd l a j) (p:Rd l b m) (q:Rd l c c') :Rd l (.a1 [a,b,c]) (.a1 [j,m,c']):=by
 refine .a1 _ _ rfl fun o x t g h=>?_
 rcases o with _ | _ | _ | o
 ·simp at g h;subst g h;exact h1
 ·simp at g h;subst g h;exact p
 ·simp at g h;subst g h;exact q
 ·simp at g
theorem KL {l:ae} {a b j m:U} (h1:Rd l a j) (p:Rd l b m) :Rd l (.ah [a,b]) (.ah [j,m]):=by
 refine .ah _ _ rfl fun o x q g h=>?_
 rcases o with _ | _ | o
 ·simp at g h;subst g h;exact h1
 ·simp at g h;subst g h;exact p
 ·simp at g
theorem Y6 (c:Int) (s:fg) (bv:gF s.l) (bW:s.l.length<=1000000) (x:List B) (bB:x.length=32) :aY 91 [.ah (bS c s),.ah (ar x)] (yl c s.l x):=by
 apply bc func91 [];unfold yl;have b3:bx (.ad 45) (cQ s)=_:=cd _;have bQ:=hx s;have bD:=bu bB;have bk:=u3 c s bv bW;have bm:aq [U.ah (bS c s)]=true:=by simp[bS,aq,U.aw,bQ]
 by_cases ap:cU c s.l=0
 ·simp[bS,bD];refine av bk bm ?_;simp[ap,b3];refine bz s.l.length (Nx c s x) ?_ ⟨V,V,V,V,V,V,V,.af,V,⟨rfl,rfl,rfl,⟨.af,0,0,rfl,.nil 0,.nil 0,.inl rfl,.inl rfl,.inl rfl,rfl,rfl⟩,V⟩⟩;rintro k cs l hk ⟨a4,a8,a9,bb,a5,a6,a7,S,bd,hH⟩;obtain⟨cs,rfl⟩:=As a4 a8 a9 bb bd a5 a6 a7;clear a4 a8 a9 bb bd a5 a6 a7;simp;refine gp (fun h=>?_) (fun h=>?_)
  ·simp only[bC] at h;obtain⟨y,aS,cj⟩:=aP (l:=s.l) (k:=k) F;have O:=bv y cj;have bg:=hE O;have cc:=Ez (x:=x) O;have au:=hE cc;have a3:=cq (k:=k) F;have bp:bO (.ad 45) (cQ s) _=_:=dg aS;have aR:=Ac O.id;obtain⟨aW,aA,aB,⟨G,o,v,al,ag,Q,d1,d2,d3,ay,az⟩,b4⟩:=hH;obtain⟨n,aO⟩:=ao (l.length);have bA:∀ K:cA,(∀ w bE,b9 32 ar (l++[am.q 45 (aZ y)]) bE w y.bl.l y.bl.isNone->K (.ah (iy y w)) bE)->cJ 101 [.ah (aZ y)] (l++[am.q 45 (aZ y)]) K:=fun K bI=>EM y O bI
   obtain⟨I,bM⟩:=ao (aZ y);rw[<-bM] at bg bp aR bA;have f1:=bg.len;have cg:=je f1;simp[bp,f1,cg,aL,<-aO];refine bA _ fun w aU j=>?_
   have bX:=j.le;have b5:(l++[am.q 45 I]).length=n+1:=by rw[aO];simp
   rw[b5] at bX;have cl:aU[n]?=some (.q 45 I):=by rw[j.same n F,aO];simp
   have aG:=aR w;have aH:(iy y w).length=45:=by rw[<-aG,nJ w F,kj,f1]
   have bh:∀ h:44<(iy y w).length,(iy y w)[44]'h=w:=fun h=>by
    have:(iy y w)[44]?=some w:=by rw[<-aG,nJ w F,b1 F]
    exact (aK.1 this).2
   have bo:∀ m:bV,m=lz x y.bl->ax (iy y w) 44 [ai m]=aZ (er x y):=fun m X=>by
    rw[<-aG,LP I 44 _ _ F,aR (ai m),X];rfl
   obtain⟨lL,bL⟩:=ao (iy y w);rw[<-bL] at aH bh bo ⊢;have ch:ax I 0 lL=lL:=cI (by rw[aH,f1]);have cn:∀ c:am,(aU.set n c)[n]?=some c:=fun c=>b1 F
   simp[cl,aH,ch,cn,bh]
   -- the struck idsZ
   have cb:b9 32 ar ((l++[am.q 45 I]).set n (.q 45 lL)) (aU.set n (.q 45 lL)) w y.bl.l y.bl.isNone:=by
    obtain⟨ck,C,cu,bF,a2,bG⟩:=j;refine⟨ck,C.c6 (a2.imp id fun h=>by rw[br F]),by simp;omega,fun b u=>?_,a2.imp id V,bG⟩;rw[kj] at u;by_cases bN:b=n
    ·rw[bN,b1 F,b1 F]
    ·rw[br F,br F];exact bF b u
   have bj:∀ b,b<n->((l++[am.q 45 I]).set n (.q 45 lL))[b]?=l[b]?:=fun b u=>by rw[br F,aV F]
   refine Hb cb O.bl O.len x bB (bi:=1) (by rw[bj 1 F];exact aA) fun m ae bZ bw b6 b7=>?_
   have X:=L4 b6 b7;have bK:n+1<=ae.length:=by simp at bZ;omega
   have ce:ae[n]?=some (.q 45 lL):=by rw[bw n (by simp;omega),b1 F]
   have cf:∀ b,b<n->ae[b]?=l[b]?:=fun b u=>by rw[bw b (by simp;omega)];exact bj b u
   have b8:(ai m).cells=some [ai m]:=by cases m<;>rfl
   have bf:=bo m X;have cr:∀ c:am,(ae.set n c)[n]?=some c:=fun c=>b1 F
   have aT:∀ h:44<(aZ (er x y)).length,(aZ (er x y))[44]'h=ai m:=fun h=>by rw[au.bl h,X];rfl
   have bt:bx (.ad 32) (ai m)=_:=cd _;have Z:=au.len;obtain⟨H,W⟩:=ao (ae.set n (.q 45 (aZ (er x y))));have t5:n+1<=H.length:=by rw[W];simpa using bK
   have t0:∀ b,b<n->H[b]?=l[b]?:=fun b u=>by rw[W,br F];exact cf b u
   have t1:H[n]?=some (.q 45 (aZ (er x y))):=by rw[W];exact cr _
   have aX:aM 45 H S o ((cM x (s.l.take k)).map aZ):=ag.c6 (by
    rcases ag.lt with h | h
    ·exact .inl h
    ·exact .inr (t0 o F))
   have a0:aM 45 H G v ((cK x (s.l.take k)).map aZ):=Q.c6 (by
    rcases Q.lt with h | h
    ·exact .inl h
    ·exact .inr (t0 v F))
   have bR:(cM x (s.l.take k)).length<=1000000:=by
    unfold cM;refine dL (ie _ _) ?_;rw[cx,cO];omega
   have ca:(cK x (s.l.take k)).length<=1000000:=by
    unfold cK;refine dL (ie _ _) ?_;rw[cx,cO];omega
   have P:=Ae (p:=gone) (f:=er x) aS;have D:=Ae (p:=fun s=>!gone s) (f:=er x) aS;have J:gone (er x y)=decide (m.l.length=0):=by
    have e:(er x y).bl=m:=X.symm;unfold gone;rw[e];cases m.l<;>simp
   obtain⟨ct,aJ⟩:=ao (aZ (er x y));simp only[<-aJ] at bf aT Z t1 W;simp[ce,b8,bf];rw[<-W];by_cases Y:m.l.length=0
   ·rw[Y,bY rfl] at J;rw[J,aj rfl] at P;rw[J] at D;simp only[xN,jJ,if_false,eT] at D;obtain⟨R,dp,t,T,C,bH,eg,ee,aF⟩:=tA aX au.len bR;rw[<-aJ] at T;have aQ:=je Z;simp[t1,Z,aT,bt,Y,aQ,aL,T];refine b2.bq ?_;have z:∀ b,b<4->t[b]?=l[b]?:=fun b u=>by rw[eg b F (d1.imp id fun h=>F)];exact t0 b F
    have aN:=a0.lt;have aD:aM 45 t G v ((cK x (s.l.take k)).map aZ):=a0.c6 (by
     rcases aN with h | h
     ·exact .inl h
     ·rcases d3 with g | g | g
      ·exact .inr (eg v h (.inl g))
      ·exact .inl g
      ·exact .inr (eg v h (.inr fun e=>g e.symm)))
    simp[a3];refine⟨F,V,V,V,V,V,V,V,R,V,⟨by rw[z 0 F];exact aW,by rw[z 1 F];exact aA,by rw[z 2 F];exact aB,⟨G,dp,v,by rw[z 3 F];exact al,?_,?_,.inr ?_,d2,?_,?_,?_⟩,F⟩⟩
    ·show aM 45 t R dp ((cM x (s.l.take (k+1))).map aZ);unfold cM at C ⊢;rw[P];exact C
    ·show aM 45 t G v ((cK x (s.l.take (k+1))).map aZ);unfold cK at aD ⊢;rw[D];exact aD
    ·rcases ee with h | ⟨h,h'⟩
     ·omega
     ·rw[h'];exact d1.resolve_left h
    ·right;rcases d3 with g | g | g
     ·rcases aN with j | j
      ·exact .inl j
      ·rcases ee with h | ⟨h,_⟩
       ·exact .inr F
       ·exact bP g h
     ·exact .inl g
     ·rcases aN with j | j
      ·exact .inl j
      ·rcases ee with h | ⟨_,h'⟩
       ·exact .inr F
       ·exact .inr (by rw[h'];exact g)
    ·rw[aF];unfold cM;rw[P];simp
    ·rw[az];unfold cK;rw[D]
   ·rw[cC Y] at J;rw[J,ak V,eT] at P;rw[J] at D;simp only[s9,if_true] at D;obtain⟨R,dp,t,T,C,bH,eg,ee,aF⟩:=tA a0 au.len ca;rw[<-aJ] at T;have aQ:=je Z;have t3:H[3]?=some (.q 2 [.i6 c,G]):=by rw[t0 3 F];exact al
    have cw:=Q.cells;have ci:=C.cells;have cv:¬ m.l=[]:=fun h=>Y (by rw[h];rfl)
    simp[t1,t3,Z,aT,bt,Y,aQ,aL,T];refine b2.bq ?_;have z:∀ b,b<4->t[b]?=l[b]?:=fun b u=>by rw[eg b F (d2.imp id fun h=>F)];exact t0 b F
    have cm:t[3]?=some (.q 2 [.i6 c,G]):=by rw[z 3 F];exact al
    have bs:=aX.lt;have bT:4<=dp:=by
     rcases ee with h | ⟨h,h'⟩
     ·omega
     ·rw[h'];exact d2.resolve_left h
    have aC:aM 45 t S o ((cM x (s.l.take k)).map aZ):=aX.c6 (by
     rcases bs with h | h
     ·exact .inl h
     ·rcases d3 with g | g | g
      ·exact .inl g
      ·exact .inr (eg o h (.inl g))
      ·exact .inr (eg o h (.inr g)))
    simp[cm,ci,ax,a3];refine⟨F,V,V,V,V,V,V,V,S,V,⟨by rw[br F,z 0 F];exact aW,by rw[br F,z 1 F];exact aA,by rw[br F,z 2 F];exact aB,⟨R,o,dp,b1 F,?_,?_,d1,.inr bT,?_,?_,?_⟩,by simp;omega⟩⟩
    ·show aM 45 _ S o ((cM x (s.l.take (k+1))).map aZ);refine (show aM 45 t S o ((cM x (s.l.take (k+1))).map aZ) from ?_).c6 (d1.imp id fun h=>by rw[br F]);unfold cM at aC ⊢;rw[P];exact aC
    ·show aM 45 _ R dp ((cK x (s.l.take (k+1))).map aZ);refine (show aM 45 t R dp ((cK x (s.l.take (k+1))).map aZ) from ?_).c6 (.inr (by rw[br F]));unfold cK at C ⊢;rw[D];exact C
    ·rcases bs with j | j
     ·exact .inl j
     ·rcases ee with h | ⟨h,h'⟩
      ·exact .inr (.inr F)
      ·rcases d3 with g | g | g
       ·exact .inl g
       ·exact bP g h
       ·exact .inr (.inr (by rw[h'];exact g))
    ·rw[ay];unfold cM;rw[P]
    ·rw[aF];unfold cK;rw[D];simp
  ·simp[h];have bU:k=s.l.length:=by simp at h;omega
   obtain⟨aW,aA,aB,⟨G,o,v,al,ag,Q,d1,d2,d3,ay,az⟩,b4⟩:=hH;rw[bU,fC] at ag Q ay az;have cp:∀ c:am,(l.set 2 c)[2]?=some c:=fun c=>b1 F
   have aC:∀ c:am,aM 45 (l.set 2 c) S o ((cM x s.l).map aZ):=fun c=>ag.c6 (d1.imp id fun h=>by rw[br F])
   have aD:∀ c:am,aM 45 (l.set 2 c) G v ((cK x s.l).map aZ):=fun c=>Q.c6 (d2.imp id fun h=>by rw[br F])
   simp[al,aB,cp];rw[aj ap];exact DM (KL (.same _ rfl) ((aD _).q.jA pk (dZ _) (by rw[az,ED]) (gJ _))) ((aC _).q.jA pk (dZ _) (by rw[ay,ED]) (gJ _)) (.same _ rfl)
 ·rw[ak ap];simp[bS,bD];refine av bk bm ?_;simp[ap];exact aE
end Op.aN
namespace Op.aN
open ca Op
def pF (g:aO) (y:List B) :Bool:=!decide (y∈g)
def xq (g:aO) (m:bV) :bV:=match m with | none=>none | some a=>some (a.filter (pF g))
def jH (g:aO) (s:aB) :aB:={ s with bl:=xq g s.bl }
def l3 (g:aO) (l:List aB) :List aB:=(l.map (jH g)).filter fun s=>!gone s
theorem Ey (g:aO) (m:bV) :(xq g m).l=m.l.filter (pF g):=by cases m<;>rfl
theorem L5 (g:aO) (x:List B) (s:aB) :er x (jH g s)=jH (g++[x]) s:=by
 unfold er jH;congr 1;cases j:s.bl with
 | none=>rfl
 | some a=>
  show some ((a.filter (pF g)).filter (j2 x))=some (a.filter (pF (g++[x])));rw[List.filter_filter];congr 2;funext y;unfold pF j2;by_cases h1:y=x<;>by_cases h:y∈g<;>simp[h1,h]
theorem RL {g:aO} {x:List B} {s:aB} (h:gone (jH g s)=true) :gone (er x (jH g s))=true:=by unfold gone at h ⊢;have h1:(jH g s).bl.l=[]:=xR.1 h;show (lz x (jH g s).bl).l.isEmpty=true;rw[uV,h1];rfl
theorem Je (x:List B) (g:aO) :∀ l:List aB,cK x (l3 g l)=l3 (g++[x]) l
 | []=>rfl
 | s::l=>by
  have h:=Je x g l;unfold cK l3 at h ⊢;rw[df,df,rx];cases j:gone (jH g s) with
  | true=>
   have:=RL (x:=x) j;rw[L5] at this;simp only[xN,jJ,if_false];rw[h,rx,this];simp
  | false=>
   simp only[s9,if_true];rw[df,rx,L5,rx,h]
theorem su (x:List B) :∀ l:List aB,(cK x l).length+(cM x l).length=l.length
 | []=>rfl
 | s::l=>by
  have g:=su x l;unfold cK cM at g ⊢;rw[df,rx,rx];cases gone (er x s)<;>simp<;>omega
def hC (s:aB) :Prop:=c3 s.op=0/\bE s.op=s.id/\0<=s.aF/\s.aF<=1000000000/\e3 s.op s.bl.l=true
theorem pr (l:List aB) :ot l=true<->(∀ s∈l,hC s)/\l.Pairwise (fun a b=>a.aF<b.aF)/\l.Pairwise fun a b=>a.id≠b.id:=by
 constructor
 ·intro h;have hk:∀ k,k<l.length->hQ l k=true:=iZ h;have q:∀ (k:Nat) (s:aB),l[k]?=some s->c3 s.op=0/\bE s.op=s.id/\eL l k<s.aF/\s.aF<=1000000000/\e3 s.op s.bl.l=true/\s.id∉(l.take k).map aB.id:=fun k s o=>by
   have:=hk k (aK.1 o).1;unfold hQ at this;rw[fb o] at this;simp only[bH,bC] at this;exact this
  have T:∀ (d i:Nat) (a b:aB),l[i]?=some a->l[i+d+1]?=some b->a.aF<b.aF:=by
   intro d
   induction d with
   | zero=>
    intro i a b u p;have:=(q (i+1) b p).2.2.1;unfold eL at this;rw[ak F,ti,fb u] at this;exact this
   | succ d W=>
    intro i a b u p;obtain⟨D,t,_⟩:=aP (l:=l) (k:=i+d+1) (by have:=(aK.1 p).1;omega);have h1:=W i a D u t;have m:=(q (i+d+1+1) b p).2.2.1;unfold eL at m;rw[ak F,ti,fb t] at m;omega
  refine⟨fun s o=>?_,kV.2 fun i g v j C=>?_,kV.2 fun i g v j C R=>?_⟩
  ·obtain⟨k,w⟩:=cj.1 o;obtain⟨h1,m,B,P,Q,_⟩:=q k s w;have Y:=EK (l:=l) (k:=k) (by have:=(aK.1 w).1;omega) fun g j=>hk g (by have:=(aK.1 w).1;omega)
   exact⟨h1,m,F,P,Q⟩
  ·exact T (g - i - 1) i _ _ (bI v) (by rw[show i+(g - i - 1)+1=g by omega];exact bI j)
  ·have:=(q g _ (bI j)).2.2.2.2.2;refine this ?_;rw[<-R];exact te (cj.2 ⟨i,by rw[dU C];exact bI v⟩)
 ·rintro⟨h1,m,B⟩;refine bY fun k hk=>?_
  have o:=bI hk;obtain⟨I,J,X,K,O⟩:=h1 _ (Fg hk);unfold hQ;rw[fb o];have G:eL l k<l[k].aF:=by
   unfold eL;by_cases z:k=0
   ·rw[aj z];omega
   ·rw[ak z,fb (bI (l:=l) (i:=k - 1) F)];exact (kV.1 m) (k - 1) k F hk F
  have H:l[k].id∉(l.take k).map aB.id:=fun U=>by
   obtain⟨D,t,V⟩:=cy.1 U;obtain⟨g,j⟩:=cj.1 t;have S:=(aK.1 j).1;rw[cO] at S;rw[dU F] at j;have:=(kV.1 B) g k F hk F;rw[(aK.1 j).2] at this;exact this V
  simp only[I,J,G,K,O,H,nZ,x0,kU]
theorem K1 (l:aO) :bX l=true<->l.Pairwise fun a b=>bJ a b<0:=by
 constructor
 ·intro h;refine kV.2 fun i g j m o=>?_
  have:=j6 h (d:=g - i - 1) (i:=i) F;rw[show i+(g - i - 1)+1=g by omega] at this
  rwa [dG (bI j),dG (bI m)] at this
 ·intro h;refine uM fun k hk h1=>?_
  have:=(kV.1 h) (k - 1) k F hk F
  rwa [dG (bI (l:=l) (i:=k - 1) F),dG (bI hk)]
theorem Uy {g:aO} {s:aB} (h:hC s) (m:gone (jH g s)=false) :hC (jH g s):=by
 obtain⟨h1,o,p,q,j⟩:=h;refine⟨h1,o,p,q,?_⟩;unfold e3 at j ⊢;rw[bH,bH,bC] at j;have u:(jH g s).bl.l=s.bl.l.filter (pF g):=Ey g s.bl;unfold gone at m;rw[u] at m ⊢;have v:0<(s.bl.l.filter (pF g)).length:=by
  cases t:s.bl.l.filter (pF g) with
  | nil=>rw[t] at m;cases m
  | cons a r=>simp
 rw[bY v,(K1 _).2 (((K1 _).1 j.2.1).sublist ki)];simp only[mj];exact gg.2 fun y w=>gg.1 j.2.2 y (dy.1 w).1
theorem oK {c:Int} {l:List aB} (h:cU c l=0) :¬ (c<1\/8<c\/c<l.length)/\ot l=true:=by
 unfold cU at h;split at h
 ·cases h
 ·rename_i h1;split at h
  ·rename_i g;exact⟨h1,g⟩
  ·cases h
theorem T7 {c:Int} {l:List aB} (h:cU c l=0) (g:aO) :cU c (l3 g l)=0:=by
 obtain⟨h1,q⟩:=oK h;obtain⟨m,o,p⟩:=(pr l).1 q;have B:(l3 g l).length<=l.length:=by
  unfold l3;refine dL (ie _ _) ?_;simp
 have t:ot (l3 g l)=true:=(pr _).2 ⟨fun s j=>by
  unfold l3 at j;obtain⟨v,u⟩:=dy.1 j;obtain⟨z,w,rfl⟩:=cy.1 v;exact Uy (m z w) (by simpa using u),((m9 (f:=jH g) (R:=fun a b=>a.aF<b.aF)).2 o).sublist ki,((m9 (f:=jH g) (R:=fun a b=>a.id≠b.id)).2 p).sublist ki⟩
 unfold cU;rw[ak F,t];rfl
theorem T6 {l:List aB} (h:∀ s∈l,hC s) :l3 [] l=l:=by
 have h1:∀ s:aB,jH [] s=s:=fun s=>by
  unfold jH;have:xq [] s.bl=s.bl:=by
   cases j:s.bl with
   | none=>rfl
   | some a=>exact ch some (ry.2 fun y _=>by unfold pF;simp)
  rw[this]
 unfold l3;rw[mm (g:=id) (fun s _=>h1 s),List.map_id,ry.2];intro s m;have:=(h s m).2.2.2.2;unfold e3 at this;rw[bH,bC] at this;unfold gone;cases j:s.bl.l with
 | nil=>rw[j] at this;simp at this
 | cons a r=>rfl
end Op.aN
end Go.bh
namespace Go.bh
open Go Go.Proofs Go.Proofs.Tryz Go.RowKit
namespace Op.aN
open ca Op
structure vx (s:aB) :Prop where
 op:vw s.op
 id:s.id.length=32
 bl:cT s.bl
theorem YD {ts:List aC} {cs:ag} (h:c0 prog (94::ts) cs) :∃ (s:aB) (cs' : ag),cs=aZ s++cs'/\vx s/\c0 prog ts cs':=by have h1:=nL (fs:=[3,55,57,23]) bg h;obtain⟨n,_,rfl,_,_,g⟩:=m4 (k:=.i64) bg h1;obtain⟨v,_,rfl,q,j⟩:=EP g;obtain⟨x,_,rfl,t,m⟩:=EO j;obtain⟨u,cs',rfl,p,o⟩:=xv m;exact⟨⟨n,v,x,u⟩,cs',by simp[aZ,ar],⟨q,t,p⟩,o⟩
theorem WL {s:aB} (h:s.id.length=32) :Row s (aZ s):=by
 have g:=bu h;have j:(aZ s).length=45:=by unfold aZ au;simp[g]
 refine⟨j,fun _=>rfl,?_,?_,fun m=>?_,pk s⟩
 ·unfold aZ au;simp
 ·unfold aZ au;simp[g]
 ·exact (aK.1 (zT h)).2
def nj (s:aB) :Bool:=lZ s.op||decide (40<s.bl.l.length)
def nx (l:List aB) :Bool:=decide (∃ g∈l.take 21,nj g=true)||decide (20<l.length)
theorem UY {l:List aB} (h:nx l=false) :l.length<=20/\∀ t∈l,nj t=false:=by unfold nx at h;rw[qa,decide_eq_false_iff_not,decide_eq_false_iff_not] at h;refine⟨F,fun t j=>?_⟩;rw[aL F] at h;exact p9.2 fun g=>h.1 ⟨t,j,g⟩
theorem UC {s:aB} (h:vx s) (g:nj s=false) :lJ s:=by unfold nj at g;rw[qa,decide_eq_false_iff_not] at g;have j:=g.1;unfold lZ at j;simp only[qa,decide_eq_false_iff_not] at j;exact⟨⟨h.op.idsZ,F,⟨h.op.gZ,h.op.qR,F⟩,F⟩,h.id,h.bl,F⟩
structure NP (c:Int) (s:fg) (k:Nat) (sgZ:aR) (l:ae) :Prop where
 ov:l=[.q 2 (bS c s)]
 fp:sgZ 1=.ptr 0 0 2
 jq:sgZ 3=.i6 k
 jX:∀ (j:Nat) (t:aB),j<k->s.l[j]?=some t->nj t=false
theorem VQ (c:Int) (s:fg) (ag:∀ t∈s.l,vx t) :aY 42 [.ah (bS c s)] (.bool (nx s.l)):=by
 apply bc func42 [];have B:bx (.ad 45) (cQ s)=_:=cd _;simp[bS];refine bz (min s.l.length 21) (NP c s) ?_ ⟨rfl,V,V,fun m t h=>F⟩;rintro k ak l hk ⟨rfl,D,G,R⟩;obtain⟨ak,rfl⟩:=kb D G;clear D G;by_cases h:k<s.l.length
 ·have h' : (k:Int)<(s.l.length:Int):=F;by_cases am:k<=20
  ·have v:(k:Int)<=20:=F;obtain⟨y,C,aj⟩:=aP (l:=s.l) (k:=k) h;have o:=WL (ag y aj).id;have q:bO (.ad 45) (cQ s) _=_:=dg C;have W:=cq (k:=k) F;have P:=Kx y.op;have K:=dV y.op;have Q:bx (.ad 32) (ai y.bl)=_:=cd _;have J:nj y=true->nx s.l=true:=fun g=>by
    unfold nx;rw[bY (⟨y,cj.2 ⟨k,by rw[dU F];exact C⟩,g⟩:∃ t∈s.l.take 21,nj t=true)];rfl
   obtain⟨al,Y⟩:=ao (aZ y);rw[<-Y] at o q;obtain⟨T,I⟩:=ao (au y.op);have f1:=o.len;have f3:=o.op;have f5:=o.bl;rw[<-I] at f3 P K;have ap:T.length=11:=by rw[I];rfl
   simp[bS,B,h',v,q,f1,f3];refine av P (by simp[aq,U.aw,K]) ?_;cases O:lZ y.op with
   | true=>
    have g:=J (by unfold nj;rw[O];rfl);rw[g];simp;exact aE
   | false=>
    by_cases H:40<y.bl.l.length
    ·have g:=J (by unfold nj;rw[bY H];simp);have z:(40:Int)<(y.bl.l.length:Int):=F;rw[g];simp[q,f1,f5,Q,z];exact aE
    ·have z:¬ (40:Int)<(y.bl.l.length:Int):=F;simp[q,f1,f5,Q,z,W];refine⟨F,rfl,V,V,fun m t u j=>?_⟩;by_cases Z:m=k
     ·rw[Z,C] at j;obtain rfl:=cg j;unfold nj;rw[O,cC H];rfl
     ·exact R m t F j
  ·have v:¬ (k:Int)<=20:=F;have w:20<s.l.length:=F;have X:(20:Int)<(s.l.length:Int):=F;have g:nx s.l=true:=by unfold nx;simp[w]
   rw[g];simp[bS,B,h',v,X];exact aE
 ·have h' : ¬ (k:Int)<(s.l.length:Int):=F;have w:((20:Int)<(s.l.length:Int))<->20<s.l.length:=F;have g:nx s.l=decide (20<s.l.length):=by
   unfold nx;rw[cC (p:=∃ t∈s.l.take 21,nj t=true),AJ];rintro⟨t,j,S⟩;obtain⟨m,u⟩:=cj.1 j;have ae:=(aK.1 u).1;rw[cO] at ae;rw[dU F] at u;rw[R m t F u] at S;cases S
  rw[g];simp[bS,B,h',w];exact aE
end Op.aN
end Go.bh
namespace Go.bh
open Go Go.Proofs Go.Proofs.Tryz
namespace Op.aN
open ca Op
theorem FY {l:ae} {v:U} {j:Nat} {es:aO} {x:List B} (h:aM 32 l v j (es.map ar)) (o:(ar x).length=32) (G:es.length<=1000000) :
  ∃ g m l',eE (l++[.q 32 (ar x)]) 32 32 v (.ad 32 l.length 0 1 1 32)=some (g,l')/\aM 32 l' g m ((es++[x]).map ar)/\l.length+1<=l'.length/\(∀ b,b<l.length->v=.af\/b≠j->l'[b]?=l[b]?)/\(l.length<=m\/(v≠.af/\m=j))/\bt g=false:=by
 have C:=dF;obtain⟨g,m,l',p,t,u,d1,w,f1⟩:=iG (h.more [.q 32 (ar x)]) (by_:=32) (x:=.ad 32 l.length 0 1 1 32) (xs:=[ar x]) (by simp[cG,o,aL]) (by simp[o]) F F (by rw[C];simp;omega);have f2:bt g=false:=by rw[f1];simp
 refine⟨g,m,l',p,by rw[c5];exact t,by simpa using u,fun b z D=>?_,?_,f2⟩
 ·rw[d1 b (by simp;omega) D,aV z]
 ·rcases w with h | h | h
  ·exact .inl (by simp at h;omega)
  ·exact .inr h
  ·rw[h] at f2;cases f2
theorem UH {g:aO} {s:aB} (h:lJ s) :lJ (jH g s):=by
 refine⟨h.op,h.id,fun y j=>?_,?_⟩
 ·have:y∈(xq g s.bl).l:=j;rw[Ey] at this;exact h.bl y (dy.1 this).1
 ·show (xq g s.bl).l.length<=_;rw[Ey];exact dL (ie _ _) h.len
theorem UG {j:aO} {l:List aB} (h:gF l) :gF (l3 j l):=fun s g=>by
 unfold l3 at g;obtain⟨m,_⟩:=dy.1 g;obtain⟨p,o,rfl⟩:=cy.1 m;exact UH (h p o)
theorem JD {x:List B} {l:List aB} (h:gF l) :gF (cM x l):=fun s g=>by
 unfold cM at g;obtain⟨j,_⟩:=dy.1 g;obtain⟨o,m,rfl⟩:=cy.1 j;exact Ez (h o m)
end Op.aN
end Go.bh
namespace Go.bh
open Go Go.Proofs Go.Proofs.Tryz Go.Sort Go.Shelf
namespace Op.aN
open ca Op
def ly (l:aO) :aO:=l.mergeSort fun x y=>!eQ y x
theorem Ig:∀ {xs:aO},(∀ i∈xs,i.length=32)->∃ g:List ql,g.map (·.1)=xs
 | [],_=>⟨[],rfl⟩
 | x::xs,h=>by
  obtain⟨g,m⟩:=Ig (xs:=xs) fun i j=>h i (by simp[j])
  exact⟨⟨x,h x V⟩::g,by simp[m]⟩
theorem XI (g:List ql) :(sorted qB g).map (·.1)=ly (g.map (·.1)):=by unfold sorted ly;rw[List.map_mergeSort];intro a _ b _;rfl
theorem Vy {z:Nat} {l l' : ae} {v:U} {j:Nat} {es vZ:List (ag)} (h:aM z l v j es) (h' : gU z l' v j vZ) :aM z l' v j vZ:=by
 cases h with
 | nil j=>have:=h'.pJ;subst this;exact .nil j
 | ad j n cap m cs es P V W X Q R T=>
  generalize g:U.ad z j 0 n cap m=w at h';cases h' with
  | nil=>cases g
  | ad Y ai Z J aj o O B G H I C S D=>
   injection g with _ K p q t u
   subst p q t u;exact .ad j n cap m o _ B G H I C F (by simpa using D)
theorem Vi {l:ae} {v:U} {j:Nat} {xs:aO} (J:∀ i∈xs,i.length=32) (O:xs.length<=1000000) (m:bt v=xs.isEmpty) (h:aM 32 l v j (xs.map ar)) {K:cA}
  (u:∀ l',l'.length=l.length->(∀ b,v=.af\/b≠j->l'[b]?=l[b]?)->aM 32 l' v j ((ly xs).map ar)->K (.a1 []) l') :cJ 136 [v,.fn 137 [] []] l K:=by
 by_cases o:xs=[]
 ·subst o;have p:v=.af:=gC.1 (by rw[m];rfl);subst p;exact XC .af _ rfl l (u l rfl (fun _ _=>rfl) (by simpa [ly] using aM.nil j))
 ·obtain⟨t,g⟩:=Ig J;have D:t.map tT=xs.map ar:=by rw[<-g,iU];rfl
  have H:(sorted qB t).map tT=(ly xs).map ar:=by rw[<-g,<-XI,iU];rfl
  have P:t.length=xs.length:=by rw[<-g];simp
  have p:v≠.af:=fun I=>by subst I;rw[show bt .af=true from rfl] at m;exact o (by simpa using m.symm)
  rw[<-D] at h;exact XG qB (XE (by intro args w;exact enters_of func137 bg rfl args w)) Mg OG Hj QE (fun x y=>JS x.1 y.1 x.2 y.2) h.q F (fun G=>bP (by rw[<-g,G];rfl) o)
   (fun l' h1 z B=>u l' h1 (fun b C=>z b (C.resolve_left p)) (by rw[<-H];exact Vy h B))
theorem LL (l:aO) (y:List B) :y∈ly l<->y∈l:=by unfold ly;exact List.mem_mergeSort
theorem LK (l:aO) :(ly l).length=l.length:=by unfold ly;exact List.length_mergeSort l
theorem I3 (l:aO) :∀ m,m<=l.length->∀ y,y∈jS l m<->y∈l.take m
 | 0,_,y=>by simp[jS]
 | m+1,v,y=>by
  have t:=I3 l m F;have q:m<l.length:=F;obtain⟨o,j,_⟩:=aP q;rw[tQ,fm,t y,eU,j,fm,dG j];simp only[Option.toList_some,fB];by_cases h:m=0\/o≠bo l (m - 1)
  ·rw[aj h];simp
  ·rw[ak h];have u:m≠0:=fun e=>h (.inl e)
   have h1:o=bo l (m - 1):=Decidable.byContradiction fun e=>h (.inr e)
   obtain⟨w,g,_⟩:=aP (l:=l) (k:=m - 1) F;rw[dG g] at h1;simp only[fX,or_false];exact⟨.inl,fun p=>p.elim id fun e=>by
    rw[e,h1];exact cj.2 ⟨m - 1,by rw[dU F];exact g⟩⟩
theorem Tp (l:aO) (y:List B) :y∈eg l<->y∈l:=by unfold eg;rw[I3 l _ (aI _),fC]
end Op.aN
end Go.bh
namespace Go.bh
open Go Go.Proofs Go.Proofs.Tryz
namespace Op.aN
open ca Op
def allM (l:List aB) :aO:=l.flatMap fun s=>s.bl.l
def mQ (l:List aB) :bV:=if allM l=[] then none else some (eg (ly (allM l)))
def zf (c:Int) (l:List aB) :U:=if cU c l=0 then .a1 [ai (mQ l),.i6 0] else .a1 [.af,.i6 (cU c l)]
theorem DL {l:ae} {a b j m:U} (h1:Rd l a j) (p:Rd l b m) :Rd l (.a1 [a,b]) (.a1 [j,m]):=by
 refine .a1 _ _ rfl fun o x q g h=>?_
 rcases o with _ | _ | o
 ·simp at g h;subst g h;exact h1
 ·simp at g h;subst g h;exact p
 ·simp at g
theorem OA {l:List aB} {n:Nat} (h:∀ s∈l,s.bl.l.length<=n) :(allM l).length<=l.length*n:=by
 induction l with
 | nil=>simp[allM]
 | cons s l m=>
  have h1:=h s V;have g:=m fun o j=>h o (by simp[j])
  unfold allM at g ⊢;rw[List.flatMap_cons,cr,dE,eV];omega
structure N3 (c:Int) (s:fg) (k:Nat) (v:U) (l:ae) :Prop where
 qX:l[0]?=some (.q 2 (bS c s))
 ex:∃ j,aM 32 l v j ((allM (s.l.take k)).map ar)/\(v=.af\/1<=j)/\bt v=(allM (s.l.take k)).isEmpty
 len:1<=l.length
structure N4 (c:Int) (s:fg) (k:Nat) (sgZ:aR) (l:ae) :Prop where
 Rv:sgZ 14=cQ s
 Rw:sgZ 15=.i6 s.l.length
 aaL:sgZ 16=.i6 k
 h:∃ v,sgZ 5=v/\N3 c s k v l
theorem Ze (c:Int) (s:fg) (v:gF s.l) (az:s.l.length<=1000000) (u:(allM s.l).length<=1000000) :aY 87 [.ah (bS c s)] (zf c s.l):=by
 apply bc func87 [];unfold zf;have aB:bx (.ad 45) (cQ s)=_:=cd _;have ax:=hx s;have I:=u3 c s v az;have J:aq [U.ah (bS c s)]=true:=by simp[bS,aq,U.aw,ax]
 have aH:=dF;by_cases o:cU c s.l=0
 ·simp[bS];refine av I J ?_;simp[o,aB];refine bz s.l.length (N4 c s) ?_ ⟨V,V,V,.af,V,⟨rfl,⟨0,.nil 0,.inl rfl,rfl⟩,V⟩⟩;rintro k aR l hk ⟨C,D,G,aT,H,hH⟩;obtain⟨aR,rfl⟩:=fc C D G H;clear C D G H;simp;refine gp (fun h=>?_) (fun h=>?_)
  ·simp only[bC] at h;obtain⟨y,Q,aN⟩:=aP (l:=s.l) (k:=k) F;have R:=v y aN;have p:=hE R;have ag:=cq (k:=k) F;have O:bO (.ad 45) (cQ s) _=_:=dg Q;obtain⟨T,⟨S,m,d1,j⟩,aC⟩:=hH;have w:allM (s.l.take (k+1))=allM (s.l.take k)++y.bl.l:=by unfold allM;rw[eU,Q,xO];simp
   have aA:(allM (s.l.take (k+1))).length<=1000000:=by
    refine dL ?_ u;have:allM s.l=allM (s.l.take (k+1))++allM (s.l.drop (k+1)):=by unfold allM;rw[<-xO,iV]
    rw[this,cr];omega
   rw[w,cr] at aA;obtain⟨X,ap⟩:=ao (aZ y);rw[<-ap] at p O;have f1:=p.len;have f5:=p.bl;have aJ:=je f1;obtain⟨W,aQ,z,Y,B,Z,ae,ee,ak⟩:=iG (m.more [.q 45 X]) (by_:=32) (x:=ai y.bl) (xs:=y.bl.l.map ar) (by simp[ai]) (fun e t=>by obtain⟨aU,aO,rfl⟩:=cy.1 t;exact bu (R.bl aU aO)) F F (by rw[aH];simp;omega);rw[<-c5,<-w] at B;have aX:∀ fo:am,(l++[fo])[l.length]?=some fo:=fun fo=>qd
   simp[O,f1,aJ,f5,Y,aL];refine b2.bq ?_;simp[ag];have aD:bt W=(allM (s.l.take (k+1))).isEmpty:=by
    rw[ak,j,w];cases allM (s.l.take k)<;>cases y.bl.l<;>rfl
   refine⟨F,V,V,V,W,V,⟨?_,⟨aQ,B,?_,aD⟩,?_⟩⟩
   ·rw[ae 0 V (d1.imp id fun h=>F),aV F];exact T
   ·rcases ee with g | ⟨g,al⟩ | g
    ·right;simp at g;omega
    ·right;rw[al];exact d1.resolve_left g
    ·exact .inl g
   ·simp at Z;omega
  ·simp[h];have ay:k=s.l.length:=by simp at h;omega
   obtain⟨T,⟨S,m,d1,j⟩,aC⟩:=hH;rw[ay,fC] at m j;have P:∀ i∈allM s.l,i.length=32:=fun i K=>by
    unfold allM at K;obtain⟨aS,aK,hit⟩:=Fm.1 K;exact (v aS aK).bl i hit
   refine Vi P u j m fun z a2 a3 aW=>?_
   simp;have aG:b9 32 ar (z.take 1) z aT (ly (allM s.l)) (allM s.l).isEmpty:=⟨S,aW,by simp;omega,fun b au=>by
    rw[cO] at au;rw[dU F],d1.imp id fun h=>by rw[cO];omega,j⟩
   refine GZ aG (fun x aM=>P x ((LL _ _).1 aM)) (by rw[LK];exact u) fun r a0 aF=>?_
   simp;rw[aj o];refine DL (aF.rd c4 (mQ s.l) ?_ ?_) (.same _ rfl)
   ·unfold mQ;cases allM s.l<;>rfl
   ·unfold mQ;split
    ·rename_i t;rw[t];simp[ly,eg,jS]
    ·rfl
 ·simp[bS];refine av I J ?_;simp[o];exact aE
end Op.aN
namespace Op.aN
open ca Op
def gR (a b:aG) :Bool:=decide (a.en=b.en)&&(decide (a.ay.l=b.ay.l)&&(decide (a.eZ=b.eZ)&&(dn (e8 a.act) (e8 b.act)&&(decide (a.e=b.e)&&decide (a.s=b.s)))))
theorem CI:mO prog 20 53=some [.i .u32,.i .u32]:=bg
theorem zX (a b c d:D) :eb prog .eql 53 (.ah [a7 a,a7 b]) (.ah [a7 c,a7 d])=some (.bool (decide (a=c)&&decide (b=d))):=by rw[tD CI bg bg rfl rfl];simp[dn,U.beq]
theorem DH (a b:aG) (o:dz a) (p:dz b) :aY 71 [.ah (au a),.ah (au b)] (.bool (gR a b)):=by
 apply bc func71 [];unfold gR;have q:=bU a.ay;have t:=bU b.ay;have u:=sG a.ay b.ay o.idsZ p.idsZ o.len;have g:=x7 a.act b.act;have v:=zX a.e a.s b.e b.s;have w:(ai a.ay).cells=some [ai a.ay]:=by cases a.ay<;>rfl
 have z:(ai b.ay).cells=some [ai b.ay]:=by cases b.ay<;>rfl
 unfold e8 at g ⊢;simp[au];by_cases h1:a.en=b.en
 ·simp[h1];refine av u (by simp[aq,q,t]) ?_;by_cases h:a.ay.l=b.ay.l
  ·by_cases j:a.eZ=b.eZ
   ·cases m:dn [a8 a.act.kind,.str a.act.key,a8 a.act.val.kind,.i6 a.act.val.num,c1 a.act.val.bits,.str a.act.val.text] [a8 b.act.kind,.str b.act.key,a8 b.act.val.kind,.i6 b.act.val.num,c1 b.act.val.bits,.str b.act.val.text] with
    | false=>
     rw[m] at g;simp[h1,h,j,g];exact aE
    | true=>
     rw[m] at g;simp[h1,h,j,g,v];exact aE
   ·simp[h1,h,j];exact aE
  ·simp[h1,h];exact aE
 ·simp[h1];exact aE
theorem Lp (a:aG) :gR a a=true:=by unfold gR;simp[e8,dn,U.beq]
def sH (a b:aB) :Bool:=decide (a.aF=b.aF)&&(decide (a.id=b.id)&&(gR a.op b.op&&decide (a.bl.l=b.bl.l)))
def lv (a b:List aB) :Bool:=decide (a.length=b.length)&&decide (∀ k,k<a.length->sH (ft a k) (ft b k)=true)
structure Oi (a b:fg) (k:Nat) (sgZ:aR) (l:ae) :Prop where
 lf:sgZ 0=cQ a
 fp:sgZ 1=cQ b
 kA:sgZ 5=.i6 k
 jX:∀ j,j<k->sH (ft a.l j) (ft b.l j)=true
theorem VV (a b:fg) (aD:gF a.l) (aH:gF b.l) (a5:a.l.length<=1000000) :aY 82 [cQ a,cQ b] (.bool (lv a.l b.l)):=by
 apply bc func82 [];have J:bx (.ad 45) (cQ a)=_:=cd _;have aj:bx (.ad 45) (cQ b)=_:=cd _;have a2:=hx a;have a3:=hx b;by_cases D:a.l.length=b.l.length
 ·simp[J,aj,D];refine bz b.l.length (Oi a b) ?_ ⟨V,V,V,fun B h=>F⟩;rintro k aS l hk ⟨W,X,Y,ak⟩;obtain⟨aS,rfl⟩:=gK W X Y;clear W X Y;simp[J,D];refine gp (fun h=>?_) (fun h=>?_)
  ·simp only[bC] at h;obtain⟨x,P,aQ⟩:=aP (l:=a.l) (k:=k) F;obtain⟨y,Q,aR⟩:=aP (l:=b.l) (k:=k) F;have o:=aD x aQ;have z:=aH y aR;have j:=hE o;have m:=hE z;have az:=cq (k:=k) F;have v:bO (.ad 45) (cQ a) _=_:=dg P;have w:bO (.ad 45) (cQ b) _=_:=dg Q;have O:=DH x.op y.op o.op z.op;have aO:=sG x.bl y.bl o.bl z.bl o.len;have K:=pw o.id z.id;have a6:=bu o.id;have a7:=bu z.id;have ag:=dV x.op;have ai:=dV y.op;have aK:=bU x.bl;have aL:=bU y.bl;have G:sH x y=false->lv a.l b.l=false:=fun aJ=>by
    unfold lv;rw[cC (p:=∀ k,k<a.l.length->sH (ft a.l k) (ft b.l k)=true),u9];intro aG;have:=aG k F;rw[fb P,fb Q,aJ] at this;cases this
   have u:sH x y=(decide (x.aF=y.aF)&&(decide (x.id=y.id)&&(gR x.op y.op&&decide (x.bl.l=y.bl.l)))):=rfl;obtain⟨aV,aB⟩:=ao (aZ x);obtain⟨aW,aC⟩:=ao (aZ y);obtain⟨ax,Z⟩:=ao (au x.op);obtain⟨ay,ae⟩:=ao (au y.op);rw[<-aB] at j v;rw[<-aC] at m w;have H:=j.len;have R:=j.aF;have al:=j.op;have am:=j.id;have aT:=j.bl;have I:=m.len;have S:=m.aF;have ap:=m.op;have ar:=m.id;have aU:=m.bl;rw[<-Z] at al O ag;rw[<-ae] at ap O ai;have aX:ax.length=11:=by rw[Z];rfl
   have a0:ay.length=11:=by rw[ae];rfl
   by_cases q:x.aF=y.aF
   ·by_cases t:x.id=y.id
    ·rw[t,bY rfl] at K;simp[v,w,H,R,al,am,I,S,ap,ar,K,q,t];refine av O (by simp[aq,U.aw,ag,ai]) ?_;cases T:gR x.op y.op with
     | false=>
      have g:=G (by rw[u,T];simp);rw[g];simp;exact aE
     | true=>
      simp[v,w,H,aT,I,aU];refine av aO (by simp[aq,aK,aL]) ?_;by_cases C:x.bl.l=y.bl.l
      ·simp[C,az];exact⟨F,V,V,V,fun B aM=>by
        by_cases aN:B=k
        ·rw[aN,fb P,fb Q,u,T];simp[q,t,C]
        ·exact ak B F⟩
      ·have g:=G (by rw[u];simp[C]);rw[g];simp[C];exact aE
    ·have g:=G (by rw[u];simp[t]);rw[g];simp[v,w,H,R,am,I,S,ar,K,q,t];exact aE
   ·have g:=G (by rw[u];simp[q]);rw[g];simp[v,w,H,R,I,S,q];exact aE
  ·simp[h];have a4:k=b.l.length:=by simp at h;omega
   have g:lv a.l b.l=true:=by
    unfold lv;rw[bY D,mj];exact bY fun B aM=>ak B F
   rw[g];exact aE
 ·have aA:¬ (a.l.length:Int)=(b.l.length:Int):=F;have g:lv a.l b.l=false:=by unfold lv;rw[cC D];rfl
  rw[g];simp[J,aj,aA];exact aE
theorem Ky (c c' : Int) (a b:fg) (g:gF a.l) (j:gF b.l) (p:a.l.length<=1000000) :aY 38 [.ah (bS c a),.ah (bS c' b)] (.bool (decide (c=c')&&lv a.l b.l)):=by
 apply bc func38 [];have m:=hx a;have o:=hx b;have q:=VV a b g j p;by_cases h:c=c'
 ·simp[bS,h];refine av q (by simp[aq,m,o]) ?_;cases lv a.l b.l<;>simp[h]<;>exact aE
 ·simp[bS,h];exact aE
end Op.aN
namespace Op.aN
open ca Op
theorem TD {s:aB} (h:hC s) :s.bl.l≠[]:=by have:=h.2.2.2.2;unfold e3 at this;rw[bH,bC] at this;intro e;rw[e] at this;simp at this
theorem TC {s:aB} (h:hC s) :s.bl.l.length<=4:=by
 obtain⟨h1,_,_,_,g⟩:=h;unfold e3 at g;rw[bH,bH] at g;have p:=wI (DY g.2.1) (m:=s.op.ay.l) fun x o=>iZ (gg.1 g.2.2 x o)
 have q:¬ 4<s.op.ay.l.length:=fun j=>by
  unfold c3 at h1;rw[aj j] at h1;cases h1
 omega
theorem I4 (l:List aB) :(mQ l).l=eg (ly (allM l)):=by
 unfold mQ;split
 ·rename_i h;rw[h];simp[ly,eg,jS]
 ·rfl
theorem I5 (l:List aB) (y:List B) :y∈(mQ l).l<->∃ s∈l,y∈s.bl.l:=by rw[I4,Tp,LL];unfold allM;exact Fm
theorem Ty (l:List aB) :(mQ l).l.length<=(allM l).length:=by rw[I4];unfold eg;refine dL (BR _ _) ?_;rw[LK];exact aI _
theorem X2 {x:List B} {s:aB} (h:x∉s.bl.l) :er x s=s:=by
 unfold er;have:lz x s.bl=s.bl:=by
  cases g:s.bl with
  | none=>rfl
  | some a=>
   rw[g] at h;exact ch some (ry.2 fun y j=>by
    unfold j2;rw[cC (fun e=>h (by rw[<-e];exact j))];rfl)
 rw[this]
theorem PS {x:List B} {l:List aB} (q:∀ s∈l,hC s) (h:∀ s∈l,x∉s.bl.l) :cK x l=l/\cM x l=[]:=by
 have o:l.map (er x)=l:=(mm (f:=er x) (g:=id) fun s j=>X2 (h s j)).trans (List.map_id l);have m:∀ s∈l,gone s=false:=fun s j=>by
  have:=TD (q s j);unfold gone;cases p:s.bl.l with
  | nil=>exact bP p this
  | cons a r=>rfl
 unfold cK cM;rw[o];exact⟨ry.2 fun s j=>by rw[m s j];rfl,List.filter_eq_nil_iff.2 fun s j=>by rw[m s j];simp⟩
end Op.aN
namespace Op.aN
open ca Op
theorem WN {s:aB} (h:s.id.length=32) (w:U) :iy s w=(aZ s).set 44 w:=by
 have g:=bu h;have j:(aZ s).length=45:=by unfold aZ au;simp[g]
 rw[<-Ac h w,nJ w F]
theorem Wi {s:aB} (h:s.id.length=32) {l:ae} {w:U} (q:Rd l w (ai s.bl)) :Rd l (.ah (iy s w)) (.ah (aZ s)):=by
 rw[WN h w];refine .ah _ _ V fun o x t g j=>?_
 by_cases m:o=44
 ·subst m;rw[zT h] at j;have p:=(aK.1 (zT h)).1;rw[b1 p] at g;cases g;cases j;exact q
 ·rw[br (fun e=>m e.symm),j] at g;cases g;exact .same _ (rS (pk s) o _ j)
theorem Mv (s:aB) (g:lJ s) :aY 101 [.ah (aZ s)] (.ah (aZ s)):=by
 refine w4 checked.mixed ev ?_;refine EM s g fun w j h=>?_
 exact Wi g.id (h.rd c4 s.bl rfl rfl)
structure Nz (c:Int) (s:fg) (L:ae) (k:Nat) (sgZ:aR) (l:ae) :Prop where
 fp:sgZ 1=.ptr L.length 0 2
 iI:sgZ 2=.ptr (L.length+1) 0 2
 jq:sgZ 3=.ptr (L.length+2) 0 2
 HS:sgZ 10=cQ s
 Ch:sgZ 11=.i6 s.l.length
 Ru:sgZ 12=.i6 k
 Cf:∀ b,b<L.length->l[b]?=L[b]?
 len:L.length+3<=l.length
 nE:l[L.length+1]?=some (.q 2 [.i6 0,.af])
 ex:∃ v j,l[L.length+2]?=some (.q 2 [.i6 c,v])/\aM 45 l v j ((s.l.take k).map aZ)/\(v=.af\/L.length+3<=j)/\bt v=(s.l.take k).isEmpty
theorem P3 (c:Int) (s:fg) (aA:gF s.l) (aK:s.l.length<=1000000) {L:ae} {K:cA}
  (ap:∀ v l' j,aM 45 l' v j (s.l.map aZ)->(v=.af\/L.length<=j)->L.length<=l'.length->(∀ b,b<L.length->l'[b]?=L[b]?)->bt v=s.l.isEmpty->K (.ah [.i6 c,v]) l') :
  cJ 100 [.ah (bS c s)] L K:=by
 apply cW func100 [[[0],[1],[2],[3,1]]];have az:bx (.ad 45) (cQ s)=_:=cd _;have aJ:=hx s;simp[bS,az,ax];refine bz s.l.length (Nz c s L) ?_ ⟨V,V,V,V,V,V,fun b g=>by simp[List.getElem?_append,g],V,V,.af,0,V,.nil 0,.inl rfl,rfl⟩;rintro k aG l hk ⟨B,H,I,C,D,G,z,aN,ag,v,j,t,m,d1,Z⟩;obtain⟨aG,rfl⟩:=rj B H I C D G;clear B H I C D G;simp;refine gp (fun h=>?_) (fun h=>?_)
 ·simp only[bC] at h;obtain⟨y,X,aD⟩:=aP (l:=s.l) (k:=k) F;have Q:=aA y aD;have p:=hE Q;have ak:=cq (k:=k) F;have O:bO (.ad 45) (cQ s) _=_:=dg X;have W:=Mv y Q;have J:=pk y;have T:s.l.take (k+1)=s.l.take k++[y]:=by rw[eU,X];rfl
  have ay:(s.l.take k).length<=1000000:=by rw[cO];omega
  have aO:∀ fo:am,(l++[fo])[l.length]?=some fo:=fun fo=>qd
  have R:∀ fo:am,(l++[fo])[L.length+2]?=some (.q 2 [.i6 c,v]):=fun fo=>by rw[aV F];exact t
  obtain⟨ai,dp,Y,o,w,aj,eg,ee,al⟩:=tA (m.more [.q 45 (aZ y)]) p.len ay;obtain⟨aH,ar⟩:=ao (aZ y);rw[<-ar] at p O W J o;have f1:=p.len;have S:=je f1;have aC:=m.cells;have aB:=w.cells;simp at aj ee;simp[O,f1,S,aL,R];refine av W (by simp[aq,U.aw,J]) ?_;simp at o eg;simp[f1,S,o,R];refine b2.bq ?_;have u:∀ b,b<L.length+3->Y[b]?=l[b]?:=fun b g=>by
   rw[eg b F (d1.imp id fun h=>F),aV F]
  have aE:Y[L.length+2]?=some (.q 2 [.i6 c,v]):=by rw[u _ F];exact t
  have P:ai=.af\/L.length+3<=dp:=by
   rcases ee with h | ⟨h,h'⟩
   ·right;omega
   ·right;rw[h'];exact d1.resolve_left h
  simp[aE,aB,ax,ak];refine⟨F,V,V,V,V,V,V,fun b g=>?_,by simp;omega,?_,ai,dp,b1 F,?_,P,?_⟩
  ·rw[br F,u b F];exact z b g
  ·rw[br F,u _ F];exact ag
  ·rw[T];exact w.c6 (P.imp id fun h=>by rw[br F])
  ·rw[al,T];simp
 ·simp[h];have au:k=s.l.length:=by simp at h;omega
  rw[au,fC] at m Z;have aF:∀ c:am,(l.set (L.length+1) c)[L.length+1]?=some c:=fun c=>b1 F
  have aC:=m.cells;simp[t,ag,aF];refine ap v _ j (m.c6 (d1.imp id fun h=>by rw[br F])) (d1.imp id fun h=>F) (by simp;omega) (fun b g=>?_) Z;rw[br F];exact z b g
def gH (c:Int) (l:List aB) (t:Int) (o:aG) (m:aO) :Int:=
 if cU c l≠0 then cU c l else if c3 o≠0 then 8 else if t<0\/1000000000<t\/e3 o m=false then 2 else if bE o∈l.map aB.id then 14 else if t<=eL l l.length then 32 else if (l.length:Int)=c then 18 else 0
def zI (c:Int) (l:List aB) (t:Int) (o:aG) (m:bV) :U:=
 .a1 [if gH c l t o m.l=0 then .ah (bS c (some (l++[⟨t,o,bE o,m⟩]))) else .ah [.i6 0,.af],.i6 (gH c l t o m.l)]
theorem Zh (c:Int) (s:fg) (T:gF s.l) (b5:s.l.length<=900000) (t:Int) (o:aG) (aQ:dz o) (m:bV) (a7:cT m) (a9:m.l.length<=1000000) :
  aY 53 [.ah (bS c s),.i6 t,.ah (au o),ai m] (zI c s.l t o m):=by
 apply bc func53 [db 0 7++[[7,1]]];unfold zI;have Z:bx (.ad 45) (cQ s)=_:=cd _;have a4:=hx s;have aM:=dV o;have bp:=bU m;have a2:=u3 c s T F;have ap:=u2 o aQ;have a8:=MU o aQ m a7 a9;have aO:=Cs o;have v:=bu aO;have bd:=Di s T F (bE o) aO;have a5:=ny (bE o) (s.l.map aB.id) 0;have a0:=c4 (bE o);have aN:aq [U.ah (bS c s)]=true:=by simp[bS,aq,U.aw,a4]
 have b3:∀ h:True,aq [U.ah (bS c s)]=true:=fun _=>aN
 obtain⟨u,aJ⟩:=ao (au o);have w:u.length=11:=by rw[aJ];rfl
 have aT:aZ ⟨t,o,bE o,m⟩=.i6 t::(u++(ar (bE o)++[ai m])):=by rw[aJ];rfl
 have bb:lJ ⟨t,o,bE o,m⟩:=⟨aQ,aO,a7,a9⟩
 have bf:=Mv _ bb;have ag:=(hE bb).len;have a3:=pk ⟨t,o,bE o,m⟩;rw[<-aJ] at ap a8 aM ⊢;have bv:eF (bE o)=.ah (ar (bE o)):=rfl;rw[bv] at ap;obtain⟨D,bl⟩:=ao (ar (bE o));rw[<-bl] at ap v bd a0 aT;obtain⟨bZ,aX⟩:=ao (aZ ⟨t,o,bE o,m⟩);have bB:=ag;rw[<-aX] at aT bf ag a3;have al:ax (bT 32 (.int .u8 0)) 0 D=D:=cI (by rw[v];rfl);have bz:(ai m).cells=some [ai m]:=by cases m<;>rfl
 have bP:ax (U.int .u32 0::U.af::U.int .u64 0::U.int .u8 0::U.str [] ::U.int .u8 0::U.i6 0::U.int .u64 0::U.str [] ::U.int .u32 0::U.int .u32 0::(bT 32 (.int .u8 0)++[U.af])) 0 u=u++(bT 32 (.int .u8 0)++[U.af]):=by
  unfold ax;simp[w]
 have bH:(u++(bT 32 (.int .u8 0)++[U.af])).length=44:=by simp[w,bT]
 have bM:ax (u++(bT 32 (.int .u8 0)++[U.af])) 11 D=u++(D++[U.af]):=by
  unfold ax;simp[w,v,AO,bT]
 have bG:(u++(D++[U.af])).length=44:=by simp[w,v]
 have bN:ax (u++(D++[U.af])) 43 [ai m]=u++(D++[ai m]):=by
  unfold ax;simp[w,v,qe,AO,aL]
 by_cases z:cU c s.l=0
 ·simp[bS,w];refine av a2 aN ?_;simp[z,w,aL];refine av ap (by simp[aq,U.aw,aM]) ?_;by_cases h1:c3 o=0
  ·by_cases B:t<0
   ·have g:gH c s.l t o m.l=2:=by unfold gH;simp[z,h1,B]
    rw[g];simp[v,al,Z,h1,B,aL];exact aE
   ·by_cases O:1000000000<t
    ·have g:gH c s.l t o m.l=2:=by unfold gH;simp[z,h1,O]
     rw[g];simp[v,al,Z,h1,B,O,aL];exact aE
    ·simp[v,al,Z,h1,B,O,w,aL];refine av a8 (by simp[aq,U.aw,aM,bp]) ?_;cases aA:e3 o m.l with
     | false=>
      have g:gH c s.l t o m.l=2:=by unfold gH;simp[z,h1,aA]
      rw[g];simp;exact aE
     | true=>
      simp[v,aL];refine av bd (by simp[aq,U.aw,a4,a0]) ?_;by_cases Y:bE o∈s.l.map aB.id
      ·have g:gH c s.l t o m.l=14:=by unfold gH;rw[ak F,ak F,ak (by simp[B,O,aA]),aj Y]
       have R:0<=dT (bE o) (s.l.map aB.id) 0:=a5.2 Y;rw[g];simp[R];exact aE
      ·have R:¬ 0<=dT (bE o) (s.l.map aB.id) 0:=fun h=>Y (a5.1 h)
       have aS:gH c s.l t o m.l=if t<=eL s.l s.l.length then 32 else if (s.l.length:Int)=c then 18 else 0:=by
        unfold gH;rw[ak F,ak F,ak (by simp[B,O,aA]),ak Y]
       have b6:∀ K:Prop,K->K:=fun _ h=>h
       by_cases C:t<=eL s.l s.l.length
       ·have g:gH c s.l t o m.l=32:=by rw[aS,aj C]
        have H:s.l.length≠0:=fun bt=>by rw[bt] at C;simp[eL] at C;omega
        obtain⟨j,G,W⟩:=aP (l:=s.l) (k:=s.l.length - 1) F;have bD:eL s.l s.l.length=j.aF:=by unfold eL;rw[ak H,fb G]
        have az:IntKind.i64.wrap ((s.l.length:Int) - 1)=((s.l.length - 1:Nat) :Int):=by rw[IntKind.wrap_i64];omega
        have S:bO (.ad 45) (cQ s) (.i6 ((s.l.length - 1:Nat) :Int))=some (.b0 (aZ j) 0):=by simp[cQ,G]
        have Q:=hE (T j W);have J:=Q.aF;have I:=Q.len;obtain⟨bi,aK⟩:=ao (aZ j);simp only[<-aK] at I J S;have aC:t<=j.aF:=by rw[<-bD];exact C
        have aR:0<s.l.length:=F;rw[g];simp[R,aR,az,S,I,J,aC];exact aE
       ·have bs:∀ {P:Prop},((s.l.length=0->P)/\(∀ j,s.l[s.l.length - 1]?=some j->j∈s.l->0<s.l.length->¬ t<=j.aF->P))->P:=fun {P} ⟨bm,bo⟩=>by
         by_cases H:s.l.length=0
         ·exact bm H
         ·obtain⟨j,G,W⟩:=aP (l:=s.l) (k:=s.l.length - 1) F;exact bo j G W F (fun h=>C (by unfold eL;rw[ak H,fb G];exact h))
        -- what comes behind
        refine bs ⟨fun H=>?_,fun j G W aR aC=>?_⟩
        rotate_left
        have az:IntKind.i64.wrap ((s.l.length:Int) - 1)=((s.l.length - 1:Nat) :Int):=by rw[IntKind.wrap_i64];omega
        have S:bO (.ad 45) (cQ s) (.i6 ((s.l.length - 1:Nat) :Int))=some (.b0 (aZ j) 0):=by simp[cQ,G]
        have Q:=hE (T j W);have J:=Q.aF;have I:=Q.len;obtain⟨bi,aK⟩:=ao (aZ j);simp only[<-aK] at I J S;simp[R,aR,az,S,I,J,aC]
        rotate_left
        simp[R,H]
        all_goals
         refine gp (fun aD=>?_) (fun aD=>?_)
         ·have aH:(s.l.length:Int)=c:=by simp at aD;omega
          have g:gH c s.l t o m.l=18:=by rw[aS,ak C,aj aH]
          rw[g];simp;exact aE
         ·have aH:¬ (s.l.length:Int)=c:=by simp at aD;omega
          have g:gH c s.l t o m.l=0:=by rw[aS,ak C,ak aH]
          rw[g];simp;refine P3 c s T F fun bh p cb ae a6 bw aU b8=>?_
          have b7:4<=p.length:=by simpa using bw
          have bQ:∀ fo:am,(p++[fo])[1]?=some (.q 11 u):=fun fo=>by rw[aV F,aU 1 V];rfl
          have bR:∀ fo:am,(p++[fo])[2]?=some (.q 2 [.i6 0,.af]):=fun fo=>by rw[aV F,aU 2 V];rfl
          have bW:∀ fo:am,(p++[fo])[3]?=some (.q 32 D):=fun fo=>by rw[aV F,aU 3 V];rfl
          have b9:s.l.length<=1000000:=F;obtain⟨cc,bg,X,ay,aW,bj,eg,ee,bk⟩:=tA (s:=⟨t,o,bE o,m⟩) ((ae.more [.q 2 [.i6 c,bh]])) bB F;rw[<-aX] at ay;have ca:=ae.cells;have bF:=aW.cells;have bA:∀ fo:am,(p++[fo])[p.length]?=some fo:=fun fo=>qd
          simp at ay bj ee eg;simp[bQ,bW,w,v,aL,bP,bM,bN,bH,bG,bz,<-aT];refine av bf (by simp[aq,U.aw,a3]) ?_;have bC:=je ag;simp[ag,bC,ay];refine b2.bq ?_;have bX:X[2]?=some (.q 2 [.i6 0,.af]):=by
           rw[eg 2 F (a6.imp id fun h=>by simp at h;omega)];exact bR _
          have bY:X[p.length]?=some (.q 2 [.i6 c,bh]):=by
           rw[eg _ F (ae.lt.imp id fun h=>F)];exact bA _
          have b4:4<=bg/\bg≠p.length:=by
           rcases ee with h | ⟨h,h'⟩
           ·omega
           ·have h1:=a6.resolve_left h;have B:=ae.lt.resolve_left h;simp at h1;omega
          have bI:∀ fo:am,(X.set p.length fo)[p.length]?=some fo:=fun fo=>b1 F
          have bK:∀ fo:am,(X.set p.length fo)[2]?=some (.q 2 [.i6 0,.af]):=fun fo=>by rw[br F];exact bX
          have bL:∀ fo BB:am,((X.set p.length fo).set 2 BB)[2]?=some BB:=fun fo BB=>b1 (by simp;omega)
          simp[bY,bF,ax,bI,bK,bL];refine DL (KL (.same _ rfl) ((aW.c6 (.inr (by rw[br F,br F]))).q.jA pk (some (s.l++[⟨t,o,bE o,m⟩])) (by rw[bk];rfl) rfl)) (.same _ rfl)
  ·have g:gH c s.l t o m.l=8:=by unfold gH;simp[z,h1]
   rw[g];simp[v,al,Z,h1,aL];exact aE
 ·have g:gH c s.l t o m.l=cU c s.l:=by unfold gH;simp[z]
  rw[g];simp[bS,w];refine av a2 aN ?_;simp[z];exact aE
end Op.aN
namespace Op.aN
open ca Op
def cp (o:aG) :aG:={ o with ay:=some o.ay.l }
def ce (s:aB) :aB:={ s with op:=cp s.op,bl:=some s.bl.l }
theorem Mt {o:aG} (h:dz o) :dz (cp o):=⟨h.idsZ,h.len,h.val,h.key⟩
end Op.aN
namespace Op.aN
open ca Op
def fy (l:aO) :bV:=match l with | []=>none | a::r=>some (a::r)
theorem m0 (l:aO) :(fy l).l=l:=by cases l<;>rfl
theorem Md (l:aO) :(fy l).isNone=l.isEmpty:=by cases l<;>rfl
theorem IC {p:List B->Bool} {l:aO} {k:Nat} {y:List B} (h:l[k]?=some y) :(l.take (k+1)).filter p=(l.take k).filter p++(if p y then [y] else []):=by rw[eU,h,lF];cases g:p y<;>simp[g]
end Op.aN
namespace Op.aN
open ca Op
def xr (x:List B) (s:aB) :aB:={ ce s with bl:=fy (s.bl.l.filter (j2 x)) }
def yI (x:List B) (l:List aB) :List aB:=(l.map (xr x)).filter gone
def zk (x:List B) (l:List aB) :List aB:=(l.map (xr x)).filter fun s=>!gone s
end Op.aN
namespace Op.aN
open ca Op
theorem Yk {c:Int} {l:List aB} (q:cU c l=0) {t:Int} (h:¬ t<=eL l l.length) :∀ s∈l,¬ t<=s.aF:=by
 obtain⟨_,o⟩:=oK q;obtain⟨_,p,_⟩:=(pr l).1 o;intro s z w;obtain⟨m,g⟩:=cj.1 z;have u:=(aK.1 g).1;obtain⟨C,j,D⟩:=aP (l:=l) (k:=l.length - 1) F;have B:eL l l.length=C.aF:=by unfold eL;rw[ak F,fb j]
 rw[B] at h;by_cases v:m=l.length - 1
 ·rw[v,j] at g;obtain rfl:=cg g;exact h w
 ·have:=(kV.1 p) m (l.length - 1) u F F;rw[(aK.1 g).2,(aK.1 j).2] at this;omega
def yM (c:Int) (l:List aB) (x:List B) :U:=if cU c l=0 then .a1 [.bool (decide (x∈l.map aB.id)),.i6 0] else .a1 [.bool false,.i6 (cU c l)]
theorem Za (c:Int) (s:fg) (q:gF s.l) (p:s.l.length<=1000000) (x:List B) (t:x.length=32) :aY 96 [.ah (bS c s),.ah (ar x)] (yM c s.l x):=by
 apply bc func96 [];unfold yM;have o:=hx s;have u:=c4 x;have h:=bu t;have j:=u3 c s q p;have w:=Di s q p x t;have v:=ny x (s.l.map aB.id) 0;have m:aq [U.ah (bS c s)]=true:=by simp[bS,aq,U.aw,o]
 by_cases g:cU c s.l=0
 ·simp[bS,h];refine av j m ?_;simp[g,h,aL];refine av w (by simp[aq,U.aw,o,u]) ?_;rw[aj g];simp;exact aT (by simp[v]) rfl
 ·simp[bS,h];refine av j m ?_;rw[ak g];simp[g];exact aE
def C2 (n:Int) :U:=if n<1\/8<n then .a1 [.ah (bS 0 none),.i6 2] else .a1 [.ah (bS n none),.i6 0]
theorem Zg (n:Int) :aY 48 [.i6 n] (C2 n):=by
 apply bc func48 [];unfold C2;by_cases h1:n<1
 ·simp[h1];exact aE
 ·by_cases g:8<n
  ·simp[h1,g];exact aE
  ·rw[ak F];simp[h1,g,ax];exact aE
end Op.aN
end Go.bh
namespace Go.bh
open Go Go.Proofs Go.Proofs.Tryz Go.Sort
namespace Op.aN
open ca Op
theorem CP (a:List B) :eQ a a=false:=by
 cases h:eQ a a with
 | false=>rfl
 | true=>rw[h5,k8] at h;omega
theorem um (a b c:List B) (h1:eQ a b=true) (g:eQ b c=true) :eQ a c=true:=(h5 _ _).2 (oi a b c ((h5 _ _).1 h1) ((h5 _ _).1 g))
theorem IQ (a b:List B) (g:a≠b) (h:eQ a b=false) :eQ b a=true:=by
 rw[h5,oh];rcases vO a b with h1 | h1 | h1
 ·rw[(h5 a b).2 F] at h;cases h
 ·exact bP (og h1) g
 ·omega
end Op.aN
end Go.bh
namespace Go.bh
open Go Go.Proofs Go.Proofs.Tryz
namespace Op.aN
open ca Op
theorem LD (f:aB->aB) {l:List aB} {k:Nat} (h:k<l.length) :ft (l.map f) k=f (ft l k):=by obtain⟨y,g,_⟩:=aP h;rw[fb g,fb (by rw[bW,g];rfl)]
theorem Ct (o:aG) :bE (cp o)=bE o:=rfl
theorem H0 {l:List aB} {k:Nat} (h:k<l.length) :hQ (l.map ce) k=hQ l k:=by
 have h1:eL (l.map ce) k=eL l k:=by
  unfold eL;by_cases hk:k=0
  ·rw[aj hk,aj hk]
  ·rw[ak hk,ak hk,LD _ F];rfl
 have g:((l.map ce).take k).map aB.id=(l.take k).map aB.id:=by
  rw[<-jh,iU];rfl
 unfold hQ;rw[h1,g,LD _ h];rfl
theorem JY (c:Int) (l:List aB) :cU c (l.map ce)=cU c l:=by
 unfold cU;rw[cx];have:ot (l.map ce)=ot l:=by
  unfold ot;rw[cx];congr 1;exact propext ⟨fun h k hk=>by rw[<-H0 hk];exact h k hk,fun h k hk=>by rw[H0 hk];exact h k hk⟩
 rw[this]
theorem Lq (o:aG) :gR (cp o) o=true:=by have:=Lp o;unfold gR at this ⊢;exact this
end Op.aN
namespace Op.aN
open ca Op
theorem Vt (c:Int) (l:List aB) (t:Int) (o:aG) (m:bV) :zI c l t o m=.a1 [.ah (bS (if gH c l t o m.l=0 then c else 0) (if gH c l t o m.l=0 then some (l++[⟨t,o,bE o,m⟩]) else none)),.i6 (gH c l t o m.l)]:=by unfold zI;split<;>rfl
theorem PQ (c:Int) (l:List aB) (x:List B) :yl c l x=.a1 [.ah (bS (if cU c l=0 then c else 0) (if cU c l=0 then dZ (cK x l) else none)),cQ (if cU c l=0 then dZ (cM x l) else none),.i6 (cU c l)]:=by
 unfold yl;split
 ·rename_i h;rw[h]
 ·rfl
end Op.aN
namespace Op.aN
open ca Op
theorem Vv {c:Int} {l:List aB} {t:Int} {o:aG} {m:bV} (h:gH c l t o m.l=0) :cU c l=0/\c3 o=0/\e3 o m.l=true/\cU c (l++[⟨t,o,bE o,m⟩])=0:=by
 unfold gH at h;by_cases g:cU c l=0
 case neg=>rw[aj g] at h;exact bP h g
 rw[ak F] at h;by_cases h1:c3 o=0
 case neg=>rw[aj h1] at h;cases h
 rw[ak F] at h;by_cases v:t<0\/1000000000<t\/e3 o m.l=false
 case pos=>rw[aj v] at h;cases h
 rw[ak v] at h;by_cases j:bE o∈l.map aB.id
 case pos=>rw[aj j] at h;cases h
 rw[ak j] at h;by_cases p:t<=eL l l.length
 case pos=>rw[aj p] at h;cases h
 rw[ak p] at h;by_cases B:(l.length:Int)=c
 case pos=>rw[aj B] at h;cases h
 have w:e3 o m.l=true:=by cases K:e3 o m.l<;>simp_all
 refine⟨g,h1,w,?_⟩;obtain⟨J,z⟩:=oK g;obtain⟨q1,H,I⟩:=(pr l).1 z;have D:=Yk g p;have C:ot (l++[⟨t,o,bE o,m⟩])=true:=by
  refine (pr _).2 ⟨fun s G=>?_,?_,?_⟩
  ·rcases fm.1 G with h | h
   ·exact q1 s h
   ·rw[fB.1 h];exact⟨h1,rfl,by show 0<=t;omega,by show t<=_;omega,w⟩
  ·refine rz.2 ⟨H,AX _ _,fun a q b u=>?_⟩;rw[fB.1 u];have:=D a q;show a.aF<t;omega
  ·refine rz.2 ⟨I,AX _ _,fun a q b u=>?_⟩;rw[fB.1 u];exact fun e=>j (cy.2 ⟨a,q,e⟩)
 unfold cU;rw[ak (by simp only[cr,xS];omega),C];rfl
end Op.aN
namespace Op
open ca aN
structure a6 where
 aD:dm
 bN:Int
 pl:fg
 bA:Int
 dj:Bool
def bp (s:a6) :ag:=[.i6 s.aD.cap,e9 s.aD.aS.al,ai s.aD.aS.cb,.i6 s.aD.aS.b6,ai s.aD.aJ,.i6 s.bN,cQ s.pl,.i6 s.bA,.bool s.dj]
structure dH (s:a6) :Prop where
 aD:kZ s.aD
 pl:gF s.pl.l
 len:s.pl.l.length<=900000
theorem jp (s:a6) :aq (bp s)=true:=by simp[bp,aq,U.aw,np,bU,hx]
structure NN (s:a6) (R:ag) :Prop where
 len:R.length=9
 all:R.take 9=R
 aD:R.take 5=cv s.aD
 pen:(R.drop 5).take 2=bS s.bN s.pl
 ord:R[4]?=some (ai s.aD.aJ)
 acV:R[6]?=some (cQ s.pl)
 bA:R[7]?=some (.i6 s.bA)
 dj:R[8]?=some (.bool s.dj)
 cap:R[0]?=some (.i6 s.aD.cap)
 bN:R[5]?=some (.i6 s.bN)
 acP:∀ h:4<R.length,R[4]'h=ai s.aD.aJ
 acW:∀ h:6<R.length,R[6]'h=cQ s.pl
 acN:∀ h:7<R.length,R[7]'h=.i6 s.bA
 aaq:∀ h:8<R.length,R[8]'h=.bool s.dj
 cap' : ∀ h:0<R.length,R[0]'h=.i6 s.aD.cap
 acT:∀ h:5<R.length,R[5]'h=.i6 s.bN
 aw:aq R=true
theorem hR (s:a6) :NN s (bp s):=⟨rfl,rfl,rfl,rfl,rfl,rfl,rfl,rfl,rfl,rfl,fun _=>rfl,fun _=>rfl,fun _=>rfl,fun _=>rfl,fun _=>rfl,fun _=>rfl,jp s⟩
def h7 (g:aO) (y:List B) :Bool:=!decide (y∈g)
def dA (g:aO) (o:aG) :aO:=o.ay.l.filter (h7 g)
theorem y4 {j:aO} {o:aG} (h:dz o) :cT (fy (dA j o)):=fun y g=>by
 rw[m0] at g;exact h.idsZ y (dy.1 g).1
theorem II {h:aO} {o:aG} (g:dz o) :(fy (dA h o)).l.length<=1000000:=by rw[m0];exact dL (ie _ _) g.len
structure NE (S g:ag) (ord:aO) (ps:aO) (P:U) (k:Nat) (sgZ:aR) (l:ae) :Prop where
 iI:sgZ 2=.ptr 0 0 9
 HW:sgZ 9=P
 HS:sgZ 10=.i6 ps.length
 Ch:sgZ 11=.i6 k
 qX:l[0]?=some (.q 9 S)
 ex:∃ v j,sgZ 5=v/\aM 32 l v j (((ps.take k).filter (h7 ord)).map ar)/\(v=.af\/2<=j)/\bt v=((ps.take k).filter (h7 ord)).isEmpty
theorem BP (s:a6) (aA:dH s) (o:aG) (C:dz o) :aY 54 [.ah (bp s),.ah (au o)] (ai (fy (dA s.aD.aJ.l o))):=by
 apply bc func54 [];have K:=hR s;have aW:=bU s.aD.aJ;have bf:=aA.aD.no;have aX:=fun x a4=>p3 s.aD.aJ aA.aD.aJ F x a4
 have az:(au o).length=11:=rfl;have aT:(au o)[1]?=some (ai o.ay):=rfl;have Z:∀ h,(au o)[1]'h=ai o.ay:=fun _=>rfl
 have a3:bx (.ad 32) (ai o.ay)=_:=cd _;have bg:=C.len;obtain⟨S,aU⟩:=ao (bp s);obtain⟨aQ,X⟩:=ao (au o);rw[<-aU] at K ⊢;rw[<-X] at az aT ⊢;simp only[<-X] at Z;obtain⟨m,bi,bD,bA,bt,bB,br,bm,bk,bv,a7,bC,bs,bo,bl,bw,bj⟩:=K;simp[az,Z,a3];refine bz o.ay.l.length (NE S aQ s.aD.aJ.l o.ay.l (ai o.ay)) ?_ ⟨by simp[m],by simp[m],by simp[m],by simp[m],by simp[m],.af,0,V,.nil 0,.inl rfl,rfl⟩;rintro k a8 l hk ⟨R,W,P,Q,I,aN,aH,T,G,d1,D⟩;obtain⟨a8,rfl⟩:=gx R T W P Q;clear R T W P Q;by_cases z:k<o.ay.l.length
 ·obtain⟨y,aC,aF⟩:=aP z;have t:=bu (C.idsZ y aF);have aE:=c4 y;have O:=cq (k:=k) F;have al:bO (.ad 32) (ai o.ay) _=_:=dg aC;have ap:=aX y (C.idsZ y aF);have j:=IC (p:=h7 s.aD.aJ.l) aC;have a0:((o.ay.l.take k).filter (h7 s.aD.aJ.l)).length<=1000000:=by
   refine dL (ie _ _) ?_;rw[cO];omega
  have H:aM 32 (l++[am.q 32 (ar y)]) aN aH (((o.ay.l.take k).filter (h7 s.aD.aJ.l)).map ar):=G.more _;have J:∀ g:ae,(l++g)[0]?=some (.q 9 S):=fun g=>by rw[aV (a2 I)];exact I
  obtain⟨Y,u⟩:=ao (ar y);have ag:Y.take 32=Y:=aL (by rw[u];omega);rw[<-u] at t al ap aE H;have aB:ax (bT 32 (.int .u8 0)) 0 Y=Y:=cI (by rw[t];rfl);have aO:∀ (g:ae) (h:0<(l++g).length),(l++g)[0]'h=.q 9 S:=fun g h=>(aK.1 (J g)).2
  simp[z,al,t,ag,aB,aO,m,a7];refine av ap (by simp[aq,U.aw,aW,aE]) ?_;by_cases v:y∈s.aD.aJ.l
  ·have B:h7 s.aD.aJ.l y=false:=by unfold h7;simp[v]
   rw[B,ak V,eT] at j;simp[v,O];exact⟨F,V,V,V,V,J _,aN,aH,V,by rw[j];exact H,d1,by rw[j];exact D⟩
  ·have B:h7 s.aD.aJ.l y=true:=by unfold h7;simp[v]
   rw[B,aj rfl] at j;obtain⟨a9,a5,bh,w,aR,bb,eg,ee,aS⟩:=FY H (by rw[<-u];exact t) a0;rw[<-u] at w;simp at w;simp[v,t,ag,aB,w];refine b2.bq ?_;simp[O];have bd:=a2 I;refine⟨F,V,V,V,V,?_,a9,a5,V,by rw[j];exact aR,?_,by rw[aS,j];simp⟩
   ·rw[eg 0 V (d1.imp id fun h=>F)];exact J _
   ·rcases ee with h | ⟨h,h'⟩
    ·right;simp at h;omega
    ·right;rw[h'];exact d1.resolve_left h
 ·have aZ:k=o.ay.l.length:=F;simp[z];rw[aZ,fC] at G D;exact G.q.jA c4 (fy _) (by rw[D,Md];rfl) (m0 _)
structure NC (h:ag) (g:bV) (ps:aO) (k:Nat) (sgZ:aR) (l:ae) :Prop where
 lf:sgZ 0=ai g
 jq:sgZ 3=.ptr 0 0 11
 nw:sgZ 6=.i6 k
 qX:l[0]?=some (.q 11 h)
 ex:∃ v j,sgZ 5=v/\aM 32 l v j (((ps.take k).filter (h7 g.l)).map ar)/\(v=.af\/1<=j)/\bt v=((ps.take k).filter (h7 g.l)).isEmpty
theorem Qb (g:bV) (aJ:cT g) (aK:g.l.length<=1000000) (o:aG) (G:dz o) :aY 36 [ai g,.ah (au o)] (ai (fy (dA g.l o))):=by
 apply bc func36 [];have aC:=bU g;have aD:=fun x aN=>DC g aJ aK x aN
 have t:(au o).length=11:=rfl;have aB:(au o)[1]?=some (ai o.ay):=rfl;have v:∀ h,(au o)[1]'h=ai o.ay:=fun _=>rfl
 have Z:bx (.ad 32) (ai o.ay)=_:=cd _;have aW:=G.len;obtain⟨I,S⟩:=ao (au o);rw[<-S] at t aB ⊢;simp only[<-S] at v;simp[t];refine bz o.ay.l.length (NC I g o.ay.l) ?_ ⟨V,V,V,V,.af,0,V,.nil 0,.inl rfl,rfl⟩;rintro k aR l hk ⟨O,P,R,j,aS,aO,Q,z,d1,H⟩;obtain⟨aR,rfl⟩:=fc O P Q R;clear O P Q R;by_cases C:k<o.ay.l.length
 ·obtain⟨y,ag,am⟩:=aP C;have u:=bu (G.idsZ y am);have al:=c4 y;have K:=cq (k:=k) F;have B:bO (.ad 32) (ai o.ay) _=_:=dg ag;have X:=aD y (G.idsZ y am);have m:=IC (p:=h7 g.l) ag;have aF:((o.ay.l.take k).filter (h7 g.l)).length<=1000000:=by
   refine dL (ie _ _) ?_;rw[cO];omega
  have aZ:∀ ap:ae,(l++ap)[0]?=some (.q 11 I):=fun ap=>by rw[aV (a2 j)];exact j
  obtain⟨aT,aQ,aX,J,az,aU,eg,ee,aA⟩:=FY z u aF;obtain⟨Y,T⟩:=ao (ar y);have W:Y.take 32=Y:=aL (by rw[T];omega);rw[<-T] at u B X al J;have aM:ax (bT 32 (.int .u8 0)) 0 Y=Y:=cI (by rw[u];rfl);simp[C,B,u,W,j,t,v,Z];refine av X (by simp[aq,U.aw,aC,al]) ?_;by_cases w:y∈g.l
  ·have D:h7 g.l y=false:=by unfold h7;simp[w]
   rw[D,ak V,eT] at m;simp[w,K];exact⟨F,V,V,V,j,aS,aO,V,by rw[m];exact z,d1,by rw[m];exact H⟩
  ·have D:h7 g.l y=true:=by unfold h7;simp[w]
   rw[D,aj rfl] at m;simp[w,B,u,W,aM,j,t,v,J];refine b2.bq ?_;simp[K];have aH:=a2 j;refine⟨F,V,V,V,?_,aT,aQ,V,by rw[m];exact az,?_,by rw[aA,m];simp⟩
   ·rw[eg 0 aH (d1.imp id fun h=>F)];exact j
   ·rcases ee with h | ⟨h,h'⟩
    ·right;omega
    ·right;rw[h'];exact d1.resolve_left h
 ·have aE:k=o.ay.l.length:=F;simp[C,j,t,v,Z];rw[aE,fC] at z H;exact z.q.jA c4 (fy _) (by rw[H,Md];rfl) (m0 _)
end Op
end Go.bh

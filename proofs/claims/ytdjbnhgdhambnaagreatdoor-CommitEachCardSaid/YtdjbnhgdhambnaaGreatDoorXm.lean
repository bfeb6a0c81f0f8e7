/-
  Findings: data; which are valid, walked in both texts.
-/
import Derived.Test.YtdjbnhgdhambnaaGreatDoorXl
set_option maxHeartbeats 16000000
set_option maxRecDepth 100000
set_option linter.unusedVariables false
set_option linter.unusedSimpArgs false
set_option linter.unnecessarySimpa false
namespace Go.bf
open Go Go.Proofs Go.Proofs.Tryz
namespace Op
open b8
structure cx where
 aA:Int
 ct:B
 op:aM
 id:List B
def dy (j:cx) :ag:=.i6 j.aA::a7 j.ct::(au j.op++ao j.id)
structure hr (j:cx) :Prop where
 op:dv j.op
 id:j.id.length=32
theorem o0 (j:cx) :ar (dy j)=true:=by
 have h1:=dN j.op;have g:=cP j.id;have app:∀ a b:ag,ar (a++b)=(ar a&&ar b):=fun a b=>by
  induction a with
  | nil=>simp[ar]
  | cons x a h=>rw[jo];simp only[ar,h,Er]
 unfold dy;simp only[ar,app,h1,g];rfl
structure MS (j:cx) (R:ag) :Prop where
 len:R.length=45
 aA:∀ h:0<R.length,R[0]'h=.i6 j.aA
 ct:∀ h:1<R.length,R[1]'h=a7 j.ct
 op:(R.drop 2).take 11=au j.op
 id:(R.drop 13).take 32=ao j.id
 acb:R[0]?=some (.i6 j.aA)
 acn:R[1]?=some (a7 j.ct)
 t45:R.take 45=R
 ax:ar R=true
theorem lD {j:cx} (h:hr j) :MS j (dy j):=by
 have g:=br h.id;have m:(dy j).length=45:=by unfold dy au;simp[g]
 refine⟨m,fun _=>rfl,fun _=>rfl,?_,?_,rfl,rfl,aI F,o0 j⟩
 ·unfold dy au;simp
 ·unfold dy au;simp[aI,g]
def ny:aM:=⟨0,none,0,⟨0,[],l3⟩,0,0⟩
def xd:List B:=List.replicate 32 0
theorem PG:ao xd=bO 32 (.int .u8 0):=rfl
def tU (j:cx) :Bool:=iT j.op ny&&decide (j.id=xd)
def sr (n:Int) :Bool:=decide (0<=n)&&decide (n<=1000000000)
def ff (j:cx) :Bool:=sr j.aA&&(if j.ct=0 then decide (c4 j.op=0)&&(decide (bJ j.op=j.id)&&decide (fk j.op=0)) else (decide (j.ct=2)||(decide (j.ct=3)||decide (j.ct=4)))&&tU j)
theorem T9 (n:Int) :aV 148 [.i6 n] (.bool (sr n)):=by
 apply a8 func148 [];unfold sr;by_cases h1:0<=n
 ·by_cases g:n<=1000000000
  ·simp[h1,g];exact aR V rfl
  ·simp[h1,g];exact aR V rfl
 ·simp[h1];exact aR V rfl
theorem Ji (j:cx) (t:hr j) :aV 203 [.ah (dy j)] (.bool (tU j)):=by
 apply a8 func203 [];have w:=lD t;have v:=pa t.id (b:=xd) (by rfl);rw[PG] at v;have p:bt (.ad 32) (ai j.op.ay)=_:=ca _;have V:(au j.op).length=11:=rfl;have H:=br t.id;obtain⟨I,B⟩:=aq (ao j.id);obtain⟨L,J⟩:=aq (dy j);rw[<-J] at w ⊢;rw[<-B] at v H;obtain⟨F,rt,ak,S,C,aj,al,ae,ag⟩:=w;rw[<-B] at C;have Y:aw [U.int .u32 0,.af,.int .u64 0,.int .u8 0,.str [],.int .u8 0,.i6 0,.int .u64 0,.str [],.int .u32 0,.int .u32 0] 0 (au j.op)=au j.op:=cH rfl;have o:=xJ j.op.act ny.act;have P:=zu j.op.e j.op.s 0 0;have O:tU j=(decide (j.op.dW=0)&&(decide (j.op.ay.l=[])&&(decide (j.op.eP=0)&&(dn (fF j.op.act) (fF ny.act)&&(decide (j.op.e=0)&&decide (j.op.s=0))))) &&decide (j.id=xd)):=rfl;rw[O];unfold fF at o ⊢;have Z:∀ a:D,((u a:Int)=0)<->a=0:=fun a=>jO a 0
 have X:((j.op.ay.l.length:Int)=0)<->j.op.ay.l=[]:=by rw[<-il];omega
 have W:fF ny.act=[a7 0,.str [],a7 0,.i6 0,cX 0,.str []]:=rfl;have K:(List.drop 13 L).take 32=I:=C;simp[F,S,au,aw];by_cases h1:j.op.dW=0
 ·by_cases g:j.op.ay.l=[]
  ·by_cases m:j.op.eP=0
   ·cases z:dn [a7 j.op.act.kind,.str j.op.act.key,a7 j.op.act.val.kind,.i6 j.op.act.val.num,cX j.op.act.val.bits,.str j.op.act.val.text] [a7 ny.act.kind,.str ny.act.key,a7 ny.act.val.kind,.i6 ny.act.val.num,cX ny.act.val.bits,.str ny.act.val.text] with
    | false=>
     rw[z] at o;have q:dP prog .eql 51 (.ah [a7 j.op.act.kind,.str j.op.act.key,a7 j.op.act.val.kind,.i6 j.op.act.val.num,cX j.op.act.val.bits,.str j.op.act.val.text]) (.ah [.int .u8 0,.str [],.int .u8 0,.i6 0,.int .u64 0,.str []])=some (.bool false):=o;simp[h1,g,m,q,p];exact aG
    | true=>
     rw[z] at o;have q:dP prog .eql 51 (.ah [a7 j.op.act.kind,.str j.op.act.key,a7 j.op.act.val.kind,.i6 j.op.act.val.num,cX j.op.act.val.bits,.str j.op.act.val.text]) (.ah [.int .u8 0,.str [],.int .u8 0,.i6 0,.int .u64 0,.str []])=some (.bool true):=o;have Q:dP prog .eql 53 (.ah [a1 j.op.e,a1 j.op.s]) (.ah [.int .u32 0,.int .u32 0])=some (.bool (decide (j.op.e=0)&&decide (j.op.s=0))):=P;simp[h1,g,m,q,Q,p];cases T:(decide (j.op.e=0)&&decide (j.op.s=0)) with
     | false=>
      simp;exact aG
     | true=>
      simp[K,F,v];exact aR (by simp[h1,g,m]) rfl
   ·have R:¬ (u j.op.eP:Int)=0:=fun h=>m ((jO _ 0).1 h)
    rw[cp m];simp[h1,g,R,p];exact aG
  ·rw[cp g];simp[h1,g,p];exact aG
 ·have G:¬ (u j.op.dW:Int)=0:=fun h=>h1 ((jO _ 0).1 h)
  rw[cp h1];simp[G];exact aG
theorem PY {j:cx} (h:sr j.aA=false) :ff j=false:=by unfold ff;rw[h];rfl
theorem TV (j:cx) (q:hr j) :aV 144 [.ah (dy j)] (.bool (ff j)):=by
 apply a8 func144 [];have J:=lD q;have ai:=T9 j.aA;have t:=Ji j q;have w:=uG j.op q.op;have ag:et (bJ j.op)=.ah (ao (bJ j.op)):=rfl;rw[ag] at w;have Q:=xa j.op q.op;have R:=pb j.op;have z:=br R;have heq:=pa R q.id;have W:=br q.id;have D:=dN j.op;have P:aw (bO 32 (.int .u8 0)) 0 (ao (bJ j.op))=ao (bJ j.op):=cH (by rw[z];rfl);have al:(u j.ct:Int)=0<->j.ct=0:=jO j.ct 0;have am:(u j.ct:Int)=2<->j.ct=2:=jO j.ct 2;have ap:(u j.ct:Int)=3<->j.ct=3:=jO j.ct 3;have ay:(u j.ct:Int)=4<->j.ct=4:=jO j.ct 4;obtain⟨aJ,O⟩:=aq (ao j.id);obtain⟨Y,Z⟩:=aq (ao (bJ j.op));obtain⟨L,X⟩:=aq (dy j);obtain⟨T,C⟩:=aq (au j.op);have aK:T.length=11:=by rw[C];rfl
 rw[<-C] at w Q D;rw[<-X] at J t ⊢;rw[<-O] at heq W;rw[<-Z] at heq z P w;obtain⟨m,rt,aH,I,S,aM,aN,G,H⟩:=J;rw[<-O] at S;rw[<-C] at I;have ae:Y.take 32=Y:=aI F;simp[m,rt];refine av ai rfl ?_;cases K:sr j.aA with
 | false=>
  simp;exact aR (by rw[PY K]) rfl
 | true=>
  have p:ff j=(if j.ct=0 then decide (c4 j.op=0)&&(decide (bJ j.op=j.id)&&decide (fk j.op=0)) else (decide (j.ct=2)||(decide (j.ct=3)||decide (j.ct=4)))&&tU j):=by unfold ff;rw[K];rfl
  simp[m,aH];by_cases h1:j.ct=0
  ·simp[h1,m,I];refine av w (by simp[ar,U.ax,D]) ?_;simp[z,P];by_cases g:c4 j.op=0
   ·simp[g,z,ae,m,S,heq];cases o:decide (bJ j.op=j.id) with
    | false=>
     simp;exact aR (by rw[p,aj h1,o];simp) rfl
    | true=>
     simp[m,I];refine av Q (by simp[ar,U.ax,D]) ?_;simp;exact aR (by rw[p,aj h1,o,g];simp) rfl
   ·simp[g];exact aR (by rw[p,aj h1,cp g];simp) rfl
  ·have aL:∀ b:Bool,(b=true)->aV 203 [.ah L] (.bool (tU j)):=fun _ _=>t
   have az:(u (2#8:B) :Int)=2:=rfl;have aB:(u (3#8:B) :Int)=3:=rfl;have aC:(u (4#8:B) :Int)=4:=rfl;have V:¬ (u j.ct:Int)=0:=fun h=>h1 (al.1 h)
   simp[V];by_cases g:j.ct=2
   ·simp[g,az,m,G];refine av t (by simp[ar,U.ax,H]) ?_;simp;exact aR (by rw[p,ak h1,bW g];simp) rfl
   ·by_cases o:j.ct=3
    ·simp[o,aB,m,G];refine av t (by simp[ar,U.ax,H]) ?_;simp;exact aR (by rw[p,ak h1,bW o];simp) rfl
    ·by_cases v:j.ct=4
     ·simp[v,aC,m,G];refine av t (by simp[ar,U.ax,H]) ?_;simp;exact aR (by rw[p,ak h1,bW v];simp) rfl
     ·have aD:¬ (u j.ct:Int)=2:=fun h=>g (am.1 h)
      have aE:¬ (u j.ct:Int)=3:=fun h=>o (ap.1 h)
      have aG:¬ (u j.ct:Int)=4:=fun h=>v (ay.1 h)
      simp[aD,aE,aG];exact aR (by rw[p,ak h1,cp g,cp o,cp v];rfl) rfl
def sI:cx:=⟨0,0,ny,xd⟩
theorem Yi:hr sI:=⟨⟨fun _ h=>(eK h).elim,ek _,⟨by decide,by decide,ek _⟩,ek _⟩,rfl⟩
def gc:ag:=[.int .u8 0,.int .i64 0,.af]++dy sI
theorem PD:gc=[U.int .u8 0,.int .i64 0,.af,.int .i64 0,.int .u8 0,.int .u32 0,.af,.int .u64 0,.int .u8 0,.str [],.int .u8 0,.int .i64 0,.int .u64 0,.str [],.int .u32 0,.int .u32 0]++bO 32 (.int .u8 0):=rfl
theorem F3:ar gc=true:=bd
theorem Bp:gc.length=48:=bd
theorem T0:aV 145 [.ah gc] (.aZ [.int .i64 (-1),.bool true]):=by
 apply a8 func145 [da 0 8++[[8,2]],da 0 7++[[7,2]]];have m:=Ji sI Yi;rw[show tU sI=true by kernel_rfl] at m;have j:=Bp;have w:gc[0]?=some (.int .u8 0):=rfl;have h1:gc[1]?=some (.int .i64 0):=rfl;have z:gc[2]?=some .af:=rfl;have B:gc[3]?=some (.int .i64 0):=rfl;have C:gc[4]?=some (.int .u8 0):=rfl;have g:(gc.drop 3).take 45=dy sI:=bd;have o:∀ h,gc[0]'h=.int .u8 0:=fun _=>rfl
 have p:∀ h,gc[1]'h=.int .i64 0:=fun _=>rfl
 have q:∀ h,gc[2]'h=.af:=fun _=>rfl
 have t:∀ h,gc[3]'h=.int .i64 0:=fun _=>rfl
 have u:∀ h,gc[4]'h=.int .u8 0:=fun _=>rfl
 obtain⟨F,hH⟩:=aq (gc);rw[<-hH] at j w h1 z B C g ⊢;simp only[<-hH] at o p q t u;have v:=o0 sI;obtain⟨G,D⟩:=aq (dy sI);rw[<-D] at m g v;simp[j,g,p,q];refine av m (by simp[ar,U.ax,v]) ?_;simp[j,o,t,u];exact aG
def lw (n:Int) :ag:=[.int .i64 n]
def yR (a b:Int) :Int:=if a<b then b else a
theorem Sh (a b:Int) :aV 147 [b0 1 lw (some [a,b])] (.int .i64 (yR a b)):=by
 apply a8 func147 [];have o:og (U.int .i64 a) (U.int .i64 b)=some (.int .i64 (yR a b)):=by simp[og,yR]
 simp[lw];refine bw 1 (fun k g l=>g 0=b0 1 lw (some [a,b])/\g 3=.int .i64 (if k=0 then a else yR a b)/\g 4=.int .i64 ((k+1:Nat) :Int)) ?_ ⟨V,V,V⟩;rintro k g l hk ⟨h,j,m⟩;obtain⟨g,rfl⟩:=gj h j m;clear h j m;rcases k with _ | _ | k
 ·simp[lw,o];rfl
 ·simp;exact aG
 ·omega
def Br (j:cx) :ag:=[.int .i64 1,.af,.bj 48 [gc],.bj 45 [dy j]]
structure Na (j:cx) (g:am) (L:ag) (k:Nat) (sgZ:aP) (l:ae) :Prop where
 e7:sgZ 1=.ptr 0 0 4
 Zr:sgZ 48=.bj 45 [L]
 Qy:sgZ 49=.int .i64 1
 Qz:sgZ 50=.int .i64 k
 st:(k=0/\l=[g]/\sgZ 3=.af)\/(k=1/\ff j=true/\∃ b v,1<=b/\sgZ 3=v/\l[0]?=some g/\aJ 1 l v b [lw j.aA]/\bq v=false)
structure Nb (j:cx) (g:am) (h:ag) (k:Nat) (sgZ:aP) (l:ae) :Prop where
 e7:sgZ 1=.ptr 0 0 4
 Zw:sgZ 81=.bj 48 [h]
 Zx:sgZ 82=.int .i64 1
 Zy:sgZ 83=.int .i64 k
 st:∃ b v,1<=b/\sgZ 3=v/\l[0]?=some g/\aJ 1 l v b ((if k=0 then [j.aA] else [j.aA,-1]).map lw)/\bq v=false
theorem TT (j:cx) (ag:hr j) :aV 95 [.ah (Br j)] (.int .i64 (if ff j then 0 else 8)):=by
 apply a8 func95 [];have ai:=dw;have Y:=TV j ag;have Z:=T0;have X:=F3;have G:=Bp;obtain⟨L,T⟩:=aq (dy j);have P:=lD ag;rw[<-T] at P Y;have aD:Br j=[.int .i64 1,.af,.bj 48 [gc],.bj 45 [L]]:=by rw[T];rfl
 rw[aD];obtain⟨H,hH⟩:=aq (gc);rw[<-hH] at Z X G ⊢;obtain⟨J,rt,a5,a3,a2,a4,a6,aP,aQ⟩:=P;have aC:H.take 48=H:=aI F;have aN:aw (U.int .i64 0::.int .u8 0::.int .u32 0::.af::.int .u64 0::.int .u8 0::.str [] ::.int .u8 0::.int .i64 0::.int .u64 0::.str [] ::.int .u32 0::.int .u32 0::bO 32 (.int .u8 0)) 0 L=L:=cH (by rw[J];rfl);have aM:aw (U.int .u8 0::.int .i64 0::.af::.int .i64 0::.int .u8 0::.int .u32 0::.af::.int .u64 0::.int .u8 0::.str [] ::.int .u8 0::.int .i64 0::.int .u64 0::.str [] ::.int .u32 0::.int .u32 0::bO 32 (.int .u8 0)) 0 H=H:=cH (by rw[G];rfl);simp;obtain⟨al,B⟩:=aq (am.cells 4 [.int .i64 1,.af,.bj 48 [H],.bj 45 [L]]);rw[<-B];refine bw 1 (Na j al L) ?_ ⟨V,V,V,V,.inl ⟨rfl,rfl,V⟩⟩;rintro k g l hk ⟨m,u,v,w,⟨rfl,rfl,p⟩ | ⟨rfl,aJ,b,K,W,p,q,C,t⟩⟩
 ·obtain⟨g,rfl⟩:=gk m p u v w;clear m p u v w;simp[J,aP,aN,B];refine av Y (by simp[ar,U.ax,aQ]) ?_;cases h:ff j with
  | false=>
   simp;exact aG
  | true=>
   have D:∀ (o:ae) (c:Nat),o[c]?=some (.cells 1 [.int .i64 j.aA])->ep o 1 8 .af (.ad 1 c 0 1 1 1)=some (.ad 1 o.length 0 1 1 1,o++[.cells 1 [.int .i64 j.aA]]):=fun o c aE=>by
    have:=NG (l:=o) (z:=1) (by_:=8) (xs:=[[U.int .i64 j.aA]]) (x:=.ad 1 c 0 1 1 1) (by simp[cD,aE]) F F V (by rw[ai];simp);simpa using this
   simp[J,rt,D];refine bY.bo ?_;simp;have O:IntKind.i64.wrap 1=1:=rfl;exact⟨V,V,V,by simp[O],.inr ⟨rfl,h,3,_,F,V,by simp[B],.ad _ 1 1 1 [.int .i64 j.aA] [lw j.aA] V V rfl (by simp[lw]) F F (by simp[lw]),rfl⟩⟩
 ·obtain⟨g,rfl⟩:=gk m p u v w;clear m p u v w;rw[B] at q;simp[q];obtain⟨aT,aW⟩:=aq (l);refine bw 1 (Nb j (.cells 4 [.int .i64 1,.af,.bj 48 [H],.bj 45 [L]]) H) ?_ ⟨V,V,V,V,b,K,W,V,q,by simpa using C,t⟩;rintro k g l hk ⟨m,Q,R,S,b,K,W,p,q,C,t⟩;obtain⟨g,rfl⟩:=gk m p Q R S;clear m p Q R S;rcases k with _ | _ | k
  ·have EW:∀ o:ae,(l++o)[0]?=some (.cells 4 [.int .i64 1,.af,.bj 48 [H],.bj 45 [L]]):=fun o=>by rw[aS (aY q)];exact q
   simp[G,aC,aM];refine av Z (by simp[ar,U.ax,X]) ?_;simp;obtain⟨ak,aO,a1,D,ao,aU,ap,au,ay⟩:=i3 (by_:=8) (x:=.ad 1 (l.length+1) 0 1 1 1) (xs:=[lw (-1)]) (C.more [am.cells 48 H,am.cells 1 [U.int .i64 (-1)]]) (by simp[cD,lw]) (by simp[lw]) F F (by rw[ai];simp);simp[D];refine bY.bo ?_;simp;have O:IntKind.i64.wrap 1=1:=rfl;have a0:K≠.af:=fun e=>by rw[e] at t;cases t
   have I:bq ak=false:=by rw[ay,t];rfl
   refine⟨V,V,V,by simp[O],aO,ak,?_,V,?_,by simpa using ao,I⟩
   ·rcases au with e | ⟨_,e⟩ | e
    ·simp at e;omega
    ·omega
    ·rw[e] at I;cases I
   ·rw[ap 0 V (.inr F)];exact EW _
  ·simp;refine I4 (some [j.aA,-1]) C t rfl fun aj aX aH=>?_
   refine av (Sh j.aA (-1)) (by simp[ar,nV,b0,lw,U.ax]) ?_;have aL:aj[0]?=some (.cells 4 [.int .i64 1,.af,.bj 48 [H],.bj 45 [L]]):=by rw[aH 0 (.inr F)];exact q
   simp[aL];have aK:=aJ;refine bw 0 (fun k g l=>l=aj/\g 1=.ptr 0 0 4/\g 112=.int .i64 0/\g 113=.int .i64 0) ?_ ⟨rfl,V,V,V⟩;rintro k g l hk ⟨rfl,m,az,aB⟩;obtain⟨g,rfl⟩:=gj m az aB;simp;exact aR (by simp[aK]) rfl
  ·omega
theorem Qb (j:cx) (v:hr j) :aV 51 [.ah (dy j)] (.bool (ff j)):=by
 apply a8 func51 [];have O:=dw;have o:=TT j v;have u:=lD v;have H:=F3;have q:=Bp;unfold Br at o;have hH:=PD;obtain⟨L,G⟩:=aq (dy j);rw[<-G] at u o ⊢;obtain⟨m,rt,aj,ag,Z,ai,ak,z,T⟩:=u;have J:lG 48 200 (U.int .u8 0::.int .i64 0::.af::.int .i64 0::.int .u8 0::.int .u32 0::.af::.int .u64 0::.int .u8 0::.str [] ::.int .u8 0::.int .i64 0::.int .u64 0::.str [] ::.int .u32 0::.int .u32 0::bO 32 (.int .u8 0)) [am.cells 45 L] (U.int .i64 1) (U.int .i64 1)=some (.ad 48 1 0 1 1 48,[am.cells 45 L,.cells 48 gc]):=by
  show lG 48 200 gc _ _ _=_;simp[lG,O,cy]
 have Y:aw (U.int .i64 0::.int .u8 0::.int .u32 0::.af::.int .u64 0::.int .u8 0::.str [] ::.int .u8 0::.int .i64 0::.int .u64 0::.str [] ::.int .u32 0::.int .u32 0::bO 32 (.int .u8 0)) 0 L=L:=cH (by rw[m];rfl);have I:List.drop 32 (bO 32 (U.int .u8 0))=[]:=rfl;simp[m,z,J,I,ef,aw];have D:∀ t:ae,∀ K:cv,K (.int .i64 (if ff j then 0 else 8)) t->cG 95 [.ah [.int .i64 1,.af,.bj 48 [gc],.bj 45 [L]]] t K:=fun t K hk=>
  av o (by simp[ar,nV,U.ax,H,T]) hk
 obtain⟨w,p⟩:=aq ([am.cells 45 L,.cells 48 gc,.cells 45 L,.cells 4 [.int .i64 1,.af,.ad 48 1 0 1 1 48,.ad 45 2 0 1 1 45]]);have P:aJ 48 w (.ad 48 1 0 1 1 48) 1 [gc]:=.ad _ 1 1 48 gc [gc] (by rw[p];rfl) q rfl (by simp[q]) F F (by simp[aI,q]);obtain⟨W,R⟩:=pt P rfl;have Q:aJ 45 (w.set 1 .dead) (.ad 45 2 0 1 1 45) 2 [L]:=.ad _ 1 1 45 L [L] (by rw[p];rfl) m rfl (by simp[m]) F F (by simp[z]);obtain⟨X,S⟩:=pt Q rfl;rw[<-p];refine oS checked.mixed ed (args2:=[.ah [.int .i64 1,.af,.bj 48 [gc],.ad 45 2 0 1 1 45]]) W V rfl (fun i c C h1 g=>?_) (oS checked.mixed ed (args2:=[.ah [.int .i64 1,.af,.bj 48 [gc],.bj 45 [L]]]) X V rfl (fun i c C h1 g=>?_) (D _ _ ?_))
 ·obtain⟨rfl,rfl⟩:=n1 h1;obtain⟨_,rfl⟩:=n1 g;refine .ah _ _ rfl fun i c B h1 g=>?_
  rcases i with _ | _ | _ | _ | i
  ·simp at h1 g;subst h1 g;exact .same _
  ·simp at h1 g;subst h1 g;exact .same _
  ·simp at h1 g;subst h1 g;exact R
  ·simp at h1 g;subst h1 g;exact .same _
  ·simp at h1
 ·obtain⟨rfl,rfl⟩:=n1 h1;obtain⟨_,rfl⟩:=n1 g;refine .ah _ _ rfl fun i c B h1 g=>?_
  rcases i with _ | _ | _ | _ | i
  ·simp at h1 g;subst h1 g;exact .same _
  ·simp at h1 g;subst h1 g;exact .same _
  ·simp at h1 g;subst h1 g;exact .same _
  ·simp at h1 g;subst h1 g;exact S
  ·simp at h1
 ·cases h:ff j with
  | false=>
   simp;exact aG
  | true=>
   simp;exact aG
end Op
namespace Op.bm
open b8 Op
structure aK where
 aA:Int
 op:aM
 id:List B
 bA:bP
def aX (s:aK) :ag:=.i6 s.aA::(au s.op++(ao s.id++[ai s.bA]))
abbrev fr:=bH aK
def cJ (s:fr) :U:=b0 45 aX s
structure mU (s:aK) :Prop where
 op:dv s.op
 id:s.id.length=32
 bA:cU s.bA
 len:s.bA.l.length<=1000000
def hR (l:List aK) :Prop:=∀ s∈l,mU s
theorem F2:∀ a b:ag,ar (a++b)=(ar a&&ar b)
 | [],b=>by simp[ar]
 | x::a,b=>by
  rw[jo];simp only[ar,F2 a b,Er]
theorem o3 (s:aK) :ar (aX s)=true:=by have h1:=dN s.op;have g:=cP s.id;have h:=bV s.bA;unfold aX;simp only[ar,U.ax,F2,h1,g,h,kz]
theorem jw (s:fr) :(cJ s).ax=true:=m0 o3 s
structure Row (s:aK) (R:ag) :Prop where
 len:R.length=45
 aA:∀ h:0<R.length,R[0]'h=.i6 s.aA
 op:R.tail.take 11=au s.op
 id:(R.drop 12).take 32=ao s.id
 bA:∀ h:44<R.length,R[44]'h=ai s.bA
 ax:ar R=true
theorem hn {s:aK} (h:mU s) :Row s (aX s):=by
 have g:=br h.id;have j:(aX s).length=45:=by unfold aX au;simp[g]
 refine⟨j,fun _=>rfl,?_,?_,fun m=>?_,o3 s⟩
 ·unfold aX au;simp
 ·unfold aX au;simp[g]
 ·have:(aX s)[44]?=some (ai s.bA):=by
   unfold aX au;simp[g]
  exact (aH.1 this).2
theorem Qg:fI prog 152=true:=bd
theorem NL (s:aK) (h:mU s) (x:List B) (m:x.length=32) (r:ae) {K:cv} (j:∀ w,K (.bool (decide (s.id=x))) (.q 32 (ao x) ::w)) :
  cG 152 [.ah (aX s),.ptr 0 0 32] (.q 32 (ao x) ::r) K:=by apply cR func152 [];have g:=hn h;have o:=br m;have heq:=pa h.id m;obtain⟨p,u⟩:=aq (aX s);obtain⟨z,v⟩:=aq (ao x);rw[<-u] at g ⊢;rw[<-v] at o heq j ⊢;have h1:=g.len;have t:=g.id;have C:=br h.id;simp[h1,t,o,heq,aI];have:=j (r++[am.q 45 p]);simpa using this
structure Mm (s:fr) (x:List B) (k:Nat) (sgZ:aP) (l:ae) :Prop where
 n3:∃ r,l=.q 32 (ao x) ::r
 kS:sgZ 0=cJ s
 e7:sgZ 1=.fn 152 [] [.ptr 0 0 32]
 yl:sgZ 7=.i6 s.l.length
 m8:sgZ 8=.i6 k
 jC:∀ (j:Nat) (z:List B),j<k->(s.l.map aK.id)[j]?=some z->z≠x
theorem NN (s:fr) (C:hR s.l) (X:s.l.length<=1000000) (x:List B) (T:x.length=32) {r:ae} {K:cv} (z:∀ I,K (.i6 (c8 x (s.l.map aK.id) 0)) I) :
  cG 151 [cJ s,.fn 152 [] [.ptr 0 0 32]] (.q 32 (ao x) ::r) K:=by
 apply cR func151 [];have S:bt (.ad 45) (cJ s)=_:=ca _;simp[S];refine bw s.l.length (Mm s x) ?_ ⟨⟨_,rfl⟩,V,V,V,V,fun j o h=>F⟩;rintro k U l hk ⟨⟨r,rfl⟩,t,u,v,w,p⟩;obtain⟨U,rfl⟩:=e2 t u v w;clear t u v w;simp;refine gq (fun h=>?_) (fun h=>?_)
 ·simp only[bI] at h;obtain⟨y,D,H⟩:=aQ (l:=s.l) (k:=k) F;have O:=hn (C y H);have J:=cl (k:=k) F;have P:bF (.ad 45) (cJ s) _=_:=c6 D;have G:(s.l.map aK.id)[k]?=some y.id:=by rw[bX,D];rfl
  simp[P,O.len,aI];refine⟨Qg,NL y (C y H) x T r fun I=>?_⟩;by_cases m:y.id=x
  ·simp[m];have:=pd (n:=0) G p m;rw[gT] at this;rw[<-this];exact z _
  ·simp[m,J];refine⟨F,⟨_,rfl⟩,V,V,V,V,fun j o W g=>?_⟩;by_cases Q:j=k
   ·rw[Q,G] at g;obtain rfl:=cd g;exact m
   ·exact p j o F g
 ·simp[h];have R:k=s.l.length:=by simp at h;omega
  have:=vV (n:=0) (l:=s.l.map aK.id) (x:=x) fun j o g=>p j o (by rw[R];have:=(aH.1 g).1;simpa using this) g
  rw[<-this];exact z _
theorem CI (s:fr) (j:hR s.l) (h:s.l.length<=1000000) (x:List B) (g:x.length=32) :aV 99 [cJ s,.ah (ao x)] (.i6 (c8 x (s.l.map aK.id) 0)):=by
 apply a8 func99 [];simp[br g];refine NN s j h x g fun m=>?_
 simp;exact aG
end Op.bm
namespace Op.bm
open b8 Op
def gB (l:List aK) (k:Nat) :aK:=l.getD k ⟨0,⟨0#32,none,0#64,⟨0#8,[],l3⟩,0#32,0#32⟩,[],none⟩
theorem g3 {l:List aK} {k:Nat} {x:aK} (h:l[k]?=some x) :gB l k=x:=by unfold gB;rw[gm,h];rfl
def eJ (l:List aK) (k:Nat) :Int:=if k=0 then -1 else (gB l (k - 1)).aA
def iv (l:List aK) (k:Nat) :Bool:=
 decide (c4 (gB l k).op=0)&&(decide (bJ (gB l k).op=(gB l k).id)&&(decide (eJ l k<(gB l k).aA)&&(decide ((gB l k).aA<=1000000000)&&(eO (gB l k).op (gB l k).bA.l&&decide ((gB l k).id∉(l.take k).map aK.id)))))
def rN (l:List aK) :Bool:=decide (∀ k,k<l.length->iv l k=true)
def c2 (c:Int) (l:List aK) :Int:=if c<1\/8<c\/c<l.length then 8 else if rN l then 0 else 8
theorem CO {c:Int} {l:List aK} (h:¬ (c<1\/8<c\/c<l.length)) (g:∀ k,k<l.length->iv l k=true) :c2 c l=0:=by unfold c2 rN;rw[ak h,bW g];rfl
theorem Je {c:Int} {l:List aK} (h:¬ (c<1\/8<c\/c<l.length)) {k:Nat} (hk:k<l.length) (g:iv l k=false) :c2 c l=8:=by unfold c2 rN;rw[ak h,cp fun j=>by rw[j k hk] at g;cases g];rfl
theorem BR (o:aM) :(bJ o).length=32:=by
 unfold bJ;split
 ·exact jk _
 ·simp
def b1 (c:Int) (s:fr) :ag:=[.i6 c,cJ s]
theorem WR (s:fr) {k:Nat} {y:aK} (g:s.l[k]?=some y) :dB (.ad 45) (cJ s) none (some (.i6 (k:Int))) none=some (cJ (some (s.l.take k))):=by
 cases s with
 | none=>simp at g
 | some a=>
  have hk:=(aH.1 g).1;have:=DI (z:=45) (enc:=aX) (l:=a) (k:=.i64) (i:=(k:Int)) F (by simp at hk;omega);simpa [cJ] using this
abbrev mO:ag:=U.i6 0::U.int .u32 0::U.af::U.int .u64 0::U.int .u8 0::U.str [] ::U.int .u8 0::U.i6 0::U.int .u64 0::U.str [] ::U.int .u32 0::U.int .u32 0::(bO 32 (.int .u8 0)++[U.af])
theorem iU {R:ag} (h:R.length=45) :aw (U.i6 0::U.int .u32 0::U.af::U.int .u64 0::U.int .u8 0::U.str [] ::U.int .u8 0::U.i6 0::U.int .u64 0::U.str [] ::U.int .u32 0::U.int .u32 0::(bO 32 (.int .u8 0)++[U.af])) 0 R=R:=cH (by rw[h];rfl)
structure Nc (c:Int) (s:fr) (k:Nat) (sgZ:aP) (l:ae) :Prop where
 n3:∃ r,l=.q 2 (b1 c s) ::r
 e7:sgZ 1=.ptr 0 0 2
 i9:sgZ 3=.i6 (eJ s.l k)
 Hl:sgZ 25=cJ s
 BG:sgZ 26=.i6 s.l.length
 yk:sgZ 27=.i6 k
 jC:∀ j,j<k->iv s.l j=true
theorem uH (c:Int) (s:fr) (aB:hR s.l) (bc:s.l.length<=1000000) :aV 64 [.ah (b1 c s)] (.i6 (c2 c s.l)):=by
 apply a8 func64 [];have ap:bt (.ad 45) (cJ s)=_:=ca _;by_cases h1:c<1
 ·have v:c2 c s.l=8:=by unfold c2;rw[aj (.inl h1)]
  rw[v];simp[b1,h1];exact aG
 ·by_cases C:8<c
  ·have v:c2 c s.l=8:=by unfold c2;rw[aj (.inr (.inl C))]
   rw[v];simp[b1,h1,C];exact aG
  ·by_cases J:c<s.l.length
   ·have v:c2 c s.l=8:=by unfold c2;rw[aj (.inr (.inr J))]
    rw[v];simp[b1,ap,h1,C,J];exact aG
   ·have az:¬ (c<1\/8<c\/c<s.l.length):=F;simp[b1,ap,h1,C,J];refine bw s.l.length (Nc c s) ?_ ⟨⟨_,rfl⟩,V,by simp[eJ],V,V,V,fun w h=>F⟩;rintro k a5 l hk ⟨⟨r,rfl⟩,T,Z,W,X,Y,aC⟩;obtain⟨a5,rfl⟩:=gk T Z W X Y;clear T Z W X Y;simp;refine gq (fun h=>?_) (fun h=>?_)
    ·simp only[bI] at h;obtain⟨y,P,a4⟩:=aQ (l:=s.l) (k:=k) F;have j:=aB y a4;have t:=hn j;have aE:=cl (k:=k) F;have ai:bF (.ad 45) (cJ s) _=_:=c6 P;have a0:=WR s P;have ag:=g3 P;have H:=uG y.op j.op;have ay:=LS y.op j.op y.bA j.bA j.len;have a2:hR ((s.l.take k)):=fun a6 a1=>aB a6 (gE a1)
     have aU:=CI (some (s.l.take k)) a2 (by simp;omega) y.id j.id;have am:=nb y.id ((s.l.take k).map aK.id) 0;have al:=BR y.op;have aT:=qq al j.id;have bd:=br j.id;have aL:=jw (some (s.l.take k));have O:=dN y.op;have aM:=bV y.bA;have aJ:=cP y.id;have o:iv s.l k=(decide (c4 y.op=0)&&(decide (bJ y.op=y.id)&&(decide (eJ s.l k<y.aA)&&(decide (y.aA<=1000000000)&&(eO y.op y.bA.l&&decide (y.id∉(s.l.take k).map aK.id)))))):=by unfold iv;rw[ag]
     have u:iv s.l k=false->c2 c s.l=8:=fun g=>Je az h g
     have a3:eJ s.l (k+1)=y.aA:=by unfold eJ;rw[ak F,sX,ag]
     obtain⟨a9,aH⟩:=aq (aX y);rw[<-aH] at t ai;obtain⟨aD,ae⟩:=aq (au y.op);have f1:=t.len;have f2:=t.aA;have f3:=t.op;have f4:=t.id;have f5:=t.bA;rw[<-ae] at f3 H ay O;have bb:aD.length=11:=by rw[ae];rfl
     have aY:=iU f1;obtain⟨D,K⟩:=aq ((bJ y.op).map a7);have q:D.length=32:=by rw[K,cC,al]
     have aW:aw (bO 32 (.int .u8 0)) 0 D=D:=cH (by rw[q];rfl);unfold et at H;rw[<-K] at H;simp[ai,f1,aY,f3,aI];refine av H (by simp[ar,U.ax,O]) ?_;simp[q,aW];have G:dP prog .neq 57 (.ah D) (.ah (ao y.id))=some (.bool !decide (bJ y.op=y.id)):=by rw[K];exact aT
     by_cases m:c4 y.op=0
     ·by_cases p:bJ y.op=y.id
      ·by_cases Q:eJ s.l k<y.aA
       ·have z:¬ y.aA<=eJ s.l k:=F;by_cases R:y.aA<=1000000000
        ·have I:¬ 1000000000<y.aA:=F;simp[m,p,G,f1,f2,f3,f4,f5,q,z,I,aI];refine av ay (by simp[ar,U.ax,O,aM]) ?_;cases S:eO y.op y.bA.l with
         | false=>
          have g:=u (by rw[o];simp[S]);rw[g];simp;exact aG
         | true=>
          simp[b1,a0,f1,f4];refine av aU (by simp[ar,U.ax,aL,aJ]) ?_;by_cases B:y.id∈(s.l.take k).map aK.id
          ·have g:=u (by rw[o];simp only[B,not_true,u1,uN]);have:0<=c8 y.id ((s.l.map aK.id).take k) 0:=by rw[<-mP];exact am.2 B
           rw[g];simp[this];exact aG
          ·have aN:¬ (0<=c8 y.id ((s.l.map aK.id).take k) 0):=by rw[<-mP];exact fun h=>B (am.1 h)
           have aO:iv s.l k=true:=by rw[o,S];simp only[m,p,Q,R,B,oH,xB,kz]
           simp[aN,f1,f2,aE];refine⟨F,⟨_,rfl⟩,V,by simp[a3],V,V,V,fun w aP=>?_⟩;by_cases aS:w=k
           ·rw[aS];exact aO
           ·exact aC w F
        ·have I:1000000000<y.aA:=F;have g:=u (by rw[o];simp[R]);rw[g];simp[m,p,G,f1,f2,f4,q,z,I,aI];exact aG
       ·have z:y.aA<=eJ s.l k:=F;have g:=u (by rw[o];simp[Q]);rw[g];simp[m,p,G,f1,f2,f4,q,z,aI];exact aG
      ·have g:=u (by rw[o];simp[p]);rw[g];simp[m,p,G,f1,f4,q,aI];exact aG
     ·have g:=u (by rw[o];simp[m]);rw[g];simp[m];exact aG
    ·simp[h];exact aR (by rw[CO az fun w aP=>aC w (by simp at h;omega)]) rfl
end Op.bm
namespace Op.bm
open b8 Op
structure Ng (c:Int) (s:fr) (x:List B) (k:Nat) (sgZ:aP) (l:ae) :Prop where
 n3:l=[.q 2 (b1 c s),.q 32 (ao x)]
 h0:sgZ 2=.ptr 0 0 2
 i9:sgZ 3=.ptr 1 0 32
 ja:sgZ 5=.i6 k
 jC:∀ (j:Nat) (z:List B),j<k->(s.l.map aK.id)[j]?=some z->z≠x
theorem px (c:Int) (s:fr) (q:hR s.l) (U:s.l.length<=1000000) (x:List B) (D:x.length=32) :aV 79 [.ah (b1 c s),.ah (ao x)] (.i6 (c8 x (s.l.map aK.id) 0)):=by
 apply a8 func79 [];have Q:bt (.ad 45) (cJ s)=_:=ca _;have G:=br D;simp[b1,G];refine bw s.l.length (Ng c s x) ?_ ⟨rfl,V,V,V,fun j o h=>F⟩;rintro k R l hk ⟨rfl,v,w,z,t⟩;obtain⟨R,rfl⟩:=gj v w z;clear v w z;simp[b1,Q];refine gq (fun h=>?_) (fun h=>?_)
 ·simp only[bI] at h;obtain⟨y,H,u⟩:=aQ (l:=s.l) (k:=k) F;have p:=hn (q y u);have J:=cl (k:=k) F;have C:bF (.ad 45) (cJ s) _=_:=c6 H;have I:(s.l.map aK.id)[k]?=some y.id:=by rw[bX,H];rfl
  have heq:=pa (q y u).id D;have W:=br (q y u).id;obtain⟨S,K⟩:=aq (aX y);rw[<-K] at p C;have f1:=p.len;have f4:=p.id;simp[C,f1,f4,G,aI,heq];by_cases m:y.id=x
  ·simp[m];have:=pd (n:=0) I t m;rw[gT] at this;exact aR (by rw[this]) rfl
  ·simp[m,J];refine⟨F,rfl,V,V,V,fun j o T g=>?_⟩;by_cases O:j=k
   ·rw[O,I] at g;obtain rfl:=cd g;exact m
   ·exact t j o F g
 ·simp[h];have P:k=s.l.length:=by simp at h;omega
  have:=vV (n:=0) (l:=s.l.map aK.id) (x:=x) fun j o g=>t j o (by rw[P];have:=(aH.1 g).1;simpa using this) g
  exact aR (by rw[this]) rfl
theorem wj {alZ:Type} [DecidableEq alZ] :∀ {l m:List alZ},l.Nodup->(∀ x∈l,x∈m)->l.length<=m.length
 | [],m,_,_=>ek _
 | x::l,m,h,g=>by
  obtain⟨h1,p⟩:=uV.1 h;have j:=g x V;have q:=wj (l:=l) (m:=m.erase x) p fun y o=>(ED (fun e=>h1 (by rw[<-e];exact o))).2 (g y (by simp[o]))
  have:=EA j;have:=EB j;simp only[du];omega
theorem jK {l:aN} (h:bQ l=true) :∀ {d i:Nat},i+d+1<l.length->bD (bn l i) (bn l (i+d+1))<0
 | 0,i,g=>Kf h g
 | d+1,i,g=>nY _ _ _ (jK h (d:=d) (i:=i) F) (Kf h (k:=i+d+1) g)
theorem Dm {l:aN} (h:bQ l=true) :l.Nodup:=by
 refine kD.2 fun i g p q t o=>?_
 have:=jK h (d:=g - i - 1) (i:=i) F;rw[show i+(g - i - 1)+1=g by omega] at this;have j:bn l i=l[i]:=dx (bC p);have m:bn l g=l[g]:=dx (bC q);rw[j,m,o,kO] at this;omega
structure MT (o:aM) (m:bP) (k:Nat) (sgZ:aP) (l:ae) :Prop where
 n3:l=[.q 11 (au o)]
 e7:sgZ 1=ai m
 h0:sgZ 2=.ptr 0 0 11
 ja:sgZ 5=.i6 k
 jC:∀ j,j<k->bn m.l j∈o.ay.l
theorem Uw (o:aM) (J:dv o) (m:bP) (z:cU m) (ae:m.l.length<=1000000) :aV 114 [.ah (au o),ai m] (.bool (eO o m.l)):=by
 apply a8 func114 [];have q:bt (.ad 32) (ai m)=_:=ca _;have K:bt (.ad 32) (ai o.ay)=_:=ca _;have S:=bV o.ay;have R:=bV m;by_cases p:m.l.length=0
 ·have g:eO o m.l=false:=by unfold eO;rw[p];rfl
  rw[g];simp[q,p];exact aG
 ·have ak:¬ ((m.l.length:Int)=0):=F;by_cases h1:o.ay.l.length<m.l.length
  ·have u:((o.ay.l.length:Int)<(m.l.length:Int)):=F;have g:eO o m.l=false:=by
    cases h:eO o m.l with
    | false=>rfl
    | true=>
     unfold eO at h;rw[bN,bN] at h;have:=wj (Dm h.2.1) fun x B=>io (fW.1 h.2.2 x B)
     omega
   rw[g];simp[au,q,K,p,u];exact aG
  ·have u:¬ ((o.ay.l.length:Int)<(m.l.length:Int)):=F;simp[au,q,K,p,u];refine av (C7 m z ae) (by simp[ar,R]) ?_;cases I:bQ m.l with
   | false=>
    have g:eO o m.l=false:=by unfold eO;rw[I];simp
    rw[g];simp;exact aG
   | true=>
    simp;refine bw m.l.length (MT o m) ?_ ⟨rfl,V,V,V,fun j h=>F⟩;rintro k aj l hk ⟨rfl,D,G,H,O⟩;obtain⟨aj,rfl⟩:=gj D G H;clear D G H;simp[q];refine gq (fun h=>?_) (fun h=>?_)
    ·simp only[bI] at h;obtain⟨y,P,C⟩:=aQ (l:=m.l) (k:=k) F;have ag:=br (z y C);have Q:=cl (k:=k) F;have W:bF (.ad 32) (ai m) _=_:=c6 P;have X:=C3 o.ay J.idsZ J.len y (z y C);have T:=cP y;simp[au,W,ag,aI];refine av X (by simp[ar,U.ax,S,T]) ?_;by_cases t:y∈o.ay.l
     ·simp[t,Q];refine⟨F,rfl,V,V,V,fun j w=>?_⟩;by_cases Y:j=k
      ·rw[Y,dx P];exact t
      ·exact O j F
     ·have g:eO o m.l=false:=by
       unfold eO;cases v:(m.l.all fun x=>decide (x∈o.ay.l)) with
       | false=>simp
       | true=>exact bK (io (fW.1 v y C)) t
      rw[g];simp[t];exact aG
    ·simp[h];have Z:k=m.l.length:=by simp at h;omega
     have g:eO o m.l=true:=by
      unfold eO;have v:(m.l.all fun x=>decide (x∈o.ay.l))=true:=fW.2 fun x B=>by
       obtain⟨j,w⟩:=cc.1 B;have:=O j (by rw[Z];exact (aH.1 w).1);rw[dx w] at this;exact bW this
      rw[I,v,bW F];rfl
     rw[g];exact aG
end Op.bm
namespace Op.bm
open b8 Op
structure Nh (c:Int) (s:fr) (k:Nat) (sgZ:aP) (l:ae) :Prop where
 n3:∃ r,l=.q 2 (b1 c s) ::r
 e7:sgZ 1=.ptr 0 0 2
 i9:sgZ 3=.i6 k
 jC:∀ j,j<k->iv s.l j=true
theorem D4 {l:List aK}:∀ {k:Nat},k<=l.length->(∀ j,j<k->iv l j=true)->-1<=eJ l k
 | 0,_,_=>by simp[eJ]
 | k+1,hk,h=>by
  have o:=D4 (l:=l) (k:=k) F fun j m=>h j F
  have g:=h k F;unfold iv at g;simp only[bN,bI] at g;have:=g.2.2.1;unfold eJ;rw[ak F,sX];omega
theorem Rs {l:List aK} {k:Nat} {y:aK} (v:l[k]?=some y) :c8 y.id (l.map aK.id) 0=(k:Int)<->y.id∉(l.take k).map aK.id:=by
 have o:(l.map aK.id)[k]?=some y.id:=by rw[bX,v];rfl
 have C:=(aH.1 o).1;constructor
 ·intro h m;rw[mP] at m;obtain⟨j,g⟩:=cc.1 m;have t:=(aH.1 g).1;rw[cI] at t;rw[dG F] at g
  -- the first place is at most j
  have q:∀ {l:aN} {j n:Nat},l[j]?=some y.id->c8 y.id l n<=((n+j:Nat) :Int):=by
   intro l
   induction l with
   | nil=>intro j n h;simp at h
   | cons w r B=>
    intro j n h;unfold c8;split
    ·omega
    ·rename_i u;rcases j with _ | j
     ·simp at h;exact bK h u
     ·have:=B (j:=j) (n:=n+1) (by simpa using h);omega
  have:=q (n:=0) g;rw[h] at this;omega
 ·intro h;have:=pd (n:=0) o (fun j D g z p=>h (by
   rw[mP];exact cc.2 ⟨j,by rw[dG g,z,p]⟩)) rfl
  simpa using this
theorem UB (c:Int) (s:fr) (aC:hR s.l) (bb:s.l.length<=1000000) :aV 68 [.ah (b1 c s)] (.i6 (c2 c s.l)):=by
 apply a8 func68 [da 0 28++[[29],[28]]];have az:bt (.ad 45) (cJ s)=_:=ca _;have aP:=jw s;by_cases h1:c<1
 ·have P:c2 c s.l=8:=by unfold c2;rw[aj (.inl h1)]
  rw[P];simp[b1,h1];exact aG
 ·by_cases T:8<c
  ·have P:c2 c s.l=8:=by unfold c2;rw[aj (.inr (.inl T))]
   rw[P];simp[b1,h1,T];exact aG
  ·by_cases ai:c<s.l.length
   ·have P:c2 c s.l=8:=by unfold c2;rw[aj (.inr (.inr ai))]
    rw[P];simp[b1,az,h1,T,ai];exact aG
   ·have aY:¬ (c<1\/8<c\/c<s.l.length):=F;simp[b1,az,h1,T,ai];refine bw s.l.length (Nh c s) ?_ ⟨⟨_,rfl⟩,V,V,fun u h=>F⟩;rintro k bg l hk ⟨⟨r,rfl⟩,z,aJ,Y⟩;obtain⟨bg,rfl⟩:=jP z aJ;clear z aJ;simp[b1,az];refine gq (fun h=>?_) (fun h=>?_)
    ·simp only[bI] at h;obtain⟨y,aD,bd⟩:=aQ (l:=s.l) (k:=k) F;have t:=aC y bd;have B:=hn t;have aE:=cl (k:=k) F;have C:bF (.ad 45) (cJ s) _=_:=c6 aD;have a5:=g3 aD;have R:=Uu y.op t.op;have aB:=Uw y.op t.op y.bA t.bA t.len;have a0:=px c s aC bb y.id t.id;have W:=Rs aD;have aS:=BR y.op;have bc:=qq aS t.id;have bo:=br t.id;have O:=dN y.op;have aO:=bV y.bA;have aN:=cP y.id;have j:iv s.l k=(decide (c4 y.op=0)&&(decide (bJ y.op=y.id)&&(decide (eJ s.l k<y.aA)&&(decide (y.aA<=1000000000)&&(eO y.op y.bA.l&&decide (y.id∉(s.l.take k).map aK.id)))))):=by unfold iv;rw[a5]
     have o:iv s.l k=false->c2 c s.l=8:=fun g=>Je aY h g
     have bl:=D4 (l:=s.l) (k:=k) F Y;obtain⟨bh,a3⟩:=aq (aX y);rw[<-a3] at B C;obtain⟨a2,aL⟩:=aq (au y.op);have f1:=B.len;have f2:=B.aA;have f3:=B.op;have f4:=B.id;have f5:=B.bA;rw[<-aL] at f3 R aB O;have bk:a2.length=11:=by rw[aL];rfl
     have Q:=iU f1;obtain⟨D,al⟩:=aq ((bJ y.op).map a7);have v:D.length=32:=by rw[al,cC,aS]
     have G:aw (bO 32 (.int .u8 0)) 0 D=D:=cH (by rw[v];rfl);have X:dP prog .neq 57 (.ah D) (.ah (ao y.id))=some (.bool !decide (bJ y.op=y.id)):=by rw[al];exact bc
     unfold et at R;rw[<-al] at R
     -- what comes behind the tickets
     have bm:eJ s.l k<y.aA->y.aA<=1000000000->True:=fun _ _=>trivial
     by_cases I:y.aA<0
     ·have g:=o (by rw[j,cp (show ¬ eJ s.l k<y.aA by omega)];simp);rw[g];simp[C,f1,Q,f2,I,aI];exact aG
     ·by_cases ae:y.aA<=1000000000
      ·have J:¬ 1000000000<y.aA:=F;by_cases aU:k=0
       ·have S:eJ s.l k<y.aA:=by rw[aU];simp[eJ];omega
        have a6:¬ (0:Int)<(k:Int):=F;have a9:¬ 0<k:=F;simp[C,f1,Q,f2,f4,I,J,a9,aI];refine av a0 (show ar [U.ah (b1 c s),U.ah (ao y.id)]=true by simp[b1,ar,U.ax,aP,aN]) ?_;by_cases q:y.id∈(s.l.take k).map aK.id
        ·have g:=o (by rw[j];simp only[q,not_true,u1,uN]);have w:¬ c8 y.id (s.l.map aK.id) 0=(k:Int):=fun h=>(W.1 h) q
         rw[g];simp[w];exact aG
        ·have w:c8 y.id (s.l.map aK.id) 0=(k:Int):=W.2 q;simp[w,f1,f3];refine av R (by simp[ar,U.ax,O]) ?_;by_cases m:c4 y.op=0
         ·by_cases p:bJ y.op=y.id
          ·simp[m,p,X,f1,f3,f4,f5,v,G,aI];refine av aB (by simp[ar,U.ax,O,aO]) ?_;cases K:eO y.op y.bA.l with
           | false=>
            have g:=o (by rw[j];simp[K]);rw[g];simp;exact aG
           | true=>
            have am:iv s.l k=true:=by rw[j,K];simp only[m,p,S,ae,q,oH,xB,kz]
            simp[aE];exact⟨F,⟨_,rfl⟩,V,V,fun u aT=>by
             by_cases ay:u=k
             ·rw[ay];exact am
             ·exact Y u F⟩
          ·have g:=o (by rw[j];simp[p]);rw[g];simp[m,p,X,f1,f4,v,G,aI];exact aG
         ·have g:=o (by rw[j];simp[m]);rw[g];simp[m,v,G];exact aG
       ·obtain⟨H,a1,bf⟩:=aQ (l:=s.l) (k:=k - 1) F;have aH:IntKind.i64.wrap ((k:Int) - 1)=((k - 1:Nat) :Int):=by rw[IntKind.wrap_i64];omega
        have a6:(0:Int)<(k:Int):=F;have aW:0<k:=F;have ap:bF (.ad 45) (cJ s) (.i6 ((k - 1:Nat) :Int))=some (.bR (aX H) 0):=by simp[cJ,a1]
        have aM:=hn (aC H bf);have ag:=aM.aA;have z:=aM.len;have bn:eJ s.l k=H.aA:=by unfold eJ;rw[ak aU,g3 a1]
        obtain⟨bi,a4⟩:=aq (aX H);simp only[<-a4] at z ag ap;by_cases S:eJ s.l k<y.aA
        ·have Z:¬ y.aA<=H.aA:=F;simp[C,ap,f1,z,Q,f2,ag,f4,I,J,aW,aH,Z,aI];refine av a0 (show ar [U.ah (b1 c s),U.ah (ao y.id)]=true by simp[b1,ar,U.ax,aP,aN]) ?_;by_cases q:y.id∈(s.l.take k).map aK.id
         ·have g:=o (by rw[j];simp only[q,not_true,u1,uN]);have w:¬ c8 y.id (s.l.map aK.id) 0=(k:Int):=fun h=>(W.1 h) q
          rw[g];simp[w];exact aG
         ·have w:c8 y.id (s.l.map aK.id) 0=(k:Int):=W.2 q;simp[w,f1,f3];refine av R (by simp[ar,U.ax,O]) ?_;by_cases m:c4 y.op=0
          ·by_cases p:bJ y.op=y.id
           ·simp[m,p,X,f1,f3,f4,f5,v,G,aI];refine av aB (by simp[ar,U.ax,O,aO]) ?_;cases K:eO y.op y.bA.l with
            | false=>
             have g:=o (by rw[j];simp[K]);rw[g];simp;exact aG
            | true=>
             have am:iv s.l k=true:=by rw[j,K];simp only[m,p,S,ae,q,oH,xB,kz]
             simp[aE];exact⟨F,⟨_,rfl⟩,V,V,fun u aT=>by
              by_cases ay:u=k
              ·rw[ay];exact am
              ·exact Y u F⟩
           ·have g:=o (by rw[j];simp[p]);rw[g];simp[m,p,X,f1,f4,v,G,aI];exact aG
          ·have g:=o (by rw[j];simp[m]);rw[g];simp[m,v,G];exact aG
        ·have Z:y.aA<=H.aA:=F;have g:=o (by rw[j];simp[S]);rw[g];simp[C,ap,f1,z,Q,f2,ag,I,J,aW,aH,Z,aI];exact aG
      ·have J:1000000000<y.aA:=F;have g:=o (by rw[j];simp[ae]);rw[g];simp[C,f1,Q,f2,I,J,aI];exact aG
    ·simp[h];exact aR (by rw[CO aY fun u aT=>Y u (by simp at h;omega)]) rfl
end Op.bm
namespace Op.bm
open b8 Op
theorem kT (s:bP) (g:cU s) (j:s.l.length<=1000000) :aV 80 [ai s] (ai s):=by
 refine wI checked.mixed ed ?_;refine yq s g j fun o m h=>?_
 exact h.rd cP s rfl rfl
theorem nr {R:ag} {i:Nat} (v:U) (g:i<R.length) :aw R i [v]=R.set i v:=by unfold aw;rw[re,aj g,xp,fc,EH]
theorem Wu {R:ag} {i:Nat} {v:U} (h:R[i]?=some v) :aw R i [v]=R:=by obtain⟨j,g⟩:=aH.1 h;rw[nr v j,<-g,Ao]
theorem KP (R:ag) (i:Nat) (v w:U) (g:i<R.length) :aw (aw R i [v]) i [w]=aw R i [w]:=by rw[nr v g,nr w (by rw[jU];exact g),nr w g,Ap]
def ic (s:aK) (w:U) :ag:=.i6 s.aA::(au s.op++(ao s.id++[w]))
theorem zD {s:aK} (h:s.id.length=32) (w:U) :aw (aX s) 44 [w]=ic s w:=by have g:=br h;unfold aw aX ic au;simp[g,Ah]
theorem Vw (s:aK) :(aX s)[2]?=some (ai s.op.ay):=rfl
theorem zp {s:aK} (h:s.id.length=32) :(aX s)[44]?=some (ai s.bA):=by have g:=br h;unfold aX au;simp[g]
theorem D6 (s:aK) (g:mU s) {l:ae} {K:cv} (H:∀ w l',b7 32 ao l l' w s.bA.l s.bA.isNone->K (.ah (ic s w)) l') :
  cG 101 [.ah (aX s)] l K:=by
 apply cR func101 [[[0],[1],[2],[4],[5],[3,5],[7],[8],[6]]];have p:=hn g;have o:=Vw s;have G:=zp g.id;have z:=zD g.id;have O:=kT s.op.ay g.op.idsZ g.op.len;have P:=bV s.op.ay;have R:(ai s.op.ay).cells=some [ai s.op.ay]:=by cases s.op.ay<;>rfl
 obtain⟨j,I⟩:=aq (aX s);rw[<-I] at p o G z ⊢;have f1:=p.len;have S:=Wu o;have D:∀ h:2<j.length,j[2]'h=ai s.op.ay:=fun h=>(aH.1 o).2
 have t:=p.bA;simp[f1,D,t];refine av O (by simp[ar,P]) ?_;simp[f1,t];obtain⟨L,m⟩:=aq (l++[am.q 45 j,am.q 45 mO]);have aw:L.length=l.length+2:=by rw[m];simp
 have aj:L[l.length]?=some (.q 45 j):=by rw[m];simp
 have q1:L[l.length+1]?=some (.q 45 mO):=by rw[m];simp
 unfold mO at m q1;rw[<-m];refine yq s.bA g.bA g.len fun w l1 h1=>?_
 have az:=h1.le;have C:l1[l.length]?=some (.q 45 j):=by rw[h1.same _ F];exact aj
 have ag:l1[l.length+1]?=some (.q 45 (U.i6 0::U.int .u32 0::U.af::U.int .u64 0::U.int .u8 0::U.str [] ::U.int .u8 0::U.i6 0::U.int .u64 0::U.str [] ::U.int .u32 0::U.int .u32 0::(bO 32 (.int .u8 0)++[U.af]))):=by rw[h1.same _ F];exact q1
 have V:=h1.cells;have u:=z w;have v:(ic s w).length=45:=by rw[<-u,nr w F,jU,f1]
 have T:=iU v;have ak:∀ c:am,(l1.set l.length c)[l.length]?=some c:=fun c=>bT F
 have al:∀ c:am,(l1.set l.length c)[l.length+1]?=l1[l.length+1]?:=fun c=>bp F
 have ap:∀ c d:am,((l1.set l.length c).set (l.length+1) d)[l.length+1]?=some d:=fun c d=>bT (by simp;omega)
 have au:(l1.set l.length (.q 45 j))=l1:=by
  obtain⟨ax,Q⟩:=aH.1 C;rw[<-Q,Ao]
 simp[C,ag,f1,R,V,S,ak,al,ap,au,u,v,T,aI];obtain⟨W,X,aA,Y,B,Z⟩:=h1;refine H w _ ⟨W,X.cY (B.imp id fun h=>?_),by simp;omega,fun b J=>?_,B.imp id F,Z⟩
 ·rw[bp F,bp F]
 ·rw[bp F,bp F,Y b F,m,aS J]
end Op.bm
namespace Op.bm
open b8 Op
theorem Hb:fI prog 141=true:=bd
theorem OU (x:List B) (m:x.length=32) {j bi:Nat} {l:ae} {xs:aN} (u:∀ y∈xs,y.length=32) (h1:l[bi]?=some (.q 32 (ao x))) (G:bi≠j) :
  u2 141 [.ptr bi 0 32] j l xs (fun y=>decide (y=x)):=by
 intro y p v F I w;apply cR func141 [];have h:v[bi]?=some (.q 32 (ao x)):=by rw[F.same _ (aY h1) G];exact h1
 have H:=aY h;have g:∀ c:am,(v++[c])[bi]?=some (.q 32 (ao x)):=fun c=>by rw[aS H];exact h
 have t:=br (u y p);have o:=br m;have heq:=pa (u y p) m;obtain⟨J,z⟩:=aq (ao x);obtain⟨K,C⟩:=aq (ao y);rw[<-z] at g o heq;rw[<-C] at t heq ⊢;simp[g,t,o,heq,aI];exact w _ V fun b D=>aS D
def nh (x y:List B) :Bool:=!decide (y=x)
theorem Gv {l0 l:ae} {w:U} {xs:aN} {J:Bool} (h:b7 32 ao l0 l w xs J) (I:∀ y∈xs,y.length=32) (S:xs.length<=1000000) (x:List B) (X:x.length=32) {bi:Nat} (h1:l0[bi]?=some (.q 32 (ao x)))
  {K:cv} (D:∀ (m:bP) z,l.length<=z.length->(∀ b,b<l0.length->z[b]?=l0[b]?)->m.l=xs.filter (nh x)->m.isNone=J->K (ai m) z) :
  cG 140 [w,.fn 141 [] [.ptr bi 0 32]] l K:=by
 refine FT checked.mixed ed ?_;obtain⟨j,O,am,C,ak,P⟩:=h;have R:=aY h1;have Q:l[bi]?=some (.q 32 (ao x)):=by rw[C bi R];exact h1
 by_cases v:bq w=true
 ·have W:=go.1 v;subst W;have Y:xs=[]:=by have:=O.q.pn;rwa [nD] at this
  subst Y;refine Gw (j:=l.length+1) (xs:=[]) (p:=fun y=>decide (y=x)) Hb (.nil _) V V (fun y Z=>by cases Z) fun r o G g u=>?_
  obtain rfl:=go.1 u;refine⟨.af,o,⟨rfl,fun _=>.inl rfl⟩,.same _,g.le,D none o g.le (fun b t=>?_) rfl (by rw[<-P];rfl)⟩;rw[g.same b F F];exact C b t
 ·have H:bq w=false:=pQ.2 v;have al:l0.length<=j:=ak.resolve_left fun h=>v (go.2 h)
  refine Gw (p:=fun y=>decide (y=x)) Hb O I S (OU x X I Q F) fun r o G g u=>?_
  have T:bq r=false:=by rw[u];exact H
  obtain⟨ag,aj⟩:=pt G T;refine⟨_,o.set j .dead,ag,aj,by have:=g.le;simpa using this,D (some (xs.filter (nh x))) _ (by have:=g.le;simpa using this) (fun b t=>?_) rfl (by rw[<-P,H];rfl)⟩;rw[bp F,g.same b F F];exact C b t
def lU (x:List B) (m:bP) :bP:=match m with | none=>none | some a=>some (a.filter (nh x))
def eA (x:List B) (s:aK) :aK:={ s with bA:=lU x s.bA }
theorem w1 (x:List B) (m:bP) :(lU x m).l=m.l.filter (nh x):=by cases m<;>rfl
theorem K4 {x:List B} {m g:bP} (h1:g.l=m.l.filter (nh x)) (h:g.isNone=m.isNone) :g=lU x m:=by
 cases m with
 | none=>cases g with
  | none=>rfl
  | some a=>cases h
 | some a=>cases g with
  | none=>cases h
  | some b=>exact cm some h1
theorem DS {x:List B} {s:aK} (h:mU s) :mU (eA x s):=by
 refine⟨h.op,h.id,fun y g=>?_,?_⟩
 ·have:y∈(lU x s.bA).l:=g;rw[w1] at this;exact h.bA y (c7.1 this).1
 ·show (lU x s.bA).l.length<=_;rw[w1];exact dC (hG _ _) h.len
def gone (s:aK) :Bool:=s.bA.l.isEmpty
def cK (x:List B) (l:List aK) :List aK:=(l.map (eA x)).filter gone
def cL (x:List B) (l:List aK) :List aK:=(l.map (eA x)).filter fun s=>!gone s
def eU (l:List aK) :fr:=match l with | []=>none | a::r=>some (a::r)
theorem iV (l:List aK) :(eU l).l=l:=by cases l<;>rfl
theorem DX (l:List aK) :(eU l).isNone=l.isEmpty:=by cases l<;>rfl
theorem zF {p:aK->Bool} {f:aK->aK} {l:List aK} {k:Nat} {y:aK} (h:l[k]?=some y) :((l.take (k+1)).map f).filter p=((l.take k).map f).filter p++(if p (f y) then [f y] else []):=by rw[eD,h,dk,kB];cases g:p (f y)<;>simp[g]
structure My (c:Int) (s:fr) (x:List B) (k:Nat) (v1:U) (l:ae) :Prop where
 ol:l[0]?=some (.q 2 (b1 c s))
 mF:l[1]?=some (.q 32 (ao x))
 kn:l[2]?=some (.q 2 [.i6 0,.af])
 ex:∃ g h j,l[3]?=some (.q 2 [.i6 c,g])/\aJ 45 l v1 h ((cK x (s.l.take k)).map aX)/\aJ 45 l g j ((cL x (s.l.take k)).map aX)/\(v1=.af\/4<=h)/\(g=.af\/4<=j)/\(v1=.af\/g=.af\/h≠j) ∧
  bq v1=(cK x (s.l.take k)).isEmpty/\bq g=(cL x (s.l.take k)).isEmpty
 len:4<=l.length
structure Mz (c:Int) (s:fr) (x:List B) (k:Nat) (sgZ:aP) (l:ae) :Prop where
 h0:sgZ 2=.ptr 0 0 2
 i9:sgZ 3=.ptr 1 0 32
 kb:sgZ 4=.ptr 2 0 2
 m8:sgZ 8=.ptr 3 0 2
 Hj:sgZ 22=cJ s
 Hk:sgZ 23=.i6 s.l.length
 Qv:sgZ 24=.i6 k
 h:∃ v1,sgZ 9=v1/\My c s x k v1 l
theorem tb {l:ae} {v:U} {j:Nat} {es:List aK} {s:aK} (h:aJ 45 l v j (es.map aX)) (o:(aX s).length=45) (D:es.length<=1000000) :
  ∃ g m l',ep (l++[.q 45 (aX s)]) 45 176 v (.ad 45 l.length 0 1 1 45)=some (g,l')/\aJ 45 l' g m ((es++[s]).map aX)/\l.length+1<=l'.length/\(∀ b,b<l.length->v=.af\/b≠j->l'[b]?=l[b]?)/\(l.length<=m\/(v≠.af/\m=j))/\bq g=false:=by
 have B:=dw;obtain⟨g,m,l',p,t,u,d1,w,f1⟩:=i3 (h.more [.q 45 (aX s)]) (by_:=176) (x:=.ad 45 l.length 0 1 1 45) (xs:=[aX s]) (by simp[cD,o,aI]) (by simp[o]) F F (by rw[B];simp;omega);have f2:bq g=false:=by rw[f1];simp
 refine⟨g,m,l',p,by rw[dk];exact t,by simpa using u,fun b z C=>?_,?_,f2⟩
 ·rw[d1 b (by simp;omega) C,aS z]
 ·rcases w with h | h | h
  ·exact .inl (by simp at h;omega)
  ·exact .inr h
  ·rw[h] at f2;cases f2
def xX (c:Int) (l:List aK) (x:List B) :U:=
 if c2 c l=0 then .aZ [.ah (b1 c (eU (cL x l))),cJ (eU (cK x l)),.i6 0] else .aZ [.ah [.i6 0,.af],.af,.i6 (c2 c l)]
theorem Dc {l:ae} {a b c j m c' : U} (h1:Rd l a j) (p:Rd l b m) (q:Rd l c c') :Rd l (.aZ [a,b,c]) (.aZ [j,m,c']):=by
 refine .aZ _ _ rfl fun o x t g h=>?_
 rcases o with _ | _ | _ | o
 ·simp at g h;subst g h;exact h1
 ·simp at g h;subst g h;exact p
 ·simp at g h;subst g h;exact q
 ·simp at g
theorem JX {l:ae} {a b j m:U} (h1:Rd l a j) (p:Rd l b m) :Rd l (.ah [a,b]) (.ah [j,m]):=by
 refine .ah _ _ rfl fun o x q g h=>?_
 rcases o with _ | _ | o
 ·simp at g h;subst g h;exact h1
 ·simp at g h;subst g h;exact p
 ·simp at g
theorem XI (c:Int) (s:fr) (bv:hR s.l) (bZ:s.l.length<=1000000) (x:List B) (bB:x.length=32) :aV 91 [.ah (b1 c s),.ah (ao x)] (xX c s.l x):=by
 apply a8 func91 [];unfold xX;have b3:bt (.ad 45) (cJ s)=_:=ca _;have bS:=jw s;have bC:=br bB;have bl:=uH c s bv bZ;have bm:ar [U.ah (b1 c s)]=true:=by simp[b1,ar,U.ax,bS]
 by_cases ap:c2 c s.l=0
 ·simp[b1,bC];refine av bl bm ?_;simp[ap,b3];refine bw s.l.length (Mz c s x) ?_ ⟨V,V,V,V,V,V,V,.af,V,⟨rfl,rfl,rfl,⟨.af,0,0,rfl,.nil 0,.nil 0,.inl rfl,.inl rfl,.inl rfl,rfl,rfl⟩,V⟩⟩;rintro k ct l hk ⟨a4,a9,bb,bc,a5,a6,a7,S,bd,hH⟩;obtain⟨ct,rfl⟩:=zR a4 a9 bb bc bd a5 a6 a7;clear a4 a9 bb bc bd a5 a6 a7;simp;refine gq (fun h=>?_) (fun h=>?_)
  ·simp only[bI] at h;obtain⟨y,aT,cj⟩:=aQ (l:=s.l) (k:=k) F;have O:=bv y cj;have bg:=hn O;have cd:=DS (x:=x) O;have au:=hn cd;have a3:=cl (k:=k) F;have bq:bF (.ad 45) (cJ s) _=_:=c6 aT;have aR:=zD O.id;obtain⟨aY,aA,aB,⟨G,o,v,al,ag,Q,d1,d2,d3,ay,az⟩,b4⟩:=hH;obtain⟨n,aO⟩:=aq (l.length);have bz:∀ K:cv,(∀ w bE,b7 32 ao (l++[am.q 45 (aX y)]) bE w y.bA.l y.bA.isNone->K (.ah (ic y w)) bE)->cG 101 [.ah (aX y)] (l++[am.q 45 (aX y)]) K:=fun K bL=>D6 y O bL
   obtain⟨I,bO⟩:=aq (aX y);rw[<-bO] at bg bq aR bz;have f1:=bg.len;have cg:=iU f1;simp[bq,f1,cg,aI,<-aO];refine bz _ fun w aW j=>?_
   have b0:=j.le;have b5:(l++[am.q 45 I]).length=n+1:=by rw[aO];simp
   rw[b5] at b0;have cm:aW[n]?=some (.q 45 I):=by rw[j.same n F,aO];simp
   have aK:=aR w;have aL:(ic y w).length=45:=by rw[<-aK,nr w F,jU,f1]
   have bh:∀ h:44<(ic y w).length,(ic y w)[44]'h=w:=fun h=>by
    have:(ic y w)[44]?=some w:=by rw[<-aK,nr w F,bT F]
    exact (aH.1 this).2
   have bn:∀ m:bP,m=lU x y.bA->aw (ic y w) 44 [ai m]=aX (eA x y):=fun m X=>by
    rw[<-aK,KP I 44 _ _ F,aR (ai m),X];rfl
   obtain⟨lo,bN⟩:=aq (ic y w);rw[<-bN] at aL bh bn ⊢;have ch:aw I 0 lo=lo:=cH (by rw[aL,f1]);have cq:∀ c:am,(aW.set n c)[n]?=some c:=fun c=>bT F
   simp[cm,aL,ch,cq,bh]
   -- the struck idsZ
   have cc:b7 32 ao ((l++[am.q 45 I]).set n (.q 45 lo)) (aW.set n (.q 45 lo)) w y.bA.l y.bA.isNone:=by
    obtain⟨ck,C,cw,bG,a2,bH⟩:=j;refine⟨ck,C.cY (a2.imp id fun h=>by rw[bp F]),by simp;omega,fun b u=>?_,a2.imp id V,bH⟩;rw[jU] at u;by_cases bQ:b=n
    ·rw[bQ,bT F,bT F]
    ·rw[bp F,bp F];exact bG b u
   have bk:∀ b,b<n->((l++[am.q 45 I]).set n (.q 45 lo))[b]?=l[b]?:=fun b u=>by rw[bp F,aS F]
   refine Gv cc O.bA O.len x bB (bi:=1) (by rw[bk 1 F];exact aA) fun m ae b2 bx b6 b8=>?_
   have X:=K4 b6 b8;have bM:n+1<=ae.length:=by simp at b2;omega
   have ce:ae[n]?=some (.q 45 lo):=by rw[bx n (by simp;omega),bT F]
   have cf:∀ b,b<n->ae[b]?=l[b]?:=fun b u=>by rw[bx b (by simp;omega)];exact bk b u
   have b9:(ai m).cells=some [ai m]:=by cases m<;>rfl
   have bf:=bn m X;have cs:∀ c:am,(ae.set n c)[n]?=some c:=fun c=>bT F
   have aU:∀ h:44<(aX (eA x y)).length,(aX (eA x y))[44]'h=ai m:=fun h=>by rw[au.bA h,X];rfl
   have bu:bt (.ad 32) (ai m)=_:=ca _;have Z:=au.len;obtain⟨H,W⟩:=aq (ae.set n (.q 45 (aX (eA x y))));have t5:n+1<=H.length:=by rw[W];simpa using bM
   have t0:∀ b,b<n->H[b]?=l[b]?:=fun b u=>by rw[W,bp F];exact cf b u
   have t1:H[n]?=some (.q 45 (aX (eA x y))):=by rw[W];exact cs _
   have a0:aJ 45 H S o ((cK x (s.l.take k)).map aX):=ag.cY (by
    rcases ag.lt with h | h
    ·exact .inl h
    ·exact .inr (t0 o F))
   have a1:aJ 45 H G v ((cL x (s.l.take k)).map aX):=Q.cY (by
    rcases Q.lt with h | h
    ·exact .inl h
    ·exact .inr (t0 v F))
   have bU:(cK x (s.l.take k)).length<=1000000:=by
    unfold cK;refine dC (hG _ _) ?_;rw[cC,cI];omega
   have cb:(cL x (s.l.take k)).length<=1000000:=by
    unfold cL;refine dC (hG _ _) ?_;rw[cC,cI];omega
   have P:=zF (p:=gone) (f:=eA x) aT;have D:=zF (p:=fun s=>!gone s) (f:=eA x) aT;have J:gone (eA x y)=decide (m.l.length=0):=by
    have e:(eA x y).bA=m:=X.symm;unfold gone;rw[e];cases m.l<;>simp
   obtain⟨cu,aM⟩:=aq (aX (eA x y));simp only[<-aM] at bf aU Z t1 W;simp[ce,b9,bf];rw[<-W];by_cases Y:m.l.length=0
   ·rw[Y,bW rfl] at J;rw[J,aj rfl] at P;rw[J] at D;simp only[xk,kA,if_false,eb] at D;obtain⟨R,dd,t,T,C,bJ,dQ,ee,aE⟩:=tb a0 au.len bU;rw[<-aM] at T;have aP:=iU Z;simp[t1,Z,aU,bu,Y,aP,aI,T];refine bY.bo ?_;have z:∀ b,b<4->t[b]?=l[b]?:=fun b u=>by rw[dQ b F (d1.imp id fun h=>F)];exact t0 b F
    have aN:=a1.lt;have aD:aJ 45 t G v ((cL x (s.l.take k)).map aX):=a1.cY (by
     rcases aN with h | h
     ·exact .inl h
     ·rcases d3 with g | g | g
      ·exact .inr (dQ v h (.inl g))
      ·exact .inl g
      ·exact .inr (dQ v h (.inr fun e=>g e.symm)))
    simp[a3];refine⟨F,V,V,V,V,V,V,V,R,V,⟨by rw[z 0 F];exact aY,by rw[z 1 F];exact aA,by rw[z 2 F];exact aB,⟨G,dd,v,by rw[z 3 F];exact al,?_,?_,.inr ?_,d2,?_,?_,?_⟩,F⟩⟩
    ·show aJ 45 t R dd ((cK x (s.l.take (k+1))).map aX);unfold cK at C ⊢;rw[P];exact C
    ·show aJ 45 t G v ((cL x (s.l.take (k+1))).map aX);unfold cL at aD ⊢;rw[D];exact aD
    ·rcases ee with h | ⟨h,h'⟩
     ·omega
     ·rw[h'];exact d1.resolve_left h
    ·right;rcases d3 with g | g | g
     ·rcases aN with j | j
      ·exact .inl j
      ·rcases ee with h | ⟨h,_⟩
       ·exact .inr F
       ·exact bK g h
     ·exact .inl g
     ·rcases aN with j | j
      ·exact .inl j
      ·rcases ee with h | ⟨_,h'⟩
       ·exact .inr F
       ·exact .inr (by rw[h'];exact g)
    ·rw[aE];unfold cK;rw[P];simp
    ·rw[az];unfold cL;rw[D]
   ·rw[cp Y] at J;rw[J,ak V,eb] at P;rw[J] at D;simp only[sO,if_true] at D;obtain⟨R,dd,t,T,C,bJ,dQ,ee,aE⟩:=tb a1 au.len cb;rw[<-aM] at T;have aP:=iU Z;have t3:H[3]?=some (.q 2 [.i6 c,G]):=by rw[t0 3 F];exact al
    have cy:=Q.cells;have ci:=C.cells;have cx:¬ m.l=[]:=fun h=>Y (by rw[h];rfl)
    simp[t1,t3,Z,aU,bu,Y,aP,aI,T];refine bY.bo ?_;have z:∀ b,b<4->t[b]?=l[b]?:=fun b u=>by rw[dQ b F (d2.imp id fun h=>F)];exact t0 b F
    have cn:t[3]?=some (.q 2 [.i6 c,G]):=by rw[z 3 F];exact al
    have bs:=a0.lt;have bV:4<=dd:=by
     rcases ee with h | ⟨h,h'⟩
     ·omega
     ·rw[h'];exact d2.resolve_left h
    have aC:aJ 45 t S o ((cK x (s.l.take k)).map aX):=a0.cY (by
     rcases bs with h | h
     ·exact .inl h
     ·rcases d3 with g | g | g
      ·exact .inl g
      ·exact .inr (dQ o h (.inl g))
      ·exact .inr (dQ o h (.inr g)))
    simp[cn,ci,aw,a3];refine⟨F,V,V,V,V,V,V,V,S,V,⟨by rw[bp F,z 0 F];exact aY,by rw[bp F,z 1 F];exact aA,by rw[bp F,z 2 F];exact aB,⟨R,o,dd,bT F,?_,?_,d1,.inr bV,?_,?_,?_⟩,by simp;omega⟩⟩
    ·show aJ 45 _ S o ((cK x (s.l.take (k+1))).map aX);refine (show aJ 45 t S o ((cK x (s.l.take (k+1))).map aX) from ?_).cY (d1.imp id fun h=>by rw[bp F]);unfold cK at aC ⊢;rw[P];exact aC
    ·show aJ 45 _ R dd ((cL x (s.l.take (k+1))).map aX);refine (show aJ 45 t R dd ((cL x (s.l.take (k+1))).map aX) from ?_).cY (.inr (by rw[bp F]));unfold cL at C ⊢;rw[D];exact C
    ·rcases bs with j | j
     ·exact .inl j
     ·rcases ee with h | ⟨h,h'⟩
      ·exact .inr (.inr F)
      ·rcases d3 with g | g | g
       ·exact .inl g
       ·exact bK g h
       ·exact .inr (.inr (by rw[h'];exact g))
    ·rw[ay];unfold cK;rw[P]
    ·rw[aE];unfold cL;rw[D];simp
  ·simp[h];have bX:k=s.l.length:=by simp at h;omega
   obtain⟨aY,aA,aB,⟨G,o,v,al,ag,Q,d1,d2,d3,ay,az⟩,b4⟩:=hH;rw[bX,fl] at ag Q ay az;have cr:∀ c:am,(l.set 2 c)[2]?=some c:=fun c=>bT F
   have aC:∀ c:am,aJ 45 (l.set 2 c) S o ((cK x s.l).map aX):=fun c=>ag.cY (d1.imp id fun h=>by rw[bp F])
   have aD:∀ c:am,aJ 45 (l.set 2 c) G v ((cL x s.l).map aX):=fun c=>Q.cY (d2.imp id fun h=>by rw[bp F])
   simp[al,aB,cr];rw[aj ap];exact Dc (JX (.same _ rfl) ((aD _).q.jg o3 (eU _) (by rw[az,DX]) (iV _))) ((aC _).q.jg o3 (eU _) (by rw[ay,DX]) (iV _)) (.same _ rfl)
 ·rw[ak ap];simp[b1,bC];refine av bl bm ?_;simp[ap];exact aG
end Op.bm
namespace Op.bm
open b8 Op
def pk (g:aN) (y:List B) :Bool:=!decide (y∈g)
def w0 (g:aN) (m:bP) :bP:=match m with | none=>none | some a=>some (a.filter (pk g))
def jn (g:aN) (s:aK) :aK:={ s with bA:=w0 g s.bA }
def lI (g:aN) (l:List aK) :List aK:=(l.map (jn g)).filter fun s=>!gone s
theorem DR (g:aN) (m:bP) :(w0 g m).l=m.l.filter (pk g):=by cases m<;>rfl
theorem K5 (g:aN) (x:List B) (s:aK) :eA x (jn g s)=jn (g++[x]) s:=by
 unfold eA jn;congr 1;cases j:s.bA with
 | none=>rfl
 | some a=>
  show some ((a.filter (pk g)).filter (nh x))=some (a.filter (pk (g++[x])));rw[List.filter_filter];congr 2;funext y;unfold pk nh;by_cases h1:y=x<;>by_cases h:y∈g<;>simp[h1,h]
theorem QH {g:aN} {x:List B} {s:aK} (h:gone (jn g s)=true) :gone (eA x (jn g s))=true:=by unfold gone at h ⊢;have h1:(jn g s).bA.l=[]:=uT.1 h;show (lU x (jn g s).bA).l.isEmpty=true;rw[w1,h1];rfl
theorem Ix (x:List B) (g:aN) :∀ l:List aK,cL x (lI g l)=lI (g++[x]) l
 | []=>rfl
 | s::l=>by
  have h:=Ix x g l;unfold cL lI at h ⊢;rw[dh,dh,kC];cases j:gone (jn g s) with
  | true=>
   have:=QH (x:=x) j;rw[K5] at this;simp only[xk,kA,if_false];rw[h,kC,this];simp
  | false=>
   simp only[sO,if_true];rw[dh,kC,K5,kC,h]
theorem pu (x:List B) :∀ l:List aK,(cL x l).length+(cK x l).length=l.length
 | []=>rfl
 | s::l=>by
  have g:=pu x l;unfold cL cK at g ⊢;rw[dh,kC,kC];cases gone (eA x s)<;>simp<;>omega
def hj (s:aK) :Prop:=c4 s.op=0/\bJ s.op=s.id/\0<=s.aA/\s.aA<=1000000000/\eO s.op s.bA.l=true
theorem m9 (l:List aK) :rN l=true<->(∀ s∈l,hj s)/\l.Pairwise (fun a b=>a.aA<b.aA)/\l.Pairwise fun a b=>a.id≠b.id:=by
 constructor
 ·intro h;have hk:∀ k,k<l.length->iv l k=true:=io h;have q:∀ (k:Nat) (s:aK),l[k]?=some s->c4 s.op=0/\bJ s.op=s.id/\eJ l k<s.aA/\s.aA<=1000000000/\eO s.op s.bA.l=true/\s.id∉(l.take k).map aK.id:=fun k s o=>by
   have:=hk k (aH.1 o).1;unfold iv at this;rw[g3 o] at this;simp only[bN,bI] at this;exact this
  have T:∀ (d i:Nat) (a b:aK),l[i]?=some a->l[i+d+1]?=some b->a.aA<b.aA:=by
   intro d
   induction d with
   | zero=>
    intro i a b u p;have:=(q (i+1) b p).2.2.1;unfold eJ at this;rw[ak F,sX,g3 u] at this;exact this
   | succ d W=>
    intro i a b u p;obtain⟨D,t,_⟩:=aQ (l:=l) (k:=i+d+1) (by have:=(aH.1 p).1;omega);have h1:=W i a D u t;have m:=(q (i+d+1+1) b p).2.2.1;unfold eJ at m;rw[ak F,sX,g3 t] at m;omega
  refine⟨fun s o=>?_,kD.2 fun i g v j C=>?_,kD.2 fun i g v j C R=>?_⟩
  ·obtain⟨k,w⟩:=cc.1 o;obtain⟨h1,m,B,P,Q,_⟩:=q k s w;have Y:=D4 (l:=l) (k:=k) (by have:=(aH.1 w).1;omega) fun g j=>hk g (by have:=(aH.1 w).1;omega)
   exact⟨h1,m,F,P,Q⟩
  ·exact T (g - i - 1) i _ _ (bC v) (by rw[show i+(g - i - 1)+1=g by omega];exact bC j)
  ·have:=(q g _ (bC j)).2.2.2.2.2;refine this ?_;rw[<-R];exact sS (cc.2 ⟨i,by rw[dG C];exact bC v⟩)
 ·rintro⟨h1,m,B⟩;refine bW fun k hk=>?_
  have o:=bC hk;obtain⟨I,J,X,K,O⟩:=h1 _ (Ey hk);unfold iv;rw[g3 o];have G:eJ l k<l[k].aA:=by
   unfold eJ;by_cases z:k=0
   ·rw[aj z];omega
   ·rw[ak z,g3 (bC (l:=l) (i:=k - 1) F)];exact (kD.1 m) (k - 1) k F hk F
  have H:l[k].id∉(l.take k).map aK.id:=fun U=>by
   obtain⟨D,t,V⟩:=cF.1 U;obtain⟨g,j⟩:=cc.1 t;have S:=(aH.1 j).1;rw[cI] at S;rw[dG F] at j;have:=(kD.1 B) g k F hk F;rw[(aH.1 j).2] at this;exact this V
  simp only[I,J,G,K,O,H,oH,xB,kz]
theorem Ke (l:aN) :bQ l=true<->l.Pairwise fun a b=>bD a b<0:=by
 constructor
 ·intro h;refine kD.2 fun i g j m o=>?_
  have:=jK h (d:=g - i - 1) (i:=i) F;rw[show i+(g - i - 1)+1=g by omega] at this
  rwa [dx (bC j),dx (bC m)] at this
 ·intro h;refine um fun k hk h1=>?_
  have:=(kD.1 h) (k - 1) k F hk F
  rwa [dx (bC (l:=l) (i:=k - 1) F),dx (bC hk)]
theorem Tr {g:aN} {s:aK} (h:hj s) (m:gone (jn g s)=false) :hj (jn g s):=by
 obtain⟨h1,o,p,q,j⟩:=h;refine⟨h1,o,p,q,?_⟩;unfold eO at j ⊢;rw[bN,bN,bI] at j;have u:(jn g s).bA.l=s.bA.l.filter (pk g):=DR g s.bA;unfold gone at m;rw[u] at m ⊢;have v:0<(s.bA.l.filter (pk g)).length:=by
  cases t:s.bA.l.filter (pk g) with
  | nil=>rw[t] at m;cases m
  | cons a r=>simp
 rw[bW v,(Ke _).2 (((Ke _).1 j.2.1).sublist jT)];simp only[nA];exact fW.2 fun y w=>fW.1 j.2.2 y (c7.1 w).1
theorem mG {c:Int} {l:List aK} (h:c2 c l=0) :¬ (c<1\/8<c\/c<l.length)/\rN l=true:=by
 unfold c2 at h;split at h
 ·cases h
 ·rename_i h1;split at h
  ·rename_i g;exact⟨h1,g⟩
  ·cases h
theorem S2 {c:Int} {l:List aK} (h:c2 c l=0) (g:aN) :c2 c (lI g l)=0:=by
 obtain⟨h1,q⟩:=mG h;obtain⟨m,o,p⟩:=(m9 l).1 q;have B:(lI g l).length<=l.length:=by
  unfold lI;refine dC (hG _ _) ?_;simp
 have t:rN (lI g l)=true:=(m9 _).2 ⟨fun s j=>by
  unfold lI at j;obtain⟨v,u⟩:=c7.1 j;obtain⟨z,w,rfl⟩:=cF.1 v;exact Tr (m z w) (by simpa using u),((nF (f:=jn g) (R:=fun a b=>a.aA<b.aA)).2 o).sublist jT,((nF (f:=jn g) (R:=fun a b=>a.id≠b.id)).2 p).sublist jT⟩
 unfold c2;rw[ak F,t];rfl
theorem S1 {l:List aK} (h:∀ s∈l,hj s) :lI [] l=l:=by
 have h1:∀ s:aK,jn [] s=s:=fun s=>by
  unfold jn;have:w0 [] s.bA=s.bA:=by
   cases j:s.bA with
   | none=>rfl
   | some a=>exact cm some (rb.2 fun y _=>by unfold pk;simp)
  rw[this]
 unfold lI;rw[oD (g:=id) (fun s _=>h1 s),List.map_id,rb.2];intro s m;have:=(h s m).2.2.2.2;unfold eO at this;rw[bN,bI] at this;unfold gone;cases j:s.bA.l with
 | nil=>rw[j] at this;simp at this
 | cons a r=>rfl
end Op.bm
end Go.bf
namespace Go.bf
open Go Go.Proofs Go.Proofs.Tryz Go.RowKit
namespace Op.bm
open b8 Op
structure vd (s:aK) :Prop where
 op:vc s.op
 id:s.id.length=32
 bA:cU s.bA
theorem Xg {ts:List aC} {cs:ag} (h:cW prog (94::ts) cs) :∃ (s:aK) (cs' : ag),cs=aX s++cs'/\vd s/\cW prog ts cs':=by have h1:=nv (fs:=[3,55,57,23]) bd h;obtain⟨n,_,rfl,_,_,g⟩:=nu (k:=.i64) bd h1;obtain⟨v,_,rfl,q,j⟩:=D8 g;obtain⟨x,_,rfl,t,m⟩:=D7 j;obtain⟨u,cs',rfl,p,o⟩:=w5 m;exact⟨⟨n,v,x,u⟩,cs',by simp[aX,ao],⟨q,t,p⟩,o⟩
theorem Vv {s:aK} (h:s.id.length=32) :Row s (aX s):=by
 have g:=br h;have j:(aX s).length=45:=by unfold aX au;simp[g]
 refine⟨j,fun _=>rfl,?_,?_,fun m=>?_,o3 s⟩
 ·unfold aX au;simp
 ·unfold aX au;simp[g]
 ·exact (aH.1 (zp h)).2
def mX (s:aK) :Bool:=lF s.op||decide (40<s.bA.l.length)
def na (l:List aK) :Bool:=decide (∃ g∈l.take 21,mX g=true)||decide (20<l.length)
theorem TN {l:List aK} (h:na l=false) :l.length<=20/\∀ t∈l,mX t=false:=by unfold na at h;rw[pR,decide_eq_false_iff_not,decide_eq_false_iff_not] at h;refine⟨F,fun t j=>?_⟩;rw[aI F] at h;exact pQ.2 fun g=>h.1 ⟨t,j,g⟩
theorem Tt {s:aK} (h:vd s) (g:mX s=false) :mU s:=by unfold mX at g;rw[pR,decide_eq_false_iff_not] at g;have j:=g.1;unfold lF at j;simp only[pR,decide_eq_false_iff_not] at j;exact⟨⟨h.op.idsZ,F,⟨h.op.hy,h.op.qy,F⟩,F⟩,h.id,h.bA,F⟩
structure MP (c:Int) (s:fr) (k:Nat) (sgZ:aP) (l:ae) :Prop where
 n3:l=[.q 2 (b1 c s)]
 e7:sgZ 1=.ptr 0 0 2
 i9:sgZ 3=.i6 k
 jC:∀ (j:Nat) (t:aK),j<k->s.l[j]?=some t->mX t=false
theorem UC (c:Int) (s:fr) (ag:∀ t∈s.l,vd t) :aV 42 [.ah (b1 c s)] (.bool (na s.l)):=by
 apply a8 func42 [];have B:bt (.ad 45) (cJ s)=_:=ca _;simp[b1];refine bw (min s.l.length 21) (MP c s) ?_ ⟨rfl,V,V,fun m t h=>F⟩;rintro k ak l hk ⟨rfl,D,G,R⟩;obtain⟨ak,rfl⟩:=jP D G;clear D G;by_cases h:k<s.l.length
 ·have h' : (k:Int)<(s.l.length:Int):=F;by_cases am:k<=20
  ·have v:(k:Int)<=20:=F;obtain⟨y,C,aj⟩:=aQ (l:=s.l) (k:=k) h;have o:=Vv (ag y aj).id;have q:bF (.ad 45) (cJ s) _=_:=c6 C;have W:=cl (k:=k) F;have P:=JL y.op;have K:=dN y.op;have Q:bt (.ad 32) (ai y.bA)=_:=ca _;have J:mX y=true->na s.l=true:=fun g=>by
    unfold na;rw[bW (⟨y,cc.2 ⟨k,by rw[dG F];exact C⟩,g⟩:∃ t∈s.l.take 21,mX t=true)];rfl
   obtain⟨al,Y⟩:=aq (aX y);rw[<-Y] at o q;obtain⟨T,I⟩:=aq (au y.op);have f1:=o.len;have f3:=o.op;have f5:=o.bA;rw[<-I] at f3 P K;have ao:T.length=11:=by rw[I];rfl
   simp[b1,B,h',v,q,f1,f3];refine av P (by simp[ar,U.ax,K]) ?_;cases O:lF y.op with
   | true=>
    have g:=J (by unfold mX;rw[O];rfl);rw[g];simp;exact aG
   | false=>
    by_cases H:40<y.bA.l.length
    ·have g:=J (by unfold mX;rw[bW H];simp);have z:(40:Int)<(y.bA.l.length:Int):=F;rw[g];simp[q,f1,f5,Q,z];exact aG
    ·have z:¬ (40:Int)<(y.bA.l.length:Int):=F;simp[q,f1,f5,Q,z,W];refine⟨F,rfl,V,V,fun m t u j=>?_⟩;by_cases Z:m=k
     ·rw[Z,C] at j;obtain rfl:=cd j;unfold mX;rw[O,cp H];rfl
     ·exact R m t F j
  ·have v:¬ (k:Int)<=20:=F;have w:20<s.l.length:=F;have X:(20:Int)<(s.l.length:Int):=F;have g:na s.l=true:=by unfold na;simp[w]
   rw[g];simp[b1,B,h',v,X];exact aG
 ·have h' : ¬ (k:Int)<(s.l.length:Int):=F;have w:((20:Int)<(s.l.length:Int))<->20<s.l.length:=F;have g:na s.l=decide (20<s.l.length):=by
   unfold na;rw[cp (p:=∃ t∈s.l.take 21,mX t=true),Ac];rintro⟨t,j,S⟩;obtain⟨m,u⟩:=cc.1 j;have ae:=(aH.1 u).1;rw[cI] at ae;rw[dG F] at u;rw[R m t F u] at S;cases S
  rw[g];simp[b1,B,h',w];exact aG
end Op.bm
end Go.bf
namespace Go.bf
open Go Go.Proofs Go.Proofs.Tryz
namespace Op.bm
open b8 Op
theorem xN {l:ae} {v:U} {j:Nat} {es:aN} {x:List B} (h:aJ 32 l v j (es.map ao)) (o:(ao x).length=32) (G:es.length<=1000000) :
  ∃ g m l',ep (l++[.q 32 (ao x)]) 32 32 v (.ad 32 l.length 0 1 1 32)=some (g,l')/\aJ 32 l' g m ((es++[x]).map ao)/\l.length+1<=l'.length/\(∀ b,b<l.length->v=.af\/b≠j->l'[b]?=l[b]?)/\(l.length<=m\/(v≠.af/\m=j))/\bq g=false:=by
 have C:=dw;obtain⟨g,m,l',p,t,u,d1,w,f1⟩:=i3 (h.more [.q 32 (ao x)]) (by_:=32) (x:=.ad 32 l.length 0 1 1 32) (xs:=[ao x]) (by simp[cD,o,aI]) (by simp[o]) F F (by rw[C];simp;omega);have f2:bq g=false:=by rw[f1];simp
 refine⟨g,m,l',p,by rw[dk];exact t,by simpa using u,fun b z D=>?_,?_,f2⟩
 ·rw[d1 b (by simp;omega) D,aS z]
 ·rcases w with h | h | h
  ·exact .inl (by simp at h;omega)
  ·exact .inr h
  ·rw[h] at f2;cases f2
theorem Tw {g:aN} {s:aK} (h:mU s) :mU (jn g s):=by
 refine⟨h.op,h.id,fun y j=>?_,?_⟩
 ·have:y∈(w0 g s.bA).l:=j;rw[DR] at this;exact h.bA y (c7.1 this).1
 ·show (w0 g s.bA).l.length<=_;rw[DR];exact dC (hG _ _) h.len
theorem Tv {j:aN} {l:List aK} (h:hR l) :hR (lI j l):=fun s g=>by
 unfold lI at g;obtain⟨m,_⟩:=c7.1 g;obtain⟨p,o,rfl⟩:=cF.1 m;exact Tw (h p o)
theorem IQ {x:List B} {l:List aK} (h:hR l) :hR (cK x l):=fun s g=>by
 unfold cK at g;obtain⟨j,_⟩:=c7.1 g;obtain⟨o,m,rfl⟩:=cF.1 j;exact DS (h o m)
end Op.bm
end Go.bf
namespace Go.bf
open Go Go.Proofs Go.Proofs.Tryz Go.Sort Go.Shelf
namespace Op.bm
open b8 Op
def k9 (l:aN) :aN:=l.mergeSort fun x y=>!eN y x
theorem HE:∀ {xs:aN},(∀ i∈xs,i.length=32)->∃ g:List p1,g.map (·.1)=xs
 | [],_=>⟨[],rfl⟩
 | x::xs,h=>by
  obtain⟨g,m⟩:=HE (xs:=xs) fun i j=>h i (by simp[j])
  exact⟨⟨x,h x V⟩::g,by simp[m]⟩
theorem Wo (g:List p1) :(sorted qf g).map (·.1)=k9 (g.map (·.1)):=by unfold sorted k9;rw[List.map_mergeSort];intro a _ b _;rfl
theorem Uk {z:Nat} {l l' : ae} {v:U} {j:Nat} {es vH:List (ag)} (h:aJ z l v j es) (h' : gK z l' v j vH) :aJ z l' v j vH:=by
 cases h with
 | nil j=>have:=h'.pn;subst this;exact .nil j
 | ad j n cap m cs es P V W X Q R T=>
  generalize g:U.ad z j 0 n cap m=w at h';cases h' with
  | nil=>cases g
  | ad Y ai Z J aj o O B G H I C S D=>
   injection g with _ K p q t u
   subst p q t u;exact .ad j n cap m o _ B G H I C F (by simpa using D)
theorem T7 {l:ae} {v:U} {j:Nat} {xs:aN} (J:∀ i∈xs,i.length=32) (O:xs.length<=1000000) (m:bq v=xs.isEmpty) (h:aJ 32 l v j (xs.map ao)) {K:cv}
  (u:∀ l',l'.length=l.length->(∀ b,v=.af\/b≠j->l'[b]?=l[b]?)->aJ 32 l' v j ((k9 xs).map ao)->K (.aZ []) l') :cG 136 [v,.fn 137 [] []] l K:=by
 by_cases o:xs=[]
 ·subst o;have p:v=.af:=go.1 (by rw[m];rfl);subst p;exact Wi .af _ rfl l (u l rfl (fun _ _=>rfl) (by simpa [k9] using aJ.nil j))
 ·obtain⟨t,g⟩:=HE J;have D:t.map tx=xs.map ao:=by rw[<-g,oE];rfl
  have H:(sorted qf t).map tx=(k9 xs).map ao:=by rw[<-g,<-Wo,oE];rfl
  have P:t.length=xs.length:=by rw[<-g];simp
  have p:v≠.af:=fun I=>by subst I;rw[show bq .af=true from rfl] at m;exact o (by simpa using m.symm)
  rw[<-D] at h;exact Wm qf (Wk (by intro args w;exact enters_of func137 bd rfl args w)) Le ND GF PF (fun x y=>I8 x.1 y.1 x.2 y.2) h.q F (fun G=>bK (by rw[<-g,G];rfl) o)
   (fun l' h1 z B=>u l' h1 (fun b C=>z b (C.resolve_left p)) (by rw[<-H];exact Uk h B))
theorem KL (l:aN) (y:List B) :y∈k9 l<->y∈l:=by unfold k9;exact List.mem_mergeSort
theorem KK (l:aN) :(k9 l).length=l.length:=by unfold k9;exact List.length_mergeSort l
theorem In (l:aN) :∀ m,m<=l.length->∀ y,y∈jx l m<->y∈l.take m
 | 0,_,y=>by simp[jx]
 | m+1,v,y=>by
  have t:=In l m F;have q:m<l.length:=F;obtain⟨o,j,_⟩:=aQ q;rw[tu,eQ,t y,eD,j,eQ,dx j];simp only[Option.toList_some,fO];by_cases h:m=0\/o≠bn l (m - 1)
  ·rw[aj h];simp
  ·rw[ak h];have u:m≠0:=fun e=>h (.inl e)
   have h1:o=bn l (m - 1):=Decidable.byContradiction fun e=>h (.inr e)
   obtain⟨w,g,_⟩:=aQ (l:=l) (k:=m - 1) F;rw[dx g] at h1;simp only[eK,or_false];exact⟨.inl,fun p=>p.elim id fun e=>by
    rw[e,h1];exact cc.2 ⟨m - 1,by rw[dG F];exact g⟩⟩
theorem Sj (l:aN) (y:List B) :y∈dQ l<->y∈l:=by unfold dQ;rw[In l _ (aF _),fl]
end Op.bm
end Go.bf
namespace Go.bf
open Go Go.Proofs Go.Proofs.Tryz
namespace Op.bm
open b8 Op
def allM (l:List aK) :aN:=l.flatMap fun s=>s.bA.l
def mA (l:List aK) :bP:=if allM l=[] then none else some (dQ (k9 (allM l)))
def yO (c:Int) (l:List aK) :U:=if c2 c l=0 then .aZ [ai (mA l),.i6 0] else .aZ [.af,.i6 (c2 c l)]
theorem Db {l:ae} {a b j m:U} (h1:Rd l a j) (p:Rd l b m) :Rd l (.aZ [a,b]) (.aZ [j,m]):=by
 refine .aZ _ _ rfl fun o x q g h=>?_
 rcases o with _ | _ | o
 ·simp at g h;subst g h;exact h1
 ·simp at g h;subst g h;exact p
 ·simp at g
theorem Ny {l:List aK} {n:Nat} (h:∀ s∈l,s.bA.l.length<=n) :(allM l).length<=l.length*n:=by
 induction l with
 | nil=>simp[allM]
 | cons s l m=>
  have h1:=h s V;have g:=m fun o j=>h o (by simp[j])
  unfold allM at g ⊢;rw[List.flatMap_cons,cg,du,eI];omega
structure M2 (c:Int) (s:fr) (k:Nat) (v:U) (l:ae) :Prop where
 ol:l[0]?=some (.q 2 (b1 c s))
 ex:∃ j,aJ 32 l v j ((allM (s.l.take k)).map ao)/\(v=.af\/1<=j)/\bq v=(allM (s.l.take k)).isEmpty
 len:1<=l.length
structure M3 (c:Int) (s:fr) (k:Nat) (sgZ:aP) (l:ae) :Prop where
 Qu:sgZ 14=cJ s
 Zl:sgZ 15=.i6 s.l.length
 Zm:sgZ 16=.i6 k
 h:∃ v,sgZ 5=v/\M2 c s k v l
theorem XQ (c:Int) (s:fr) (v:hR s.l) (az:s.l.length<=1000000) (u:(allM s.l).length<=1000000) :aV 87 [.ah (b1 c s)] (yO c s.l):=by
 apply a8 func87 [];unfold yO;have aB:bt (.ad 45) (cJ s)=_:=ca _;have aw:=jw s;have I:=uH c s v az;have J:ar [U.ah (b1 c s)]=true:=by simp[b1,ar,U.ax,aw]
 have aJ:=dw;by_cases o:c2 c s.l=0
 ·simp[b1];refine av I J ?_;simp[o,aB];refine bw s.l.length (M3 c s) ?_ ⟨V,V,V,.af,V,⟨rfl,⟨0,.nil 0,.inl rfl,rfl⟩,V⟩⟩;rintro k aR l hk ⟨C,D,G,aU,H,hH⟩;obtain⟨aR,rfl⟩:=e2 C D G H;clear C D G H;simp;refine gq (fun h=>?_) (fun h=>?_)
  ·simp only[bI] at h;obtain⟨y,Q,aN⟩:=aQ (l:=s.l) (k:=k) F;have R:=v y aN;have p:=hn R;have ag:=cl (k:=k) F;have O:bF (.ad 45) (cJ s) _=_:=c6 Q;obtain⟨T,⟨S,m,d1,j⟩,aC⟩:=hH;have w:allM (s.l.take (k+1))=allM (s.l.take k)++y.bA.l:=by unfold allM;rw[eD,Q,xm];simp
   have aA:(allM (s.l.take (k+1))).length<=1000000:=by
    refine dC ?_ u;have:allM s.l=allM (s.l.take (k+1))++allM (s.l.drop (k+1)):=by unfold allM;rw[<-xm,iY]
    rw[this,cg];omega
   rw[w,cg] at aA;obtain⟨X,ap⟩:=aq (aX y);rw[<-ap] at p O;have f1:=p.len;have f5:=p.bA;have aK:=iU f1;obtain⟨W,aP,z,Y,B,Z,ae,ee,ak⟩:=i3 (m.more [.q 45 X]) (by_:=32) (x:=ai y.bA) (xs:=y.bA.l.map ao) (by simp[ai]) (fun e t=>by obtain⟨aW,aO,rfl⟩:=cF.1 t;exact br (R.bA aW aO)) F F (by rw[aJ];simp;omega);rw[<-dk,<-w] at B;have a0:∀ fe:am,(l++[fe])[l.length]?=some fe:=fun fe=>pT
   simp[O,f1,aK,f5,Y,aI];refine bY.bo ?_;simp[ag];have aD:bq W=(allM (s.l.take (k+1))).isEmpty:=by
    rw[ak,j,w];cases allM (s.l.take k)<;>cases y.bA.l<;>rfl
   refine⟨F,V,V,V,W,V,⟨?_,⟨aP,B,?_,aD⟩,?_⟩⟩
   ·rw[ae 0 V (d1.imp id fun h=>F),aS F];exact T
   ·rcases ee with g | ⟨g,al⟩ | g
    ·right;simp at g;omega
    ·right;rw[al];exact d1.resolve_left g
    ·exact .inl g
   ·simp at Z;omega
  ·simp[h];have ay:k=s.l.length:=by simp at h;omega
   obtain⟨T,⟨S,m,d1,j⟩,aC⟩:=hH;rw[ay,fl] at m j;have P:∀ i∈allM s.l,i.length=32:=fun i K=>by
    unfold allM at K;obtain⟨aT,aL,hit⟩:=EE.1 K;exact (v aT aL).bA i hit
   refine T7 P u j m fun z a2 a3 aY=>?_
   simp;have aH:b7 32 ao (z.take 1) z aU (k9 (allM s.l)) (allM s.l).isEmpty:=⟨S,aY,by simp;omega,fun b au=>by
    rw[cI] at au;rw[dG F],d1.imp id fun h=>by rw[cI];omega,j⟩
   refine Gd aH (fun x aM=>P x ((KL _ _).1 aM)) (by rw[KK];exact u) fun r a1 aE=>?_
   simp;rw[aj o];refine Db (aE.rd cP (mA s.l) ?_ ?_) (.same _ rfl)
   ·unfold mA;cases allM s.l<;>rfl
   ·unfold mA;split
    ·rename_i t;rw[t];simp[k9,dQ,jx]
    ·rfl
 ·simp[b1];refine av I J ?_;simp[o];exact aG
end Op.bm
namespace Op.bm
open b8 Op
def iT (a b:aM) :Bool:=decide (a.dW=b.dW)&&(decide (a.ay.l=b.ay.l)&&(decide (a.eP=b.eP)&&(dn (fF a.act) (fF b.act)&&(decide (a.e=b.e)&&decide (a.s=b.s)))))
theorem Ca:my prog 20 53=some [.i .u32,.i .u32]:=bd
theorem zu (a b c d:D) :dP prog .eql 53 (.ah [a1 a,a1 b]) (.ah [a1 c,a1 d])=some (.bool (decide (a=c)&&decide (b=d))):=by rw[te Ca bd bd rfl rfl];simp[dn,U.beq]
theorem JM (a b:aM) (o:dv a) (p:dv b) :aV 71 [.ah (au a),.ah (au b)] (.bool (iT a b)):=by
 apply a8 func71 [];unfold iT;have q:=bV a.ay;have t:=bV b.ay;have u:=ur a.ay b.ay o.idsZ p.idsZ o.len;have g:=xJ a.act b.act;have v:=zu a.e a.s b.e b.s;have w:(ai a.ay).cells=some [ai a.ay]:=by cases a.ay<;>rfl
 have z:(ai b.ay).cells=some [ai b.ay]:=by cases b.ay<;>rfl
 unfold fF at g ⊢;simp[au];by_cases h1:a.dW=b.dW
 ·simp[h1];refine av u (by simp[ar,q,t]) ?_;by_cases h:a.ay.l=b.ay.l
  ·by_cases j:a.eP=b.eP
   ·cases m:dn [a7 a.act.kind,.str a.act.key,a7 a.act.val.kind,.i6 a.act.val.num,cX a.act.val.bits,.str a.act.val.text] [a7 b.act.kind,.str b.act.key,a7 b.act.val.kind,.i6 b.act.val.num,cX b.act.val.bits,.str b.act.val.text] with
    | false=>
     rw[m] at g;simp[h1,h,j,g];exact aG
    | true=>
     rw[m] at g;simp[h1,h,j,g,v];exact aG
   ·simp[h1,h,j];exact aG
  ·simp[h1,h];exact aG
 ·simp[h1];exact aG
theorem Kv (a:aM) :iT a a=true:=by unfold iT;simp[fF,dn,U.beq]
end Op.bm
namespace Op.bm
open b8 Op
theorem Sy {s:aK} (h:hj s) :s.bA.l≠[]:=by have:=h.2.2.2.2;unfold eO at this;rw[bN,bI] at this;intro e;rw[e] at this;simp at this
theorem Sx {s:aK} (h:hj s) :s.bA.l.length<=4:=by
 obtain⟨h1,_,_,_,g⟩:=h;unfold eO at g;rw[bN,bN] at g;have p:=wj (Dm g.2.1) (m:=s.op.ay.l) fun x o=>io (fW.1 g.2.2 x o)
 have q:¬ 4<s.op.ay.l.length:=fun j=>by
  unfold c4 at h1;rw[aj j] at h1;cases h1
 omega
theorem Io (l:List aK) :(mA l).l=dQ (k9 (allM l)):=by
 unfold mA;split
 ·rename_i h;rw[h];simp[k9,dQ,jx]
 ·rfl
theorem Ip (l:List aK) (y:List B) :y∈(mA l).l<->∃ s∈l,y∈s.bA.l:=by rw[Io,Sj,KL];unfold allM;exact EE
theorem St (l:List aK) :(mA l).l.length<=(allM l).length:=by rw[Io];unfold dQ;refine dC (Bh _ _) ?_;rw[KK];exact aF _
theorem WH {x:List B} {s:aK} (h:x∉s.bA.l) :eA x s=s:=by
 unfold eA;have:lU x s.bA=s.bA:=by
  cases g:s.bA with
  | none=>rfl
  | some a=>
   rw[g] at h;exact cm some (rb.2 fun y j=>by
    unfold nh;rw[cp (fun e=>h (by rw[<-e];exact j))];rfl)
 rw[this]
theorem OV {x:List B} {l:List aK} (q:∀ s∈l,hj s) (h:∀ s∈l,x∉s.bA.l) :cL x l=l/\cK x l=[]:=by
 have o:l.map (eA x)=l:=(oD (f:=eA x) (g:=id) fun s j=>WH (h s j)).trans (List.map_id l);have m:∀ s∈l,gone s=false:=fun s j=>by
  have:=Sy (q s j);unfold gone;cases p:s.bA.l with
  | nil=>exact bK p this
  | cons a r=>rfl
 unfold cL cK;rw[o];exact⟨rb.2 fun s j=>by rw[m s j];rfl,List.filter_eq_nil_iff.2 fun s j=>by rw[m s j];simp⟩
end Op.bm
namespace Op.bm
open b8 Op
theorem Vx {s:aK} (h:s.id.length=32) (w:U) :ic s w=(aX s).set 44 w:=by
 have g:=br h;have j:(aX s).length=45:=by unfold aX au;simp[g]
 rw[<-zD h w,nr w F]
theorem U4 {s:aK} (h:s.id.length=32) {l:ae} {w:U} (q:Rd l w (ai s.bA)) :Rd l (.ah (ic s w)) (.ah (aX s)):=by
 rw[Vx h w];refine .ah _ _ V fun o x t g j=>?_
 by_cases m:o=44
 ·subst m;rw[zp h] at j;have p:=(aH.1 (zp h)).1;rw[bT p] at g;cases g;cases j;exact q
 ·rw[bp (fun e=>m e.symm),j] at g;cases g;exact .same _ (rx (o3 s) o _ j)
theorem Ls (s:aK) (g:mU s) :aV 101 [.ah (aX s)] (.ah (aX s)):=by
 refine wI checked.mixed ed ?_;refine D6 s g fun w j h=>?_
 exact U4 g.id (h.rd cP s.bA rfl rfl)
structure MA (c:Int) (s:fr) (L:ae) (k:Nat) (sgZ:aP) (l:ae) :Prop where
 e7:sgZ 1=.ptr L.length 0 2
 h0:sgZ 2=.ptr (L.length+1) 0 2
 i9:sgZ 3=.ptr (L.length+2) 0 2
 BF:sgZ 10=cJ s
 Hh:sgZ 11=.i6 s.l.length
 Hi:sgZ 12=.i6 k
 BE:∀ b,b<L.length->l[b]?=L[b]?
 len:L.length+3<=l.length
 mF:l[L.length+1]?=some (.q 2 [.i6 0,.af])
 ex:∃ v j,l[L.length+2]?=some (.q 2 [.i6 c,v])/\aJ 45 l v j ((s.l.take k).map aX)/\(v=.af\/L.length+3<=j)/\bq v=(s.l.take k).isEmpty
theorem O6 (c:Int) (s:fr) (aA:hR s.l) (aM:s.l.length<=1000000) {L:ae} {K:cv}
  (ao:∀ v l' j,aJ 45 l' v j (s.l.map aX)->(v=.af\/L.length<=j)->L.length<=l'.length->(∀ b,b<L.length->l'[b]?=L[b]?)->bq v=s.l.isEmpty->K (.ah [.i6 c,v]) l') :
  cG 100 [.ah (b1 c s)] L K:=by
 apply cR func100 [[[0],[1],[2],[3,1]]];have az:bt (.ad 45) (cJ s)=_:=ca _;have aL:=jw s;simp[b1,az,aw];refine bw s.l.length (MA c s L) ?_ ⟨V,V,V,V,V,V,fun b g=>by simp[List.getElem?_append,g],V,V,.af,0,V,.nil 0,.inl rfl,rfl⟩;rintro k aH l hk ⟨B,H,I,C,D,G,z,aN,ag,v,j,t,m,d1,Z⟩;obtain⟨aH,rfl⟩:=pJ B H I C D G;clear B H I C D G;simp;refine gq (fun h=>?_) (fun h=>?_)
 ·simp only[bI] at h;obtain⟨y,X,aD⟩:=aQ (l:=s.l) (k:=k) F;have Q:=aA y aD;have p:=hn Q;have ak:=cl (k:=k) F;have O:bF (.ad 45) (cJ s) _=_:=c6 X;have W:=Ls y Q;have J:=o3 y;have T:s.l.take (k+1)=s.l.take k++[y]:=by rw[eD,X];rfl
  have ay:(s.l.take k).length<=1000000:=by rw[cI];omega
  have aO:∀ fe:am,(l++[fe])[l.length]?=some fe:=fun fe=>pT
  have R:∀ fe:am,(l++[fe])[L.length+2]?=some (.q 2 [.i6 c,v]):=fun fe=>by rw[aS F];exact t
  obtain⟨ai,dd,Y,o,w,aj,dQ,ee,al⟩:=tb (m.more [.q 45 (aX y)]) p.len ay;obtain⟨aK,ap⟩:=aq (aX y);rw[<-ap] at p O W J o;have f1:=p.len;have S:=iU f1;have aC:=m.cells;have aB:=w.cells;simp at aj ee;simp[O,f1,S,aI,R];refine av W (by simp[ar,U.ax,J]) ?_;simp at o dQ;simp[f1,S,o,R];refine bY.bo ?_;have u:∀ b,b<L.length+3->Y[b]?=l[b]?:=fun b g=>by
   rw[dQ b F (d1.imp id fun h=>F),aS F]
  have aE:Y[L.length+2]?=some (.q 2 [.i6 c,v]):=by rw[u _ F];exact t
  have P:ai=.af\/L.length+3<=dd:=by
   rcases ee with h | ⟨h,h'⟩
   ·right;omega
   ·right;rw[h'];exact d1.resolve_left h
  simp[aE,aB,aw,ak];refine⟨F,V,V,V,V,V,V,fun b g=>?_,by simp;omega,?_,ai,dd,bT F,?_,P,?_⟩
  ·rw[bp F,u b F];exact z b g
  ·rw[bp F,u _ F];exact ag
  ·rw[T];exact w.cY (P.imp id fun h=>by rw[bp F])
  ·rw[al,T];simp
 ·simp[h];have au:k=s.l.length:=by simp at h;omega
  rw[au,fl] at m Z;have aG:∀ c:am,(l.set (L.length+1) c)[L.length+1]?=some c:=fun c=>bT F
  have aC:=m.cells;simp[t,ag,aG];refine ao v _ j (m.cY (d1.imp id fun h=>by rw[bp F])) (d1.imp id fun h=>F) (by simp;omega) (fun b g=>?_) Z;rw[bp F];exact z b g
def gx (c:Int) (l:List aK) (t:Int) (o:aM) (m:aN) :Int:=
 if c2 c l≠0 then c2 c l else if c4 o≠0 then 8 else if t<0\/1000000000<t\/eO o m=false then 2 else if bJ o∈l.map aK.id then 14 else if t<=eJ l l.length then 32 else if (l.length:Int)=c then 18 else 0
def zd (c:Int) (l:List aK) (t:Int) (o:aM) (m:bP) :U:=
 .aZ [if gx c l t o m.l=0 then .ah (b1 c (some (l++[⟨t,o,bJ o,m⟩]))) else .ah [.i6 0,.af],.i6 (gx c l t o m.l)]
theorem XT (c:Int) (s:fr) (T:hR s.l) (b5:s.l.length<=900000) (t:Int) (o:aM) (aP:dv o) (m:bP) (a7:cU m) (bb:m.l.length<=1000000) :
  aV 53 [.ah (b1 c s),.i6 t,.ah (au o),ai m] (zd c s.l t o m):=by
 apply a8 func53 [da 0 7++[[7,1]]];unfold zd;have Z:bt (.ad 45) (cJ s)=_:=ca _;have a4:=jw s;have aL:=dN o;have bs:=bV m;have a2:=uH c s T F;have ap:=uG o aP;have a9:=LS o aP m a7 bb;have aO:=BR o;have v:=br aO;have bd:=CI s T F (bJ o) aO;have a5:=nb (bJ o) (s.l.map aK.id) 0;have a1:=cP (bJ o);have aN:ar [U.ah (b1 c s)]=true:=by simp[b1,ar,U.ax,a4]
 have b3:∀ h:True,ar [U.ah (b1 c s)]=true:=fun _=>aN
 obtain⟨u,aH⟩:=aq (au o);have w:u.length=11:=by rw[aH];rfl
 have aU:aX ⟨t,o,bJ o,m⟩=.i6 t::(u++(ao (bJ o)++[ai m])):=by rw[aH];rfl
 have bc:mU ⟨t,o,bJ o,m⟩:=⟨aP,aO,a7,bb⟩
 have bf:=Ls _ bc;have ag:=(hn bc).len;have a3:=o3 ⟨t,o,bJ o,m⟩;rw[<-aH] at ap a9 aL ⊢;have bw:et (bJ o)=.ah (ao (bJ o)):=rfl;rw[bw] at ap;obtain⟨D,bm⟩:=aq (ao (bJ o));rw[<-bm] at ap v bd a1 aU;obtain⟨b2,a0⟩:=aq (aX ⟨t,o,bJ o,m⟩);have bB:=ag;rw[<-a0] at aU bf ag a3;have al:aw (bO 32 (.int .u8 0)) 0 D=D:=cH (by rw[v];rfl);have bz:(ai m).cells=some [ai m]:=by cases m<;>rfl
 have bS:aw (U.int .u32 0::U.af::U.int .u64 0::U.int .u8 0::U.str [] ::U.int .u8 0::U.i6 0::U.int .u64 0::U.str [] ::U.int .u32 0::U.int .u32 0::(bO 32 (.int .u8 0)++[U.af])) 0 u=u++(bO 32 (.int .u8 0)++[U.af]):=by
  unfold aw;simp[w]
 have bI:(u++(bO 32 (.int .u8 0)++[U.af])).length=44:=by simp[w,bO]
 have bN:aw (u++(bO 32 (.int .u8 0)++[U.af])) 11 D=u++(D++[U.af]):=by
  unfold aw;simp[w,v,Ah,bO]
 have bH:(u++(D++[U.af])).length=44:=by simp[w,v]
 have bQ:aw (u++(D++[U.af])) 43 [ai m]=u++(D++[ai m]):=by
  unfold aw;simp[w,v,pU,Ah,aI]
 by_cases z:c2 c s.l=0
 ·simp[b1,w];refine av a2 aN ?_;simp[z,w,aI];refine av ap (by simp[ar,U.ax,aL]) ?_;by_cases h1:c4 o=0
  ·by_cases B:t<0
   ·have g:gx c s.l t o m.l=2:=by unfold gx;simp[z,h1,B]
    rw[g];simp[v,al,Z,h1,B,aI];exact aG
   ·by_cases O:1000000000<t
    ·have g:gx c s.l t o m.l=2:=by unfold gx;simp[z,h1,O]
     rw[g];simp[v,al,Z,h1,B,O,aI];exact aG
    ·simp[v,al,Z,h1,B,O,w,aI];refine av a9 (by simp[ar,U.ax,aL,bs]) ?_;cases aB:eO o m.l with
     | false=>
      have g:gx c s.l t o m.l=2:=by unfold gx;simp[z,h1,aB]
      rw[g];simp;exact aG
     | true=>
      simp[v,aI];refine av bd (by simp[ar,U.ax,a4,a1]) ?_;by_cases Y:bJ o∈s.l.map aK.id
      ·have g:gx c s.l t o m.l=14:=by unfold gx;rw[ak F,ak F,ak (by simp[B,O,aB]),aj Y]
       have R:0<=c8 (bJ o) (s.l.map aK.id) 0:=a5.2 Y;rw[g];simp[R];exact aG
      ·have R:¬ 0<=c8 (bJ o) (s.l.map aK.id) 0:=fun h=>Y (a5.1 h)
       have aT:gx c s.l t o m.l=if t<=eJ s.l s.l.length then 32 else if (s.l.length:Int)=c then 18 else 0:=by
        unfold gx;rw[ak F,ak F,ak (by simp[B,O,aB]),ak Y]
       have b6:∀ K:Prop,K->K:=fun _ h=>h
       by_cases C:t<=eJ s.l s.l.length
       ·have g:gx c s.l t o m.l=32:=by rw[aT,aj C]
        have H:s.l.length≠0:=fun bv=>by rw[bv] at C;simp[eJ] at C;omega
        obtain⟨j,G,W⟩:=aQ (l:=s.l) (k:=s.l.length - 1) F;have bE:eJ s.l s.l.length=j.aA:=by unfold eJ;rw[ak H,g3 G]
        have az:IntKind.i64.wrap ((s.l.length:Int) - 1)=((s.l.length - 1:Nat) :Int):=by rw[IntKind.wrap_i64];omega
        have S:bF (.ad 45) (cJ s) (.i6 ((s.l.length - 1:Nat) :Int))=some (.bR (aX j) 0):=by simp[cJ,G]
        have Q:=hn (T j W);have J:=Q.aA;have I:=Q.len;obtain⟨bi,aJ⟩:=aq (aX j);simp only[<-aJ] at I J S;have aC:t<=j.aA:=by rw[<-bE];exact C
        have aR:0<s.l.length:=F;rw[g];simp[R,aR,az,S,I,J,aC];exact aG
       ·have bu:∀ {P:Prop},((s.l.length=0->P)/\(∀ j,s.l[s.l.length - 1]?=some j->j∈s.l->0<s.l.length->¬ t<=j.aA->P))->P:=fun {P} ⟨bn,bq⟩=>by
         by_cases H:s.l.length=0
         ·exact bn H
         ·obtain⟨j,G,W⟩:=aQ (l:=s.l) (k:=s.l.length - 1) F;exact bq j G W F (fun h=>C (by unfold eJ;rw[ak H,g3 G];exact h))
        -- what comes behind
        refine bu ⟨fun H=>?_,fun j G W aR aC=>?_⟩
        rotate_left
        have az:IntKind.i64.wrap ((s.l.length:Int) - 1)=((s.l.length - 1:Nat) :Int):=by rw[IntKind.wrap_i64];omega
        have S:bF (.ad 45) (cJ s) (.i6 ((s.l.length - 1:Nat) :Int))=some (.bR (aX j) 0):=by simp[cJ,G]
        have Q:=hn (T j W);have J:=Q.aA;have I:=Q.len;obtain⟨bi,aJ⟩:=aq (aX j);simp only[<-aJ] at I J S;simp[R,aR,az,S,I,J,aC]
        rotate_left
        simp[R,H]
        all_goals
         refine gq (fun aD=>?_) (fun aD=>?_)
         ·have aE:(s.l.length:Int)=c:=by simp at aD;omega
          have g:gx c s.l t o m.l=18:=by rw[aT,ak C,aj aE]
          rw[g];simp;exact aG
         ·have aE:¬ (s.l.length:Int)=c:=by simp at aD;omega
          have g:gx c s.l t o m.l=0:=by rw[aT,ak C,ak aE]
          rw[g];simp;refine O6 c s T F fun bh p cc ae a6 bx aW b8=>?_
          have b7:4<=p.length:=by simpa using bx
          have bU:∀ fe:am,(p++[fe])[1]?=some (.q 11 u):=fun fe=>by rw[aS F,aW 1 V];rfl
          have bW:∀ fe:am,(p++[fe])[2]?=some (.q 2 [.i6 0,.af]):=fun fe=>by rw[aS F,aW 2 V];rfl
          have bX:∀ fe:am,(p++[fe])[3]?=some (.q 32 D):=fun fe=>by rw[aS F,aW 3 V];rfl
          have b9:s.l.length<=1000000:=F;obtain⟨cd,bg,X,ay,aY,bk,dQ,ee,bl⟩:=tb (s:=⟨t,o,bJ o,m⟩) ((ae.more [.q 2 [.i6 c,bh]])) bB F;rw[<-a0] at ay;have cb:=ae.cells;have bG:=aY.cells;have bA:∀ fe:am,(p++[fe])[p.length]?=some fe:=fun fe=>pT
          simp at ay bk ee dQ;simp[bU,bX,w,v,aI,bS,bN,bQ,bI,bH,bz,<-aU];refine av bf (by simp[ar,U.ax,a3]) ?_;have bC:=iU ag;simp[ag,bC,ay];refine bY.bo ?_;have bZ:X[2]?=some (.q 2 [.i6 0,.af]):=by
           rw[dQ 2 F (a6.imp id fun h=>by simp at h;omega)];exact bW _
          have b0:X[p.length]?=some (.q 2 [.i6 c,bh]):=by
           rw[dQ _ F (ae.lt.imp id fun h=>F)];exact bA _
          have b4:4<=bg/\bg≠p.length:=by
           rcases ee with h | ⟨h,h'⟩
           ·omega
           ·have h1:=a6.resolve_left h;have B:=ae.lt.resolve_left h;simp at h1;omega
          have bK:∀ fe:am,(X.set p.length fe)[p.length]?=some fe:=fun fe=>bT F
          have bL:∀ fe:am,(X.set p.length fe)[2]?=some (.q 2 [.i6 0,.af]):=fun fe=>by rw[bp F];exact bZ
          have bM:∀ fe A5:am,((X.set p.length fe).set 2 A5)[2]?=some A5:=fun fe A5=>bT (by simp;omega)
          simp[b0,bG,aw,bK,bL,bM];refine Db (JX (.same _ rfl) ((aY.cY (.inr (by rw[bp F,bp F]))).q.jg o3 (some (s.l++[⟨t,o,bJ o,m⟩])) (by rw[bl];rfl) rfl)) (.same _ rfl)
  ·have g:gx c s.l t o m.l=8:=by unfold gx;simp[z,h1]
   rw[g];simp[v,al,Z,h1,aI];exact aG
 ·have g:gx c s.l t o m.l=c2 c s.l:=by unfold gx;simp[z]
  rw[g];simp[b1,w];refine av a2 aN ?_;simp[z];exact aG
end Op.bm
namespace Op.bm
open b8 Op
def dU (o:aM) :aM:={ o with ay:=some o.ay.l }
theorem Lr {o:aM} (h:dv o) :dv (dU o):=⟨h.idsZ,h.len,h.val,h.key⟩
end Op.bm
namespace Op.bm
open b8 Op
def fp (l:aN) :bP:=match l with | []=>none | a::r=>some (a::r)
theorem kw (l:aN) :(fp l).l=l:=by cases l<;>rfl
theorem DW (l:aN) :(fp l).isNone=l.isEmpty:=by cases l<;>rfl
theorem HZ {p:List B->Bool} {l:aN} {k:Nat} {y:List B} (h:l[k]?=some y) :(l.take (k+1)).filter p=(l.take k).filter p++(if p y then [y] else []):=by rw[eD,h,kB];cases g:p y<;>simp[g]
end Op.bm
namespace Op.bm
open b8 Op
theorem WZ {c:Int} {l:List aK} (q:c2 c l=0) {t:Int} (h:¬ t<=eJ l l.length) :∀ s∈l,¬ t<=s.aA:=by
 obtain⟨_,o⟩:=mG q;obtain⟨_,p,_⟩:=(m9 l).1 o;intro s z w;obtain⟨m,g⟩:=cc.1 z;have u:=(aH.1 g).1;obtain⟨C,j,D⟩:=aQ (l:=l) (k:=l.length - 1) F;have B:eJ l l.length=C.aA:=by unfold eJ;rw[ak F,g3 j]
 rw[B] at h;by_cases v:m=l.length - 1
 ·rw[v,j] at g;obtain rfl:=cd g;exact h w
 ·have:=(kD.1 p) m (l.length - 1) u F F;rw[(aH.1 g).2,(aH.1 j).2] at this;omega
def yn (c:Int) (l:List aK) (x:List B) :U:=if c2 c l=0 then .aZ [.bool (decide (x∈l.map aK.id)),.i6 0] else .aZ [.bool false,.i6 (c2 c l)]
theorem XM (c:Int) (s:fr) (q:hR s.l) (p:s.l.length<=1000000) (x:List B) (t:x.length=32) :aV 96 [.ah (b1 c s),.ah (ao x)] (yn c s.l x):=by
 apply a8 func96 [];unfold yn;have o:=jw s;have u:=cP x;have h:=br t;have j:=uH c s q p;have w:=CI s q p x t;have v:=nb x (s.l.map aK.id) 0;have m:ar [U.ah (b1 c s)]=true:=by simp[b1,ar,U.ax,o]
 by_cases g:c2 c s.l=0
 ·simp[b1,h];refine av j m ?_;simp[g,h,aI];refine av w (by simp[ar,U.ax,o,u]) ?_;rw[aj g];simp;exact aR (by simp[v]) rfl
 ·simp[b1,h];refine av j m ?_;rw[ak g];simp[g];exact aG
def Ct (n:Int) :U:=if n<1\/8<n then .aZ [.ah (b1 0 none),.i6 2] else .aZ [.ah (b1 n none),.i6 0]
theorem XS (n:Int) :aV 48 [.i6 n] (Ct n):=by
 apply a8 func48 [];unfold Ct;by_cases h1:n<1
 ·simp[h1];exact aG
 ·by_cases g:8<n
  ·simp[h1,g];exact aG
  ·rw[ak F];simp[h1,g,aw];exact aG
end Op.bm
end Go.bf
namespace Go.bf
open Go Go.Proofs Go.Proofs.Tryz Go.Sort
namespace Op.bm
open b8 Op
theorem Ci (a:List B) :eN a a=false:=by
 cases h:eN a a with
 | false=>rfl
 | true=>rw[hO,kO] at h;omega
theorem tO (a b c:List B) (h1:eN a b=true) (g:eN b c=true) :eN a c=true:=(hO _ _).2 (nY a b c ((hO _ _).1 h1) ((hO _ _).1 g))
theorem Ia (a b:List B) (g:a≠b) (h:eN a b=false) :eN b a=true:=by
 rw[hO,nX];rcases vw a b with h1 | h1 | h1
 ·rw[(hO a b).2 F] at h;cases h
 ·exact bK (nW h1) g
 ·omega
end Op.bm
end Go.bf
namespace Go.bf
open Go Go.Proofs Go.Proofs.Tryz
namespace Op.bm
open b8 Op
theorem Kw (o:aM) :iT (dU o) o=true:=by have:=Kv o;unfold iT at this ⊢;exact this
end Op.bm
namespace Op.bm
open b8 Op
theorem Uf (c:Int) (l:List aK) (t:Int) (o:aM) (m:bP) :zd c l t o m=.aZ [.ah (b1 (if gx c l t o m.l=0 then c else 0) (if gx c l t o m.l=0 then some (l++[⟨t,o,bJ o,m⟩]) else none)),.i6 (gx c l t o m.l)]:=by unfold zd;split<;>rfl
theorem OT (c:Int) (l:List aK) (x:List B) :xX c l x=.aZ [.ah (b1 (if c2 c l=0 then c else 0) (if c2 c l=0 then eU (cL x l) else none)),cJ (if c2 c l=0 then eU (cK x l) else none),.i6 (c2 c l)]:=by
 unfold xX;split
 ·rename_i h;rw[h]
 ·rfl
end Op.bm
namespace Op.bm
open b8 Op
theorem Uh {c:Int} {l:List aK} {t:Int} {o:aM} {m:bP} (h:gx c l t o m.l=0) :c2 c l=0/\c4 o=0/\eO o m.l=true/\c2 c (l++[⟨t,o,bJ o,m⟩])=0:=by
 unfold gx at h;by_cases g:c2 c l=0
 case neg=>rw[aj g] at h;exact bK h g
 rw[ak F] at h;by_cases h1:c4 o=0
 case neg=>rw[aj h1] at h;cases h
 rw[ak F] at h;by_cases v:t<0\/1000000000<t\/eO o m.l=false
 case pos=>rw[aj v] at h;cases h
 rw[ak v] at h;by_cases j:bJ o∈l.map aK.id
 case pos=>rw[aj j] at h;cases h
 rw[ak j] at h;by_cases p:t<=eJ l l.length
 case pos=>rw[aj p] at h;cases h
 rw[ak p] at h;by_cases B:(l.length:Int)=c
 case pos=>rw[aj B] at h;cases h
 have w:eO o m.l=true:=by cases K:eO o m.l<;>simp_all
 refine⟨g,h1,w,?_⟩;obtain⟨J,z⟩:=mG g;obtain⟨q1,H,I⟩:=(m9 l).1 z;have D:=WZ g p;have C:rN (l++[⟨t,o,bJ o,m⟩])=true:=by
  refine (m9 _).2 ⟨fun s G=>?_,?_,?_⟩
  ·rcases eQ.1 G with h | h
   ·exact q1 s h
   ·rw[fO.1 h];exact⟨h1,rfl,by show 0<=t;omega,by show t<=_;omega,w⟩
  ·refine rc.2 ⟨H,An _ _,fun a q b u=>?_⟩;rw[fO.1 u];have:=D a q;show a.aA<t;omega
  ·refine rc.2 ⟨I,An _ _,fun a q b u=>?_⟩;rw[fO.1 u];exact fun e=>j (cF.2 ⟨a,q,e⟩)
 unfold c2;rw[ak (by simp only[cg,xp];omega),C];rfl
end Op.bm
namespace Op
open b8 bm
structure bl where
 aL:eR
 cr:Int
 pl:fr
 b4:Int
 gH:Bool
def bx (s:bl) :ag:=[.i6 s.aL.cap,e0 s.aL.a2.al,ai s.aL.a2.ce,.i6 s.aL.a2.b6,ai s.aL.aD,.i6 s.cr,cJ s.pl,.i6 s.b4,.bool s.gH]
structure fQ (s:bl) :Prop where
 aL:lm s.aL
 pl:hR s.pl.l
 len:s.pl.l.length<=900000
theorem kN (s:bl) :ar (bx s)=true:=by simp[bx,ar,U.ax,o1,bV,jw]
structure MO (s:bl) (R:ag) :Prop where
 len:R.length=9
 all:R.take 9=R
 aL:R.take 5=ck s.aL
 pen:(R.drop 5).take 2=b1 s.cr s.pl
 ord:R[4]?=some (ai s.aL.aD)
 abx:R[6]?=some (cJ s.pl)
 b4:R[7]?=some (.i6 s.b4)
 gH:R[8]?=some (.bool s.gH)
 cap:R[0]?=some (.i6 s.aL.cap)
 cr:R[5]?=some (.i6 s.cr)
 abr:∀ h:4<R.length,R[4]'h=ai s.aL.aD
 aby:∀ h:6<R.length,R[6]'h=cJ s.pl
 abp:∀ h:7<R.length,R[7]'h=.i6 s.b4
 Y1:∀ h:8<R.length,R[8]'h=.bool s.gH
 cap' : ∀ h:0<R.length,R[0]'h=.i6 s.aL.cap
 abv:∀ h:5<R.length,R[5]'h=.i6 s.cr
 ax:ar R=true
theorem iN (s:bl) :MO s (bx s):=⟨rfl,rfl,rfl,rfl,rfl,rfl,rfl,rfl,rfl,rfl,fun _=>rfl,fun _=>rfl,fun _=>rfl,fun _=>rfl,fun _=>rfl,fun _=>rfl,kN s⟩
def hQ (g:aN) (y:List B) :Bool:=!decide (y∈g)
def dp (g:aN) (o:aM) :aN:=o.ay.l.filter (hQ g)
theorem yD {j:aN} {o:aM} (h:dv o) :cU (fp (dp j o)):=fun y g=>by
 rw[kw] at g;exact h.idsZ y (c7.1 g).1
theorem H5 {h:aN} {o:aM} (g:dv o) :(fp (dp h o)).l.length<=1000000:=by rw[kw];exact dC (hG _ _) g.len
structure MF (S g:ag) (ord:aN) (ps:aN) (P:U) (k:Nat) (sgZ:aP) (l:ae) :Prop where
 h0:sgZ 2=.ptr 0 0 9
 BH:sgZ 9=P
 BF:sgZ 10=.i6 ps.length
 Hh:sgZ 11=.i6 k
 ol:l[0]?=some (.q 9 S)
 ex:∃ v j,sgZ 5=v/\aJ 32 l v j (((ps.take k).filter (hQ ord)).map ao)/\(v=.af\/2<=j)/\bq v=((ps.take k).filter (hQ ord)).isEmpty
theorem Bg (s:bl) (aA:fQ s) (o:aM) (C:dv o) :aV 54 [.ah (bx s),.ah (au o)] (ai (fp (dp s.aL.aD.l o))):=by
 apply a8 func54 [];have K:=iN s;have aX:=bV s.aL.aD;have bd:=aA.aL.no;have a0:=fun x a4=>pK s.aL.aD aA.aL.aD F x a4
 have az:(au o).length=11:=rfl;have aU:(au o)[1]?=some (ai o.ay):=rfl;have Z:∀ h,(au o)[1]'h=ai o.ay:=fun _=>rfl
 have a3:bt (.ad 32) (ai o.ay)=_:=ca _;have bf:=C.len;obtain⟨S,aW⟩:=aq (bx s);obtain⟨aP,X⟩:=aq (au o);rw[<-aW] at K ⊢;rw[<-X] at az aU ⊢;simp only[<-X] at Z;obtain⟨m,bh,bE,bA,bu,bB,bq,bn,bk,bv,a6,bC,bs,bp,bm,bz,bi⟩:=K;simp[az,Z,a3];refine bw o.ay.l.length (MF S aP s.aL.aD.l o.ay.l (ai o.ay)) ?_ ⟨by simp[m],by simp[m],by simp[m],by simp[m],by simp[m],.af,0,V,.nil 0,.inl rfl,rfl⟩;rintro k a7 l hk ⟨R,W,P,Q,I,aN,aK,T,G,d1,D⟩;obtain⟨a7,rfl⟩:=gk R T W P Q;clear R T W P Q;by_cases z:k<o.ay.l.length
 ·obtain⟨y,aC,aG⟩:=aQ z;have t:=br (C.idsZ y aG);have aE:=cP y;have O:=cl (k:=k) F;have al:bF (.ad 32) (ai o.ay) _=_:=c6 aC;have ap:=a0 y (C.idsZ y aG);have j:=HZ (p:=hQ s.aL.aD.l) aC;have a2:((o.ay.l.take k).filter (hQ s.aL.aD.l)).length<=1000000:=by
   refine dC (hG _ _) ?_;rw[cI];omega
  have H:aJ 32 (l++[am.q 32 (ao y)]) aN aK (((o.ay.l.take k).filter (hQ s.aL.aD.l)).map ao):=G.more _;have J:∀ g:ae,(l++g)[0]?=some (.q 9 S):=fun g=>by rw[aS (aY I)];exact I
  obtain⟨Y,u⟩:=aq (ao y);have ag:Y.take 32=Y:=aI (by rw[u];omega);rw[<-u] at t al ap aE H;have aB:aw (bO 32 (.int .u8 0)) 0 Y=Y:=cH (by rw[t];rfl);have aO:∀ (g:ae) (h:0<(l++g).length),(l++g)[0]'h=.q 9 S:=fun g h=>(aH.1 (J g)).2
  simp[z,al,t,ag,aB,aO,m,a6];refine av ap (by simp[ar,U.ax,aX,aE]) ?_;by_cases v:y∈s.aL.aD.l
  ·have B:hQ s.aL.aD.l y=false:=by unfold hQ;simp[v]
   rw[B,ak V,eb] at j;simp[v,O];exact⟨F,V,V,V,V,J _,aN,aK,V,by rw[j];exact H,d1,by rw[j];exact D⟩
  ·have B:hQ s.aL.aD.l y=true:=by unfold hQ;simp[v]
   rw[B,aj rfl] at j;obtain⟨a9,a5,bg,w,aR,bb,dQ,ee,aT⟩:=xN H (by rw[<-u];exact t) a2;rw[<-u] at w;simp at w;simp[v,t,ag,aB,w];refine bY.bo ?_;simp[O];have bc:=aY I;refine⟨F,V,V,V,V,?_,a9,a5,V,by rw[j];exact aR,?_,by rw[aT,j];simp⟩
   ·rw[dQ 0 V (d1.imp id fun h=>F)];exact J _
   ·rcases ee with h | ⟨h,h'⟩
    ·right;simp at h;omega
    ·right;rw[h'];exact d1.resolve_left h
 ·have a1:k=o.ay.l.length:=F;simp[z];rw[a1,fl] at G D;exact G.q.jg cP (fp _) (by rw[D,DW];rfl) (kw _)
structure MD (h:ag) (g:bP) (ps:aN) (k:Nat) (sgZ:aP) (l:ae) :Prop where
 kS:sgZ 0=ai g
 i9:sgZ 3=.ptr 0 0 11
 lz:sgZ 6=.i6 k
 ol:l[0]?=some (.q 11 h)
 ex:∃ v j,sgZ 5=v/\aJ 32 l v j (((ps.take k).filter (hQ g.l)).map ao)/\(v=.af\/1<=j)/\bq v=((ps.take k).filter (hQ g.l)).isEmpty
theorem Gl (g:bP) (aJ:cU g) (aK:g.l.length<=1000000) (o:aM) (G:dv o) :aV 36 [ai g,.ah (au o)] (ai (fp (dp g.l o))):=by
 apply a8 func36 [];have aC:=bV g;have aD:=fun x aN=>C3 g aJ aK x aN
 have t:(au o).length=11:=rfl;have aB:(au o)[1]?=some (ai o.ay):=rfl;have v:∀ h,(au o)[1]'h=ai o.ay:=fun _=>rfl
 have Z:bt (.ad 32) (ai o.ay)=_:=ca _;have aX:=G.len;obtain⟨I,S⟩:=aq (au o);rw[<-S] at t aB ⊢;simp only[<-S] at v;simp[t];refine bw o.ay.l.length (MD I g o.ay.l) ?_ ⟨V,V,V,V,.af,0,V,.nil 0,.inl rfl,rfl⟩;rintro k aR l hk ⟨O,P,R,j,aT,aO,Q,z,d1,H⟩;obtain⟨aR,rfl⟩:=e2 O P Q R;clear O P Q R;by_cases C:k<o.ay.l.length
 ·obtain⟨y,ag,am⟩:=aQ C;have u:=br (G.idsZ y am);have al:=cP y;have K:=cl (k:=k) F;have B:bF (.ad 32) (ai o.ay) _=_:=c6 ag;have X:=aD y (G.idsZ y am);have m:=HZ (p:=hQ g.l) ag;have aG:((o.ay.l.take k).filter (hQ g.l)).length<=1000000:=by
   refine dC (hG _ _) ?_;rw[cI];omega
  have a1:∀ ap:ae,(l++ap)[0]?=some (.q 11 I):=fun ap=>by rw[aS (aY j)];exact j
  obtain⟨aU,aP,a0,J,az,aW,dQ,ee,aA⟩:=xN z u aG;obtain⟨Y,T⟩:=aq (ao y);have W:Y.take 32=Y:=aI (by rw[T];omega);rw[<-T] at u B X al J;have aL:aw (bO 32 (.int .u8 0)) 0 Y=Y:=cH (by rw[u];rfl);simp[C,B,u,W,j,t,v,Z];refine av X (by simp[ar,U.ax,aC,al]) ?_;by_cases w:y∈g.l
  ·have D:hQ g.l y=false:=by unfold hQ;simp[w]
   rw[D,ak V,eb] at m;simp[w,K];exact⟨F,V,V,V,j,aT,aO,V,by rw[m];exact z,d1,by rw[m];exact H⟩
  ·have D:hQ g.l y=true:=by unfold hQ;simp[w]
   rw[D,aj rfl] at m;simp[w,B,u,W,aL,j,t,v,J];refine bY.bo ?_;simp[K];have aH:=aY j;refine⟨F,V,V,V,?_,aU,aP,V,by rw[m];exact az,?_,by rw[aA,m];simp⟩
   ·rw[dQ 0 aH (d1.imp id fun h=>F)];exact j
   ·rcases ee with h | ⟨h,h'⟩
    ·right;omega
    ·right;rw[h'];exact d1.resolve_left h
 ·have aE:k=o.ay.l.length:=F;simp[C,j,t,v,Z];rw[aE,fl] at z H;exact z.q.jg cP (fp _) (by rw[H,DW];rfl) (kw _)
end Op
end Go.bf

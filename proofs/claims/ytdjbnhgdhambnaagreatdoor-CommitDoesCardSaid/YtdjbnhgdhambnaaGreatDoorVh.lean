/-
  slices.Clone and slices.Compact of idsZ: walked.
-/
import Derived.Test.YtdjbnhgdhambnaaGreatDoorVg
set_option maxHeartbeats 16000000
set_option maxRecDepth 100000
set_option linter.unusedVariables false
set_option linter.unusedSimpArgs false
set_option linter.unnecessarySimpa false
namespace Go.bh
open Go Go.Proofs Go.Proofs.Tryz
namespace Op
open cl
theorem yk:∀ a b:List B,a.length=b.length->dz (a.map a7) (b.map a7)=decide (a=b)
 | [],[],_=>rfl
 | [],_::_,h=>by simp at h
 | _::_,[],h=>by simp at h
 | x::a,y::b,h=>by
  have j:=yk a b (by simpa using h);simp only[dg,dz,j,U.beq,ol,lH];by_cases h1:x=y
  ·by_cases g:a=b<;>simp[h1,g]
  ·have:¬ u x=u y:=fun h=>h1 ((hZ x y).1 h)
   simp[h1]
theorem sv:∀ a:List B,gO (List.replicate a.length (.i .u8)) (a.map a7)=true
 | []=>rfl
 | x::a=>by
  rw[dM,kr,dg];simp only[gO,sv a,xE,ol,k5]
theorem IL:mP prog 20 57=some (List.replicate 32 (.i .u8)):=bn
theorem nJ {a b:List B} (g:a.length=32) (h:b.length=32) :ea prog .eql 57 (.af (ao a)) (.af (ao b))=some (.bool (decide (a=b))):=by unfold ao;rw[vL IL bn bn (by have:=sv a;rwa [g] at this) (by have:=sv b;rwa [h] at this),yk a b F]
theorem oN {a b:List B} (g:a.length=32) (h:b.length=32) :ea prog .neq 57 (.af (ao a)) (.af (ao b))=some (.bool (!decide (a=b))):=by unfold ao;rw[BQ IL bn bn (by have:=sv a;rwa [g] at this) (by have:=sv b;rwa [h] at this),yk a b F]
theorem TN (s:b2) :ea prog .eql 23 (b4 32 ao s) .ad=some (.bool s.isNone):=vK (e:=57) bn 32 ao s
theorem Ue (l:ae) :cd 32 ao l (l++[.q 0 []]) (.Z 32 l.length 0 0 0 0) ([] :aR) false:=
 ⟨l.length,.Z l.length 0 0 0 [] [] V rfl rfl V (aN _) F rfl,V,fun b g=>aV g,.inr (aN _),rfl⟩
theorem y6 (s:b2) (m:c5 s) (p:s.l.length<=1000000) {l:ae} {K:cB} (g:∀ v l',cd 32 ao l l' v s.l s.isNone->K v l') :
  cM 80 [ah s] l K:=by
 apply c1 func80 [];have o:=du;cases s with
 | none=>
  simp[ah];exact g _ _ cd.nil
 | some a=>
  simp at p;obtain⟨t,l',h,j,_⟩:=(Ue l).app (by_:=32) (x:=b4 32 ao (some a)) (xs:=a) (qO _ 32 ao (some a)) (fun y q=>bo (m y q)) F F (by rw[o];simp;omega);simp[ah,TN,h];refine bR.bm ?_;simp;exact g _ _ (by simpa using j)
def j2 (l:aR) (m:Nat) :aR:=(List.range m).flatMap fun k=>if k=0\/bx l k≠bx l (k - 1) then [bx l k] else []
def df (l:aR) :aR:=j2 l l.length
theorem tL (l:aR) (m:Nat) :j2 l (m+1)=j2 l m++(if m=0\/bx l m≠bx l (m - 1) then [bx l m] else []):=by unfold j2;rw[td,xU];simp
theorem Ca (l:aR) :∀ m,(j2 l m).length<=m
 | 0=>by simp[j2]
 | m+1=>by
  have:=Ca l m;rw[tL,cI];split<;>simp<;>omega
theorem v2 {l:aR}:∀ {m},m<=l.length->(∀ k,1<=k->k<m->bx l k≠bx l (k - 1))->j2 l m=l.take m
 | 0,_,_=>by simp[j2]
 | m+1,o,h=>by
  rw[tL,v2 F (fun k h1 j=>h k h1 F),ei,ak (by
   by_cases g:m=0
   ·exact .inl g
   ·exact .inr (h m F F))]
  congr 1;unfold bx;rw[gw,bM F];rfl
theorem Hl {l:aR} {k:Nat} (h1:1<=k) (g:bx l k=bx l (k - 1)) :∀ {m},k<m->(j2 l m).length<m
 | 0,h=>F
 | m+1,h=>by
  rw[tL,cI];by_cases hk:k=m
  ·subst hk;have:=Ca l k;rw[ai (fun h=>h.elim (fun o=>F) (fun j=>j g))];simp;omega
  ·have:=Hl h1 g (m:=m) F;split<;>simp<;>omega
theorem Qj {l:aR} (j:sP l=true) :((df l).length=l.length)<->b8 l=true:=by
 unfold sP at j;rw[bK] at j;unfold b8 df;rw[bK];constructor
 ·intro h k hk h1;have m:=j k hk h1;have p:bx l k≠bx l (k - 1):=fun g=>by
   have:=Hl h1 g hk;omega
  have q:=oD (bx l k) (bx l (k - 1));have t:bP (bx l (k - 1)) (bx l k)≠0:=fun o=>p (oC o).symm
  omega
 ·intro h;rw[v2 (aN _) (fun k h1 m g=>by
   have:=h k m h1;rw[<-g,lj] at this;omega),e0]
theorem y7 {a:aR} {k:Nat} (h:k<a.length) :(a.map ao)[k]?=some (ao (bx a k)):=by rw[b0];unfold bx;rw[gw,bM h];rfl
theorem wv {a:aR} {k:Nat} (h:k<a.length) :bx a k∈a:=by unfold bx;rw[gw,bM h];exact Fw h
structure Nd (l:ae) (v:U) (xs:aR) (k:Nat) (sgZ:aS) (l1:ae) :Prop where
 kI:sgZ 0=v
 hQ:sgZ 3=.i6 ((k+1:Nat) :Int)
 nI:l1=l
 jB:∀ j,1<=j->j<k+1->bx xs j≠bx xs (j - 1)
structure Nc (l:ae) (v o:U) (j:Nat) (xs:aR) (m i:Nat) (sgZ:aS) (h:ae) :Prop where
 kI:sgZ 0=v
 iq:sgZ 4=o
 kJ:sgZ 5=.i6 ((i+1:Nat) :Int)
 ex:∃ (k:Nat) (g:aR),sgZ 3=.i6 (k:Int)/\aH 32 h v j (g.map ao)/\g.length=xs.length/\(∀ y∈g,y.length=32)/\g.take k=j2 xs (m+i+1)/\k<=m+i/\(∀ t,m+i<=t->bx g t=bx xs t)/\h.length=l.length/\∀ b,b≠j->h[b]?=l[b]?
theorem Qi {l:ae} {v:U} {j k:Nat} {g:aR} (h:aH 32 l v j (g.map ao)) (hk:k<g.length) :
  ∃ B o r,dw (.Z 32) v (some (.i6 (k:Int))) none none=some B/\pC (bZ 32 (.int .u8 0)) l B=some o/\dw (.Z 32) v none (some (.i6 (k:Int))) none=some r ∧
   aH 32 o r j ((g.take k).map ao)/\bq r=false/\o.length=l.length/\∀ b,b≠j->o[b]?=l[b]?:=by
 generalize m:g.map ao=I at h;cases h with
 | nil j=>rw[ni] at m;subst m;simp at hk
 | Z j n cap p cs I u aj Y w P R T=>
  subst m;have ap:g.length=n:=by simpa using Y
  have J:gU (.i6 (k:Int)) n=some k:=by
   show (if 0<=(k:Int)/\(k:Int)<=(n:Int) then some (k:Int).toNat else none)=some k;rw[ak ⟨F,F⟩];simp
  have K:gU (.i6 (k:Int)) cap=some k:=by
   show (if 0<=(k:Int)/\(k:Int)<=(cap:Int) then some (k:Int).toNat else none)=some k;rw[ak ⟨F,F⟩];simp
  have C:e2 n cap (some (.i6 (k:Int))) none none=some (k,n,cap):=by
   show (match gU (.i6 (k:Int)) n with | none=>none | some l=>some (l,n,cap))=_;rw[J]
  have D:e2 n cap none (some (.i6 (k:Int))) none=some (0,k,cap):=by
   show (match gU (.i6 (k:Int)) cap with | none=>none | some h=>some (0,h,cap))=_;rw[K]
  have S:¬ cap=k:=F;have Q:¬ cap=0:=F;have W:j<l.length:=a1 u;have X:k*32<=n*32:=ck _ F;have al:n*32<=cap*32:=ck _ P;have ag:(cQ (bZ 32 (.int .u8 0)) (n - k)).length=(n - k)*32:=by rw[uF];rfl
  have am:k*32+(n - k)*32=n*32:=by rw[<-eP];congr 1;omega
  refine⟨.Z 32 j (k*32) (n - k) (cap - k) p,l.set j (.q p (av cs (k*32) (cQ (bZ 32 (.int .u8 0)) (n - k)))),.Z 32 j 0 k cap p,?_,?_,?_,?_,rfl,V,fun b O=>by rw[bj (fun h=>O h.symm)]⟩
  ·rw[rk,C];simp[S]
  ·unfold pC;simp only;rw[ai F];simp[u]
  ·rw[rk,D];simp[Q]
  ·refine .Z j k cap p _ _ (bY W) (by rw[o9 F,ag];omega) (by simp;omega) (fun e m=>?_) F R ?_
   ·obtain⟨y,t,rfl⟩:=cE.1 m;exact w _ (tc (gy t))
   ·unfold av;rw[hi,il (by rw[cL];omega),lL,Nat.min_self];have G:cs.take (k*32)=(cs.take (n*32)).take (k*32):=by rw[lL,i5 X]
    have H:g.map ao=(g.take k).map ao++(g.drop k).map ao:=by rw[<-cV,i3]
    have ah:((g.take k).map ao).flatten.length=k*32:=by
     rw[hv (z:=32) (fun e m=>by obtain⟨y,t,rfl⟩:=cE.1 m;exact w _ (tc (gy t)))];simp;omega
    rw[G,T,H,jr,il F,aI F]
theorem JP {g:aR} (t:∀ y∈g,y.length=32) (k:Nat) (hk:k<=g.length) {n:Nat} (w:g.length=n) {cs:ag} (j:cs.take (n*32)=(g.map ao).flatten) (v:n*32<=cs.length) :
  cs.take (k*32)=((g.take k).map ao).flatten/\(cs.drop (k*32)).take (n*32 - k*32)=((g.drop k).map ao).flatten:=by
 have p:k*32<=n*32:=ck _ F;have h:g.map ao=(g.take k).map ao++(g.drop k).map ao:=by rw[<-cV,i3]
 have u:((g.take k).map ao).flatten.length=k*32:=by
  rw[hv (z:=32) (fun e o=>by obtain⟨y,q,rfl⟩:=cE.1 o;exact bo (t _ (gy q)))];simp;omega
 have m:cs.take (k*32)=(cs.take (n*32)).take (k*32):=by rw[lL,i5 p]
 constructor
 ·rw[m,j,h,jr,il F,aI F]
 ·rw[<-qo,j,h,jr,ob F,qn F,h2]
theorem Xe {l:ae} {v:U} {j k:Nat} {g:aR} {x:List B} (h:aH 32 l v j (g.map ao)) (t:∀ y∈g,y.length=32) (hk:k<g.length) (Q:x.length=32) :
  ∃ p l',bQ (.Z 32) v (.i6 (k:Int))=some p/\jP 32 l p (.af (ao x))=some l'/\aH 32 l' v j ((g.set k x).map ao)/\l'.length=l.length/\∀ b,b≠j->l'[b]?=l[b]?:=by
 generalize o:g.map ao=G at h;cases h with
 | nil j=>rw[ni] at o;subst o;simp at hk
 | Z j n cap u cs G w W K ag z I C=>
  subst o;have D:g.length=n:=by simpa using K
  have J:j<l.length:=a1 w;have m:=bo Q;have X:(k+1)*32<=n*32:=ck _ F;have Y:n*32<=cap*32:=ck _ z;have O:(k+1)*32=k*32+32:=by rw[ej]
  obtain⟨f1,_⟩:=JP t k F D C F;obtain⟨_,f2⟩:=JP t (k+1) F D C F;refine⟨.ptr j (k*32) u,l.set j (.q u (av cs (k*32) (ao x))),?_,?_,?_,V,fun b H=>by rw[bj (fun h=>H h.symm)]⟩
  ·simp[bQ];omega
  ·unfold jP;simp[w,U.cells,m];omega
  ·refine .Z j n cap u _ _ (bY J) (by rw[o9 F,m];omega) (by simp;omega) (fun e o=>?_) z I ?_
   ·obtain⟨y,R,rfl⟩:=cE.1 o;rcases oh R with h | h
    ·exact bo (t _ h)
    ·rw[h];exact m
   ·have P:g.set k x=g.take k++(x::g.drop (k+1)):=by rw[rI,ak hk]
    rw[P,cV,dg,jr,hj,<-f1,<-f2];unfold av;have t1:(cs.take (k*32)).length=k*32:=by rw[cL];omega
    have S:(cs.take (k*32)).take (n*32)=cs.take (k*32):=aI (by rw[t1];omega);have T:(ao x).take (n*32 - k*32)=ao x:=aI (by rw[m];omega);rw[hi,m,<-O,pm,t1,S,pm,T,m,show n*32 - k*32 - 32=n*32 - (k+1)*32 by omega]
theorem Ha {l0 l:ae} {v:U} {xs:aR} {a6:Bool} (h:cd 32 ao l0 l v xs a6) (aG:∀ x∈xs,x.length=32) (bR:xs.length<=1000000) {K:cB} (ay:∀ r l',cd 32 ao l0 l' r (df xs) a6->K r l') :
  cM 138 [v] l K:=by
 apply c1 func138 [];have C:=h.len;by_cases B:xs.length<2
 ·have ax:(xs.length:Int)<2:=F;have aB:df xs=xs:=by
   unfold df;rw[v2 (aN _) (fun k h1 a2=>F),e0]
  simp[C,ax];exact ay _ _ (by rw[aB];exact h)
 ·have ax:¬ (xs.length:Int)<2:=F;simp[C,ax];refine bB (xs.length - 1) (Nd l v xs) ?_ ⟨V,V,rfl,fun j h1 a2=>F⟩;rintro k aK bD hk ⟨z,t,rfl,ah⟩;obtain⟨aK,rfl⟩:=kk z t;clear z t;obtain⟨m,a3⟩:=al (k+1);rw[<-a3] at ah ⊢;by_cases T:m<xs.length
  ·have a0:IntKind.i64.wrap ((m:Int) - 1)=(k:Int):=by rw[IntKind.wrap_i64];omega
   have bl:=ci (k:=m) F;have W:(m:Int)<(xs.length:Int):=F;obtain⟨j,D,bw⟩:=h;obtain⟨bY,bJ,bU,aT,aU,aV,au⟩:=D.q.get (k:=.i64) (y7 T);obtain⟨bZ,bK,bV,aW,aY,aZ,av⟩:=D.q.get (k:=.i64) (y7 (a:=xs) (k:=k) F);have R:=nJ (aG _ (wv T)) (aG _ (wv (a:=xs) (k:=k) F));obtain⟨ap,az⟩:=al (bx xs m);obtain⟨aq,aA⟩:=al (bx xs k);rw[<-az] at au R;rw[<-aA] at av R;by_cases P:ap=aq
   ·have aD:ea prog .eql 57 (.af (ao ap)) (.af (ao aq))=some (.bool true):=by rw[R,b7 P]
    have H:bq v=false:=by
     cases bv:bq v with
     | false=>rfl
     | true=>
      have:=gk.1 bv;subst this;have:=D.q.oX;rw[ni] at this;rw[this] at T;simp at T
    obtain⟨bG,a7,b3,_⟩:=D.q.from H (k:=.i64) (i:=m) (by simp;omega);have aw:j2 xs m=xs.take m:=v2 F ah;have h1:j2 xs (m+1)=xs.take m:=by rw[tL,ai (fun h=>h.elim (fun aw=>F) (fun B=>B (by rw[<-az,show m - 1=k by omega,<-aA];exact P))),aw,eJ]
    simp[C,W,a0,aT,aU,aV,au,aW,aY,aZ,av,aD,a7];refine bB (xs.length - m - 1) (Nc bD v bG j xs m) ?_ ⟨V,V,V,m,xs,V,D,rfl,aG,h1.symm,F,fun u _=>rfl,rfl,fun b _=>rfl⟩;rintro i aK bT bO ⟨z,J,a1,q,o,t,ag,aH,I,G,bS,aj,bt,aC⟩;obtain⟨aK,rfl⟩:=eO z t J a1;clear z t J a1;obtain⟨g,br⟩:=al (i+1);rw[<-br];obtain⟨b4,a8,aJ,_⟩:=ag.q.from H (k:=.i64) (i:=m) (by simp;omega);rw[a7] at a8;obtain rfl:=cc a8;have S:=aJ.len;rw[i1,ce,aH] at S;by_cases bQ:g<xs.length - m
    ·have X:(g:Int)<((xs.length - m:Nat) :Int):=F;have a9:IntKind.i64.wrap ((g:Int) - 1)=(i:Int):=by rw[IntKind.wrap_i64];omega
     have bb:=ci (k:=g) F;have bH:=ci (k:=q) F;obtain⟨b0,bL,bW,bc,bd,bf,aL⟩:=aJ.get (k:=.i64) (i:=g) (e:=ao (bx o (m+g))) (by rw[gx];exact y7 F);obtain⟨b1,bM,bX,bg,bh,bi,aM⟩:=aJ.get (k:=.i64) (i:=i) (e:=ao (bx o (m+i))) (by rw[gx];exact y7 F);have am:=I _ (wv (a:=o) (k:=m+g) F);have bC:=I _ (wv (a:=o) (k:=m+i) F);have Y:=oN am bC;have a4:=aj (m+g) F;have a5:=aj (m+i) F;have w:=tL xs (m+g);rw[show m+g - 1=m+i by omega] at w;obtain⟨p,bn⟩:=al (bx o (m+g));obtain⟨ar,bo⟩:=al (bx o (m+i));rw[<-bn] at aL Y am a4;rw[<-bo] at aM Y a5;rw[<-a4,<-a5] at w;rw[show m+i+1=m+g by omega] at G;by_cases Q:p=ar
     ·have aE:ea prog .neq 57 (.af (ao p)) (.af (ao ar))=some (.bool false):=by rw[Y];simp[Q]
      rw[ai (fun h=>h.elim (fun aw=>F) (fun B=>B Q)),eJ] at w;simp[S,X,a9,bc,bd,bf,aL,bg,bh,bi,aM,aE,bb];exact⟨F,V,V,V,q,o,V,ag,aH,I,by rw[w];exact G,F,fun u aF=>aj u F,bt,aC⟩
     ·have aE:ea prog .neq 57 (.af (ao p)) (.af (ao ar))=some (.bool true):=by rw[Y];simp[Q]
      rw[ak (.inr Q)] at w;obtain⟨b2,bE,aO,aP,aQ,bk,aS⟩:=Xe ag I (k:=q) (x:=p) F am;simp[S,X,a9,bc,bd,bf,aL,bg,bh,bi,aM,aE,bb,bH,aO,aP];have bF:(o.take q).length=q:=by rw[cL];omega
      have bz:(o.set q p).take (q+1)=o.take q++[p]:=by
       rw[rI,ak F,pm,bF,aI F,show q+1 - q=1 by omega];simp
      refine⟨F,V,V,V,q+1,o.set q p,V,aQ,by simp[aH],fun y bA=>?_,by rw[bz,w,G],F,fun u aF=>?_,F,fun b O=>(aS b O).trans (aC b O)⟩
      ·rcases oh bA with h | h
       ·exact I _ h
       ·rw[h];exact am
      ·have:=aj u F;unfold bx at this ⊢;rw[gw,bj F,<-gw];exact this
    ·have X:¬ (g:Int)<((xs.length - m:Nat) :Int):=F;obtain⟨b5,bE,r,aO,aP,aQ,bk,aS,b8,bI⟩:=Qi ag (k:=q) F;simp[S,X,aO,aP,aQ];obtain⟨bN,bm,t,J⟩:=bw;have bs:l0.length<=j:=t.resolve_left (fun h=>by rw[h] at H;cases H);have bp:m+i+1=xs.length:=F;rw[bp] at G;refine ay _ _ ⟨j,by unfold df;rw[<-G];exact bk,F,fun b O=>?_,.inr bs,by rw[aS,<-J,H]⟩;rw[bI b F,aC b F];exact bm b O
   ·have aD:ea prog .eql 57 (.af (ao ap)) (.af (ao aq))=some (.bool false):=by rw[R,cu P]
    simp[C,W,a0,aT,aU,aV,au,aW,aY,aZ,av,aD,bl];refine⟨F,V,by simp[a3],rfl,fun u h1 B=>?_⟩;by_cases aF:u=m
    ·rw[aF,<-az,show m - 1=k by omega,<-aA];exact P
    ·exact ah u h1 F
  ·have W:¬ (m:Int)<(xs.length:Int):=F;have aB:df xs=xs:=by
    unfold df;rw[v2 (aN _) (fun k h1 a2=>ah k h1 F),e0]
   simp[C,W];exact ay _ _ (by rw[aB];exact h)
theorem WH {l:aR} (h:b8 l=true) :sP l=true:=by
 unfold b8 at h;rw[bK] at h;exact LG fun k hk h1=>by
  have:=h k hk h1;have g:=oD (bx l k) (bx l (k - 1));omega
theorem AW (o:aK) (m:dk o) :aU 116 [.af (aw o)] (.i6 (dd o)):=by
 apply a2 func116 [cT 0 7++[[10],[11],[12],[7,11],[8,11],[9]]];unfold dd;have S:=bO o.ax;have B:bD (.Z 32) (ah o.ax)=_:=b9 _;have ag:(ah o.ax).cells=some [ah o.ax]:=by cases o.ax<;>rfl
 by_cases h1:4<o.ax.l.length
 ·have v:(4:Int)<(o.ax.l.length:Int):=F;rw[ak h1];simp[aw,B,v];exact aF
 ·have v:¬ (4:Int)<(o.ax.l.length:Int):=F;rw[ai h1];simp[aw,B,v];refine au (Sn o.ax m.idsZ m.len) (by simp[am,S,U.ar]) ?_;cases w:sP o.ax.l with
  | false=>
   have g:b8 o.ax.l=false:=by
    cases g:b8 o.ax.l with
    | false=>rfl
    | true=>rw[WH g] at w;cases w
   simp[g];exact aF
  | true=>
   simp[B];refine y6 o.ax m.idsZ m.len fun aj W C=>?_
   have R:W[0]?=some (.q 11 (aw o)):=by rw[C.same 0 V];rfl
   have H:=R;simp[aw] at H;simp[H];refine Ha C m.idsZ m.len fun al X D=>?_
   have Q:X[0]?=some (.q 11 (aw o)):=by rw[D.same 0 V];rfl
   have j:=Q;simp[aw] at j;have J:=D.len;have I:=Qj w;cases g:b8 o.ax.l with
   | false=>
    have T:¬ ((df o.ax.l).length:Int)=(o.ax.l.length:Int):=fun h=>by
     have:=I.1 F;rw[g] at this;cases this
    simp[J,j,T];exact aF
   | true=>
    have heq:((df o.ax.l).length:Int)=(o.ax.l.length:Int):=by have:=I.2 g;omega
    simp[J,j,heq];refine au (CS o.eL) rfl ?_;unfold pI;cases Y:eX o.eL with
    | false=>
     simp;exact aF
    | true=>
     have P:((1000000000000:Int)<u o.e9)<->¬ o.e9.toNat<=1000000000000:=by unfold u;omega
     by_cases p:o.e9.toNat<=1000000000000
     ·have t:¬ ((1000000000000:Int)<u o.e9):=fun h=>P.1 h p
      have O:((500000003:Int)<=max (u o.e:Int) (u o.s))<->¬ (hu o.e&&hu o.s)=true:=by
       unfold hu u;simp only[bU,bK];omega
      have K:oU (bg o.e) (bg o.s)=some (.int .u32 (max (u o.e:Int) (u o.s))):=by
       show (if IntKind.u32=IntKind.u32 then some (U.int .u32 (if (u o.e:Int)<u o.s then u o.s else u o.e)) else none)=_;rw[ak rfl];congr 2;split<;>omega
      cases G:(hu o.e&&hu o.s) with
      | false=>
       have z:(500000003:Int)<=max (u o.e:Int) (u o.s):=O.2 (by rw[G];simp);simp[j,p,t,K,z];exact aF
      | true=>
       have z:¬ (500000003:Int)<=max (u o.e:Int) (u o.s):=fun h=>(O.1 h) G
       simp[j,t,K,z];refine au (Pr o.act) rfl ?_;cases ae:iP o.act with
       | false=>
        simp[j3];exact aF
       | true=>
        simp[j3];exact aP (by rw[ak p]) rfl
     ·have t:(1000000000000:Int)<u o.e9:=P.2 p;simp[j,p,t];exact aF
theorem sL (a b:b2) (z:c5 a) (B:c5 b) (O:a.l.length<=1000000) :aU 35 [ah a,ah b] (.bool (decide (a.l=b.l))):=by
 apply a2 func35 [];simp[ah];by_cases h1:a.l.length=b.l.length
 ·have w:((a.l.length:Int)=b.l.length):=F;simp[h1];refine bB a.l.length (fun k o l=>o 0=b4 32 ao a/\o 1=b4 32 ao b/\o 5=.i6 k/\∀ g,g<k->a.l[g]?=b.l[g]?) ?_ (by simp[ah]);rintro k o l hk ⟨t,u,v,C⟩;obtain⟨s,rfl⟩:=gF t u v;clear t u v;simp;refine fk (fun h=>?_) (fun h=>?_)
  ·simp only[bK] at h;obtain⟨x,m,D⟩:=aQ h;obtain⟨y,q,G⟩:=aQ (l:=b.l) (k:=k) F;have H:=ci (k:=k) F;simp[m,q,bo (z x D),bo (B y G),aI,oN (z x D) (B y G)];by_cases j:x=y
   ·simp[j,H];refine⟨F,fun g I=>?_⟩;by_cases J:g=k
    ·subst J;rw[m,q,j]
    ·exact C g F
   ·simp[j];refine aP (ch U.bool (cu fun p=>j ?_).symm) rfl;rw[p,q] at m;exact (cc m).symm
  ·simp[h];have K:k=a.l.length:=by simp at h;omega
   refine aP (ch U.bool (b7 ?_).symm) rfl;apply g1;intro g;by_cases I:g<a.l.length
   ·exact C g F
   ·rw[dW F,dW F]
 ·have w:¬ ((a.l.length:Int)=b.l.length):=F;simp[w];exact aP (by rw[cu (fun p=>h1 (by rw[p]))]) rfl
def bf (o:aK) :List B:=if dd o=0 then go (fZ o) else List.replicate 32 0#8
theorem p1 {o:aK} (h:dd o=0) :o.ax.l.length<=4:=by
 unfold dd at h;split at h
 ·cases h
 ·omega
theorem DV (o:aK) (q:dk o) :aU 110 [.af (aw o)] (.aX [eo (bf o),.i6 (dd o)]):=by
 apply a2 func110 [];unfold bf;have h:=dt o;have w:(bZ 32 (.int .u8 0) :ag)=(List.replicate 32 0#8).map a7:=by simp[bZ]
 obtain⟨E,j⟩:=al (aw o);have m:E.length=11:=by rw[j];rfl
 have p:=Kv o q;rw[<-j] at p h ⊢;simp[m,aI];refine au p (by simp[am,U.ar,h]) ?_;by_cases g:dd o=0
 ·have t:=DX o q (by have:=p1 g;omega);rw[<-j] at t;have u:(go (fZ o)).length=32:=o7 _;simp[g,m,aI];refine au t (by simp[am,U.ar,h]) ?_;have v:av (bZ 32 (.int .u8 0)) 0 ((go (fZ o)).map a7)=(go (fZ o)).map a7:=cD (by rw[ce,u];rfl);simp[eo,u,v,aI];exact aP (by rw[ak g,g]) (by simp[U.ar,am,jy a7 (fun _=>rfl)])
 ·simp[g,m,aI];refine au p (by simp[am,U.ar,h]) ?_;simp[eo,w];exact aP (by rw[ai g];rfl) (by simp only[U.ar,am,jy a7 (fun _=>rfl),k5])
theorem xn {l:ae} {b n:Nat} {g:ag} {k:Nat} {w:U} {kd:cU} (h:l[b]?=some (.q n g)) (j:g.length=n) (hk:g[k]?=some w) :
  ∃ p cs o,bQ (.Z 1) (.Z 1 b 0 n n n) (.int kd (k:Int))=some p/\fN l p=some (cs,o)/\cs[o]?=some w:=by
 have m:k<n:=by rw[<-j];exact (aL.1 hk).1
 refine⟨.ptr b (0+k*1) n,g,0+k*1,?_,?_,by simpa using hk⟩
 ·simp only[bQ,fo];rw[ak ⟨trivial,F,F⟩]
 ·simp only[fN,h,if_true]
theorem RJ {n:Nat} (C:n<=1000000000) {l:ae} {K:cB} (h:∀ v l',cd 1 bW l l' v ([] :List B) (decide (n=0))->K v l') :cM 219 [.ad,.i6 n] l K:=by
 apply c1 func219 [];have h1:¬((n:Int)<0):=F;have u:IntKind.i64.wrap (n:Int)=n:=wrap_i64 F F;have w:IntKind.i64.wrap (0:Int)=0:=rfl;by_cases g:n=0
 ·subst g;simp;exact h _ _ cd.nil
 have z:(0:Int)<n:=F;have o:ow l 1 1 [.int .u8 0] .ad (.i6 n)=some (.Z 1 l.length 0 n n (n*1),l++[.q (n*1) (cQ [.int .u8 0] n)]):=by
  unfold ow hq;simp only[fo];have j:=du;rw[ak ⟨F,F,by rw[j];omega⟩,ai g,ai F,ak (by rw[j];omega)]
 have m:dw (.Z 1) (.Z 1 l.length 0 n n (n*1)) none (some (.i6 0)) none=some (.Z 1 l.length 0 0 n (n*1)):=by
  rw[rk,yo,ak ⟨F,F⟩];simp[g]
 rw[oi] at o m;have p:0<n:=F;simp[h1,p,u,o,w,m];refine h _ (l++[.q n (cQ [.int .u8 0] n)]) ⟨l.length,.Z _ 0 n n (cQ [.int .u8 0] n) [] V (by rw[uF];simp) rfl V F F rfl,V,fun b t=>aV t,.inr (aN _),?_⟩;simp[bq,g]
def g8 (bs:aR) :List B:=bs.flatten
theorem HP {bs:aR} {k:Nat} {s:List B} (h:bs[k]?=some s) :g8 (bs.take (k+1))=g8 (bs.take k)++s:=by unfold g8;rw[ei,h];simp
theorem HO (bs:aR) (k:Nat) :(g8 (bs.take k)).length<=(g8 bs).length:=by
 conv=>rhs;rw[<-i3 k bs]
 unfold g8;rw[jr,cI];omega
structure ku (l:ae) (w:U) (s:List B) :Prop where
 len:bD (.Z 1) w=some (.i6 s.length)
 Hb:∀ l',l.length<=l'.length->(∀ b,b<l.length->l'[b]?=l[b]?)->cq l' 1 w=some ((s.map bW).flatten,s.length)
theorem uu {l l1:ae} {w:U} {s:List B} {j:Bool} (h:cd 1 bW l l1 w s j) :ku l1 w s:=⟨h.len,fun m h1 g=>(h.frame h1 g).contents⟩
theorem ku.frame {l l1:ae} {w:U} {s:List B} (h:ku l w s) (p:l.length<=l1.length) (m:∀ b,b<l.length->l1[b]?=l[b]?) :ku l1 w s:=
 ⟨h.len,fun o h1 g=>h.Hb o F fun b j=>by rw[g b F];exact m b j⟩
theorem JR {l:ae} {b:Nat} {x:B} (h:l[b]?=some (.q 1 [a7 x])) :ku l (.Z 1 b 0 1 1 1) [x]:=by have:=a1 h;exact⟨rfl,fun j h1 g=>by have:=g b this;rw[h] at this;simp[cq,this,bW]⟩
structure Nb (l:ae) (X:U) (bs:aR) (k:Nat) (sgZ:aS) (l1:ae) :Prop where
 H6:sgZ 25=X
 CB:sgZ 26=.i6 bs.length
 CC:sgZ 27=.i6 k
 ut:∃ v,sgZ 6=v/\cd 1 bW l l1 v (g8 (bs.take k)) (decide ((g8 bs).length=0))
theorem Hc {l:ae} {b n:Nat} {G:ag} {bs:aR} (ar:l[b]?=some (.q n G)) (aH:G.length=n) (ay:bs.length=n)
  (aD:∀ (k:Nat) (w:U) (s:List B),G[k]?=some w->bs[k]?=some s->ku l w s) (az:(g8 bs).length<=1000000000) (aK:n<=1000000000)
  {K:cB} (ax:∀ v l',cd 1 bW l l' v (g8 bs) (decide ((g8 bs).length=0))->K v l') :
  cM 172 [.Z 1 b 0 n n n] l K:=by
 apply c1 func172 [];have aA:=a1 ar;have J:∀ l',l.length<=l'.length->(∀ b,b<l.length->l'[b]?=l[b]?)->∀ k,k<n->∃ w s p cs o,G[k]?=some w/\bs[k]?=some s/\ku l' w s/\bQ (.Z 1) (.Z 1 b 0 n n n) (.i6 (k:Int))=some p/\fN l' p=some (cs,o)/\cs[o]?=some w:=by
  intro l' h1 ao k hk;obtain⟨w,D,_⟩:=aQ (l:=G) (k:=k) F;obtain⟨s,m,_⟩:=aQ (l:=bs) (k:=k) F;obtain⟨p,cs,o,t,u,z⟩:=xn (kd:=.i64) (l:=l') (by rw[ao b aA];exact ar) aH D;exact⟨w,s,p,cs,o,D,m,(aD k w s D m).frame h1 ao,t,u,z⟩
 obtain⟨H,ap⟩:=al (U.Z 1 b 0 n n n);have aq:bD (.Z 1) H=some (.i6 bs.length):=by rw[ap,ay];rfl
 rw[<-ap] at J ⊢;simp[aq];refine bB n (fun k g I=>g 0=H/\g 9=H/\g 10=.i6 bs.length/\g 11=.i6 k/\g 3=.i6 (g8 (bs.take k)).length/\I=l) ?_ ?_
 ·rintro k g I hk ⟨T,am,W,X,aj,rfl⟩;obtain⟨g,rfl⟩:=gu T aj am W X;clear T aj am W X;simp;by_cases h:k<bs.length
  ·obtain⟨w,s,p,cs,o,D,m,Q,t,u,z⟩:=J I (aN _) (fun _ _=>rfl) k F;have C:=HP m;have P:=HO bs (k+1);rw[C,cI] at P;have aG:IntKind.i64.wrap (((g8 (bs.take k)).length:Int)+s.length)=((g8 (bs.take k)).length:Int)+s.length:=wrap_i64 F F;have R:IntKind.i64.wrap ((k:Int)+1)=k+1:=wrap_i64 F F;have aB:¬(((g8 (bs.take k)).length:Int)+s.length<0):=F;have aE:=Q.len;simp[h,t,u,z,aE,aG,aB,R,C];omega
  ·have O:k=bs.length:=F;subst O;rw[e0];simp;refine RJ az ?_;intro v l j;simp[aq];refine bB bs.length (Nb I H bs) ?_ ⟨V,V,V,v,V,by simpa [g8] using j⟩;rintro k g av hk ⟨Y,ah,ai,w,ak,j⟩;obtain⟨g,rfl⟩:=eO ak Y ah ai;clear ak Y ah ai;simp;by_cases h:k<bs.length
   ·obtain⟨y,s,p,cs,o,D,m,Q,t,u,z⟩:=J av j.le j.same k F;have C:=HP m;have P:=HO bs (k+1);rw[C,cI] at P;have R:IntKind.i64.wrap ((k:Int)+1)=k+1:=wrap_i64 F F;have aF:=du;obtain⟨aI,aL,aw,S,aJ⟩:=j.app (by_:=1) (x:=y) (xs:=s) (Q.Hb av (aN _) fun _ _=>rfl) (by simp[bW]) F F (by rw[aF];omega);simp[h,t,u,z,aw];refine bR.bm ?_;simp[h,R];refine⟨V,V,V,aI,V,?_⟩;rw[C];have aC:(decide ((g8 bs).length=0)&&s.isEmpty)=decide ((g8 bs).length=0):=by
     by_cases au:(g8 bs).length=0
     ·have:s=[]:=ho.1 F;simp[au,this]
     ·simp[au]
    rw[aC] at S;exact S
   ·have O:k=bs.length:=F;subst O;simp;rw[e0] at j;exact ax _ _ j
 ·simp[g8]
def fI (o:aK) :aK:={ o with e:=0#32,s:=0#32 }
theorem MI (o:aK) (p:dk o) (hk:dd (fI o)=0) {l:ae} {K:cB} (W:∀ w l',cd 1 bW l l' w (iD o) false->K (.aX [w,.i6 0]) l') :
  cM 117 [.af (aw o)] l K:=by
 apply c1 func117 [cT 0 4++[[5],[6],[7]]++cT 9 4++[[4,12,11,7,0],[8,12,11,0]]];have ap:=du;have bI:=gB o.eL.toNat
 have bJ:=gB o.e9.toNat
 have bK:=wG p.idsZ;have bp:dk (fI o):=⟨p.idsZ,p.len,p.val,p.key⟩
 have aM:=AW (fI o) bp;rw[hk] at aM;have bF:o.ax.l.length<=4:=p1 (o:=fI o) hk;have aZ:b8 o.ax.l=true:=by
  unfold dd at hk;have I:(fI o).ax=o.ax:=rfl;rw[I,ai F] at hk;cases j:b8 o.ax.l with
  | true=>rfl
  | false=>rw[j] at hk;cases hk
 have bz:(BitVec.setWidth 64 o.eL).toNat=o.eL.toNat:=by rw[fx];exact ed (by have:=o.eL.isLt;omega)
 have bl:=dt (fI o);have bo:l.length<(l++[aq.q 11 (aw (fI o))]).length:=V;have bi:(l++[aq.q 11 (aw (fI o))])[l.length]?=some (.q 11 (aw (fI o))):=V;simp[aw];refine au aM (show am [U.af (aw (fI o))]=true by simp[am,U.ar,bl]) ?_;simp;refine Y6 o.ax p.idsZ F aZ fun aA g h1=>?_
 have ah:g[l.length]?=some (.q 11 (aw (fI o))):=by rw[h1.same _ bo];exact bi
 have aQ:l.length<g.length:=by have:=h1.le;simp at this;omega
 have bq:=ah;simp[aw,fI] at bq;have bt:(g++[aq.q 1 [U.int .u8 111]])[l.length]?=some (.q 11 (aw (fI o))):=by rw[aV aQ];exact ah
 have bH:l.length<(g++[aq.q 1 [U.int .u8 111]]).length:=by simp;omega
 have aY:=bt;simp[aw,fI] at aY;simp[aY];have bw:(g++[aq.q 1 [U.int .u8 111],aq.q 1 [U.int .u8 (u o.act.kind)]])[l.length]?=some (.q 11 (aw (fI o))):=by rw[aV aQ];exact ah
 have bv:(g++[aq.q 1 [U.int .u8 111],aq.q 1 [U.int .u8 (u o.act.kind)]])[g.length]?=some (.q 1 [.int .u8 111]):=V;have bx:(g++[aq.q 1 [U.int .u8 111],aq.q 1 [U.int .u8 (u o.act.kind)]])[g.length+1]?=some (.q 1 [.int .u8 (u o.act.kind)]):=V;have z:(g++[aq.q 1 [U.int .u8 111],aq.q 1 [U.int .u8 (u o.act.kind)]]).length=g.length+2:=V;refine sX _ fun aB ay m=>?_
 rw[bz] at m;have aO:=m.le;rw[z] at aO;have aR:ay[l.length]?=some (.q 11 (aw (fI o))):=by rw[m.same _ (by rw[z];omega)];exact bw
 have aF:ay[g.length]?=some (.q 1 [.int .u8 111]):=by rw[m.same _ (by rw[z];omega)];exact bv
 have aG:ay[g.length+1]?=some (.q 1 [.int .u8 (u o.act.kind)]):=by rw[m.same _ (by rw[z];omega)];exact bx
 have aS:=aR;simp[aw,fI] at aS;simp[aS,aF,aG];refine sX _ fun aC t j=>?_
 have aP:=j.le;have cv:t[l.length]?=some (.q 11 (aw (fI o))):=by rw[j.same _ F];exact aR
 have aH:t[g.length]?=some (.q 1 [.int .u8 111]):=by rw[j.same _ F];exact aF
 have aI:t[g.length+1]?=some (.q 1 [.int .u8 (u o.act.kind)]):=by rw[j.same _ F];exact aG
 have aT:=cv;simp[aw,fI] at aT;simp[aT,aH,aI,h1.cells,m.cells,j.cells,av];obtain⟨L,Q⟩:=al (t++[aq.q 5 [.Z 1 g.length 0 1 1 1,aB,aA,aC,.Z 1 (g.length+1) 0 1 1 1]]);have X:t.length<=L.length:=by rw[Q];simp
 have B:∀ b,b<t.length->L[b]?=t[b]?:=fun b J=>by rw[Q,aV J]
 have bf:L[t.length]?=some (.q 5 [.Z 1 g.length 0 1 1 1,aB,aA,aC,.Z 1 (g.length+1) 0 1 1 1]):=by rw[Q];simp
 rw[<-Q];have a2:ku L (.Z 1 g.length 0 1 1 1) [111#8]:=JR (by rw[B _ F];exact aH);have a6:ku L (.Z 1 (g.length+1) 0 1 1 1) [o.act.kind]:=JR (by rw[B _ F];exact aI);have a3:ku L aB (dD o.eL.toNat):=((uu m).frame aP j.same).frame X B;have a4:ku L aA (nN o.ax.l):=((((uu h1).frame (l1:=g++[aq.q 1 [U.int .u8 111],aq.q 1 [U.int .u8 (u o.act.kind)]]) (by rw[z];omega) (fun b J=>aV J)).frame (by rw[z];exact aO) m.same).frame aP j.same).frame X B;have a5:ku L aC (dD o.e9.toNat):=(uu j).frame X B;have aW:L[l.length]?=some (.q 11 (aw (fI o))):=by rw[B _ F];exact cv
 obtain⟨M,Y⟩:=al (g8 [[111#8],dD o.eL.toNat,nN o.ax.l,dD o.e9.toNat,[o.act.kind]]);have ag:M=[111#8]++dD o.eL.toNat++nN o.ax.l++dD o.e9.toNat++[o.act.kind]:=by rw[Y];simp[g8]
 have bE:M.length<=40000:=by rw[ag];simp only[cI,dM,hp];omega
 have bh:M.length≠0:=by rw[ag];simp
 refine Hc (bs:=[[111#8],dD o.eL.toNat,nN o.ax.l,dD o.e9.toNat,[o.act.kind]]) bf rfl rfl ?_ (by rw[<-Y];omega) F fun bD az P=>?_
 ·intro k w s G O;rcases k with _ | _ | _ | _ | _ | k
  ·obtain rfl:=cc G;obtain rfl:=cc O;exact a2
  ·obtain rfl:=cc G;obtain rfl:=cc O;exact a3
  ·obtain rfl:=cc G;obtain rfl:=cc O;exact a4
  ·obtain rfl:=cc G;obtain rfl:=cc O;exact a5
  ·obtain rfl:=cc G;obtain rfl:=cc O;exact a6
  ·cases G
 rw[<-Y,cu bh] at P;have bg:l.length<=L.length:=F;have aJ:cd 1 bW l az bD M false:=P.base bg fun b J=>by
  have bj:b<g.length:=F;rw[B b F,j.same b F,m.same b (by rw[z];omega),aV bj,h1.same b (by simp;omega),aV J]
 have aU:az[l.length]?=some (.q 11 (aw (fI o))):=by rw[P.same _ F];exact aW
 have bG:l.length<az.length:=a1 aU;have aj:=aU;simp[aw,fI] at aj;have C:iD o=M++(if o.act.kind=1#8 then [] else hf (ec o.act.key))++(if o.act.kind=4#8 then hg o.act.val else []):=by rw[ag];rfl
 have bA:=uZ (ec o.act.key);rw[m8] at bA;have bn:=p.key;have bL:=xI o.act.val;have bM:=p.val.2.2;have bk:r5 (.str o.act.key)=some (.bu 1 ((ec o.act.key).map bW)):=by
  show some (U.bu 1 (o.act.key.map fun b=>[hr b]))=_;rw[AI]
 by_cases H:o.act.kind=1#8
 ·have I:(u o.act.kind:Int)=1:=(g0 o.act.kind).2 H;have v:¬ o.act.kind=4#8:=by rw[H];decide
  rw[ak H,ai v,eJ,eJ] at C;simp[aj,I];exact W _ _ (by rw[C];exact aJ)
 ·have I:¬ (u o.act.kind:Int)=1:=fun h=>H ((g0 o.act.kind).1 h)
  rw[ai H] at C;simp[aj,I,bk];refine ME (some (ec o.act.key)) (by simpa [m8] using bn) (by simp[cq]) V (fun l' _ _=>by simp[cq]) fun a0 fq D=>?_
  obtain⟨bT,bB,aD,R,_⟩:=(aJ.frame D.le D.same).app (by_:=1) (x:=a0) (xs:=hf (ec o.act.key)) D.contents (by simp[bW]) F F (by rw[ap];omega);have a9:=(P.frame D.le D.same).app (by_:=1) (x:=a0) (xs:=hf (ec o.act.key)) D.contents (by simp[bW]) F F (by rw[ap];omega);obtain⟨bV,bQ,aE,bb,_⟩:=a9;rw[aD] at aE;obtain⟨rfl,rfl⟩:=vp (cc aE);have br:bB[l.length]?=some (.q 11 (aw (fI o))):=by rw[bb.same _ F];exact aW
  have ao:=br;simp[aw,fI] at ao;simp[aD];refine bR.bm ?_;simp only[rD] at R;by_cases v:o.act.kind=4#8
  ·have S:(u o.act.kind:Int)=4:=(rr o.act.kind).2 v;rw[ak v] at C;have aL:iP o.act=true:=by
    cases h:iP o.act with
    | true=>rfl
    | false=>
     unfold dd at hk;have bc:(fI o).ax=o.ax:=rfl;have bd:(fI o).act=o.act:=rfl;rw[bc,ai F,aZ,ak rfl] at hk;unfold pI at hk;rw[bd,h] at hk;simp at hk
   rw[vE v,bU] at aL;simp[ao,S];refine Zd o.act.val p.val aL.2 fun bC bN T=>?_
   obtain⟨bS,bO,a7,a8,_⟩:=(R.frame T.le T.same).app (by_:=1) (x:=bC) (xs:=hg o.act.val) T.contents (by simp[bW]) F F (by rw[ap];simp only[cI];omega);simp[a7];refine bR.bm ?_;simp;exact W _ _ (by rw[C];exact a8)
  ·have S:¬ (u o.act.kind:Int)=4:=fun h=>v ((rr o.act.kind).1 h)
   rw[ai v,eJ] at C;simp[ao,S];exact W _ _ (by rw[C];exact R)
theorem Gr {o:aK} (h:dd o=0) :dd (fI o)=0:=by
 unfold dd at h ⊢;have g:(fI o).ax=o.ax:=rfl;rw[g];have p:pI o=true->pI (fI o)=true:=by
  unfold pI fI;simp only[bU];rintro⟨a,b,c,d,e⟩;exact⟨a,b,c,by decide,by decide⟩
 split at h
 ·cases h
 ·rename_i h1;rw[ai h1];split at h
  ·rename_i j;rw[ak j];split at h
   ·rename_i m;rw[ak (p m)]
   ·cases h
  ·cases h
theorem QS {o:aK} (h:dd o=0) :iP o.act=true:=by
 unfold dd at h;split at h
 ·cases h
 ·split at h
  ·split at h
   ·rename_i g;unfold pI at g;simp only[bU] at g;exact g.2.2.1
   ·cases h
  ·cases h
theorem C0 {s:List UInt8} (h:hy s=true) :s.length<=20:=by unfold hy at h;simp only[bU,bK] at h;omega
theorem HE {o:aK} (C:dk o) (h:dd o=0) :(fZ o).length<=1000:=by
 have h1:=gB o.eL.toNat
 have G:=gB o.e9.toNat
 have H:=wG C.idsZ;have B:=uZ (ec o.act.key);rw[m8] at B;have I:=xI o.act.val;have K:=p1 h;have J:=gB o.e.toNat
 have O:=gB o.s.toNat
 have j:=QS h;have D:(if o.act.kind=1#8 then [] else hf (ec o.act.key)).length<=100:=by
  split
  ·simp
  ·rename_i z;have:o.act.key.length<=20:=by
    by_cases q:o.act.kind=2#8
    ·rw[BH q,bU] at j;exact C0 j.1
    ·by_cases t:o.act.kind=3#8
     ·rw[BI t,bU] at j;exact C0 j.1
     ·by_cases m:o.act.kind=4#8
      ·rw[vE m,bU] at j;exact C0 j.1
      ·rw[BJ z q t m] at j;cases j
   omega
 have F:(if o.act.kind=4#8 then hg o.act.val else []).length<=100:=by
  split
  ·rename_i m;rw[vE m,bU] at j;have g:=j.2;have:o.act.val.text.length<=30:=by
    by_cases v:o.act.val.kind=1#8
    ·rw[E7 v] at g;simp only[bU,bK] at g;rw[g.2];simp
    ·by_cases w:o.act.val.kind=2#8
     ·rw[E8 w] at g;simp only[bU,bK] at g;rw[g.2.2];simp
     ·by_cases p:o.act.val.kind=3#8
      ·by_cases u:o.act.val.text.length<=30
       ·exact u
       ·rw[Mz p] at g;unfold pc at g;rw[ai u] at g;simp only[bU,ph] at g;have:=g.1;rw[p] at this;exact bV this (by decide)
      ·rw[E9 v w p] at g;cases g
   omega
  ·simp
 unfold fZ iD opHead;simp only[cI,dM,hp];omega
theorem Y3 (o:aK) (z:dk o) (hk:dd o=0) {l:ae} {K:cB} (X:∀ w l',cd 1 bW l l' w (fZ o) false->K (.aX [w,.i6 0]) l') :
  cM 149 [.af (aw o)] l K:=by
 apply c1 func149 [cT 0 5++cT 6 4++[[5,9,8]]];have O:=AW o z;rw[hk] at O;have ai:=dt o;have az:=HE z hk;have ap:(BitVec.setWidth 64 o.e).toNat=o.e.toNat:=by rw[fx];exact ed (by have:=o.e.isLt;omega)
 have ax:(BitVec.setWidth 64 o.s).toNat=o.s.toNat:=by rw[fx];exact ed (by have:=o.s.isLt;omega)
 have aj:l.length<(l++[aq.q 11 (aw o)]).length:=V;have ah:(l++[aq.q 11 (aw o)])[l.length]?=some (.q 11 (aw o)):=V;simp[aw];refine au O (show am [U.af (aw o)]=true by simp[am,U.ar,ai]) ?_;simp;refine MI o z (Gr hk) fun D R h1=>?_
 have B:R[l.length]?=some (.q 11 (aw o)):=by rw[h1.same _ aj];exact ah
 have ak:l.length<R.length:=a1 B;have P:=B;simp[aw] at P;simp[P];refine sX _ fun G ay h=>?_
 rw[ap] at h;have ao:ay[l.length]?=some (.q 11 (aw o)):=by rw[h.same _ ak];exact B
 have Q:=ao;simp[aw] at Q;simp[Q];refine sX _ fun H j g=>?_
 rw[ax] at g;simp[h1.cells,h.cells,g.cells,av];obtain⟨L,m⟩:=al (j++[aq.q 3 [D,G,H]]);have u:j.length<=L.length:=by rw[m];simp
 have p:∀ b,b<j.length->L[b]?=j[b]?:=fun b v=>by rw[m,aV v]
 have Y:L[j.length]?=some (.q 3 [D,G,H]):=by rw[m];simp
 rw[<-m];have S:ku L D (iD o):=(((uu h1).frame h.le h.same).frame g.le g.same).frame u p;have T:ku L G (dD o.e.toNat):=((uu h).frame g.le g.same).frame u p;have W:ku L H (dD o.s.toNat):=(uu g).frame u p;have J:g8 [iD o,dD o.e.toNat,dD o.s.toNat]=fZ o:=by simp[g8,fZ]
 have ag:(fZ o).length≠0:=by unfold fZ iD opHead;simp
 refine Hc (bs:=[iD o,dD o.e.toNat,dD o.s.toNat]) Y rfl rfl ?_ (by rw[J];omega) F fun aB aA I=>?_
 ·intro k w s t C;rcases k with _ | _ | _ | k
  ·obtain rfl:=cc t;obtain rfl:=cc C;exact S
  ·obtain rfl:=cc t;obtain rfl:=cc C;exact T
  ·obtain rfl:=cc t;obtain rfl:=cc C;exact W
  ·cases t
 rw[J,cu ag] at I;simp;refine X _ _ (I.base ?_ fun b v=>?_)
 ·have:=h.le;have:=g.le;omega
 ·have:=h.le;have:=g.le;rw[p b F,g.same b F,h.same b F,h1.same b (by simp;omega),aV v]
theorem Y2 (o:aK) (p:dk o) (hk:¬ dd o=0) :aU 149 [.af (aw o)] (.aX [.ad,.i6 (dd o)]):=by
 apply a2 func149 [cT 0 5++cT 6 4++[[5,9,8]]];have h:=AW o p;have j:=dt o;obtain⟨E,g⟩:=al (aw o);have m:E.length=11:=by rw[g];rfl
 rw[<-g] at h j ⊢;simp[m,aI];refine au h (by simp[am,U.ar,j]) ?_;simp[hk];exact aF
theorem u2 (o:aK) (j:dk o) :aU 97 [.af (aw o)] (.aX [eo (bf o),.i6 (dd o)]):=by
 apply a2 func97 [];unfold bf;have t:=dt o;have C:(bZ 32 (.int .u8 0) :ag)=(List.replicate 32 0#8).map a7:=by simp[bZ]
 obtain⟨E,h⟩:=al (aw o);have m:E.length=11:=by rw[h];rfl
 by_cases g:dd o=0
 ·have D:=HE j g;have v:(go (fZ o)).length=32:=o7 _;rw[<-h];simp[m,aI];rw[h];refine Y3 o j g fun F w h1=>?_
  rw[<-h] at h1;have p:w[1]?=some (.q 32 (bZ 32 (.int .u8 0))):=by rw[h1.same 1 V];rfl
  simp;refine ig (X5 (some (fZ o)) (by simp;omega)) (.cons (h1.o3 (fun _=>rfl) (some (fZ o)) rfl rfl) .nil) (by simp[U.flat,kH,eo,tQ a7 (fun _=>rfl)]) ?_;have B:av (bZ 32 (.int .u8 0)) 0 ((go (fZ o)).map a7)=(go (fZ o)).map a7:=cD (by rw[ce,v];rfl);have z:(w.set 1 (aq.q 32 ((go (fZ o)).map a7)))[1]?=some (.q 32 ((go (fZ o)).map a7)):=bY (a1 p);simp[p,eo,v,B,z,aI];exact aP (by rw[ak g,g]) (by simp[U.ar,am,jy a7 (fun _=>rfl)])
 ·have u:=Y2 o j g;rw[<-h] at u t ⊢;simp[m,aI];refine au u (by simp[am,U.ar,t]) ?_;simp[g,eo,C];exact aP rfl (by simp only[U.ar,am,k5])
end Op
end Go.bh
namespace Go.bh
open Go Go.Proofs Go.Proofs.Tryz Go.RowKit
namespace Op
open cl
theorem Ml {P:bp} {t:aG} {ts:List aG} {cs:ag} (j:P.underlying t=some .string) (h:c4 P (t::ts) cs) :∃ s cs',cs=.str s::cs'/\c4 P ts cs':=by
 cases h
 case str s cs' g m h=>exact⟨_,_,rfl,h⟩
 all_goals (exfalso;simp_all;done)
theorem E5 {ts:List aG} {cs:ag} (h:c4 prog (5::ts) cs) :∃ (x:B) (cs' : ag),cs=a7 x::cs'/\c4 prog ts cs':=by
 obtain⟨k,g,rfl,h1,j,m⟩:=na (k:=.u8) bn h;have o:(0:Int)<=k:=h1;have p:k<=255:=j;refine⟨BitVec.ofNat 8 k.toNat,g,?_,m⟩;have:((BitVec.ofNat 8 k.toNat).toNat:Int)=k:=by
  rw[fP,ed F];omega
 simp[a7,u];omega
theorem E2 {ts:List aG} {cs:ag} (h:c4 prog (57::ts) cs) :∃ (x:List B) (cs' : ag),cs=x.map a7++cs'/\x.length=32/\c4 prog ts cs':=by have h1:=Yu (e:=5) (n:=32) bn h;exact Mk bn 32 h1
theorem xG {ts:List aG} {cs:ag} (h:c4 prog (23::ts) cs) :∃ (s:b2) (cs' : ag),cs=ah s::cs'/\c5 s/\c4 prog ts cs':=by
 obtain⟨s,cs',rfl,_,h1,g⟩:=AQ (e:=57) (z:=32) (enc:=ao) (Q:=fun x=>x.length=32) bn bn (fun r m=>by
  obtain⟨x,cs',rfl,o,j⟩:=E2 m;rw[u0 j,eJ];exact⟨x,rfl,o⟩) h
 exact⟨s,cs',rfl,h1,g⟩
theorem E4 {ts:List aG} {cs:ag} (h:c4 prog (46::ts) cs) :∃ (x:D) (cs' : ag),cs=bg x::cs'/\c4 prog ts cs':=by
 obtain⟨k,g,rfl,h1,j,m⟩:=na (k:=.u32) bn h;have o:(0:Int)<=k:=h1;have p:k<=4294967295:=j;refine⟨BitVec.ofNat 32 k.toNat,g,?_,m⟩;have:((BitVec.ofNat 32 k.toNat).toNat:Int)=k:=by
  rw[fP,ed F];omega
 simp[bg,u];omega
structure vB (o:aK) :Prop where
 idsZ:c5 o.ax
 gN:-9223372036854775808<=o.act.val.num
 q2:o.act.val.num<9223372036854775808
theorem YA {ts:List aG} {cs:ag} (h:c4 prog (49::ts) cs) :∃ (v:gS) (cs' : ag),cs=[a7 v.kind,.i6 v.num,c6 v.bits,.str v.text]++cs'/\(-9223372036854775808<=v.num/\v.num<9223372036854775808)/\c4 prog ts cs':=by have h1:=n2 (fs:=[5,2,47,9]) bn h;obtain⟨k,_,rfl,g⟩:=E5 h1;obtain⟨n,_,rfl,p,q,j⟩:=na (k:=.i64) bn g;obtain⟨b,_,rfl,m⟩:=Mm j;obtain⟨s,_,rfl,o⟩:=Ml bn m;have t:n<=9223372036854775807:=q;exact⟨⟨k,n,b,s⟩,_,rfl,⟨p,by show n<9223372036854775808;omega⟩,o⟩
theorem Yt {ts:List aG} {cs:ag} (h:c4 prog (51::ts) cs) :∃ (a:Act) (cs' : ag),cs=[a7 a.kind,.str a.key,a7 a.val.kind,.i6 a.val.num,c6 a.val.bits,.str a.val.text]++cs'/\(-9223372036854775808<=a.val.num/\a.val.num<9223372036854775808)/\c4 prog ts cs':=by have h1:=n2 (fs:=[5,9,49]) bn h;obtain⟨k,_,rfl,g⟩:=E5 h1;obtain⟨s,_,rfl,j⟩:=Ml bn g;obtain⟨p,_,rfl,o,m⟩:=YA j;exact⟨⟨k,s,p⟩,_,rfl,o,m⟩
theorem E3 {ts:List aG} {cs:ag} (h:c4 prog (55::ts) cs) :∃ (o:aK) (cs' : ag),cs=aw o++cs'/\vB o/\c4 prog ts cs':=by have h1:=n2 (fs:=[46,23,47,51,53]) bn h;obtain⟨a,_,rfl,j⟩:=E4 h1;obtain⟨z,_,rfl,w,m⟩:=xG j;obtain⟨n,_,rfl,p⟩:=Mm m;obtain⟨c,_,rfl,g,q⟩:=Yt p;have t:=n2 (fs:=[46,46]) bn q;obtain⟨x,_,rfl,u⟩:=E4 t;obtain⟨y,cs',rfl,v⟩:=E4 u;exact⟨⟨a,z,n,c,x,y⟩,cs',by simp[aw],⟨w,g.1,g.2⟩,v⟩
end Op
end Go.bh
namespace Go.bh
open Go Go.Proofs Go.Proofs.Tryz
open cl Op
def zR (a n:Nat) :Nat->Nat
 | 0=>1
 | k+1=>match Nat.beq (n / 2 ^ (63 - k) % 2) 1 with
  | true=>((zR a n k) ^ 2 % 1000000007)*a % 1000000007
  | false=>(zR a n k) ^ 2 % 1000000007
theorem JY (a n:Nat) (j:n<2 ^ 64) :∀ k,k<=64->zR a n k=eG a (n / 2 ^ (64 - k))
 | 0,_=>by
  have:n / 2 ^ (64 - 0)=0:=qq j;rw[this];rfl
 | k+1,hk=>by
  have o:=JY a n j k F;have g:=Ic n k F;have e:64 - (k+1)=63 - k:=F;rw[e];unfold zR;rw[o,Nat.pow_two,J2];split
  ·rename_i h;have h1:=mu h;rw[J0,g,h1]
  ·rename_i h;have h1:n / 2 ^ (63 - k) % 2≠1:=fun m=>by rw[m] at h;cases h
   rw[g];congr 1;omega
namespace Op
open cl
section
variable {alZ:Type} {z:Nat} {enc:alZ->ag}
theorem JH {l:ae} {v:U} {j k:Nat} {g:List alZ} {zr:ag} (B:zr.length=z) (h:aH z l v j (g.map enc)) (hk:k<g.length) :
  ∃ C o r,dw (.Z z) v (some (.i6 (k:Int))) none none=some C/\pC zr l C=some o/\dw (.Z z) v none (some (.i6 (k:Int))) none=some r ∧
   aH z o r j ((g.take k).map enc)/\bq r=false/\o.length=l.length/\∀ b,b≠j->o[b]?=l[b]?:=by
 generalize m:g.map enc=J at h;cases h with
 | nil j=>rw[ni] at m;subst m;simp at hk
 | Z j n cap p cs J u am ah w Q S W=>
  subst m;have aq:g.length=n:=by simpa using ah
  have K:gU (.i6 (k:Int)) n=some k:=by
   show (if 0<=(k:Int)/\(k:Int)<=(n:Int) then some (k:Int).toNat else none)=some k;rw[ak ⟨F,F⟩];simp
  have O:gU (.i6 (k:Int)) cap=some k:=by
   show (if 0<=(k:Int)/\(k:Int)<=(cap:Int) then some (k:Int).toNat else none)=some k;rw[ak ⟨F,F⟩];simp
  have D:e2 n cap (some (.i6 (k:Int))) none none=some (k,n,cap):=by
   show (match gU (.i6 (k:Int)) n with | none=>none | some l=>some (l,n,cap))=_;rw[K]
  have G:e2 n cap none (some (.i6 (k:Int))) none=some (0,k,cap):=by
   show (match gU (.i6 (k:Int)) cap with | none=>none | some h=>some (0,h,cap))=_;rw[O]
  have T:¬ cap=k:=F;have R:¬ cap=0:=F;have X:j<l.length:=a1 u;have Y:k*z<=n*z:=ck _ F;have ao:n*z<=cap*z:=ck _ Q;have aj:(cQ zr (n - k)).length=(n - k)*z:=by rw[uF,B]
  have ap:k*z+(n - k)*z=n*z:=by rw[<-eP];congr 1;omega
  refine⟨.Z z j (k*z) (n - k) (cap - k) p,l.set j (.q p (av cs (k*z) (cQ zr (n - k)))),.Z z j 0 k cap p,?_,?_,?_,?_,rfl,V,fun b P=>by rw[bj (fun h=>P h.symm)]⟩
  ·rw[rk,D];simp[T]
  ·unfold pC;simp only;rw[ai F];simp[u,B]
  ·rw[rk,G];simp[R]
  ·refine .Z j k cap p _ _ (bY X) (by rw[o9 F,aj];omega) (by simp;omega) (fun e m=>?_) F S ?_
   ·obtain⟨y,t,rfl⟩:=cE.1 m;exact w _ (tc (gy t))
   ·unfold av;rw[hi,il (by rw[cL];omega),lL,Nat.min_self];have H:cs.take (k*z)=(cs.take (n*z)).take (k*z):=by rw[lL,i5 Y]
    have I:g.map enc=(g.take k).map enc++(g.drop k).map enc:=by rw[<-cV,i3]
    have al:((g.take k).map enc).flatten.length=k*z:=by
     rw[hv (z:=z) (fun e m=>by obtain⟨y,t,rfl⟩:=cE.1 m;exact w _ (tc (gy t)))];rw[ce,cL,i5 F]
    rw[H,W,I,jr,il F,aI F]
theorem JI {g:List alZ} (t:∀ y∈g,(enc y).length=z) (k:Nat) (hk:k<=g.length) {n:Nat} (w:g.length=n) {cs:ag} (j:cs.take (n*z)=(g.map enc).flatten) (v:n*z<=cs.length) :
  cs.take (k*z)=((g.take k).map enc).flatten/\(cs.drop (k*z)).take (n*z - k*z)=((g.drop k).map enc).flatten:=by
 have p:k*z<=n*z:=ck _ F;have h:g.map enc=(g.take k).map enc++(g.drop k).map enc:=by rw[<-cV,i3]
 have u:((g.take k).map enc).flatten.length=k*z:=by
  rw[hv (z:=z) (fun e o=>by obtain⟨y,q,rfl⟩:=cE.1 o;exact t _ (gy q))];rw[ce,cL,i5 F]
 have m:cs.take (k*z)=(cs.take (n*z)).take (k*z):=by rw[lL,i5 p]
 constructor
 ·rw[m,j,h,jr,il F,aI F]
 ·rw[<-qo,j,h,jr,ob F,qn F,h2]
theorem zN {l:ae} {v:U} {j k:Nat} {g:List alZ} {x:alZ} {X:U} (H:X.cells=some (enc x)) (h:aH z l v j (g.map enc)) (t:∀ y∈g,(enc y).length=z) (hk:k<g.length) (R:(enc x).length=z) :
  ∃ p l',bQ (.Z z) v (.i6 (k:Int))=some p/\jP z l p (X)=some l'/\aH z l' v j ((g.set k x).map enc)/\l'.length=l.length/\∀ b,b≠j->l'[b]?=l[b]?:=by
 generalize o:g.map enc=G at h;cases h with
 | nil j=>rw[ni] at o;subst o;simp at hk
 | Z j n cap u cs G w Y O ai B J C=>
  subst o;have D:g.length=n:=by simpa using O
  have K:j<l.length:=a1 w;have m:=R;have ag:(k+1)*z<=n*z:=ck _ F;have ah:n*z<=cap*z:=ck _ B;have P:(k+1)*z=k*z+z:=by rw[ej]
  obtain⟨f1,_⟩:=JI t k F D C F;obtain⟨_,f2⟩:=JI t (k+1) F D C F;refine⟨.ptr j (k*z) u,l.set j (.q u (av cs (k*z) (enc x))),?_,?_,?_,V,fun b I=>by rw[bj (fun h=>I h.symm)]⟩
  ·simp[bQ];omega
  ·unfold jP;simp[w,H,m];omega
  ·refine .Z j n cap u _ _ (bY K) (by rw[o9 F,m];omega) (by simp;omega) (fun e o=>?_) B J ?_
   ·obtain⟨y,S,rfl⟩:=cE.1 o;rcases oh S with h | h
    ·exact t _ h
    ·rw[h];exact m
   ·have Q:g.set k x=g.take k++(x::g.drop (k+1)):=by rw[rI,ak hk]
    rw[Q,cV,dg,jr,hj,<-f1,<-f2];unfold av;have t1:(cs.take (k*z)).length=k*z:=by rw[cL];omega
    have T:(cs.take (k*z)).take (n*z)=cs.take (k*z):=aI (by rw[t1];omega);have W:(enc x).take (n*z - k*z)=enc x:=aI (by rw[m];omega);rw[hi,m,<-P,pm,t1,T,pm,W,m,show n*z - k*z - z=n*z - (k+1)*z by omega]
end
end Op
theorem Pc {P:bp} {G:Nat->U} {f:cj} {args:ag} {h h' oL:aM} {r j:U} (q:jU P G f args h r h') (wk:iO h' oL) (u:iN h' oL r j) :jU P G f args h j oL:=by intro m B w muZ D rel p t z;refine (q m B w muZ D rel p t z).mono ?_;rintro e w' ⟨C,muZ',rfl,o,g,v⟩;exact⟨C,muZ',rfl,o.trans (wk.ext w' muZ'),wk.rel g,wk.k3 g u v⟩
theorem GO {P:bp} {G:Nat->U} (t:P.follows .mixedOrders=true) (o:∀ g,(G g).ar=true) {f:cj} {args:ag} {l:ae} {K:cB}
  (h:fR P G f args l (c:=⟨fun r l'=>∃ m j,iO (aZ l') (aZ j)/\iN (aZ l') (aZ j) r m/\l.length<=j.length/\K m j⟩)) :fR P G f args l (c:=⟨K⟩):=by obtain⟨r,l',p,w,m,j,v,u,q,hk⟩:=h;exact⟨m,j,.ext (Pc (sO t o p) v u),q,hk⟩
theorem uy {z:Nat} {l:ae} {v:U} {j:Nat} {es:List (ag)} (h:aH z l v j es) (I:bq v=false) :iO (aZ l) (aZ (l.set j .dead))/\iN (aZ l) (aZ (l.set j .dead)) v (.bu z es):=by
 cases h with
 | nil j=>cases I
 | Z j n cap t cs es g P H o B K C=>
 have G:=a1 g;have q:(aZ (l.set j .dead)).f j=.dead:=by rw[jW,oe,ak rfl,ak G]
 have Q:n*z<=cap*z:=ck _ B;refine⟨⟨V,fun u=>?_⟩,.Z z j 0 n cap t cs es (hJ.2 g) q H o F (fun i k e c J m hk p=>?_)⟩
 ·by_cases w:u=j
  ·subst w;exact .inr ⟨t,cs,hJ.2 g,.inl q⟩
  ·left;rw[jW,jW,oe,ai F]
 ·have D:k<z:=by rw[<-o e (cJ m)];exact (aL.1 hk).1
  have O:=(aL.1 m).1;have R:i*z+z<=n*z:=by rw[<-ej];exact ck _ F
  have h1:=ln o m D;rw[<-C,dQ F,hk] at h1;rw[hI,h1] at p;cases p;exact .same _
namespace Op
theorem sb {alZ:Type} {enc:alZ->ag} {z:Nat} {a:List alZ} (h:∀ x∈a,(enc x).length=z) :(a.map enc).flatten.length=a.length*z:=by rw[hv (z:=z) (fun e g=>by obtain⟨y,j,rfl⟩:=cE.1 g;exact h y j),ce]
theorem yi {alZ:Type} {enc:alZ->ag} {z by_:Nat} (l:ae) (s:b1 alZ) (h:∀ x∈s.l,(enc x).length=z) (j:z≠0) (o:by_≠0) (m:s.l.length*by_<=dj) :
  dZ (l++[aq.q 0 []]) z by_ (.Z z l.length 0 0 0 0) (b4 z enc s)=some (.Z z l.length 0 s.l.length s.l.length (s.l.length*z),l++[.q (s.l.length*z) (s.l.map enc).flatten]):=by
 have p:=sb h;unfold dZ;rw[qO];simp only[];unfold hq;by_cases g:s.l.length=0
 ·have j:s.l=[]:=ho.1 g;rw[j];simp
 ·rw[ai g,ai F];have t:¬ s.l=[]:=fun h=>g (by rw[h];rfl)
  simp[m,g]
theorem ly {alZ:Type} {enc:alZ->ag} {z:Nat} {l:ae} {b n:Nat} {a:List alZ} (h:∀ x∈a,(enc x).length=z) (g:a.length=n) (m:l[b]?=some (.q (n*z) (a.map enc).flatten)) :aH z l (.Z z b 0 n n (n*z)) b (a.map enc):=by
 have j:=sb h;refine .Z b n n (n*z) _ _ m (by rw[j,g]) (by simp[g]) (fun e o=>?_) (aN _) (aN _) ?_
 ·obtain⟨y,p,rfl⟩:=cE.1 o;exact h y p
 ·rw[aI (by rw[j,g];omega)]
end Op
namespace Op
open cl
theorem Ot {l:List D} {k:Nat} {x:D} (h:l[k]?=some x) (g:(l.take k).all eX=true) :(l.take (k+1)).all eX=eX x:=by rw[ei,h,List.all_append,g];simp
theorem Oo {l:List D} {k:Nat} {x:D} (h:l[k]?=some x) (g:eX x=false) :l.all eX=false:=by
 cases j:l.all eX with
 | false=>rfl
 | true=>rw[gb.1 j x (cJ h)] at g;cases g
structure M4 (l:List D) (k:Nat) (sgZ:aS) (h:ae) :Prop where
 kJ:sgZ 5=b4 1 eb (some l)
 lo:sgZ 6=.i6 l.length
 tS:sgZ 7=.i6 k
 aaW:(l.take k).all eX=true
theorem H7 (l:List D) (B:l.length<=1000) :aU 222 [b4 1 eb (some l)] (.bool (l.all eX)):=by
 apply a2 func222 [];have v:bD (.Z 1) (b4 1 eb (some l))=some (.i6 l.length):=b9 _;simp[v];refine bB l.length (M4 l) ?_ ⟨V,V,V,V⟩;rintro k z h hk ⟨m,o,p,g⟩;obtain⟨z,rfl⟩:=gF m o p;clear m o p;by_cases h:k<l.length
 ·obtain⟨x,j,_⟩:=aQ h;have t:bQ (.Z 1) (b4 1 eb (some l)) (.i6 k)=some (.b6 (eb x) 0):=by rw[oM];simp[j]
  have w:IntKind.i64.wrap ((k:Int)+1)=(k+1:Nat):=wrap_i64 F F;simp[h,t,eb];refine au (CS x) rfl ?_;cases q:eX x with
  | false=>
   have:=Oo j q;simp;exact aP (by rw[this]) rfl
  | true=>
   simp[w];exact⟨F,V,V,V,by rw[Ot j g];exact q⟩
 ·have u:k=l.length:=F;subst u;rw[e0] at g;simp;exact aP (by rw[g]) rfl
theorem Wk {l:ae} {b:Nat} {x:D} (h:l[b]?=some (.q 1 [bg x])) :fp (aZ l) (.Z 1 b 0 1 1 1) (b4 1 eb (some [x])):=by refine Ac (rest:=[]) (es:=[[bg x]]) (by simpa using h) rfl V (by simp[am,U.ar])
def w9 (a b:D) :D:=BitVec.ofNat 32 (a.toNat*b.toNat % 1000000007)
theorem Rx (a b:D) :aU 177 [bg a,bg b] (.aX [bg (if eX a&&eX b then w9 a b else 0#32),.i6 (if eX a&&eX b then 0 else 2)]):=by
 apply a2 func177 [];simp;refine ig (H7 [a,b] V) (.cons (xf V) .nil) rfl ?_;cases g:eX a with
 | false=>
  simp[g];exact aF
 | true=>
  cases h:eX b with
  | false=>
   simp[g,h];exact aF
  | true=>
   have j:a.toNat<1000000007:=by unfold eX at g;simp at g;exact g.1.2
   simp[g,h];refine ig (Dk [a,b] V) (.cons (.same _ rfl) (.cons (xf V) .nil)) rfl ?_;simp[Dj a b j];exact aF
theorem Ry (a:D) (n:Q) :aU 176 [bg a,c6 n] (.aX [bg (if eX a then ft a n.toNat else 0#32),.i6 (if eX a then 0 else 2)]):=by
 apply a2 func176 [];simp;refine ig (H7 [a] V) (.cons (Wk V) .nil) rfl ?_;cases g:eX a with
 | false=>
  simp[g];exact aF
 | true=>
  simp[g];refine au (DO a n) rfl ?_;simp;exact aF
theorem Rw (n:Q) :aU 178 [c6 n] (bg (ft 4#32 n.toNat)):=by apply a2 func178 [];simp;refine au (DO 4#32 n) rfl ?_;simp;exact aF
theorem DZ (a:D) (n:Q) :aU 229 [bg a,c6 n] (bg (ft a n.toNat)):=by
 apply a2 func229 [];have g:(a.setWidth 64:Q).toNat=a.toNat:=by rw[fx];omega
 have m:=sA a.toNat n.toNat
 have j:(BitVec.ofNat 64 (eG a.toNat n.toNat)).setWidth 32=ft a n.toNat:=by
  apply eZ;rw[o1,fx,fP];omega
 have h:=J3 (a.setWidth 64) n (by rw[g];exact a.isLt);rw[g] at h;simp;refine au h rfl ?_;simp[j];exact aF
theorem VD (n:Q) :aU 192 [c6 n] (bg (ft 4#32 n.toNat)):=by apply a2 func192 [];simp;refine au (DZ 4#32 n) rfl ?_;simp;exact aF
theorem VN (a:D) :aU 228 [bg a] (.aX [bg (if eX a then ft a 500000002 else 0#32),.i6 (if eX a then 0 else 2)]):=by
 apply a2 func228 [];simp;refine au (KJ a) rfl ?_;cases g:eX a with
 | false=>
  simp;exact aF
 | true=>
  simp;refine au (DZ a 500000002#64) rfl ?_;simp;exact aF
theorem VY (a b:D) :aU 230 [bg a,bg b] (bg (w9 a b)):=by
 apply a2 func230 [];have g:∀ a:D,(a.setWidth 64:Q).toNat=a.toNat:=fun a=>by rw[fx];omega
 have h:((a.setWidth 64:Q)*b.setWidth 64 % 1000000007#64).setWidth 32=w9 a b:=by
  apply eZ;rw[fx,ul _ _ (by rw[g];exact a.isLt) (by rw[g];exact b.isLt),g,g];unfold w9;rw[fP]
 simp[Ae,h];exact aF
def qE (l:List B) :Q:=l.foldl (fun n x=>(n <<< 8) ||| x.setWidth 64) 0#64
theorem Gx (l:List B) (k:Nat) (x:B) (h:l[k]?=some x) :qE (l.take (k+1))=(qE (l.take k) <<< 8) ||| x.setWidth 64:=by rw[ei,h];simp[qE,Bi]
theorem Xm (a:Q) (x:B) :(a <<< 8) ||| x.setWidth 64=256#64*a+x.setWidth 64:=by
 apply eZ;have o:x.toNat<256:=x.isLt;have m:=a.isLt;rw[BitVec.toNat_or,s7,Fl,va,fx];have h1:x.toNat % 2 ^ 64=x.toNat:=ed F;have g:a.toNat <<< 8 % 2 ^ 64=(a.toNat % 2 ^ 56) <<< 8:=by rw[oj,oj];omega
 have h:=M1 (b:=x.toNat) (i:=8) F (a.toNat % 2 ^ 56);rw[h1,g,<-h,oj];have j:(256#64).toNat=256:=rfl;rw[j];omega
def hw (n:D) :List B:=[(n >>> 24).setWidth 8,(n >>> 16).setWidth 8,(n >>> 8).setWidth 8,n.setWidth 8]
def jA (l:List D) :List B:=l.flatMap hw
theorem Rn {l:List D} {k:Nat} {x:D} (h:l[k]?=some x) :jA (l.take (k+1))=jA (l.take k)++hw x:=by unfold jA;rw[ei,h,xU];simp
theorem H0 (l:List D) :(jA l).length=4*l.length:=by
 induction l with
 | nil=>rfl
 | cons x l g=>unfold jA at g ⊢;rw[List.flatMap_cons,cI,g,dM];simp[hw];omega
def wo (b:List B) :Q:=qE ((go b).take 8)
theorem Wl {l:ae} {b:Nat} {v m u t:U} (h:l[b]?=some (.q 2 [v,m])) (h1:fp (aZ l) v u) (w:fp (aZ l) m t) :fp (aZ l) (.Z 1 b 0 2 2 2) (.bu 1 [[u],[t]]):=by
 refine .Z 1 b 0 2 2 2 [v,m] [[u],[t]] (hJ.2 h) rfl V V (fun i p e c z j g o=>?_);rcases i with _ | _ | i
 ·simp at j;subst j;rcases p with _ | p
  ·simp at g o;subst g o;exact h1
  ·simp at g
 ·simp at j;subst j;rcases p with _ | p
  ·simp at g o;subst g o;exact w
  ·simp at g
 ·simp at j
theorem Xy {b:Nat}:dw (.arr 32 1) (.ptr b 0 32) none (some (.i6 8)) none=some (.Z 1 b 0 8 32 32):=by have:e2 32 32 none (some (.i6 8)) none=some (0,8,32):=rfl;simp only[dw,this];rfl
structure NB (g:B) (m:dX) (l0:List D) (k:Nat) (sgZ:aS) (l:ae) :Prop where
 e5:sgZ 1=cn m
 aaK:sgZ 21=b4 1 eb (some l0)
 H4:sgZ 22=.i6 l0.length
 H5:sgZ 23=.i6 k
 ex:∃ v,sgZ 8=v/\cd 1 bW [] l v (g::jA (l0.take k)) false
structure M6 (d:List B) (e:Int) (k:Nat) (sgZ:aS) (l:ae) :Prop where
 H3:sgZ 12=.i6 e
 aaE:sgZ 13=c6 (qE (d.take k))
 Ru:∃ b n,sgZ 49=.Z 1 b 0 8 n n/\l[b]?=some (.q n (d.map a7))/\n=32
 Rv:sgZ 50=.i6 8
 aaO:sgZ 51=.i6 k
theorem RM (j:B) (m:dX) (aF:m.l.length<=9991) (l0:List D) (aE:l0.length<=10) :aU 224 [a7 j,cn m,b4 1 eb (some l0)] (.aX [c6 (wo (j::(jA l0++m.l))),.i6 0]):=by
 apply a2 func224 [];have ax:=du;have ar:bD (.Z 1) (cn m)=some (.i6 m.l.length):=b9 _;have au:bD (.Z 1) (b4 1 eb (some l0))=some (.i6 l0.length):=b9 _;have ah:¬ (9991:Int)<(m.l.length:Int):=F;have aD:¬ 9991<m.l.length:=F;have aj:=j1 m;simp[ar,au,ah];refine bB l0.length (NB j m l0) ?_ ⟨V,V,V,V,_,rfl,⟨0,md (n:=1) (a:=[j]) rfl rfl,V,V,.inr V,rfl⟩⟩;rintro k G l hk ⟨I,O,P,Q,aI,W,p⟩;obtain⟨G,rfl⟩:=gu I W O P Q;clear I W O P Q;by_cases h:k<l0.length
 ·obtain⟨x,o,_⟩:=aQ h;have am:bQ (.Z 1) (b4 1 eb (some l0)) (.i6 k)=some (.b6 (eb x) 0):=by rw[oM];simp[o]
  have C:IntKind.i64.wrap ((k:Int)+1)=(k+1:Nat):=wrap_i64 F F;have t:=Rn o;have ae:=H0 (l0.take k);rw[cL] at ae;obtain⟨aB,aH,H,ag,aC⟩:=(p.more [aq.q 4 ((hw x).map a7)]).app (by_:=1) (x:=.Z 1 l.length 0 4 4 4) (xs:=hw x) (by rw[wd];simp[cq,hw]) (fun y _=>rfl) F F (by rw[ax];simp[hw];omega);rw[show (hw x).map a7=[.int .u8 (u (BitVec.setWidth 8 (x >>> 24))),.int .u8 (u (BitVec.setWidth 8 (x >>> 16))),.int .u8 (u (BitVec.setWidth 8 (x >>> 8))),.int .u8 (u (BitVec.setWidth 8 x))] from rfl] at H;simp[h,am,eb,H];refine bR.bm ?_;simp[C];exact⟨F,V,V,V,V,aB,V,by rw[t,<-iK];exact ag⟩
 ·have z:k=l0.length:=F;subst z;rw[e0] at p;have ae:=H0 l0;have v:=JV [some (j::jA l0),m] V (fun s t=>by
   rcases kp.1 t with h | h
   ·rw[h];show (j::jA l0).length<=_;simp;omega
   ·rw[fQ.1 h];omega)
  have ai:bytesOf [some (j::jA l0),m]=j::(jA l0++m.l):=by simp[bytesOf]
  rw[ai] at v;have aA:=p.cells;have aw:(cn m).cells=some [cn m]:=by cases m<;>rfl
  obtain⟨g,w⟩:=al (go (j::(jA l0++m.l)));have Y:g.length=32:=by rw[w];exact o7 _
  rw[<-w] at v;have ak:(g.map a7).length=32:=by simp[Y]
  have ao:eo g=.af (g.map a7):=rfl;rw[ao] at v;have az:av (bZ 32 (.int .u8 0)) 0 (g.map a7)=g.map a7:=cD (by rw[ak];rfl);have ay:∀ b,dw (.arr 32 1) (.ptr b 0 32) none (some (.i6 8)) none=some (.Z 1 b 0 8 32 32):=fun b=>Xy (b:=b)
  simp[aA,aw];refine ig v (.cons (Wl V ((p.more _).o3 (fun _=>rfl) (some (j::jA l0)) rfl rfl) (.same _ aj)) .nil) (by simp[U.flat,kH,tQ a7 (fun _=>rfl)]) ?_;simp[Y,az,ay];refine bB 8 (M6 g 0) ?_ ⟨V,by simp[qE],⟨l.length+1,32,V,V,rfl⟩,V,V⟩;clear p;rintro k G l hk ⟨J,K,⟨b,n,R,X,rfl⟩,S,T⟩;obtain⟨G,rfl⟩:=gu J K R S T;clear J K R S T;by_cases h:k<8
  ·obtain⟨x,o,_⟩:=aQ (l:=g) (k:=k) F;have C:IntKind.i64.wrap ((k:Int)+1)=(k+1:Nat):=wrap_i64 F F;have t:=Gx g k x o;have z:(k:Int)<8:=F;have aG:(g.map a7)[k]?=some (a7 x):=by rw[b0,o];rfl
   simp[h,z,X,C,o];exact⟨V,by simp[t],⟨b,32,V,by simpa using X,rfl⟩,V,V⟩
  ·have ap:k=8:=F;subst ap;simp;exact aP (by unfold wo;rw[w]) rfl
def vQ (r y:D) (m:List B) :D:=(wo (99#8::(jA [r,y]++m)) % 500000003#64).setWidth 32
theorem KO (x:Q) :cz .rem .u64 (u x) .u64 500000003=some (.int .u64 (u (x % 500000003#64))):=tz x 500000003#64 (by decide)
theorem YZ (r y:D) (m:dX) (h:m.l.length<=9991) :aU 179 [bg r,bg y,cn m] (.aX [bg (vQ r y m.l),.i6 0]):=by apply a2 func179 [];have g:=j1 m;simp;refine ig (RM 99#8 m h [r,y] V) (.cons (.same _ rfl) (.cons (.same _ g) (.cons (xf V) .nil))) rfl ?_;simp[KO];exact aF
theorem DR (a b:D) (g:b≠0#32) :cz .quo .u32 (u a) .u32 (u b)=some (.int .u32 (u (a / b))):=by
 have h:(b.toNat:Int)≠0:=fun e=>g (eZ (by simpa using e))
 show (if IntKind.u32=IntKind.u32/\(b.toNat:Int)≠0 then some (U.int .u32 (IntKind.u32.wrap ((a.toNat:Int).tdiv b.toNat))) else none)=_;rw[ak ⟨rfl,h⟩,u5];congr 2;have:((a.toNat:Int).tdiv b.toNat)=((a.toNat / b.toNat:Nat) :Int):=rfl;rw[this,oa];congr 1;apply eZ;rw[fP,rC];exact ed (Nat.lt_of_le_of_lt (FH _ _) a.isLt)
theorem HZ (x:D) {l:ae} {K:cB} (o:∀ v l',cd 1 bW l l' v (hw x) false->K v l') :cM 232 [bg x] l K:=by
 apply c1 func232 [];have q1:cz .quo .u32 (u x) .u32 16777216=some (.int .u32 (u (x / 16777216#32))):=DR x 16777216#32 (by decide);have q:cz .quo .u32 (u x) .u32 65536=some (.int .u32 (u (x / 65536#32))):=DR x 65536#32 (by decide);have t:cz .quo .u32 (u x) .u32 256=some (.int .u32 (u (x / 256#32))):=DR x 256#32 (by decide);have w:∀ y:D,cz .rem .u32 (u y) .u32 256=some (.int .u32 (u (y % 256#32))):=fun y=>OZ y 256#32 (by decide)
 have z:=x.isLt;have g:BitVec.setWidth 8 (x / 16777216#32)=BitVec.setWidth 8 (x >>> 24):=by
  apply eZ;rw[fx,fx,rC,lG,hG];rfl
 have h:BitVec.setWidth 8 (x / 65536#32 % 256#32)=BitVec.setWidth 8 (x >>> 16):=by
  apply eZ;rw[fx,fx,ng,rC,lG,hG];show x.toNat / 65536 % 256 % 256=x.toNat / 65536 % 256;omega
 have j:BitVec.setWidth 8 (x / 256#32 % 256#32)=BitVec.setWidth 8 (x >>> 8):=by
  apply eZ;rw[fx,fx,ng,rC,lG,hG];show x.toNat / 256 % 256 % 256=x.toNat / 256 % 256;omega
 have m:BitVec.setWidth 8 (x % 256#32)=BitVec.setWidth 8 x:=by
  apply eZ;rw[fx,fx,ng];show x.toNat % 256 % 256=x.toNat % 256;omega
 simp[q1,q,t,w,g,h,j,m];exact o _ _ ⟨l.length,md (n:=4) (a:=hw x) rfl (by simp;rfl),V,fun b p=>aV p,.inr V,rfl⟩
structure NQ (d:List B) (k:Nat) (sgZ:aS) (l:ae) :Prop where
 hQ:sgZ 3=.ptr 0 0 32
 iq:sgZ 4=c6 (qE (d.take k))
 kJ:sgZ 5=.i6 k
 nT:l[0]?=some (.q 32 (d.map a7))
theorem T0 (s:dX) (j:s.l.length<=1000000) :aU 233 [cn s] (c6 (wo s.l)):=by
 apply a2 func233 [];have o:=KK s j;have z:=j1 s;obtain⟨g,m⟩:=al (go s.l);have u:g.length=32:=by rw[m];exact o7 _
 rw[<-m] at o;have C:eo g=.af (g.map a7):=rfl;rw[C] at o;have B:(g.map a7).length=32:=by simp[u]
 have H:av (bZ 32 (.int .u8 0)) 0 (g.map a7)=g.map a7:=cD (by rw[B];rfl);simp;refine au o (by simp[am,z]) ?_;simp[u,H];refine bB 8 (NQ g) ?_ ⟨V,by simp[qE],V,rfl⟩;rintro k J l hk ⟨p,q,t,w⟩;obtain⟨J,rfl⟩:=gF p q t;clear p q t;by_cases h:k<8
 ·obtain⟨x,v,_⟩:=aQ (l:=g) (k:=k) F;have I:IntKind.i64.wrap ((k:Int)+1)=(k+1:Nat):=wrap_i64 F F;have j:=Gx g k x v;rw[Xm] at j;have D:(k:Int)<8:=F;have K:k<32:=F;simp[h,D,w,I,v];exact⟨F,V,by simp[j],V,w⟩
 ·have G:k=8:=F;subst G;simp;exact aP (by unfold wo;rw[m]) rfl
theorem VF (r y:D) (m:dX) (T:m.l.length<=900000) :aU 194 [bg r,bg y,cn m] (bg (vQ r y m.l)):=by
 apply a2 func194 [];have h:=du;have R:=j1 m;simp;refine HZ r fun I G h1=>?_
 have S:=h1.le;have z:cd 1 bW [] G (.Z 1 0 0 1 1 1) [99#8] false:=⟨0,md (n:=1) (a:=[99#8]) rfl (by rw[h1.same 0 V];rfl),V,V,.inr V,rfl⟩
 obtain⟨J,U,p,q,O⟩:=z.app (by_:=1) (x:=I) (xs:=hw r) h1.contents (fun _ _=>rfl) F F (by rw[h];simp[hw]);simp[p];refine bR.bm ?_;simp;refine HZ y fun K H g=>?_
 have C:cd 1 bW [] H J ([99#8]++hw r) false:=q.frame g.le g.same;obtain⟨Y,W,t,u,P⟩:=C.app (by_:=1) (x:=K) (xs:=hw y) g.contents (fun _ _=>rfl) F F (by rw[h];simp[hw]);simp[t];refine bR.bm ?_;obtain⟨ae,X,v,w,Q⟩:=u.app (by_:=1) (x:=cn m) (xs:=m.l) (Hd _ _) (fun _ _=>rfl) F F (by rw[h];simp[hw];omega);simp[v];refine bR.bm ?_;have j:(b1.l (some ([99#8]++hw r++hw y++m.l)) :List B)=99#8::(jA [r,y]++m.l):=by simp[jA]
 have o:=T0 (some ([99#8]++hw r++hw y++m.l)) (by rw[j];simp[jA,hw];omega);rw[j] at o;simp;refine ig o (.cons (w.o3 (fun _=>rfl) (some ([99#8]++hw r++hw y++m.l)) V rfl) .nil) rfl ?_;simp[KO];exact aF
theorem zT (a n k:Nat) :eG (eG a n) k=eG a (n*k):=by unfold eG;rw[<-x4,<-Nat.pow_mul]
theorem J1 (n:Nat) :eG 1 n=1:=by unfold eG;rw[Nat.one_pow]
theorem Ve (a m n:Nat) :eG a (m+n)=eG a m*eG a n % 1000000007:=by unfold eG;rw[rL,vm]
theorem OJ:eG 4 500000003=1:=by have h:=JY 4 500000003 (by decide) 64 (aN _);rw[show 500000003 / 2 ^ (64 - 64)=500000003 from rfl] at h;rw[<-h];decide +kernel
theorem CT {y:D} (h:eG y.toNat 500000003=1) (n:Nat) :eX (ft y n)=true:=by
 have m:=o1 y n;have g:=sA y.toNat n;have h1:eG (eG y.toNat n) 500000003=1:=by
  rw[zT,Bx,<-zT,h,J1]
 have p:eG y.toNat n≠0:=fun e=>by
  rw[e] at h1;have o:∀ n,0<n->eG 0 n=0:=fun n j=>by unfold eG;rw[Nat.zero_pow j]
  rw[o _ (by decide)] at h1;cases h1
 unfold eX;rw[m,b7 F,b7 g,b7 h1];rfl
theorem Iz {y:D} (h:eX y=true) :eG y.toNat 500000003=1:=by unfold eX at h;simp only[bU,bK] at h;exact h.2
theorem OI {y:D} (h:eG y.toNat 500000003=1) {e:Nat} (j:e<500000003) :ft (ft y e) 500000002=ft y (500000003 - e):=by
 apply eZ;rw[o1,o1,o1,zT];rcases e with _ | e
 ·rw[ti,vo,h];unfold eG;rfl
 ·have g:(e+1)*500000002=500000003*e+(500000003 - (e+1)):=F;rw[g,Ve,<-zT,h,J1,vn,ed (sA _ _)]
def xd (y:D) (e s:D) :D:=w9 (ft 4#32 s.toNat) (ft y (500000003 - e.toNat))
def xu (y:D) (m:List B) (e s:D) :Bool:=hu e&&(hu s&&decide (vQ (xd y e s) y m=e))
theorem X1 {e:D} (g:e.toNat<500000003) :(500000003#64 - e.setWidth 64).toNat=500000003 - e.toNat:=by rw[BitVec.toNat_sub,fx];have:(500000003#64).toNat=500000003:=rfl;rw[this];omega
theorem Ze (y:D) (o:eX y=true) (m:dX) (R:m.l.length<=9991) (e s:D) :aU 118 [bg y,cn m,.af [bg e,bg s]] (.i6 (if xu y m.l e s then 0 else 22)):=by
 apply a2 func118 [];unfold xu;have P:bD (.Z 1) (cn m)=some (.i6 m.l.length):=b9 _;have C:¬ (9991:Int)<(m.l.length:Int):=F;have W:¬ 9991<m.l.length:=F;have O:=j1 m;have T:=Iz o;have z:=CS y;rw[o] at z;simp;refine au z rfl ?_;obtain⟨M,t⟩:=al (if u e<u s then u s else u e:Int);have S:oU (bg e) (bg s)=some (.int .u32 M):=by rw[t];simp[oU]
 have v:(500000003:Int)<=M<->500000003<=e.toNat\/500000003<=s.toNat:=by
  rw[t];unfold u;split<;>omega
 simp[P,C,S];by_cases h1:500000003<=e.toNat\/500000003<=s.toNat
 ·have H:(hu e&&(hu s&&decide (vQ (xd y e s) y m.l=e)))=false:=by
   unfold hu;rcases h1 with h | h
   ·rw[cu F];rfl
   ·rw[cu (p:=s.toNat<500000003) F];simp
  have g:=v.2 h1;simp[g,H];exact aF
 ·have g:¬ (500000003:Int)<=M:=fun h=>h1 (v.1 h)
  have I:hu e=true:=by unfold hu;exact b7 F
  have J:hu s=true:=by unfold hu;exact b7 F
  have B:=Ry y (500000003#64 - e.setWidth 64);have V:(s.setWidth 64:Q).toNat=s.toNat:=by rw[fx];omega
  have w:=Rw (s.setWidth 64);rw[o,ak rfl,ak rfl,X1 F] at B;rw[V] at w;have j:=Rx (ft 4#32 s.toNat) (ft y (500000003 - e.toNat));rw[CT (y:=4#32) OJ,CT T] at j;simp only[k5,if_true] at j;have K:=YZ (xd y e s) y m R;have G:∀ a b:D,((u a:Int)=u b)<->a=b:=fun a b=>⟨fun h=>eZ (by unfold u at h;omega),fun h=>by rw[h]⟩
  simp[g];refine au B rfl ?_;simp;refine au w rfl ?_;simp;refine au j rfl ?_;simp;refine au K (by simp[am,U.ar,O]) ?_;rw[I,J];by_cases q:vQ (xd y e s) y m.l=e
  ·simp[q];exact aF
  ·simp[q,G];exact aF
theorem VP (s:D) :aU 132 [bg s] (bg (ft 4#32 s.toNat)):=by
 apply a2 func132 [];have h:(s.setWidth 64:Q).toNat=s.toNat:=by rw[fx];omega
 have g:=VD (s.setWidth 64);rw[h] at g;simp;refine au g rfl ?_;simp;exact aF
theorem V0 (y:D) (F:eX y=true) (m:dX) (B:m.l.length<=900000) (e s:D) :aU 183 [bg y,cn m,.af [bg e,bg s]] (.bool (xu y m.l e s)):=by
 apply a2 func183 [[[0],[1],[3],[5],[6],[8],[9],[2,9],[4,9],[7,9]]];unfold xu;have w:=j1 m;have j:=Iz F;have q:∀ a b:D,((u a:Int)=u b)<->a=b:=fun a b=>⟨fun h=>eZ (by unfold u at h;omega),fun h=>by rw[h]⟩
 simp;refine au (yP e) rfl ?_;cases h1:hu e with
 | false=>simp;exact aF
 | true=>
 simp;refine au (yP s) rfl ?_;cases G:hu s with
 | false=>simp;exact aF
 | true=>
 have z:e.toNat<500000003:=by unfold hu at h1;exact iM h1
 have p:(e.setWidth 64:Q).toNat=e.toNat:=by rw[fx];omega
 have o:=DZ y (e.setWidth 64);rw[p] at o;have g:=VN (ft y e.toNat);rw[CT j,ak rfl,ak rfl,OI j z] at g;have t:=VP s;have C:=VY (ft 4#32 s.toNat) (ft y (500000003 - e.toNat));have v:=VF (xd y e s) y m B;simp;refine au o rfl ?_;simp;refine au g rfl ?_;simp;refine au t rfl ?_;simp;refine au C rfl ?_;simp;refine au v (by simp[am,U.ar,w]) ?_;simp[q];exact aF
def Ez (o:aK) :Bool:=xu o.eL (iD o) o.e o.s
def eh (o:aK) :Int:=if dd o=0 then (if Ez o then 0 else 22) else dd o
theorem JA {o:aK} (t:∀ x∈o.ax.l,x.length=32) (h:dd o=0) :eX o.eL=true/\(iD o).length<=9991:=by
 have D:=p1 h;unfold dd at h;rw[ai F] at h;split at h
 ·split at h
  ·rename_i G p;unfold pI at p;simp only[bU,bK] at p;obtain⟨q,w,g,z,C⟩:=p;refine⟨q,?_⟩;have u:o.act.key.length<=20/\(o.act.kind=4#8->o.act.val.text.length<=30):=by
    unfold iP at g;split at g
    ·rename_i h1;simp only[bU,bK] at g;rw[g.1];exact⟨V,fun h=>by rw[h1] at h;cases h⟩
    ·split at g
     ·rename_i h1 m;simp only[bU] at g;have hk:=g.1;unfold hy at hk;simp only[bU,bK] at hk;exact⟨hk.1.2,fun h=>by rw[h] at m;rcases m with m | m<;>cases m⟩
     ·split at g
      ·simp only[bU] at g;obtain⟨hk,j⟩:=g;unfold hy at hk;simp only[bU,bK] at hk;refine⟨hk.1.2,fun _=>?_⟩;unfold iI at j;split at j
       ·simp only[bU,bK] at j;rw[j.2];simp
       ·split at j
        ·simp only[bU,bK] at j;rw[j.1.2];simp
        ·split at j
         ·simp only[bU,bK] at j;exact j.1.2
         ·cases j
      ·cases g
   have H:=gB o.eL.toNat
   have I:=gB o.e9.toNat
   have J:=wG t;have v:=uZ (ec o.act.key);rw[m8] at v;have K:=xI o.act.val;have n6:(opHead o).length<=10:=by unfold opHead;simp;omega
   unfold iD;simp only[cI,dM,hp];have n7:(if o.act.kind=1#8 then ([] :List B) else hf (ec o.act.key)).length<=29:=by
    split
    ·simp
    ·omega
   have n8:(if o.act.kind=4#8 then hg o.act.val else []).length<=50:=by
    split
    ·rename_i h;have:=u.2 h;omega
    ·simp
   omega
  ·cases h
 ·cases h
theorem xK (o:aK) (j:dk o) :aU 65 [.af (aw o)] (.i6 (eh o)):=by
 apply a2 func65 [];unfold eh;have u:=dt o;have m:=AW o j;have p:am [U.af (aw o)]=true:=by simp[am,U.ar,u]
 by_cases g:dd o=0
 ·obtain⟨v,z⟩:=JA j.idsZ g;rw[ak g];simp[aw];refine au m p ?_;simp[g];refine MI o j (Gr g) fun w C h=>?_
  have D:C[0]?=some (.q 11 (aw o)):=by rw[h.same 0 V];rfl
  have t:=D;simp[aw] at t;have B:=Ze o.eL v (some (iD o)) z o.e o.s;simp[t];refine ig B (.cons (.same _ rfl) (.cons (h.o3 (fun _=>rfl) (some (iD o)) rfl rfl) (.cons (.same _ rfl) .nil))) rfl ?_;simp;exact aF
 ·rw[ai g];simp[aw];refine au m p ?_;simp[g];exact aF
theorem V8 (o:aK) (j:dk o) (g:dd o=0) :aU 121 [.af (aw o)] (.bool (Ez o)):=by
 apply a2 func121 [[[0],[1],[2],[4],[5],[3,5,1]]];have z:=dt o;obtain⟨p,B⟩:=JA j.idsZ g;have t:=V0 o.eL p (some (iD o)) (by show (iD o).length<=_;omega) o.e o.s;simp[aw];refine Ky o j (by have:=p1 g;omega) fun w u h=>?_
 have v:u[0]?=some (.q 11 (aw o)):=by rw[h.same 0 V];rfl
 have m:=v;simp[aw] at m;simp[m];refine ig t (.cons (.same _ rfl) (.cons (h.o3 (fun _=>rfl) (some (iD o)) rfl rfl) (.cons (.same _ rfl) .nil))) rfl ?_;simp;exact aF
theorem z8 (o:aK) (m:dk o) :aU 69 [.af (aw o)] (.i6 (eh o)):=by
 apply a2 func69 [];unfold eh;have p:=dt o;have j:=Kv o m;have h:am [U.af (aw o)]=true:=by simp[am,U.ar,p]
 by_cases g:dd o=0
 ·rw[ak g];simp[aw];refine au j h ?_;simp[g];refine au (V8 o m g) h ?_;cases q:Ez o with
  | true=>simp;exact aF
  | false=>simp;exact aF
 ·rw[ai g];simp[aw];refine au j h ?_;simp[g];refine au j h ?_;simp;exact aF
end Op
namespace Op
section
variable {alZ:Type} {z:Nat} {enc:alZ->ag}
theorem Uf {by_:Nat} {l l1:ae} {v:U} {a:List alZ} {C:Bool} (h:cd z enc l l1 v a C) (x:alZ) {b:Nat} (u:l1[b]?=some (.q z (enc x))) (j:(enc x).length=z) (t:z≠0) (w:by_≠0) (B:(a.length+1)*by_<=dj) :
  ∃ g l',dZ l1 z by_ v (.Z z b 0 1 1 z)=some (g,l')/\cd z enc l l' g (a++[x]) false/\l1.length<=l'.length:=by obtain⟨g,l',m,o,p⟩:=h.app (by_:=by_) (x:=.Z z b 0 1 1 z) (xs:=[x]) (by simp[cq,u,j,aI]) (by simp[j]) t w (by simpa using B);exact⟨g,l',m,by simpa using o,p⟩
def cX (l:List alZ) (i:Nat) (x:alZ) :List alZ:=l.take i++x::l.drop i
theorem h9 (l:List alZ) (i:Nat) (x:alZ) :(cX l i x).length=l.length+1:=by unfold cX;have:=ch List.length (i3 i l);simp only[cI,dM] at this ⊢;omega
theorem jD {l:List alZ} {i:Nat} {x y:alZ}:y∈cX l i x<->y=x\/y∈l:=by
 unfold cX;rw[fE,kp];constructor
 ·rintro (h | h | h)
  ·exact .inr (gy h)
  ·exact .inl h
  ·exact .inr (vj h)
 ·rintro (h | h)
  ·exact .inr (.inl h)
  ·rw[<-i3 i l,fE] at h;exact h.elim .inl fun h=>.inr (.inr h)
theorem EC {lt:alZ->alZ->Bool} (j:∀ a,lt a a=false) (p:∀ a b c,lt a b=true->lt b c=true->lt a c=true) :∀ {l m:List alZ},l.Pairwise (fun a b=>lt a b=true)->m.Pairwise (fun a b=>lt a b=true)->(∀ y,y∈l<->y∈m)->l=m
 | [],[],_,_,_=>rfl
 | [],b::m,_,_,h=>bV ((h b).2 V) V
 | a::l,[],_,_,h=>bV ((h a).1 V) V
 | a::l,b::m,v,w,h=>by
  obtain⟨q,z⟩:=Bm.1 v;obtain⟨t,B⟩:=Bm.1 w;have u:a=b:=by
   rcases kp.1 ((h a).1 V) with e | e
   ·exact e
   ·rcases kp.1 ((h b).2 V) with o | o
    ·exact o.symm
    ·have:=p _ _ _ (t a e) (q b o);rw[j] at this;cases this
  subst u;congr 1;refine EC j p z B fun y=>⟨fun g=>?_,fun g=>?_⟩
  ·rcases kp.1 ((h y).1 (by simp[g])) with e | e
   ·subst e;have:=q y g;rw[j] at this;cases this
   ·exact e
  ·rcases kp.1 ((h y).2 (by simp[g])) with e | e
   ·subst e;have:=t y g;rw[j] at this;cases this
   ·exact e
end
section
variable {alZ:Type} [DecidableEq alZ]
end
end Op
namespace Op
open cl
def dH {alZ:Type} [DecidableEq alZ] (x:alZ) :List alZ->Nat->Int
 | [],_=>-1
 | y::r,k=>if y=x then (k:Int) else dH x r (k+1)
theorem lr {alZ:Type} [DecidableEq alZ] (x:alZ) :∀ (l:List alZ) (k:Nat),(0<=dH x l k)<->x∈l
 | [],k=>by simp[dH]
 | y::r,k=>by
  unfold dH;by_cases h:y=x
  ·simp[h]
  ·rw[ai h,lr x r (k+1)];simp[Ne.symm h]
theorem qV {alZ:Type} [DecidableEq alZ] {x:alZ}:∀ {l:List alZ} {k n:Nat} {y:alZ},l[k]?=some y->(∀ (j:Nat) (z:alZ),j<k->l[j]?=some z->z≠x)->y=x->dH x l n=((n+k:Nat) :Int)
 | [],k,n,y,h,_,_=>by simp at h
 | w::r,0,n,y,h,_,g=>by
  simp at h;subst h;unfold dH;rw[ak g];simp
 | w::r,k+1,n,y,h,m,g=>by
  unfold dH;rw[ai (m 0 w F V),qV (k:=k) (n:=n+1) (by simpa using h) (fun j z p o=>m (j+1) z F (by simpa using o)) g];congr 1;omega
theorem wy {alZ:Type} [DecidableEq alZ] {x:alZ}:∀ {l:List alZ} {n:Nat},(∀ (j:Nat) (z:alZ),l[j]?=some z->z≠x)->dH x l n=-1
 | [],n,_=>rfl
 | w::r,n,g=>by
  unfold dH;rw[ai (g 0 w V),wy fun j z h=>g (j+1) z (by simpa using h)]
theorem Y7 (s:b2) (G:c5 s) (Q:s.l.length<=1000000) (x:List B) (u:x.length=32) :aU 119 [ah s,.af (ao x)] (.i6 (dH x s.l 0)):=by
 apply a2 func119 [];simp[ah];refine bB s.l.length (fun k m l=>l=[.q 32 (ao x)]/\m 0=b4 32 ao s/\m 3=.ptr 0 0 32/\m 7=.i6 s.l.length/\m 8=.i6 k/\∀ (g:Nat) (o:List B),g<k->s.l[g]?=some o->o≠x) ?_ (by simp[bo u]);rintro k m l hk ⟨rfl,w,z,C,D,t⟩;obtain⟨m,rfl⟩:=eO w z C D;clear w z C D;simp;refine fk (fun h=>?_) (fun h=>?_)
 ·simp only[bK] at h;obtain⟨y,v,H⟩:=aQ (l:=s.l) (k:=k) F;have I:=ci (k:=k) F;simp[v,bo (G y H),bo u,aI,nJ u (G y H)];by_cases p:x=y
  ·have J:=qV (n:=0) v t p.symm;simp[p];exact aP (by rw[<-p,J];simp) rfl
  ·simp[p,I];refine⟨F,fun g o P j=>?_⟩;by_cases K:g=k
   ·subst K;rw[v] at j;obtain rfl:=cc j;exact fun h=>p h.symm
   ·exact t g o F j
 ·simp[h];have O:k=s.l.length:=by simp at h;omega
  exact aP (by rw[wy fun g o j=>t g o (by rw[O];exact (aL.1 j).1) j]) rfl
theorem qe (s:b2) (j:c5 s) (h:s.l.length<=1000000) (x:List B) (g:x.length=32) :aU 66 [ah s,.af (ao x)] (.bool (decide (x∈s.l))):=by apply a2 func66 [];simp[bo g,aI];refine au (Y7 s j h x g) (by have:=bO s;have:=cG x;simp_all [am,U.ar]) ?_;simp;exact aP (ch U.bool (by simp only[lr])) rfl
theorem z2 (s:b2) (D:c5 s) (P:s.l.length<=1000000) (x:List B) (t:x.length=32) :aU 70 [ah s,.af (ao x)] (.bool (decide (x∈s.l))):=by
 apply a2 func70 [];simp[ah];refine bB s.l.length (fun k j l=>l=[.q 32 (ao x)]/\j 0=b4 32 ao s/\j 3=.ptr 0 0 32/\j 5=.i6 k/\∀ (g:Nat) (o:List B),g<k->s.l[g]?=some o->o≠x) ?_ (by simp[bo t]);rintro k j l hk ⟨rfl,w,z,C,G⟩;obtain⟨j,rfl⟩:=gF w z C;clear w z C;simp;refine fk (fun h=>?_) (fun h=>?_)
 ·simp only[bK] at h;obtain⟨y,H,u⟩:=aQ (l:=s.l) (k:=k) F;have I:=ci (k:=k) F;simp[H,bo (D y u),bo t,aI,nJ (D y u) t];by_cases m:y=x
  ·simp[m];exact aP (ch U.bool (b7 (by rw[<-m];exact u)).symm) rfl
  ·simp[m,I];refine⟨F,fun g o p v=>?_⟩;by_cases J:g=k
   ·subst J;rw[H] at v;obtain rfl:=cc v;exact m
   ·exact G g o F v
 ·simp[h];have K:k=s.l.length:=by simp at h;omega
  refine aP (ch U.bool (cu fun O=>?_).symm) rfl;obtain⟨g,p⟩:=cp.1 O;exact G g x (by rw[K];exact (aL.1 p).1) p rfl
theorem nX (s:b2) (D:c5 s) (P:s.l.length<=1000000) (x:List B) (u:x.length=32) :aU 77 [ah s,.af (ao x)] (.i6 (dH x s.l 0)):=by
 apply a2 func77 [];simp[ah];refine bB s.l.length (fun k o l=>l=[.q 32 (ao x)]/\o 0=b4 32 ao s/\o 3=.ptr 0 0 32/\o 5=.i6 k/\∀ (g:Nat) (m:List B),g<k->s.l[g]?=some m->m≠x) ?_ (by simp[bo u]);rintro k o l hk ⟨rfl,w,z,C,t⟩;obtain⟨o,rfl⟩:=gF w z C;clear w z C;simp;refine fk (fun h=>?_) (fun h=>?_)
 ·simp only[bK] at h;obtain⟨y,v,G⟩:=aQ (l:=s.l) (k:=k) F;have H:=ci (k:=k) F;simp[v,bo (D y G),bo u,aI,nJ (D y G) u];by_cases p:y=x
  ·have I:=qV (n:=0) v t p;simp[p];exact aP (by rw[I];simp) rfl
  ·simp[p,H];refine⟨F,fun g m O j=>?_⟩;by_cases J:g=k
   ·subst J;rw[v] at j;obtain rfl:=cc j;exact fun h=>p h
   ·exact t g m F j
 ·simp[h];have K:k=s.l.length:=by simp at h;omega
  exact aP (by rw[wy fun g m j=>t g m (by rw[K];exact (aL.1 j).1) j]) rfl
def gT (l ps:aR) :Bool:=decide (∀ g∈ps,g∈l)
theorem z1 (s:b2) (ag:c5 s) (ae:s.l.length<=1000000) (t:b2) (P:c5 t) (ap:t.l.length<=1000000) :aU 78 [ah s,ah t] (.bool (gT s.l t.l)):=by
 apply a2 func78 [];have W:=bO s;have J:bD (.Z 32) (ah t)=_:=b9 _;simp;refine bB t.l.length (fun k j l=>j 0=ah s/\j 1=ah t/\j 5=.i6 k/\∀ (g:Nat) (p:List B),g<k->t.l[g]?=some p->p∈s.l) ?_ V;rintro k j l hk ⟨z,C,D,O⟩;obtain⟨j,rfl⟩:=gF z C D;clear z C D;by_cases m:k<t.l.length
 ·obtain⟨y,Q,v⟩:=aQ m;have S:=ci (k:=k) F;have I:bQ (.Z 32) (ah t) _=_:=c8 Q;have H:=cG y;have G:=nX s ag ae y (P y v);have R:=bo (P y v);have K:=lr y s.l 0;obtain⟨ak,T⟩:=al (ao y);rw[<-T] at I H G R;simp[J,m,I,R,aI];refine au G (by simp[am,U.ar,W,H]) ?_;by_cases o:y∈s.l
  ·have q:¬ dH y s.l 0<0:=by have:=K.2 o;omega
   simp[q,m,S];intro g p u w;by_cases X:g=k
   ·subst X;rw[Q] at w;obtain rfl:=cc w;exact o
   ·exact O g p F w
  ·have q:dH y s.l 0<0:=by
    rcases Int.lt_or_le (dH y s.l 0) 0 with h | h
    ·exact h
    ·exact bV (K.1 h) o
   simp[q];exact aP (ch U.bool (cu fun h=>o (h y v)).symm) rfl
 ·have Y:k=t.l.length:=F;simp[J,m];refine aP (ch U.bool (b7 fun aj ai=>?_).symm) rfl;obtain⟨g,u⟩:=cp.1 ai;exact O g aj (by rw[Y];exact (aL.1 u).1) u
theorem kg {l:aR} (h:b8 l=true) :∀ {i j:Nat} {a b:List B},i<j->l[i]?=some a->l[j]?=some b->bP a b<0:=by
 have p:=iM h;intro i j
 induction j with
 | zero=>intro a b q;omega
 | succ j v=>
  intro a b q m o;have u:=(aL.1 o).1;have h1:=p (j+1) u F;obtain⟨c,g,_⟩:=aQ (l:=l) (k:=j) F;rw[show j+1 - 1=j by omega,dI g,dI o] at h1;by_cases t:i=j
  ·subst t;rw[m] at g;obtain rfl:=cc g;exact h1
  ·exact oE _ _ _ (v F m g) h1
theorem Ee {l:aR} (h:b8 l=true) {i j:Nat} {a:List B} (g:l[i]?=some a) (m:l[j]?=some a) :i=j:=by
 rcases pn i j with h1 | h1 | h1
 ·have:=kg h h1 g m;rw[lj] at this;omega
 ·exact h1
 ·have:=kg h h1 m g;rw[lj] at this;omega
def dS (l:aR) (x:List B) :Nat:=(l.takeWhile fun g=>decide (bP g x<0)).length
theorem B4 (x:List B) :∀ {l:aR} {p:Nat},p<=l.length->(∀ (t:Nat) (y:List B),t<p->l[t]?=some y->bP y x<0)->(∀ y,l[p]?=some y->¬ bP y x<0)->dS l x=p
 | [],p,g,_,_=>by simp at g;subst g;rfl
 | y::l,0,_,_,h=>by
  have:=h y V;unfold dS;rw[Bq,cu this];rfl
 | y::l,p+1,g,h1,h=>by
  have q:=h1 0 y F V;have o:=B4 x (l:=l) (p:=p) (by simpa using g) (fun t m u j=>h1 (t+1) m F (by simpa using j)) (fun m j=>h m (by simpa using j));unfold dS at o ⊢;rw[Bq,b7 q];simpa using o
theorem Xo (n:Nat) (h:n<9223372036854775808) :cz .shr .u64 (n:Int) .u64 1=some (.int .u64 ((n / 2:Nat) :Int)):=by
 have:=qG (BitVec.ofNat 64 n) .u64 1;have g:(u (BitVec.ofNat 64 n) :Int)=n:=by unfold u;rw[fP,ed F]
 have j:(u (BitVec.ofNat 64 n >>> 1) :Int)=((n / 2:Nat) :Int):=by
  unfold u;rw[lG,fP,ed F,hG]
 rw[g,j] at this;exact this
structure M9 (s:b2) (X:ag) (x:List B) (m:Nat) (sgZ:aS) (l:ae) :Prop where
 ex:∃ (i j:Nat),j - i=m/\i<=j/\j<=s.l.length/\l=[.q 32 X]/\sgZ 0=ah s/\sgZ 2=.fn 162 [] []/\sgZ 4=.ptr 0 0 32/\sgZ 8=.i6 s.l.length/\sgZ 9=.i6 i/\sgZ 10=.i6 j ∧
  (∀ (t:Nat) (y:List B),t<i->s.l[t]?=some y->bP y x<0)/\(∀ (t:Nat) (y:List B),j<=t->s.l[t]?=some y->¬ bP y x<0)
theorem As (s:b2) (Q:c5 s) (aV:s.l.length<=1000000) (x:List B) (aq:x.length=32) (P:b8 s.l=true) :
  aU 161 [ah s,.af (ao x),.fn 162 [] []] (.aX [.i6 (dS s.l x),.bool (decide (x∈s.l))]):=by
 apply a2 func161 [];have aF:bD (.Z 32) (ah s)=_:=b9 _;have D:=bo aq;have T:=cG x;have K:∀ y∈s.l,aU 162 [.af (ao y),.af (ao x)] (.i6 (bP y x)):=fun y g=>qL y x (Q y g) aq
 obtain⟨ax,aA⟩:=al (ao x);rw[<-aA] at D T K ⊢;simp[aF];refine wJ (M9 s ax x) ?_ s.l.length _ _ ⟨0,s.l.length,F,F,F,by simp[D],V,V,by simp[D],V,V,V,fun m y h=>F,fun m y h t=>by rw[dW h] at t;cases t⟩;rintro aY aM l ⟨i,j,aW,aT,aE,rfl,X,ae,ag,ai,aj,Y,h1,t⟩;obtain⟨aM,rfl⟩:=n4 X ae ag ai aj Y;clear X ae ag ai aj Y;by_cases aG:i<j
 ·obtain⟨h,aC⟩:=al ((i+j) / 2);have av:IntKind.i64.wrap ((i:Int)+j)=((i+j:Nat) :Int):=by rw[IntKind.wrap_i64];omega
  have aw:IntKind.u64.wrap ((i+j:Nat) :Int)=((i+j:Nat) :Int):=by rw[u6,oa];unfold u;rw[fP,ed F]
  have W:=Xo (i+j) F;have aO:IntKind.i64.wrap (h:Int)=(h:Int):=by rw[IntKind.wrap_i64];omega
  have aR:=ci (k:=h) F;have aH:(i:Int)<(j:Int):=F;rw[<-aC] at W;obtain⟨y,g,I⟩:=aQ (l:=s.l) (k:=h) F;have H:=bo (Q y I);have G:=cG y;have C:bQ (.Z 32) (ah s) _=_:=c8 g;have z:=K y I;obtain⟨ay,J⟩:=al (ao y);rw[<-J] at H G C z;obtain⟨N,az⟩:=al (i+j);rw[<-az] at av aw W;simp[aG,av,aw,W,aO,C,H,D,aI];refine⟨Cv,au z (by simp[am,U.ar,G,T]) ?_⟩;by_cases w:bP y x<0
  ·simp[w,aR];refine⟨j - (h+1),F,h+1,j,rfl,F,F,V,V,V,V,V,V,V,fun m aS o q=>?_,t⟩;by_cases R:m=h
   ·subst R;rw[g] at q;obtain rfl:=cc q;exact w
   ·exact oE _ _ _ (kg P F q g) w
  ·simp[w];refine⟨h - i,F,i,h,rfl,F,F,V,V,V,V,V,V,V,h1,fun m aS o q ak=>w ?_⟩;by_cases R:m=h
   ·subst R;rw[g] at q;obtain rfl:=cc q;exact ak
   ·exact oE _ _ _ (kg P F g q) ak
 ·have aH:¬ (i:Int)<(j:Int):=F;obtain rfl:i=j:=F;have ap:=B4 x (l:=s.l) (p:=i) aE h1 (fun y g=>t i y (aN _) g);have aJ:∀ {y:List B},s.l[i]?=some y->(y=x<->x∈s.l):=fun {y} g=>by
   constructor
   ·rintro rfl;exact cJ g
   ·intro S;obtain⟨m,o⟩:=cp.1 S;rcases pn m i with v | v | v
    ·have:=h1 m x v o;rw[lj] at this;omega
    ·subst v;rw[g] at o;exact cc o
    ·exact bV (kg P v g o) (t i y (aN _) g)
  by_cases O:i<s.l.length
  ·have aD:(i:Int)<(s.l.length:Int):=F;obtain⟨y,g,I⟩:=aQ (l:=s.l) (k:=i) O;have H:=bo (Q y I);have G:=cG y;have C:bQ (.Z 32) (ah s) _=_:=c8 g;have z:=K y I;have aB:bP y x=0<->x∈s.l:=by
    rw[<-aJ g];exact⟨oC,fun h=>by rw[h];exact lj _⟩
   obtain⟨ay,J⟩:=al (ao y);rw[<-J] at H G C z;simp[O,C,H,D,aI];refine⟨Cv,au z (by simp[am,U.ar,G,T]) ?_⟩;simp;refine aP ?_ rfl;rw[ap];simp[aB]
  ·have aD:¬ (i:Int)<(s.l.length:Int):=F;simp[O];refine aP ?_ rfl;have aK:¬ x∈s.l:=fun S=>by
    obtain⟨m,o⟩:=cp.1 S;have:=h1 m x (by have:=(aL.1 o).1;omega) o;rw[lj] at this;omega
   rw[ap,cu aK]
theorem B3 {l:aR} (j:b8 l=true) {k:Nat} {x:List B} (h:l[k]?=some x) :dS l x=k:=
 B4 x (ks (aL.1 h).1) (fun o y m g=>kg j m g h) (fun y g=>by rw[h] at g;obtain rfl:=cc g;rw[lj];omega)
structure aW where
 idsZ:b2
 opsZ:b1 aK
def bA (s:b1 aK) :U:=b4 11 aw s
def bb (g:aW) :ag:=[ah g.idsZ,bA g.opsZ]
def cr (g:aW) :U:=.af (bb g)
structure eE (g:aW) :Prop where
 idsZ:c5 g.idsZ
 opsZ:∀ o∈g.opsZ.l,dk o
 li:g.idsZ.l.length<=1000000
 jh:g.opsZ.l.length<=1000000
theorem ip (s:b1 aK) :(bA s).ar=true:=pD dt s
theorem nB (g:aW) :am (bb g)=true:=by have:=bO g.idsZ;have:=ip g.opsZ;simp[bb,am, *]
theorem jz (g:aW) :(cr g).ar=true:=by simp[cr,U.ar,nB]
def dO (opsZ:List aK) (i:Nat) :aR:=match opsZ[i]? with | some g=>g.ax.l | none=>[]
theorem me {opsZ:List aK} {i:Nat} {o:aK} (h:opsZ[i]?=some o) :dO opsZ i=o.ax.l:=by unfold dO;rw[h]
inductive mw (idsZ:aR) (opsZ:List aK) :Nat->Prop
 | mk (i:Nat) (m:i<idsZ.length) (o:∀ g∈dO opsZ i,g∈idsZ) (j:∀ g∈dO opsZ i,∀ h,idsZ[h]?=some g->mw idsZ opsZ h) :mw idsZ opsZ i
def k9 (idsZ:aR) :Prop:=∀ (i g:Nat) (x:List B),idsZ[i]?=some x->idsZ[g]?=some x->i=g
theorem mL {idsZ:aR} (h:b8 idsZ=true) :k9 idsZ:=fun _ _ _ h1 g=>Ee h h1 g
theorem p8:∀ {a b:List Nat},a.Nodup->(∀ x∈a,x∈b)->a.length<=b.length
 | [],_,_,_=>eS _
 | x::a,b,g,h=>by
  rw[vk] at g;have j:=h x V;have o:=p8 (b:=b.erase x) g.2 (fun y m=>(FB (fun e=>g.1 (by rw[<-e];exact m))).2 (h y (by simp[m])));rw[Fy j] at o;have:=Fz j;simp;omega
def mF (idsZ:aR) (opsZ:List aK) (out:List Nat) (i:Nat) :Bool:=decide (i∉out)&&gT (out.map (bx idsZ)) (dO opsZ i)
def hT (idsZ:aR) (opsZ:List aK) (out:List Nat) :Option Nat:=(List.range opsZ.length).find? (mF idsZ opsZ out)
def eN (idsZ:aR) (opsZ:List aK) :Nat->List Nat
 | 0=>[]
 | k+1=>match hT idsZ opsZ (eN idsZ opsZ k) with | some i=>eN idsZ opsZ k++[i] | none=>eN idsZ opsZ k
def mc (idsZ:aR) (opsZ:List aK) :List Nat:=eN idsZ opsZ opsZ.length
theorem T6 {idsZ:aR} {opsZ:List aK} {out:List Nat} {i:Nat} (h:hT idsZ opsZ out=some i) :i<opsZ.length/\i∉out/\∀ p∈dO opsZ i,p∈out.map (bx idsZ):=by have h1:=List.find?_some h;have g:=MZ h;unfold mF at h1;rw[bU,bK] at h1;exact⟨g3.1 g,h1.1,iM h1.2⟩
theorem T5 {idsZ:aR} {opsZ:List aK} {out:List Nat} (h:hT idsZ opsZ out=none) {i:Nat} (j:i<opsZ.length) (m:i∉out) :¬ ∀ p∈dO opsZ i,p∈out.map (bx idsZ):=by intro g;have:=List.find?_eq_none.1 h i (g3.2 j);apply this;unfold mF;rw[bU];exact⟨b7 m,b7 g⟩
theorem T3 {idsZ:aR} {opsZ:List aK} {out:List Nat} {i:Nat} (m:i<opsZ.length) (h:mF idsZ opsZ out i=true) (g:∀ j,j<i->mF idsZ opsZ out j=false) :hT idsZ opsZ out=some i:=by unfold hT;rw[List.find?_range_eq_some];exact⟨h,by simpa using m,fun j o=>by rw[g j o];rfl⟩
theorem T4 {idsZ:aR} {opsZ:List aK} {out:List Nat} (g:∀ j,j<opsZ.length->mF idsZ opsZ out j=false) :hT idsZ opsZ out=none:=by unfold hT;rw[List.find?_eq_none];intro j h;rw[g j (g3.1 h)];simp
theorem w4 {idsZ:aR} {opsZ:List aK} {k i:Nat} (h:hT idsZ opsZ (eN idsZ opsZ k)=some i) :eN idsZ opsZ (k+1)=eN idsZ opsZ k++[i]:=by show (match hT idsZ opsZ (eN idsZ opsZ k) with | some i=>eN idsZ opsZ k++[i] | none=>eN idsZ opsZ k)=_;rw[h]
theorem zL {idsZ:aR} {opsZ:List aK} {k:Nat} (h:hT idsZ opsZ (eN idsZ opsZ k)=none) :eN idsZ opsZ (k+1)=eN idsZ opsZ k:=by show (match hT idsZ opsZ (eN idsZ opsZ k) with | some i=>eN idsZ opsZ k++[i] | none=>eN idsZ opsZ k)=_;rw[h]
theorem w3 (idsZ:aR) (opsZ:List aK) (I:idsZ.length=opsZ.length) (v:k9 idsZ) :∀ k,(eN idsZ opsZ k).Nodup/\(eN idsZ opsZ k).length<=k/\∀ i∈eN idsZ opsZ k,i<opsZ.length/\mw idsZ opsZ i
 | 0=>⟨List.nodup_nil,aN _,fun i G=>by cases G⟩
 | k+1=>by
  obtain⟨h1,O,m⟩:=w3 idsZ opsZ I v k;cases h:hT idsZ opsZ (eN idsZ opsZ k) with
  | none=>rw[zL h];exact⟨h1,F,m⟩
  | some i=>
   rw[w4 h];obtain⟨B,C,t⟩:=T6 h;refine⟨?_,by simp;omega,fun z o=>?_⟩
   ·rw[FD];refine⟨h1,V,fun x h y w e=>?_⟩;rw[fQ] at w;subst e;rw[w] at h;exact C h
   ·rw[fE,fQ] at o;rcases o with o | rfl
    ·exact m z o
    ·have u:∀ g,g<idsZ.length->idsZ[g]?=some (bx idsZ g):=fun g j=>by
      obtain⟨x,h,_⟩:=aQ (l:=idsZ) j;rw[h,dI h]
     refine⟨B,.mk z F (fun q p=>?_) fun q p J H=>?_⟩
     ·obtain⟨g,j,rfl⟩:=cE.1 (t q p);exact cJ (u g (by have:=(m g j).1;omega))
     ·obtain⟨g,j,rfl⟩:=cE.1 (t q p);obtain⟨K,D⟩:=m g j;rw[v J g _ H (u g F)];exact D
theorem DA {idsZ:aR} {opsZ:List aK} {k:Nat} (h:hT idsZ opsZ (eN idsZ opsZ k)=none) :∀ m,eN idsZ opsZ (k+m)=eN idsZ opsZ k
 | 0=>rfl
 | m+1=>by
  have g:=DA h m;rw[<-i4,zL (by rw[g];exact h),g]
theorem Jl {n:Nat} {l:List Nat} (o:l.Nodup) (m:l.length=n) (h:∀ i∈l,i<n) :∀ i,i<n->i∈l:=by
 intro i j;apply Classical.byContradiction;intro p;have:=p8 (a:=i::l) (b:=List.range n) (vk.2 ⟨p,o⟩) (fun x g=>by
  rw[kp] at g;rcases g with rfl | g
  ·exact g3.2 j
  ·exact g3.2 (h x g))
 simp[m] at this;omega
theorem DB {idsZ:aR} {opsZ:List aK} (O:idsZ.length=opsZ.length) (I:k9 idsZ) :(mc idsZ opsZ).length=opsZ.length<->∀ i,i<opsZ.length->mw idsZ opsZ i:=by
 obtain⟨h1,C,q⟩:=w3 idsZ opsZ O I opsZ.length;constructor
 ·intro h i j;exact (q i (Jl h1 h (fun i j=>(q i j).1) i j)).2
 ·intro h;have H:∀ k,k<=opsZ.length->(eN idsZ opsZ k).length=k\/∃ m,m<=k/\hT idsZ opsZ (eN idsZ opsZ m)=none:=by
   intro k
   induction k with
   | zero=>intro _;exact .inl rfl
   | succ k p=>
    intro hk;rcases p F with g | ⟨m,K,g⟩
    ·cases w:hT idsZ opsZ (eN idsZ opsZ k) with
     | none=>exact .inr ⟨k,F,w⟩
     | some i=>left;rw[w4 w];simp[g]
    ·exact .inr ⟨m,F,g⟩
  rcases H opsZ.length (aN _) with g | ⟨m,K,g⟩
  ·exact g
  ·have v:eN idsZ opsZ opsZ.length=eN idsZ opsZ m:=by
    have:=DA g (opsZ.length - m)
    rwa [show m+(opsZ.length - m)=opsZ.length by omega] at this
   have G:∀ i,mw idsZ opsZ i->i<opsZ.length->i∈eN idsZ opsZ m:=by
    intro i t
    induction t with
    | mk i j Q t p=>
     intro J;apply Classical.byContradiction;intro P;refine T5 g J P fun B u=>?_
     obtain⟨z,o⟩:=cp.1 (Q B u);exact cE.2 ⟨z,p B u z o (by have:=(aL.1 o).1;omega),dI o⟩
   show (eN idsZ opsZ opsZ.length).length=opsZ.length;rw[v];have D:=p8 (a:=List.range opsZ.length) (b:=eN idsZ opsZ m) Bl fun i j=>G i (h i (g3.1 j)) (g3.1 j)
   rw[List.length_range] at D;rw[v] at C;omega
theorem Q8 (g:aW) (j:eE g) (u:b8 g.idsZ.l=true) (x:List B) (o:x.length=32) :aU 287 [cr g,.af (ao x)] (.aX [.i6 (dS g.idsZ.l x),.bool (decide (x∈g.idsZ.l))]):=by apply a2 func287 [];have t:=bO g.idsZ;have w:=ip g.opsZ;have h:=cG x;have p:=bo o;have m:=As g.idsZ j.idsZ j.li x o u;obtain⟨v,q⟩:=al (ao x);rw[<-q] at m h p ⊢;simp[cr,bb,p,aI];refine au m (by simp[am,U.ar,t,h]) ?_;simp;exact aF
def fU (n:Nat) :ag:=[.i6 (n:Int)]
def lm (b:Bool) :ag:=[.bool b]
def cK {alZ:Type} (l:List alZ) :b1 alZ:=match l with | []=>none | x::r=>some (x::r)
theorem dh {alZ:Type} (l:List alZ) :(cK l).l=l:=by cases l<;>rfl
theorem n1 {alZ:Type} (l:List alZ) :(cK l).isNone=l.isEmpty:=by cases l<;>rfl
def Ci (l:b1 Nat) :U:=b4 1 fU l
theorem KP {alZ:Type} (zero:U) (n:Nat) :cQ [zero] n=List.replicate n zero:=by
 rw[xl]
 induction n with
 | zero=>rfl
 | succ n g=>rw[kr,hj,g,kr];rfl
theorem wP {z by_ n:Nat} {k k' : cU} {zero:ag} {l:ae} (g:zero.length=z) (h1:n<9223372036854775808) (m:by_*n<=dj) :
  l6 z by_ zero l (.int k (n:Int)) (.int k' (n:Int))=some (.Z z l.length 0 n n (n*z),l++[.q (n*z) (cQ zero n)])/\aH z (l++[.q (n*z) (cQ zero n)]) (.Z z l.length 0 n n (n*z)) l.length (List.replicate n zero):=by
 constructor
 ·have h:(by_:Int)*(n:Int)<=(dj:Int):=by rw[<-Int.natCast_mul];omega
  simp only[l6,fo];rw[ak ⟨F,F,F,h⟩]
 ·refine .Z l.length n n (n*z) (cQ zero n) _ (by rw[eu (aN _)];simp) (by rw[uF,g]) V (fun e j=>by rw[s9 j];exact g) (aN _) (aN _) ?_;rw[aI (by rw[uF,g];omega),xl]
def nD (n:Nat) (out:List Nat) :List Bool:=(List.range n).map fun i=>decide (i∈out)
theorem yI {n:Nat} {out:List Nat} {i:Nat} (h:i<n) :(nD n out)[i]?=some (decide (i∈out)):=by unfold nD;rw[b0,hn h];rfl
theorem v6 (n:Nat) (out:List Nat) :(nD n out).length=n:=by simp[nD]
theorem Qp {n:Nat} {out:List Nat} {i:Nat} (h:i<n) :(nD n out).set i true=nD n (out++[i]):=by
 apply g1;intro m;by_cases j:m<n
 ·rw[yI j,oe];by_cases g:i=m
  ·subst g;simp[v6,h]
  ·rw[ai g,yI j];simp[Ne.symm g]
 ·rw[dW (by simp[v6];omega),dW (by simp[v6];omega)]
theorem Qo (n:Nat) :nD n []=List.replicate n false:=by
 apply g1;intro h;by_cases g:h<n
 ·rw[yI g];simp[g]
 ·rw[dW (by simp[v6];omega),dW (by simp;omega)]
theorem one_cell {cs:ag} {o:Nat} {c:U} (h:(cs.drop o).take 1=[c]) :cs[o]?=some c:=by
 have h1:((cs.drop o).take 1)[0]?=some c:=by rw[h];rfl
 rw[dQ F,gx] at h1;exact h1
structure NT (g:aW) (out:List Nat) (o p t:U) (rest:ae) :Prop where
 ex:∃ h j m,aH 1 (.q 2 (bb g) ::rest) o h (out.map fU)/\aH 32 (.q 2 (bb g) ::rest) p j ((out.map (bx g.idsZ.l)).map ao)/\aH 1 (.q 2 (bb g) ::rest) t m ((nD g.opsZ.l.length out).map lm) ∧
  1<=m/\bq t=false/\bq o=out.isEmpty/\bq p=out.isEmpty/\(out=[]\/(1<=h/\1<=j/\h≠j/\h≠m/\j≠m))
theorem VT (g:aW) (ak:eE g) (bg:g.idsZ.l.length=g.opsZ.l.length) (am:k9 g.idsZ.l) :aU 125 [cr g] (Ci (cK (mc g.idsZ.l g.opsZ.l))):=by
 apply a2 func125 [cT 0 5++cT 6 7++[[5,12,11,8]]];have aR:dj=140737488355328:=rfl;have cm:=bO g.idsZ;have cn:=ip g.opsZ;have aB:bD (.Z 11) (bA g.opsZ)=_:=b9 _;have cw:=ak.jh;obtain⟨bh,bi⟩:=wP (z:=1) (by_:=1) (n:=g.opsZ.l.length) (k:=.i64) (k':=.i64) (zero:=[U.bool false]) (l:=[aq.q 2 (bb g)]) rfl F (by rw[aR];omega);simp only[bb,oi,KP (alZ:=Nat)] at bh bi;simp[cr,bb,aB,bh];refine wJ (fun aT j l=>∃ (k:Nat) (rest:ae),l=.q 2 (bb g) ::rest/\j 1=.ptr 0 0 2/\NT g (eN g.idsZ.l g.opsZ.l k) (j 3) (j 4) (j 5) rest ∧
  ((j 6=.bool true/\(eN g.idsZ.l g.opsZ.l k).length=k/\aT=g.opsZ.l.length - k+1)\/(j 6=.bool false/\hT g.idsZ.l g.opsZ.l (eN g.idsZ.l g.opsZ.l k)=none/\k<=g.opsZ.l.length/\aT=0))) ?_ (g.opsZ.l.length+1) _ _ ?_
 ·rintro aT j l ⟨k,rest,rfl,w,ag,O⟩;obtain⟨aE,p⟩:∃ v,j 3=v:=⟨_,rfl⟩
  obtain⟨aF,o⟩:∃ v,j 4=v:=⟨_,rfl⟩
  obtain⟨bz,t⟩:∃ v,j 5=v:=⟨_,rfl⟩
  rw[p,o,t] at ag;obtain⟨out,J⟩:=al (eN g.idsZ.l g.opsZ.l k);rw[<-J] at ag O;obtain⟨bk,bS,az⟩:=w3 g.idsZ.l g.opsZ.l bg am k;rw[<-J] at bk bS az;have cy:out.length<=g.opsZ.l.length:=by
   have:=p8 (b:=List.range g.opsZ.l.length) bk (fun x I=>g3.2 (az x I).1);simpa using this
  rcases O with ⟨B,hk,rfl⟩ | ⟨B,aP,cv,rfl⟩
  ·obtain⟨j,rfl⟩:=gu w p o t B;clear w p o t B;simp;refine bB g.opsZ.l.length (fun i j l=>l=.q 2 (bb g) ::rest/\j 1=.ptr 0 0 2/\j 3=aE/\j 4=aF/\j 5=bz/\j 6=.bool false/\j 7=.i6 i/\∀ G,G<i->mF g.idsZ.l g.opsZ.l out G=false) ?_ V;rintro i j l cp ⟨rfl,w,p,o,t,B,a5,O⟩;obtain⟨j,rfl⟩:=n4 w p o t B a5;clear w p o t B a5;by_cases D:i<g.opsZ.l.length
   ·obtain⟨T,bl,bn⟩:=aQ D;have a3:=ci (k:=i) F;have bK:bQ (.Z 11) (bA g.opsZ) _=_:=c8 bl;obtain⟨u,m,oP,ar,au,ay,W,aD,R,S,aK⟩:=ag;obtain⟨cB,ch,cH,a0,aG,cg,bE⟩:=ay.q.get (k:=.i64) (i:=i) (e:=lm (decide (i∈out))) (by rw[b0,yI D];rfl);have a1:=one_cell (c:=.bool (decide (i∈out))) (by simpa [lm] using bE);have bp:=au.mZ (enc:=ao) (xs:=out.map (bx g.idsZ.l)) (fun x=>cG x) (cK (out.map (bx g.idsZ.l))) (by rw[S,n1];simp) (dh _);have bT:c5 (cK (out.map (bx g.idsZ.l))):=fun x I=>by
     rw[dh] at I;obtain⟨bt,bX,rfl⟩:=cE.1 I;obtain⟨y,aC,aS⟩:=aQ (l:=g.idsZ.l) (k:=bt) (by have:=(az bt bX).1;omega);rw[dI aC];exact ak.idsZ y aS
    have bd:=z1 (cK (out.map (bx g.idsZ.l))) bT (by rw[dh];simp;omega) T.ax (ak.opsZ T bn).idsZ (ak.opsZ T bn).len;rw[dh] at bd;have bJ:=bO T.ax;have aj:mF g.idsZ.l g.opsZ.l out i=(decide (i∉out)&&gT (out.map (bx g.idsZ.l)) T.ax.l):=by unfold mF;rw[me bl]
    simp only[bb] at aG ar au ay bp;by_cases aA:i∈out
    ·simp[bb,aB,D,a0,aG,a1,aA,a3];intro G am;by_cases aM:G=i
     ·subst aM;rw[aj];simp[aA]
     ·exact O G F
    ·simp[bb,aB,D,a0,aG,a1,aA,bK,aw];refine ig bd (.cons bp (.cons (.same _ bJ) .nil)) rfl ?_;by_cases ai:gT (out.map (bx g.idsZ.l)) T.ax.l=true
     ·rw[ai] at aj;obtain⟨y,aC,aS⟩:=aQ (l:=g.idsZ.l) (k:=i) F;have bf:bQ (.Z 32) (ah g.idsZ) _=_:=c8 aC;have ap:=bo (ak.idsZ y aS);obtain⟨Y,a9⟩:=al (ao y);rw[<-a9] at bf ap;have bW:av (bZ 32 (.int .u8 0)) 0 Y=Y:=cD (by rw[ap];rfl);obtain⟨Q,H⟩:=al (aq.q 2 [ah g.idsZ,bA g.opsZ] ::(rest++[aq.q 1 [U.int IntKind.i64 (i:Int)],aq.q 32 Y]));have bM:Q.length=rest.length+3:=by rw[H];simp
      have aV:aH 1 Q aE u (out.map fU):=by rw[H];exact ar.more _
      have aY:aH 32 Q aF m ((out.map (bx g.idsZ.l)).map ao):=by rw[H];exact au.more _
      have b4:aH 1 Q bz oP ((nD g.opsZ.l.length out).map lm):=by rw[H];exact ay.more _
      have bj:out=[]->aE=.ad/\aF=.ad:=fun h=>by rw[h] at R S;exact⟨gk.1 R,gk.1 S⟩
      have cz:oP<rest.length+1:=by
       rcases ay.lt with h | h
       ·rw[h] at aD;cases aD
       ·simpa using h
      obtain⟨u,aV,q1,b5,b7,cC⟩:∃ u,aH 1 Q aE u (out.map fU)/\1<=u/\u≠oP/\(out=[]\/u≠m)/\(u<rest.length+1\/Q.length<=u):=by
       by_cases h:out=[]
       ·have P:=(bj h).1;rw[P,h];exact⟨Q.length,.nil _,F,F,.inl rfl,.inr (aN _)⟩
       ·obtain⟨h1,a6,a7,a8,W⟩:=aK.resolve_left h;refine⟨u,aV,h1,a8,.inr a7,.inl ?_⟩;rcases ar.lt with C | C
        ·rw[C] at R;cases out with
         | nil=>exact bV rfl h
         | cons=>cases R
        ·simpa using C
      obtain⟨bv,K,b1,w,a4,p,o,t,B⟩:=lS (by_:=8) aV (x:=.Z 1 (rest.length+1) 0 1 1 1) (xs:=[fU i]) (by rw[H];simp[cq,fU]) (by simp[fU]) F F (by rw[aR];simp;omega);obtain⟨jl,rfl⟩:∃ jl,b1=aq.q 2 [ah g.idsZ,bA g.opsZ] ::jl:=zH (by rw[o 0 F F,H];rfl);have bI:(aq.q 2 [ah g.idsZ,bA g.opsZ] ::jl)[rest.length+2]?=some (.q 32 Y):=by rw[o (rest.length+2) F F,H];simp
      have cl:(aq.q 2 [ah g.idsZ,bA g.opsZ] ::jl)[rest.length+1]?=some (.q 1 [.i6 (i:Int)]):=by rw[o (rest.length+1) F F,H];simp
      have bY:=b4.frame (l':=aq.q 2 [ah g.idsZ,bA g.opsZ] ::jl) (fun h=>o oP h (Ne.symm b5));rw[H] at w;simp[ai,bf,ap,bW,aI,w];refine bR.bm ?_;simp;have bc:jl[rest.length+1]?=some (.q 32 Y):=by simpa using bI
      refine⟨⟨bc,F,aI F⟩,?_⟩;have br:bv≠.ad:=fun h=>by have:=(B.1 h).2;cases this
      have ct:K<jl.length+1:=by have:=a4.lt.resolve_left br;simpa using this
      have aL:1<=K/\K≠oP:=by rcases t with h | h<;>omega
      obtain⟨m,aY,t1,t2,t3,t4⟩:∃ m,aH 32 (aq.q 2 [ah g.idsZ,bA g.opsZ] ::jl) aF m ((out.map (bx g.idsZ.l)).map ao)/\1<=m/\m≠oP/\m≠K/\(m<jl.length+1\/jl.length+1<=m):=by
       by_cases h:out=[]
       ·have P:=(bj h).2;rw[P,h];simp at p;exact⟨jl.length+1,.nil _,F,F,F,.inr (aN _)⟩
       ·obtain⟨h1,a6,a7,a8,W⟩:=aK.resolve_left h;have ck:m<rest.length+1:=by
         rcases au.lt with C | C
         ·rw[C] at S;cases out with
          | nil=>exact bV rfl h
          | cons=>cases S
         ·simpa using C
        have bH:=b7.resolve_left h;refine⟨m,aY.frame (fun h=>o m h (Ne.symm bH)),a6,W,by rcases t with h | h<;>omega,.inl (by simp at p;omega)⟩
      obtain⟨bw,qW,b2,f1,f2,f3,f4,f5,f6⟩:=lS (by_:=32) aY (x:=.Z 32 (rest.length+1+1) 0 1 1 32) (xs:=[Y]) (by simp[cq,ap,bc,aI]) (by simp[ap]) F F (by rw[aR];simp;omega);obtain⟨xc,rfl⟩:∃ xc,b2=aq.q 2 [ah g.idsZ,bA g.opsZ] ::xc:=zH (by rw[f4 0 V F];rfl);have bs:bw≠.ad:=fun h=>by have:=(f6.1 h).2;cases this
      have cu:qW<xc.length+1:=by have:=f2.lt.resolve_left bs;simpa using this
      have cc:=a4.frame (l':=aq.q 2 [ah g.idsZ,bA g.opsZ] ::xc) (fun h=>f4 K h (Ne.symm t3));have cd:=bY.frame (l':=aq.q 2 [ah g.idsZ,bA g.opsZ] ::xc) (fun h=>f4 oP h (Ne.symm t2));obtain⟨cA,b3,b8,ca,cb,cF,aZ⟩:=zN (k:=i) (x:=true) (X:=.bool true) (enc:=lm) rfl cd (fun _ _=>rfl) (by rw[v6];exact D) rfl;simp[f1];refine bR.bm ?_;simp[b8,ca];have aJ:qW=m\/jl.length+1<=qW:=by simpa using f5
      have cj:rest.length+3<=jl.length+1:=by rw[bM] at p;simpa using p
      have ce:1<=qW:=by rcases aJ with h | h<;>omega
      have bC:qW≠oP:=by rcases aJ with h | h<;>omega
      have cf:K≠qW:=by rcases aJ with h | h<;>omega
      obtain⟨DT,rfl⟩:∃ DT,b3=aq.q 2 [ah g.idsZ,bA g.opsZ] ::DT:=zH (by rw[aZ 0 F];rfl);have bN:hT g.idsZ.l g.opsZ.l out=some i:=T3 D (by rw[aj];simp[aA]) O;have aO:eN g.idsZ.l g.opsZ.l (k+1)=out++[i]:=by rw[w4 (by rw[<-J];exact bN),<-J]
      have cx:k<g.opsZ.l.length:=by
       have C:=(w3 g.idsZ.l g.opsZ.l bg am (k+1)).1;rw[aO] at C;have:=p8 (b:=List.range g.opsZ.l.length) C (fun x I=>g3.2 (by
        rw[fE,fQ] at I;rcases I with I | rfl
        ·exact (az x I).1
        ·exact D))
       simp at this;omega
      have bF:(out++[i]).map fU=out.map fU++[fU i]:=V;have bG:((out++[i]).map (bx g.idsZ.l)).map ao=(out.map (bx g.idsZ.l)).map ao++[Y]:=by
       have bL:bx g.idsZ.l i=y:=dI aC;rw[cV,cV,List.map_singleton,List.map_singleton,bL,a9]
      refine⟨g.opsZ.l.length - (k+1)+1,F,k+1,DT,rfl,?_,by rw[aO];simp[hk],rfl⟩;rw[aO];refine⟨⟨K,qW,oP,?_,?_,?_,W,aD,?_,?_,.inr ⟨aL.1,ce,cf,aL.2,bC⟩⟩⟩
      ·rw[bF];exact cc.frame (fun h=>aZ K aL.2)
      ·rw[bG];exact f2.frame (fun h=>aZ qW bC)
      ·rw[<-Qp D];exact cb
      ·cases P:bq bv with
       | true=>exact bV (gk.1 P) br
       | false=>simp
      ·cases P:bq bw with
       | true=>exact bV (gk.1 P) bs
       | false=>simp
     ·rw[xS] at ai;rw[ai] at aj;simp[ai,D,a3];refine⟨rfl,fun G am=>?_⟩;by_cases aM:G=i
      ·subst aM;rw[aj];simp
      ·exact O G F
   ·have cs:i=g.opsZ.l.length:=F;simp[bb,aB,D];have aP:hT g.idsZ.l g.opsZ.l out=none:=T4 fun G am=>O G F
    refine⟨0,F,k,by rw[<-J];exact ag,by rw[<-J];exact aP,F,rfl⟩
  ·obtain⟨j,rfl⟩:=gu w p o t B;clear w p o t B;simp;obtain⟨u,m,oP,ar,au,ay,W,aD,R,S,aK⟩:=ag;have bU:mc g.idsZ.l g.opsZ.l=out:=by
    unfold mc;have:=DA (k:=k) (by rw[<-J];exact aP) (g.opsZ.l.length - k);rw[show k+(g.opsZ.l.length - k)=g.opsZ.l.length by omega,<-J] at this;exact this
   rw[bU];exact ar.q.gP (fun x=>rfl) (cK out) (by rw[R,n1]) (dh _)
 ·refine⟨0,_,rfl,V,?_,.inl ⟨V,rfl,rfl⟩⟩;simp;refine⟨⟨0,0,1,.nil 0,.nil 0,?_,F,rfl,rfl,rfl,.inl rfl⟩⟩;show aH _ _ _ _ ((nD g.opsZ.l.length []).map lm);have:(nD g.opsZ.l.length []).map lm=List.replicate g.opsZ.l.length [U.bool false]:=by rw[Qo,xZ];rfl
  rw[this];exact bi
end Op
end Go.bh

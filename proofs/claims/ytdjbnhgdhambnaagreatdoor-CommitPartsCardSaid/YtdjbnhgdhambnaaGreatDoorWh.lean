/-
  slices.Clone and slices.Compact of idsZ: walked.
-/
import Derived.Test.YtdjbnhgdhambnaaGreatDoorWg
set_option maxHeartbeats 16000000
set_option maxRecDepth 100000
set_option linter.unusedVariables false
set_option linter.unusedSimpArgs false
set_option linter.unnecessarySimpa false
namespace Go.bh
open Go Go.Proofs Go.Proofs.Tryz
namespace Op
open ca
theorem vC:∀ a b:List B,a.length=b.length->dn (a.map a8) (b.map a8)=decide (a=b)
 | [],[],_=>rfl
 | [],_::_,h=>by simp at h
 | _::_,[],h=>by simp at h
 | x::a,y::b,h=>by
  have j:=vC a b (by simpa using h);simp only[df,dn,j,U.beq,nZ,mj];by_cases h1:x=y
  ·by_cases g:a=b<;>simp[h1,g]
  ·have:¬ u x=u y:=fun h=>h1 ((ka x y).1 h)
   simp[h1]
theorem qV:∀ a:List B,gE (List.replicate a.length (.i .u8)) (a.map a8)=true
 | []=>rfl
 | x::a=>by
  rw[dE,kk,df];simp only[gE,qV a,xu,nZ,kU]
theorem IF:mO prog 20 57=some (List.replicate 32 (.i .u8)):=bg
theorem pv {a b:List B} (g:a.length=32) (h:b.length=32) :eb prog .eql 57 (.ah (ar a)) (.ah (ar b))=some (.bool (decide (a=b))):=by unfold ar;rw[tD IF bg bg (by have:=qV a;rwa [g] at this) (by have:=qV b;rwa [h] at this),vC a b F]
theorem pw {a b:List B} (g:a.length=32) (h:b.length=32) :eb prog .neq 57 (.ah (ar a)) (.ah (ar b))=some (.bool (!decide (a=b))):=by unfold ar;rw[Br IF bg bg (by have:=qV a;rwa [g] at this) (by have:=qV b;rwa [h] at this),vC a b F]
theorem TV (s:bV) :eb prog .eql 23 (b4 32 ar s) .af=some (.bool s.isNone):=vF (e:=57) bg 32 ar s
theorem Ul (l:ae) :b9 32 ar l (l++[.q 0 []]) (.ad 32 l.length 0 0 0 0) ([] :aO) false:=
 ⟨l.length,.ad l.length 0 0 0 [] [] V rfl rfl V (aI _) F rfl,V,fun b g=>aV g,.inr (aI _),rfl⟩
theorem yQ (s:bV) (m:cT s) (p:s.l.length<=1000000) {l:ae} {K:cA} (g:∀ v l',b9 32 ar l l' v s.l s.isNone->K v l') :
  cJ 80 [ai s] l K:=by
 apply cW func80 [];have o:=dF;cases s with
 | none=>
  simp[ai];exact g _ _ b9.nil
 | some a=>
  simp at p;obtain⟨t,l',h,j,_⟩:=(Ul l).app (by_:=32) (x:=b4 32 ar (some a)) (xs:=a) (oj _ 32 ar (some a)) (fun y q=>bu (m y q)) F F (by rw[o];simp;omega);simp[ai,TV,h];refine b2.bq ?_;simp;exact g _ _ (by simpa using j)
def jS (l:aO) (m:Nat) :aO:=(List.range m).flatMap fun k=>if k=0\/bo l k≠bo l (k - 1) then [bo l k] else []
def eg (l:aO) :aO:=jS l l.length
theorem tQ (l:aO) (m:Nat) :jS l (m+1)=jS l m++(if m=0\/bo l m≠bo l (m - 1) then [bo l m] else []):=by unfold jS;rw[tg,xO];simp
theorem BR (l:aO) :∀ m,(jS l m).length<=m
 | 0=>by simp[jS]
 | m+1=>by
  have:=BR l m;rw[tQ,cr];split<;>simp<;>omega
theorem vS {l:aO}:∀ {m},m<=l.length->(∀ k,1<=k->k<m->bo l k≠bo l (k - 1))->jS l m=l.take m
 | 0,_,_=>by simp[jS]
 | m+1,o,h=>by
  rw[tQ,vS F (fun k h1 j=>h k h1 F),eU,aj (by
   by_cases g:m=0
   ·exact .inl g
   ·exact .inr (h m F F))]
  congr 1;unfold bo;rw[gA,bI F];rfl
theorem G9 {l:aO} {k:Nat} (h1:1<=k) (g:bo l k=bo l (k - 1)) :∀ {m},k<m->(jS l m).length<m
 | 0,h=>F
 | m+1,h=>by
  rw[tQ,cr];by_cases hk:k=m
  ·subst hk;have:=BR l k;rw[ak (fun h=>h.elim (fun o=>F) (fun j=>j g))];simp;omega
  ·have:=G9 h1 g (m:=m) F;split<;>simp<;>omega
theorem Qk {l:aO} (j:sN l=true) :((eg l).length=l.length)<->bX l=true:=by
 unfold sN at j;rw[bC] at j;unfold bX eg;rw[bC];constructor
 ·intro h k hk h1;have m:=j k hk h1;have p:bo l k≠bo l (k - 1):=fun g=>by
   have:=G9 h1 g hk;omega
  have q:=oh (bo l k) (bo l (k - 1));have t:bJ (bo l (k - 1)) (bo l k)≠0:=fun o=>p (og o).symm
  omega
 ·intro h;rw[vS (aI _) (fun k h1 m g=>by
   have:=h k m h1;rw[<-g,k8] at this;omega),fC]
theorem yR {a:aO} {k:Nat} (h:k<a.length) :(a.map ar)[k]?=some (ar (bo a k)):=by rw[bW];unfold bo;rw[gA,bI h];rfl
theorem wg {a:aO} {k:Nat} (h:k<a.length) :bo a k∈a:=by unfold bo;rw[gA,bI h];exact Fg h
structure Nv (l:ae) (v:U) (xs:aO) (k:Nat) (sgZ:aR) (l1:ae) :Prop where
 lf:sgZ 0=v
 jq:sgZ 3=.i6 ((k+1:Nat) :Int)
 ov:l1=l
 jX:∀ j,1<=j->j<k+1->bo xs j≠bo xs (j - 1)
structure Nu (l:ae) (v o:U) (j:Nat) (xs:aO) (m i:Nat) (sgZ:aR) (h:ae) :Prop where
 lf:sgZ 0=v
 kz:sgZ 4=o
 kA:sgZ 5=.i6 ((i+1:Nat) :Int)
 ex:∃ (k:Nat) (g:aO),sgZ 3=.i6 (k:Int)/\aM 32 h v j (g.map ar)/\g.length=xs.length/\(∀ y∈g,y.length=32)/\g.take k=jS xs (m+i+1)/\k<=m+i/\(∀ t,m+i<=t->bo g t=bo xs t)/\h.length=l.length/\∀ b,b≠j->h[b]?=l[b]?
theorem Qj {l:ae} {v:U} {j k:Nat} {g:aO} (h:aM 32 l v j (g.map ar)) (hk:k<g.length) :
  ∃ B o r,dK (.ad 32) v (some (.i6 (k:Int))) none none=some B/\pg (bT 32 (.int .u8 0)) l B=some o/\dK (.ad 32) v none (some (.i6 (k:Int))) none=some r ∧
   aM 32 o r j ((g.take k).map ar)/\bt r=false/\o.length=l.length/\∀ b,b≠j->o[b]?=l[b]?:=by
 generalize m:g.map ar=I at h;cases h with
 | nil j=>rw[nU] at m;subst m;simp at hk
 | ad j n cap p cs I u ai Y w P R T=>
  subst m;have ao:g.length=n:=by simpa using Y
  have J:gW (.i6 (k:Int)) n=some k:=by
   show (if 0<=(k:Int)/\(k:Int)<=(n:Int) then some (k:Int).toNat else none)=some k;rw[aj ⟨F,F⟩];simp
  have K:gW (.i6 (k:Int)) cap=some k:=by
   show (if 0<=(k:Int)/\(k:Int)<=(cap:Int) then some (k:Int).toNat else none)=some k;rw[aj ⟨F,F⟩];simp
  have C:e6 n cap (some (.i6 (k:Int))) none none=some (k,n,cap):=by
   show (match gW (.i6 (k:Int)) n with | none=>none | some l=>some (l,n,cap))=_;rw[J]
  have D:e6 n cap none (some (.i6 (k:Int))) none=some (0,k,cap):=by
   show (match gW (.i6 (k:Int)) cap with | none=>none | some h=>some (0,h,cap))=_;rw[K]
  have S:¬ cap=k:=F;have Q:¬ cap=0:=F;have W:j<l.length:=a2 u;have X:k*32<=n*32:=cn _ F;have al:n*32<=cap*32:=cn _ P;have Z:(cD (bT 32 (.int .u8 0)) (n - k)).length=(n - k)*32:=by rw[uJ];rfl
  have am:k*32+(n - k)*32=n*32:=by rw[<-eV];congr 1;omega
  refine⟨.ad 32 j (k*32) (n - k) (cap - k) p,l.set j (.q p (ax cs (k*32) (cD (bT 32 (.int .u8 0)) (n - k)))),.ad 32 j 0 k cap p,?_,?_,?_,?_,rfl,V,fun b O=>by rw[br (fun h=>O h.symm)]⟩
  ·rw[sL,C];simp[S]
  ·unfold pg;simp only;rw[ak F];simp[u]
  ·rw[sL,D];simp[Q]
  ·refine .ad j k cap p _ _ (b1 W) (by rw[oQ F,Z];omega) (by simp;omega) (fun e m=>?_) F R ?_
   ·obtain⟨y,t,rfl⟩:=cy.1 m;exact w _ (te (gh t))
   ·unfold ax;rw[gM,ig (by rw[cO];omega),na,Nat.min_self];have G:cs.take (k*32)=(cs.take (n*32)).take (k*32):=by rw[na,iX X]
    have H:g.map ar=(g.take k).map ar++(g.drop k).map ar:=by rw[<-c5,iV]
    have ag:((g.take k).map ar).flatten.length=k*32:=by
     rw[hO (z:=32) (fun e m=>by obtain⟨y,t,rfl⟩:=cy.1 m;exact w _ (te (gh t)))];simp;omega
    rw[G,T,H,jL,ig F,aL F]
theorem JV {g:aO} (t:∀ y∈g,y.length=32) (k:Nat) (hk:k<=g.length) {n:Nat} (w:g.length=n) {cs:ag} (j:cs.take (n*32)=(g.map ar).flatten) (v:n*32<=cs.length) :
  cs.take (k*32)=((g.take k).map ar).flatten/\(cs.drop (k*32)).take (n*32 - k*32)=((g.drop k).map ar).flatten:=by
 have p:k*32<=n*32:=cn _ F;have h:g.map ar=(g.take k).map ar++(g.drop k).map ar:=by rw[<-c5,iV]
 have u:((g.take k).map ar).flatten.length=k*32:=by
  rw[hO (z:=32) (fun e o=>by obtain⟨y,q,rfl⟩:=cy.1 o;exact bu (t _ (gh q)))];simp;omega
 have m:cs.take (k*32)=(cs.take (n*32)).take (k*32):=by rw[na,iX p]
 constructor
 ·rw[m,j,h,jL,ig F,aL F]
 ·rw[<-rv,j,h,jL,nS F,qc F,iD]
theorem Xg {l:ae} {v:U} {j k:Nat} {g:aO} {x:List B} (h:aM 32 l v j (g.map ar)) (t:∀ y∈g,y.length=32) (hk:k<g.length) (Q:x.length=32) :
  ∃ p l',bO (.ad 32) v (.i6 (k:Int))=some p/\jG 32 l p (.ah (ar x))=some l'/\aM 32 l' v j ((g.set k x).map ar)/\l'.length=l.length/\∀ b,b≠j->l'[b]?=l[b]?:=by
 generalize o:g.map ar=G at h;cases h with
 | nil j=>rw[nU] at o;subst o;simp at hk
 | ad j n cap u cs G w W K Z z I C=>
  subst o;have D:g.length=n:=by simpa using K
  have J:j<l.length:=a2 w;have m:=bu Q;have X:(k+1)*32<=n*32:=cn _ F;have Y:n*32<=cap*32:=cn _ z;have O:(k+1)*32=k*32+32:=by rw[eu]
  obtain⟨f1,_⟩:=JV t k F D C F;obtain⟨_,f2⟩:=JV t (k+1) F D C F;refine⟨.ptr j (k*32) u,l.set j (.q u (ax cs (k*32) (ar x))),?_,?_,?_,V,fun b H=>by rw[br (fun h=>H h.symm)]⟩
  ·simp[bO];omega
  ·unfold jG;simp[w,U.cells,m];omega
  ·refine .ad j n cap u _ _ (b1 J) (by rw[oQ F,m];omega) (by simp;omega) (fun e o=>?_) z I ?_
   ·obtain⟨y,R,rfl⟩:=cy.1 o;rcases nV R with h | h
    ·exact bu (t _ h)
    ·rw[h];exact m
   ·have P:g.set k x=g.take k++(x::g.drop (k+1)):=by rw[rA,aj hk]
    rw[P,c5,df,jL,g6,<-f1,<-f2];unfold ax;have t1:(cs.take (k*32)).length=k*32:=by rw[cO];omega
    have S:(cs.take (k*32)).take (n*32)=cs.take (k*32):=aL (by rw[t1];omega);have T:(ar x).take (n*32 - k*32)=ar x:=aL (by rw[m];omega);rw[gM,m,<-O,qe,t1,S,qe,T,m,show n*32 - k*32 - 32=n*32 - (k+1)*32 by omega]
theorem GZ {l0 l:ae} {v:U} {xs:aO} {a6:Bool} (h:b9 32 ar l0 l v xs a6) (aG:∀ x∈xs,x.length=32) (bR:xs.length<=1000000) {K:cA} (ay:∀ r l',b9 32 ar l0 l' r (eg xs) a6->K r l') :
  cJ 138 [v] l K:=by
 apply cW func138 [];have C:=h.len;by_cases B:xs.length<2
 ·have ax:(xs.length:Int)<2:=F;have aB:eg xs=xs:=by
   unfold eg;rw[vS (aI _) (fun k h1 a2=>F),fC]
  simp[C,ax];exact ay _ _ (by rw[aB];exact h)
 ·have ax:¬ (xs.length:Int)<2:=F;simp[C,ax];refine bz (xs.length - 1) (Nv l v xs) ?_ ⟨V,V,rfl,fun j h1 a2=>F⟩;rintro k aK bD hk ⟨z,t,rfl,ag⟩;obtain⟨aK,rfl⟩:=kb z t;clear z t;obtain⟨m,a3⟩:=ao (k+1);rw[<-a3] at ag ⊢;by_cases T:m<xs.length
  ·have aZ:IntKind.i64.wrap ((m:Int) - 1)=(k:Int):=by rw[IntKind.wrap_i64];omega
   have bk:=cq (k:=m) F;have W:(m:Int)<(xs.length:Int):=F;obtain⟨j,D,bx⟩:=h;obtain⟨bZ,bK,bU,aT,aU,aV,au⟩:=D.q.get (k:=.i64) (yR T);obtain⟨b1,bL,bV,aW,aX,aY,av⟩:=D.q.get (k:=.i64) (yR (a:=xs) (k:=k) F);have R:=pv (aG _ (wg T)) (aG _ (wg (a:=xs) (k:=k) F));obtain⟨am,az⟩:=ao (bo xs m);obtain⟨ap,aA⟩:=ao (bo xs k);rw[<-az] at au R;rw[<-aA] at av R;by_cases P:am=ap
   ·have aD:eb prog .eql 57 (.ah (ar am)) (.ah (ar ap))=some (.bool true):=by rw[R,bY P]
    have H:bt v=false:=by
     cases bw:bt v with
     | false=>rfl
     | true=>
      have:=gC.1 bw;subst this;have:=D.q.pJ;rw[nU] at this;rw[this] at T;simp at T
    obtain⟨bG,a7,b5,_⟩:=D.q.from H (k:=.i64) (i:=m) (by simp;omega);have aw:jS xs m=xs.take m:=vS F ag;have h1:jS xs (m+1)=xs.take m:=by rw[tQ,ak (fun h=>h.elim (fun aw=>F) (fun B=>B (by rw[<-az,show m - 1=k by omega,<-aA];exact P))),aw,eT]
    simp[C,W,aZ,aT,aU,aV,au,aW,aX,aY,av,aD,a7];refine bz (xs.length - m - 1) (Nu bD v bG j xs m) ?_ ⟨V,V,V,m,xs,V,D,rfl,aG,h1.symm,F,fun u _=>rfl,rfl,fun b _=>rfl⟩;rintro i aK bT bP ⟨z,J,a0,q,o,t,Z,aH,I,G,bS,ai,bv,aC⟩;obtain⟨aK,rfl⟩:=fc z t J a0;clear z t J a0;obtain⟨g,bs⟩:=ao (i+1);rw[<-bs];obtain⟨b6,a8,aJ,_⟩:=Z.q.from H (k:=.i64) (i:=m) (by simp;omega);rw[a7] at a8;obtain rfl:=cg a8;have S:=aJ.len;rw[iT,cx,aH] at S;by_cases bQ:g<xs.length - m
    ·have X:(g:Int)<((xs.length - m:Nat) :Int):=F;have a9:IntKind.i64.wrap ((g:Int) - 1)=(i:Int):=by rw[IntKind.wrap_i64];omega
     have bb:=cq (k:=g) F;have bH:=cq (k:=q) F;obtain⟨b2,bM,bW,bc,bd,bf,aM⟩:=aJ.get (k:=.i64) (i:=g) (e:=ar (bo o (m+g))) (by rw[gB];exact yR F);obtain⟨b3,bN,bX,bg,bh,bi,aN⟩:=aJ.get (k:=.i64) (i:=i) (e:=ar (bo o (m+i))) (by rw[gB];exact yR F);have al:=I _ (wg (a:=o) (k:=m+g) F);have bC:=I _ (wg (a:=o) (k:=m+i) F);have Y:=pw al bC;have a4:=ai (m+g) F;have a5:=ai (m+i) F;have w:=tQ xs (m+g);rw[show m+g - 1=m+i by omega] at w;obtain⟨p,bm⟩:=ao (bo o (m+g));obtain⟨aq,bp⟩:=ao (bo o (m+i));rw[<-bm] at aM Y al a4;rw[<-bp] at aN Y a5;rw[<-a4,<-a5] at w;rw[show m+i+1=m+g by omega] at G;by_cases Q:p=aq
     ·have aE:eb prog .neq 57 (.ah (ar p)) (.ah (ar aq))=some (.bool false):=by rw[Y];simp[Q]
      rw[ak (fun h=>h.elim (fun aw=>F) (fun B=>B Q)),eT] at w;simp[S,X,a9,bc,bd,bf,aM,bg,bh,bi,aN,aE,bb];exact⟨F,V,V,V,q,o,V,Z,aH,I,by rw[w];exact G,F,fun u aF=>ai u F,bv,aC⟩
     ·have aE:eb prog .neq 57 (.ah (ar p)) (.ah (ar aq))=some (.bool true):=by rw[Y];simp[Q]
      rw[aj (.inr Q)] at w;obtain⟨b4,bE,aP,aQ,aR,bj,aS⟩:=Xg Z I (k:=q) (x:=p) F al;simp[S,X,a9,bc,bd,bf,aM,bg,bh,bi,aN,aE,bb,bH,aP,aQ];have bF:(o.take q).length=q:=by rw[cO];omega
      have bA:(o.set q p).take (q+1)=o.take q++[p]:=by
       rw[rA,aj F,qe,bF,aL F,show q+1 - q=1 by omega];simp
      refine⟨F,V,V,V,q+1,o.set q p,V,aR,by simp[aH],fun y bB=>?_,by rw[bA,w,G],F,fun u aF=>?_,F,fun b O=>(aS b O).trans (aC b O)⟩
      ·rcases nV bB with h | h
       ·exact I _ h
       ·rw[h];exact al
      ·have:=ai u F;unfold bo at this ⊢;rw[gA,br F,<-gA];exact this
    ·have X:¬ (g:Int)<((xs.length - m:Nat) :Int):=F;obtain⟨b7,bE,r,aP,aQ,aR,bj,aS,b8,bI⟩:=Qj Z (k:=q) F;simp[S,X,aP,aQ,aR];obtain⟨bO,bl,t,J⟩:=bx;have bu:l0.length<=j:=t.resolve_left (fun h=>by rw[h] at H;cases H);have bq:m+i+1=xs.length:=F;rw[bq] at G;refine ay _ _ ⟨j,by unfold eg;rw[<-G];exact bj,F,fun b O=>?_,.inr bu,by rw[aS,<-J,H]⟩;rw[bI b F,aC b F];exact bl b O
   ·have aD:eb prog .eql 57 (.ah (ar am)) (.ah (ar ap))=some (.bool false):=by rw[R,cC P]
    simp[C,W,aZ,aT,aU,aV,au,aW,aX,aY,av,aD,bk];refine⟨F,V,by simp[a3],rfl,fun u h1 B=>?_⟩;by_cases aF:u=m
    ·rw[aF,<-az,show m - 1=k by omega,<-aA];exact P
    ·exact ag u h1 F
  ·have W:¬ (m:Int)<(xs.length:Int):=F;have aB:eg xs=xs:=by
    unfold eg;rw[vS (aI _) (fun k h1 a2=>ag k h1 F),fC]
   simp[C,W];exact ay _ _ (by rw[aB];exact h)
theorem WE {l:aO} (h:bX l=true) :sN l=true:=by
 unfold bX at h;rw[bC] at h;exact LS fun k hk h1=>by
  have:=h k hk h1;have g:=oh (bo l k) (bo l (k - 1));omega
theorem Av (o:aG) (m:dz o) :aY 116 [.ah (au o)] (.i6 (c3 o)):=by
 apply bc func116 [db 0 7++[[10],[11],[12],[7,11],[8,11],[9]]];unfold c3;have S:=bU o.ay;have B:bx (.ad 32) (ai o.ay)=_:=cd _;have ae:(ai o.ay).cells=some [ai o.ay]:=by cases o.ay<;>rfl
 by_cases h1:4<o.ay.l.length
 ·have v:(4:Int)<(o.ay.l.length:Int):=F;rw[aj h1];simp[au,B,v];exact aE
 ·have v:¬ (4:Int)<(o.ay.l.length:Int):=F;rw[ak h1];simp[au,B,v];refine av (Sv o.ay m.idsZ m.len) (by simp[aq,S,U.aw]) ?_;cases w:sN o.ay.l with
  | false=>
   have g:bX o.ay.l=false:=by
    cases g:bX o.ay.l with
    | false=>rfl
    | true=>rw[WE g] at w;cases w
   simp[g];exact aE
  | true=>
   simp[B];refine yQ o.ay m.idsZ m.len fun ag W C=>?_
   have R:W[0]?=some (.q 11 (au o)):=by rw[C.same 0 V];rfl
   have H:=R;simp[au] at H;simp[H];refine GZ C m.idsZ m.len fun al X D=>?_
   have Q:X[0]?=some (.q 11 (au o)):=by rw[D.same 0 V];rfl
   have j:=Q;simp[au] at j;have J:=D.len;have I:=Qk w;cases g:bX o.ay.l with
   | false=>
    have T:¬ ((eg o.ay.l).length:Int)=(o.ay.l.length:Int):=fun h=>by
     have:=I.1 F;rw[g] at this;cases this
    simp[J,j,T];exact aE
   | true=>
    have heq:((eg o.ay.l).length:Int)=(o.ay.l.length:Int):=by have:=I.2 g;omega
    simp[J,j,heq];refine av (Cz o.en) rfl ?_;unfold mE;cases Y:eP o.en with
    | false=>
     simp;exact aE
    | true=>
     have P:((1000000000000:Int)<u o.eZ)<->¬ o.eZ.toNat<=1000000000000:=by unfold u;omega
     by_cases p:o.eZ.toNat<=1000000000000
     ·have t:¬ ((1000000000000:Int)<u o.eZ):=fun h=>P.1 h p
      have O:((500000003:Int)<=max (u o.e:Int) (u o.s))<->¬ (eW o.e&&eW o.s)=true:=by
       unfold eW u;simp only[bH,bC];omega
      have K:oH (a7 o.e) (a7 o.s)=some (.int .u32 (max (u o.e:Int) (u o.s))):=by
       show (if IntKind.u32=IntKind.u32 then some (U.int .u32 (if (u o.e:Int)<u o.s then u o.s else u o.e)) else none)=_;rw[aj rfl];congr 2;split<;>omega
      cases G:(eW o.e&&eW o.s) with
      | false=>
       have z:(500000003:Int)<=max (u o.e:Int) (u o.s):=O.2 (by rw[G];simp);simp[j,p,t,K,z];exact aE
      | true=>
       have z:¬ (500000003:Int)<=max (u o.e:Int) (u o.s):=fun h=>(O.1 h) G
       simp[j,t,K,z];refine av (PD o.act) rfl ?_;cases Z:hM o.act with
       | false=>
        simp[jT];exact aE
       | true=>
        simp[jT];exact aT (by rw[aj p]) rfl
     ·have t:(1000000000000:Int)<u o.eZ:=P.2 p;simp[j,p,t];exact aE
theorem sG (a b:bV) (z:cT a) (B:cT b) (O:a.l.length<=1000000) :aY 35 [ai a,ai b] (.bool (decide (a.l=b.l))):=by
 apply bc func35 [];simp[ai];by_cases h1:a.l.length=b.l.length
 ·have w:((a.l.length:Int)=b.l.length):=F;simp[h1];refine bz a.l.length (fun k o l=>o 0=b4 32 ar a/\o 1=b4 32 ar b/\o 5=.i6 k/\∀ g,g<k->a.l[g]?=b.l[g]?) ?_ (by simp[ai]);rintro k o l hk ⟨t,u,v,C⟩;obtain⟨s,rfl⟩:=gK t u v;clear t u v;simp;refine gp (fun h=>?_) (fun h=>?_)
  ·simp only[bC] at h;obtain⟨x,m,D⟩:=aP h;obtain⟨y,q,G⟩:=aP (l:=b.l) (k:=k) F;have H:=cq (k:=k) F;simp[m,q,bu (z x D),bu (B y G),aL,pw (z x D) (B y G)];by_cases j:x=y
   ·simp[j,H];refine⟨F,fun g I=>?_⟩;by_cases J:g=k
    ·subst J;rw[m,q,j]
    ·exact C g F
   ·simp[j];refine aT (ch U.bool (cC fun p=>j ?_).symm) rfl;rw[p,q] at m;exact (cg m).symm
  ·simp[h];have K:k=a.l.length:=by simp at h;omega
   refine aT (ch U.bool (bY ?_).symm) rfl;apply g5;intro g;by_cases I:g<a.l.length
   ·exact C g F
   ·rw[ea F,ea F]
 ·have w:¬ ((a.l.length:Int)=b.l.length):=F;simp[w];exact aT (by rw[cC (fun p=>h1 (by rw[p]))]) rfl
def bE (o:aG) :List B:=if c3 o=0 then fr (fj o) else List.replicate 32 0#8
theorem pM {o:aG} (h:c3 o=0) :o.ay.l.length<=4:=by
 unfold c3 at h;split at h
 ·cases h
 ·omega
theorem VI (o:aG) (q:dz o) :aY 110 [.ah (au o)] (.a1 [eF (bE o),.i6 (c3 o)]):=by
 apply bc func110 [];unfold bE;have h:=dV o;have w:(bT 32 (.int .u8 0) :ag)=(List.replicate 32 0#8).map a8:=by simp[bT]
 obtain⟨E,j⟩:=ao (au o);have m:E.length=11:=by rw[j];rfl
 have p:=DE o q;rw[<-j] at p h ⊢;simp[m,aL];refine av p (by simp[aq,U.aw,h]) ?_;by_cases g:c3 o=0
 ·have t:=DD o q (by have:=pM g;omega);rw[<-j] at t;have u:(fr (fj o)).length=32:=jE _;simp[g,m,aL];refine av t (by simp[aq,U.aw,h]) ?_;have v:ax (bT 32 (.int .u8 0)) 0 ((fr (fj o)).map a8)=(fr (fj o)).map a8:=cI (by rw[cx,u];rfl);simp[eF,u,v,aL];exact aT (by rw[aj g,g]) (by simp[U.aw,aq,jo a8 (fun _=>rfl)])
 ·simp[g,m,aL];refine av p (by simp[aq,U.aw,h]) ?_;simp[eF,w];exact aT (by rw[ak g];rfl) (by simp only[U.aw,aq,jo a8 (fun _=>rfl),kU])
theorem xb {l:ae} {b n:Nat} {g:ag} {k:Nat} {w:U} {kd:cV} (h:l[b]?=some (.q n g)) (j:g.length=n) (hk:g[k]?=some w) :
  ∃ p cs o,bO (.ad 1) (.ad 1 b 0 n n n) (.int kd (k:Int))=some p/\fV l p=some (cs,o)/\cs[o]?=some w:=by
 have m:k<n:=by rw[<-j];exact (aK.1 hk).1
 refine⟨.ptr b (0+k*1) n,g,0+k*1,?_,?_,by simpa using hk⟩
 ·simp only[bO,fA];rw[aj ⟨trivial,F,F⟩]
 ·simp only[fV,h,if_true]
theorem RR {n:Nat} (C:n<=1000000000) {l:ae} {K:cA} (h:∀ v l',b9 1 bR l l' v ([] :List B) (decide (n=0))->K v l') :cJ 219 [.af,.i6 n] l K:=by
 apply cW func219 [];have h1:¬((n:Int)<0):=F;have u:IntKind.i64.wrap (n:Int)=n:=wrap_i64 F F;have w:IntKind.i64.wrap (0:Int)=0:=rfl;by_cases g:n=0
 ·subst g;simp;exact h _ _ b9.nil
 have z:(0:Int)<n:=F;have o:n5 l 1 1 [.int .u8 0] .af (.i6 n)=some (.ad 1 l.length 0 n n (n*1),l++[.q (n*1) (cD [.int .u8 0] n)]):=by
  unfold n5 ht;simp only[fA];have j:=dF;rw[aj ⟨F,F,by rw[j];omega⟩,ak g,ak F,aj (by rw[j];omega)]
 have m:dK (.ad 1) (.ad 1 l.length 0 n n (n*1)) none (some (.i6 0)) none=some (.ad 1 l.length 0 0 n (n*1)):=by
  rw[sL,Bw,aj ⟨F,F⟩];simp[g]
 rw[nX] at o m;have p:0<n:=F;simp[h1,p,u,o,w,m];refine h _ (l++[.q n (cD [.int .u8 0] n)]) ⟨l.length,.ad _ 0 n n (cD [.int .u8 0] n) [] V (by rw[uJ];simp) rfl V F F rfl,V,fun b t=>aV t,.inr (aI _),?_⟩;simp[bt,g]
def hd (bs:aO) :List B:=bs.flatten
theorem HE {bs:aO} {k:Nat} {s:List B} (h:bs[k]?=some s) :hd (bs.take (k+1))=hd (bs.take k)++s:=by unfold hd;rw[eU,h];simp
theorem HD (bs:aO) (k:Nat) :(hd (bs.take k)).length<=(hd bs).length:=by
 conv=>rhs;rw[<-iV k bs]
 unfold hd;rw[jL,cr];omega
structure ko (l:ae) (w:U) (s:List B) :Prop where
 len:bx (.ad 1) w=some (.i6 s.length)
 G0:∀ l',l.length<=l'.length->(∀ b,b<l.length->l'[b]?=l[b]?)->cG l' 1 w=some ((s.map bR).flatten,s.length)
theorem ux {l l1:ae} {w:U} {s:List B} {j:Bool} (h:b9 1 bR l l1 w s j) :ko l1 w s:=⟨h.len,fun m h1 g=>(h.frame h1 g).contents⟩
theorem ko.frame {l l1:ae} {w:U} {s:List B} (h:ko l w s) (p:l.length<=l1.length) (m:∀ b,b<l.length->l1[b]?=l[b]?) :ko l1 w s:=
 ⟨h.len,fun o h1 g=>h.G0 o F fun b j=>by rw[g b F];exact m b j⟩
theorem JX {l:ae} {b:Nat} {x:B} (h:l[b]?=some (.q 1 [a8 x])) :ko l (.ad 1 b 0 1 1 1) [x]:=by have:=a2 h;exact⟨rfl,fun j h1 g=>by have:=g b this;rw[h] at this;simp[cG,this,bR]⟩
structure Nt (l:ae) (X:U) (bs:aO) (k:Nat) (sgZ:aR) (l1:ae) :Prop where
 HV:sgZ 25=X
 Ci:sgZ 26=.i6 bs.length
 yK:sgZ 27=.i6 k
 uw:∃ v,sgZ 6=v/\b9 1 bR l l1 v (hd (bs.take k)) (decide ((hd bs).length=0))
theorem G1 {l:ae} {b n:Nat} {G:ag} {bs:aO} (ar:l[b]?=some (.q n G)) (aH:G.length=n) (ay:bs.length=n)
  (aD:∀ (k:Nat) (w:U) (s:List B),G[k]?=some w->bs[k]?=some s->ko l w s) (az:(hd bs).length<=1000000000) (aL:n<=1000000000)
  {K:cA} (ax:∀ v l',b9 1 bR l l' v (hd bs) (decide ((hd bs).length=0))->K v l') :
  cJ 172 [.ad 1 b 0 n n n] l K:=by
 apply cW func172 [];have aA:=a2 ar;have J:∀ l',l.length<=l'.length->(∀ b,b<l.length->l'[b]?=l[b]?)->∀ k,k<n->∃ w s p cs o,G[k]?=some w/\bs[k]?=some s/\ko l' w s/\bO (.ad 1) (.ad 1 b 0 n n n) (.i6 (k:Int))=some p/\fV l' p=some (cs,o)/\cs[o]?=some w:=by
  intro l' h1 am k hk;obtain⟨w,D,_⟩:=aP (l:=G) (k:=k) F;obtain⟨s,m,_⟩:=aP (l:=bs) (k:=k) F;obtain⟨p,cs,o,t,u,z⟩:=xb (kd:=.i64) (l:=l') (by rw[am b aA];exact ar) aH D;exact⟨w,s,p,cs,o,D,m,(aD k w s D m).frame h1 am,t,u,z⟩
 obtain⟨H,ap⟩:=ao (U.ad 1 b 0 n n n);have aq:bx (.ad 1) H=some (.i6 bs.length):=by rw[ap,ay];rfl
 rw[<-ap] at J ⊢;simp[aq];refine bz n (fun k g I=>g 0=H/\g 9=H/\g 10=.i6 bs.length/\g 11=.i6 k/\g 3=.i6 (hd (bs.take k)).length/\I=l) ?_ ?_
 ·rintro k g I hk ⟨T,al,W,X,aj,rfl⟩;obtain⟨g,rfl⟩:=gx T aj al W X;clear T aj al W X;simp;by_cases h:k<bs.length
  ·obtain⟨w,s,p,cs,o,D,m,Q,t,u,z⟩:=J I (aI _) (fun _ _=>rfl) k F;have C:=HE m;have P:=HD bs (k+1);rw[C,cr] at P;have aG:IntKind.i64.wrap (((hd (bs.take k)).length:Int)+s.length)=((hd (bs.take k)).length:Int)+s.length:=wrap_i64 F F;have R:IntKind.i64.wrap ((k:Int)+1)=k+1:=wrap_i64 F F;have aB:¬(((hd (bs.take k)).length:Int)+s.length<0):=F;have aE:=Q.len;simp[h,t,u,z,aE,aG,aB,R,C];omega
  ·have O:k=bs.length:=F;subst O;rw[fC];simp;refine RR az ?_;intro v l j;simp[aq];refine bz bs.length (Nt I H bs) ?_ ⟨V,V,V,v,V,by simpa [hd] using j⟩;rintro k g av hk ⟨Y,Z,ai,w,ak,j⟩;obtain⟨g,rfl⟩:=fc ak Y Z ai;clear ak Y Z ai;simp;by_cases h:k<bs.length
   ·obtain⟨y,s,p,cs,o,D,m,Q,t,u,z⟩:=J av j.le j.same k F;have C:=HE m;have P:=HD bs (k+1);rw[C,cr] at P;have R:IntKind.i64.wrap ((k:Int)+1)=k+1:=wrap_i64 F F;have aF:=dF;obtain⟨aJ,aM,aw,S,aK⟩:=j.app (by_:=1) (x:=y) (xs:=s) (Q.G0 av (aI _) fun _ _=>rfl) (by simp[bR]) F F (by rw[aF];omega);simp[h,t,u,z,aw];refine b2.bq ?_;simp[h,R];refine⟨V,V,V,aJ,V,?_⟩;rw[C];have aC:(decide ((hd bs).length=0)&&s.isEmpty)=decide ((hd bs).length=0):=by
     by_cases au:(hd bs).length=0
     ·have:s=[]:=ic.1 F;simp[au,this]
     ·simp[au]
    rw[aC] at S;exact S
   ·have O:k=bs.length:=F;subst O;simp;rw[fC] at j;exact ax _ _ j
 ·simp[hd]
def eo (o:aG) :aG:={ o with e:=0#32,s:=0#32 }
theorem MV (o:aG) (p:dz o) (hk:c3 (eo o)=0) {l:ae} {K:cA} (W:∀ w l',b9 1 bR l l' w (eH o) false->K (.a1 [w,.i6 0]) l') :
  cJ 117 [.ah (au o)] l K:=by
 apply cW func117 [db 0 4++[[5],[6],[7]]++db 9 4++[[4,12,11,7,0],[8,12,11,0]]];have ap:=dF;have bK:=gD o.en.toNat
 have bL:=gD o.eZ.toNat
 have bM:=ws p.idsZ;have bp:dz (eo o):=⟨p.idsZ,p.len,p.val,p.key⟩
 have aN:=Av (eo o) bp;rw[hk] at aN;have bF:o.ay.l.length<=4:=pM (o:=eo o) hk;have aY:bX o.ay.l=true:=by
  unfold c3 at hk;have I:(eo o).ay=o.ay:=rfl;rw[I,ak F] at hk;cases j:bX o.ay.l with
  | true=>rfl
  | false=>rw[j] at hk;cases hk
 have bz:(BitVec.setWidth 64 o.en).toNat=o.en.toNat:=by rw[eS];exact dR (by have:=o.en.isLt;omega)
 have bl:=dV (eo o);have bo:l.length<(l++[am.q 11 (au (eo o))]).length:=V;have bi:(l++[am.q 11 (au (eo o))])[l.length]?=some (.q 11 (au (eo o))):=V;simp[au];refine av aN (show aq [U.ah (au (eo o))]=true by simp[aq,U.aw,bl]) ?_;simp;refine Zc o.ay p.idsZ F aY fun aA g h1=>?_
 have ag:g[l.length]?=some (.q 11 (au (eo o))):=by rw[h1.same _ bo];exact bi
 have aQ:l.length<g.length:=by have:=h1.le;simp at this;omega
 have br:=ag;simp[au,eo] at br;have bu:(g++[am.q 1 [U.int .u8 111]])[l.length]?=some (.q 11 (au (eo o))):=by rw[aV aQ];exact ag
 have bI:l.length<(g++[am.q 1 [U.int .u8 111]]).length:=by simp;omega
 have aX:=bu;simp[au,eo] at aX;simp[aX];have bw:(g++[am.q 1 [U.int .u8 111],am.q 1 [U.int .u8 (u o.act.kind)]])[l.length]?=some (.q 11 (au (eo o))):=by rw[aV aQ];exact ag
 have bv:(g++[am.q 1 [U.int .u8 111],am.q 1 [U.int .u8 (u o.act.kind)]])[g.length]?=some (.q 1 [.int .u8 111]):=V;have bx:(g++[am.q 1 [U.int .u8 111],am.q 1 [U.int .u8 (u o.act.kind)]])[g.length+1]?=some (.q 1 [.int .u8 (u o.act.kind)]):=V;have z:(g++[am.q 1 [U.int .u8 111],am.q 1 [U.int .u8 (u o.act.kind)]]).length=g.length+2:=V;refine sW _ fun aB ar m=>?_
 rw[bz] at m;have aO:=m.le;rw[z] at aO;have aR:ar[l.length]?=some (.q 11 (au (eo o))):=by rw[m.same _ (by rw[z];omega)];exact bw
 have aF:ar[g.length]?=some (.q 1 [.int .u8 111]):=by rw[m.same _ (by rw[z];omega)];exact bv
 have aH:ar[g.length+1]?=some (.q 1 [.int .u8 (u o.act.kind)]):=by rw[m.same _ (by rw[z];omega)];exact bx
 have aS:=aR;simp[au,eo] at aS;simp[aS,aF,aH];refine sW _ fun aC t j=>?_
 have aP:=j.le;have cm:t[l.length]?=some (.q 11 (au (eo o))):=by rw[j.same _ F];exact aR
 have aJ:t[g.length]?=some (.q 1 [.int .u8 111]):=by rw[j.same _ F];exact aF
 have aK:t[g.length+1]?=some (.q 1 [.int .u8 (u o.act.kind)]):=by rw[j.same _ F];exact aH
 have aT:=cm;simp[au,eo] at aT;simp[aT,aJ,aK,h1.cells,m.cells,j.cells,ax];obtain⟨L,Q⟩:=ao (t++[am.q 5 [.ad 1 g.length 0 1 1 1,aB,aA,aC,.ad 1 (g.length+1) 0 1 1 1]]);have X:t.length<=L.length:=by rw[Q];simp
 have B:∀ b,b<t.length->L[b]?=t[b]?:=fun b J=>by rw[Q,aV J]
 have bf:L[t.length]?=some (.q 5 [.ad 1 g.length 0 1 1 1,aB,aA,aC,.ad 1 (g.length+1) 0 1 1 1]):=by rw[Q];simp
 rw[<-Q];have a0:ko L (.ad 1 g.length 0 1 1 1) [111#8]:=JX (by rw[B _ F];exact aJ);have a6:ko L (.ad 1 (g.length+1) 0 1 1 1) [o.act.kind]:=JX (by rw[B _ F];exact aK);have a3:ko L aB (dB o.en.toNat):=((ux m).frame aP j.same).frame X B;have a4:ko L aA (nz o.ay.l):=((((ux h1).frame (l1:=g++[am.q 1 [U.int .u8 111],am.q 1 [U.int .u8 (u o.act.kind)]]) (by rw[z];omega) (fun b J=>aV J)).frame (by rw[z];exact aO) m.same).frame aP j.same).frame X B;have a5:ko L aC (dB o.eZ.toNat):=(ux j).frame X B;have aW:L[l.length]?=some (.q 11 (au (eo o))):=by rw[B _ F];exact cm
 obtain⟨M,Y⟩:=ao (hd [[111#8],dB o.en.toNat,nz o.ay.l,dB o.eZ.toNat,[o.act.kind]]);have Z:M=[111#8]++dB o.en.toNat++nz o.ay.l++dB o.eZ.toNat++[o.act.kind]:=by rw[Y];simp[hd]
 have bE:M.length<=40000:=by rw[Z];simp only[cr,dE,hq];omega
 have bh:M.length≠0:=by rw[Z];simp
 refine G1 (bs:=[[111#8],dB o.en.toNat,nz o.ay.l,dB o.eZ.toNat,[o.act.kind]]) bf rfl rfl ?_ (by rw[<-Y];omega) F fun bD az P=>?_
 ·intro k w s G O;rcases k with _ | _ | _ | _ | _ | k
  ·obtain rfl:=cg G;obtain rfl:=cg O;exact a0
  ·obtain rfl:=cg G;obtain rfl:=cg O;exact a3
  ·obtain rfl:=cg G;obtain rfl:=cg O;exact a4
  ·obtain rfl:=cg G;obtain rfl:=cg O;exact a5
  ·obtain rfl:=cg G;obtain rfl:=cg O;exact a6
  ·cases G
 rw[<-Y,cC bh] at P;have bg:l.length<=L.length:=F;have aL:b9 1 bR l az bD M false:=P.base bg fun b J=>by
  have bj:b<g.length:=F;rw[B b F,j.same b F,m.same b (by rw[z];omega),aV bj,h1.same b (by simp;omega),aV J]
 have aU:az[l.length]?=some (.q 11 (au (eo o))):=by rw[P.same _ F];exact aW
 have bG:l.length<az.length:=a2 aU;have ai:=aU;simp[au,eo] at ai;have C:eH o=M++(if o.act.kind=1#8 then [] else hj (ej o.act.key))++(if o.act.kind=4#8 then hl o.act.val else []):=by rw[Z];rfl
 have bA:=uY (ej o.act.key);rw[m3] at bA;have bm:=p.key;have bN:=xy o.act.val;have bO:=p.val.2.2;have bk:rW (.str o.act.key)=some (.bn 1 ((ej o.act.key).map bR)):=by
  show some (U.bn 1 (o.act.key.map fun b=>[hu b]))=_;rw[Aj]
 by_cases H:o.act.kind=1#8
 ·have I:(u o.act.kind:Int)=1:=(g4 o.act.kind).2 H;have v:¬ o.act.kind=4#8:=by rw[H];decide
  rw[aj H,ak v,eT,eT] at C;simp[ai,I];exact W _ _ (by rw[C];exact aL)
 ·have I:¬ (u o.act.kind:Int)=1:=fun h=>H ((g4 o.act.kind).1 h)
  rw[ak H] at C;simp[ai,I,bk];refine MR (some (ej o.act.key)) (by simpa [m3] using bm) (by simp[cG]) V (fun l' _ _=>by simp[cG]) fun aZ fF D=>?_
  obtain⟨bU,bB,aD,R,_⟩:=(aL.frame D.le D.same).app (by_:=1) (x:=aZ) (xs:=hj (ej o.act.key)) D.contents (by simp[bR]) F F (by rw[ap];omega);have a9:=(P.frame D.le D.same).app (by_:=1) (x:=aZ) (xs:=hj (ej o.act.key)) D.contents (by simp[bR]) F F (by rw[ap];omega);obtain⟨bV,bS,aE,bb,_⟩:=a9;rw[aD] at aE;obtain⟨rfl,rfl⟩:=vj (cg aE);have bt:bB[l.length]?=some (.q 11 (au (eo o))):=by rw[bb.same _ F];exact aW
  have al:=bt;simp[au,eo] at al;simp[aD];refine b2.bq ?_;simp only[ru] at R;by_cases v:o.act.kind=4#8
  ·have S:(u o.act.kind:Int)=4:=(rh o.act.kind).2 v;rw[aj v] at C;have aM:hM o.act=true:=by
    cases h:hM o.act with
    | true=>rfl
    | false=>
     unfold c3 at hk;have bc:(eo o).ay=o.ay:=rfl;have bd:(eo o).act=o.act:=rfl;rw[bc,ak F,aY,aj rfl] at hk;unfold mE at hk;rw[bd,h] at hk;simp at hk
   rw[vy v,bH] at aM;simp[al,S];refine Zj o.act.val p.val aM.2 fun bC bP T=>?_
   obtain⟨bT,bQ,a7,a8,_⟩:=(R.frame T.le T.same).app (by_:=1) (x:=bC) (xs:=hl o.act.val) T.contents (by simp[bR]) F F (by rw[ap];simp only[cr];omega);simp[a7];refine b2.bq ?_;simp;exact W _ _ (by rw[C];exact a8)
  ·have S:¬ (u o.act.kind:Int)=4:=fun h=>v ((rh o.act.kind).1 h)
   rw[ak v,eT] at C;simp[al,S];exact W _ _ (by rw[C];exact R)
theorem Ge {o:aG} (h:c3 o=0) :c3 (eo o)=0:=by
 unfold c3 at h ⊢;have g:(eo o).ay=o.ay:=rfl;rw[g];have p:mE o=true->mE (eo o)=true:=by
  unfold mE eo;simp only[bH];rintro⟨a,b,c,d,e⟩;exact⟨a,b,c,by decide,by decide⟩
 split at h
 ·cases h
 ·rename_i h1;rw[ak h1];split at h
  ·rename_i j;rw[aj j];split at h
   ·rename_i m;rw[aj (p m)]
   ·cases h
  ·cases h
theorem QT {o:aG} (h:c3 o=0) :hM o.act=true:=by
 unfold c3 at h;split at h
 ·cases h
 ·split at h
  ·split at h
   ·rename_i g;unfold mE at g;simp only[bH] at g;exact g.2.2.1
   ·cases h
  ·cases h
theorem CF {s:List UInt8} (h:hA s=true) :s.length<=20:=by unfold hA at h;simp only[bH,bC] at h;omega
theorem Hq {o:aG} (C:dz o) (h:c3 o=0) :(fj o).length<=1000:=by
 have h1:=gD o.en.toNat
 have G:=gD o.eZ.toNat
 have H:=ws C.idsZ;have B:=uY (ej o.act.key);rw[m3] at B;have I:=xy o.act.val;have K:=pM h;have J:=gD o.e.toNat
 have O:=gD o.s.toNat
 have j:=QT h;have D:(if o.act.kind=1#8 then [] else hj (ej o.act.key)).length<=100:=by
  split
  ·simp
  ·rename_i z;have:o.act.key.length<=20:=by
    by_cases q:o.act.kind=2#8
    ·rw[Bi q,bH] at j;exact CF j.1
    ·by_cases t:o.act.kind=3#8
     ·rw[Bj t,bH] at j;exact CF j.1
     ·by_cases m:o.act.kind=4#8
      ·rw[vy m,bH] at j;exact CF j.1
      ·rw[Bk z q t m] at j;cases j
   omega
 have F:(if o.act.kind=4#8 then hl o.act.val else []).length<=100:=by
  split
  ·rename_i m;rw[vy m,bH] at j;have g:=j.2;have:o.act.val.text.length<=30:=by
    by_cases v:o.act.val.kind=1#8
    ·rw[ET v] at g;simp only[bH,bC] at g;rw[g.2];simp
    ·by_cases w:o.act.val.kind=2#8
     ·rw[EU w] at g;simp only[bH,bC] at g;rw[g.2.2];simp
     ·by_cases p:o.act.val.kind=3#8
      ·by_cases u:o.act.val.text.length<=30
       ·exact u
       ·rw[MN p] at g;unfold oS at g;rw[ak u] at g;simp only[bH,mi] at g;have:=g.1;rw[p] at this;exact bP this (by decide)
      ·rw[EV v w p] at g;cases g
   omega
  ·simp
 unfold fj eH opHead;simp only[cr,dE,hq];omega
theorem Y9 (o:aG) (z:dz o) (hk:c3 o=0) {l:ae} {K:cA} (X:∀ w l',b9 1 bR l l' w (fj o) false->K (.a1 [w,.i6 0]) l') :
  cJ 149 [.ah (au o)] l K:=by
 apply cW func149 [db 0 5++db 6 4++[[5,9,8]]];have O:=Av o z;rw[hk] at O;have ai:=dV o;have az:=Hq z hk;have ap:(BitVec.setWidth 64 o.e).toNat=o.e.toNat:=by rw[eS];exact dR (by have:=o.e.isLt;omega)
 have ar:(BitVec.setWidth 64 o.s).toNat=o.s.toNat:=by rw[eS];exact dR (by have:=o.s.isLt;omega)
 have aj:l.length<(l++[am.q 11 (au o)]).length:=V;have ag:(l++[am.q 11 (au o)])[l.length]?=some (.q 11 (au o)):=V;simp[au];refine av O (show aq [U.ah (au o)]=true by simp[aq,U.aw,ai]) ?_;simp;refine MV o z (Ge hk) fun D R h1=>?_
 have B:R[l.length]?=some (.q 11 (au o)):=by rw[h1.same _ aj];exact ag
 have ak:l.length<R.length:=a2 B;have P:=B;simp[au] at P;simp[P];refine sW _ fun G ay h=>?_
 rw[ap] at h;have al:ay[l.length]?=some (.q 11 (au o)):=by rw[h.same _ ak];exact B
 have Q:=al;simp[au] at Q;simp[Q];refine sW _ fun H j g=>?_
 rw[ar] at g;simp[h1.cells,h.cells,g.cells,ax];obtain⟨L,m⟩:=ao (j++[am.q 3 [D,G,H]]);have u:j.length<=L.length:=by rw[m];simp
 have p:∀ b,b<j.length->L[b]?=j[b]?:=fun b v=>by rw[m,aV v]
 have Y:L[j.length]?=some (.q 3 [D,G,H]):=by rw[m];simp
 rw[<-m];have S:ko L D (eH o):=(((ux h1).frame h.le h.same).frame g.le g.same).frame u p;have T:ko L G (dB o.e.toNat):=((ux h).frame g.le g.same).frame u p;have W:ko L H (dB o.s.toNat):=(ux g).frame u p;have J:hd [eH o,dB o.e.toNat,dB o.s.toNat]=fj o:=by simp[hd,fj]
 have Z:(fj o).length≠0:=by unfold fj eH opHead;simp
 refine G1 (bs:=[eH o,dB o.e.toNat,dB o.s.toNat]) Y rfl rfl ?_ (by rw[J];omega) F fun aB aA I=>?_
 ·intro k w s t C;rcases k with _ | _ | _ | k
  ·obtain rfl:=cg t;obtain rfl:=cg C;exact S
  ·obtain rfl:=cg t;obtain rfl:=cg C;exact T
  ·obtain rfl:=cg t;obtain rfl:=cg C;exact W
  ·cases t
 rw[J,cC Z] at I;simp;refine X _ _ (I.base ?_ fun b v=>?_)
 ·have:=h.le;have:=g.le;omega
 ·have:=h.le;have:=g.le;rw[p b F,g.same b F,h.same b F,h1.same b (by simp;omega),aV v]
theorem Y8 (o:aG) (p:dz o) (hk:¬ c3 o=0) :aY 149 [.ah (au o)] (.a1 [.af,.i6 (c3 o)]):=by
 apply bc func149 [db 0 5++db 6 4++[[5,9,8]]];have h:=Av o p;have j:=dV o;obtain⟨E,g⟩:=ao (au o);have m:E.length=11:=by rw[g];rfl
 rw[<-g] at h j ⊢;simp[m,aL];refine av h (by simp[aq,U.aw,j]) ?_;simp[hk];exact aE
theorem u2 (o:aG) (j:dz o) :aY 97 [.ah (au o)] (.a1 [eF (bE o),.i6 (c3 o)]):=by
 apply bc func97 [];unfold bE;have t:=dV o;have C:(bT 32 (.int .u8 0) :ag)=(List.replicate 32 0#8).map a8:=by simp[bT]
 obtain⟨E,h⟩:=ao (au o);have m:E.length=11:=by rw[h];rfl
 by_cases g:c3 o=0
 ·have D:=Hq j g;have v:(fr (fj o)).length=32:=jE _;rw[<-h];simp[m,aL];rw[h];refine Y9 o j g fun F w h1=>?_
  rw[<-h] at h1;have p:w[1]?=some (.q 32 (bT 32 (.int .u8 0))):=by rw[h1.same 1 V];rfl
  simp;refine hg (X9 (some (fj o)) (by simp;omega)) (.cons (h1.mV (fun _=>rfl) (some (fj o)) rfl rfl) .nil) (by simp[U.flat,ky,eF,tW a8 (fun _=>rfl)]) ?_;have B:ax (bT 32 (.int .u8 0)) 0 ((fr (fj o)).map a8)=(fr (fj o)).map a8:=cI (by rw[cx,v];rfl);have z:(w.set 1 (am.q 32 ((fr (fj o)).map a8)))[1]?=some (.q 32 ((fr (fj o)).map a8)):=b1 (a2 p);simp[p,eF,v,B,z,aL];exact aT (by rw[aj g,g]) (by simp[U.aw,aq,jo a8 (fun _=>rfl)])
 ·have u:=Y8 o j g;rw[<-h] at u t ⊢;simp[m,aL];refine av u (by simp[aq,U.aw,t]) ?_;simp[g,eF,C];exact aT rfl (by simp only[U.aw,aq,kU])
end Op
end Go.bh
namespace Go.bh
open Go Go.Proofs Go.Proofs.Tryz Go.RowKit
namespace Op
open ca
theorem Mz {P:bj} {t:aC} {ts:List aC} {cs:ag} (j:P.underlying t=some .string) (h:c0 P (t::ts) cs) :∃ s cs',cs=.str s::cs'/\c0 P ts cs':=by
 cases h
 case str s cs' g m h=>exact⟨_,_,rfl,h⟩
 all_goals (exfalso;simp_all;done)
theorem ER {ts:List aC} {cs:ag} (h:c0 prog (5::ts) cs) :∃ (x:B) (cs' : ag),cs=a8 x::cs'/\c0 prog ts cs':=by
 obtain⟨k,g,rfl,h1,j,m⟩:=m4 (k:=.u8) bg h;have o:(0:Int)<=k:=h1;have p:k<=255:=j;refine⟨BitVec.ofNat 8 k.toNat,g,?_,m⟩;have:((BitVec.ofNat 8 k.toNat).toNat:Int)=k:=by
  rw[fe,dR F];omega
 simp[a8,u];omega
theorem EO {ts:List aC} {cs:ag} (h:c0 prog (57::ts) cs) :∃ (x:List B) (cs' : ag),cs=x.map a8++cs'/\x.length=32/\c0 prog ts cs':=by have h1:=Yz (e:=5) (n:=32) bg h;exact My bg 32 h1
theorem xv {ts:List aC} {cs:ag} (h:c0 prog (23::ts) cs) :∃ (s:bV) (cs' : ag),cs=ai s::cs'/\cT s/\c0 prog ts cs':=by
 obtain⟨s,cs',rfl,_,h1,g⟩:=xw (e:=57) (z:=32) (enc:=ar) (Q:=fun x=>x.length=32) bg bg (fun r m=>by
  obtain⟨x,cs',rfl,o,j⟩:=EO m;rw[sT j,eT];exact⟨x,rfl,o⟩) h
 exact⟨s,cs',rfl,h1,g⟩
theorem EQ {ts:List aC} {cs:ag} (h:c0 prog (46::ts) cs) :∃ (x:D) (cs' : ag),cs=a7 x::cs'/\c0 prog ts cs':=by
 obtain⟨k,g,rfl,h1,j,m⟩:=m4 (k:=.u32) bg h;have o:(0:Int)<=k:=h1;have p:k<=4294967295:=j;refine⟨BitVec.ofNat 32 k.toNat,g,?_,m⟩;have:((BitVec.ofNat 32 k.toNat).toNat:Int)=k:=by
  rw[fe,dR F];omega
 simp[a7,u];omega
structure vw (o:aG) :Prop where
 idsZ:cT o.ay
 gZ:-9223372036854775808<=o.act.val.num
 qR:o.act.val.num<9223372036854775808
theorem YF {ts:List aC} {cs:ag} (h:c0 prog (49::ts) cs) :∃ (v:gV) (cs' : ag),cs=[a8 v.kind,.i6 v.num,c1 v.bits,.str v.text]++cs'/\(-9223372036854775808<=v.num/\v.num<9223372036854775808)/\c0 prog ts cs':=by have h1:=nL (fs:=[5,2,47,9]) bg h;obtain⟨k,_,rfl,g⟩:=ER h1;obtain⟨n,_,rfl,p,q,j⟩:=m4 (k:=.i64) bg g;obtain⟨b,_,rfl,m⟩:=MA j;obtain⟨s,_,rfl,o⟩:=Mz bg m;have t:n<=9223372036854775807:=q;exact⟨⟨k,n,b,s⟩,_,rfl,⟨p,by show n<9223372036854775808;omega⟩,o⟩
theorem Yy {ts:List aC} {cs:ag} (h:c0 prog (51::ts) cs) :∃ (a:Act) (cs' : ag),cs=[a8 a.kind,.str a.key,a8 a.val.kind,.i6 a.val.num,c1 a.val.bits,.str a.val.text]++cs'/\(-9223372036854775808<=a.val.num/\a.val.num<9223372036854775808)/\c0 prog ts cs':=by have h1:=nL (fs:=[5,9,49]) bg h;obtain⟨k,_,rfl,g⟩:=ER h1;obtain⟨s,_,rfl,j⟩:=Mz bg g;obtain⟨p,_,rfl,o,m⟩:=YF j;exact⟨⟨k,s,p⟩,_,rfl,o,m⟩
theorem EP {ts:List aC} {cs:ag} (h:c0 prog (55::ts) cs) :∃ (o:aG) (cs' : ag),cs=au o++cs'/\vw o/\c0 prog ts cs':=by have h1:=nL (fs:=[46,23,47,51,53]) bg h;obtain⟨a,_,rfl,j⟩:=EQ h1;obtain⟨z,_,rfl,w,m⟩:=xv j;obtain⟨n,_,rfl,p⟩:=MA m;obtain⟨c,_,rfl,g,q⟩:=Yy p;have t:=nL (fs:=[46,46]) bg q;obtain⟨x,_,rfl,u⟩:=EQ t;obtain⟨y,cs',rfl,v⟩:=EQ u;exact⟨⟨a,z,n,c,x,y⟩,cs',by simp[au],⟨w,g.1,g.2⟩,v⟩
end Op
end Go.bh
namespace Go.bh
open Go Go.Proofs Go.Proofs.Tryz
open ca Op
def w0 (a n:Nat) :Nat->Nat
 | 0=>1
 | k+1=>match Nat.beq (n / 2 ^ (63 - k) % 2) 1 with
  | true=>((w0 a n k) ^ 2 % 1000000007)*a % 1000000007
  | false=>(w0 a n k) ^ 2 % 1000000007
theorem Ds (a n:Nat) (j:n<2 ^ 64) :∀ k,k<=64->w0 a n k=ez a (n / 2 ^ (64 - k))
 | 0,_=>by
  have:n / 2 ^ (64 - 0)=0:=qf j;rw[this];rfl
 | k+1,hk=>by
  have o:=Ds a n j k F;have g:=H1 n k F;have e:64 - (k+1)=63 - k:=F;rw[e];unfold w0;rw[o,Nat.pow_two,J6];split
  ·rename_i h;have h1:=mo h;rw[J5,g,h1]
  ·rename_i h;have h1:n / 2 ^ (63 - k) % 2≠1:=fun m=>by rw[m] at h;cases h
   rw[g];congr 1;omega
namespace Op
open ca
section
variable {alZ:Type} {z:Nat} {enc:alZ->ag}
theorem JM {l:ae} {v:U} {j k:Nat} {g:List alZ} {zr:ag} (B:zr.length=z) (h:aM z l v j (g.map enc)) (hk:k<g.length) :
  ∃ C o r,dK (.ad z) v (some (.i6 (k:Int))) none none=some C/\pg zr l C=some o/\dK (.ad z) v none (some (.i6 (k:Int))) none=some r ∧
   aM z o r j ((g.take k).map enc)/\bt r=false/\o.length=l.length/\∀ b,b≠j->o[b]?=l[b]?:=by
 generalize m:g.map enc=J at h;cases h with
 | nil j=>rw[nU] at m;subst m;simp at hk
 | ad j n cap p cs J u am Z w Q S W=>
  subst m;have aq:g.length=n:=by simpa using Z
  have K:gW (.i6 (k:Int)) n=some k:=by
   show (if 0<=(k:Int)/\(k:Int)<=(n:Int) then some (k:Int).toNat else none)=some k;rw[aj ⟨F,F⟩];simp
  have O:gW (.i6 (k:Int)) cap=some k:=by
   show (if 0<=(k:Int)/\(k:Int)<=(cap:Int) then some (k:Int).toNat else none)=some k;rw[aj ⟨F,F⟩];simp
  have D:e6 n cap (some (.i6 (k:Int))) none none=some (k,n,cap):=by
   show (match gW (.i6 (k:Int)) n with | none=>none | some l=>some (l,n,cap))=_;rw[K]
  have G:e6 n cap none (some (.i6 (k:Int))) none=some (0,k,cap):=by
   show (match gW (.i6 (k:Int)) cap with | none=>none | some h=>some (0,h,cap))=_;rw[O]
  have T:¬ cap=k:=F;have R:¬ cap=0:=F;have X:j<l.length:=a2 u;have Y:k*z<=n*z:=cn _ F;have ao:n*z<=cap*z:=cn _ Q;have ai:(cD zr (n - k)).length=(n - k)*z:=by rw[uJ,B]
  have ap:k*z+(n - k)*z=n*z:=by rw[<-eV];congr 1;omega
  refine⟨.ad z j (k*z) (n - k) (cap - k) p,l.set j (.q p (ax cs (k*z) (cD zr (n - k)))),.ad z j 0 k cap p,?_,?_,?_,?_,rfl,V,fun b P=>by rw[br (fun h=>P h.symm)]⟩
  ·rw[sL,D];simp[T]
  ·unfold pg;simp only;rw[ak F];simp[u,B]
  ·rw[sL,G];simp[R]
  ·refine .ad j k cap p _ _ (b1 X) (by rw[oQ F,ai];omega) (by simp;omega) (fun e m=>?_) F S ?_
   ·obtain⟨y,t,rfl⟩:=cy.1 m;exact w _ (te (gh t))
   ·unfold ax;rw[gM,ig (by rw[cO];omega),na,Nat.min_self];have H:cs.take (k*z)=(cs.take (n*z)).take (k*z):=by rw[na,iX Y]
    have I:g.map enc=(g.take k).map enc++(g.drop k).map enc:=by rw[<-c5,iV]
    have al:((g.take k).map enc).flatten.length=k*z:=by
     rw[hO (z:=z) (fun e m=>by obtain⟨y,t,rfl⟩:=cy.1 m;exact w _ (te (gh t)))];rw[cx,cO,iX F]
    rw[H,W,I,jL,ig F,aL F]
theorem JN {g:List alZ} (t:∀ y∈g,(enc y).length=z) (k:Nat) (hk:k<=g.length) {n:Nat} (w:g.length=n) {cs:ag} (j:cs.take (n*z)=(g.map enc).flatten) (v:n*z<=cs.length) :
  cs.take (k*z)=((g.take k).map enc).flatten/\(cs.drop (k*z)).take (n*z - k*z)=((g.drop k).map enc).flatten:=by
 have p:k*z<=n*z:=cn _ F;have h:g.map enc=(g.take k).map enc++(g.drop k).map enc:=by rw[<-c5,iV]
 have u:((g.take k).map enc).flatten.length=k*z:=by
  rw[hO (z:=z) (fun e o=>by obtain⟨y,q,rfl⟩:=cy.1 o;exact t _ (gh q))];rw[cx,cO,iX F]
 have m:cs.take (k*z)=(cs.take (n*z)).take (k*z):=by rw[na,iX p]
 constructor
 ·rw[m,j,h,jL,ig F,aL F]
 ·rw[<-rv,j,h,jL,nS F,qc F,iD]
theorem zz {l:ae} {v:U} {j k:Nat} {g:List alZ} {x:alZ} {X:U} (H:X.cells=some (enc x)) (h:aM z l v j (g.map enc)) (t:∀ y∈g,(enc y).length=z) (hk:k<g.length) (R:(enc x).length=z) :
  ∃ p l',bO (.ad z) v (.i6 (k:Int))=some p/\jG z l p (X)=some l'/\aM z l' v j ((g.set k x).map enc)/\l'.length=l.length/\∀ b,b≠j->l'[b]?=l[b]?:=by
 generalize o:g.map enc=G at h;cases h with
 | nil j=>rw[nU] at o;subst o;simp at hk
 | ad j n cap u cs G w Y O ai B J C=>
  subst o;have D:g.length=n:=by simpa using O
  have K:j<l.length:=a2 w;have m:=R;have Z:(k+1)*z<=n*z:=cn _ F;have ag:n*z<=cap*z:=cn _ B;have P:(k+1)*z=k*z+z:=by rw[eu]
  obtain⟨f1,_⟩:=JN t k F D C F;obtain⟨_,f2⟩:=JN t (k+1) F D C F;refine⟨.ptr j (k*z) u,l.set j (.q u (ax cs (k*z) (enc x))),?_,?_,?_,V,fun b I=>by rw[br (fun h=>I h.symm)]⟩
  ·simp[bO];omega
  ·unfold jG;simp[w,H,m];omega
  ·refine .ad j n cap u _ _ (b1 K) (by rw[oQ F,m];omega) (by simp;omega) (fun e o=>?_) B J ?_
   ·obtain⟨y,S,rfl⟩:=cy.1 o;rcases nV S with h | h
    ·exact t _ h
    ·rw[h];exact m
   ·have Q:g.set k x=g.take k++(x::g.drop (k+1)):=by rw[rA,aj hk]
    rw[Q,c5,df,jL,g6,<-f1,<-f2];unfold ax;have t1:(cs.take (k*z)).length=k*z:=by rw[cO];omega
    have T:(cs.take (k*z)).take (n*z)=cs.take (k*z):=aL (by rw[t1];omega);have W:(enc x).take (n*z - k*z)=enc x:=aL (by rw[m];omega);rw[gM,m,<-P,qe,t1,T,qe,W,m,show n*z - k*z - z=n*z - (k+1)*z by omega]
end
end Op
theorem Pn {P:bj} {G:Nat->U} {f:cf} {args:ag} {h h' ou:aH} {r j:U} (q:jM P G f args h r h') (wk:iF h' ou) (u:iE h' ou r j) :jM P G f args h j ou:=by intro m B w muZ D rel p t z;refine (q m B w muZ D rel p t z).mono ?_;rintro e w' ⟨C,muZ',rfl,o,g,v⟩;exact⟨C,muZ',rfl,o.trans (wk.ext w' muZ'),wk.rel g,wk.kT g u v⟩
theorem Gz {P:bj} {G:Nat->U} (t:P.follows .mixedOrders=true) (o:∀ g,(G g).aw=true) {f:cf} {args:ag} {l:ae} {K:cA}
  (h:fY P G f args l (c:=⟨fun r l'=>∃ m j,iF (aX l') (aX j)/\iE (aX l') (aX j) r m/\l.length<=j.length/\K m j⟩)) :fY P G f args l (c:=⟨K⟩):=by obtain⟨r,l',p,w,m,j,v,u,q,hk⟩:=h;exact⟨m,j,.ext (Pn (sM t o p) v u),q,hk⟩
theorem pO {z:Nat} {l:ae} {v:U} {j:Nat} {es:List (ag)} (h:aM z l v j es) (I:bt v=false) :iF (aX l) (aX (l.set j .dead))/\iE (aX l) (aX (l.set j .dead)) v (.bn z es):=by
 cases h with
 | nil j=>cases I
 | ad j n cap t cs es g P H o B K C=>
 have G:=a2 g;have q:(aX (l.set j .dead)).f j=.dead:=by rw[jO,nT,aj rfl,aj G]
 have Q:n*z<=cap*z:=cn _ B;refine⟨⟨V,fun u=>?_⟩,.ad z j 0 n cap t cs es (hI.2 g) q H o F (fun i k e c J m hk p=>?_)⟩
 ·by_cases w:u=j
  ·subst w;exact .inr ⟨t,cs,hI.2 g,.inl q⟩
  ·left;rw[jO,jO,nT,ak F]
 ·have D:k<z:=by rw[<-o e (cE m)];exact (aK.1 hk).1
  have O:=(aK.1 m).1;have R:i*z+z<=n*z:=by rw[<-eu];exact cn _ F
  have h1:=lT o m D;rw[<-C,dU F,hk] at h1;rw[hr,h1] at p;cases p;exact .same _
namespace Op
theorem r3 {alZ:Type} {enc:alZ->ag} {z:Nat} {a:List alZ} (h:∀ x∈a,(enc x).length=z) :(a.map enc).flatten.length=a.length*z:=by rw[hO (z:=z) (fun e g=>by obtain⟨y,j,rfl⟩:=cy.1 g;exact h y j),cx]
theorem F1 {alZ:Type} {enc:alZ->ag} {z by_:Nat} (l:ae) (s:bL alZ) (h:∀ x∈s.l,(enc x).length=z) (j:z≠0) (o:by_≠0) (m:s.l.length*by_<=dk) :
  eE (l++[am.q 0 []]) z by_ (.ad z l.length 0 0 0 0) (b4 z enc s)=some (.ad z l.length 0 s.l.length s.l.length (s.l.length*z),l++[.q (s.l.length*z) (s.l.map enc).flatten]):=by
 have p:=r3 h;unfold eE;rw[oj];simp only[];unfold ht;by_cases g:s.l.length=0
 ·have j:s.l=[]:=ic.1 g;rw[j];simp
 ·rw[ak g,ak F];have t:¬ s.l=[]:=fun h=>g (by rw[h];rfl)
  simp[m,g]
theorem qW {alZ:Type} {enc:alZ->ag} {z:Nat} {l:ae} {b n:Nat} {a:List alZ} (h:∀ x∈a,(enc x).length=z) (g:a.length=n) (m:l[b]?=some (.q (n*z) (a.map enc).flatten)) :aM z l (.ad z b 0 n n (n*z)) b (a.map enc):=by
 have j:=r3 h;refine .ad b n n (n*z) _ _ m (by rw[j,g]) (by simp[g]) (fun e o=>?_) (aI _) (aI _) ?_
 ·obtain⟨y,p,rfl⟩:=cy.1 o;exact h y p
 ·rw[aL (by rw[j,g];omega)]
end Op
namespace Op
open ca
theorem OD {l:List D} {k:Nat} {x:D} (h:l[k]?=some x) (g:(l.take k).all eP=true) :(l.take (k+1)).all eP=eP x:=by rw[eU,h,List.all_append,g];simp
theorem OB {l:List D} {k:Nat} {x:D} (h:l[k]?=some x) (g:eP x=false) :l.all eP=false:=by
 cases j:l.all eP with
 | false=>rfl
 | true=>rw[gg.1 j x (cE h)] at g;cases g
structure Nk (l:List D) (k:Nat) (sgZ:aR) (h:ae) :Prop where
 kA:sgZ 5=b4 1 eh (some l)
 nw:sgZ 6=.i6 l.length
 v6:sgZ 7=.i6 k
 aaY:(l.take k).all eP=true
theorem HX (l:List D) (B:l.length<=1000) :aY 222 [b4 1 eh (some l)] (.bool (l.all eP)):=by
 apply bc func222 [];have v:bx (.ad 1) (b4 1 eh (some l))=some (.i6 l.length):=cd _;simp[v];refine bz l.length (Nk l) ?_ ⟨V,V,V,V⟩;rintro k z h hk ⟨m,o,p,g⟩;obtain⟨z,rfl⟩:=gK m o p;clear m o p;by_cases h:k<l.length
 ·obtain⟨x,j,_⟩:=aP h;have t:bO (.ad 1) (b4 1 eh (some l)) (.i6 k)=some (.b0 (eh x) 0):=by rw[ow];simp[j]
  have w:IntKind.i64.wrap ((k:Int)+1)=(k+1:Nat):=wrap_i64 F F;simp[h,t,eh];refine av (Cz x) rfl ?_;cases q:eP x with
  | false=>
   have:=OB j q;simp;exact aT (by rw[this]) rfl
  | true=>
   simp[w];exact⟨F,V,V,V,by rw[OD j g];exact q⟩
 ·have u:k=l.length:=F;subst u;rw[fC] at g;simp;exact aT (by rw[g]) rfl
theorem We {l:ae} {b:Nat} {x:D} (h:l[b]?=some (.q 1 [a7 x])) :fw (aX l) (.ad 1 b 0 1 1 1) (b4 1 eh (some [x])):=by refine zM (rest:=[]) (es:=[[a7 x]]) (by simpa using h) rfl V (by simp[aq,U.aw])
def uG (a b:D) :D:=BitVec.ofNat 32 (a.toNat*b.toNat % 1000000007)
theorem RF (a b:D) :aY 177 [a7 a,a7 b] (.a1 [a7 (if eP a&&eP b then uG a b else 0#32),.i6 (if eP a&&eP b then 0 else 2)]):=by
 apply bc func177 [];simp;refine hg (HX [a,b] V) (.cons (w7 V) .nil) rfl ?_;cases g:eP a with
 | false=>
  simp[g];exact aE
 | true=>
  cases h:eP b with
  | false=>
   simp[g,h];exact aE
  | true=>
   have j:a.toNat<1000000007:=by unfold eP at g;simp at g;exact g.1.2
   simp[g,h];refine hg (CZ [a,b] V) (.cons (.same _ rfl) (.cons (w7 V) .nil)) rfl ?_;simp[CY a b j];exact aE
theorem RG (a:D) (n:Q) :aY 176 [a7 a,c1 n] (.a1 [a7 (if eP a then dX a n.toNat else 0#32),.i6 (if eP a then 0 else 2)]):=by
 apply bc func176 [];simp;refine hg (HX [a] V) (.cons (We V) .nil) rfl ?_;cases g:eP a with
 | false=>
  simp[g];exact aE
 | true=>
  simp[g];refine av (Dw a n) rfl ?_;simp;exact aE
theorem RE (n:Q) :aY 178 [c1 n] (a7 (dX 4#32 n.toNat)):=by apply bc func178 [];simp;refine av (Dw 4#32 n) rfl ?_;simp;exact aE
theorem DF (a:D) (n:Q) :aY 229 [a7 a,c1 n] (a7 (dX a n.toNat)):=by
 apply bc func229 [];have g:(a.setWidth 64:Q).toNat=a.toNat:=by rw[eS];omega
 have m:=pQ a.toNat n.toNat
 have j:(BitVec.ofNat 64 (ez a.toNat n.toNat)).setWidth 32=dX a n.toNat:=by
  apply eO;rw[lr,eS,fe];omega
 have h:=J7 (a.setWidth 64) n (by rw[g];exact a.isLt);rw[g] at h;simp;refine av h rfl ?_;simp[j];exact aE
theorem VB (n:Q) :aY 192 [c1 n] (a7 (dX 4#32 n.toNat)):=by apply bc func192 [];simp;refine av (DF 4#32 n) rfl ?_;simp;exact aE
theorem VJ (a:D) :aY 228 [a7 a] (.a1 [a7 (if eP a then dX a 500000002 else 0#32),.i6 (if eP a then 0 else 2)]):=by
 apply bc func228 [];simp;refine av (KP a) rfl ?_;cases g:eP a with
 | false=>
  simp;exact aE
 | true=>
  simp;refine av (DF a 500000002#64) rfl ?_;simp;exact aE
theorem VS (a b:D) :aY 230 [a7 a,a7 b] (a7 (uG a b)):=by
 apply bc func230 [];have g:∀ a:D,(a.setWidth 64:Q).toNat=a.toNat:=fun a=>by rw[eS];omega
 have h:((a.setWidth 64:Q)*b.setWidth 64 % 1000000007#64).setWidth 32=uG a b:=by
  apply eO;rw[eS,ur _ _ (by rw[g];exact a.isLt) (by rw[g];exact b.isLt),g,g];unfold uG;rw[fe]
 simp[zO,h];exact aE
def qu (l:List B) :Q:=l.foldl (fun n x=>(n <<< 8) ||| x.setWidth 64) 0#64
theorem Gk (l:List B) (k:Nat) (x:B) (h:l[k]?=some x) :qu (l.take (k+1))=(qu (l.take k) <<< 8) ||| x.setWidth 64:=by rw[eU,h];simp[qu,AQ]
theorem Xr (a:Q) (x:B) :(a <<< 8) ||| x.setWidth 64=256#64*a+x.setWidth 64:=by
 apply eO;have o:x.toNat<256:=x.isLt;have m:=a.isLt;rw[BitVec.toNat_or,s7,xK,s6,eS];have h1:x.toNat % 2 ^ 64=x.toNat:=dR F;have g:a.toNat <<< 8 % 2 ^ 64=(a.toNat % 2 ^ 56) <<< 8:=by rw[nY,nY];omega
 have h:=Nh (b:=x.toNat) (i:=8) F (a.toNat % 2 ^ 56);rw[h1,g,<-h,nY];have j:(256#64).toNat=256:=rfl;rw[j];omega
def fQ (n:D) :List B:=[(n >>> 24).setWidth 8,(n >>> 16).setWidth 8,(n >>> 8).setWidth 8,n.setWidth 8]
def hy (l:List D) :List B:=l.flatMap fQ
theorem Rn {l:List D} {k:Nat} {x:D} (h:l[k]?=some x) :hy (l.take (k+1))=hy (l.take k)++fQ x:=by unfold hy;rw[eU,h,xO];simp
theorem HP (l:List D) :(hy l).length=4*l.length:=by
 induction l with
 | nil=>rfl
 | cons x l g=>unfold hy at g ⊢;rw[List.flatMap_cons,cr,g,dE];simp[fQ];omega
def qI (b:List B) :Q:=qu ((fr b).take 8)
theorem Wf {l:ae} {b:Nat} {v m u t:U} (h:l[b]?=some (.q 2 [v,m])) (h1:fw (aX l) v u) (w:fw (aX l) m t) :fw (aX l) (.ad 1 b 0 2 2 2) (.bn 1 [[u],[t]]):=by
 refine .ad 1 b 0 2 2 2 [v,m] [[u],[t]] (hI.2 h) rfl V V (fun i p e c z j g o=>?_);rcases i with _ | _ | i
 ·simp at j;subst j;rcases p with _ | p
  ·simp at g o;subst g o;exact h1
  ·simp at g
 ·simp at j;subst j;rcases p with _ | p
  ·simp at g o;subst g o;exact w
  ·simp at g
 ·simp at j
theorem XB {b:Nat}:dK (.arr 32 1) (.ptr b 0 32) none (some (.i6 8)) none=some (.ad 1 b 0 8 32 32):=by have:e6 32 32 none (some (.i6 8)) none=some (0,8,32):=rfl;simp only[dK,this];rfl
structure NQ (g:B) (m:dS) (l0:List D) (k:Nat) (sgZ:aR) (l:ae) :Prop where
 fp:sgZ 1=cc m
 Ry:sgZ 21=b4 1 eh (some l0)
 HT:sgZ 22=.i6 l0.length
 HU:sgZ 23=.i6 k
 ex:∃ v,sgZ 8=v/\b9 1 bR [] l v (g::hy (l0.take k)) false
structure Nn (d:List B) (e:Int) (k:Nat) (sgZ:aR) (l:ae) :Prop where
 Ru:sgZ 12=.i6 e
 aaK:sgZ 13=c1 (qu (d.take k))
 RC:∃ b n,sgZ 49=.ad 1 b 0 8 n n/\l[b]?=some (.q n (d.map a8))/\n=32
 RD:sgZ 50=.i6 8
 aaQ:sgZ 51=.i6 k
theorem RU (j:B) (m:dS) (aF:m.l.length<=9991) (l0:List D) (aE:l0.length<=10) :aY 224 [a8 j,cc m,b4 1 eh (some l0)] (.a1 [c1 (qI (j::(hy l0++m.l))),.i6 0]):=by
 apply bc func224 [];have aw:=dF;have ar:bx (.ad 1) (cc m)=some (.i6 m.l.length):=cd _;have au:bx (.ad 1) (b4 1 eh (some l0))=some (.i6 l0.length):=cd _;have ag:¬ (9991:Int)<(m.l.length:Int):=F;have aD:¬ 9991<m.l.length:=F;have aj:=i5 m;simp[ar,au,ag];refine bz l0.length (NQ j m l0) ?_ ⟨V,V,V,V,_,rfl,⟨0,lp (n:=1) (a:=[j]) rfl rfl,V,V,.inr V,rfl⟩⟩;rintro k G l hk ⟨I,O,P,Q,aJ,W,p⟩;obtain⟨G,rfl⟩:=gx I W O P Q;clear I W O P Q;by_cases h:k<l0.length
 ·obtain⟨x,o,_⟩:=aP h;have al:bO (.ad 1) (b4 1 eh (some l0)) (.i6 k)=some (.b0 (eh x) 0):=by rw[ow];simp[o]
  have C:IntKind.i64.wrap ((k:Int)+1)=(k+1:Nat):=wrap_i64 F F;have t:=Rn o;have Z:=HP (l0.take k);rw[cO] at Z;obtain⟨aB,aH,H,ae,aC⟩:=(p.more [am.q 4 ((fQ x).map a8)]).app (by_:=1) (x:=.ad 1 l.length 0 4 4 4) (xs:=fQ x) (by rw[vY];simp[cG,fQ]) (fun y _=>rfl) F F (by rw[aw];simp[fQ];omega);rw[show (fQ x).map a8=[.int .u8 (u (BitVec.setWidth 8 (x >>> 24))),.int .u8 (u (BitVec.setWidth 8 (x >>> 16))),.int .u8 (u (BitVec.setWidth 8 (x >>> 8))),.int .u8 (u (BitVec.setWidth 8 x))] from rfl] at H;simp[h,al,eh,H];refine b2.bq ?_;simp[C];exact⟨F,V,V,V,V,aB,V,by rw[t,<-jK];exact ae⟩
 ·have z:k=l0.length:=F;subst z;rw[fC] at p;have Z:=HP l0;have v:=J0 [some (j::hy l0),m] V (fun s t=>by
   rcases hZ.1 t with h | h
   ·rw[h];show (j::hy l0).length<=_;simp;omega
   ·rw[fB.1 h];omega)
  have ai:bytesOf [some (j::hy l0),m]=j::(hy l0++m.l):=by simp[bytesOf]
  rw[ai] at v;have aA:=p.cells;have av:(cc m).cells=some [cc m]:=by cases m<;>rfl
  obtain⟨g,w⟩:=ao (fr (j::(hy l0++m.l)));have Y:g.length=32:=by rw[w];exact jE _
  rw[<-w] at v;have ak:(g.map a8).length=32:=by simp[Y]
  have ap:eF g=.ah (g.map a8):=rfl;rw[ap] at v;have az:ax (bT 32 (.int .u8 0)) 0 (g.map a8)=g.map a8:=cI (by rw[ak];rfl);have ay:∀ b,dK (.arr 32 1) (.ptr b 0 32) none (some (.i6 8)) none=some (.ad 1 b 0 8 32 32):=fun b=>XB (b:=b)
  simp[aA,av];refine hg v (.cons (Wf V ((p.more _).mV (fun _=>rfl) (some (j::hy l0)) rfl rfl) (.same _ aj)) .nil) (by simp[U.flat,ky,tW a8 (fun _=>rfl)]) ?_;simp[Y,az,ay];refine bz 8 (Nn g 0) ?_ ⟨V,by simp[qu],⟨l.length+1,32,V,V,rfl⟩,V,V⟩;clear p;rintro k G l hk ⟨J,K,⟨b,n,R,X,rfl⟩,S,T⟩;obtain⟨G,rfl⟩:=gx J K R S T;clear J K R S T;by_cases h:k<8
  ·obtain⟨x,o,_⟩:=aP (l:=g) (k:=k) F;have C:IntKind.i64.wrap ((k:Int)+1)=(k+1:Nat):=wrap_i64 F F;have t:=Gk g k x o;have z:(k:Int)<8:=F;have aG:(g.map a8)[k]?=some (a8 x):=by rw[bW,o];rfl
   simp[h,z,X,C,o];exact⟨V,by simp[t],⟨b,32,V,by simpa using X,rfl⟩,V,V⟩
  ·have aq:k=8:=F;subst aq;simp;exact aT (by unfold qI;rw[w]) rfl
def pe (r y:D) (m:List B) :D:=(qI (99#8::(hy [r,y]++m)) % 500000003#64).setWidth 32
theorem zP (x:Q) :ct .rem .u64 (u x) .u64 500000003=some (.int .u64 (u (x % 500000003#64))):=rP x 500000003#64 (by decide)
theorem Y5 (r y:D) (m:dS) (h:m.l.length<=9991) :aY 179 [a7 r,a7 y,cc m] (.a1 [a7 (pe r y m.l),.i6 0]):=by apply bc func179 [];have g:=i5 m;simp;refine hg (RU 99#8 m h [r,y] V) (.cons (.same _ rfl) (.cons (.same _ g) (.cons (w7 V) .nil))) rfl ?_;simp[zP];exact aE
theorem Dx (a b:D) (g:b≠0#32) :ct .quo .u32 (u a) .u32 (u b)=some (.int .u32 (u (a / b))):=by
 have h:(b.toNat:Int)≠0:=fun e=>g (eO (by simpa using e))
 show (if IntKind.u32=IntKind.u32/\(b.toNat:Int)≠0 then some (U.int .u32 (IntKind.u32.wrap ((a.toNat:Int).tdiv b.toNat))) else none)=_;rw[aj ⟨rfl,h⟩,u4];congr 2;have:((a.toNat:Int).tdiv b.toNat)=((a.toNat / b.toNat:Nat) :Int):=rfl;rw[this,nR];congr 1;apply eO;rw[fe,rs];exact dR (Nat.lt_of_le_of_lt (Ft _ _) a.isLt)
theorem Ce (x:D) {l:ae} {K:cA} (o:∀ v l',b9 1 bR l l' v (fQ x) false->K v l') :cJ 232 [a7 x] l K:=by
 apply cW func232 [];have q1:ct .quo .u32 (u x) .u32 16777216=some (.int .u32 (u (x / 16777216#32))):=Dx x 16777216#32 (by decide);have q:ct .quo .u32 (u x) .u32 65536=some (.int .u32 (u (x / 65536#32))):=Dx x 65536#32 (by decide);have t:ct .quo .u32 (u x) .u32 256=some (.int .u32 (u (x / 256#32))):=Dx x 256#32 (by decide);have w:∀ y:D,ct .rem .u32 (u y) .u32 256=some (.int .u32 (u (y % 256#32))):=fun y=>O9 y 256#32 (by decide)
 have z:=x.isLt;have g:BitVec.setWidth 8 (x / 16777216#32)=BitVec.setWidth 8 (x >>> 24):=by
  apply eO;rw[eS,eS,rs,lD,hG];rfl
 have h:BitVec.setWidth 8 (x / 65536#32 % 256#32)=BitVec.setWidth 8 (x >>> 16):=by
  apply eO;rw[eS,eS,kg,rs,lD,hG];show x.toNat / 65536 % 256 % 256=x.toNat / 65536 % 256;omega
 have j:BitVec.setWidth 8 (x / 256#32 % 256#32)=BitVec.setWidth 8 (x >>> 8):=by
  apply eO;rw[eS,eS,kg,rs,lD,hG];show x.toNat / 256 % 256 % 256=x.toNat / 256 % 256;omega
 have m:BitVec.setWidth 8 (x % 256#32)=BitVec.setWidth 8 x:=by
  apply eO;rw[eS,eS,kg];show x.toNat % 256 % 256=x.toNat % 256;omega
 simp[q1,q,t,w,g,h,j,m];exact o _ _ ⟨l.length,lp (n:=4) (a:=fQ x) rfl (by simp;rfl),V,fun b p=>aV p,.inr V,rfl⟩
structure N5 (d:List B) (k:Nat) (sgZ:aR) (l:ae) :Prop where
 jq:sgZ 3=.ptr 0 0 32
 kz:sgZ 4=c1 (qu (d.take k))
 kA:sgZ 5=.i6 k
 qX:l[0]?=some (.q 32 (d.map a8))
theorem Jo (s:dS) (j:s.l.length<=1000000) :aY 233 [cc s] (c1 (qI s.l)):=by
 apply bc func233 [];have o:=KQ s j;have z:=i5 s;obtain⟨g,m⟩:=ao (fr s.l);have u:g.length=32:=by rw[m];exact jE _
 rw[<-m] at o;have C:eF g=.ah (g.map a8):=rfl;rw[C] at o;have B:(g.map a8).length=32:=by simp[u]
 have H:ax (bT 32 (.int .u8 0)) 0 (g.map a8)=g.map a8:=cI (by rw[B];rfl);simp;refine av o (by simp[aq,z]) ?_;simp[u,H];refine bz 8 (N5 g) ?_ ⟨V,by simp[qu],V,rfl⟩;rintro k J l hk ⟨p,q,t,w⟩;obtain⟨J,rfl⟩:=gK p q t;clear p q t;by_cases h:k<8
 ·obtain⟨x,v,_⟩:=aP (l:=g) (k:=k) F;have I:IntKind.i64.wrap ((k:Int)+1)=(k+1:Nat):=wrap_i64 F F;have j:=Gk g k x v;rw[Xr] at j;have D:(k:Int)<8:=F;have K:k<32:=F;simp[h,D,w,I,v];exact⟨F,V,by simp[j],V,w⟩
 ·have G:k=8:=F;subst G;simp;exact aT (by unfold qI;rw[m]) rfl
theorem Kw (r y:D) (m:dS) (T:m.l.length<=900000) :aY 194 [a7 r,a7 y,cc m] (a7 (pe r y m.l)):=by
 apply bc func194 [];have h:=dF;have R:=i5 m;simp;refine Ce r fun I G h1=>?_
 have S:=h1.le;have z:b9 1 bR [] G (.ad 1 0 0 1 1 1) [99#8] false:=⟨0,lp (n:=1) (a:=[99#8]) rfl (by rw[h1.same 0 V];rfl),V,V,.inr V,rfl⟩
 obtain⟨J,U,p,q,O⟩:=z.app (by_:=1) (x:=I) (xs:=fQ r) h1.contents (fun _ _=>rfl) F F (by rw[h];simp[fQ]);simp[p];refine b2.bq ?_;simp;refine Ce y fun K H g=>?_
 have C:b9 1 bR [] H J ([99#8]++fQ r) false:=q.frame g.le g.same;obtain⟨Y,W,t,u,P⟩:=C.app (by_:=1) (x:=K) (xs:=fQ y) g.contents (fun _ _=>rfl) F F (by rw[h];simp[fQ]);simp[t];refine b2.bq ?_;obtain⟨Z,X,v,w,Q⟩:=u.app (by_:=1) (x:=cc m) (xs:=m.l) (BN _ _) (fun _ _=>rfl) F F (by rw[h];simp[fQ];omega);simp[v];refine b2.bq ?_;have j:(bL.l (some ([99#8]++fQ r++fQ y++m.l)) :List B)=99#8::(hy [r,y]++m.l):=by simp[hy]
 have o:=Jo (some ([99#8]++fQ r++fQ y++m.l)) (by rw[j];simp[hy,fQ];omega);rw[j] at o;simp;refine hg o (.cons (w.mV (fun _=>rfl) (some ([99#8]++fQ r++fQ y++m.l)) V rfl) .nil) rfl ?_;simp[zP];exact aE
theorem uF (a n k:Nat) :ez (ez a n) k=ez a (n*k):=by unfold ez;rw[<-xZ,<-Nat.pow_mul]
theorem Dv (n:Nat) :ez 1 n=1:=by unfold ez;rw[Nat.one_pow]
theorem Du (a m n:Nat) :ez a (m+n)=ez a m*ez a n % 1000000007:=by unfold ez;rw[rD,vh]
theorem Bp:ez 4 500000003=1:=by have h:=Ds 4 500000003 (by decide) 64 (aI _);rw[show 500000003 / 2 ^ (64 - 64)=500000003 from rfl] at h;rw[<-h];decide +kernel
theorem yU {y:D} (h:ez y.toNat 500000003=1) (n:Nat) :eP (dX y n)=true:=by
 have m:=lr y n;have g:=pQ y.toNat n;have h1:ez (ez y.toNat n) 500000003=1:=by
  rw[uF,xY,<-uF,h,Dv]
 have p:ez y.toNat n≠0:=fun e=>by
  rw[e] at h1;have o:∀ n,0<n->ez 0 n=0:=fun n j=>by unfold ez;rw[Nat.zero_pow j]
  rw[o _ (by decide)] at h1;cases h1
 unfold eP;rw[m,bY F,bY g,bY h1];rfl
theorem Ip {y:D} (h:eP y=true) :ez y.toNat 500000003=1:=by unfold eP at h;simp only[bH,bC] at h;exact h.2
theorem OU {y:D} (h:ez y.toNat 500000003=1) {e:Nat} (j:e<500000003) :dX (dX y e) 500000002=dX y (500000003 - e):=by
 apply eO;rw[lr,lr,lr,uF];rcases e with _ | e
 ·rw[tl,vi,h];unfold ez;rfl
 ·have g:(e+1)*500000002=500000003*e+(500000003 - (e+1)):=F;rw[g,Du,<-uF,h,Dv,tj,dR (pQ _ _)]
def sA (y:D) (e s:D) :D:=uG (dX 4#32 s.toNat) (dX y (500000003 - e.toNat))
def sJ (y:D) (m:List B) (e s:D) :Bool:=eW e&&(eW s&&decide (pe (sA y e s) y m=e))
theorem X5 {e:D} (g:e.toNat<500000003) :(500000003#64 - e.setWidth 64).toNat=500000003 - e.toNat:=by rw[BitVec.toNat_sub,eS];have:(500000003#64).toNat=500000003:=rfl;rw[this];omega
theorem Zk (y:D) (o:eP y=true) (m:dS) (R:m.l.length<=9991) (e s:D) :aY 118 [a7 y,cc m,.ah [a7 e,a7 s]] (.i6 (if sJ y m.l e s then 0 else 22)):=by
 apply bc func118 [];unfold sJ;have P:bx (.ad 1) (cc m)=some (.i6 m.l.length):=cd _;have C:¬ (9991:Int)<(m.l.length:Int):=F;have W:¬ 9991<m.l.length:=F;have O:=i5 m;have T:=Ip o;have z:=Cz y;rw[o] at z;simp;refine av z rfl ?_;obtain⟨M,t⟩:=ao (if u e<u s then u s else u e:Int);have S:oH (a7 e) (a7 s)=some (.int .u32 M):=by rw[t];simp[oH]
 have v:(500000003:Int)<=M<->500000003<=e.toNat\/500000003<=s.toNat:=by
  rw[t];unfold u;split<;>omega
 simp[P,C,S];by_cases h1:500000003<=e.toNat\/500000003<=s.toNat
 ·have H:(eW e&&(eW s&&decide (pe (sA y e s) y m.l=e)))=false:=by
   unfold eW;rcases h1 with h | h
   ·rw[cC F];rfl
   ·rw[cC (p:=s.toNat<500000003) F];simp
  have g:=v.2 h1;simp[g,H];exact aE
 ·have g:¬ (500000003:Int)<=M:=fun h=>h1 (v.1 h)
  have I:eW e=true:=by unfold eW;exact bY F
  have J:eW s=true:=by unfold eW;exact bY F
  have B:=RG y (500000003#64 - e.setWidth 64);have V:(s.setWidth 64:Q).toNat=s.toNat:=by rw[eS];omega
  have w:=RE (s.setWidth 64);rw[o,aj rfl,aj rfl,X5 F] at B;rw[V] at w;have j:=RF (dX 4#32 s.toNat) (dX y (500000003 - e.toNat));rw[yU (y:=4#32) Bp,yU T] at j;simp only[kU,if_true] at j;have K:=Y5 (sA y e s) y m R;have G:∀ a b:D,((u a:Int)=u b)<->a=b:=fun a b=>⟨fun h=>eO (by unfold u at h;omega),fun h=>by rw[h]⟩
  simp[g];refine av B rfl ?_;simp;refine av w rfl ?_;simp;refine av j rfl ?_;simp;refine av K (by simp[aq,U.aw,O]) ?_;rw[I,J];by_cases q:pe (sA y e s) y m.l=e
  ·simp[q];exact aE
  ·simp[q,G];exact aE
theorem zJ (s:D) :aY 132 [a7 s] (a7 (dX 4#32 s.toNat)):=by
 apply bc func132 [];have h:(s.setWidth 64:Q).toNat=s.toNat:=by rw[eS];omega
 have g:=VB (s.setWidth 64);rw[h] at g;simp;refine av g rfl ?_;simp;exact aE
theorem VT (y:D) (F:eP y=true) (m:dS) (B:m.l.length<=900000) (e s:D) :aY 183 [a7 y,cc m,.ah [a7 e,a7 s]] (.bool (sJ y m.l e s)):=by
 apply bc func183 [[[0],[1],[3],[5],[6],[8],[9],[2,9],[4,9],[7,9]]];unfold sJ;have w:=i5 m;have j:=Ip F;have q:∀ a b:D,((u a:Int)=u b)<->a=b:=fun a b=>⟨fun h=>eO (by unfold u at h;omega),fun h=>by rw[h]⟩
 simp;refine av (yy e) rfl ?_;cases h1:eW e with
 | false=>simp;exact aE
 | true=>
 simp;refine av (yy s) rfl ?_;cases G:eW s with
 | false=>simp;exact aE
 | true=>
 have z:e.toNat<500000003:=by unfold eW at h1;exact iZ h1
 have p:(e.setWidth 64:Q).toNat=e.toNat:=by rw[eS];omega
 have o:=DF y (e.setWidth 64);rw[p] at o;have g:=VJ (dX y e.toNat);rw[yU j,aj rfl,aj rfl,OU j z] at g;have t:=zJ s;have C:=VS (dX 4#32 s.toNat) (dX y (500000003 - e.toNat));have v:=Kw (sA y e s) y m B;simp;refine av o rfl ?_;simp;refine av g rfl ?_;simp;refine av t rfl ?_;simp;refine av C rfl ?_;simp;refine av v (by simp[aq,U.aw,w]) ?_;simp[q];exact aE
def xj (o:aG) :Bool:=sJ o.en (eH o) o.e o.s
def eA (o:aG) :Int:=if c3 o=0 then (if xj o then 0 else 22) else c3 o
theorem Db {o:aG} (t:∀ x∈o.ay.l,x.length=32) (h:c3 o=0) :eP o.en=true/\(eH o).length<=9991:=by
 have D:=pM h;unfold c3 at h;rw[ak F] at h;split at h
 ·split at h
  ·rename_i G p;unfold mE at p;simp only[bH,bC] at p;obtain⟨q,w,g,z,C⟩:=p;refine⟨q,?_⟩;have u:o.act.key.length<=20/\(o.act.kind=4#8->o.act.val.text.length<=30):=by
    unfold hM at g;split at g
    ·rename_i h1;simp only[bH,bC] at g;rw[g.1];exact⟨V,fun h=>by rw[h1] at h;cases h⟩
    ·split at g
     ·rename_i h1 m;simp only[bH] at g;have hk:=g.1;unfold hA at hk;simp only[bH,bC] at hk;exact⟨hk.1.2,fun h=>by rw[h] at m;rcases m with m | m<;>cases m⟩
     ·split at g
      ·simp only[bH] at g;obtain⟨hk,j⟩:=g;unfold hA at hk;simp only[bH,bC] at hk;refine⟨hk.1.2,fun _=>?_⟩;unfold iB at j;split at j
       ·simp only[bH,bC] at j;rw[j.2];simp
       ·split at j
        ·simp only[bH,bC] at j;rw[j.1.2];simp
        ·split at j
         ·simp only[bH,bC] at j;exact j.1.2
         ·cases j
      ·cases g
   have H:=gD o.en.toNat
   have I:=gD o.eZ.toNat
   have J:=ws t;have v:=uY (ej o.act.key);rw[m3] at v;have K:=xy o.act.val;have n6:(opHead o).length<=10:=by unfold opHead;simp;omega
   unfold eH;simp only[cr,dE,hq];have n7:(if o.act.kind=1#8 then ([] :List B) else hj (ej o.act.key)).length<=29:=by
    split
    ·simp
    ·omega
   have n8:(if o.act.kind=4#8 then hl o.act.val else []).length<=50:=by
    split
    ·rename_i h;have:=u.2 h;omega
    ·simp
   omega
  ·cases h
 ·cases h
theorem xB (o:aG) (j:dz o) :aY 65 [.ah (au o)] (.i6 (eA o)):=by
 apply bc func65 [];unfold eA;have u:=dV o;have m:=Av o j;have p:aq [U.ah (au o)]=true:=by simp[aq,U.aw,u]
 by_cases g:c3 o=0
 ·obtain⟨v,z⟩:=Db j.idsZ g;rw[aj g];simp[au];refine av m p ?_;simp[g];refine MV o j (Ge g) fun w C h=>?_
  have D:C[0]?=some (.q 11 (au o)):=by rw[h.same 0 V];rfl
  have t:=D;simp[au] at t;have B:=Zk o.en v (some (eH o)) z o.e o.s;simp[t];refine hg B (.cons (.same _ rfl) (.cons (h.mV (fun _=>rfl) (some (eH o)) rfl rfl) (.cons (.same _ rfl) .nil))) rfl ?_;simp;exact aE
 ·rw[ak g];simp[au];refine av m p ?_;simp[g];exact aE
theorem V3 (o:aG) (j:dz o) (g:c3 o=0) :aY 121 [.ah (au o)] (.bool (xj o)):=by
 apply bc func121 [[[0],[1],[2],[4],[5],[3,5,1]]];have z:=dV o;obtain⟨p,B⟩:=Db j.idsZ g;have t:=VT o.en p (some (eH o)) (by show (eH o).length<=_;omega) o.e o.s;simp[au];refine DI o j (by have:=pM g;omega) fun w u h=>?_
 have v:u[0]?=some (.q 11 (au o)):=by rw[h.same 0 V];rfl
 have m:=v;simp[au] at m;simp[m];refine hg t (.cons (.same _ rfl) (.cons (h.mV (fun _=>rfl) (some (eH o)) rfl rfl) (.cons (.same _ rfl) .nil))) rfl ?_;simp;exact aE
theorem KE (o:aG) (m:dz o) :aY 69 [.ah (au o)] (.i6 (eA o)):=by
 apply bc func69 [];unfold eA;have p:=dV o;have j:=DE o m;have h:aq [U.ah (au o)]=true:=by simp[aq,U.aw,p]
 by_cases g:c3 o=0
 ·rw[aj g];simp[au];refine av j h ?_;simp[g];refine av (V3 o m g) h ?_;cases q:xj o with
  | true=>simp;exact aE
  | false=>simp;exact aE
 ·rw[ak g];simp[au];refine av j h ?_;simp[g];refine av j h ?_;simp;exact aE
end Op
namespace Op
section
variable {alZ:Type} {z:Nat} {enc:alZ->ag}
theorem Um {by_:Nat} {l l1:ae} {v:U} {a:List alZ} {C:Bool} (h:b9 z enc l l1 v a C) (x:alZ) {b:Nat} (u:l1[b]?=some (.q z (enc x))) (j:(enc x).length=z) (t:z≠0) (w:by_≠0) (B:(a.length+1)*by_<=dk) :
  ∃ g l',eE l1 z by_ v (.ad z b 0 1 1 z)=some (g,l')/\b9 z enc l l' g (a++[x]) false/\l1.length<=l'.length:=by obtain⟨g,l',m,o,p⟩:=h.app (by_:=by_) (x:=.ad z b 0 1 1 z) (xs:=[x]) (by simp[cG,u,j,aL]) (by simp[j]) t w (by simpa using B);exact⟨g,l',m,by simpa using o,p⟩
def c2 (l:List alZ) (i:Nat) (x:alZ) :List alZ:=l.take i++x::l.drop i
theorem js (l:List alZ) (i:Nat) (x:alZ) :(c2 l i x).length=l.length+1:=by unfold c2;have:=ch List.length (iV i l);simp only[cr,dE] at this ⊢;omega
theorem mI {l:List alZ} {i:Nat} {x y:alZ}:y∈c2 l i x<->y=x\/y∈l:=by
 unfold c2;rw[fm,hZ];constructor
 ·rintro (h | h | h)
  ·exact .inr (gh h)
  ·exact .inl h
  ·exact .inr (tf h)
 ·rintro (h | h)
  ·exact .inr (.inl h)
  ·rw[<-iV i l,fm] at h;exact h.elim .inl fun h=>.inr (.inr h)
theorem Ep {lt:alZ->alZ->Bool} (j:∀ a,lt a a=false) (p:∀ a b c,lt a b=true->lt b c=true->lt a c=true) :∀ {l m:List alZ},l.Pairwise (fun a b=>lt a b=true)->m.Pairwise (fun a b=>lt a b=true)->(∀ y,y∈l<->y∈m)->l=m
 | [],[],_,_,_=>rfl
 | [],b::m,_,_,h=>bP ((h b).2 V) V
 | a::l,[],_,_,h=>bP ((h a).1 V) V
 | a::l,b::m,v,w,h=>by
  obtain⟨q,z⟩:=AW.1 v;obtain⟨t,B⟩:=AW.1 w;have u:a=b:=by
   rcases hZ.1 ((h a).1 V) with e | e
   ·exact e
   ·rcases hZ.1 ((h b).2 V) with o | o
    ·exact o.symm
    ·have:=p _ _ _ (t a e) (q b o);rw[j] at this;cases this
  subst u;congr 1;refine Ep j p z B fun y=>⟨fun g=>?_,fun g=>?_⟩
  ·rcases hZ.1 ((h y).1 (by simp[g])) with e | e
   ·subst e;have:=q y g;rw[j] at this;cases this
   ·exact e
  ·rcases hZ.1 ((h y).2 (by simp[g])) with e | e
   ·subst e;have:=t y g;rw[j] at this;cases this
   ·exact e
end
section
variable {alZ:Type} [DecidableEq alZ]
end
end Op
namespace Op
open ca
def dT {alZ:Type} [DecidableEq alZ] (x:alZ) :List alZ->Nat->Int
 | [],_=>-1
 | y::r,k=>if y=x then (k:Int) else dT x r (k+1)
theorem ny {alZ:Type} [DecidableEq alZ] (x:alZ) :∀ (l:List alZ) (k:Nat),(0<=dT x l k)<->x∈l
 | [],k=>by simp[dT]
 | y::r,k=>by
  unfold dT;by_cases h:y=x
  ·simp[h]
  ·rw[ak h,ny x r (k+1)];simp[Ne.symm h]
theorem qM {alZ:Type} [DecidableEq alZ] {x:alZ}:∀ {l:List alZ} {k n:Nat} {y:alZ},l[k]?=some y->(∀ (j:Nat) (z:alZ),j<k->l[j]?=some z->z≠x)->y=x->dT x l n=((n+k:Nat) :Int)
 | [],k,n,y,h,_,_=>by simp at h
 | w::r,0,n,y,h,_,g=>by
  simp at h;subst h;unfold dT;rw[aj g];simp
 | w::r,k+1,n,y,h,m,g=>by
  unfold dT;rw[ak (m 0 w F V),qM (k:=k) (n:=n+1) (by simpa using h) (fun j z p o=>m (j+1) z F (by simpa using o)) g];congr 1;omega
theorem wj {alZ:Type} [DecidableEq alZ] {x:alZ}:∀ {l:List alZ} {n:Nat},(∀ (j:Nat) (z:alZ),l[j]?=some z->z≠x)->dT x l n=-1
 | [],n,_=>rfl
 | w::r,n,g=>by
  unfold dT;rw[ak (g 0 w V),wj fun j z h=>g (j+1) z (by simpa using h)]
theorem Zd (s:bV) (G:cT s) (Q:s.l.length<=1000000) (x:List B) (u:x.length=32) :aY 119 [ai s,.ah (ar x)] (.i6 (dT x s.l 0)):=by
 apply bc func119 [];simp[ai];refine bz s.l.length (fun k m l=>l=[.q 32 (ar x)]/\m 0=b4 32 ar s/\m 3=.ptr 0 0 32/\m 7=.i6 s.l.length/\m 8=.i6 k/\∀ (g:Nat) (o:List B),g<k->s.l[g]?=some o->o≠x) ?_ (by simp[bu u]);rintro k m l hk ⟨rfl,w,z,C,D,t⟩;obtain⟨m,rfl⟩:=fc w z C D;clear w z C D;simp;refine gp (fun h=>?_) (fun h=>?_)
 ·simp only[bC] at h;obtain⟨y,v,H⟩:=aP (l:=s.l) (k:=k) F;have I:=cq (k:=k) F;simp[v,bu (G y H),bu u,aL,pv u (G y H)];by_cases p:x=y
  ·have J:=qM (n:=0) v t p.symm;simp[p];exact aT (by rw[<-p,J];simp) rfl
  ·simp[p,I];refine⟨F,fun g o P j=>?_⟩;by_cases K:g=k
   ·subst K;rw[v] at j;obtain rfl:=cg j;exact fun h=>p h.symm
   ·exact t g o F j
 ·simp[h];have O:k=s.l.length:=by simp at h;omega
  exact aT (by rw[wj fun g o j=>t g o (by rw[O];exact (aK.1 j).1) j]) rfl
theorem p3 (s:bV) (j:cT s) (h:s.l.length<=1000000) (x:List B) (g:x.length=32) :aY 66 [ai s,.ah (ar x)] (.bool (decide (x∈s.l))):=by apply bc func66 [];simp[bu g,aL];refine av (Zd s j h x g) (by have:=bU s;have:=c4 x;simp_all [aq,U.aw]) ?_;simp;exact aT (ch U.bool (by simp only[ny])) rfl
theorem DC (s:bV) (D:cT s) (P:s.l.length<=1000000) (x:List B) (t:x.length=32) :aY 70 [ai s,.ah (ar x)] (.bool (decide (x∈s.l))):=by
 apply bc func70 [];simp[ai];refine bz s.l.length (fun k j l=>l=[.q 32 (ar x)]/\j 0=b4 32 ar s/\j 3=.ptr 0 0 32/\j 5=.i6 k/\∀ (g:Nat) (o:List B),g<k->s.l[g]?=some o->o≠x) ?_ (by simp[bu t]);rintro k j l hk ⟨rfl,w,z,C,G⟩;obtain⟨j,rfl⟩:=gK w z C;clear w z C;simp;refine gp (fun h=>?_) (fun h=>?_)
 ·simp only[bC] at h;obtain⟨y,H,u⟩:=aP (l:=s.l) (k:=k) F;have I:=cq (k:=k) F;simp[H,bu (D y u),bu t,aL,pv (D y u) t];by_cases m:y=x
  ·simp[m];exact aT (ch U.bool (bY (by rw[<-m];exact u)).symm) rfl
  ·simp[m,I];refine⟨F,fun g o p v=>?_⟩;by_cases J:g=k
   ·subst J;rw[H] at v;obtain rfl:=cg v;exact m
   ·exact G g o F v
 ·simp[h];have K:k=s.l.length:=by simp at h;omega
  refine aT (ch U.bool (cC fun O=>?_).symm) rfl;obtain⟨g,p⟩:=cj.1 O;exact G g x (by rw[K];exact (aK.1 p).1) p rfl
theorem q3 (s:bV) (D:cT s) (P:s.l.length<=1000000) (x:List B) (u:x.length=32) :aY 77 [ai s,.ah (ar x)] (.i6 (dT x s.l 0)):=by
 apply bc func77 [];simp[ai];refine bz s.l.length (fun k o l=>l=[.q 32 (ar x)]/\o 0=b4 32 ar s/\o 3=.ptr 0 0 32/\o 5=.i6 k/\∀ (g:Nat) (m:List B),g<k->s.l[g]?=some m->m≠x) ?_ (by simp[bu u]);rintro k o l hk ⟨rfl,w,z,C,t⟩;obtain⟨o,rfl⟩:=gK w z C;clear w z C;simp;refine gp (fun h=>?_) (fun h=>?_)
 ·simp only[bC] at h;obtain⟨y,v,G⟩:=aP (l:=s.l) (k:=k) F;have H:=cq (k:=k) F;simp[v,bu (D y G),bu u,aL,pv (D y G) u];by_cases p:y=x
  ·have I:=qM (n:=0) v t p;simp[p];exact aT (by rw[I];simp) rfl
  ·simp[p,H];refine⟨F,fun g m O j=>?_⟩;by_cases J:g=k
   ·subst J;rw[v] at j;obtain rfl:=cg j;exact fun h=>p h
   ·exact t g m F j
 ·simp[h];have K:k=s.l.length:=by simp at h;omega
  exact aT (by rw[wj fun g m j=>t g m (by rw[K];exact (aK.1 j).1) j]) rfl
def ik (l ps:aO) :Bool:=decide (∀ g∈ps,g∈l)
theorem DB (s:bV) (ae:cT s) (Z:s.l.length<=1000000) (t:bV) (P:cT t) (al:t.l.length<=1000000) :aY 78 [ai s,ai t] (.bool (ik s.l t.l)):=by
 apply bc func78 [];have W:=bU s;have J:bx (.ad 32) (ai t)=_:=cd _;simp;refine bz t.l.length (fun k j l=>j 0=ai s/\j 1=ai t/\j 5=.i6 k/\∀ (g:Nat) (p:List B),g<k->t.l[g]?=some p->p∈s.l) ?_ V;rintro k j l hk ⟨z,C,D,O⟩;obtain⟨j,rfl⟩:=gK z C D;clear z C D;by_cases m:k<t.l.length
 ·obtain⟨y,Q,v⟩:=aP m;have S:=cq (k:=k) F;have I:bO (.ad 32) (ai t) _=_:=dg Q;have H:=c4 y;have G:=q3 s ae Z y (P y v);have R:=bu (P y v);have K:=ny y s.l 0;obtain⟨ak,T⟩:=ao (ar y);rw[<-T] at I H G R;simp[J,m,I,R,aL];refine av G (by simp[aq,U.aw,W,H]) ?_;by_cases o:y∈s.l
  ·have q:¬ dT y s.l 0<0:=by have:=K.2 o;omega
   simp[q,m,S];intro g p u w;by_cases X:g=k
   ·subst X;rw[Q] at w;obtain rfl:=cg w;exact o
   ·exact O g p F w
  ·have q:dT y s.l 0<0:=by
    rcases Int.lt_or_le (dT y s.l 0) 0 with h | h
    ·exact h
    ·exact bP (K.1 h) o
   simp[q];exact aT (ch U.bool (cC fun h=>o (h y v)).symm) rfl
 ·have Y:k=t.l.length:=F;simp[J,m];refine aT (ch U.bool (bY fun aj ag=>?_).symm) rfl;obtain⟨g,u⟩:=cj.1 ag;exact O g aj (by rw[Y];exact (aK.1 u).1) u
theorem j6 {l:aO} (h:bX l=true) :∀ {i j:Nat} {a b:List B},i<j->l[i]?=some a->l[j]?=some b->bJ a b<0:=by
 have p:=iZ h;intro i j
 induction j with
 | zero=>intro a b q;omega
 | succ j v=>
  intro a b q m o;have u:=(aK.1 o).1;have h1:=p (j+1) u F;obtain⟨c,g,_⟩:=aP (l:=l) (k:=j) F;rw[show j+1 - 1=j by omega,dG g,dG o] at h1;by_cases t:i=j
  ·subst t;rw[m] at g;obtain rfl:=cg g;exact h1
  ·exact oi _ _ _ (v F m g) h1
theorem DX {l:aO} (h:bX l=true) {i j:Nat} {a:List B} (g:l[i]?=some a) (m:l[j]?=some a) :i=j:=by
 rcases o1 i j with h1 | h1 | h1
 ·have:=j6 h h1 g m;rw[k8] at this;omega
 ·exact h1
 ·have:=j6 h h1 m g;rw[k8] at this;omega
def ec (l:aO) (x:List B) :Nat:=(l.takeWhile fun g=>decide (bJ g x<0)).length
theorem BK (x:List B) :∀ {l:aO} {p:Nat},p<=l.length->(∀ (t:Nat) (y:List B),t<p->l[t]?=some y->bJ y x<0)->(∀ y,l[p]?=some y->¬ bJ y x<0)->ec l x=p
 | [],p,g,_,_=>by simp at g;subst g;rfl
 | y::l,0,_,_,h=>by
  have:=h y V;unfold ec;rw[A0,cC this];rfl
 | y::l,p+1,g,h1,h=>by
  have q:=h1 0 y F V;have o:=BK x (l:=l) (p:=p) (by simpa using g) (fun t m u j=>h1 (t+1) m F (by simpa using j)) (fun m j=>h m (by simpa using j));unfold ec at o ⊢;rw[A0,bY q];simpa using o
theorem Xt (n:Nat) (h:n<9223372036854775808) :ct .shr .u64 (n:Int) .u64 1=some (.int .u64 ((n / 2:Nat) :Int)):=by
 have:=qw (BitVec.ofNat 64 n) .u64 1;have g:(u (BitVec.ofNat 64 n) :Int)=n:=by unfold u;rw[fe,dR F]
 have j:(u (BitVec.ofNat 64 n >>> 1) :Int)=((n / 2:Nat) :Int):=by
  unfold u;rw[lD,fe,dR F,hG]
 rw[g,j] at this;exact this
structure Nq (s:bV) (X:ag) (x:List B) (m:Nat) (sgZ:aR) (l:ae) :Prop where
 ex:∃ (i j:Nat),j - i=m/\i<=j/\j<=s.l.length/\l=[.q 32 X]/\sgZ 0=ai s/\sgZ 2=.fn 162 [] []/\sgZ 4=.ptr 0 0 32/\sgZ 8=.i6 s.l.length/\sgZ 9=.i6 i/\sgZ 10=.i6 j ∧
  (∀ (t:Nat) (y:List B),t<i->s.l[t]?=some y->bJ y x<0)/\(∀ (t:Nat) (y:List B),j<=t->s.l[t]?=some y->¬ bJ y x<0)
theorem z2 (s:bV) (Q:cT s) (aU:s.l.length<=1000000) (x:List B) (am:x.length=32) (P:bX s.l=true) :
  aY 161 [ai s,.ah (ar x),.fn 162 [] []] (.a1 [.i6 (ec s.l x),.bool (decide (x∈s.l))]):=by
 apply bc func161 [];have aF:bx (.ad 32) (ai s)=_:=cd _;have D:=bu am;have T:=c4 x;have K:∀ y∈s.l,aY 162 [.ah (ar y),.ah (ar x)] (.i6 (bJ y x)):=fun y g=>qC y x (Q y g) am
 obtain⟨ax,aA⟩:=ao (ar x);rw[<-aA] at D T K ⊢;simp[aF];refine ww (Nq s ax x) ?_ s.l.length _ _ ⟨0,s.l.length,F,F,F,by simp[D],V,V,by simp[D],V,V,V,fun m y h=>F,fun m y h t=>by rw[ea h] at t;cases t⟩;rintro aW aN l ⟨i,j,aV,aS,aE,rfl,X,Z,ae,ag,aj,Y,h1,t⟩;obtain⟨aN,rfl⟩:=rj X Z ae ag aj Y;clear X Z ae ag aj Y;by_cases aG:i<j
 ·obtain⟨h,aC⟩:=ao ((i+j) / 2);have ap:IntKind.i64.wrap ((i:Int)+j)=((i+j:Nat) :Int):=by rw[IntKind.wrap_i64];omega
  have au:IntKind.u64.wrap ((i+j:Nat) :Int)=((i+j:Nat) :Int):=by rw[u5,nR];unfold u;rw[fe,dR F]
  have W:=Xt (i+j) F;have aO:IntKind.i64.wrap (h:Int)=(h:Int):=by rw[IntKind.wrap_i64];omega
  have aQ:=cq (k:=h) F;have aH:(i:Int)<(j:Int):=F;rw[<-aC] at W;obtain⟨y,g,I⟩:=aP (l:=s.l) (k:=h) F;have H:=bu (Q y I);have G:=c4 y;have C:bO (.ad 32) (ai s) _=_:=dg g;have z:=K y I;obtain⟨ay,J⟩:=ao (ar y);rw[<-J] at H G C z;obtain⟨N,az⟩:=ao (i+j);rw[<-az] at ap au W;simp[aG,ap,au,W,aO,C,H,D,aL];refine⟨Cc,av z (by simp[aq,U.aw,G,T]) ?_⟩;by_cases w:bJ y x<0
  ·simp[w,aQ];refine⟨j - (h+1),F,h+1,j,rfl,F,F,V,V,V,V,V,V,V,fun m aR o q=>?_,t⟩;by_cases R:m=h
   ·subst R;rw[g] at q;obtain rfl:=cg q;exact w
   ·exact oi _ _ _ (j6 P F q g) w
  ·simp[w];refine⟨h - i,F,i,h,rfl,F,F,V,V,V,V,V,V,V,h1,fun m aR o q ak=>w ?_⟩;by_cases R:m=h
   ·subst R;rw[g] at q;obtain rfl:=cg q;exact ak
   ·exact oi _ _ _ (j6 P F g q) ak
 ·have aH:¬ (i:Int)<(j:Int):=F;obtain rfl:i=j:=F;have al:=BK x (l:=s.l) (p:=i) aE h1 (fun y g=>t i y (aI _) g);have aJ:∀ {y:List B},s.l[i]?=some y->(y=x<->x∈s.l):=fun {y} g=>by
   constructor
   ·rintro rfl;exact cE g
   ·intro S;obtain⟨m,o⟩:=cj.1 S;rcases o1 m i with v | v | v
    ·have:=h1 m x v o;rw[k8] at this;omega
    ·subst v;rw[g] at o;exact cg o
    ·exact bP (j6 P v g o) (t i y (aI _) g)
  by_cases O:i<s.l.length
  ·have aD:(i:Int)<(s.l.length:Int):=F;obtain⟨y,g,I⟩:=aP (l:=s.l) (k:=i) O;have H:=bu (Q y I);have G:=c4 y;have C:bO (.ad 32) (ai s) _=_:=dg g;have z:=K y I;have aB:bJ y x=0<->x∈s.l:=by
    rw[<-aJ g];exact⟨og,fun h=>by rw[h];exact k8 _⟩
   obtain⟨ay,J⟩:=ao (ar y);rw[<-J] at H G C z;simp[O,C,H,D,aL];refine⟨Cc,av z (by simp[aq,U.aw,G,T]) ?_⟩;simp;refine aT ?_ rfl;rw[al];simp[aB]
  ·have aD:¬ (i:Int)<(s.l.length:Int):=F;simp[O];refine aT ?_ rfl;have aM:¬ x∈s.l:=fun S=>by
    obtain⟨m,o⟩:=cj.1 S;have:=h1 m x (by have:=(aK.1 o).1;omega) o;rw[k8] at this;omega
   rw[al,cC aM]
theorem BH {l:aO} (j:bX l=true) {k:Nat} {x:List B} (h:l[k]?=some x) :ec l x=k:=
 BK x (km (aK.1 h).1) (fun o y m g=>j6 j m g h) (fun y g=>by rw[h] at g;obtain rfl:=cg g;rw[k8];omega)
structure aU where
 idsZ:bV
 opsZ:bL aG
def bF (s:bL aG) :U:=b4 11 au s
def bf (g:aU) :ag:=[ai g.idsZ,bF g.opsZ]
def cH (g:aU) :U:=.ah (bf g)
structure ff (g:aU) :Prop where
 idsZ:cT g.idsZ
 opsZ:∀ o∈g.opsZ.l,dz o
 li:g.idsZ.l.length<=1000000
 ju:g.opsZ.l.length<=1000000
theorem i7 (s:bL aG) :(bF s).aw=true:=lQ dV s
theorem pi (g:aU) :aq (bf g)=true:=by have:=bU g.idsZ;have:=i7 g.opsZ;simp[bf,aq, *]
theorem ph (g:aU) :(cH g).aw=true:=by simp[cH,U.aw,pi]
def dO (opsZ:List aG) (i:Nat) :aO:=match opsZ[i]? with | some g=>g.ay.l | none=>[]
theorem l6 {opsZ:List aG} {i:Nat} {o:aG} (h:opsZ[i]?=some o) :dO opsZ i=o.ay.l:=by unfold dO;rw[h]
inductive mr (idsZ:aO) (opsZ:List aG) :Nat->Prop
 | mk (i:Nat) (m:i<idsZ.length) (o:∀ g∈dO opsZ i,g∈idsZ) (j:∀ g∈dO opsZ i,∀ h,idsZ[h]?=some g->mr idsZ opsZ h) :mr idsZ opsZ i
def kY (idsZ:aO) :Prop:=∀ (i g:Nat) (x:List B),idsZ[i]?=some x->idsZ[g]?=some x->i=g
theorem mH {idsZ:aO} (h:bX idsZ=true) :kY idsZ:=fun _ _ _ h1 g=>DX h h1 g
theorem pY:∀ {a b:List Nat},a.Nodup->(∀ x∈a,x∈b)->a.length<=b.length
 | [],_,_,_=>ek _
 | x::a,b,g,h=>by
  rw[vf] at g;have j:=h x V;have o:=pY (b:=b.erase x) g.2 (fun y m=>(Fl (fun e=>g.1 (by rw[<-e];exact m))).2 (h y (by simp[m])));rw[Fi j] at o;have:=Fj j;simp;omega
def mB (idsZ:aO) (opsZ:List aG) (out:List Nat) (i:Nat) :Bool:=decide (i∉out)&&ik (out.map (bo idsZ)) (dO opsZ i)
def hT (idsZ:aO) (opsZ:List aG) (out:List Nat) :Option Nat:=(List.range opsZ.length).find? (mB idsZ opsZ out)
def eR (idsZ:aO) (opsZ:List aG) :Nat->List Nat
 | 0=>[]
 | k+1=>match hT idsZ opsZ (eR idsZ opsZ k) with | some i=>eR idsZ opsZ k++[i] | none=>eR idsZ opsZ k
def l5 (idsZ:aO) (opsZ:List aG) :List Nat:=eR idsZ opsZ opsZ.length
theorem Ud {idsZ:aO} {opsZ:List aG} {out:List Nat} {i:Nat} (h:hT idsZ opsZ out=some i) :i<opsZ.length/\i∉out/\∀ p∈dO opsZ i,p∈out.map (bo idsZ):=by have h1:=List.find?_some h;have g:=Nf h;unfold mB at h1;rw[bH,bC] at h1;exact⟨g7.1 g,h1.1,iZ h1.2⟩
theorem Uc {idsZ:aO} {opsZ:List aG} {out:List Nat} (h:hT idsZ opsZ out=none) {i:Nat} (j:i<opsZ.length) (m:i∉out) :¬ ∀ p∈dO opsZ i,p∈out.map (bo idsZ):=by intro g;have:=List.find?_eq_none.1 h i (g7.2 j);apply this;unfold mB;rw[bH];exact⟨bY m,bY g⟩
theorem Ua {idsZ:aO} {opsZ:List aG} {out:List Nat} {i:Nat} (m:i<opsZ.length) (h:mB idsZ opsZ out i=true) (g:∀ j,j<i->mB idsZ opsZ out j=false) :hT idsZ opsZ out=some i:=by unfold hT;rw[List.find?_range_eq_some];exact⟨h,by simpa using m,fun j o=>by rw[g j o];rfl⟩
theorem Ub {idsZ:aO} {opsZ:List aG} {out:List Nat} (g:∀ j,j<opsZ.length->mB idsZ opsZ out j=false) :hT idsZ opsZ out=none:=by unfold hT;rw[List.find?_eq_none];intro j h;rw[g j (g7.1 h)];simp
theorem wV {idsZ:aO} {opsZ:List aG} {k i:Nat} (h:hT idsZ opsZ (eR idsZ opsZ k)=some i) :eR idsZ opsZ (k+1)=eR idsZ opsZ k++[i]:=by show (match hT idsZ opsZ (eR idsZ opsZ k) with | some i=>eR idsZ opsZ k++[i] | none=>eR idsZ opsZ k)=_;rw[h]
theorem zx {idsZ:aO} {opsZ:List aG} {k:Nat} (h:hT idsZ opsZ (eR idsZ opsZ k)=none) :eR idsZ opsZ (k+1)=eR idsZ opsZ k:=by show (match hT idsZ opsZ (eR idsZ opsZ k) with | some i=>eR idsZ opsZ k++[i] | none=>eR idsZ opsZ k)=_;rw[h]
theorem wU (idsZ:aO) (opsZ:List aG) (I:idsZ.length=opsZ.length) (v:kY idsZ) :∀ k,(eR idsZ opsZ k).Nodup/\(eR idsZ opsZ k).length<=k/\∀ i∈eR idsZ opsZ k,i<opsZ.length/\mr idsZ opsZ i
 | 0=>⟨List.nodup_nil,aI _,fun i G=>by cases G⟩
 | k+1=>by
  obtain⟨h1,O,m⟩:=wU idsZ opsZ I v k;cases h:hT idsZ opsZ (eR idsZ opsZ k) with
  | none=>rw[zx h];exact⟨h1,F,m⟩
  | some i=>
   rw[wV h];obtain⟨B,C,t⟩:=Ud h;refine⟨?_,by simp;omega,fun z o=>?_⟩
   ·rw[Fo];refine⟨h1,V,fun x h y w e=>?_⟩;rw[fB] at w;subst e;rw[w] at h;exact C h
   ·rw[fm,fB] at o;rcases o with o | rfl
    ·exact m z o
    ·have u:∀ g,g<idsZ.length->idsZ[g]?=some (bo idsZ g):=fun g j=>by
      obtain⟨x,h,_⟩:=aP (l:=idsZ) j;rw[h,dG h]
     refine⟨B,.mk z F (fun q p=>?_) fun q p J H=>?_⟩
     ·obtain⟨g,j,rfl⟩:=cy.1 (t q p);exact cE (u g (by have:=(m g j).1;omega))
     ·obtain⟨g,j,rfl⟩:=cy.1 (t q p);obtain⟨K,D⟩:=m g j;rw[v J g _ H (u g F)];exact D
theorem Df {idsZ:aO} {opsZ:List aG} {k:Nat} (h:hT idsZ opsZ (eR idsZ opsZ k)=none) :∀ m,eR idsZ opsZ (k+m)=eR idsZ opsZ k
 | 0=>rfl
 | m+1=>by
  have g:=Df h m;rw[<-iW,zx (by rw[g];exact h),g]
theorem Jl {n:Nat} {l:List Nat} (o:l.Nodup) (m:l.length=n) (h:∀ i∈l,i<n) :∀ i,i<n->i∈l:=by
 intro i j;apply Classical.byContradiction;intro p;have:=pY (a:=i::l) (b:=List.range n) (vf.2 ⟨p,o⟩) (fun x g=>by
  rw[hZ] at g;rcases g with rfl | g
  ·exact g7.2 j
  ·exact g7.2 (h x g))
 simp[m] at this;omega
theorem Dg {idsZ:aO} {opsZ:List aG} (O:idsZ.length=opsZ.length) (I:kY idsZ) :(l5 idsZ opsZ).length=opsZ.length<->∀ i,i<opsZ.length->mr idsZ opsZ i:=by
 obtain⟨h1,C,q⟩:=wU idsZ opsZ O I opsZ.length;constructor
 ·intro h i j;exact (q i (Jl h1 h (fun i j=>(q i j).1) i j)).2
 ·intro h;have H:∀ k,k<=opsZ.length->(eR idsZ opsZ k).length=k\/∃ m,m<=k/\hT idsZ opsZ (eR idsZ opsZ m)=none:=by
   intro k
   induction k with
   | zero=>intro _;exact .inl rfl
   | succ k p=>
    intro hk;rcases p F with g | ⟨m,K,g⟩
    ·cases w:hT idsZ opsZ (eR idsZ opsZ k) with
     | none=>exact .inr ⟨k,F,w⟩
     | some i=>left;rw[wV w];simp[g]
    ·exact .inr ⟨m,F,g⟩
  rcases H opsZ.length (aI _) with g | ⟨m,K,g⟩
  ·exact g
  ·have v:eR idsZ opsZ opsZ.length=eR idsZ opsZ m:=by
    have:=Df g (opsZ.length - m)
    rwa [show m+(opsZ.length - m)=opsZ.length by omega] at this
   have G:∀ i,mr idsZ opsZ i->i<opsZ.length->i∈eR idsZ opsZ m:=by
    intro i t
    induction t with
    | mk i j Q t p=>
     intro J;apply Classical.byContradiction;intro P;refine Uc g J P fun B u=>?_
     obtain⟨z,o⟩:=cj.1 (Q B u);exact cy.2 ⟨z,p B u z o (by have:=(aK.1 o).1;omega),dG o⟩
   show (eR idsZ opsZ opsZ.length).length=opsZ.length;rw[v];have D:=pY (a:=List.range opsZ.length) (b:=eR idsZ opsZ m) AV fun i j=>G i (h i (g7.1 j)) (g7.1 j)
   rw[List.length_range] at D;rw[v] at C;omega
theorem Q9 (g:aU) (j:ff g) (u:bX g.idsZ.l=true) (x:List B) (o:x.length=32) :aY 287 [cH g,.ah (ar x)] (.a1 [.i6 (ec g.idsZ.l x),.bool (decide (x∈g.idsZ.l))]):=by apply bc func287 [];have t:=bU g.idsZ;have w:=i7 g.opsZ;have h:=c4 x;have p:=bu o;have m:=z2 g.idsZ j.idsZ j.li x o u;obtain⟨v,q⟩:=ao (ar x);rw[<-q] at m h p ⊢;simp[cH,bf,p,aL];refine av m (by simp[aq,U.aw,t,h]) ?_;simp;exact aE
def ga (n:Nat) :ag:=[.i6 (n:Int)]
def lc (b:Bool) :ag:=[.bool b]
def cL {alZ:Type} (l:List alZ) :bL alZ:=match l with | []=>none | x::r=>some (x::r)
theorem dr {alZ:Type} (l:List alZ) :(cL l).l=l:=by cases l<;>rfl
theorem oR {alZ:Type} (l:List alZ) :(cL l).isNone=l.isEmpty:=by cases l<;>rfl
def B1 (l:bL Nat) :U:=b4 1 ga l
theorem KS {alZ:Type} (zero:U) (n:Nat) :cD [zero] n=List.replicate n zero:=by
 rw[w9]
 induction n with
 | zero=>rfl
 | succ n g=>rw[kk,g6,g,kk];rfl
theorem wB {z by_ n:Nat} {k k' : cV} {zero:ag} {l:ae} (g:zero.length=z) (h1:n<9223372036854775808) (m:by_*n<=dk) :
  l2 z by_ zero l (.int k (n:Int)) (.int k' (n:Int))=some (.ad z l.length 0 n n (n*z),l++[.q (n*z) (cD zero n)])/\aM z (l++[.q (n*z) (cD zero n)]) (.ad z l.length 0 n n (n*z)) l.length (List.replicate n zero):=by
 constructor
 ·have h:(by_:Int)*(n:Int)<=(dk:Int):=by rw[<-Int.natCast_mul];omega
  simp only[l2,fA];rw[aj ⟨F,F,F,h⟩]
 ·refine .ad l.length n n (n*z) (cD zero n) _ (by rw[et (aI _)];simp) (by rw[uJ,g]) V (fun e j=>by rw[tb j];exact g) (aI _) (aI _) ?_;rw[aL (by rw[uJ,g];omega),w9]
def nr (n:Nat) (out:List Nat) :List Bool:=(List.range n).map fun i=>decide (i∈out)
theorem ys {n:Nat} {out:List Nat} {i:Nat} (h:i<n) :(nr n out)[i]?=some (decide (i∈out)):=by unfold nr;rw[bW,hp h];rfl
theorem vT (n:Nat) (out:List Nat) :(nr n out).length=n:=by simp[nr]
theorem Qq {n:Nat} {out:List Nat} {i:Nat} (h:i<n) :(nr n out).set i true=nr n (out++[i]):=by
 apply g5;intro m;by_cases j:m<n
 ·rw[ys j,nT];by_cases g:i=m
  ·subst g;simp[vT,h]
  ·rw[ak g,ys j];simp[Ne.symm g]
 ·rw[ea (by simp[vT];omega),ea (by simp[vT];omega)]
theorem Qp (n:Nat) :nr n []=List.replicate n false:=by
 apply g5;intro h;by_cases g:h<n
 ·rw[ys g];simp[g]
 ·rw[ea (by simp[vT];omega),ea (by simp;omega)]
theorem one_cell {cs:ag} {o:Nat} {c:U} (h:(cs.drop o).take 1=[c]) :cs[o]?=some c:=by
 have h1:((cs.drop o).take 1)[0]?=some c:=by rw[h];rfl
 rw[dU F,gB] at h1;exact h1
structure N8 (g:aU) (out:List Nat) (o p t:U) (rest:ae) :Prop where
 ex:∃ h j m,aM 1 (.q 2 (bf g) ::rest) o h (out.map ga)/\aM 32 (.q 2 (bf g) ::rest) p j ((out.map (bo g.idsZ.l)).map ar)/\aM 1 (.q 2 (bf g) ::rest) t m ((nr g.opsZ.l.length out).map lc) ∧
  1<=m/\bt t=false/\bt o=out.isEmpty/\bt p=out.isEmpty/\(out=[]\/(1<=h/\1<=j/\h≠j/\h≠m/\j≠m))
theorem VO (g:aU) (ak:ff g) (bg:g.idsZ.l.length=g.opsZ.l.length) (al:kY g.idsZ.l) :aY 125 [cH g] (B1 (cL (l5 g.idsZ.l g.opsZ.l))):=by
 apply bc func125 [db 0 5++db 6 7++[[5,12,11,8]]];have aR:dk=140737488355328:=rfl;have cl:=bU g.idsZ;have cm:=i7 g.opsZ;have aB:bx (.ad 11) (bF g.opsZ)=_:=cd _;have cu:=ak.ju;obtain⟨bh,bi⟩:=wB (z:=1) (by_:=1) (n:=g.opsZ.l.length) (k:=.i64) (k':=.i64) (zero:=[U.bool false]) (l:=[am.q 2 (bf g)]) rfl F (by rw[aR];omega);simp only[bf,nX,KS (alZ:=Nat)] at bh bi;simp[cH,bf,aB,bh];refine ww (fun aT j l=>∃ (k:Nat) (rest:ae),l=.q 2 (bf g) ::rest/\j 1=.ptr 0 0 2/\N8 g (eR g.idsZ.l g.opsZ.l k) (j 3) (j 4) (j 5) rest ∧
  ((j 6=.bool true/\(eR g.idsZ.l g.opsZ.l k).length=k/\aT=g.opsZ.l.length - k+1)\/(j 6=.bool false/\hT g.idsZ.l g.opsZ.l (eR g.idsZ.l g.opsZ.l k)=none/\k<=g.opsZ.l.length/\aT=0))) ?_ (g.opsZ.l.length+1) _ _ ?_
 ·rintro aT j l ⟨k,rest,rfl,w,Z,O⟩;obtain⟨aE,p⟩:∃ v,j 3=v:=⟨_,rfl⟩
  obtain⟨aF,o⟩:∃ v,j 4=v:=⟨_,rfl⟩
  obtain⟨bB,t⟩:∃ v,j 5=v:=⟨_,rfl⟩
  rw[p,o,t] at Z;obtain⟨out,J⟩:=ao (eR g.idsZ.l g.opsZ.l k);rw[<-J] at Z O;obtain⟨bk,bR,az⟩:=wU g.idsZ.l g.opsZ.l bg al k;rw[<-J] at bk bR az;have cw:out.length<=g.opsZ.l.length:=by
   have:=pY (b:=List.range g.opsZ.l.length) bk (fun x I=>g7.2 (az x I).1);simpa using this
  rcases O with ⟨B,hk,rfl⟩ | ⟨B,aQ,ct,rfl⟩
  ·obtain⟨j,rfl⟩:=gx w p o t B;clear w p o t B;simp;refine bz g.opsZ.l.length (fun i j l=>l=.q 2 (bf g) ::rest/\j 1=.ptr 0 0 2/\j 3=aE/\j 4=aF/\j 5=bB/\j 6=.bool false/\j 7=.i6 i/\∀ G,G<i->mB g.idsZ.l g.opsZ.l out G=false) ?_ V;rintro i j l cn ⟨rfl,w,p,o,t,B,a4,O⟩;obtain⟨j,rfl⟩:=rj w p o t B a4;clear w p o t B a4;by_cases D:i<g.opsZ.l.length
   ·obtain⟨T,bl,bm⟩:=aP D;have a2:=cq (k:=i) F;have bL:bO (.ad 11) (bF g.opsZ) _=_:=dg bl;obtain⟨u,m,oz,aq,av,aw,W,aD,R,S,aJ⟩:=Z;obtain⟨cA,ch,cD,aZ,aG,cg,bD⟩:=aw.q.get (k:=.i64) (i:=i) (e:=lc (decide (i∈out))) (by rw[bW,ys D];rfl);have a0:=one_cell (c:=.bool (decide (i∈out))) (by simpa [lc] using bD);have bp:=av.l8 (enc:=ar) (xs:=out.map (bo g.idsZ.l)) (fun x=>c4 x) (cL (out.map (bo g.idsZ.l))) (by rw[S,oR];simp) (dr _);have bS:cT (cL (out.map (bo g.idsZ.l))):=fun x I=>by
     rw[dr] at I;obtain⟨bv,bY,rfl⟩:=cy.1 I;obtain⟨y,aC,aS⟩:=aP (l:=g.idsZ.l) (k:=bv) (by have:=(az bv bY).1;omega);rw[dG aC];exact ak.idsZ y aS
    have bb:=DB (cL (out.map (bo g.idsZ.l))) bS (by rw[dr];simp;omega) T.ay (ak.opsZ T bm).idsZ (ak.opsZ T bm).len;rw[dr] at bb;have bK:=bU T.ay;have aj:mB g.idsZ.l g.opsZ.l out i=(decide (i∉out)&&ik (out.map (bo g.idsZ.l)) T.ay.l):=by unfold mB;rw[l6 bl]
    simp only[bf] at aG aq av aw bp;by_cases aA:i∈out
    ·simp[bf,aB,D,aZ,aG,a0,aA,a2];intro G al;by_cases aN:G=i
     ·subst aN;rw[aj];simp[aA]
     ·exact O G F
    ·simp[bf,aB,D,aZ,aG,a0,aA,bL,au];refine hg bb (.cons bp (.cons (.same _ bK) .nil)) rfl ?_;by_cases ag:ik (out.map (bo g.idsZ.l)) T.ay.l=true
     ·rw[ag] at aj;obtain⟨y,aC,aS⟩:=aP (l:=g.idsZ.l) (k:=i) F;have bd:bO (.ad 32) (ai g.idsZ) _=_:=dg aC;have ap:=bu (ak.idsZ y aS);obtain⟨Y,a8⟩:=ao (ar y);rw[<-a8] at bd ap;have bX:ax (bT 32 (.int .u8 0)) 0 Y=Y:=cI (by rw[ap];rfl);obtain⟨Q,H⟩:=ao (am.q 2 [ai g.idsZ,bF g.opsZ] ::(rest++[am.q 1 [U.int IntKind.i64 (i:Int)],am.q 32 Y]));have bN:Q.length=rest.length+3:=by rw[H];simp
      have aV:aM 1 Q aE u (out.map ga):=by rw[H];exact aq.more _
      have aW:aM 32 Q aF m ((out.map (bo g.idsZ.l)).map ar):=by rw[H];exact av.more _
      have b5:aM 1 Q bB oz ((nr g.opsZ.l.length out).map lc):=by rw[H];exact aw.more _
      have bj:out=[]->aE=.af/\aF=.af:=fun h=>by rw[h] at R S;exact⟨gC.1 R,gC.1 S⟩
      have cx:oz<rest.length+1:=by
       rcases aw.lt with h | h
       ·rw[h] at aD;cases aD
       ·simpa using h
      obtain⟨u,aV,q1,b6,b7,cB⟩:∃ u,aM 1 Q aE u (out.map ga)/\1<=u/\u≠oz/\(out=[]\/u≠m)/\(u<rest.length+1\/Q.length<=u):=by
       by_cases h:out=[]
       ·have P:=(bj h).1;rw[P,h];exact⟨Q.length,.nil _,F,F,.inl rfl,.inr (aI _)⟩
       ·obtain⟨h1,a5,a6,a7,W⟩:=aJ.resolve_left h;refine⟨u,aV,h1,a7,.inr a6,.inl ?_⟩;rcases aq.lt with C | C
        ·rw[C] at R;cases out with
         | nil=>exact bP rfl h
         | cons=>cases R
        ·simpa using C
      obtain⟨bw,K,b1,w,a3,p,o,t,B⟩:=lM (by_:=8) aV (x:=.ad 1 (rest.length+1) 0 1 1 1) (xs:=[ga i]) (by rw[H];simp[cG,ga]) (by simp[ga]) F F (by rw[aR];simp;omega);obtain⟨jd,rfl⟩:∃ jd,b1=am.q 2 [ai g.idsZ,bF g.opsZ] ::jd:=zt (by rw[o 0 F F,H];rfl);have bI:(am.q 2 [ai g.idsZ,bF g.opsZ] ::jd)[rest.length+2]?=some (.q 32 Y):=by rw[o (rest.length+2) F F,H];simp
      have ck:(am.q 2 [ai g.idsZ,bF g.opsZ] ::jd)[rest.length+1]?=some (.q 1 [.i6 (i:Int)]):=by rw[o (rest.length+1) F F,H];simp
      have bZ:=b5.frame (l':=am.q 2 [ai g.idsZ,bF g.opsZ] ::jd) (fun h=>o oz h (Ne.symm b6));rw[H] at w;simp[ag,bd,ap,bX,aL,w];refine b2.bq ?_;simp;have a9:jd[rest.length+1]?=some (.q 32 Y):=by simpa using bI
      refine⟨⟨a9,F,aL F⟩,?_⟩;have br:bw≠.af:=fun h=>by have:=(B.1 h).2;cases this
      have cr:K<jd.length+1:=by have:=a3.lt.resolve_left br;simpa using this
      have aK:1<=K/\K≠oz:=by rcases t with h | h<;>omega
      obtain⟨m,aW,t1,t2,t3,t4⟩:∃ m,aM 32 (am.q 2 [ai g.idsZ,bF g.opsZ] ::jd) aF m ((out.map (bo g.idsZ.l)).map ar)/\1<=m/\m≠oz/\m≠K/\(m<jd.length+1\/jd.length+1<=m):=by
       by_cases h:out=[]
       ·have P:=(bj h).2;rw[P,h];simp at p;exact⟨jd.length+1,.nil _,F,F,F,.inr (aI _)⟩
       ·obtain⟨h1,a5,a6,a7,W⟩:=aJ.resolve_left h;have cj:m<rest.length+1:=by
         rcases av.lt with C | C
         ·rw[C] at S;cases out with
          | nil=>exact bP rfl h
          | cons=>cases S
         ·simpa using C
        have bH:=b7.resolve_left h;refine⟨m,aW.frame (fun h=>o m h (Ne.symm bH)),a5,W,by rcases t with h | h<;>omega,.inl (by simp at p;omega)⟩
      obtain⟨bA,qN,b3,f1,f2,f3,f4,f5,f6⟩:=lM (by_:=32) aW (x:=.ad 32 (rest.length+1+1) 0 1 1 32) (xs:=[Y]) (by simp[cG,ap,a9,aL]) (by simp[ap]) F F (by rw[aR];simp;omega);obtain⟨w5,rfl⟩:∃ w5,b3=am.q 2 [ai g.idsZ,bF g.opsZ] ::w5:=zt (by rw[f4 0 V F];rfl);have bs:bA≠.af:=fun h=>by have:=(f6.1 h).2;cases this
      have cs:qN<w5.length+1:=by have:=f2.lt.resolve_left bs;simpa using this
      have cb:=a3.frame (l':=am.q 2 [ai g.idsZ,bF g.opsZ] ::w5) (fun h=>f4 K h (Ne.symm t3));have cc:=bZ.frame (l':=am.q 2 [ai g.idsZ,bF g.opsZ] ::w5) (fun h=>f4 oz h (Ne.symm t2));obtain⟨cz,b4,b8,b9,ca,cC,aX⟩:=zz (k:=i) (x:=true) (X:=.bool true) (enc:=lc) rfl cc (fun _ _=>rfl) (by rw[vT];exact D) rfl;simp[f1];refine b2.bq ?_;simp[b8,b9];have aH:qN=m\/jd.length+1<=qN:=by simpa using f5
      have ci:rest.length+3<=jd.length+1:=by rw[bN] at p;simpa using p
      have ce:1<=qN:=by rcases aH with h | h<;>omega
      have bC:qN≠oz:=by rcases aH with h | h<;>omega
      have cf:K≠qN:=by rcases aH with h | h<;>omega
      obtain⟨Dz,rfl⟩:∃ Dz,b4=am.q 2 [ai g.idsZ,bF g.opsZ] ::Dz:=zt (by rw[aX 0 F];rfl);have bQ:hT g.idsZ.l g.opsZ.l out=some i:=Ua D (by rw[aj];simp[aA]) O;have aO:eR g.idsZ.l g.opsZ.l (k+1)=out++[i]:=by rw[wV (by rw[<-J];exact bQ),<-J]
      have cv:k<g.opsZ.l.length:=by
       have C:=(wU g.idsZ.l g.opsZ.l bg al (k+1)).1;rw[aO] at C;have:=pY (b:=List.range g.opsZ.l.length) C (fun x I=>g7.2 (by
        rw[fm,fB] at I;rcases I with I | rfl
        ·exact (az x I).1
        ·exact D))
       simp at this;omega
      have bE:(out++[i]).map ga=out.map ga++[ga i]:=V;have bG:((out++[i]).map (bo g.idsZ.l)).map ar=(out.map (bo g.idsZ.l)).map ar++[Y]:=by
       have bM:bo g.idsZ.l i=y:=dG aC;rw[c5,c5,List.map_singleton,List.map_singleton,bM,a8]
      refine⟨g.opsZ.l.length - (k+1)+1,F,k+1,Dz,rfl,?_,by rw[aO];simp[hk],rfl⟩;rw[aO];refine⟨⟨K,qN,oz,?_,?_,?_,W,aD,?_,?_,.inr ⟨aK.1,ce,cf,aK.2,bC⟩⟩⟩
      ·rw[bE];exact cb.frame (fun h=>aX K aK.2)
      ·rw[bG];exact f2.frame (fun h=>aX qN bC)
      ·rw[<-Qq D];exact ca
      ·cases P:bt bw with
       | true=>exact bP (gC.1 P) br
       | false=>simp
      ·cases P:bt bA with
       | true=>exact bP (gC.1 P) bs
       | false=>simp
     ·rw[xM] at ag;rw[ag] at aj;simp[ag,D,a2];refine⟨rfl,fun G al=>?_⟩;by_cases aN:G=i
      ·subst aN;rw[aj];simp
      ·exact O G F
   ·have cp:i=g.opsZ.l.length:=F;simp[bf,aB,D];have aQ:hT g.idsZ.l g.opsZ.l out=none:=Ub fun G al=>O G F
    refine⟨0,F,k,by rw[<-J];exact Z,by rw[<-J];exact aQ,F,rfl⟩
  ·obtain⟨j,rfl⟩:=gx w p o t B;clear w p o t B;simp;obtain⟨u,m,oz,aq,av,aw,W,aD,R,S,aJ⟩:=Z;have bV:l5 g.idsZ.l g.opsZ.l=out:=by
    unfold l5;have:=Df (k:=k) (by rw[<-J];exact aQ) (g.opsZ.l.length - k);rw[show k+(g.opsZ.l.length - k)=g.opsZ.l.length by omega,<-J] at this;exact this
   rw[bV];exact aq.q.jA (fun x=>rfl) (cL out) (by rw[R,oR]) (dr _)
 ·refine⟨0,_,rfl,V,?_,.inl ⟨V,rfl,rfl⟩⟩;simp;refine⟨⟨0,0,1,.nil 0,.nil 0,?_,F,rfl,rfl,rfl,.inl rfl⟩⟩;show aM _ _ _ _ ((nr g.opsZ.l.length []).map lc);have:(nr g.opsZ.l.length []).map lc=List.replicate g.opsZ.l.length [U.bool false]:=by rw[Qp,xT];rfl
  rw[this];exact bi
end Op
end Go.bh

/-
  slices.Clone and slices.Compact of idsZ: walked.
-/
import Derived.Test.YtdjbnhgdhambnaaGreatDoorXg
set_option maxHeartbeats 16000000
set_option maxRecDepth 100000
set_option linter.unusedVariables false
set_option linter.unusedSimpArgs false
set_option linter.unnecessarySimpa false
namespace Go.bf
open Go Go.Proofs Go.Proofs.Tryz
namespace Op
open b8
theorem vi:∀ a b:List B,a.length=b.length->dn (a.map a7) (b.map a7)=decide (a=b)
 | [],[],_=>rfl
 | [],_::_,h=>by simp at h
 | _::_,[],h=>by simp at h
 | x::a,y::b,h=>by
  have j:=vi a b (by simpa using h);simp only[dh,dn,j,U.beq,oH,nA];by_cases h1:x=y
  ·by_cases g:a=b<;>simp[h1,g]
  ·have:¬ u x=u y:=fun h=>h1 ((jO x y).1 h)
   simp[h1]
theorem qF:∀ a:List B,gv (List.replicate a.length (.i .u8)) (a.map a7)=true
 | []=>rfl
 | x::a=>by
  rw[du,jV,dh];simp only[gv,qF a,w4,oH,kz]
theorem H2:my prog 20 57=some (List.replicate 32 (.i .u8)):=bd
theorem pa {a b:List B} (g:a.length=32) (h:b.length=32) :dP prog .eql 57 (.ah (ao a)) (.ah (ao b))=some (.bool (decide (a=b))):=by unfold ao;rw[te H2 bd bd (by have:=qF a;rwa [g] at this) (by have:=qF b;rwa [h] at this),vi a b F]
theorem qq {a b:List B} (g:a.length=32) (h:b.length=32) :dP prog .neq 57 (.ah (ao a)) (.ah (ao b))=some (.bool (!decide (a=b))):=by unfold ao;rw[AV H2 bd bd (by have:=qF a;rwa [g] at this) (by have:=qF b;rwa [h] at this),vi a b F]
theorem SN (s:bP) :dP prog .eql 23 (b0 32 ao s) .af=some (.bool s.isNone):=vl (e:=57) bd 32 ao s
theorem Tg (l:ae) :b7 32 ao l (l++[.q 0 []]) (.ad 32 l.length 0 0 0 0) ([] :aN) false:=
 ⟨l.length,.ad l.length 0 0 0 [] [] V rfl rfl V (aF _) F rfl,V,fun b g=>aS g,.inr (aF _),rfl⟩
theorem yq (s:bP) (m:cU s) (p:s.l.length<=1000000) {l:ae} {K:cv} (g:∀ v l',b7 32 ao l l' v s.l s.isNone->K v l') :
  cG 80 [ai s] l K:=by
 apply cR func80 [];have o:=dw;cases s with
 | none=>
  simp[ai];exact g _ _ b7.nil
 | some a=>
  simp at p;obtain⟨t,l',h,j,_⟩:=(Tg l).app (by_:=32) (x:=b0 32 ao (some a)) (xs:=a) (qj _ 32 ao (some a)) (fun y q=>br (m y q)) F F (by rw[o];simp;omega);simp[ai,SN,h];refine bY.bo ?_;simp;exact g _ _ (by simpa using j)
def jx (l:aN) (m:Nat) :aN:=(List.range m).flatMap fun k=>if k=0\/bn l k≠bn l (k - 1) then [bn l k] else []
def dQ (l:aN) :aN:=jx l l.length
theorem tu (l:aN) (m:Nat) :jx l (m+1)=jx l m++(if m=0\/bn l m≠bn l (m - 1) then [bn l m] else []):=by unfold jx;rw[sU,xm];simp
theorem Bh (l:aN) :∀ m,(jx l m).length<=m
 | 0=>by simp[jx]
 | m+1=>by
  have:=Bh l m;rw[tu,cg];split<;>simp<;>omega
theorem vA {l:aN}:∀ {m},m<=l.length->(∀ k,1<=k->k<m->bn l k≠bn l (k - 1))->jx l m=l.take m
 | 0,_,_=>by simp[jx]
 | m+1,o,h=>by
  rw[tu,vA F (fun k h1 j=>h k h1 F),eD,aj (by
   by_cases g:m=0
   ·exact .inl g
   ·exact .inr (h m F F))]
  congr 1;unfold bn;rw[gm,bC F];rfl
theorem Gt {l:aN} {k:Nat} (h1:1<=k) (g:bn l k=bn l (k - 1)) :∀ {m},k<m->(jx l m).length<m
 | 0,h=>F
 | m+1,h=>by
  rw[tu,cg];by_cases hk:k=m
  ·subst hk;have:=Bh l k;rw[ak (fun h=>h.elim (fun o=>F) (fun j=>j g))];simp;omega
  ·have:=Gt h1 g (m:=m) F;split<;>simp<;>omega
theorem Pl {l:aN} (j:so l=true) :((dQ l).length=l.length)<->bQ l=true:=by
 unfold so at j;rw[bI] at j;unfold bQ dQ;rw[bI];constructor
 ·intro h k hk h1;have m:=j k hk h1;have p:bn l k≠bn l (k - 1):=fun g=>by
   have:=Gt h1 g hk;omega
  have q:=nX (bn l k) (bn l (k - 1));have t:bD (bn l (k - 1)) (bn l k)≠0:=fun o=>p (nW o).symm
  omega
 ·intro h;rw[vA (aF _) (fun k h1 m g=>by
   have:=h k m h1;rw[<-g,kO] at this;omega),fl]
theorem yr {a:aN} {k:Nat} (h:k<a.length) :(a.map ao)[k]?=some (ao (bn a k)):=by rw[bX];unfold bn;rw[gm,bC h];rfl
theorem vS {a:aN} {k:Nat} (h:k<a.length) :bn a k∈a:=by unfold bn;rw[gm,bC h];exact Ey h
structure Mx (l:ae) (v:U) (xs:aN) (k:Nat) (sgZ:aP) (l1:ae) :Prop where
 kS:sgZ 0=v
 i9:sgZ 3=.i6 ((k+1:Nat) :Int)
 n3:l1=l
 jC:∀ j,1<=j->j<k+1->bn xs j≠bn xs (j - 1)
structure Mw (l:ae) (v o:U) (j:Nat) (xs:aN) (m i:Nat) (sgZ:aP) (h:ae) :Prop where
 kS:sgZ 0=v
 kb:sgZ 4=o
 ja:sgZ 5=.i6 ((i+1:Nat) :Int)
 ex:∃ (k:Nat) (g:aN),sgZ 3=.i6 (k:Int)/\aJ 32 h v j (g.map ao)/\g.length=xs.length/\(∀ y∈g,y.length=32)/\g.take k=jx xs (m+i+1)/\k<=m+i/\(∀ t,m+i<=t->bn g t=bn xs t)/\h.length=l.length/\∀ b,b≠j->h[b]?=l[b]?
theorem Pk {l:ae} {v:U} {j k:Nat} {g:aN} (h:aJ 32 l v j (g.map ao)) (hk:k<g.length) :
  ∃ B o r,dB (.ad 32) v (some (.i6 (k:Int))) none none=some B/\oX (bO 32 (.int .u8 0)) l B=some o/\dB (.ad 32) v none (some (.i6 (k:Int))) none=some r ∧
   aJ 32 o r j ((g.take k).map ao)/\bq r=false/\o.length=l.length/\∀ b,b≠j->o[b]?=l[b]?:=by
 generalize m:g.map ao=I at h;cases h with
 | nil j=>rw[nD] at m;subst m;simp at hk
 | ad j n cap p cs I u ai Y w P R T=>
  subst m;have ap:g.length=n:=by simpa using Y
  have J:gM (.i6 (k:Int)) n=some k:=by
   show (if 0<=(k:Int)/\(k:Int)<=(n:Int) then some (k:Int).toNat else none)=some k;rw[aj ⟨F,F⟩];simp
  have K:gM (.i6 (k:Int)) cap=some k:=by
   show (if 0<=(k:Int)/\(k:Int)<=(cap:Int) then some (k:Int).toNat else none)=some k;rw[aj ⟨F,F⟩];simp
  have C:eY n cap (some (.i6 (k:Int))) none none=some (k,n,cap):=by
   show (match gM (.i6 (k:Int)) n with | none=>none | some l=>some (l,n,cap))=_;rw[J]
  have D:eY n cap none (some (.i6 (k:Int))) none=some (0,k,cap):=by
   show (match gM (.i6 (k:Int)) cap with | none=>none | some h=>some (0,h,cap))=_;rw[K]
  have S:¬ cap=k:=F;have Q:¬ cap=0:=F;have W:j<l.length:=aY u;have X:k*32<=n*32:=cj _ F;have al:n*32<=cap*32:=cj _ P;have Z:(cy (bO 32 (.int .u8 0)) (n - k)).length=(n - k)*32:=by rw[uj];rfl
  have am:k*32+(n - k)*32=n*32:=by rw[<-eI];congr 1;omega
  refine⟨.ad 32 j (k*32) (n - k) (cap - k) p,l.set j (.q p (aw cs (k*32) (cy (bO 32 (.int .u8 0)) (n - k)))),.ad 32 j 0 k cap p,?_,?_,?_,?_,rfl,V,fun b O=>by rw[bp (fun h=>O h.symm)]⟩
  ·rw[sm,C];simp[S]
  ·unfold oX;simp only;rw[ak F];simp[u]
  ·rw[sm,D];simp[Q]
  ·refine .ad j k cap p _ _ (bT W) (by rw[ou F,Z];omega) (by simp;omega) (fun e m=>?_) F R ?_
   ·obtain⟨y,t,rfl⟩:=cF.1 m;exact w _ (sS (gE t))
   ·unfold aw;rw[fc,hU (by rw[cI];omega),mQ,Nat.min_self];have G:cs.take (k*32)=(cs.take (n*32)).take (k*32):=by rw[mQ,iF X]
    have H:g.map ao=(g.take k).map ao++(g.drop k).map ao:=by rw[<-dk,iY]
    have ag:((g.take k).map ao).flatten.length=k*32:=by
     rw[hx (z:=32) (fun e m=>by obtain⟨y,t,rfl⟩:=cF.1 m;exact w _ (sS (gE t)))];simp;omega
    rw[G,T,H,jp,hU F,aI F]
theorem Jb {g:aN} (t:∀ y∈g,y.length=32) (k:Nat) (hk:k<=g.length) {n:Nat} (w:g.length=n) {cs:ag} (j:cs.take (n*32)=(g.map ao).flatten) (v:n*32<=cs.length) :
  cs.take (k*32)=((g.take k).map ao).flatten/\(cs.drop (k*32)).take (n*32 - k*32)=((g.drop k).map ao).flatten:=by
 have p:k*32<=n*32:=cj _ F;have h:g.map ao=(g.take k).map ao++(g.drop k).map ao:=by rw[<-dk,iY]
 have u:((g.take k).map ao).flatten.length=k*32:=by
  rw[hx (z:=32) (fun e o=>by obtain⟨y,q,rfl⟩:=cF.1 o;exact br (t _ (gE q)))];simp;omega
 have m:cs.take (k*32)=(cs.take (n*32)).take (k*32):=by rw[mQ,iF p]
 constructor
 ·rw[m,j,h,jp,hU F,aI F]
 ·rw[<-ra,j,h,jp,nB F,pS F,im]
theorem VV {l:ae} {v:U} {j k:Nat} {g:aN} {x:List B} (h:aJ 32 l v j (g.map ao)) (t:∀ y∈g,y.length=32) (hk:k<g.length) (Q:x.length=32) :
  ∃ p l',bF (.ad 32) v (.i6 (k:Int))=some p/\jm 32 l p (.ah (ao x))=some l'/\aJ 32 l' v j ((g.set k x).map ao)/\l'.length=l.length/\∀ b,b≠j->l'[b]?=l[b]?:=by
 generalize o:g.map ao=G at h;cases h with
 | nil j=>rw[nD] at o;subst o;simp at hk
 | ad j n cap u cs G w W K Z z I C=>
  subst o;have D:g.length=n:=by simpa using K
  have J:j<l.length:=aY w;have m:=br Q;have X:(k+1)*32<=n*32:=cj _ F;have Y:n*32<=cap*32:=cj _ z;have O:(k+1)*32=k*32+32:=by rw[ec]
  obtain⟨f1,_⟩:=Jb t k F D C F;obtain⟨_,f2⟩:=Jb t (k+1) F D C F;refine⟨.ptr j (k*32) u,l.set j (.q u (aw cs (k*32) (ao x))),?_,?_,?_,V,fun b H=>by rw[bp (fun h=>H h.symm)]⟩
  ·simp[bF];omega
  ·unfold jm;simp[w,U.cells,m];omega
  ·refine .ad j n cap u _ _ (bT J) (by rw[ou F,m];omega) (by simp;omega) (fun e o=>?_) z I ?_
   ·obtain⟨y,R,rfl⟩:=cF.1 o;rcases nE R with h | h
    ·exact br (t _ h)
    ·rw[h];exact m
   ·have P:g.set k x=g.take k++(x::g.drop (k+1)):=by rw[re,aj hk]
    rw[P,dk,dh,jp,gR,<-f1,<-f2];unfold aw;have t1:(cs.take (k*32)).length=k*32:=by rw[cI];omega
    have S:(cs.take (k*32)).take (n*32)=cs.take (k*32):=aI (by rw[t1];omega);have T:(ao x).take (n*32 - k*32)=ao x:=aI (by rw[m];omega);rw[fc,m,<-O,pU,t1,S,pU,T,m,show n*32 - k*32 - 32=n*32 - (k+1)*32 by omega]
theorem Gd {l0 l:ae} {v:U} {xs:aN} {a6:Bool} (h:b7 32 ao l0 l v xs a6) (aH:∀ x∈xs,x.length=32) (bS:xs.length<=1000000) {K:cv} (ay:∀ r l',b7 32 ao l0 l' r (dQ xs) a6->K r l') :
  cG 138 [v] l K:=by
 apply cR func138 [];have C:=h.len;by_cases B:xs.length<2
 ·have ax:(xs.length:Int)<2:=F;have aB:dQ xs=xs:=by
   unfold dQ;rw[vA (aF _) (fun k h1 a2=>F),fl]
  simp[C,ax];exact ay _ _ (by rw[aB];exact h)
 ·have ax:¬ (xs.length:Int)<2:=F;simp[C,ax];refine bw (xs.length - 1) (Mx l v xs) ?_ ⟨V,V,rfl,fun j h1 a2=>F⟩;rintro k aL bE hk ⟨z,t,rfl,ag⟩;obtain⟨aL,rfl⟩:=jP z t;clear z t;obtain⟨m,a3⟩:=aq (k+1);rw[<-a3] at ag ⊢;by_cases T:m<xs.length
  ·have a0:IntKind.i64.wrap ((m:Int) - 1)=(k:Int):=by rw[IntKind.wrap_i64];omega
   have bl:=cl (k:=m) F;have W:(m:Int)<(xs.length:Int):=F;obtain⟨j,D,bz⟩:=h;obtain⟨b0,bK,bV,aT,aU,aV,au⟩:=D.q.get (k:=.i64) (yr T);obtain⟨b1,bL,bX,aW,aX,aY,av⟩:=D.q.get (k:=.i64) (yr (a:=xs) (k:=k) F);have R:=pa (aH _ (vS T)) (aH _ (vS (a:=xs) (k:=k) F));obtain⟨am,az⟩:=aq (bn xs m);obtain⟨ap,aA⟩:=aq (bn xs k);rw[<-az] at au R;rw[<-aA] at av R;by_cases P:am=ap
   ·have aD:dP prog .eql 57 (.ah (ao am)) (.ah (ao ap))=some (.bool true):=by rw[R,bW P]
    have H:bq v=false:=by
     cases bx:bq v with
     | false=>rfl
     | true=>
      have:=go.1 bx;subst this;have:=D.q.pn;rw[nD] at this;rw[this] at T;simp at T
    obtain⟨bH,a7,b5,_⟩:=D.q.from H (k:=.i64) (i:=m) (by simp;omega);have aw:jx xs m=xs.take m:=vA F ag;have h1:jx xs (m+1)=xs.take m:=by rw[tu,ak (fun h=>h.elim (fun aw=>F) (fun B=>B (by rw[<-az,show m - 1=k by omega,<-aA];exact P))),aw,eb]
    simp[C,W,a0,aT,aU,aV,au,aW,aX,aY,av,aD,a7];refine bw (xs.length - m - 1) (Mw bE v bH j xs m) ?_ ⟨V,V,V,m,xs,V,D,rfl,aH,h1.symm,F,fun u _=>rfl,rfl,fun b _=>rfl⟩;rintro i aL bU bP ⟨z,J,a1,q,o,t,Z,aJ,I,G,bT,ai,bv,aC⟩;obtain⟨aL,rfl⟩:=e2 z t J a1;clear z t J a1;obtain⟨g,bt⟩:=aq (i+1);rw[<-bt];obtain⟨b6,a8,aK,_⟩:=Z.q.from H (k:=.i64) (i:=m) (by simp;omega);rw[a7] at a8;obtain rfl:=cd a8;have S:=aK.len;rw[iX,cC,aJ] at S;by_cases bQ:g<xs.length - m
    ·have X:(g:Int)<((xs.length - m:Nat) :Int):=F;have a9:IntKind.i64.wrap ((g:Int) - 1)=(i:Int):=by rw[IntKind.wrap_i64];omega
     have bb:=cl (k:=g) F;have bI:=cl (k:=q) F;obtain⟨b2,bM,bY,bc,bd,bf,aM⟩:=aK.get (k:=.i64) (i:=g) (e:=ao (bn o (m+g))) (by rw[gn];exact yr F);obtain⟨b3,bN,bZ,bg,bh,bi,aO⟩:=aK.get (k:=.i64) (i:=i) (e:=ao (bn o (m+i))) (by rw[gn];exact yr F);have al:=I _ (vS (a:=o) (k:=m+g) F);have bC:=I _ (vS (a:=o) (k:=m+i) F);have Y:=qq al bC;have a4:=ai (m+g) F;have a5:=ai (m+i) F;have w:=tu xs (m+g);rw[show m+g - 1=m+i by omega] at w;obtain⟨p,bo⟩:=aq (bn o (m+g));obtain⟨ar,br⟩:=aq (bn o (m+i));rw[<-bo] at aM Y al a4;rw[<-br] at aO Y a5;rw[<-a4,<-a5] at w;rw[show m+i+1=m+g by omega] at G;by_cases Q:p=ar
     ·have aE:dP prog .neq 57 (.ah (ao p)) (.ah (ao ar))=some (.bool false):=by rw[Y];simp[Q]
      rw[ak (fun h=>h.elim (fun aw=>F) (fun B=>B Q)),eb] at w;simp[S,X,a9,bc,bd,bf,aM,bg,bh,bi,aO,aE,bb];exact⟨F,V,V,V,q,o,V,Z,aJ,I,by rw[w];exact G,F,fun u aG=>ai u F,bv,aC⟩
     ·have aE:dP prog .neq 57 (.ah (ao p)) (.ah (ao ar))=some (.bool true):=by rw[Y];simp[Q]
      rw[aj (.inr Q)] at w;obtain⟨b4,bF,aP,aQ,aR,bk,aS⟩:=VV Z I (k:=q) (x:=p) F al;simp[S,X,a9,bc,bd,bf,aM,bg,bh,bi,aO,aE,bb,bI,aP,aQ];have bG:(o.take q).length=q:=by rw[cI];omega
      have bA:(o.set q p).take (q+1)=o.take q++[p]:=by
       rw[re,aj F,pU,bG,aI F,show q+1 - q=1 by omega];simp
      refine⟨F,V,V,V,q+1,o.set q p,V,aR,by simp[aJ],fun y bB=>?_,by rw[bA,w,G],F,fun u aG=>?_,F,fun b O=>(aS b O).trans (aC b O)⟩
      ·rcases nE bB with h | h
       ·exact I _ h
       ·rw[h];exact al
      ·have:=ai u F;unfold bn at this ⊢;rw[gm,bp F,<-gm];exact this
    ·have X:¬ (g:Int)<((xs.length - m:Nat) :Int):=F;obtain⟨b8,bF,r,aP,aQ,aR,bk,aS,b9,bJ⟩:=Pk Z (k:=q) F;simp[S,X,aP,aQ,aR];obtain⟨bO,bm,t,J⟩:=bz;have bu:l0.length<=j:=t.resolve_left (fun h=>by rw[h] at H;cases H);have bs:m+i+1=xs.length:=F;rw[bs] at G;refine ay _ _ ⟨j,by unfold dQ;rw[<-G];exact bk,F,fun b O=>?_,.inr bu,by rw[aS,<-J,H]⟩;rw[bJ b F,aC b F];exact bm b O
   ·have aD:dP prog .eql 57 (.ah (ao am)) (.ah (ao ap))=some (.bool false):=by rw[R,cp P]
    simp[C,W,a0,aT,aU,aV,au,aW,aX,aY,av,aD,bl];refine⟨F,V,by simp[a3],rfl,fun u h1 B=>?_⟩;by_cases aG:u=m
    ·rw[aG,<-az,show m - 1=k by omega,<-aA];exact P
    ·exact ag u h1 F
  ·have W:¬ (m:Int)<(xs.length:Int):=F;have aB:dQ xs=xs:=by
    unfold dQ;rw[vA (aF _) (fun k h1 a2=>ag k h1 F),fl]
   simp[C,W];exact ay _ _ (by rw[aB];exact h)
theorem Vo {l:aN} (h:bQ l=true) :so l=true:=by
 unfold bQ at h;rw[bI] at h;exact KS fun k hk h1=>by
  have:=h k hk h1;have g:=nX (bn l k) (bn l (k - 1));omega
theorem zT (o:aM) (m:dv o) :aV 116 [.ah (au o)] (.i6 (c4 o)):=by
 apply a8 func116 [da 0 7++[[10],[11],[12],[7,11],[8,11],[9]]];unfold c4;have S:=bV o.ay;have B:bt (.ad 32) (ai o.ay)=_:=ca _;have ae:(ai o.ay).cells=some [ai o.ay]:=by cases o.ay<;>rfl
 by_cases h1:4<o.ay.l.length
 ·have v:(4:Int)<(o.ay.l.length:Int):=F;rw[aj h1];simp[au,B,v];exact aG
 ·have v:¬ (4:Int)<(o.ay.l.length:Int):=F;rw[ak h1];simp[au,B,v];refine av (Rq o.ay m.idsZ m.len) (by simp[ar,S,U.ax]) ?_;cases w:so o.ay.l with
  | false=>
   have g:bQ o.ay.l=false:=by
    cases g:bQ o.ay.l with
    | false=>rfl
    | true=>rw[Vo g] at w;cases w
   simp[g];exact aG
  | true=>
   simp[B];refine yq o.ay m.idsZ m.len fun ag W C=>?_
   have R:W[0]?=some (.q 11 (au o)):=by rw[C.same 0 V];rfl
   have H:=R;simp[au] at H;simp[H];refine Gd C m.idsZ m.len fun al X D=>?_
   have Q:X[0]?=some (.q 11 (au o)):=by rw[D.same 0 V];rfl
   have j:=Q;simp[au] at j;have J:=D.len;have I:=Pl w;cases g:bQ o.ay.l with
   | false=>
    have T:¬ ((dQ o.ay.l).length:Int)=(o.ay.l.length:Int):=fun h=>by
     have:=I.1 F;rw[g] at this;cases this
    simp[J,j,T];exact aG
   | true=>
    have heq:((dQ o.ay.l).length:Int)=(o.ay.l.length:Int):=by have:=I.2 g;omega
    simp[J,j,heq];refine av (BX o.dW) rfl ?_;unfold mm;cases Y:eE o.dW with
    | false=>
     simp;exact aG
    | true=>
     have P:((1000000000000:Int)<u o.eP)<->¬ o.eP.toNat<=1000000000000:=by unfold u;omega
     by_cases p:o.eP.toNat<=1000000000000
     ·have t:¬ ((1000000000000:Int)<u o.eP):=fun h=>P.1 h p
      have O:((500000003:Int)<=max (u o.e:Int) (u o.s))<->¬ (eL o.e&&eL o.s)=true:=by
       unfold eL u;simp only[bN,bI];omega
      have K:og (a1 o.e) (a1 o.s)=some (.int .u32 (max (u o.e:Int) (u o.s))):=by
       show (if IntKind.u32=IntKind.u32 then some (U.int .u32 (if (u o.e:Int)<u o.s then u o.s else u o.e)) else none)=_;rw[aj rfl];congr 2;split<;>omega
      cases G:(eL o.e&&eL o.s) with
      | false=>
       have z:(500000003:Int)<=max (u o.e:Int) (u o.s):=O.2 (by rw[G];simp);simp[j,p,t,K,z];exact aG
      | true=>
       have z:¬ (500000003:Int)<=max (u o.e:Int) (u o.s):=fun h=>(O.1 h) G
       simp[j,t,K,z];refine av (OD o.act) rfl ?_;cases Z:hv o.act with
       | false=>
        simp[jy];exact aG
       | true=>
        simp[jy];exact aR (by rw[aj p]) rfl
     ·have t:(1000000000000:Int)<u o.eP:=P.2 p;simp[j,p,t];exact aG
theorem ur (a b:bP) (z:cU a) (B:cU b) (O:a.l.length<=1000000) :aV 35 [ai a,ai b] (.bool (decide (a.l=b.l))):=by
 apply a8 func35 [];simp[ai];by_cases h1:a.l.length=b.l.length
 ·have w:((a.l.length:Int)=b.l.length):=F;simp[h1];refine bw a.l.length (fun k o l=>o 0=b0 32 ao a/\o 1=b0 32 ao b/\o 5=.i6 k/\∀ g,g<k->a.l[g]?=b.l[g]?) ?_ (by simp[ai]);rintro k o l hk ⟨t,u,v,C⟩;obtain⟨s,rfl⟩:=gj t u v;clear t u v;simp;refine gq (fun h=>?_) (fun h=>?_)
  ·simp only[bI] at h;obtain⟨x,m,D⟩:=aQ h;obtain⟨y,q,G⟩:=aQ (l:=b.l) (k:=k) F;have H:=cl (k:=k) F;simp[m,q,br (z x D),br (B y G),aI,qq (z x D) (B y G)];by_cases j:x=y
   ·simp[j,H];refine⟨F,fun g I=>?_⟩;by_cases J:g=k
    ·subst J;rw[m,q,j]
    ·exact C g F
   ·simp[j];refine aR (cm U.bool (cp fun p=>j ?_).symm) rfl;rw[p,q] at m;exact (cd m).symm
  ·simp[h];have K:k=a.l.length:=by simp at h;omega
   refine aR (cm U.bool (bW ?_).symm) rfl;apply g7;intro g;by_cases I:g<a.l.length
   ·exact C g F
   ·rw[dV F,dV F]
 ·have w:¬ ((a.l.length:Int)=b.l.length):=F;simp[w];exact aR (by rw[cp (fun p=>h1 (by rw[p]))]) rfl
def bJ (o:aM) :List B:=if c4 o=0 then fi (e8 o) else List.replicate 32 0#8
theorem pq {o:aM} (h:c4 o=0) :o.ay.l.length<=4:=by
 unfold c4 at h;split at h
 ·cases h
 ·omega
theorem Uu (o:aM) (q:dv o) :aV 110 [.ah (au o)] (.aZ [et (bJ o),.i6 (c4 o)]):=by
 apply a8 func110 [];unfold bJ;have h:=dN o;have w:(bO 32 (.int .u8 0) :ag)=(List.replicate 32 0#8).map a7:=by simp[bO]
 obtain⟨E,j⟩:=aq (au o);have m:E.length=11:=by rw[j];rfl
 have p:=C5 o q;rw[<-j] at p h ⊢;simp[m,aI];refine av p (by simp[ar,U.ax,h]) ?_;by_cases g:c4 o=0
 ·have t:=C4 o q (by have:=pq g;omega);rw[<-j] at t;have u:(fi (e8 o)).length=32:=jk _;simp[g,m,aI];refine av t (by simp[ar,U.ax,h]) ?_;have v:aw (bO 32 (.int .u8 0)) 0 ((fi (e8 o)).map a7)=(fi (e8 o)).map a7:=cH (by rw[cC,u];rfl);simp[et,u,v,aI];exact aR (by rw[aj g,g]) (by simp[U.ax,ar,i7 a7 (fun _=>rfl)])
 ·simp[g,m,aI];refine av p (by simp[ar,U.ax,h]) ?_;simp[et,w];exact aR (by rw[ak g];rfl) (by simp only[U.ax,ar,i7 a7 (fun _=>rfl),kz])
theorem wO {l:ae} {b n:Nat} {g:ag} {k:Nat} {w:U} {kd:cQ} (h:l[b]?=some (.q n g)) (j:g.length=n) (hk:g[k]?=some w) :
  ∃ p cs o,bF (.ad 1) (.ad 1 b 0 n n n) (.int kd (k:Int))=some p/\fM l p=some (cs,o)/\cs[o]?=some w:=by
 have m:k<n:=by rw[<-j];exact (aH.1 hk).1
 refine⟨.ptr b (0+k*1) n,g,0+k*1,?_,?_,by simpa using hk⟩
 ·simp only[bF,fb];rw[aj ⟨trivial,F,F⟩]
 ·simp only[fM,h,if_true]
theorem QM {n:Nat} (C:n<=1000000000) {l:ae} {K:cv} (h:∀ v l',b7 1 bL l l' v ([] :List B) (decide (n=0))->K v l') :cG 219 [.af,.i6 n] l K:=by
 apply cR func219 [];have h1:¬((n:Int)<0):=F;have u:IntKind.i64.wrap (n:Int)=n:=wrap_i64 F F;have w:IntKind.i64.wrap (0:Int)=0:=rfl;by_cases g:n=0
 ·subst g;simp;exact h _ _ b7.nil
 have z:(0:Int)<n:=F;have o:nP l 1 1 [.int .u8 0] .af (.i6 n)=some (.ad 1 l.length 0 n n (n*1),l++[.q (n*1) (cy [.int .u8 0] n)]):=by
  unfold nP ha;simp only[fb];have j:=dw;rw[aj ⟨F,F,by rw[j];omega⟩,ak g,ak F,aj (by rw[j];omega)]
 have m:dB (.ad 1) (.ad 1 l.length 0 n n (n*1)) none (some (.i6 0)) none=some (.ad 1 l.length 0 0 n (n*1)):=by
  rw[sm,A0,aj ⟨F,F⟩];simp[g]
 rw[nH] at o m;have p:0<n:=F;simp[h1,p,u,o,w,m];refine h _ (l++[.q n (cy [.int .u8 0] n)]) ⟨l.length,.ad _ 0 n n (cy [.int .u8 0] n) [] V (by rw[uj];simp) rfl V F F rfl,V,fun b t=>aS t,.inr (aF _),?_⟩;simp[bq,g]
def gX (bs:aN) :List B:=bs.flatten
theorem G3 {bs:aN} {k:Nat} {s:List B} (h:bs[k]?=some s) :gX (bs.take (k+1))=gX (bs.take k)++s:=by unfold gX;rw[eD,h];simp
theorem G2 (bs:aN) (k:Nat) :(gX (bs.take k)).length<=(gX bs).length:=by
 conv=>rhs;rw[<-iY k bs]
 unfold gX;rw[jp,cg];omega
structure jY (l:ae) (w:U) (s:List B) :Prop where
 len:bt (.ad 1) w=some (.i6 s.length)
 Ge:∀ l',l.length<=l'.length->(∀ b,b<l.length->l'[b]?=l[b]?)->cD l' 1 w=some ((s.map bL).flatten,s.length)
theorem tY {l l1:ae} {w:U} {s:List B} {j:Bool} (h:b7 1 bL l l1 w s j) :jY l1 w s:=⟨h.len,fun m h1 g=>(h.frame h1 g).contents⟩
theorem jY.frame {l l1:ae} {w:U} {s:List B} (h:jY l w s) (p:l.length<=l1.length) (m:∀ b,b<l.length->l1[b]?=l[b]?) :jY l1 w s:=
 ⟨h.len,fun o h1 g=>h.Ge o F fun b j=>by rw[g b F];exact m b j⟩
theorem Jd {l:ae} {b:Nat} {x:B} (h:l[b]?=some (.q 1 [a7 x])) :jY l (.ad 1 b 0 1 1 1) [x]:=by have:=aY h;exact⟨rfl,fun j h1 g=>by have:=g b this;rw[h] at this;simp[cD,this,bL]⟩
structure Mt (l:ae) (X:U) (bs:aN) (k:Nat) (sgZ:aP) (l1:ae) :Prop where
 Hl:sgZ 25=X
 BG:sgZ 26=.i6 bs.length
 yk:sgZ 27=.i6 k
 tX:∃ v,sgZ 6=v/\b7 1 bL l l1 v (gX (bs.take k)) (decide ((gX bs).length=0))
theorem Gf {l:ae} {b n:Nat} {G:ag} {bs:aN} (ar:l[b]?=some (.q n G)) (aI:G.length=n) (ay:bs.length=n)
  (aD:∀ (k:Nat) (w:U) (s:List B),G[k]?=some w->bs[k]?=some s->jY l w s) (az:(gX bs).length<=1000000000) (aL:n<=1000000000)
  {K:cv} (ax:∀ v l',b7 1 bL l l' v (gX bs) (decide ((gX bs).length=0))->K v l') :
  cG 172 [.ad 1 b 0 n n n] l K:=by
 apply cR func172 [];have aA:=aY ar;have J:∀ l',l.length<=l'.length->(∀ b,b<l.length->l'[b]?=l[b]?)->∀ k,k<n->∃ w s p cs o,G[k]?=some w/\bs[k]?=some s/\jY l' w s/\bF (.ad 1) (.ad 1 b 0 n n n) (.i6 (k:Int))=some p/\fM l' p=some (cs,o)/\cs[o]?=some w:=by
  intro l' h1 am k hk;obtain⟨w,D,_⟩:=aQ (l:=G) (k:=k) F;obtain⟨s,m,_⟩:=aQ (l:=bs) (k:=k) F;obtain⟨p,cs,o,t,u,z⟩:=wO (kd:=.i64) (l:=l') (by rw[am b aA];exact ar) aI D;exact⟨w,s,p,cs,o,D,m,(aD k w s D m).frame h1 am,t,u,z⟩
 obtain⟨H,ao⟩:=aq (U.ad 1 b 0 n n n);have ap:bt (.ad 1) H=some (.i6 bs.length):=by rw[ao,ay];rfl
 rw[<-ao] at J ⊢;simp[ap];refine bw n (fun k g I=>g 0=H/\g 9=H/\g 10=.i6 bs.length/\g 11=.i6 k/\g 3=.i6 (gX (bs.take k)).length/\I=l) ?_ ?_
 ·rintro k g I hk ⟨T,al,W,X,aj,rfl⟩;obtain⟨g,rfl⟩:=gk T aj al W X;clear T aj al W X;simp;by_cases h:k<bs.length
  ·obtain⟨w,s,p,cs,o,D,m,Q,t,u,z⟩:=J I (aF _) (fun _ _=>rfl) k F;have C:=G3 m;have P:=G2 bs (k+1);rw[C,cg] at P;have aH:IntKind.i64.wrap (((gX (bs.take k)).length:Int)+s.length)=((gX (bs.take k)).length:Int)+s.length:=wrap_i64 F F;have R:IntKind.i64.wrap ((k:Int)+1)=k+1:=wrap_i64 F F;have aB:¬(((gX (bs.take k)).length:Int)+s.length<0):=F;have aE:=Q.len;simp[h,t,u,z,aE,aH,aB,R,C];omega
  ·have O:k=bs.length:=F;subst O;rw[fl];simp;refine QM az ?_;intro v l j;simp[ap];refine bw bs.length (Mt I H bs) ?_ ⟨V,V,V,v,V,by simpa [gX] using j⟩;rintro k g av hk ⟨Y,Z,ai,w,ak,j⟩;obtain⟨g,rfl⟩:=e2 ak Y Z ai;clear ak Y Z ai;simp;by_cases h:k<bs.length
   ·obtain⟨y,s,p,cs,o,D,m,Q,t,u,z⟩:=J av j.le j.same k F;have C:=G3 m;have P:=G2 bs (k+1);rw[C,cg] at P;have R:IntKind.i64.wrap ((k:Int)+1)=k+1:=wrap_i64 F F;have aG:=dw;obtain⟨aJ,aM,aw,S,aK⟩:=j.app (by_:=1) (x:=y) (xs:=s) (Q.Ge av (aF _) fun _ _=>rfl) (by simp[bL]) F F (by rw[aG];omega);simp[h,t,u,z,aw];refine bY.bo ?_;simp[h,R];refine⟨V,V,V,aJ,V,?_⟩;rw[C];have aC:(decide ((gX bs).length=0)&&s.isEmpty)=decide ((gX bs).length=0):=by
     by_cases au:(gX bs).length=0
     ·have:s=[]:=il.1 F;simp[au,this]
     ·simp[au]
    rw[aC] at S;exact S
   ·have O:k=bs.length:=F;subst O;simp;rw[fl] at j;exact ax _ _ j
 ·simp[gX]
def dX (o:aM) :aM:={ o with e:=0#32,s:=0#32 }
theorem LU (o:aM) (p:dv o) (hk:c4 (dX o)=0) {l:ae} {K:cv} (W:∀ w l',b7 1 bL l l' w (ev o) false->K (.aZ [w,.i6 0]) l') :
  cG 117 [.ah (au o)] l K:=by
 apply cR func117 [da 0 4++[[5],[6],[7]]++da 9 4++[[4,12,11,7,0],[8,12,11,0]]];have ao:=dw;have bJ:=gu o.dW.toNat
 have bK:=gu o.eP.toNat
 have bM:=v2 p.idsZ;have bq:dv (dX o):=⟨p.idsZ,p.len,p.val,p.key⟩
 have aN:=zT (dX o) bq;rw[hk] at aN;have bG:o.ay.l.length<=4:=pq (o:=dX o) hk;have a0:bQ o.ay.l=true:=by
  unfold c4 at hk;have I:(dX o).ay=o.ay:=rfl;rw[I,ak F] at hk;cases j:bQ o.ay.l with
  | true=>rfl
  | false=>rw[j] at hk;cases hk
 have bz:(BitVec.setWidth 64 o.dW).toNat=o.dW.toNat:=by rw[eH];exact dH (by have:=o.dW.isLt;omega)
 have bm:=dN (dX o);have bp:l.length<(l++[am.q 11 (au (dX o))]).length:=V;have bi:(l++[am.q 11 (au (dX o))])[l.length]?=some (.q 11 (au (dX o))):=V;simp[au];refine av aN (show ar [U.ah (au (dX o))]=true by simp[ar,U.ax,bm]) ?_;simp;refine XO o.ay p.idsZ F a0 fun aA g h1=>?_
 have ag:g[l.length]?=some (.q 11 (au (dX o))):=by rw[h1.same _ bp];exact bi
 have aQ:l.length<g.length:=by have:=h1.le;simp at this;omega
 have br:=ag;simp[au,dX] at br;have bu:(g++[am.q 1 [U.int .u8 111]])[l.length]?=some (.q 11 (au (dX o))):=by rw[aS aQ];exact ag
 have bI:l.length<(g++[am.q 1 [U.int .u8 111]]).length:=by simp;omega
 have aX:=bu;simp[au,dX] at aX;simp[aX];have bw:(g++[am.q 1 [U.int .u8 111],am.q 1 [U.int .u8 (u o.act.kind)]])[l.length]?=some (.q 11 (au (dX o))):=by rw[aS aQ];exact ag
 have bv:(g++[am.q 1 [U.int .u8 111],am.q 1 [U.int .u8 (u o.act.kind)]])[g.length]?=some (.q 1 [.int .u8 111]):=V;have bx:(g++[am.q 1 [U.int .u8 111],am.q 1 [U.int .u8 (u o.act.kind)]])[g.length+1]?=some (.q 1 [.int .u8 (u o.act.kind)]):=V;have z:(g++[am.q 1 [U.int .u8 111],am.q 1 [U.int .u8 (u o.act.kind)]]).length=g.length+2:=V;refine sA _ fun aB ap m=>?_
 rw[bz] at m;have aO:=m.le;rw[z] at aO;have aR:ap[l.length]?=some (.q 11 (au (dX o))):=by rw[m.same _ (by rw[z];omega)];exact bw
 have aG:ap[g.length]?=some (.q 1 [.int .u8 111]):=by rw[m.same _ (by rw[z];omega)];exact bv
 have aH:ap[g.length+1]?=some (.q 1 [.int .u8 (u o.act.kind)]):=by rw[m.same _ (by rw[z];omega)];exact bx
 have aT:=aR;simp[au,dX] at aT;simp[aT,aG,aH];refine sA _ fun aC t j=>?_
 have aP:=j.le;have ci:t[l.length]?=some (.q 11 (au (dX o))):=by rw[j.same _ F];exact aR
 have aI:t[g.length]?=some (.q 1 [.int .u8 111]):=by rw[j.same _ F];exact aG
 have aJ:t[g.length+1]?=some (.q 1 [.int .u8 (u o.act.kind)]):=by rw[j.same _ F];exact aH
 have aU:=ci;simp[au,dX] at aU;simp[aU,aI,aJ,h1.cells,m.cells,j.cells,aw];obtain⟨L,Q⟩:=aq (t++[am.q 5 [.ad 1 g.length 0 1 1 1,aB,aA,aC,.ad 1 (g.length+1) 0 1 1 1]]);have X:t.length<=L.length:=by rw[Q];simp
 have B:∀ b,b<t.length->L[b]?=t[b]?:=fun b J=>by rw[Q,aS J]
 have bf:L[t.length]?=some (.q 5 [.ad 1 g.length 0 1 1 1,aB,aA,aC,.ad 1 (g.length+1) 0 1 1 1]):=by rw[Q];simp
 rw[<-Q];have a2:jY L (.ad 1 g.length 0 1 1 1) [111#8]:=Jd (by rw[B _ F];exact aI);have a6:jY L (.ad 1 (g.length+1) 0 1 1 1) [o.act.kind]:=Jd (by rw[B _ F];exact aJ);have a3:jY L aB (dq o.dW.toNat):=((tY m).frame aP j.same).frame X B;have a4:jY L aA (nf o.ay.l):=((((tY h1).frame (l1:=g++[am.q 1 [U.int .u8 111],am.q 1 [U.int .u8 (u o.act.kind)]]) (by rw[z];omega) (fun b J=>aS J)).frame (by rw[z];exact aO) m.same).frame aP j.same).frame X B;have a5:jY L aC (dq o.eP.toNat):=(tY j).frame X B;have aW:L[l.length]?=some (.q 11 (au (dX o))):=by rw[B _ F];exact ci
 obtain⟨M,Y⟩:=aq (gX [[111#8],dq o.dW.toNat,nf o.ay.l,dq o.eP.toNat,[o.act.kind]]);have Z:M=[111#8]++dq o.dW.toNat++nf o.ay.l++dq o.eP.toNat++[o.act.kind]:=by rw[Y];simp[gX]
 have bF:M.length<=40000:=by rw[Z];simp only[cg,du,hI];omega
 have bh:M.length≠0:=by rw[Z];simp
 refine Gf (bs:=[[111#8],dq o.dW.toNat,nf o.ay.l,dq o.eP.toNat,[o.act.kind]]) bf rfl rfl ?_ (by rw[<-Y];omega) F fun bE az P=>?_
 ·intro k w s G O;rcases k with _ | _ | _ | _ | _ | k
  ·obtain rfl:=cd G;obtain rfl:=cd O;exact a2
  ·obtain rfl:=cd G;obtain rfl:=cd O;exact a3
  ·obtain rfl:=cd G;obtain rfl:=cd O;exact a4
  ·obtain rfl:=cd G;obtain rfl:=cd O;exact a5
  ·obtain rfl:=cd G;obtain rfl:=cd O;exact a6
  ·cases G
 rw[<-Y,cp bh] at P;have bg:l.length<=L.length:=F;have aK:b7 1 bL l az bE M false:=P.base bg fun b J=>by
  have bk:b<g.length:=F;rw[B b F,j.same b F,m.same b (by rw[z];omega),aS bk,h1.same b (by simp;omega),aS J]
 have aV:az[l.length]?=some (.q 11 (au (dX o))):=by rw[P.same _ F];exact aW
 have bH:l.length<az.length:=aY aV;have ai:=aV;simp[au,dX] at ai;have C:ev o=M++(if o.act.kind=1#8 then [] else g4 (dT o.act.key))++(if o.act.kind=4#8 then g5 o.act.val else []):=by rw[Z];rfl
 have bA:=uB (dT o.act.key);rw[mL] at bA;have bn:=p.key;have bO:=w8 o.act.val;have bP:=p.val.2.2;have bl:rB (.str o.act.key)=some (.bj 1 ((dT o.act.key).map bL)):=by
  show some (U.bj 1 (o.act.key.map fun b=>[hb b]))=_;rw[zJ]
 by_cases H:o.act.kind=1#8
 ·have I:(u o.act.kind:Int)=1:=(gQ o.act.kind).2 H;have v:¬ o.act.kind=4#8:=by rw[H];decide
  rw[aj H,ak v,eb,eb] at C;simp[ai,I];exact W _ _ (by rw[C];exact aK)
 ·have I:¬ (u o.act.kind:Int)=1:=fun h=>H ((gQ o.act.kind).1 h)
  rw[ak H] at C;simp[ai,I,bl];refine LP (some (dT o.act.key)) (by simpa [mL] using bn) (by simp[cD]) V (fun l' _ _=>by simp[cD]) fun a1 fu D=>?_
  obtain⟨bW,bB,aD,R,_⟩:=(aK.frame D.le D.same).app (by_:=1) (x:=a1) (xs:=g4 (dT o.act.key)) D.contents (by simp[bL]) F F (by rw[ao];omega);have a9:=(P.frame D.le D.same).app (by_:=1) (x:=a1) (xs:=g4 (dT o.act.key)) D.contents (by simp[bL]) F F (by rw[ao];omega);obtain⟨bX,bU,aE,bb,_⟩:=a9;rw[aD] at aE;obtain⟨rfl,rfl⟩:=u0 (cd aE);have bt:bB[l.length]?=some (.q 11 (au (dX o))):=by rw[bb.same _ F];exact aW
  have al:=bt;simp[au,dX] at al;simp[aD];refine bY.bo ?_;simp only[q8] at R;by_cases v:o.act.kind=4#8
  ·have S:(u o.act.kind:Int)=4:=(qX o.act.kind).2 v;rw[aj v] at C;have aL:hv o.act=true:=by
    cases h:hv o.act with
    | true=>rfl
    | false=>
     unfold c4 at hk;have bc:(dX o).ay=o.ay:=rfl;have bd:(dX o).act=o.act:=rfl;rw[bc,ak F,a0,aj rfl] at hk;unfold mm at hk;rw[bd,h] at hk;simp at hk
   rw[ve v,bN] at aL;simp[al,S];refine XV o.act.val p.val aL.2 fun bC bS T=>?_
   obtain⟨bV,bT,a7,a8,_⟩:=(R.frame T.le T.same).app (by_:=1) (x:=bC) (xs:=g5 o.act.val) T.contents (by simp[bL]) F F (by rw[ao];simp only[cg];omega);simp[a7];refine bY.bo ?_;simp;exact W _ _ (by rw[C];exact a8)
  ·have S:¬ (u o.act.kind:Int)=4:=fun h=>v ((qX o.act.kind).1 h)
   rw[ak v,eb] at C;simp[al,S];exact W _ _ (by rw[C];exact R)
theorem Fz {o:aM} (h:c4 o=0) :c4 (dX o)=0:=by
 unfold c4 at h ⊢;have g:(dX o).ay=o.ay:=rfl;rw[g];have p:mm o=true->mm (dX o)=true:=by
  unfold mm dX;simp only[bN];rintro⟨a,b,c,d,e⟩;exact⟨a,b,c,by decide,by decide⟩
 split at h
 ·cases h
 ·rename_i h1;rw[ak h1];split at h
  ·rename_i j;rw[aj j];split at h
   ·rename_i m;rw[aj (p m)]
   ·cases h
  ·cases h
theorem PU {o:aM} (h:c4 o=0) :hv o.act=true:=by
 unfold c4 at h;split at h
 ·cases h
 ·split at h
  ·split at h
   ·rename_i g;unfold mm at g;simp only[bN] at g;exact g.2.2.1
   ·cases h
  ·cases h
theorem B7 {s:List UInt8} (h:hh s=true) :s.length<=20:=by unfold hh at h;simp only[bN,bI] at h;omega
theorem GM {o:aM} (C:dv o) (h:c4 o=0) :(e8 o).length<=1000:=by
 have h1:=gu o.dW.toNat
 have G:=gu o.eP.toNat
 have H:=v2 C.idsZ;have B:=uB (dT o.act.key);rw[mL] at B;have I:=w8 o.act.val;have K:=pq h;have J:=gu o.e.toNat
 have O:=gu o.s.toNat
 have j:=PU h;have D:(if o.act.kind=1#8 then [] else g4 (dT o.act.key)).length<=100:=by
  split
  ·simp
  ·rename_i z;have:o.act.key.length<=20:=by
    by_cases q:o.act.kind=2#8
    ·rw[AK q,bN] at j;exact B7 j.1
    ·by_cases t:o.act.kind=3#8
     ·rw[AL t,bN] at j;exact B7 j.1
     ·by_cases m:o.act.kind=4#8
      ·rw[ve m,bN] at j;exact B7 j.1
      ·rw[AM z q t m] at j;cases j
   omega
 have F:(if o.act.kind=4#8 then g5 o.act.val else []).length<=100:=by
  split
  ·rename_i m;rw[ve m,bN] at j;have g:=j.2;have:o.act.val.text.length<=30:=by
    by_cases v:o.act.val.kind=1#8
    ·rw[Ec v] at g;simp only[bN,bI] at g;rw[g.2];simp
    ·by_cases w:o.act.val.kind=2#8
     ·rw[Ed w] at g;simp only[bN,bI] at g;rw[g.2.2];simp
     ·by_cases p:o.act.val.kind=3#8
      ·by_cases u:o.act.val.text.length<=30
       ·exact u
       ·rw[LM p] at g;unfold ow at g;rw[ak u] at g;simp only[bN,l3] at g;have:=g.1;rw[p] at this;exact bK this (by decide)
      ·rw[Ee v w p] at g;cases g
   omega
  ·simp
 unfold e8 ev opHead;simp only[cg,du,hI];omega
theorem XL (o:aM) (z:dv o) (hk:c4 o=0) {l:ae} {K:cv} (X:∀ w l',b7 1 bL l l' w (e8 o) false->K (.aZ [w,.i6 0]) l') :
  cG 149 [.ah (au o)] l K:=by
 apply cR func149 [da 0 5++da 6 4++[[5,9,8]]];have O:=zT o z;rw[hk] at O;have ai:=dN o;have az:=GM z hk;have ao:(BitVec.setWidth 64 o.e).toNat=o.e.toNat:=by rw[eH];exact dH (by have:=o.e.isLt;omega)
 have ap:(BitVec.setWidth 64 o.s).toNat=o.s.toNat:=by rw[eH];exact dH (by have:=o.s.isLt;omega)
 have aj:l.length<(l++[am.q 11 (au o)]).length:=V;have ag:(l++[am.q 11 (au o)])[l.length]?=some (.q 11 (au o)):=V;simp[au];refine av O (show ar [U.ah (au o)]=true by simp[ar,U.ax,ai]) ?_;simp;refine LU o z (Fz hk) fun D R h1=>?_
 have B:R[l.length]?=some (.q 11 (au o)):=by rw[h1.same _ aj];exact ag
 have ak:l.length<R.length:=aY B;have P:=B;simp[au] at P;simp[P];refine sA _ fun G ay h=>?_
 rw[ao] at h;have al:ay[l.length]?=some (.q 11 (au o)):=by rw[h.same _ ak];exact B
 have Q:=al;simp[au] at Q;simp[Q];refine sA _ fun H j g=>?_
 rw[ap] at g;simp[h1.cells,h.cells,g.cells,aw];obtain⟨L,m⟩:=aq (j++[am.q 3 [D,G,H]]);have u:j.length<=L.length:=by rw[m];simp
 have p:∀ b,b<j.length->L[b]?=j[b]?:=fun b v=>by rw[m,aS v]
 have Y:L[j.length]?=some (.q 3 [D,G,H]):=by rw[m];simp
 rw[<-m];have S:jY L D (ev o):=(((tY h1).frame h.le h.same).frame g.le g.same).frame u p;have T:jY L G (dq o.e.toNat):=((tY h).frame g.le g.same).frame u p;have W:jY L H (dq o.s.toNat):=(tY g).frame u p;have J:gX [ev o,dq o.e.toNat,dq o.s.toNat]=e8 o:=by simp[gX,e8]
 have Z:(e8 o).length≠0:=by unfold e8 ev opHead;simp
 refine Gf (bs:=[ev o,dq o.e.toNat,dq o.s.toNat]) Y rfl rfl ?_ (by rw[J];omega) F fun aB aA I=>?_
 ·intro k w s t C;rcases k with _ | _ | _ | k
  ·obtain rfl:=cd t;obtain rfl:=cd C;exact S
  ·obtain rfl:=cd t;obtain rfl:=cd C;exact T
  ·obtain rfl:=cd t;obtain rfl:=cd C;exact W
  ·cases t
 rw[J,cp Z] at I;simp;refine X _ _ (I.base ?_ fun b v=>?_)
 ·have:=h.le;have:=g.le;omega
 ·have:=h.le;have:=g.le;rw[p b F,g.same b F,h.same b F,h1.same b (by simp;omega),aS v]
theorem XK (o:aM) (p:dv o) (hk:¬ c4 o=0) :aV 149 [.ah (au o)] (.aZ [.af,.i6 (c4 o)]):=by
 apply a8 func149 [da 0 5++da 6 4++[[5,9,8]]];have h:=zT o p;have j:=dN o;obtain⟨E,g⟩:=aq (au o);have m:E.length=11:=by rw[g];rfl
 rw[<-g] at h j ⊢;simp[m,aI];refine av h (by simp[ar,U.ax,j]) ?_;simp[hk];exact aG
theorem uG (o:aM) (j:dv o) :aV 97 [.ah (au o)] (.aZ [et (bJ o),.i6 (c4 o)]):=by
 apply a8 func97 [];unfold bJ;have t:=dN o;have C:(bO 32 (.int .u8 0) :ag)=(List.replicate 32 0#8).map a7:=by simp[bO]
 obtain⟨E,h⟩:=aq (au o);have m:E.length=11:=by rw[h];rfl
 by_cases g:c4 o=0
 ·have D:=GM j g;have v:(fi (e8 o)).length=32:=jk _;rw[<-h];simp[m,aI];rw[h];refine XL o j g fun F w h1=>?_
  rw[<-h] at h1;have p:w[1]?=some (.q 32 (bO 32 (.int .u8 0))):=by rw[h1.same 1 V];rfl
  simp;refine g0 (WO (some (e8 o)) (by simp;omega)) (.cons (h1.mH (fun _=>rfl) (some (e8 o)) rfl rfl) .nil) (by simp[U.flat,ka,et,tA a7 (fun _=>rfl)]) ?_;have B:aw (bO 32 (.int .u8 0)) 0 ((fi (e8 o)).map a7)=(fi (e8 o)).map a7:=cH (by rw[cC,v];rfl);have z:(w.set 1 (am.q 32 ((fi (e8 o)).map a7)))[1]?=some (.q 32 ((fi (e8 o)).map a7)):=bT (aY p);simp[p,et,v,B,z,aI];exact aR (by rw[aj g,g]) (by simp[U.ax,ar,i7 a7 (fun _=>rfl)])
 ·have u:=XK o j g;rw[<-h] at u t ⊢;simp[m,aI];refine av u (by simp[ar,U.ax,t]) ?_;simp[g,et,C];exact aR rfl (by simp only[U.ax,ar,kz])
end Op
end Go.bf
namespace Go.bf
open Go Go.Proofs Go.Proofs.Tryz Go.RowKit
namespace Op
open b8
theorem Lw {P:bg} {t:aC} {ts:List aC} {cs:ag} (j:P.underlying t=some .string) (h:cW P (t::ts) cs) :∃ s cs',cs=.str s::cs'/\cW P ts cs':=by
 cases h
 case str s cs' g m h=>exact⟨_,_,rfl,h⟩
 all_goals (exfalso;simp_all;done)
theorem Ea {ts:List aC} {cs:ag} (h:cW prog (5::ts) cs) :∃ (x:B) (cs' : ag),cs=a7 x::cs'/\cW prog ts cs':=by
 obtain⟨k,g,rfl,h1,j,m⟩:=nu (k:=.u8) bd h;have o:(0:Int)<=k:=h1;have p:k<=255:=j;refine⟨BitVec.ofNat 8 k.toNat,g,?_,m⟩;have:((BitVec.ofNat 8 k.toNat).toNat:Int)=k:=by
  rw[e3,dH F];omega
 simp[a7,u];omega
theorem D7 {ts:List aC} {cs:ag} (h:cW prog (57::ts) cs) :∃ (x:List B) (cs' : ag),cs=x.map a7++cs'/\x.length=32/\cW prog ts cs':=by have h1:=Xc (e:=5) (n:=32) bd h;exact Lv bd 32 h1
theorem w5 {ts:List aC} {cs:ag} (h:cW prog (23::ts) cs) :∃ (s:bP) (cs' : ag),cs=ai s::cs'/\cU s/\cW prog ts cs':=by
 obtain⟨s,cs',rfl,_,h1,g⟩:=w6 (e:=57) (z:=32) (enc:=ao) (Q:=fun x=>x.length=32) bd bd (fun r m=>by
  obtain⟨x,cs',rfl,o,j⟩:=D7 m;rw[sv j,eb];exact⟨x,rfl,o⟩) h
 exact⟨s,cs',rfl,h1,g⟩
theorem D9 {ts:List aC} {cs:ag} (h:cW prog (46::ts) cs) :∃ (x:D) (cs' : ag),cs=a1 x::cs'/\cW prog ts cs':=by
 obtain⟨k,g,rfl,h1,j,m⟩:=nu (k:=.u32) bd h;have o:(0:Int)<=k:=h1;have p:k<=4294967295:=j;refine⟨BitVec.ofNat 32 k.toNat,g,?_,m⟩;have:((BitVec.ofNat 32 k.toNat).toNat:Int)=k:=by
  rw[e3,dH F];omega
 simp[a1,u];omega
structure vc (o:aM) :Prop where
 idsZ:cU o.ay
 hy:-9223372036854775808<=o.act.val.num
 qy:o.act.val.num<9223372036854775808
theorem Xi {ts:List aC} {cs:ag} (h:cW prog (49::ts) cs) :∃ (v:gL) (cs' : ag),cs=[a7 v.kind,.i6 v.num,cX v.bits,.str v.text]++cs'/\(-9223372036854775808<=v.num/\v.num<9223372036854775808)/\cW prog ts cs':=by have h1:=nv (fs:=[5,2,47,9]) bd h;obtain⟨k,_,rfl,g⟩:=Ea h1;obtain⟨n,_,rfl,p,q,j⟩:=nu (k:=.i64) bd g;obtain⟨b,_,rfl,m⟩:=Lx j;obtain⟨s,_,rfl,o⟩:=Lw bd m;have t:n<=9223372036854775807:=q;exact⟨⟨k,n,b,s⟩,_,rfl,⟨p,by show n<9223372036854775808;omega⟩,o⟩
theorem Xb {ts:List aC} {cs:ag} (h:cW prog (51::ts) cs) :∃ (a:Act) (cs' : ag),cs=[a7 a.kind,.str a.key,a7 a.val.kind,.i6 a.val.num,cX a.val.bits,.str a.val.text]++cs'/\(-9223372036854775808<=a.val.num/\a.val.num<9223372036854775808)/\cW prog ts cs':=by have h1:=nv (fs:=[5,9,49]) bd h;obtain⟨k,_,rfl,g⟩:=Ea h1;obtain⟨s,_,rfl,j⟩:=Lw bd g;obtain⟨p,_,rfl,o,m⟩:=Xi j;exact⟨⟨k,s,p⟩,_,rfl,o,m⟩
theorem D8 {ts:List aC} {cs:ag} (h:cW prog (55::ts) cs) :∃ (o:aM) (cs' : ag),cs=au o++cs'/\vc o/\cW prog ts cs':=by have h1:=nv (fs:=[46,23,47,51,53]) bd h;obtain⟨a,_,rfl,j⟩:=D9 h1;obtain⟨z,_,rfl,w,m⟩:=w5 j;obtain⟨n,_,rfl,p⟩:=Lx m;obtain⟨c,_,rfl,g,q⟩:=Xb p;have t:=nv (fs:=[46,46]) bd q;obtain⟨x,_,rfl,u⟩:=D9 t;obtain⟨y,cs',rfl,v⟩:=D9 u;exact⟨⟨a,z,n,c,x,y⟩,cs',by simp[au],⟨w,g.1,g.2⟩,v⟩
end Op
end Go.bf
namespace Go.bf
open Go Go.Proofs Go.Proofs.Tryz
open b8 Op
def wF (a n:Nat) :Nat->Nat
 | 0=>1
 | k+1=>match Nat.beq (n / 2 ^ (63 - k) % 2) 1 with
  | true=>((wF a n k) ^ 2 % 1000000007)*a % 1000000007
  | false=>(wF a n k) ^ 2 % 1000000007
theorem CR (a n:Nat) (j:n<2 ^ 64) :∀ k,k<=64->wF a n k=eh a (n / 2 ^ (64 - k))
 | 0,_=>by
  have:n / 2 ^ (64 - 0)=0:=pV j;rw[this];rfl
 | k+1,hk=>by
  have o:=CR a n j k F;have g:=Hp n k F;have e:64 - (k+1)=63 - k:=F;rw[e];unfold wF;rw[o,Nat.pow_two,Jl];split
  ·rename_i h;have h1:=l7 h;rw[Jk,g,h1]
  ·rename_i h;have h1:n / 2 ^ (63 - k) % 2≠1:=fun m=>by rw[m] at h;cases h
   rw[g];congr 1;omega
namespace Op
open b8
section
variable {alZ:Type} {z:Nat} {enc:alZ->ag}
theorem I2 {l:ae} {v:U} {j k:Nat} {g:List alZ} {zr:ag} (B:zr.length=z) (h:aJ z l v j (g.map enc)) (hk:k<g.length) :
  ∃ C o r,dB (.ad z) v (some (.i6 (k:Int))) none none=some C/\oX zr l C=some o/\dB (.ad z) v none (some (.i6 (k:Int))) none=some r ∧
   aJ z o r j ((g.take k).map enc)/\bq r=false/\o.length=l.length/\∀ b,b≠j->o[b]?=l[b]?:=by
 generalize m:g.map enc=J at h;cases h with
 | nil j=>rw[nD] at m;subst m;simp at hk
 | ad j n cap p cs J u am Z w Q S W=>
  subst m;have aq:g.length=n:=by simpa using Z
  have K:gM (.i6 (k:Int)) n=some k:=by
   show (if 0<=(k:Int)/\(k:Int)<=(n:Int) then some (k:Int).toNat else none)=some k;rw[aj ⟨F,F⟩];simp
  have O:gM (.i6 (k:Int)) cap=some k:=by
   show (if 0<=(k:Int)/\(k:Int)<=(cap:Int) then some (k:Int).toNat else none)=some k;rw[aj ⟨F,F⟩];simp
  have D:eY n cap (some (.i6 (k:Int))) none none=some (k,n,cap):=by
   show (match gM (.i6 (k:Int)) n with | none=>none | some l=>some (l,n,cap))=_;rw[K]
  have G:eY n cap none (some (.i6 (k:Int))) none=some (0,k,cap):=by
   show (match gM (.i6 (k:Int)) cap with | none=>none | some h=>some (0,h,cap))=_;rw[O]
  have T:¬ cap=k:=F;have R:¬ cap=0:=F;have X:j<l.length:=aY u;have Y:k*z<=n*z:=cj _ F;have ao:n*z<=cap*z:=cj _ Q;have ai:(cy zr (n - k)).length=(n - k)*z:=by rw[uj,B]
  have ap:k*z+(n - k)*z=n*z:=by rw[<-eI];congr 1;omega
  refine⟨.ad z j (k*z) (n - k) (cap - k) p,l.set j (.q p (aw cs (k*z) (cy zr (n - k)))),.ad z j 0 k cap p,?_,?_,?_,?_,rfl,V,fun b P=>by rw[bp (fun h=>P h.symm)]⟩
  ·rw[sm,D];simp[T]
  ·unfold oX;simp only;rw[ak F];simp[u,B]
  ·rw[sm,G];simp[R]
  ·refine .ad j k cap p _ _ (bT X) (by rw[ou F,ai];omega) (by simp;omega) (fun e m=>?_) F S ?_
   ·obtain⟨y,t,rfl⟩:=cF.1 m;exact w _ (sS (gE t))
   ·unfold aw;rw[fc,hU (by rw[cI];omega),mQ,Nat.min_self];have H:cs.take (k*z)=(cs.take (n*z)).take (k*z):=by rw[mQ,iF Y]
    have I:g.map enc=(g.take k).map enc++(g.drop k).map enc:=by rw[<-dk,iY]
    have al:((g.take k).map enc).flatten.length=k*z:=by
     rw[hx (z:=z) (fun e m=>by obtain⟨y,t,rfl⟩:=cF.1 m;exact w _ (sS (gE t)))];rw[cC,cI,iF F]
    rw[H,W,I,jp,hU F,aI F]
theorem I3 {g:List alZ} (t:∀ y∈g,(enc y).length=z) (k:Nat) (hk:k<=g.length) {n:Nat} (w:g.length=n) {cs:ag} (j:cs.take (n*z)=(g.map enc).flatten) (v:n*z<=cs.length) :
  cs.take (k*z)=((g.take k).map enc).flatten/\(cs.drop (k*z)).take (n*z - k*z)=((g.drop k).map enc).flatten:=by
 have p:k*z<=n*z:=cj _ F;have h:g.map enc=(g.take k).map enc++(g.drop k).map enc:=by rw[<-dk,iY]
 have u:((g.take k).map enc).flatten.length=k*z:=by
  rw[hx (z:=z) (fun e o=>by obtain⟨y,q,rfl⟩:=cF.1 o;exact t _ (gE q))];rw[cC,cI,iF F]
 have m:cs.take (k*z)=(cs.take (n*z)).take (k*z):=by rw[mQ,iF p]
 constructor
 ·rw[m,j,h,jp,hU F,aI F]
 ·rw[<-ra,j,h,jp,nB F,pS F,im]
theorem y6 {l:ae} {v:U} {j k:Nat} {g:List alZ} {x:alZ} {X:U} (H:X.cells=some (enc x)) (h:aJ z l v j (g.map enc)) (t:∀ y∈g,(enc y).length=z) (hk:k<g.length) (R:(enc x).length=z) :
  ∃ p l',bF (.ad z) v (.i6 (k:Int))=some p/\jm z l p (X)=some l'/\aJ z l' v j ((g.set k x).map enc)/\l'.length=l.length/\∀ b,b≠j->l'[b]?=l[b]?:=by
 generalize o:g.map enc=G at h;cases h with
 | nil j=>rw[nD] at o;subst o;simp at hk
 | ad j n cap u cs G w Y O ai B J C=>
  subst o;have D:g.length=n:=by simpa using O
  have K:j<l.length:=aY w;have m:=R;have Z:(k+1)*z<=n*z:=cj _ F;have ag:n*z<=cap*z:=cj _ B;have P:(k+1)*z=k*z+z:=by rw[ec]
  obtain⟨f1,_⟩:=I3 t k F D C F;obtain⟨_,f2⟩:=I3 t (k+1) F D C F;refine⟨.ptr j (k*z) u,l.set j (.q u (aw cs (k*z) (enc x))),?_,?_,?_,V,fun b I=>by rw[bp (fun h=>I h.symm)]⟩
  ·simp[bF];omega
  ·unfold jm;simp[w,H,m];omega
  ·refine .ad j n cap u _ _ (bT K) (by rw[ou F,m];omega) (by simp;omega) (fun e o=>?_) B J ?_
   ·obtain⟨y,S,rfl⟩:=cF.1 o;rcases nE S with h | h
    ·exact t _ h
    ·rw[h];exact m
   ·have Q:g.set k x=g.take k++(x::g.drop (k+1)):=by rw[re,aj hk]
    rw[Q,dk,dh,jp,gR,<-f1,<-f2];unfold aw;have t1:(cs.take (k*z)).length=k*z:=by rw[cI];omega
    have T:(cs.take (k*z)).take (n*z)=cs.take (k*z):=aI (by rw[t1];omega);have W:(enc x).take (n*z - k*z)=enc x:=aI (by rw[m];omega);rw[fc,m,<-P,pU,t1,T,pU,W,m,show n*z - k*z - z=n*z - (k+1)*z by omega]
end
end Op
theorem Oj {P:bg} {G:Nat->U} {f:cb} {args:ag} {h h' n2:aE} {r j:U} (q:jq P G f args h r h') (wk:ir h' n2) (u:ip h' n2 r j) :jq P G f args h j n2:=by intro m B w muZ D rel p t z;refine (q m B w muZ D rel p t z).mono ?_;rintro e w' ⟨C,muZ',rfl,o,g,v⟩;exact⟨C,muZ',rfl,o.trans (wk.ext w' muZ'),wk.rel g,wk.ky g u v⟩
theorem FT {P:bg} {G:Nat->U} (t:P.follows .mixedOrders=true) (o:∀ g,(G g).ax=true) {f:cb} {args:ag} {l:ae} {K:cv}
  (h:fP P G f args l (c:=⟨fun r l'=>∃ m j,ir (aU l') (aU j)/\ip (aU l') (aU j) r m/\l.length<=j.length/\K m j⟩)) :fP P G f args l (c:=⟨K⟩):=by obtain⟨r,l',p,w,m,j,v,u,q,hk⟩:=h;exact⟨m,j,.ext (Oj (sn t o p) v u),q,hk⟩
theorem pt {z:Nat} {l:ae} {v:U} {j:Nat} {es:List (ag)} (h:aJ z l v j es) (I:bq v=false) :ir (aU l) (aU (l.set j .dead))/\ip (aU l) (aU (l.set j .dead)) v (.bj z es):=by
 cases h with
 | nil j=>cases I
 | ad j n cap t cs es g P H o B K C=>
 have G:=aY g;have q:(aU (l.set j .dead)).f j=.dead:=by rw[js,nC,aj rfl,aj G]
 have Q:n*z<=cap*z:=cj _ B;refine⟨⟨V,fun u=>?_⟩,.ad z j 0 n cap t cs es (hq.2 g) q H o F (fun i k e c J m hk p=>?_)⟩
 ·by_cases w:u=j
  ·subst w;exact .inr ⟨t,cs,hq.2 g,.inl q⟩
  ·left;rw[js,js,nC,ak F]
 ·have D:k<z:=by rw[<-o e (cz m)];exact (aH.1 hk).1
  have O:=(aH.1 m).1;have R:i*z+z<=n*z:=by rw[<-ec];exact cj _ F
  have h1:=lx o m D;rw[<-C,dG F,hk] at h1;rw[gT,h1] at p;cases p;exact .same _
namespace Op
theorem rJ {alZ:Type} {enc:alZ->ag} {z:Nat} {a:List alZ} (h:∀ x∈a,(enc x).length=z) :(a.map enc).flatten.length=a.length*z:=by rw[hx (z:=z) (fun e g=>by obtain⟨y,j,rfl⟩:=cF.1 g;exact h y j),cC]
theorem Fl {alZ:Type} {enc:alZ->ag} {z by_:Nat} (l:ae) (s:bH alZ) (h:∀ x∈s.l,(enc x).length=z) (j:z≠0) (o:by_≠0) (m:s.l.length*by_<=db) :
  ep (l++[am.q 0 []]) z by_ (.ad z l.length 0 0 0 0) (b0 z enc s)=some (.ad z l.length 0 s.l.length s.l.length (s.l.length*z),l++[.q (s.l.length*z) (s.l.map enc).flatten]):=by
 have p:=rJ h;unfold ep;rw[qj];simp only[];unfold ha;by_cases g:s.l.length=0
 ·have j:s.l=[]:=il.1 g;rw[j];simp
 ·rw[ak g,ak F];have t:¬ s.l=[]:=fun h=>g (by rw[h];rfl)
  simp[m,g]
theorem qG {alZ:Type} {enc:alZ->ag} {z:Nat} {l:ae} {b n:Nat} {a:List alZ} (h:∀ x∈a,(enc x).length=z) (g:a.length=n) (m:l[b]?=some (.q (n*z) (a.map enc).flatten)) :aJ z l (.ad z b 0 n n (n*z)) b (a.map enc):=by
 have j:=rJ h;refine .ad b n n (n*z) _ _ m (by rw[j,g]) (by simp[g]) (fun e o=>?_) (aF _) (aF _) ?_
 ·obtain⟨y,p,rfl⟩:=cF.1 o;exact h y p
 ·rw[aI (by rw[j,g];omega)]
end Op
namespace Op
open b8
theorem NB {l:List D} {k:Nat} {x:D} (h:l[k]?=some x) (g:(l.take k).all eE=true) :(l.take (k+1)).all eE=eE x:=by rw[eD,h,List.all_append,g];simp
theorem Nz {l:List D} {k:Nat} {x:D} (h:l[k]?=some x) (g:eE x=false) :l.all eE=false:=by
 cases j:l.all eE with
 | false=>rfl
 | true=>rw[fW.1 j x (cz h)] at g;cases g
structure Ml (l:List D) (k:Nat) (sgZ:aP) (h:ae) :Prop where
 ja:sgZ 5=b0 1 dR (some l)
 lz:sgZ 6=.i6 l.length
 yl:sgZ 7=.i6 k
 ZA:(l.take k).all eE=true
theorem Hm (l:List D) (B:l.length<=1000) :aV 222 [b0 1 dR (some l)] (.bool (l.all eE)):=by
 apply a8 func222 [];have v:bt (.ad 1) (b0 1 dR (some l))=some (.i6 l.length):=ca _;simp[v];refine bw l.length (Ml l) ?_ ⟨V,V,V,V⟩;rintro k z h hk ⟨m,o,p,g⟩;obtain⟨z,rfl⟩:=gj m o p;clear m o p;by_cases h:k<l.length
 ·obtain⟨x,j,_⟩:=aQ h;have t:bF (.ad 1) (b0 1 dR (some l)) (.i6 k)=some (.bR (dR x) 0):=by rw[n4];simp[j]
  have w:IntKind.i64.wrap ((k:Int)+1)=(k+1:Nat):=wrap_i64 F F;simp[h,t,dR];refine av (BX x) rfl ?_;cases q:eE x with
  | false=>
   have:=Nz j q;simp;exact aR (by rw[this]) rfl
  | true=>
   simp[w];exact⟨F,V,V,V,by rw[NB j g];exact q⟩
 ·have u:k=l.length:=F;subst u;rw[fl] at g;simp;exact aR (by rw[g]) rfl
theorem U0 {l:ae} {b:Nat} {x:D} (h:l[b]?=some (.q 1 [a1 x])) :fm (aU l) (.ad 1 b 0 1 1 1) (b0 1 dR (some [x])):=by refine zg (rest:=[]) (es:=[[a1 x]]) (by simpa using h) rfl V (by simp[ar,U.ax])
def uf (a b:D) :D:=BitVec.ofNat 32 (a.toNat*b.toNat % 1000000007)
theorem QB (a b:D) :aV 177 [a1 a,a1 b] (.aZ [a1 (if eE a&&eE b then uf a b else 0#32),.i6 (if eE a&&eE b then 0 else 2)]):=by
 apply a8 func177 [];simp;refine g0 (Hm [a,b] V) (.cons (wL V) .nil) rfl ?_;cases g:eE a with
 | false=>
  simp[g];exact aG
 | true=>
  cases h:eE b with
  | false=>
   simp[g,h];exact aG
  | true=>
   have j:a.toNat<1000000007:=by unfold eE at g;simp at g;exact g.1.2
   simp[g,h];refine g0 (Cq [a,b] V) (.cons (.same _ rfl) (.cons (wL V) .nil)) rfl ?_;simp[Cp a b j];exact aG
theorem QC (a:D) (n:Q) :aV 176 [a1 a,cX n] (.aZ [a1 (if eE a then dK a n.toNat else 0#32),.i6 (if eE a then 0 else 2)]):=by
 apply a8 func176 [];simp;refine g0 (Hm [a] V) (.cons (U0 V) .nil) rfl ?_;cases g:eE a with
 | false=>
  simp[g];exact aG
 | true=>
  simp[g];refine av (CV a n) rfl ?_;simp;exact aG
theorem QA (n:Q) :aV 178 [cX n] (a1 (dK 4#32 n.toNat)):=by apply a8 func178 [];simp;refine av (CV 4#32 n) rfl ?_;simp;exact aG
theorem C6 (a:D) (n:Q) :aV 229 [a1 a,cX n] (a1 (dK a n.toNat)):=by
 apply a8 func229 [];have g:(a.setWidth 64:Q).toNat=a.toNat:=by rw[eH];omega
 have m:=pw a.toNat n.toNat
 have j:(BitVec.ofNat 64 (eh a.toNat n.toNat)).setWidth 32=dK a n.toNat:=by
  apply eC;rw[k4,eH,e3];omega
 have h:=Jm (a.setWidth 64) n (by rw[g];exact a.isLt);rw[g] at h;simp;refine av h rfl ?_;simp[j];exact aG
theorem Un (n:Q) :aV 192 [cX n] (a1 (dK 4#32 n.toNat)):=by apply a8 func192 [];simp;refine av (C6 4#32 n) rfl ?_;simp;exact aG
theorem Uv (a:D) :aV 228 [a1 a] (.aZ [a1 (if eE a then dK a 500000002 else 0#32),.i6 (if eE a then 0 else 2)]):=by
 apply a8 func228 [];simp;refine av (J1 a) rfl ?_;cases g:eE a with
 | false=>
  simp;exact aG
 | true=>
  simp;refine av (C6 a 500000002#64) rfl ?_;simp;exact aG
theorem UE (a b:D) :aV 230 [a1 a,a1 b] (a1 (uf a b)):=by
 apply a8 func230 [];have g:∀ a:D,(a.setWidth 64:Q).toNat=a.toNat:=fun a=>by rw[eH];omega
 have h:((a.setWidth 64:Q)*b.setWidth 64 % 1000000007#64).setWidth 32=uf a b:=by
  apply eC;rw[eH,tR _ _ (by rw[g];exact a.isLt) (by rw[g];exact b.isLt),g,g];unfold uf;rw[e3]
 simp[zi,h];exact aG
def p9 (l:List B) :Q:=l.foldl (fun n x=>(n <<< 8) ||| x.setWidth 64) 0#64
theorem FF (l:List B) (k:Nat) (x:B) (h:l[k]?=some x) :p9 (l.take (k+1))=(p9 (l.take k) <<< 8) ||| x.setWidth 64:=by rw[eD,h];simp[p9,Aj]
theorem V7 (a:Q) (x:B) :(a <<< 8) ||| x.setWidth 64=256#64*a+x.setWidth 64:=by
 apply eC;have o:x.toNat<256:=x.isLt;have m:=a.isLt;rw[BitVec.toNat_or,sM,xh,sL,eH];have h1:x.toNat % 2 ^ 64=x.toNat:=dH F;have g:a.toNat <<< 8 % 2 ^ 64=(a.toNat % 2 ^ 56) <<< 8:=by rw[nI,nI];omega
 have h:=Mh (b:=x.toNat) (i:=8) F (a.toNat % 2 ^ 56);rw[h1,g,<-h,nI];have j:(256#64).toNat=256:=rfl;rw[j];omega
def fH (n:D) :List B:=[(n >>> 24).setWidth 8,(n >>> 16).setWidth 8,(n >>> 8).setWidth 8,n.setWidth 8]
def hf (l:List D) :List B:=l.flatMap fH
theorem Qn {l:List D} {k:Nat} {x:D} (h:l[k]?=some x) :hf (l.take (k+1))=hf (l.take k)++fH x:=by unfold hf;rw[eD,h,xm];simp
theorem He (l:List D) :(hf l).length=4*l.length:=by
 induction l with
 | nil=>rfl
 | cons x l g=>unfold hf at g ⊢;rw[List.flatMap_cons,cg,g,du];simp[fH];omega
def qo (b:List B) :Q:=p9 ((fi b).take 8)
theorem U1 {l:ae} {b:Nat} {v m u t:U} (h:l[b]?=some (.q 2 [v,m])) (h1:fm (aU l) v u) (w:fm (aU l) m t) :fm (aU l) (.ad 1 b 0 2 2 2) (.bj 1 [[u],[t]]):=by
 refine .ad 1 b 0 2 2 2 [v,m] [[u],[t]] (hq.2 h) rfl V V (fun i p e c z j g o=>?_);rcases i with _ | _ | i
 ·simp at j;subst j;rcases p with _ | p
  ·simp at g o;subst g o;exact h1
  ·simp at g
 ·simp at j;subst j;rcases p with _ | p
  ·simp at g o;subst g o;exact w
  ·simp at g
 ·simp at j
theorem Wh {b:Nat}:dB (.arr 32 1) (.ptr b 0 32) none (some (.i6 8)) none=some (.ad 1 b 0 8 32 32):=by have:eY 32 32 none (some (.i6 8)) none=some (0,8,32):=rfl;simp only[dB,this];rfl
structure MQ (g:B) (m:dI) (l0:List D) (k:Nat) (sgZ:aP) (l:ae) :Prop where
 e7:sgZ 1=b9 m
 Zq:sgZ 21=b0 1 dR (some l0)
 Hj:sgZ 22=.i6 l0.length
 Hk:sgZ 23=.i6 k
 ex:∃ v,sgZ 8=v/\b7 1 bL [] l v (g::hf (l0.take k)) false
structure Mn (d:List B) (e:Int) (k:Nat) (sgZ:aP) (l:ae) :Prop where
 Hi:sgZ 12=.i6 e
 Qt:sgZ 13=cX (p9 (d.take k))
 Qy:∃ b n,sgZ 49=.ad 1 b 0 8 n n/\l[b]?=some (.q n (d.map a7))/\n=32
 Qz:sgZ 50=.i6 8
 Zs:sgZ 51=.i6 k
theorem QP (j:B) (m:dI) (aG:m.l.length<=9991) (l0:List D) (aE:l0.length<=10) :aV 224 [a7 j,b9 m,b0 1 dR (some l0)] (.aZ [cX (qo (j::(hf l0++m.l))),.i6 0]):=by
 apply a8 func224 [];have ax:=dw;have ar:bt (.ad 1) (b9 m)=some (.i6 m.l.length):=ca _;have au:bt (.ad 1) (b0 1 dR (some l0))=some (.i6 l0.length):=ca _;have ag:¬ (9991:Int)<(m.l.length:Int):=F;have aD:¬ 9991<m.l.length:=F;have aj:=iL m;simp[ar,au,ag];refine bw l0.length (MQ j m l0) ?_ ⟨V,V,V,V,_,rfl,⟨0,k2 (n:=1) (a:=[j]) rfl rfl,V,V,.inr V,rfl⟩⟩;rintro k G l hk ⟨I,O,P,Q,aJ,W,p⟩;obtain⟨G,rfl⟩:=gk I W O P Q;clear I W O P Q;by_cases h:k<l0.length
 ·obtain⟨x,o,_⟩:=aQ h;have al:bF (.ad 1) (b0 1 dR (some l0)) (.i6 k)=some (.bR (dR x) 0):=by rw[n4];simp[o]
  have C:IntKind.i64.wrap ((k:Int)+1)=(k+1:Nat):=wrap_i64 F F;have t:=Qn o;have Z:=He (l0.take k);rw[cI] at Z;obtain⟨aB,aI,H,ae,aC⟩:=(p.more [am.q 4 ((fH x).map a7)]).app (by_:=1) (x:=.ad 1 l.length 0 4 4 4) (xs:=fH x) (by rw[vG];simp[cD,fH]) (fun y _=>rfl) F F (by rw[ax];simp[fH];omega);rw[show (fH x).map a7=[.int .u8 (u (BitVec.setWidth 8 (x >>> 24))),.int .u8 (u (BitVec.setWidth 8 (x >>> 16))),.int .u8 (u (BitVec.setWidth 8 (x >>> 8))),.int .u8 (u (BitVec.setWidth 8 x))] from rfl] at H;simp[h,al,dR,H];refine bY.bo ?_;simp[C];exact⟨F,V,V,V,V,aB,V,by rw[t,<-jo];exact ae⟩
 ·have z:k=l0.length:=F;subst z;rw[fl] at p;have Z:=He l0;have v:=Jf [some (j::hf l0),m] V (fun s t=>by
   rcases fX.1 t with h | h
   ·rw[h];show (j::hf l0).length<=_;simp;omega
   ·rw[fO.1 h];omega)
  have ai:bytesOf [some (j::hf l0),m]=j::(hf l0++m.l):=by simp[bytesOf]
  rw[ai] at v;have aA:=p.cells;have av:(b9 m).cells=some [b9 m]:=by cases m<;>rfl
  obtain⟨g,w⟩:=aq (fi (j::(hf l0++m.l)));have Y:g.length=32:=by rw[w];exact jk _
  rw[<-w] at v;have ak:(g.map a7).length=32:=by simp[Y]
  have ao:et g=.ah (g.map a7):=rfl;rw[ao] at v;have az:aw (bO 32 (.int .u8 0)) 0 (g.map a7)=g.map a7:=cH (by rw[ak];rfl);have ay:∀ b,dB (.arr 32 1) (.ptr b 0 32) none (some (.i6 8)) none=some (.ad 1 b 0 8 32 32):=fun b=>Wh (b:=b)
  simp[aA,av];refine g0 v (.cons (U1 V ((p.more _).mH (fun _=>rfl) (some (j::hf l0)) rfl rfl) (.same _ aj)) .nil) (by simp[U.flat,ka,tA a7 (fun _=>rfl)]) ?_;simp[Y,az,ay];refine bw 8 (Mn g 0) ?_ ⟨V,by simp[p9],⟨l.length+1,32,V,V,rfl⟩,V,V⟩;clear p;rintro k G l hk ⟨J,K,⟨b,n,R,X,rfl⟩,S,T⟩;obtain⟨G,rfl⟩:=gk J K R S T;clear J K R S T;by_cases h:k<8
  ·obtain⟨x,o,_⟩:=aQ (l:=g) (k:=k) F;have C:IntKind.i64.wrap ((k:Int)+1)=(k+1:Nat):=wrap_i64 F F;have t:=FF g k x o;have z:(k:Int)<8:=F;have aH:(g.map a7)[k]?=some (a7 x):=by rw[bX,o];rfl
   simp[h,z,X,C,o];exact⟨V,by simp[t],⟨b,32,V,by simpa using X,rfl⟩,V,V⟩
  ·have ap:k=8:=F;subst ap;simp;exact aR (by unfold qo;rw[w]) rfl
def oV (r y:D) (m:List B) :D:=(qo (99#8::(hf [r,y]++m)) % 500000003#64).setWidth 32
theorem zj (x:Q) :cn .rem .u64 (u x) .u64 500000003=some (.int .u64 (u (x % 500000003#64))):=ru x 500000003#64 (by decide)
theorem XH (r y:D) (m:dI) (h:m.l.length<=9991) :aV 179 [a1 r,a1 y,b9 m] (.aZ [a1 (oV r y m.l),.i6 0]):=by apply a8 func179 [];have g:=iL m;simp;refine g0 (QP 99#8 m h [r,y] V) (.cons (.same _ rfl) (.cons (.same _ g) (.cons (wL V) .nil))) rfl ?_;simp[zj];exact aG
theorem CY (a b:D) (g:b≠0#32) :cn .quo .u32 (u a) .u32 (u b)=some (.int .u32 (u (a / b))):=by
 have h:(b.toNat:Int)≠0:=fun e=>g (eC (by simpa using e))
 show (if IntKind.u32=IntKind.u32/\(b.toNat:Int)≠0 then some (U.int .u32 (IntKind.u32.wrap ((a.toNat:Int).tdiv b.toNat))) else none)=_;rw[aj ⟨rfl,h⟩,uI];congr 2;have:((a.toNat:Int).tdiv b.toNat)=((a.toNat / b.toNat:Nat) :Int):=rfl;rw[this,nz];congr 1;apply eC;rw[e3,q7];exact dH (Nat.lt_of_le_of_lt (EL _ _) a.isLt)
theorem BD (x:D) {l:ae} {K:cv} (o:∀ v l',b7 1 bL l l' v (fH x) false->K v l') :cG 232 [a1 x] l K:=by
 apply cR func232 [];have q1:cn .quo .u32 (u x) .u32 16777216=some (.int .u32 (u (x / 16777216#32))):=CY x 16777216#32 (by decide);have q:cn .quo .u32 (u x) .u32 65536=some (.int .u32 (u (x / 65536#32))):=CY x 65536#32 (by decide);have t:cn .quo .u32 (u x) .u32 256=some (.int .u32 (u (x / 256#32))):=CY x 256#32 (by decide);have w:∀ y:D,cn .rem .u32 (u y) .u32 256=some (.int .u32 (u (y % 256#32))):=fun y=>N7 y 256#32 (by decide)
 have z:=x.isLt;have g:BitVec.setWidth 8 (x / 16777216#32)=BitVec.setWidth 8 (x >>> 24):=by
  apply eC;rw[eH,eH,q7,lg,hp];rfl
 have h:BitVec.setWidth 8 (x / 65536#32 % 256#32)=BitVec.setWidth 8 (x >>> 16):=by
  apply eC;rw[eH,eH,jR,q7,lg,hp];show x.toNat / 65536 % 256 % 256=x.toNat / 65536 % 256;omega
 have j:BitVec.setWidth 8 (x / 256#32 % 256#32)=BitVec.setWidth 8 (x >>> 8):=by
  apply eC;rw[eH,eH,jR,q7,lg,hp];show x.toNat / 256 % 256 % 256=x.toNat / 256 % 256;omega
 have m:BitVec.setWidth 8 (x % 256#32)=BitVec.setWidth 8 x:=by
  apply eC;rw[eH,eH,jR];show x.toNat % 256 % 256=x.toNat % 256;omega
 simp[q1,q,t,w,g,h,j,m];exact o _ _ ⟨l.length,k2 (n:=4) (a:=fH x) rfl (by simp;rfl),V,fun b p=>aS p,.inr V,rfl⟩
structure M4 (d:List B) (k:Nat) (sgZ:aP) (l:ae) :Prop where
 i9:sgZ 3=.ptr 0 0 32
 kb:sgZ 4=cX (p9 (d.take k))
 ja:sgZ 5=.i6 k
 ol:l[0]?=some (.q 32 (d.map a7))
theorem IE (s:dI) (j:s.l.length<=1000000) :aV 233 [b9 s] (cX (qo s.l)):=by
 apply a8 func233 [];have o:=J2 s j;have z:=iL s;obtain⟨g,m⟩:=aq (fi s.l);have u:g.length=32:=by rw[m];exact jk _
 rw[<-m] at o;have C:et g=.ah (g.map a7):=rfl;rw[C] at o;have B:(g.map a7).length=32:=by simp[u]
 have H:aw (bO 32 (.int .u8 0)) 0 (g.map a7)=g.map a7:=cH (by rw[B];rfl);simp;refine av o (by simp[ar,z]) ?_;simp[u,H];refine bw 8 (M4 g) ?_ ⟨V,by simp[p9],V,rfl⟩;rintro k J l hk ⟨p,q,t,w⟩;obtain⟨J,rfl⟩:=gj p q t;clear p q t;by_cases h:k<8
 ·obtain⟨x,v,_⟩:=aQ (l:=g) (k:=k) F;have I:IntKind.i64.wrap ((k:Int)+1)=(k+1:Nat):=wrap_i64 F F;have j:=FF g k x v;rw[V7] at j;have D:(k:Int)<8:=F;have K:k<32:=F;simp[h,D,w,I,v];exact⟨F,V,by simp[j],V,w⟩
 ·have G:k=8:=F;subst G;simp;exact aR (by unfold qo;rw[m]) rfl
theorem JK (r y:D) (m:dI) (T:m.l.length<=900000) :aV 194 [a1 r,a1 y,b9 m] (a1 (oV r y m.l)):=by
 apply a8 func194 [];have h:=dw;have R:=iL m;simp;refine BD r fun I G h1=>?_
 have S:=h1.le;have z:b7 1 bL [] G (.ad 1 0 0 1 1 1) [99#8] false:=⟨0,k2 (n:=1) (a:=[99#8]) rfl (by rw[h1.same 0 V];rfl),V,V,.inr V,rfl⟩
 obtain⟨J,U,p,q,O⟩:=z.app (by_:=1) (x:=I) (xs:=fH r) h1.contents (fun _ _=>rfl) F F (by rw[h];simp[fH]);simp[p];refine bY.bo ?_;simp;refine BD y fun K H g=>?_
 have C:b7 1 bL [] H J ([99#8]++fH r) false:=q.frame g.le g.same;obtain⟨Y,W,t,u,P⟩:=C.app (by_:=1) (x:=K) (xs:=fH y) g.contents (fun _ _=>rfl) F F (by rw[h];simp[fH]);simp[t];refine bY.bo ?_;obtain⟨Z,X,v,w,Q⟩:=u.app (by_:=1) (x:=b9 m) (xs:=m.l) (Bf _ _) (fun _ _=>rfl) F F (by rw[h];simp[fH];omega);simp[v];refine bY.bo ?_;have j:(bH.l (some ([99#8]++fH r++fH y++m.l)) :List B)=99#8::(hf [r,y]++m.l):=by simp[hf]
 have o:=IE (some ([99#8]++fH r++fH y++m.l)) (by rw[j];simp[hf,fH];omega);rw[j] at o;simp;refine g0 o (.cons (w.mH (fun _=>rfl) (some ([99#8]++fH r++fH y++m.l)) V rfl) .nil) rfl ?_;simp[zj];exact aG
theorem ud (a n k:Nat) :eh (eh a n) k=eh a (n*k):=by unfold eh;rw[<-xA,<-Nat.pow_mul]
theorem CU (n:Nat) :eh 1 n=1:=by unfold eh;rw[Nat.one_pow]
theorem CT (a m n:Nat) :eh a (m+n)=eh a m*eh a n % 1000000007:=by unfold eh;rw[rg,uY]
theorem AR:eh 4 500000003=1:=by have h:=CR 4 500000003 (by decide) 64 (aF _);rw[show 500000003 / 2 ^ (64 - 64)=500000003 from rfl] at h;rw[<-h];decide +kernel
theorem yu {y:D} (h:eh y.toNat 500000003=1) (n:Nat) :eE (dK y n)=true:=by
 have m:=k4 y n;have g:=pw y.toNat n;have h1:eh (eh y.toNat n) 500000003=1:=by
  rw[ud,xy,<-ud,h,CU]
 have p:eh y.toNat n≠0:=fun e=>by
  rw[e] at h1;have o:∀ n,0<n->eh 0 n=0:=fun n j=>by unfold eh;rw[Nat.zero_pow j]
  rw[o _ (by decide)] at h1;cases h1
 unfold eE;rw[m,bW F,bW g,bW h1];rfl
theorem HN {y:D} (h:eE y=true) :eh y.toNat 500000003=1:=by unfold eE at h;simp only[bN,bI] at h;exact h.2
theorem NR {y:D} (h:eh y.toNat 500000003=1) {e:Nat} (j:e<500000003) :dK (dK y e) 500000002=dK y (500000003 - e):=by
 apply eC;rw[k4,k4,k4,ud];rcases e with _ | e
 ·rw[s1,uZ,h];unfold eh;rfl
 ·have g:(e+1)*500000002=500000003*e+(500000003 - (e+1)):=F;rw[g,CT,<-ud,h,CU,sY,dH (pw _ _)]
def sb (y:D) (e s:D) :D:=uf (dK 4#32 s.toNat) (dK y (500000003 - e.toNat))
def sk (y:D) (m:List B) (e s:D) :Bool:=eL e&&(eL s&&decide (oV (sb y e s) y m=e))
theorem WK {e:D} (g:e.toNat<500000003) :(500000003#64 - e.setWidth 64).toNat=500000003 - e.toNat:=by rw[BitVec.toNat_sub,eH];have:(500000003#64).toNat=500000003:=rfl;rw[this];omega
theorem XW (y:D) (o:eE y=true) (m:dI) (R:m.l.length<=9991) (e s:D) :aV 118 [a1 y,b9 m,.ah [a1 e,a1 s]] (.i6 (if sk y m.l e s then 0 else 22)):=by
 apply a8 func118 [];unfold sk;have P:bt (.ad 1) (b9 m)=some (.i6 m.l.length):=ca _;have C:¬ (9991:Int)<(m.l.length:Int):=F;have W:¬ 9991<m.l.length:=F;have O:=iL m;have T:=HN o;have z:=BX y;rw[o] at z;simp;refine av z rfl ?_;obtain⟨M,t⟩:=aq (if u e<u s then u s else u e:Int);have S:og (a1 e) (a1 s)=some (.int .u32 M):=by rw[t];simp[og]
 have v:(500000003:Int)<=M<->500000003<=e.toNat\/500000003<=s.toNat:=by
  rw[t];unfold u;split<;>omega
 simp[P,C,S];by_cases h1:500000003<=e.toNat\/500000003<=s.toNat
 ·have H:(eL e&&(eL s&&decide (oV (sb y e s) y m.l=e)))=false:=by
   unfold eL;rcases h1 with h | h
   ·rw[cp F];rfl
   ·rw[cp (p:=s.toNat<500000003) F];simp
  have g:=v.2 h1;simp[g,H];exact aG
 ·have g:¬ (500000003:Int)<=M:=fun h=>h1 (v.1 h)
  have I:eL e=true:=by unfold eL;exact bW F
  have J:eL s=true:=by unfold eL;exact bW F
  have B:=QC y (500000003#64 - e.setWidth 64);have V:(s.setWidth 64:Q).toNat=s.toNat:=by rw[eH];omega
  have w:=QA (s.setWidth 64);rw[o,aj rfl,aj rfl,WK F] at B;rw[V] at w;have j:=QB (dK 4#32 s.toNat) (dK y (500000003 - e.toNat));rw[yu (y:=4#32) AR,yu T] at j;simp only[kz,if_true] at j;have K:=XH (sb y e s) y m R;have G:∀ a b:D,((u a:Int)=u b)<->a=b:=fun a b=>⟨fun h=>eC (by unfold u at h;omega),fun h=>by rw[h]⟩
  simp[g];refine av B rfl ?_;simp;refine av w rfl ?_;simp;refine av j rfl ?_;simp;refine av K (by simp[ar,U.ax,O]) ?_;rw[I,J];by_cases q:oV (sb y e s) y m.l=e
  ·simp[q];exact aG
  ·simp[q,G];exact aG
theorem ze (s:D) :aV 132 [a1 s] (a1 (dK 4#32 s.toNat)):=by
 apply a8 func132 [];have h:(s.setWidth 64:Q).toNat=s.toNat:=by rw[eH];omega
 have g:=Un (s.setWidth 64);rw[h] at g;simp;refine av g rfl ?_;simp;exact aG
theorem UF (y:D) (F:eE y=true) (m:dI) (B:m.l.length<=900000) (e s:D) :aV 183 [a1 y,b9 m,.ah [a1 e,a1 s]] (.bool (sk y m.l e s)):=by
 apply a8 func183 [[[0],[1],[3],[5],[6],[8],[9],[2,9],[4,9],[7,9]]];unfold sk;have w:=iL m;have j:=HN F;have q:∀ a b:D,((u a:Int)=u b)<->a=b:=fun a b=>⟨fun h=>eC (by unfold u at h;omega),fun h=>by rw[h]⟩
 simp;refine av (ya e) rfl ?_;cases h1:eL e with
 | false=>simp;exact aG
 | true=>
 simp;refine av (ya s) rfl ?_;cases G:eL s with
 | false=>simp;exact aG
 | true=>
 have z:e.toNat<500000003:=by unfold eL at h1;exact io h1
 have p:(e.setWidth 64:Q).toNat=e.toNat:=by rw[eH];omega
 have o:=C6 y (e.setWidth 64);rw[p] at o;have g:=Uv (dK y e.toNat);rw[yu j,aj rfl,aj rfl,NR j z] at g;have t:=ze s;have C:=UE (dK 4#32 s.toNat) (dK y (500000003 - e.toNat));have v:=JK (sb y e s) y m B;simp;refine av o rfl ?_;simp;refine av g rfl ?_;simp;refine av t rfl ?_;simp;refine av C rfl ?_;simp;refine av v (by simp[ar,U.ax,w]) ?_;simp[q];exact aG
def wV (o:aM) :Bool:=sk o.dW (ev o) o.e o.s
def fk (o:aM) :Int:=if c4 o=0 then (if wV o then 0 else 22) else c4 o
theorem CB {o:aM} (t:∀ x∈o.ay.l,x.length=32) (h:c4 o=0) :eE o.dW=true/\(ev o).length<=9991:=by
 have D:=pq h;unfold c4 at h;rw[ak F] at h;split at h
 ·split at h
  ·rename_i G p;unfold mm at p;simp only[bN,bI] at p;obtain⟨q,w,g,z,C⟩:=p;refine⟨q,?_⟩;have u:o.act.key.length<=20/\(o.act.kind=4#8->o.act.val.text.length<=30):=by
    unfold hv at g;split at g
    ·rename_i h1;simp only[bN,bI] at g;rw[g.1];exact⟨V,fun h=>by rw[h1] at h;cases h⟩
    ·split at g
     ·rename_i h1 m;simp only[bN] at g;have hk:=g.1;unfold hh at hk;simp only[bN,bI] at hk;exact⟨hk.1.2,fun h=>by rw[h] at m;rcases m with m | m<;>cases m⟩
     ·split at g
      ·simp only[bN] at g;obtain⟨hk,j⟩:=g;unfold hh at hk;simp only[bN,bI] at hk;refine⟨hk.1.2,fun _=>?_⟩;unfold ii at j;split at j
       ·simp only[bN,bI] at j;rw[j.2];simp
       ·split at j
        ·simp only[bN,bI] at j;rw[j.1.2];simp
        ·split at j
         ·simp only[bN,bI] at j;exact j.1.2
         ·cases j
      ·cases g
   have H:=gu o.dW.toNat
   have I:=gu o.eP.toNat
   have J:=v2 t;have v:=uB (dT o.act.key);rw[mL] at v;have K:=w8 o.act.val;have n6:(opHead o).length<=10:=by unfold opHead;simp;omega
   unfold ev;simp only[cg,du,hI];have n7:(if o.act.kind=1#8 then ([] :List B) else g4 (dT o.act.key)).length<=29:=by
    split
    ·simp
    ·omega
   have n8:(if o.act.kind=4#8 then g5 o.act.val else []).length<=50:=by
    split
    ·rename_i h;have:=u.2 h;omega
    ·simp
   omega
  ·cases h
 ·cases h
theorem xa (o:aM) (j:dv o) :aV 65 [.ah (au o)] (.i6 (fk o)):=by
 apply a8 func65 [];unfold fk;have u:=dN o;have m:=zT o j;have p:ar [U.ah (au o)]=true:=by simp[ar,U.ax,u]
 by_cases g:c4 o=0
 ·obtain⟨v,z⟩:=CB j.idsZ g;rw[aj g];simp[au];refine av m p ?_;simp[g];refine LU o j (Fz g) fun w C h=>?_
  have D:C[0]?=some (.q 11 (au o)):=by rw[h.same 0 V];rfl
  have t:=D;simp[au] at t;have B:=XW o.dW v (some (ev o)) z o.e o.s;simp[t];refine g0 B (.cons (.same _ rfl) (.cons (h.mH (fun _=>rfl) (some (ev o)) rfl rfl) (.cons (.same _ rfl) .nil))) rfl ?_;simp;exact aG
 ·rw[ak g];simp[au];refine av m p ?_;simp[g];exact aG
theorem UP (o:aM) (j:dv o) (g:c4 o=0) :aV 121 [.ah (au o)] (.bool (wV o)):=by
 apply a8 func121 [[[0],[1],[2],[4],[5],[3,5,1]]];have z:=dN o;obtain⟨p,B⟩:=CB j.idsZ g;have t:=UF o.dW p (some (ev o)) (by show (ev o).length<=_;omega) o.e o.s;simp[au];refine C8 o j (by have:=pq g;omega) fun w u h=>?_
 have v:u[0]?=some (.q 11 (au o)):=by rw[h.same 0 V];rfl
 have m:=v;simp[au] at m;simp[m];refine g0 t (.cons (.same _ rfl) (.cons (h.mH (fun _=>rfl) (some (ev o)) rfl rfl) (.cons (.same _ rfl) .nil))) rfl ?_;simp;exact aG
theorem JQ (o:aM) (m:dv o) :aV 69 [.ah (au o)] (.i6 (fk o)):=by
 apply a8 func69 [];unfold fk;have p:=dN o;have j:=C5 o m;have h:ar [U.ah (au o)]=true:=by simp[ar,U.ax,p]
 by_cases g:c4 o=0
 ·rw[aj g];simp[au];refine av j h ?_;simp[g];refine av (UP o m g) h ?_;cases q:wV o with
  | true=>simp;exact aG
  | false=>simp;exact aG
 ·rw[ak g];simp[au];refine av j h ?_;simp[g];refine av j h ?_;simp;exact aG
end Op
namespace Op
section
variable {alZ:Type} {z:Nat} {enc:alZ->ag}
theorem Th {by_:Nat} {l l1:ae} {v:U} {a:List alZ} {C:Bool} (h:b7 z enc l l1 v a C) (x:alZ) {b:Nat} (u:l1[b]?=some (.q z (enc x))) (j:(enc x).length=z) (t:z≠0) (w:by_≠0) (B:(a.length+1)*by_<=db) :
  ∃ g l',ep l1 z by_ v (.ad z b 0 1 1 z)=some (g,l')/\b7 z enc l l' g (a++[x]) false/\l1.length<=l'.length:=by obtain⟨g,l',m,o,p⟩:=h.app (by_:=by_) (x:=.ad z b 0 1 1 z) (xs:=[x]) (by simp[cD,u,j,aI]) (by simp[j]) t w (by simpa using B);exact⟨g,l',m,by simpa using o,p⟩
def c9 (l:List alZ) (i:Nat) (x:alZ) :List alZ:=l.take i++x::l.drop i
theorem jc (l:List alZ) (i:Nat) (x:alZ) :(c9 l i x).length=l.length+1:=by unfold c9;have:=cm List.length (iY i l);simp only[cg,du] at this ⊢;omega
theorem mr {l:List alZ} {i:Nat} {x y:alZ}:y∈c9 l i x<->y=x\/y∈l:=by
 unfold c9;rw[eQ,fX];constructor
 ·rintro (h | h | h)
  ·exact .inr (gE h)
  ·exact .inl h
  ·exact .inr (sT h)
 ·rintro (h | h)
  ·exact .inr (.inl h)
  ·rw[<-iY i l,eQ] at h;exact h.elim .inl fun h=>.inr (.inr h)
theorem DJ {lt:alZ->alZ->Bool} (j:∀ a,lt a a=false) (p:∀ a b c,lt a b=true->lt b c=true->lt a c=true) :∀ {l m:List alZ},l.Pairwise (fun a b=>lt a b=true)->m.Pairwise (fun a b=>lt a b=true)->(∀ y,y∈l<->y∈m)->l=m
 | [],[],_,_,_=>rfl
 | [],b::m,_,_,h=>bK ((h b).2 V) V
 | a::l,[],_,_,h=>bK ((h a).1 V) V
 | a::l,b::m,v,w,h=>by
  obtain⟨q,z⟩:=uW.1 v;obtain⟨t,B⟩:=uW.1 w;have u:a=b:=by
   rcases fX.1 ((h a).1 V) with e | e
   ·exact e
   ·rcases fX.1 ((h b).2 V) with o | o
    ·exact o.symm
    ·have:=p _ _ _ (t a e) (q b o);rw[j] at this;cases this
  subst u;congr 1;refine DJ j p z B fun y=>⟨fun g=>?_,fun g=>?_⟩
  ·rcases fX.1 ((h y).1 (by simp[g])) with e | e
   ·subst e;have:=q y g;rw[j] at this;cases this
   ·exact e
  ·rcases fX.1 ((h y).2 (by simp[g])) with e | e
   ·subst e;have:=t y g;rw[j] at this;cases this
   ·exact e
end
section
variable {alZ:Type} [DecidableEq alZ]
end
end Op
namespace Op
open b8
def c8 {alZ:Type} [DecidableEq alZ] (x:alZ) :List alZ->Nat->Int
 | [],_=>-1
 | y::r,k=>if y=x then (k:Int) else c8 x r (k+1)
theorem nb {alZ:Type} [DecidableEq alZ] (x:alZ) :∀ (l:List alZ) (k:Nat),(0<=c8 x l k)<->x∈l
 | [],k=>by simp[c8]
 | y::r,k=>by
  unfold c8;by_cases h:y=x
  ·simp[h]
  ·rw[ak h,nb x r (k+1)];simp[Ne.symm h]
theorem pd {alZ:Type} [DecidableEq alZ] {x:alZ}:∀ {l:List alZ} {k n:Nat} {y:alZ},l[k]?=some y->(∀ (j:Nat) (z:alZ),j<k->l[j]?=some z->z≠x)->y=x->c8 x l n=((n+k:Nat) :Int)
 | [],k,n,y,h,_,_=>by simp at h
 | w::r,0,n,y,h,_,g=>by
  simp at h;subst h;unfold c8;rw[aj g];simp
 | w::r,k+1,n,y,h,m,g=>by
  unfold c8;rw[ak (m 0 w F V),pd (k:=k) (n:=n+1) (by simpa using h) (fun j z p o=>m (j+1) z F (by simpa using o)) g];congr 1;omega
theorem vV {alZ:Type} [DecidableEq alZ] {x:alZ}:∀ {l:List alZ} {n:Nat},(∀ (j:Nat) (z:alZ),l[j]?=some z->z≠x)->c8 x l n=-1
 | [],n,_=>rfl
 | w::r,n,g=>by
  unfold c8;rw[ak (g 0 w V),vV fun j z h=>g (j+1) z (by simpa using h)]
theorem XP (s:bP) (G:cU s) (Q:s.l.length<=1000000) (x:List B) (u:x.length=32) :aV 119 [ai s,.ah (ao x)] (.i6 (c8 x s.l 0)):=by
 apply a8 func119 [];simp[ai];refine bw s.l.length (fun k m l=>l=[.q 32 (ao x)]/\m 0=b0 32 ao s/\m 3=.ptr 0 0 32/\m 7=.i6 s.l.length/\m 8=.i6 k/\∀ (g:Nat) (o:List B),g<k->s.l[g]?=some o->o≠x) ?_ (by simp[br u]);rintro k m l hk ⟨rfl,w,z,C,D,t⟩;obtain⟨m,rfl⟩:=e2 w z C D;clear w z C D;simp;refine gq (fun h=>?_) (fun h=>?_)
 ·simp only[bI] at h;obtain⟨y,v,H⟩:=aQ (l:=s.l) (k:=k) F;have I:=cl (k:=k) F;simp[v,br (G y H),br u,aI,pa u (G y H)];by_cases p:x=y
  ·have J:=pd (n:=0) v t p.symm;simp[p];exact aR (by rw[<-p,J];simp) rfl
  ·simp[p,I];refine⟨F,fun g o P j=>?_⟩;by_cases K:g=k
   ·subst K;rw[v] at j;obtain rfl:=cd j;exact fun h=>p h.symm
   ·exact t g o F j
 ·simp[h];have O:k=s.l.length:=by simp at h;omega
  exact aR (by rw[vV fun g o j=>t g o (by rw[O];exact (aH.1 j).1) j]) rfl
theorem pK (s:bP) (j:cU s) (h:s.l.length<=1000000) (x:List B) (g:x.length=32) :aV 66 [ai s,.ah (ao x)] (.bool (decide (x∈s.l))):=by apply a8 func66 [];simp[br g,aI];refine av (XP s j h x g) (by have:=bV s;have:=cP x;simp_all [ar,U.ax]) ?_;simp;exact aR (cm U.bool (by simp only[nb])) rfl
theorem C3 (s:bP) (D:cU s) (P:s.l.length<=1000000) (x:List B) (t:x.length=32) :aV 70 [ai s,.ah (ao x)] (.bool (decide (x∈s.l))):=by
 apply a8 func70 [];simp[ai];refine bw s.l.length (fun k j l=>l=[.q 32 (ao x)]/\j 0=b0 32 ao s/\j 3=.ptr 0 0 32/\j 5=.i6 k/\∀ (g:Nat) (o:List B),g<k->s.l[g]?=some o->o≠x) ?_ (by simp[br t]);rintro k j l hk ⟨rfl,w,z,C,G⟩;obtain⟨j,rfl⟩:=gj w z C;clear w z C;simp;refine gq (fun h=>?_) (fun h=>?_)
 ·simp only[bI] at h;obtain⟨y,H,u⟩:=aQ (l:=s.l) (k:=k) F;have I:=cl (k:=k) F;simp[H,br (D y u),br t,aI,pa (D y u) t];by_cases m:y=x
  ·simp[m];exact aR (cm U.bool (bW (by rw[<-m];exact u)).symm) rfl
  ·simp[m,I];refine⟨F,fun g o p v=>?_⟩;by_cases J:g=k
   ·subst J;rw[H] at v;obtain rfl:=cd v;exact m
   ·exact G g o F v
 ·simp[h];have K:k=s.l.length:=by simp at h;omega
  refine aR (cm U.bool (cp fun O=>?_).symm) rfl;obtain⟨g,p⟩:=cc.1 O;exact G g x (by rw[K];exact (aH.1 p).1) p rfl
theorem px (s:bP) (D:cU s) (P:s.l.length<=1000000) (x:List B) (u:x.length=32) :aV 77 [ai s,.ah (ao x)] (.i6 (c8 x s.l 0)):=by
 apply a8 func77 [];simp[ai];refine bw s.l.length (fun k o l=>l=[.q 32 (ao x)]/\o 0=b0 32 ao s/\o 3=.ptr 0 0 32/\o 5=.i6 k/\∀ (g:Nat) (m:List B),g<k->s.l[g]?=some m->m≠x) ?_ (by simp[br u]);rintro k o l hk ⟨rfl,w,z,C,t⟩;obtain⟨o,rfl⟩:=gj w z C;clear w z C;simp;refine gq (fun h=>?_) (fun h=>?_)
 ·simp only[bI] at h;obtain⟨y,v,G⟩:=aQ (l:=s.l) (k:=k) F;have H:=cl (k:=k) F;simp[v,br (D y G),br u,aI,pa (D y G) u];by_cases p:y=x
  ·have I:=pd (n:=0) v t p;simp[p];exact aR (by rw[I];simp) rfl
  ·simp[p,H];refine⟨F,fun g m O j=>?_⟩;by_cases J:g=k
   ·subst J;rw[v] at j;obtain rfl:=cd j;exact fun h=>p h
   ·exact t g m F j
 ·simp[h];have K:k=s.l.length:=by simp at h;omega
  exact aR (by rw[vV fun g m j=>t g m (by rw[K];exact (aH.1 j).1) j]) rfl
def hY (l ps:aN) :Bool:=decide (∀ g∈ps,g∈l)
theorem C2 (s:bP) (ae:cU s) (Z:s.l.length<=1000000) (t:bP) (P:cU t) (al:t.l.length<=1000000) :aV 78 [ai s,ai t] (.bool (hY s.l t.l)):=by
 apply a8 func78 [];have W:=bV s;have J:bt (.ad 32) (ai t)=_:=ca _;simp;refine bw t.l.length (fun k j l=>j 0=ai s/\j 1=ai t/\j 5=.i6 k/\∀ (g:Nat) (p:List B),g<k->t.l[g]?=some p->p∈s.l) ?_ V;rintro k j l hk ⟨z,C,D,O⟩;obtain⟨j,rfl⟩:=gj z C D;clear z C D;by_cases m:k<t.l.length
 ·obtain⟨y,Q,v⟩:=aQ m;have S:=cl (k:=k) F;have I:bF (.ad 32) (ai t) _=_:=c6 Q;have H:=cP y;have G:=px s ae Z y (P y v);have R:=br (P y v);have K:=nb y s.l 0;obtain⟨ak,T⟩:=aq (ao y);rw[<-T] at I H G R;simp[J,m,I,R,aI];refine av G (by simp[ar,U.ax,W,H]) ?_;by_cases o:y∈s.l
  ·have q:¬ c8 y s.l 0<0:=by have:=K.2 o;omega
   simp[q,m,S];intro g p u w;by_cases X:g=k
   ·subst X;rw[Q] at w;obtain rfl:=cd w;exact o
   ·exact O g p F w
  ·have q:c8 y s.l 0<0:=by
    rcases Int.lt_or_le (c8 y s.l 0) 0 with h | h
    ·exact h
    ·exact bK (K.1 h) o
   simp[q];exact aR (cm U.bool (cp fun h=>o (h y v)).symm) rfl
 ·have Y:k=t.l.length:=F;simp[J,m];refine aR (cm U.bool (bW fun aj ag=>?_).symm) rfl;obtain⟨g,u⟩:=cc.1 ag;exact O g aj (by rw[Y];exact (aH.1 u).1) u
theorem jK {l:aN} (h:bQ l=true) :∀ {i j:Nat} {a b:List B},i<j->l[i]?=some a->l[j]?=some b->bD a b<0:=by
 have p:=io h;intro i j
 induction j with
 | zero=>intro a b q;omega
 | succ j v=>
  intro a b q m o;have u:=(aH.1 o).1;have h1:=p (j+1) u F;obtain⟨c,g,_⟩:=aQ (l:=l) (k:=j) F;rw[show j+1 - 1=j by omega,dx g,dx o] at h1;by_cases t:i=j
  ·subst t;rw[m] at g;obtain rfl:=cd g;exact h1
  ·exact nY _ _ _ (v F m g) h1
theorem Dl {l:aN} (h:bQ l=true) {i j:Nat} {a:List B} (g:l[i]?=some a) (m:l[j]?=some a) :i=j:=by
 rcases oG i j with h1 | h1 | h1
 ·have:=jK h h1 g m;rw[kO] at this;omega
 ·exact h1
 ·have:=jK h h1 m g;rw[kO] at this;omega
def er (l:aN) (x:List B) :Nat:=(l.takeWhile fun g=>decide (bD g x<0)).length
theorem Bc (x:List B) :∀ {l:aN} {p:Nat},p<=l.length->(∀ (t:Nat) (y:List B),t<p->l[t]?=some y->bD y x<0)->(∀ y,l[p]?=some y->¬ bD y x<0)->er l x=p
 | [],p,g,_,_=>by simp at g;subst g;rfl
 | y::l,0,_,_,h=>by
  have:=h y V;unfold er;rw[Aq,cp this];rfl
 | y::l,p+1,g,h1,h=>by
  have q:=h1 0 y F V;have o:=Bc x (l:=l) (p:=p) (by simpa using g) (fun t m u j=>h1 (t+1) m F (by simpa using j)) (fun m j=>h m (by simpa using j));unfold er at o ⊢;rw[Aq,bW q];simpa using o
theorem V9 (n:Nat) (h:n<9223372036854775808) :cn .shr .u64 (n:Int) .u64 1=some (.int .u64 ((n / 2:Nat) :Int)):=by
 have:=qb (BitVec.ofNat 64 n) .u64 1;have g:(u (BitVec.ofNat 64 n) :Int)=n:=by unfold u;rw[e3,dH F]
 have j:(u (BitVec.ofNat 64 n >>> 1) :Int)=((n / 2:Nat) :Int):=by
  unfold u;rw[lg,e3,dH F,hp]
 rw[g,j] at this;exact this
structure Mq (s:bP) (X:ag) (x:List B) (m:Nat) (sgZ:aP) (l:ae) :Prop where
 ex:∃ (i j:Nat),j - i=m/\i<=j/\j<=s.l.length/\l=[.q 32 X]/\sgZ 0=ai s/\sgZ 2=.fn 162 [] []/\sgZ 4=.ptr 0 0 32/\sgZ 8=.i6 s.l.length/\sgZ 9=.i6 i/\sgZ 10=.i6 j ∧
  (∀ (t:Nat) (y:List B),t<i->s.l[t]?=some y->bD y x<0)/\(∀ (t:Nat) (y:List B),j<=t->s.l[t]?=some y->¬ bD y x<0)
theorem zx (s:bP) (Q:cU s) (aU:s.l.length<=1000000) (x:List B) (am:x.length=32) (P:bQ s.l=true) :
  aV 161 [ai s,.ah (ao x),.fn 162 [] []] (.aZ [.i6 (er s.l x),.bool (decide (x∈s.l))]):=by
 apply a8 func161 [];have aG:bt (.ad 32) (ai s)=_:=ca _;have D:=br am;have T:=cP x;have K:∀ y∈s.l,aV 162 [.ah (ao y),.ah (ao x)] (.i6 (bD y x)):=fun y g=>qg y x (Q y g) am
 obtain⟨aw,aA⟩:=aq (ao x);rw[<-aA] at D T K ⊢;simp[aG];refine v8 (Mq s aw x) ?_ s.l.length _ _ ⟨0,s.l.length,F,F,F,by simp[D],V,V,by simp[D],V,V,V,fun m y h=>F,fun m y h t=>by rw[dV h] at t;cases t⟩;rintro aX aN l ⟨i,j,aW,aT,aE,rfl,X,Z,ae,ag,aj,Y,h1,t⟩;obtain⟨aN,rfl⟩:=pJ X Z ae ag aj Y;clear X Z ae ag aj Y;by_cases aJ:i<j
 ·obtain⟨h,aC⟩:=aq ((i+j) / 2);have ap:IntKind.i64.wrap ((i:Int)+j)=((i+j:Nat) :Int):=by rw[IntKind.wrap_i64];omega
  have au:IntKind.u64.wrap ((i+j:Nat) :Int)=((i+j:Nat) :Int):=by rw[uJ,nz];unfold u;rw[e3,dH F]
  have W:=V9 (i+j) F;have aO:IntKind.i64.wrap (h:Int)=(h:Int):=by rw[IntKind.wrap_i64];omega
  have aP:=cl (k:=h) F;have aK:(i:Int)<(j:Int):=F;rw[<-aC] at W;obtain⟨y,g,I⟩:=aQ (l:=s.l) (k:=h) F;have H:=br (Q y I);have G:=cP y;have C:bF (.ad 32) (ai s) _=_:=c6 g;have z:=K y I;obtain⟨ay,J⟩:=aq (ao y);rw[<-J] at H G C z;obtain⟨N,az⟩:=aq (i+j);rw[<-az] at ap au W;simp[aJ,ap,au,W,aO,C,H,D,aI];refine⟨BB,av z (by simp[ar,U.ax,G,T]) ?_⟩;by_cases w:bD y x<0
  ·simp[w,aP];refine⟨j - (h+1),F,h+1,j,rfl,F,F,V,V,V,V,V,V,V,fun m aS o q=>?_,t⟩;by_cases R:m=h
   ·subst R;rw[g] at q;obtain rfl:=cd q;exact w
   ·exact nY _ _ _ (jK P F q g) w
  ·simp[w];refine⟨h - i,F,i,h,rfl,F,F,V,V,V,V,V,V,V,h1,fun m aS o q ak=>w ?_⟩;by_cases R:m=h
   ·subst R;rw[g] at q;obtain rfl:=cd q;exact ak
   ·exact nY _ _ _ (jK P F g q) ak
 ·have aK:¬ (i:Int)<(j:Int):=F;obtain rfl:i=j:=F;have al:=Bc x (l:=s.l) (p:=i) aE h1 (fun y g=>t i y (aF _) g);have aL:∀ {y:List B},s.l[i]?=some y->(y=x<->x∈s.l):=fun {y} g=>by
   constructor
   ·rintro rfl;exact cz g
   ·intro S;obtain⟨m,o⟩:=cc.1 S;rcases oG m i with v | v | v
    ·have:=h1 m x v o;rw[kO] at this;omega
    ·subst v;rw[g] at o;exact cd o
    ·exact bK (jK P v g o) (t i y (aF _) g)
  by_cases O:i<s.l.length
  ·have aD:(i:Int)<(s.l.length:Int):=F;obtain⟨y,g,I⟩:=aQ (l:=s.l) (k:=i) O;have H:=br (Q y I);have G:=cP y;have C:bF (.ad 32) (ai s) _=_:=c6 g;have z:=K y I;have aB:bD y x=0<->x∈s.l:=by
    rw[<-aL g];exact⟨nW,fun h=>by rw[h];exact kO _⟩
   obtain⟨ay,J⟩:=aq (ao y);rw[<-J] at H G C z;simp[O,C,H,D,aI];refine⟨BB,av z (by simp[ar,U.ax,G,T]) ?_⟩;simp;refine aR ?_ rfl;rw[al];simp[aB]
  ·have aD:¬ (i:Int)<(s.l.length:Int):=F;simp[O];refine aR ?_ rfl;have aM:¬ x∈s.l:=fun S=>by
    obtain⟨m,o⟩:=cc.1 S;have:=h1 m x (by have:=(aH.1 o).1;omega) o;rw[kO] at this;omega
   rw[al,cp aM]
theorem A9 {l:aN} (j:bQ l=true) {k:Nat} {x:List B} (h:l[k]?=some x) :er l x=k:=
 Bc x (jW (aH.1 h).1) (fun o y m g=>jK j m g h) (fun y g=>by rw[h] at g;obtain rfl:=cd g;rw[kO];omega)
structure aW where
 idsZ:bP
 opsZ:bH aM
def bB (s:bH aM) :U:=b0 11 au s
def bb (g:aW) :ag:=[ai g.idsZ,bB g.opsZ]
def cE (g:aW) :U:=.ah (bb g)
structure e4 (g:aW) :Prop where
 idsZ:cU g.idsZ
 opsZ:∀ o∈g.opsZ.l,dv o
 li:g.idsZ.l.length<=1000000
 jE:g.opsZ.l.length<=1000000
theorem iM (s:bH aM) :(bB s).ax=true:=m0 dN s
theorem oZ (g:aW) :ar (bb g)=true:=by have:=bV g.idsZ;have:=iM g.opsZ;simp[bb,ar, *]
theorem oY (g:aW) :(cE g).ax=true:=by simp[cE,U.ax,oZ]
def dE (opsZ:List aM) (i:Nat) :aN:=match opsZ[i]? with | some g=>g.ay.l | none=>[]
theorem lM {opsZ:List aM} {i:Nat} {o:aM} (h:opsZ[i]?=some o) :dE opsZ i=o.ay.l:=by unfold dE;rw[h]
inductive l9 (idsZ:aN) (opsZ:List aM) :Nat->Prop
 | mk (i:Nat) (m:i<idsZ.length) (o:∀ g∈dE opsZ i,g∈idsZ) (j:∀ g∈dE opsZ i,∀ h,idsZ[h]?=some g->l9 idsZ opsZ h) :l9 idsZ opsZ i
def kG (idsZ:aN) :Prop:=∀ (i g:Nat) (x:List B),idsZ[i]?=some x->idsZ[g]?=some x->i=g
theorem mq {idsZ:aN} (h:bQ idsZ=true) :kG idsZ:=fun _ _ _ h1 g=>Dl h h1 g
theorem pD:∀ {a b:List Nat},a.Nodup->(∀ x∈a,x∈b)->a.length<=b.length
 | [],_,_,_=>ek _
 | x::a,b,g,h=>by
  rw[uV] at g;have j:=h x V;have o:=pD (b:=b.erase x) g.2 (fun y m=>(ED (fun e=>g.1 (by rw[<-e];exact m))).2 (h y (by simp[m])));rw[EA j] at o;have:=EB j;simp;omega
def mh (idsZ:aN) (opsZ:List aM) (out:List Nat) (i:Nat) :Bool:=decide (i∉out)&&hY (out.map (bn idsZ)) (dE opsZ i)
def hA (idsZ:aN) (opsZ:List aM) (out:List Nat) :Option Nat:=(List.range opsZ.length).find? (mh idsZ opsZ out)
def eF (idsZ:aN) (opsZ:List aM) :Nat->List Nat
 | 0=>[]
 | k+1=>match hA idsZ opsZ (eF idsZ opsZ k) with | some i=>eF idsZ opsZ k++[i] | none=>eF idsZ opsZ k
def lL (idsZ:aN) (opsZ:List aM) :List Nat:=eF idsZ opsZ opsZ.length
theorem S8 {idsZ:aN} {opsZ:List aM} {out:List Nat} {i:Nat} (h:hA idsZ opsZ out=some i) :i<opsZ.length/\i∉out/\∀ p∈dE opsZ i,p∈out.map (bn idsZ):=by have h1:=List.find?_some h;have g:=Mf h;unfold mh at h1;rw[bN,bI] at h1;exact⟨gS.1 g,h1.1,io h1.2⟩
theorem S7 {idsZ:aN} {opsZ:List aM} {out:List Nat} (h:hA idsZ opsZ out=none) {i:Nat} (j:i<opsZ.length) (m:i∉out) :¬ ∀ p∈dE opsZ i,p∈out.map (bn idsZ):=by intro g;have:=List.find?_eq_none.1 h i (gS.2 j);apply this;unfold mh;rw[bN];exact⟨bW m,bW g⟩
theorem S5 {idsZ:aN} {opsZ:List aM} {out:List Nat} {i:Nat} (m:i<opsZ.length) (h:mh idsZ opsZ out i=true) (g:∀ j,j<i->mh idsZ opsZ out j=false) :hA idsZ opsZ out=some i:=by unfold hA;rw[List.find?_range_eq_some];exact⟨h,by simpa using m,fun j o=>by rw[g j o];rfl⟩
theorem S6 {idsZ:aN} {opsZ:List aM} {out:List Nat} (g:∀ j,j<opsZ.length->mh idsZ opsZ out j=false) :hA idsZ opsZ out=none:=by unfold hA;rw[List.find?_eq_none];intro j h;rw[g j (gS.1 h)];simp
theorem wz {idsZ:aN} {opsZ:List aM} {k i:Nat} (h:hA idsZ opsZ (eF idsZ opsZ k)=some i) :eF idsZ opsZ (k+1)=eF idsZ opsZ k++[i]:=by show (match hA idsZ opsZ (eF idsZ opsZ k) with | some i=>eF idsZ opsZ k++[i] | none=>eF idsZ opsZ k)=_;rw[h]
theorem y5 {idsZ:aN} {opsZ:List aM} {k:Nat} (h:hA idsZ opsZ (eF idsZ opsZ k)=none) :eF idsZ opsZ (k+1)=eF idsZ opsZ k:=by show (match hA idsZ opsZ (eF idsZ opsZ k) with | some i=>eF idsZ opsZ k++[i] | none=>eF idsZ opsZ k)=_;rw[h]
theorem wy (idsZ:aN) (opsZ:List aM) (I:idsZ.length=opsZ.length) (v:kG idsZ) :∀ k,(eF idsZ opsZ k).Nodup/\(eF idsZ opsZ k).length<=k/\∀ i∈eF idsZ opsZ k,i<opsZ.length/\l9 idsZ opsZ i
 | 0=>⟨List.nodup_nil,aF _,fun i G=>by cases G⟩
 | k+1=>by
  obtain⟨h1,O,m⟩:=wy idsZ opsZ I v k;cases h:hA idsZ opsZ (eF idsZ opsZ k) with
  | none=>rw[y5 h];exact⟨h1,F,m⟩
  | some i=>
   rw[wz h];obtain⟨B,C,t⟩:=S8 h;refine⟨?_,by simp;omega,fun z o=>?_⟩
   ·rw[EF];refine⟨h1,V,fun x h y w e=>?_⟩;rw[fO] at w;subst e;rw[w] at h;exact C h
   ·rw[eQ,fO] at o;rcases o with o | rfl
    ·exact m z o
    ·have u:∀ g,g<idsZ.length->idsZ[g]?=some (bn idsZ g):=fun g j=>by
      obtain⟨x,h,_⟩:=aQ (l:=idsZ) j;rw[h,dx h]
     refine⟨B,.mk z F (fun q p=>?_) fun q p J H=>?_⟩
     ·obtain⟨g,j,rfl⟩:=cF.1 (t q p);exact cz (u g (by have:=(m g j).1;omega))
     ·obtain⟨g,j,rfl⟩:=cF.1 (t q p);obtain⟨K,D⟩:=m g j;rw[v J g _ H (u g F)];exact D
theorem CF {idsZ:aN} {opsZ:List aM} {k:Nat} (h:hA idsZ opsZ (eF idsZ opsZ k)=none) :∀ m,eF idsZ opsZ (k+m)=eF idsZ opsZ k
 | 0=>rfl
 | m+1=>by
  have g:=CF h m;rw[<-iE,y5 (by rw[g];exact h),g]
theorem IB {n:Nat} {l:List Nat} (o:l.Nodup) (m:l.length=n) (h:∀ i∈l,i<n) :∀ i,i<n->i∈l:=by
 intro i j;apply Classical.byContradiction;intro p;have:=pD (a:=i::l) (b:=List.range n) (uV.2 ⟨p,o⟩) (fun x g=>by
  rw[fX] at g;rcases g with rfl | g
  ·exact gS.2 j
  ·exact gS.2 (h x g))
 simp[m] at this;omega
theorem CG {idsZ:aN} {opsZ:List aM} (O:idsZ.length=opsZ.length) (I:kG idsZ) :(lL idsZ opsZ).length=opsZ.length<->∀ i,i<opsZ.length->l9 idsZ opsZ i:=by
 obtain⟨h1,C,q⟩:=wy idsZ opsZ O I opsZ.length;constructor
 ·intro h i j;exact (q i (IB h1 h (fun i j=>(q i j).1) i j)).2
 ·intro h;have H:∀ k,k<=opsZ.length->(eF idsZ opsZ k).length=k\/∃ m,m<=k/\hA idsZ opsZ (eF idsZ opsZ m)=none:=by
   intro k
   induction k with
   | zero=>intro _;exact .inl rfl
   | succ k p=>
    intro hk;rcases p F with g | ⟨m,K,g⟩
    ·cases w:hA idsZ opsZ (eF idsZ opsZ k) with
     | none=>exact .inr ⟨k,F,w⟩
     | some i=>left;rw[wz w];simp[g]
    ·exact .inr ⟨m,F,g⟩
  rcases H opsZ.length (aF _) with g | ⟨m,K,g⟩
  ·exact g
  ·have v:eF idsZ opsZ opsZ.length=eF idsZ opsZ m:=by
    have:=CF g (opsZ.length - m)
    rwa [show m+(opsZ.length - m)=opsZ.length by omega] at this
   have G:∀ i,l9 idsZ opsZ i->i<opsZ.length->i∈eF idsZ opsZ m:=by
    intro i t
    induction t with
    | mk i j Q t p=>
     intro J;apply Classical.byContradiction;intro P;refine S7 g J P fun B u=>?_
     obtain⟨z,o⟩:=cc.1 (Q B u);exact cF.2 ⟨z,p B u z o (by have:=(aH.1 o).1;omega),dx o⟩
   show (eF idsZ opsZ opsZ.length).length=opsZ.length;rw[v];have D:=pD (a:=List.range opsZ.length) (b:=eF idsZ opsZ m) Am fun i j=>G i (h i (gS.1 j)) (gS.1 j)
   rw[List.length_range] at D;rw[v] at C;omega
theorem Qa (g:aW) (j:e4 g) (u:bQ g.idsZ.l=true) (x:List B) (o:x.length=32) :aV 287 [cE g,.ah (ao x)] (.aZ [.i6 (er g.idsZ.l x),.bool (decide (x∈g.idsZ.l))]):=by apply a8 func287 [];have t:=bV g.idsZ;have w:=iM g.opsZ;have h:=cP x;have p:=br o;have m:=zx g.idsZ j.idsZ j.li x o u;obtain⟨v,q⟩:=aq (ao x);rw[<-q] at m h p ⊢;simp[cE,bb,p,aI];refine av m (by simp[ar,U.ax,t,h]) ?_;simp;exact aG
def fS (n:Nat) :ag:=[.i6 (n:Int)]
def kR (b:Bool) :ag:=[.bool b]
def cO {alZ:Type} (l:List alZ) :bH alZ:=match l with | []=>none | x::r=>some (x::r)
theorem dr {alZ:Type} (l:List alZ) :(cO l).l=l:=by cases l<;>rfl
theorem ov {alZ:Type} (l:List alZ) :(cO l).isNone=l.isEmpty:=by cases l<;>rfl
def Bq (l:bH Nat) :U:=b0 1 fS l
theorem J4 {alZ:Type} (zero:U) (n:Nat) :cy [zero] n=List.replicate n zero:=by
 rw[wM]
 induction n with
 | zero=>rfl
 | succ n g=>rw[jV,gR,g,jV];rfl
theorem we {z by_ n:Nat} {k k' : cQ} {zero:ag} {l:ae} (g:zero.length=z) (h1:n<9223372036854775808) (m:by_*n<=db) :
  lG z by_ zero l (.int k (n:Int)) (.int k' (n:Int))=some (.ad z l.length 0 n n (n*z),l++[.q (n*z) (cy zero n)])/\aJ z (l++[.q (n*z) (cy zero n)]) (.ad z l.length 0 n n (n*z)) l.length (List.replicate n zero):=by
 constructor
 ·have h:(by_:Int)*(n:Int)<=(db:Int):=by rw[<-Int.natCast_mul];omega
  simp only[lG,fb];rw[aj ⟨F,F,F,h⟩]
 ·refine .ad l.length n n (n*z) (cy zero n) _ (by rw[ej (aF _)];simp) (by rw[uj,g]) V (fun e j=>by rw[sQ j];exact g) (aF _) (aF _) ?_;rw[aI (by rw[uj,g];omega),wM]
def m4 (n:Nat) (out:List Nat) :List Bool:=(List.range n).map fun i=>decide (i∈out)
theorem x4 {n:Nat} {out:List Nat} {i:Nat} (h:i<n) :(m4 n out)[i]?=some (decide (i∈out)):=by unfold m4;rw[bX,g9 h];rfl
theorem vB (n:Nat) (out:List Nat) :(m4 n out).length=n:=by simp[m4]
theorem Pr {n:Nat} {out:List Nat} {i:Nat} (h:i<n) :(m4 n out).set i true=m4 n (out++[i]):=by
 apply g7;intro m;by_cases j:m<n
 ·rw[x4 j,nC];by_cases g:i=m
  ·subst g;simp[vB,h]
  ·rw[ak g,x4 j];simp[Ne.symm g]
 ·rw[dV (by simp[vB];omega),dV (by simp[vB];omega)]
theorem Pq (n:Nat) :m4 n []=List.replicate n false:=by
 apply g7;intro h;by_cases g:h<n
 ·rw[x4 g];simp[g]
 ·rw[dV (by simp[vB];omega),dV (by simp;omega)]
theorem one_cell {cs:ag} {o:Nat} {c:U} (h:(cs.drop o).take 1=[c]) :cs[o]?=some c:=by
 have h1:((cs.drop o).take 1)[0]?=some c:=by rw[h];rfl
 rw[dG F,gn] at h1;exact h1
structure M8 (g:aW) (out:List Nat) (o p t:U) (rest:ae) :Prop where
 ex:∃ h j m,aJ 1 (.q 2 (bb g) ::rest) o h (out.map fS)/\aJ 32 (.q 2 (bb g) ::rest) p j ((out.map (bn g.idsZ.l)).map ao)/\aJ 1 (.q 2 (bb g) ::rest) t m ((m4 g.opsZ.l.length out).map kR) ∧
  1<=m/\bq t=false/\bq o=out.isEmpty/\bq p=out.isEmpty/\(out=[]\/(1<=h/\1<=j/\h≠j/\h≠m/\j≠m))
theorem UA (g:aW) (ak:e4 g) (bg:g.idsZ.l.length=g.opsZ.l.length) (al:kG g.idsZ.l) :aV 125 [cE g] (Bq (cO (lL g.idsZ.l g.opsZ.l))):=by
 apply a8 func125 [da 0 5++da 6 7++[[5,12,11,8]]];have aR:db=140737488355328:=rfl;have cm:=bV g.idsZ;have cn:=iM g.opsZ;have aB:bt (.ad 11) (bB g.opsZ)=_:=ca _;have cu:=ak.jE;obtain⟨bh,bi⟩:=we (z:=1) (by_:=1) (n:=g.opsZ.l.length) (k:=.i64) (k':=.i64) (zero:=[U.bool false]) (l:=[am.q 2 (bb g)]) rfl F (by rw[aR];omega);simp only[bb,nH,J4 (alZ:=Nat)] at bh bi;simp[cE,bb,aB,bh];refine v8 (fun aT j l=>∃ (k:Nat) (rest:ae),l=.q 2 (bb g) ::rest/\j 1=.ptr 0 0 2/\M8 g (eF g.idsZ.l g.opsZ.l k) (j 3) (j 4) (j 5) rest ∧
  ((j 6=.bool true/\(eF g.idsZ.l g.opsZ.l k).length=k/\aT=g.opsZ.l.length - k+1)\/(j 6=.bool false/\hA g.idsZ.l g.opsZ.l (eF g.idsZ.l g.opsZ.l k)=none/\k<=g.opsZ.l.length/\aT=0))) ?_ (g.opsZ.l.length+1) _ _ ?_
 ·rintro aT j l ⟨k,rest,rfl,w,Z,O⟩;obtain⟨aE,p⟩:∃ v,j 3=v:=⟨_,rfl⟩
  obtain⟨aG,o⟩:∃ v,j 4=v:=⟨_,rfl⟩
  obtain⟨bC,t⟩:∃ v,j 5=v:=⟨_,rfl⟩
  rw[p,o,t] at Z;obtain⟨out,J⟩:=aq (eF g.idsZ.l g.opsZ.l k);rw[<-J] at Z O;obtain⟨bl,bT,az⟩:=wy g.idsZ.l g.opsZ.l bg al k;rw[<-J] at bl bT az;have cw:out.length<=g.opsZ.l.length:=by
   have:=pD (b:=List.range g.opsZ.l.length) bl (fun x I=>gS.2 (az x I).1);simpa using this
  rcases O with ⟨B,hk,rfl⟩ | ⟨B,aP,ct,rfl⟩
  ·obtain⟨j,rfl⟩:=gk w p o t B;clear w p o t B;simp;refine bw g.opsZ.l.length (fun i j l=>l=.q 2 (bb g) ::rest/\j 1=.ptr 0 0 2/\j 3=aE/\j 4=aG/\j 5=bC/\j 6=.bool false/\j 7=.i6 i/\∀ G,G<i->mh g.idsZ.l g.opsZ.l out G=false) ?_ V;rintro i j l cp ⟨rfl,w,p,o,t,B,a4,O⟩;obtain⟨j,rfl⟩:=pJ w p o t B a4;clear w p o t B a4;by_cases D:i<g.opsZ.l.length
   ·obtain⟨T,bm,bp⟩:=aQ D;have a2:=cl (k:=i) F;have bN:bF (.ad 11) (bB g.opsZ) _=_:=c6 bm;obtain⟨u,m,n9,ar,av,ax,W,aD,R,S,aL⟩:=Z;obtain⟨cz,ch,cC,a0,aH,cg,bG⟩:=ax.q.get (k:=.i64) (i:=i) (e:=kR (decide (i∈out))) (by rw[bX,x4 D];rfl);have a1:=one_cell (c:=.bool (decide (i∈out))) (by simpa [kR] using bG);have bs:=av.lP (enc:=ao) (xs:=out.map (bn g.idsZ.l)) (fun x=>cP x) (cO (out.map (bn g.idsZ.l))) (by rw[S,ov];simp) (dr _);have bU:cU (cO (out.map (bn g.idsZ.l))):=fun x I=>by
     rw[dr] at I;obtain⟨bx,b0,rfl⟩:=cF.1 I;obtain⟨y,aC,aS⟩:=aQ (l:=g.idsZ.l) (k:=bx) (by have:=(az bx b0).1;omega);rw[dx aC];exact ak.idsZ y aS
    have bd:=C2 (cO (out.map (bn g.idsZ.l))) bU (by rw[dr];simp;omega) T.ay (ak.opsZ T bp).idsZ (ak.opsZ T bp).len;rw[dr] at bd;have bM:=bV T.ay;have aj:mh g.idsZ.l g.opsZ.l out i=(decide (i∉out)&&hY (out.map (bn g.idsZ.l)) T.ay.l):=by unfold mh;rw[lM bm]
    simp only[bb] at aH ar av ax bs;by_cases aA:i∈out
    ·simp[bb,aB,D,a0,aH,a1,aA,a2];intro G al;by_cases aN:G=i
     ·subst aN;rw[aj];simp[aA]
     ·exact O G F
    ·simp[bb,aB,D,a0,aH,a1,aA,bN,au];refine g0 bd (.cons bs (.cons (.same _ bM) .nil)) rfl ?_;by_cases ag:hY (out.map (bn g.idsZ.l)) T.ay.l=true
     ·rw[ag] at aj;obtain⟨y,aC,aS⟩:=aQ (l:=g.idsZ.l) (k:=i) F;have bf:bF (.ad 32) (ai g.idsZ) _=_:=c6 aC;have ap:=br (ak.idsZ y aS);obtain⟨Y,a9⟩:=aq (ao y);rw[<-a9] at bf ap;have bZ:aw (bO 32 (.int .u8 0)) 0 Y=Y:=cH (by rw[ap];rfl);obtain⟨Q,H⟩:=aq (am.q 2 [ai g.idsZ,bB g.opsZ] ::(rest++[am.q 1 [U.int IntKind.i64 (i:Int)],am.q 32 Y]));have bQ:Q.length=rest.length+3:=by rw[H];simp
      have aU:aJ 1 Q aE u (out.map fS):=by rw[H];exact ar.more _
      have aX:aJ 32 Q aG m ((out.map (bn g.idsZ.l)).map ao):=by rw[H];exact av.more _
      have b5:aJ 1 Q bC n9 ((m4 g.opsZ.l.length out).map kR):=by rw[H];exact ax.more _
      have bk:out=[]->aE=.af/\aG=.af:=fun h=>by rw[h] at R S;exact⟨go.1 R,go.1 S⟩
      have cx:n9<rest.length+1:=by
       rcases ax.lt with h | h
       ·rw[h] at aD;cases aD
       ·simpa using h
      obtain⟨u,aU,q1,b6,b7,cA⟩:∃ u,aJ 1 Q aE u (out.map fS)/\1<=u/\u≠n9/\(out=[]\/u≠m)/\(u<rest.length+1\/Q.length<=u):=by
       by_cases h:out=[]
       ·have P:=(bk h).1;rw[P,h];exact⟨Q.length,.nil _,F,F,.inl rfl,.inr (aF _)⟩
       ·obtain⟨h1,a5,a6,a7,W⟩:=aL.resolve_left h;refine⟨u,aU,h1,a7,.inr a6,.inl ?_⟩;rcases ar.lt with C | C
        ·rw[C] at R;cases out with
         | nil=>exact bK rfl h
         | cons=>cases R
        ·simpa using C
      obtain⟨bz,K,b2,w,a3,p,o,t,B⟩:=lp (by_:=8) aU (x:=.ad 1 (rest.length+1) 0 1 1 1) (xs:=[fS i]) (by rw[H];simp[cD,fS]) (by simp[fS]) F F (by rw[aR];simp;omega);obtain⟨iS,rfl⟩:∃ iS,b2=am.q 2 [ai g.idsZ,bB g.opsZ] ::iS:=y2 (by rw[o 0 F F,H];rfl);have bL:(am.q 2 [ai g.idsZ,bB g.opsZ] ::iS)[rest.length+2]?=some (.q 32 Y):=by rw[o (rest.length+2) F F,H];simp
      have ck:(am.q 2 [ai g.idsZ,bB g.opsZ] ::iS)[rest.length+1]?=some (.q 1 [.i6 (i:Int)]):=by rw[o (rest.length+1) F F,H];simp
      have b1:=b5.frame (l':=am.q 2 [ai g.idsZ,bB g.opsZ] ::iS) (fun h=>o n9 h (Ne.symm b6));rw[H] at w;simp[ag,bf,ap,bZ,aI,w];refine bY.bo ?_;simp;have bc:iS[rest.length+1]?=some (.q 32 Y):=by simpa using bL
      refine⟨⟨bc,F,aI F⟩,?_⟩;have bu:bz≠.af:=fun h=>by have:=(B.1 h).2;cases this
      have cr:K<iS.length+1:=by have:=a3.lt.resolve_left bu;simpa using this
      have aM:1<=K/\K≠n9:=by rcases t with h | h<;>omega
      obtain⟨m,aX,t1,t2,t3,t4⟩:∃ m,aJ 32 (am.q 2 [ai g.idsZ,bB g.opsZ] ::iS) aG m ((out.map (bn g.idsZ.l)).map ao)/\1<=m/\m≠n9/\m≠K/\(m<iS.length+1\/iS.length+1<=m):=by
       by_cases h:out=[]
       ·have P:=(bk h).2;rw[P,h];simp at p;exact⟨iS.length+1,.nil _,F,F,F,.inr (aF _)⟩
       ·obtain⟨h1,a5,a6,a7,W⟩:=aL.resolve_left h;have cj:m<rest.length+1:=by
         rcases av.lt with C | C
         ·rw[C] at S;cases out with
          | nil=>exact bK rfl h
          | cons=>cases S
         ·simpa using C
        have bJ:=b7.resolve_left h;refine⟨m,aX.frame (fun h=>o m h (Ne.symm bJ)),a5,W,by rcases t with h | h<;>omega,.inl (by simp at p;omega)⟩
      obtain⟨bA,qt,b3,f1,f2,f3,f4,f5,f6⟩:=lp (by_:=32) aX (x:=.ad 32 (rest.length+1+1) 0 1 1 32) (xs:=[Y]) (by simp[cD,ap,bc,aI]) (by simp[ap]) F F (by rw[aR];simp;omega);obtain⟨wJ,rfl⟩:∃ wJ,b3=am.q 2 [ai g.idsZ,bB g.opsZ] ::wJ:=y2 (by rw[f4 0 V F];rfl);have bv:bA≠.af:=fun h=>by have:=(f6.1 h).2;cases this
      have cs:qt<wJ.length+1:=by have:=f2.lt.resolve_left bv;simpa using this
      have cc:=a3.frame (l':=am.q 2 [ai g.idsZ,bB g.opsZ] ::wJ) (fun h=>f4 K h (Ne.symm t3));have cd:=b1.frame (l':=am.q 2 [ai g.idsZ,bB g.opsZ] ::wJ) (fun h=>f4 n9 h (Ne.symm t2));obtain⟨cy,b4,b8,b9,cb,cB,aY⟩:=y6 (k:=i) (x:=true) (X:=.bool true) (enc:=kR) rfl cd (fun _ _=>rfl) (by rw[vB];exact D) rfl;simp[f1];refine bY.bo ?_;simp[b8,b9];have aK:qt=m\/iS.length+1<=qt:=by simpa using f5
      have ci:rest.length+3<=iS.length+1:=by rw[bQ] at p;simpa using p
      have ce:1<=qt:=by rcases aK with h | h<;>omega
      have bE:qt≠n9:=by rcases aK with h | h<;>omega
      have cf:K≠qt:=by rcases aK with h | h<;>omega
      obtain⟨C0,rfl⟩:∃ C0,b4=am.q 2 [ai g.idsZ,bB g.opsZ] ::C0:=y2 (by rw[aY 0 F];rfl);have bS:hA g.idsZ.l g.opsZ.l out=some i:=S5 D (by rw[aj];simp[aA]) O;have aO:eF g.idsZ.l g.opsZ.l (k+1)=out++[i]:=by rw[wz (by rw[<-J];exact bS),<-J]
      have cv:k<g.opsZ.l.length:=by
       have C:=(wy g.idsZ.l g.opsZ.l bg al (k+1)).1;rw[aO] at C;have:=pD (b:=List.range g.opsZ.l.length) C (fun x I=>gS.2 (by
        rw[eQ,fO] at I;rcases I with I | rfl
        ·exact (az x I).1
        ·exact D))
       simp at this;omega
      have bH:(out++[i]).map fS=out.map fS++[fS i]:=V;have bI:((out++[i]).map (bn g.idsZ.l)).map ao=(out.map (bn g.idsZ.l)).map ao++[Y]:=by
       have bP:bn g.idsZ.l i=y:=dx aC;rw[dk,dk,List.map_singleton,List.map_singleton,bP,a9]
      refine⟨g.opsZ.l.length - (k+1)+1,F,k+1,C0,rfl,?_,by rw[aO];simp[hk],rfl⟩;rw[aO];refine⟨⟨K,qt,n9,?_,?_,?_,W,aD,?_,?_,.inr ⟨aM.1,ce,cf,aM.2,bE⟩⟩⟩
      ·rw[bH];exact cc.frame (fun h=>aY K aM.2)
      ·rw[bI];exact f2.frame (fun h=>aY qt bE)
      ·rw[<-Pr D];exact cb
      ·cases P:bq bz with
       | true=>exact bK (go.1 P) bu
       | false=>simp
      ·cases P:bq bA with
       | true=>exact bK (go.1 P) bv
       | false=>simp
     ·rw[xj] at ag;rw[ag] at aj;simp[ag,D,a2];refine⟨rfl,fun G al=>?_⟩;by_cases aN:G=i
      ·subst aN;rw[aj];simp
      ·exact O G F
   ·have cq:i=g.opsZ.l.length:=F;simp[bb,aB,D];have aP:hA g.idsZ.l g.opsZ.l out=none:=S6 fun G al=>O G F
    refine⟨0,F,k,by rw[<-J];exact Z,by rw[<-J];exact aP,F,rfl⟩
  ·obtain⟨j,rfl⟩:=gk w p o t B;clear w p o t B;simp;obtain⟨u,m,n9,ar,av,ax,W,aD,R,S,aL⟩:=Z;have bW:lL g.idsZ.l g.opsZ.l=out:=by
    unfold lL;have:=CF (k:=k) (by rw[<-J];exact aP) (g.opsZ.l.length - k);rw[show k+(g.opsZ.l.length - k)=g.opsZ.l.length by omega,<-J] at this;exact this
   rw[bW];exact ar.q.jg (fun x=>rfl) (cO out) (by rw[R,ov]) (dr _)
 ·refine⟨0,_,rfl,V,?_,.inl ⟨V,rfl,rfl⟩⟩;simp;refine⟨⟨0,0,1,.nil 0,.nil 0,?_,F,rfl,rfl,rfl,.inl rfl⟩⟩;show aJ _ _ _ _ ((m4 g.opsZ.l.length []).map kR);have:(m4 g.opsZ.l.length []).map kR=List.replicate g.opsZ.l.length [U.bool false]:=by rw[Pq,xr];rfl
  rw[this];exact bi
end Op
end Go.bf

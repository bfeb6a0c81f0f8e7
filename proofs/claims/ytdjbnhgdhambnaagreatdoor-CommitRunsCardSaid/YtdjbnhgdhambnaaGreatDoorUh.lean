/-
  slices.Clone and slices.Compact of idsZ: walked.
-/
import Derived.Test.YtdjbnhgdhambnaaGreatDoorUg
set_option maxHeartbeats 16000000
set_option maxRecDepth 100000
set_option linter.unusedVariables false
set_option linter.unusedSimpArgs false
set_option linter.unnecessarySimpa false
namespace Go.bl
open Go Go.Proofs Go.Proofs.Tryz
namespace Op
open cu
theorem x6:∀ a b:List B,a.length=b.length->dz (a.map a7) (b.map a7)=decide (a=b)
 | [],[],_=>rfl
 | [],_::_,h=>by simp at h
 | _::_,[],h=>by simp at h
 | x::a,y::b,h=>by
  have j:=x6 a b (by simpa using h);simp only[di,dz,j,U.beq,n5,lF];by_cases h1:x=y
  ·by_cases g:a=b<;>simp[h1,g]
  ·have:¬ u x=u y:=fun h=>h1 ((hY x y).1 h)
   simp[h1]
theorem sl:∀ a:List B,gQ (List.replicate a.length (.i .u8)) (a.map a7)=true
 | []=>rfl
 | x::a=>by
  rw[dN,k4,di];simp only[gQ,sl a,xn,n5,k1]
theorem Iq:mK prog 20 57=some (List.replicate 32 (.i .u8)):=bp
theorem nz {a b:List B} (g:a.length=32) (h:b.length=32) :eb prog .eql 57 (.af (am a)) (.af (am b))=some (.bool (decide (a=b))):=by unfold am;rw[vA Iq bp bp (by have:=sl a;rwa [g] at this) (by have:=sl b;rwa [h] at this),x6 a b F]
theorem oE {a b:List B} (g:a.length=32) (h:b.length=32) :eb prog .neq 57 (.af (am a)) (.af (am b))=some (.bool (!decide (a=b))):=by unfold am;rw[Bt Iq bp bp (by have:=sl a;rwa [g] at this) (by have:=sl b;rwa [h] at this),x6 a b F]
theorem Tj (s:b2) :eb prog .eql 23 (b4 32 am s) .ae=some (.bool s.isNone):=vz (e:=57) bp 32 am s
theorem TH (l:ad) :ce 32 am l (l++[.q 0 []]) (.Z 32 l.length 0 0 0 0) ([] :aQ) false:=
 ⟨l.length,.Z l.length 0 0 0 [] [] V rfl rfl V (aN _) F rfl,V,fun b g=>aU g,.inr (aN _),rfl⟩
theorem yP (s:b2) (m:c6 s) (p:s.l.length<=1000000) {l:ad} {K:cA} (g:∀ v l',ce 32 am l l' v s.l s.isNone->K v l') :
  cM 80 [ah s] l K:=by
 apply c0 func80 [];have o:=ds;cases s with
 | none=>
  simp[ah];exact g _ _ ce.nil
 | some a=>
  simp at p;obtain⟨t,l',h,j,_⟩:=(TH l).app (by_:=32) (x:=b4 32 am (some a)) (xs:=a) (qA _ 32 am (some a)) (fun y q=>br (m y q)) F F (by rw[o];simp;omega);simp[ah,Tj,h];refine bP.bm ?_;simp;exact g _ _ (by simpa using j)
def j0 (l:aQ) (m:Nat) :aQ:=(List.range m).flatMap fun k=>if k=0\/bw l k≠bw l (k - 1) then [bw l k] else []
def dh (l:aQ) :aQ:=j0 l l.length
theorem tE (l:aQ) (m:Nat) :j0 l (m+1)=j0 l m++(if m=0\/bw l m≠bw l (m - 1) then [bw l m] else []):=by unfold j0;rw[s5,xH];simp
theorem BM (l:aQ) :∀ m,(j0 l m).length<=m
 | 0=>by simp[j0]
 | m+1=>by
  have:=BM l m;rw[tE,cF];split<;>simp<;>omega
theorem vO {l:aQ}:∀ {m},m<=l.length->(∀ k,1<=k->k<m->bw l k≠bw l (k - 1))->j0 l m=l.take m
 | 0,_,_=>by simp[j0]
 | m+1,o,h=>by
  rw[tE,vO F (fun k h1 j=>h k h1 F),ej,ak (by
   by_cases g:m=0
   ·exact .inl g
   ·exact .inr (h m F F))]
  congr 1;unfold bw;rw[gx,bK F];rfl
theorem G1 {l:aQ} {k:Nat} (h1:1<=k) (g:bw l k=bw l (k - 1)) :∀ {m},k<m->(j0 l m).length<m
 | 0,h=>F
 | m+1,h=>by
  rw[tE,cF];by_cases hk:k=m
  ·subst hk;have:=BM l k;rw[aj (fun h=>h.elim (fun o=>F) (fun j=>j g))];simp;omega
  ·have:=G1 h1 g (m:=m) F;split<;>simp<;>omega
theorem PS {l:aQ} (j:sI l=true) :((dh l).length=l.length)<->b8 l=true:=by
 unfold sI at j;rw[bI] at j;unfold b8 dh;rw[bI];constructor
 ·intro h k hk h1;have m:=j k hk h1;have p:bw l k≠bw l (k - 1):=fun g=>by
   have:=G1 h1 g hk;omega
  have q:=ov (bw l k) (bw l (k - 1));have t:bQ (bw l (k - 1)) (bw l k)≠0:=fun o=>p (ou o).symm
  omega
 ·intro h;rw[vO (aN _) (fun k h1 m g=>by
   have:=h k m h1;rw[<-g,lg] at this;omega),e3]
theorem yQ {a:aQ} {k:Nat} (h:k<a.length) :(a.map am)[k]?=some (am (bw a k)):=by rw[b1];unfold bw;rw[gx,bK h];rfl
theorem we {a:aQ} {k:Nat} (h:k<a.length) :bw a k∈a:=by unfold bw;rw[gx,bK h];exact E8 h
structure MR (l:ad) (v:U) (xs:aQ) (k:Nat) (sgZ:aS) (l1:ad) :Prop where
 kF:sgZ 0=v
 hP:sgZ 3=.i6 ((k+1:Nat) :Int)
 ny:l1=l
 jy:∀ j,1<=j->j<k+1->bw xs j≠bw xs (j - 1)
structure MQ (l:ad) (v o:U) (j:Nat) (xs:aQ) (m i:Nat) (sgZ:aS) (h:ad) :Prop where
 kF:sgZ 0=v
 hQ:sgZ 4=o
 kG:sgZ 5=.i6 ((i+1:Nat) :Int)
 ex:∃ (k:Nat) (g:aQ),sgZ 3=.i6 (k:Int)/\aE 32 h v j (g.map am)/\g.length=xs.length/\(∀ y∈g,y.length=32)/\g.take k=j0 xs (m+i+1)/\k<=m+i/\(∀ t,m+i<=t->bw g t=bw xs t)/\h.length=l.length/\∀ b,b≠j->h[b]?=l[b]?
theorem PR {l:ad} {v:U} {j k:Nat} {g:aQ} (h:aE 32 l v j (g.map am)) (hk:k<g.length) :
  ∃ B o r,dw (.Z 32) v (some (.i6 (k:Int))) none none=some B/\pn (bZ 32 (.int .u8 0)) l B=some o/\dw (.Z 32) v none (some (.i6 (k:Int))) none=some r ∧
   aE 32 o r j ((g.take k).map am)/\bo r=false/\o.length=l.length/\∀ b,b≠j->o[b]?=l[b]?:=by
 generalize m:g.map am=I at h;cases h with
 | nil j=>rw[m7] at m;subst m;simp at hk
 | Z j n cap p cs I u ai Y w P R T=>
  subst m;have ap:g.length=n:=by simpa using Y
  have J:gW (.i6 (k:Int)) n=some k:=by
   show (if 0<=(k:Int)/\(k:Int)<=(n:Int) then some (k:Int).toNat else none)=some k;rw[ak ⟨F,F⟩];simp
  have K:gW (.i6 (k:Int)) cap=some k:=by
   show (if 0<=(k:Int)/\(k:Int)<=(cap:Int) then some (k:Int).toNat else none)=some k;rw[ak ⟨F,F⟩];simp
  have C:e5 n cap (some (.i6 (k:Int))) none none=some (k,n,cap):=by
   show (match gW (.i6 (k:Int)) n with | none=>none | some l=>some (l,n,cap))=_;rw[J]
  have D:e5 n cap none (some (.i6 (k:Int))) none=some (0,k,cap):=by
   show (match gW (.i6 (k:Int)) cap with | none=>none | some h=>some (0,h,cap))=_;rw[K]
  have S:¬ cap=k:=F;have Q:¬ cap=0:=F;have W:j<l.length:=aX u;have X:k*32<=n*32:=ck _ F;have al:n*32<=cap*32:=ck _ P;have ag:(c3 (bZ 32 (.int .u8 0)) (n - k)).length=(n - k)*32:=by rw[ut];rfl
  have ao:k*32+(n - k)*32=n*32:=by rw[<-eP];congr 1;omega
  refine⟨.Z 32 j (k*32) (n - k) (cap - k) p,l.set j (.q p (aw cs (k*32) (c3 (bZ 32 (.int .u8 0)) (n - k)))),.Z 32 j 0 k cap p,?_,?_,?_,?_,rfl,V,fun b O=>by rw[bg (fun h=>O h.symm)]⟩
  ·rw[q7,C];simp[S]
  ·unfold pn;simp only;rw[aj F];simp[u]
  ·rw[q7,D];simp[Q]
  ·refine .Z j k cap p _ _ (bV W) (by rw[oV F,ag];omega) (by simp;omega) (fun e m=>?_) F R ?_
   ·obtain⟨y,t,rfl⟩:=cC.1 m;exact w _ (s4 (gA t))
   ·unfold aw;rw[hl,ik (by rw[cL];omega),lK,Nat.min_self];have G:cs.take (k*32)=(cs.take (n*32)).take (k*32):=by rw[lK,i7 X]
    have H:g.map am=(g.take k).map am++(g.drop k).map am:=by rw[<-cS,i4]
    have ah:((g.take k).map am).flatten.length=k*32:=by
     rw[hw (z:=32) (fun e m=>by obtain⟨y,t,rfl⟩:=cC.1 m;exact w _ (s4 (gA t)))];simp;omega
    rw[G,T,H,jq,ik F,aH F]
theorem Js {g:aQ} (t:∀ y∈g,y.length=32) (k:Nat) (hk:k<=g.length) {n:Nat} (w:g.length=n) {cs:ag} (j:cs.take (n*32)=(g.map am).flatten) (v:n*32<=cs.length) :
  cs.take (k*32)=((g.take k).map am).flatten/\(cs.drop (k*32)).take (n*32 - k*32)=((g.drop k).map am).flatten:=by
 have p:k*32<=n*32:=ck _ F;have h:g.map am=(g.take k).map am++(g.drop k).map am:=by rw[<-cS,i4]
 have u:((g.take k).map am).flatten.length=k*32:=by
  rw[hw (z:=32) (fun e o=>by obtain⟨y,q,rfl⟩:=cC.1 o;exact br (t _ (gA q)))];simp;omega
 have m:cs.take (k*32)=(cs.take (n*32)).take (k*32):=by rw[lK,i7 p]
 constructor
 ·rw[m,j,h,jq,ik F,aH F]
 ·rw[<-p9,j,h,jq,nY F,p8 F,h0]
theorem WL {l:ad} {v:U} {j k:Nat} {g:aQ} {x:List B} (h:aE 32 l v j (g.map am)) (t:∀ y∈g,y.length=32) (hk:k<g.length) (Q:x.length=32) :
  ∃ p l',bO (.Z 32) v (.i6 (k:Int))=some p/\jM 32 l p (.af (am x))=some l'/\aE 32 l' v j ((g.set k x).map am)/\l'.length=l.length/\∀ b,b≠j->l'[b]?=l[b]?:=by
 generalize o:g.map am=G at h;cases h with
 | nil j=>rw[m7] at o;subst o;simp at hk
 | Z j n cap u cs G w W K ag z I C=>
  subst o;have D:g.length=n:=by simpa using K
  have J:j<l.length:=aX w;have m:=br Q;have X:(k+1)*32<=n*32:=ck _ F;have Y:n*32<=cap*32:=ck _ z;have O:(k+1)*32=k*32+32:=by rw[ek]
  obtain⟨f1,_⟩:=Js t k F D C F;obtain⟨_,f2⟩:=Js t (k+1) F D C F;refine⟨.ptr j (k*32) u,l.set j (.q u (aw cs (k*32) (am x))),?_,?_,?_,V,fun b H=>by rw[bg (fun h=>H h.symm)]⟩
  ·simp[bO];omega
  ·unfold jM;simp[w,U.cells,m];omega
  ·refine .Z j n cap u _ _ (bV J) (by rw[oV F,m];omega) (by simp;omega) (fun e o=>?_) z I ?_
   ·obtain⟨y,R,rfl⟩:=cC.1 o;rcases n2 R with h | h
    ·exact br (t _ h)
    ·rw[h];exact m
   ·have P:g.set k x=g.take k++(x::g.drop (k+1)):=by rw[rv,ak hk]
    rw[P,cS,di,jq,hG,<-f1,<-f2];unfold aw;have t1:(cs.take (k*32)).length=k*32:=by rw[cL];omega
    have S:(cs.take (k*32)).take (n*32)=cs.take (k*32):=aH (by rw[t1];omega);have T:(am x).take (n*32 - k*32)=am x:=aH (by rw[m];omega);rw[hl,m,<-O,o7,t1,S,o7,T,m,show n*32 - k*32 - 32=n*32 - (k+1)*32 by omega]
theorem GJ {l0 l:ad} {v:U} {xs:aQ} {a6:Bool} (h:ce 32 am l0 l v xs a6) (aG:∀ x∈xs,x.length=32) (bR:xs.length<=1000000) {K:cA} (ay:∀ r l',ce 32 am l0 l' r (dh xs) a6->K r l') :
  cM 138 [v] l K:=by
 apply c0 func138 [];have C:=h.len;by_cases B:xs.length<2
 ·have ax:(xs.length:Int)<2:=F;have aB:dh xs=xs:=by
   unfold dh;rw[vO (aN _) (fun k h1 a2=>F),e3]
  simp[C,ax];exact ay _ _ (by rw[aB];exact h)
 ·have ax:¬ (xs.length:Int)<2:=F;simp[C,ax];refine bx (xs.length - 1) (MR l v xs) ?_ ⟨V,V,rfl,fun j h1 a2=>F⟩;rintro k aK bD hk ⟨z,t,rfl,ah⟩;obtain⟨aK,rfl⟩:=kh z t;clear z t;obtain⟨m,a3⟩:=al (k+1);rw[<-a3] at ah ⊢;by_cases T:m<xs.length
  ·have aZ:IntKind.i64.wrap ((m:Int) - 1)=(k:Int):=by rw[IntKind.wrap_i64];omega
   have bl:=cf (k:=m) F;have W:(m:Int)<(xs.length:Int):=F;obtain⟨j,D,bz⟩:=h;obtain⟨bY,bJ,bU,aT,aU,aV,au⟩:=D.q.get (k:=.i64) (yQ T);obtain⟨bZ,bK,bV,aW,aX,aY,av⟩:=D.q.get (k:=.i64) (yQ (a:=xs) (k:=k) F);have R:=nz (aG _ (we T)) (aG _ (we (a:=xs) (k:=k) F));obtain⟨ap,az⟩:=al (bw xs m);obtain⟨aq,aA⟩:=al (bw xs k);rw[<-az] at au R;rw[<-aA] at av R;by_cases P:ap=aq
   ·have aD:eb prog .eql 57 (.af (am ap)) (.af (am aq))=some (.bool true):=by rw[R,ca P]
    have H:bo v=false:=by
     cases bv:bo v with
     | false=>rfl
     | true=>
      have:=gm.1 bv;subst this;have:=D.q.oN;rw[m7] at this;rw[this] at T;simp at T
    obtain⟨bG,a7,b3,_⟩:=D.q.from H (k:=.i64) (i:=m) (by simp;omega);have aw:j0 xs m=xs.take m:=vO F ah;have h1:j0 xs (m+1)=xs.take m:=by rw[tE,aj (fun h=>h.elim (fun aw=>F) (fun B=>B (by rw[<-az,show m - 1=k by omega,<-aA];exact P))),aw,eK]
    simp[C,W,aZ,aT,aU,aV,au,aW,aX,aY,av,aD,a7];refine bx (xs.length - m - 1) (MQ bD v bG j xs m) ?_ ⟨V,V,V,m,xs,V,D,rfl,aG,h1.symm,F,fun u _=>rfl,rfl,fun b _=>rfl⟩;rintro i aK bT bO ⟨z,J,a0,q,o,t,ag,aI,I,G,bS,ai,bt,aC⟩;obtain⟨aK,rfl⟩:=eO z t J a0;clear z t J a0;obtain⟨g,br⟩:=al (i+1);rw[<-br];obtain⟨b4,a8,aJ,_⟩:=ag.q.from H (k:=.i64) (i:=m) (by simp;omega);rw[a7] at a8;obtain rfl:=cd a8;have S:=aJ.len;rw[i2,cg,aI] at S;by_cases bP:g<xs.length - m
    ·have X:(g:Int)<((xs.length - m:Nat) :Int):=F;have a9:IntKind.i64.wrap ((g:Int) - 1)=(i:Int):=by rw[IntKind.wrap_i64];omega
     have bb:=cf (k:=g) F;have bH:=cf (k:=q) F;obtain⟨b0,bL,bW,bc,bd,bf,aL⟩:=aJ.get (k:=.i64) (i:=g) (e:=am (bw o (m+g))) (by rw[gy];exact yQ F);obtain⟨b1,bM,bX,bh,bi,bj,aM⟩:=aJ.get (k:=.i64) (i:=i) (e:=am (bw o (m+i))) (by rw[gy];exact yQ F);have ao:=I _ (we (a:=o) (k:=m+g) F);have bC:=I _ (we (a:=o) (k:=m+i) F);have Y:=oE ao bC;have a4:=ai (m+g) F;have a5:=ai (m+i) F;have w:=tE xs (m+g);rw[show m+g - 1=m+i by omega] at w;obtain⟨p,bn⟩:=al (bw o (m+g));obtain⟨ar,bp⟩:=al (bw o (m+i));rw[<-bn] at aL Y ao a4;rw[<-bp] at aM Y a5;rw[<-a4,<-a5] at w;rw[show m+i+1=m+g by omega] at G;by_cases Q:p=ar
     ·have aE:eb prog .neq 57 (.af (am p)) (.af (am ar))=some (.bool false):=by rw[Y];simp[Q]
      rw[aj (fun h=>h.elim (fun aw=>F) (fun B=>B Q)),eK] at w;simp[S,X,a9,bc,bd,bf,aL,bh,bi,bj,aM,aE,bb];exact⟨F,V,V,V,q,o,V,ag,aI,I,by rw[w];exact G,F,fun u aF=>ai u F,bt,aC⟩
     ·have aE:eb prog .neq 57 (.af (am p)) (.af (am ar))=some (.bool true):=by rw[Y];simp[Q]
      rw[ak (.inr Q)] at w;obtain⟨b2,bE,aO,aP,aR,bk,aS⟩:=WL ag I (k:=q) (x:=p) F ao;simp[S,X,a9,bc,bd,bf,aL,bh,bi,bj,aM,aE,bb,bH,aO,aP];have bF:(o.take q).length=q:=by rw[cL];omega
      have bA:(o.set q p).take (q+1)=o.take q++[p]:=by
       rw[rv,ak F,o7,bF,aH F,show q+1 - q=1 by omega];simp
      refine⟨F,V,V,V,q+1,o.set q p,V,aR,by simp[aI],fun y bB=>?_,by rw[bA,w,G],F,fun u aF=>?_,F,fun b O=>(aS b O).trans (aC b O)⟩
      ·rcases n2 bB with h | h
       ·exact I _ h
       ·rw[h];exact ao
      ·have:=ai u F;unfold bw at this ⊢;rw[gx,bg F,<-gx];exact this
    ·have X:¬ (g:Int)<((xs.length - m:Nat) :Int):=F;obtain⟨b5,bE,r,aO,aP,aR,bk,aS,b6,bI⟩:=PR ag (k:=q) F;simp[S,X,aO,aP,aR];obtain⟨bN,bm,t,J⟩:=bz;have bs:l0.length<=j:=t.resolve_left (fun h=>by rw[h] at H;cases H);have bq:m+i+1=xs.length:=F;rw[bq] at G;refine ay _ _ ⟨j,by unfold dh;rw[<-G];exact bk,F,fun b O=>?_,.inr bs,by rw[aS,<-J,H]⟩;rw[bI b F,aC b F];exact bm b O
   ·have aD:eb prog .eql 57 (.af (am ap)) (.af (am aq))=some (.bool false):=by rw[R,ct P]
    simp[C,W,aZ,aT,aU,aV,au,aW,aX,aY,av,aD,bl];refine⟨F,V,by simp[a3],rfl,fun u h1 B=>?_⟩;by_cases aF:u=m
    ·rw[aF,<-az,show m - 1=k by omega,<-aA];exact P
    ·exact ah u h1 F
  ·have W:¬ (m:Int)<(xs.length:Int):=F;have aB:dh xs=xs:=by
    unfold dh;rw[vO (aN _) (fun k h1 a2=>ah k h1 F),e3]
   simp[C,W];exact ay _ _ (by rw[aB];exact h)
theorem V7 {l:aQ} (h:b8 l=true) :sI l=true:=by
 unfold b8 at h;rw[bI] at h;exact Li fun k hk h1=>by
  have:=h k hk h1;have g:=ov (bw l k) (bw l (k - 1));omega
theorem Av (o:aJ) (m:dm o) :aW 116 [.af (av o)] (.i6 (de o)):=by
 apply a8 func116 [cR 0 7++[[10],[11],[12],[7,11],[8,11],[9]]];unfold de;have S:=bM o.ax;have B:bz (.Z 32) (ah o.ax)=_:=b6 _;have ag:(ah o.ax).cells=some [ah o.ax]:=by cases o.ax<;>rfl
 by_cases h1:4<o.ax.l.length
 ·have v:(4:Int)<(o.ax.l.length:Int):=F;rw[ak h1];simp[av,B,v];exact aL
 ·have v:¬ (4:Int)<(o.ax.l.length:Int):=F;rw[aj h1];simp[av,B,v];refine au (RX o.ax m.idsZ m.len) (by simp[aq,S,U.ar]) ?_;cases w:sI o.ax.l with
  | false=>
   have g:b8 o.ax.l=false:=by
    cases g:b8 o.ax.l with
    | false=>rfl
    | true=>rw[V7 g] at w;cases w
   simp[g];exact aL
  | true=>
   simp[B];refine yP o.ax m.idsZ m.len fun ai W C=>?_
   have R:W[0]?=some (.q 11 (av o)):=by rw[C.same 0 V];rfl
   have H:=R;simp[av] at H;simp[H];refine GJ C m.idsZ m.len fun al X D=>?_
   have Q:X[0]?=some (.q 11 (av o)):=by rw[D.same 0 V];rfl
   have j:=Q;simp[av] at j;have J:=D.len;have I:=PS w;cases g:b8 o.ax.l with
   | false=>
    have T:¬ ((dh o.ax.l).length:Int)=(o.ax.l.length:Int):=fun h=>by
     have:=I.1 F;rw[g] at this;cases this
    simp[J,j,T];exact aL
   | true=>
    have heq:((dh o.ax.l).length:Int)=(o.ax.l.length:Int):=by have:=I.2 g;omega
    simp[J,j,heq];refine au (Cu o.eL) rfl ?_;unfold pu;cases Y:e0 o.eL with
    | false=>
     simp;exact aL
    | true=>
     have P:((1000000000000:Int)<u o.fa)<->¬ o.fa.toNat<=1000000000000:=by unfold u;omega
     by_cases p:o.fa.toNat<=1000000000000
     ·have t:¬ ((1000000000000:Int)<u o.fa):=fun h=>P.1 h p
      have O:((500000003:Int)<=max (u o.e:Int) (u o.s))<->¬ (hv o.e&&hv o.s)=true:=by
       unfold hv u;simp only[bU,bI];omega
      have K:oL (bh o.e) (bh o.s)=some (.int .u32 (max (u o.e:Int) (u o.s))):=by
       show (if IntKind.u32=IntKind.u32 then some (U.int .u32 (if (u o.e:Int)<u o.s then u o.s else u o.e)) else none)=_;rw[ak rfl];congr 2;split<;>omega
      cases G:(hv o.e&&hv o.s) with
      | false=>
       have z:(500000003:Int)<=max (u o.e:Int) (u o.s):=O.2 (by rw[G];simp);simp[j,p,t,K,z];exact aL
      | true=>
       have z:¬ (500000003:Int)<=max (u o.e:Int) (u o.s):=fun h=>(O.1 h) G
       simp[j,t,K,z];refine au (O5 o.act) rfl ?_;cases ad:iQ o.act with
       | false=>
        simp[j1];exact aL
       | true=>
        simp[j1];exact aR (by rw[ak p]) rfl
     ·have t:(1000000000000:Int)<u o.fa:=P.2 p;simp[j,p,t];exact aL
theorem sD (a b:b2) (z:c6 a) (B:c6 b) (O:a.l.length<=1000000) :aW 35 [ah a,ah b] (.bool (decide (a.l=b.l))):=by
 apply a8 func35 [];simp[ah];by_cases h1:a.l.length=b.l.length
 ·have w:((a.l.length:Int)=b.l.length):=F;simp[h1];refine bx a.l.length (fun k o l=>o 0=b4 32 am a/\o 1=b4 32 am b/\o 5=.i6 k/\∀ g,g<k->a.l[g]?=b.l[g]?) ?_ (by simp[ah]);rintro k o l hk ⟨t,u,v,C⟩;obtain⟨s,rfl⟩:=gJ t u v;clear t u v;simp;refine fh (fun h=>?_) (fun h=>?_)
  ·simp only[bI] at h;obtain⟨x,m,D⟩:=aP h;obtain⟨y,q,G⟩:=aP (l:=b.l) (k:=k) F;have H:=cf (k:=k) F;simp[m,q,br (z x D),br (B y G),aH,oE (z x D) (B y G)];by_cases j:x=y
   ·simp[j,H];refine⟨F,fun g I=>?_⟩;by_cases J:g=k
    ·subst J;rw[m,q,j]
    ·exact C g F
   ·simp[j];refine aR (ci U.bool (ct fun p=>j ?_).symm) rfl;rw[p,q] at m;exact (cd m).symm
  ·simp[h];have K:k=a.l.length:=by simp at h;omega
   refine aR (ci U.bool (ca ?_).symm) rfl;apply g3;intro g;by_cases I:g<a.l.length
   ·exact C g F
   ·rw[dY F,dY F]
 ·have w:¬ ((a.l.length:Int)=b.l.length):=F;simp[w];exact aR (by rw[ct (fun p=>h1 (by rw[p]))]) rfl
def bd (o:aJ) :List B:=if de o=0 then gq (fZ o) else List.replicate 32 0#8
theorem pL {o:aJ} (h:de o=0) :o.ax.l.length<=4:=by
 unfold de at h;split at h
 ·cases h
 ·omega
theorem Dz (o:aJ) (q:dm o) :aW 110 [.af (av o)] (.a1 [eo (bd o),.i6 (de o)]):=by
 apply a8 func110 [];unfold bd;have h:=du o;have w:(bZ 32 (.int .u8 0) :ag)=(List.replicate 32 0#8).map a7:=by simp[bZ]
 obtain⟨E,j⟩:=al (av o);have m:E.length=11:=by rw[j];rfl
 have p:=J9 o q;rw[<-j] at p h ⊢;simp[m,aH];refine au p (by simp[aq,U.ar,h]) ?_;by_cases g:de o=0
 ·have t:=DA o q (by have:=pL g;omega);rw[<-j] at t;have u:(gq (fZ o)).length=32:=oT _;simp[g,m,aH];refine au t (by simp[aq,U.ar,h]) ?_;have v:aw (bZ 32 (.int .u8 0)) 0 ((gq (fZ o)).map a7)=(gq (fZ o)).map a7:=cy (by rw[cg,u];rfl);simp[eo,u,v,aH];exact aR (by rw[ak g,g]) (by simp[U.ar,aq,jw a7 (fun _=>rfl)])
 ·simp[g,m,aH];refine au p (by simp[aq,U.ar,h]) ?_;simp[eo,w];exact aR (by rw[aj g];rfl) (by simp only[U.ar,aq,jw a7 (fun _=>rfl),k1])
theorem xa {l:ad} {b n:Nat} {g:ag} {k:Nat} {w:U} {kd:cV} (h:l[b]?=some (.q n g)) (j:g.length=n) (hk:g[k]?=some w) :
  ∃ p cs o,bO (.Z 1) (.Z 1 b 0 n n n) (.int kd (k:Int))=some p/\fN l p=some (cs,o)/\cs[o]?=some w:=by
 have m:k<n:=by rw[<-j];exact (aK.1 hk).1
 refine⟨.ptr b (0+k*1) n,g,0+k*1,?_,?_,by simpa using hk⟩
 ·simp only[bO,fm];rw[ak ⟨trivial,F,F⟩]
 ·simp only[fN,h,if_true]
theorem Rj {n:Nat} (C:n<=1000000000) {l:ad} {K:cA} (h:∀ v l',ce 1 bY l l' v ([] :List B) (decide (n=0))->K v l') :cM 219 [.ae,.i6 n] l K:=by
 apply c0 func219 [];have h1:¬((n:Int)<0):=F;have u:IntKind.i64.wrap (n:Int)=n:=wrap_i64 F F;have w:IntKind.i64.wrap (0:Int)=0:=rfl;by_cases g:n=0
 ·subst g;simp;exact h _ _ ce.nil
 have z:(0:Int)<n:=F;have o:og l 1 1 [.int .u8 0] .ae (.i6 n)=some (.Z 1 l.length 0 n n (n*1),l++[.q (n*1) (c3 [.int .u8 0] n)]):=by
  unfold og hr;simp only[fm];have j:=ds;rw[ak ⟨F,F,by rw[j];omega⟩,aj g,aj F,ak (by rw[j];omega)]
 have m:dw (.Z 1) (.Z 1 l.length 0 n n (n*1)) none (some (.i6 0)) none=some (.Z 1 l.length 0 0 n (n*1)):=by
  rw[q7,ya,ak ⟨F,F⟩];simp[g]
 rw[n3] at o m;have p:0<n:=F;simp[h1,p,u,o,w,m];refine h _ (l++[.q n (c3 [.int .u8 0] n)]) ⟨l.length,.Z _ 0 n n (c3 [.int .u8 0] n) [] V (by rw[ut];simp) rfl V F F rfl,V,fun b t=>aU t,.inr (aN _),?_⟩;simp[bo,g]
def g9 (bs:aQ) :List B:=bs.flatten
theorem Ht {bs:aQ} {k:Nat} {s:List B} (h:bs[k]?=some s) :g9 (bs.take (k+1))=g9 (bs.take k)++s:=by unfold g9;rw[ej,h];simp
theorem Hs (bs:aQ) (k:Nat) :(g9 (bs.take k)).length<=(g9 bs).length:=by
 conv=>rhs;rw[<-i4 k bs]
 unfold g9;rw[jq,cF];omega
structure kr (l:ad) (w:U) (s:List B) :Prop where
 len:bz (.Z 1) w=some (.i6 s.length)
 GK:∀ l',l.length<=l'.length->(∀ b,b<l.length->l'[b]?=l[b]?)->cr l' 1 w=some ((s.map bY).flatten,s.length)
theorem ug {l l1:ad} {w:U} {s:List B} {j:Bool} (h:ce 1 bY l l1 w s j) :kr l1 w s:=⟨h.len,fun m h1 g=>(h.frame h1 g).contents⟩
theorem kr.frame {l l1:ad} {w:U} {s:List B} (h:kr l w s) (p:l.length<=l1.length) (m:∀ b,b<l.length->l1[b]?=l[b]?) :kr l1 w s:=
 ⟨h.len,fun o h1 g=>h.GK o F fun b j=>by rw[g b F];exact m b j⟩
theorem Ju {l:ad} {b:Nat} {x:B} (h:l[b]?=some (.q 1 [a7 x])) :kr l (.Z 1 b 0 1 1 1) [x]:=by have:=aX h;exact⟨rfl,fun j h1 g=>by have:=g b this;rw[h] at this;simp[cr,this,bY]⟩
structure MP (l:ad) (X:U) (bs:aQ) (k:Nat) (sgZ:aS) (l1:ad) :Prop where
 HL:sgZ 25=X
 Ce:sgZ 26=.i6 bs.length
 yJ:sgZ 27=.i6 k
 uf:∃ v,sgZ 6=v/\ce 1 bY l l1 v (g9 (bs.take k)) (decide ((g9 bs).length=0))
theorem GL {l:ad} {b n:Nat} {G:ag} {bs:aQ} (ar:l[b]?=some (.q n G)) (aH:G.length=n) (ay:bs.length=n)
  (aD:∀ (k:Nat) (w:U) (s:List B),G[k]?=some w->bs[k]?=some s->kr l w s) (az:(g9 bs).length<=1000000000) (aK:n<=1000000000)
  {K:cA} (ax:∀ v l',ce 1 bY l l' v (g9 bs) (decide ((g9 bs).length=0))->K v l') :
  cM 172 [.Z 1 b 0 n n n] l K:=by
 apply c0 func172 [];have aA:=aX ar;have J:∀ l',l.length<=l'.length->(∀ b,b<l.length->l'[b]?=l[b]?)->∀ k,k<n->∃ w s p cs o,G[k]?=some w/\bs[k]?=some s/\kr l' w s/\bO (.Z 1) (.Z 1 b 0 n n n) (.i6 (k:Int))=some p/\fN l' p=some (cs,o)/\cs[o]?=some w:=by
  intro l' h1 ao k hk;obtain⟨w,D,_⟩:=aP (l:=G) (k:=k) F;obtain⟨s,m,_⟩:=aP (l:=bs) (k:=k) F;obtain⟨p,cs,o,t,u,z⟩:=xa (kd:=.i64) (l:=l') (by rw[ao b aA];exact ar) aH D;exact⟨w,s,p,cs,o,D,m,(aD k w s D m).frame h1 ao,t,u,z⟩
 obtain⟨H,ap⟩:=al (U.Z 1 b 0 n n n);have aq:bz (.Z 1) H=some (.i6 bs.length):=by rw[ap,ay];rfl
 rw[<-ap] at J ⊢;simp[aq];refine bx n (fun k g I=>g 0=H/\g 9=H/\g 10=.i6 bs.length/\g 11=.i6 k/\g 3=.i6 (g9 (bs.take k)).length/\I=l) ?_ ?_
 ·rintro k g I hk ⟨T,am,W,X,aj,rfl⟩;obtain⟨g,rfl⟩:=gv T aj am W X;clear T aj am W X;simp;by_cases h:k<bs.length
  ·obtain⟨w,s,p,cs,o,D,m,Q,t,u,z⟩:=J I (aN _) (fun _ _=>rfl) k F;have C:=Ht m;have P:=Hs bs (k+1);rw[C,cF] at P;have aG:IntKind.i64.wrap (((g9 (bs.take k)).length:Int)+s.length)=((g9 (bs.take k)).length:Int)+s.length:=wrap_i64 F F;have R:IntKind.i64.wrap ((k:Int)+1)=k+1:=wrap_i64 F F;have aB:¬(((g9 (bs.take k)).length:Int)+s.length<0):=F;have aE:=Q.len;simp[h,t,u,z,aE,aG,aB,R,C];omega
  ·have O:k=bs.length:=F;subst O;rw[e3];simp;refine Rj az ?_;intro v l j;simp[aq];refine bx bs.length (MP I H bs) ?_ ⟨V,V,V,v,V,by simpa [g9] using j⟩;rintro k g av hk ⟨Y,ah,ai,w,ak,j⟩;obtain⟨g,rfl⟩:=eO ak Y ah ai;clear ak Y ah ai;simp;by_cases h:k<bs.length
   ·obtain⟨y,s,p,cs,o,D,m,Q,t,u,z⟩:=J av j.le j.same k F;have C:=Ht m;have P:=Hs bs (k+1);rw[C,cF] at P;have R:IntKind.i64.wrap ((k:Int)+1)=k+1:=wrap_i64 F F;have aF:=ds;obtain⟨aI,aL,aw,S,aJ⟩:=j.app (by_:=1) (x:=y) (xs:=s) (Q.GK av (aN _) fun _ _=>rfl) (by simp[bY]) F F (by rw[aF];omega);simp[h,t,u,z,aw];refine bP.bm ?_;simp[h,R];refine⟨V,V,V,aI,V,?_⟩;rw[C];have aC:(decide ((g9 bs).length=0)&&s.isEmpty)=decide ((g9 bs).length=0):=by
     by_cases au:(g9 bs).length=0
     ·have:s=[]:=hp.1 F;simp[au,this]
     ·simp[au]
    rw[aC] at S;exact S
   ·have O:k=bs.length:=F;subst O;simp;rw[e3] at j;exact ax _ _ j
 ·simp[g9]
def fH (o:aJ) :aJ:={ o with e:=0#32,s:=0#32 }
theorem Mm (o:aJ) (p:dm o) (hk:de (fH o)=0) {l:ad} {K:cA} (W:∀ w l',ce 1 bY l l' w (iB o) false->K (.a1 [w,.i6 0]) l') :
  cM 117 [.af (av o)] l K:=by
 apply c0 func117 [cR 0 4++[[5],[6],[7]]++cR 9 4++[[4,12,11,7,0],[8,12,11,0]]];have ap:=ds;have bI:=gE o.eL.toNat
 have bJ:=gE o.fa.toNat
 have bK:=wu p.idsZ;have bp:dm (fH o):=⟨p.idsZ,p.len,p.val,p.key⟩
 have aM:=Av (fH o) bp;rw[hk] at aM;have bF:o.ax.l.length<=4:=pL (o:=fH o) hk;have aZ:b8 o.ax.l=true:=by
  unfold de at hk;have I:(fH o).ax=o.ax:=rfl;rw[I,aj F] at hk;cases j:b8 o.ax.l with
  | true=>rfl
  | false=>rw[j] at hk;cases hk
 have bz:(BitVec.setWidth 64 o.eL).toNat=o.eL.toNat:=by rw[fw];exact eg (by have:=o.eL.isLt;omega)
 have bl:=du (fH o);have bo:l.length<(l++[ao.q 11 (av (fH o))]).length:=V;have bi:(l++[ao.q 11 (av (fH o))])[l.length]?=some (.q 11 (av (fH o))):=V;simp[av];refine au aM (show aq [U.af (av (fH o))]=true by simp[aq,U.ar,bl]) ?_;simp;refine Yz o.ax p.idsZ F aZ fun aA g h1=>?_
 have ah:g[l.length]?=some (.q 11 (av (fH o))):=by rw[h1.same _ bo];exact bi
 have aQ:l.length<g.length:=by have:=h1.le;simp at this;omega
 have bq:=ah;simp[av,fH] at bq;have bt:(g++[ao.q 1 [U.int .u8 111]])[l.length]?=some (.q 11 (av (fH o))):=by rw[aU aQ];exact ah
 have bH:l.length<(g++[ao.q 1 [U.int .u8 111]]).length:=by simp;omega
 have aY:=bt;simp[av,fH] at aY;simp[aY];have bw:(g++[ao.q 1 [U.int .u8 111],ao.q 1 [U.int .u8 (u o.act.kind)]])[l.length]?=some (.q 11 (av (fH o))):=by rw[aU aQ];exact ah
 have bv:(g++[ao.q 1 [U.int .u8 111],ao.q 1 [U.int .u8 (u o.act.kind)]])[g.length]?=some (.q 1 [.int .u8 111]):=V;have bx:(g++[ao.q 1 [U.int .u8 111],ao.q 1 [U.int .u8 (u o.act.kind)]])[g.length+1]?=some (.q 1 [.int .u8 (u o.act.kind)]):=V;have z:(g++[ao.q 1 [U.int .u8 111],ao.q 1 [U.int .u8 (u o.act.kind)]]).length=g.length+2:=V;refine sR _ fun aB ay m=>?_
 rw[bz] at m;have aO:=m.le;rw[z] at aO;have aR:ay[l.length]?=some (.q 11 (av (fH o))):=by rw[m.same _ (by rw[z];omega)];exact bw
 have aF:ay[g.length]?=some (.q 1 [.int .u8 111]):=by rw[m.same _ (by rw[z];omega)];exact bv
 have aG:ay[g.length+1]?=some (.q 1 [.int .u8 (u o.act.kind)]):=by rw[m.same _ (by rw[z];omega)];exact bx
 have aS:=aR;simp[av,fH] at aS;simp[aS,aF,aG];refine sR _ fun aC t j=>?_
 have aP:=j.le;have cv:t[l.length]?=some (.q 11 (av (fH o))):=by rw[j.same _ F];exact aR
 have aH:t[g.length]?=some (.q 1 [.int .u8 111]):=by rw[j.same _ F];exact aF
 have aI:t[g.length+1]?=some (.q 1 [.int .u8 (u o.act.kind)]):=by rw[j.same _ F];exact aG
 have aT:=cv;simp[av,fH] at aT;simp[aT,aH,aI,h1.cells,m.cells,j.cells,aw];obtain⟨L,Q⟩:=al (t++[ao.q 5 [.Z 1 g.length 0 1 1 1,aB,aA,aC,.Z 1 (g.length+1) 0 1 1 1]]);have X:t.length<=L.length:=by rw[Q];simp
 have B:∀ b,b<t.length->L[b]?=t[b]?:=fun b J=>by rw[Q,aU J]
 have bf:L[t.length]?=some (.q 5 [.Z 1 g.length 0 1 1 1,aB,aA,aC,.Z 1 (g.length+1) 0 1 1 1]):=by rw[Q];simp
 rw[<-Q];have a2:kr L (.Z 1 g.length 0 1 1 1) [111#8]:=Ju (by rw[B _ F];exact aH);have a6:kr L (.Z 1 (g.length+1) 0 1 1 1) [o.act.kind]:=Ju (by rw[B _ F];exact aI);have a3:kr L aB (dD o.eL.toNat):=((ug m).frame aP j.same).frame X B;have a4:kr L aA (nC o.ax.l):=((((ug h1).frame (l1:=g++[ao.q 1 [U.int .u8 111],ao.q 1 [U.int .u8 (u o.act.kind)]]) (by rw[z];omega) (fun b J=>aU J)).frame (by rw[z];exact aO) m.same).frame aP j.same).frame X B;have a5:kr L aC (dD o.fa.toNat):=(ug j).frame X B;have aW:L[l.length]?=some (.q 11 (av (fH o))):=by rw[B _ F];exact cv
 obtain⟨M,Y⟩:=al (g9 [[111#8],dD o.eL.toNat,nC o.ax.l,dD o.fa.toNat,[o.act.kind]]);have ag:M=[111#8]++dD o.eL.toNat++nC o.ax.l++dD o.fa.toNat++[o.act.kind]:=by rw[Y];simp[g9]
 have bE:M.length<=40000:=by rw[ag];simp only[cF,dN,hq];omega
 have bh:M.length≠0:=by rw[ag];simp
 refine GL (bs:=[[111#8],dD o.eL.toNat,nC o.ax.l,dD o.fa.toNat,[o.act.kind]]) bf rfl rfl ?_ (by rw[<-Y];omega) F fun bD az P=>?_
 ·intro k w s G O;rcases k with _ | _ | _ | _ | _ | k
  ·obtain rfl:=cd G;obtain rfl:=cd O;exact a2
  ·obtain rfl:=cd G;obtain rfl:=cd O;exact a3
  ·obtain rfl:=cd G;obtain rfl:=cd O;exact a4
  ·obtain rfl:=cd G;obtain rfl:=cd O;exact a5
  ·obtain rfl:=cd G;obtain rfl:=cd O;exact a6
  ·cases G
 rw[<-Y,ct bh] at P;have bg:l.length<=L.length:=F;have aK:ce 1 bY l az bD M false:=P.base bg fun b J=>by
  have bj:b<g.length:=F;rw[B b F,j.same b F,m.same b (by rw[z];omega),aU bj,h1.same b (by simp;omega),aU J]
 have aV:az[l.length]?=some (.q 11 (av (fH o))):=by rw[P.same _ F];exact aW
 have bG:l.length<az.length:=aX aV;have ai:=aV;simp[av,fH] at ai;have C:iB o=M++(if o.act.kind=1#8 then [] else hh (ef o.act.key))++(if o.act.kind=4#8 then hi o.act.val else []):=by rw[ag];rfl
 have bA:=uO (ef o.act.key);rw[mX] at bA;have bn:=p.key;have bL:=xu o.act.val;have bM:=p.val.2.2;have bk:rS (.str o.act.key)=some (.bu 1 ((ef o.act.key).map bY)):=by
  show some (U.bu 1 (o.act.key.map fun b=>[hs b]))=_;rw[Ak]
 by_cases H:o.act.kind=1#8
 ·have I:(u o.act.kind:Int)=1:=(g2 o.act.kind).2 H;have v:¬ o.act.kind=4#8:=by rw[H];decide
  rw[ak H,aj v,eK,eK] at C;simp[ai,I];exact W _ _ (by rw[C];exact aK)
 ·have I:¬ (u o.act.kind:Int)=1:=fun h=>H ((g2 o.act.kind).1 h)
  rw[aj H] at C;simp[ai,I,bk];refine Mi (some (ef o.act.key)) (by simpa [mX] using bn) (by simp[cr]) V (fun l' _ _=>by simp[cr]) fun a0 fq D=>?_
  obtain⟨bT,bB,aD,R,_⟩:=(aK.frame D.le D.same).app (by_:=1) (x:=a0) (xs:=hh (ef o.act.key)) D.contents (by simp[bY]) F F (by rw[ap];omega);have a9:=(P.frame D.le D.same).app (by_:=1) (x:=a0) (xs:=hh (ef o.act.key)) D.contents (by simp[bY]) F F (by rw[ap];omega);obtain⟨bV,bR,aE,bb,_⟩:=a9;rw[aD] at aE;obtain⟨rfl,rfl⟩:=ve (cd aE);have br:bB[l.length]?=some (.q 11 (av (fH o))):=by rw[bb.same _ F];exact aW
  have am:=br;simp[av,fH] at am;simp[aD];refine bP.bm ?_;simp only[rp] at R;by_cases v:o.act.kind=4#8
  ·have S:(u o.act.kind:Int)=4:=(re o.act.kind).2 v;rw[ak v] at C;have aL:iQ o.act=true:=by
    cases h:iQ o.act with
    | true=>rfl
    | false=>
     unfold de at hk;have bc:(fH o).ax=o.ax:=rfl;have bd:(fH o).act=o.act:=rfl;rw[bc,aj F,aZ,ak rfl] at hk;unfold pu at hk;rw[bd,h] at hk;simp at hk
   rw[vt v,bU] at aL;simp[am,S];refine YF o.act.val p.val aL.2 fun bC bN T=>?_
   obtain⟨bS,bO,a7,a8,_⟩:=(R.frame T.le T.same).app (by_:=1) (x:=bC) (xs:=hi o.act.val) T.contents (by simp[bY]) F F (by rw[ap];simp only[cF];omega);simp[a7];refine bP.bm ?_;simp;exact W _ _ (by rw[C];exact a8)
  ·have S:¬ (u o.act.kind:Int)=4:=fun h=>v ((re o.act.kind).1 h)
   rw[aj v,eK] at C;simp[am,S];exact W _ _ (by rw[C];exact R)
theorem F4 {o:aJ} (h:de o=0) :de (fH o)=0:=by
 unfold de at h ⊢;have g:(fH o).ax=o.ax:=rfl;rw[g];have p:pu o=true->pu (fH o)=true:=by
  unfold pu fH;simp only[bU];rintro⟨a,b,c,d,e⟩;exact⟨a,b,c,by decide,by decide⟩
 split at h
 ·cases h
 ·rename_i h1;rw[aj h1];split at h
  ·rename_i j;rw[ak j];split at h
   ·rename_i m;rw[ak (p m)]
   ·cases h
  ·cases h
theorem Qr {o:aJ} (h:de o=0) :iQ o.act=true:=by
 unfold de at h;split at h
 ·cases h
 ·split at h
  ·split at h
   ·rename_i g;unfold pu at g;simp only[bU] at g;exact g.2.2.1
   ·cases h
  ·cases h
theorem CC {s:List UInt8} (h:hz s=true) :s.length<=20:=by unfold hz at h;simp only[bU,bI] at h;omega
theorem Hi {o:aJ} (C:dm o) (h:de o=0) :(fZ o).length<=1000:=by
 have h1:=gE o.eL.toNat
 have G:=gE o.fa.toNat
 have H:=wu C.idsZ;have B:=uO (ef o.act.key);rw[mX] at B;have I:=xu o.act.val;have K:=pL h;have J:=gE o.e.toNat
 have O:=gE o.s.toNat
 have j:=Qr h;have D:(if o.act.kind=1#8 then [] else hh (ef o.act.key)).length<=100:=by
  split
  ·simp
  ·rename_i z;have:o.act.key.length<=20:=by
    by_cases q:o.act.kind=2#8
    ·rw[Bk q,bU] at j;exact CC j.1
    ·by_cases t:o.act.kind=3#8
     ·rw[Bl t,bU] at j;exact CC j.1
     ·by_cases m:o.act.kind=4#8
      ·rw[vt m,bU] at j;exact CC j.1
      ·rw[Bm z q t m] at j;cases j
   omega
 have F:(if o.act.kind=4#8 then hi o.act.val else []).length<=100:=by
  split
  ·rename_i m;rw[vt m,bU] at j;have g:=j.2;have:o.act.val.text.length<=30:=by
    by_cases v:o.act.val.kind=1#8
    ·rw[EL v] at g;simp only[bU,bI] at g;rw[g.2];simp
    ·by_cases w:o.act.val.kind=2#8
     ·rw[EM w] at g;simp only[bU,bI] at g;rw[g.2.2];simp
     ·by_cases p:o.act.val.kind=3#8
      ·by_cases u:o.act.val.text.length<=30
       ·exact u
       ·rw[Md p] at g;unfold oY at g;rw[aj u] at g;simp only[bU,o3] at g;have:=g.1;rw[p] at this;exact bW this (by decide)
      ·rw[EN v w p] at g;cases g
   omega
  ·simp
 unfold fZ iB opHead;simp only[cF,dN,hq];omega
theorem Yw (o:aJ) (z:dm o) (hk:de o=0) {l:ad} {K:cA} (X:∀ w l',ce 1 bY l l' w (fZ o) false->K (.a1 [w,.i6 0]) l') :
  cM 149 [.af (av o)] l K:=by
 apply c0 func149 [cR 0 5++cR 6 4++[[5,9,8]]];have O:=Av o z;rw[hk] at O;have ai:=du o;have az:=Hi z hk;have ap:(BitVec.setWidth 64 o.e).toNat=o.e.toNat:=by rw[fw];exact eg (by have:=o.e.isLt;omega)
 have ax:(BitVec.setWidth 64 o.s).toNat=o.s.toNat:=by rw[fw];exact eg (by have:=o.s.isLt;omega)
 have aj:l.length<(l++[ao.q 11 (av o)]).length:=V;have ah:(l++[ao.q 11 (av o)])[l.length]?=some (.q 11 (av o)):=V;simp[av];refine au O (show aq [U.af (av o)]=true by simp[aq,U.ar,ai]) ?_;simp;refine Mm o z (F4 hk) fun D R h1=>?_
 have B:R[l.length]?=some (.q 11 (av o)):=by rw[h1.same _ aj];exact ah
 have ak:l.length<R.length:=aX B;have P:=B;simp[av] at P;simp[P];refine sR _ fun G ay h=>?_
 rw[ap] at h;have am:ay[l.length]?=some (.q 11 (av o)):=by rw[h.same _ ak];exact B
 have Q:=am;simp[av] at Q;simp[Q];refine sR _ fun H j g=>?_
 rw[ax] at g;simp[h1.cells,h.cells,g.cells,aw];obtain⟨L,m⟩:=al (j++[ao.q 3 [D,G,H]]);have u:j.length<=L.length:=by rw[m];simp
 have p:∀ b,b<j.length->L[b]?=j[b]?:=fun b v=>by rw[m,aU v]
 have Y:L[j.length]?=some (.q 3 [D,G,H]):=by rw[m];simp
 rw[<-m];have S:kr L D (iB o):=(((ug h1).frame h.le h.same).frame g.le g.same).frame u p;have T:kr L G (dD o.e.toNat):=((ug h).frame g.le g.same).frame u p;have W:kr L H (dD o.s.toNat):=(ug g).frame u p;have J:g9 [iB o,dD o.e.toNat,dD o.s.toNat]=fZ o:=by simp[g9,fZ]
 have ag:(fZ o).length≠0:=by unfold fZ iB opHead;simp
 refine GL (bs:=[iB o,dD o.e.toNat,dD o.s.toNat]) Y rfl rfl ?_ (by rw[J];omega) F fun aB aA I=>?_
 ·intro k w s t C;rcases k with _ | _ | _ | k
  ·obtain rfl:=cd t;obtain rfl:=cd C;exact S
  ·obtain rfl:=cd t;obtain rfl:=cd C;exact T
  ·obtain rfl:=cd t;obtain rfl:=cd C;exact W
  ·cases t
 rw[J,ct ag] at I;simp;refine X _ _ (I.base ?_ fun b v=>?_)
 ·have:=h.le;have:=g.le;omega
 ·have:=h.le;have:=g.le;rw[p b F,g.same b F,h.same b F,h1.same b (by simp;omega),aU v]
theorem Yv (o:aJ) (p:dm o) (hk:¬ de o=0) :aW 149 [.af (av o)] (.a1 [.ae,.i6 (de o)]):=by
 apply a8 func149 [cR 0 5++cR 6 4++[[5,9,8]]];have h:=Av o p;have j:=du o;obtain⟨E,g⟩:=al (av o);have m:E.length=11:=by rw[g];rfl
 rw[<-g] at h j ⊢;simp[m,aH];refine au h (by simp[aq,U.ar,j]) ?_;simp[hk];exact aL
theorem uQ (o:aJ) (j:dm o) :aW 97 [.af (av o)] (.a1 [eo (bd o),.i6 (de o)]):=by
 apply a8 func97 [];unfold bd;have t:=du o;have C:(bZ 32 (.int .u8 0) :ag)=(List.replicate 32 0#8).map a7:=by simp[bZ]
 obtain⟨E,h⟩:=al (av o);have m:E.length=11:=by rw[h];rfl
 by_cases g:de o=0
 ·have D:=Hi j g;have v:(gq (fZ o)).length=32:=oT _;rw[<-h];simp[m,aH];rw[h];refine Yw o j g fun F w h1=>?_
  rw[<-h] at h1;have p:w[1]?=some (.q 32 (bZ 32 (.int .u8 0))):=by rw[h1.same 1 V];rfl
  simp;refine iC (Xy (some (fZ o)) (by simp;omega)) (.cons (h1.oR (fun _=>rfl) (some (fZ o)) rfl rfl) .nil) (by simp[U.flat,kE,eo,tJ a7 (fun _=>rfl)]) ?_;have B:aw (bZ 32 (.int .u8 0)) 0 ((gq (fZ o)).map a7)=(gq (fZ o)).map a7:=cy (by rw[cg,v];rfl);have z:(w.set 1 (ao.q 32 ((gq (fZ o)).map a7)))[1]?=some (.q 32 ((gq (fZ o)).map a7)):=bV (aX p);simp[p,eo,v,B,z,aH];exact aR (by rw[ak g,g]) (by simp[U.ar,aq,jw a7 (fun _=>rfl)])
 ·have u:=Yv o j g;rw[<-h] at u t ⊢;simp[m,aH];refine au u (by simp[aq,U.ar,t]) ?_;simp[g,eo,C];exact aR rfl (by simp only[U.ar,aq,k1])
end Op
end Go.bl
namespace Go.bl
open Go Go.Proofs Go.Proofs.Tryz Go.RowKit
namespace Op
open cu
theorem LZ {P:bq} {t:aF} {ts:List aF} {cs:ag} (j:P.underlying t=some .string) (h:c4 P (t::ts) cs) :∃ s cs',cs=.str s::cs'/\c4 P ts cs':=by
 cases h
 case str s cs' g m h=>exact⟨_,_,rfl,h⟩
 all_goals (exfalso;simp_all;done)
theorem EJ {ts:List aF} {cs:ag} (h:c4 prog (5::ts) cs) :∃ (x:B) (cs' : ag),cs=a7 x::cs'/\c4 prog ts cs':=by
 obtain⟨k,g,rfl,h1,j,m⟩:=nS (k:=.u8) bp h;have o:(0:Int)<=k:=h1;have p:k<=255:=j;refine⟨BitVec.ofNat 8 k.toNat,g,?_,m⟩;have:((BitVec.ofNat 8 k.toNat).toNat:Int)=k:=by
  rw[fQ,eg F];omega
 simp[a7,u];omega
theorem EG {ts:List aF} {cs:ag} (h:c4 prog (57::ts) cs) :∃ (x:List B) (cs' : ag),cs=x.map a7++cs'/\x.length=32/\c4 prog ts cs':=by have h1:=XX (e:=5) (n:=32) bp h;exact LY bp 32 h1
theorem xp {ts:List aF} {cs:ag} (h:c4 prog (23::ts) cs) :∃ (s:b2) (cs' : ag),cs=ah s::cs'/\c6 s/\c4 prog ts cs':=by
 obtain⟨s,cs',rfl,_,h1,g⟩:=xq (e:=57) (z:=32) (enc:=am) (Q:=fun x=>x.length=32) bp bp (fun r m=>by
  obtain⟨x,cs',rfl,o,j⟩:=EG m;rw[sN j,eK];exact⟨x,rfl,o⟩) h
 exact⟨s,cs',rfl,h1,g⟩
theorem EI {ts:List aF} {cs:ag} (h:c4 prog (46::ts) cs) :∃ (x:D) (cs' : ag),cs=bh x::cs'/\c4 prog ts cs':=by
 obtain⟨k,g,rfl,h1,j,m⟩:=nS (k:=.u32) bp h;have o:(0:Int)<=k:=h1;have p:k<=4294967295:=j;refine⟨BitVec.ofNat 32 k.toNat,g,?_,m⟩;have:((BitVec.ofNat 32 k.toNat).toNat:Int)=k:=by
  rw[fQ,eg F];omega
 simp[bh,u];omega
structure vp (o:aJ) :Prop where
 idsZ:c6 o.ax
 gP:-9223372036854775808<=o.act.val.num
 qP:o.act.val.num<9223372036854775808
theorem X3 {ts:List aF} {cs:ag} (h:c4 prog (49::ts) cs) :∃ (v:gU) (cs' : ag),cs=[a7 v.kind,.i6 v.num,c7 v.bits,.str v.text]++cs'/\(-9223372036854775808<=v.num/\v.num<9223372036854775808)/\c4 prog ts cs':=by have h1:=nT (fs:=[5,2,47,9]) bp h;obtain⟨k,_,rfl,g⟩:=EJ h1;obtain⟨n,_,rfl,p,q,j⟩:=nS (k:=.i64) bp g;obtain⟨b,_,rfl,m⟩:=L0 j;obtain⟨s,_,rfl,o⟩:=LZ bp m;have t:n<=9223372036854775807:=q;exact⟨⟨k,n,b,s⟩,_,rfl,⟨p,by show n<9223372036854775808;omega⟩,o⟩
theorem XW {ts:List aF} {cs:ag} (h:c4 prog (51::ts) cs) :∃ (a:Act) (cs' : ag),cs=[a7 a.kind,.str a.key,a7 a.val.kind,.i6 a.val.num,c7 a.val.bits,.str a.val.text]++cs'/\(-9223372036854775808<=a.val.num/\a.val.num<9223372036854775808)/\c4 prog ts cs':=by have h1:=nT (fs:=[5,9,49]) bp h;obtain⟨k,_,rfl,g⟩:=EJ h1;obtain⟨s,_,rfl,j⟩:=LZ bp g;obtain⟨p,_,rfl,o,m⟩:=X3 j;exact⟨⟨k,s,p⟩,_,rfl,o,m⟩
theorem EH {ts:List aF} {cs:ag} (h:c4 prog (55::ts) cs) :∃ (o:aJ) (cs' : ag),cs=av o++cs'/\vp o/\c4 prog ts cs':=by have h1:=nT (fs:=[46,23,47,51,53]) bp h;obtain⟨a,_,rfl,j⟩:=EI h1;obtain⟨z,_,rfl,w,m⟩:=xp j;obtain⟨n,_,rfl,p⟩:=L0 m;obtain⟨c,_,rfl,g,q⟩:=XW p;have t:=nT (fs:=[46,46]) bp q;obtain⟨x,_,rfl,u⟩:=EI t;obtain⟨y,cs',rfl,v⟩:=EI u;exact⟨⟨a,z,n,c,x,y⟩,cs',by simp[av],⟨w,g.1,g.2⟩,v⟩
end Op
end Go.bl
namespace Go.bl
open Go Go.Proofs Go.Proofs.Tryz
open cu Op
def zA (a n:Nat) :Nat->Nat
 | 0=>1
 | k+1=>match Nat.beq (n / 2 ^ (63 - k) % 2) 1 with
  | true=>((zA a n k) ^ 2 % 1000000007)*a % 1000000007
  | false=>(zA a n k) ^ 2 % 1000000007
theorem JB (a n:Nat) (j:n<2 ^ 64) :∀ k,k<=64->zA a n k=eH a (n / 2 ^ (64 - k))
 | 0,_=>by
  have:n / 2 ^ (64 - 0)=0:=qb j;rw[this];rfl
 | k+1,hk=>by
  have o:=JB a n j k F;have g:=HR n k F;have e:64 - (k+1)=63 - k:=F;rw[e];unfold zA;rw[o,Nat.pow_two,JF];split
  ·rename_i h;have h1:=mo h;rw[JD,g,h1]
  ·rename_i h;have h1:n / 2 ^ (63 - k) % 2≠1:=fun m=>by rw[m] at h;cases h
   rw[g];congr 1;omega
namespace Op
open cu
section
variable {alZ:Type} {z:Nat} {enc:alZ->ag}
theorem Jk {l:ad} {v:U} {j k:Nat} {g:List alZ} {zr:ag} (B:zr.length=z) (h:aE z l v j (g.map enc)) (hk:k<g.length) :
  ∃ C o r,dw (.Z z) v (some (.i6 (k:Int))) none none=some C/\pn zr l C=some o/\dw (.Z z) v none (some (.i6 (k:Int))) none=some r ∧
   aE z o r j ((g.take k).map enc)/\bo r=false/\o.length=l.length/\∀ b,b≠j->o[b]?=l[b]?:=by
 generalize m:g.map enc=J at h;cases h with
 | nil j=>rw[m7] at m;subst m;simp at hk
 | Z j n cap p cs J u am ah w Q S W=>
  subst m;have aq:g.length=n:=by simpa using ah
  have K:gW (.i6 (k:Int)) n=some k:=by
   show (if 0<=(k:Int)/\(k:Int)<=(n:Int) then some (k:Int).toNat else none)=some k;rw[ak ⟨F,F⟩];simp
  have O:gW (.i6 (k:Int)) cap=some k:=by
   show (if 0<=(k:Int)/\(k:Int)<=(cap:Int) then some (k:Int).toNat else none)=some k;rw[ak ⟨F,F⟩];simp
  have D:e5 n cap (some (.i6 (k:Int))) none none=some (k,n,cap):=by
   show (match gW (.i6 (k:Int)) n with | none=>none | some l=>some (l,n,cap))=_;rw[K]
  have G:e5 n cap none (some (.i6 (k:Int))) none=some (0,k,cap):=by
   show (match gW (.i6 (k:Int)) cap with | none=>none | some h=>some (0,h,cap))=_;rw[O]
  have T:¬ cap=k:=F;have R:¬ cap=0:=F;have X:j<l.length:=aX u;have Y:k*z<=n*z:=ck _ F;have ao:n*z<=cap*z:=ck _ Q;have ai:(c3 zr (n - k)).length=(n - k)*z:=by rw[ut,B]
  have ap:k*z+(n - k)*z=n*z:=by rw[<-eP];congr 1;omega
  refine⟨.Z z j (k*z) (n - k) (cap - k) p,l.set j (.q p (aw cs (k*z) (c3 zr (n - k)))),.Z z j 0 k cap p,?_,?_,?_,?_,rfl,V,fun b P=>by rw[bg (fun h=>P h.symm)]⟩
  ·rw[q7,D];simp[T]
  ·unfold pn;simp only;rw[aj F];simp[u,B]
  ·rw[q7,G];simp[R]
  ·refine .Z j k cap p _ _ (bV X) (by rw[oV F,ai];omega) (by simp;omega) (fun e m=>?_) F S ?_
   ·obtain⟨y,t,rfl⟩:=cC.1 m;exact w _ (s4 (gA t))
   ·unfold aw;rw[hl,ik (by rw[cL];omega),lK,Nat.min_self];have H:cs.take (k*z)=(cs.take (n*z)).take (k*z):=by rw[lK,i7 Y]
    have I:g.map enc=(g.take k).map enc++(g.drop k).map enc:=by rw[<-cS,i4]
    have al:((g.take k).map enc).flatten.length=k*z:=by
     rw[hw (z:=z) (fun e m=>by obtain⟨y,t,rfl⟩:=cC.1 m;exact w _ (s4 (gA t)))];rw[cg,cL,i7 F]
    rw[H,W,I,jq,ik F,aH F]
theorem Jl {g:List alZ} (t:∀ y∈g,(enc y).length=z) (k:Nat) (hk:k<=g.length) {n:Nat} (w:g.length=n) {cs:ag} (j:cs.take (n*z)=(g.map enc).flatten) (v:n*z<=cs.length) :
  cs.take (k*z)=((g.take k).map enc).flatten/\(cs.drop (k*z)).take (n*z - k*z)=((g.drop k).map enc).flatten:=by
 have p:k*z<=n*z:=ck _ F;have h:g.map enc=(g.take k).map enc++(g.drop k).map enc:=by rw[<-cS,i4]
 have u:((g.take k).map enc).flatten.length=k*z:=by
  rw[hw (z:=z) (fun e o=>by obtain⟨y,q,rfl⟩:=cC.1 o;exact t _ (gA q))];rw[cg,cL,i7 F]
 have m:cs.take (k*z)=(cs.take (n*z)).take (k*z):=by rw[lK,i7 p]
 constructor
 ·rw[m,j,h,jq,ik F,aH F]
 ·rw[<-p9,j,h,jq,nY F,p8 F,h0]
theorem zw {l:ad} {v:U} {j k:Nat} {g:List alZ} {x:alZ} {X:U} (H:X.cells=some (enc x)) (h:aE z l v j (g.map enc)) (t:∀ y∈g,(enc y).length=z) (hk:k<g.length) (R:(enc x).length=z) :
  ∃ p l',bO (.Z z) v (.i6 (k:Int))=some p/\jM z l p (X)=some l'/\aE z l' v j ((g.set k x).map enc)/\l'.length=l.length/\∀ b,b≠j->l'[b]?=l[b]?:=by
 generalize o:g.map enc=G at h;cases h with
 | nil j=>rw[m7] at o;subst o;simp at hk
 | Z j n cap u cs G w Y O ai B J C=>
  subst o;have D:g.length=n:=by simpa using O
  have K:j<l.length:=aX w;have m:=R;have ag:(k+1)*z<=n*z:=ck _ F;have ah:n*z<=cap*z:=ck _ B;have P:(k+1)*z=k*z+z:=by rw[ek]
  obtain⟨f1,_⟩:=Jl t k F D C F;obtain⟨_,f2⟩:=Jl t (k+1) F D C F;refine⟨.ptr j (k*z) u,l.set j (.q u (aw cs (k*z) (enc x))),?_,?_,?_,V,fun b I=>by rw[bg (fun h=>I h.symm)]⟩
  ·simp[bO];omega
  ·unfold jM;simp[w,H,m];omega
  ·refine .Z j n cap u _ _ (bV K) (by rw[oV F,m];omega) (by simp;omega) (fun e o=>?_) B J ?_
   ·obtain⟨y,S,rfl⟩:=cC.1 o;rcases n2 S with h | h
    ·exact t _ h
    ·rw[h];exact m
   ·have Q:g.set k x=g.take k++(x::g.drop (k+1)):=by rw[rv,ak hk]
    rw[Q,cS,di,jq,hG,<-f1,<-f2];unfold aw;have t1:(cs.take (k*z)).length=k*z:=by rw[cL];omega
    have T:(cs.take (k*z)).take (n*z)=cs.take (k*z):=aH (by rw[t1];omega);have W:(enc x).take (n*z - k*z)=enc x:=aH (by rw[m];omega);rw[hl,m,<-P,o7,t1,T,o7,W,m,show n*z - k*z - z=n*z - (k+1)*z by omega]
end
end Op
theorem OQ {P:bq} {G:Nat->U} {f:cj} {args:ag} {h h' oC:aM} {r j:U} (q:jR P G f args h r h') (wk:iP h' oC) (u:iO h' oC r j) :jR P G f args h j oC:=by intro m B w muZ D rel p t z;refine (q m B w muZ D rel p t z).mono ?_;rintro e w' ⟨C,muZ',rfl,o,g,v⟩;exact⟨C,muZ',rfl,o.trans (wk.ext w' muZ'),wk.rel g,wk.kZ g u v⟩
theorem Gp {P:bq} {G:Nat->U} (t:P.follows .mixedOrders=true) (o:∀ g,(G g).ar=true) {f:cj} {args:ag} {l:ad} {K:cA}
  (h:fS P G f args l (c:=⟨fun r l'=>∃ m j,iP (aZ l') (aZ j)/\iO (aZ l') (aZ j) r m/\l.length<=j.length/\K m j⟩)) :fS P G f args l (c:=⟨K⟩):=by obtain⟨r,l',p,w,m,j,v,u,q,hk⟩:=h;exact⟨m,j,.ext (OQ (sH t o p) v u),q,hk⟩
theorem uk {z:Nat} {l:ad} {v:U} {j:Nat} {es:List (ag)} (h:aE z l v j es) (I:bo v=false) :iP (aZ l) (aZ (l.set j .dead))/\iO (aZ l) (aZ (l.set j .dead)) v (.bu z es):=by
 cases h with
 | nil j=>cases I
 | Z j n cap t cs es g P H o B K C=>
 have G:=aX g;have q:(aZ (l.set j .dead)).f j=.dead:=by rw[jT,n0,ak rfl,ak G]
 have Q:n*z<=cap*z:=ck _ B;refine⟨⟨V,fun u=>?_⟩,.Z z j 0 n cap t cs es (hK.2 g) q H o F (fun i k e c J m hk p=>?_)⟩
 ·by_cases w:u=j
  ·subst w;exact .inr ⟨t,cs,hK.2 g,.inl q⟩
  ·left;rw[jT,jT,n0,aj F]
 ·have D:k<z:=by rw[<-o e (cJ m)];exact (aK.1 hk).1
  have O:=(aK.1 m).1;have R:i*z+z<=n*z:=by rw[<-ek];exact ck _ F
  have h1:=ll o m D;rw[<-C,dS F,hk] at h1;rw[hJ,h1] at p;cases p;exact .same _
namespace Op
theorem rY {alZ:Type} {enc:alZ->ag} {z:Nat} {a:List alZ} (h:∀ x∈a,(enc x).length=z) :(a.map enc).flatten.length=a.length*z:=by rw[hw (z:=z) (fun e g=>by obtain⟨y,j,rfl⟩:=cC.1 g;exact h y j),cg]
theorem x4 {alZ:Type} {enc:alZ->ag} {z by_:Nat} (l:ad) (s:bX alZ) (h:∀ x∈s.l,(enc x).length=z) (j:z≠0) (o:by_≠0) (m:s.l.length*by_<=dk) :
  ea (l++[ao.q 0 []]) z by_ (.Z z l.length 0 0 0 0) (b4 z enc s)=some (.Z z l.length 0 s.l.length s.l.length (s.l.length*z),l++[.q (s.l.length*z) (s.l.map enc).flatten]):=by
 have p:=rY h;unfold ea;rw[qA];simp only[];unfold hr;by_cases g:s.l.length=0
 ·have j:s.l=[]:=hp.1 g;rw[j];simp
 ·rw[aj g,aj F];have t:¬ s.l=[]:=fun h=>g (by rw[h];rfl)
  simp[m,g]
theorem lv {alZ:Type} {enc:alZ->ag} {z:Nat} {l:ad} {b n:Nat} {a:List alZ} (h:∀ x∈a,(enc x).length=z) (g:a.length=n) (m:l[b]?=some (.q (n*z) (a.map enc).flatten)) :aE z l (.Z z b 0 n n (n*z)) b (a.map enc):=by
 have j:=rY h;refine .Z b n n (n*z) _ _ m (by rw[j,g]) (by simp[g]) (fun e o=>?_) (aN _) (aN _) ?_
 ·obtain⟨y,p,rfl⟩:=cC.1 o;exact h y p
 ·rw[aH (by rw[j,g];omega)]
end Op
namespace Op
open cu
theorem N5 {l:List D} {k:Nat} {x:D} (h:l[k]?=some x) (g:(l.take k).all e0=true) :(l.take (k+1)).all e0=e0 x:=by rw[ej,h,List.all_append,g];simp
theorem N3 {l:List D} {k:Nat} {x:D} (h:l[k]?=some x) (g:e0 x=false) :l.all e0=false:=by
 cases j:l.all e0 with
 | false=>rfl
 | true=>rw[gc.1 j x (cJ h)] at g;cases g
structure MI (l:List D) (k:Nat) (sgZ:aS) (h:ad) :Prop where
 kG:sgZ 5=b4 1 ec (some l)
 lm:sgZ 6=.i6 l.length
 r0:sgZ 7=.i6 k
 aal:(l.take k).all e0=true
theorem HM (l:List D) (B:l.length<=1000) :aW 222 [b4 1 ec (some l)] (.bool (l.all e0)):=by
 apply a8 func222 [];have v:bz (.Z 1) (b4 1 ec (some l))=some (.i6 l.length):=b6 _;simp[v];refine bx l.length (MI l) ?_ ⟨V,V,V,V⟩;rintro k z h hk ⟨m,o,p,g⟩;obtain⟨z,rfl⟩:=gJ m o p;clear m o p;by_cases h:k<l.length
 ·obtain⟨x,j,_⟩:=aP h;have t:bO (.Z 1) (b4 1 ec (some l)) (.i6 k)=some (.b7 (ec x) 0):=by rw[oD];simp[j]
  have w:IntKind.i64.wrap ((k:Int)+1)=(k+1:Nat):=wrap_i64 F F;simp[h,t,ec];refine au (Cu x) rfl ?_;cases q:e0 x with
  | false=>
   have:=N3 j q;simp;exact aR (by rw[this]) rfl
  | true=>
   simp[w];exact⟨F,V,V,V,by rw[N5 j g];exact q⟩
 ·have u:k=l.length:=F;subst u;rw[e3] at g;simp;exact aR (by rw[g]) rfl
theorem VK {l:ad} {b:Nat} {x:D} (h:l[b]?=some (.q 1 [bh x])) :fp (aZ l) (.Z 1 b 0 1 1 1) (b4 1 ec (some [x])):=by refine zP (rest:=[]) (es:=[[bh x]]) (by simpa using h) rfl V (by simp[aq,U.ar])
def wX (a b:D) :D:=BitVec.ofNat 32 (a.toNat*b.toNat % 1000000007)
theorem Q7 (a b:D) :aW 177 [bh a,bh b] (.a1 [bh (if e0 a&&e0 b then wX a b else 0#32),.i6 (if e0 a&&e0 b then 0 else 2)]):=by
 apply a8 func177 [];simp;refine iC (HM [a,b] V) (.cons (w4 V) .nil) rfl ?_;cases g:e0 a with
 | false=>
  simp[g];exact aL
 | true=>
  cases h:e0 b with
  | false=>
   simp[g,h];exact aL
  | true=>
   have j:a.toNat<1000000007:=by unfold e0 at g;simp at g;exact g.1.2
   simp[g,h];refine iC (CW [a,b] V) (.cons (.same _ rfl) (.cons (w4 V) .nil)) rfl ?_;simp[CV a b j];exact aL
theorem Q8 (a:D) (n:Q) :aW 176 [bh a,c7 n] (.a1 [bh (if e0 a then fr a n.toNat else 0#32),.i6 (if e0 a then 0 else 2)]):=by
 apply a8 func176 [];simp;refine iC (HM [a] V) (.cons (VK V) .nil) rfl ?_;cases g:e0 a with
 | false=>
  simp[g];exact aL
 | true=>
  simp[g];refine au (Ds a n) rfl ?_;simp;exact aL
theorem Q6 (n:Q) :aW 178 [c7 n] (bh (fr 4#32 n.toNat)):=by apply a8 func178 [];simp;refine au (Ds 4#32 n) rfl ?_;simp;exact aL
theorem DC (a:D) (n:Q) :aW 229 [bh a,c7 n] (bh (fr a n.toNat)):=by
 apply a8 func229 [];have g:(a.setWidth 64:Q).toNat=a.toNat:=by rw[fw];omega
 have m:=sp a.toNat n.toNat
 have j:(BitVec.ofNat 64 (eH a.toNat n.toNat)).setWidth 32=fr a n.toNat:=by
  apply e2;rw[oP,fw,fQ];omega
 have h:=JG (a.setWidth 64) n (by rw[g];exact a.isLt);rw[g] at h;simp;refine au h rfl ?_;simp[j];exact aL
theorem U4 (n:Q) :aW 192 [c7 n] (bh (fr 4#32 n.toNat)):=by apply a8 func192 [];simp;refine au (DC 4#32 n) rfl ?_;simp;exact aL
theorem Ve (a:D) :aW 228 [bh a] (.a1 [bh (if e0 a then fr a 500000002 else 0#32),.i6 (if e0 a then 0 else 2)]):=by
 apply a8 func228 [];simp;refine au (Kn a) rfl ?_;cases g:e0 a with
 | false=>
  simp;exact aL
 | true=>
  simp;refine au (DC a 500000002#64) rfl ?_;simp;exact aL
theorem Vo (a b:D) :aW 230 [bh a,bh b] (bh (wX a b)):=by
 apply a8 func230 [];have g:∀ a:D,(a.setWidth 64:Q).toNat=a.toNat:=fun a=>by rw[fw];omega
 have h:((a.setWidth 64:Q)*b.setWidth 64 % 1000000007#64).setWidth 32=wX a b:=by
  apply e2;rw[fw,ua _ _ (by rw[g];exact a.isLt) (by rw[g];exact b.isLt),g,g];unfold wX;rw[fQ]
 simp[zS,h];exact aL
def qp (l:List B) :Q:=l.foldl (fun n x=>(n <<< 8) ||| x.setWidth 64) 0#64
theorem Ga (l:List B) (k:Nat) (x:B) (h:l[k]?=some x) :qp (l.take (k+1))=(qp (l.take k) <<< 8) ||| x.setWidth 64:=by rw[ej,h];simp[qp,AU]
theorem WS (a:Q) (x:B) :(a <<< 8) ||| x.setWidth 64=256#64*a+x.setWidth 64:=by
 apply e2;have o:x.toNat<256:=x.isLt;have m:=a.isLt;rw[BitVec.toNat_or,sZ,EY,uX,fw];have h1:x.toNat % 2 ^ 64=x.toNat:=eg F;have g:a.toNat <<< 8 % 2 ^ 64=(a.toNat % 2 ^ 56) <<< 8:=by rw[n4,n4];omega
 have h:=MF (b:=x.toNat) (i:=8) F (a.toNat % 2 ^ 56);rw[h1,g,<-h,n4];have j:(256#64).toNat=256:=rfl;rw[j];omega
def hx (n:D) :List B:=[(n >>> 24).setWidth 8,(n >>> 16).setWidth 8,(n >>> 8).setWidth 8,n.setWidth 8]
def jx (l:List D) :List B:=l.flatMap hx
theorem QV {l:List D} {k:Nat} {x:D} (h:l[k]?=some x) :jx (l.take (k+1))=jx (l.take k)++hx x:=by unfold jx;rw[ej,h,xH];simp
theorem HF (l:List D) :(jx l).length=4*l.length:=by
 induction l with
 | nil=>rfl
 | cons x l g=>unfold jx at g ⊢;rw[List.flatMap_cons,cF,g,dN];simp[hx];omega
def v8 (b:List B) :Q:=qp ((gq b).take 8)
theorem VL {l:ad} {b:Nat} {v m u t:U} (h:l[b]?=some (.q 2 [v,m])) (h1:fp (aZ l) v u) (w:fp (aZ l) m t) :fp (aZ l) (.Z 1 b 0 2 2 2) (.bu 1 [[u],[t]]):=by
 refine .Z 1 b 0 2 2 2 [v,m] [[u],[t]] (hK.2 h) rfl V V (fun i p e c z j g o=>?_);rcases i with _ | _ | i
 ·simp at j;subst j;rcases p with _ | p
  ·simp at g o;subst g o;exact h1
  ·simp at g
 ·simp at j;subst j;rcases p with _ | p
  ·simp at g o;subst g o;exact w
  ·simp at g
 ·simp at j
theorem W3 {b:Nat}:dw (.arr 32 1) (.ptr b 0 32) none (some (.i6 8)) none=some (.Z 1 b 0 8 32 32):=by have:e5 32 32 none (some (.i6 8)) none=some (0,8,32):=rfl;simp only[dw,this];rfl
structure Ng (g:B) (m:dZ) (l0:List D) (k:Nat) (sgZ:aS) (l:ad) :Prop where
 eZ:sgZ 1=cp m
 Z9:sgZ 21=b4 1 ec (some l0)
 HJ:sgZ 22=.i6 l0.length
 HK:sgZ 23=.i6 k
 ex:∃ v,sgZ 8=v/\ce 1 bY [] l v (g::jx (l0.take k)) false
structure MK (d:List B) (e:Int) (k:Nat) (sgZ:aS) (l:ad) :Prop where
 HI:sgZ 12=.i6 e
 Z3:sgZ 13=c7 (qp (d.take k))
 Q4:∃ b n,sgZ 49=.Z 1 b 0 8 n n/\l[b]?=some (.q n (d.map a7))/\n=32
 Q5:sgZ 50=.i6 8
 aad:sgZ 51=.i6 k
theorem Rm (j:B) (m:dZ) (aF:m.l.length<=9991) (l0:List D) (aE:l0.length<=10) :aW 224 [a7 j,cp m,b4 1 ec (some l0)] (.a1 [c7 (v8 (j::(jx l0++m.l))),.i6 0]):=by
 apply a8 func224 [];have ax:=ds;have ar:bz (.Z 1) (cp m)=some (.i6 m.l.length):=b6 _;have au:bz (.Z 1) (b4 1 ec (some l0))=some (.i6 l0.length):=b6 _;have ah:¬ (9991:Int)<(m.l.length:Int):=F;have aD:¬ 9991<m.l.length:=F;have aj:=jZ m;simp[ar,au,ah];refine bx l0.length (Ng j m l0) ?_ ⟨V,V,V,V,_,rfl,⟨0,ma (n:=1) (a:=[j]) rfl rfl,V,V,.inr V,rfl⟩⟩;rintro k G l hk ⟨I,O,P,Q,aI,W,p⟩;obtain⟨G,rfl⟩:=gv I W O P Q;clear I W O P Q;by_cases h:k<l0.length
 ·obtain⟨x,o,_⟩:=aP h;have am:bO (.Z 1) (b4 1 ec (some l0)) (.i6 k)=some (.b7 (ec x) 0):=by rw[oD];simp[o]
  have C:IntKind.i64.wrap ((k:Int)+1)=(k+1:Nat):=wrap_i64 F F;have t:=QV o;have ad:=HF (l0.take k);rw[cL] at ad;obtain⟨aB,aH,H,ag,aC⟩:=(p.more [ao.q 4 ((hx x).map a7)]).app (by_:=1) (x:=.Z 1 l.length 0 4 4 4) (xs:=hx x) (by rw[vV];simp[cr,hx]) (fun y _=>rfl) F F (by rw[ax];simp[hx];omega);rw[show (hx x).map a7=[.int .u8 (u (BitVec.setWidth 8 (x >>> 24))),.int .u8 (u (BitVec.setWidth 8 (x >>> 16))),.int .u8 (u (BitVec.setWidth 8 (x >>> 8))),.int .u8 (u (BitVec.setWidth 8 x))] from rfl] at H;simp[h,am,ec,H];refine bP.bm ?_;simp[C];exact⟨F,V,V,V,V,aB,V,by rw[t,<-iK];exact ag⟩
 ·have z:k=l0.length:=F;subst z;rw[e3] at p;have ad:=HF l0;have v:=Jy [some (j::jx l0),m] V (fun s t=>by
   rcases kn.1 t with h | h
   ·rw[h];show (j::jx l0).length<=_;simp;omega
   ·rw[gd.1 h];omega)
  have ai:bytesOf [some (j::jx l0),m]=j::(jx l0++m.l):=by simp[bytesOf]
  rw[ai] at v;have aA:=p.cells;have av:(cp m).cells=some [cp m]:=by cases m<;>rfl
  obtain⟨g,w⟩:=al (gq (j::(jx l0++m.l)));have Y:g.length=32:=by rw[w];exact oT _
  rw[<-w] at v;have ak:(g.map a7).length=32:=by simp[Y]
  have ap:eo g=.af (g.map a7):=rfl;rw[ap] at v;have az:aw (bZ 32 (.int .u8 0)) 0 (g.map a7)=g.map a7:=cy (by rw[ak];rfl);have ay:∀ b,dw (.arr 32 1) (.ptr b 0 32) none (some (.i6 8)) none=some (.Z 1 b 0 8 32 32):=fun b=>W3 (b:=b)
  simp[aA,av];refine iC v (.cons (VL V ((p.more _).oR (fun _=>rfl) (some (j::jx l0)) rfl rfl) (.same _ aj)) .nil) (by simp[U.flat,kE,tJ a7 (fun _=>rfl)]) ?_;simp[Y,az,ay];refine bx 8 (MK g 0) ?_ ⟨V,by simp[qp],⟨l.length+1,32,V,V,rfl⟩,V,V⟩;clear p;rintro k G l hk ⟨J,K,⟨b,n,R,X,rfl⟩,S,T⟩;obtain⟨G,rfl⟩:=gv J K R S T;clear J K R S T;by_cases h:k<8
  ·obtain⟨x,o,_⟩:=aP (l:=g) (k:=k) F;have C:IntKind.i64.wrap ((k:Int)+1)=(k+1:Nat):=wrap_i64 F F;have t:=Ga g k x o;have z:(k:Int)<8:=F;have aG:(g.map a7)[k]?=some (a7 x):=by rw[b1,o];rfl
   simp[h,z,X,C,o];exact⟨V,by simp[t],⟨b,32,V,by simpa using X,rfl⟩,V,V⟩
  ·have aq:k=8:=F;subst aq;simp;exact aR (by unfold v8;rw[w]) rfl
def vF (r y:D) (m:List B) :D:=(v8 (99#8::(jx [r,y]++m)) % 500000003#64).setWidth 32
theorem Ks (x:Q) :cx .rem .u64 (u x) .u64 500000003=some (.int .u64 (u (x % 500000003#64))):=tq x 500000003#64 (by decide)
theorem Ys (r y:D) (m:dZ) (h:m.l.length<=9991) :aW 179 [bh r,bh y,cp m] (.a1 [bh (vF r y m.l),.i6 0]):=by apply a8 func179 [];have g:=jZ m;simp;refine iC (Rm 99#8 m h [r,y] V) (.cons (.same _ rfl) (.cons (.same _ g) (.cons (w4 V) .nil))) rfl ?_;simp[Ks];exact aL
theorem Dv (a b:D) (g:b≠0#32) :cx .quo .u32 (u a) .u32 (u b)=some (.int .u32 (u (a / b))):=by
 have h:(b.toNat:Int)≠0:=fun e=>g (e2 (by simpa using e))
 show (if IntKind.u32=IntKind.u32/\(b.toNat:Int)≠0 then some (U.int .u32 (IntKind.u32.wrap ((a.toNat:Int).tdiv b.toNat))) else none)=_;rw[ak ⟨rfl,h⟩,uT];congr 2;have:((a.toNat:Int).tdiv b.toNat)=((a.toNat / b.toNat:Nat) :Int):=rfl;rw[this,nX];congr 1;apply e2;rw[fQ,rn];exact eg (Nat.lt_of_le_of_lt (Fk _ _) a.isLt)
theorem HE (x:D) {l:ad} {K:cA} (o:∀ v l',ce 1 bY l l' v (hx x) false->K v l') :cM 232 [bh x] l K:=by
 apply c0 func232 [];have q1:cx .quo .u32 (u x) .u32 16777216=some (.int .u32 (u (x / 16777216#32))):=Dv x 16777216#32 (by decide);have q:cx .quo .u32 (u x) .u32 65536=some (.int .u32 (u (x / 65536#32))):=Dv x 65536#32 (by decide);have t:cx .quo .u32 (u x) .u32 256=some (.int .u32 (u (x / 256#32))):=Dv x 256#32 (by decide);have w:∀ y:D,cx .rem .u32 (u y) .u32 256=some (.int .u32 (u (y % 256#32))):=fun y=>OD y 256#32 (by decide)
 have z:=x.isLt;have g:BitVec.setWidth 8 (x / 16777216#32)=BitVec.setWidth 8 (x >>> 24):=by
  apply e2;rw[fw,fw,rn,lE,hI];rfl
 have h:BitVec.setWidth 8 (x / 65536#32 % 256#32)=BitVec.setWidth 8 (x >>> 16):=by
  apply e2;rw[fw,fw,m5,rn,lE,hI];show x.toNat / 65536 % 256 % 256=x.toNat / 65536 % 256;omega
 have j:BitVec.setWidth 8 (x / 256#32 % 256#32)=BitVec.setWidth 8 (x >>> 8):=by
  apply e2;rw[fw,fw,m5,rn,lE,hI];show x.toNat / 256 % 256 % 256=x.toNat / 256 % 256;omega
 have m:BitVec.setWidth 8 (x % 256#32)=BitVec.setWidth 8 x:=by
  apply e2;rw[fw,fw,m5];show x.toNat % 256 % 256=x.toNat % 256;omega
 simp[q1,q,t,w,g,h,j,m];exact o _ _ ⟨l.length,ma (n:=4) (a:=hx x) rfl (by simp;rfl),V,fun b p=>aU p,.inr V,rfl⟩
structure Nv (d:List B) (k:Nat) (sgZ:aS) (l:ad) :Prop where
 hP:sgZ 3=.ptr 0 0 32
 hQ:sgZ 4=c7 (qp (d.take k))
 kG:sgZ 5=.i6 k
 nH:l[0]?=some (.q 32 (d.map a7))
theorem Tv (s:dZ) (j:s.l.length<=1000000) :aW 233 [cp s] (c7 (v8 s.l)):=by
 apply a8 func233 [];have o:=Ko s j;have z:=jZ s;obtain⟨g,m⟩:=al (gq s.l);have u:g.length=32:=by rw[m];exact oT _
 rw[<-m] at o;have C:eo g=.af (g.map a7):=rfl;rw[C] at o;have B:(g.map a7).length=32:=by simp[u]
 have H:aw (bZ 32 (.int .u8 0)) 0 (g.map a7)=g.map a7:=cy (by rw[B];rfl);simp;refine au o (by simp[aq,z]) ?_;simp[u,H];refine bx 8 (Nv g) ?_ ⟨V,by simp[qp],V,rfl⟩;rintro k J l hk ⟨p,q,t,w⟩;obtain⟨J,rfl⟩:=gJ p q t;clear p q t;by_cases h:k<8
 ·obtain⟨x,v,_⟩:=aP (l:=g) (k:=k) F;have I:IntKind.i64.wrap ((k:Int)+1)=(k+1:Nat):=wrap_i64 F F;have j:=Ga g k x v;rw[WS] at j;have D:(k:Int)<8:=F;have K:k<32:=F;simp[h,D,w,I,v];exact⟨F,V,by simp[j],V,w⟩
 ·have G:k=8:=F;subst G;simp;exact aR (by unfold v8;rw[m]) rfl
theorem U6 (r y:D) (m:dZ) (T:m.l.length<=900000) :aW 194 [bh r,bh y,cp m] (bh (vF r y m.l)):=by
 apply a8 func194 [];have h:=ds;have R:=jZ m;simp;refine HE r fun I G h1=>?_
 have S:=h1.le;have z:ce 1 bY [] G (.Z 1 0 0 1 1 1) [99#8] false:=⟨0,ma (n:=1) (a:=[99#8]) rfl (by rw[h1.same 0 V];rfl),V,V,.inr V,rfl⟩
 obtain⟨J,U,p,q,O⟩:=z.app (by_:=1) (x:=I) (xs:=hx r) h1.contents (fun _ _=>rfl) F F (by rw[h];simp[hx]);simp[p];refine bP.bm ?_;simp;refine HE y fun K H g=>?_
 have C:ce 1 bY [] H J ([99#8]++hx r) false:=q.frame g.le g.same;obtain⟨Y,W,t,u,P⟩:=C.app (by_:=1) (x:=K) (xs:=hx y) g.contents (fun _ _=>rfl) F F (by rw[h];simp[hx]);simp[t];refine bP.bm ?_;obtain⟨ad,X,v,w,Q⟩:=u.app (by_:=1) (x:=cp m) (xs:=m.l) (GM _ _) (fun _ _=>rfl) F F (by rw[h];simp[hx];omega);simp[v];refine bP.bm ?_;have j:(bX.l (some ([99#8]++hx r++hx y++m.l)) :List B)=99#8::(jx [r,y]++m.l):=by simp[jx]
 have o:=Tv (some ([99#8]++hx r++hx y++m.l)) (by rw[j];simp[jx,hx];omega);rw[j] at o;simp;refine iC o (.cons (w.oR (fun _=>rfl) (some ([99#8]++hx r++hx y++m.l)) V rfl) .nil) rfl ?_;simp[Ks];exact aL
theorem zC (a n k:Nat) :eH (eH a n) k=eH a (n*k):=by unfold eH;rw[<-xQ,<-Nat.pow_mul]
theorem JE (n:Nat) :eH 1 n=1:=by unfold eH;rw[Nat.one_pow]
theorem UG (a m n:Nat) :eH a (m+n)=eH a m*eH a n % 1000000007:=by unfold eH;rw[rz,vb]
theorem Ol:eH 4 500000003=1:=by have h:=JB 4 500000003 (by decide) 64 (aN _);rw[show 500000003 / 2 ^ (64 - 64)=500000003 from rfl] at h;rw[<-h];decide +kernel
theorem Cv {y:D} (h:eH y.toNat 500000003=1) (n:Nat) :e0 (fr y n)=true:=by
 have m:=oP y n;have g:=sp y.toNat n;have h1:eH (eH y.toNat n) 500000003=1:=by
  rw[zC,Ba,<-zC,h,JE]
 have p:eH y.toNat n≠0:=fun e=>by
  rw[e] at h1;have o:∀ n,0<n->eH 0 n=0:=fun n j=>by unfold eH;rw[Nat.zero_pow j]
  rw[o _ (by decide)] at h1;cases h1
 unfold e0;rw[m,ca F,ca g,ca h1];rfl
theorem Ic {y:D} (h:e0 y=true) :eH y.toNat 500000003=1:=by unfold e0 at h;simp only[bU,bI] at h;exact h.2
theorem Oj {y:D} (h:eH y.toNat 500000003=1) {e:Nat} (j:e<500000003) :fr (fr y e) 500000002=fr y (500000003 - e):=by
 apply e2;rw[oP,oP,oP,zC];rcases e with _ | e
 ·rw[ta,vd,h];unfold eH;rfl
 ·have g:(e+1)*500000002=500000003*e+(500000003 - (e+1)):=F;rw[g,UG,<-zC,h,JE,vc,eg (sp _ _)]
def w1 (y:D) (e s:D) :D:=wX (fr 4#32 s.toNat) (fr y (500000003 - e.toNat))
def xf (y:D) (m:List B) (e s:D) :Bool:=hv e&&(hv s&&decide (vF (w1 y e s) y m=e))
theorem Xu {e:D} (g:e.toNat<500000003) :(500000003#64 - e.setWidth 64).toNat=500000003 - e.toNat:=by rw[BitVec.toNat_sub,fw];have:(500000003#64).toNat=500000003:=rfl;rw[this];omega
theorem YG (y:D) (o:e0 y=true) (m:dZ) (R:m.l.length<=9991) (e s:D) :aW 118 [bh y,cp m,.af [bh e,bh s]] (.i6 (if xf y m.l e s then 0 else 22)):=by
 apply a8 func118 [];unfold xf;have P:bz (.Z 1) (cp m)=some (.i6 m.l.length):=b6 _;have C:¬ (9991:Int)<(m.l.length:Int):=F;have W:¬ 9991<m.l.length:=F;have O:=jZ m;have T:=Ic o;have z:=Cu y;rw[o] at z;simp;refine au z rfl ?_;obtain⟨M,t⟩:=al (if u e<u s then u s else u e:Int);have S:oL (bh e) (bh s)=some (.int .u32 M):=by rw[t];simp[oL]
 have v:(500000003:Int)<=M<->500000003<=e.toNat\/500000003<=s.toNat:=by
  rw[t];unfold u;split<;>omega
 simp[P,C,S];by_cases h1:500000003<=e.toNat\/500000003<=s.toNat
 ·have H:(hv e&&(hv s&&decide (vF (w1 y e s) y m.l=e)))=false:=by
   unfold hv;rcases h1 with h | h
   ·rw[ct F];rfl
   ·rw[ct (p:=s.toNat<500000003) F];simp
  have g:=v.2 h1;simp[g,H];exact aL
 ·have g:¬ (500000003:Int)<=M:=fun h=>h1 (v.1 h)
  have I:hv e=true:=by unfold hv;exact ca F
  have J:hv s=true:=by unfold hv;exact ca F
  have B:=Q8 y (500000003#64 - e.setWidth 64);have V:(s.setWidth 64:Q).toNat=s.toNat:=by rw[fw];omega
  have w:=Q6 (s.setWidth 64);rw[o,ak rfl,ak rfl,Xu F] at B;rw[V] at w;have j:=Q7 (fr 4#32 s.toNat) (fr y (500000003 - e.toNat));rw[Cv (y:=4#32) Ol,Cv T] at j;simp only[k1,if_true] at j;have K:=Ys (w1 y e s) y m R;have G:∀ a b:D,((u a:Int)=u b)<->a=b:=fun a b=>⟨fun h=>e2 (by unfold u at h;omega),fun h=>by rw[h]⟩
  simp[g];refine au B rfl ?_;simp;refine au w rfl ?_;simp;refine au j rfl ?_;simp;refine au K (by simp[aq,U.ar,O]) ?_;rw[I,J];by_cases q:vF (w1 y e s) y m.l=e
  ·simp[q];exact aL
  ·simp[q,G];exact aL
theorem Vg (s:D) :aW 132 [bh s] (bh (fr 4#32 s.toNat)):=by
 apply a8 func132 [];have h:(s.setWidth 64:Q).toNat=s.toNat:=by rw[fw];omega
 have g:=U4 (s.setWidth 64);rw[h] at g;simp;refine au g rfl ?_;simp;exact aL
theorem Vq (y:D) (F:e0 y=true) (m:dZ) (B:m.l.length<=900000) (e s:D) :aW 183 [bh y,cp m,.af [bh e,bh s]] (.bool (xf y m.l e s)):=by
 apply a8 func183 [[[0],[1],[3],[5],[6],[8],[9],[2,9],[4,9],[7,9]]];unfold xf;have w:=jZ m;have j:=Ic F;have q:∀ a b:D,((u a:Int)=u b)<->a=b:=fun a b=>⟨fun h=>e2 (by unfold u at h;omega),fun h=>by rw[h]⟩
 simp;refine au (yy e) rfl ?_;cases h1:hv e with
 | false=>simp;exact aL
 | true=>
 simp;refine au (yy s) rfl ?_;cases G:hv s with
 | false=>simp;exact aL
 | true=>
 have z:e.toNat<500000003:=by unfold hv at h1;exact iM h1
 have p:(e.setWidth 64:Q).toNat=e.toNat:=by rw[fw];omega
 have o:=DC y (e.setWidth 64);rw[p] at o;have g:=Ve (fr y e.toNat);rw[Cv j,ak rfl,ak rfl,Oj j z] at g;have t:=Vg s;have C:=Vo (fr 4#32 s.toNat) (fr y (500000003 - e.toNat));have v:=U6 (w1 y e s) y m B;simp;refine au o rfl ?_;simp;refine au g rfl ?_;simp;refine au t rfl ?_;simp;refine au C rfl ?_;simp;refine au v (by simp[aq,U.ar,w]) ?_;simp[q];exact aL
def Ed (o:aJ) :Bool:=xf o.eL (iB o) o.e o.s
def ei (o:aJ) :Int:=if de o=0 then (if Ed o then 0 else 22) else de o
theorem Jd {o:aJ} (t:∀ x∈o.ax.l,x.length=32) (h:de o=0) :e0 o.eL=true/\(iB o).length<=9991:=by
 have D:=pL h;unfold de at h;rw[aj F] at h;split at h
 ·split at h
  ·rename_i G p;unfold pu at p;simp only[bU,bI] at p;obtain⟨q,w,g,z,C⟩:=p;refine⟨q,?_⟩;have u:o.act.key.length<=20/\(o.act.kind=4#8->o.act.val.text.length<=30):=by
    unfold iQ at g;split at g
    ·rename_i h1;simp only[bU,bI] at g;rw[g.1];exact⟨V,fun h=>by rw[h1] at h;cases h⟩
    ·split at g
     ·rename_i h1 m;simp only[bU] at g;have hk:=g.1;unfold hz at hk;simp only[bU,bI] at hk;exact⟨hk.1.2,fun h=>by rw[h] at m;rcases m with m | m<;>cases m⟩
     ·split at g
      ·simp only[bU] at g;obtain⟨hk,j⟩:=g;unfold hz at hk;simp only[bU,bI] at hk;refine⟨hk.1.2,fun _=>?_⟩;unfold iI at j;split at j
       ·simp only[bU,bI] at j;rw[j.2];simp
       ·split at j
        ·simp only[bU,bI] at j;rw[j.1.2];simp
        ·split at j
         ·simp only[bU,bI] at j;exact j.1.2
         ·cases j
      ·cases g
   have H:=gE o.eL.toNat
   have I:=gE o.fa.toNat
   have J:=wu t;have v:=uO (ef o.act.key);rw[mX] at v;have K:=xu o.act.val;have n6:(opHead o).length<=10:=by unfold opHead;simp;omega
   unfold iB;simp only[cF,dN,hq];have n7:(if o.act.kind=1#8 then ([] :List B) else hh (ef o.act.key)).length<=29:=by
    split
    ·simp
    ·omega
   have n8:(if o.act.kind=4#8 then hi o.act.val else []).length<=50:=by
    split
    ·rename_i h;have:=u.2 h;omega
    ·simp
   omega
  ·cases h
 ·cases h
theorem xw (o:aJ) (j:dm o) :aW 65 [.af (av o)] (.i6 (ei o)):=by
 apply a8 func65 [];unfold ei;have u:=du o;have m:=Av o j;have p:aq [U.af (av o)]=true:=by simp[aq,U.ar,u]
 by_cases g:de o=0
 ·obtain⟨v,z⟩:=Jd j.idsZ g;rw[ak g];simp[av];refine au m p ?_;simp[g];refine Mm o j (F4 g) fun w C h=>?_
  have D:C[0]?=some (.q 11 (av o)):=by rw[h.same 0 V];rfl
  have t:=D;simp[av] at t;have B:=YG o.eL v (some (iB o)) z o.e o.s;simp[t];refine iC B (.cons (.same _ rfl) (.cons (h.oR (fun _=>rfl) (some (iB o)) rfl rfl) (.cons (.same _ rfl) .nil))) rfl ?_;simp;exact aL
 ·rw[aj g];simp[av];refine au m p ?_;simp[g];exact aL
theorem Vz (o:aJ) (j:dm o) (g:de o=0) :aW 121 [.af (av o)] (.bool (Ed o)):=by
 apply a8 func121 [[[0],[1],[2],[4],[5],[3,5,1]]];have z:=du o;obtain⟨p,B⟩:=Jd j.idsZ g;have t:=Vq o.eL p (some (iB o)) (by show (iB o).length<=_;omega) o.e o.s;simp[av];refine Kc o j (by have:=pL g;omega) fun w u h=>?_
 have v:u[0]?=some (.q 11 (av o)):=by rw[h.same 0 V];rfl
 have m:=v;simp[av] at m;simp[m];refine iC t (.cons (.same _ rfl) (.cons (h.oR (fun _=>rfl) (some (iB o)) rfl rfl) (.cons (.same _ rfl) .nil))) rfl ?_;simp;exact aL
theorem zN (o:aJ) (m:dm o) :aW 69 [.af (av o)] (.i6 (ei o)):=by
 apply a8 func69 [];unfold ei;have p:=du o;have j:=J9 o m;have h:aq [U.af (av o)]=true:=by simp[aq,U.ar,p]
 by_cases g:de o=0
 ·rw[ak g];simp[av];refine au j h ?_;simp[g];refine au (Vz o m g) h ?_;cases q:Ed o with
  | true=>simp;exact aL
  | false=>simp;exact aL
 ·rw[aj g];simp[av];refine au j h ?_;simp[g];refine au j h ?_;simp;exact aL
end Op
namespace Op
section
variable {alZ:Type} {z:Nat} {enc:alZ->ag}
theorem TI {by_:Nat} {l l1:ad} {v:U} {a:List alZ} {C:Bool} (h:ce z enc l l1 v a C) (x:alZ) {b:Nat} (u:l1[b]?=some (.q z (enc x))) (j:(enc x).length=z) (t:z≠0) (w:by_≠0) (B:(a.length+1)*by_<=dk) :
  ∃ g l',ea l1 z by_ v (.Z z b 0 1 1 z)=some (g,l')/\ce z enc l l' g (a++[x]) false/\l1.length<=l'.length:=by obtain⟨g,l',m,o,p⟩:=h.app (by_:=by_) (x:=.Z z b 0 1 1 z) (xs:=[x]) (by simp[cr,u,j,aH]) (by simp[j]) t w (by simpa using B);exact⟨g,l',m,by simpa using o,p⟩
def cW (l:List alZ) (i:Nat) (x:alZ) :List alZ:=l.take i++x::l.drop i
theorem h8 (l:List alZ) (i:Nat) (x:alZ) :(cW l i x).length=l.length+1:=by unfold cW;have:=ci List.length (i4 i l);simp only[cF,dN] at this ⊢;omega
theorem jA {l:List alZ} {i:Nat} {x y:alZ}:y∈cW l i x<->y=x\/y∈l:=by
 unfold cW;rw[fx,kn];constructor
 ·rintro (h | h | h)
  ·exact .inr (gA h)
  ·exact .inl h
  ·exact .inr (u7 h)
 ·rintro (h | h)
  ·exact .inr (.inl h)
  ·rw[<-i4 i l,fx] at h;exact h.elim .inl fun h=>.inr (.inr h)
theorem Eg {lt:alZ->alZ->Bool} (j:∀ a,lt a a=false) (p:∀ a b c,lt a b=true->lt b c=true->lt a c=true) :∀ {l m:List alZ},l.Pairwise (fun a b=>lt a b=true)->m.Pairwise (fun a b=>lt a b=true)->(∀ y,y∈l<->y∈m)->l=m
 | [],[],_,_,_=>rfl
 | [],b::m,_,_,h=>bW ((h b).2 V) V
 | a::l,[],_,_,h=>bW ((h a).1 V) V
 | a::l,b::m,v,w,h=>by
  obtain⟨q,z⟩:=AZ.1 v;obtain⟨t,B⟩:=AZ.1 w;have u:a=b:=by
   rcases kn.1 ((h a).1 V) with e | e
   ·exact e
   ·rcases kn.1 ((h b).2 V) with o | o
    ·exact o.symm
    ·have:=p _ _ _ (t a e) (q b o);rw[j] at this;cases this
  subst u;congr 1;refine Eg j p z B fun y=>⟨fun g=>?_,fun g=>?_⟩
  ·rcases kn.1 ((h y).1 (by simp[g])) with e | e
   ·subst e;have:=q y g;rw[j] at this;cases this
   ·exact e
  ·rcases kn.1 ((h y).2 (by simp[g])) with e | e
   ·subst e;have:=t y g;rw[j] at this;cases this
   ·exact e
end
section
variable {alZ:Type} [DecidableEq alZ]
end
end Op
namespace Op
open cu
def dG {alZ:Type} [DecidableEq alZ] (x:alZ) :List alZ->Nat->Int
 | [],_=>-1
 | y::r,k=>if y=x then (k:Int) else dG x r (k+1)
theorem lp {alZ:Type} [DecidableEq alZ] (x:alZ) :∀ (l:List alZ) (k:Nat),(0<=dG x l k)<->x∈l
 | [],k=>by simp[dG]
 | y::r,k=>by
  unfold dG;by_cases h:y=x
  ·simp[h]
  ·rw[aj h,lp x r (k+1)];simp[Ne.symm h]
theorem qI {alZ:Type} [DecidableEq alZ] {x:alZ}:∀ {l:List alZ} {k n:Nat} {y:alZ},l[k]?=some y->(∀ (j:Nat) (z:alZ),j<k->l[j]?=some z->z≠x)->y=x->dG x l n=((n+k:Nat) :Int)
 | [],k,n,y,h,_,_=>by simp at h
 | w::r,0,n,y,h,_,g=>by
  simp at h;subst h;unfold dG;rw[ak g];simp
 | w::r,k+1,n,y,h,m,g=>by
  unfold dG;rw[aj (m 0 w F V),qI (k:=k) (n:=n+1) (by simpa using h) (fun j z p o=>m (j+1) z F (by simpa using o)) g];congr 1;omega
theorem wi {alZ:Type} [DecidableEq alZ] {x:alZ}:∀ {l:List alZ} {n:Nat},(∀ (j:Nat) (z:alZ),l[j]?=some z->z≠x)->dG x l n=-1
 | [],n,_=>rfl
 | w::r,n,g=>by
  unfold dG;rw[aj (g 0 w V),wi fun j z h=>g (j+1) z (by simpa using h)]
theorem YA (s:b2) (G:c6 s) (Q:s.l.length<=1000000) (x:List B) (u:x.length=32) :aW 119 [ah s,.af (am x)] (.i6 (dG x s.l 0)):=by
 apply a8 func119 [];simp[ah];refine bx s.l.length (fun k m l=>l=[.q 32 (am x)]/\m 0=b4 32 am s/\m 3=.ptr 0 0 32/\m 7=.i6 s.l.length/\m 8=.i6 k/\∀ (g:Nat) (o:List B),g<k->s.l[g]?=some o->o≠x) ?_ (by simp[br u]);rintro k m l hk ⟨rfl,w,z,C,D,t⟩;obtain⟨m,rfl⟩:=eO w z C D;clear w z C D;simp;refine fh (fun h=>?_) (fun h=>?_)
 ·simp only[bI] at h;obtain⟨y,v,H⟩:=aP (l:=s.l) (k:=k) F;have I:=cf (k:=k) F;simp[v,br (G y H),br u,aH,nz u (G y H)];by_cases p:x=y
  ·have J:=qI (n:=0) v t p.symm;simp[p];exact aR (by rw[<-p,J];simp) rfl
  ·simp[p,I];refine⟨F,fun g o P j=>?_⟩;by_cases K:g=k
   ·subst K;rw[v] at j;obtain rfl:=cd j;exact fun h=>p h.symm
   ·exact t g o F j
 ·simp[h];have O:k=s.l.length:=by simp at h;omega
  exact aR (by rw[wi fun g o j=>t g o (by rw[O];exact (aK.1 j).1) j]) rfl
theorem pZ (s:b2) (j:c6 s) (h:s.l.length<=1000000) (x:List B) (g:x.length=32) :aW 66 [ah s,.af (am x)] (.bool (decide (x∈s.l))):=by apply a8 func66 [];simp[br g,aH];refine au (YA s j h x g) (by have:=bM s;have:=cG x;simp_all [aq,U.ar]) ?_;simp;exact aR (ci U.bool (by simp only[lp])) rfl
theorem zK (s:b2) (D:c6 s) (P:s.l.length<=1000000) (x:List B) (t:x.length=32) :aW 70 [ah s,.af (am x)] (.bool (decide (x∈s.l))):=by
 apply a8 func70 [];simp[ah];refine bx s.l.length (fun k j l=>l=[.q 32 (am x)]/\j 0=b4 32 am s/\j 3=.ptr 0 0 32/\j 5=.i6 k/\∀ (g:Nat) (o:List B),g<k->s.l[g]?=some o->o≠x) ?_ (by simp[br t]);rintro k j l hk ⟨rfl,w,z,C,G⟩;obtain⟨j,rfl⟩:=gJ w z C;clear w z C;simp;refine fh (fun h=>?_) (fun h=>?_)
 ·simp only[bI] at h;obtain⟨y,H,u⟩:=aP (l:=s.l) (k:=k) F;have I:=cf (k:=k) F;simp[H,br (D y u),br t,aH,nz (D y u) t];by_cases m:y=x
  ·simp[m];exact aR (ci U.bool (ca (by rw[<-m];exact u)).symm) rfl
  ·simp[m,I];refine⟨F,fun g o p v=>?_⟩;by_cases J:g=k
   ·subst J;rw[H] at v;obtain rfl:=cd v;exact m
   ·exact G g o F v
 ·simp[h];have K:k=s.l.length:=by simp at h;omega
  refine aR (ci U.bool (ct fun O=>?_).symm) rfl;obtain⟨g,p⟩:=cq.1 O;exact G g x (by rw[K];exact (aK.1 p).1) p rfl
theorem nL (s:b2) (D:c6 s) (P:s.l.length<=1000000) (x:List B) (u:x.length=32) :aW 77 [ah s,.af (am x)] (.i6 (dG x s.l 0)):=by
 apply a8 func77 [];simp[ah];refine bx s.l.length (fun k o l=>l=[.q 32 (am x)]/\o 0=b4 32 am s/\o 3=.ptr 0 0 32/\o 5=.i6 k/\∀ (g:Nat) (m:List B),g<k->s.l[g]?=some m->m≠x) ?_ (by simp[br u]);rintro k o l hk ⟨rfl,w,z,C,t⟩;obtain⟨o,rfl⟩:=gJ w z C;clear w z C;simp;refine fh (fun h=>?_) (fun h=>?_)
 ·simp only[bI] at h;obtain⟨y,v,G⟩:=aP (l:=s.l) (k:=k) F;have H:=cf (k:=k) F;simp[v,br (D y G),br u,aH,nz (D y G) u];by_cases p:y=x
  ·have I:=qI (n:=0) v t p;simp[p];exact aR (by rw[I];simp) rfl
  ·simp[p,H];refine⟨F,fun g m O j=>?_⟩;by_cases J:g=k
   ·subst J;rw[v] at j;obtain rfl:=cd j;exact fun h=>p h
   ·exact t g m F j
 ·simp[h];have K:k=s.l.length:=by simp at h;omega
  exact aR (by rw[wi fun g m j=>t g m (by rw[K];exact (aK.1 j).1) j]) rfl
def gV (l ps:aQ) :Bool:=decide (∀ g∈ps,g∈l)
theorem zJ (s:b2) (ag:c6 s) (ad:s.l.length<=1000000) (t:b2) (P:c6 t) (ao:t.l.length<=1000000) :aW 78 [ah s,ah t] (.bool (gV s.l t.l)):=by
 apply a8 func78 [];have W:=bM s;have J:bz (.Z 32) (ah t)=_:=b6 _;simp;refine bx t.l.length (fun k j l=>j 0=ah s/\j 1=ah t/\j 5=.i6 k/\∀ (g:Nat) (p:List B),g<k->t.l[g]?=some p->p∈s.l) ?_ V;rintro k j l hk ⟨z,C,D,O⟩;obtain⟨j,rfl⟩:=gJ z C D;clear z C D;by_cases m:k<t.l.length
 ·obtain⟨y,Q,v⟩:=aP m;have S:=cf (k:=k) F;have I:bO (.Z 32) (ah t) _=_:=c5 Q;have H:=cG y;have G:=nL s ag ad y (P y v);have R:=br (P y v);have K:=lp y s.l 0;obtain⟨ak,T⟩:=al (am y);rw[<-T] at I H G R;simp[J,m,I,R,aH];refine au G (by simp[aq,U.ar,W,H]) ?_;by_cases o:y∈s.l
  ·have q:¬ dG y s.l 0<0:=by have:=K.2 o;omega
   simp[q,m,S];intro g p u w;by_cases X:g=k
   ·subst X;rw[Q] at w;obtain rfl:=cd w;exact o
   ·exact O g p F w
  ·have q:dG y s.l 0<0:=by
    rcases Int.lt_or_le (dG y s.l 0) 0 with h | h
    ·exact h
    ·exact bW (K.1 h) o
   simp[q];exact aR (ci U.bool (ct fun h=>o (h y v)).symm) rfl
 ·have Y:k=t.l.length:=F;simp[J,m];refine aR (ci U.bool (ca fun aj ai=>?_).symm) rfl;obtain⟨g,u⟩:=cq.1 ai;exact O g aj (by rw[Y];exact (aK.1 u).1) u
theorem kb {l:aQ} (h:b8 l=true) :∀ {i j:Nat} {a b:List B},i<j->l[i]?=some a->l[j]?=some b->bQ a b<0:=by
 have p:=iM h;intro i j
 induction j with
 | zero=>intro a b q;omega
 | succ j v=>
  intro a b q m o;have u:=(aK.1 o).1;have h1:=p (j+1) u F;obtain⟨c,g,_⟩:=aP (l:=l) (k:=j) F;rw[show j+1 - 1=j by omega,dI g,dI o] at h1;by_cases t:i=j
  ·subst t;rw[m] at g;obtain rfl:=cd g;exact h1
  ·exact ow _ _ _ (v F m g) h1
theorem DS {l:aQ} (h:b8 l=true) {i j:Nat} {a:List B} (g:l[i]?=some a) (m:l[j]?=some a) :i=j:=by
 rcases o8 i j with h1 | h1 | h1
 ·have:=kb h h1 g m;rw[lg] at this;omega
 ·exact h1
 ·have:=kb h h1 m g;rw[lg] at this;omega
def dU (l:aQ) (x:List B) :Nat:=(l.takeWhile fun g=>decide (bQ g x<0)).length
theorem BG (x:List B) :∀ {l:aQ} {p:Nat},p<=l.length->(∀ (t:Nat) (y:List B),t<p->l[t]?=some y->bQ y x<0)->(∀ y,l[p]?=some y->¬ bQ y x<0)->dU l x=p
 | [],p,g,_,_=>by simp at g;subst g;rfl
 | y::l,0,_,_,h=>by
  have:=h y V;unfold dU;rw[A3,ct this];rfl
 | y::l,p+1,g,h1,h=>by
  have q:=h1 0 y F V;have o:=BG x (l:=l) (p:=p) (by simpa using g) (fun t m u j=>h1 (t+1) m F (by simpa using j)) (fun m j=>h m (by simpa using j));unfold dU at o ⊢;rw[A3,ca q];simpa using o
theorem WU (n:Nat) (h:n<9223372036854775808) :cx .shr .u64 (n:Int) .u64 1=some (.int .u64 ((n / 2:Nat) :Int)):=by
 have:=qr (BitVec.ofNat 64 n) .u64 1;have g:(u (BitVec.ofNat 64 n) :Int)=n:=by unfold u;rw[fQ,eg F]
 have j:(u (BitVec.ofNat 64 n >>> 1) :Int)=((n / 2:Nat) :Int):=by
  unfold u;rw[lE,fQ,eg F,hI]
 rw[g,j] at this;exact this
structure MN (s:b2) (X:ag) (x:List B) (m:Nat) (sgZ:aS) (l:ad) :Prop where
 ex:∃ (i j:Nat),j - i=m/\i<=j/\j<=s.l.length/\l=[.q 32 X]/\sgZ 0=ah s/\sgZ 2=.fn 162 [] []/\sgZ 4=.ptr 0 0 32/\sgZ 8=.i6 s.l.length/\sgZ 9=.i6 i/\sgZ 10=.i6 j ∧
  (∀ (t:Nat) (y:List B),t<i->s.l[t]?=some y->bQ y x<0)/\(∀ (t:Nat) (y:List B),j<=t->s.l[t]?=some y->¬ bQ y x<0)
theorem z8 (s:b2) (Q:c6 s) (aU:s.l.length<=1000000) (x:List B) (ap:x.length=32) (P:b8 s.l=true) :
  aW 161 [ah s,.af (am x),.fn 162 [] []] (.a1 [.i6 (dU s.l x),.bool (decide (x∈s.l))]):=by
 apply a8 func161 [];have aF:bz (.Z 32) (ah s)=_:=b6 _;have D:=br ap;have T:=cG x;have K:∀ y∈s.l,aW 162 [.af (am y),.af (am x)] (.i6 (bQ y x)):=fun y g=>qx y x (Q y g) ap
 obtain⟨ax,aA⟩:=al (am x);rw[<-aA] at D T K ⊢;simp[aF];refine wx (MN s ax x) ?_ s.l.length _ _ ⟨0,s.l.length,F,F,F,by simp[D],V,V,by simp[D],V,V,V,fun m y h=>F,fun m y h t=>by rw[dY h] at t;cases t⟩;rintro aX aM l ⟨i,j,aV,aT,aE,rfl,X,ad,ag,ai,aj,Y,h1,t⟩;obtain⟨aM,rfl⟩:=m0 X ad ag ai aj Y;clear X ad ag ai aj Y;by_cases aG:i<j
 ·obtain⟨h,aC⟩:=al ((i+j) / 2);have av:IntKind.i64.wrap ((i:Int)+j)=((i+j:Nat) :Int):=by rw[IntKind.wrap_i64];omega
  have aw:IntKind.u64.wrap ((i+j:Nat) :Int)=((i+j:Nat) :Int):=by rw[uU,nX];unfold u;rw[fQ,eg F]
  have W:=WU (i+j) F;have aO:IntKind.i64.wrap (h:Int)=(h:Int):=by rw[IntKind.wrap_i64];omega
  have aQ:=cf (k:=h) F;have aI:(i:Int)<(j:Int):=F;rw[<-aC] at W;obtain⟨y,g,I⟩:=aP (l:=s.l) (k:=h) F;have H:=br (Q y I);have G:=cG y;have C:bO (.Z 32) (ah s) _=_:=c5 g;have z:=K y I;obtain⟨ay,J⟩:=al (am y);rw[<-J] at H G C z;obtain⟨N,az⟩:=al (i+j);rw[<-az] at av aw W;simp[aG,av,aw,W,aO,C,H,D,aH];refine⟨B8,au z (by simp[aq,U.ar,G,T]) ?_⟩;by_cases w:bQ y x<0
  ·simp[w,aQ];refine⟨j - (h+1),F,h+1,j,rfl,F,F,V,V,V,V,V,V,V,fun m aS o q=>?_,t⟩;by_cases R:m=h
   ·subst R;rw[g] at q;obtain rfl:=cd q;exact w
   ·exact ow _ _ _ (kb P F q g) w
  ·simp[w];refine⟨h - i,F,i,h,rfl,F,F,V,V,V,V,V,V,V,h1,fun m aS o q ak=>w ?_⟩;by_cases R:m=h
   ·subst R;rw[g] at q;obtain rfl:=cd q;exact ak
   ·exact ow _ _ _ (kb P F g q) ak
 ·have aI:¬ (i:Int)<(j:Int):=F;obtain rfl:i=j:=F;have ao:=BG x (l:=s.l) (p:=i) aE h1 (fun y g=>t i y (aN _) g);have aJ:∀ {y:List B},s.l[i]?=some y->(y=x<->x∈s.l):=fun {y} g=>by
   constructor
   ·rintro rfl;exact cJ g
   ·intro S;obtain⟨m,o⟩:=cq.1 S;rcases o8 m i with v | v | v
    ·have:=h1 m x v o;rw[lg] at this;omega
    ·subst v;rw[g] at o;exact cd o
    ·exact bW (kb P v g o) (t i y (aN _) g)
  by_cases O:i<s.l.length
  ·have aD:(i:Int)<(s.l.length:Int):=F;obtain⟨y,g,I⟩:=aP (l:=s.l) (k:=i) O;have H:=br (Q y I);have G:=cG y;have C:bO (.Z 32) (ah s) _=_:=c5 g;have z:=K y I;have aB:bQ y x=0<->x∈s.l:=by
    rw[<-aJ g];exact⟨ou,fun h=>by rw[h];exact lg _⟩
   obtain⟨ay,J⟩:=al (am y);rw[<-J] at H G C z;simp[O,C,H,D,aH];refine⟨B8,au z (by simp[aq,U.ar,G,T]) ?_⟩;simp;refine aR ?_ rfl;rw[ao];simp[aB]
  ·have aD:¬ (i:Int)<(s.l.length:Int):=F;simp[O];refine aR ?_ rfl;have aL:¬ x∈s.l:=fun S=>by
    obtain⟨m,o⟩:=cq.1 S;have:=h1 m x (by have:=(aK.1 o).1;omega) o;rw[lg] at this;omega
   rw[ao,ct aL]
theorem BF {l:aQ} (j:b8 l=true) {k:Nat} {x:List B} (h:l[k]?=some x) :dU l x=k:=
 BG x (kp (aK.1 h).1) (fun o y m g=>kb j m g h) (fun y g=>by rw[h] at g;obtain rfl:=cd g;rw[lg];omega)
structure aV where
 idsZ:b2
 opsZ:bX aJ
def bB (s:bX aJ) :U:=b4 11 av s
def bf (g:aV) :ag:=[ah g.idsZ,bB g.opsZ]
def cD (g:aV) :U:=.af (bf g)
structure eT (g:aV) :Prop where
 idsZ:c6 g.idsZ
 opsZ:∀ o∈g.opsZ.l,dm o
 li:g.idsZ.l.length<=1000000
 ji:g.opsZ.l.length<=1000000
theorem im (s:bX aJ) :(bB s).ar=true:=ot du s
theorem oo (g:aV) :aq (bf g)=true:=by have:=bM g.idsZ;have:=im g.opsZ;simp[bf,aq, *]
theorem np (g:aV) :(cD g).ar=true:=by simp[cD,U.ar,oo]
def dQ (opsZ:List aJ) (i:Nat) :aQ:=match opsZ[i]? with | some g=>g.ax.l | none=>[]
theorem mb {opsZ:List aJ} {i:Nat} {o:aJ} (h:opsZ[i]?=some o) :dQ opsZ i=o.ax.l:=by unfold dQ;rw[h]
inductive mr (idsZ:aQ) (opsZ:List aJ) :Nat->Prop
 | mk (i:Nat) (m:i<idsZ.length) (o:∀ g∈dQ opsZ i,g∈idsZ) (j:∀ g∈dQ opsZ i,∀ h,idsZ[h]?=some g->mr idsZ opsZ h) :mr idsZ opsZ i
def k7 (idsZ:aQ) :Prop:=∀ (i g:Nat) (x:List B),idsZ[i]?=some x->idsZ[g]?=some x->i=g
theorem mG {idsZ:aQ} (h:b8 idsZ=true) :k7 idsZ:=fun _ _ _ h1 g=>DS h h1 g
theorem pT:∀ {a b:List Nat},a.Nodup->(∀ x∈a,x∈b)->a.length<=b.length
 | [],_,_,_=>fR _
 | x::a,b,g,h=>by
  rw[u9] at g;have j:=h x V;have o:=pT (b:=b.erase x) g.2 (fun y m=>(Fe (fun e=>g.1 (by rw[<-e];exact m))).2 (h y (by simp[m])));rw[Fa j] at o;have:=Fb j;simp;omega
def mB (idsZ:aQ) (opsZ:List aJ) (out:List Nat) (i:Nat) :Bool:=decide (i∉out)&&gV (out.map (bw idsZ)) (dQ opsZ i)
def hT (idsZ:aQ) (opsZ:List aJ) (out:List Nat) :Option Nat:=(List.range opsZ.length).find? (mB idsZ opsZ out)
def eN (idsZ:aQ) (opsZ:List aJ) :Nat->List Nat
 | 0=>[]
 | k+1=>match hT idsZ opsZ (eN idsZ opsZ k) with | some i=>eN idsZ opsZ k++[i] | none=>eN idsZ opsZ k
def l9 (idsZ:aQ) (opsZ:List aJ) :List Nat:=eN idsZ opsZ opsZ.length
theorem Tz {idsZ:aQ} {opsZ:List aJ} {out:List Nat} {i:Nat} (h:hT idsZ opsZ out=some i) :i<opsZ.length/\i∉out/\∀ p∈dQ opsZ i,p∈out.map (bw idsZ):=by have h1:=List.find?_some h;have g:=MD h;unfold mB at h1;rw[bU,bI] at h1;exact⟨g5.1 g,h1.1,iM h1.2⟩
theorem Ty {idsZ:aQ} {opsZ:List aJ} {out:List Nat} (h:hT idsZ opsZ out=none) {i:Nat} (j:i<opsZ.length) (m:i∉out) :¬ ∀ p∈dQ opsZ i,p∈out.map (bw idsZ):=by intro g;have:=List.find?_eq_none.1 h i (g5.2 j);apply this;unfold mB;rw[bU];exact⟨ca m,ca g⟩
theorem Tw {idsZ:aQ} {opsZ:List aJ} {out:List Nat} {i:Nat} (m:i<opsZ.length) (h:mB idsZ opsZ out i=true) (g:∀ j,j<i->mB idsZ opsZ out j=false) :hT idsZ opsZ out=some i:=by unfold hT;rw[List.find?_range_eq_some];exact⟨h,by simpa using m,fun j o=>by rw[g j o];rfl⟩
theorem Tx {idsZ:aQ} {opsZ:List aJ} {out:List Nat} (g:∀ j,j<opsZ.length->mB idsZ opsZ out j=false) :hT idsZ opsZ out=none:=by unfold hT;rw[List.find?_eq_none];intro j h;rw[g j (g5.1 h)];simp
theorem wS {idsZ:aQ} {opsZ:List aJ} {k i:Nat} (h:hT idsZ opsZ (eN idsZ opsZ k)=some i) :eN idsZ opsZ (k+1)=eN idsZ opsZ k++[i]:=by show (match hT idsZ opsZ (eN idsZ opsZ k) with | some i=>eN idsZ opsZ k++[i] | none=>eN idsZ opsZ k)=_;rw[h]
theorem zt {idsZ:aQ} {opsZ:List aJ} {k:Nat} (h:hT idsZ opsZ (eN idsZ opsZ k)=none) :eN idsZ opsZ (k+1)=eN idsZ opsZ k:=by show (match hT idsZ opsZ (eN idsZ opsZ k) with | some i=>eN idsZ opsZ k++[i] | none=>eN idsZ opsZ k)=_;rw[h]
theorem wR (idsZ:aQ) (opsZ:List aJ) (I:idsZ.length=opsZ.length) (v:k7 idsZ) :∀ k,(eN idsZ opsZ k).Nodup/\(eN idsZ opsZ k).length<=k/\∀ i∈eN idsZ opsZ k,i<opsZ.length/\mr idsZ opsZ i
 | 0=>⟨List.nodup_nil,aN _,fun i G=>by cases G⟩
 | k+1=>by
  obtain⟨h1,O,m⟩:=wR idsZ opsZ I v k;cases h:hT idsZ opsZ (eN idsZ opsZ k) with
  | none=>rw[zt h];exact⟨h1,F,m⟩
  | some i=>
   rw[wS h];obtain⟨B,C,t⟩:=Tz h;refine⟨?_,by simp;omega,fun z o=>?_⟩
   ·rw[Fg];refine⟨h1,V,fun x h y w e=>?_⟩;rw[gd] at w;subst e;rw[w] at h;exact C h
   ·rw[fx,gd] at o;rcases o with o | rfl
    ·exact m z o
    ·have u:∀ g,g<idsZ.length->idsZ[g]?=some (bw idsZ g):=fun g j=>by
      obtain⟨x,h,_⟩:=aP (l:=idsZ) j;rw[h,dI h]
     refine⟨B,.mk z F (fun q p=>?_) fun q p J H=>?_⟩
     ·obtain⟨g,j,rfl⟩:=cC.1 (t q p);exact cJ (u g (by have:=(m g j).1;omega))
     ·obtain⟨g,j,rfl⟩:=cC.1 (t q p);obtain⟨K,D⟩:=m g j;rw[v J g _ H (u g F)];exact D
theorem De {idsZ:aQ} {opsZ:List aJ} {k:Nat} (h:hT idsZ opsZ (eN idsZ opsZ k)=none) :∀ m,eN idsZ opsZ (k+m)=eN idsZ opsZ k
 | 0=>rfl
 | m+1=>by
  have g:=De h m;rw[<-i5,zt (by rw[g];exact h),g]
theorem IY {n:Nat} {l:List Nat} (o:l.Nodup) (m:l.length=n) (h:∀ i∈l,i<n) :∀ i,i<n->i∈l:=by
 intro i j;apply Classical.byContradiction;intro p;have:=pT (a:=i::l) (b:=List.range n) (u9.2 ⟨p,o⟩) (fun x g=>by
  rw[kn] at g;rcases g with rfl | g
  ·exact g5.2 j
  ·exact g5.2 (h x g))
 simp[m] at this;omega
theorem Df {idsZ:aQ} {opsZ:List aJ} (O:idsZ.length=opsZ.length) (I:k7 idsZ) :(l9 idsZ opsZ).length=opsZ.length<->∀ i,i<opsZ.length->mr idsZ opsZ i:=by
 obtain⟨h1,C,q⟩:=wR idsZ opsZ O I opsZ.length;constructor
 ·intro h i j;exact (q i (IY h1 h (fun i j=>(q i j).1) i j)).2
 ·intro h;have H:∀ k,k<=opsZ.length->(eN idsZ opsZ k).length=k\/∃ m,m<=k/\hT idsZ opsZ (eN idsZ opsZ m)=none:=by
   intro k
   induction k with
   | zero=>intro _;exact .inl rfl
   | succ k p=>
    intro hk;rcases p F with g | ⟨m,K,g⟩
    ·cases w:hT idsZ opsZ (eN idsZ opsZ k) with
     | none=>exact .inr ⟨k,F,w⟩
     | some i=>left;rw[wS w];simp[g]
    ·exact .inr ⟨m,F,g⟩
  rcases H opsZ.length (aN _) with g | ⟨m,K,g⟩
  ·exact g
  ·have v:eN idsZ opsZ opsZ.length=eN idsZ opsZ m:=by
    have:=De g (opsZ.length - m)
    rwa [show m+(opsZ.length - m)=opsZ.length by omega] at this
   have G:∀ i,mr idsZ opsZ i->i<opsZ.length->i∈eN idsZ opsZ m:=by
    intro i t
    induction t with
    | mk i j Q t p=>
     intro J;apply Classical.byContradiction;intro P;refine Ty g J P fun B u=>?_
     obtain⟨z,o⟩:=cq.1 (Q B u);exact cC.2 ⟨z,p B u z o (by have:=(aK.1 o).1;omega),dI o⟩
   show (eN idsZ opsZ opsZ.length).length=opsZ.length;rw[v];have D:=pT (a:=List.range opsZ.length) (b:=eN idsZ opsZ m) AY fun i j=>G i (h i (g5.1 j)) (g5.1 j)
   rw[List.length_range] at D;rw[v] at C;omega
theorem QH (g:aV) (j:eT g) (u:b8 g.idsZ.l=true) (x:List B) (o:x.length=32) :aW 287 [cD g,.af (am x)] (.a1 [.i6 (dU g.idsZ.l x),.bool (decide (x∈g.idsZ.l))]):=by apply a8 func287 [];have t:=bM g.idsZ;have w:=im g.opsZ;have h:=cG x;have p:=br o;have m:=z8 g.idsZ j.idsZ j.li x o u;obtain⟨v,q⟩:=al (am x);rw[<-q] at m h p ⊢;simp[cD,bf,p,aH];refine au m (by simp[aq,U.ar,t,h]) ?_;simp;exact aL
def fV (n:Nat) :ag:=[.i6 (n:Int)]
def lk (b:Bool) :ag:=[.bool b]
def cK {alZ:Type} (l:List alZ) :bX alZ:=match l with | []=>none | x::r=>some (x::r)
theorem dj {alZ:Type} (l:List alZ) :(cK l).l=l:=by cases l<;>rfl
theorem nR {alZ:Type} (l:List alZ) :(cK l).isNone=l.isEmpty:=by cases l<;>rfl
def BU (l:bX Nat) :U:=b4 1 fV l
theorem Kt {alZ:Type} (zero:U) (n:Nat) :c3 [zero] n=List.replicate n zero:=by
 rw[w8]
 induction n with
 | zero=>rfl
 | succ n g=>rw[k4,hG,g,k4];rfl
theorem wD {z by_ n:Nat} {k k' : cV} {zero:ag} {l:ad} (g:zero.length=z) (h1:n<9223372036854775808) (m:by_*n<=dk) :
  mO z by_ zero l (.int k (n:Int)) (.int k' (n:Int))=some (.Z z l.length 0 n n (n*z),l++[.q (n*z) (c3 zero n)])/\aE z (l++[.q (n*z) (c3 zero n)]) (.Z z l.length 0 n n (n*z)) l.length (List.replicate n zero):=by
 constructor
 ·have h:(by_:Int)*(n:Int)<=(dk:Int):=by rw[<-Int.natCast_mul];omega
  simp only[mO,fm];rw[ak ⟨F,F,F,h⟩]
 ·refine .Z l.length n n (n*z) (c3 zero n) _ (by rw[eu (aN _)];simp) (by rw[ut,g]) V (fun e j=>by rw[u5 j];exact g) (aN _) (aN _) ?_;rw[aH (by rw[ut,g];omega),w8]
def nr (n:Nat) (out:List Nat) :List Bool:=(List.range n).map fun i=>decide (i∈out)
theorem ys {n:Nat} {out:List Nat} {i:Nat} (h:i<n) :(nr n out)[i]?=some (decide (i∈out)):=by unfold nr;rw[b1,ho h];rfl
theorem vP (n:Nat) (out:List Nat) :(nr n out).length=n:=by simp[nr]
theorem PY {n:Nat} {out:List Nat} {i:Nat} (h:i<n) :(nr n out).set i true=nr n (out++[i]):=by
 apply g3;intro m;by_cases j:m<n
 ·rw[ys j,n0];by_cases g:i=m
  ·subst g;simp[vP,h]
  ·rw[aj g,ys j];simp[Ne.symm g]
 ·rw[dY (by simp[vP];omega),dY (by simp[vP];omega)]
theorem PX (n:Nat) :nr n []=List.replicate n false:=by
 apply g3;intro h;by_cases g:h<n
 ·rw[ys g];simp[g]
 ·rw[dY (by simp[vP];omega),dY (by simp;omega)]
theorem one_cell {cs:ag} {o:Nat} {c:U} (h:(cs.drop o).take 1=[c]) :cs[o]?=some c:=by
 have h1:((cs.drop o).take 1)[0]?=some c:=by rw[h];rfl
 rw[dS F,gy] at h1;exact h1
structure Ny (g:aV) (out:List Nat) (o p t:U) (rest:ad) :Prop where
 ex:∃ h j m,aE 1 (.q 2 (bf g) ::rest) o h (out.map fV)/\aE 32 (.q 2 (bf g) ::rest) p j ((out.map (bw g.idsZ.l)).map am)/\aE 1 (.q 2 (bf g) ::rest) t m ((nr g.opsZ.l.length out).map lk) ∧
  1<=m/\bo t=false/\bo o=out.isEmpty/\bo p=out.isEmpty/\(out=[]\/(1<=h/\1<=j/\h≠j/\h≠m/\j≠m))
theorem Vk (g:aV) (ak:eT g) (bg:g.idsZ.l.length=g.opsZ.l.length) (ap:k7 g.idsZ.l) :aW 125 [cD g] (BU (cK (l9 g.idsZ.l g.opsZ.l))):=by
 apply a8 func125 [cR 0 5++cR 6 7++[[5,12,11,8]]];have aR:dk=140737488355328:=rfl;have cm:=bM g.idsZ;have cn:=im g.opsZ;have aB:bz (.Z 11) (bB g.opsZ)=_:=b6 _;have cv:=ak.ji;obtain⟨bh,bi⟩:=wD (z:=1) (by_:=1) (n:=g.opsZ.l.length) (k:=.i64) (k':=.i64) (zero:=[U.bool false]) (l:=[ao.q 2 (bf g)]) rfl F (by rw[aR];omega);simp only[bf,n3,Kt (alZ:=Nat)] at bh bi;simp[cD,bf,aB,bh];refine wx (fun aT j l=>∃ (k:Nat) (rest:ad),l=.q 2 (bf g) ::rest/\j 1=.ptr 0 0 2/\Ny g (eN g.idsZ.l g.opsZ.l k) (j 3) (j 4) (j 5) rest ∧
  ((j 6=.bool true/\(eN g.idsZ.l g.opsZ.l k).length=k/\aT=g.opsZ.l.length - k+1)\/(j 6=.bool false/\hT g.idsZ.l g.opsZ.l (eN g.idsZ.l g.opsZ.l k)=none/\k<=g.opsZ.l.length/\aT=0))) ?_ (g.opsZ.l.length+1) _ _ ?_
 ·rintro aT j l ⟨k,rest,rfl,w,ag,O⟩;obtain⟨aF,p⟩:∃ v,j 3=v:=⟨_,rfl⟩
  obtain⟨aG,o⟩:∃ v,j 4=v:=⟨_,rfl⟩
  obtain⟨bC,t⟩:∃ v,j 5=v:=⟨_,rfl⟩
  rw[p,o,t] at ag;obtain⟨out,J⟩:=al (eN g.idsZ.l g.opsZ.l k);rw[<-J] at ag O;obtain⟨bk,bS,az⟩:=wR g.idsZ.l g.opsZ.l bg ap k;rw[<-J] at bk bS az;have cx:out.length<=g.opsZ.l.length:=by
   have:=pT (b:=List.range g.opsZ.l.length) bk (fun x I=>g5.2 (az x I).1);simpa using this
  rcases O with ⟨B,hk,rfl⟩ | ⟨B,aQ,cu,rfl⟩
  ·obtain⟨j,rfl⟩:=gv w p o t B;clear w p o t B;simp;refine bx g.opsZ.l.length (fun i j l=>l=.q 2 (bf g) ::rest/\j 1=.ptr 0 0 2/\j 3=aF/\j 4=aG/\j 5=bC/\j 6=.bool false/\j 7=.i6 i/\∀ G,G<i->mB g.idsZ.l g.opsZ.l out G=false) ?_ V;rintro i j l cp ⟨rfl,w,p,o,t,B,a4,O⟩;obtain⟨j,rfl⟩:=m0 w p o t B a4;clear w p o t B a4;by_cases D:i<g.opsZ.l.length
   ·obtain⟨T,bl,bn⟩:=aP D;have a2:=cf (k:=i) F;have bK:bO (.Z 11) (bB g.opsZ) _=_:=c5 bl;obtain⟨u,m,oG,ar,au,ay,W,aD,R,S,aK⟩:=ag;obtain⟨cB,ci,cH,aZ,aI,ch,bE⟩:=ay.q.get (k:=.i64) (i:=i) (e:=lk (decide (i∈out))) (by rw[b1,ys D];rfl);have a0:=one_cell (c:=.bool (decide (i∈out))) (by simpa [lk] using bE);have bp:=au.nM (enc:=am) (xs:=out.map (bw g.idsZ.l)) (fun x=>cG x) (cK (out.map (bw g.idsZ.l))) (by rw[S,nR];simp) (dj _);have bT:c6 (cK (out.map (bw g.idsZ.l))):=fun x I=>by
     rw[dj] at I;obtain⟨bt,bX,rfl⟩:=cC.1 I;obtain⟨y,aC,aS⟩:=aP (l:=g.idsZ.l) (k:=bt) (by have:=(az bt bX).1;omega);rw[dI aC];exact ak.idsZ y aS
    have bc:=zJ (cK (out.map (bw g.idsZ.l))) bT (by rw[dj];simp;omega) T.ax (ak.opsZ T bn).idsZ (ak.opsZ T bn).len;rw[dj] at bc;have bJ:=bM T.ax;have aj:mB g.idsZ.l g.opsZ.l out i=(decide (i∉out)&&gV (out.map (bw g.idsZ.l)) T.ax.l):=by unfold mB;rw[mb bl]
    simp only[bf] at aI ar au ay bp;by_cases aA:i∈out
    ·simp[bf,aB,D,aZ,aI,a0,aA,a2];intro G ap;by_cases aM:G=i
     ·subst aM;rw[aj];simp[aA]
     ·exact O G F
    ·simp[bf,aB,D,aZ,aI,a0,aA,bK,av];refine iC bc (.cons bp (.cons (.same _ bJ) .nil)) rfl ?_;by_cases ai:gV (out.map (bw g.idsZ.l)) T.ax.l=true
     ·rw[ai] at aj;obtain⟨y,aC,aS⟩:=aP (l:=g.idsZ.l) (k:=i) F;have bd:bO (.Z 32) (ah g.idsZ) _=_:=c5 aC;have aq:=br (ak.idsZ y aS);obtain⟨Y,a9⟩:=al (am y);rw[<-a9] at bd aq;have bV:aw (bZ 32 (.int .u8 0)) 0 Y=Y:=cy (by rw[aq];rfl);obtain⟨Q,H⟩:=al (ao.q 2 [ah g.idsZ,bB g.opsZ] ::(rest++[ao.q 1 [U.int IntKind.i64 (i:Int)],ao.q 32 Y]));have bN:Q.length=rest.length+3:=by rw[H];simp
      have aU:aE 1 Q aF u (out.map fV):=by rw[H];exact ar.more _
      have aX:aE 32 Q aG m ((out.map (bw g.idsZ.l)).map am):=by rw[H];exact au.more _
      have b4:aE 1 Q bC oG ((nr g.opsZ.l.length out).map lk):=by rw[H];exact ay.more _
      have bj:out=[]->aF=.ae/\aG=.ae:=fun h=>by rw[h] at R S;exact⟨gm.1 R,gm.1 S⟩
      have cz:oG<rest.length+1:=by
       rcases ay.lt with h | h
       ·rw[h] at aD;cases aD
       ·simpa using h
      obtain⟨u,aU,q1,b5,b8,cE⟩:∃ u,aE 1 Q aF u (out.map fV)/\1<=u/\u≠oG/\(out=[]\/u≠m)/\(u<rest.length+1\/Q.length<=u):=by
       by_cases h:out=[]
       ·have P:=(bj h).1;rw[P,h];exact⟨Q.length,.nil _,F,F,.inl rfl,.inr (aN _)⟩
       ·obtain⟨h1,a5,a6,a7,W⟩:=aK.resolve_left h;refine⟨u,aU,h1,a7,.inr a6,.inl ?_⟩;rcases ar.lt with C | C
        ·rw[C] at R;cases out with
         | nil=>exact bW rfl h
         | cons=>cases R
        ·simpa using C
      obtain⟨bv,K,b0,w,a3,p,o,t,B⟩:=lR (by_:=8) aU (x:=.Z 1 (rest.length+1) 0 1 1 1) (xs:=[fV i]) (by rw[H];simp[cr,fV]) (by simp[fV]) F F (by rw[aR];simp;omega);obtain⟨jm,rfl⟩:∃ jm,b0=ao.q 2 [ah g.idsZ,bB g.opsZ] ::jm:=zo (by rw[o 0 F F,H];rfl);have bI:(ao.q 2 [ah g.idsZ,bB g.opsZ] ::jm)[rest.length+2]?=some (.q 32 Y):=by rw[o (rest.length+2) F F,H];simp
      have cl:(ao.q 2 [ah g.idsZ,bB g.opsZ] ::jm)[rest.length+1]?=some (.q 1 [.i6 (i:Int)]):=by rw[o (rest.length+1) F F,H];simp
      have bY:=b4.frame (l':=ao.q 2 [ah g.idsZ,bB g.opsZ] ::jm) (fun h=>o oG h (Ne.symm b5));rw[H] at w;simp[ai,bd,aq,bV,aH,w];refine bP.bm ?_;simp;have bb:jm[rest.length+1]?=some (.q 32 Y):=by simpa using bI
      refine⟨⟨bb,F,aH F⟩,?_⟩;have bq:bv≠.ae:=fun h=>by have:=(B.1 h).2;cases this
      have cs:K<jm.length+1:=by have:=a3.lt.resolve_left bq;simpa using this
      have aL:1<=K/\K≠oG:=by rcases t with h | h<;>omega
      obtain⟨m,aX,t1,t2,t3,t4⟩:∃ m,aE 32 (ao.q 2 [ah g.idsZ,bB g.opsZ] ::jm) aG m ((out.map (bw g.idsZ.l)).map am)/\1<=m/\m≠oG/\m≠K/\(m<jm.length+1\/jm.length+1<=m):=by
       by_cases h:out=[]
       ·have P:=(bj h).2;rw[P,h];simp at p;exact⟨jm.length+1,.nil _,F,F,F,.inr (aN _)⟩
       ·obtain⟨h1,a5,a6,a7,W⟩:=aK.resolve_left h;have ck:m<rest.length+1:=by
         rcases au.lt with C | C
         ·rw[C] at S;cases out with
          | nil=>exact bW rfl h
          | cons=>cases S
         ·simpa using C
        have bH:=b8.resolve_left h;refine⟨m,aX.frame (fun h=>o m h (Ne.symm bH)),a5,W,by rcases t with h | h<;>omega,.inl (by simp at p;omega)⟩
      obtain⟨bA,qJ,b2,f1,f2,f3,f4,f5,f6⟩:=lR (by_:=32) aX (x:=.Z 32 (rest.length+1+1) 0 1 1 32) (xs:=[Y]) (by simp[cr,aq,bb,aH]) (by simp[aq]) F F (by rw[aR];simp;omega);obtain⟨w0,rfl⟩:∃ w0,b2=ao.q 2 [ah g.idsZ,bB g.opsZ] ::w0:=zo (by rw[f4 0 V F];rfl);have bs:bA≠.ae:=fun h=>by have:=(f6.1 h).2;cases this
      have ct:qJ<w0.length+1:=by have:=f2.lt.resolve_left bs;simpa using this
      have cc:=a3.frame (l':=ao.q 2 [ah g.idsZ,bB g.opsZ] ::w0) (fun h=>f4 K h (Ne.symm t3));have cd:=bY.frame (l':=ao.q 2 [ah g.idsZ,bB g.opsZ] ::w0) (fun h=>f4 oG h (Ne.symm t2));obtain⟨cA,b3,b9,ca,cb,cF,aY⟩:=zw (k:=i) (x:=true) (X:=.bool true) (enc:=lk) rfl cd (fun _ _=>rfl) (by rw[vP];exact D) rfl;simp[f1];refine bP.bm ?_;simp[b9,ca];have aJ:qJ=m\/jm.length+1<=qJ:=by simpa using f5
      have cj:rest.length+3<=jm.length+1:=by rw[bN] at p;simpa using p
      have ce:1<=qJ:=by rcases aJ with h | h<;>omega
      have bD:qJ≠oG:=by rcases aJ with h | h<;>omega
      have cg:K≠qJ:=by rcases aJ with h | h<;>omega
      obtain⟨Dx,rfl⟩:∃ Dx,b3=ao.q 2 [ah g.idsZ,bB g.opsZ] ::Dx:=zo (by rw[aY 0 F];rfl);have bR:hT g.idsZ.l g.opsZ.l out=some i:=Tw D (by rw[aj];simp[aA]) O;have aO:eN g.idsZ.l g.opsZ.l (k+1)=out++[i]:=by rw[wS (by rw[<-J];exact bR),<-J]
      have cw:k<g.opsZ.l.length:=by
       have C:=(wR g.idsZ.l g.opsZ.l bg ap (k+1)).1;rw[aO] at C;have:=pT (b:=List.range g.opsZ.l.length) C (fun x I=>g5.2 (by
        rw[fx,gd] at I;rcases I with I | rfl
        ·exact (az x I).1
        ·exact D))
       simp at this;omega
      have bF:(out++[i]).map fV=out.map fV++[fV i]:=V;have bG:((out++[i]).map (bw g.idsZ.l)).map am=(out.map (bw g.idsZ.l)).map am++[Y]:=by
       have bL:bw g.idsZ.l i=y:=dI aC;rw[cS,cS,List.map_singleton,List.map_singleton,bL,a9]
      refine⟨g.opsZ.l.length - (k+1)+1,F,k+1,Dx,rfl,?_,by rw[aO];simp[hk],rfl⟩;rw[aO];refine⟨⟨K,qJ,oG,?_,?_,?_,W,aD,?_,?_,.inr ⟨aL.1,ce,cg,aL.2,bD⟩⟩⟩
      ·rw[bF];exact cc.frame (fun h=>aY K aL.2)
      ·rw[bG];exact f2.frame (fun h=>aY qJ bD)
      ·rw[<-PY D];exact cb
      ·cases P:bo bv with
       | true=>exact bW (gm.1 P) bq
       | false=>simp
      ·cases P:bo bA with
       | true=>exact bW (gm.1 P) bs
       | false=>simp
     ·rw[xF] at ai;rw[ai] at aj;simp[ai,D,a2];refine⟨rfl,fun G ap=>?_⟩;by_cases aM:G=i
      ·subst aM;rw[aj];simp
      ·exact O G F
   ·have cq:i=g.opsZ.l.length:=F;simp[bf,aB,D];have aQ:hT g.idsZ.l g.opsZ.l out=none:=Tx fun G ap=>O G F
    refine⟨0,F,k,by rw[<-J];exact ag,by rw[<-J];exact aQ,F,rfl⟩
  ·obtain⟨j,rfl⟩:=gv w p o t B;clear w p o t B;simp;obtain⟨u,m,oG,ar,au,ay,W,aD,R,S,aK⟩:=ag;have bU:l9 g.idsZ.l g.opsZ.l=out:=by
    unfold l9;have:=De (k:=k) (by rw[<-J];exact aQ) (g.opsZ.l.length - k);rw[show k+(g.opsZ.l.length - k)=g.opsZ.l.length by omega,<-J] at this;exact this
   rw[bU];exact ar.q.gG (fun x=>rfl) (cK out) (by rw[R,nR]) (dj _)
 ·refine⟨0,_,rfl,V,?_,.inl ⟨V,rfl,rfl⟩⟩;simp;refine⟨⟨0,0,1,.nil 0,.nil 0,?_,F,rfl,rfl,rfl,.inl rfl⟩⟩;show aE _ _ _ _ ((nr g.opsZ.l.length []).map lk);have:(nr g.opsZ.l.length []).map lk=List.replicate g.opsZ.l.length [U.bool false]:=by rw[PX,AW];rfl
  rw[this];exact bi
end Op
end Go.bl

/-
  A stage takes a finding, in the reference (plain).
-/
import Derived.Test.YtdjbnhgdhambnaaGreatDoorXn
set_option maxHeartbeats 16000000
set_option maxRecDepth 100000
set_option linter.unusedVariables false
set_option linter.unusedSimpArgs false
set_option linter.unnecessarySimpa false
namespace Go.bf
open Go Go.Proofs Go.Proofs.Tryz
namespace Op
open b8 bm
theorem WX {s:bl} (g:jZ s) {j:cx} (u:j.aA=s.b4) :oO (eG s) [gp j]:=by have m:(eG s).pl.l=s.pl.l:=iV _;obtain⟨z,t⟩:=mG g.pen;obtain⟨v,q,w⟩:=(m9 s.pl.l).1 t;refine⟨V,by rw[m];exact q.imp fun h e=>F,fun x p y o=>?_⟩;rw[fO.1 p];rw[m] at o;have:=(g.ke y o).1;show j.aA≠y.aA;omega
open b8 bm
structure s8 (s:bl) :Prop where
 aL:E4 s.aL
 pl:∀ t∈s.pl.l,vd t
theorem W8 {ts:List aC} {cs:ag} (h:jt prog (32::ts) cs) :∃ (s:bl) (cs' : ag),cs=.ah (bx s) ::cs'/\s8 s/\jt prog ts cs':=by
 obtain⟨c,cs',rfl,h1,B⟩:=Lu h;obtain⟨cs,rfl,g⟩:=W9 bd h1;have j:=nv (fs:=[27,30,3,4]) bd g;have j:=nv (fs:=[3,25,23]) bd j;obtain⟨n,_,rfl,_,_,C⟩:=nu (k:=.i64) bd j;have D:=nv (fs:=[22,23,3]) bd C;obtain⟨S,_,rfl,_,O,F⟩:=w6 (e:=70) (z:=2) (enc:=bb) (Q:=xH) bd bd (fun r m=>by
  obtain⟨x,_,rfl,o,g⟩:=Xe m;rw[sv g,eb];exact⟨x,rfl,o⟩) D
 obtain⟨i,_,rfl,I,G⟩:=w5 F;obtain⟨T,_,rfl,_,_,H⟩:=nu (k:=.i64) bd G;obtain⟨R,_,rfl,K,p⟩:=w5 H;have q:=nv (fs:=[3,28]) bd p;obtain⟨c,_,rfl,_,_,t⟩:=nu (k:=.i64) bd q;obtain⟨l,_,rfl,_,J,u⟩:=w6 (e:=94) (z:=45) (enc:=aX) (Q:=vd) bd bd (fun r m=>by
  obtain⟨x,_,rfl,o,g⟩:=Xg m;rw[sv g,eb];exact⟨x,rfl,o⟩) t
 obtain⟨P,_,rfl,_,_,v⟩:=nu (k:=.i64) bd u;obtain⟨b,_,rfl,w⟩:=Xd bd v;rw[sv w];exact⟨⟨⟨n,⟨S,i,T⟩,R⟩,c,l,P,b⟩,cs',rfl,⟨⟨O,I,K⟩,J⟩,B⟩
structure p5 (j:cx) :Prop where
 op:vc j.op
 id:j.id.length=32
theorem Xf {ts:List aC} {cs:ag} (h:cW prog (59::ts) cs) :∃ (j:cx) (cs' : ag),cs=dy j++cs'/\p5 j/\cW prog ts cs':=by have h1:=nv (fs:=[3,5,55,57]) bd h;obtain⟨n,_,rfl,_,_,g⟩:=nu (k:=.i64) bd h1;obtain⟨v,_,rfl,p⟩:=Ea g;obtain⟨u,_,rfl,q,m⟩:=D8 p;obtain⟨x,cs',rfl,t,o⟩:=D7 m;exact⟨⟨n,v,u,x⟩,cs',by simp[dy,ao],⟨q,t⟩,o⟩
theorem W6 {ts:List aC} {cs:ag} (h:jt prog (33::ts) cs) :∃ (s:bH cx) (cs' : ag),cs=hZ s::cs'/\(∀ t∈s.l,p5 t)/\jt prog ts cs':=by
 obtain⟨c,cs',rfl,h1,m⟩:=Lu h;obtain⟨s,v,g,_,p,j⟩:=w6 (e:=59) (z:=45) (enc:=dy) (Q:=p5) bd bd (fun r q=>by
  obtain⟨x,_,rfl,u,j⟩:=Xf q;rw[sv j,eb];exact⟨x,rfl,u⟩) (Xa bd h1)
 have o:=sv j;rw[o] at g;injection g with g _
 exact⟨s,cs',by rw[g];rfl,p,m⟩
theorem Tq {j:cx} (h:p5 j) (g:lF j.op=false) :hr j:=by unfold lF at g;simp only[pR,decide_eq_false_iff_not] at g;exact⟨⟨h.op.idsZ,F,⟨h.op.hy,h.op.qy,F⟩,F⟩,h.id⟩
open b8 bm
def rO (s:bl) :Bool:=rP s.aL||na s.pl.l
theorem Pc (s:bl) (u:s8 s) :aV 9 [.ah (bx s)] (.bool (rO s)):=by
 apply a8 func9 [];have q:=Ut s.aL;have t:=UC s.cr s.pl u.pl;have g:=iN s;have o:=mi s.aL;have m:ar (b1 s.cr s.pl)=true:=by simp[b1,ar,U.ax,jw]
 have p:rO s=(rP s.aL||na s.pl.l):=rfl;obtain⟨z,j⟩:=aq (bx s);rw[<-j] at g ⊢;obtain⟨h,B,w,v,_⟩:=g;simp[h,w];refine av q (by simp[ar,U.ax,o]) ?_;rw[p];cases h1:rP s.aL with
 | true=>
  simp;exact aG
 | false=>
  simp[h,v];refine av t (by simp[ar,U.ax,m]) ?_;simp;exact aG
theorem IP {s:bl} (h:s8 s) (g:rO s=false) :fQ s:=by unfold rO at g;rw[pR] at g;obtain⟨h1,o⟩:=TN g.2;exact⟨Tu h.aL g.1,fun m j=>Tt (h.pl m j) (o m j),F⟩
def oe (l:List cx) :Bool:=decide (∃ g∈l.take 71,lF g.op=true)||(decide (12<l.length/\l.length<=60)||decide (70<l.length))
structure ME (s:bH cx) (k:Nat) (sgZ:aP) (l:ae) :Prop where
 n3:l=[]
 kS:sgZ 0=hZ s
 i9:sgZ 3=.i6 k
 jC:∀ (j:Nat) (t:cx),j<k->s.l[j]?=some t->lF t.op=false
theorem Pe (s:bH cx) (X:∀ t∈s.l,p5 t) :aV 10 [hZ s] (.bool (oe s.l)):=by
 apply a8 func10 [];have q:bt (.ad 45) (hZ s)=_:=ca _;simp;refine bw (min s.l.length 71) (ME s) ?_ ⟨rfl,V,V,fun g t h=>F⟩;rintro k Z l hk ⟨rfl,C,D,z⟩;obtain⟨Z,rfl⟩:=jP C D;clear C D;have done:∀ (H:∀ (g:Nat) (t:cx),g<min s.l.length 71->s.l[g]?=some t->lF t.op=false),oe s.l=(decide (12<s.l.length/\s.l.length<=60)||decide (70<s.l.length)):=fun H=>by
  unfold oe;rw[cp,Ac];rintro⟨t,j,K⟩;obtain⟨g,p⟩:=cc.1 j;have W:=(aH.1 p).1;rw[cI] at W;rw[dG F] at p;rw[H g t F p] at K;cases K
 by_cases h:k<s.l.length
 ·have h' : (k:Int)<(s.l.length:Int):=F;by_cases ai:k<=70
  ·have v:(k:Int)<=70:=F;obtain⟨y,B,Y⟩:=aQ (l:=s.l) (k:=k) h;have G:(dy y).length=45:=by unfold dy au;simp[br (X y Y).id]
   have w:((dy y).drop 2).take 11=au y.op:=by unfold dy au;simp
   have J:bF (.ad 45) (hZ s) _=_:=c6 B;have Q:=cl (k:=k) F;have P:=JL y.op;have I:=dN y.op;obtain⟨ag,S⟩:=aq (dy y);obtain⟨ae,R⟩:=aq (au y.op);rw[<-S] at G J w;rw[<-R] at w P I;simp[q,h',v,J,G,w];refine av P (by simp[ar,U.ax,I]) ?_;cases O:lF y.op with
   | true=>
    have T:oe s.l=true:=by
     unfold oe;rw[bW (⟨y,cc.2 ⟨k,by rw[dG F];exact B⟩,O⟩:∃ t∈s.l.take 71,lF t.op=true)];rfl
    rw[T];simp;exact aG
   | false=>
    simp[Q];refine⟨F,rfl,V,V,fun g t p j=>?_⟩;by_cases e:g=k
    ·subst e;rw[B] at j;obtain rfl:=cd j;exact O
    ·exact z g t F j
  ·have v:¬ (k:Int)<=70:=F;rw[done fun g t p j=>z g t F j];have m:(12:Int)<(s.l.length:Int):=F;have u:¬ (s.l.length:Int)<=60:=F;have o:(70:Int)<(s.l.length:Int):=F;simp[q,h',v,m,u,o];exact aR (by rw[bW (show 70<s.l.length by omega),Bool.or_true]) rfl
 ·have h' : ¬ (k:Int)<(s.l.length:Int):=F;rw[done fun g t p j=>z g t F j];by_cases m:(12:Int)<(s.l.length:Int)
  ·by_cases u:(s.l.length:Int)<=60
   ·simp[q,h',m,u];exact aR (by rw[bW (show 12<s.l.length by omega),bW (show s.l.length<=60 by omega)];rfl) rfl
   ·by_cases o:(70:Int)<(s.l.length:Int)
    ·simp[q,h',m,u,o];exact aR (by rw[bW (show 70<s.l.length by omega),Bool.or_true]) rfl
    ·simp[q,h',m,u,o];exact aR (by simp[show ¬ s.l.length<=60 by omega,show ¬ 70<s.l.length by omega]) rfl
  ·have o:¬ (70:Int)<(s.l.length:Int):=F;simp[q,h',m,o];exact aR (by simp[show ¬ 12<s.l.length by omega,show ¬ 70<s.l.length by omega]) rfl
theorem RV {l:List cx} (h:oe l=false) :l.length<=70/\∀ j∈l,lF j.op=false:=by unfold oe at h;rw[pR,pR,decide_eq_false_iff_not,decide_eq_false_iff_not,decide_eq_false_iff_not] at h;refine⟨F,fun j m=>?_⟩;rw[aI F] at h;exact pQ.2 fun g=>h.1 ⟨j,m,g⟩
theorem H3:my prog 20 86=some (.i .i64::.i .u8::List.replicate 32 (.i .u8)):=bd
theorem VA {a b:cZ} (g:a.id.length=32) (h:b.id.length=32) :dP prog .neq 86 (.ah (ch a)) (.ah (ch b))=some (.bool (!(decide (a.aA=b.aA)&&(decide (a.ct=b.ct)&&decide (a.id=b.id))))):=by
 have m:gv (.i .i64::.i .u8::List.replicate 32 (.i .u8)) (ch a)=true:=by
  have:=qF a.id;rw[g] at this;exact this
 have o:gv (.i .i64::.i .u8::List.replicate 32 (.i .u8)) (ch b)=true:=by
  have:=qF b.id;rw[h] at this;exact this
 rw[AV H3 bd bd m o];have j:=vi a.id b.id F;have:dn (ch a) (ch b)=(decide (a.aA=b.aA)&&(decide (a.ct=b.ct)&&dn (ao a.id) (ao b.id))):=by
  simp[ch,dn,U.beq]
 rw[this];unfold ao;rw[j]
instance Y8:DecidableEq cZ:=fun a b=>decidable_of_iff (a.aA=b.aA/\a.ct=b.ct/\a.id=b.id) ⟨fun ⟨h1,g,j⟩=>by cases a;cases b;simp_all,fun h=>by subst h;exact⟨rfl,rfl,rfl⟩⟩
theorem VB (a b:cZ) :(decide (a.aA=b.aA)&&(decide (a.ct=b.ct)&&decide (a.id=b.id)))=decide (a=b):=by rw[xi];simp only[bN,bI];exact⟨fun ⟨h1,g,j⟩=>by cases a;cases b;simp_all,fun h=>by subst h;exact⟨rfl,rfl,rfl⟩⟩
structure MI (a b:bH cZ) (k:Nat) (sgZ:aP) (l:ae) :Prop where
 n3:l=[]
 kS:sgZ 0=fG a
 e7:sgZ 1=fG b
 ja:sgZ 5=.i6 k
 jC:∀ j,j<k->a.l[j]?=b.l[j]?
def CA (s:bH cZ) :Prop:=(∀ r∈s.l,r.id.length=32)/\s.l.length<=1000000
theorem Pg (a b:bH cZ) (v:CA a) (H:CA b) :aV 15 [fG a,fG b] (.bool (decide (a.l=b.l))):=by
 apply a8 func15 [];have m:bt (.ad 34) (fG a)=_:=ca _;have I:bt (.ad 34) (fG b)=_:=ca _;have Y:=v.2;by_cases h1:a.l.length=b.l.length
 ·have q:(a.l.length:Int)=(b.l.length:Int):=F;simp[m,I,q];refine bw a.l.length (MI a b) ?_ ⟨rfl,V,V,V,fun j h=>F⟩;rintro k U l hk ⟨rfl,C,D,G,J⟩;obtain⟨U,rfl⟩:=gj C D G;clear C D G;by_cases o:k<a.l.length
  ·obtain⟨x,p,K⟩:=aQ o;obtain⟨y,B,O⟩:=aQ (l:=b.l) (k:=k) F;have P:=cl (k:=k) F;have w:bF (.ad 34) (fG a) _=_:=c6 p;have z:bF (.ad 34) (fG b) _=_:=c6 B;have t:(ch x).length=34:=by simp[ch,br (v.1 x K)]
   have u:(ch y).length=34:=by simp[ch,br (H.1 y O)]
   have g:=VA (v.1 x K) (H.1 y O);rw[VB] at g;obtain⟨W,R⟩:=aq (ch x);obtain⟨X,S⟩:=aq (ch y);rw[<-R] at t w g;rw[<-S] at u z g;by_cases e:x=y
   ·rw[bW e] at g;simp[m,o,w,z,t,u,g,P,aI];refine⟨rfl,V,V,V,fun j T=>?_⟩;by_cases Q:j=k
    ·subst Q;rw[p,B,e]
    ·exact J j F
   ·rw[cp e] at g;simp[m,o,w,z,t,u,g,aI];refine aR ?_ rfl;rw[cp];intro h;rw[h,B] at p;exact e (cd p).symm
  ·have Z:k=a.l.length:=F;simp[m,o];refine aR ?_ rfl;rw[bW];apply g7;intro j;by_cases T:j<a.l.length
   ·exact J j F
   ·rw[dV F,dV F]
 ·have q:¬ (a.l.length:Int)=(b.l.length:Int):=F;simp[m,I,q];exact aR (by rw[cp fun h=>h1 (by rw[h])]) rfl
end Op
namespace Op
open b8
def km (x:D) (m:List B) :D:=(qo (110#8::(hf [x]++m)) % 500000002#64).setWidth 32+1#32
theorem Vh (x:Q) :cn .rem .u64 (u x) .u64 500000002=some (.int .u64 (u (x % 500000002#64))):=ru x 500000002#64 (by decide)
theorem Uz (x:D) (m:dI) (H:m.l.length<=900000) :aV 193 [a1 x,b9 m] (a1 (km x m.l)):=by
 apply a8 func193 [];have j:=dw;have G:=iL m;simp;refine BD x fun w v h1=>?_
 have u:b7 1 bL [] v (.ad 1 0 0 1 1 1) [110#8] false:=⟨0,k2 (n:=1) (a:=[110#8]) rfl (by rw[h1.same 0 V];rfl),V,V,.inr V,rfl⟩
 obtain⟨K,I,o,p,z⟩:=u.app (by_:=1) (x:=w) (xs:=fH x) h1.contents (fun _ _=>rfl) F F (by rw[j];simp[fH]);simp[o];refine bY.bo ?_;obtain⟨O,J,q,t,C⟩:=p.app (by_:=1) (x:=b9 m) (xs:=m.l) (Bf _ _) (fun _ _=>rfl) F F (by rw[j];simp[fH];omega);simp[q];refine bY.bo ?_;have g:(bH.l (some ([110#8]++fH x++m.l)) :List B)=110#8::(hf [x]++m.l):=by simp[hf]
 have h:=IE (some ([110#8]++fH x++m.l)) (by rw[g];simp[hf,fH];omega);rw[g] at h;simp;refine g0 h (.cons (t.mH (fun _=>rfl) (some ([110#8]++fH x++m.l)) V rfl) .nil) rfl ?_;simp[Vh];exact aG
def qP (a b:D) :D:=BitVec.ofNat 32 (a.toNat*b.toNat % 500000003)
def sp (a b:D) :D:=BitVec.ofNat 32 ((a.toNat+b.toNat) % 500000003)
theorem UI (a b:D) :aV 196 [a1 a,a1 b] (a1 (qP a b)):=by
 apply a8 func196 [];have g:∀ a:D,(a.setWidth 64:Q).toNat=a.toNat:=fun a=>by rw[eH];omega
 have h:((a.setWidth 64:Q)*b.setWidth 64 % 500000003#64).setWidth 32=qP a b:=by
  have j:=a.isLt;have o:=b.isLt;have m:a.toNat*b.toNat<2 ^ 64:=l8 (Nat.mul_lt_mul'' j o) (by decide);apply eC;rw[eH,jR,sL,g,g,dH m];unfold qP;rw[e3];rfl
 simp[zj,h];exact aG
theorem US (a b:D) :aV 195 [a1 a,a1 b] (a1 (sp a b)):=by
 apply a8 func195 [];have g:∀ a:D,(a.setWidth 64:Q).toNat=a.toNat:=fun a=>by rw[eH];omega
 have h:(((a.setWidth 64:Q)+b.setWidth 64) % 500000003#64).setWidth 32=sp a b:=by
  have j:=a.isLt;have m:=b.isLt;apply eC;rw[eH,jR,xh,g,g,dH (a:=a.toNat+b.toNat) F];unfold sp;rw[e3];rfl
 simp[zj,h];exact aG
def jL (x:D) (m:List B) :D:=oV (dK 4#32 (km x m).toNat) (dK 4#32 x.toNat) m
def k8 (x:D) (m:List B) :D:=sp (km x m) (qP (jL x m) x)
theorem UK (x:D) (m:dI) (h:m.l.length<=900000) :aV 133 [a1 x,b9 m] (.ah [a1 (jL x m.l),a1 (k8 x m.l)]):=by apply a8 func133 [];have g:=iL m;simp;refine av (Uz x m h) (by simp[ar,U.ax,g]) ?_;simp;refine av (ze (km x m.l)) rfl ?_;simp;refine av (ze x) rfl ?_;simp;refine av (JK (dK 4#32 (km x m.l).toNat) (dK 4#32 x.toNat) m h) (by simp[ar,U.ax,g]) ?_;simp;refine av (UI (jL x m.l) x) rfl ?_;simp;refine av (US (km x m.l) (qP (jL x m.l) x)) rfl ?_;simp[aw];exact aG
def DA (x:D) :Bool:=decide (1<=x.toNat)&&decide (x.toNat<500000003)
theorem UJ (x:D) :aV 129 [a1 x] (.i6 (if DA x then 0 else 2)):=by
 apply a8 func129 [];unfold DA;have m:(x.setWidth 64:Q).toNat=x.toNat:=by rw[eH];omega
 by_cases o:x.toNat=0
 ·have p:x=0#32:=eC o;subst p;simp;exact aG
 ·have h1:¬ (u x:Int)=0:=by unfold u;omega
  by_cases j:x.toNat<500000003
  ·have g:¬ (500000003:Int)<=u (x.setWidth 64:Q):=by unfold u;rw[m];omega
   simp[h1,g];exact aR (by rw[aj ⟨F,j⟩]) rfl
  ·have g:(500000003:Int)<=u (x.setWidth 64:Q):=by unfold u;rw[m];omega
   simp[h1,g];exact aR (by rw[ak fun h=>j h.2]) rfl
def dO (x:D) (o:aM) :aM:={ o with dW:=dK 4#32 x.toNat,ay:=some o.ay.l,e:=0#32,s:=0#32 }
def fx (x:D) (o:aM) :aM:={ dO x o with e:=jL x (ev (dO x o)),s:=k8 x (ev (dO x o)) }
theorem Um (o:aM) :aV 131 [.ah (au o)] (.ah (au (dX o))):=by apply a8 func131 [];have g:=dN (dX o);simp[au,aw];exact aR rfl (by simpa [U.ax,dX,au] using g)
theorem UN (x:D) (o:aM) (g:dv o) (al:DA x=true) (m:c4 (dO x o)=0) :aV 83 [a1 x,.ah (au o)] (.aZ [.ah (au (fx x o)),.i6 0]):=by
 apply a8 func83 [];have B:=UJ x;rw[al] at B;have W:(au o).length=11:=rfl;have X:(au o).take 11=au o:=rfl;have T:=dN o;have K:dv (dX o):=⟨g.idsZ,g.len,g.val,g.key⟩
 have u:dv (dO x o):=⟨g.idsZ,g.len,g.val,g.key⟩
 have J:=Um o;have ak:=JP (dX o) K;have R:=ze x;have z:=C5 (dO x o) u;rw[m] at z;have O:=dN (dX o);have Q:=dN (dO x o);have P:=dN (fx x o);obtain⟨ap,ay⟩:=CB u.idsZ m;have Y:=UK x (some (ev (dO x o))) (by show (ev _).length<=_;omega);have aq:=pq m;have S:(au (dX o)).length=11:=rfl;have p:(au (dU (dX o))).length=11:=rfl;have t:(au (dO x o)).length=11:=rfl;have ae:(au (dX o)).take 11=au (dX o):=rfl;have ai:(au (dU (dX o))).take 11=au (dU (dX o)):=rfl;have C:(au (dO x o)).take 11=au (dO x o):=rfl;have G:∀ L:ag,L.length=11->aw [U.int .u32 0,.af,.int .u64 0,.int .u8 0,.str [],.int .u8 0,.i6 0,.int .u64 0,.str [],.int .u32 0,.int .u32 0] 0 L=L:=fun L h=>cH (by rw[h];rfl)
 have I:aw (au (dU (dX o))) 0 [a1 (dK 4#32 x.toNat)]=au (dO x o):=rfl;have Z:aw (au (dO x o)) 9 [a1 (jL x (ev (dO x o))),a1 (k8 x (ev (dO x o)))]=au (fx x o):=rfl;simp;refine av B rfl ?_;simp[W,X];refine av J (by simp[ar,U.ax,T]) ?_;simp[S,ae];refine av ak (by simp[ar,U.ax,O]) ?_;simp[p,ai,G _ p];refine av R rfl ?_;simp[p,I,t,C];refine av z (by simp[ar,U.ax,Q]) ?_;simp[t,C];refine C8 (dO x o) u F fun w j h=>?_
 have v:j[2]?=some (.q 11 (au (dO x o))):=by rw[h.same 2 V];rfl
 have H:j[1]?=some (.q 11 [.int .u32 0,.af,.int .u64 0,.int .u8 0,.str [],.int .u8 0,.i6 0,.int .u64 0,.str [],.int .u32 0,.int .u32 0]):=by rw[h.same 1 V];rfl
 simp[v];refine g0 Y (.cons (.same _ rfl) (.cons (h.mH (fun _=>rfl) (some (ev (dO x o))) rfl rfl) .nil)) rfl ?_;have q1:(j.set 2 (.q 11 (au (fx x o))))[2]?=some (.q 11 (au (fx x o))):=bT (aY v);have ft:(au (fx x o)).length=11:=rfl;have aj:(au (fx x o)).take 11=au (fx x o):=rfl;have ao:∀ c:am,((j.set 2 (.q 11 (au (fx x o)))).set 1 c)[1]?=some c:=fun c=>bT (by simpa using aY H)
 simp[v,H,t,Z,q1,ft,aj,G _ ft,ao];exact aR rfl (show (U.aZ [.ah (au (fx x o)),.i6 0]).ax=true by simp[U.ax,ar,P])
theorem Jj (n:Nat) :eh 4 n=eh 4 (n % 500000003):=by
 have h:n=500000003*(n / 500000003)+n % 500000003:=(Nat.div_add_mod n 500000003).symm
 conv=>lhs;rw[h]
 rw[CT,<-ud,AR,CU,sY,dH (pw _ _)]
theorem SZ (x:D) (m:List B) :(km x m).toNat<500000003:=by
 unfold km;have h:(qo (110#8::(hf [x]++m)) % 500000002#64).toNat<500000002:=by
  rw[jR];exact iG _ (by decide)
 rw[xh,eH];have h1:(1#32:D).toNat=1:=rfl;rw[h1];omega
theorem A6 (r y:D) (m:List B) :(oV r y m).toNat<500000003:=by unfold oV;rw[eH,jR];have h:(qo (99#8::(hf [r,y]++m))).toNat % (500000003#64).toNat<500000003:=iG _ (by decide);omega
theorem DV (a b:D) :(sp a b).toNat=(a.toNat+b.toNat) % 500000003:=by unfold sp;rw[e3];have:=iG (a.toNat+b.toNat) (show 0<500000003 by decide);omega
theorem VQ (a b:D) :(qP a b).toNat=a.toNat*b.toNat % 500000003:=by unfold qP;rw[e3];have:=iG (a.toNat*b.toNat) (show 0<500000003 by decide);omega
theorem UV (x:D) (m:List B) :sb (dK 4#32 x.toNat) (jL x m) (k8 x m)=dK 4#32 (km x m).toNat:=by
 have q:(4#32:D).toNat=4:=rfl;have h:=A6 (dK 4#32 (km x m).toNat) (dK 4#32 x.toNat) m;change (jL x m).toNat<_ at h;have g:(k8 x m).toNat=((km x m).toNat+(jL x m).toNat*x.toNat % 500000003) % 500000003:=by
  unfold k8;rw[DV,VQ]
 have hk:=SZ x m;apply eC;unfold sb uf;rw[e3,k4,k4,k4,k4,q,ud,<-CT];obtain⟨k,v⟩:=aq ((km x m).toNat);obtain⟨e,u⟩:=aq ((jL x m).toNat);obtain⟨n,w⟩:=aq (x.toNat);rw[<-v] at g hk ⊢;rw[<-u] at g h ⊢;rw[<-w] at g ⊢;have z:=pw 4 ((k8 x m).toNat+n*(500000003 - e));rw[dH F];rw[Jj,Jj k,g];congr 1;obtain⟨d,t⟩:∃ d,500000003=e+d:=⟨500000003 - e,F⟩
 have j:500000003 - e=d:=F;rw[j,Nat.mod_add_mod];have o:(k+e*n % 500000003+n*d) % 500000003=(k+(e*n+n*d)) % 500000003:=by
  rw[show k+e*n % 500000003+n*d=e*n % 500000003+(k+n*d) by omega,Nat.mod_add_mod];congr 1;omega
 have p:e*n+n*d=n*500000003:=by rw[xy e n,<-Nat.mul_add,<-t]
 rw[o,p,Nat.add_mul_mod_self_right]
theorem V2 (x:D) (o:aM) :wV (fx x o)=true:=by
 have h:ev (fx x o)=ev (dO x o):=rfl;have h1:eL (jL x (ev (dO x o)))=true:=by unfold eL;exact bW (A6 _ _ _)
 have g:eL (k8 x (ev (dO x o)))=true:=by
  unfold eL;refine bW ?_;unfold k8;rw[DV];exact iG _ (by decide)
 unfold wV;rw[h];show sk (dK 4#32 x.toNat) (ev (dO x o)) (jL x (ev (dO x o))) (k8 x (ev (dO x o)))=true;unfold sk;rw[h1,g,UV];exact bW rfl
theorem KC {x:D} {o:aM} (h:c4 (dO x o)=0) :c4 (fx x o)=0:=by
 have h1:eL (jL x (ev (dO x o)))=true:=by unfold eL;exact bW (A6 _ _ _)
 have j:eL (k8 x (ev (dO x o)))=true:=by
  unfold eL;refine bW ?_;unfold k8;rw[DV];exact iG _ (by decide)
 have u:(fx x o).ay=(dO x o).ay:=rfl;have q:mm (dO x o)=(eE (dO x o).dW&&(decide ((dO x o).eP.toNat<=1000000000000)&&(hv (dO x o).act&&(eL (dO x o).e&&eL (dO x o).s)))):=rfl;have t:mm (fx x o)=(eE (dO x o).dW&&(decide ((dO x o).eP.toNat<=1000000000000)&&(hv (dO x o).act&&(eL (jL x (ev (dO x o)))&&eL (k8 x (ev (dO x o))))))):=rfl;unfold c4 at h ⊢;rw[u];split at h
 ·cases h
 ·rename_i m;rw[ak m];split at h
  ·rename_i p;rw[aj p];split at h
   ·rename_i g;rw[q] at g;simp only[bN] at g;rw[t,h1,j,g.1,g.2.1,g.2.2.1];rfl
   ·cases h
  ·cases h
theorem V3 {x:D} {o:aM} (h:c4 (dO x o)=0) :fk (fx x o)=0:=by unfold fk;rw[aj (KC h),V2,aj rfl]
def wG (n:Nat) :D:=BitVec.ofNat 32 (wF 4 n 64)
theorem CS {n:Nat} (h:n<2 ^ 64) :dK 4#32 n=wG n:=by unfold dK wG;rw[CR 4 n h 64 (aF _)];rw[show n / 2 ^ (64 - 64)=n from Nat.div_one n];rfl
def zy (x:D) (m:List B) :D:=oV (wG (km x m).toNat) (wG x.toNat) m
theorem VY (x:D) (m:List B) :jL x m=zy x m:=by unfold jL zy;rw[CS (by have:=(km x m).isLt;omega),CS (by have:=x.isLt;omega)]
def uE (x:D) (o:aM) :aM:={ o with dW:=wG x.toNat,ay:=some o.ay.l,e:=0#32,s:=0#32 }
theorem Xl (x:D) (o:aM) :dO x o=uE x o:=by unfold dO uE;rw[CS (by have:=x.isLt;omega)]
def DF (x:D) (o:aM) :aM:=
 { uE x o with e:=zy x (ev (uE x o)),s:=sp (km x (ev (uE x o))) (qP (zy x (ev (uE x o))) x) }
theorem KA (x:D) (o:aM) :fx x o=DF x o:=by unfold fx DF k8;rw[Xl,VY]
end Op
namespace Op
open b8 bm
theorem PE {x:cZ} (h:(ch x).length=34) :x.id.length=32:=by simp[ch,ao] at h;exact h
open b8 bm
def sH:aW:=⟨none,none⟩
def DG:cA:=⟨none,none,0⟩
def jG (n:Int) :cA:=if 1<=n/\n<=4 then ⟨some (List.replicate n.toNat sH),none,0⟩ else DG
def wU (n:Int) :Int:=if 1<=n/\n<=4 then 0 else 2
theorem yS {n:Int} (h:¬ (1<=n/\n<=4)) :jG n=DG/\wU n=2:=⟨ak h,ak h⟩
theorem Iw {n:Int} (h:1<=n/\n<=4) :jG n=⟨some (List.replicate n.toNat sH),none,0⟩/\wU n=0:=⟨aj h,aj h⟩
theorem UY {l:ae} {a b c j m c' : U} (h1:Rd l a j) (o:Rd l b m) (p:Rd l c c') :Rd l (.ah [a,b,c]) (.ah [j,m,c']):=by
 refine .ah _ _ rfl fun i x q g h=>?_
 rcases i with _ | _ | _ | i
 ·simp at g h;subst g h;exact h1
 ·simp at g h;subst g h;exact o
 ·simp at g h;subst g h;exact p
 ·simp at g
theorem V4 (n:Int) :aV 93 [.i6 n] (.aZ [.ah (bM (jG n)),.i6 (wU n)]):=by
 apply a8 func93 [];have o:=dw;by_cases h1:n<1
 ·rw[(yS (n:=n) F).1,(yS (n:=n) F).2];simp[h1];exact aG
 ·by_cases g:4<n
  ·rw[(yS (n:=n) F).1,(yS (n:=n) F).2];simp[h1,g];exact aG
  ·rw[(Iw (n:=n) F).1,(Iw (n:=n) F).2];obtain⟨k,rfl⟩:∃ k:Nat,n=k:=⟨n.toNat,F⟩
   simp[h1,g,lG,o,ef,aw];have p:cy [U.af,U.af] k=((List.replicate k sH).map bb).flatten:=by
    rw[xr];clear h1 g
    induction k with
    | zero=>rfl
    | succ k t=>rw[cy,t,jV,gR];rfl
   have j:(cy [U.af,U.af] k).length=k*2:=by rw[zk];rfl
   have m:aJ 2 [am.q 3 [U.ad 2 1 0 k k (k*2),U.af,U.int IntKind.i64 0],am.q (k*2) (cy [U.af,U.af] k)] (.ad 2 1 0 k k (k*2)) 1 ((List.replicate k sH).map bb):=
    .ad 1 k k (k*2) (cy [U.af,U.af] k) _ rfl j V (fun e h=>by obtain⟨u,_,rfl⟩:=cF.1 h;rfl) (aF _) (aF _) (by rw[<-p,aI F])
   refine⟨F,Db (UY (m.q.jg oZ (some (List.replicate k sH)) rfl rfl) (.same _ rfl) (.same _ rfl)) (.same _ rfl)⟩
open b8 bm
theorem Yh:e4 sH:=⟨fun _ h=>(eK h).elim,fun _ h=>(eK h).elim,ek _,ek _⟩
def nj (c n:Int) :Prop:=1<=c/\c<=40/\1<=n/\n<=4
instance (c n:Int) :Decidable (nj c n):=by unfold nj;infer_instance
def wi (c n:Int) :Int:=if nj c n then 0 else 2
def KX:eR:=⟨0,DG,none⟩
def k0 (c n:Int) :eR:=if nj c n then ⟨c,jG n,none⟩ else KX
theorem WB (c n:Int) :aV 47 [.i6 c,.i6 n] (.aZ [.ah (ck (k0 c n)),.i6 (wi c n)]):=by
 apply a8 func47 [];have bad:¬ nj c n->k0 c n=KX/\wi c n=2:=fun h=>⟨ak h,ak h⟩
 have B:=V4 n;have m:(bM (jG n)).length=3:=rfl;have p:=mi (k0 c n);simp;refine av B rfl ?_;by_cases h1:c<1
 ·obtain⟨g,j⟩:=bad (by unfold nj;omega);rw[g,j];simp[h1,m];exact aG
 ·by_cases u:40<c
  ·obtain⟨g,j⟩:=bad (by unfold nj;omega);rw[g,j];simp[h1,u,m];exact aG
  ·by_cases o:1<=n/\n<=4
   ·have hk:nj c n:=⟨F,F,o.1,o.2⟩
    have g:k0 c n=⟨c,jG n,none⟩:=aj hk;have j:wi c n=0:=aj hk;have t:wU n=0:=aj o;have z:ck ⟨c,jG n,none⟩=.i6 c::(bM (jG n)++[.af]):=rfl;rw[g] at p;rw[g,j];rw[z] at p ⊢;obtain⟨v,w⟩:=aq (bM (jG n));rw[<-w] at m p ⊢;obtain⟨x,y,q,rfl⟩:∃ x y q,v=[x,y,q]:=by
     match v,m with
     | [x,y,q],_=>exact⟨x,y,q,rfl⟩
    simp[h1,u,t,aw];exact aR rfl (by simpa [U.ax,ar] using p)
   ·obtain⟨g,j⟩:=bad (by unfold nj;omega);have t:wU n=2:=ak o;rw[g,j];simp[h1,u,t,m];exact aG
def oi (c n w:Int) :Prop:=nj c n/\1<=w/\w<=8
instance (c n w:Int) :Decidable (oi c n w):=by unfold oi;infer_instance
def wm (c n w:Int) :Int:=if oi c n w then 0 else 2
def gd (c n w:Int) :bl:=if oi c n w then ⟨k0 c n,w,none,0,false⟩ else ku
theorem Gm (c n w:Int) :aV 16 [.i6 c,.i6 n,.i6 w] (.aZ [.ah (bx (gd c n w)),.i6 (wm c n w)]):=by
 apply a8 func16 [];have bad:¬ oi c n w->gd c n w=ku/\wm c n w=2:=fun h=>⟨ak h,ak h⟩
 have G:=WB c n;have D:=XS w;have o:(ck (k0 c n)).length=5:=rfl;have p:=kN (gd c n w);simp;refine av G rfl ?_;simp[o];refine av D rfl ?_;unfold Ct;by_cases h1:nj c n
 ·have m:wi c n=0:=aj h1;by_cases z:w<1\/8<w
  ·obtain⟨g,j⟩:=bad (by unfold oi;omega);rw[g,j,aj z];simp[m,b1];exact aG
  ·have hk:oi c n w:=⟨h1,F,F⟩
   have g:gd c n w=⟨k0 c n,w,none,0,false⟩:=aj hk;have j:wm c n w=0:=aj hk;have C:bx ⟨k0 c n,w,none,0,false⟩=ck (k0 c n)++[.i6 w,.af,.i6 0,.bool false]:=rfl;rw[g] at p;rw[g,j,ak z];rw[C] at p ⊢;obtain⟨v,B⟩:=aq (ck (k0 c n));rw[<-B] at o p ⊢;obtain⟨x,y,u,q,t,rfl⟩:∃ x y u q t,v=[x,y,u,q,t]:=by
    match v,o with
    | [x,y,u,q,t],_=>exact⟨x,y,u,q,t,rfl⟩
   simp[m,aw,b1];exact aR rfl (by simpa [U.ax,ar] using p)
 ·have m:wi c n=2:=ak h1;obtain⟨g,j⟩:=bad (by unfold oi;exact fun h=>h1 h.1);rw[g,j];split
  ·simp[m,b1,o];exact aG
  ·simp[m,b1,o];exact aG
open b8 bm
def ab4 (s:bl) :bl:=⟨s.aL,s.cr,s.pl,s.b4,true⟩
theorem WD (s:bl) :gi s=0\/gi s=8:=by unfold gi;split<;>simp
open b8 bm
theorem SF (n:Int) :hs (jG n):=by
 unfold jG;split
 ·refine⟨fun j g=>?_,?_,fun _ h=>(eK h).elim,ek _⟩
  ·obtain rfl:=sQ g;exact⟨Yh,ek _,ek _⟩
  ·show (List.replicate n.toNat sH).length<=10;rw[List.length_replicate];omega
 ·exact⟨fun _ h=>(eK h).elim,ek _,fun _ h=>(eK h).elim,ek _⟩
theorem SG (c n:Int) :lm (k0 c n):=by
 unfold k0;split
 ·exact⟨SF n,fun _ h=>(eK h).elim,ek _⟩
 ·exact KU.aL
theorem Cw (c n w:Int) :fQ (gd c n w):=by
 unfold gd;split
 ·exact⟨SG c n,fun _ h=>(eK h).elim,ek _⟩
 ·exact KU
open b8 bm
def hC (st:Q) (ps:bP) :aM:=⟨0#32,ps,st,⟨1#8,[],l3⟩,0#32,0#32⟩
def iP (t:Int) (st:Q) (ps:bP) :cx:=⟨t,0,fx 5#32 (hC st ps),fi (e8 (fx 5#32 (hC st ps)))⟩
theorem Md:y1 l3:=⟨by decide,by decide,ek _⟩
theorem IU {st:Q} {ps:bP} (h:cU ps) (g:ps.l.length<=4) :dv (hC st ps):=⟨h,by show ps.l.length<=_;omega,Md,ek _⟩
theorem LA {st:Q} {ps:bP} (o:ps.l.length<=4) (j:bQ ps.l=true) (m:st.toNat<=1000000000000) :c4 (dO 5#32 (hC st ps))=0:=by
 unfold c4;have h:(dO 5#32 (hC st ps)).ay.l=ps.l:=rfl;have g:mm (dO 5#32 (hC st ps))=true:=by
  show (eE (dK 4#32 5)&&(decide (st.toNat<=1000000000000)&&(hv ⟨1#8,[],l3⟩&&(eL 0#32&&eL 0#32))))=true;rw[yu (y:=4#32) AR,bW m];decide +kernel
 rw[h,ak F,j,aj rfl,g,aj rfl]
theorem KB {st:Q} {ps:bP} (h:cU ps) (g:ps.l.length<=4) :dv (fx 5#32 (hC st ps)):=⟨h,by show ps.l.length<=_;omega,Md,ek _⟩
theorem Ik {t:Int} {st:Q} {ps:bP} (h:cU ps) (g:ps.l.length<=4) :hr (iP t st ps):=⟨KB h g,jk _⟩
theorem Ic (t:Int) (st:Q) (ps:bP) (h:cU ps) (o:ps.l.length<=4) (P:bQ ps.l=true) (V:st.toNat<=1000000000000) :
  aV 39 [.i6 t,cX st,ai ps] (.ah (dy (iP t st ps))):=by
 apply a8 func39 [[[0],[1],[2],[3,1]]];have J:=IU (st:=st) h o;have T:=KB (st:=st) h o;have v:=UN 5#32 (hC st ps) J rfl (LA o P V);have K:=C4 (fx 5#32 (hC st ps)) T (by show ps.l.length<=_;omega);have m:=o0 (iP t st ps);have q:=dN (hC st ps);have S:=dN (fx 5#32 (hC st ps));have H:(ai ps).cells=some [ai ps]:=by cases ps<;>rfl
 have D:au (hC st ps)=[U.int .u32 0,ai ps,.int .u64 (u st),.int .u8 1,.str [],.int .u8 0,.i6 0,.int .u64 0,.str [],.int .u32 0,.int .u32 0]:=rfl;have g:(au (fx 5#32 (hC st ps))).length=11:=rfl;have W:(au (fx 5#32 (hC st ps))).take 11=au (fx 5#32 (hC st ps)):=rfl;have X:∀ L:ag,L.length=11->aw [U.int .u32 0,.af,.int .u64 0,.int .u8 0,.str [],.int .u8 0,.i6 0,.int .u64 0,.str [],.int .u32 0,.int .u32 0] 0 L=L:=fun L h=>cH (by rw[h];rfl)
 rw[D] at v q;simp[H,aw];refine av v (by simpa [ar,U.ax] using q) ?_;simp[g,W,X _ g];refine av K (by simp[ar,U.ax,S]) ?_;have j:=br (x:=(iP t st ps).id) (jk _);have G:et (fi (e8 (fx 5#32 (hC st ps))))=.ah (ao (iP t st ps).id):=rfl;have p:dy (iP t st ps)=.i6 t::.int .u8 0::(au (fx 5#32 (hC st ps))++ao (iP t st ps).id):=rfl;rw[G,p];rw[p] at m;obtain⟨I,w⟩:=aq (ao (iP t st ps).id);obtain⟨O,z⟩:=aq (au (fx 5#32 (hC st ps)));rw[<-w] at j m ⊢;rw[<-z] at g m ⊢;have Y:aw (U.int .u32 0::.af::.int .u64 0::.int .u8 0::.str [] ::.int .u8 0::.i6 0::.int .u64 0::.str [] ::.int .u32 0::.int .u32 0::bO 32 (.int .u8 0)) 0 O=O++bO 32 (.int .u8 0):=by
  unfold aw;rw[g];rfl
 have Z:aw (O++bO 32 (.int .u8 0)) 11 I=O++I:=by
  unfold aw;rw[List.take_left' g,j,jS (by rw[cg,g];exact aF _),eb]
 have R:(bO 32 (U.int .u8 0)).length=32:=rfl;have ae:aw (U.int .u32 0::.af::.int .u64 0::.int .u8 0::.str [] ::.int .u8 0::.i6 0::.int .u64 0::.str [] ::.int .u32 0::.int .u32 0::bO 32 (.int .u8 0)) 0 (O++I)=O++I:=cH (by rw[cg,g,j];rfl);have C:O.take 11=O:=aI F;have B:(O++I).take 43=O++I:=aI (by rw[cg,g,j];exact aF _);simp[g,j,Y,Z,ae,R,C,B];exact aR rfl (show ar _=true from m)
open b8 bm
theorem S4 {n:Int} (h:1<=n/\n<=4) :fo (jG n):=by have:n=1\/n=2\/n=3\/n=4:=F;rcases this with rfl | rfl | rfl | rfl<;>exact⟨by decide +kernel,by decide +kernel,by decide +kernel,by decide +kernel,by decide +kernel,by decide +kernel,by decide +kernel⟩
theorem Cx {c n w:Int} (h:oi c n w) :jZ (gd c n w):=by
 obtain⟨⟨h1,m,g,j⟩,p,q⟩:=h;have e:gd c n w=⟨⟨c,jG n,none⟩,w,none,0,false⟩:=by
  unfold gd k0;rw[aj ⟨⟨h1,m,g,j⟩,p,q⟩,aj ⟨h1,m,g,j⟩]
 have W:=S4 ⟨g,j⟩;have o:(jG n).b6=0:=by unfold jG;rw[aj ⟨g,j⟩]
 rw[e];refine⟨⟨h1,m,W,by rw[o];show 0<=c;omega,by rw[o];rfl,?_⟩,CO (by show ¬ (w<1\/8<w\/w<((0:Nat) :Int));omega) (fun k hk=>bK hk (Nat.not_lt_zero k)),Int.le_refl 0,by show (0:Int)<=1000000000;omega,fun _ h=>(eK h).elim⟩;unfold jI;rw[bI];exact fun i t=>bK t (Nat.not_lt_zero i)
theorem Cy {s:bl} (g:jZ s) {j:cx} (h:ff j=true) (o:j.aA=s.b4) (m:s.b4≠1000000000) :eS s j=0:=by unfold eS;rw[aj ((nt s).2 g),h,aj rfl,aj o,ak m]
def cS:cx:=iP 1 1#64 none
def c1:cx:=iP 0 2#64 (some [cS.id])
def mu:cx:={ cS with aA:=2 }
theorem yy:cS.id.length=32:=jk _
theorem HU:cU (some [cS.id]):=fun x g=>by rw[bH.lE,fO] at g;rw[g];exact yy
theorem rU:hr cS:=Ik (fun _ h=>(eK h).elim) (ek _)
theorem yz:hr c1:=Ik HU (by decide)
theorem B4:hr mu:=⟨rU.op,rU.id⟩
theorem Il {t:Int} {st:Q} {ps:bP} (m:ps.l.length<=4) (o:bQ ps.l=true) (p:st.toNat<=1000000000000) (q:sr t=true) :ff (iP t st ps)=true:=by
 have g:=LA m o p;have h1:=KC g;have h:=V3 g;have j:bJ (iP t st ps).op=(iP t st ps).id:=by unfold bJ;rw[aj (show c4 (iP t st ps).op=0 from h1)];rfl
 unfold ff;rw[aj (show (iP t st ps).ct=0 from rfl),j,bW (show c4 (iP t st ps).op=0 from h1),bW rfl,bW (show fk (iP t st ps).op=0 from h),show sr (iP t st ps).aA=true from q];rfl
theorem B3:ff cS=true:=Il (ek _) rfl (by decide) rfl
theorem Kd (x:List B) :bQ [x]=true:=rfl
theorem HT:ff c1=true:=Il (by decide) (Kd _) (by decide) rfl
theorem Rv:ff mu=true:=by have:=B3;unfold ff at this ⊢;simp only[bN] at this ⊢;exact⟨rfl,this.2⟩
def HB (st:Q) (ps:bP) :List B:=fi (e8 (DF 5#32 (hC st ps)))
theorem Rt:cS.id≠c1.id:=by
 have g:cS.id=HB 1#64 none:=by show fi (e8 (fx _ _))=_;rw[KA];rfl
 have h:c1.id=HB 2#64 (some [cS.id]):=by show fi (e8 (fx _ _))=_;rw[KA];rfl
 rw[h,g];decide +kernel
theorem S0 {s:bl} {j:cx} {v:Int} (h:eW s j=v) (g:v≠6) (h1:v≠1) :cT s j=(eG s,[⟨j.aA,v,j.id⟩]):=by unfold cT;rw[h,ak g,ak h1]
theorem Du {j:cx} {r:List cx} {s:bl} {all:List cZ} (h:eS s j=0) :k7 (j::r) s all=k7 r (cT s j).1 (all++(cT s j).2):=by show (if eS s j=0 then _ else _)=_;rw[aj h]
theorem Lt {c:Int} (G:c=1\/c=2) :∃ m:bl,fQ m/\jZ m/\m.b4=2/\m.gH=false/\cS.id∈m.aL.aD.l ∧
  ∀ r,k7 (c1::cS::r) (ih (gd c 1 2)) []=k7 r m [⟨0,6,c1.id⟩,⟨1,1,cS.id⟩,⟨0,if c=1 then 8 else 1,c1.id⟩]:=by
 have hk:oi c 1 2:=⟨⟨F,F,F,F⟩,F,F⟩
 have o:gd c 1 2=⟨⟨c,jG 1,none⟩,2,none,0,false⟩:=by
  unfold gd k0;rw[aj hk,aj hk.1]
 have S:=Cx hk;have X:=Cw c 1 2;have ay:ih (gd c 1 2)=gd c 1 2:=by rw[o];rfl
 rw[ay];obtain⟨j,av⟩:=aq (gd c 1 2);rw[<-av] at o S X ⊢;have w:j.b4=0:=by rw[o]
 have I:j.gH=false:=by rw[o]
 have u:j.aL.aD.l=[]:=by rw[o];rfl
 have J:j.pl=none:=by rw[o]
 have aA:j.cr=2:=by rw[o]
 have Z:j.aL.cap=c:=by rw[o]
 -- the first
 have f1:eS j c1=0:=Cy S HT (by rw[w];rfl) (by rw[w];decide);have U:dp j.aL.aD.l c1.op=[cS.id]:=by rw[u];rfl
 have aB:eW j c1=6:=by
  rw[zS rfl I (by rw[u];exact eK) (by rw[J];exact eK),U,ak V,J,aA];rfl
 have O:cT j c1=(lO j c1,[⟨0,6,c1.id⟩]):=by unfold cT;rw[aj aB];rfl
 obtain⟨C,B,t,v,q1,K⟩:=wq X yz f1;rw[O] at C B t v q1 K;have Q:bJ c1.op=c1.id:=(rG HT rfl).2.1;have z:(lO j c1).pl.l=[⟨0,c1.op,c1.id,fp [cS.id]⟩]:=by unfold lO;rw[U,J,Q];rfl
 have q:(lO j c1).aL=j.aL:=rfl;obtain⟨g,aw⟩:=aq (lO j c1);rw[<-aw] at C B t v q1 K z q O;simp only at C B t v q1 K
 -- the second
 have f2:eS g cS=0:=Cy B B3 (by rw[t,w];rfl) (by rw[t,w];decide);have az:dp g.aL.aD.l cS.op=[]:=by rw[q,u];rfl
 have ae:eW g cS=1:=by
  rw[zS rfl (by rw[v,I]) (by rw[q,u];exact eK) (by rw[z];simpa using Rt),az,aj rfl,q,u,Z];rw[ak (by rcases G with rfl | rfl<;>decide)]
 have ag:cT g cS=((fh g cS).1,⟨1,1,cS.id⟩::(fh g cS).2):=by unfold cT;rw[ak (by rw[ae];decide),aj ae];rfl
 obtain⟨Y,T,W,P,aC,aE⟩:=wq C rU f2;have ai:bJ cS.op=cS.id:=(rG B3 rfl).2.1;have D:bm.cK cS.id g.pl.l=[⟨0,c1.op,c1.id,fp []⟩]\/∃ p,bm.cK cS.id g.pl.l=[⟨0,c1.op,c1.id,p⟩]:=by
  rw[z];right;unfold bm.cK;have ax:bm.eA cS.id ⟨0,c1.op,c1.id,fp [cS.id]⟩=⟨0,c1.op,c1.id,lU cS.id (fp [cS.id])⟩:=rfl;have ap:(lU cS.id (fp [cS.id])).l=[]:=by rw[w1,kw];simp[nh]
  refine⟨lU cS.id (fp [cS.id]),?_⟩;simp only[dh,l6,ax];rw[kC,aj (by unfold gone;simp[ap])];rfl
 obtain⟨p,D⟩:∃ p,bm.cK cS.id g.pl.l=[⟨0,c1.op,c1.id,p⟩]:=D.elim (fun h=>⟨_,h⟩) id;have H:(fE (eG g) (gp cS)).aL.aD.l=[cS.id]:=by
  rw[vv (eG g) (x:=gp cS) ai];show g.aL.aD.l++[cS.id]=_;rw[q,u];rfl
 have al:(fE (eG g) (gp cS)).aL.cap=c:=by show g.aL.cap=c;rw[q,Z]
 have ao:i8 (fE (eG g) (gp cS))=decide (c=1):=by
  unfold i8;rw[H,al];rcases G with rfl | rfl<;>rfl
 have am:dY [(⟨0,c1.op,c1.id,p⟩:aK)]=⟨0,c1.op,c1.id,p⟩:=rfl;have au:∃ m,fh g cS=(m,[⟨0,if c=1 then 8 else 1,c1.id⟩])/\cS.id∈m.aL.aD.l:=by
  unfold fh;rw[D,show g.pl.l.length=0+1 by rw[z];rfl,uh 0 _ [] V,ao,am];rcases G with rfl | rfl
  ·refine⟨_,rfl,?_⟩;show cS.id∈(fE (eG g) (gp cS)).aL.aD.l;rw[H];simp
  ·refine⟨_,rfl,?_⟩;show cS.id∈(fE (fE (eG g) (gp cS)) ⟨0,c1.op,c1.id,p⟩).aL.aD.l;rw[vv _ (x:=⟨0,c1.op,c1.id,p⟩) Q,H];simp
 obtain⟨m,R,ar⟩:=au;rw[ag,R] at Y T W P;refine⟨m,Y,T,by rw[W,t,w];rfl,by rw[P,v,I],ar,fun r=>?_⟩;rw[Du f1,O,Du f2,ag,R];rfl
theorem WW:∃ t:bl,t.b4=3/\fQ t/\qO (gd 2 1 2) [c1,cS,mu]=(t,[⟨0,6,c1.id⟩,⟨1,1,cS.id⟩,⟨0,1,c1.id⟩,⟨2,5,cS.id⟩],0):=by
 obtain⟨j,w,u,g,q,v,h⟩:=Lt (c:=2) (.inr rfl);have f3:eS j mu=0:=Cy u Rv (by rw[g];rfl) (by rw[g];decide);have z:eW j mu=5:=by
  unfold eW;rw[aj (show mu.ct=0 from rfl),q,ak V,aj (.inl v)]
 have p:=S0 z (by decide) (by decide);obtain⟨o,_,m,_⟩:=wq w B4 f3;rw[p] at o m;refine⟨eG j,by rw[m,g];rfl,o,?_⟩;unfold qO;rw[aj ((nt _).2 (Cx ⟨⟨by decide,by decide,by decide,by decide⟩,by decide,by decide⟩)),ak (by decide),h [mu],Du f3,p];rfl
theorem Qr:∃ t:bl,fQ t/\qO (gd 1 1 2) [c1,cS]=(t,[⟨0,6,c1.id⟩,⟨1,1,cS.id⟩,⟨0,8,c1.id⟩],0):=by obtain⟨j,g,o,q,m,p,h⟩:=Lt (c:=1) (.inl rfl);refine⟨j,g,?_⟩;unfold qO;rw[aj ((nt _).2 (Cx ⟨⟨by decide,by decide,by decide,by decide⟩,by decide,by decide⟩)),ak (by decide),h []];rfl
open b8 bm
theorem NK (j:cx) (g:hr j) (n:Int) :aV 40 [.ah (dy j),.i6 n] (.ah (dy { j with aA:=n })):=by
 apply a8 func40 [];have o:=o0 { j with aA:=n };have p:(dy j).length=45:=(lD g).len;have m:(dy { j with aA:=n }).length=45:=(lD (j:={ j with aA:=n }) ⟨g.op,g.id⟩).len;have q:aw (dy j) 0 [.i6 n]=dy { j with aA:=n }:=rfl;have t:(dy { j with aA:=n }).take 45=dy { j with aA:=n }:=aI F;have u:∀ J:ag,J.length=45->aw (U.i6 0::.int .u8 0::.int .u32 0::.af::.int .u64 0::.int .u8 0::.str [] ::.int .u8 0::.i6 0::.int .u64 0::.str [] ::.int .u32 0::.int .u32 0::bO 32 (.int .u8 0)) 0 J=J:=fun J h=>cH (by rw[h];rfl)
 simp[p,q,m,t,u _ m];exact aR rfl (show ar _=true from o)
theorem Vz (r:cZ) (h:r.id.length=32) :dP prog .eql 86 (.ah (ch r)) (.ah (ch r))=some (.bool true):=by
 have g:gv (.i .i64::.i .u8::List.replicate 32 (.i .u8)) (ch r)=true:=by
  have:=qF r.id;rw[h] at this;exact this
 rw[te H3 bd bd g g];have h1:=vi r.id r.id rfl;have j:dn (ch r) (ch r)=dn (ao r.id) (ao r.id):=by simp[ch,dn,U.beq]
 rw[j];unfold ao;rw[h1];simp
theorem Ru:c1.id.length=32:=jk _
def qr:Nat->List (ag)->List (Nat × U)
 | _,[]=>[]
 | k,e::r=>(k,.ah e) ::qr (k+1) r
theorem Ws {P Z S X:ag} (h:X.length=Z.length) :aw (P++(Z++S)) P.length X=P++(X++S):=by unfold aw;rw[List.take_left' rfl,h,<-uR,List.drop_left' rfl,List.drop_left' rfl,fc]
theorem GV {z:Nat} {Z:ag} (j:Z.length=z) :∀ (es:List (ag)) (k:Nat) (P:ag),P.length=k*z->(∀ e∈es,e.length=z)->
  ef (fun i=>some (i*z,z)) (P++cy Z es.length) (qr k es)=some (P++es.flatten)
 | [],k,P,g,_=>by simp[qr,cy,ef]
 | e::r,k,P,g,h=>by
  have m:=h e V;have p:=GV j r (k+1) (P++e) (by rw[cg,g,m,ec]) fun x o=>h x (by simp[o])
  unfold qr ef;simp only[U.cells];rw[aj ⟨m,by rw[cg,g,du,cy,cg,j];omega⟩,du,cy,<-g,Ws (by rw[m,j])];rw[<-fc];rw[p,gR,fc]
theorem yd {z:Nat} {Z:ag} (g:Z.length=z) (es:List (ag)) (h:∀ e∈es,e.length=z) :
  ef (fun i=>some (i*z,z)) (cy Z es.length) (qr 0 es)=some es.flatten:=by have:=GV g es 0 [] V h;simpa using this
theorem Nx:aV 27 [] (.bool true):=by
 apply a8 func27 [da 0 4++[[11],[4,11,2,1,0],[5],[6,11]]++da 7 4];have au:=dw;have ay:=Ic 1 1#64 none (fun _ h=>(eK h).elim) (ek _) rfl (by decide);have S:=Ic 0 2#64 (some [cS.id]) HU (by decide) (Kd _) (by decide);change hW _ _ _ _ (.ah (dy cS)) at ay;change hW _ _ _ _ (.ah (dy c1)) at S;obtain⟨K,t3,bG,bg⟩:=WW;obtain⟨a5,bI,bh⟩:=Qr;have aT:=Gm 2 1 2;have aU:=Gm 1 1 2;have bm:wm 2 1 2=0:=rfl;have bn:wm 1 1 2=0:=rfl;have az:=Gq (gd 2 1 2) (Cw 2 1 2) (some [c1,cS,mu]) (by
  intro bo m;rw[bH.lE] at m;rcases fX.1 m with rfl | m
  ·exact yz
  rcases fX.1 m with rfl | m
  ·exact rU
  rcases fX.1 m with rfl | m
  ·exact B4
  cases m) (by decide)
 have aA:=Gq (gd 1 1 2) (Cw 1 1 2) (some [c1,cS]) (by
  intro bo m;rw[bH.lE] at m;rcases fX.1 m with rfl | m
  ·exact yz
  rcases fX.1 m with rfl | m
  ·exact rU
  cases m) (by decide)
 rw[bH.lE,bg] at az;rw[bH.lE,bh] at aA;rw[bm] at aT;rw[bn] at aU;have R:=NK cS rU 2;change hW _ _ _ _ (.ah (dy mu)) at R;have Q:=o0 cS;have ap:=o0 c1;have aP:=o0 mu;have aB:=lD rU;have aC:=lD yz;have aD:=lD B4;have a4:∀ J:ag,J.length=45->aw (U.i6 0::.int .u8 0::.int .u32 0::.af::.int .u64 0::.int .u8 0::.str [] ::.int .u8 0::.i6 0::.int .u64 0::.str [] ::.int .u32 0::.int .u32 0::bO 32 (.int .u8 0)) 0 J=J:=fun J h=>cH (by rw[h];rfl)
 have p:=br yy;obtain⟨A,Y⟩:=aq (dy cS);obtain⟨u,ae⟩:=aq (dy c1);obtain⟨I,aL⟩:=aq (dy mu);obtain⟨iZ,P⟩:=aq (ao cS.id);rw[<-Y] at ay R Q aB;rw[<-ae] at S ap aC;rw[<-aL] at R aP aD;obtain⟨o,_,_,_,W,_,_,T,_⟩:=aB;obtain⟨j,_,_,_,X,_,_,O,_⟩:=aC;obtain⟨B,_,_,_,_,_,_,aH,_⟩:=aD;rw[<-P] at W p;have ak:iZ.take 32=iZ:=aI F;have bC:aw (bO 32 (U.int .u8 0)) 0 iZ=iZ:=cH (by rw[p];rfl);simp;refine av ay rfl ?_;simp[o,a4 _ o,W,p,ak,bC,ef];have bp:aJ 32 [am.q 45 A,am.q 32 iZ] (.ad 32 1 0 1 1 32) 1 [iZ]:=.ad 1 1 1 32 iZ _ rfl p rfl (by simp[p]) (aF _) (aF _) (by simp[ak]);obtain⟨bz,q1⟩:=pt bp rfl;have aN:=cP cS.id;rw[<-P] at aN;have bb:ai (some [cS.id])=.bj 32 [iZ]:=by rw[P];rfl
 rw[bb] at S;refine oS checked.mixed ed (args2:=[.i6 0,.int .u64 2,.bj 32 [iZ]]) bz V rfl (fun i c aE h1 g=>?_) (av S (by simp[ar,nV,U.ax,aN]) ?_)
 ·rcases i with _ | _ | _ | i
  ·simp at h1 g;subst h1 g;exact .same _
  ·simp at h1 g;subst h1 g;exact .same _
  ·simp at h1 g;subst h1 g;exact q1
  ·simp at h1
 ·simp[j,O,a4 _ j];refine av aT rfl ?_;have H:∀ t:bl,aw [U.i6 0,.af,.af,.i6 0,.af,.i6 0,.af,.i6 0,.bool false] 0 (bx t)=bx t:=fun t=>cH rfl
  have G:∀ t:bl,(bx t).length=9:=fun _=>rfl
  have D:∀ t:bl,(bx t).take 9=bx t:=fun _=>rfl
  simp[G,H,D,j,o,T,O];refine av R (by simp[ar,U.ax,Q]) ?_;have f3:=yd (z:=45) (Z:=U.i6 0::.int .u8 0::.int .u32 0::.af::.int .u64 0::.int .u8 0::.str [] ::.int .u8 0::.i6 0::.int .u64 0::.str [] ::.int .u32 0::.int .u32 0::bO 32 (.int .u8 0)) rfl [u,A,I] (by simp[o,j,B]);simp[qr,-rI] at f3;simp[G,H,D,j,o,T,O,B,aH,-rI,f3];have bq:aJ 45 [am.q 45 A,am.dead,am.q 45 u,am.q 9 (bx (gd 2 1 2)),am.q 9 [U.i6 0,.af,.af,.i6 0,.af,.i6 0,.af,.i6 0,.bool false],am.q 135 (u++(A++I))] (.ad 45 5 0 3 3 135) 5 [u,A,I]:=
   .ad 5 3 3 135 _ _ rfl (by simp[o,j,B]) rfl (by simp[o,j,B]) (aF _) (aF _) (by rw[aI (by simp[o,j,B])];simp)
  obtain⟨bA,bv⟩:=pt bq rfl;have bc:hZ (some [c1,cS,mu])=.bj 45 [u,A,I]:=by rw[Y,ae,aL];rfl
  rw[bc] at az;have a9:=kN (gd 2 1 2);refine oS checked.mixed ed (args2:=[.ah (bx (gd 2 1 2)),.bj 45 [u,A,I]]) bA V rfl (fun i c aE h1 g=>?_) (av az (by simp[ar,nV,U.ax,Q,ap,aP,a9]) ?_)
  ·rcases i with _ | _ | i
   ·simp at h1 g;subst h1 g;exact .same _
   ·simp at h1 g;subst h1 g;exact bv
   ·simp at h1
  ·simp[G,H,D];refine av aU rfl ?_;have f2:=yd (z:=45) (Z:=U.i6 0::.int .u8 0::.int .u32 0::.af::.int .u64 0::.int .u8 0::.str [] ::.int .u8 0::.i6 0::.int .u64 0::.str [] ::.int .u32 0::.int .u32 0::bO 32 (.int .u8 0)) rfl [u,A] (by simp[o,j]);simp[qr,-rI] at f2;simp[G,H,D,j,o,T,O,B,aH,-rI,f2];have bs:aJ 45 [am.q 45 A,am.dead,am.q 45 u,am.q 9 (bx (gd 2 1 2)),am.q 9 (bx K),am.dead,am.q 9 (bx (gd 1 1 2)),am.q 90 (u++A)] (.ad 45 7 0 2 2 90) 7 [u,A]:=
    .ad 7 2 2 90 _ _ rfl (by simp[o,j]) rfl (by simp[o,j]) (aF _) (aF _) (by rw[aI (by simp[o,j])];simp)
   obtain⟨bB,bw⟩:=pt bs rfl;have bd:hZ (some [c1,cS])=.bj 45 [u,A]:=by rw[Y,ae];rfl
   rw[bd] at aA;have a7:=kN (gd 1 1 2);refine oS checked.mixed ed (args2:=[.ah (bx (gd 1 1 2)),.bj 45 [u,A]]) bB V rfl (fun i c aE h1 g=>?_) (av aA (by simp[ar,nV,U.ax,Q,ap,a7]) ?_)
   ·rcases i with _ | _ | i
    ·simp at h1 g;subst h1 g;exact .same _
    ·simp at h1 g;subst h1 g;exact bw
    ·simp at h1
   ·have v:=br (x:=c1.id) (jk _);obtain⟨mT,aj⟩:=aq (ao c1.id);rw[<-aj] at X v;have aK:mT.take 32=mT:=aI F;have aW:=fun w=>zs w
    have aX:=fun w=>wP w p
    have aY:=fun w=>wP w v
    have a0:=fun w=>wQ w p
    have a1:=fun w=>wQ w v
    have a2:=uq p;have a3:=uq v;obtain⟨L,C⟩:=aq ([(⟨0,6,c1.id⟩:cZ),⟨1,1,cS.id⟩,⟨0,1,c1.id⟩,⟨2,5,cS.id⟩]);obtain⟨M,al⟩:=aq ([(⟨0,6,c1.id⟩:cZ),⟨1,1,cS.id⟩,⟨0,8,c1.id⟩]);rw[<-C,<-al];have aO:L.map ch=[U.i6 0::.int .u8 6::mT,U.i6 1::.int .u8 1::iZ,U.i6 0::.int .u8 1::mT,U.i6 2::.int .u8 5::iZ]:=by rw[C,P,aj];rfl
    have f4:=yd (z:=34) (Z:=U.i6 0::bO 33 (.int .u8 0)) rfl [U.i6 0::.int .u8 6::mT,U.i6 1::.int .u8 1::iZ,U.i6 0::.int .u8 1::mT,U.i6 2::.int .u8 5::iZ] (by simp[p,v]);have f5:=yd (z:=34) (Z:=U.i6 0::.int .u8 0::bO 32 (.int .u8 0)) rfl [U.i6 0::.int .u8 6::mT,U.i6 1::.int .u8 1::iZ,U.i6 0::.int .u8 1::mT,U.i6 2::.int .u8 5::iZ] (by simp[p,v]);simp[qr,-rI] at f4 f5;have aQ:∀ r∈L,r.id.length=32:=by
     rw[C];intro r au;simp only[fX,eK,or_false] at au;rcases au with rfl | rfl | rfl | rfl
     ·exact jk _
     ·exact yy
     ·exact jk _
     ·exact yy
    have aS:=Pg (pE L) (some L) ⟨by rw[zI];exact aQ,by rw[zI,C];decide⟩ ⟨aQ,by rw[C];decide⟩;rw[zI,bH.lE,bW rfl] at aS;have a6:(fG (pE L)).ax=true:=m0 tp _;have bE:=m0 (z:=34) tp (some L);have bi:(bx K)[7]?=some (.i6 3):=by rw[<-t3];rfl
    have bk:∀ h,(bx K)[7]'h=.i6 3:=fun h=>by rw[<-t3];rfl
    simp[G,H,D,W,X,o,j,p,v,ak,aK,-rI,aW,aX,aY,a0,a1,a2,a3,f4,f5];have bu:aJ 34 [am.q 45 A,am.dead,am.q 45 u,am.q 9 (bx (gd 2 1 2)),am.q 9 (bx K),am.dead,am.q 9 (bx (gd 1 1 2)),am.dead,am.q 9 (bx a5),
      am.q 136 (U.i6 0::.int .u8 6::(mT++U.i6 1::.int .u8 1::(iZ++U.i6 0::.int .u8 1::(mT++U.i6 2::.int .u8 5::iZ))))] (.ad 34 9 0 4 4 136) 9 (L.map ch):=
     .ad 9 4 4 136 _ _ rfl (by simp[p,v]) (by rw[C];rfl) (by rw[aO];simp[p,v]) (aF _) (aF _) (by rw[aI (by simp[p,v]),aO];simp)
    have aR:bF (.ad 34) (fG (pE M)) (.i6 2)=some (.bR (ch ⟨0,8,c1.id⟩) 0):=by rw[al];rfl
    have bf:bt (.ad 34) (fG (pE M))=some (.i6 3):=by rw[al];rfl
    have aM:ch ⟨0,8,c1.id⟩=.i6 0::.int .u8 8::mT:=by rw[aj];rfl
    have heq:=Vz ⟨0,8,c1.id⟩ Ru;rw[aM] at heq;rw[aM] at aR;refine g0 aS (.cons (.same _ a6) (.cons (bu.lP tp (some L) rfl rfl) .nil)) rfl ?_;simp[G,H,D,bi,bk,aR,bf,v,aK,j,X,-rI,aW,aX,aY,a0,a1,a2,a3,heq];exact aG
open b8 bm
noncomputable def vr (s:bl) (l:List cx) :Bool:=!rO s&&(decide (gi s=0)&&(!oe l&&decide (l.length<=60)))
theorem OC (s:bl) (q:s8 s) (l:bH cx) (G:∀ j∈l.l,p5 j) :aV 31 [.ah (bx s),hZ l] (.bool (vr s l.l)):=by
 apply a8 func31 [];have C:vr s l.l=(!rO s&&(decide (gi s=0)&&(!oe l.l&&decide (l.l.length<=60)))):=rfl;rw[C];have D:=Pc s q;have H:=Pe l G;have o:=kN s;have B:(hZ l).ax=true:=m0 o0 l;have v:∀ t:bl,(bx t).length=9:=fun _=>rfl
 have u:∀ t:bl,(bx t).take 9=bx t:=fun _=>rfl
 have p:bt (.ad 45) (hZ l)=_:=ca _;simp[v,u];refine av D (by simp[ar,U.ax,o]) ?_;cases h1:rO s with
 | true=>simp;exact aG
 | false=>
  have z:=Gp s (IP q h1);simp[v,u];refine av z (by simp[ar,U.ax,o]) ?_;by_cases g:gi s=0
  ·simp[g];refine av H (by simp[ar,B]) ?_;cases I:oe l.l with
   | true=>simp;exact aG
   | false=>
    by_cases m:l.l.length<=60
    ·have h:(l.l.length:Int)<=60:=F;simp[p,m,h];exact aR (by simp[g]) rfl
    ·have h:¬ (l.l.length:Int)<=60:=F;simp[p,m,h];exact aG
  ·have w:gi s=8:=(WD s).resolve_left g;simp[w];exact aG
theorem OB {s:bl} {l:List cx} (t:s8 s) (q:∀ j∈l,p5 j) (h:vr s l=true) :fQ s/\jZ s/\(∀ j∈l,hr j)/\l.length<=60:=by unfold vr at h;simp only[bN,sN,bI] at h;obtain⟨h1,m,o,p⟩:=h;exact⟨IP t h1,(nt s).1 m,fun j g=>Tq (q j g) ((RV o).2 j g),p⟩
open b8 bm
def hL (l:List cZ) :aN:=(l.filter fun x=>decide (x.ct=1)).map cZ.id
structure E1 (s:bl) (r:List aK) (t:bl) (g:List cZ) :Prop where
 ct:∀ x∈g,x.ct=1\/x.ct=8
 src:∀ x∈g,∃ y∈r++s.pl.l,y.aA=x.aA/\y.id=x.id
 off:∀ x∈g,∀ y∈t.pl.l,y.aA≠x.aA
 ql:g.Pairwise fun a b=>a.aA≠b.aA
 len:g.length+t.pl.l.length=r.length+s.pl.l.length
 ord:t.aL.aD.l=s.aL.aD.l++hL g
 kept:∀ y∈t.pl.l,∃ z∈s.pl.l,z.aA=y.aA
theorem zH {x:List B} {l:List aK} {y:aK} (h:y∈l.map (eA x)) :∃ z∈l,z.aA=y.aA/\z.id=y.id:=by obtain⟨z,g,rfl⟩:=cF.1 h;exact⟨z,g,rfl,rfl⟩
theorem Df:∀ (n:Nat) (s:bl) (r:List aK) (out:List cZ),i0 s r->oO s r->r.length+s.pl.l.length<=n->∃ z,(gA n s r out).2=out++z/\E1 s r (gA n s r out).1 z
 | 0,s,r,out,_,_,U=>by
  have u:r=[]:=il.1 F;subst u;exact⟨[],by rw[qM,eb],by rw[qM];exact⟨fun _ h=>(eK h).elim,fun _ h=>(eK h).elim,fun _ h=>(eK h).elim,.nil,rfl,by unfold hL;simp,fun y g=>⟨y,g,rfl⟩⟩⟩
 | n+1,s,r,out,h,v,U=>by
  by_cases u:r=[]
  ·subst u;exact⟨[],by rw[qM,eb],by rw[qM];exact⟨fun _ h=>(eK h).elim,fun _ h=>(eK h).elim,fun _ h=>(eK h).elim,.nil,rfl,by unfold hL;simp,fun y g=>⟨y,g,rfl⟩⟩⟩
  ·rw[uh n s out u];have t:=vJ u;have T:(fU r (dY r)).length+1=r.length:=by rw[Vl v.Do u];exact Vk u
   obtain⟨x,W⟩:=aq (dY r);rw[<-W] at t T ⊢;have B:∀ y∈fU r x,y∈r/\y.aA≠x.aA:=fun y g=>by
    obtain⟨h1,R⟩:=c7.1 g;exact⟨h1,by simpa using R⟩
   cases S:i8 s with
   | true=>
    rw[aj rfl];obtain⟨z,D,o⟩:=Df n s (fU r x) (out++[⟨x.aA,8,x.id⟩]) (h.full x) (v.full x) F;refine⟨⟨x.aA,8,x.id⟩::z,by rw[D,fc];rfl,fun m j=>?_,fun m j=>?_,fun m j y g=>?_,?_,?_,?_,o.kept⟩
    ·rcases fX.1 j with rfl | j
     ·exact .inr rfl
     ·exact o.ct m j
    ·rcases fX.1 j with rfl | j
     ·exact⟨x,xt _ t,rfl,rfl⟩
     ·obtain⟨y,g,e⟩:=o.src m j;rcases eQ.1 g with g | g
      ·exact⟨y,xt _ (B y g).1,e⟩
      ·exact⟨y,List.mem_append_right _ g,e⟩
    ·rcases fX.1 j with rfl | j
     ·obtain⟨w,q,e⟩:=o.kept y g;rw[<-e];exact fun p=>v.sh x t w q p.symm
     ·exact o.off m j y g
    ·refine uW.2 ⟨fun m j=>?_,o.ql⟩;obtain⟨y,g,e,_⟩:=o.src m j;rw[<-e];rcases eQ.1 g with g | g
     ·exact fun p=>(B y g).2 p.symm
     ·exact v.sh x t y g
    ·have:=o.len;rw[du];omega
    ·rw[o.ord];unfold hL;rw[kC,ak V]
   | false=>
    rw[ak V];have J:=ry s x;have X:=bm.pu x.id s.pl.l;obtain⟨z,D,o⟩:=Df n (fE s x) (fU r x++bm.cK x.id s.pl.l) (out++[⟨x.aA,1,x.id⟩]) (h.next t S) (v.next x) (by rw[J,cg];omega);have I:∀ y∈(fE s x).pl.l,∃ m∈s.pl.l,m.aA=y.aA/\m.id=y.id:=fun y g=>by
     rw[J] at g;exact zH (c7.1 g).1
    have P:∀ m∈z,∃ y,(y∈fU r x\/y∈s.pl.l)/\y.aA=m.aA/\y.id=m.id:=fun m j=>by
     obtain⟨y,g,e,C⟩:=o.src m j;rcases eQ.1 g with g | g
     ·rcases eQ.1 g with g | g
      ·exact⟨y,.inl g,e,C⟩
      ·obtain⟨w,q,G,H⟩:=zH (c7.1 g).1;exact⟨w,.inr q,G.trans e,H.trans C⟩
     ·obtain⟨w,q,G,H⟩:=I y g;exact⟨w,.inr q,G.trans e,H.trans C⟩
    refine⟨⟨x.aA,1,x.id⟩::z,by rw[D,fc];rfl,fun m j=>?_,fun m j=>?_,fun m j y g=>?_,?_,?_,?_,fun y g=>?_⟩
    ·rcases fX.1 j with rfl | j
     ·exact .inl rfl
     ·exact o.ct m j
    ·rcases fX.1 j with rfl | j
     ·exact⟨x,xt _ t,rfl,rfl⟩
     ·obtain⟨y,g,e⟩:=P m j;rcases g with g | g
      ·exact⟨y,xt _ (B y g).1,e⟩
      ·exact⟨y,List.mem_append_right _ g,e⟩
    ·rcases fX.1 j with rfl | j
     ·obtain⟨w,q,e⟩:=o.kept y g;obtain⟨O,K,p,_⟩:=I w q;rw[<-e,<-p];exact fun Q=>v.sh x t O K Q.symm
     ·exact o.off m j y g
    ·refine uW.2 ⟨fun m j=>?_,o.ql⟩;obtain⟨y,g,e,_⟩:=P m j;rw[<-e];rcases g with g | g
     ·exact fun p=>(B y g).2 p.symm
     ·exact v.sh x t y g
    ·have:=o.len;rw[J,cg] at this;rw[du];omega
    ·rw[o.ord,vv s (h.gr x t).2.1];unfold hL;rw[kC,aj V];simp
    ·obtain⟨w,q,e⟩:=o.kept y g;obtain⟨O,K,p,_⟩:=I w q;exact⟨O,K,p.trans e⟩
structure M7 (s:bl) (j:cx) (v:Int) (g:List cZ) :Prop where
 res:(cT s j).2=⟨j.aA,v,j.id⟩::g
 v1:1<=v
 v9:v<=9
 one:g≠[]->v=1
 ct:∀ x∈g,x.ct=1\/x.ct=8
 src:∀ x∈g,∃ y∈s.pl.l,y.aA=x.aA/\y.id=x.id
 off:∀ x∈g,∀ y∈(cT s j).1.pl.l,y.aA≠x.aA
 SO:∀ x∈g,x.aA≠j.aA
 ql:g.Pairwise fun a b=>a.aA≠b.aA
 len:(cT s j).1.pl.l.length+g.length=s.pl.l.length+(if v=6 then 1 else 0)
 ord:(cT s j).1.aL.aD.l=s.aL.aD.l++hL (cT s j).2
theorem Ti {s:bl} (Y:fQ s) {j:cx} (U:hr j) (T:eS s j=0) :∃ v uC,M7 s j v uC:=by
 obtain⟨C,u,O,ae⟩:=y0 T;by_cases t:eW s j=6
 ·have g:cT s j=(lO s j,[⟨j.aA,6,j.id⟩]):=by unfold cT;rw[aj t]
  refine⟨6,[],by rw[g],by decide,by decide,fun h=>bK rfl h,fun _ h=>(eK h).elim,fun _ h=>(eK h).elim,fun _ h=>(eK h).elim,fun _ h=>(eK h).elim,.nil,?_,?_⟩
  ·rw[g];show (s.pl.l++[_]).length+0=s.pl.l.length+1;simp
  ·rw[g];unfold hL;rw[kC,ak V];simp[lO]
 ·by_cases h1:eW s j=1
  ·have g:cT s j=((fh s j).1,⟨j.aA,1,j.id⟩::(fh s j).2):=by unfold cT;rw[ak t,aj h1]
   have J:(eG s).pl.l=s.pl.l:=iV _;have R:=zn Y C U u O h1;have D:=(WX C O).next (gp j)
   have X:fU [gp j] (gp j)=[]:=by unfold fU;simp
   rw[X,im,J] at D;change oO _ (bm.cK j.id s.pl.l) at D;have p:=ry (eG s) (gp j);rw[J] at p;change _=bm.cL j.id s.pl.l at p;have Z:=bm.pu j.id s.pl.l;obtain⟨uC,q,o⟩:=Df s.pl.l.length _ _ [] R D (by rw[p];omega);change (fh s j).2=_ at q;change E1 _ _ (fh s j).1 uC at o;rw[im] at q;have K:∀ x∈uC,∃ y∈s.pl.l,y.aA=x.aA/\y.id=x.id:=fun x G=>by
    obtain⟨y,m,e,H⟩:=o.src x G;rw[p] at m;rcases eQ.1 m with m | m
    ·obtain⟨w,F,z,B⟩:=zH (c7.1 m).1;exact⟨w,F,z.trans e,B.trans H⟩
    ·obtain⟨w,F,z,B⟩:=zH (c7.1 m).1;exact⟨w,F,z.trans e,B.trans H⟩
   have W:=o.len;rw[p] at W;have S:bJ (gp j).op=(gp j).id:=(rG u (sx u (.inr h1)).1).2.1;have I:=vv (eG s) S;change _=s.aL.aD.l++[j.id] at I;refine⟨1,uC,by rw[g,q],by decide,by decide,fun _=>rfl,o.ct,K,by rw[g];exact o.off,fun x G=>?_,o.ql,?_,?_⟩
   ·obtain⟨y,m,e,_⟩:=K x G;have:=(C.ke y m).1;rw[<-e];omega
   ·rw[g];show (fh s j).1.pl.l.length+uC.length=_;rw[ak (by decide)];omega
   ·rw[g];show (fh s j).1.aL.aD.l=_;rw[o.ord,I,q];unfold hL;rw[kC,aj V];simp
  ·have g:cT s j=(eG s,[⟨j.aA,eW s j,j.id⟩]):=by unfold cT;rw[ak t,ak h1]
   have P:1<=eW s j/\eW s j<=9:=by
    unfold eW;split
    ·split
     ·decide
     ·split
      ·decide
      ·split
       ·split<;>decide
       ·split<;>decide
    ·rename_i Q;rcases GO u with h | h | h | h
     ·exact bK h Q
     ·rw[h];decide
     ·rw[h];decide
     ·rw[h];decide
   refine⟨eW s j,[],by rw[g],P.1,P.2,fun h=>bK rfl h,fun _ h=>(eK h).elim,fun _ h=>(eK h).elim,fun _ h=>(eK h).elim,fun _ h=>(eK h).elim,.nil,?_,?_⟩
   ·rw[g,ak t];show (eU s.pl.l).l.length+0=_;rw[iV]
   ·rw[g];unfold hL;rw[kC,ak (by simpa using h1)];simp[eG]
open b8 bm
theorem BZ {x:List B}:∀ (l:aN) (n:Nat),0<=c8 x l n->∃ k,c8 x l n=((n+k:Nat) :Int)/\l[k]?=some x
 | [],n,h=>by
  have:c8 x [] n=-1:=rfl;omega
 | y::r,n,h=>by
  unfold c8 at h ⊢;split
  ·rename_i e;exact⟨0,rfl,by simp[e]⟩
  ·rename_i e;rw[ak e] at h;obtain⟨k,h1,g⟩:=BZ r (n+1) h;exact⟨k+1,by rw[h1];congr 1;omega,by simpa using g⟩
def uK (s:bl) (g:Int) (x:List B) :Bool:=decide (0<=c8 x (s.pl.l.map aK.id) 0)&&decide ((gB s.pl.l (c8 x (s.pl.l.map aK.id) 0).toNat).aA=g)
theorem LW (s:bl) (o:fQ s) (g:Int) (x:List B) (t:x.length=32) :aV 32 [.ah (bx s),.i6 g,.ah (ao x)] (.bool (uK s g x)):=by
 apply a8 func32 [];have p:=iN s;have m:=bm.px s.cr s.pl o.pl (by have:=o.len;omega) x t;have O:ar (b1 s.cr s.pl)=true:=by simp[b1,ar,U.ax,jw]
 have u:=cP x;have v:=br t;have P:uK s g x=(decide (0<=c8 x (s.pl.l.map aK.id) 0)&&decide ((gB s.pl.l (c8 x (s.pl.l.map aK.id) 0).toNat).aA=g)):=rfl;rw[P];obtain⟨ae,G⟩:=aq (bx s);obtain⟨X,H⟩:=aq (ao x);rw[<-H] at m u v ⊢;rw[<-G] at p ⊢;obtain⟨z,ai,aD,W,ay,Y,au,am,ak,aB,az,Z,aw,ap,al,aC,aj⟩:=p;have I:X.take 32=X:=aI F;have q:=fun h=>BZ (x:=x) (s.pl.l.map aK.id) 0 h
 obtain⟨i,Q⟩:=aq (c8 x (s.pl.l.map aK.id) 0);rw[<-Q] at m q ⊢;simp[z,W,v,I];refine av m (by simp[ar,U.ax,O,u]) ?_;by_cases j:0<=i
 ·obtain⟨k,rfl⟩:=l4 j;have S:k<s.pl.l.length:=by
   obtain⟨ag,e,T⟩:=q j;have:=(aH.1 T).1;rw[cC] at this;omega
  obtain⟨y,w,V⟩:=aQ S;have J:=(hn (o.pl y V)).len;have R:bF (.ad 45) (cJ s.pl) _=_:=c6 w;have C:∀ h:0<(aX y).length,(aX y)[0]'h=.i6 y.aA:=fun _=>rfl
  have D:(aX y)[0]?=some (.i6 y.aA):=rfl;have K:=g3 w;simp[z,Y,Z,R,J,C,D,K];exact aG
 ·simp[j];exact aG
def ta (l:List cZ) (g:Int) :Bool:=decide (∃ r∈l,r.aA=g)
structure Mk (s:bH cZ) (aA:Int) (k:Nat) (sgZ:aP) (l:ae) :Prop where
 n3:l=[]
 kS:sgZ 0=fG s
 e7:sgZ 1=.i6 aA
 ja:sgZ 5=.i6 k
 jC:∀ (j:Nat) (t:cZ),j<k->s.l[j]?=some t->t.aA≠aA
theorem Nw (s:bH cZ) (D:CA s) (j:Int) :aV 33 [fG s,.i6 j] (.bool (ta s.l j)):=by
 apply a8 func33 [];have p:bt (.ad 34) (fG s)=_:=ca _;have Q:=D.2;simp;refine bw s.l.length (Mk s j) ?_ ⟨rfl,V,V,V,fun g J h=>F⟩;rintro k P l hk ⟨rfl,t,u,v,G⟩;obtain⟨P,rfl⟩:=gj t u v;clear t u v;by_cases m:k<s.l.length
 ·obtain⟨y,H,I⟩:=aQ m;have K:=cl (k:=k) F;have C:bF (.ad 34) (fG s) _=_:=c6 H;have B:(ch y).length=34:=by simp[ch,br (D.1 y I)]
  have w:∀ h:0<(ch y).length,(ch y)[0]'h=.i6 y.aA:=fun _=>rfl
  have z:(ch y)[0]?=some (.i6 y.aA):=rfl;by_cases h:y.aA=j
  ·simp[p,m,C,B,w,z,h];exact aR (by unfold ta;rw[bW (⟨y,I,h⟩:∃ r∈s.l,r.aA=j)]) rfl
  ·simp[p,m,C,B,w,z,h,K];refine⟨rfl,V,V,V,fun g J o q=>?_⟩;by_cases e:g=k
   ·subst e;rw[H] at q;obtain rfl:=cd q;exact h
   ·exact G g J F q
 ·simp[p,m];refine aR ?_ rfl;unfold ta;rw[cp];rintro⟨r,O,e⟩;obtain⟨g,o⟩:=cc.1 O;exact G g r (by have:=(aH.1 o).1;omega) o e
open b8 bm
theorem Yf {s:bl} (m:jZ s) {y:aK} (q:y∈s.pl.l) :uK s y.aA y.id=true:=by
 obtain⟨G,v⟩:=mG m.pen;obtain⟨C,D,u⟩:=(m9 s.pl.l).1 v;obtain⟨i,h⟩:=cc.1 q;have o:(s.pl.l.map aK.id)[i]?=some y.id:=by rw[bX,h];rfl
 have p:c8 y.id (s.pl.l.map aK.id) 0=((0+i:Nat) :Int):=pd o (fun t z B g e=>by
  rw[bX] at g;cases j:s.pl.l[t]? with
  | none=>rw[j] at g;cases g
  | some w=>
   rw[j] at g;have g:w.id=z:=cd g;have:=wC (f:=aK.id) u j h (g.trans e);omega) rfl
 unfold uK;rw[p,gT,bW F,fb,g3 h];simp
theorem Ye {s:bl} {m:Int} {x:List B} (h:∀ y∈s.pl.l,y.aA≠m) :uK s m x=false:=by
 unfold uK;by_cases j:0<=c8 x (s.pl.l.map aK.id) 0
 ·obtain⟨k,e,hk⟩:=BZ _ _ j;rw[bX] at hk;cases g:s.pl.l[k]? with
  | none=>rw[g] at hk;cases hk
  | some w=>
   rw[e,gT,fb,g3 g,cp (h w (cc.2 ⟨k,g⟩)),uN]
 ·rw[cp j];rfl
theorem Nv {j:cx} {v:Int} {h:List cZ} (p:h.Pairwise fun a b=>a.aA≠b.aA) (t:∀ x∈h,x.aA≠j.aA) {k:Nat} {x:cZ} (o:(⟨j.aA,v,j.id⟩::h:List cZ)[k+1]?=some x) :
  ta ((⟨j.aA,v,j.id⟩::h:List cZ).take (k+1)) x.aA=false:=by
 rw[ik] at o;unfold ta;rw[cp];rintro⟨r,g,e⟩;rw[EJ] at g;rcases fX.1 g with rfl | g
 ·exact t x (cc.2 ⟨k,o⟩) e.symm
 ·obtain⟨i,m⟩:=cc.1 g;have q:i<k:=by
   have:=(aH.1 m).1;rw[cI] at this;omega
  rw[dG q] at m;have:=wC (f:=cZ.aA) p m o e;omega
theorem OS {r:List cZ} {k:Nat} {x:cZ} (h:r[k]?=some x) :hL (r.take (k+1))=hL (r.take k)++(if x.ct=1 then [x.id] else []):=by
 unfold hL;rw[eD,h,kB,dk];show _++List.map cZ.id (List.filter _ [x])=_;by_cases g:x.ct=1
 ·rw[aj g,kC,aj (by simpa using g)];rfl
 ·rw[ak g,kC,ak (by simpa using g)];rfl
theorem Ga (r:List cZ) :(hL r).length<=r.length:=by unfold hL;rw[cC];exact hG _ _
structure Mu (J R:U) (s h b4:bl) (i p:Nat) (w:Int) (g:aN) (k:Nat) (sgZ:aP) (L:ae) :Prop where
 e7:sgZ 1=J
 h0:sgZ 2=.ptr 0 0 9
 ja:sgZ 5=.bool true
 lz:sgZ 6=.ptr 1 0 9
 m8:sgZ 8=.i6 i
 BH:sgZ 9=.ptr p 0 9
 BF:sgZ 10=R
 Hi:sgZ 12=.i6 w
 Qt:sgZ 13=.i6 k
 ol:L[0]?=some (.q 9 (bx s))
 mF:L[1]?=some (.q 9 (bx h))
 pp:L[p]?=some (.q 9 (bx b4))
 ex:∃ v j,sgZ 7=v/\aJ 32 L v j (g.map ao)/\(v=.af\/(2<=j/\j≠p))/\bq v=g.isEmpty
open b8 bm
structure Mv (J:U) (s:bl) (k:Nat) (sgZ:aP) (L:ae) :Prop where
 e7:sgZ 1=J
 h0:sgZ 2=.ptr 0 0 9
 ja:sgZ 5=.bool true
 lz:sgZ 6=.ptr 1 0 9
 m8:sgZ 8=.i6 k
 ol:L[0]?=some (.q 9 (bx s))
 ex:∃ h v j g,L[1]?=some (.q 9 (bx h))/\sgZ 7=v/\fQ h/\jZ h/\h.aL.aD.l=s.aL.aD.l++g/\cU (some g)/\g.length<=9*k/\aJ 32 L v j (g.map ao)/\(v=.af\/2<=j)/\bq v=g.isEmpty
theorem OW (s:bl) (cv:s8 s) (l:bH cx) (ci:∀ j∈l.l,p5 j) :Mr 6 [.ah (bx s),hZ l] [] (c:=⟨fun r _=>r=.bool true⟩):=by
 apply cR func6 [da 0 5++[[10],[5,10]]++da 6 4];have dZ:=dw;have dd:=OC s cv l ci;have c4:=kN s;have c9:(hZ l).ax=true:=m0 o0 l;have bB:bt (.ad 45) (hZ l)=_:=ca _;have o:∀ t:bl,(bx t).length=9:=fun _=>rfl
 have m:∀ t:bl,(bx t).take 9=bx t:=fun _=>rfl
 have bO:∀ t:bl,aw [U.i6 0,.af,.af,.i6 0,.af,.i6 0,.af,.i6 0,.bool false] 0 (bx t)=bx t:=fun t=>cH rfl
 simp[o,m];refine av Nx rfl ?_;simp[o,m];refine av dd (by simp[ar,U.ax,c4,c9]) ?_;cases h1:vr s l.l with
 | false=>simp
 | true=>
  obtain⟨dk,ce,df,dT⟩:=OB cv ci h1;simp[o,m,bO];refine bw l.l.length (Mv (hZ l) s) ?_ ⟨V,V,V,V,V,rfl,s,.af,0,[],rfl,V,dk,ce,V,fun _ h=>(eK h).elim,V,.nil 0,.inl rfl,rfl⟩;rintro k am L hk ⟨aO,aP,Q,R,aT,bM,g,dL,j,v,al,aR,u,bd,bf,bZ,dR,own,de,cn⟩;obtain⟨am,rfl⟩:=pJ aO aP Q R aR aT;clear aO aP Q R aR aT;by_cases aU:k<l.l.length
  ·obtain⟨x,bG,aG⟩:=aQ aU;have aH:=df x aG;have J:=lD aH;have ag:bF (.ad 45) (hZ l) _=_:=c6 bG;have cO:=cl (k:=k) F;have aE:=Gn g u x aH;have a3:=kN g;obtain⟨dQ,c2⟩:=aq (dy x);rw[<-c2] at J ag aE;obtain⟨bL,dC,ef,ed,nd,dD,eg,cA,cB⟩:=J;by_cases B:eS g x=0
   ·have dt:qE g x=(cT g x).1:=aj B;have P:qD g x=some (cT g x).2:=aj B;rw[dt,P,B] at aE;obtain⟨bg,bJ,dF,cN,_⟩:=wq u aH B;obtain⟨v0,uD,E⟩:=Ti u aH B;have a5:=IM u aH B;have ds:=IL u aH B;have O:=E.res;have bh:∀ y∈(cT g x).2,y.id.length=32:=fun y X=>PE (a5 y X)
    have cr:=E.ord;have cj:=E.len;have cq:=E.off;obtain⟨N,b8⟩:=aq ((cT g x).1);obtain⟨r,cs⟩:=aq ((cT g x).2);rw[<-b8] at aE bg bJ dF cN cj cq;rw[<-b8,<-cs] at cr;rw[<-cs] at aE a5 ds O bh;have cb:=Gp N bg;rw[(nt N).2 bJ] at cb;have bz:=kN N;have aC:bt (.ad 34) (fG (some r))=_:=ca _;have cu:bF (.ad 34) (fG (some r)) (.i6 0)=some (.bR (ch ⟨x.aA,v0,x.id⟩) 0):=by rw[O];rfl
    have a2:(ch ⟨x.aA,v0,x.id⟩).length=34:=a5 _ (by rw[O];simp);have t0:∀ h:0<(ch ⟨x.aA,v0,x.id⟩).length,(ch ⟨x.aA,v0,x.id⟩)[0]'h=.i6 x.aA:=fun _=>rfl
    have cC:(ch ⟨x.aA,v0,x.id⟩)[0]?=some (.i6 x.aA):=rfl;have t1:∀ h:1<(ch ⟨x.aA,v0,x.id⟩).length,(ch ⟨x.aA,v0,x.id⟩)[1]'h=.int .u8 v0:=fun _=>rfl
    have cD:(ch ⟨x.aA,v0,x.id⟩)[1]?=some (.int .u8 v0):=rfl;have ec:=E.v1;have du:¬ v0=0:=F;have dl:1<r.length->v0=1:=fun h=>E.one fun e=>by rw[O,e] at h;simp at h
    have dm:0<L.length:=aY bM;have dn:1<L.length:=aY al;obtain⟨cL,c1⟩:=aq (ch ⟨x.aA,v0,x.id⟩);rw[<-c1] at cu a2 t0 cC t1 cD;simp[bB,aU,al,o,m,ag,bL,cA];refine av aE (by simp[ar,U.ax,a3,cB]) ?_;simp[o,m,bO];refine av cb (by simp[ar,U.ax,bz]) ?_;have dq:¬ (r.length:Int)=0:=F;have dr:¬ r=[]:=by rw[O];simp
    have cZ:(1<r.length/\v0=1)\/(¬ 1<r.length/\v0=6)\/(¬ 1<r.length/\¬ v0=6):=by
     by_cases W:1<r.length
     ·exact .inl ⟨W,dl W⟩
     ·by_cases h:v0=6
      ·exact .inr (.inl ⟨W,h⟩)
      ·exact .inr (.inr ⟨W,h⟩)
    obtain⟨w,bE⟩:=aq (if v0=6 then 1 else 0:Int);have c0:decide ((1:Int)<(r.length:Int))=decide (1<r.length):=decide_eq_decide.2 F;rcases cZ with ⟨W,a7⟩ | ⟨W,a7⟩ | ⟨W,a7⟩
    all_goals
     simp[aC,c0,dq,dr,cu,a2,t0,cC,t1,cD,ag,bL,dC,dD,du,W,a7];refine bw r.length (fun k' bN aM=>Mu (hZ l) (fG (some r)) s g N k L.length w (v++hL (r.take k')) k' bN aM) ?_ ?_
     ·rintro k' bN aM dU ⟨aO,aP,Q,R,aT,b6,b2,b3,b4,aK,q1,Y,bi,a9,aR,aJ,p,aV⟩;obtain⟨bN,rfl⟩:=Eb aO aP Q R aR aT b6 b2 b3 b4;clear aO aP Q R aR aT b6 b2 b3 b4;by_cases K:k'<r.length
      ·obtain⟨y,X,cz⟩:=aQ K;have H:=a5 y cz;have D:bF (.ad 34) (fG (some r)) (.i6 (k' : Int))=some (.bR (ch y) 0):=by simp[fG,X]
       have ap:∀ h:0<(ch y).length,(ch y)[0]'h=.i6 y.aA:=fun _=>rfl
       have au:(ch y)[0]?=some (.i6 y.aA):=rfl;have ay:∀ h:1<(ch y).length,(ch y)[1]'h=.int .u8 y.ct:=fun _=>rfl
       have az:(ch y)[1]?=some (.int .u8 y.ct):=rfl;have bA:y.id.length=32:=bh y cz;have G:=br bA;have a8:=cP y.id;have Z:((ch y).drop 2).take 32=ao y.id:=by
        show (ao y.id).take 32=_;exact aI F
       have aW:IntKind.i64.wrap ((k' : Int)+1)=((k'+1:Nat) :Int):=by rw[IntKind.wrap_i64];omega
       have z:=OS X;have aB:(k' : Int)<(r.length:Int):=F;have b7:=aY aK;have bu:=aY q1;have bv:=aY Y;have cd:(v++hL (r.take k')).length<=1000000:=by
        have:=Ga (r.take k');rw[cg];rw[cI] at this;omega
       have dY:bq bi=true->(v++hL (r.take k'))=[]:=fun h=>by
        rw[aV] at h;exact uT.1 h
       have P:=uq G;by_cases dV:k'=0
       ·have S:decide ((0:Int)<(k' : Int))=false:=cp F;have T:¬ 0<k':=F;by_cases C:y.ct=1
        ·rw[aj C] at z;obtain⟨bP,bK,bk,bm,aN,cM,I,bn,bs⟩:=xN aJ G cd;rw[fc,<-z] at aN;simp[aC,K,aB,D,H,ay,az,C,Z,G,P];simp[bm];refine bY.bo ?_;simp[S,T];refine⟨K,V,V,V,V,V,V,V,V,by simp[aW],?_,?_,?_,bP,bK,V,aN,.inr ?_,?_⟩
         ·rw[I 0 b7 (p.imp id fun h=>F)];exact aK
         ·rw[I 1 bu (p.imp id fun h=>F)];exact q1
         ·rw[I _ bv (p.imp id fun h=>Ne.symm h.2)];exact Y
         ·rcases bn with h | ⟨h,h'⟩
          ·omega
          ·rw[h'];exact p.resolve_left h
         ·rw[bs,z,<-fc];simp
        ·rw[ak C,eb] at z;simp[aC,K,aB,D,H,ay,az,C,S,T];refine⟨V,V,V,V,V,V,V,V,by simp[aW],aK,q1,Y,bi,a9,V,?_,p,?_⟩
         ·rw[z];exact aJ
         ·rw[z];exact aV
       ·have S:decide ((0:Int)<(k' : Int))=true:=bW F;have T:0<k':=F;obtain⟨bc,bC⟩:∃ bc,k'=bc+1:=⟨k' - 1,F⟩
        have dx:uD[bc]?=some y:=by rw[O,bC,ik] at X;exact X
        have bI:y∈uD:=cc.2 ⟨bc,dx⟩;have dz:=E.ct y bI;obtain⟨es,dA,dO,dP⟩:=E.src y bI;have bQ:=LW g u y.aA y.id bA;have cE:=Yf bd dA;rw[dO,dP] at cE;rw[cE] at bQ;have bS:=LW N bg y.aA y.id bA;rw[Ye (cq y bI)] at bS;have cw:dB (.ad 34) (fG (some r)) none (some (.i6 (k' : Int))) none=some (fG (gJ (some r) k')):=DY (by show k'<=r.length;omega);have bU:=Nw (gJ (some r) k') ⟨fun t a6=>bh t (by rw[lV] at a6;exact gE a6),by rw[lV,cI];omega⟩ y.aA;have dM:ta (gJ (some r) k').l y.aA=false:=by
         rw[lV,bC,bH.lE,O];exact Nv E.ql E.SO (by rw[O,bC] at X;exact X)
        rw[dM] at bU;have b9:(fG (gJ (some r) k')).ax=true:=m0 tp _;by_cases C:y.ct=1
        ·rw[aj C] at z;obtain⟨bP,bK,bk,bm,aN,cM,I,bn,bs⟩:=xN aJ G cd;rw[fc,<-z] at aN;have cG:bk[1]?=some (.q 9 (bx g)):=by rw[I 1 bu (p.imp id fun h=>F)];exact q1
         have cK:bk[L.length]?=some (.q 9 (bx N)):=by rw[I _ bv (p.imp id fun h=>Ne.symm h.2)];exact Y
         simp[aC,K,aB,D,H,ay,az,C,Z,G,P];simp[bm];refine bY.bo ?_;simp[S,T,cG,o,m,D,H,ap,au,Z,G,P];refine av bQ (by simp[ar,U.ax,a3,a8]) ?_;simp[cK,o,m,D,H,ap,au,Z,G,P];refine av bS (by simp[ar,U.ax,bz,a8]) ?_;simp[D,H,ap,au,ay,az,C,cw];refine av bU (by simp[ar,U.ax,b9]) ?_;simp;refine⟨K,V,V,V,V,V,V,V,V,by simp[aW],?_,?_,?_,bP,bK,V,aN,.inr ?_,?_⟩
         ·rw[I 0 b7 (p.imp id fun h=>F)];exact aK
         ·rw[I 1 bu (p.imp id fun h=>F)];exact q1
         ·rw[I _ bv (p.imp id fun h=>Ne.symm h.2)];exact Y
         ·rcases bn with h | ⟨h,h'⟩
          ·omega
          ·rw[h'];exact p.resolve_left h
         ·rw[bs,z,<-fc];simp
        ·have dv:y.ct=8:=dz.resolve_left C;rw[ak C,eb] at z;simp[aC,K,aB,D,H,ay,az,C,Z,G,P];simp[S,T,q1,o,m,D,H,ap,au,Z,G,P];refine av bQ (by simp[ar,U.ax,a3,a8]) ?_;simp[S,T,Y,o,m,D,H,ap,au,Z,G,P];refine av bS (by simp[ar,U.ax,bz,a8]) ?_;simp[S,T,D,H,ap,au,ay,az,C,dv,cw];refine av bU (by simp[ar,U.ax,b9]) ?_;simp[S,T];refine⟨K,V,V,V,V,V,V,V,V,by simp[aW],aK,q1,Y,bi,a9,V,?_,p,?_⟩
         ·rw[z];exact aJ
         ·rw[z];exact aV
      ·have aB:¬ (k' : Int)<(r.length:Int):=F;have cf:k'=r.length:=F;rw[cf,fl] at aJ aV;have ea:r.length=uD.length+1:=by rw[O];rfl
       have ek:w=0\/w=1:=by rw[bE];split<;>omega
       have dW:(N.pl.l.length:Int)=(g.pl.l.length:Int)+w - (uD.length:Int):=by rw[bE];split at cj<;>simp_all<;>omega
       have eh:=u.len;have cV:IntKind.i64.wrap ((r.length:Int) - 1)=(uD.length:Int):=by rw[IntKind.wrap_i64];omega
       have cW:IntKind.i64.wrap ((g.pl.l.length:Int)+w)=(g.pl.l.length:Int)+w:=by rw[IntKind.wrap_i64];omega
       have cX:IntKind.i64.wrap ((g.pl.l.length:Int)+w - (uD.length:Int))=(N.pl.l.length:Int):=by rw[IntKind.wrap_i64];omega
       have a0:∀ (t:bl) (h:6<(bx t).length),(bx t)[6]'h=cJ t.pl:=fun _ _=>rfl
       have a1:∀ t:bl,(bx t)[6]?=some (cJ t.pl):=fun _=>rfl
       have bb:∀ t:bl,bt (.ad 45) (cJ t.pl)=some (.i6 t.pl.l.length):=fun t=>by simp[cJ]
       simp[aC,K,aB,Y,q1,o,m,a0,a1,bb,cV,cW,cX];refine⟨aU,V,V,V,V,by simp[cO],?_,N,bi,a9,v++hL r,?_,V,bg,bJ,by rw[cr,bf,fc],?_,?_,?_,?_,?_⟩
       ·show (aM.set 1 _)[0]?=_;rw[bp F];exact aK
       ·show (aM.set 1 _)[1]?=_;rw[bT (aY q1),show aw (bx g) 0 (bx N)=bx N from cH rfl]
       ·intro c ae;rcases eQ.1 ae with h | h
        ·exact bZ c h
        ·unfold hL at h;obtain⟨t,a6,rfl⟩:=cF.1 h;exact bh t (c7.1 a6).1
       ·have:=Ga r;rw[cg];omega
       ·exact aJ.cY (p.imp id fun h=>by show (aM.set 1 _)[a9]?=_;rw[bp F])
       ·exact p.imp id fun h=>h.1
       ·exact aV
     ·refine⟨V,V,V,V,V,V,V,by simp[bE,a7],V,?_,?_,?_,dL,j,V,?_,?_,?_⟩
      ·rw[aS dm];exact bM
      ·rw[aS dn];exact al
      ·simp
      ·rw[show v++hL (r.take 0)=v from eb v];exact own.more _
      ·rcases de with h | h
       ·exact .inl h
       ·rcases own.lt with h' | h'
        ·exact .inl h'
        ·exact .inr ⟨h,F⟩
      ·rw[cn,show v++hL (r.take 0)=v from eb v]
   ·simp[bB,aU,al,o,m,ag,bL,cA];refine av aE (by simp[ar,U.ax,a3,cB]) ?_;simp[o,m,bO];have c3:eS g x=8\/eS g x=32\/eS g x=18:=by
     unfold eS at B ⊢;split at B<;>(try split at B)<;>(try split at B)<;>(try split at B)<;>simp_all
    rcases c3 with h | h | h<;>simp[h]
  ·have cf:k=l.l.length:=F;have dg:¬ (k:Int)<(l.l.length:Int):=F;have cS:∀ t:bl,(bx t).take 5=ck t.aL:=fun _=>rfl
   have b0:∀ (t:bl) (h:4<(bx t).length),(bx t)[4]'h=ai t.aL.aD:=fun _ _=>rfl
   have b1:∀ t:bl,(bx t)[4]?=some (ai t.aL.aD):=fun _=>rfl
   have dE:∀ t:bl,bt (.ad 32) (ai t.aL.aD)=some (.i6 t.aL.aD.l.length):=fun t=>by simp[ai]
   have dG:=VM g.aL u.aL ((wY _).2 bd.st) s.aL.aD.l.length (by rw[bf,cg];omega);have dc:ar (ck g.aL)=true:=mi g.aL;have cy:=ur (la g.aL.aD s.aL.aD.l.length) (fp v) (fun c ae=>by rw[sq] at ae;exact u.aL.aD c (sT ae)) (fun c ae=>by rw[kw] at ae;exact bZ c ae) (by rw[sq,bf,xl];omega);rw[sq,kw,bf,xl,bW rfl] at cy;have c5:(ai (la g.aL.aD s.aL.aD.l.length)).ax=true:=bV _;simp[bB,aU,dg,bM,al,o,m,cS,b0,b1,dE];refine av dG (by simp[ar,U.ax,dc]) ?_;simp;refine g0 cy (.cons (.same _ c5) (.cons (own.lP cP (fp v) (by rw[cn,DW]) (kw v)) .nil)) rfl ?_;simp;refine bw g.pl.l.length (fun i am l=>l=L/\am 5=.bool true/\am 6=.ptr 1 0 9/\am 16=.i6 i) ?_ ⟨rfl,V,V,V⟩;rintro i am _ ce ⟨rfl,Q,R,b5⟩;obtain⟨am,rfl⟩:=gj Q R b5;clear Q R b5;have a0:∀ (t:bl) (h:6<(bx t).length),(bx t)[6]'h=cJ t.pl:=fun _ _=>rfl
   have a1:∀ t:bl,(bx t)[6]?=some (cJ t.pl):=fun _=>rfl
   have bb:∀ t:bl,bt (.ad 45) (cJ t.pl)=some (.i6 t.pl.l.length):=fun t=>by simp[cJ]
   by_cases a4:i<g.pl.l.length
   ·obtain⟨x,bG,aG⟩:=aQ a4;have bX:=hn (u.pl x aG);have ag:bF (.ad 45) (cJ g.pl) _=_:=c6 bG;have dh:=Gl g.aL.aD u.aL.aD (by have:=u.aL.no;omega) x.op (u.pl x aG).op;obtain⟨en,dI⟩:=mG bd.pen;obtain⟨dH,ei,ej⟩:=(m9 g.pl.l).1 dI;have cm:=(dH x aG).2.2.2.2;have dX:0<(dp g.aL.aD.l x.op).length:=by
     rw[<-(bd.ke x aG).2.2.2];unfold eO at cm;exact io (Bool.and_eq_true_iff.1 cm).1
    have db:=dN x.op;have c8:=bV g.aL.aD;have di:bt (.ad 32) (ai (fp (dp g.aL.aD.l x.op)))=some (.i6 (dp g.aL.aD.l x.op).length):=by simp[ai,kw]
    obtain⟨cL,a2⟩:=aq (aX x);rw[<-a2] at bX ag;obtain⟨dJ,rt,dK,ep,er,eo⟩:=bX;have cU:IntKind.i64.wrap ((i:Int)+1)=((i+1:Nat) :Int):=by rw[IntKind.wrap_i64];have:=u.len;omega
    simp[al,o,m,a0,a1,bb,a4,ag,b0,b1,dJ,dK];refine av dh (by simp[ar,U.ax,db,c8]) ?_;have dj:¬ (dp g.aL.aD.l x.op).length=0:=F;simp[di,dj,cU];exact a4
   ·simp[al,o,m,a0,a1,bb,a4]
end Op
end Go.bf

/-
  Lists of ids: whether they rise, walked in both texts.
-/
import Derived.Test.YtidejmkknleijaaGreatDoorKg
set_option linter.unusedVariables false
set_option linter.unusedSimpArgs false
set_option linter.unnecessarySimpa false
namespace Go.ca
open Go Go.Proofs
set_option maxRecDepth 100000
namespace Op
open hN
abbrev bQ (l:List (List B)) (k:Nat) :List B:=l.getD k []
def dk (l:List (List B)) :Bool:=decide (∀ k,k<l.length->1<=k->b6 (bQ l (k - 1)) (bQ l k)<0)
def wn (l:List (List B)) :Bool:=decide (∀ k,k<l.length->1<=k->¬ b6 (bQ l k) (bQ l (k - 1))<0)
theorem fF {l:List (List B)} {k:Nat} {x:List B} (h:l[k]? = some x) :bQ l k=x:=by
 unfold bQ; rw[ako,h]; rfl
theorem El {l:List (List B)} (h:∀ k,k<l.length->1<=k->b6 (bQ l (k - 1)) (bQ l k)<0) :dk l=true:=decide_eq_true h
theorem Qm {l:List (List B)} {k:Nat} (ax:k<l.length) (ad:1<=k) (h:¬ b6 (bQ l (k - 1)) (bQ l k)<0) :dk l=false:=decide_eq_false fun aR=>h (aR k ax ad)
theorem QS {l:List (List B)} (h:∀ k,k<l.length->1<=k->¬ b6 (bQ l k) (bQ l (k - 1))<0) :wn l=true:=decide_eq_true h
theorem acF {l:List (List B)} {k:Nat} (ax:k<l.length) (ad:1<=k) (h:b6 (bQ l k) (bQ l (k - 1))<0) :wn l=false:=decide_eq_false fun aR=>aR k ax ad h
theorem cP {x:List B} (h:x.length=32) :(aX x).length=32:=by simp[aX,h]
theorem PZ (a:eE) (aC:eh a) (am:a.l.length<=1000000) :bn Tryz.prog GS 173 [az a] (.bool (dk a.l)) :=by
 refine bD Tryz.checked.mixed bx ?_;apply bf Tryz.func173 [];simp[az];refine cm (a.l.length - 1) (fun k ae l=>ae 0=ct 32 aX a/\ae 3=.int .i64 ((k+1:Nat) :Int)/\∀ j,j<k+1->j<a.l.length->1<=j->b6 (bQ a.l (j - 1)) (bQ a.l j)<0) ?_ ⟨by simp[az],by simp,fun j ad _ af=>by omega⟩;rintro k ae l ax ⟨cp,aZ,ak⟩;obtain⟨s,rfl⟩:=o6 cp aZ;clear cp aZ;obtain⟨m,hm⟩:∃ m,m=k+1:=⟨_,rfl⟩
 rw[<-hm] at ak ⊢;simp;refine nD (fun h=>?_) (fun h=>?_)
 ·simp only[decide_eq_true_eq] at h;have aO:m<a.l.length:=by omega
  obtain⟨x,ai,c7⟩:=bF (l:=a.l) (k:=k) (by omega);obtain⟨y,aL,dP⟩:=bF aO;have aS:IntKind.i64.wrap ((m:Int) - 1)=(k:Int) :=by rw[IntKind.wrap_i64]; omega
  have bv:IntKind.i64.wrap ((m:Int)+1)=((m+1:Nat) :Int) :=by rw[IntKind.wrap_i64]; omega
  have ew:=fF ai;have qM:=fF aL;simp[aS,ai,aL,cP (aC x c7),cP (aC y dP),aj9];refine aY (IX x y (aC x c7) (aC y dP)) (by simp[a1,fU,U.closed,fY]) ?_;by_cases ah:b6 x y<0
  ·have eP:¬ (0<=b6 x y) :=by omega
   simp[eP,bv];refine⟨by omega,fun j ad af al=>?_⟩;have eX:b6 (bQ a.l (j - 1)) (bQ a.l j)<0:=by
    by_cases aj:j=m
    ·rw[aj,show m - 1=k by omega,ew,qM]; exact ah
    ·exact ak j (by omega) af al
   simpa [bQ] using eX
  ·have eP:0<=b6 x y:=by omega
   simp[eP];refine aJ (congrArg U.bool (Qm (k:=m) aO (by omega) ?_).symm) rfl;rw[show m - 1=k by omega,ew,qM];exact ah
 ·simp[h];exact aJ (congrArg U.bool (El fun j ad af=>ak j (by simp at h; omega) ad af).symm) rfl
theorem FT:j2 Tryz.prog 75=true:=by kernel_rfl
theorem YB (a:eE) (aC:eh a) (am:a.l.length<=1000000) :bn Tryz.prog GS 135 [az a,.fn 75 [] []] (.bool (wn a.l)) :=by
 refine bD Tryz.checked.mixed bx ?_;apply bf Tryz.func135 [];have hr:IntKind.i64.wrap ((a.l.length:Int) - 1)=(a.l.length:Int) - 1:=by rw[IntKind.wrap_i64]; omega
 simp[az,hr];refine cm (a.l.length - 1) (fun k ae l=>ae 0=ct 32 aX a/\ae 1=.fn 75 [] []/\ae 5=.int .i64 ((a.l.length:Int) - 1 - k)/\∀ j,j<a.l.length->a.l.length - 1 - k<j->¬ b6 (bQ a.l j) (bQ a.l (j - 1))<0) ?_ ⟨by simp[az],by simp,by simp,fun j ad af=>by omega⟩;rintro k ae l ax ⟨cp,aN,bg,ak⟩;obtain⟨s,rfl⟩:=jT cp aN bg;clear cp aN bg;simp;refine nD (fun h=>?_) (fun h=>?_)
 ·simp only[decide_eq_true_eq] at h;obtain⟨m,hm⟩:∃ m,m+k+2=a.l.length:=⟨a.l.length - 2 - k,by omega⟩
  have aS:((a.l.length:Int) - 1 - k)=((m+1:Nat) :Int) :=by omega
  rw[aS];obtain⟨x,ai,c7⟩:=bF (l:=a.l) (k:=m+1) (by omega);obtain⟨y,aL,dP⟩:=bF (l:=a.l) (k:=m) (by omega);obtain⟨n,aD⟩:∃ n,n=m+1:=⟨_,rfl⟩
  rw[<-aD] at ai ⊢;have bv:IntKind.i64.wrap ((n:Int) - 1)=(m:Int) :=by rw[IntKind.wrap_i64]; omega
  have ew:=fF ai;have qM:=fF aL;simp[bv,ai,aL,cP (aC x c7),cP (aC y dP),aj9];refine⟨FT,aY (sW x y (aC x c7) (aC y dP)) (by simp[a1,fU,U.closed,fY]) ?_⟩;by_cases ah:b6 x y<0
  ·simp[ah];refine aJ (congrArg U.bool (acF (k:=n) (by omega) (by omega) ?_).symm) rfl;rw[show n - 1=m by omega,ew,qM];exact ah
  ·simp[ah,bv];refine⟨by omega,by omega,fun j ad af=>?_⟩;have eX:¬ b6 (bQ a.l j) (bQ a.l (j - 1))<0:=by
    by_cases aj:j=n
    ·rw[aj,show n - 1=m by omega,ew,qM]; exact ah
    ·exact ak j ad (by omega)
   simpa [bQ] using eX
 ·simp[h];exact aJ (congrArg U.bool (QS fun j ad af=>ak j ad (by simp at h; omega)).symm) rfl
def wY (l:List (List B)) (k:Nat) :Bool:=decide (k+1<l.length)&&decide (0<=b6 (bQ l k) (bQ l (k+1)))
theorem Ql {l:List (List B)}:dk l=true<->∀ k,k<l.length->wY l k=false:=by
 unfold dk wY;rw[decide_eq_true_eq];constructor
 ·intro h k ax;by_cases ad:k+1<l.length
  ·have:=h (k+1) ad (by omega);rw[Nat.add_sub_cancel] at this;rw[decide_eq_false (p:=0<=_) (by omega),Bool.and_false]
  ·simp[ad]
 ·intro h k ax ad;have:=h (k - 1) (by omega);rw[show k - 1+1=k by omega] at this;rw[decide_eq_true ax,alx,decide_eq_false_iff_not] at this;omega
theorem abL (a:eE) (aC:eh a) (am:a.l.length<=1000000) (k:Nat) (ax:k<a.l.length) (x:List B) (ai:x.length=32) (r:ap) {K:U->ap->Prop}
  (bj:∀ dT,K (.bool (wY a.l k)) (.cells 1 [az a] ::.cells 1 [.int .i64 ((k+1:Nat) :Int)] ::dT)) :
  dg Tryz.prog GS 187 [fY x,.ptr 1 0 1,.ptr 0 0 1] (.cells 1 [az a] ::.cells 1 [.int .i64 (k:Int)] ::r) (c:=⟨K⟩) :=by
 apply bf Tryz.func187 [];have aS:IntKind.i64.wrap ((k:Int)+1)=((k+1:Nat) :Int) :=by rw[IntKind.wrap_i64]; omega
 obtain⟨m,hm⟩:∃ m,m=k+1:=⟨_,rfl⟩
 rw[<-hm] at aS bj;have bv:IntKind.i64.wrap ((m:Int) - 1)=(k:Int) :=by rw[IntKind.wrap_i64]; omega
 unfold wY at bj;rw[<-hm] at bj;obtain⟨y,aL,dP⟩:=bF ax;by_cases h:m<a.l.length
 ·obtain⟨z,aw,xT⟩:=bF h;have qM:=fF aL;have YD:=fF aw;rw[qM,YD] at bj;have h' : (m:Int)<(a.l.length:Int) :=by omega
  have Ar:a.l[m]=z:=(aj7.1 aw).2;simp[fY,az,aS,bv,h,h',aL,Ar,cP (aC y dP),cP (aC z xT),aj9];refine aY (sW y z (aC y dP) (aC z xT)) (by simp[a1,fU,U.closed,fY]) ?_;have:=bj (r++[aU.cells x.length (List.map bz x)]);simpa [h,az] using this
 ·have h' : ¬ (m:Int)<(a.l.length:Int) :=by omega
  simp[fY,az,aS,bv,h,h'];have:=bj (r++[aU.cells x.length (List.map bz x)]);simpa [h,az] using this
theorem UM:j2 Tryz.prog 187=true:=by kernel_rfl
theorem abN (a:eE) (aC:eh a) (am:a.l.length<=1000000) {K:U->ap->Prop} (bj:∀ n dT,(n<0<->dk a.l=true)->K (.int .i64 n) dT) :
  dg Tryz.prog GS 101 [az a,.fn 187 [] [.ptr 1 0 1,.ptr 0 0 1]] [.cells 1 [az a],.cells 1 [.int .i64 0]] (c:=⟨K⟩) :=by
 apply bf Tryz.func101 [];simp[az];refine cm a.l.length (fun k ae l=>ae 0=ct 32 aX a/\ae 1=.fn 187 [] [.ptr 1 0 1,.ptr 0 0 1]/\ae 7=.int .i64 a.l.length/\ae 8=.int .i64 k/\(∃ r,l=.cells 1 [az a] ::.cells 1 [.int .i64 (k:Int)] ::r)/\∀ j,j<k->wY a.l j=false) ?_ ⟨by simp[az],by simp,by simp,by simp,⟨[],by simp[az]⟩,fun j h=>by omega⟩;rintro k ae l ax ⟨cp,aN,ez,fB,⟨r,rfl⟩,ak⟩;obtain⟨s,rfl⟩:=h1 cp aN ez fB;clear cp aN ez fB;simp;refine nD (fun h=>?_) (fun h=>?_)
 ·simp only[decide_eq_true_eq] at h;obtain⟨x,ai,c7⟩:=bF (l:=a.l) (k:=k) (by omega);have aS:IntKind.i64.wrap ((k:Int)+1)=((k+1:Nat) :Int) :=by rw[IntKind.wrap_i64]; omega
  simp[ai,cP (aC x c7),aj9];refine⟨UM,abL a aC am k (by omega) x (aC x c7) r fun dT=>?_⟩;cases bh:wY a.l k with
  | true=>
   simp;refine bj _ _ ⟨fun aD=>by omega,fun ay=>?_⟩;have:=Ql.1 ay k (by omega);rw[bh] at this; cases this
  | false=>
   simp[aS];refine⟨by omega,fun j aj=>?_⟩;by_cases fX:j=k
   ·subst fX; exact bh
   ·exact ak j (by omega)
 ·simp[h];refine bj _ _ ⟨fun _=>Ql.2 fun j aj=>ak j (by simp at h; omega),fun _=>by omega⟩
theorem abM (a:eE) (aC:eh a) (am:a.l.length<=1000000) {K:U->ap->Prop} (bj:∀ dT,K (.bool (!dk a.l)) dT) :
  dg Tryz.prog GS 97 [az a,.fn 187 [] [.ptr 1 0 1,.ptr 0 0 1]] [.cells 1 [az a],.cells 1 [.int .i64 0]] (c:=⟨K⟩) :=by
 apply bf Tryz.func97 [];simp;refine abN a aC am fun n dT aD=>?_
 have e:decide (0<=n)=!dk a.l:=by
  cases ay:dk a.l with
  | true=>have:=aD.2 ay; simp; omega
  | false=>
   have:¬ n<0:=fun h=>by have:=aD.1 h; rw[ay] at this; cases this
   simp; omega
 simp[e];exact bj dT
theorem abO (a:eE) (aC:eh a) (am:a.l.length<=1000000) :bn Tryz.prog GS 152 [az a] (.bool (dk a.l)) :=by
 refine bD Tryz.checked.mixed bx ?_;apply bf Tryz.func152 [];have ah:(az a).cells=some [az a] :=by cases a<;>rfl
 simp[ah];refine abM a aC am fun dT=>?_
 simp;exact aJ rfl rfl
def pS (l:List (List B)) :List B:=dS l.length++l.flatten
theorem K0:∀ (x:List B),nm 1 x.length (x.map bz)=x.map b0
 | []=>rfl
 | b::r=>by
  show ((bz b::r.map bz).take 1) ::nm 1 r.length ((bz b::r.map bz).drop 1)=_;simp[K0 r,b0]
theorem Tu {x:List B} (h:x.length=32) :nm 1 32 (aX x)=x.map b0:=by
 have:=K0 x;rw[h] at this;exact this
theorem HI {l:List (List B)} (h:∀ x∈l,x.length=32) :l.flatten.length=l.length*32:=ol h
theorem Q9 {l:List (List B)} {k:Nat} {x:List B} (h:l[k]? = some x) :(l.take (k+1)).flatten=(l.take k).flatten++x:=by
 rw[akC,h]; simp
theorem acv {x:List B} (h:x.length=32) :e3 (.arr 32 1) (.cg (aX x) 0) none none none=some (.b1 1 (x.map b0)) :=by
 have:=Tu h;have ag:gp 32 32 none none none=some (0,32,32) :=rfl;unfold e3;simp only[ag];simp[cP h,this]
structure R8 (l:ap) (s:eE) (k:Nat) (ae:a7) (l1:ap) :Prop where
 cp:ae 0=ct 32 aX s
 a9:ae 4=.int .i64 k
 x8:∃ v,ae 3=v/\cz 1 b0 l l1 v (dS s.l.length++(s.l.take k).flatten) false
theorem aaT (s:eE) (au:eh s) (ak:s.l.length<=1000) {l:ap} {K:U->ap->Prop} (bj:∀ v l',cz 1 b0 l l' v (pS s.l) false->K v l') :
  dg Tryz.prog GS 224 [az s] l (c:=⟨K⟩) :=by
 apply bf Tryz.func224 [];have ay:cF=140737488355328:=rfl;have aD:(BitVec.ofNat 64 s.l.length).toNat=s.l.length:=by rw[aky]; exact akn (by omega)
 have jB:=hI s.l.length;simp[az];refine uf _ fun v l' h=>?_
 rw[aD] at h;simp;refine cm s.l.length (R8 l s) ?_ ⟨by simp[az],by simp,v,by simp,by simpa using h⟩;rintro k ae l1 ax ⟨cp,a9,v,aZ,eY⟩;obtain⟨ae,rfl⟩:=jT cp aZ a9;clear cp aZ a9;simp;refine nD (fun h=>?_) (fun h=>?_)
 ·simp only[decide_eq_true_eq] at h;obtain⟨x,ai,c7⟩:=bF (l:=s.l) (k:=k) (by omega);have aS:IntKind.i64.wrap ((k:Int)+1)=((k+1:Nat) :Int) :=by rw[IntKind.wrap_i64]; omega
  have gI:((s.l.take k).flatten).length<=32000:=by
   rw[HI (fun y aL=>au y (akD aL)),akB]; omega
  obtain⟨a4,bt,a2,bb,_⟩:=eY.app (by_:=1) (x:=.b1 1 (x.map b0)) (xs:=x) (by simp[dd]) (by simp[b0]) (by omega) (by omega) (by rw[ay,au x c7]; simp only[akf]; omega);simp[ai,cP (au x c7),aj9,acv (au x c7),a2];refine cM.cc ?_;simp[aS];exact⟨by omega,by simp,by simp,a4,by simp,by rw[Q9 ai,<-akU]; exact bb⟩
 ·simp[h];have a3:s.l.take k=s.l:=aj9 (by simp at h; omega);rw[a3] at eY;exact bj _ _ eY
structure R9 (l:ap) (s:eE) (k:Nat) (ae:a7) (l1:ap) :Prop where
 ot:ae 17=ct 32 aX s
 ou:ae 18=.int .i64 s.l.length
 ov:ae 19=.int .i64 k
 x8:∃ v,ae 4=v/\cz 1 b0 l l1 v (dS s.l.length++(s.l.take k).flatten) false
theorem adF (s:eE) (au:eh s) (ak:s.l.length<=60) (ay:dk s.l=true) {l:ap} {K:U->ap->Prop} (bj:∀ v l',cz 1 b0 l l' v (pS s.l) false->K (.bu [v,.int .i64 0]) l') :
  dg Tryz.prog GS 109 [az s] l (c:=⟨K⟩) :=by
 apply bf Tryz.func109 [];have tq:cF=140737488355328:=rfl;have aD:(BitVec.ofNat 64 s.l.length).toNat=s.l.length:=by rw[aky]; exact akn (by omega)
 have jB:=hI s.l.length;have pm:¬ (60:Int)<(s.l.length:Int) :=by omega
 simp[az,pm];refine aY (abO s au (by omega)) (by have:=cW s; simp[a1]; exact this) ?_;simp[ay,az];refine wr _ fun v l' h=>?_
 rw[aD] at h;simp[az];refine cm s.l.length (R9 l s) ?_ ⟨by simp[az],by simp,by simp,v,by simp,by simpa using h⟩;rintro k ae l1 ax ⟨ot,ou,ov,v,a9,eY⟩;obtain⟨ae,rfl⟩:=h1 ot ou ov a9;clear ot ou ov a9;simp;refine nD (fun h=>?_) (fun h=>?_)
 ·simp only[decide_eq_true_eq] at h;obtain⟨x,ai,c7⟩:=bF (l:=s.l) (k:=k) (by omega);have aS:IntKind.i64.wrap ((k:Int)+1)=((k+1:Nat) :Int) :=by rw[IntKind.wrap_i64]; omega
  have gI:((s.l.take k).flatten).length<=32000:=by
   rw[HI (fun y aL=>au y (akD aL)),akB]; omega
  obtain⟨a4,bt,a2,bb,_⟩:=(eY.more [.cells 32 (aX x)]).app (by_:=1) (x:=.ar 1 l1.length 0 32 32 32) (xs:=x) (by simp[dd,au x c7,cP (au x c7),aj9,aX,zh]) (by simp[b0]) (by omega) (by omega) (by rw[tq,au x c7]; simp only[akf]; omega);have pG:bi (rep 32 (.int .u8 0)) 0 (aX x)=aX x:=gl (by rw[cP (au x c7)]; rfl);simp[ai,cP (au x c7),aj9,Jg,pG,a2];refine cM.cc ?_;simp[aS];exact⟨by omega,by simp,by simp,by simp,a4,by simp,by rw[Q9 ai,<-akU]; exact bb⟩
 ·simp[h];have a3:s.l.take k=s.l:=aj9 (by simp at h; omega);rw[a3] at eY;exact bj _ _ eY
def fy (s:List UInt8) :List B:=s.map fun b=>b.toBitVec
theorem Ey (s:List UInt8) :(s.map fun b=>[iK b])=(fy s).map b0:=by
 unfold fy;rw[alN];rfl
theorem o0 (s:List UInt8) :(fy s).length=s.length:=by simp[fy]
def nh (b:Q) (k:Nat) :List B:=(List.range k).map fun i=>kU b.toNat (7 - i)
def iD (v:h3) :List B:=v.kind::(if v.kind=1#8 then dS (lN v.num).toNat else if v.kind=2#8 then nh v.bits 8 else iB (fy v.text))
def Ir (v:h3) :Prop:=-9223372036854775808<=v.num/\v.num<9223372036854775808/\v.text.length<=10000
theorem KE (b:Q) (k:Nat) :nh b (k+1)=nh b k++[kU b.toNat (7 - k)] :=by
 unfold nh; rw[amd,aks]; rfl
theorem O2 (l:ap) (c:aU) (x:B) :cz 1 b0 l (l++[c,.cells 1 [bz x]]) (.ar 1 (l.length+1) 0 1 1 1) [x] false:=by
 exact⟨l.length+1,pY (n:=1) (a:=[x]) rfl (by simp),by simp,fun b ag=>aj8 ag,.inr (by omega),rfl⟩
theorem sf (l:ap) (c:aU) (x:B) :cz 1 b0 (l++[c]) (l++[c,.cells 1 [bz x]]) (.ar 1 (l.length+1) 0 1 1 1) [x] false:=by
 have e:l++[c,.cells 1 [bz x]]=(l++[c])++[.cells 1 [bz x]] :=by simp
 exact⟨l.length+1,pY (n:=1) (a:=[x]) rfl (by simp),by simp,fun b ag=>by rw[e]; exact aj8 ag,.inr (by simp),rfl⟩
structure RY (l:ap) (v:h3) (p:Nat) (k:Nat) (ae:a7) (l1:ap) :Prop where
 aN:ae 1=.ptr p 0 4
 a9:ae 4=.int .i64 (7 - (k:Int))
 x8:∃ w,ae 3=w/\cz 1 b0 (l++[.cells 4 (eO v)]) l1 w (v.kind::nh v.bits k) false
theorem abf (v:h3) (aq:Ir v) {l:ap} {K:U->ap->Prop} (bj:∀ w l',cz 1 b0 l l' w (iD v) false->K w l') :
  dg Tryz.prog GS 226 [.aH (eO v)] l (c:=⟨K⟩) :=by
 apply bf Tryz.func226 [];have ay:cF=140737488355328:=rfl;have aF:=O2 l (.cells 4 (eO v)) v.kind;obtain⟨qz,rQ,a3⟩:=aq;have ah:vf (.str v.text)=some (.b1 1 ((fy v.text).map b0)) :=by
  show some (U.b1 1 (v.text.map fun b=>[iK b]))=_;rw[Ey]
 by_cases b5:v.kind=1#8
 ·have pI:iD v=[v.kind]++dS (lN v.num).toNat:=by unfold iD; rw[if_pos b5]; rfl
  have aS:(u v.kind:Int)=1:=(h0 v.kind).2 b5;simp only[bz,aS] at aF;have jB:=hI (lN v.num).toNat
  simp[eO,aS];refine aa5 v.num qz rQ fun w l' h=>?_
  obtain⟨a4,bt,a2,bb,_⟩:=(aF.frame h.le h.same).app (by_:=1) (x:=w) (xs:=dS (lN v.num).toNat) h.contents (by simp[b0]) (by omega) (by omega) (by rw[ay]; simp only[akv,akR]; omega);simp[a2];refine cM.cc ?_;simp;exact bj _ _ (by rw[pI]; exact bb)
 ·have aS:¬ (u v.kind:Int)=1:=fun h=>b5 ((h0 v.kind).1 h)
  by_cases ce:v.kind=2#8
  ·have bv:(u v.kind:Int)=2:=(kS v.kind).2 ce;have pI:iD v=v.kind::nh v.bits 8:=by unfold iD; rw[if_neg b5,if_pos ce]
   have af:=sf l (.cells 4 (eO v)) v.kind;simp only[bz,bv] at af;simp[eO,bv];refine cm 8 (RY l v l.length) ?_ ⟨by simp,by simp,_,by simp,af⟩;rintro k ae l1 ax ⟨aN,a9,w,aZ,eY⟩;have av:l1[l.length]? = some (.cells 4 (eO v)) :=by rw[eY.same l.length (by simp)]; simp
   obtain⟨ae,rfl⟩:=jT aN aZ a9;clear aN aZ a9;by_cases hH:k=8
   ·subst hH;rw[<-pI] at eY;simp;exact bj _ _ (eY.base (by simp) fun b ag=>aj8 ag)
   ·obtain⟨m,hm⟩:∃ m,m+k=7:=⟨7 - k,by omega⟩
    have em:7 - (k:Int)=(m:Int) :=by omega
    have FJ:IntKind.i64.wrap ((m:Int) - 1)=(m:Int) - 1:=by rw[IntKind.wrap_i64]; omega
    have Ud:IntKind.i64.wrap (8*(m:Int))=((8*m:Nat) :Int) :=by rw[IntKind.wrap_i64]; omega
    have o7:cj .shr .u64 (u v.bits) .i64 ((8*m:Nat) :Int)=some (.int .u64 (u (v.bits >>> (8*m)))) :=sO v.bits .i64 (8*m);have p7:=BV v.bits m;have bC:(v.kind::nh v.bits k).length<=1000000000:=by simp[nh]; omega
    obtain⟨w',l',a2,bb⟩:=cz.push eY (kU v.bits.toNat m) bC;rw[em];simp[eO] at av;simp[av,Ud,o7,p7,a2,-Int.natCast_mul];refine cM.cc ?_;simp[FJ];exact⟨by omega,by simp,by simp; omega,w',by simp,by rw[KE,show 7 - k=m by omega]; exact bb⟩
  ·have bv:¬ (u v.kind:Int)=2:=fun h=>ce ((kS v.kind).1 h)
   have pI:iD v=[v.kind]++iB (fy v.text) :=by unfold iD; rw[if_neg b5,if_neg ce]; rfl
   have kI:(iB (fy v.text)).length<=20000:=by
    have:=hI (fy v.text).length;unfold iB;rw[akf];have:=o0 v.text;omega
   simp[eO,aS,bv,ah];refine P3 (some (fy v.text)) (by simpa [o0] using a3) (by simp[dd]) (by simp) (fun l' _ _=>by simp[dd]) fun w l' h=>?_
   obtain⟨a4,bt,a2,bb,_⟩:=(aF.frame h.le h.same).app (by_:=1) (x:=w) (xs:=iB (fy v.text)) h.contents (by simp[b0]) (by omega) (by omega) (by rw[ay]; simp only[akv,akR]; omega);simp[a2];refine cM.cc ?_;simp;exact bj _ _ (by rw[pI]; exact bb)
structure RZ (l:ap) (v:h3) (p:Nat) (k:Nat) (ae:a7) (l1:ap) :Prop where
 aN:ae 1=.ptr p 0 4
 cq:ae 6=.int .i64 (8*(7 - (k:Int)))
 x8:∃ w,ae 5=w/\cz 1 b0 (l++[.cells 4 (eO v)]) l1 w (v.kind::nh v.bits k) false
theorem YJ {v:h3} (h:jU v=true) (b5:¬ v.kind=1#8) (ce:¬ v.kind=2#8) :v.kind=3#8:=by
 unfold jU at h;simp[b5,ce] at h;exact h.1
theorem adJ (v:h3) (aq:Ir v) (c0:jU v=true) {l:ap} {K:U->ap->Prop} (bj:∀ w l',cz 1 b0 l l' w (iD v) false->K (.bu [w,.int .i64 0]) l') :
  dg Tryz.prog GS 113 [.aH (eO v)] l (c:=⟨K⟩) :=by
 apply bf Tryz.func113 [];have ay:cF=140737488355328:=rfl;have aF:=O2 l (.cells 4 (eO v)) v.kind;obtain⟨qz,rQ,a3⟩:=aq;have ah:vf (.str v.text)=some (.b1 1 ((fy v.text).map b0)) :=by
  show some (U.b1 1 (v.text.map fun b=>[iK b]))=_;rw[Ey]
 have ff:=Rs v;rw[c0] at ff;by_cases b5:v.kind=1#8
 ·have pI:iD v=[v.kind]++dS (lN v.num).toNat:=by unfold iD; rw[if_pos b5]; rfl
  have aS:(u v.kind:Int)=1:=(h0 v.kind).2 b5;simp only[bz,aS] at aF;have jB:=hI (lN v.num).toNat
  simp[eO];refine aY ff rfl ?_;simp[lp,aS];refine adI v.num qz rQ fun w l' h=>?_
  obtain⟨a4,bt,a2,bb,_⟩:=(aF.frame h.le h.same).app (by_:=1) (x:=w) (xs:=dS (lN v.num).toNat) h.contents (by simp[b0]) (by omega) (by omega) (by rw[ay]; simp only[akv,akR]; omega);simp[a2];refine cM.cc ?_;simp;exact bj _ _ (by rw[pI]; exact bb)
 ·have aS:¬ (u v.kind:Int)=1:=fun h=>b5 ((h0 v.kind).1 h)
  by_cases ce:v.kind=2#8
  ·have bv:(u v.kind:Int)=2:=(kS v.kind).2 ce;have pI:iD v=v.kind::nh v.bits 8:=by unfold iD; rw[if_neg b5,if_pos ce]
   have af:=sf l (.cells 4 (eO v)) v.kind;simp only[bz,bv] at af;simp[eO];refine aY ff rfl ?_;simp[lp,bv];refine cm 8 (RZ l v l.length) ?_ ⟨by simp,by simp,_,by simp,af⟩;rintro k ae l1 ax ⟨aN,cq,w,bg,eY⟩;have av:l1[l.length]? = some (.cells 4 (eO v)) :=by rw[eY.same l.length (by simp)]; simp
   obtain⟨ae,rfl⟩:=jT aN bg cq;clear aN bg cq;by_cases hH:k=8
   ·subst hH;rw[<-pI] at eY;simp;exact bj _ _ (eY.base (by simp) fun b ag=>aj8 ag)
   ·obtain⟨m,hm⟩:∃ m,m+k=7:=⟨7 - k,by omega⟩
    obtain⟨n,aD⟩:∃ n,n=8*m:=⟨_,rfl⟩
    have em:8*(7 - (k:Int))=(n:Int) :=by omega
    have FJ:IntKind.i64.wrap ((n:Int) - 8)=(n:Int) - 8:=by rw[IntKind.wrap_i64]; omega
    have o7:cj .shr .u64 (u v.bits) .i64 (n:Int)=some (.int .u64 (u (v.bits >>> n))) :=sO v.bits .i64 n;have p7:=BV v.bits m;rw[<-aD] at p7;have bC:(v.kind::nh v.bits k).length<=1000000000:=by simp[nh]; omega
    obtain⟨w',l',a2,bb⟩:=cz.push eY (kU v.bits.toNat m) bC;rw[em];simp[eO] at av;simp[av,o7,p7,a2];refine cM.cc ?_;simp[FJ];exact⟨by omega,by simp,by simp; omega,w',by simp,by rw[KE,show 7 - k=m by omega]; exact bb⟩
  ·have bv:¬ (u v.kind:Int)=2:=fun h=>ce ((kS v.kind).1 h)
   have eR:(u v.kind:Int)=3:=(nU v.kind).2 (YJ c0 b5 ce);have pI:iD v=[v.kind]++iB (fy v.text) :=by unfold iD; rw[if_neg b5,if_neg ce]; rfl
   have kI:(iB (fy v.text)).length<=20000:=by
    have:=hI (fy v.text).length;unfold iB;rw[akf];have:=o0 v.text;omega
   simp only[bz,eR] at aF;simp[eO];refine aY ff rfl ?_;simp[lp,eR,ah];refine Ry (some (fy v.text)) (by simpa [o0] using a3) (by simp[dd]) (by simp) (fun l' _ _=>by simp[dd]) fun w l' h=>?_
   obtain⟨a4,bt,a2,bb,_⟩:=(aF.frame h.le h.same).app (by_:=1) (x:=w) (xs:=iB (fy v.text)) h.contents (by simp[b0]) (by omega) (by omega) (by rw[ay]; simp only[akv,akR]; omega);simp[a2];refine cM.cc ?_;simp;exact bj _ _ (by rw[pI]; exact bb)
structure bl where
 gG:D
 bd:eE
 hA:Q
 act:Act
 e:D
 s:D
def a5 (o:bl) :List U:=[bp o.gG,az o.bd,dI o.hA,bz o.act.kind,.str o.act.key,bz o.act.val.kind,.int .i64 o.act.val.num,dI o.act.val.bits,.str o.act.val.text,bp o.e,bp o.s]
structure ih (o:bl) :Prop where
 ids:eh o.bd
 len:o.bd.l.length<=1000000
 val:Ir o.act.val
 key:o.act.key.length<=10000
def rx (o:bl) :Bool:=fL o.gG&&(decide (o.hA.toNat<=1000000000000)&&(jY o.act&&(iN o.e&&iN o.s)))
def gO (o:bl) :Int:=if 4<o.bd.l.length then 4 else if dk o.bd.l then (if rx o then 0 else 8) else 32
theorem kv (o:bl) :a1 (a5 o)=true:=by
 have:=cW o.bd;simp[a5,a1,U.closed,this]
theorem aaX (o:bl) (au:ih o) :bn Tryz.prog GS 169 [.aH (a5 o)] (.int .i64 (gO o)) :=by
 refine bD Tryz.checked.mixed bx ?_;apply bf Tryz.func169 [];unfold gO;have eQ:=cW o.bd;have bC:ch (.ar 32) (az o.bd)=some (.int .i64 o.bd.l.length) :=by simp[az]
 have l8:(az o.bd).cells=some [az o.bd] :=by cases o.bd<;>rfl
 obtain⟨p,av⟩:∃ p,p=az o.bd:=⟨_,rfl⟩
 by_cases ad:4<o.bd.l.length
 ·have dD:(4:Int)<(o.bd.l.length:Int) :=by omega
  rw[if_pos ad];simp[a5,bC,dD];exact aJ rfl rfl
 ·have dD:¬ (4:Int)<(o.bd.l.length:Int) :=by omega
  rw[if_neg ad];simp[a5,bC,dD];refine aY (PZ o.bd au.ids au.len) (by simp[a1,eQ]) ?_;cases af:dk o.bd.l with
  | false=>
   simp;exact aJ rfl rfl
  | true=>
   simp;refine aY (Qa o.gG) rfl ?_;unfold rx;cases al:fL o.gG with
   | false=>
    simp;exact aJ rfl rfl
   | true=>
    have bY:((1000000000000:Int)<u o.hA)<->¬ o.hA.toNat<=1000000000000:=by unfold u; omega
    by_cases aG:o.hA.toNat<=1000000000000
    ·have s6:¬ ((1000000000000:Int)<u o.hA) :=fun h=>bY.1 h aG
     simp[aG,s6];refine aY (abr o.act) rfl ?_;cases a6:jY o.act with
     | false=>
      simp[lp];exact aJ rfl rfl
     | true=>
      simp[lp];refine aY (Ca o.e) rfl ?_;cases bK:iN o.e with
      | false=>
       simp;exact aJ rfl rfl
      | true=>
       simp;refine aY (Ca o.s) rfl ?_;cases c9:iN o.s with
       | false=>
        simp;exact aJ rfl rfl
       | true=>
        simp;exact aJ (by rw[if_pos aG]) rfl
    ·have s6:(1000000000000:Int)<u o.hA:=bY.2 aG;simp[aG,s6];exact aJ rfl rfl
def opHead (o:bl) :List B:=111#8::dS o.gG.toNat
def jP (o:bl) :List B:=
 opHead o++pS o.bd.l++dS o.hA.toNat++[o.act.kind]++(if o.act.kind=1#8 then [] else iB (fy o.act.key))++(if o.act.kind=4#8 then iD o.act.val else [])
theorem AE {l:List (List B)} (h:∀ x∈l,x.length=32) :(pS l).length<=9+l.length*32:=by
 have:=hI l.length;have af:=HI h;unfold pS;rw[akf];omega
theorem ys (s:List B) :(iB s).length<=9+s.length:=by
 have:=hI s.length;unfold iB;rw[akf];omega
theorem Bo (v:h3) :(iD v).length<=20+v.text.length:=by
 have ad:=hI (lN v.num).toNat
 have af:=ys (fy v.text);have al:=o0 v.text;unfold iD;simp only[akv];split
 ·omega
 ·split
  ·simp[nh]; omega
  ·omega
theorem P2 (o:bl) (au:ih o) (rN:o.bd.l.length<=1000) {l:ap} {K:U->ap->Prop} (bj:∀ w l',cz 1 b0 l l' w (jP o) false->K w l') :
  dg Tryz.prog GS 200 [.aH (a5 o)] l (c:=⟨K⟩) :=by
 apply bf Tryz.func200 [[[0],[1],[2],[5],[6],[3,6],[4,6]]];have ay:cF=140737488355328:=rfl;have aF:=sf l (.cells 11 (a5 o)) 111#8;have qA:=hI o.gG.toNat
 have rR:=hI o.hA.toNat
 have gT:=AE au.ids;have Hp:(BitVec.setWidth 64 o.gG).toNat=o.gG.toNat:=by rw[akq]; exact akn (by have:=o.gG.isLt; omega)
 have aO:l.length<(l++[aU.cells 11 (a5 o)]).length:=by simp
 have eo:(l++[aU.cells 11 (a5 o)])[l.length]? = some (.cells 11 (a5 o)) :=by simp
 simp[a5];refine uf _ fun bV l1 ad=>?_
 rw[Hp] at ad;obtain⟨w2,bt,bb,dc,_⟩:=(aF.frame ad.le ad.same).app (by_:=1) (x:=bV) (xs:=dS o.gG.toNat) ad.contents (by simp[b0]) (by omega) (by omega) (by rw[ay]; simp only[akv,akR]; omega);have rU:bt[l.length]? = some (.cells 11 (a5 o)) :=by rw[dc.same _ aO]; exact eo
 have oF:l.length<bt.length:=by have:=dc.le; omega
 have pC:=rU;simp[a5] at pC;simp[bb];refine cM.cc ?_;simp[pC];refine aaT o.bd au.ids rN fun eM fZ al=>?_
 obtain⟨nX,pR,dY,ng,_⟩:=(dc.frame al.le al.same).app (by_:=1) (x:=eM) (xs:=pS o.bd.l) al.contents (by simp[b0]) (by omega) (by omega) (by rw[ay]; simp only[akf,akv,akR]; omega);have cD:fZ[l.length]? = some (.cells 11 (a5 o)) :=by rw[al.same _ oF]; exact rU
 have De:pR[l.length]? = some (.cells 11 (a5 o)) :=by rw[ng.same _ aO]; exact eo
 have WZ:l.length<pR.length:=by have:=ng.le; omega
 have tm:=cD;have xH:=De;simp[a5] at tm xH;simp[tm,dY];refine cM.cc ?_;simp[xH];refine uf _ fun yw Oz a6=>?_
 obtain⟨aj1,OA,jq,BN,_⟩:=(ng.frame a6.le a6.same).app (by_:=1) (x:=yw) (xs:=dS o.hA.toNat) a6.contents (by simp[b0]) (by omega) (by omega) (by rw[ay]; simp only[akf,akv,akR]; omega);have Xu:OA[l.length]? = some (.cells 11 (a5 o)) :=by rw[BN.same _ aO]; exact eo
 have NC:=Xu;simp[a5] at NC;obtain⟨Bq,OB,BF,ql⟩:=cz.push BN o.act.kind (by simp only[akf,akv,akR]; omega);have Xv:OB[l.length]? = some (.cells 11 (a5 o)) :=by rw[ql.same _ aO]; exact eo
 have agp:l.length<OB.length:=by have:=ql.le; omega
 have G9:=Xv;simp[a5] at G9;simp[jq];refine cM.cc ?_;simp[NC,BF];refine cM.cc ?_;obtain⟨M,fJ⟩:∃ M,M=[111#8]++dS o.gG.toNat++pS o.bd.l++dS o.hA.toNat++[o.act.kind] :=⟨_,rfl⟩
 have Mm:M.length<=40000:=by rw[fJ]; simp only[akf,akv,akR]; omega
 rw[<-fJ] at ql;have gH:jP o=M++(if o.act.kind=1#8 then [] else iB (fy o.act.key))++(if o.act.kind=4#8 then iD o.act.val else []) :=by rw[fJ]; rfl
 have kI:=ys (fy o.act.key);rw[o0] at kI;have GX:=au.key;have pJ:=Bo o.act.val;have X6:=au.val.2.2;have ah:vf (.str o.act.key)=some (.b1 1 ((fy o.act.key).map b0)) :=by
  show some (U.b1 1 (o.act.key.map fun b=>[iK b]))=_;rw[Ey]
 by_cases b5:o.act.kind=1#8
 ·have aS:(u o.act.kind:Int)=1:=(h0 o.act.kind).2 b5;have fH:¬ o.act.kind=4#8:=by rw[b5]; decide
  rw[if_pos b5,if_neg fH,akQ,akQ] at gH;simp[G9,aS];exact bj _ _ (by rw[gH]; exact ql.base (by simp) fun b ag=>aj8 ag)
 ·have aS:¬ (u o.act.kind:Int)=1:=fun h=>b5 ((h0 o.act.kind).1 h)
  rw[if_neg b5] at gH;simp[G9,aS,ah];refine P3 (some (fy o.act.key)) (by simpa [o0] using GX) (by simp[dd]) (by simp) (fun l' _ _=>by simp[dd]) fun EJ kP gg=>?_
  obtain⟨ady,H3,BG,sJ,_⟩:=(ql.frame gg.le gg.same).app (by_:=1) (x:=EJ) (xs:=iB (fy o.act.key)) gg.contents (by simp[b0]) (by omega) (by omega) (by rw[ay]; omega);have Ha:H3[l.length]? = some (.cells 11 (a5 o)) :=by rw[sJ.same _ aO]; exact eo
  have vT:=Ha;simp[a5] at vT;simp[BG];refine cM.cc ?_;simp only[alJ] at sJ;by_cases fH:o.act.kind=4#8
  ·have nq:(u o.act.kind:Int)=4:=(uy o.act.kind).2 fH;rw[if_pos fH] at gH;simp[vT,nq];refine abf o.act.val au.val fun JK YU j3=>?_
   obtain⟨adx,YV,E5,Fe,_⟩:=(sJ.frame j3.le j3.same).app (by_:=1) (x:=JK) (xs:=iD o.act.val) j3.contents (by simp[b0]) (by omega) (by omega) (by rw[ay]; simp only[akf]; omega);simp[E5];refine cM.cc ?_;simp;exact bj _ _ (by rw[gH]; exact Fe.base (by simp) fun b ag=>aj8 ag)
  ·have nq:¬ (u o.act.kind:Int)=4:=fun h=>fH ((uy o.act.kind).1 h)
   rw[if_neg fH,akQ] at gH;simp[vT,nq];exact bj _ _ (by rw[gH]; exact sJ.base (by simp) fun b ag=>aj8 ag)
def hY (o:bl) :List B:=jP o++dS o.e.toNat++dS o.s.toNat
theorem O6 (o:bl) (au:ih o) (rN:o.bd.l.length<=1000) :(jP o).length<=100000:=by
 have ad:=hI o.gG.toNat
 have af:=hI o.hA.toNat
 have al:=AE au.ids;have aG:=ys (fy o.act.key);rw[o0] at aG;have a6:=au.key;have bK:=Bo o.act.val;have c9:=au.val.2.2;have aN:(if o.act.kind=1#8 then [] else iB (fy o.act.key)).length<=10009:=by split<;>(try simp) ; omega
 have aT:(if o.act.kind=4#8 then iD o.act.val else []).length<=10020:=by split<;>(try simp) ; omega
 unfold jP opHead;simp only[akf,akv,akR];omega
theorem aaH (o:bl) (au:ih o) (rN:o.bd.l.length<=1000) {l:ap} {K:U->ap->Prop} (bj:∀ w l',cz 1 b0 l l' w (hY o) false->K w l') :
  dg Tryz.prog GS 172 [.aH (a5 o)] l (c:=⟨K⟩) :=by
 apply bf Tryz.func172 [[[0],[2],[3],[4],[5],[8],[9],[10],[11],[1,11,10,5,4],[6,11,10],[7,11,10]]];have ay:cF=140737488355328:=rfl;have bW:=hI o.e.toNat
 have rR:=hI o.s.toNat
 have kI:=O6 o au rN;have kG:(BitVec.setWidth 64 o.e).toNat=o.e.toNat:=by rw[akq]; exact akn (by have:=o.e.isLt; omega)
 have m1:(BitVec.setWidth 64 o.s).toNat=o.s.toNat:=by rw[akq]; exact akn (by have:=o.s.isLt; omega)
 have aO:l.length<(l++[aU.cells 11 (a5 o)]).length:=by simp
 have eo:(l++[aU.cells 11 (a5 o)])[l.length]? = some (.cells 11 (a5 o)) :=by simp
 simp[a5];refine P2 o au rN fun bV l1 ad=>?_
 have qC:l1[l.length]? = some (.cells 11 (a5 o)) :=by rw[ad.same _ aO]; exact eo
 have oE:l.length<l1.length:=by have:=ad.le; simp at this; omega
 have vS:=qC;simp[a5] at vS;simp[vS];refine uf _ fun w2 bt af=>?_
 rw[kG] at af;obtain⟨eM,fZ,cr,iJ,_⟩:=(ad.frame af.le af.same).app (by_:=1) (x:=w2) (xs:=dS o.e.toNat) af.contents (by simp[b0]) (by omega) (by omega) (by rw[ay]; omega);have rU:bt[l.length]? = some (.cells 11 (a5 o)) :=by rw[af.same _ oE]; exact qC
 have cD:fZ[l.length]? = some (.cells 11 (a5 o)) :=by rw[iJ.same _ aO]; exact eo
 have pC:=rU;have tm:=cD;simp[a5] at pC tm;simp[pC,cr];refine cM.cc ?_;simp[tm];refine uf _ fun nX pR aG=>?_
 rw[m1] at aG;obtain⟨yw,Oz,gF,u6,_⟩:=(iJ.frame aG.le aG.same).app (by_:=1) (x:=nX) (xs:=dS o.s.toNat) aG.contents (by simp[b0]) (by omega) (by omega) (by rw[ay]; simp only[akf]; omega);simp[gF];refine cM.cc ?_;simp;exact bj _ _ (u6.base (by simp) fun b ag=>aj8 ag)
theorem aaW (o:bl) (au:ih o) (rN:o.bd.l.length<=1000) :bn Tryz.prog GS 131 [.aH (a5 o)] (fY (ib (hY o))) :=by
 refine bD Tryz.checked.mixed bx ?_;apply bf Tryz.func131 [];have bW:=hI o.e.toNat
 have rR:=hI o.s.toNat
 have kI:=O6 o au rN;have bq:(ib (hY o)).length=32:=us _;simp[a5];refine aaH o au rN fun bV l1 ad=>?_
 have eo:l1[1]? = some (.cells 32 (rep 32 (.int .u8 0))) :=by rw[ad.same 1 (by simp)]; rfl
 simp;refine kQ (Qb (some (hY o)) (by simp[hY]; omega)) (.cons (ad.q3 (fun _=>rfl) (some (hY o)) rfl rfl) .nil) (by simp[U.flat,kV,fY,w1 bz (fun _=>rfl)]) ?_;have vW:bi (rep 32 (.int .u8 0)) 0 ((ib (hY o)).map bz)=(ib (hY o)).map bz:=gl (by rw[aki,bq]; rfl);have kf:(l1.set 1 (aU.cells 32 ((ib (hY o)).map bz)))[1]? = some (.cells 32 ((ib (hY o)).map bz)) :=akm (b9 eo);simp[eo,fY,bq,vW,kf,aj9];exact aJ rfl (by simp[U.closed,ln bz (fun _=>rfl)])
theorem Fi:∀ a b:List B,a.length=b.length->e0 (a.map bz) (b.map bz)=decide (a=b)
 | [],[],_=>rfl
 | [],_::_,h=>by simp at h
 | _::_,[],h=>by simp at h
 | x::a,y::b,h=>by
  have aQ:=Fi a b (by simpa using h);simp only[akx,e0,aQ,U.beq,decide_true,alx];by_cases ad:x=y
  ·by_cases af:a=b<;>simp[ad,af]
  ·have:¬ u x=u y:=fun h=>ad ((uz x y).1 h)
   simp[ad]
theorem AQ:∀ a:List B,iy (List.replicate a.length (.i .u8)) (a.map bz)=true
 | []=>rfl
 | x::a=>by
  rw[akv,akW,akx];simp only[iy,AQ a,Jy,decide_true,alP]
theorem Ox:qR Tryz.prog 20 61=some (List.replicate 32 (.i .u8)) :=by kernel_rfl
theorem HF {a b:List B} (aC:a.length=32) (ag:b.length=32) :fT Tryz.prog .eql 61 (.aH (aX a)) (.aH (aX b))=some (.bool (decide (a=b))) :=by
 unfold aX;rw[BP Ox (by kernel_rfl) (by kernel_rfl) (by have:=AQ a; rwa [aC] at this) (by have:=AQ b; rwa [ag] at this),Fi a b (by omega)]
theorem tD {a b:List B} (aC:a.length=32) (ag:b.length=32) :fT Tryz.prog .neq 61 (.aH (aX a)) (.aH (aX b))=some (.bool (!decide (a=b))) :=by
 unfold aX;rw[KJ Ox (by kernel_rfl) (by kernel_rfl) (by have:=AQ a; rwa [aC] at this) (by have:=AQ b; rwa [ag] at this),Fi a b (by omega)]
theorem ZL (s:eE) :fT Tryz.prog .eql 23 (ct 32 aX s) .aK=some (.bool s.isNone) :=Fk (e:=61) (by kernel_rfl) 32 aX s
theorem ZZ (l:ap) :cz 32 aX l (l++[.cells 0 []]) (.ar 32 l.length 0 0 0 0) ([] :List (List B)) false:=
 ⟨l.length,.ar l.length 0 0 0 [] [] (by simp) rfl rfl (by simp) (akb _) (by omega) rfl,by simp,fun b ag=>aj8 ag,.inr (akb _),rfl⟩
theorem Oh (s:eE) (au:eh s) (ak:s.l.length<=1000000) {l:ap} {K:U->ap->Prop} (bj:∀ v l',cz 32 aX l l' v s.l s.isNone->K v l') :
  dg Tryz.prog GS 61 [az s] l (c:=⟨K⟩) :=by
 apply bf Tryz.func61 [];have ay:cF=140737488355328:=rfl;cases s with
 | none=>
  simp[az];exact bj _ _ cz.nil
 | some a=>
  simp at ak;obtain⟨a4,l',a2,bb,_⟩:=(ZZ l).app (by_:=32) (x:=ct 32 aX (some a)) (xs:=a) (s1 _ 32 aX (some a)) (fun y aL=>cP (au y aL)) (by omega) (by omega) (by rw[ay]; simp; omega);simp[az,ZL,a2];refine cM.cc ?_;simp;exact bj _ _ (by simpa using bb)
def og (l:List (List B)) (m:Nat) :List (List B) :=(List.range m).flatMap fun k=>if k=0\/bQ l k≠bQ l (k - 1) then [bQ l k] else []
def qp (l:List (List B)) :List (List B) :=og l l.length
theorem zb (l:List (List B)) (m:Nat) :og l (m+1)=og l m++(if m=0\/bQ l m≠bQ l (m - 1) then [bQ l m] else []) :=by
 unfold og; rw[amd,amQ]; simp
theorem Li (l:List (List B)) :∀ m,(og l m).length<=m
 | 0=>by simp[og]
 | m+1=>by
  have:=Li l m;rw[zb,akf];split<;>simp<;>omega
theorem za {l:List (List B)}:∀ {m},m<=l.length->(∀ k,1<=k->k<m->bQ l k≠bQ l (k - 1))->og l m=l.take m
 | 0,_,_=>by simp[og]
 | m+1,hm,h=>by
  rw[zb,za (by omega) (fun k ad af=>h k ad (by omega)),akC,if_pos (by
   by_cases aF:m=0
   ·exact .inl aF
   ·exact .inr (h m (by omega) (by omega)))]
  congr 1;unfold bQ;rw[ako,aka (by omega)];rfl
theorem Lj {l:List (List B)} {k:Nat} (ad:1<=k) (ao:bQ l k=bQ l (k - 1)) :∀ {m},k<m->(og l m).length<m
 | 0,h=>by omega
 | m+1,h=>by
  rw[zb,akf];by_cases ax:k=m
  ·subst ax;have:=Li l k;rw[if_neg (fun h=>h.elim (fun aF=>by omega) (fun af=>af ao))];simp; omega
  ·have:=Lj ad ao (m:=m) (by omega);split<;>simp<;>omega
theorem TS {l:List (List B)} (ak:wn l=true) :((qp l).length=l.length)<->dk l=true:=by
 unfold wn at ak;rw[decide_eq_true_eq] at ak;unfold dk qp;rw[decide_eq_true_eq];constructor
 ·intro h k ax ad;have af:=ak k ax ad;have al:bQ l k≠bQ l (k - 1) :=fun ao=>by
   have:=Lj ad ao ax;omega
  have aG:=y4 (bQ l k) (bQ l (k - 1));have a6:b6 (bQ l (k - 1)) (bQ l k)≠0:=fun aF=>al (wR aF).symm
  omega
 ·intro h;rw[za (akb _) (fun k ad af ao=>by
   have:=h k af ad;rw[<-ao,pf] at this;omega),akE]
theorem Du {a:List (List B)} {k:Nat} (h:k<a.length) :(a.map aX)[k]? = some (aX (bQ a k)) :=by
 rw[akd];unfold bQ;rw[ako,aka h];rfl
theorem Dt {a:List (List B)} {k:Nat} (h:k<a.length) :bQ a k∈a:=by
 unfold bQ;rw[ako,aka h];exact List.getElem_mem h
structure R3 (l:ap) (v:U) (xs:List (List B)) (k:Nat) (ae:a7) (l1:ap) :Prop where
 cp:ae 0=v
 aZ:ae 3=.int .i64 ((k+1:Nat) :Int)
 am:l1=l
 ak:∀ j,1<=j->j<k+1->bQ xs j≠bQ xs (j - 1)
structure R2 (l:ap) (v bP:U) (j:Nat) (xs:List (List B)) (m i:Nat) (ae:a7) (bt:ap) :Prop where
 cp:ae 0=v
 a9:ae 4=bP
 bg:ae 5=.int .i64 ((i+1:Nat) :Int)
 iM:∃ (k:Nat) (bL:List (List B)),ae 3=.int .i64 (k:Int)/\bJ 32 bt v j (bL.map aX)/\bL.length=xs.length/\(∀ y∈bL,y.length=32)/\bL.take k=og xs (m+i+1)/\k<=m+i/\(∀ t,m+i<=t->bQ bL t=bQ xs t)/\bt.length=l.length/\∀ b,b≠j->bt[b]? = l[b]?
theorem TR {l:ap} {v:U} {j k:Nat} {bL:List (List B)} (h:bJ 32 l v j (bL.map aX)) (ax:k<bL.length) :
  ∃ eW fZ r,e3 (.ar 32) v (some (.int .i64 (k:Int))) none none=some eW/\vb (rep 32 (.int .u8 0)) l eW=some fZ/\e3 (.ar 32) v none (some (.int .i64 (k:Int))) none=some r ∧
   bJ 32 fZ r j ((bL.take k).map aX)/\cw r=false/\fZ.length=l.length/\∀ b,b≠j->fZ[b]? = l[b]?:=by
 generalize ao:bL.map aX=es at h;cases h with
 | nil j=>rw[amp] at ao; subst ao; simp at ax
 | ar j n cap sz cs es ag am aD aw ah c3 cR=>
  subst ao;have xE:bL.length=n:=by simpa using aD
  have hF:jr (.int .i64 (k:Int)) n=some k:=by
   show (if 0<=(k:Int)/\(k:Int)<=(n:Int) then some (k:Int).toNat else none)=some k;rw[if_pos ⟨by omega,by omega⟩]; simp
  have ft:jr (.int .i64 (k:Int)) cap=some k:=by
   show (if 0<=(k:Int)/\(k:Int)<=(cap:Int) then some (k:Int).toNat else none)=some k;rw[if_pos ⟨by omega,by omega⟩]; simp
  have dn:gp n cap (some (.int .i64 (k:Int))) none none=some (k,n,cap) :=by
   show (match jr (.int .i64 (k:Int)) n with | none=>none | some l=>some (l,n,cap))=_;rw[hF]
  have dc:gp n cap none (some (.int .i64 (k:Int))) none=some (0,k,cap) :=by
   show (match jr (.int .i64 (k:Int)) cap with | none=>none | some h=>some (0,h,cap))=_;rw[ft]
  have ff:¬ cap=k:=by omega
  have CJ:¬ cap=0:=by omega
  have ev:j<l.length:=b9 ag;have hh:k*32<=n*32:=akc _ (by omega);have g3:n*32<=cap*32:=akc _ ah;have pF:(dz (rep 32 (.int .u8 0)) (n - k)).length=(n - k)*32:=by rw[Ba]; rfl
  have agr:k*32+(n - k)*32=n*32:=by rw[<-akS]; congr 1; omega
  refine⟨.ar 32 j (k*32) (n - k) (cap - k) sz,l.set j (.cells sz (bi cs (k*32) (dz (rep 32 (.int .u8 0)) (n - k)))),.ar 32 j 0 k cap sz,?_,?_,?_,?_,rfl,by simp,fun b rB=>by rw[akl (fun h=>rB h.symm)]⟩
  ·rw[Bg,dn]; simp[ff]
  ·unfold vb;simp only;rw[if_neg (by omega)];simp[ag]
  ·rw[Bg,dc]; simp[CJ]
  ·refine .ar j k cap sz _ _ (akm ev) (by rw[wm (by omega),pF]; omega) (by simp; omega) (fun e ao=>?_) (by omega) c3 ?_
   ·obtain⟨y,aL,rfl⟩:=akz.1 ao;exact aw _ (alQ (akD aL))
   ·unfold bi;rw[akU,akP (by rw[akB]; omega),amk,Nat.min_self];have aS:cs.take (k*32)=(cs.take (n*32)).take (k*32) :=by rw[amk,ak7 hh]
    have bv:bL.map aX=(bL.take k).map aX++(bL.drop k).map aX:=by rw[<-aks,ak1]
    have eR:((bL.take k).map aX).flatten.length=k*32:=by
     rw[ol (z:=32) (fun e ao=>by obtain⟨y,aL,rfl⟩:=akz.1 ao; exact aw _ (alQ (akD aL)))];simp; omega
    rw[aS,cR,bv,akZ,akP (by omega),aj9 (by omega)]
theorem Pl {bL:List (List B)} (aw:∀ y∈bL,y.length=32) (k:Nat) (ax:k<=bL.length) {n:Nat} (aD:bL.length=n) {cs:List U} (cR:cs.take (n*32)=(bL.map aX).flatten) (am:n*32<=cs.length) :
  cs.take (k*32)=((bL.take k).map aX).flatten/\(cs.drop (k*32)).take (n*32 - k*32)=((bL.drop k).map aX).flatten:=by
 have hh:k*32<=n*32:=akc _ (by omega);have bv:bL.map aX=(bL.take k).map aX++(bL.drop k).map aX:=by rw[<-aks,ak1]
 have eR:((bL.take k).map aX).flatten.length=k*32:=by
  rw[ol (z:=32) (fun e ao=>by obtain⟨y,aL,rfl⟩:=akz.1 ao; exact cP (aw _ (akD aL)))];simp; omega
 have aS:cs.take (k*32)=(cs.take (n*32)).take (k*32) :=by rw[amk,ak7 hh]
 constructor
 ·rw[aS,cR,bv,akZ,akP (by omega),aj9 (by omega)]
 ·rw[<-ami,cR,bv,akZ,alb (by omega),alR (by omega),ald]
theorem acg {l:ap} {v:U} {j k:Nat} {bL:List (List B)} {x:List B} (h:bJ 32 l v j (bL.map aX)) (aw:∀ y∈bL,y.length=32) (ax:k<bL.length) (ai:x.length=32) :
  ∃ p l',cN (.ar 32) v (.int .i64 (k:Int))=some p/\ld 32 l p (.aH (aX x))=some l'/\bJ 32 l' v j ((bL.set k x).map aX)/\l'.length=l.length/\∀ b,b≠j->l'[b]? = l[b]?:=by
 generalize ao:bL.map aX=es at h;cases h with
 | nil j=>rw[amp] at ao; subst ao; simp at ax
 | ar j n cap sz cs es ag am aD tz ah c3 cR=>
  subst ao;have xE:bL.length=n:=by simpa using aD
  have ev:j<l.length:=b9 ag;have bm:=cP ai;have hh:(k+1)*32<=n*32:=akc _ (by omega);have g3:n*32<=cap*32:=akc _ ah;have ak:(k+1)*32=k*32+32:=by rw[akK]
  obtain⟨f1,_⟩:=Pl aw k (by omega) xE cR (by omega);obtain⟨_,f2⟩:=Pl aw (k+1) (by omega) xE cR (by omega);refine⟨.ptr j (k*32) sz,l.set j (.cells sz (bi cs (k*32) (aX x))),?_,?_,?_,by simp,fun b rB=>by rw[akl (fun h=>rB h.symm)]⟩
  ·simp[cN]; omega
  ·unfold ld;simp[ag,U.cells,bm];omega
  ·refine .ar j n cap sz _ _ (akm ev) (by rw[wm (by omega),bm]; omega) (by simp; omega) (fun e ao=>?_) ah c3 ?_
   ·obtain⟨y,aL,rfl⟩:=akz.1 ao;rcases amu aL with h | h
    ·exact cP (aw _ h)
    ·rw[h]; exact bm
   ·have kf:bL.set k x=bL.take k++(x::bL.drop (k+1)) :=by rw[alu,if_pos ax]
    rw[kf,aks,akx,akZ,akT,<-f1,<-f2];unfold bi;have t1:(cs.take (k*32)).length=k*32:=by rw[akB]; omega
    have yt:(cs.take (k*32)).take (n*32)=cs.take (k*32) :=aj9 (by rw[t1]; omega);have yu:(aX x).take (n*32 - k*32)=aX x:=aj9 (by rw[bm]; omega);rw[akU,bm,<-ak,al2,t1,yt,al2,yu,bm,show n*32 - k*32 - 32=n*32 - (k+1)*32 by omega]
theorem TH {e2 l:ap} {v:U} {xs:List (List B)} {nl:Bool} (h:cz 32 aX e2 l v xs nl) (ai:∀ x∈xs,x.length=32) (aD:xs.length<=1000000) {K:U->ap->Prop} (bj:∀ r l',cz 32 aX e2 l' r (qp xs) nl->K r l') :
  dg Tryz.prog GS 76 [v] l (c:=⟨K⟩) :=by
 apply bf Tryz.func76 [];have bC:=h.len;by_cases af:xs.length<2
 ·have fI:(xs.length:Int)<2:=by omega
  have xr:qp xs=xs:=by
   unfold qp;rw[za (akb _) (fun k ad al=>by omega),akE]
  simp[bC,fI];exact bj _ _ (by rw[xr]; exact h)
 ·have fI:¬ (xs.length:Int)<2:=by omega
  simp[bC,fI];refine cm (xs.length - 1) (R3 l v xs) ?_ ⟨by simp,by simp,rfl,fun j ad al=>by omega⟩;rintro k ae l1 ax ⟨cp,aZ,rfl,ak⟩;obtain⟨ae,rfl⟩:=o6 cp aZ;clear cp aZ;obtain⟨m,hm⟩:∃ m,m=k+1:=⟨_,rfl⟩
  rw[<-hm] at ak ⊢;by_cases aO:m<xs.length
  ·have aS:IntKind.i64.wrap ((m:Int) - 1)=(k:Int) :=by rw[IntKind.wrap_i64]; omega
   have bv:IntKind.i64.wrap ((m:Int)+1)=((m+1:Nat) :Int) :=by rw[IntKind.wrap_i64]; omega
   have jz:(m:Int)<(xs.length:Int) :=by omega
   obtain⟨j,au,m0⟩:=h;obtain⟨pZ,b5,ix,a2,bb,cr,dY⟩:=au.q.get (k:=.i64) (Du aO);obtain⟨si,ce,hl,dn,dc,iJ,ng⟩:=au.q.get (k:=.i64) (Du (a:=xs) (k:=k) (by omega));have jx:=HF (ai _ (Dt aO)) (ai _ (Dt (a:=xs) (k:=k) (by omega)));obtain⟨X,cL⟩:∃ X,X=bQ xs m:=⟨_,rfl⟩
   obtain⟨Y,gi⟩:∃ Y,Y=bQ xs k:=⟨_,rfl⟩
   rw[<-cL] at dY jx;rw[<-gi] at ng jx;by_cases ao:X=Y
   ·have rL:fT Tryz.prog .eql 61 (.aH (aX X)) (.aH (aX Y))=some (.bool true) :=by rw[jx,decide_eq_true ao]
    have aq:cw v=false:=by
     cases Xf:cw v with
     | false=>rfl
     | true=>
      have:=jH.1 Xf;subst this;have:=au.q.In;rw[amp] at this;rw[this] at aO; simp at aO
    obtain⟨bP,fP,i4,_⟩:=au.q.from aq (k:=.i64) (i:=m) (by simp; omega);have aF:og xs m=xs.take m:=za (by omega) ak;have ad:og xs (m+1)=xs.take m:=by rw[zb,if_neg (fun h=>h.elim (fun aF=>by omega) (fun af=>af (by rw[<-cL,show m - 1=k by omega,<-gi]; exact ao))),aF,akQ]
    simp[bC,jz,aS,a2,bb,cr,dY,dn,dc,iJ,ng,rL,fP];refine cm (xs.length - m - 1) (R2 l1 v bP j xs m) ?_ ⟨by simp,by simp,by simp,m,xs,by simp,au,rfl,ai,ad.symm,by omega,fun t _=>rfl,rfl,fun b _=>rfl⟩;rintro i ae bt aB ⟨cp,a9,bg,q,bL,aZ,a8,eV,Aq,kg,Ab,qD,z2,hQ⟩;obtain⟨ae,rfl⟩:=h1 cp aZ a9 bg;clear cp aZ a9 bg;obtain⟨cK,Ww⟩:∃ cK,cK=i+1:=⟨_,rfl⟩
    rw[<-Ww];obtain⟨mD,wk,Jb,_⟩:=a8.q.from aq (k:=.i64) (i:=m) (by simp; omega);rw[fP] at wk;obtain rfl:=Option.some.inj wk;have jy:=Jb.len;rw[alk,aki,eV] at jy;by_cases oF:cK<xs.length - m
    ·have C7:(cK:Int)<((xs.length - m:Nat) :Int) :=by omega
     have bV:IntKind.i64.wrap ((cK:Int) - 1)=(i:Int) :=by rw[IntKind.wrap_i64]; omega
     have w2:IntKind.i64.wrap ((cK:Int)+1)=((cK+1:Nat) :Int) :=by rw[IntKind.wrap_i64]; omega
     have eM:IntKind.i64.wrap ((q:Int)+1)=((q+1:Nat) :Int) :=by rw[IntKind.wrap_i64]; omega
     obtain⟨yc,il,pW,iF,jW,yD,o7⟩:=Jb.get (k:=.i64) (i:=cK) (e:=aX (bQ bL (m+cK))) (by rw[akG]; exact Du (by omega));obtain⟨aiZ,fH,se,ig,o8,RR,JY⟩:=Jb.get (k:=.i64) (i:=i) (e:=aX (bQ bL (m+i))) (by rw[akG]; exact Du (by omega));have oN:=Aq _ (Dt (a:=bL) (k:=m+cK) (by omega));have tz:=Aq _ (Dt (a:=bL) (k:=m+i) (by omega));have bW:=tD oN tz;have NS:=qD (m+cK) (by omega);have NT:=qD (m+i) (by omega);have bh:=zb xs (m+cK);rw[show m+cK - 1=m+i by omega] at bh;obtain⟨u1,VC⟩:∃ X,X=bQ bL (m+cK) :=⟨_,rfl⟩
     obtain⟨E4,Gj⟩:∃ Y,Y=bQ bL (m+i) :=⟨_,rfl⟩
     rw[<-VC] at o7 bW oN NS;rw[<-Gj] at JY bW NT;rw[<-NS,<-NT] at bh;rw[show m+i+1=m+cK by omega] at kg;by_cases rH:u1=E4
     ·have pB:fT Tryz.prog .neq 61 (.aH (aX u1)) (.aH (aX E4))=some (.bool false) :=by rw[bW]; simp[rH]
      rw[if_neg (fun h=>h.elim (fun aF=>by omega) (fun af=>af rH)),akQ] at bh;simp[jy,C7,bV,iF,jW,yD,o7,ig,o8,RR,JY,pB,w2];exact⟨by omega,by simp,by simp,by simp,q,bL,by simp,a8,eV,Aq,by rw[bh]; exact kg,by omega,fun t a3=>qD t (by omega),z2,hQ⟩
     ·have pB:fT Tryz.prog .neq 61 (.aH (aX u1)) (.aH (aX E4))=some (.bool true) :=by rw[bW]; simp[rH]
      rw[if_pos (.inr rH)] at bh;obtain⟨aak,fZ,gc,fb,n1,RS,JZ⟩:=acg a8 Aq (k:=q) (x:=u1) (by omega) oN;simp[jy,C7,bV,iF,jW,yD,o7,ig,o8,RR,JY,pB,w2,eM,gc,fb];have acZ:(bL.take q).length=q:=by rw[akB]; omega
      have pH:(bL.set q u1).take (q+1)=bL.take q++[u1] :=by
       rw[alu,if_pos (by omega),al2,acZ,aj9 (by omega),show q+1 - q=1 by omega]; simp
      refine⟨by omega,by simp,by simp,by simp,q+1,bL.set q u1,by simp,n1,by simp[eV],fun y aL=>?_,by rw[pH,bh,kg],by omega,fun t a3=>?_,by omega,fun b ag=>(JZ b ag).trans (hQ b ag)⟩
      ·rcases amu aL with h | h
       ·exact Aq _ h
       ·rw[h]; exact oN
      ·have:=qD t (by omega);unfold bQ at this ⊢;rw[ako,akl (by omega),<-ako];exact this
    ·have C7:¬ (cK:Int)<((xs.length - m:Nat) :Int) :=by omega
     obtain⟨eW,fZ,r,gc,fb,n1,RS,JZ,aj5,ad9⟩:=TR a8 (k:=q) (by omega);simp[jy,C7,gc,fb,n1];obtain⟨aN,aT,aZ,a9⟩:=m0;have vF:e2.length<=j:=aZ.resolve_left (fun h=>by rw[h] at aq; cases aq);have GD:m+i+1=xs.length:=by omega
     rw[GD] at kg;refine bj _ _ ⟨j,by unfold qp; rw[<-kg]; exact RS,by omega,fun b ag=>?_,.inr vF,by rw[JZ,<-a9,aq]⟩;rw[ad9 b (by omega),hQ b (by omega)];exact aT b ag
   ·have rL:fT Tryz.prog .eql 61 (.aH (aX X)) (.aH (aX Y))=some (.bool false) :=by rw[jx,decide_eq_false ao]
    simp[bC,jz,aS,a2,bb,cr,dY,dn,dc,iJ,ng,rL,bv];refine⟨by omega,by simp,by simp[hm],rfl,fun t ad af=>?_⟩;by_cases a3:t=m
    ·rw[a3,<-cL,show m - 1=k by omega,<-gi]; exact ao
    ·exact ak t ad (by omega)
  ·have jz:¬ (m:Int)<(xs.length:Int) :=by omega
   have xr:qp xs=xs:=by
    unfold qp;rw[za (akb _) (fun k ad al=>ak k ad (by omega)),akE]
   simp[bC,jz];exact bj _ _ (by rw[xr]; exact h)
theorem abK {l:List (List B)} (h:dk l=true) :wn l=true:=by
 unfold dk at h;rw[decide_eq_true_eq] at h;exact QS fun k ax ad=>by
  have:=h k ax ad;have aG:=y4 (bQ l k) (bQ l (k - 1));omega
theorem EK (o:bl) (au:ih o) :bn Tryz.prog GS 99 [.aH (a5 o)] (.int .i64 (gO o)) :=by
 refine bD Tryz.checked.mixed bx ?_;apply bf Tryz.func99 [[[0],[1],[2],[3],[4],[5],[6],[10],[11],[12],[7,11],[8,11],[9]]];unfold gO;have eQ:=cW o.bd;have bC:ch (.ar 32) (az o.bd)=some (.int .i64 o.bd.l.length) :=by simp[az]
 have l8:(az o.bd).cells=some [az o.bd] :=by cases o.bd<;>rfl
 by_cases ad:4<o.bd.l.length
 ·have dD:(4:Int)<(o.bd.l.length:Int) :=by omega
  rw[if_pos ad];simp[a5,bC,dD];exact aJ rfl rfl
 ·have dD:¬ (4:Int)<(o.bd.l.length:Int) :=by omega
  rw[if_neg ad];simp[a5,bC,dD];refine aY (YB o.bd au.ids au.len) (by simp[a1,eQ,U.closed]) ?_;cases af:wn o.bd.l with
  | false=>
   have al:dk o.bd.l=false:=by
    cases al:dk o.bd.l with
    | false=>rfl
    | true=>rw[abK al] at af; cases af
   simp[al,bC];exact aJ rfl rfl
  | true=>
   simp[bC];refine Oh o.bd au.ids au.len fun cd l1 aN=>?_
   have VI:l1[0]? = some (.cells 11 (a5 o)) :=by rw[aN.same 0 (by simp)]; rfl
   have MC:=VI;simp[a5] at MC;simp[MC];refine TH aN au.ids au.len fun bP bt aT=>?_
   have eo:bt[0]? = some (.cells 11 (a5 o)) :=by rw[aT.same 0 (by simp)]; rfl
   have xo:=eo;simp[a5] at xo;have jy:=aT.len;have xr:=TS af;cases al:dk o.bd.l with
   | false=>
    have bW:¬ ((qp o.bd.l).length:Int)=(o.bd.l.length:Int) :=fun h=>by
     have:=xr.1 (by omega);rw[al] at this; cases this
    simp[jy,xo,bC,bW];exact aJ rfl rfl
   | true=>
    have heq:((qp o.bd.l).length:Int)=(o.bd.l.length:Int) :=by have:=xr.2 al; omega
    simp[jy,xo,bC,heq];refine aY (HR o.gG) rfl ?_;unfold rx;cases a6:fL o.gG with
    | false=>
     simp;exact aJ rfl rfl
    | true=>
     have bY:((1000000000000:Int)<u o.hA)<->¬ o.hA.toNat<=1000000000000:=by unfold u; omega
     by_cases bK:o.hA.toNat<=1000000000000
     ·have s8:¬ ((1000000000000:Int)<u o.hA) :=fun h=>bY.1 h bK
      have vP:((500000003:Int)<=max (u o.e:Int) (u o.s))<->¬ (iN o.e&&iN o.s)=true:=by
       unfold iN u;simp only[akh,decide_eq_true_eq];omega
      have Nl:tP (bp o.e) (bp o.s)=some (.int .u32 (max (u o.e:Int) (u o.s))) :=by
       show (if IntKind.u32=IntKind.u32 then some (U.int .u32 (if (u o.e:Int)<u o.s then u o.s else u o.e)) else none)=_;rw[if_pos rfl];congr 2;split<;>omega
      cases c9:(iN o.e&&iN o.s) with
      | false=>
       have pn:(500000003:Int)<=max (u o.e:Int) (u o.s) :=vP.2 (by rw[c9]; simp);simp[xo,bK,s8,Nl,pn];exact aJ rfl rfl
      | true=>
       have pn:¬ (500000003:Int)<=max (u o.e:Int) (u o.s) :=fun h=>(vP.1 h) c9
       simp[xo,bK,s8,Nl,pn];refine aY (Tq o.act) rfl ?_;cases gg:jY o.act with
       | false=>
        simp[lp];exact aJ rfl rfl
       | true=>
        simp[lp];exact aJ (by rw[if_pos bK]) rfl
     ·have s8:(1000000000000:Int)<u o.hA:=bY.2 bK;simp[xo,bK,s8];exact aJ rfl rfl
theorem yl (a b:eE) (aC:eh a) (ag:eh b) (am:a.l.length<=1000000) :bn Tryz.prog GS 21 [az a,az b] (.bool (decide (a.l=b.l))) :=by
 refine bD Tryz.checked.mixed bx ?_;apply bf Tryz.func21 [];simp[az];by_cases ad:a.l.length=b.l.length
 ·have dD:((a.l.length:Int)=b.l.length) :=by omega
  simp[ad];refine cm a.l.length (fun k ae l=>ae 0=ct 32 aX a/\ae 1=ct 32 aX b/\ae 5=.int .i64 k/\∀ j,j<k->a.l[j]? = b.l[j]?) ?_ (by simp[az]);rintro k ae l ax ⟨cp,aN,bg,ak⟩;obtain⟨s,rfl⟩:=jT cp aN bg;clear cp aN bg;simp;refine nD (fun h=>?_) (fun h=>?_)
  ·simp only[decide_eq_true_eq] at h;obtain⟨x,ai,c7⟩:=bF h;obtain⟨y,aL,dP⟩:=bF (l:=b.l) (k:=k) (by omega);have aS:IntKind.i64.wrap ((k:Int)+1)=((k+1:Nat) :Int) :=by rw[IntKind.wrap_i64]; omega
   simp[ai,aL,cP (aC x c7),cP (ag y dP),aj9,tD (aC x c7) (ag y dP)];by_cases ao:x=y
   ·simp[ao,aS];refine⟨by omega,fun j aj=>?_⟩;by_cases fX:j=k
    ·subst fX; rw[ai,aL,ao]
    ·exact ak j (by omega)
   ·simp[ao];refine aJ (congrArg U.bool (decide_eq_false fun gw=>ao ?_).symm) rfl;rw[gw,aL] at ai; exact (Option.some.inj ai).symm
  ·simp[h];have pz:k=a.l.length:=by simp at h; omega
   refine aJ (congrArg U.bool (decide_eq_true ?_).symm) rfl;apply akY;intro j;by_cases aj:j<a.l.length
   ·exact ak j (by omega)
   ·rw[akp (by omega),akp (by omega)]
 ·have dD:¬ ((a.l.length:Int)=b.l.length) :=by omega
  simp[ad,dD];exact aJ (by rw[decide_eq_false (fun gw=>ad (by rw[gw]))]) rfl
def lF (o:bl) :List B:=if gO o=0 then ib (hY o) else List.replicate 32 0#8
theorem wd {o:bl} (h:gO o=0) :o.bd.l.length<=4:=by
 unfold gO at h;split at h
 ·cases h
 ·omega
theorem Qn {l:ap} {b n:Nat} {gX:List U} {k:Nat} {w:U} {kd:IntKind} (ag:l[b]? = some (.cells n gX)) (aD:gX.length=n) (ax:gX[k]? = some w) :
  ∃ p cs o,cN (.ar 1) (.ar 1 b 0 n n n) (.int kd (k:Int))=some p/\gW l p=some (cs,o)/\cs[o]? = some w:=by
 have aO:k<n:=by rw[<-aD]; exact (aj7.1 ax).1
 refine⟨.ptr b (0+k*1) n,gX,0+k*1,?_,?_,by simpa using ax⟩
 ·simp only[cN,akr];rw[if_pos ⟨trivial,by omega,by omega⟩]
 ·simp only[gW,ag,if_true]
theorem U6 {n:Nat} (aD:n<=1000000000) {l:ap} {K:U->ap->Prop} (bj:∀ v l',cz 1 b0 l l' v ([] :List B) (decide (n=0))->K v l') :dg Tryz.prog GS 153 [.aK,.int .i64 n] l (c:=⟨K⟩) :=by
 apply bf Tryz.func153 [];have ad:¬((n:Int)<0) :=by omega
 have aV:IntKind.i64.wrap (n:Int)=n:=wrap_i64 (by omega) (by omega);have Hw:IntKind.i64.wrap (0:Int)=0:=rfl;by_cases aF:n=0
 ·subst aF;simp;exact bj _ _ cz.nil
 have af:(0:Int)<n:=by omega
 have aw:qj l 1 1 [.int .u8 0] .aK (.int .i64 n)=some (.ar 1 l.length 0 n n (n*1),l++[.cells (n*1) (dz [.int .u8 0] n)]) :=by
  unfold qj i8;simp only[akr];have ay:cF=140737488355328:=rfl;rw[if_pos ⟨by omega,by omega,by rw[ay]; omega⟩,if_neg aF,if_neg (by omega),if_pos (by rw[ay]; omega)]
 have ak:e3 (.ar 1) (.ar 1 l.length 0 n n (n*1)) none (some (.int .i64 0)) none=some (.ar 1 l.length 0 0 n (n*1)) :=by
  rw[Bg,Fp,if_pos ⟨by omega,by omega⟩];simp[aF]
 rw[alM] at aw ak;have al:0<n:=by omega
 simp[ad,af,al,aV,aw,Hw,ak];refine bj _ (l++[.cells n (dz [.int .u8 0] n)]) ⟨l.length,.ar _ 0 n n (dz [.int .u8 0] n) [] (by simp) (by rw[Ba]; simp) rfl (by simp) (by omega) (by omega) rfl,by simp,fun b ag=>aj8 ag,.inr (akb _),?_⟩;simp[cw,aF]
def ip (bs:List (List B)) :List B:=bs.flatten
theorem LG {bs:List (List B)} {k:Nat} {s:List B} (h:bs[k]? = some s) :ip (bs.take (k+1))=ip (bs.take k)++s:=by
 unfold ip;rw[akC,h]; simp
theorem LF (bs:List (List B)) (k:Nat) :(ip (bs.take k)).length<=(ip bs).length:=by
 conv=>rhs; rw[<-ak1 k bs]
 unfold ip;rw[akZ,akf];omega
structure lP (l:ap) (w:U) (s:List B) :Prop where
 len:ch (.ar 1) w=some (.int .i64 s.length)
 Lc:∀ l',l.length<=l'.length->(∀ b,b<l.length->l'[b]? = l[b]?)->dd l' 1 w=some ((s.map b0).flatten,s.length)
theorem x9 {l l1:ap} {w:U} {s:List B} {nl:Bool} (h:cz 1 b0 l l1 w s nl) :lP l1 w s:=⟨h.len,fun l' ad af=>(h.frame ad af).contents⟩
theorem lP.frame {l l1:ap} {w:U} {s:List B} (h:lP l w s) (am:l.length<=l1.length) (ak:∀ b,b<l.length->l1[b]? = l[b]?) :lP l1 w s:=
 ⟨h.len,fun l' ad af=>h.Lc l' (by omega) fun b ag=>by rw[af b (by omega)]; exact ak b ag⟩
theorem Pm {l:ap} {b:Nat} {x:B} (h:l[b]? = some (.cells 1 [bz x])) :lP l (.ar 1 b 0 1 1 1) [x] :=by
 have:=b9 h;exact⟨rfl,fun l' ad af=>by have:=af b this; rw[h] at this; simp[dd,this,b0]⟩
structure R1 (l:ap) (X:U) (bs:List (List B)) (k:Nat) (ae:a7) (l1:ap) :Prop where
 rv:ae 25=X
 w7:ae 26=.int .i64 bs.length
 w8:ae 27=.int .i64 k
 x8:∃ v,ae 6=v/\cz 1 b0 l l1 v (ip (bs.take k)) (decide ((ip bs).length=0))
set_option maxHeartbeats 4000000 in
theorem Ld {l:ap} {b n:Nat} {gX:List U} {bs:List (List B)} (ag:l[b]? = some (.cells n gX)) (Al:gX.length=n) (td:bs.length=n)
  (av:∀ (k:Nat) (w:U) (s:List B),gX[k]? = some w->bs[k]? = some s->lP l w s) (am:(ip bs).length<=1000000000) (z2:n<=1000000000)
  {K:U->ap->Prop} (bj:∀ v l',cz 1 b0 l l' v (ip bs) (decide ((ip bs).length=0))->K v l') :
  dg Tryz.prog GS 110 [.ar 1 b 0 n n n] l (c:=⟨K⟩) :=by
 apply bf Tryz.func110 [];have kD:=b9 ag;have cL:∀ l',l.length<=l'.length->(∀ b,b<l.length->l'[b]? = l[b]?)->∀ k,k<n->∃ w s p cs o,gX[k]? = some w/\bs[k]? = some s/\lP l' w s/\cN (.ar 1) (.ar 1 b 0 n n n) (.int .i64 (k:Int))=some p/\gW l' p=some (cs,o)/\cs[o]? = some w:=by
  intro l' ad af k ax;obtain⟨w,aV,_⟩:=bF (l:=gX) (k:=k) (by omega);obtain⟨s,ak,_⟩:=bF (l:=bs) (k:=k) (by omega);obtain⟨p,cs,o,a2,bb,cr⟩:=Qn (kd:=.i64) (l:=l') (by rw[af b kD]; exact ag) Al aV;exact⟨w,s,p,cs,o,aV,ak,(av k w s aV ak).frame ad af,a2,bb,cr⟩
 obtain⟨X,Mw⟩:∃ X,X=U.ar 1 b 0 n n n:=⟨_,rfl⟩
 have Mx:ch (.ar 1) X=some (.int .i64 bs.length) :=by rw[Mw,td]; rfl
 rw[<-Mw] at cL ⊢;simp[Mx];refine cm n (fun k ae l1=>ae 0=X/\ae 9=X/\ae 10=.int .i64 bs.length/\ae 11=.int .i64 k/\ae 3=.int .i64 (ip (bs.take k)).length/\l1=l) ?_ ?_
 ·rintro k ae l1 ax ⟨cp,gR,iq,ju,aZ,rfl⟩;obtain⟨ae,rfl⟩:=kq cp aZ gR iq ju;clear cp aZ gR iq ju;simp;by_cases h:k<bs.length
  ·obtain⟨w,s,p,cs,o,aV,ak,nx,a2,bb,cr⟩:=cL l1 (akb _) (fun _ _=>rfl) k (by omega);have zS:=LG ak;have er:=LF bs (k+1);rw[zS,akf] at er;have nC:IntKind.i64.wrap (((ip (bs.take k)).length:Int)+s.length)=((ip (bs.take k)).length:Int)+s.length:=wrap_i64 (by omega) (by omega);have eT:IntKind.i64.wrap ((k:Int)+1)=k+1:=wrap_i64 (by omega) (by omega);have iZ:¬(((ip (bs.take k)).length:Int)+s.length<0) :=by omega
   have gT:=nx.len;simp[h,a2,bb,cr,gT,nC,iZ,eT,zS];omega
  ·have br:k=bs.length:=by omega
   subst br;rw[akE];simp;refine U6 am ?_;intro v l au;simp[Mx];refine cm bs.length (R1 l1 X bs) ?_ ⟨by simp,by simp,by simp,v,by simp,by simpa [ip] using au⟩;rintro k ae bt ax ⟨rv,w7,w8,w,cq,au⟩;obtain⟨ae,rfl⟩:=h1 cq rv w7 w8;clear cq rv w7 w8;simp;by_cases h:k<bs.length
   ·obtain⟨y,s,p,cs,o,aV,ak,nx,a2,bb,cr⟩:=cL bt au.le au.same k (by omega);have zS:=LG ak;have er:=LF bs (k+1);rw[zS,akf] at er;have eT:IntKind.i64.wrap ((k:Int)+1)=k+1:=wrap_i64 (by omega) (by omega);have ay:cF=140737488355328:=rfl;obtain⟨a4,fZ,dn,dc,iJ⟩:=au.app (by_:=1) (x:=y) (xs:=s) (nx.Lc bt (akb _) fun _ _=>rfl) (by simp[b0]) (by omega) (by omega) (by rw[ay]; omega);simp[h,a2,bb,cr,dn];refine cM.cc ?_;simp[h,eT];refine⟨by simp,by simp,by simp,a4,by simp,?_⟩;rw[zS];have jB:(decide ((ip bs).length=0)&&s.isEmpty)=decide ((ip bs).length=0) :=by
     by_cases ao:(ip bs).length=0
     ·have:s=[] :=akH.1 (by omega);simp[ao,this]
     ·simp[ao]
    rw[jB] at dc;exact dc
   ·have br:k=bs.length:=by omega
    subst br;simp;rw[akE] at au;exact bj _ _ au
 ·simp[ip]
def g0 (o:bl) :bl:={ o with e:=0#32,s:=0#32 }
theorem RA (o:bl) (au:ih o) (ax:gO (g0 o)=0) {l:ap} {K:U->ap->Prop} (bj:∀ w l',cz 1 b0 l l' w (jP o) false->K (.bu [w,.int .i64 0]) l') :
  dg Tryz.prog GS 82 [.aH (a5 o)] l (c:=⟨K⟩) :=by
 apply bf Tryz.func82 [[[0],[1],[2],[3],[5],[6],[7],[9],[10],[11],[12],[4,12,11,7,0],[8,12,11,0]]];have ay:cF=140737488355328:=rfl;have qA:=hI o.gG.toNat
 have rR:=hI o.hA.toNat
 have gT:=AE au.ids;have eY:ih (g0 o) :=⟨au.ids,au.len,au.val,au.key⟩
 have ff:=EK (g0 o) eY;rw[ax] at ff;have rN:o.bd.l.length<=4:=wd (o:=g0 o) ax;have Dj:dk o.bd.l=true:=by
  unfold gO at ax;have aS:(g0 o).bd=o.bd:=rfl;rw[aS,if_neg (by omega)] at ax;cases al:dk o.bd.l with
  | true=>rfl
  | false=>rw[al] at ax; cases ax
 have Hp:(BitVec.setWidth 64 o.gG).toNat=o.gG.toNat:=by rw[akq]; exact akn (by have:=o.gG.isLt; omega)
 have VU:=kv (g0 o);have aO:l.length<(l++[aU.cells 11 (a5 (g0 o))]).length:=by simp
 have eo:(l++[aU.cells 11 (a5 (g0 o))])[l.length]? = some (.cells 11 (a5 (g0 o))) :=by simp
 simp[a5];refine aY ff (show a1 [U.aH (a5 (g0 o))]=true by simp[a1,U.closed,VU]) ?_;simp;refine adF o.bd au.ids (by omega) Dj fun bV l1 ad=>?_
 have qC:l1[l.length]? = some (.cells 11 (a5 (g0 o))) :=by rw[ad.same _ aO]; exact eo
 have oE:l.length<l1.length:=by have:=ad.le; simp at this; omega
 have vS:=qC;simp[a5,g0] at vS;have Xz:(l1++[aU.cells 1 [U.int .u8 111]])[l.length]? = some (.cells 11 (a5 (g0 o))) :=by rw[aj8 oE]; exact qC
 have agq:l.length<(l1++[aU.cells 1 [U.int .u8 111]]).length:=by simp; omega
 have NJ:=Xz;simp[a5,g0] at NJ;simp[NJ];have XE:(l1++[aU.cells 1 [U.int .u8 111],aU.cells 1 [U.int .u8 (u o.act.kind)]])[l.length]? = some (.cells 11 (a5 (g0 o))) :=by rw[aj8 oE]; exact qC
 have XA:(l1++[aU.cells 1 [U.int .u8 111],aU.cells 1 [U.int .u8 (u o.act.kind)]])[l1.length]? = some (.cells 1 [.int .u8 111]) :=by simp
 have Ab:(l1++[aU.cells 1 [U.int .u8 111],aU.cells 1 [U.int .u8 (u o.act.kind)]])[l1.length+1]? = some (.cells 1 [.int .u8 (u o.act.kind)]) :=by simp
 have pp:(l1++[aU.cells 1 [U.int .u8 111],aU.cells 1 [U.int .u8 (u o.act.kind)]]).length=l1.length+2:=by simp
 refine wr _ fun w2 bt af=>?_
 rw[Hp] at af;have C3:=af.le;rw[pp] at C3;have rU:bt[l.length]? = some (.cells 11 (a5 (g0 o))) :=by rw[af.same _ (by rw[pp]; omega)]; exact XE
 have L9:bt[l1.length]? = some (.cells 1 [.int .u8 111]) :=by rw[af.same _ (by rw[pp]; omega)]; exact XA
 have Ma:bt[l1.length+1]? = some (.cells 1 [.int .u8 (u o.act.kind)]) :=by rw[af.same _ (by rw[pp]; omega)]; exact Ab
 have pC:=rU;simp[a5,g0] at pC;simp[pC,L9,Ma];refine wr _ fun eM fZ al=>?_
 have Nk:=al.le;have cD:fZ[l.length]? = some (.cells 11 (a5 (g0 o))) :=by rw[al.same _ (by omega)]; exact rU
 have Mb:fZ[l1.length]? = some (.cells 1 [.int .u8 111]) :=by rw[al.same _ (by omega)]; exact L9
 have Mc:fZ[l1.length+1]? = some (.cells 1 [.int .u8 (u o.act.kind)]) :=by rw[al.same _ (by omega)]; exact Ma
 have tm:=cD;simp[a5,g0] at tm;simp[tm,Mb,Mc,ad.cells,af.cells,al.cells,bi];obtain⟨L,dO⟩:∃ L,L=fZ++[aU.cells 5 [.ar 1 l1.length 0 1 1 1,w2,bV,eM,.ar 1 (l1.length+1) 0 1 1 1]] :=⟨_,rfl⟩
 have vw:fZ.length<=L.length:=by rw[dO]; simp
 have oy:∀ b,b<fZ.length->L[b]? = fZ[b]?:=fun b ag=>by rw[dO,aj8 ag]
 have F9:L[fZ.length]? = some (.cells 5 [.ar 1 l1.length 0 1 1 1,w2,bV,eM,.ar 1 (l1.length+1) 0 1 1 1]) :=by rw[dO]; simp
 rw[<-dO];have EW:lP L (.ar 1 l1.length 0 1 1 1) [111#8] :=Pm (by rw[oy _ (by omega)]; exact Mb);have Si:lP L (.ar 1 (l1.length+1) 0 1 1 1) [o.act.kind] :=Pm (by rw[oy _ (by omega)]; exact Mc);have EX:lP L w2 (dS o.gG.toNat) :=((x9 af).frame Nk al.same).frame vw oy;have EY:lP L bV (pS o.bd.l) :=((((x9 ad).frame (l1:=l1++[aU.cells 1 [U.int .u8 111],aU.cells 1 [U.int .u8 (u o.act.kind)]]) (by rw[pp]; omega) (fun b ag=>aj8 ag)).frame (by rw[pp]; exact C3) af.same).frame Nk al.same).frame vw oy;have Sh:lP L eM (dS o.hA.toNat) :=(x9 al).frame vw oy;have ND:L[l.length]? = some (.cells 11 (a5 (g0 o))) :=by rw[oy _ (by omega)]; exact cD
 obtain⟨M,fJ⟩:∃ M,M=ip [[111#8],dS o.gG.toNat,pS o.bd.l,dS o.hA.toNat,[o.act.kind]] :=⟨_,rfl⟩
 have Gb:M=[111#8]++dS o.gG.toNat++pS o.bd.l++dS o.hA.toNat++[o.act.kind] :=by rw[fJ]; simp[ip]
 have Mm:M.length<=40000:=by rw[Gb]; simp only[akf,akv,akR]; omega
 have Ga:M.length≠0:=by rw[Gb]; simp
 refine Ld (bs:=[[111#8],dS o.gG.toNat,pS o.bd.l,dS o.hA.toNat,[o.act.kind]]) F9 rfl rfl ?_ (by rw[<-fJ]; omega) (by omega) fun nX pR aG=>?_
 ·intro k w s aV ak;rcases k with _ | _ | _ | _ | _ | k
  ·obtain rfl:=Option.some.inj aV; obtain rfl:=Option.some.inj ak; exact EW
  ·obtain rfl:=Option.some.inj aV; obtain rfl:=Option.some.inj ak; exact EX
  ·obtain rfl:=Option.some.inj aV; obtain rfl:=Option.some.inj ak; exact EY
  ·obtain rfl:=Option.some.inj aV; obtain rfl:=Option.some.inj ak; exact Sh
  ·obtain rfl:=Option.some.inj aV; obtain rfl:=Option.some.inj ak; exact Si
  ·cases aV
 rw[<-fJ,decide_eq_false Ga] at aG;have Vp:l.length<=L.length:=by omega
 have s6:cz 1 b0 l pR nX M false:=aG.base Vp fun b ag=>by
  have fu:b<l1.length:=by omega
  rw[oy b (by omega),al.same b (by omega),af.same b (by rw[pp]; omega),aj8 fu,ad.same b (by simp; omega),aj8 ag]
 have De:pR[l.length]? = some (.cells 11 (a5 (g0 o))) :=by rw[aG.same _ (by omega)]; exact ND
 have WZ:l.length<pR.length:=b9 De;have xH:=De;simp[a5,g0] at xH;have gH:jP o=M++(if o.act.kind=1#8 then [] else iB (fy o.act.key))++(if o.act.kind=4#8 then iD o.act.val else []) :=by rw[Gb]; rfl
 have kI:=ys (fy o.act.key);rw[o0] at kI;have GX:=au.key;have pJ:=Bo o.act.val;have X6:=au.val.2.2;have ah:vf (.str o.act.key)=some (.b1 1 ((fy o.act.key).map b0)) :=by
  show some (U.b1 1 (o.act.key.map fun b=>[iK b]))=_;rw[Ey]
 by_cases b5:o.act.kind=1#8
 ·have aS:(u o.act.kind:Int)=1:=(h0 o.act.kind).2 b5;have fH:¬ o.act.kind=4#8:=by rw[b5]; decide
  rw[if_pos b5,if_neg fH,akQ,akQ] at gH;simp[xH,aS];exact bj _ _ (by rw[gH]; exact s6)
 ·have aS:¬ (u o.act.kind:Int)=1:=fun h=>b5 ((h0 o.act.kind).1 h)
  rw[if_neg b5] at gH;simp[xH,aS,ah];refine Ry (some (fy o.act.key)) (by simpa [o0] using GX) (by simp[dd]) (by simp) (fun l' _ _=>by simp[dd]) fun EJ kP gg=>?_
  obtain⟨ady,H3,BG,sJ,_⟩:=(s6.frame gg.le gg.same).app (by_:=1) (x:=EJ) (xs:=iB (fy o.act.key)) gg.contents (by simp[b0]) (by omega) (by omega) (by rw[ay]; omega);have SE:=(aG.frame gg.le gg.same).app (by_:=1) (x:=EJ) (xs:=iB (fy o.act.key)) gg.contents (by simp[b0]) (by omega) (by omega) (by rw[ay]; omega);obtain⟨aj2,ah0,Kb,Te,_⟩:=SE;rw[BG] at Kb;obtain⟨rfl,rfl⟩:=Prod.mk.inj (Option.some.inj Kb);have Ha:H3[l.length]? = some (.cells 11 (a5 (g0 o))) :=by rw[Te.same _ (by omega)]; exact ND
  have vT:=Ha;simp[a5,g0] at vT;simp[BG];refine cM.cc ?_;simp only[alJ] at sJ;by_cases fH:o.act.kind=4#8
  ·have nq:(u o.act.kind:Int)=4:=(uy o.act.kind).2 fH;rw[if_pos fH] at gH;have tb:jY o.act=true:=by
    cases h:jY o.act with
    | true=>rfl
    | false=>
     unfold gO at ax;have bv:(g0 o).bd=o.bd:=rfl;have eR:(g0 o).act=o.act:=rfl;rw[bv,if_neg (by omega),Dj,if_pos rfl] at ax;unfold rx at ax;rw[eR,h] at ax;simp at ax
   rw[yP fH,akh] at tb;simp[vT,nq];refine adJ o.act.val au.val tb.2 fun JK YU j3=>?_
   obtain⟨adx,YV,E5,Fe,_⟩:=(sJ.frame j3.le j3.same).app (by_:=1) (x:=JK) (xs:=iD o.act.val) j3.contents (by simp[b0]) (by omega) (by omega) (by rw[ay]; simp only[akf]; omega);simp[E5];refine cM.cc ?_;simp;exact bj _ _ (by rw[gH]; exact Fe)
  ·have nq:¬ (u o.act.kind:Int)=4:=fun h=>fH ((uy o.act.kind).1 h)
   rw[if_neg fH,akQ] at gH;simp[vT,nq];exact bj _ _ (by rw[gH]; exact sJ)
theorem KD {o:bl} (h:gO o=0) :gO (g0 o)=0:=by
 unfold gO at h ⊢;have aS:(g0 o).bd=o.bd:=rfl;rw[aS];have aA:rx o=true->rx (g0 o)=true:=by
  unfold rx g0;simp only[akh];rintro⟨a,b,c,d,e⟩;exact⟨a,b,c,by decide,by decide⟩
 split at h
 ·cases h
 ·rename_i ad;rw[if_neg ad];split at h
  ·rename_i af;rw[if_pos af];split at h
   ·rename_i al;rw[if_pos (aA al)]
   ·cases h
  ·cases h
theorem Us {o:bl} (h:gO o=0) :jY o.act=true:=by
 unfold gO at h;split at h
 ·cases h
 ·split at h
  ·split at h
   ·rename_i al;unfold rx at al;simp only[akh] at al;exact al.2.2.1
   ·cases h
  ·cases h
theorem H0 {s:List UInt8} (h:iS s=true) :s.length<=20:=by
 unfold iS at h;simp only[akh,decide_eq_true_eq] at h;omega
theorem Lw {o:bl} (au:ih o) (h:gO o=0) :(hY o).length<=1000:=by
 have ad:=hI o.gG.toNat
 have af:=hI o.hA.toNat
 have al:=AE au.ids;have aG:=ys (fy o.act.key);rw[o0] at aG;have bK:=Bo o.act.val;have av:=wd h;have ao:=hI o.e.toNat
 have ak:=hI o.s.toNat
 have aC:=Us h;have aN:(if o.act.kind=1#8 then [] else iB (fy o.act.key)).length<=100:=by
  split
  ·simp
  ·rename_i b5;have:o.act.key.length<=20:=by
    by_cases ce:o.act.kind=2#8
    ·rw[E8 ce,akh] at aC; exact H0 aC.1
    ·by_cases il:o.act.kind=3#8
     ·rw[E9 il,akh] at aC; exact H0 aC.1
     ·by_cases fH:o.act.kind=4#8
      ·rw[yP fH,akh] at aC; exact H0 aC.1
      ·rw[Fa b5 ce il fH] at aC; cases aC
   omega
 have aT:(if o.act.kind=4#8 then iD o.act.val else []).length<=100:=by
  split
  ·rename_i fH;rw[yP fH,akh] at aC;have aq:=aC.2;have:o.act.val.text.length<=30:=by
    by_cases b4:o.act.val.kind=1#8
    ·rw[JH b4] at aq;simp only[akh,decide_eq_true_eq] at aq;rw[aq.2]; simp
    ·by_cases cx:o.act.val.kind=2#8
     ·rw[JI cx] at aq;simp only[akh,decide_eq_true_eq] at aq;rw[aq.2.2]; simp
     ·by_cases eB:o.act.val.kind=3#8
      ·by_cases am:o.act.val.text.length<=30
       ·exact am
       ·rw[Ru eB] at aq;unfold q9 at aq;rw[if_neg am] at aq;simp only[akh,decide_eq_true_eq,uN] at aq;have:=aq.1;rw[eB] at this;exact absurd this (by decide)
      ·rw[JJ b4 cx eB] at aq; cases aq
   omega
  ·simp
 unfold hY jP opHead;simp only[akf,akv,akR];omega
theorem adC (o:bl) (au:ih o) (ax:gO o=0) {l:ap} {K:U->ap->Prop} (bj:∀ w l',cz 1 b0 l l' w (hY o) false->K (.bu [w,.int .i64 0]) l') :
  dg Tryz.prog GS 84 [.aH (a5 o)] l (c:=⟨K⟩) :=by
 apply bf Tryz.func84 [[[0],[1],[2],[3],[4],[6],[7],[8],[9],[5,9,8]]];have ff:=EK o au;rw[ax] at ff;have eQ:=kv o;have ji:=Lw au ax;have kG:(BitVec.setWidth 64 o.e).toNat=o.e.toNat:=by rw[akq]; exact akn (by have:=o.e.isLt; omega)
 have m1:(BitVec.setWidth 64 o.s).toNat=o.s.toNat:=by rw[akq]; exact akn (by have:=o.s.isLt; omega)
 have aO:l.length<(l++[aU.cells 11 (a5 o)]).length:=by simp
 have eo:(l++[aU.cells 11 (a5 o)])[l.length]? = some (.cells 11 (a5 o)) :=by simp
 simp[a5];refine aY ff (show a1 [U.aH (a5 o)]=true by simp[a1,U.closed,eQ]) ?_;simp;refine RA o au (KD ax) fun bV l1 ad=>?_
 have qC:l1[l.length]? = some (.cells 11 (a5 o)) :=by rw[ad.same _ aO]; exact eo
 have oE:l.length<l1.length:=b9 qC;have vS:=qC;simp[a5] at vS;simp[vS];refine wr _ fun w2 bt af=>?_
 rw[kG] at af;have rU:bt[l.length]? = some (.cells 11 (a5 o)) :=by rw[af.same _ oE]; exact qC
 have pC:=rU;simp[a5] at pC;simp[pC];refine wr _ fun eM fZ al=>?_
 rw[m1] at al;simp[ad.cells,af.cells,al.cells,bi];obtain⟨L,dO⟩:∃ L,L=fZ++[aU.cells 3 [bV,w2,eM]] :=⟨_,rfl⟩
 have vw:fZ.length<=L.length:=by rw[dO]; simp
 have oy:∀ b,b<fZ.length->L[b]? = fZ[b]?:=fun b ag=>by rw[dO,aj8 ag]
 have F9:L[fZ.length]? = some (.cells 3 [bV,w2,eM]) :=by rw[dO]; simp
 rw[<-dO];have EW:lP L bV (jP o) :=(((x9 ad).frame af.le af.same).frame al.le al.same).frame vw oy;have EX:lP L w2 (dS o.e.toNat) :=((x9 af).frame al.le al.same).frame vw oy;have EY:lP L eM (dS o.s.toNat) :=(x9 al).frame vw oy;have fJ:ip [jP o,dS o.e.toNat,dS o.s.toNat]=hY o:=by simp[ip,hY]
 have Ga:(hY o).length≠0:=by unfold hY jP opHead; simp
 refine Ld (bs:=[jP o,dS o.e.toNat,dS o.s.toNat]) F9 rfl rfl ?_ (by rw[fJ]; omega) (by omega) fun nX pR aG=>?_
 ·intro k w s aV ak;rcases k with _ | _ | _ | k
  ·obtain rfl:=Option.some.inj aV; obtain rfl:=Option.some.inj ak; exact EW
  ·obtain rfl:=Option.some.inj aV; obtain rfl:=Option.some.inj ak; exact EX
  ·obtain rfl:=Option.some.inj aV; obtain rfl:=Option.some.inj ak; exact EY
  ·cases aV
 rw[fJ,decide_eq_false Ga] at aG;simp;refine bj _ _ (aG.base ?_ fun b ag=>?_)
 ·have:=af.le; have:=al.le; omega
 ·have:=af.le; have:=al.le;rw[oy b (by omega),al.same b (by omega),af.same b (by omega),ad.same b (by simp; omega),aj8 ag]
theorem adB (o:bl) (au:ih o) (ax:¬ gO o=0) :bn Tryz.prog GS 84 [.aH (a5 o)] (.bu [.aK,.int .i64 (gO o)]) :=by
 refine bD Tryz.checked.mixed bx ?_;apply bf Tryz.func84 [[[0],[1],[2],[3],[4],[6],[7],[8],[9],[5,9,8]]];have ff:=EK o au;have eQ:=kv o;obtain⟨E,c5⟩:∃ E,E=a5 o:=⟨_,rfl⟩
 have Cr:E.length=11:=by rw[c5]; rfl
 rw[<-c5] at ff eQ ⊢;simp[Cr,aj9];refine aY ff (by simp[a1,U.closed,eQ]) ?_;simp[ax];exact aJ rfl rfl
theorem adE (o:bl) (au:ih o) :bn Tryz.prog GS 55 [.aH (a5 o)] (.bu [fY (lF o),.int .i64 (gO o)]) :=by
 refine bD Tryz.checked.mixed bx ?_;apply bf Tryz.func55 [];unfold lF;have eQ:=kv o;have aw:(rep 32 (.int .u8 0) :List U)=(List.replicate 32 0#8).map bz:=by simp[rep]
 obtain⟨E,c5⟩:∃ E,E=a5 o:=⟨_,rfl⟩
 have Cr:E.length=11:=by rw[c5]; rfl
 by_cases aF:gO o=0
 ·have ji:=Lw au aF;have bq:(ib (hY o)).length=32:=us _;rw[<-c5];simp[Cr,aj9];rw[c5];refine adC o au aF fun bV l1 ad=>?_
  rw[<-c5] at ad;have eo:l1[1]? = some (.cells 32 (rep 32 (.int .u8 0))) :=by rw[ad.same 1 (by simp)]; rfl
  simp;refine kQ (acQ (some (hY o)) (by simp; omega)) (.cons (ad.q3 (fun _=>rfl) (some (hY o)) rfl rfl) .nil) (by simp[U.flat,kV,fY,w1 bz (fun _=>rfl)]) ?_;have vW:bi (rep 32 (.int .u8 0)) 0 ((ib (hY o)).map bz)=(ib (hY o)).map bz:=gl (by rw[aki,bq]; rfl);have kf:(l1.set 1 (aU.cells 32 ((ib (hY o)).map bz)))[1]? = some (.cells 32 ((ib (hY o)).map bz)) :=akm (b9 eo);simp[eo,fY,bq,vW,kf,aj9];exact aJ (by rw[if_pos aF,aF]) (by simp[U.closed,a1,ln bz (fun _=>rfl)])
 ·have MS:=adB o au aF;rw[<-c5] at MS eQ ⊢;simp[Cr,aj9];refine aY MS (by simp[a1,U.closed,eQ]) ?_;simp[aF,fY,aw];exact aJ rfl (by simp only[U.closed,a1,ln bz (fun _=>rfl),alP])
end Op

end Go.ca

namespace Go.ca
open Go Go.Proofs Go.RowKit
set_option maxRecDepth 100000
namespace Op
open hN
theorem Rk {P:Program} {t:TypeId} {ts:List TypeId} {cs:List U} (aM:P.underlying t=some .string) (h:dt P (t::ts) cs) :∃ s cs',cs=.str s::cs'/\dt P ts cs':=by
 cases h
 case str s cs' ak nB h=>exact⟨_,_,rfl,h⟩
 all_goals (exfalso; simp_all; done)
theorem Rm {ts:List TypeId} {cs:List U} (h:dt Tryz.prog (5::ts) cs) :∃ (x:B) (cs' : List U),cs=bz x::cs'/\dt Tryz.prog ts cs':=by
 obtain⟨k,wV,rfl,ad,af,al⟩:=uw (k:=.u8) (by kernel_rfl) h;have a6:(0:Int)<=k:=ad;have bK:k<=255:=af;refine⟨BitVec.ofNat 8 k.toNat,wV,?_,al⟩;have:((BitVec.ofNat 8 k.toNat).toNat:Int)=k:=by
  rw[aky,akn (by omega)]; omega
 simp[bz,u]; omega
theorem adg {ts:List TypeId} {cs:List U} (h:dt Tryz.prog (61::ts) cs) :∃ (x:List B) (cs' : List U),cs=x.map bz++cs'/\x.length=32/\dt Tryz.prog ts cs':=by
 have ad:=adc (e:=5) (n:=32) (by kernel_rfl) h;exact Rj (by kernel_rfl) 32 ad
theorem Bl {ts:List TypeId} {cs:List U} (h:dt Tryz.prog (23::ts) cs) :∃ (s:eE) (cs' : List U),cs=az s::cs'/\eh s/\dt Tryz.prog ts cs':=by
 obtain⟨s,cs',rfl,_,ad,af⟩:=JB (e:=61) (z:=32) (enc:=aX) (Q:=fun x=>x.length=32) (by kernel_rfl) (by kernel_rfl) (fun r ay=>by
  obtain⟨x,cs',rfl,ai,al⟩:=adg ay;rw[Bm al,akQ];exact⟨x,rfl,ai⟩) h
 exact⟨s,cs',rfl,ad,af⟩
theorem JC {ts:List TypeId} {cs:List U} (h:dt Tryz.prog (85::ts) cs) :∃ (x:D) (cs' : List U),cs=bp x::cs'/\dt Tryz.prog ts cs':=by
 obtain⟨k,wV,rfl,ad,af,al⟩:=uw (k:=.u32) (by kernel_rfl) h;have a6:(0:Int)<=k:=ad;have bK:k<=4294967295:=af;refine⟨BitVec.ofNat 32 k.toNat,wV,?_,al⟩;have:((BitVec.ofNat 32 k.toNat).toNat:Int)=k:=by
  rw[aky,akn (by omega)]; omega
 simp[bp,u]; omega
structure E2 (o:bl) :Prop where
 ids:eh o.bd
 hk:-9223372036854775808<=o.act.val.num
 jL:o.act.val.num<9223372036854775808
theorem adj {ts:List TypeId} {cs:List U} (h:dt Tryz.prog (88::ts) cs) :∃ (v:h3) (cs' : List U),cs=[bz v.kind,.int .i64 v.num,dI v.bits,.str v.text]++cs'/\(-9223372036854775808<=v.num/\v.num<9223372036854775808)/\dt Tryz.prog ts cs':=by
 have ad:=ux (fs:=[5,2,86,9]) (by kernel_rfl) h;obtain⟨k,_,rfl,af⟩:=Rm ad;obtain⟨n,_,rfl,qz,rQ,al⟩:=uw (k:=.i64) (by kernel_rfl) af;obtain⟨b,_,rfl,aG⟩:=Rl al;obtain⟨s,_,rfl,a6⟩:=Rk (by kernel_rfl) aG;have bK:n<=9223372036854775807:=rQ;exact⟨⟨k,n,b,s⟩,_,rfl,⟨qz,by show n<9223372036854775808; omega⟩,a6⟩
theorem adb {ts:List TypeId} {cs:List U} (h:dt Tryz.prog (90::ts) cs) :∃ (a:Act) (cs' : List U),cs=[bz a.kind,.str a.key,bz a.val.kind,.int .i64 a.val.num,dI a.val.bits,.str a.val.text]++cs'/\(-9223372036854775808<=a.val.num/\a.val.num<9223372036854775808)/\dt Tryz.prog ts cs':=by
 have ad:=ux (fs:=[5,9,88]) (by kernel_rfl) h;obtain⟨k,_,rfl,af⟩:=Rm ad;obtain⟨s,_,rfl,al⟩:=Rk (by kernel_rfl) af;obtain⟨v,_,rfl,aq,aG⟩:=adj al;exact⟨⟨k,s,v⟩,_,rfl,aq,aG⟩
theorem adh {ts:List TypeId} {cs:List U} (h:dt Tryz.prog (94::ts) cs) :∃ (o:bl) (cs' : List U),cs=a5 o++cs'/\E2 o/\dt Tryz.prog ts cs':=by
 have ad:=ux (fs:=[85,23,86,90,92]) (by kernel_rfl) h;obtain⟨a,_,rfl,af⟩:=JC ad;obtain⟨p,_,rfl,av,al⟩:=Bl af;obtain⟨n,_,rfl,aG⟩:=Rl al;obtain⟨c,_,rfl,ah,a6⟩:=adb aG;have bK:=ux (fs:=[85,85]) (by kernel_rfl) a6;obtain⟨x,_,rfl,c9⟩:=JC bK;obtain⟨y,cs',rfl,gg⟩:=JC c9;exact⟨⟨a,p,n,c,x,y⟩,cs',by simp[a5],⟨av,ah.1,ah.2⟩,gg⟩
end Op

end Go.ca

namespace Go.ca
open Go Go.Proofs
set_option maxRecDepth 100000
open hN Op
def Ea (a n:Nat) :Nat->Nat
 | 0=>1
 | k+1=>match Nat.beq (n / 2 ^ (63 - k) % 2) 1 with
  | true=>((Ea a n k) ^ 2 % 1000000007)*a % 1000000007
  | false=>(Ea a n k) ^ 2 % 1000000007
theorem Pr (a n:Nat) (aD:n<2 ^ 64) :∀ k,k<=64->Ea a n k=fi a (n / 2 ^ (64 - k))
 | 0,_=>by
  have:n / 2 ^ (64 - 0)=0:=alq aD;rw[this]; rfl
 | k+1,ax=>by
  have aQ:=Pr a n aD k (by omega);have ag:=Mz n k (by omega);have e:64 - (k+1)=63 - k:=by omega
  rw[e];unfold Ea;rw[aQ,Nat.pow_two,Pv];split
  ·rename_i h;have ad:=alh h;rw[Pt,ag,ad]
  ·rename_i h;have ad:n / 2 ^ (63 - k) % 2≠1:=fun aR=>by rw[aR] at h; cases h
   rw[ag];congr 1; omega
end Go.ca

namespace Go.ca
open Go Go.Proofs
set_option maxRecDepth 100000
namespace Op
open hN
section
variable {α:Type} {z:Nat} {enc:α->List U}
theorem Pe {bL:List α} (aw:∀ y∈bL,(enc y).length=z) (k:Nat) (ax:k<=bL.length) {n:Nat} (aD:bL.length=n) {cs:List U} (cR:cs.take (n*z)=(bL.map enc).flatten) (am:n*z<=cs.length) :
  cs.take (k*z)=((bL.take k).map enc).flatten/\(cs.drop (k*z)).take (n*z - k*z)=((bL.drop k).map enc).flatten:=by
 have hh:k*z<=n*z:=akc _ (by omega);have bv:bL.map enc=(bL.take k).map enc++(bL.drop k).map enc:=by rw[<-aks,ak1]
 have eR:((bL.take k).map enc).flatten.length=k*z:=by
  rw[ol (z:=z) (fun e ao=>by obtain⟨y,aL,rfl⟩:=akz.1 ao; exact aw _ (akD aL))];rw[aki,akB,ak7 (by omega)]
 have aS:cs.take (k*z)=(cs.take (n*z)).take (k*z) :=by rw[amk,ak7 hh]
 constructor
 ·rw[aS,cR,bv,akZ,akP (by omega),aj9 (by omega)]
 ·rw[<-ami,cR,bv,akZ,alb (by omega),alR (by omega),ald]
theorem Pf {l:ap} {v:U} {j k:Nat} {bL:List α} {x:α} {X:U} (cL:X.cells=some (enc x)) (h:bJ z l v j (bL.map enc)) (aw:∀ y∈bL,(enc y).length=z) (ax:k<bL.length) (ai:(enc x).length=z) :
  ∃ p l',cN (.ar z) v (.int .i64 (k:Int))=some p/\ld z l p (X)=some l'/\bJ z l' v j ((bL.set k x).map enc)/\l'.length=l.length/\∀ b,b≠j->l'[b]? = l[b]?:=by
 generalize ao:bL.map enc=es at h;cases h with
 | nil j=>rw[amp] at ao; subst ao; simp at ax
 | ar j n cap sz cs es ag am aD tz ah c3 cR=>
  subst ao;have xE:bL.length=n:=by simpa using aD
  have ev:j<l.length:=b9 ag;have bm:=ai;have hh:(k+1)*z<=n*z:=akc _ (by omega);have g3:n*z<=cap*z:=akc _ ah;have ak:(k+1)*z=k*z+z:=by rw[akK]
  obtain⟨f1,_⟩:=Pe aw k (by omega) xE cR (by omega);obtain⟨_,f2⟩:=Pe aw (k+1) (by omega) xE cR (by omega);refine⟨.ptr j (k*z) sz,l.set j (.cells sz (bi cs (k*z) (enc x))),?_,?_,?_,by simp,fun b rB=>by rw[akl (fun h=>rB h.symm)]⟩
  ·simp[cN]; omega
  ·unfold ld;simp[ag,cL,bm];omega
  ·refine .ar j n cap sz _ _ (akm ev) (by rw[wm (by omega),bm]; omega) (by simp; omega) (fun e ao=>?_) ah c3 ?_
   ·obtain⟨y,aL,rfl⟩:=akz.1 ao;rcases amu aL with h | h
    ·exact aw _ h
    ·rw[h]; exact bm
   ·have kf:bL.set k x=bL.take k++(x::bL.drop (k+1)) :=by rw[alu,if_pos ax]
    rw[kf,aks,akx,akZ,akT,<-f1,<-f2];unfold bi;have t1:(cs.take (k*z)).length=k*z:=by rw[akB]; omega
    have yt:(cs.take (k*z)).take (n*z)=cs.take (k*z) :=aj9 (by rw[t1]; omega);have yu:(enc x).take (n*z - k*z)=enc x:=aj9 (by rw[bm]; omega);rw[akU,bm,<-ak,al2,t1,yt,al2,yu,bm,show n*z - k*z - z=n*z - (k+1)*z by omega]
end

end Op

end Go.ca

namespace Go.ca
open Go Go.Proofs
set_option maxRecDepth 100000
theorem aaj {z:Nat} {l:ap} {v:U} {j:Nat} {es:List (List U)} (h:bJ z l v j es) (aq:cw v=false) :lT (bM l) (bM (l.set j .dead))/\lQ (bM l) (bM (l.set j .dead)) v (.b1 z es) :=by
 cases h with
 | nil j=>cases aq
 | ar j n cap sz cs es ag am aD aw ah c3 cR=>
 have aO:=b9 ag;have bh:(bM (l.set j .dead)).f j=.dead:=by rw[lg,alo,if_pos rfl,if_pos aO]
 have er:n*z<=cap*z:=akc _ ah;refine⟨⟨by simp,fun bc=>?_⟩,.ar z j 0 n cap sz cs es (mH.2 ag) bh aD aw (by omega) (fun i k e c c' ao ax qu=>?_)⟩
 ·by_cases bX:bc=j
  ·subst bX; exact .inr ⟨sz,cs,mH.2 ag,.inl bh⟩
  ·left;rw[lg,lg,alo,if_neg (by omega)]
 ·have vJ:k<z:=by rw[<-aw e (ake ao)]; exact (aj7.1 ax).1
  have aB:=(aj7.1 ao).1;have hm:i*z+z<=n*z:=by rw[<-akK]; exact akc _ (by omega)
  have ad:=w3 aw ao vJ;rw[<-cR,aku (by omega),ax] at ad;rw[alf,ad] at qu;cases qu;exact .same _
end Go.ca

namespace Go.ca
open Go Go.Proofs
set_option maxRecDepth 100000
namespace Op
theorem vm {α:Type} {enc:α->List U} {z:Nat} {a:List α} (h:∀ x∈a,(enc x).length=z) :(a.map enc).flatten.length=a.length*z:=by
 rw[ol (z:=z) (fun e ao=>by obtain⟨y,aL,rfl⟩:=akz.1 ao; exact h y aL),aki]
theorem Kp {α:Type} {enc:α->List U} {z by_:Nat} (l:ap) (s:cT α) (h:∀ x∈s.l,(enc x).length=z) (aF:z≠0) (ag:by_≠0) (ay:s.l.length*by_<=cF) :
  fS (l++[aU.cells 0 []]) z by_ (.ar z l.length 0 0 0 0) (ct z enc s)=some (.ar z l.length 0 s.l.length s.l.length (s.l.length*z),l++[.cells (s.l.length*z) (s.l.map enc).flatten]) :=by
 have gI:=vm h;unfold fS;rw[s1];simp only[];unfold i8;by_cases aw:s.l.length=0
 ·have aF:s.l=[] :=akH.1 aw;rw[aF];simp
 ·rw[if_neg aw,if_neg (by omega)];have bW:¬ s.l=[] :=fun h=>aw (by rw[h]; rfl)
  simp[ay,aF,aw,bW]
theorem sg {α:Type} {enc:α->List U} {z:Nat} {l:ap} {b n:Nat} {a:List α} (aC:∀ x∈a,(enc x).length=z) (aD:a.length=n) (ag:l[b]? = some (.cells (n*z) (a.map enc).flatten)) :bJ z l (.ar z b 0 n n (n*z)) b (a.map enc) :=by
 have gI:=vm aC;refine .ar b n n (n*z) _ _ ag (by rw[gI,aD]) (by simp[aD]) (fun e ao=>?_) (akb _) (akb _) ?_
 ·obtain⟨y,aL,rfl⟩:=akz.1 ao; exact aC y aL
 ·rw[aj9 (by rw[gI,aD]; omega)]
end Op

end Go.ca

namespace Go.ca
open Go Go.Proofs
set_option maxRecDepth 100000
namespace Op
open hN
theorem Sv {l:List D} {k:Nat} {x:D} (h:l[k]? = some x) (av:(l.take k).all fL=true) :(l.take (k+1)).all fL=fL x:=by
 rw[akC,h,List.all_append,av]; simp
theorem St {l:List D} {k:Nat} {x:D} (h:l[k]? = some x) (ai:fL x=false) :l.all fL=false:=by
 cases aR:l.all fL with
 | false=>rfl
 | true=>rw[ak4.1 aR x (ake h)] at ai; cases ai
structure RW (l:List D) (k:Nat) (ae:a7) (h:ap) :Prop where
 bg:ae 5=ct 1 ej (some l)
 cq:ae 6=.int .i64 l.length
 ez:ae 7=.int .i64 k
 av:(l.take k).all fL=true
theorem L4 (l:List D) (am:l.length<=1000) :bn Tryz.prog GS 180 [ct 1 ej (some l)] (.bool (l.all fL)) :=by
 refine bD Tryz.checked.mixed bx ?_;apply bf Tryz.func180 [];have bC:ch (.ar 1) (ct 1 ej (some l))=some (.int .i64 l.length) :=qS _;simp[bC];refine cm l.length (RW l) ?_ ⟨by simp,by simp,by simp,by simp⟩;rintro k ae h ax ⟨bg,cq,ez,av⟩;obtain⟨ae,rfl⟩:=jT bg cq ez;clear bg cq ez;by_cases h:k<l.length
 ·obtain⟨x,ai,_⟩:=bF h;have bU:cN (.ar 1) (ct 1 ej (some l)) (.int .i64 k)=some (.cg (ej x) 0) :=by rw[r1]; simp[ai]
  have eT:IntKind.i64.wrap ((k:Int)+1)=(k+1:Nat) :=wrap_i64 (by omega) (by omega);simp[h,bU,ej];refine aY (HR x) rfl ?_;cases aA:fL x with
  | false=>
   have:=St ai aA;simp;exact aJ (by rw[this]) rfl
  | true=>
   simp[eT];exact⟨by omega,by simp,by simp,by simp,by rw[Sv ai av]; exact aA⟩
 ·have eG:k=l.length:=by omega
  subst eG;rw[akE] at av;simp;exact aJ (by rw[av]) rfl
theorem abk {l:ap} {b:Nat} {x:D} (h:l[b]? = some (.cells 1 [bp x])) :fR (bM l) (.ar 1 b 0 1 1 1) (ct 1 ej (some [x])) :=by
 refine Ef (rest:=[]) (es:=[[bp x]]) (by simpa using h) rfl (by simp) (by simp[a1,U.closed])
def A2 (a b:D) :D:=BitVec.ofNat 32 (a.toNat*b.toNat % 1000000007)
theorem UW (a b:D) :bn Tryz.prog GS 139 [bp a,bp b] (.bu [bp (if fL a&&fL b then A2 a b else 0#32),.int .i64 (if fL a&&fL b then 0 else 2)]) :=by
 refine bD Tryz.checked.mixed bx ?_;apply bf Tryz.func139 [];simp;refine kQ (L4 [a,b] (by simp)) (.cons (A7 (by simp)) .nil) rfl ?_;cases aC:fL a with
 | false=>
  simp[aC];exact aJ rfl rfl
 | true=>
  cases ag:fL b with
  | false=>
   simp[aC,ag];exact aJ rfl rfl
  | true=>
   have aO:a.toNat<1000000007:=by unfold fL at aC; simp at aC; exact aC.1.2
   simp[aC,ag];refine kQ (Ij [a,b] (by simp)) (.cons (.same _ rfl) (.cons (A7 (by simp)) .nil)) rfl ?_;simp[Ii a b aO];exact aJ rfl rfl
theorem UX (a:D) (n:Q) :bn Tryz.prog GS 138 [bp a,dI n] (.bu [bp (if fL a then gP a n.toNat else 0#32),.int .i64 (if fL a then 0 else 2)]) :=by
 refine bD Tryz.checked.mixed bx ?_;apply bf Tryz.func138 [];simp;refine kQ (L4 [a] (by simp)) (.cons (abk (by simp)) .nil) rfl ?_;cases aC:fL a with
 | false=>
  simp[aC];exact aJ rfl rfl
 | true=>
  simp[aC];refine aY (ID a n) rfl ?_;simp;exact aJ rfl rfl
theorem UV (n:Q) :bn Tryz.prog GS 108 [dI n] (bp (gP 4#32 n.toNat)) :=by
 refine bD Tryz.checked.mixed bx ?_;apply bf Tryz.func108 [];simp;refine aY (ID 4#32 n) rfl ?_;simp;exact aJ rfl rfl
theorem IM (a:D) (n:Q) :bn Tryz.prog GS 220 [bp a,dI n] (bp (gP a n.toNat)) :=by
 refine bD Tryz.checked.mixed bx ?_;apply bf Tryz.func220 [];have a6:(a.setWidth 64:Q).toNat=a.toNat:=by rw[akq]; omega
 have bK:=wg a.toNat n.toNat
 have c9:(BitVec.ofNat 64 (fi a.toNat n.toNat)).setWidth 32=gP a n.toNat:=by
  apply akk;rw[q0,akq,aky];omega
 have av:=Pw (a.setWidth 64) n (by rw[a6]; exact a.isLt);rw[a6] at av;simp;refine aY av rfl ?_;simp[c9];exact aJ rfl rfl
theorem aaG (n:Q) :bn Tryz.prog GS 235 [dI n] (bp (gP 4#32 n.toNat)) :=by
 refine bD Tryz.checked.mixed bx ?_;apply bf Tryz.func235 [];simp;refine aY (IM 4#32 n) rfl ?_;simp;exact aJ rfl rfl
theorem aaQ (a:D) :bn Tryz.prog GS 219 [bp a] (.bu [bp (if fL a then gP a 500000002 else 0#32),.int .i64 (if fL a then 0 else 2)]) :=by
 refine bD Tryz.checked.mixed bx ?_;apply bf Tryz.func219 [];simp;refine aY (Qa a) rfl ?_;cases aC:fL a with
 | false=>
  simp;exact aJ rfl rfl
 | true=>
  simp;refine aY (IM a 500000002#64) rfl ?_;simp;exact aJ rfl rfl
theorem aaZ (a b:D) :bn Tryz.prog GS 222 [bp a,bp b] (bp (A2 a b)) :=by
 refine bD Tryz.checked.mixed bx ?_;apply bf Tryz.func222 [];have a6:∀ a:D,(a.setWidth 64:Q).toNat=a.toNat:=fun a=>by rw[akq]; omega
 have c9:((a.setWidth 64:Q)*b.setWidth 64 % 1000000007#64).setWidth 32=A2 a b:=by
  apply akk;rw[akq,x3 _ _ (by rw[a6]; exact a.isLt) (by rw[a6]; exact b.isLt),a6,a6];unfold A2;rw[aky]
 simp[Ei,c9];exact aJ rfl rfl
def sL (l:List B) :Q:=l.foldl (fun n x=>(n <<< 8) ||| x.setWidth 64) 0#64
theorem KI (l:List B) (k:Nat) (x:B) (h:l[k]? = some x) :sL (l.take (k+1))=(sL (l.take k) <<< 8) ||| x.setWidth 64:=by
 rw[akC,h]; simp[sL,amB]
theorem acm (a:Q) (x:B) :(a <<< 8) ||| x.setWidth 64=256#64*a+x.setWidth 64:=by
 apply akk;have ai:x.toNat<256:=x.isLt;have aC:=a.isLt;rw[BitVec.toNat_or,alp,am8,al3,akq];have ad:x.toNat % 2 ^ 64=x.toNat:=akn (by omega);have af:a.toNat <<< 8 % 2 ^ 64=(a.toNat % 2 ^ 56) <<< 8:=by rw[alm,alm]; omega
 have al:=amP (b:=x.toNat) (i:=8) (by omega) (a.toNat % 2 ^ 56);rw[ad,af,<-al,alm];have aG:(256#64).toNat=256:=rfl;rw[aG];omega
def iO (n:D) :List B:=[(n >>> 24).setWidth 8,(n >>> 16).setWidth 8,(n >>> 8).setWidth 8,n.setWidth 8]
def kW (l:List D) :List B:=l.flatMap iO
theorem UQ {l:List D} {k:Nat} {x:D} (h:l[k]? = some x) :kW (l.take (k+1))=kW (l.take k)++iO x:=by
 unfold kW; rw[akC,h,amQ]; simp
theorem LO (l:List D) :(kW l).length=4*l.length:=by
 induction l with
 | nil=>rfl
 | cons x l aQ=>unfold kW at aQ ⊢; rw[List.flatMap_cons,akf,aQ,akv]; simp[iO]; omega
def zJ (b:List B) :Q:=sL ((ib b).take 8)
theorem abl {l:ap} {b:Nat} {v m a4 ck:U} (h:l[b]? = some (.cells 2 [v,m])) (ad:fR (bM l) v a4) (af:fR (bM l) m ck) :fR (bM l) (.ar 1 b 0 2 2 2) (.b1 1 [[a4],[ck]]) :=by
 refine .ar 1 b 0 2 2 2 [v,m] [[a4],[ck]] (mH.2 h) rfl (by simp) (by simp) (fun i j e c c' ao aj ah=>?_);rcases i with _ | _ | i
 ·simp at ao; subst ao;rcases j with _ | j
  ·simp at aj ah; subst aj ah; exact ad
  ·simp at aj
 ·simp at ao; subst ao;rcases j with _ | j
  ·simp at aj ah; subst aj ah; exact af
  ·simp at aj
 ·simp at ao
theorem acw {b:Nat}:e3 (.arr 32 1) (.ptr b 0 32) none (some (.int .i64 8)) none=some (.ar 1 b 0 8 32 32) :=by
 have:gp 32 32 none (some (.int .i64 8)) none=some (0,8,32) :=rfl;simp only[e3,this]; rfl
structure R5 (iR:B) (m:eN) (e2:List D) (k:Nat) (ae:a7) (l:ap) :Prop where
 aN:ae 1=cu m
 rs:ae 21=ct 1 ej (some e2)
 w6:ae 22=.int .i64 e2.length
 ru:ae 23=.int .i64 k
 iM:∃ v,ae 8=v/\cz 1 b0 [] l v (iR::kW (e2.take k)) false
structure RX (d:List B) (e:Int) (k:Nat) (ae:a7) (l:ap) :Prop where
 kw:ae 12=.int .i64 e
 kx:ae 13=dI (sL (d.take k))
 xb:∃ b n,ae 49=.ar 1 b 0 8 n n/\l[b]? = some (.cells n (d.map bz))/\n=32
 xc:ae 50=.int .i64 8
 FX:ae 51=.int .i64 k
set_option maxHeartbeats 1000000 in
theorem VH (iR:B) (m:eN) (hm:m.l.length<=9991) (e2:List D) (am:e2.length<=10) :bn Tryz.prog GS 156 [bz iR,cu m,ct 1 ej (some e2)] (.bu [dI (zJ (iR::(kW e2++m.l))),.int .i64 0]) :=by
 refine bD Tryz.checked.mixed bx ?_;apply bf Tryz.func156 [];have ay:cF=140737488355328:=rfl;have bC:ch (.ar 1) (cu m)=some (.int .i64 m.l.length) :=qS _;have WW:ch (.ar 1) (ct 1 ej (some e2))=some (.int .i64 e2.length) :=qS _;have fV:¬ (9991:Int)<(m.l.length:Int) :=by omega
 have F2:¬ 9991<m.l.length:=by omega
 have eS:=lo m;simp[bC,WW,fV,F2];refine cm e2.length (R5 iR m e2) ?_ ⟨by simp,by simp,by simp,by simp,_,rfl,⟨0,pY (n:=1) (a:=[iR]) rfl rfl,by simp,by simp,.inr (by simp),rfl⟩⟩;rintro k ae l ax ⟨aN,rs,w6,ru,v,fB,eY⟩;obtain⟨ae,rfl⟩:=kq aN fB rs w6 ru;clear aN fB rs w6 ru;by_cases h:k<e2.length
 ·obtain⟨x,ai,_⟩:=bF h;have bU:cN (.ar 1) (ct 1 ej (some e2)) (.int .i64 k)=some (.cg (ej x) 0) :=by rw[r1]; simp[ai]
  have eT:IntKind.i64.wrap ((k:Int)+1)=(k+1:Nat) :=wrap_i64 (by omega) (by omega);have ak:=UQ ai;have gI:=LO (e2.take k);rw[akB] at gI;obtain⟨a4,l',a2,bb,cr⟩:=(eY.more [aU.cells 4 ((iO x).map bz)]).app (by_:=1) (x:=.ar 1 l.length 0 4 4 4) (xs:=iO x) (by rw[zh]; simp[dd,iO]) (fun y _=>rfl) (by omega) (by omega) (by rw[ay]; simp[iO]; omega);rw[show (iO x).map bz=[.int .u8 (u (BitVec.setWidth 8 (x >>> 24))),.int .u8 (u (BitVec.setWidth 8 (x >>> 16))),.int .u8 (u (BitVec.setWidth 8 (x >>> 8))),.int .u8 (u (BitVec.setWidth 8 x))] from rfl] at a2;simp[h,bU,ej,eT,a2];refine cM.cc ?_;simp[eT];exact⟨by omega,by simp,by simp,by simp,by simp,a4,by simp,by rw[ak,<-ak6]; exact bb⟩
 ·have eG:k=e2.length:=by omega
  subst eG;rw[akE] at eY;have gI:=LO e2;have av:=Po [some (iR::kW e2),m] (by simp) (fun s ak=>by
   rcases alr.1 ak with h | h
   ·rw[h]; show (iR::kW e2).length<=_; simp; omega
   ·rw[alg.1 h]; omega)
  have ep:bytesOf [some (iR::kW e2),m]=iR::(kW e2++m.l) :=by simp[bytesOf]
  rw[ep] at av;have tv:=eY.cells;have xD:(cu m).cells=some [cu m] :=by cases m<;>rfl
  obtain⟨io,vA⟩:∃ io,io=ib (iR::(kW e2++m.l)) :=⟨_,rfl⟩
  have db:io.length=32:=by rw[vA]; exact us _
  rw[<-vA] at av;have Gy:(io.map bz).length=32:=by simp[db]
  have GK:fY io=.aH (io.map bz) :=rfl;rw[GK] at av;have Hm:bi (rep 32 (.int .u8 0)) 0 (io.map bz)=io.map bz:=gl (by rw[Gy]; rfl);have bq:∀ b,e3 (.arr 32 1) (.ptr b 0 32) none (some (.int .i64 8)) none=some (.ar 1 b 0 8 32 32) :=fun b=>acw (b:=b)
  simp[tv,xD];refine kQ av (.cons (abl (by simp) ((eY.more _).q3 (fun _=>rfl) (some (iR::kW e2)) rfl rfl) (.same _ eS)) .nil) (by simp[U.flat,kV,fY,w1 bz (fun _=>rfl)]) ?_;simp[db,Hm,bq];refine cm 8 (RX io 0) ?_ ⟨by simp,by simp[sL],⟨l.length+1,32,by simp,by simp[List.getElem?_append],rfl⟩,by simp,by simp⟩;clear eY;rintro k ae l ax ⟨kw,kx,⟨b,n,xb,ag,rfl⟩,xc,FX⟩;obtain⟨ae,rfl⟩:=kq kw kx xb xc FX;clear kw kx xb xc FX;by_cases h:k<8
  ·obtain⟨x,ai,_⟩:=bF (l:=io) (k:=k) (by omega);have eT:IntKind.i64.wrap ((k:Int)+1)=(k+1:Nat) :=wrap_i64 (by omega) (by omega);have ak:=KI io k x ai;have eG:(k:Int)<8:=by omega
   have Dq:(io.map bz)[k]? = some (bz x) :=by rw[akd,ai]; rfl
   simp[h,eG,ag,eT,ai];exact⟨by simp,by simp[ak],⟨b,32,by simp,by simpa using ag,rfl⟩,by simp,by simp⟩
  ·have hH:k=8:=by omega
   subst hH;simp;exact aJ (by unfold zJ; rw[vA]) rfl
def yX (r y:D) (m:List B) :D:=(zJ (99#8::(kW [r,y]++m)) % 500000003#64).setWidth 32
theorem Qe (x:Q) :cj .rem .u64 (u x) .u64 500000003=some (.int .u64 (u (x % 500000003#64))) :=wG x 500000003#64 (by decide)
theorem adA (r y:D) (m:eN) (hm:m.l.length<=9991) :bn Tryz.prog GS 115 [bp r,bp y,cu m] (.bu [bp (yX r y m.l),.int .i64 0]) :=by
 refine bD Tryz.checked.mixed bx ?_;apply bf Tryz.func115 [];have eS:=lo m;simp;refine kQ (VH 99#8 m hm [r,y] (by simp)) (.cons (.same _ rfl) (.cons (.same _ eS) (.cons (A7 (by simp)) .nil))) rfl ?_;simp[Qe];exact aJ rfl rfl
theorem II (a b:D) (ag:b≠0#32) :cj .quo .u32 (u a) .u32 (u b)=some (.int .u32 (u (a / b))) :=by
 have bN:(b.toNat:Int)≠0:=fun e=>ag (akk (by simpa using e))
 show (if IntKind.u32=IntKind.u32/\(b.toNat:Int)≠0 then some (U.int .u32 (IntKind.u32.wrap ((a.toNat:Int).tdiv b.toNat))) else none)=_;rw[if_pos ⟨rfl,bN⟩,yA];congr 2;have:((a.toNat:Int).tdiv b.toNat)=((a.toNat / b.toNat:Nat) :Int) :=rfl;rw[this,ak8];congr 1;apply akk;rw[aky,alC];exact akn (Nat.lt_of_le_of_lt (anh _ _) a.isLt)
theorem LN (x:D) {l:ap} {K:U->ap->Prop} (bj:∀ v l',cz 1 b0 l l' v (iO x) false->K v l') :dg Tryz.prog GS 233 [bp x] l (c:=⟨K⟩) :=by
 apply bf Tryz.func233 [];have q1:cj .quo .u32 (u x) .u32 16777216=some (.int .u32 (u (x / 16777216#32))) :=II x 16777216#32 (by decide);have cS:cj .quo .u32 (u x) .u32 65536=some (.int .u32 (u (x / 65536#32))) :=II x 65536#32 (by decide);have fp:cj .quo .u32 (u x) .u32 256=some (.int .u32 (u (x / 256#32))) :=II x 256#32 (by decide);have oV:∀ y:D,cj .rem .u32 (u y) .u32 256=some (.int .u32 (u (y % 256#32))) :=fun y=>SW y 256#32 (by decide)
 have ai:=x.isLt;have aS:BitVec.setWidth 8 (x / 16777216#32)=BitVec.setWidth 8 (x >>> 24) :=by
  apply akk;rw[akq,akq,alC,akJ,akw];rfl
 have bv:BitVec.setWidth 8 (x / 65536#32 % 256#32)=BitVec.setWidth 8 (x >>> 16) :=by
  apply akk;rw[akq,akq,ak9,alC,akJ,akw];show x.toNat / 65536 % 256 % 256=x.toNat / 65536 % 256;omega
 have eR:BitVec.setWidth 8 (x / 256#32 % 256#32)=BitVec.setWidth 8 (x >>> 8) :=by
  apply akk;rw[akq,akq,ak9,alC,akJ,akw];show x.toNat / 256 % 256 % 256=x.toNat / 256 % 256;omega
 have nq:BitVec.setWidth 8 (x % 256#32)=BitVec.setWidth 8 x:=by
  apply akk;rw[akq,akq,ak9];show x.toNat % 256 % 256=x.toNat % 256;omega
 simp[q1,cS,fp,oV,aS,bv,eR,nq];exact bj _ _ ⟨l.length,pY (n:=4) (a:=iO x) rfl (by simp; rfl),by simp,fun b ag=>aj8 ag,.inr (by simp),rfl⟩
structure Sd (d:List B) (k:Nat) (ae:a7) (l:ap) :Prop where
 aZ:ae 3=.ptr 0 0 32
 a9:ae 4=dI (sL (d.take k))
 bg:ae 5=.int .i64 k
 i3:l[0]? = some (.cells 32 (d.map bz))
theorem ZS (s:eN) (ak:s.l.length<=1000000) :bn Tryz.prog GS 234 [cu s] (dI (zJ s.l)) :=by
 refine bD Tryz.checked.mixed bx ?_;apply bf Tryz.func234 [];have rT:=Qb s ak;have cR:=lo s;obtain⟨io,vA⟩:∃ io,io=ib s.l:=⟨_,rfl⟩
 have db:io.length=32:=by rw[vA]; exact us _
 rw[<-vA] at rT;have GK:fY io=.aH (io.map bz) :=rfl;rw[GK] at rT;have Gy:(io.map bz).length=32:=by simp[db]
 have Hm:bi (rep 32 (.int .u8 0)) 0 (io.map bz)=io.map bz:=gl (by rw[Gy]; rfl);simp;refine aY rT (by simp[a1,cR]) ?_;simp[db,Hm];refine cm 8 (Sd io) ?_ ⟨by simp,by simp[sL],by simp,rfl⟩;rintro k ae l ax ⟨aZ,a9,bg,i3⟩;obtain⟨ae,rfl⟩:=jT aZ a9 bg;clear aZ a9 bg;by_cases h:k<8
 ·obtain⟨x,ai,_⟩:=bF (l:=io) (k:=k) (by omega);have eT:IntKind.i64.wrap ((k:Int)+1)=(k+1:Nat) :=wrap_i64 (by omega) (by omega);have ak:=KI io k x ai;rw[acm] at ak;have eG:(k:Int)<8:=by omega
  have GU:k<32:=by omega
  simp[h,eG,GU,i3,eT,ai];exact⟨by omega,by simp,by simp[ak],by simp,i3⟩
 ·have hH:k=8:=by omega
  subst hH;simp;exact aJ (by unfold zJ; rw[vA]) rfl
theorem aaI (r y:D) (m:eN) (hm:m.l.length<=900000) :bn Tryz.prog GS 221 [bp r,bp y,cu m] (bp (yX r y m.l)) :=by
 refine bD Tryz.checked.mixed bx ?_;apply bf Tryz.func221 [];have ay:cF=140737488355328:=rfl;have eS:=lo m;simp;refine LN r fun cd l1 ad=>?_
 have Nj:=ad.le;have Xk:cz 1 b0 [] l1 (.ar 1 0 0 1 1 1) [99#8] false:=⟨0,pY (n:=1) (a:=[99#8]) rfl (by rw[ad.same 0 (by simp)]; rfl),by simp,by simp,.inr (by simp),rfl⟩
 obtain⟨bP,bt,a2,bb,cr⟩:=Xk.app (by_:=1) (x:=cd) (xs:=iO r) ad.contents (fun _ _=>rfl) (by omega) (by omega) (by rw[ay]; simp[iO]);simp[a2];refine cM.cc ?_;simp;refine LN y fun eW fZ al=>?_
 have Xl:cz 1 b0 [] fZ bP ([99#8]++iO r) false:=bb.frame al.le al.same;obtain⟨gb,pR,dn,dc,iJ⟩:=Xl.app (by_:=1) (x:=eW) (xs:=iO y) al.contents (fun _ _=>rfl) (by omega) (by omega) (by rw[ay]; simp[iO]);simp[dn];refine cM.cc ?_;obtain⟨g8,Oz,b5,ce,il⟩:=dc.app (by_:=1) (x:=cu m) (xs:=m.l) (Lf _ _) (fun _ _=>rfl) (by omega) (by omega) (by rw[ay]; simp[iO]; omega);simp[b5];refine cM.cc ?_;have ag:(cT.l (some ([99#8]++iO r++iO y++m.l)) :List B)=99#8::(kW [r,y]++m.l) :=by simp[kW]
 have rS:=ZS (some ([99#8]++iO r++iO y++m.l)) (by rw[ag]; simp[kW,iO]; omega);rw[ag] at rS;simp;refine kQ rS (.cons (ce.q3 (fun _=>rfl) (some ([99#8]++iO r++iO y++m.l)) (by simp) rfl) .nil) rfl ?_;simp[Qe];exact aJ rfl rfl
theorem Ec (a n k:Nat) :fi (fi a n) k=fi a (n*k) :=by
 unfold fi; rw[<-amS,<-Nat.pow_mul]
theorem Pu (n:Nat) :fi 1 n=1:=by unfold fi; rw[Nat.one_pow]
theorem aaw (a m n:Nat) :fi a (m+n)=fi a m*fi a n % 1000000007:=by
 unfold fi; rw[al0,amE]
theorem SH:fi 4 500000003=1:=by
 have h:=Pr 4 500000003 (by decide) 64 (akb _);rw[show 500000003 / 2 ^ (64 - 64)=500000003 from rfl] at h;rw[<-h];decide +kernel
theorem HS {y:D} (h:fi y.toNat 500000003=1) (n:Nat) :fL (gP y n)=true:=by
 have aq:=q0 y n;have aO:=wg y.toNat n;have ad:fi (fi y.toNat n) 500000003=1:=by
  rw[Ec,am7,<-Ec,h,Pu]
 have aF:fi y.toNat n≠0:=fun e=>by
  rw[e] at ad;have aw:∀ n,0<n->fi 0 n=0:=fun n aD=>by unfold fi; rw[Nat.zero_pow aD]
  rw[aw _ (by decide)] at ad;cases ad
 unfold fL;rw[aq,decide_eq_true (by omega),decide_eq_true aO,decide_eq_true ad]; rfl
theorem Om {y:D} (h:fL y=true) :fi y.toNat 500000003=1:=by
 unfold fL at h; simp only[akh,decide_eq_true_eq] at h; exact h.2
theorem SG {y:D} (h:fi y.toNat 500000003=1) {e:Nat} (ao:e<500000003) :gP (gP y e) 500000002=gP y (500000003 - e) :=by
 apply akk;rw[q0,q0,q0,Ec];rcases e with _ | e
 ·rw[amh,amL,h];unfold fi; rfl
 ·have aS:(e+1)*500000002=500000003*e+(500000003 - (e+1)) :=by omega
  rw[aS,aaw,<-Ec,h,Pu,Nat.one_mul,akn (wg _ _)]
def A5 (y:D) (e s:D) :D:=A2 (gP 4#32 s.toNat) (gP y (500000003 - e.toNat))
def Be (y:D) (m:List B) (e s:D) :Bool:=iN e&&(iN s&&decide (yX (A5 y e s) y m=e))
theorem acM {e:D} (ao:e.toNat<500000003) :(500000003#64 - e.setWidth 64).toNat=500000003 - e.toNat:=by
 rw[BitVec.toNat_sub,akq];have:(500000003#64).toNat=500000003:=rfl;rw[this]; omega
theorem adK (y:D) (aL:fL y=true) (m:eN) (hm:m.l.length<=9991) (e s:D) :bn Tryz.prog GS 100 [bp y,cu m,.aH [bp e,bp s]] (.int .i64 (if Be y m.l e s then 0 else 22)) :=by
 refine bD Tryz.checked.mixed bx ?_;apply bf Tryz.func100 [];unfold Be;have bC:ch (.ar 1) (cu m)=some (.int .i64 m.l.length) :=qS _;have fV:¬ (9991:Int)<(m.l.length:Int) :=by omega
 have F2:¬ 9991<m.l.length:=by omega
 have eS:=lo m;have a8:=Om aL;have MY:=HR y;rw[aL] at MY;simp;refine aY MY rfl ?_;obtain⟨M,fJ⟩:∃ M:Int,M=if u e<u s then u s else u e:=⟨_,rfl⟩
 have vP:tP (bp e) (bp s)=some (.int .u32 M) :=by rw[fJ]; simp[tP,bp]
 have Ml:(500000003:Int)<=M<->500000003<=e.toNat\/500000003<=s.toNat:=by
  rw[fJ]; unfold u; split<;>omega
 simp[bC,fV,F2,vP];by_cases ad:500000003<=e.toNat\/500000003<=s.toNat
 ·have ag:(iN e&&(iN s&&decide (yX (A5 y e s) y m.l=e)))=false:=by
   unfold iN;rcases ad with h | h
   ·rw[decide_eq_false (by omega)]; rfl
   ·rw[decide_eq_false (p:=s.toNat<500000003) (by omega)]; simp
  have ah:=Ml.2 ad;simp[ah,ag];exact aJ rfl rfl
 ·have ah:¬ (500000003:Int)<=M:=fun h=>ad (Ml.1 h)
  have hF:iN e=true:=by unfold iN; exact decide_eq_true (by omega)
  have ft:iN s=true:=by unfold iN; exact decide_eq_true (by omega)
  have NH:=UX y (500000003#64 - e.setWidth 64);have XM:(s.setWidth 64:Q).toNat=s.toNat:=by rw[akq]; omega
  have CD:=UV (s.setWidth 64);rw[aL,if_pos rfl,if_pos rfl,acM (by omega)] at NH;rw[XM] at CD;have rP:=UW (gP 4#32 s.toNat) (gP y (500000003 - e.toNat));rw[HS (y:=4#32) SH,HS a8] at rP;simp only[alP,if_true] at rP;have mU:=adA (A5 y e s) y m hm;have c5:∀ a b:D,((u a:Int)=u b)<->a=b:=fun a b=>⟨fun h=>akk (by unfold u at h; omega),fun h=>by rw[h]⟩
  simp[ah];refine aY NH rfl ?_;simp;refine aY CD rfl ?_;simp;refine aY rP rfl ?_;simp;refine aY mU (by simp[a1,U.closed,eS]) ?_;rw[hF,ft];by_cases al:yX (A5 y e s) y m.l=e
  ·simp[al];exact aJ rfl rfl
  ·simp[al,c5];exact aJ rfl rfl
theorem aaR (s:D) :bn Tryz.prog GS 223 [bp s] (bp (gP 4#32 s.toNat)) :=by
 refine bD Tryz.checked.mixed bx ?_;apply bf Tryz.func223 [];have abY:(s.setWidth 64:Q).toNat=s.toNat:=by rw[akq]; omega
 have mT:=aaG (s.setWidth 64);rw[abY] at mT;simp;refine aY mT rfl ?_;simp;exact aJ rfl rfl
theorem aa0 (y:D) (aL:fL y=true) (m:eN) (hm:m.l.length<=900000) (e s:D) :bn Tryz.prog GS 199 [bp y,cu m,.aH [bp e,bp s]] (.bool (Be y m.l e s)) :=by
 refine bD Tryz.checked.mixed bx ?_;apply bf Tryz.func199 [[[0],[1],[3],[5],[6],[8],[9],[2,9],[4,9],[7,9]]];unfold Be;have eS:=lo m;have a8:=Om aL;have c5:∀ a b:D,((u a:Int)=u b)<->a=b:=fun a b=>⟨fun h=>akk (by unfold u at h; omega),fun h=>by rw[h]⟩
 simp;refine aY (Ca e) rfl ?_;cases ad:iN e with
 | false=>simp; exact aJ rfl rfl
 | true=>
 simp;refine aY (Ca s) rfl ?_;cases af:iN s with
 | false=>simp; exact aJ rfl rfl
 | true=>
 have ao:e.toNat<500000003:=by unfold iN at ad; exact of_decide_eq_true ad
 have Ub:(e.setWidth 64:Q).toNat=e.toNat:=by rw[akq]; omega
 have NL:=IM y (e.setWidth 64);rw[Ub] at NL;have M5:=aaQ (gP y e.toNat);rw[HS a8,if_pos rfl,if_pos rfl,SG a8 ao] at M5;have mT:=aaR s;have xJ:=aaZ (gP 4#32 s.toNat) (gP y (500000003 - e.toNat));have mU:=aaI (A5 y e s) y m hm;simp;refine aY NL rfl ?_;simp;refine aY M5 rfl ?_;simp;refine aY mT rfl ?_;simp;refine aY xJ rfl ?_;simp;refine aY mU (by simp[a1,U.closed,eS]) ?_;simp[c5];exact aJ rfl rfl
def Jf (o:bl) :Bool:=Be o.gG (jP o) o.e o.s
def p6 (o:bl) :Int:=if gO o=0 then (if Jf o then 0 else 22) else gO o
theorem O5 {o:bl} (aB:∀ x∈o.bd.l,x.length=32) (h:gO o=0) :fL o.gG=true/\(jP o).length<=9991:=by
 have aG:=wd h;unfold gO at h;rw[if_neg (by omega)] at h;split at h
 ·split at h
  ·rename_i ay aA;unfold rx at aA;simp only[akh,decide_eq_true_eq] at aA;obtain⟨aN,aT,aZ,a9,bg⟩:=aA;refine⟨aN,?_⟩;have GY:o.act.key.length<=20/\(o.act.kind=4#8->o.act.val.text.length<=30) :=by
    unfold jY at aZ;split at aZ
    ·rename_i ad;simp only[akh,decide_eq_true_eq] at aZ;rw[aZ.1];exact⟨by simp,fun h=>by rw[ad] at h; cases h⟩
    ·split at aZ
     ·rename_i ad af;simp only[akh] at aZ;have ax:=aZ.1;unfold iS at ax;simp only[akh,decide_eq_true_eq] at ax;exact⟨ax.1.2,fun h=>by rw[h] at af; rcases af with af | af<;>cases af⟩
     ·split at aZ
      ·simp only[akh] at aZ;obtain⟨ax,aq⟩:=aZ;unfold iS at ax;simp only[akh,decide_eq_true_eq] at ax;refine⟨ax.1.2,fun _=>?_⟩;unfold jU at aq;split at aq
       ·simp only[akh,decide_eq_true_eq] at aq; rw[aq.2]; simp
       ·split at aq
        ·simp only[akh,decide_eq_true_eq] at aq; rw[aq.1.2]; simp
        ·split at aq
         ·simp only[akh,decide_eq_true_eq] at aq; exact aq.1.2
         ·cases aq
      ·cases aZ
   have hk:=hI o.gG.toNat
   have jL:=hI o.hA.toNat
   have sc:=AE aB;have nF:=ys (fy o.act.key);rw[o0] at nF;have wc:=Bo o.act.val;have n6:(opHead o).length<=10:=by unfold opHead; simp; omega
   unfold jP;simp only[akf,akv,akR];have n7:(if o.act.kind=1#8 then ([] :List B) else iB (fy o.act.key)).length<=29:=by
    split
    ·simp
    ·omega
   have n8:(if o.act.kind=4#8 then iD o.act.val else []).length<=50:=by
    split
    ·rename_i h; have:=GY.2 h; omega
    ·simp
   omega
  ·cases h
 ·cases h
theorem adL (o:bl) (au:ih o) :bn Tryz.prog GS 67 [.aH (a5 o)] (.int .i64 (p6 o)) :=by
 refine bD Tryz.checked.mixed bx ?_;apply bf Tryz.func67 [];unfold p6;have ea:=kv o;have ff:=EK o au;have vy:a1 [U.aH (a5 o)]=true:=by simp[a1,U.closed,ea]
 by_cases aF:gO o=0
 ·obtain⟨aA,bC⟩:=O5 au.ids aF;rw[if_pos aF];simp[a5];refine aY ff vy ?_;simp[aF];refine RA o au (KD aF) fun w l' h=>?_
  have i3:l'[0]? = some (.cells 11 (a5 o)) :=by rw[h.same 0 (by simp)]; rfl
  have AZ:=i3;simp[a5] at AZ;have aq:=adK o.gG aA (some (jP o)) bC o.e o.s;simp[AZ];refine kQ aq (.cons (.same _ rfl) (.cons (h.q3 (fun _=>rfl) (some (jP o)) rfl rfl) (.cons (.same _ rfl) .nil))) rfl ?_;simp;exact aJ rfl rfl
 ·rw[if_neg aF];simp[a5];refine aY ff vy ?_;simp[aF];exact aJ rfl rfl
theorem aa6 (o:bl) (au:ih o) (aF:gO o=0) :bn Tryz.prog GS 170 [.aH (a5 o)] (.bool (Jf o)) :=by
 refine bD Tryz.checked.mixed bx ?_;apply bf Tryz.func170 [[[0],[1],[2],[4],[5],[3,5,1]]];have ea:=kv o;obtain⟨aA,bC⟩:=O5 au.ids aF;have aq:=aa0 o.gG aA (some (jP o)) (by show (jP o).length<=_; omega) o.e o.s;simp[a5];refine P2 o au (by have:=wd aF; omega) fun w l' h=>?_
 have i3:l'[0]? = some (.cells 11 (a5 o)) :=by rw[h.same 0 (by simp)]; rfl
 have AZ:=i3;simp[a5] at AZ;simp[AZ];refine kQ aq (.cons (.same _ rfl) (.cons (h.q3 (fun _=>rfl) (some (jP o)) rfl rfl) (.cons (.same _ rfl) .nil))) rfl ?_;simp;exact aJ rfl rfl
theorem abg (o:bl) (au:ih o) :bn Tryz.prog GS 130 [.aH (a5 o)] (.int .i64 (p6 o)) :=by
 refine bD Tryz.checked.mixed bx ?_;apply bf Tryz.func130 [];unfold p6;have ea:=kv o;have ff:=aaX o au;have vy:a1 [U.aH (a5 o)]=true:=by simp[a1,U.closed,ea]
 by_cases aF:gO o=0
 ·rw[if_pos aF];simp[a5];refine aY ff vy ?_;simp[aF];refine aY (aa6 o au aF) vy ?_;cases ak:Jf o with
  | true=>simp; exact aJ rfl rfl
  | false=>simp; exact aJ rfl rfl
 ·rw[if_neg aF];simp[a5];refine aY ff vy ?_;simp[aF];refine aY ff vy ?_;simp;exact aJ rfl rfl
end Op

end Go.ca

namespace Go.ca
open Go Go.Proofs
set_option maxRecDepth 100000
namespace Op

section
variable {α:Type} {z:Nat} {enc:α->List U}
theorem Z0 {by_:Nat} {l l1:ap} {v:U} {a:List α} {nl:Bool} (h:cz z enc l l1 v a nl) (x:α) {b:Nat} (ag:l1[b]? = some (.cells z (enc x))) (ai:(enc x).length=z) (aF:z≠0) (ep:by_≠0) (ed:(a.length+1)*by_<=cF) :
  ∃ a4 l',fS l1 z by_ v (.ar z b 0 1 1 z)=some (a4,l')/\cz z enc l l' a4 (a++[x]) false/\l1.length<=l'.length:=by
 obtain⟨a4,l',aN,aT,aZ⟩:=h.app (by_:=by_) (x:=.ar z b 0 1 1 z) (xs:=[x]) (by simp[dd,ag,ai,aj9]) (by simp[ai]) aF ep (by simpa using ed);exact⟨a4,l',aN,by simpa using aT,aZ⟩
def mi (l:List α) (i:Nat) (x:α) :List α:=l.take i++x::l.drop i
theorem Dv (l:List α) (i:Nat) (x:α) :(mi l i x).length=l.length+1:=by
 unfold mi;have:=congrArg List.length (ak1 i l);simp only[akf,akv] at this ⊢; omega
theorem Ok {l:List α} {i:Nat} {x y:α}:y∈mi l i x<->y=x\/y∈l:=by
 unfold mi;rw[ak5,alr];constructor
 ·rintro (h | h | h)
  ·exact .inr (akD h)
  ·exact .inl h
  ·exact .inr (alw h)
 ·rintro (h | h)
  ·exact .inr (.inl h)
  ·rw[<-ak1 i l,ak5] at h;exact h.elim .inl fun h=>.inr (.inr h)
theorem QM {lt:α->α->Bool} (CY:∀ a,lt a a=false) (N0:∀ a b c,lt a b=true->lt b c=true->lt a c=true) :∀ {l m:List α},l.Pairwise (fun a b=>lt a b=true)->m.Pairwise (fun a b=>lt a b=true)->(∀ y,y∈l<->y∈m)->l=m
 | [],[],_,_,_=>rfl
 | [],b::m,_,_,h=>absurd ((h b).2 (by simp)) (by simp)
 | a::l,[],_,_,h=>absurd ((h a).1 (by simp)) (by simp)
 | a::l,b::m,am,hm,h=>by
  obtain⟨l1,bt⟩:=amZ.1 am;obtain⟨dJ,dy⟩:=amZ.1 hm;have gw:a=b:=by
   rcases alr.1 ((h a).1 (by simp)) with e | e
   ·exact e
   ·rcases alr.1 ((h b).2 (by simp)) with bv | bv
    ·exact bv.symm
    ·have:=N0 _ _ _ (dJ a e) (l1 b bv);rw[CY] at this; cases this
  subst gw;congr 1;refine QM CY N0 bt dy fun y=>⟨fun aL=>?_,fun aL=>?_⟩
  ·rcases alr.1 ((h y).1 (by simp[aL])) with e | e
   ·subst e;have:=l1 y aL;rw[CY] at this; cases this
   ·exact e
  ·rcases alr.1 ((h y).2 (by simp[aL])) with e | e
   ·subst e;have:=dJ y aL;rw[CY] at this; cases this
   ·exact e
end

section
variable {α:Type} [DecidableEq α]
end

end Op

end Go.ca

/-
  Values and acts, checked: walked in both texts.
-/
import Derived.Test.YtobphgccoalchaaGreatDoorDh
set_option linter.unusedVariables false
set_option linter.unusedSimpArgs false
set_option linter.unnecessarySimpa false
namespace Go.ct
open Go Go.Proofs
set_option maxRecDepth 100000
namespace Op
open hK
structure g7 where
 kind:B
 num:Int
 bits:Q
 text:List UInt8
def c7 (v:g7) :List ad:=[bQ v.kind,.int .i64 v.num,dm v.bits,.str v.text]
def jN:g7:=⟨0#8,0,0#64,[]⟩
def ky (b:Q) :Nat:=b.toNat / 4503599627370496 % 2048
def pV (b:Q) :Q:=b % 4503599627370496#64
def cls (b:Q) :B:=if ky b=2047 then (if pV b=0#64 then 4#8 else 5#8) else if ky b=0 then (if pV b=0#64 then 1#8 else 2#8) else 3#8
def nA (b:Q) :Q:=if cls b=5#8 then 9221120237041090560#64 else b
theorem i5 (k:B) :((u k:Int)=1)<->k=1#8:=rK k 1#8
theorem mf (k:B) :((u k:Int)=2)<->k=2#8:=rK k 2#8
theorem pB (k:B) :((u k:Int)=3)<->k=3#8:=rK k 3#8
theorem wD (k:B) :((u k:Int)=4)<->k=4#8:=rK k 4#8
theorem HC (k:B) :((u k:Int)=5)<->k=5#8:=rK k 5#8
theorem avv (k:B) :((u k:Int)=0)<->k=0#8:=rK k 0#8
theorem uB (k:Q) :((u k:Int)=0)<->k=0#64:=rK k 0#64
theorem Sx (b:Q) :ky b<2048:=aES _ (by decide)
theorem aeh (n:Nat) (h:n<9223372036854775808) :cP .and .i64 (n:Int) .i64 2047=some (.int .i64 ((n % 2048:Nat) :Int)) :=by
 show some (ad.int .i64 (IntKind.i64.wrap ((BitVec.ofInt 64 (n:Int) &&& BitVec.ofInt 64 (2047:Int)).toNat:Int)))=_;have h1:(BitVec.ofInt 64 (n:Int) &&& BitVec.ofInt 64 (2047:Int)).toNat=n % 2048:=by
  rw[aDI,aFn,aC7,aC1 (by omega)];exact aFu n 11
 have ag:=aES n (show 2048 > 0 by decide);rw[h1];generalize n % 2048=q at ag;rw[wrap_i64 (by omega) (by omega)]
theorem ajR (b:Q) :b &&& 4503599627370495#64=pV b:=by
 apply aCV;unfold pV;rw[aFn,aDU];exact aFu b.toNat 52
theorem auJ (b:Q) :bE Tryz.prog GS 264 [dm b] (.b5 [.int .i64 (ky b),dm (pV b)]) :=by
 refine bS Tryz.checked.mixed bP ?_;apply bw ag7 arP;unfold QP aaI;have ai:=b.isLt;have h1:IntKind.i64.wrap (u (b >>> 52))=((b.toNat / 4503599627370496:Nat) :Int) :=by
  have:u (b >>> 52)=((b.toNat / 4503599627370496:Nat) :Int) :=by unfold u; rw[aDo,aC8]
  rw[this,wrap_i64 (by omega) (by omega)]
 have ag:=aeh (b.toNat / 4503599627370496) (by omega);have au:ky b=b.toNat / 4503599627370496 % 2048:=rfl;rw[<-au] at ag;obtain⟨q,bD⟩:∃ q,b.toNat / 4503599627370496=q:=⟨_,rfl⟩
 rw[bD] at h1 ag;have aq:cP .and .u64 (u b) .u64 4503599627370495=some (dm (pV b)) :=by
  rw[Og,mK,<-ajR]; rfl
 have aH:cP .shr .u64 (u b) .u64 52=some (.int .u64 (u (b >>> 52))) :=tt b .u64 52;simp[aH,h1,ag,aq,-Og];exact aJ rfl rfl
theorem atF (b:Q) :bE Tryz.prog GS 253 [dm b] (.int .i64 (ky b)) :=by
 refine bS Tryz.checked.mixed bP ?_;apply bw agZ arH;unfold QH aaA;have ai:=b.isLt;have h1:cP .rem .u64 (u b) .u64 9223372036854775808=some (dm (b % 9223372036854775808#64)) :=y0 b 9223372036854775808#64 (by decide);have ag:cP .quo .u64 (u (b % 9223372036854775808#64)) .u64 4503599627370496=some (dm (b % 9223372036854775808#64 / 4503599627370496#64)) :=Mb _ 4503599627370496#64 (by decide);have aq:IntKind.i64.wrap (u (b % 9223372036854775808#64 / 4503599627370496#64))=(ky b:Int) :=by
  have:u (b % 9223372036854775808#64 / 4503599627370496#64)=(ky b:Int) :=by
   unfold u ky;rw[aEh,aDU];show (((b.toNat % 9223372036854775808) / 4503599627370496:Nat) :Int)=_;congr 1;omega
  have aH:=Sx b;rw[this,wrap_i64 (by omega) (by omega)]
 simp[h1,ag,aq];exact aJ rfl rfl
theorem atG (b:Q) :bE Tryz.prog GS 254 [dm b] (dm (pV b)) :=by
 refine bS Tryz.checked.mixed bP ?_;apply bw ag0 arI;unfold QI aaB;have h1:cP .rem .u64 (u b) .u64 4503599627370496=some (dm (pV b)) :=y0 b 4503599627370496#64 (by decide);simp[h1];exact aJ rfl rfl
theorem aij (b:Q) :bE Tryz.prog GS 252 [dm b] (bQ (cls b)) :=by
 refine bS Tryz.checked.mixed bP ?_;apply bw agY arG;unfold QG aaz cls;simp;refine a8 (auJ b) rfl ?_;have h1:((ky b:Int)=2047)<->ky b=2047:=by omega
 have ag:((ky b:Int)=0)<->ky b=0:=by omega
 by_cases aW:ky b=2047
 ·by_cases bg:pV b=0#64
  ·simp[h1,aW,bg];exact aJ rfl rfl
  ·simp[h1,aW,bg,uB];exact aJ rfl rfl
 ·by_cases bj:ky b=0
  ·by_cases bg:pV b=0#64
   ·simp[h1,ag,aW,bg,bj];exact aJ rfl rfl
   ·simp[h1,ag,aW,bg,bj,uB];exact aJ rfl rfl
  ·simp[h1,ag,aW,bj];exact aJ rfl rfl
theorem atE (b:Q) :bE Tryz.prog GS 222 [dm b] (bQ (cls b)) :=by
 refine bS Tryz.checked.mixed bP ?_;apply bw agC arj;unfold Qj aad cls;simp;refine a8 (atF b) rfl ?_;simp;refine a8 (atG b) rfl ?_;have ag:((ky b:Int)=0)<->ky b=0:=by omega
 have aq:((ky b:Int)<2047)<->¬ ky b=2047:=by have:=Sx b; omega
 by_cases bj:ky b=0
 ·by_cases bg:pV b=0#64
  ·simp[ag,bg,bj];exact aJ rfl rfl
  ·simp[ag,bg,bj,uB];exact aJ rfl rfl
 ·by_cases aW:ky b=2047
  ·by_cases bg:pV b=0#64
   ·simp[ag,aq,aW,bg];exact aJ rfl rfl
   ·simp[ag,aq,aW,bg,uB];exact aJ rfl rfl
  ·simp[ag,aq,aW,bj];exact aJ rfl rfl
theorem ah8 (b:Q) :bE Tryz.prog GS 220 [dm b] (dm (nA b)) :=by
 refine bS Tryz.checked.mixed bP ?_;apply bw agA arh;unfold Qh Z9 nA;simp;refine a8 (aij b) rfl ?_;by_cases h:cls b=5#8
 ·simp[HC,h];exact aJ rfl rfl
 ·simp[HC,h];exact aJ rfl rfl
theorem atC (b:Q) :bE Tryz.prog GS 162 [dm b] (dm (nA b)) :=by
 refine bS Tryz.checked.mixed bP ?_;apply bw afW aqC;unfold PD Zy nA;simp;refine a8 (atE b) rfl ?_;by_cases h:cls b=5#8
 ·simp[HC,h];exact aJ rfl rfl
 ·simp[HC,h];exact aJ rfl rfl
theorem avD (n:Int) :bE Tryz.prog GS 158 [.int .i64 n] (.aM (c7 ⟨1#8,n,0#64,[]⟩)) :=by
 refine bS Tryz.checked.mixed bP ?_;apply bw afS aqy;unfold PA Zu;simp;exact aJ rfl rfl
theorem avC (b:Q) :bE Tryz.prog GS 159 [dm b] (.aM (c7 ⟨2#8,0,nA b,[]⟩)) :=by
 refine bS Tryz.checked.mixed bP ?_;apply bw afT aqz;unfold PB Zv;simp;refine a8 (ah8 b) rfl ?_;simp;exact aJ rfl rfl
def s9 (s:List UInt8) :g7 × Int:=if s.length<=30 then (if s.all (hR 32) then (⟨3#8,0,0#64,s⟩,0) else (jN,8)) else (jN,4)
theorem avE (s:List UInt8) :bE Tryz.prog GS 160 [.str s] (.b5 [.aM (c7 (s9 s).1),.int .i64 (s9 s).2]) :=by
 refine bS Tryz.checked.mixed bP ?_;apply bw afV aqB;unfold PC Zx s9;have ag:((30:Int)<s.length)<->¬ s.length<=30:=by omega
 by_cases bg:s.length<=30
 ·simp[ag,bg];refine a8 (acH ajK au6 s) rfl ?_;have aq:=Lf 32 (by omega) s s.length 0 (by omega);rw[aDH] at aq;have aH:((0:Int)<=lK (nz 32) s s.length 0)<->¬ (s.all (hR 32)=true) :=by rw[<-aq]; omega
  cases ai:s.all (hR 32) with
  | true=>
   have bd:¬ (0:Int)<=lK (nz 32) s s.length 0:=by rw[aH,ai]; simp
   simp[bd];exact aJ (by simp[bg]; rfl) rfl
  | false=>
   have bd:(0:Int)<=lK (nz 32) s s.length 0:=by rw[aH,ai]; simp
   simp[bd];exact aJ (by simp[bg]; rfl) rfl
 ·simp[ag,bg];exact aJ rfl rfl
def j6 (v:g7) :Bool:=
 if v.kind=1#8 then decide (v.bits=0#64)&&decide (v.text=[])
 else if v.kind=2#8 then decide (v.num=0)&&decide (v.text=[])&&decide (nA v.bits=v.bits)
 else if v.kind=3#8 then decide (v.num=0)&&decide (v.bits=0#64)&&decide (v.text.length<=30)&&v.text.all (hR 32)
 else false
def gT (b:Bool) :Int:=if b then 0 else 8
def anR:List mi:=[.i .u8,.i .i64,.i .u64,.s]
theorem Ls:qw Tryz.prog 20 42=some anR:=by kernel_rfl
theorem avF (a b:g7) :gu Tryz.prog .eql 42 (.aM (c7 a)) (.aM (c7 b))=some (.bool (fJ (c7 a) (c7 b))) :=yY Ls (by kernel_rfl) (by kernel_rfl) rfl rfl
theorem avG (a b:g7) :gu Tryz.prog .neq 42 (.aM (c7 a)) (.aM (c7 b))=some (.bool (!fJ (c7 a) (c7 b))) :=Et Ls (by kernel_rfl) (by kernel_rfl) rfl rfl
theorem Oo (a b:g7) :fJ (c7 a) (c7 b)=(decide (a.kind=b.kind)&&(decide (a.num=b.num)&&(decide (a.bits=b.bits)&&decide (a.text=b.text)))) :=by
 simp[c7,fJ,ad.beq]
theorem Ni {v:g7} (k:v.kind=1#8) :j6 v=(decide (v.bits=0#64)&&decide (v.text=[])) :=by simp[j6,k]
theorem Nj {v:g7} (k:v.kind=2#8) :j6 v=(decide (v.num=0)&&(decide (v.bits=nA v.bits)&&decide (v.text=[]))) :=by
 unfold j6;rw[if_neg (by rw[k]; decide),if_pos k,show decide (nA v.bits=v.bits)=decide (v.bits=nA v.bits) from decide_eq_decide.2 eq_comm];cases decide (v.num=0)<;>cases decide (v.text=[])<;>cases decide (v.bits=nA v.bits)<;>rfl
theorem ac7 {v:g7} (k:v.kind=3#8) :j6 v=(decide (v.kind=(s9 v.text).1.kind)&&(decide (v.num=(s9 v.text).1.num)&&(decide (v.bits=(s9 v.text).1.bits)&&decide (v.text=(s9 v.text).1.text)))) :=by
 unfold j6 s9;rw[if_neg (by rw[k]; decide),if_neg (by rw[k]; decide),if_pos k];by_cases h1:v.text.length<=30
 ·cases ag:v.text.all (hR 32) with
  | true=>simp[h1,k]
  | false=>simp[h1,k,jN]
 ·simp[h1,k,jN]
theorem Nk {v:g7} (cn:v.kind≠1#8) (cc:v.kind≠2#8) (dP:v.kind≠3#8) :j6 v=false:=by simp[j6,cn,cc,dP]
theorem Nh (v:g7) :bE Tryz.prog GS 105 [.aM (c7 v)] (.int .i64 (gT (j6 v))) :=by
 refine bS Tryz.checked.mixed bP ?_;apply bw ae6 apM;unfold OL YH;have az:∀ (k:B) (n:Int) (b:Q) (t:List UInt8),gu Tryz.prog .neq 42 (.aM [bQ v.kind,.int .i64 v.num,dm v.bits,.str v.text]) (.aM [bQ k,.int .i64 n,dm b,.str t])=some (.bool (!(decide (v.kind=k)&&(decide (v.num=n)&&(decide (v.bits=b)&&decide (v.text=t)))))) :=fun k n b t=>by rw[<-Oo v ⟨k,n,b,t⟩]; exact avG v ⟨k,n,b,t⟩
 by_cases cn:v.kind=1#8
 ·have h1:=az 1#8 v.num 0#64 [];simp only[cn] at h1;unfold c7;simp[i5,cn];refine a8 (avD v.num) rfl ?_;unfold c7;simp[h1];rw[Ni cn];cases decide (v.bits=0#64)<;>cases decide (v.text=[])<;>simp[cn]<;>exact aJ rfl rfl
 ·by_cases cc:v.kind=2#8
  ·have h1:=az 2#8 0 (nA v.bits) [];simp only[cc] at h1;unfold c7;simp[i5,mf,cc];refine a8 (avC v.bits) rfl ?_;unfold c7;simp[h1];rw[Nj cc];cases decide (v.num=0)<;>cases decide (v.bits=nA v.bits)<;>cases decide (v.text=[])<;>simp[cc]<;>exact aJ rfl rfl
  ·by_cases dP:v.kind=3#8
   ·obtain⟨w,hw⟩:∃ w,w=(s9 v.text).1:=⟨_,rfl⟩
    have h1:=az w.kind w.num w.bits w.text;have aq:=ac7 dP;rw[<-hw] at aq;simp only[dP] at h1 aq;unfold c7;simp[i5,mf,pB,dP];refine a8 (avE v.text) rfl ?_;rw[<-hw];unfold c7;simp[h1];rw[aq];cases decide (3#8=w.kind)<;>cases decide (v.num=w.num)<;>cases decide (v.bits=w.bits)<;>cases decide (v.text=w.text)<;>simp[dP]<;>exact aJ rfl rfl
   ·have h1:gu Tryz.prog .neq 42 (.aM [bQ v.kind,.int .i64 v.num,dm v.bits,.str v.text]) (.aM [.int .u8 0,.int .i64 0,.int .u64 0,.str []])=some (.bool (!(decide (v.kind=0#8)&&(decide (v.num=0)&&(decide (v.bits=0#64)&&decide (v.text=[])))))) :=az 0#8 0 0#64 [];rw[Nk cn cc dP];unfold c7;simp[i5,mf,pB,cn,cc,dP];by_cases hh:v.kind=0#8
    ·simp only[hh,decide_true,aDL] at h1;simp[hh,h1];cases decide (v.num=0)<;>cases decide (v.bits=0#64)<;>cases decide (v.text=[])<;>simp[hh]<;>exact aJ rfl rfl
    ·simp only[hh,decide_false,aDJ,aFA] at h1;simp[h1];exact aJ rfl rfl
theorem ab0 (v:g7) :bE Tryz.prog GS 110 [.aM (c7 v)] (.int .i64 (gT (j6 v))) :=by
 refine bS Tryz.checked.mixed bP ?_;apply bw afc apS;unfold OS YN;by_cases cn:v.kind=1#8
 ·rw[Ni cn];unfold c7;simp[i5,cn,uB];by_cases aW:v.bits=0#64<;>by_cases bg:v.text=[]<;>simp[aW,bg,uB]<;>exact aJ rfl rfl
 ·by_cases cc:v.kind=2#8
  ·rw[Nj cc];unfold c7;simp[i5,mf,cc];by_cases aW:v.num=0
   ·by_cases bg:v.text=[]
    ·simp[aW,bg];refine a8 (atC v.bits) rfl ?_;by_cases bj:v.bits=nA v.bits
     ·have bL:nA v.bits=v.bits:=bj.symm;simp[bL];exact aJ (by simp[gT,aW,bg,bL]) rfl
     ·have bL:¬ nA v.bits=v.bits:=fun h=>bj h.symm
      simp[bj,bL];exact aJ (by simp[gT,bj]) rfl
    ·simp[aW,bg];exact aJ rfl rfl
   ·simp[aW];exact aJ rfl rfl
  ·by_cases dP:v.kind=3#8
   ·have ay:j6 v=(decide (v.num=0)&&decide (v.bits=0#64)&&decide (v.text.length<=30)&&v.text.all (hR 32)) :=by simp[j6,dP]
    have ag:((v.text.length:Int)<=30)<->v.text.length<=30:=by omega
    rw[ay];unfold c7;simp[i5,mf,pB,dP,uB];by_cases aW:v.num=0
    ·by_cases bg:v.bits=0#64
     ·by_cases bj:v.text.length<=30
      ·simp[aW,bg,ag,bj];refine a8 (apt v.text (by omega)) rfl ?_;cases v.text.all (hR 32)<;>simp<;>exact aJ (by simp[gT,aW,bg,bj]) rfl
      ·simp[aW,bg,ag,bj];exact aJ rfl rfl
     ·simp[aW,bg,uB];exact aJ rfl rfl
    ·simp[aW];exact aJ rfl rfl
   ·rw[Nk cn cc dP];unfold c7;simp[i5,mf,pB,cn,cc,dP];exact aJ rfl rfl
structure Act where
 kind:B
 key:List UInt8
 val:g7
def j9 (a:Act) :List ad:=[bQ a.kind,.str a.key,bQ a.val.kind,.int .i64 a.val.num,dm a.val.bits,.str a.val.text]
def nT (v:g7) :Bool:=decide (v.kind=0#8)&&(decide (v.num=0)&&(decide (v.bits=0#64)&&decide (v.text=[])))
def kP (a:Act) :Bool:=
 if a.kind=1#8 then decide (a.key=[])&&nT a.val
 else if a.kind=2#8\/a.kind=3#8 then hz a.key&&nT a.val
 else if a.kind=4#8 then hz a.key&&j6 a.val
 else false
def qt:List mi:=[.i .u8,.s,.i .u8,.i .i64,.i .u64,.s]
theorem an1:qw Tryz.prog 20 78=some qt:=by kernel_rfl
theorem NM (a b:Act) :gu Tryz.prog .eql 78 (.aM (j9 a)) (.aM (j9 b))=some (.bool (fJ (j9 a) (j9 b))) :=yY an1 (by kernel_rfl) (by kernel_rfl) rfl rfl
theorem ad7 (a:Act) (h:a.kind=1#8) :gu Tryz.prog .eql 78 (.aM [.int .u8 1,.str a.key,bQ a.val.kind,.int .i64 a.val.num,dm a.val.bits,.str a.val.text]) (.aM [.int .u8 1,.str [],.int .u8 0,.int .i64 0,.int .u64 0,.str []])=some (.bool (decide (a.key=[])&&nT a.val)) :=by
 have:=NM a ⟨1#8,[],jN⟩;simp only[j9,h] at this;refine Eq.trans this ?_;simp[fJ,ad.beq,nT,jN,avv,uB];congr
theorem ac6 (v:g7) :gu Tryz.prog .eql 42 (.aM [bQ v.kind,.int .i64 v.num,dm v.bits,.str v.text]) (.aM [.int .u8 0,.int .i64 0,.int .u64 0,.str []])=some (.bool (nT v)) :=by
 have:=avF v jN;rw[Oo] at this;exact this
theorem NS {a:Act} (k:a.kind=1#8) :kP a=(decide (a.key=[])&&nT a.val) :=by simp[kP,k]
theorem El {a:Act} (k:a.kind=2#8) :kP a=(hz a.key&&nT a.val) :=by simp[kP,k]
theorem H6 {a:Act} (k:a.kind=3#8) :kP a=(hz a.key&&nT a.val) :=by simp[kP,k]
theorem Bl {a:Act} (k:a.kind=4#8) :kP a=(hz a.key&&j6 a.val) :=by simp[kP,k]
theorem H7 {a:Act} (cn:a.kind≠1#8) (cc:a.kind≠2#8) (dP:a.kind≠3#8) (ew:a.kind≠4#8) :kP a=false:=by simp[kP,cn,cc,dP,ew]
theorem Iv (a:Act) :bE Tryz.prog GS 104 [.aM (j9 a)] (.int .i64 (gT (kP a))) :=by
 refine bS Tryz.checked.mixed bP ?_;apply bw ae5 apL;unfold OK YG;by_cases cn:a.kind=1#8
 ·have h1:=ad7 a cn;have a2:bQ (1#8)=.int .u8 1:=rfl;rw[NS cn];unfold j9;simp[i5,cn,a2,h1];by_cases aW:a.key=[]<;>cases bg:nT a.val<;>simp[aW,bg]<;>exact aJ rfl rfl
 ·have h1:=ac6 a.val;by_cases cc:a.kind=2#8
  ·rw[El cc];unfold j9;simp[i5,mf,pB,cn,cc];refine a8 (Lp a.key) rfl ?_;cases hz a.key with
   | true=>simp[h1]; cases nT a.val<;>simp<;>exact aJ rfl rfl
   | false=>simp; exact aJ rfl rfl
  ·by_cases dP:a.kind=3#8
   ·rw[H6 dP];unfold j9;simp[i5,mf,pB,cn,dP];refine a8 (Lp a.key) rfl ?_;cases hz a.key with
    | true=>simp[h1]; cases nT a.val<;>simp<;>exact aJ rfl rfl
    | false=>simp; exact aJ rfl rfl
   ·by_cases ew:a.kind=4#8
    ·rw[Bl ew];unfold j9;simp[i5,mf,pB,wD,ew];refine a8 (Lp a.key) rfl ?_;cases hz a.key with
     | true=>
      simp;refine a8 (Nh a.val) rfl ?_;cases j6 a.val<;>simp[gT]<;>exact aJ rfl rfl
     | false=>simp; exact aJ rfl rfl
    ·rw[H7 cn cc dP ew];unfold j9;simp[i5,mf,pB,wD,cn,cc,dP,ew];exact aJ rfl rfl
theorem atD (a:Act) :bE Tryz.prog GS 129 [.aM (j9 a)] (.int .i64 (gT (kP a))) :=by
 refine bS Tryz.checked.mixed bP ?_;apply bw aft ap9;unfold O8 Y3;have h1:=ac6 a.val;by_cases cn:a.kind=1#8
 ·rw[NS cn];unfold j9;simp[i5,cn,h1];by_cases aW:a.key=[]<;>cases bg:nT a.val<;>simp[aW,bg]<;>exact aJ rfl rfl
 ·by_cases cc:a.kind=2#8
  ·rw[El cc];unfold j9;simp[i5,mf,pB,cn,cc,h1];refine a8 (Dn a.key) rfl ?_;cases hz a.key with
   | true=>simp; cases nT a.val<;>simp<;>exact aJ rfl rfl
   | false=>simp; exact aJ rfl rfl
  ·by_cases dP:a.kind=3#8
   ·rw[H6 dP];unfold j9;simp[i5,mf,pB,cn,dP,h1];refine a8 (Dn a.key) rfl ?_;cases hz a.key with
    | true=>simp; cases nT a.val<;>simp<;>exact aJ rfl rfl
    | false=>simp; exact aJ rfl rfl
   ·by_cases ew:a.kind=4#8
    ·rw[Bl ew];unfold j9;simp[i5,mf,pB,wD,ew,h1];refine a8 (Dn a.key) rfl ?_;cases hz a.key with
     | true=>
      simp;refine a8 (ab0 a.val) rfl ?_;cases j6 a.val<;>simp[gT]<;>exact aJ rfl rfl
     | false=>simp; exact aJ rfl rfl
    ·rw[H7 cn cc dP ew];unfold j9;simp[i5,mf,pB,wD,cn,cc,dP,ew,h1];exact aJ rfl rfl
end Op

end Go.ct

namespace Go.ct
open Go Go.Proofs
set_option maxRecDepth 100000
def cA {α:Type} (z:Nat) (enc:α->List ad) (l l1:aw) (v:ad) (a:List α) (fr:Bool) :Prop:=
 ∃ j,bW z l1 v j (a.map enc)/\l.length<=l1.length/\(∀ b,b<l.length->l1[b]? = l[b]?)/\(v=.aK\/l.length<=j)/\cX v=fr
section
variable {α:Type} {z:Nat} {enc:α->List ad} {l l1:aw} {v:ad} {a:List α} {fr:Bool}
theorem cA.nil:cA z enc l l .aK ([] :List α) true:=⟨0,.nil 0,aCL _,fun _ _=>rfl,.inl rfl,rfl⟩
theorem cA.more (h:cA z enc l l1 v a fr) (r:aw) :cA z enc l (l1++r) v a fr:=by
 obtain⟨j,h1,ag,aq,aH,bd⟩:=h;exact⟨j,h1.more r,by simp; omega,fun b ai=>by rw[aCK (by omega)]; exact aq b ai,aH,bd⟩
theorem cA.len (h:cA z enc l l1 v a fr) :c1 (.av z) v=some (.int .i64 a.length) :=by
 obtain⟨j,h1,_⟩:=h;rw[h1.len,aCZ]
theorem cA.cells (h:cA z enc l l1 v a fr) :v.cells=some [v] :=by
 obtain⟨j,h1,_⟩:=h;exact h1.cells
theorem cA.contents (h:cA z enc l l1 v a fr) :dL l1 z v=some ((a.map enc).flatten,a.length) :=by
 obtain⟨j,h1,_⟩:=h;rw[h1.contents,aCZ]
theorem cA.le (h:cA z enc l l1 v a fr) :l.length<=l1.length:=by obtain⟨j,h1,ag,_⟩:=h; exact ag
theorem cA.same (h:cA z enc l l1 v a fr) :∀ b,b<l.length->l1[b]? = l[b]?:=by obtain⟨j,h1,ag,aq,_⟩:=h; exact aq
theorem cA.s3 (h:cA z enc l l1 v a fr) (aL:∀ x,a7 (enc x)=true) (s:dX α) (ap:fr=s.isNone) (al:s.l=a) :gH (cj l1) v (c0 z enc s) :=by
 obtain⟨j,h1,ag,aq,aH,bd⟩:=h;exact h1.mO aL s (by rw[bd,ap]) al
theorem cA.rd (h:cA z enc l l1 v a fr) (aL:∀ x,a7 (enc x)=true) (s:dX α) (ap:fr=s.isNone) (al:s.l=a) :Rd l1 v (c0 z enc s) :=by
 obtain⟨j,h1,ag,aq,aH,bd⟩:=h;exact h1.q.mP aL s (by rw[bd,ap]) al
theorem cA.Hf (h:cA z enc l l1 v a fr) (aL:∀ x,mn (enc x)=true) (s:dX α) (ap:fr=s.isNone) (al:s.l=a) :lo l1 v (c0 z enc s) :=by
 obtain⟨j,h1,ag,aq,aH,bd⟩:=h;exact h1.DN aL s (by rw[bd,ap]) al
theorem cA.base (h:cA z enc l l1 v a fr) {fz:aw} (ar:fz.length<=l.length) (ap:∀ b,b<fz.length->l[b]? = fz[b]?) :cA z enc fz l1 v a fr:=by
 obtain⟨j,h1,ag,aq,aH,bd⟩:=h;exact⟨j,h1,by omega,fun b ai=>by rw[aq b (by omega)]; exact ap b ai,aH.imp id (by omega),bd⟩
theorem cA.frame (h:cA z enc l l1 v a fr) {cf:aw} (ar:l1.length<=cf.length) (ap:∀ b,b<l1.length->cf[b]? = l1[b]?) :cA z enc l cf v a fr:=by
 obtain⟨j,h1,ag,aq,aH,bd⟩:=h;exact⟨j,h1.frame fun am=>ap j am,by omega,fun b ai=>by rw[ap b (by omega)]; exact aq b ai,aH,bd⟩
theorem cA.app (h:cA z enc l l1 v a fr) {by_:Nat} {x:ad} {xs:List α} (al:dL l1 z x=some ((xs.map enc).flatten,xs.length)) (az:∀ y∈xs,(enc y).length=z) (aG:z≠0) (eQ:by_≠0) (eb:(a.length+xs.length)*by_<=c4) :
  ∃ bl l',g8 l1 z by_ v x=some (bl,l')/\cA z enc l l' bl (a++xs) (fr&&xs.isEmpty)/\l1.length<=l'.length:=by
 obtain⟨j,h1,ag,aq,aH,bd⟩:=h;obtain⟨bl,cx,l',aW,bg,bj,bL,bC,cv⟩:=Bm (xs:=xs.map enc) h1 (by simpa using al) (fun e au=>by obtain⟨y,aE,rfl⟩:=aC9.1 au; exact az y aE) aG eQ (by simpa using eb);refine⟨bl,l',aW,⟨cx,by rw[aDe]; exact bg,by omega,fun b ai=>?_,?_,?_⟩,bj⟩
 ·rw[bL b (by omega)]
  ·exact aq b ai
  ·rcases aH with h | h
   ·exact .inl h
   ·exact .inr (by omega)
 ·rcases bC with h | ⟨bM,dq⟩ | h
  ·exact .inr (by omega)
  ·rcases aH with h | h
   ·exact absurd h bM
   ·exact .inr (by omega)
  ·exact .inl h
 ·rw[cv,bd]; simp
end

namespace Op
open hK
theorem cA.push {l l1:aw} {v:ad} {a:List B} {fr:Bool} (h:cA 1 cu l l1 v a fr) (x:B) (eb:a.length<=1000000000) :
  ∃ bl l',g8 (l1++[.cells 1 [bQ x]]) 1 1 v (.av 1 l1.length 0 1 1 1)=some (bl,l')/\cA 1 cu l l' bl (a++[x]) false:=by
 have aC:c4=140737488355328:=rfl;obtain⟨bl,l',aW,bg,_⟩:=(h.more [.cells 1 [bQ x]]).app (by_:=1) (x:=.av 1 l1.length 0 1 1 1) (xs:=[x]) (by simp[dL,cu]) (by simp[cu]) (by omega) (by omega) (by rw[aC]; simp; omega);exact⟨bl,l',aW,by simpa using bg⟩
theorem xa:∀ a:List B,(a.map cu).flatten=a.map bQ
 | []=>rfl
 | x::a=>by rw[aDc,aDM,xa a]; rfl
theorem pt {l:aw} {j n:Nat} {a:List B} (aD:a.length=n) (am:l[j]? = some (.cells n (a.map bQ))) :bW 1 l (.av 1 j 0 n n n) j (a.map cu) :=by
 refine .av j n n n (a.map bQ) _ am (by simp[aD]) (by simp[aD]) (fun e au=>?_) (aCL _) (by omega) ?_
 ·obtain⟨x,_,rfl⟩:=aC9.1 au; rfl
 ·rw[aCI (by simp[aD]),xa]
def lN (n:Nat) :Nat:=if n<256 then 1 else if n<65536 then 2 else if n<16777216 then 3 else if n<4294967296 then 4 else if n<1099511627776 then 5 else if n<281474976710656 then 6 else if n<72057594037927936 then 7 else 8
theorem GN (n:Nat) :1<=lN n/\lN n<=8:=by unfold lN; refine⟨?_,?_⟩<;>(repeat' split)<;>omega
def mj (n i:Nat) :B:=BitVec.ofNat 8 (n >>> (8*i))
def uK (n:Nat) :Nat->List B
 | 0=>[]
 | i+1=>mj n i::uK n i
theorem MZ (n:Nat) :∀ i,(uK n i).length=i
 | 0=>rfl
 | i+1=>by simp[uK,MZ n i]
def e3 (n:Nat) :List B:=if n<=247 then [BitVec.ofNat 8 n] else BitVec.ofNat 8 (247+lN n) ::uK n (lN n)
def mb (x:Nat) :Nat:=if x<1 then 0 else if x<2 then 1 else if x<4 then 2 else if x<8 then 3 else if x<16 then 4 else if x<32 then 5 else if x<64 then 6 else if x<128 then 7 else 8
def D2:List UInt8:=[0,1,2,2,3,3,3,3,4,4,4,4,4,4,4,4,5,5,5,5,5,5,5,5,5,5,5,5,5,5,5,5,6,6,6,6,6,6,6,6,6,6,6,6,6,6,6,6,6,6,6,6,6,6,6,6,6,6,6,6,6,6,6,6,7,7,7,7,7,7,7,7,7,7,7,7,7,7,7,7,7,7,7,7,7,7,7,7,7,7,7,7,7,7,7,7,7,7,7,7,7,7,7,7,7,7,7,7,7,7,7,7,7,7,7,7,7,7,7,7,7,7,7,7,7,7,7,7,8,8,8,8,8,8,8,8,8,8,8,8,8,8,8,8,8,8,8,8,8,8,8,8,8,8,8,8,8,8,8,8,8,8,8,8,8,8,8,8,8,8,8,8,8,8,8,8,8,8,8,8,8,8,8,8,8,8,8,8,8,8,8,8,8,8,8,8,8,8,8,8,8,8,8,8,8,8,8,8,8,8,8,8,8,8,8,8,8,8,8,8,8,8,8,8,8,8,8,8,8,8,8,8,8,8,8,8,8,8,8,8,8,8,8,8,8,8,8,8,8,8,8,8,8,8,8,8]
def MX:Nat->List UInt8->Bool
 | _,[]=>true
 | i,x::r=>Nat.beq x.toNat (mb i)&&MX (i+1) r
theorem acN:∀ (i:Nat) (l:List UInt8),MX i l=true->∀ (j:Nat) (x:UInt8),l[j]? = some x->x.toNat=mb (i+j)
 | i,[],_,j,x,h=>by simp at h
 | i,y::r,h,j,x,al=>by
  simp only[MX,aCQ] at h;cases j with
  | zero=>simp at al; subst al; exact aDP h.1
  | succ j=>simp at al; rw[acN (i+1) r h.2 j x al]; congr 1; omega
theorem wC (i:Nat) (h:i<256) :∃ x,D2[i]? = some x/\x.toNat=mb i:=by
 have ar:D2.length=256:=by kernel_rfl
 have aA:=acN 0 D2 (by kernel_rfl) i _ (aCM (by omega));exact⟨_,aCM (by omega),by rw[aA]; congr 1; omega⟩
theorem uq (x:Nat) :mb x<=8:=by unfold mb; (repeat' split)<;>omega
def k9 (n:Nat) :Nat:=
 if n<256 then mb n else if n<65536 then 8+mb (n / 256) else if n<16777216 then 16+mb (n / 65536) else if n<4294967296 then 24+mb (n / 16777216)
 else if n<1099511627776 then 32+mb (n / 4294967296) else if n<281474976710656 then 40+mb (n / 1099511627776) else if n<72057594037927936 then 48+mb (n / 281474976710656) else 56+mb (n / 72057594037927936)
theorem aoi (n:Nat) (h:1<=n) :(k9 n+7) / 8=lN n:=by
 have ar:∀ x,1<=x->1<=mb x/\mb x<=8:=fun x al=>⟨by unfold mb; rw[if_neg (by omega)]; (repeat' split)<;>omega,uq x⟩
 unfold k9 lN
 repeat' split
 ·have:=ar n h; omega
 ·have:=ar (n / 256) (by omega); omega
 ·have:=ar (n / 65536) (by omega); omega
 ·have:=ar (n / 16777216) (by omega); omega
 ·have:=ar (n / 4294967296) (by omega); omega
 ·have:=ar (n / 1099511627776) (by omega); omega
 ·have:=ar (n / 281474976710656) (by omega); omega
 ·have:=ar (n / 72057594037927936) (by omega); omega
theorem MJ (x:Q) (k:Nat) :cP .shr .u64 (u x) .u64 (k:Int)=some (.int .u64 (u (x >>> k))) :=tt x .u64 k
theorem uY {i:Nat} {y:UInt8} {k:UInt8->Prop} (h:D2[i]? = some y) (hk:k y) :W D2[i]? (c:=⟨k⟩) :=by rw[h]; exact hk
set_option maxHeartbeats 4000000 in
theorem aoj (n:Q) :bE Tryz.prog GS 189 [dm n] (.int .i64 (k9 n.toNat)) :=by
 refine bS Tryz.checked.mixed bP ?_;apply bw agd aqT;unfold PU ZN;have mS:IntKind.i64.wrap 8=8:=rfl;have wE:IntKind.i64.wrap 16=16:=rfl;have wF:IntKind.i64.wrap 24=24:=rfl;have wG:IntKind.i64.wrap 32=32:=rfl;have wH:IntKind.i64.wrap 40=40:=rfl;have wI:IntKind.i64.wrap 48=48:=rfl;have wJ:IntKind.i64.wrap 56=56:=rfl;have cT:∀ x:Q,((4294967296:Int)<=u x)<->4294967296<=x.toNat:=fun x=>by unfold u; omega
 have dF:∀ x:Q,((65536:Int)<=u x)<->65536<=x.toNat:=fun x=>by unfold u; omega
 have kS:∀ x:Q,((256:Int)<=u x)<->256<=x.toNat:=fun x=>by unfold u; omega
 have ww:∀ x:Q,cP .shr .u64 (u x) .u64 32=some (.int .u64 (u (x >>> 32))) :=fun x=>MJ x 32
 have wu:∀ x:Q,cP .shr .u64 (u x) .u64 16=some (.int .u64 (u (x >>> 16))) :=fun x=>MJ x 16
 have wx:∀ x:Q,cP .shr .u64 (u x) .u64 8=some (.int .u64 (u (x >>> 8))) :=fun x=>MJ x 8
 have t32:n.toNat >>> 32=n.toNat / 4294967296:=by rw[aC8]
 have t48:n.toNat >>> 48=n.toNat / 281474976710656:=by rw[aC8]
 have t16:n.toNat >>> 16=n.toNat / 65536:=by rw[aC8]
 have akY:=n.isLt;by_cases h1:4294967296<=n.toNat
 ·by_cases ag:65536<=n.toNat >>> 32
  ·by_cases aq:256<=n.toNat >>> 48
   ·have gB:n.toNat >>> 56 % 256=n.toNat / 72057594037927936:=by rw[aC8]; exact aC1 (by omega)
    obtain⟨y,aW,bg⟩:=wC (n.toNat / 72057594037927936) (by omega);have bj:=uq (n.toNat / 72057594037927936);rw[<-bg] at bj;have cb:IntKind.i64.wrap (y.toNat:Int)=y.toNat:=wrap_i64 (by omega) (by omega);have w2:IntKind.i64.wrap (56+(y.toNat:Int))=((56+y.toNat:Nat) :Int) :=by rw[wrap_i64 (by omega) (by omega)]; omega
    have eF:k9 n.toNat=56+y.toNat:=by unfold k9; rw[bg]; (repeat' split)<;>first | omega | rfl
    simp[cT,dF,kS,ww,wu,wx,h1,ag,aq];refine uY (y:=y) (by rw[gB]; exact aW) ?_;rw[eF];simp[jR,cb,w2];exact aJ (by simp[mS,wE,wF,wG,wH,wI,wJ,w2]) rfl
   ·have gB:n.toNat >>> 48 % 256=n.toNat / 281474976710656:=by rw[aC8]; exact aC1 (by omega)
    obtain⟨y,aW,bg⟩:=wC (n.toNat / 281474976710656) (by omega);have bj:=uq (n.toNat / 281474976710656);rw[<-bg] at bj;have cb:IntKind.i64.wrap (y.toNat:Int)=y.toNat:=wrap_i64 (by omega) (by omega);have w2:IntKind.i64.wrap (48+(y.toNat:Int))=((48+y.toNat:Nat) :Int) :=by rw[wrap_i64 (by omega) (by omega)]; omega
    have eF:k9 n.toNat=48+y.toNat:=by unfold k9; rw[bg]; (repeat' split)<;>first | omega | rfl
    simp[cT,dF,kS,ww,wu,wx,h1,ag,aq];refine uY (y:=y) (by rw[gB]; exact aW) ?_;rw[eF];simp[jR,cb,w2];exact aJ (by simp[mS,wE,wF,wG,wH,wI,wJ,w2]) rfl
  ·by_cases aq:256<=n.toNat >>> 32
   ·have gB:n.toNat >>> 40 % 256=n.toNat / 1099511627776:=by rw[aC8]; exact aC1 (by omega)
    obtain⟨y,aW,bg⟩:=wC (n.toNat / 1099511627776) (by omega);have bj:=uq (n.toNat / 1099511627776);rw[<-bg] at bj;have cb:IntKind.i64.wrap (y.toNat:Int)=y.toNat:=wrap_i64 (by omega) (by omega);have w2:IntKind.i64.wrap (40+(y.toNat:Int))=((40+y.toNat:Nat) :Int) :=by rw[wrap_i64 (by omega) (by omega)]; omega
    have eF:k9 n.toNat=40+y.toNat:=by unfold k9; rw[bg]; (repeat' split)<;>first | omega | rfl
    simp[cT,dF,kS,ww,wu,wx,h1,ag,aq];refine uY (y:=y) (by rw[gB]; exact aW) ?_;rw[eF];simp[jR,cb,w2];exact aJ (by simp[mS,wE,wF,wG,wH,wI,wJ,w2]) rfl
   ·have gB:n.toNat >>> 32 % 256=n.toNat / 4294967296:=by rw[aC8]; exact aC1 (by omega)
    obtain⟨y,aW,bg⟩:=wC (n.toNat / 4294967296) (by omega);have bj:=uq (n.toNat / 4294967296);rw[<-bg] at bj;have cb:IntKind.i64.wrap (y.toNat:Int)=y.toNat:=wrap_i64 (by omega) (by omega);have w2:IntKind.i64.wrap (32+(y.toNat:Int))=((32+y.toNat:Nat) :Int) :=by rw[wrap_i64 (by omega) (by omega)]; omega
    have eF:k9 n.toNat=32+y.toNat:=by unfold k9; rw[bg]; (repeat' split)<;>first | omega | rfl
    simp[cT,dF,kS,ww,wu,wx,h1,ag,aq];refine uY (y:=y) (by rw[gB]; exact aW) ?_;rw[eF];simp[jR,cb,w2];exact aJ (by simp[mS,wE,wF,wG,wH,wI,wJ,w2]) rfl
 ·by_cases ag:65536<=n.toNat
  ·by_cases aq:256<=n.toNat >>> 16
   ·have gB:n.toNat >>> 24 % 256=n.toNat / 16777216:=by rw[aC8]; exact aC1 (by omega)
    obtain⟨y,aW,bg⟩:=wC (n.toNat / 16777216) (by omega);have bj:=uq (n.toNat / 16777216);rw[<-bg] at bj;have cb:IntKind.i64.wrap (y.toNat:Int)=y.toNat:=wrap_i64 (by omega) (by omega);have w2:IntKind.i64.wrap (24+(y.toNat:Int))=((24+y.toNat:Nat) :Int) :=by rw[wrap_i64 (by omega) (by omega)]; omega
    have eF:k9 n.toNat=24+y.toNat:=by unfold k9; rw[bg]; (repeat' split)<;>first | omega | rfl
    simp[cT,dF,kS,ww,wu,wx,h1,ag,aq];refine uY (y:=y) (by rw[gB]; exact aW) ?_;rw[eF];simp[jR,cb,w2];exact aJ (by simp[mS,wE,wF,wG,wH,wI,wJ,w2]) rfl
   ·have gB:n.toNat >>> 16 % 256=n.toNat / 65536:=by rw[aC8]; exact aC1 (by omega)
    obtain⟨y,aW,bg⟩:=wC (n.toNat / 65536) (by omega);have bj:=uq (n.toNat / 65536);rw[<-bg] at bj;have cb:IntKind.i64.wrap (y.toNat:Int)=y.toNat:=wrap_i64 (by omega) (by omega);have w2:IntKind.i64.wrap (16+(y.toNat:Int))=((16+y.toNat:Nat) :Int) :=by rw[wrap_i64 (by omega) (by omega)]; omega
    have eF:k9 n.toNat=16+y.toNat:=by unfold k9; rw[bg]; (repeat' split)<;>first | omega | rfl
    simp[cT,dF,kS,ww,wu,wx,h1,ag,aq];refine uY (y:=y) (by rw[gB]; exact aW) ?_;rw[eF];simp[jR,cb,w2];exact aJ (by simp[mS,wE,wF,wG,wH,wI,wJ,w2]) rfl
  ·by_cases aq:256<=n.toNat
   ·have gB:n.toNat >>> 8 % 256=n.toNat / 256:=by rw[aC8]; exact aC1 (by omega)
    obtain⟨y,aW,bg⟩:=wC (n.toNat / 256) (by omega);have bj:=uq (n.toNat / 256);rw[<-bg] at bj;have cb:IntKind.i64.wrap (y.toNat:Int)=y.toNat:=wrap_i64 (by omega) (by omega);have w2:IntKind.i64.wrap (8+(y.toNat:Int))=((8+y.toNat:Nat) :Int) :=by rw[wrap_i64 (by omega) (by omega)]; omega
    have eF:k9 n.toNat=8+y.toNat:=by unfold k9; rw[bg]; (repeat' split)<;>first | omega | rfl
    simp[cT,dF,kS,ww,wu,wx,h1,ag,aq];refine uY (y:=y) (by rw[gB]; exact aW) ?_;rw[eF];simp[jR,cb,w2];exact aJ (by simp[mS,wE,wF,wG,wH,wI,wJ,w2]) rfl
   ·have gB:n.toNat % 256=n.toNat:=aC1 (by omega);obtain⟨y,aW,bg⟩:=wC (n.toNat) (by omega);have bj:=uq (n.toNat);rw[<-bg] at bj;have cb:IntKind.i64.wrap (y.toNat:Int)=y.toNat:=wrap_i64 (by omega) (by omega);have w2:IntKind.i64.wrap (0+(y.toNat:Int))=((0+y.toNat:Nat) :Int) :=by rw[wrap_i64 (by omega) (by omega)]; omega
    have eF:k9 n.toNat=0+y.toNat:=by unfold k9; rw[bg]; (repeat' split)<;>first | omega | rfl
    simp[cT,dF,kS,ww,wu,wx,h1,ag,aq];refine uY (y:=y) (by rw[gB]; exact aW) ?_;rw[eF];simp[jR,cb,w2];exact aJ (by simp[mS,wE,wF,wG,wH,wI,wJ,w2]) rfl
theorem Ey (n:Q) (i:Nat) :(n >>> (8*i)).setWidth 8=mj n.toNat i:=by
 apply aCV;unfold mj;rw[aC5,aDo,aC7]
theorem aue (l:aw) (c d:bp) :(l++[c]).set l.length d=l++[d] :=by rw[aDu _ _ (aCL _)]; simp
def rA (n k i:Nat) :List B:=BitVec.ofNat 8 (247+k) ::(List.replicate (k - i) 0#8++uK n i)
theorem XM (n k i:Nat) (h:i<=k) :(rA n k i).length=k+1:=by simp[rA,MZ]; omega
theorem aoV (n k i:Nat) (h:i<k) :(rA n k i).set (k - i) (mj n i)=rA n k (i+1) :=by
 unfold rA;obtain⟨m,hm⟩:∃ m,k - i=m+1:=⟨k - i - 1,by omega⟩
 rw[hm,aFF,show k - (i+1)=m by omega,List.replicate_succ',aDa];congr 1;rw[aDu _ _ (by simp)];simp[uK]
theorem av5 (n:Q) {l:aw} {K:ad->aw->Prop} (bA:∀ v j l',bW 1 l' v j ((e3 n.toNat).map cu)->l.length<=l'.length->(∀ b,b<l.length->l'[b]? = l[b]?)->l.length<=j->cX v=false->K v l') :
  dS Tryz.prog GS 195 [dm n] l (c:=⟨K⟩) :=by
 apply bw agi aqX;unfold PZ ZR;have cT:((u n:Int)<=247)<->n.toNat<=247:=by unfold u; omega
 by_cases h:n.toNat<=247
 ·have vF:e3 n.toNat=[n.setWidth 8] :=by
   unfold e3; rw[if_pos h]; rfl
  simp[cT,h];refine bA _ l.length _ (pt (n:=1) (a:=e3 n.toNat) (by rw[vF]; rfl) (by rw[vF]; simp)) (by simp) (fun b ai=>aCK ai) (aCL _) rfl
 ·have hk:=GN n.toNat
  obtain⟨k,pa⟩:∃ k,lN n.toNat=k:=⟨_,rfl⟩
  have vF:e3 n.toNat=rA n.toNat k k:=by unfold e3 rA; rw[if_neg h,pa]; simp
  have CB:=aoi n.toNat (by omega)
  rw[pa] at CB hk;obtain⟨L,e0⟩:∃ L,k9 n.toNat=L:=⟨_,rfl⟩
  rw[e0] at CB;have cb:IntKind.i64.wrap ((L:Int)+7)=((L+7:Nat) :Int) :=by rw[wrap_i64 (by omega) (by omega)]; omega
  have q1:cP .quo .i64 ((L+7:Nat) :Int) .i64 8=some (.int .i64 (k:Int)) :=by rw[Il _ 8 (by omega) (by omega)]; rw[show (8:Int).toNat=8 from rfl,CB]
  have w2:IntKind.i64.wrap ((k:Int)+1)=((k+1:Nat) :Int) :=by rw[wrap_i64 (by omega) (by omega)]; omega
  have eF:IntKind.i64.wrap (247+(k:Int))=((247+k:Nat) :Int) :=by rw[wrap_i64 (by omega) (by omega)]; omega
  have kn:us 1 1 [.int .u8 0] l (.int .i64 ((k+1:Nat) :Int)) (.int .i64 ((k+1:Nat) :Int))=some (.av 1 l.length 0 (k+1) (k+1) (k+1),l++[.cells (k+1) ((List.replicate (k+1) 0#8).map bQ)]) :=by
   unfold us;have aC:c4=140737488355328:=rfl;simp only[];rw[if_pos ⟨by omega,by omega,by omega,by rw[aC]; omega⟩,Hh];simp
  simp[cT,h];refine a8 (aoj n) rfl ?_;rw[e0];have ih:bO (List.replicate (k+1) (bQ 0#8)) 0 [bQ (BitVec.ofNat 8 (247+k))]=(rA n.toNat k 0).map bQ:=by
   rw[aDW,auH,auI]; simp[rA,uK]
  simp[cb,q1,w2,eF,kn,-Int.natCast_add];refine c2 k (fun i ah l1=>ah 0=dm n/\ah 3=.int .i64 k/\ah 4=.av 1 l.length 0 (k+1) (k+1) (k+1)/\ah 23=.int .i64 k/\ah 24=.int .i64 i/\l1=l++[.cells (k+1) ((rA n.toNat k i).map bQ)]) ?_ ?_
  ·rintro i ah l1 aB ⟨cd,bj,bL,zp,BT,rfl⟩;obtain⟨ah,rfl⟩:=mR cd bj bL zp BT;clear cd bj bL zp BT;unfold Wv;by_cases jW:i<k
   ·have gD:IntKind.i64.wrap ((k:Int) - i)=((k - i:Nat) :Int) :=by rw[wrap_i64 (by omega) (by omega)]; omega
    have iV:IntKind.i64.wrap (8*(i:Int))=((8*i:Nat) :Int) :=by rw[wrap_i64 (by omega) (by omega)]; omega
    have qM:IntKind.i64.wrap ((i:Int)+1)=((i+1:Nat) :Int) :=by rw[wrap_i64 (by omega) (by omega)]; omega
    have jl:cP .shr .u64 (u n) .i64 ((8*i:Nat) :Int)=some (.int .u64 (u (n >>> (8*i)))) :=tt n .i64 (8*i);have wL:=Ey n i;have Bd:=oG bQ (rA n.toNat k i) (k - i) (mj n.toNat i) (by rw[XM _ _ _ aB]; omega);rw[aoV _ _ _ jW] at Bd;obtain⟨d,bX⟩:∃ d,k - i=d:=⟨_,rfl⟩
    obtain⟨e,au⟩:∃ e,8*i=e:=⟨_,rfl⟩
    rw[bX] at gD Bd;rw[au] at iV jl wL;have zL:d<=k:=by omega
    simp[jW,gD,iV,qM,jl,wL,Bd,zL,-Int.natCast_add,aue];omega
   ·have gj:i=k:=by omega
    subst gj;simp;refine bA _ l.length _ (pt (n:=i+1) (a:=e3 n.toNat) (by rw[vF,XM _ _ _ (aCL _)]) (by rw[vF]; simp)) (by simp) (fun b ai=>aCK ai) (aCL _) rfl
  ·simp;exact ih
theorem aoR {n:Nat} (h:n<18446744073709551616) :n<256 ^ lN n:=by
 unfold lN; (repeat' split)<;>simp<;>omega
theorem aoS {n k:Nat} (h1:1<=n) (h:k<lN n) :256 ^ k<=n:=by
 have fl:=(GN n).2;have hk:k=0\/k=1\/k=2\/k=3\/k=4\/k=5\/k=6\/k=7:=by omega
 rcases hk with rfl | rfl | rfl | rfl | rfl | rfl | rfl | rfl<;>simp<;>unfold lN at h<;>(repeat' split at h)<;>omega
theorem aum {n k:Nat} (h1:1<=n) (h:n<18446744073709551616) (hk:k<=lN n) :n >>> (8*k)=0<->k=lN n:=by
 have aF:2 ^ (8*k)=256 ^ k:=by rw[Nat.pow_mul]
 rw[aC8,aF,Nat.div_eq_zero_iff];constructor
 ·rintro (ag | ag)
  ·exact absurd ag (by have:0<256 ^ k:=Nat.pow_pos (by decide); omega)
  ·rcases aDK k (lN n) with aq | aq
   ·have:=aoS h1 aq; omega
   ·omega
 ·rintro rfl;exact .inr (aoR h)
theorem acP (n:Nat) :∀ k,uK n k=((List.range k).map (mj n)).reverse
 | 0=>rfl
 | k+1=>by rw[uK,acP n k,aEw,aDe,List.reverse_append]; rfl
def pT (n k:Nat) :List B:=(List.range k).map (mj n)
theorem aiO (n k:Nat) :pT n (k+1)=pT n k++[mj n k] :=by simp[pT,aEw]
theorem zc (n k:Nat) :(pT n k).length=k:=by simp[pT]
theorem Si (n k i:Nat) (h:i<k) :(pT n k)[i]? = some (mj n i) :=by simp[pT,h]
theorem atL (x:Q) :cP .rem .u64 (u x) .u64 256=some (.int .u64 (u (x % 256#64))) :=y0 x 256#64 (by decide)
theorem apG (x:Q) :cP .quo .u64 (u x) .u64 256=some (.int .u64 (u (x / 256#64))) :=Mb x 256#64 (by decide)
theorem aow (n:Q) (i:Nat) :((n >>> (8*i)) % 256#64).setWidth 8=mj n.toNat i:=by
 rw[<-Ey];apply aCV;rw[aC5,aDU,aC5];show _ % 256 % 2 ^ 8=_ % 2 ^ 8;omega
theorem aoP (n:Q) (i:Nat) :(n >>> (8*i)) / 256#64=n >>> (8*(i+1)) :=by
 apply aCV;rw[aEh,aDo,aDo,aC8,aC8,show 8*(i+1)=8*i+8 by omega,aEI,<-Nat.div_div_eq_div_mul]; rfl
theorem cA.get {l l1:aw} {v:ad} {a:List B} {fr:Bool} (h:cA 1 cu l l1 v a fr) {k:IntKind} {i:Nat} {x:B} (al:a[i]? = some x) :∃ p cs o,cC (.av 1) v (.int k (i:Int))=some p/\e4 l1 p=some (cs,o)/\cs[o]? = some (bQ x) :=by
 obtain⟨j,h,_⟩:=h;obtain⟨p,cs,o,h1,ag,aq,aH⟩:=h.q.get (k:=k) (i:=i) (e:=cu x) (by rw[aCO,al]; rfl);refine⟨p,cs,o,h1,ag,?_⟩;have:=congrArg (fun l=>l[0]?) aH;simp[aFc,aDh,cu] at this;exact this
theorem yN (n:Q) {l:aw} {K:ad->aw->Prop} (bA:∀ v l',cA 1 cu l l' v (e3 n.toNat) false->K v l') :dS Tryz.prog GS 195 [dm n] l (c:=⟨K⟩) :=
 av5 n fun v j l' h1 ag aq aH bd=>bA v l' ⟨j,h1,ag,aq,.inr aH,bd⟩
structure adR (l:aw) (n:Q) (i:Nat) (ah:bB) (l1:aw) :Prop where
 cd:ah 0=dm (n >>> (8*i))
 rD:∃ v,ah 3=v/\cA 1 cu l l1 v (pT n.toNat i) (decide (i=0))
structure adS (l1:aw) (v:ad) (n:Q) (k i:Nat) (ah:bB) (cf:aw) :Prop where
 bj:ah 3=v
 bC:ah 5=.int .i64 ((k:Int) - 1 - i)
 rD:∃ w,ah 4=w/\cA 1 cu l1 cf w (BitVec.ofNat 8 (247+k) ::((pT n.toNat k).reverse.take i)) false
theorem wo (n:Q) {l:aw} {K:ad->aw->Prop} (bA:∀ v l',cA 1 cu l l' v (e3 n.toNat) false->K v l') :
  dS Tryz.prog GS 127 [dm n] l (c:=⟨K⟩) :=by
 apply bw afr ap7;unfold O6 Y1;have cT:((u n:Int)<=247)<->n.toNat<=247:=by unfold u; omega
 by_cases h:n.toNat<=247
 ·have vF:e3 n.toNat=[n.setWidth 8] :=by
   unfold e3; rw[if_pos h]; rfl
  simp[cT,h];exact bA _ _ ⟨l.length,pt (n:=1) (a:=e3 n.toNat) (by rw[vF]; rfl) (by rw[vF]; simp),by simp,fun b ai=>aCK ai,.inr (aCL _),rfl⟩
 ·have akY:=n.isLt;have hk:=GN n.toNat
  simp[cT,h];refine c2 (lN n.toNat) (adR l n) ?_ ⟨by simp,.aK,by simp,cA.nil⟩;rintro i ah l1 aB ⟨cd,v,bj,dC⟩;obtain⟨ah,rfl⟩:=lS cd bj;clear cd bj;unfold V9;have az:=aum (n:=n.toNat) (k:=i) (by omega) (by omega) aB;have h5:((0:Int)<u (n >>> (8*i)))<->¬ i=lN n.toNat:=by
   rw[<-az]; unfold u; rw[aDo]; generalize n.toNat >>> (8*i)=q; omega
  by_cases jW:i=lN n.toNat
  ·obtain⟨k,pa⟩:∃ k,lN n.toNat=k:=⟨_,rfl⟩
   rw[pa] at jW h5 hk;subst jW;have amd:e3 n.toNat=BitVec.ofNat 8 (247+i) ::(pT n.toNat i).reverse:=by
    unfold e3; rw[if_neg h,pa,acP]; rfl
   have bu:=dC.len;rw[zc] at bu;have cb:IntKind.i64.wrap (247+(i:Int))=((247+i:Nat) :Int) :=by rw[wrap_i64 (by omega) (by omega)]; omega
   have w2:IntKind.i64.wrap ((i:Int) - 1)=(i:Int) - 1:=wrap_i64 (by omega) (by omega);have f1:(e3 n.toNat)=BitVec.ofNat 8 (247+i) ::(pT n.toNat i).reverse.take i:=by rw[amd,aCI (by rw[List.length_reverse,zc]; omega)]
   simp[h5,bu,cb,w2,-Int.natCast_add];refine c2 i (adS l1 v n i) ?_ ⟨by simp,by simp,_,by simp,⟨l1.length,pt (n:=1) (a:=[BitVec.ofNat 8 (247+i)]) rfl (by simp),by simp,fun b ai=>aCK ai,.inr (aCL _),rfl⟩⟩;rintro j ah cf am ⟨bj,bC,w,bL,uu⟩;have qp:=dC.frame uu.le uu.same;obtain⟨ah,rfl⟩:=jJ bj bL bC;clear bj bL bC;unfold Wa;by_cases ou:j=i
   ·have qd:¬ (j:Int)<=(i:Int) - 1:=by omega
    rw[ou,<-f1] at uu;simp[qd];exact bA _ _ (uu.base dC.le dC.same)
   ·have sv:(j:Int)<=(i:Int) - 1:=by omega
    have vB:((i:Int) - 1 - j)=((i - 1 - j:Nat) :Int) :=by omega
    have eF:IntKind.i64.wrap ((i:Int) - 1 - j - 1)=(i:Int) - 1 - (j+1:Nat) :=by rw[wrap_i64 (by omega) (by omega)]; omega
    obtain⟨p,cs,o,q1,fh,ji⟩:=cA.get qp (k:=.i64) (Si n.toNat i (i - 1 - j) (by omega));rw[<-vB] at q1;have al:(pT n.toNat i).reverse[j]? = some (mj n.toNat (i - 1 - j)) :=by
     rw[List.getElem?_reverse (by rw[zc]; omega),zc,Si _ _ _ (by omega)]
    have p9:=zc n.toNat i;obtain⟨w',l',br,bI⟩:=cA.push uu (mj n.toNat (i - 1 - j)) (by simp; omega);simp[sv,q1,fh,ji,br];refine dx.c6 ?_;simp[eF];exact⟨by omega,by simp,by simp,w',by simp,by rw[aC4,al]; simpa using bI⟩
  ·have xH:=zc n.toNat i;obtain⟨bl,l',br,bI⟩:=cA.push dC (mj n.toNat i) (by omega);rw[<-aiO] at bI;have bD:cP .quo .u64 (u (n >>> (8*i))) .u64 256=some (dm (n >>> (8*(i+1)))) :=by rw[apG,aoP]
   simp[h5,jW,atL,bD,aow,br];refine dx.c6 ?_;simp[bD];exact⟨by omega,by simp,bl,by simp,by simpa using bI⟩
end Op

end Go.ct

namespace Go.ct
open Go Go.Proofs
set_option maxRecDepth 100000
namespace Op
open hK
def nv (n:Int) :Q:=if 0<=n then BitVec.ofNat 64 (2*n.toNat) else BitVec.ofNat 64 (2*(-(n+1)).toNat+1)
theorem av9 (n:Int) (h1:-9223372036854775808<=n) (ag:n<9223372036854775808) {l:aw} {K:ad->aw->Prop} (bA:∀ v l',cA 1 cu l l' v (e3 (nv n).toNat) false->K v l') :
  dS Tryz.prog GS 243 [.int .i64 n] l (c:=⟨K⟩) :=by
 apply bw agS arA;unfold QA aat
 have a2:cP .shl .u64 (u (BitVec.ofInt 64 n)) .u64 1=some (.int .u64 (u (BitVec.ofInt 64 n <<< 1))) :=Ox _ .u64 1;have b7:cP .shr .i64 n .u64 63=some (.int .i64 (if 0<=n then 0 else -1)) :=by
  show (if (63:Int)<0 then none else some (ad.int .i64 (n.fdiv (2 ^ min (63:Int).toNat 64))))=_;rw[if_neg (by omega)];congr 2;have:(2:Int) ^ min (63:Int).toNat 64=9223372036854775808:=by decide
  rw[this,aEo _ (by omega)];split<;>omega
 have az:BitVec.ofInt 64 n <<< 1 ^^^ BitVec.ofInt 64 (if 0<=n then 0 else -1)=nv n:=by
  unfold nv;by_cases h:0<=n
  ·rw[if_pos h,if_pos h];obtain⟨m,rfl⟩:=aDv h;rw[aDI,aDf];have:BitVec.ofInt 64 (0:Int)=0#64:=rfl;rw[this,BitVec.xor_zero];apply aCV;rw[aD6,aC7,aC7,aD3];omega
  ·rw[if_neg h,if_neg h];obtain⟨m,hm⟩:=aDv (show 0<=-(n+1) by omega);have aI:n=-((m:Int)+1) :=by omega
   have br:BitVec.ofInt 64 (-1:Int)=BitVec.allOnes 64:=by decide
   have bI:BitVec.ofInt 64 n = ~~~ BitVec.ofNat 64 m:=by
    apply aCV;rw[aI,aER,aFX,aC7];omega
   have lG:m<9223372036854775808:=by omega
   rw[br,bI,BitVec.xor_allOnes,hm,aDf];apply aCV;rw[aFX,aD6,aFX,aC7,aC7,aD3];omega
 simp[a2,b7,az];refine yN _ fun v l' h=>?_
 simp;exact bA v l' h
theorem atd (n:Int) (h1:-9223372036854775808<=n) (ag:n<9223372036854775808) {l:aw} {K:ad->aw->Prop} (bA:∀ v l',cA 1 cu l l' v (e3 (nv n).toNat) false->K v l') :
  dS Tryz.prog GS 225 [.int .i64 n] l (c:=⟨K⟩) :=by
 apply bw agF arm;unfold Qm aag;by_cases h:0<=n
 ·obtain⟨m,rfl⟩:=aDv h;have az:2#64*BitVec.ofNat 64 m=nv m:=by
   unfold nv; rw[if_pos h,aDf];apply aCV;simp only[aEJ,aC7];omega
  simp[az];refine wo _ fun v l' h=>?_
  simp;exact bA v l' h
 ·have cb:IntKind.i64.wrap (n+1)=n+1:=wrap_i64 (by omega) (by omega);have w2:IntKind.i64.wrap (0 - (n+1))=0 - (n+1) :=wrap_i64 (by omega) (by omega);have w2:IntKind.i64.wrap (-(n+1))=-(n+1) :=wrap_i64 (by omega) (by omega);have az:2#64*BitVec.ofInt 64 (-(n+1))+1#64=nv n:=by
   obtain⟨m,hm⟩:=aDv (show 0<=-(n+1) by omega);unfold nv; rw[if_neg h,hm,aDf,aDI];apply aCV;simp only[aEJ,aC7,aFW];omega
  simp[h,cb,w2,az];refine wo _ fun v l' h=>?_
  simp;exact bA v l' h
def jI (s:List B) :List B:=e3 s.length++s
theorem iQ (n:Nat) :(e3 n).length<=9:=by
 unfold e3;have:=(GN n).2;split
 ·simp
 ·simp[MZ]; omega
theorem ajE (s:List B) :(s.map cu).flatten=s.map bQ:=xa s
theorem Sb (l:aw) (s:fH) :dL l 1 (da s)=some ((s.l.map cu).flatten,s.l.length) :=qX l 1 cu s
theorem adb (s:fH) (ap:s.l.length<=10000) {x:ad} {l:aw} (al:dL l 1 x=some ((s.l.map cu).flatten,s.l.length)) (bu:c1 (.av 1) x=some (.int .i64 s.l.length)) (cL:∀ l',l.length<=l'.length->(∀ b,b<l.length->l'[b]? = l[b]?)->dL l' 1 x=some ((s.l.map cu).flatten,s.l.length))
  {K:ad->aw->Prop} (bA:∀ v l',cA 1 cu l l' v (jI s.l) false->K (.b5 [v,.int .i64 0]) l') :dS Tryz.prog GS 201 [x] l (c:=⟨K⟩) :=by
 apply bw agp aq4;unfold P6 ZY;have h1:¬ ((10000:Int)<s.l.length) :=by omega
 have aC:c4=140737488355328:=rfl;simp[bu,h1];refine yN _ fun v l' h=>?_
 have aI:(BitVec.ofNat 64 s.l.length).toNat=s.l.length:=by rw[aC7]; exact aC1 (by omega)
 rw[aI] at h;have nO:=iQ s.l.length;obtain⟨bl,cf,br,bI,_⟩:=h.app (by_:=1) (x:=x) (xs:=s.l) (cL l' h.le h.same) (by simp[cu]) (by omega) (by omega) (by rw[aC]; omega);simp[br];refine dx.c6 ?_;simp;exact bA bl cf (by simpa [jI] using bI)
theorem abR (s:fH) (ap:s.l.length<=10000) {x:ad} {l:aw} (al:dL l 1 x=some ((s.l.map cu).flatten,s.l.length)) (bu:c1 (.av 1) x=some (.int .i64 s.l.length)) (cL:∀ l',l.length<=l'.length->(∀ b,b<l.length->l'[b]? = l[b]?)->dL l' 1 x=some ((s.l.map cu).flatten,s.l.length))
  {K:ad->aw->Prop} (bA:∀ v l',cA 1 cu l l' v (jI s.l) false->K v l') :dS Tryz.prog GS 172 [x] l (c:=⟨K⟩) :=by
 apply bw af4 aqK;unfold PL ZF;have aC:c4=140737488355328:=rfl;simp[bu];refine wo _ fun v l' h=>?_
 have aI:(BitVec.ofNat 64 s.l.length).toNat=s.l.length:=by rw[aC7]; exact aC1 (by omega)
 rw[aI] at h;have nO:=iQ s.l.length;obtain⟨bl,cf,br,bI,_⟩:=h.app (by_:=1) (x:=x) (xs:=s.l) (cL l' h.le h.same) (by simp[cu]) (by omega) (by omega) (by rw[aC]; omega);simp[br];refine dx.c6 ?_;simp;exact bA bl cf (by simpa [jI] using bI)
def a1 (i:List B) :List ad:=i.map bQ
abbrev eN:=dX (List B)
def bc (s:eN) :ad:=c0 32 a1 s
def gx (s:eN) :Prop:=∀ i∈s.l,i.length=32
theorem fK (i:List B) :a7 (a1 i)=true:=lr bQ (fun _=>rfl) _
theorem eZ (s:eN) :(bc s).closed=true:=ve fK s
theorem RY:∀ a b:List B,a.length=b.length->oV (a.map fun x=>UInt8.ofNat x.toNat) (b.map fun x=>UInt8.ofNat x.toNat)=cI a b
 | [],[],_=>rfl
 | [],_::_,h=>by simp at h
 | _::_,[],h=>by simp at h
 | x::a,y::b,h=>by
  have aY:=RY a b (by simpa using h);have al:=x.isLt;have aE:=y.isLt;rw[RX];simp only[aDc,oV,aY];have a2:(UInt8.ofNat x.toNat=UInt8.ofNat y.toNat)<->x.toNat=y.toNat:=by
   constructor
   ·intro h;have:=congrArg UInt8.toNat h;simp only[UInt8.toNat_ofNat'] at this;omega
   ·intro h; rw[h]
  have b7:(UInt8.ofNat x.toNat<UInt8.ofNat y.toNat)<->x.toNat<y.toNat:=by
   rw[UInt8.lt_iff_toNat_lt]; simp only[UInt8.toNat_ofNat'];rw[aC1 (by omega),aC1 (by omega)]
  by_cases h1:x.toNat=y.toNat
  ·rw[if_pos (a2.2 h1),if_neg (by omega),if_neg (by omega)]
  ·rw[if_neg (fun h=>h1 (a2.1 h))];by_cases ag:x.toNat<y.toNat
   ·rw[if_pos (b7.2 ag),if_pos ag]
   ·rw[if_neg (fun h=>ag (b7.1 h)),if_neg ag,if_pos (by omega)]
@[simp ↓] theorem aAY {P:Program} {aN:Operand->ad} {l:aw} (f:FuncId) (xf x y:Operand) :cg P aN l (.cI f xf x y)=(match Gm f (aN xf) with | true=>eo l (cmpL l (aN x) (aN y)) | false=>none) :=id rfl
@[simp ↓] theorem az7 (f:FuncId) (xf x y:Operand) (v:ad) (l:aw) (K:ad->aw->Prop) :fg (.cI f xf x y) v l K=K v l:=id rfl
@[simp] theorem azn (f:FuncId) :Gm f (.fn f [] [])=true:=aFP f
theorem OA:∀ a:List B,oc (a.map bQ)=some (a.map fun x=>UInt8.ofNat x.toNat)
 | []=>rfl
 | x::a=>by
  simp only[aDc,oc,OA a,aCR];simp[u]
theorem OB (l:aw) (s:fH) :qU l (da s)=some (s.l.map fun x=>UInt8.ofNat x.toNat) :=by
 have h:=Sb l s;rw[ajE] at h;cases s with
 | none=>simp[qU,c0,dL,oc]
 | some a=>
  unfold qU;simp only[c0];have ag:dL l 1 (ad.cr 1 (a.map cu))=some (a.map bQ,a.length) :=h;rw[ag];exact OA a
theorem Er (a b:fH) (h:a.l.length=b.l.length) :bE Tryz.prog GS 106 [da a,da b] (.int .i64 (cI a.l b.l)) :=by
 refine bS Tryz.checked.mixed bP ?_;apply bw ae7 apN;unfold OM YI;have ak:cmpL [] (da a) (da b)=some (.int .i64 (cI a.l b.l)) :=by
  unfold cmpL;rw[OB,OB];simp only[RY _ _ h]
 simp[ak];exact aJ rfl rfl
theorem DX {n b:Nat} (fY:0<n) :g5 (.arr n 1) (.ptr b 0 n) none none none=some (.av 1 b 0 n n n) :=by
 have:hb n n none none none=some (0,n,n) :=rfl;simp only[g5,this];rw[if_pos (by omega),if_neg (by omega)];simp
theorem y9 (a b:List B) (aD:a.length=32) (ai:b.length=32) :bE Tryz.prog GS 149 [fL a,fL b] (.int .i64 (cI a b)) :=by
 refine bS Tryz.checked.mixed bP ?_;apply bw afK aqq;unfold Pt Zm;have ap:=DX (n:=32) (b:=1) (by omega);have CV:=DX (n:=32) (b:=0) (by omega);simp[fL,aD,ai,ap,CV];have ak:=Er (some a) (some b) (by simp[aD,ai]);refine i3 ak ?_ rfl ?_
 ·exact .cons ((pt (j:=0) aD rfl).mO (fun _=>rfl) (some a) rfl rfl) (.cons ((pt (j:=1) ai rfl).mO (fun _=>rfl) (some b) rfl rfl) .nil)
 ·simp;exact aJ rfl rfl
theorem Mp (a b:List B) (aD:a.length=32) (ai:b.length=32) :bE Tryz.prog GS 107 [fL a,fL b] (.int .i64 (cI a b)) :=by
 refine bS Tryz.checked.mixed bP ?_;apply bw ae8 apO;unfold ON YJ;obtain⟨A,c9⟩:∃ A,A=a.map bQ:=⟨_,rfl⟩
 obtain⟨C,B5⟩:∃ C,C=b.map bQ:=⟨_,rfl⟩
 have ka:A.length=32:=by rw[c9,aCZ,aD]
 have xq:C.length=32:=by rw[B5,aCZ,ai]
 unfold fL;rw[<-c9,<-B5];simp[ka,xq];refine c2 32 (fun k ah l=>ah 2=.ptr 0 0 32/\ah 3=.ptr 1 0 32/\ah 5=.int .i64 k/\l=[.cells 32 A,.cells 32 C]/\∀ j,j<k->a[j]? = b[j]?) ?_ (by simp);rintro k ah l hk ⟨bg,bj,bC,rfl,heq⟩;obtain⟨ah,rfl⟩:=jJ bg bj bC;clear bg bj bC;unfold VX;have xI:=ais k heq (by omega) (by omega);by_cases h:(k:Int)<32
 ·have iM:k<32:=by omega
  have fP:IntKind.i64.wrap ((k:Int)+1)=(k+1:Nat) :=wrap_i64 (by omega) (by omega);obtain⟨x,al,_⟩:=bV (l:=a) (k:=k) (by omega);obtain⟨y,aE,_⟩:=bV (l:=b) (k:=k) (by omega);have akg:A[k]? = some (bQ x) :=by rw[c9,aCO,al]; rfl
  have akn:C[k]? = some (bQ y) :=by rw[B5,aCO,aE]; rfl
  obtain⟨_,Jh⟩:=aCJ.1 akg;obtain⟨_,Jj⟩:=aCJ.1 akn;have JO:a.drop k=x::a.drop (k+1) :=by
   obtain⟨h1,ag⟩:=aCJ.1 al;rw[aDy h1,ag]
  have alb:b.drop k=y::b.drop (k+1) :=by
   obtain⟨h1,ag⟩:=aCJ.1 aE;rw[aDy h1,ag]
  rw[JO,alb,RX] at xI;have lk:((u x:Int)<u y)<->x.toNat<y.toNat:=by unfold u; omega
  have mQ:((u y:Int)<u x)<->y.toNat<x.toNat:=by unfold u; omega
  by_cases cT:x.toNat<y.toNat
  ·rw[if_pos cT] at xI;have Ez:x<y:=cT;simp[h,iM,ka,xq,Jh,Jj,Ez];exact aJ (by rw[<-xI]) rfl
  ·have Ez:¬ x<y:=cT;rw[if_neg cT] at xI;by_cases dF:y.toNat<x.toNat
   ·rw[if_pos dF] at xI;have Iq:y<x:=dF;simp[h,iM,ka,xq,Jh,Jj,Ez,Iq];exact aJ (by rw[<-xI]) rfl
   ·have Iq:¬ y<x:=dF;simp[h,iM,ka,xq,Jh,Jj,Ez,Iq,fP];intro j am;by_cases eL:j=k
    ·subst eL;rw[al,aE];have:x=y:=aCV (by omega);rw[this]
    ·exact heq j (by omega)
 ·have fE:k=32:=by omega
  subst fE;have:cI a b=0:=by
   rw[<-xI,aDC (by omega),aDC (by omega)]; rfl
  simp;exact aJ (by rw[this]) rfl
abbrev cw (l:List (List B)) (k:Nat) :List B:=l.getD k []
def eH (l:List (List B)) :Bool:=decide (∀ k,k<l.length->1<=k->cI (cw l (k - 1)) (cw l k)<0)
def yF (l:List (List B)) :Bool:=decide (∀ k,k<l.length->1<=k->¬ cI (cw l k) (cw l (k - 1))<0)
theorem iO {l:List (List B)} {k:Nat} {x:List B} (h:l[k]? = some x) :cw l k=x:=by
 unfold cw; rw[aC2,h]; rfl
theorem acb {l:List (List B)} (h:∀ k,k<l.length->1<=k->cI (cw l (k - 1)) (cw l k)<0) :eH l=true:=decide_eq_true h
theorem ab9 {l:List (List B)} {k:Nat} (hk:k<l.length) (h1:1<=k) (h:¬ cI (cw l (k - 1)) (cw l k)<0) :eH l=false:=decide_eq_false fun aR=>h (aR k hk h1)
theorem acB {l:List (List B)} (h:∀ k,k<l.length->1<=k->¬ cI (cw l k) (cw l (k - 1))<0) :yF l=true:=decide_eq_true h
theorem auL {l:List (List B)} {k:Nat} (hk:k<l.length) (h1:1<=k) (h:cI (cw l k) (cw l (k - 1))<0) :yF l=false:=decide_eq_false fun aR=>aR k hk h1 h
theorem c3 {x:List B} (h:x.length=32) :(a1 x).length=32:=by simp[a1,h]
theorem Hc (a:eN) (aD:gx a) (ar:a.l.length<=1000000) :bE Tryz.prog GS 61 [bc a] (.bool (eH a.l)) :=by
 refine bS Tryz.checked.mixed bP ?_;apply bw ahB asj;unfold Ri abb;simp[bc];refine c2 (a.l.length - 1) (fun k ah l=>ah 0=c0 32 a1 a/\ah 3=.int .i64 ((k+1:Nat) :Int)/\∀ j,j<k+1->j<a.l.length->1<=j->cI (cw a.l (j - 1)) (cw a.l j)<0) ?_ ⟨by simp[bc],by simp,fun j h1 _ ag=>by omega⟩;rintro k ah l hk ⟨cd,bj,ap⟩;obtain⟨s,rfl⟩:=lS cd bj;clear cd bj;obtain⟨m,hm⟩:∃ m,m=k+1:=⟨_,rfl⟩
 rw[<-hm] at ap ⊢;unfold W8;simp;refine im (fun h=>?_) (fun h=>?_)
 ·simp only[decide_eq_true_eq] at h;have aP:m<a.l.length:=by omega
  obtain⟨x,al,dT⟩:=bV (l:=a.l) (k:=k) (by omega);obtain⟨y,aE,b6⟩:=bV aP;have a2:IntKind.i64.wrap ((m:Int) - 1)=(k:Int) :=by rw[IntKind.wrap_i64]; omega
  have b7:IntKind.i64.wrap ((m:Int)+1)=((m+1:Nat) :Int) :=by rw[IntKind.wrap_i64]; omega
  have h7:=iO al;have pl:=iO aE;simp[a2,al,aE,c3 (aD x dT),c3 (aD y b6),aCI];refine a8 (Mp x y (aD x dT) (aD y b6)) (by simp[a7,fK,ad.closed,fL]) ?_;by_cases ak:cI x y<0
  ·have fD:¬ (0<=cI x y) :=by omega
   simp[fD,b7];refine⟨by omega,fun j h1 ag aq=>?_⟩;have fp:cI (cw a.l (j - 1)) (cw a.l j)<0:=by
    by_cases am:j=m
    ·rw[am,show m - 1=k by omega,h7,pl]; exact ak
    ·exact ap j (by omega) ag aq
   simpa [cw] using fp
  ·have fD:0<=cI x y:=by omega
   simp[fD];refine aJ (congrArg ad.bool (ab9 (k:=m) aP (by omega) ?_).symm) rfl;rw[show m - 1=k by omega,h7,pl];exact ak
 ·simp[h];exact aJ (congrArg ad.bool (acb fun j h1 ag=>ap j (by simp at h; omega) h1 ag).symm) rfl
theorem IX:js Tryz.prog 149=true:=by kernel_rfl
theorem anL (a:eN) (aD:gx a) (ar:a.l.length<=1000000) :bE Tryz.prog GS 197 [bc a,.fn 149 [] []] (.bool (yF a.l)) :=by
 refine bS Tryz.checked.mixed bP ?_;apply bw agk aqZ;unfold P1 ZT;have ih:IntKind.i64.wrap ((a.l.length:Int) - 1)=(a.l.length:Int) - 1:=by rw[IntKind.wrap_i64]; omega
 simp[bc,ih];refine c2 (a.l.length - 1) (fun k ah l=>ah 0=c0 32 a1 a/\ah 1=.fn 149 [] []/\ah 5=.int .i64 ((a.l.length:Int) - 1 - k)/\∀ j,j<a.l.length->a.l.length - 1 - k<j->¬ cI (cw a.l j) (cw a.l (j - 1))<0) ?_ ⟨by simp[bc],by simp,by simp,fun j h1 ag=>by omega⟩;rintro k ah l hk ⟨cd,aW,bC,ap⟩;obtain⟨s,rfl⟩:=jJ cd aW bC;clear cd aW bC;unfold Wx;simp;refine im (fun h=>?_) (fun h=>?_)
 ·simp only[decide_eq_true_eq] at h;obtain⟨m,hm⟩:∃ m,m+k+2=a.l.length:=⟨a.l.length - 2 - k,by omega⟩
  have a2:((a.l.length:Int) - 1 - k)=((m+1:Nat) :Int) :=by omega
  rw[a2];obtain⟨x,al,dT⟩:=bV (l:=a.l) (k:=m+1) (by omega);obtain⟨y,aE,b6⟩:=bV (l:=a.l) (k:=m) (by omega);obtain⟨n,aI⟩:∃ n,n=m+1:=⟨_,rfl⟩
  rw[<-aI] at al ⊢;have b7:IntKind.i64.wrap ((n:Int) - 1)=(m:Int) :=by rw[IntKind.wrap_i64]; omega
  have h7:=iO al;have pl:=iO aE;simp[b7,al,aE,c3 (aD x dT),c3 (aD y b6),aCI];refine⟨IX,a8 (y9 x y (aD x dT) (aD y b6)) (by simp[a7,fK,ad.closed,fL]) ?_⟩;by_cases ak:cI x y<0
  ·simp[ak];refine aJ (congrArg ad.bool (auL (k:=n) (by omega) (by omega) ?_).symm) rfl;rw[show n - 1=m by omega,h7,pl];exact ak
  ·simp[ak,b7];refine⟨by omega,by omega,fun j h1 ag=>?_⟩;have fp:¬ cI (cw a.l j) (cw a.l (j - 1))<0:=by
    by_cases am:j=n
    ·rw[am,show n - 1=m by omega,h7,pl]; exact ak
    ·exact ap j h1 (by omega)
   simpa [cw] using fp
 ·simp[h];exact aJ (congrArg ad.bool (acB fun j h1 ag=>ap j h1 (by simp at h; omega)).symm) rfl
def zd (l:List (List B)) (k:Nat) :Bool:=decide (k+1<l.length)&&decide (0<=cI (cw l k) (cw l (k+1)))
theorem ab8 {l:List (List B)}:eH l=true<->∀ k,k<l.length->zd l k=false:=by
 unfold eH zd;rw[decide_eq_true_eq];constructor
 ·intro h k hk;by_cases h1:k+1<l.length
  ·have:=h (k+1) h1 (by omega);rw[aEu] at this;rw[decide_eq_false (p:=0<=_) (by omega),aF6]
  ·simp[h1]
 ·intro h k hk h1;have:=h (k - 1) (by omega);rw[show k - 1+1=k by omega] at this;rw[decide_eq_true hk,aDL,decide_eq_false_iff_not] at this;omega
theorem atQ (a:eN) (aD:gx a) (ar:a.l.length<=1000000) (k:Nat) (hk:k<a.l.length) (x:List B) (al:x.length=32) (r:aw) {K:ad->aw->Prop}
  (bA:∀ dU,K (.bool (zd a.l k)) (.cells 1 [bc a] ::.cells 1 [.int .i64 ((k+1:Nat) :Int)] ::dU)) :
  dS Tryz.prog GS 261 [fL x,.ptr 1 0 1,.ptr 0 0 1] (.cells 1 [bc a] ::.cells 1 [.int .i64 (k:Int)] ::r) (c:=⟨K⟩) :=by
 apply bw ag6 arO;unfold QO aaH;have a2:IntKind.i64.wrap ((k:Int)+1)=((k+1:Nat) :Int) :=by rw[IntKind.wrap_i64]; omega
 obtain⟨m,hm⟩:∃ m,m=k+1:=⟨_,rfl⟩
 rw[<-hm] at a2 bA;have b7:IntKind.i64.wrap ((m:Int) - 1)=(k:Int) :=by rw[IntKind.wrap_i64]; omega
 unfold zd at bA;rw[<-hm] at bA;obtain⟨y,aE,b6⟩:=bV hk;by_cases h:m<a.l.length
 ·obtain⟨z,az,Ap⟩:=bV h;have pl:=iO aE;have anN:=iO az;rw[pl,anN] at bA;have h' : (m:Int)<(a.l.length:Int) :=by omega
  have uh:a.l[m]=z:=(aCJ.1 az).2;simp[fL,bc,a2,b7,h,h',aE,uh,c3 (aD y b6),c3 (aD z Ap),aCI];refine a8 (y9 y z (aD y b6) (aD z Ap)) (by simp[a7,fK,ad.closed,fL]) ?_;have:=bA (r++[bp.cells x.length (List.map bQ x)]);simpa [h,bc] using this
 ·have h' : ¬ (m:Int)<(a.l.length:Int) :=by omega
  simp[fL,bc,a2,b7,h,h'];have:=bA (r++[bp.cells x.length (List.map bQ x)]);simpa [h,bc] using this
theorem ajI:js Tryz.prog 261=true:=by kernel_rfl
theorem atS (a:eN) (aD:gx a) (ar:a.l.length<=1000000) {K:ad->aw->Prop} (bA:∀ n dU,(n<0<->eH a.l=true)->K (.int .i64 n) dU) :
  dS Tryz.prog GS 117 [bc a,.fn 261 [] [.ptr 1 0 1,.ptr 0 0 1]] [.cells 1 [bc a],.cells 1 [.int .i64 0]] (c:=⟨K⟩) :=by
 apply bw afj apZ;unfold OZ YU;simp[bc];refine c2 a.l.length (fun k ah l=>ah 0=c0 32 a1 a/\ah 1=.fn 261 [] [.ptr 1 0 1,.ptr 0 0 1]/\ah 7=.int .i64 a.l.length/\ah 8=.int .i64 k/\(∃ r,l=.cells 1 [bc a] ::.cells 1 [.int .i64 (k:Int)] ::r)/\∀ j,j<k->zd a.l j=false) ?_ ⟨by simp[bc],by simp,by simp,by simp,⟨[],by simp[bc]⟩,fun j h=>by omega⟩;rintro k ah l hk ⟨cd,aW,eU,et,⟨r,rfl⟩,ap⟩;obtain⟨s,rfl⟩:=hW cd aW eU et;clear cd aW eU et;unfold V3;simp;refine im (fun h=>?_) (fun h=>?_)
 ·simp only[decide_eq_true_eq] at h;obtain⟨x,al,dT⟩:=bV (l:=a.l) (k:=k) (by omega);have a2:IntKind.i64.wrap ((k:Int)+1)=((k+1:Nat) :Int) :=by rw[IntKind.wrap_i64]; omega
  simp[al,c3 (aD x dT),aCI];refine⟨ajI,atQ a aD ar k (by omega) x (aD x dT) r fun dU=>?_⟩;cases bX:zd a.l k with
  | true=>
   simp;refine bA _ _ ⟨fun aI=>by omega,fun aC=>?_⟩;have:=ab8.1 aC k (by omega);rw[bX] at this; cases this
  | false=>
   simp[a2];refine⟨by omega,fun j am=>?_⟩;by_cases eL:j=k
   ·subst eL; exact bX
   ·exact ap j (by omega)
 ·simp[h];refine bA _ _ ⟨fun _=>ab8.2 fun j am=>ap j (by simp at h; omega),fun _=>by omega⟩
theorem atR (a:eN) (aD:gx a) (ar:a.l.length<=1000000) {K:ad->aw->Prop} (bA:∀ dU,K (.bool (!eH a.l)) dU) :
  dS Tryz.prog GS 71 [bc a,.fn 261 [] [.ptr 1 0 1,.ptr 0 0 1]] [.cells 1 [bc a],.cells 1 [.int .i64 0]] (c:=⟨K⟩) :=by
 apply bw ahH asq;unfold Ro abi;simp;refine atS a aD ar fun n dU aI=>?_
 have e:decide (0<=n)=!eH a.l:=by
  cases aC:eH a.l with
  | true=>have:=aI.2 aC; simp; omega
  | false=>
   have:¬ n<0:=fun h=>by have:=aI.1 h; rw[aC] at this; cases this
   simp; omega
 simp[e];exact bA dU
theorem atT (a:eN) (aD:gx a) (ar:a.l.length<=1000000) :bE Tryz.prog GS 242 [bc a] (.bool (eH a.l)) :=by
 refine bS Tryz.checked.mixed bP ?_;apply bw agR arz;unfold Qz aas;have ak:(bc a).cells=some [bc a] :=by cases a<;>rfl
 simp[ak];refine atR a aD ar fun dU=>?_
 simp;exact aJ rfl rfl
def rs (l:List (List B)) :List B:=e3 l.length++l.flatten
theorem RR:∀ (x:List B),oT 1 x.length (x.map bQ)=x.map cu
 | []=>rfl
 | b::r=>by
  show ((bQ b::r.map bQ).take 1) ::oT 1 r.length ((bQ b::r.map bQ).drop 1)=_;simp[RR r,cu]
theorem aii {x:List B} (h:x.length=32) :oT 1 32 (a1 x)=x.map cu:=by
 have:=RR x;rw[h] at this;exact this
theorem KV {l:List (List B)} (h:∀ x∈l,x.length=32) :l.flatten.length=l.length*32:=mo h
theorem acQ {l:List (List B)} {k:Nat} {x:List B} (h:l[k]? = some x) :(l.take (k+1)).flatten=(l.take k).flatten++x:=by
 rw[aC4,h]; simp
theorem aus {x:List B} (h:x.length=32) :g5 (.arr 32 1) (.cm (a1 x) 0) none none none=some (.cr 1 (x.map cu)) :=by
 have:=aii h;have ai:hb 32 32 none none none=some (0,32,32) :=rfl;unfold g5;simp only[ai];simp[c3 h,this]
structure adO (l:aw) (s:eN) (k:Nat) (ah:bB) (l1:aw) :Prop where
 cd:ah 0=c0 32 a1 s
 bL:ah 4=.int .i64 k
 rD:∃ v,ah 3=v/\cA 1 cu l l1 v (e3 s.l.length++(s.l.take k).flatten) false
theorem as1 (s:eN) (ax:gx s) (ap:s.l.length<=1000) {l:aw} {K:ad->aw->Prop} (bA:∀ v l',cA 1 cu l l' v (rs s.l) false->K v l') :
  dS Tryz.prog GS 171 [bc s] l (c:=⟨K⟩) :=by
 apply bw af3 aqJ;unfold PK ZE;have aC:c4=140737488355328:=rfl;have aI:(BitVec.ofNat 64 s.l.length).toNat=s.l.length:=by rw[aC7]; exact aC1 (by omega)
 have nO:=iQ s.l.length;simp[bc];refine wo _ fun v l' h=>?_
 rw[aI] at h;simp;refine c2 s.l.length (adO l s) ?_ ⟨by simp[bc],by simp,v,by simp,by simpa using h⟩;rintro k ah l1 hk ⟨cd,bL,v,bj,dC⟩;obtain⟨ah,rfl⟩:=jJ cd bj bL;clear cd bj bL;unfold Wn;simp;refine im (fun h=>?_) (fun h=>?_)
 ·simp only[decide_eq_true_eq] at h;obtain⟨x,al,dT⟩:=bV (l:=s.l) (k:=k) (by omega);have a2:IntKind.i64.wrap ((k:Int)+1)=((k+1:Nat) :Int) :=by rw[IntKind.wrap_i64]; omega
  have e1:((s.l.take k).flatten).length<=32000:=by
   rw[KV (fun y aE=>ax y (aDs aE)),aCX]; omega
  obtain⟨bl,cf,br,bI,_⟩:=dC.app (by_:=1) (x:=.cr 1 (x.map cu)) (xs:=x) (by simp[dL]) (by simp[cu]) (by omega) (by omega) (by rw[aC,ax x dT]; simp only[aCS]; omega);simp[al,c3 (ax x dT),aCI,aus (ax x dT),br];refine dx.c6 ?_;simp[a2];exact⟨by omega,by simp,by simp,bl,by simp,by rw[acQ al,<-aDa]; exact bI⟩
 ·simp[h];have aQ:s.l.take k=s.l:=aCI (by simp at h; omega);rw[aQ] at dC;exact bA _ _ dC
structure adP (l:aw) (s:eN) (k:Nat) (ah:bB) (l1:aw) :Prop where
 tD:ah 17=c0 32 a1 s
 tE:ah 18=.int .i64 s.l.length
 tF:ah 19=.int .i64 k
 rD:∃ v,ah 4=v/\cA 1 cu l l1 v (e3 s.l.length++(s.l.take k).flatten) false
theorem avZ (s:eN) (ax:gx s) (ap:s.l.length<=60) (aC:eH s.l=true) {l:aw} {K:ad->aw->Prop} (bA:∀ v l',cA 1 cu l l' v (rs s.l) false->K (.b5 [v,.int .i64 0]) l') :
  dS Tryz.prog GS 200 [bc s] l (c:=⟨K⟩) :=by
 apply bw ago aq3;unfold P5 ZX;have amE:c4=140737488355328:=rfl;have aI:(BitVec.ofNat 64 s.l.length).toNat=s.l.length:=by rw[aC7]; exact aC1 (by omega)
 have nO:=iQ s.l.length;have i9:¬ (60:Int)<(s.l.length:Int) :=by omega
 simp[bc,i9];refine a8 (atT s ax (by omega)) (by have:=eZ s; simp[a7]; exact this) ?_;simp[aC,bc];refine yN _ fun v l' h=>?_
 rw[aI] at h;simp[bc];refine c2 s.l.length (adP l s) ?_ ⟨by simp[bc],by simp,by simp,v,by simp,by simpa using h⟩;rintro k ah l1 hk ⟨tD,tE,tF,v,bL,dC⟩;obtain⟨ah,rfl⟩:=hW tD tE tF bL;clear tD tE tF bL;unfold WB;simp;refine im (fun h=>?_) (fun h=>?_)
 ·simp only[decide_eq_true_eq] at h;obtain⟨x,al,dT⟩:=bV (l:=s.l) (k:=k) (by omega);have a2:IntKind.i64.wrap ((k:Int)+1)=((k+1:Nat) :Int) :=by rw[IntKind.wrap_i64]; omega
  have e1:((s.l.take k).flatten).length<=32000:=by
   rw[KV (fun y aE=>ax y (aDs aE)),aCX]; omega
  obtain⟨bl,cf,br,bI,_⟩:=(dC.more [.cells 32 (a1 x)]).app (by_:=1) (x:=.av 1 l1.length 0 32 32 32) (xs:=x) (by simp[dL,ax x dT,c3 (ax x dT),aCI,a1,xa]) (by simp[cu]) (by omega) (by omega) (by rw[amE,ax x dT]; simp only[aCS]; omega);have hx:bO (rep 32 (.int .u8 0)) 0 (a1 x)=a1 x:=fM (by rw[c3 (ax x dT)]; rfl);simp[al,c3 (ax x dT),aCI,DX,hx,br];refine dx.c6 ?_;simp[a2];exact⟨by omega,by simp,by simp,by simp,bl,by simp,by rw[acQ al,<-aDa]; exact bI⟩
 ·simp[h];have aQ:s.l.take k=s.l:=aCI (by simp at h; omega);rw[aQ] at dC;exact bA _ _ dC
def fQ (s:List UInt8) :List B:=s.map fun b=>b.toBitVec
theorem Hv (s:List UInt8) :(s.map fun b=>[jR b])=(fQ s).map cu:=by
 unfold fQ;rw[aEZ];rfl
theorem qG (s:List UInt8) :(fQ s).length=s.length:=by simp[fQ]
def oS (b:Q) (k:Nat) :List B:=(List.range k).map fun i=>mj b.toNat (7 - i)
def jK (v:g7) :List B:=v.kind::(if v.kind=1#8 then e3 (nv v.num).toNat else if v.kind=2#8 then oS v.bits 8 else jI (fQ v.text))
def Ds (v:g7) :Prop:=-9223372036854775808<=v.num/\v.num<9223372036854775808/\v.text.length<=10000
theorem Oi (b:Q) (k:Nat) :oS b (k+1)=oS b k++[mj b.toNat (7 - k)] :=by
 unfold oS; rw[aEw,aDe]; rfl
theorem XP (l:aw) (c:bp) (x:B) :cA 1 cu l (l++[c,.cells 1 [bQ x]]) (.av 1 (l.length+1) 0 1 1 1) [x] false:=by
 exact⟨l.length+1,pt (n:=1) (a:=[x]) rfl (by simp),by simp,fun b ai=>aCK ai,.inr (by omega),rfl⟩
theorem uu (l:aw) (c:bp) (x:B) :cA 1 cu (l++[c]) (l++[c,.cells 1 [bQ x]]) (.av 1 (l.length+1) 0 1 1 1) [x] false:=by
 have e:l++[c,.cells 1 [bQ x]]=(l++[c])++[.cells 1 [bQ x]] :=by simp
 exact⟨l.length+1,pt (n:=1) (a:=[x]) rfl (by simp),by simp,fun b ai=>by rw[e]; exact aCK ai,.inr (by simp),rfl⟩
structure adw (l:aw) (v:g7) (p:Nat) (k:Nat) (ah:bB) (l1:aw) :Prop where
 aW:ah 1=.ptr p 0 4
 bL:ah 4=.int .i64 (7 - (k:Int))
 rD:∃ w,ah 3=w/\cA 1 cu (l++[.cells 4 (c7 v)]) l1 w (v.kind::oS v.bits k) false
theorem atl (v:g7) (ay:Ds v) {l:aw} {K:ad->aw->Prop} (bA:∀ w l',cA 1 cu l l' w (jK v) false->K w l') :
  dS Tryz.prog GS 173 [.aM (c7 v)] l (c:=⟨K⟩) :=by
 apply bw af5 aqL;unfold PM ZG;have aC:c4=140737488355328:=rfl;have aG:=XP l (.cells 4 (c7 v)) v.kind;obtain⟨ri,qc,aQ⟩:=ay;have ak:w7 (.str v.text)=some (.cr 1 ((fQ v.text).map cu)) :=by
  show some (ad.cr 1 (v.text.map fun b=>[jR b]))=_;rw[Hv]
 by_cases cT:v.kind=1#8
 ·have nS:jK v=[v.kind]++e3 (nv v.num).toNat:=by unfold jK; rw[if_pos cT]; rfl
  have a2:(u v.kind:Int)=1:=(i5 v.kind).2 cT;simp only[bQ,a2] at aG;have nO:=iQ (nv v.num).toNat
  simp[c7,a2];refine atd v.num ri qc fun w l' h=>?_
  obtain⟨bl,cf,br,bI,_⟩:=(aG.frame h.le h.same).app (by_:=1) (x:=w) (xs:=e3 (nv v.num).toNat) h.contents (by simp[cu]) (by omega) (by omega) (by rw[aC]; simp only[aC6,aDx]; omega);simp[br];refine dx.c6 ?_;simp;exact bA _ _ (by rw[nS]; exact bI)
 ·have a2:¬ (u v.kind:Int)=1:=fun h=>cT ((i5 v.kind).1 h)
  by_cases dF:v.kind=2#8
  ·have b7:(u v.kind:Int)=2:=(mf v.kind).2 dF;have nS:jK v=v.kind::oS v.bits 8:=by unfold jK; rw[if_neg cT,if_pos dF]
   have ag:=uu l (.cells 4 (c7 v)) v.kind;simp only[bQ,b7] at ag;simp[c7,b7];refine c2 8 (adw l v l.length) ?_ ⟨by simp,by simp,_,by simp,ag⟩;rintro k ah l1 hk ⟨aW,bL,w,bj,dC⟩;have aF:l1[l.length]? = some (.cells 4 (c7 v)) :=by rw[dC.same l.length (by simp)]; simp
   obtain⟨ah,rfl⟩:=jJ aW bj bL;clear aW bj bL;unfold Wo;by_cases iL:k=8
   ·subst iL;rw[<-nS] at dC;simp;exact bA _ _ (dC.base (by simp) fun b ai=>aCK ai)
   ·obtain⟨m,hm⟩:∃ m,m+k=7:=⟨7 - k,by omega⟩
    have em:7 - (k:Int)=(m:Int) :=by omega
    have IK:IntKind.i64.wrap ((m:Int) - 1)=(m:Int) - 1:=by rw[IntKind.wrap_i64]; omega
    have ai3:IntKind.i64.wrap (8*(m:Int))=((8*m:Nat) :Int) :=by rw[IntKind.wrap_i64]; omega
    have jl:cP .shr .u64 (u v.bits) .i64 ((8*m:Nat) :Int)=some (.int .u64 (u (v.bits >>> (8*m)))) :=tt v.bits .i64 (8*m);have wL:=Ey v.bits m;have bu:(v.kind::oS v.bits k).length<=1000000000:=by simp[oS]; omega
    obtain⟨w',l',br,bI⟩:=cA.push dC (mj v.bits.toNat m) bu;rw[em];simp[c7] at aF;simp[aF,ai3,jl,wL,br,-Int.natCast_mul];refine dx.c6 ?_;simp[IK];exact⟨by omega,by simp,by simp; omega,w',by simp,by rw[Oi,show 7 - k=m by omega]; exact bI⟩
  ·have b7:¬ (u v.kind:Int)=2:=fun h=>dF ((mf v.kind).1 h)
   have nS:jK v=[v.kind]++jI (fQ v.text) :=by unfold jK; rw[if_neg cT,if_neg dF]; rfl
   have k3:(jI (fQ v.text)).length<=20000:=by
    have:=iQ (fQ v.text).length;unfold jI;rw[aCS];have:=qG v.text;omega
   simp[c7,a2,b7,ak];refine abR (some (fQ v.text)) (by simpa [qG] using aQ) (by simp[dL]) (by simp) (fun l' _ _=>by simp[dL]) fun w l' h=>?_
   obtain⟨bl,cf,br,bI,_⟩:=(aG.frame h.le h.same).app (by_:=1) (x:=w) (xs:=jI (fQ v.text)) h.contents (by simp[cu]) (by omega) (by omega) (by rw[aC]; simp only[aC6,aDx]; omega);simp[br];refine dx.c6 ?_;simp;exact bA _ _ (by rw[nS]; exact bI)
structure adx (l:aw) (v:g7) (p:Nat) (k:Nat) (ah:bB) (l1:aw) :Prop where
 aW:ah 1=.ptr p 0 4
 cv:ah 6=.int .i64 (8*(7 - (k:Int)))
 rD:∃ w,ah 5=w/\cA 1 cu (l++[.cells 4 (c7 v)]) l1 w (v.kind::oS v.bits k) false
theorem an0 {v:g7} (h:j6 v=true) (cT:¬ v.kind=1#8) (dF:¬ v.kind=2#8) :v.kind=3#8:=by
 unfold j6 at h;simp[cT,dF] at h;exact h.1
theorem awa (v:g7) (ay:Ds v) (fa:j6 v=true) {l:aw} {K:ad->aw->Prop} (bA:∀ w l',cA 1 cu l l' w (jK v) false->K (.b5 [w,.int .i64 0]) l') :
  dS Tryz.prog GS 202 [.aM (c7 v)] l (c:=⟨K⟩) :=by
 apply bw agq aq5;unfold P7 ZZ;have aC:c4=140737488355328:=rfl;have aG:=XP l (.cells 4 (c7 v)) v.kind;obtain⟨ri,qc,aQ⟩:=ay;have ak:w7 (.str v.text)=some (.cr 1 ((fQ v.text).map cu)) :=by
  show some (ad.cr 1 (v.text.map fun b=>[jR b]))=_;rw[Hv]
 have cU:=Nh v;rw[fa] at cU;by_cases cT:v.kind=1#8
 ·have nS:jK v=[v.kind]++e3 (nv v.num).toNat:=by unfold jK; rw[if_pos cT]; rfl
  have a2:(u v.kind:Int)=1:=(i5 v.kind).2 cT;simp only[bQ,a2] at aG;have nO:=iQ (nv v.num).toNat
  simp[c7];refine a8 cU rfl ?_;simp[gT,a2];refine av9 v.num ri qc fun w l' h=>?_
  obtain⟨bl,cf,br,bI,_⟩:=(aG.frame h.le h.same).app (by_:=1) (x:=w) (xs:=e3 (nv v.num).toNat) h.contents (by simp[cu]) (by omega) (by omega) (by rw[aC]; simp only[aC6,aDx]; omega);simp[br];refine dx.c6 ?_;simp;exact bA _ _ (by rw[nS]; exact bI)
 ·have a2:¬ (u v.kind:Int)=1:=fun h=>cT ((i5 v.kind).1 h)
  by_cases dF:v.kind=2#8
  ·have b7:(u v.kind:Int)=2:=(mf v.kind).2 dF;have nS:jK v=v.kind::oS v.bits 8:=by unfold jK; rw[if_neg cT,if_pos dF]
   have ag:=uu l (.cells 4 (c7 v)) v.kind;simp only[bQ,b7] at ag;simp[c7];refine a8 cU rfl ?_;simp[gT,b7];refine c2 8 (adx l v l.length) ?_ ⟨by simp,by simp,_,by simp,ag⟩;rintro k ah l1 hk ⟨aW,cv,w,bC,dC⟩;have aF:l1[l.length]? = some (.cells 4 (c7 v)) :=by rw[dC.same l.length (by simp)]; simp
   obtain⟨ah,rfl⟩:=jJ aW bC cv;clear aW bC cv;unfold WC;by_cases iL:k=8
   ·subst iL;rw[<-nS] at dC;simp;exact bA _ _ (dC.base (by simp) fun b ai=>aCK ai)
   ·obtain⟨m,hm⟩:∃ m,m+k=7:=⟨7 - k,by omega⟩
    obtain⟨n,aI⟩:∃ n,n=8*m:=⟨_,rfl⟩
    have em:8*(7 - (k:Int))=(n:Int) :=by omega
    have IK:IntKind.i64.wrap ((n:Int) - 8)=(n:Int) - 8:=by rw[IntKind.wrap_i64]; omega
    have jl:cP .shr .u64 (u v.bits) .i64 (n:Int)=some (.int .u64 (u (v.bits >>> n))) :=tt v.bits .i64 n;have wL:=Ey v.bits m;rw[<-aI] at wL;have bu:(v.kind::oS v.bits k).length<=1000000000:=by simp[oS]; omega
    obtain⟨w',l',br,bI⟩:=cA.push dC (mj v.bits.toNat m) bu;rw[em];simp[c7] at aF;simp[aF,jl,wL,br];refine dx.c6 ?_;simp[IK];exact⟨by omega,by simp,by simp; omega,w',by simp,by rw[Oi,show 7 - k=m by omega]; exact bI⟩
  ·have b7:¬ (u v.kind:Int)=2:=fun h=>dF ((mf v.kind).1 h)
   have dG:(u v.kind:Int)=3:=(pB v.kind).2 (an0 fa cT dF);have nS:jK v=[v.kind]++jI (fQ v.text) :=by unfold jK; rw[if_neg cT,if_neg dF]; rfl
   have k3:(jI (fQ v.text)).length<=20000:=by
    have:=iQ (fQ v.text).length;unfold jI;rw[aCS];have:=qG v.text;omega
   simp only[bQ,dG] at aG;simp[c7];refine a8 cU rfl ?_;simp[gT,dG,ak];refine adb (some (fQ v.text)) (by simpa [qG] using aQ) (by simp[dL]) (by simp) (fun l' _ _=>by simp[dL]) fun w l' h=>?_
   obtain⟨bl,cf,br,bI,_⟩:=(aG.frame h.le h.same).app (by_:=1) (x:=w) (xs:=jI (fQ v.text)) h.contents (by simp[cu]) (by omega) (by omega) (by rw[aC]; simp only[aC6,aDx]; omega);simp[br];refine dx.c6 ?_;simp;exact bA _ _ (by rw[nS]; exact bI)
structure bJ where
 g9:D
 bN:eN
 dj:Q
 act:Act
 e:D
 s:D
def bn (o:bJ) :List ad:=[bR o.g9,bc o.bN,dm o.dj,bQ o.act.kind,.str o.act.key,bQ o.act.val.kind,.int .i64 o.act.val.num,dm o.act.val.bits,.str o.act.val.text,bR o.e,bR o.s]
structure ic (o:bJ) :Prop where
 ids:gx o.bN
 len:o.bN.l.length<=1000000
 val:Ds o.act.val
 key:o.act.key.length<=10000
def tJ (o:bJ) :Bool:=gO o.g9&&(decide (o.dj.toNat<=1000000000000)&&(kP o.act&&(jT o.e&&jT o.s)))
def fZ (o:bJ) :Int:=if 4<o.bN.l.length then 4 else if eH o.bN.l then (if tJ o then 0 else 8) else 32
theorem i6 (o:bJ) :a7 (bn o)=true:=by
 have:=eZ o.bN;simp[bn,a7,ad.closed,this]
theorem Mi (o:bJ) (ax:ic o) :bE Tryz.prog GS 81 [.aM (bn o)] (.int .i64 (fZ o)) :=by
 refine bS Tryz.checked.mixed bP ?_;apply bw ahO asx;unfold Rv abp fZ;have eB:=eZ o.bN;have bu:c1 (.av 32) (bc o.bN)=some (.int .i64 o.bN.l.length) :=by simp[bc]
 have jV:(bc o.bN).cells=some [bc o.bN] :=by cases o.bN<;>rfl
 obtain⟨p,aF⟩:∃ p,p=bc o.bN:=⟨_,rfl⟩
 by_cases h1:4<o.bN.l.length
 ·have du:(4:Int)<(o.bN.l.length:Int) :=by omega
  rw[if_pos h1];simp[bn,bu,du];exact aJ rfl rfl
 ·have du:¬ (4:Int)<(o.bN.l.length:Int) :=by omega
  rw[if_neg h1];simp[bn,bu,du];refine a8 (Hc o.bN ax.ids ax.len) (by simp[a7,eB]) ?_;cases ag:eH o.bN.l with
  | false=>
   simp;exact aJ rfl rfl
  | true=>
   simp;refine a8 (abY o.g9) rfl ?_;unfold tJ;cases aq:gO o.g9 with
   | false=>
    simp;exact aJ rfl rfl
   | true=>
    have cL:((1000000000000:Int)<u o.dj)<->¬ o.dj.toNat<=1000000000000:=by unfold u; omega
    by_cases aH:o.dj.toNat<=1000000000000
    ·have lX:¬ ((1000000000000:Int)<u o.dj) :=fun h=>cL.1 h aH
     simp[aH,lX];refine a8 (atD o.act) rfl ?_;cases bd:kP o.act with
     | false=>
      simp[gT];exact aJ rfl rfl
     | true=>
      simp[gT];refine a8 (EQ o.e) rfl ?_;cases bM:jT o.e with
      | false=>
       simp;exact aJ rfl rfl
      | true=>
       simp;refine a8 (EQ o.s) rfl ?_;cases dq:jT o.s with
       | false=>
        simp;exact aJ rfl rfl
       | true=>
        simp;exact aJ (by rw[if_pos aH]) rfl
    ·have lX:(1000000000000:Int)<u o.dj:=cL.2 aH;simp[aH,lX];exact aJ rfl rfl
def opHead (o:bJ) :List B:=111#8::e3 o.g9.toNat
def lc (o:bJ) :List B:=
 opHead o++rs o.bN.l++e3 o.dj.toNat++[o.act.kind]++(if o.act.kind=1#8 then [] else jI (fQ o.act.key))++(if o.act.kind=4#8 then jK o.act.val else [])
theorem Dj {l:List (List B)} (h:∀ x∈l,x.length=32) :(rs l).length<=9+l.length*32:=by
 have:=iQ l.length;have ag:=KV h;unfold rs;rw[aCS];omega
theorem A6 (s:List B) :(jI s).length<=9+s.length:=by
 have:=iQ s.length;unfold jI;rw[aCS];omega
theorem Ea (v:g7) :(jK v).length<=20+v.text.length:=by
 have h1:=iQ (nv v.num).toNat
 have ag:=A6 (fQ v.text);have aq:=qG v.text;unfold jK;simp only[aC6];split
 ·omega
 ·split
  ·simp[oS]; omega
  ·omega
theorem abQ (o:bJ) (ax:ic o) (sw:o.bN.l.length<=1000) {l:aw} {K:ad->aw->Prop} (bA:∀ w l',cA 1 cu l l' w (lc o) false->K w l') :
  dS Tryz.prog GS 122 [.aM (bn o)] l (c:=⟨K⟩) :=by
 apply bw afm ap2;unfold O1 YW;have aC:c4=140737488355328:=rfl;have aG:=uu l (.cells 11 (bn o)) 111#8;have Kj:=iQ o.g9.toNat
 have sB:=iQ o.dj.toNat
 have hu:=Dj ax.ids;have x6:(BitVec.setWidth 64 o.g9).toNat=o.g9.toNat:=by rw[aC5]; exact aC1 (by have:=o.g9.isLt; omega)
 have aP:l.length<(l++[bp.cells 11 (bn o)]).length:=by simp
 have e9:(l++[bp.cells 11 (bn o)])[l.length]? = some (.cells 11 (bn o)) :=by simp
 simp[bn];refine wo _ fun cb l1 h1=>?_
 rw[x6] at h1;obtain⟨w2,cf,bI,dA,_⟩:=(aG.frame h1.le h1.same).app (by_:=1) (x:=cb) (xs:=e3 o.g9.toNat) h1.contents (by simp[cu]) (by omega) (by omega) (by rw[aC]; simp only[aC6,aDx]; omega);have sC:cf[l.length]? = some (.cells 11 (bn o)) :=by rw[dA.same _ aP]; exact e9
 have pd:l.length<cf.length:=by have:=dA.le; omega
 have rj:=sC;simp[bn] at rj;simp[bI];refine dx.c6 ?_;simp[rj];refine as1 o.bN ax.ids sw fun eF fb aq=>?_
 obtain⟨n5,j3,a4,kQ,_⟩:=(dA.frame aq.le aq.same).app (by_:=1) (x:=eF) (xs:=rs o.bN.l) aq.contents (by simp[cu]) (by omega) (by omega) (by rw[aC]; simp only[aCS,aC6,aDx]; omega);have df:fb[l.length]? = some (.cells 11 (bn o)) :=by rw[aq.same _ pd]; exact sC
 have FX:j3[l.length]? = some (.cells 11 (bn o)) :=by rw[kQ.same _ aP]; exact e9
 have alZ:l.length<j3.length:=by have:=kQ.le; omega
 have vH:=df;have z1:=FX;simp[bn] at vH z1;simp[vH,a4];refine dx.c6 ?_;simp[z1];refine wo _ fun qL AA bd=>?_
 obtain⟨aCE,aob,ad5,Ep,_⟩:=(kQ.frame bd.le bd.same).app (by_:=1) (x:=qL) (xs:=e3 o.dj.toNat) bd.contents (by simp[cu]) (by omega) (by omega) (by rw[aC]; simp only[aCS,aC6,aDx]; omega);have amo:aob[l.length]? = some (.cells 11 (bn o)) :=by rw[Ep.same _ aP]; exact e9
 have UT:=amo;simp[bn] at UT;obtain⟨Eb,Xb,ad6,tq⟩:=cA.push Ep o.act.kind (by simp only[aCS,aC6,aDx]; omega);have amp:Xb[l.length]? = some (.cells 11 (bn o)) :=by rw[tq.same _ aP]; exact e9
 have ay1:l.length<Xb.length:=by have:=tq.le; omega
 have Ks:=amp;simp[bn] at Ks;simp[ad5];refine dx.c6 ?_;simp[UT,ad6];refine dx.c6 ?_;obtain⟨M,nI⟩:∃ M,M=[111#8]++e3 o.g9.toNat++rs o.bN.l++e3 o.dj.toNat++[o.act.kind] :=⟨_,rfl⟩
 have akv:M.length<=40000:=by rw[nI]; simp only[aCS,aC6,aDx]; omega
 rw[<-nI] at tq;have dH:lc o=M++(if o.act.kind=1#8 then [] else jI (fQ o.act.key))++(if o.act.kind=4#8 then jK o.act.val else []) :=by rw[nI]; rfl
 have k3:=A6 (fQ o.act.key);rw[qG] at k3;have J9:=ax.key;have mD:=Ea o.act.val;have amZ:=ax.val.2.2;have ak:w7 (.str o.act.key)=some (.cr 1 ((fQ o.act.key).map cu)) :=by
  show some (ad.cr 1 (o.act.key.map fun b=>[jR b]))=_;rw[Hv]
 by_cases cT:o.act.kind=1#8
 ·have a2:(u o.act.kind:Int)=1:=(i5 o.act.kind).2 cT;have ie:¬ o.act.kind=4#8:=by rw[cT]; decide
  rw[if_pos cT,if_neg ie,aDl,aDl] at dH;simp[Ks,a2];exact bA _ _ (by rw[dH]; exact tq.base (by simp) fun b ai=>aCK ai)
 ·have a2:¬ (u o.act.kind:Int)=1:=fun h=>cT ((i5 o.act.kind).1 h)
  rw[if_neg cT] at dH;simp[Ks,a2,ak];refine abR (some (fQ o.act.key)) (by simpa [qG] using J9) (by simp[dL]) (by simp) (fun l' _ _=>by simp[dL]) fun HG mb fl=>?_
  obtain⟨avS,Lw,a9,u3,_⟩:=(tq.frame fl.le fl.same).app (by_:=1) (x:=HG) (xs:=jI (fQ o.act.key)) fl.contents (by simp[cu]) (by omega) (by omega) (by rw[aC]; omega);have Kt:Lw[l.length]? = some (.cells 11 (bn o)) :=by rw[u3.same _ aP]; exact e9
  have x3:=Kt;simp[bn] at x3;simp[a9];refine dx.c6 ?_;simp only[aDJ] at u3;by_cases ie:o.act.kind=4#8
  ·have j8:(u o.act.kind:Int)=4:=(wD o.act.kind).2 ie;rw[if_pos ie] at dH;simp[x3,j8];refine atl o.act.val ax.val fun No an9 mr=>?_
   obtain⟨avR,aoa,H4,Ib,_⟩:=(u3.frame mr.le mr.same).app (by_:=1) (x:=No) (xs:=jK o.act.val) mr.contents (by simp[cu]) (by omega) (by omega) (by rw[aC]; simp only[aCS]; omega);simp[H4];refine dx.c6 ?_;simp;exact bA _ _ (by rw[dH]; exact Ib.base (by simp) fun b ai=>aCK ai)
  ·have j8:¬ (u o.act.kind:Int)=4:=fun h=>ie ((wD o.act.kind).1 h)
   rw[if_neg ie,aDl] at dH;simp[x3,j8];exact bA _ _ (by rw[dH]; exact u3.base (by simp) fun b ai=>aCK ai)
def iu (o:bJ) :List B:=lc o++e3 o.e.toNat++e3 o.s.toNat
theorem XX (o:bJ) (ax:ic o) (sw:o.bN.l.length<=1000) :(lc o).length<=100000:=by
 have h1:=iQ o.g9.toNat
 have ag:=iQ o.dj.toNat
 have aq:=Dj ax.ids;have aH:=A6 (fQ o.act.key);rw[qG] at aH;have bd:=ax.key;have bM:=Ea o.act.val;have dq:=ax.val.2.2;have aW:(if o.act.kind=1#8 then [] else jI (fQ o.act.key)).length<=10009:=by split<;>(try simp) ; omega
 have bg:(if o.act.kind=4#8 then jK o.act.val else []).length<=10020:=by split<;>(try simp) ; omega
 unfold lc opHead;simp only[aCS,aC6,aDx];omega
theorem asQ (o:bJ) (ax:ic o) (sw:o.bN.l.length<=1000) {l:aw} {K:ad->aw->Prop} (bA:∀ w l',cA 1 cu l l' w (iu o) false->K w l') :
  dS Tryz.prog GS 78 [.aM (bn o)] l (c:=⟨K⟩) :=by
 apply bw ahL asu;unfold Rs abm;have aC:c4=140737488355328:=rfl;have b2:=iQ o.e.toNat
 have sB:=iQ o.s.toNat
 have k3:=XX o ax sw;have jy:(BitVec.setWidth 64 o.e).toNat=o.e.toNat:=by rw[aC5]; exact aC1 (by have:=o.e.isLt; omega)
 have oy:(BitVec.setWidth 64 o.s).toNat=o.s.toNat:=by rw[aC5]; exact aC1 (by have:=o.s.isLt; omega)
 have aP:l.length<(l++[bp.cells 11 (bn o)]).length:=by simp
 have e9:(l++[bp.cells 11 (bn o)])[l.length]? = some (.cells 11 (bn o)) :=by simp
 simp[bn];refine abQ o ax sw fun cb l1 h1=>?_
 have qi:l1[l.length]? = some (.cells 11 (bn o)) :=by rw[h1.same _ aP]; exact e9
 have qa:l.length<l1.length:=by have:=h1.le; simp at this; omega
 have x1:=qi;simp[bn] at x1;simp[x1];refine wo _ fun w2 cf ag=>?_
 rw[jy] at ag;obtain⟨eF,fb,a3,iD,_⟩:=(h1.frame ag.le ag.same).app (by_:=1) (x:=w2) (xs:=e3 o.e.toNat) ag.contents (by simp[cu]) (by omega) (by omega) (by rw[aC]; omega);have sC:cf[l.length]? = some (.cells 11 (bn o)) :=by rw[ag.same _ qa]; exact qi
 have df:fb[l.length]? = some (.cells 11 (bn o)) :=by rw[iD.same _ aP]; exact e9
 have rj:=sC;have vH:=df;simp[bn] at rj vH;simp[rj,a3];refine dx.c6 ?_;simp[vH];refine wo _ fun n5 j3 aH=>?_
 rw[oy] at aH;obtain⟨qL,AA,a5,qS,_⟩:=(iD.frame aH.le aH.same).app (by_:=1) (x:=n5) (xs:=e3 o.s.toNat) aH.contents (by simp[cu]) (by omega) (by omega) (by rw[aC]; simp only[aCS]; omega);simp[a5];refine dx.c6 ?_;simp;exact bA _ _ (qS.base (by simp) fun b ai=>aCK ai)
theorem Mh (o:bJ) (ax:ic o) (sw:o.bN.l.length<=1000) :bE Tryz.prog GS 33 [.aM (bn o)] (fL (iR (iu o))) :=by
 refine bS Tryz.checked.mixed bP ?_;apply bw ahd arV;unfold QU aaN;have b2:=iQ o.e.toNat
 have sB:=iQ o.s.toNat
 have k3:=XX o ax sw;have dI:(iR (iu o)).length=32:=uH _;simp[bn];refine asQ o ax sw fun cb l1 h1=>?_
 have e9:l1[1]? = some (.cells 32 (rep 32 (.int .u8 0))) :=by rw[h1.same 1 (by simp)]; rfl
 simp;refine i3 (abZ (some (iu o)) (by simp[iu]; omega)) (.cons (h1.s3 (fun _=>rfl) (some (iu o)) rfl rfl) .nil) (by simp[ad.flat,mn,fL,zl bQ (fun _=>rfl)]) ?_;have uc:bO (rep 32 (.int .u8 0)) 0 ((iR (iu o)).map bQ)=(iR (iu o)).map bQ:=fM (by rw[aCZ,dI]; rfl);have kD:(l1.set 1 (bp.cells 32 ((iR (iu o)).map bQ)))[1]? = some (.cells 32 ((iR (iu o)).map bQ)) :=aC3 (fW e9);simp[e9,fL,dI,uc,kD,aCI];exact aJ rfl (by simp[ad.closed,lr bQ (fun _=>rfl)])
theorem Bp:∀ a b:List B,a.length=b.length->fJ (a.map bQ) (b.map bQ)=decide (a=b)
 | [],[],_=>rfl
 | [],_::_,h=>by simp at h
 | _::_,[],h=>by simp at h
 | x::a,y::b,h=>by
  have aY:=Bp a b (by simpa using h);simp only[aDc,fJ,aY,ad.beq,decide_true,aDL];by_cases h1:x=y
  ·by_cases ag:a=b<;>simp[h1,ag]
  ·have:¬ u x=u y:=fun h=>h1 ((rK x y).1 h)
   simp[h1]
theorem yn:∀ a:List B,ir (List.replicate a.length (.i .u8)) (a.map bQ)=true
 | []=>rfl
 | x::a=>by
  rw[aC6,aDW,aDc];simp only[ir,yn a,D5,decide_true,aEn]
theorem VP:qw Tryz.prog 20 48=some (List.replicate 32 (.i .u8)) :=by kernel_rfl
theorem Gk {a b:List B} (aD:a.length=32) (ai:b.length=32) :gu Tryz.prog .eql 48 (.aM (a1 a)) (.aM (a1 b))=some (.bool (decide (a=b))) :=by
 unfold a1;rw[yY VP (by kernel_rfl) (by kernel_rfl) (by have:=yn a; rwa [aD] at this) (by have:=yn b; rwa [ai] at this),Bp a b (by omega)]
theorem C9 {a b:List B} (aD:a.length=32) (ai:b.length=32) :gu Tryz.prog .neq 48 (.aM (a1 a)) (.aM (a1 b))=some (.bool (!decide (a=b))) :=by
 unfold a1;rw[Et VP (by kernel_rfl) (by kernel_rfl) (by have:=yn a; rwa [aD] at this) (by have:=yn b; rwa [ai] at this),Bp a b (by omega)]
theorem aoQ (s:eN) :gu Tryz.prog .eql 22 (c0 32 a1 s) .aK=some (.bool s.isNone) :=Es (e:=48) (by kernel_rfl) 32 a1 s
theorem ao3 (l:aw) :cA 32 a1 l (l++[.cells 0 []]) (.av 32 l.length 0 0 0 0) ([] :List (List B)) false:=
 ⟨l.length,.av l.length 0 0 0 [] [] (by simp) rfl rfl (by simp) (aCL _) (by omega) rfl,by simp,fun b ai=>aCK ai,.inr (aCL _),rfl⟩
theorem Vu (s:eN) (ax:gx s) (ap:s.l.length<=1000000) {l:aw} {K:ad->aw->Prop} (bA:∀ v l',cA 32 a1 l l' v s.l s.isNone->K v l') :
  dS Tryz.prog GS 165 [bc s] l (c:=⟨K⟩) :=by
 apply bw afZ aqF;unfold PG ZB;have aC:c4=140737488355328:=rfl;cases s with
 | none=>
  simp[bc];exact bA _ _ cA.nil
 | some a=>
  simp at ap;obtain⟨bl,l',br,bI,_⟩:=(ao3 l).app (by_:=32) (x:=c0 32 a1 (some a)) (xs:=a) (qX _ 32 a1 (some a)) (fun y aE=>c3 (ax y aE)) (by omega) (by omega) (by rw[aC]; simp; omega);simp[bc,aoQ,br];refine dx.c6 ?_;simp;exact bA _ _ (by simpa using bI)
def pS (l:List (List B)) (m:Nat) :List (List B) :=(List.range m).flatMap fun k=>if k=0\/cw l k≠cw l (k - 1) then [cw l k] else []
def sa (l:List (List B)) :List (List B) :=pS l l.length
theorem BH (l:List (List B)) (m:Nat) :pS l (m+1)=pS l m++(if m=0\/cw l m≠cw l (m - 1) then [cw l m] else []) :=by
 unfold pS; rw[aEw,aEL]; simp
theorem Se (l:List (List B)) :∀ m,(pS l m).length<=m
 | 0=>by simp[pS]
 | m+1=>by
  have:=Se l m;rw[BH,aCS];split<;>simp<;>omega
theorem BG {l:List (List B)}:∀ {m},m<=l.length->(∀ k,1<=k->k<m->cw l k≠cw l (k - 1))->pS l m=l.take m
 | 0,_,_=>by simp[pS]
 | m+1,hm,h=>by
  rw[BH,BG (by omega) (fun k h1 ag=>h k h1 (by omega)),aC4,if_pos (by
   by_cases aG:m=0
   ·exact .inl aG
   ·exact .inr (h m (by omega) (by omega)))]
  congr 1;unfold cw;rw[aC2,aCM (by omega)];rfl
theorem Sf {l:List (List B)} {k:Nat} (h1:1<=k) (au:cw l k=cw l (k - 1)) :∀ {m},k<m->(pS l m).length<m
 | 0,h=>by omega
 | m+1,h=>by
  rw[BH,aCS];by_cases hk:k=m
  ·subst hk;have:=Se l k;rw[if_neg (fun h=>h.elim (fun aG=>by omega) (fun ag=>ag au))];simp; omega
  ·have:=Sf h1 au (m:=m) (by omega);split<;>simp<;>omega
theorem aiK {l:List (List B)} (ap:yF l=true) :((sa l).length=l.length)<->eH l=true:=by
 unfold yF at ap;rw[decide_eq_true_eq] at ap;unfold eH sa;rw[decide_eq_true_eq];constructor
 ·intro h k hk h1;have ag:=ap k hk h1;have aq:cw l k≠cw l (k - 1) :=fun au=>by
   have:=Sf h1 au hk;omega
  have aH:=r8 (cw l k) (cw l (k - 1));have bd:cI (cw l (k - 1)) (cw l k)≠0:=fun aG=>aq (r7 aG).symm
  omega
 ·intro h;rw[BG (aCL _) (fun k h1 ag au=>by
   have:=h k ag h1;rw[<-au,pP] at this;omega),aDi]
theorem Gl {a:List (List B)} {k:Nat} (h:k<a.length) :(a.map a1)[k]? = some (a1 (cw a k)) :=by
 rw[aCO];unfold cw;rw[aC2,aCM h];rfl
theorem Gj {a:List (List B)} {k:Nat} (h:k<a.length) :cw a k∈a:=by
 unfold cw;rw[aC2,aCM h];exact aFT h
structure adD (l:aw) (v:ad) (xs:List (List B)) (k:Nat) (ah:bB) (l1:aw) :Prop where
 cd:ah 0=v
 bj:ah 3=.int .i64 ((k+1:Nat) :Int)
 ar:l1=l
 ap:∀ j,1<=j->j<k+1->cw xs j≠cw xs (j - 1)
structure adC (l:aw) (v ei:ad) (j:Nat) (xs:List (List B)) (m i:Nat) (ah:bB) (cf:aw) :Prop where
 cd:ah 0=v
 bL:ah 4=ei
 bC:ah 5=.int .i64 ((i+1:Nat) :Int)
 ex:∃ (k:Nat) (bt:List (List B)),ah 3=.int .i64 (k:Int)/\bW 32 cf v j (bt.map a1)/\bt.length=xs.length/\(∀ y∈bt,y.length=32)/\bt.take k=pS xs (m+i+1)/\k<=m+i/\(∀ t,m+i<=t->cw bt t=cw xs t)/\cf.length=l.length/\∀ b,b≠j->cf[b]? = l[b]?
theorem aiI {l:aw} {v:ad} {j k:Nat} {bt:List (List B)} (h:bW 32 l v j (bt.map a1)) (hk:k<bt.length) :
  ∃ v3 fb r,g5 (.av 32) v (some (.int .i64 (k:Int))) none none=some v3/\tu (rep 32 (.int .u8 0)) l v3=some fb/\g5 (.av 32) v none (some (.int .i64 (k:Int))) none=some r ∧
   bW 32 fb r j ((bt.take k).map a1)/\cX r=false/\fb.length=l.length/\∀ b,b≠j->fb[b]? = l[b]?:=by
 generalize au:bt.map a1=es at h;cases h with
 | nil j=>rw[aDQ] at au; subst au; simp at hk
 | av j n cap sz cs es ai ar aI az ak dv bT=>
  subst au;have sA:bt.length=n:=by simpa using aI
  have hd:j7 (.int .i64 (k:Int)) n=some k:=by
   show (if 0<=(k:Int)/\(k:Int)<=(n:Int) then some (k:Int).toNat else none)=some k;rw[if_pos ⟨by omega,by omega⟩]; simp
  have gK:j7 (.int .i64 (k:Int)) cap=some k:=by
   show (if 0<=(k:Int)/\(k:Int)<=(cap:Int) then some (k:Int).toNat else none)=some k;rw[if_pos ⟨by omega,by omega⟩]; simp
  have dE:hb n cap (some (.int .i64 (k:Int))) none none=some (k,n,cap) :=by
   show (match j7 (.int .i64 (k:Int)) n with | none=>none | some l=>some (l,n,cap))=_;rw[hd]
  have dA:hb n cap none (some (.int .i64 (k:Int))) none=some (0,k,cap) :=by
   show (match j7 (.int .i64 (k:Int)) cap with | none=>none | some h=>some (0,h,cap))=_;rw[gK]
  have cU:¬ cap=k:=by omega
  have zH:¬ cap=0:=by omega
  have eW:j<l.length:=fW ai;have g2:k*32<=n*32:=aCN _ (by omega);have lG:n*32<=cap*32:=aCN _ ak;have mC:(ey (rep 32 (.int .u8 0)) (n - k)).length=(n - k)*32:=by rw[AW]; rfl
  have al0:k*32+(n - k)*32=n*32:=by rw[<-aDg]; congr 1; omega
  refine⟨.av 32 j (k*32) (n - k) (cap - k) sz,l.set j (.cells sz (bO cs (k*32) (ey (rep 32 (.int .u8 0)) (n - k)))),.av 32 j 0 k cap sz,?_,?_,?_,?_,rfl,by simp,fun b he=>by rw[aCU (fun h=>he h.symm)]⟩
  ·rw[yD,dE]; simp[cU]
  ·unfold tu;simp only;rw[if_neg (by omega)];simp[ai]
  ·rw[yD,dA]; simp[zH]
  ·refine .av j k cap sz _ _ (aC3 eW) (by rw[rJ (by omega),mC]; omega) (by simp; omega) (fun e au=>?_) (by omega) dv ?_
   ·obtain⟨y,aE,rfl⟩:=aC9.1 au;exact az _ (aEi (aDs aE))
   ·unfold bO;rw[aDa,aDb (by rw[aCX]; omega),aEt,Nat.min_self];have a2:cs.take (k*32)=(cs.take (n*32)).take (k*32) :=by rw[aEt,aDE g2]
    have b7:bt.map a1=(bt.take k).map a1++(bt.drop k).map a1:=by rw[<-aDe,aDt]
    have dG:((bt.take k).map a1).flatten.length=k*32:=by
     rw[mo (z:=32) (fun e au=>by obtain⟨y,aE,rfl⟩:=aC9.1 au; exact az _ (aEi (aDs aE)))];simp; omega
    rw[a2,bT,b7,aDD,aDb (by omega),aCI (by omega)]
theorem Yd {bt:List (List B)} (az:∀ y∈bt,y.length=32) (k:Nat) (hk:k<=bt.length) {n:Nat} (aI:bt.length=n) {cs:List ad} (bT:cs.take (n*32)=(bt.map a1).flatten) (ar:n*32<=cs.length) :
  cs.take (k*32)=((bt.take k).map a1).flatten/\(cs.drop (k*32)).take (n*32 - k*32)=((bt.drop k).map a1).flatten:=by
 have g2:k*32<=n*32:=aCN _ (by omega);have b7:bt.map a1=(bt.take k).map a1++(bt.drop k).map a1:=by rw[<-aDe,aDt]
 have dG:((bt.take k).map a1).flatten.length=k*32:=by
  rw[mo (z:=32) (fun e au=>by obtain⟨y,aE,rfl⟩:=aC9.1 au; exact c3 (az _ (aDs aE)))];simp; omega
 have a2:cs.take (k*32)=(cs.take (n*32)).take (k*32) :=by rw[aEt,aDE g2]
 constructor
 ·rw[a2,bT,b7,aDD,aDb (by omega),aCI (by omega)]
 ·rw[<-aEW,bT,b7,aDD,aDp (by omega),aDC (by omega),aDq]
theorem auf {l:aw} {v:ad} {j k:Nat} {bt:List (List B)} {x:List B} (h:bW 32 l v j (bt.map a1)) (az:∀ y∈bt,y.length=32) (hk:k<bt.length) (al:x.length=32) :
  ∃ p l',cC (.av 32) v (.int .i64 (k:Int))=some p/\kI 32 l p (.aM (a1 x))=some l'/\bW 32 l' v j ((bt.set k x).map a1)/\l'.length=l.length/\∀ b,b≠j->l'[b]? = l[b]?:=by
 generalize au:bt.map a1=es at h;cases h with
 | nil j=>rw[aDQ] at au; subst au; simp at hk
 | av j n cap sz cs es ai ar aI j1 ak dv bT=>
  subst au;have sA:bt.length=n:=by simpa using aI
  have eW:j<l.length:=fW ai;have bm:=c3 al;have g2:(k+1)*32<=n*32:=aCN _ (by omega);have lG:n*32<=cap*32:=aCN _ ak;have ap:(k+1)*32=k*32+32:=by rw[aDj]
  obtain⟨f1,_⟩:=Yd az k (by omega) sA bT (by omega);obtain⟨_,f2⟩:=Yd az (k+1) (by omega) sA bT (by omega);refine⟨.ptr j (k*32) sz,l.set j (.cells sz (bO cs (k*32) (a1 x))),?_,?_,?_,by simp,fun b he=>by rw[aCU (fun h=>he h.symm)]⟩
  ·simp[cC]; omega
  ·unfold kI;simp[ai,ad.cells,bm];omega
  ·refine .av j n cap sz _ _ (aC3 eW) (by rw[rJ (by omega),bm]; omega) (by simp; omega) (fun e au=>?_) ak dv ?_
   ·obtain⟨y,aE,rfl⟩:=aC9.1 au;rcases aDX aE with h | h
    ·exact c3 (az _ h)
    ·rw[h]; exact bm
   ·have kD:bt.set k x=bt.take k++(x::bt.drop (k+1)) :=by rw[aD0,if_pos hk]
    rw[kD,aDe,aDc,aDD,aDM,<-f1,<-f2];unfold bO;have t1:(cs.take (k*32)).length=k*32:=by rw[aCX]; omega
    have lk:(cs.take (k*32)).take (n*32)=cs.take (k*32) :=aCI (by rw[t1]; omega);have mQ:(a1 x).take (n*32 - k*32)=a1 x:=aCI (by rw[bm]; omega);rw[aDa,bm,<-ap,aEz,t1,lk,aEz,mQ,bm,show n*32 - k*32 - 32=n*32 - (k+1)*32 by omega]
theorem aiy {fz l:aw} {v:ad} {xs:List (List B)} {fr:Bool} (h:cA 32 a1 fz l v xs fr) (al:∀ x∈xs,x.length=32) (aI:xs.length<=1000000) {K:ad->aw->Prop} (bA:∀ r l',cA 32 a1 fz l' r (sa xs) fr->K r l') :
  dS Tryz.prog GS 198 [v] l (c:=⟨K⟩) :=by
 apply bw agl aq0;unfold P2 ZU;have bu:=h.len;by_cases ag:xs.length<2
 ·have eV:(xs.length:Int)<2:=by omega
  have sr:sa xs=xs:=by
   unfold sa;rw[BG (aCL _) (fun k h1 aq=>by omega),aDi]
  simp[bu,eV];exact bA _ _ (by rw[sr]; exact h)
 ·have eV:¬ (xs.length:Int)<2:=by omega
  simp[bu,eV];refine c2 (xs.length - 1) (adD l v xs) ?_ ⟨by simp,by simp,rfl,fun j h1 aq=>by omega⟩;rintro k ah l1 hk ⟨cd,bj,rfl,ap⟩;obtain⟨ah,rfl⟩:=lS cd bj;clear cd bj;obtain⟨m,hm⟩:∃ m,m=k+1:=⟨_,rfl⟩
  rw[<-hm] at ap ⊢;unfold Wz;by_cases aP:m<xs.length
  ·have a2:IntKind.i64.wrap ((m:Int) - 1)=(k:Int) :=by rw[IntKind.wrap_i64]; omega
   have b7:IntKind.i64.wrap ((m:Int)+1)=((m+1:Nat) :Int) :=by rw[IntKind.wrap_i64]; omega
   have h4:(m:Int)<(xs.length:Int) :=by omega
   obtain⟨j,ax,kZ⟩:=h;obtain⟨ux,cT,rC,br,bI,a3,a4⟩:=ax.q.get (k:=.i64) (Gl aP);obtain⟨uy,dF,mJ,dE,dA,iD,kQ⟩:=ax.q.get (k:=.i64) (Gl (a:=xs) (k:=k) (by omega));have iK:=Gk (al _ (Gj aP)) (al _ (Gj (a:=xs) (k:=k) (by omega)));obtain⟨X,ce⟩:∃ X,X=cw xs m:=⟨_,rfl⟩
   obtain⟨Y,dB⟩:∃ Y,Y=cw xs k:=⟨_,rfl⟩
   rw[<-ce] at a4 iK;rw[<-dB] at kQ iK;by_cases au:X=Y
   ·have rc:gu Tryz.prog .eql 48 (.aM (a1 X)) (.aM (a1 Y))=some (.bool true) :=by rw[iK,decide_eq_true au]
    have ay:cX v=false:=by
     cases CG:cX v with
     | false=>rfl
     | true=>
      have:=jB.1 CG;subst this;have:=ax.q.rz;rw[aDQ] at this;rw[this] at aP; simp at aP
    obtain⟨ei,hF,jG,_⟩:=ax.q.from ay (k:=.i64) (i:=m) (by simp; omega);have aG:pS xs m=xs.take m:=BG (by omega) ap;have h1:pS xs (m+1)=xs.take m:=by rw[BH,if_neg (fun h=>h.elim (fun aG=>by omega) (fun ag=>ag (by rw[<-ce,show m - 1=k by omega,<-dB]; exact au))),aG,aDl]
    simp[bu,h4,a2,br,bI,a3,a4,dE,dA,iD,kQ,rc,hF];refine c2 (xs.length - m - 1) (adC l1 v ei j xs m) ?_ ⟨by simp,by simp,by simp,m,xs,by simp,ax,rfl,al,h1.symm,by omega,fun t _=>rfl,rfl,fun b _=>rfl⟩;rintro i ah cf aB ⟨cd,bL,bC,q,bt,bj,bD,b8,oA,hC,vJ,l5,xV,lD⟩;obtain⟨ah,rfl⟩:=hW cd bj bL bC;clear cd bj bL bC;obtain⟨dO,JY⟩:∃ dO,dO=i+1:=⟨_,rfl⟩
    rw[<-JY];unfold Wy;obtain⟨avB,DS,yz,_⟩:=bD.q.from ay (k:=.i64) (i:=m) (by simp; omega);rw[hF] at DS;obtain rfl:=Option.some.inj DS;have gk:=yz.len;rw[aDS,aCZ,b8] at gk;by_cases pd:dO<xs.length - m
    ·have tU:(dO:Int)<((xs.length - m:Nat) :Int) :=by omega
     have cb:IntKind.i64.wrap ((dO:Int) - 1)=(i:Int) :=by rw[IntKind.wrap_i64]; omega
     have w2:IntKind.i64.wrap ((dO:Int)+1)=((dO+1:Nat) :Int) :=by rw[IntKind.wrap_i64]; omega
     have eF:IntKind.i64.wrap ((q:Int)+1)=((q+1:Nat) :Int) :=by rw[IntKind.wrap_i64]; omega
     obtain⟨AP,kS,qz,gD,iV,qM,jl⟩:=yz.get (k:=.i64) (i:=dO) (e:=a1 (cw bt (m+dO))) (by rw[aDh]; exact Gl (by omega));obtain⟨G2,ie,sV,hp,jL,uP,mg⟩:=yz.get (k:=.i64) (i:=i) (e:=a1 (cw bt (m+i))) (by rw[aDh]; exact Gl (by omega));have rp:=oA _ (Gj (a:=bt) (k:=m+dO) (by omega));have j1:=oA _ (Gj (a:=bt) (k:=m+i) (by omega));have b2:=C9 rp j1;have qm:=l5 (m+dO) (by omega);have nQ:=l5 (m+i) (by omega);have bX:=BH xs (m+dO);rw[show m+dO - 1=m+i by omega] at bX;obtain⟨mV,Jz⟩:∃ X,X=cw bt (m+dO) :=⟨_,rfl⟩
     obtain⟨wW,Ce⟩:∃ Y,Y=cw bt (m+i) :=⟨_,rfl⟩
     rw[<-Jz] at jl b2 rp qm;rw[<-Ce] at mg b2 nQ;rw[<-qm,<-nQ] at bX;rw[show m+i+1=m+dO by omega] at hC;by_cases o5:mV=wW
     ·have tX:gu Tryz.prog .neq 48 (.aM (a1 mV)) (.aM (a1 wW))=some (.bool false) :=by rw[b2]; simp[o5]
      rw[if_neg (fun h=>h.elim (fun aG=>by omega) (fun ag=>ag o5)),aDl] at bX;simp[gk,tU,cb,gD,iV,qM,jl,hp,jL,uP,mg,tX,w2];exact⟨by omega,by simp,by simp,by simp,q,bt,by simp,bD,b8,oA,by rw[bX]; exact hC,by omega,fun t aQ=>l5 t (by omega),xV,lD⟩
     ·have tX:gu Tryz.prog .neq 48 (.aM (a1 mV)) (.aM (a1 wW))=some (.bool true) :=by rw[b2]; simp[o5]
      rw[if_pos (.inr o5)] at bX;obtain⟨LZ,fb,iB,hq,z3,z4,z5⟩:=auf bD oA (k:=q) (x:=mV) (by omega) rp;simp[gk,tU,cb,gD,iV,qM,jl,hp,jL,uP,mg,tX,w2,eF,iB,hq];have D6:(bt.take q).length=q:=by rw[aCX]; omega
      have l6:(bt.set q mV).take (q+1)=bt.take q++[mV] :=by
       rw[aD0,if_pos (by omega),aEz,D6,aCI (by omega),show q+1 - q=1 by omega]; simp
      refine⟨by omega,by simp,by simp,by simp,q+1,bt.set q mV,by simp,z3,by simp[b8],fun y aE=>?_,by rw[l6,bX,hC],by omega,fun t aQ=>?_,by omega,fun b ai=>(z5 b ai).trans (lD b ai)⟩
      ·rcases aDX aE with h | h
       ·exact oA _ h
       ·rw[h]; exact rp
      ·have:=l5 t (by omega);unfold cw at this ⊢;rw[aC2,aCU (by omega),<-aC2];exact this
    ·have tU:¬ (dO:Int)<((xs.length - m:Nat) :Int) :=by omega
     obtain⟨v3,fb,r,iB,hq,z3,z4,z5,adn,Ee⟩:=aiI bD (k:=q) (by omega);simp[gk,tU,iB,hq,z3];obtain⟨aW,bg,bj,bL⟩:=kZ;have Cx:fz.length<=j:=bj.resolve_left (fun h=>by rw[h] at ay; cases ay);have xK:m+i+1=xs.length:=by omega
     rw[xK] at hC;refine bA _ _ ⟨j,by unfold sa; rw[<-hC]; exact z4,by omega,fun b ai=>?_,.inr Cx,by rw[z5,<-bL,ay]⟩;rw[Ee b (by omega),lD b (by omega)];exact bg b ai
   ·have rc:gu Tryz.prog .eql 48 (.aM (a1 X)) (.aM (a1 Y))=some (.bool false) :=by rw[iK,decide_eq_false au]
    simp[bu,h4,a2,br,bI,a3,a4,dE,dA,iD,kQ,rc,b7];refine⟨by omega,by simp,by simp[hm],rfl,fun t h1 ag=>?_⟩;by_cases aQ:t=m
    ·rw[aQ,<-ce,show m - 1=k by omega,<-dB]; exact au
    ·exact ap t h1 (by omega)
  ·have h4:¬ (m:Int)<(xs.length:Int) :=by omega
   have sr:sa xs=xs:=by
    unfold sa;rw[BG (aCL _) (fun k h1 aq=>ap k h1 (by omega)),aDi]
   simp[bu,h4];exact bA _ _ (by rw[sr]; exact h)
theorem atP {l:List (List B)} (h:eH l=true) :yF l=true:=by
 unfold eH at h;rw[decide_eq_true_eq] at h;exact acB fun k hk h1=>by
  have:=h k hk h1;have aH:=r8 (cw l k) (cw l (k - 1));omega
theorem HH (o:bJ) (ax:ic o) :bE Tryz.prog GS 146 [.aM (bn o)] (.int .i64 (fZ o)) :=by
 refine bS Tryz.checked.mixed bP ?_;apply bw afH aqn;unfold Pq Zj fZ;have eB:=eZ o.bN;have bu:c1 (.av 32) (bc o.bN)=some (.int .i64 o.bN.l.length) :=by simp[bc]
 have jV:(bc o.bN).cells=some [bc o.bN] :=by cases o.bN<;>rfl
 by_cases h1:4<o.bN.l.length
 ·have du:(4:Int)<(o.bN.l.length:Int) :=by omega
  rw[if_pos h1];simp[bn,bu,du];exact aJ rfl rfl
 ·have du:¬ (4:Int)<(o.bN.l.length:Int) :=by omega
  rw[if_neg h1];simp[bn,bu,du];refine a8 (anL o.bN ax.ids ax.len) (by simp[a7,eB,ad.closed]) ?_;cases ag:yF o.bN.l with
  | false=>
   have aq:eH o.bN.l=false:=by
    cases aq:eH o.bN.l with
    | false=>rfl
    | true=>rw[atP aq] at ag; cases ag
   simp[aq,bu];exact aJ rfl rfl
  | true=>
   simp[bu];refine Vu o.bN ax.ids ax.len fun ft l1 aW=>?_
   have akM:l1[0]? = some (.cells 11 (bn o)) :=by rw[aW.same 0 (by simp)]; rfl
   have TL:=akM;simp[bn] at TL;simp[TL];refine aiy aW ax.ids ax.len fun ei cf bg=>?_
   have e9:cf[0]? = some (.cells 11 (bn o)) :=by rw[bg.same 0 (by simp)]; rfl
   have zF:=e9;simp[bn] at zF;have gk:=bg.len;have sr:=aiK ag;cases aq:eH o.bN.l with
   | false=>
    have b2:¬ ((sa o.bN.l).length:Int)=(o.bN.l.length:Int) :=fun h=>by
     have:=sr.1 (by omega);rw[aq] at this; cases this
    simp[gk,zF,bu,b2];exact aJ rfl rfl
   | true=>
    have heq:((sa o.bN.l).length:Int)=(o.bN.l.length:Int) :=by have:=sr.2 aq; omega
    simp[gk,zF,bu,heq];refine a8 (Lc o.g9) rfl ?_;unfold tJ;cases bd:gO o.g9 with
    | false=>
     simp;exact aJ rfl rfl
    | true=>
     have cL:((1000000000000:Int)<u o.dj)<->¬ o.dj.toNat<=1000000000000:=by unfold u; omega
     by_cases bM:o.dj.toNat<=1000000000000
     ·have sm:¬ ((1000000000000:Int)<u o.dj) :=fun h=>cL.1 h bM
      have xX:((500000003:Int)<=max (u o.e:Int) (u o.s))<->¬ (jT o.e&&jT o.s)=true:=by
       unfold jT u;simp only[aCQ,decide_eq_true_eq];omega
      have UF:v2 (bR o.e) (bR o.s)=some (.int .u32 (max (u o.e:Int) (u o.s))) :=by
       show (if IntKind.u32=IntKind.u32 then some (ad.int .u32 (if (u o.e:Int)<u o.s then u o.s else u o.e)) else none)=_;rw[if_pos rfl];congr 2;split<;>omega
      cases dq:(jT o.e&&jT o.s) with
      | false=>
       have nG:(500000003:Int)<=max (u o.e:Int) (u o.s) :=xX.2 (by rw[dq]; simp);simp[zF,bM,sm,UF,nG];exact aJ rfl rfl
      | true=>
       have nG:¬ (500000003:Int)<=max (u o.e:Int) (u o.s) :=fun h=>(xX.1 h) dq
       simp[zF,bM,sm,UF,nG];refine a8 (Iv o.act) rfl ?_;cases fl:kP o.act with
       | false=>
        simp[gT];exact aJ rfl rfl
       | true=>
        simp[gT];exact aJ (by rw[if_pos bM]) rfl
     ·have sm:(1000000000000:Int)<u o.dj:=cL.2 bM;simp[zF,bM,sm];exact aJ rfl rfl
theorem MG (a b:eN) (aD:gx a) (ai:gx b) (ar:a.l.length<=1000000) :bE Tryz.prog GS 37 [bc a,bc b] (.bool (decide (a.l=b.l))) :=by
 refine bS Tryz.checked.mixed bP ?_;apply bw ahf arX;unfold QW aaP;simp[bc];by_cases h1:a.l.length=b.l.length
 ·have du:((a.l.length:Int)=b.l.length) :=by omega
  simp[h1];refine c2 a.l.length (fun k ah l=>ah 0=c0 32 a1 a/\ah 1=c0 32 a1 b/\ah 5=.int .i64 k/\∀ j,j<k->a.l[j]? = b.l[j]?) ?_ (by simp[bc]);rintro k ah l hk ⟨cd,aW,bC,ap⟩;obtain⟨s,rfl⟩:=jJ cd aW bC;clear cd aW bC;unfold WV;simp;refine im (fun h=>?_) (fun h=>?_)
  ·simp only[decide_eq_true_eq] at h;obtain⟨x,al,dT⟩:=bV h;obtain⟨y,aE,b6⟩:=bV (l:=b.l) (k:=k) (by omega);have a2:IntKind.i64.wrap ((k:Int)+1)=((k+1:Nat) :Int) :=by rw[IntKind.wrap_i64]; omega
   simp[al,aE,c3 (aD x dT),c3 (ai y b6),aCI,C9 (aD x dT) (ai y b6)];by_cases au:x=y
   ·simp[au,a2];refine⟨by omega,fun j am=>?_⟩;by_cases eL:j=k
    ·subst eL; rw[al,aE,au]
    ·exact ap j (by omega)
   ·simp[au];refine aJ (congrArg ad.bool (decide_eq_false fun eP=>au ?_).symm) rfl;rw[eP,aE] at al; exact (Option.some.inj al).symm
  ·simp[h];have gV:k=a.l.length:=by simp at h; omega
   refine aJ (congrArg ad.bool (decide_eq_true ?_).symm) rfl;apply aDF;intro j;by_cases am:j<a.l.length
   ·exact ap j (by omega)
   ·rw[aC0 (by omega),aC0 (by omega)]
 ·have du:¬ ((a.l.length:Int)=b.l.length) :=by omega
  simp[h1,du];exact aJ (by rw[decide_eq_false (fun eP=>h1 (by rw[eP]))]) rfl
def db (o:bJ) :List B:=if fZ o=0 then iR (iu o) else List.replicate 32 0#8
theorem wc {o:bJ} (h:fZ o=0) :o.bN.l.length<=4:=by
 unfold fZ at h;split at h
 ·cases h
 ·omega
theorem DQ {l:aw} {b n:Nat} {hG:List ad} {k:Nat} {w:ad} {kd:IntKind} (ai:l[b]? = some (.cells n hG)) (aI:hG.length=n) (hk:hG[k]? = some w) :
  ∃ p cs o,cC (.av 1) (.av 1 b 0 n n n) (.int kd (k:Int))=some p/\e4 l p=some (cs,o)/\cs[o]? = some w:=by
 have aP:k<n:=by rw[<-aI]; exact (aCJ.1 hk).1
 refine⟨.ptr b (0+k*1) n,hG,0+k*1,?_,?_,by simpa using hk⟩
 ·simp only[cC,aDf];rw[if_pos ⟨trivial,by omega,by omega⟩]
 ·simp only[e4,ai,if_true]
theorem aj9 {n:Nat} (aI:n<=1000000000) {l:aw} {K:ad->aw->Prop} (bA:∀ v l',cA 1 cu l l' v ([] :List B) (decide (n=0))->K v l') :dS Tryz.prog GS 235 [.aK,.int .i64 n] l (c:=⟨K⟩) :=by
 apply bw Qr aal;unfold Ir Me;have h1:¬((n:Int)<0) :=by omega
 have hw:IntKind.i64.wrap (n:Int)=n:=wrap_i64 (by omega) (by omega);have KQ:IntKind.i64.wrap (0:Int)=0:=rfl;by_cases aG:n=0
 ·subst aG;simp;exact bA _ _ cA.nil
 have ag:(0:Int)<n:=by omega
 have az:r0 l 1 1 [.int .u8 0] .aK (.int .i64 n)=some (.av 1 l.length 0 n n (n*1),l++[.cells (n*1) (ey [.int .u8 0] n)]) :=by
  unfold r0 iW;simp only[aDf];have aC:c4=140737488355328:=rfl;rw[if_pos ⟨by omega,by omega,by rw[aC]; omega⟩,if_neg aG,if_neg (by omega),if_pos (by rw[aC]; omega)]
 have ap:g5 (.av 1) (.av 1 l.length 0 n n (n*1)) none (some (.int .i64 0)) none=some (.av 1 l.length 0 0 n (n*1)) :=by
  rw[yD,Ik,if_pos ⟨by omega,by omega⟩];simp[aG]
 rw[aEk] at az ap;have aq:0<n:=by omega
 simp[h1,ag,aq,hw,az,KQ,ap];refine bA _ (l++[.cells n (ey [.int .u8 0] n)]) ⟨l.length,.av _ 0 n n (ey [.int .u8 0] n) [] (by simp) (by rw[AW]; simp) rfl (by simp) (by omega) (by omega) rfl,by simp,fun b ai=>aCK ai,.inr (aCL _),?_⟩;simp[cX,aG]
def jr (bs:List (List B)) :List B:=bs.flatten
theorem SK {bs:List (List B)} {k:Nat} {s:List B} (h:bs[k]? = some s) :jr (bs.take (k+1))=jr (bs.take k)++s:=by
 unfold jr;rw[aC4,h]; simp
theorem SJ (bs:List (List B)) (k:Nat) :(jr (bs.take k)).length<=(jr bs).length:=by
 conv=>rhs; rw[<-aDt k bs]
 unfold jr;rw[aDD,aCS];omega
structure nx (l:aw) (w:ad) (s:List B) :Prop where
 len:c1 (.av 1) w=some (.int .i64 s.length)
 R9:∀ l',l.length<=l'.length->(∀ b,b<l.length->l'[b]? = l[b]?)->dL l' 1 w=some ((s.map cu).flatten,s.length)
theorem AJ {l l1:aw} {w:ad} {s:List B} {fr:Bool} (h:cA 1 cu l l1 w s fr) :nx l1 w s:=⟨h.len,fun l' h1 ag=>(h.frame h1 ag).contents⟩
theorem nx.frame {l l1:aw} {w:ad} {s:List B} (h:nx l w s) (ar:l.length<=l1.length) (ap:∀ b,b<l.length->l1[b]? = l[b]?) :nx l1 w s:=
 ⟨h.len,fun l' h1 ag=>h.R9 l' (by omega) fun b ai=>by rw[ag b (by omega)]; exact ap b ai⟩
theorem Ye {l:aw} {b:Nat} {x:B} (h:l[b]? = some (.cells 1 [bQ x])) :nx l (.av 1 b 0 1 1 1) [x] :=by
 have:=fW h;exact⟨rfl,fun l' h1 ag=>by have:=ag b this; rw[h] at this; simp[dL,this,cu]⟩
structure adB (l:aw) (X:ad) (bs:List (List B)) (k:Nat) (ah:bB) (l1:aw) :Prop where
 tH:ah 25=X
 tI:ah 26=.int .i64 bs.length
 zq:ah 27=.int .i64 k
 rD:∃ v,ah 6=v/\cA 1 cu l l1 v (jr (bs.take k)) (decide ((jr bs).length=0))
set_option maxHeartbeats 4000000 in
theorem Sa {l:aw} {b n:Nat} {hG:List ad} {bs:List (List B)} (ai:l[b]? = some (.cells n hG)) (am3:hG.length=n) (o4:bs.length=n)
  (aF:∀ (k:Nat) (w:ad) (s:List B),hG[k]? = some w->bs[k]? = some s->nx l w s) (ar:(jr bs).length<=1000000000) (xV:n<=1000000000)
  {K:ad->aw->Prop} (bA:∀ v l',cA 1 cu l l' v (jr bs) (decide ((jr bs).length=0))->K v l') :
  dS Tryz.prog GS 194 [.av 1 b 0 n n n] l (c:=⟨K⟩) :=by
 apply bw PY ZQ;unfold Ip Md;have iX:=fW ai;have ce:∀ l',l.length<=l'.length->(∀ b,b<l.length->l'[b]? = l[b]?)->∀ k,k<n->∃ w s p cs o,hG[k]? = some w/\bs[k]? = some s/\nx l' w s/\cC (.av 1) (.av 1 b 0 n n n) (.int .i64 (k:Int))=some p/\e4 l' p=some (cs,o)/\cs[o]? = some w:=by
  intro l' h1 ag k hk;obtain⟨w,hw,_⟩:=bV (l:=hG) (k:=k) (by omega);obtain⟨s,ap,_⟩:=bV (l:=bs) (k:=k) (by omega);obtain⟨p,cs,o,br,bI,a3⟩:=DQ (kd:=.i64) (l:=l') (by rw[ag b iX]; exact ai) am3 hw;exact⟨w,s,p,cs,o,hw,ap,(aF k w s hw ap).frame h1 ag,br,bI,a3⟩
 obtain⟨X,TD⟩:∃ X,X=ad.av 1 b 0 n n n:=⟨_,rfl⟩
 have tN:c1 (.av 1) X=some (.int .i64 bs.length) :=by rw[TD,o4]; rfl
 rw[<-TD] at ce ⊢;simp[tN];refine c2 n (fun k ah l1=>ah 0=X/\ah 9=X/\ah 10=.int .i64 bs.length/\ah 11=.int .i64 k/\ah 3=.int .i64 (jr (bs.take k)).length/\l1=l) ?_ ?_
 ·rintro k ah l1 hk ⟨cd,hB,gJ,hN,bj,rfl⟩;obtain⟨ah,rfl⟩:=mR cd bj hB gJ hN;clear cd bj hB gJ hN;unfold Lt;simp;by_cases h:k<bs.length
  ·obtain⟨w,s,p,cs,o,hw,ap,Kw,br,bI,a3⟩:=ce l1 (aCL _) (fun _ _=>rfl) k (by omega);have Cq:=SK ap;have eD:=SJ bs (k+1);rw[Cq,aCS] at eD;have mE:IntKind.i64.wrap (((jr (bs.take k)).length:Int)+s.length)=((jr (bs.take k)).length:Int)+s.length:=wrap_i64 (by omega) (by omega);have fP:IntKind.i64.wrap ((k:Int)+1)=k+1:=wrap_i64 (by omega) (by omega);have qd:¬(((jr (bs.take k)).length:Int)+s.length<0) :=by omega
   have hu:=Kw.len;simp[h,br,bI,a3,hu,mE,qd,fP,Cq];omega
  ·have dt:k=bs.length:=by omega
   subst dt;rw[aDi];simp;refine aj9 ar ?_;intro v l ax;simp[tN];refine c2 bs.length (adB l1 X bs) ?_ ⟨by simp,by simp,by simp,v,by simp,by simpa [jr] using ax⟩;rintro k ah cf hk ⟨tH,tI,zq,w,cv,ax⟩;obtain⟨ah,rfl⟩:=hW cv tH tI zq;clear cv tH tI zq;unfold Lu;simp;by_cases h:k<bs.length
   ·obtain⟨y,s,p,cs,o,hw,ap,Kw,br,bI,a3⟩:=ce cf ax.le ax.same k (by omega);have Cq:=SK ap;have eD:=SJ bs (k+1);rw[Cq,aCS] at eD;have fP:IntKind.i64.wrap ((k:Int)+1)=k+1:=wrap_i64 (by omega) (by omega);have aC:c4=140737488355328:=rfl;obtain⟨bl,fb,dE,dA,iD⟩:=ax.app (by_:=1) (x:=y) (xs:=s) (Kw.R9 cf (aCL _) fun _ _=>rfl) (by simp[cu]) (by omega) (by omega) (by rw[aC]; omega);simp[h,br,bI,a3,dE];refine dx.c6 ?_;simp[h,fP];refine⟨by simp,by simp,by simp,bl,by simp,?_⟩;rw[Cq];have nO:(decide ((jr bs).length=0)&&s.isEmpty)=decide ((jr bs).length=0) :=by
     by_cases au:(jr bs).length=0
     ·have:s=[] :=aDk.1 (by omega);simp[au,this]
     ·simp[au]
    rw[nO] at dA;exact dA
   ·have dt:k=bs.length:=by omega
    subst dt;simp;rw[aDi] at ax;exact bA _ _ ax
 ·simp[jr]
end Op

end Go.ct

/-
  Values and acts, checked: walked in both texts.
-/
import Derived.Test.YtboebmmklamaeaaGreatDoorVi
set_option linter.unusedVariables false
set_option linter.unusedSimpArgs false
set_option linter.unnecessarySimpa false
namespace Go.cn
open Go Go.Proofs
set_option maxRecDepth 100000
namespace Op
open hA
structure hN where
 kind:B
 num:Int
 bits:Q
 text:List UInt8
def ey (v:hN) :List ae:=[bI v.kind,.int .i64 v.num,dG v.bits,.str v.text]
def p7:hN:=⟨0#8,0,0#64,[]⟩
def i6 (b:Q) :Nat:=b.toNat / 4503599627370496 % 2048
def oo (b:Q) :Q:=b % 4503599627370496#64
def cls (b:Q) :B:=if i6 b=2047 then (if oo b=0#64 then 4#8 else 5#8) else if i6 b=0 then (if oo b=0#64 then 1#8 else 2#8) else 3#8
def lQ (b:Q) :Q:=if cls b=5#8 then 9221120237041090560#64 else b
theorem hL (k:B) :((u k:Int)=1)<->k=1#8:=ru k 1#8
theorem kC (k:B) :((u k:Int)=2)<->k=2#8:=ru k 2#8
theorem nT (k:B) :((u k:Int)=3)<->k=3#8:=ru k 3#8
theorem uO (k:B) :((u k:Int)=4)<->k=4#8:=ru k 4#8
theorem EM (k:B) :((u k:Int)=5)<->k=5#8:=ru k 5#8
theorem ap6 (k:B) :((u k:Int)=0)<->k=0#8:=ru k 0#8
theorem sT (k:Q) :((u k:Int)=0)<->k=0#64:=ru k 0#64
theorem TA (b:Q) :i6 b<2048:=Nat.mod_lt _ (by decide)
theorem aeo (n:Nat) (h:n<9223372036854775808) :cr .and .i64 (n:Int) .i64 2047=some (.int .i64 ((n % 2048:Nat) :Int)) :=by
 show some (ae.int .i64 (IntKind.i64.wrap ((BitVec.ofInt 64 (n:Int) &&& BitVec.ofInt 64 (2047:Int)).toNat:Int)))=_;have h1:(BitVec.ofInt 64 (n:Int) &&& BitVec.ofInt 64 (2047:Int)).toNat=n % 2048:=by
  rw[BitVec.ofInt_natCast,BitVec.toNat_and,BitVec.toNat_ofNat,Nat.mod_eq_of_lt (by omega)];exact Nat.and_two_pow_sub_one_eq_mod n 11
 have ag:=Nat.mod_lt n (show 2048 > 0 by decide);rw[h1];generalize n % 2048=q at ag;rw[wrap_i64 (by omega) (by omega)]
theorem ag5 (b:Q) :b &&& 4503599627370495#64=oo b:=by
 apply BitVec.eq_of_toNat_eq;unfold oo;rw[BitVec.toNat_and,BitVec.toNat_umod];exact Nat.and_two_pow_sub_one_eq_mod b.toNat 52
theorem aph (b:Q) :bR Tryz.prog GS 201 [dG b] (.bU [.int .i64 (i6 b),dG (oo b)]) :=by
 refine cf Tryz.checked.mixed b2 ?_;apply bH RC aav;unfold G7 M4;have ai:=b.isLt;have h1:IntKind.i64.wrap (u (b >>> 52))=((b.toNat / 4503599627370496:Nat) :Int) :=by
  have:u (b >>> 52)=((b.toNat / 4503599627370496:Nat) :Int) :=by unfold u; rw[BitVec.toNat_ushiftRight,Nat.shiftRight_eq_div_pow]
  rw[this,wrap_i64 (by omega) (by omega)]
 have ag:=aeo (b.toNat / 4503599627370496) (by omega);have aw:i6 b=b.toNat / 4503599627370496 % 2048:=rfl;rw[<-aw] at ag;obtain⟨q,bp⟩:∃ q,b.toNat / 4503599627370496=q:=⟨_,rfl⟩
 rw[bp] at h1 ag;have ap:cr .and .u64 (u b) .u64 4503599627370495=some (dG (oo b)) :=by
  rw[PR,k3,<-ag5]; rfl
 have aJ:cr .shr .u64 (u b) .u64 52=some (.int .u64 (u (b >>> 52))) :=rN b .u64 52;simp[aJ,h1,ag,ap,-PR];exact a1 rfl rfl
theorem aof (b:Q) :bR Tryz.prog GS 194 [dG b] (.int .i64 (i6 b)) :=by
 refine cf Tryz.checked.mixed b2 ?_;apply bH Ru aan;unfold GY MW;have ai:=b.isLt;have h1:cr .rem .u64 (u b) .u64 9223372036854775808=some (dG (b % 9223372036854775808#64)) :=wO b 9223372036854775808#64 (by decide);have ag:cr .quo .u64 (u (b % 9223372036854775808#64)) .u64 4503599627370496=some (dG (b % 9223372036854775808#64 / 4503599627370496#64)) :=LM _ 4503599627370496#64 (by decide);have ap:IntKind.i64.wrap (u (b % 9223372036854775808#64 / 4503599627370496#64))=(i6 b:Int) :=by
  have:u (b % 9223372036854775808#64 / 4503599627370496#64)=(i6 b:Int) :=by
   unfold u i6;rw[BitVec.toNat_udiv,BitVec.toNat_umod];show (((b.toNat % 9223372036854775808) / 4503599627370496:Nat) :Int)=_;congr 1;omega
  have aJ:=TA b;rw[this,wrap_i64 (by omega) (by omega)]
 simp[h1,ag,ap];exact a1 rfl rfl
theorem aog (b:Q) :bR Tryz.prog GS 195 [dG b] (dG (oo b)) :=by
 refine cf Tryz.checked.mixed b2 ?_;apply bH Rv aao;unfold GZ MX;have h1:cr .rem .u64 (u b) .u64 4503599627370496=some (dG (oo b)) :=wO b 4503599627370496#64 (by decide);simp[h1];exact a1 rfl rfl
theorem afK (b:Q) :bR Tryz.prog GS 189 [dG b] (bI (cls b)) :=by
 refine cf Tryz.checked.mixed b2 ?_;apply bH Rp aai;unfold GQ MS cls;simp;refine bC (aph b) rfl ?_;have h1:((i6 b:Int)=2047)<->i6 b=2047:=by omega
 have ag:((i6 b:Int)=0)<->i6 b=0:=by omega
 by_cases aY:i6 b=2047
 ·by_cases a2:oo b=0#64
  ·simp[h1,aY,a2];exact a1 rfl rfl
  ·simp[h1,aY,a2,sT];exact a1 rfl rfl
 ·by_cases bh:i6 b=0
  ·by_cases a2:oo b=0#64
   ·simp[h1,ag,aY,a2,bh];exact a1 rfl rfl
   ·simp[h1,ag,aY,a2,bh,sT];exact a1 rfl rfl
  ·simp[h1,ag,aY,bh];exact a1 rfl rfl
theorem aoe (b:Q) :bR Tryz.prog GS 177 [dG b] (bI (cls b)) :=by
 refine cf Tryz.checked.mixed b2 ?_;apply bH Rb Z3;unfold GC MH cls;simp;refine bC (aof b) rfl ?_;simp;refine bC (aog b) rfl ?_;have ag:((i6 b:Int)=0)<->i6 b=0:=by omega
 have ap:((i6 b:Int)<2047)<->¬ i6 b=2047:=by have:=TA b; omega
 by_cases bh:i6 b=0
 ·by_cases a2:oo b=0#64
  ·simp[ag,a2,bh];exact a1 rfl rfl
  ·simp[ag,a2,bh,sT];exact a1 rfl rfl
 ·by_cases aY:i6 b=2047
  ·by_cases a2:oo b=0#64
   ·simp[ag,ap,aY,a2];exact a1 rfl rfl
   ·simp[ag,ap,aY,a2,sT];exact a1 rfl rfl
  ·simp[ag,ap,aY,bh];exact a1 rfl rfl
theorem afz (b:Q) :bR Tryz.prog GS 163 [dG b] (dG (lQ b)) :=by
 refine cf Tryz.checked.mixed b2 ?_;apply bH Q2 ZU;unfold Gq My lQ;simp;refine bC (afK b) rfl ?_;by_cases h:cls b=5#8
 ·simp[EM,h];exact a1 rfl rfl
 ·simp[EM,h];exact a1 rfl rfl
theorem aoc (b:Q) :bR Tryz.prog GS 137 [dG b] (dG (lQ b)) :=by
 refine cf Tryz.checked.mixed b2 ?_;apply bH QE Zw;unfold F3 Mc lQ;simp;refine bC (aoe b) rfl ?_;by_cases h:cls b=5#8
 ·simp[EM,h];exact a1 rfl rfl
 ·simp[EM,h];exact a1 rfl rfl
theorem aqb (n:Int) :bR Tryz.prog GS 117 [.int .i64 n] (.aV (ey ⟨1#8,n,0#64,[]⟩)) :=by
 refine cf Tryz.checked.mixed b2 ?_;apply bH Qq Zi;unfold FS L1;simp;exact a1 rfl rfl
theorem aqa (b:Q) :bR Tryz.prog GS 118 [dG b] (.aV (ey ⟨2#8,0,lQ b,[]⟩)) :=by
 refine cf Tryz.checked.mixed b2 ?_;apply bH Qr Zj;unfold FT L2;simp;refine bC (afz b) rfl ?_;simp;exact a1 rfl rfl
def rq (s:List UInt8) :hN × Int:=if s.length<=30 then (if s.all (gP 32) then (⟨3#8,0,0#64,s⟩,0) else (p7,8)) else (p7,4)
theorem aqc (s:List UInt8) :bR Tryz.prog GS 119 [.str s] (.bU [.aV (ey (rq s).1),.int .i64 (rq s).2]) :=by
 refine cf Tryz.checked.mixed b2 ?_;apply bH Qs Zk;unfold FU L3 rq;have ag:((30:Int)<s.length)<->¬ s.length<=30:=by omega
 by_cases a2:s.length<=30
 ·simp[ag,a2];refine bC (acH ag2 apH s) rfl ?_;have ap:=KK 32 (by omega) s s.length 0 (by omega);rw[List.drop_zero] at ap;have aJ:((0:Int)<=j4 (lN 32) s s.length 0)<->¬ (s.all (gP 32)=true) :=by rw[<-ap]; omega
  cases ai:s.all (gP 32) with
  | true=>
   have bd:¬ (0:Int)<=j4 (lN 32) s s.length 0:=by rw[aJ,ai]; simp
   simp[bd];exact a1 (by simp[a2]; rfl) rfl
  | false=>
   have bd:(0:Int)<=j4 (lN 32) s s.length 0:=by rw[aJ,ai]; simp
   simp[bd];exact a1 (by simp[a2]; rfl) rfl
 ·simp[ag,a2];exact a1 rfl rfl
def jG (v:hN) :Bool:=
 if v.kind=1#8 then decide (v.bits=0#64)&&decide (v.text=[])
 else if v.kind=2#8 then decide (v.num=0)&&decide (v.text=[])&&decide (lQ v.bits=v.bits)
 else if v.kind=3#8 then decide (v.num=0)&&decide (v.bits=0#64)&&decide (v.text.length<=30)&&v.text.all (gP 32)
 else false
def jQ (b:Bool) :Int:=if b then 0 else 8
def ak2:List lc:=[.i .u8,.i .i64,.i .u64,.s]
theorem WJ:qZ Tryz.prog 20 29=some ak2:=by kernel_rfl
theorem aqd (a b:hN) :gc Tryz.prog .eql 29 (.aV (ey a)) (.aV (ey b))=some (.bool (e8 (ey a) (ey b))) :=Fv WJ (by kernel_rfl) (by kernel_rfl) rfl rfl
theorem aqe (a b:hN) :gc Tryz.prog .neq 29 (.aV (ey a)) (.aV (ey b))=some (.bool (!e8 (ey a) (ey b))) :=Fw WJ (by kernel_rfl) (by kernel_rfl) rfl rfl
theorem PY (a b:hN) :e8 (ey a) (ey b)=(decide (a.kind=b.kind)&&(decide (a.num=b.num)&&(decide (a.bits=b.bits)&&decide (a.text=b.text)))) :=by
 simp[ey,e8,ae.beq]
theorem O1 {v:hN} (k:v.kind=1#8) :jG v=(decide (v.bits=0#64)&&decide (v.text=[])) :=by simp[jG,k]
theorem O2 {v:hN} (k:v.kind=2#8) :jG v=(decide (v.num=0)&&(decide (v.bits=lQ v.bits)&&decide (v.text=[]))) :=by
 unfold jG;rw[if_neg (by rw[k]; decide),if_pos k,show decide (lQ v.bits=v.bits)=decide (v.bits=lQ v.bits) from decide_eq_decide.2 eq_comm];cases decide (v.num=0)<;>cases decide (v.text=[])<;>cases decide (v.bits=lQ v.bits)<;>rfl
theorem adh {v:hN} (k:v.kind=3#8) :jG v=(decide (v.kind=(rq v.text).1.kind)&&(decide (v.num=(rq v.text).1.num)&&(decide (v.bits=(rq v.text).1.bits)&&decide (v.text=(rq v.text).1.text)))) :=by
 unfold jG rq;rw[if_neg (by rw[k]; decide),if_neg (by rw[k]; decide),if_pos k];by_cases h1:v.text.length<=30
 ·cases ag:v.text.all (gP 32) with
  | true=>simp[h1,k]
  | false=>simp[h1,k,p7]
 ·simp[h1,k,p7]
theorem O3 {v:hN} (ci:v.kind≠1#8) (b6:v.kind≠2#8) (df:v.kind≠3#8) :jG v=false:=by simp[jG,ci,b6,df]
theorem adf (v:hN) :bR Tryz.prog GS 83 [.aV (ey v)] (.int .i64 (jQ (jG v))) :=by
 refine cf Tryz.checked.mixed b2 ?_;apply bH Sy abs;unfold HP NN;have aB:∀ (k:B) (n:Int) (b:Q) (t:List UInt8),gc Tryz.prog .neq 29 (.aV [bI v.kind,.int .i64 v.num,dG v.bits,.str v.text]) (.aV [bI k,.int .i64 n,dG b,.str t])=some (.bool (!(decide (v.kind=k)&&(decide (v.num=n)&&(decide (v.bits=b)&&decide (v.text=t)))))) :=fun k n b t=>by rw[<-PY v ⟨k,n,b,t⟩]; exact aqe v ⟨k,n,b,t⟩
 by_cases ci:v.kind=1#8
 ·have h1:=aB 1#8 v.num 0#64 [];simp only[ci] at h1;unfold ey;simp[hL,ci];refine bC (aqb v.num) rfl ?_;unfold ey;simp[h1];rw[O1 ci];cases decide (v.bits=0#64)<;>cases decide (v.text=[])<;>simp[ci]<;>exact a1 rfl rfl
 ·by_cases b6:v.kind=2#8
  ·have h1:=aB 2#8 0 (lQ v.bits) [];simp only[b6] at h1;unfold ey;simp[hL,kC,b6];refine bC (aqa v.bits) rfl ?_;unfold ey;simp[h1];rw[O2 b6];cases decide (v.num=0)<;>cases decide (v.bits=lQ v.bits)<;>cases decide (v.text=[])<;>simp[b6]<;>exact a1 rfl rfl
  ·by_cases df:v.kind=3#8
   ·obtain⟨w,bB⟩:∃ w,w=(rq v.text).1:=⟨_,rfl⟩
    have h1:=aB w.kind w.num w.bits w.text;have ap:=adh df;rw[<-bB] at ap;simp only[df] at h1 ap;unfold ey;simp[hL,kC,nT,df];refine bC (aqc v.text) rfl ?_;rw[<-bB];unfold ey;simp[h1];rw[ap];cases decide (3#8=w.kind)<;>cases decide (v.num=w.num)<;>cases decide (v.bits=w.bits)<;>cases decide (v.text=w.text)<;>simp[df]<;>exact a1 rfl rfl
   ·have h1:gc Tryz.prog .neq 29 (.aV [bI v.kind,.int .i64 v.num,dG v.bits,.str v.text]) (.aV [.int .u8 0,.int .i64 0,.int .u64 0,.str []])=some (.bool (!(decide (v.kind=0#8)&&(decide (v.num=0)&&(decide (v.bits=0#64)&&decide (v.text=[])))))) :=aB 0#8 0 0#64 [];rw[O3 ci b6 df];unfold ey;simp[hL,kC,nT,ci,b6,df];by_cases gj:v.kind=0#8
    ·simp only[gj,decide_true,Bool.true_and] at h1;simp[gj,h1];cases decide (v.num=0)<;>cases decide (v.bits=0#64)<;>cases decide (v.text=[])<;>simp[gj]<;>exact a1 rfl rfl
    ·simp only[gj,decide_false,Bool.false_and,Bool.not_false] at h1;simp[h1];exact a1 rfl rfl
theorem aoi (v:hN) :bR Tryz.prog GS 96 [.aV (ey v)] (.int .i64 (jQ (jG v))) :=by
 refine cf Tryz.checked.mixed b2 ?_;apply bH SL abG;unfold HZ NZ;by_cases ci:v.kind=1#8
 ·rw[O1 ci];unfold ey;simp[hL,ci,sT];by_cases aY:v.bits=0#64<;>by_cases a2:v.text=[]<;>simp[aY,a2,sT]<;>exact a1 rfl rfl
 ·by_cases b6:v.kind=2#8
  ·rw[O2 b6];unfold ey;simp[hL,kC,b6];by_cases aY:v.num=0
   ·by_cases a2:v.text=[]
    ·simp[aY,a2];refine bC (aoc v.bits) rfl ?_;by_cases bh:v.bits=lQ v.bits
     ·have bK:lQ v.bits=v.bits:=bh.symm;simp[bK];exact a1 (by simp[jQ,aY,a2,bK]) rfl
     ·have bK:¬ lQ v.bits=v.bits:=fun h=>bh h.symm
      simp[bh,bK];exact a1 (by simp[jQ,bh]) rfl
    ·simp[aY,a2];exact a1 rfl rfl
   ·simp[aY];exact a1 rfl rfl
  ·by_cases df:v.kind=3#8
   ·have ax:jG v=(decide (v.num=0)&&decide (v.bits=0#64)&&decide (v.text.length<=30)&&v.text.all (gP 32)) :=by simp[jG,df]
    have ag:((v.text.length:Int)<=30)<->v.text.length<=30:=by omega
    rw[ax];unfold ey;simp[hL,kC,nT,df,sT];by_cases aY:v.num=0
    ·by_cases a2:v.bits=0#64
     ·by_cases bh:v.text.length<=30
      ·simp[aY,a2,ag,bh];refine bC (amZ v.text (by omega)) rfl ?_;cases v.text.all (gP 32)<;>simp<;>exact a1 (by simp[jQ,aY,a2,bh]) rfl
      ·simp[aY,a2,ag,bh];exact a1 rfl rfl
     ·simp[aY,a2,sT];exact a1 rfl rfl
    ·simp[aY];exact a1 rfl rfl
   ·rw[O3 ci b6 df];unfold ey;simp[hL,kC,nT,ci,b6,df];exact a1 rfl rfl
structure Act where
 kind:B
 key:List UInt8
 val:hN
def kg (a:Act) :List ae:=[bI a.kind,.str a.key,bI a.val.kind,.int .i64 a.val.num,dG a.val.bits,.str a.val.text]
def mb (v:hN) :Bool:=decide (v.kind=0#8)&&(decide (v.num=0)&&(decide (v.bits=0#64)&&decide (v.text=[])))
def jk (a:Act) :Bool:=
 if a.kind=1#8 then decide (a.key=[])&&mb a.val
 else if a.kind=2#8\/a.kind=3#8 then gu a.key&&mb a.val
 else if a.kind=4#8 then gu a.key&&jG a.val
 else false
def uj:List lc:=[.i .u8,.s,.i .u8,.i .i64,.i .u64,.s]
theorem ale:qZ Tryz.prog 20 31=some uj:=by kernel_rfl
theorem ad8 (a b:Act) :gc Tryz.prog .eql 31 (.aV (kg a)) (.aV (kg b))=some (.bool (e8 (kg a) (kg b))) :=Fv ale (by kernel_rfl) (by kernel_rfl) rfl rfl
theorem ad9 (a:Act) (h:a.kind=1#8) :gc Tryz.prog .eql 31 (.aV [.int .u8 1,.str a.key,bI a.val.kind,.int .i64 a.val.num,dG a.val.bits,.str a.val.text]) (.aV [.int .u8 1,.str [],.int .u8 0,.int .i64 0,.int .u64 0,.str []])=some (.bool (decide (a.key=[])&&mb a.val)) :=by
 have:=ad8 a ⟨1#8,[],p7⟩;simp only[kg,h] at this;refine Eq.trans this ?_;simp[e8,ae.beq,mb,p7,ap6,sT];congr
theorem adg (v:hN) :gc Tryz.prog .eql 29 (.aV [bI v.kind,.int .i64 v.num,dG v.bits,.str v.text]) (.aV [.int .u8 0,.int .i64 0,.int .u64 0,.str []])=some (.bool (mb v)) :=by
 have:=aqd v p7;rw[PY] at this;exact this
theorem Ps {a:Act} (k:a.kind=1#8) :jk a=(decide (a.key=[])&&mb a.val) :=by simp[jk,k]
theorem y5 {a:Act} (k:a.kind=2#8) :jk a=(gu a.key&&mb a.val) :=by simp[jk,k]
theorem Fg {a:Act} (k:a.kind=3#8) :jk a=(gu a.key&&mb a.val) :=by simp[jk,k]
theorem y6 {a:Act} (k:a.kind=4#8) :jk a=(gu a.key&&jG a.val) :=by simp[jk,k]
theorem Fh {a:Act} (ci:a.kind≠1#8) (b6:a.kind≠2#8) (df:a.kind≠3#8) (g5:a.kind≠4#8) :jk a=false:=by simp[jk,ci,b6,df,g5]
theorem SY (a:Act) :bR Tryz.prog GS 50 [.aV (kg a)] (.int .i64 (jQ (jk a))) :=by
 refine cf Tryz.checked.mixed b2 ?_;apply bH R3 aaW;unfold Hq Np;by_cases ci:a.kind=1#8
 ·have h1:=ad9 a ci;have aZ:bI (1#8)=.int .u8 1:=rfl;rw[Ps ci];unfold kg;simp[hL,ci,aZ,h1];by_cases aY:a.key=[]<;>cases a2:mb a.val<;>simp[aY,a2]<;>exact a1 rfl rfl
 ·have h1:=adg a.val;by_cases b6:a.kind=2#8
  ·rw[y5 b6];unfold kg;simp[hL,kC,nT,ci,b6];refine bC (KR a.key) rfl ?_;cases gu a.key with
   | true=>simp[h1]; cases mb a.val<;>simp<;>exact a1 rfl rfl
   | false=>simp; exact a1 rfl rfl
  ·by_cases df:a.kind=3#8
   ·rw[Fg df];unfold kg;simp[hL,kC,nT,ci,df];refine bC (KR a.key) rfl ?_;cases gu a.key with
    | true=>simp[h1]; cases mb a.val<;>simp<;>exact a1 rfl rfl
    | false=>simp; exact a1 rfl rfl
   ·by_cases g5:a.kind=4#8
    ·rw[y6 g5];unfold kg;simp[hL,kC,nT,uO,g5];refine bC (KR a.key) rfl ?_;cases gu a.key with
     | true=>
      simp;refine bC (adf a.val) rfl ?_;cases jG a.val<;>simp[jQ]<;>exact a1 rfl rfl
     | false=>simp; exact a1 rfl rfl
    ·rw[Fh ci b6 df g5];unfold kg;simp[hL,kC,nT,uO,ci,b6,df,g5];exact a1 rfl rfl
theorem aod (a:Act) :bR Tryz.prog GS 65 [.aV (kg a)] (.int .i64 (jQ (jk a))) :=by
 refine cf Tryz.checked.mixed b2 ?_;apply bH Sh abb;unfold HB Nz;have h1:=adg a.val;by_cases ci:a.kind=1#8
 ·rw[Ps ci];unfold kg;simp[hL,ci,h1];by_cases aY:a.key=[]<;>cases a2:mb a.val<;>simp[aY,a2]<;>exact a1 rfl rfl
 ·by_cases b6:a.kind=2#8
  ·rw[y5 b6];unfold kg;simp[hL,kC,nT,ci,b6,h1];refine bC (D0 a.key) rfl ?_;cases gu a.key with
   | true=>simp; cases mb a.val<;>simp<;>exact a1 rfl rfl
   | false=>simp; exact a1 rfl rfl
  ·by_cases df:a.kind=3#8
   ·rw[Fg df];unfold kg;simp[hL,kC,nT,ci,df,h1];refine bC (D0 a.key) rfl ?_;cases gu a.key with
    | true=>simp; cases mb a.val<;>simp<;>exact a1 rfl rfl
    | false=>simp; exact a1 rfl rfl
   ·by_cases g5:a.kind=4#8
    ·rw[y6 g5];unfold kg;simp[hL,kC,nT,uO,g5,h1];refine bC (D0 a.key) rfl ?_;cases gu a.key with
     | true=>
      simp;refine bC (aoi a.val) rfl ?_;cases jG a.val<;>simp[jQ]<;>exact a1 rfl rfl
     | false=>simp; exact a1 rfl rfl
    ·rw[Fh ci b6 df g5];unfold kg;simp[hL,kC,nT,uO,ci,b6,df,g5,h1];exact a1 rfl rfl
end Op
end Go.cn

namespace Go.cn
open Go Go.Proofs
set_option maxRecDepth 100000
def cw {α:Type} (z:Nat) (enc:α->List ae) (l l1:av) (v:ae) (a:List α) (gv:Bool) :Prop:=
 ∃ j,bX z l1 v j (a.map enc)/\l.length<=l1.length/\(∀ b,b<l.length->l1[b]? = l[b]?)/\(v=.aX\/l.length<=j)/\cU v=gv
section
variable {α:Type} {z:Nat} {enc:α->List ae} {l l1:av} {v:ae} {a:List α} {gv:Bool}
theorem cw.nil:cw z enc l l .aX ([] :List α) true:=⟨0,.nil 0,Nat.le_refl _,fun _ _=>rfl,.inl rfl,rfl⟩
theorem cw.more (h:cw z enc l l1 v a gv) (r:av) :cw z enc l (l1++r) v a gv:=by
 obtain⟨j,h1,ag,ap,aJ,bd⟩:=h;exact⟨j,h1.more r,by simp; omega,fun b ai=>by rw[List.getElem?_append_left (by omega)]; exact ap b ai,aJ,bd⟩
theorem cw.len (h:cw z enc l l1 v a gv) :c8 (.ao z) v=some (.int .i64 a.length) :=by
 obtain⟨j,h1,_⟩:=h;rw[h1.len,List.length_map]
theorem cw.cells (h:cw z enc l l1 v a gv) :v.cells=some [v] :=by
 obtain⟨j,h1,_⟩:=h;exact h1.cells
theorem cw.contents (h:cw z enc l l1 v a gv) :dv l1 z v=some ((a.map enc).flatten,a.length) :=by
 obtain⟨j,h1,_⟩:=h;rw[h1.contents,List.length_map]
theorem cw.le (h:cw z enc l l1 v a gv) :l.length<=l1.length:=by obtain⟨j,h1,ag,_⟩:=h; exact ag
theorem cw.same (h:cw z enc l l1 v a gv) :∀ b,b<l.length->l1[b]? = l[b]?:=by obtain⟨j,h1,ag,ap,_⟩:=h; exact ap
theorem cw.pW (h:cw z enc l l1 v a gv) (aI:∀ x,bM (enc x)=true) (s:dk α) (ar:gv=s.isNone) (aj:s.l=a) :fy (b3 l1) v (cO z enc s) :=by
 obtain⟨j,h1,ag,ap,aJ,bd⟩:=h;exact h1.pX aI s (by rw[bd,ar]) aj
theorem cw.rd (h:cw z enc l l1 v a gv) (aI:∀ x,bM (enc x)=true) (s:dk α) (ar:gv=s.isNone) (aj:s.l=a) :Rd l1 v (cO z enc s) :=by
 obtain⟨j,h1,ag,ap,aJ,bd⟩:=h;exact h1.q.rl aI s (by rw[bd,ar]) aj
theorem cw.En (h:cw z enc l l1 v a gv) (aI:∀ x,kM (enc x)=true) (s:dk α) (ar:gv=s.isNone) (aj:s.l=a) :ji l1 v (cO z enc s) :=by
 obtain⟨j,h1,ag,ap,aJ,bd⟩:=h;exact h1.Bi aI s (by rw[bd,ar]) aj
theorem cw.base (h:cw z enc l l1 v a gv) {eZ:av} (au:eZ.length<=l.length) (ar:∀ b,b<eZ.length->l[b]? = eZ[b]?) :cw z enc eZ l1 v a gv:=by
 obtain⟨j,h1,ag,ap,aJ,bd⟩:=h;exact⟨j,h1,by omega,fun b ai=>by rw[ap b (by omega)]; exact ar b ai,aJ.imp id (by omega),bd⟩
theorem cw.frame (h:cw z enc l l1 v a gv) {ce:av} (au:l1.length<=ce.length) (ar:∀ b,b<l1.length->ce[b]? = l1[b]?) :cw z enc l ce v a gv:=by
 obtain⟨j,h1,ag,ap,aJ,bd⟩:=h;exact⟨j,h1.frame fun am=>ar j am,by omega,fun b ai=>by rw[ar b (by omega)]; exact ap b ai,aJ,bd⟩
theorem cw.app (h:cw z enc l l1 v a gv) {by_:Nat} {x:ae} {xs:List α} (aj:dv l1 z x=some ((xs.map enc).flatten,xs.length)) (aB:∀ y∈xs,(enc y).length=z) (aT:z≠0) (dO:by_≠0) (dy:(a.length+xs.length)*by_<=cT) :
  ∃ bf l',iL l1 z by_ v x=some (bf,l')/\cw z enc l l' bf (a++xs) (gv&&xs.isEmpty)/\l1.length<=l'.length:=by
 obtain⟨j,h1,ag,ap,aJ,bd⟩:=h;obtain⟨bf,ct,l',aY,a2,bh,bK,bw,cl⟩:=PF (xs:=xs.map enc) h1 (by simpa using aj) (fun e aw=>by obtain⟨y,aK,rfl⟩:=List.mem_map.1 aw; exact aB y aK) aT dO (by simpa using dy);refine⟨bf,l',aY,⟨ct,by rw[List.map_append]; exact a2,by omega,fun b ai=>?_,?_,?_⟩,bh⟩
 ·rw[bK b (by omega)]
  ·exact ap b ai
  ·rcases aJ with h | h
   ·exact .inl h
   ·exact .inr (by omega)
 ·rcases bw with h | ⟨bL,eN⟩ | h
  ·exact .inr (by omega)
  ·rcases aJ with h | h
   ·exact absurd h bL
   ·exact .inr (by omega)
  ·exact .inl h
 ·rw[cl,bd]; simp
end
namespace Op
open hA
theorem cw.push {l l1:av} {v:ae} {a:List B} {gv:Bool} (h:cw 1 cd l l1 v a gv) (x:B) (dy:a.length<=1000000000) :
  ∃ bf l',iL (l1++[.cells 1 [bI x]]) 1 1 v (.ao 1 l1.length 0 1 1 1)=some (bf,l')/\cw 1 cd l l' bf (a++[x]) false:=by
 have aC:cT=140737488355328:=rfl;obtain⟨bf,l',aY,a2,_⟩:=(h.more [.cells 1 [bI x]]).app (by_:=1) (x:=.ao 1 l1.length 0 1 1 1) (xs:=[x]) (by simp[dv,cd]) (by simp[cd]) (by omega) (by omega) (by rw[aC]; simp; omega);exact⟨bf,l',aY,by simpa using a2⟩
theorem w1:∀ a:List B,(a.map cd).flatten=a.map bI
 | []=>rfl
 | x::a=>by rw[List.map_cons,List.flatten_cons,w1 a]; rfl
theorem pT {l:av} {j n:Nat} {a:List B} (aG:a.length=n) (am:l[j]? = some (.cells n (a.map bI))) :bX 1 l (.ao 1 j 0 n n n) j (a.map cd) :=by
 refine .ao j n n n (a.map bI) _ am (by simp[aG]) (by simp[aG]) (fun e aw=>?_) (Nat.le_refl _) (by omega) ?_
 ·obtain⟨x,_,rfl⟩:=List.mem_map.1 aw; rfl
 ·rw[List.take_of_length_le (by simp[aG]),w1]
def j7 (n:Nat) :Nat:=if n<256 then 1 else if n<65536 then 2 else if n<16777216 then 3 else if n<4294967296 then 4 else if n<1099511627776 then 5 else if n<281474976710656 then 6 else if n<72057594037927936 then 7 else 8
theorem D1 (n:Nat) :1<=j7 n/\j7 n<=8:=by unfold j7; refine⟨?_,?_⟩<;>(repeat' split)<;>omega
def kI (n i:Nat) :B:=BitVec.ofNat 8 (n >>> (8*i))
def s2 (n:Nat) :Nat->List B
 | 0=>[]
 | i+1=>kI n i::s2 n i
theorem ON (n:Nat) :∀ i,(s2 n i).length=i
 | 0=>rfl
 | i+1=>by simp[s2,ON n i]
def ed (n:Nat) :List B:=if n<=247 then [BitVec.ofNat 8 n] else BitVec.ofNat 8 (247+j7 n) ::s2 n (j7 n)
def kx (x:Nat) :Nat:=if x<1 then 0 else if x<2 then 1 else if x<4 then 2 else if x<8 then 3 else if x<16 then 4 else if x<32 then 5 else if x<64 then 6 else if x<128 then 7 else 8
def Bw:List UInt8:=[0,1,2,2,3,3,3,3,4,4,4,4,4,4,4,4,5,5,5,5,5,5,5,5,5,5,5,5,5,5,5,5,6,6,6,6,6,6,6,6,6,6,6,6,6,6,6,6,6,6,6,6,6,6,6,6,6,6,6,6,6,6,6,6,7,7,7,7,7,7,7,7,7,7,7,7,7,7,7,7,7,7,7,7,7,7,7,7,7,7,7,7,7,7,7,7,7,7,7,7,7,7,7,7,7,7,7,7,7,7,7,7,7,7,7,7,7,7,7,7,7,7,7,7,7,7,7,7,8,8,8,8,8,8,8,8,8,8,8,8,8,8,8,8,8,8,8,8,8,8,8,8,8,8,8,8,8,8,8,8,8,8,8,8,8,8,8,8,8,8,8,8,8,8,8,8,8,8,8,8,8,8,8,8,8,8,8,8,8,8,8,8,8,8,8,8,8,8,8,8,8,8,8,8,8,8,8,8,8,8,8,8,8,8,8,8,8,8,8,8,8,8,8,8,8,8,8,8,8,8,8,8,8,8,8,8,8,8,8,8,8,8,8,8,8,8,8,8,8,8,8,8,8,8,8,8]
def OL:Nat->List UInt8->Bool
 | _,[]=>true
 | i,x::r=>Nat.beq x.toNat (kx i)&&OL (i+1) r
theorem acP:∀ (i:Nat) (l:List UInt8),OL i l=true->∀ (j:Nat) (x:UInt8),l[j]? = some x->x.toNat=kx (i+j)
 | i,[],_,j,x,h=>by simp at h
 | i,y::r,h,j,x,aj=>by
  simp only[OL,Bool.and_eq_true] at h;cases j with
  | zero=>simp at aj; subst aj; exact Nat.eq_of_beq_eq_true h.1
  | succ j=>simp at aj; rw[acP (i+1) r h.2 j x aj]; congr 1; omega
theorem uL (i:Nat) (h:i<256) :∃ x,Bw[i]? = some x/\x.toNat=kx i:=by
 have au:Bw.length=256:=by kernel_rfl
 have az:=acP 0 Bw (by kernel_rfl) i _ (List.getElem?_eq_getElem (by omega));exact⟨_,List.getElem?_eq_getElem (by omega),by rw[az]; congr 1; omega⟩
theorem sF (x:Nat) :kx x<=8:=by unfold kx; (repeat' split)<;>omega
def jz (n:Nat) :Nat:=
 if n<256 then kx n else if n<65536 then 8+kx (n / 256) else if n<16777216 then 16+kx (n / 65536) else if n<4294967296 then 24+kx (n / 16777216)
 else if n<1099511627776 then 32+kx (n / 4294967296) else if n<281474976710656 then 40+kx (n / 1099511627776) else if n<72057594037927936 then 48+kx (n / 281474976710656) else 56+kx (n / 72057594037927936)
theorem alI (n:Nat) (h:1<=n) :(jz n+7) / 8=j7 n:=by
 have au:∀ x,1<=x->1<=kx x/\kx x<=8:=fun x aj=>⟨by unfold kx; rw[if_neg (by omega)]; (repeat' split)<;>omega,sF x⟩
 unfold jz j7
 repeat' split
 ·have:=au n h; omega
 ·have:=au (n / 256) (by omega); omega
 ·have:=au (n / 65536) (by omega); omega
 ·have:=au (n / 16777216) (by omega); omega
 ·have:=au (n / 4294967296) (by omega); omega
 ·have:=au (n / 1099511627776) (by omega); omega
 ·have:=au (n / 281474976710656) (by omega); omega
 ·have:=au (n / 72057594037927936) (by omega); omega
theorem Oz (x:Q) (k:Nat) :cr .shr .u64 (u x) .u64 (k:Int)=some (.int .u64 (u (x >>> k))) :=rN x .u64 k
theorem tb {i:Nat} {y:UInt8} {k:UInt8->Prop} (h:Bw[i]? = some y) (hk:k y) :W Bw[i]? (c:=⟨k⟩) :=by rw[h]; exact hk
set_option maxHeartbeats 4000000 in
theorem alJ (n:Q) :bR Tryz.prog GS 135 [dG n] (.int .i64 (jz n.toNat)) :=by
 refine cf Tryz.checked.mixed b2 ?_;apply bH QC Zu;unfold F1 Ma;have k8:IntKind.i64.wrap 8=8:=rfl;have uP:IntKind.i64.wrap 16=16:=rfl;have uQ:IntKind.i64.wrap 24=24:=rfl;have uR:IntKind.i64.wrap 32=32:=rfl;have uS:IntKind.i64.wrap 40=40:=rfl;have uT:IntKind.i64.wrap 48=48:=rfl;have uU:IntKind.i64.wrap 56=56:=rfl;have cX:∀ x:Q,((4294967296:Int)<=u x)<->4294967296<=x.toNat:=fun x=>by unfold u; omega
 have dB:∀ x:Q,((65536:Int)<=u x)<->65536<=x.toNat:=fun x=>by unfold u; omega
 have kf:∀ x:Q,((256:Int)<=u x)<->256<=x.toNat:=fun x=>by unfold u; omega
 have uE:∀ x:Q,cr .shr .u64 (u x) .u64 32=some (.int .u64 (u (x >>> 32))) :=fun x=>Oz x 32
 have uD:∀ x:Q,cr .shr .u64 (u x) .u64 16=some (.int .u64 (u (x >>> 16))) :=fun x=>Oz x 16
 have uF:∀ x:Q,cr .shr .u64 (u x) .u64 8=some (.int .u64 (u (x >>> 8))) :=fun x=>Oz x 8
 have t32:n.toNat >>> 32=n.toNat / 4294967296:=by rw[Nat.shiftRight_eq_div_pow]
 have t48:n.toNat >>> 48=n.toNat / 281474976710656:=by rw[Nat.shiftRight_eq_div_pow]
 have t16:n.toNat >>> 16=n.toNat / 65536:=by rw[Nat.shiftRight_eq_div_pow]
 have aid:=n.isLt;by_cases h1:4294967296<=n.toNat
 ·by_cases ag:65536<=n.toNat >>> 32
  ·by_cases ap:256<=n.toNat >>> 48
   ·have g7:n.toNat >>> 56 % 256=n.toNat / 72057594037927936:=by rw[Nat.shiftRight_eq_div_pow]; exact Nat.mod_eq_of_lt (by omega)
    obtain⟨y,aY,a2⟩:=uL (n.toNat / 72057594037927936) (by omega);have bh:=sF (n.toNat / 72057594037927936);rw[<-a2] at bh;have cb:IntKind.i64.wrap (y.toNat:Int)=y.toNat:=wrap_i64 (by omega) (by omega);have w2:IntKind.i64.wrap (56+(y.toNat:Int))=((56+y.toNat:Nat) :Int) :=by rw[wrap_i64 (by omega) (by omega)]; omega
    have eg:jz n.toNat=56+y.toNat:=by unfold jz; rw[a2]; (repeat' split)<;>first | omega | rfl
    simp[cX,dB,kf,uE,uD,uF,h1,ag,ap];refine tb (y:=y) (by rw[g7]; exact aY) ?_;rw[eg];simp[iq,cb,w2];exact a1 (by simp[k8,uP,uQ,uR,uS,uT,uU,w2]) rfl
   ·have g7:n.toNat >>> 48 % 256=n.toNat / 281474976710656:=by rw[Nat.shiftRight_eq_div_pow]; exact Nat.mod_eq_of_lt (by omega)
    obtain⟨y,aY,a2⟩:=uL (n.toNat / 281474976710656) (by omega);have bh:=sF (n.toNat / 281474976710656);rw[<-a2] at bh;have cb:IntKind.i64.wrap (y.toNat:Int)=y.toNat:=wrap_i64 (by omega) (by omega);have w2:IntKind.i64.wrap (48+(y.toNat:Int))=((48+y.toNat:Nat) :Int) :=by rw[wrap_i64 (by omega) (by omega)]; omega
    have eg:jz n.toNat=48+y.toNat:=by unfold jz; rw[a2]; (repeat' split)<;>first | omega | rfl
    simp[cX,dB,kf,uE,uD,uF,h1,ag,ap];refine tb (y:=y) (by rw[g7]; exact aY) ?_;rw[eg];simp[iq,cb,w2];exact a1 (by simp[k8,uP,uQ,uR,uS,uT,uU,w2]) rfl
  ·by_cases ap:256<=n.toNat >>> 32
   ·have g7:n.toNat >>> 40 % 256=n.toNat / 1099511627776:=by rw[Nat.shiftRight_eq_div_pow]; exact Nat.mod_eq_of_lt (by omega)
    obtain⟨y,aY,a2⟩:=uL (n.toNat / 1099511627776) (by omega);have bh:=sF (n.toNat / 1099511627776);rw[<-a2] at bh;have cb:IntKind.i64.wrap (y.toNat:Int)=y.toNat:=wrap_i64 (by omega) (by omega);have w2:IntKind.i64.wrap (40+(y.toNat:Int))=((40+y.toNat:Nat) :Int) :=by rw[wrap_i64 (by omega) (by omega)]; omega
    have eg:jz n.toNat=40+y.toNat:=by unfold jz; rw[a2]; (repeat' split)<;>first | omega | rfl
    simp[cX,dB,kf,uE,uD,uF,h1,ag,ap];refine tb (y:=y) (by rw[g7]; exact aY) ?_;rw[eg];simp[iq,cb,w2];exact a1 (by simp[k8,uP,uQ,uR,uS,uT,uU,w2]) rfl
   ·have g7:n.toNat >>> 32 % 256=n.toNat / 4294967296:=by rw[Nat.shiftRight_eq_div_pow]; exact Nat.mod_eq_of_lt (by omega)
    obtain⟨y,aY,a2⟩:=uL (n.toNat / 4294967296) (by omega);have bh:=sF (n.toNat / 4294967296);rw[<-a2] at bh;have cb:IntKind.i64.wrap (y.toNat:Int)=y.toNat:=wrap_i64 (by omega) (by omega);have w2:IntKind.i64.wrap (32+(y.toNat:Int))=((32+y.toNat:Nat) :Int) :=by rw[wrap_i64 (by omega) (by omega)]; omega
    have eg:jz n.toNat=32+y.toNat:=by unfold jz; rw[a2]; (repeat' split)<;>first | omega | rfl
    simp[cX,dB,kf,uE,uD,uF,h1,ag,ap];refine tb (y:=y) (by rw[g7]; exact aY) ?_;rw[eg];simp[iq,cb,w2];exact a1 (by simp[k8,uP,uQ,uR,uS,uT,uU,w2]) rfl
 ·by_cases ag:65536<=n.toNat
  ·by_cases ap:256<=n.toNat >>> 16
   ·have g7:n.toNat >>> 24 % 256=n.toNat / 16777216:=by rw[Nat.shiftRight_eq_div_pow]; exact Nat.mod_eq_of_lt (by omega)
    obtain⟨y,aY,a2⟩:=uL (n.toNat / 16777216) (by omega);have bh:=sF (n.toNat / 16777216);rw[<-a2] at bh;have cb:IntKind.i64.wrap (y.toNat:Int)=y.toNat:=wrap_i64 (by omega) (by omega);have w2:IntKind.i64.wrap (24+(y.toNat:Int))=((24+y.toNat:Nat) :Int) :=by rw[wrap_i64 (by omega) (by omega)]; omega
    have eg:jz n.toNat=24+y.toNat:=by unfold jz; rw[a2]; (repeat' split)<;>first | omega | rfl
    simp[cX,dB,kf,uE,uD,uF,h1,ag,ap];refine tb (y:=y) (by rw[g7]; exact aY) ?_;rw[eg];simp[iq,cb,w2];exact a1 (by simp[k8,uP,uQ,uR,uS,uT,uU,w2]) rfl
   ·have g7:n.toNat >>> 16 % 256=n.toNat / 65536:=by rw[Nat.shiftRight_eq_div_pow]; exact Nat.mod_eq_of_lt (by omega)
    obtain⟨y,aY,a2⟩:=uL (n.toNat / 65536) (by omega);have bh:=sF (n.toNat / 65536);rw[<-a2] at bh;have cb:IntKind.i64.wrap (y.toNat:Int)=y.toNat:=wrap_i64 (by omega) (by omega);have w2:IntKind.i64.wrap (16+(y.toNat:Int))=((16+y.toNat:Nat) :Int) :=by rw[wrap_i64 (by omega) (by omega)]; omega
    have eg:jz n.toNat=16+y.toNat:=by unfold jz; rw[a2]; (repeat' split)<;>first | omega | rfl
    simp[cX,dB,kf,uE,uD,uF,h1,ag,ap];refine tb (y:=y) (by rw[g7]; exact aY) ?_;rw[eg];simp[iq,cb,w2];exact a1 (by simp[k8,uP,uQ,uR,uS,uT,uU,w2]) rfl
  ·by_cases ap:256<=n.toNat
   ·have g7:n.toNat >>> 8 % 256=n.toNat / 256:=by rw[Nat.shiftRight_eq_div_pow]; exact Nat.mod_eq_of_lt (by omega)
    obtain⟨y,aY,a2⟩:=uL (n.toNat / 256) (by omega);have bh:=sF (n.toNat / 256);rw[<-a2] at bh;have cb:IntKind.i64.wrap (y.toNat:Int)=y.toNat:=wrap_i64 (by omega) (by omega);have w2:IntKind.i64.wrap (8+(y.toNat:Int))=((8+y.toNat:Nat) :Int) :=by rw[wrap_i64 (by omega) (by omega)]; omega
    have eg:jz n.toNat=8+y.toNat:=by unfold jz; rw[a2]; (repeat' split)<;>first | omega | rfl
    simp[cX,dB,kf,uE,uD,uF,h1,ag,ap];refine tb (y:=y) (by rw[g7]; exact aY) ?_;rw[eg];simp[iq,cb,w2];exact a1 (by simp[k8,uP,uQ,uR,uS,uT,uU,w2]) rfl
   ·have g7:n.toNat % 256=n.toNat:=Nat.mod_eq_of_lt (by omega);obtain⟨y,aY,a2⟩:=uL (n.toNat) (by omega);have bh:=sF (n.toNat);rw[<-a2] at bh;have cb:IntKind.i64.wrap (y.toNat:Int)=y.toNat:=wrap_i64 (by omega) (by omega);have w2:IntKind.i64.wrap (0+(y.toNat:Int))=((0+y.toNat:Nat) :Int) :=by rw[wrap_i64 (by omega) (by omega)]; omega
    have eg:jz n.toNat=0+y.toNat:=by unfold jz; rw[a2]; (repeat' split)<;>first | omega | rfl
    simp[cX,dB,kf,uE,uD,uF,h1,ag,ap];refine tb (y:=y) (by rw[g7]; exact aY) ?_;rw[eg];simp[iq,cb,w2];exact a1 (by simp[k8,uP,uQ,uR,uS,uT,uU,w2]) rfl
theorem B0 (n:Q) (i:Nat) :(n >>> (8*i)).setWidth 8=kI n.toNat i:=by
 apply BitVec.eq_of_toNat_eq;unfold kI;rw[BitVec.toNat_setWidth,BitVec.toNat_ushiftRight,BitVec.toNat_ofNat]
theorem aoN (l:av) (c d:bt) :(l++[c]).set l.length d=l++[d] :=by rw[List.set_append_right _ _ (Nat.le_refl _)]; simp
def pQ (n k i:Nat) :List B:=BitVec.ofNat 8 (247+k) ::(List.replicate (k - i) 0#8++s2 n i)
theorem Yn (n k i:Nat) (h:i<=k) :(pQ n k i).length=k+1:=by simp[pQ,ON]; omega
theorem aml (n k i:Nat) (h:i<k) :(pQ n k i).set (k - i) (kI n i)=pQ n k (i+1) :=by
 unfold pQ;obtain⟨m,hm⟩:∃ m,k - i=m+1:=⟨k - i - 1,by omega⟩
 rw[hm,List.set_cons_succ,show k - (i+1)=m by omega,List.replicate_succ',List.append_assoc];congr 1;rw[List.set_append_right _ _ (by simp)];simp[s2]
theorem aqx (n:Q) {l:av} {K:ae->av->Prop} (a8:∀ v j l',bX 1 l' v j ((ed n.toNat).map cd)->l.length<=l'.length->(∀ b,b<l.length->l'[b]? = l[b]?)->l.length<=j->cU v=false->K v l') :
  dh Tryz.prog GS 110 [dG n] l (c:=⟨K⟩) :=by
 apply bH Ql Zd;unfold FN LW;have cX:((u n:Int)<=247)<->n.toNat<=247:=by unfold u; omega
 by_cases h:n.toNat<=247
 ·have tW:ed n.toNat=[n.setWidth 8] :=by
   unfold ed; rw[if_pos h]; rfl
  simp[cX,h];refine a8 _ l.length _ (pT (n:=1) (a:=ed n.toNat) (by rw[tW]; rfl) (by rw[tW]; simp)) (by simp) (fun b ai=>List.getElem?_append_left ai) (Nat.le_refl _) rfl
 ·have hk:=D1 n.toNat
  obtain⟨k,nn⟩:∃ k,j7 n.toNat=k:=⟨_,rfl⟩
  have tW:ed n.toNat=pQ n.toNat k k:=by unfold ed pQ; rw[if_neg h,nn]; simp
  have Ai:=alI n.toNat (by omega)
  rw[nn] at Ai hk;obtain⟨L,gx⟩:∃ L,jz n.toNat=L:=⟨_,rfl⟩
  rw[gx] at Ai;have cb:IntKind.i64.wrap ((L:Int)+7)=((L+7:Nat) :Int) :=by rw[wrap_i64 (by omega) (by omega)]; omega
  have q1:cr .quo .i64 ((L+7:Nat) :Int) .i64 8=some (.int .i64 (k:Int)) :=by rw[FB _ 8 (by omega) (by omega)]; rw[show (8:Int).toNat=8 from rfl,Ai]
  have w2:IntKind.i64.wrap ((k:Int)+1)=((k+1:Nat) :Int) :=by rw[wrap_i64 (by omega) (by omega)]; omega
  have eg:IntKind.i64.wrap (247+(k:Int))=((247+k:Nat) :Int) :=by rw[wrap_i64 (by omega) (by omega)]; omega
  have jA:pO 1 1 [.int .u8 0] l (.int .i64 ((k+1:Nat) :Int)) (.int .i64 ((k+1:Nat) :Int))=some (.ao 1 l.length 0 (k+1) (k+1) (k+1),l++[.cells (k+1) ((List.replicate (k+1) 0#8).map bI)]) :=by
   unfold pO;have aC:cT=140737488355328:=rfl;simp only[];rw[if_pos ⟨by omega,by omega,by omega,by rw[aC]; omega⟩,Es];simp
  simp[cX,h];refine bC (alJ n) rfl ?_;rw[gx];have hc:bS (List.replicate (k+1) (bI 0#8)) 0 [bI (BitVec.ofNat 8 (247+k))]=(pQ n.toNat k 0).map bI:=by
   rw[List.replicate_succ,ape,apg]; simp[pQ,s2]
  simp[cb,q1,w2,eg,jA,-Int.natCast_add];refine c7 k (fun i ah l1=>ah 0=dG n/\ah 3=.int .i64 k/\ah 4=.ao 1 l.length 0 (k+1) (k+1) (k+1)/\ah 23=.int .i64 k/\ah 24=.int .i64 i/\l1=l++[.cells (k+1) ((pQ n.toNat k i).map bI)]) ?_ ?_
  ·rintro i ah l1 aA ⟨cC,bh,bK,xc,na,rfl⟩;obtain⟨ah,rfl⟩:=k7 cC bh bK xc na;clear cC bh bK xc na;unfold WO;by_cases pq:i<k
   ·have jJ:IntKind.i64.wrap ((k:Int) - i)=((k - i:Nat) :Int) :=by rw[wrap_i64 (by omega) (by omega)]; omega
    have mu:IntKind.i64.wrap (8*(i:Int))=((8*i:Nat) :Int) :=by rw[wrap_i64 (by omega) (by omega)]; omega
    have BG:IntKind.i64.wrap ((i:Int)+1)=((i+1:Nat) :Int) :=by rw[wrap_i64 (by omega) (by omega)]; omega
    have rx:cr .shr .u64 (u n) .i64 ((8*i:Nat) :Int)=some (.int .u64 (u (n >>> (8*i)))) :=rN n .i64 (8*i);have uW:=B0 n i;have yQ:=mR bI (pQ n.toNat k i) (k - i) (kI n.toNat i) (by rw[Yn _ _ _ aA]; omega);rw[aml _ _ _ pq] at yQ;obtain⟨d,bN⟩:∃ d,k - i=d:=⟨_,rfl⟩
    obtain⟨e,aw⟩:∃ e,8*i=e:=⟨_,rfl⟩
    rw[bN] at jJ yQ;rw[aw] at mu rx uW;have xq:d<=k:=by omega
    simp[pq,jJ,mu,BG,rx,uW,yQ,xq,-Int.natCast_add,aoN];omega
   ·have fN:i=k:=by omega
    subst fN;simp;refine a8 _ l.length _ (pT (n:=i+1) (a:=ed n.toNat) (by rw[tW,Yn _ _ _ (Nat.le_refl _)]) (by rw[tW]; simp)) (by simp) (fun b ai=>List.getElem?_append_left ai) (Nat.le_refl _) rfl
  ·simp;exact hc
theorem amf {n:Nat} (h:n<18446744073709551616) :n<256 ^ j7 n:=by
 unfold j7; (repeat' split)<;>simp<;>omega
theorem amg {n k:Nat} (h1:1<=n) (h:k<j7 n) :256 ^ k<=n:=by
 have hd:=(D1 n).2;have hk:k=0\/k=1\/k=2\/k=3\/k=4\/k=5\/k=6\/k=7:=by omega
 rcases hk with rfl | rfl | rfl | rfl | rfl | rfl | rfl | rfl<;>simp<;>unfold j7 at h<;>(repeat' split at h)<;>omega
theorem aoV {n k:Nat} (h1:1<=n) (h:n<18446744073709551616) (hk:k<=j7 n) :n >>> (8*k)=0<->k=j7 n:=by
 have aE:2 ^ (8*k)=256 ^ k:=by rw[Nat.pow_mul]
 rw[Nat.shiftRight_eq_div_pow,aE,Nat.div_eq_zero_iff];constructor
 ·rintro (ag | ag)
  ·exact absurd ag (by have:0<256 ^ k:=Nat.pow_pos (by decide); omega)
  ·rcases Nat.lt_or_ge k (j7 n) with ap | ap
   ·have:=amg h1 ap; omega
   ·omega
 ·rintro rfl;exact .inr (amf h)
theorem acR (n:Nat) :∀ k,s2 n k=((List.range k).map (kI n)).reverse
 | 0=>rfl
 | k+1=>by rw[s2,acR n k,List.range_succ,List.map_append,List.reverse_append]; rfl
def oj (n k:Nat) :List B:=(List.range k).map (kI n)
theorem agc (n k:Nat) :oj n (k+1)=oj n k++[kI n k] :=by simp[oj,List.range_succ]
theorem wZ (n k:Nat) :(oj n k).length=k:=by simp[oj]
theorem Tl (n k i:Nat) (h:i<k) :(oj n k)[i]? = some (kI n i) :=by simp[oj,h]
theorem aon (x:Q) :cr .rem .u64 (u x) .u64 256=some (.int .u64 (u (x % 256#64))) :=wO x 256#64 (by decide)
theorem ana (x:Q) :cr .quo .u64 (u x) .u64 256=some (.int .u64 (u (x / 256#64))) :=LM x 256#64 (by decide)
theorem alW (n:Q) (i:Nat) :((n >>> (8*i)) % 256#64).setWidth 8=kI n.toNat i:=by
 rw[<-B0];apply BitVec.eq_of_toNat_eq;rw[BitVec.toNat_setWidth,BitVec.toNat_umod,BitVec.toNat_setWidth];show _ % 256 % 2 ^ 8=_ % 2 ^ 8;omega
theorem amd (n:Q) (i:Nat) :(n >>> (8*i)) / 256#64=n >>> (8*(i+1)) :=by
 apply BitVec.eq_of_toNat_eq;rw[BitVec.toNat_udiv,BitVec.toNat_ushiftRight,BitVec.toNat_ushiftRight,Nat.shiftRight_eq_div_pow,Nat.shiftRight_eq_div_pow,show 8*(i+1)=8*i+8 by omega,Nat.pow_add,<-Nat.div_div_eq_div_mul]; rfl
theorem cw.get {l l1:av} {v:ae} {a:List B} {gv:Bool} (h:cw 1 cd l l1 v a gv) {k:IntKind} {i:Nat} {x:B} (aj:a[i]? = some x) :∃ p cs o,cS (.ao 1) v (.int k (i:Int))=some p/\eC l1 p=some (cs,o)/\cs[o]? = some (bI x) :=by
 obtain⟨j,h,_⟩:=h;obtain⟨p,cs,o,h1,ag,ap,aJ⟩:=h.q.get (k:=k) (i:=i) (e:=cd x) (by rw[List.getElem?_map,aj]; rfl);refine⟨p,cs,o,h1,ag,?_⟩;have:=congrArg (fun l=>l[0]?) aJ;simp[List.getElem?_take,List.getElem?_drop,cd] at this;exact this
theorem wy (n:Q) {l:av} {K:ae->av->Prop} (a8:∀ v l',cw 1 cd l l' v (ed n.toNat) false->K v l') :dh Tryz.prog GS 110 [dG n] l (c:=⟨K⟩) :=
 aqx n fun v j l' h1 ag ap aJ bd=>a8 v l' ⟨j,h1,ag,ap,.inr aJ,bd⟩
structure adT (l:av) (n:Q) (i:Nat) (ah:bi) (l1:av) :Prop where
 cC:ah 0=dG (n >>> (8*i))
 q8:∃ v,ah 3=v/\cw 1 cd l l1 v (oj n.toNat i) (decide (i=0))
structure adU (l1:av) (v:ae) (n:Q) (k i:Nat) (ah:bi) (ce:av) :Prop where
 bh:ah 3=v
 bw:ah 5=.int .i64 ((k:Int) - 1 - i)
 q8:∃ w,ah 4=w/\cw 1 cd l1 ce w (BitVec.ofNat 8 (247+k) ::((oj n.toNat k).reverse.take i)) false
theorem uA (n:Q) {l:av} {K:ae->av->Prop} (a8:∀ v l',cw 1 cd l l' v (ed n.toNat) false->K v l') :
  dh Tryz.prog GS 102 [dG n] l (c:=⟨K⟩) :=by
 apply bH Qe Y6;unfold FH LP;have cX:((u n:Int)<=247)<->n.toNat<=247:=by unfold u; omega
 by_cases h:n.toNat<=247
 ·have tW:ed n.toNat=[n.setWidth 8] :=by
   unfold ed; rw[if_pos h]; rfl
  simp[cX,h];exact a8 _ _ ⟨l.length,pT (n:=1) (a:=ed n.toNat) (by rw[tW]; rfl) (by rw[tW]; simp),by simp,fun b ai=>List.getElem?_append_left ai,.inr (Nat.le_refl _),rfl⟩
 ·have aid:=n.isLt;have hk:=D1 n.toNat
  simp[cX,h];refine c7 (j7 n.toNat) (adT l n) ?_ ⟨by simp,.aX,by simp,cw.nil⟩;rintro i ah l1 aA ⟨cC,v,bh,fj⟩;obtain⟨ah,rfl⟩:=o3 cC bh;clear cC bh;unfold WM;have aB:=aoV (n:=n.toNat) (k:=i) (by omega) (by omega) aA;have j0:((0:Int)<u (n >>> (8*i)))<->¬ i=j7 n.toNat:=by
   rw[<-aB]; unfold u; rw[BitVec.toNat_ushiftRight]; generalize n.toNat >>> (8*i)=q; omega
  by_cases pq:i=j7 n.toNat
  ·obtain⟨k,nn⟩:∃ k,j7 n.toNat=k:=⟨_,rfl⟩
   rw[nn] at pq j0 hk;subst pq;have aju:ed n.toNat=BitVec.ofNat 8 (247+i) ::(oj n.toNat i).reverse:=by
    unfold ed; rw[if_neg h,nn,acR]; rfl
   have bA:=fj.len;rw[wZ] at bA;have cb:IntKind.i64.wrap (247+(i:Int))=((247+i:Nat) :Int) :=by rw[wrap_i64 (by omega) (by omega)]; omega
   have w2:IntKind.i64.wrap ((i:Int) - 1)=(i:Int) - 1:=wrap_i64 (by omega) (by omega);have f1:(ed n.toNat)=BitVec.ofNat 8 (247+i) ::(oj n.toNat i).reverse.take i:=by rw[aju,List.take_of_length_le (by rw[List.length_reverse,wZ]; omega)]
   simp[j0,bA,cb,w2,-Int.natCast_add];refine c7 i (adU l1 v n i) ?_ ⟨by simp,by simp,_,by simp,⟨l1.length,pT (n:=1) (a:=[BitVec.ofNat 8 (247+i)]) rfl (by simp),by simp,fun b ai=>List.getElem?_append_left ai,.inr (Nat.le_refl _),rfl⟩⟩;rintro j ah ce am ⟨bh,bw,w,bK,sP⟩;have vX:=fj.frame sP.le sP.same;obtain⟨ah,rfl⟩:=kD bh bK bw;clear bh bK bw;unfold WN;by_cases mF:j=i
   ·have oC:¬ (j:Int)<=(i:Int) - 1:=by omega
    rw[mF,<-f1] at sP;simp[oC];exact a8 _ _ (sP.base fj.le fj.same)
   ·have xA:(j:Int)<=(i:Int) - 1:=by omega
    have tQ:((i:Int) - 1 - j)=((i - 1 - j:Nat) :Int) :=by omega
    have eg:IntKind.i64.wrap ((i:Int) - 1 - j - 1)=(i:Int) - 1 - (j+1:Nat) :=by rw[wrap_i64 (by omega) (by omega)]; omega
    obtain⟨p,cs,o,q1,iZ,nO⟩:=cw.get vX (k:=.i64) (Tl n.toNat i (i - 1 - j) (by omega));rw[<-tQ] at q1;have aj:(oj n.toNat i).reverse[j]? = some (kI n.toNat (i - 1 - j)) :=by
     rw[List.getElem?_reverse (by rw[wZ]; omega),wZ,Tl _ _ _ (by omega)]
    have tT:=wZ n.toNat i;obtain⟨w',l',bj,bz⟩:=cw.push sP (kI n.toNat (i - 1 - j)) (by simp; omega);simp[xA,q1,iZ,nO,bj];refine dK.cM ?_;simp[eg];exact⟨by omega,by simp,by simp,w',by simp,by rw[List.take_add_one,aj]; simpa using bz⟩
  ·have vA:=wZ n.toNat i;obtain⟨bf,l',bj,bz⟩:=cw.push fj (kI n.toNat i) (by omega);rw[<-agc] at bz;have bp:cr .quo .u64 (u (n >>> (8*i))) .u64 256=some (dG (n >>> (8*(i+1)))) :=by rw[ana,amd]
   simp[j0,pq,aon,bp,alW,bj];refine dK.cM ?_;simp[bp];exact⟨by omega,by simp,bf,by simp,by simpa using bz⟩
end Op
end Go.cn

namespace Go.cn
open Go Go.Proofs
set_option maxRecDepth 100000
namespace Op
open hA
def lI (n:Int) :Q:=if 0<=n then BitVec.ofNat 64 (2*n.toNat) else BitVec.ofNat 64 (2*(-(n+1)).toNat+1)
theorem aqz (n:Int) (h1:-9223372036854775808<=n) (ag:n<9223372036854775808) {l:av} {K:ae->av->Prop} (a8:∀ v l',cw 1 cd l l' v (ed (lI n).toNat) false->K v l') :
  dh Tryz.prog GS 185 [.int .i64 n] l (c:=⟨K⟩) :=by
 apply bH Rl aae;unfold GL MO;have aZ:cr .shl .u64 (u (BitVec.ofInt 64 n)) .u64 1=some (.int .u64 (u (BitVec.ofInt 64 n <<< 1))) :=P4 _ .u64 1;have b4:cr .shr .i64 n .u64 63=some (.int .i64 (if 0<=n then 0 else -1)) :=by
  show (if (63:Int)<0 then none else some (ae.int .i64 (n.fdiv (2 ^ min (63:Int).toNat 64))))=_;rw[if_neg (by omega)];congr 2;have:(2:Int) ^ min (63:Int).toNat 64=9223372036854775808:=by decide
  rw[this,Int.fdiv_eq_ediv_of_nonneg _ (by omega)];split<;>omega
 have aB:BitVec.ofInt 64 n <<< 1 ^^^ BitVec.ofInt 64 (if 0<=n then 0 else -1)=lI n:=by
  unfold lI;by_cases h:0<=n
  ·rw[if_pos h,if_pos h];obtain⟨m,rfl⟩:=Int.eq_ofNat_of_zero_le h;rw[BitVec.ofInt_natCast,Int.toNat_natCast];have:BitVec.ofInt 64 (0:Int)=0#64:=rfl;rw[this,BitVec.xor_zero];apply BitVec.eq_of_toNat_eq;rw[BitVec.toNat_shiftLeft,BitVec.toNat_ofNat,BitVec.toNat_ofNat,Nat.shiftLeft_eq];omega
  ·rw[if_neg h,if_neg h];obtain⟨m,hm⟩:=Int.eq_ofNat_of_zero_le (show 0<=-(n+1) by omega);have aH:n=-((m:Int)+1) :=by omega
   have bj:BitVec.ofInt 64 (-1:Int)=BitVec.allOnes 64:=by decide
   have bz:BitVec.ofInt 64 n = ~~~ BitVec.ofNat 64 m:=by
    apply BitVec.eq_of_toNat_eq;rw[aH,BitVec.toNat_ofInt,BitVec.toNat_not,BitVec.toNat_ofNat];omega
   have jY:m<9223372036854775808:=by omega
   rw[bj,bz,BitVec.xor_allOnes,hm,Int.toNat_natCast];apply BitVec.eq_of_toNat_eq;rw[BitVec.toNat_not,BitVec.toNat_shiftLeft,BitVec.toNat_not,BitVec.toNat_ofNat,BitVec.toNat_ofNat,Nat.shiftLeft_eq];omega
 simp[aZ,b4,aB];refine wy _ fun v l' h=>?_
 simp;exact a8 v l' h
theorem anX (n:Int) (h1:-9223372036854775808<=n) (ag:n<9223372036854775808) {l:av} {K:ae->av->Prop} (a8:∀ v l',cw 1 cd l l' v (ed (lI n).toNat) false->K v l') :
  dh Tryz.prog GS 180 [.int .i64 n] l (c:=⟨K⟩) :=by
 apply bH Rg Z7;unfold GG MJ;by_cases h:0<=n
 ·obtain⟨m,rfl⟩:=Int.eq_ofNat_of_zero_le h;have aB:2#64*BitVec.ofNat 64 m=lI m:=by
   unfold lI; rw[if_pos h,Int.toNat_natCast];apply BitVec.eq_of_toNat_eq;simp only[BitVec.toNat_mul,BitVec.toNat_ofNat];omega
  simp[aB];refine uA _ fun v l' h=>?_
  simp;exact a8 v l' h
 ·have cb:IntKind.i64.wrap (n+1)=n+1:=wrap_i64 (by omega) (by omega);have w2:IntKind.i64.wrap (0 - (n+1))=0 - (n+1) :=wrap_i64 (by omega) (by omega);have w2:IntKind.i64.wrap (-(n+1))=-(n+1) :=wrap_i64 (by omega) (by omega);have aB:2#64*BitVec.ofInt 64 (-(n+1))+1#64=lI n:=by
   obtain⟨m,hm⟩:=Int.eq_ofNat_of_zero_le (show 0<=-(n+1) by omega);unfold lI; rw[if_neg h,hm,Int.toNat_natCast,BitVec.ofInt_natCast];apply BitVec.eq_of_toNat_eq;simp only[BitVec.toNat_mul,BitVec.toNat_ofNat,BitVec.toNat_add];omega
  simp[h,cb,w2,aB];refine uA _ fun v l' h=>?_
  simp;exact a8 v l' h
def ij (s:List B) :List B:=ed s.length++s
theorem hw (n:Nat) :(ed n).length<=9:=by
 unfold ed;have:=(D1 n).2;split
 ·simp
 ·simp[ON]; omega
theorem agX (s:List B) :(s.map cd).flatten=s.map bI:=w1 s
theorem Tf (l:av) (s:eD) :dv l 1 (cE s)=some ((s.l.map cd).flatten,s.l.length) :=zu l 1 cd s
theorem adl (s:eD) (ar:s.l.length<=10000) {x:ae} {l:av} (aj:dv l 1 x=some ((s.l.map cd).flatten,s.l.length)) (bA:c8 (.ao 1) x=some (.int .i64 s.l.length)) (cK:∀ l',l.length<=l'.length->(∀ b,b<l.length->l'[b]? = l[b]?)->dv l' 1 x=some ((s.l.map cd).flatten,s.l.length))
  {K:ae->av->Prop} (a8:∀ v l',cw 1 cd l l' v (ij s.l) false->K (.bU [v,.int .i64 0]) l') :dh Tryz.prog GS 153 [x] l (c:=⟨K⟩) :=by
 apply bH QU ZM;unfold Gg Mp;have h1:¬ ((10000:Int)<s.l.length) :=by omega
 have aC:cT=140737488355328:=rfl;simp[bA,h1];refine wy _ fun v l' h=>?_
 have aH:(BitVec.ofNat 64 s.l.length).toNat=s.l.length:=by rw[BitVec.toNat_ofNat]; exact Nat.mod_eq_of_lt (by omega)
 rw[aH] at h;have l6:=hw s.l.length;obtain⟨bf,ce,bj,bz,_⟩:=h.app (by_:=1) (x:=x) (xs:=s.l) (cK l' h.le h.same) (by simp[cd]) (by omega) (by omega) (by rw[aC]; omega);simp[bj];refine dK.cM ?_;simp;exact a8 bf ce (by simpa [ij] using bz)
theorem abS (s:eD) (ar:s.l.length<=10000) {x:ae} {l:av} (aj:dv l 1 x=some ((s.l.map cd).flatten,s.l.length)) (bA:c8 (.ao 1) x=some (.int .i64 s.l.length)) (cK:∀ l',l.length<=l'.length->(∀ b,b<l.length->l'[b]? = l[b]?)->dv l' 1 x=some ((s.l.map cd).flatten,s.l.length))
  {K:ae->av->Prop} (a8:∀ v l',cw 1 cd l l' v (ij s.l) false->K v l') :dh Tryz.prog GS 141 [x] l (c:=⟨K⟩) :=by
 apply bH QI ZA;unfold F7 Mg;have aC:cT=140737488355328:=rfl;simp[bA];refine uA _ fun v l' h=>?_
 have aH:(BitVec.ofNat 64 s.l.length).toNat=s.l.length:=by rw[BitVec.toNat_ofNat]; exact Nat.mod_eq_of_lt (by omega)
 rw[aH] at h;have l6:=hw s.l.length;obtain⟨bf,ce,bj,bz,_⟩:=h.app (by_:=1) (x:=x) (xs:=s.l) (cK l' h.le h.same) (by simp[cd]) (by omega) (by omega) (by rw[aC]; omega);simp[bj];refine dK.cM ?_;simp;exact a8 bf ce (by simpa [ij] using bz)
def a7 (i:List B) :List ae:=i.map bI
abbrev fz:=dk (List B)
def bc (s:fz) :ae:=cO 32 a7 s
def hx (s:fz) :Prop:=∀ i∈s.l,i.length=32
theorem gf (i:List B) :bM (a7 i)=true:=kK bI (fun _=>rfl) _
theorem hb (s:fz) :(bc s).closed=true:=u7 gf s
theorem S6:∀ a b:List B,a.length=b.length->mA (a.map fun x=>UInt8.ofNat x.toNat) (b.map fun x=>UInt8.ofNat x.toNat)=cN a b
 | [],[],_=>rfl
 | [],_::_,h=>by simp at h
 | _::_,[],h=>by simp at h
 | x::a,y::b,h=>by
  have aL:=S6 a b (by simpa using h);have aj:=x.isLt;have aK:=y.isLt;rw[S5];simp only[List.map_cons,mA,aL];have aZ:(UInt8.ofNat x.toNat=UInt8.ofNat y.toNat)<->x.toNat=y.toNat:=by
   constructor
   ·intro h;have:=congrArg UInt8.toNat h;simp only[UInt8.toNat_ofNat'] at this;omega
   ·intro h; rw[h]
  have b4:(UInt8.ofNat x.toNat<UInt8.ofNat y.toNat)<->x.toNat<y.toNat:=by
   rw[UInt8.lt_iff_toNat_lt]; simp only[UInt8.toNat_ofNat'];rw[Nat.mod_eq_of_lt (by omega),Nat.mod_eq_of_lt (by omega)]
  by_cases h1:x.toNat=y.toNat
  ·rw[if_pos (aZ.2 h1),if_neg (by omega),if_neg (by omega)]
  ·rw[if_neg (fun h=>h1 (aZ.1 h))];by_cases ag:x.toNat<y.toNat
   ·rw[if_pos (b4.2 ag),if_pos ag]
   ·rw[if_neg (fun h=>ag (b4.1 h)),if_neg ag,if_pos (by omega)]
@[simp ↓] theorem avN {P:Program} {aD:Operand->ae} {l:av} (f:FuncId) (qt x y:Operand) :bW P aD l (.cN f qt x y)=(match AJ f (aD qt) with | true=>dq l (cmpL l (aD x) (aD y)) | false=>none) :=id rfl
@[simp ↓] theorem auW (f:FuncId) (qt x y:Operand) (v:ae) (l:av) (K:ae->av->Prop) :ec (.cN f qt x y) v l K=K v l:=id rfl
@[simp] theorem aub (f:FuncId) :AJ f (.fn f [] [])=true:=Nat.beq_refl f
theorem P7:∀ a:List B,lO (a.map bI)=some (a.map fun x=>UInt8.ofNat x.toNat)
 | []=>rfl
 | x::a=>by
  simp only[List.map_cons,lO,P7 a,Option.map_some];simp[u]
theorem P8 (l:av) (s:eD) :m7 l (cE s)=some (s.l.map fun x=>UInt8.ofNat x.toNat) :=by
 have h:=Tf l s;rw[agX] at h;cases s with
 | none=>simp[m7,cO,dv,lO]
 | some a=>
  unfold m7;simp only[cO];have ag:dv l 1 (ae.b0 1 (a.map cd))=some (a.map bI,a.length) :=h;rw[ag];exact P7 a
theorem PQ (a b:eD) (h:a.l.length=b.l.length) :bR Tryz.prog GS 76 [cE a,cE b] (.int .i64 (cN a.l b.l)) :=by
 refine cf Tryz.checked.mixed b2 ?_;apply bH Ss abm;unfold HL NJ;have al:cmpL [] (cE a) (cE b)=some (.int .i64 (cN a.l b.l)) :=by
  unfold cmpL;rw[P8,P8];simp only[S6 _ _ h]
 simp[al];exact a1 rfl rfl
theorem OB {n b:Nat} (ep:0<n) :fQ (.arr n 1) (.ptr b 0 n) none none none=some (.ao 1 b 0 n n n) :=by
 have:gd n n none none none=some (0,n,n) :=rfl;simp only[fQ,this];rw[if_pos (by omega),if_neg (by omega)];simp
theorem wV (a b:List B) (aG:a.length=32) (ai:b.length=32) :bR Tryz.prog GS 121 [fk a,fk b] (.int .i64 (cN a b)) :=by
 refine cf Tryz.checked.mixed b2 ?_;apply bH Qv Zn;unfold FW L5;have ar:=OB (n:=32) (b:=1) (by omega);have J9:=OB (n:=32) (b:=0) (by omega);simp[fk,aG,ai,ar,J9];have al:=PQ (some a) (some b) (by simp[aG,ai]);refine iF al ?_ rfl ?_
 ·exact .cons ((pT (j:=0) aG rfl).pX (fun _=>rfl) (some a) rfl rfl) (.cons ((pT (j:=1) ai rfl).pX (fun _=>rfl) (some b) rfl rfl) .nil)
 ·simp;exact a1 rfl rfl
theorem abY (a b:List B) (aG:a.length=32) (ai:b.length=32) :bR Tryz.prog GS 84 [fk a,fk b] (.int .i64 (cN a b)) :=by
 refine cf Tryz.checked.mixed b2 ?_;apply bH Sz abt;unfold HQ NP;obtain⟨A,c2⟩:∃ A,A=a.map bI:=⟨_,rfl⟩
 obtain⟨C,xh⟩:∃ C,C=b.map bI:=⟨_,rfl⟩
 have jR:A.length=32:=by rw[c2,List.length_map,aG]
 have CI:C.length=32:=by rw[xh,List.length_map,ai]
 unfold fk;rw[<-c2,<-xh];simp[jR,CI];refine c7 32 (fun k ah l=>ah 2=.ptr 0 0 32/\ah 3=.ptr 1 0 32/\ah 5=.int .i64 k/\l=[.cells 32 A,.cells 32 C]/\∀ j,j<k->a[j]? = b[j]?) ?_ (by simp);rintro k ah l hk ⟨a2,bh,bw,rfl,heq⟩;obtain⟨ah,rfl⟩:=kD a2 bh bw;clear a2 bh bw;unfold XL;have vB:=afT k heq (by omega) (by omega);by_cases h:(k:Int)<32
 ·have gp:k<32:=by omega
  have eW:IntKind.i64.wrap ((k:Int)+1)=(k+1:Nat) :=wrap_i64 (by omega) (by omega);obtain⟨x,aj,_⟩:=ck (l:=a) (k:=k) (by omega);obtain⟨y,aK,_⟩:=ck (l:=b) (k:=k) (by omega);have ahu:A[k]? = some (bI x) :=by rw[c2,List.getElem?_map,aj]; rfl
  have ahz:C[k]? = some (bI y) :=by rw[xh,List.getElem?_map,aK]; rfl
  obtain⟨_,IL⟩:=List.getElem?_eq_some_iff.1 ahu;obtain⟨_,IP⟩:=List.getElem?_eq_some_iff.1 ahz;have Jf:a.drop k=x::a.drop (k+1) :=by
   obtain⟨h1,ag⟩:=List.getElem?_eq_some_iff.1 aj;rw[List.drop_eq_getElem_cons h1,ag]
  have aiq:b.drop k=y::b.drop (k+1) :=by
   obtain⟨h1,ag⟩:=List.getElem?_eq_some_iff.1 aK;rw[List.drop_eq_getElem_cons h1,ag]
  rw[Jf,aiq,S5] at vB;have hK:((u x:Int)<u y)<->x.toNat<y.toNat:=by unfold u; omega
  have jf:((u y:Int)<u x)<->y.toNat<x.toNat:=by unfold u; omega
  by_cases cX:x.toNat<y.toNat
  ·rw[if_pos cX] at vB;have B1:x<y:=cX;simp[h,gp,jR,CI,IL,IP,B1];exact a1 (by rw[<-vB]) rfl
  ·have B1:¬ x<y:=cX;rw[if_neg cX] at vB;by_cases dB:y.toNat<x.toNat
   ·rw[if_pos dB] at vB;have G4:y<x:=dB;simp[h,gp,jR,CI,IL,IP,B1,G4];exact a1 (by rw[<-vB]) rfl
   ·have G4:¬ y<x:=dB;simp[h,gp,jR,CI,IL,IP,B1,G4,eW];intro j am;by_cases g2:j=k
    ·subst g2;rw[aj,aK];have:x=y:=BitVec.eq_of_toNat_eq (by omega);rw[this]
    ·exact heq j (by omega)
 ·have eH:k=32:=by omega
  subst eH;have:cN a b=0:=by
   rw[<-vB,List.drop_of_length_le (by omega),List.drop_of_length_le (by omega)]; rfl
  simp;exact a1 (by rw[this]) rfl
abbrev ch (l:List (List B)) (k:Nat) :List B:=l.getD k []
def eU (l:List (List B)) :Bool:=decide (∀ k,k<l.length->1<=k->cN (ch l (k - 1)) (ch l k)<0)
def wu (l:List (List B)) :Bool:=decide (∀ k,k<l.length->1<=k->¬ cN (ch l k) (ch l (k - 1))<0)
theorem hW {l:List (List B)} {k:Nat} {x:List B} (h:l[k]? = some x) :ch l k=x:=by
 unfold ch; rw[List.getD_eq_getElem?_getD,h]; rfl
theorem aca {l:List (List B)} (h:∀ k,k<l.length->1<=k->cN (ch l (k - 1)) (ch l k)<0) :eU l=true:=decide_eq_true h
theorem ab9 {l:List (List B)} {k:Nat} (hk:k<l.length) (h1:1<=k) (h:¬ cN (ch l (k - 1)) (ch l k)<0) :eU l=false:=decide_eq_false fun aN=>h (aN k hk h1)
theorem acA {l:List (List B)} (h:∀ k,k<l.length->1<=k->¬ cN (ch l k) (ch l (k - 1))<0) :wu l=true:=decide_eq_true h
theorem apj {l:List (List B)} {k:Nat} (hk:k<l.length) (h1:1<=k) (h:cN (ch l k) (ch l (k - 1))<0) :wu l=false:=decide_eq_false fun aN=>aN k hk h1 h
theorem dd {x:List B} (h:x.length=32) :(a7 x).length=32:=by simp[a7,h]
theorem abQ (a:fz) (aG:hx a) (au:a.l.length<=1000000) :bR Tryz.prog GS 63 [bc a] (.bool (eU a.l)) :=by
 refine cf Tryz.checked.mixed b2 ?_;apply bH Sf aa8;unfold Hz Nx;simp[bc];refine c7 (a.l.length - 1) (fun k ah l=>ah 0=cO 32 a7 a/\ah 3=.int .i64 ((k+1:Nat) :Int)/\∀ j,j<k+1->j<a.l.length->1<=j->cN (ch a.l (j - 1)) (ch a.l j)<0) ?_ ⟨by simp[bc],by simp,fun j h1 _ ag=>by omega⟩;rintro k ah l hk ⟨cC,bh,ar⟩;obtain⟨s,rfl⟩:=o3 cC bh;clear cC bh;obtain⟨m,hm⟩:∃ m,m=k+1:=⟨_,rfl⟩
 rw[<-hm] at ar ⊢;unfold XD;simp;refine oO (fun h=>?_) (fun h=>?_)
 ·simp only[decide_eq_true_eq] at h;have aP:m<a.l.length:=by omega
  obtain⟨x,aj,dF⟩:=ck (l:=a.l) (k:=k) (by omega);obtain⟨y,aK,dg⟩:=ck aP;have aZ:IntKind.i64.wrap ((m:Int) - 1)=(k:Int) :=by rw[IntKind.wrap_i64]; omega
  have b4:IntKind.i64.wrap ((m:Int)+1)=((m+1:Nat) :Int) :=by rw[IntKind.wrap_i64]; omega
  have hF:=hW aj;have qX:=hW aK;simp[aZ,aj,aK,dd (aG x dF),dd (aG y dg),List.take_of_length_le];refine bC (abY x y (aG x dF) (aG y dg)) (by simp[bM,gf,ae.closed,fk]) ?_;by_cases al:cN x y<0
  ·have fi:¬ (0<=cN x y) :=by omega
   simp[fi,b4];refine⟨by omega,fun j h1 ag ap=>?_⟩;have eo:cN (ch a.l (j - 1)) (ch a.l j)<0:=by
    by_cases am:j=m
    ·rw[am,show m - 1=k by omega,hF,qX]; exact al
    ·exact ar j (by omega) ag ap
   simpa [ch] using eo
  ·have fi:0<=cN x y:=by omega
   simp[fi];refine a1 (congrArg ae.bool (ab9 (k:=m) aP (by omega) ?_).symm) rfl;rw[show m - 1=k by omega,hF,qX];exact al
 ·simp[h];exact a1 (congrArg ae.bool (aca fun j h1 ag=>ar j (by simp at h; omega) h1 ag).symm) rfl
theorem Iw:h5 Tryz.prog 121=true:=by kernel_rfl
theorem akX (a:fz) (aG:hx a) (au:a.l.length<=1000000) :bR Tryz.prog GS 148 [bc a,.fn 121 [] []] (.bool (wu a.l)) :=by
 refine cf Tryz.checked.mixed b2 ?_;apply bH QP ZH;unfold Gb Mk;have hc:IntKind.i64.wrap ((a.l.length:Int) - 1)=(a.l.length:Int) - 1:=by rw[IntKind.wrap_i64]; omega
 simp[bc,hc];refine c7 (a.l.length - 1) (fun k ah l=>ah 0=cO 32 a7 a/\ah 1=.fn 121 [] []/\ah 5=.int .i64 ((a.l.length:Int) - 1 - k)/\∀ j,j<a.l.length->a.l.length - 1 - k<j->¬ cN (ch a.l j) (ch a.l (j - 1))<0) ?_ ⟨by simp[bc],by simp,by simp,fun j h1 ag=>by omega⟩;rintro k ah l hk ⟨cC,aY,bw,ar⟩;obtain⟨s,rfl⟩:=kD cC aY bw;clear cC aY bw;unfold W0;simp;refine oO (fun h=>?_) (fun h=>?_)
 ·simp only[decide_eq_true_eq] at h;obtain⟨m,hm⟩:∃ m,m+k+2=a.l.length:=⟨a.l.length - 2 - k,by omega⟩
  have aZ:((a.l.length:Int) - 1 - k)=((m+1:Nat) :Int) :=by omega
  rw[aZ];obtain⟨x,aj,dF⟩:=ck (l:=a.l) (k:=m+1) (by omega);obtain⟨y,aK,dg⟩:=ck (l:=a.l) (k:=m) (by omega);obtain⟨n,aH⟩:∃ n,n=m+1:=⟨_,rfl⟩
  rw[<-aH] at aj ⊢;have b4:IntKind.i64.wrap ((n:Int) - 1)=(m:Int) :=by rw[IntKind.wrap_i64]; omega
  have hF:=hW aj;have qX:=hW aK;simp[b4,aj,aK,dd (aG x dF),dd (aG y dg),List.take_of_length_le];refine⟨Iw,bC (wV x y (aG x dF) (aG y dg)) (by simp[bM,gf,ae.closed,fk]) ?_⟩;by_cases al:cN x y<0
  ·simp[al];refine a1 (congrArg ae.bool (apj (k:=n) (by omega) (by omega) ?_).symm) rfl;rw[show n - 1=m by omega,hF,qX];exact al
  ·simp[al,b4];refine⟨by omega,by omega,fun j h1 ag=>?_⟩;have eo:¬ cN (ch a.l j) (ch a.l (j - 1))<0:=by
    by_cases am:j=n
    ·rw[am,show n - 1=m by omega,hF,qX]; exact al
    ·exact ar j h1 (by omega)
   simpa [ch] using eo
 ·simp[h];exact a1 (congrArg ae.bool (acA fun j h1 ag=>ar j h1 (by simp at h; omega)).symm) rfl
def w0 (l:List (List B)) (k:Nat) :Bool:=decide (k+1<l.length)&&decide (0<=cN (ch l k) (ch l (k+1)))
theorem ab8 {l:List (List B)}:eU l=true<->∀ k,k<l.length->w0 l k=false:=by
 unfold eU w0;rw[decide_eq_true_eq];constructor
 ·intro h k hk;by_cases h1:k+1<l.length
  ·have:=h (k+1) h1 (by omega);rw[Nat.add_sub_cancel] at this;rw[decide_eq_false (p:=0<=_) (by omega),Bool.and_false]
  ·simp[h1]
 ·intro h k hk h1;have:=h (k - 1) (by omega);rw[show k - 1+1=k by omega] at this;rw[decide_eq_true hk,Bool.true_and,decide_eq_false_iff_not] at this;omega
theorem aos (a:fz) (aG:hx a) (au:a.l.length<=1000000) (k:Nat) (hk:k<a.l.length) (x:List B) (aj:x.length=32) (r:av) {K:ae->av->Prop}
  (a8:∀ cx,K (.bool (w0 a.l k)) (.cells 1 [bc a] ::.cells 1 [.int .i64 ((k+1:Nat) :Int)] ::cx)) :
  dh Tryz.prog GS 198 [fk x,.ptr 1 0 1,.ptr 0 0 1] (.cells 1 [bc a] ::.cells 1 [.int .i64 (k:Int)] ::r) (c:=⟨K⟩) :=by
 apply bH Ry aar;unfold G2 M0;have aZ:IntKind.i64.wrap ((k:Int)+1)=((k+1:Nat) :Int) :=by rw[IntKind.wrap_i64]; omega
 obtain⟨m,hm⟩:∃ m,m=k+1:=⟨_,rfl⟩
 rw[<-hm] at aZ a8;have b4:IntKind.i64.wrap ((m:Int) - 1)=(k:Int) :=by rw[IntKind.wrap_i64]; omega
 unfold w0 at a8;rw[<-hm] at a8;obtain⟨y,aK,dg⟩:=ck hk;by_cases h:m<a.l.length
 ·obtain⟨z,aB,x4⟩:=ck h;have qX:=hW aK;have akZ:=hW aB;rw[qX,akZ] at a8;have h' : (m:Int)<(a.l.length:Int) :=by omega
  have AC:a.l[m]=z:=(List.getElem?_eq_some_iff.1 aB).2;simp[fk,bc,aZ,b4,h,h',aK,AC,dd (aG y dg),dd (aG z x4),List.take_of_length_le];refine bC (wV y z (aG y dg) (aG z x4)) (by simp[bM,gf,ae.closed,fk]) ?_;have:=a8 (r++[bt.cells x.length (List.map bI x)]);simpa [h,bc] using this
 ·have h' : ¬ (m:Int)<(a.l.length:Int) :=by omega
  simp[fk,bc,aZ,b4,h,h'];have:=a8 (r++[bt.cells x.length (List.map bI x)]);simpa [h,bc] using this
theorem ag0:h5 Tryz.prog 198=true:=by kernel_rfl
theorem aou (a:fz) (aG:hx a) (au:a.l.length<=1000000) {K:ae->av->Prop} (a8:∀ n cx,(n<0<->eU a.l=true)->K (.int .i64 n) cx) :
  dh Tryz.prog GS 202 [bc a,.fn 198 [] [.ptr 1 0 1,.ptr 0 0 1]] [.cells 1 [bc a],.cells 1 [.int .i64 0]] (c:=⟨K⟩) :=by
 apply bH RD aaw;unfold G8 M5;simp[bc];refine c7 a.l.length (fun k ah l=>ah 0=cO 32 a7 a/\ah 1=.fn 198 [] [.ptr 1 0 1,.ptr 0 0 1]/\ah 7=.int .i64 a.l.length/\ah 8=.int .i64 k/\(∃ r,l=.cells 1 [bc a] ::.cells 1 [.int .i64 (k:Int)] ::r)/\∀ j,j<k->w0 a.l j=false) ?_ ⟨by simp[bc],by simp,by simp,by simp,⟨[],by simp[bc]⟩,fun j h=>by omega⟩;rintro k ah l hk ⟨cC,aY,dx,ek,⟨r,rfl⟩,ar⟩;obtain⟨s,rfl⟩:=jg cC aY dx ek;clear cC aY dx ek;unfold Xm;simp;refine oO (fun h=>?_) (fun h=>?_)
 ·simp only[decide_eq_true_eq] at h;obtain⟨x,aj,dF⟩:=ck (l:=a.l) (k:=k) (by omega);have aZ:IntKind.i64.wrap ((k:Int)+1)=((k+1:Nat) :Int) :=by rw[IntKind.wrap_i64]; omega
  simp[aj,dd (aG x dF),List.take_of_length_le];refine⟨ag0,aos a aG au k (by omega) x (aG x dF) r fun cx=>?_⟩;cases bN:w0 a.l k with
  | true=>
   simp;refine a8 _ _ ⟨fun aH=>by omega,fun aC=>?_⟩;have:=ab8.1 aC k (by omega);rw[bN] at this; cases this
  | false=>
   simp[aZ];refine⟨by omega,fun j am=>?_⟩;by_cases g2:j=k
   ·subst g2; exact bN
   ·exact ar j (by omega)
 ·simp[h];refine a8 _ _ ⟨fun _=>ab8.2 fun j am=>ar j (by simp at h; omega),fun _=>by omega⟩
theorem aot (a:fz) (aG:hx a) (au:a.l.length<=1000000) {K:ae->av->Prop} (a8:∀ cx,K (.bool (!eU a.l)) cx) :
  dh Tryz.prog GS 197 [bc a,.fn 198 [] [.ptr 1 0 1,.ptr 0 0 1]] [.cells 1 [bc a],.cells 1 [.int .i64 0]] (c:=⟨K⟩) :=by
 apply bH Rx aaq;unfold G1 MZ;simp;refine aou a aG au fun n cx aH=>?_
 have e:decide (0<=n)=!eU a.l:=by
  cases aC:eU a.l with
  | true=>have:=aH.2 aC; simp; omega
  | false=>
   have:¬ n<0:=fun h=>by have:=aH.1 h; rw[aC] at this; cases this
   simp; omega
 simp[e];exact a8 cx
theorem aov (a:fz) (aG:hx a) (au:a.l.length<=1000000) :bR Tryz.prog GS 184 [bc a] (.bool (eU a.l)) :=by
 refine cf Tryz.checked.mixed b2 ?_;apply bH Rk aad;unfold GK MN;have al:(bc a).cells=some [bc a] :=by cases a<;>rfl
 simp[al];refine aot a aG au fun cx=>?_
 simp;exact a1 rfl rfl
def pJ (l:List (List B)) :List B:=ed l.length++l.flatten
theorem S0:∀ (x:List B),kJ 1 x.length (x.map bI)=x.map cd
 | []=>rfl
 | b::r=>by
  show ((bI b::r.map bI).take 1) ::kJ 1 r.length ((bI b::r.map bI).drop 1)=_;simp[S0 r,cd]
theorem afJ {x:List B} (h:x.length=32) :kJ 1 32 (a7 x)=x.map cd:=by
 have:=S0 x;rw[h] at this;exact this
theorem Kw {l:List (List B)} (h:∀ x∈l,x.length=32) :l.flatten.length=l.length*32:=lk h
theorem acS {l:List (List B)} {k:Nat} {x:List B} (h:l[k]? = some x) :(l.take (k+1)).flatten=(l.take k).flatten++x:=by
 rw[List.take_add_one,h]; simp
theorem ao1 {x:List B} (h:x.length=32) :fQ (.arr 32 1) (.cq (a7 x) 0) none none none=some (.b0 1 (x.map cd)) :=by
 have:=afJ h;have ai:gd 32 32 none none none=some (0,32,32) :=rfl;unfold fQ;simp only[ai];simp[dd h,this]
structure adQ (l:av) (s:fz) (k:Nat) (ah:bi) (l1:av) :Prop where
 cC:ah 0=cO 32 a7 s
 bK:ah 4=.int .i64 k
 q8:∃ v,ah 3=v/\cw 1 cd l l1 v (ed s.l.length++(s.l.take k).flatten) false
theorem anP (s:fz) (ay:hx s) (ar:s.l.length<=1000) {l:av} {K:ae->av->Prop} (a8:∀ v l',cw 1 cd l l' v (pJ s.l) false->K v l') :
  dh Tryz.prog GS 140 [bc s] l (c:=⟨K⟩) :=by
 apply bH QH Zz;unfold F6 Mf;have aC:cT=140737488355328:=rfl;have aH:(BitVec.ofNat 64 s.l.length).toNat=s.l.length:=by rw[BitVec.toNat_ofNat]; exact Nat.mod_eq_of_lt (by omega)
 have l6:=hw s.l.length;simp[bc];refine uA _ fun v l' h=>?_
 rw[aH] at h;simp;refine c7 s.l.length (adQ l s) ?_ ⟨by simp[bc],by simp,v,by simp,by simpa using h⟩;rintro k ah l1 hk ⟨cC,bK,v,bh,fj⟩;obtain⟨ah,rfl⟩:=kD cC bh bK;clear cC bh bK;unfold WY;simp;refine oO (fun h=>?_) (fun h=>?_)
 ·simp only[decide_eq_true_eq] at h;obtain⟨x,aj,dF⟩:=ck (l:=s.l) (k:=k) (by omega);have aZ:IntKind.i64.wrap ((k:Int)+1)=((k+1:Nat) :Int) :=by rw[IntKind.wrap_i64]; omega
  have fv:((s.l.take k).flatten).length<=32000:=by
   rw[Kw (fun y aK=>ay y (List.mem_of_mem_take aK)),List.length_take]; omega
  obtain⟨bf,ce,bj,bz,_⟩:=fj.app (by_:=1) (x:=.b0 1 (x.map cd)) (xs:=x) (by simp[dv]) (by simp[cd]) (by omega) (by omega) (by rw[aC,ay x dF]; simp only[List.length_append]; omega);simp[aj,dd (ay x dF),List.take_of_length_le,ao1 (ay x dF),bj];refine dK.cM ?_;simp[aZ];exact⟨by omega,by simp,by simp,bf,by simp,by rw[acS aj,<-List.append_assoc]; exact bz⟩
 ·simp[h];have aU:s.l.take k=s.l:=List.take_of_length_le (by simp at h; omega);rw[aU] at fj;exact a8 _ _ fj
structure adR (l:av) (s:fz) (k:Nat) (ah:bi) (l1:av) :Prop where
 qu:ah 17=cO 32 a7 s
 qv:ah 18=.int .i64 s.l.length
 qw:ah 19=.int .i64 k
 q8:∃ v,ah 4=v/\cw 1 cd l l1 v (ed s.l.length++(s.l.take k).flatten) false
theorem aqu (s:fz) (ay:hx s) (ar:s.l.length<=60) (aC:eU s.l=true) {l:av} {K:ae->av->Prop} (a8:∀ v l',cw 1 cd l l' v (pJ s.l) false->K (.bU [v,.int .i64 0]) l') :
  dh Tryz.prog GS 152 [bc s] l (c:=⟨K⟩) :=by
 apply bH QT ZL;unfold Gf Mo;have Au:cT=140737488355328:=rfl;have aH:(BitVec.ofNat 64 s.l.length).toNat=s.l.length:=by rw[BitVec.toNat_ofNat]; exact Nat.mod_eq_of_lt (by omega)
 have l6:=hw s.l.length;have lW:¬ (60:Int)<(s.l.length:Int) :=by omega
 simp[bc,lW];refine bC (aov s ay (by omega)) (by have:=hb s; simp[bM]; exact this) ?_;simp[aC,bc];refine wy _ fun v l' h=>?_
 rw[aH] at h;simp[bc];refine c7 s.l.length (adR l s) ?_ ⟨by simp[bc],by simp,by simp,v,by simp,by simpa using h⟩;rintro k ah l1 hk ⟨qu,qv,qw,v,bK,fj⟩;obtain⟨ah,rfl⟩:=jg qu qv qw bK;clear qu qv qw bK;unfold W3;simp;refine oO (fun h=>?_) (fun h=>?_)
 ·simp only[decide_eq_true_eq] at h;obtain⟨x,aj,dF⟩:=ck (l:=s.l) (k:=k) (by omega);have aZ:IntKind.i64.wrap ((k:Int)+1)=((k+1:Nat) :Int) :=by rw[IntKind.wrap_i64]; omega
  have fv:((s.l.take k).flatten).length<=32000:=by
   rw[Kw (fun y aK=>ay y (List.mem_of_mem_take aK)),List.length_take]; omega
  obtain⟨bf,ce,bj,bz,_⟩:=(fj.more [.cells 32 (a7 x)]).app (by_:=1) (x:=.ao 1 l1.length 0 32 32 32) (xs:=x) (by simp[dv,ay x dF,dd (ay x dF),List.take_of_length_le,a7,w1]) (by simp[cd]) (by omega) (by omega) (by rw[Au,ay x dF]; simp only[List.length_append]; omega);have ny:bS (rep 32 (.int .u8 0)) 0 (a7 x)=a7 x:=g8 (by rw[dd (ay x dF)]; rfl);simp[aj,dd (ay x dF),List.take_of_length_le,OB,ny,bj];refine dK.cM ?_;simp[aZ];exact⟨by omega,by simp,by simp,by simp,bf,by simp,by rw[acS aj,<-List.append_assoc]; exact bz⟩
 ·simp[h];have aU:s.l.take k=s.l:=List.take_of_length_le (by simp at h; omega);rw[aU] at fj;exact a8 _ _ fj
def fg (s:List UInt8) :List B:=s.map fun b=>b.toBitVec
theorem EH (s:List UInt8) :(s.map fun b=>[iq b])=(fg s).map cd:=by
 unfold fg;rw[List.map_map];rfl
theorem oX (s:List UInt8) :(fg s).length=s.length:=by simp[fg]
def m6 (b:Q) (k:Nat) :List B:=(List.range k).map fun i=>kI b.toNat (7 - i)
def ik (v:hN) :List B:=v.kind::(if v.kind=1#8 then ed (lI v.num).toNat else if v.kind=2#8 then m6 v.bits 8 else ij (fg v.text))
def Lh (v:hN) :Prop:=-9223372036854775808<=v.num/\v.num<9223372036854775808/\v.text.length<=10000
theorem PU (b:Q) (k:Nat) :m6 b (k+1)=m6 b k++[kI b.toNat (7 - k)] :=by
 unfold m6; rw[List.range_succ,List.map_append]; rfl
theorem Yo (l:av) (c:bt) (x:B) :cw 1 cd l (l++[c,.cells 1 [bI x]]) (.ao 1 (l.length+1) 0 1 1 1) [x] false:=by
 exact⟨l.length+1,pT (n:=1) (a:=[x]) rfl (by simp),by simp,fun b ai=>List.getElem?_append_left ai,.inr (by omega),rfl⟩
theorem sP (l:av) (c:bt) (x:B) :cw 1 cd (l++[c]) (l++[c,.cells 1 [bI x]]) (.ao 1 (l.length+1) 0 1 1 1) [x] false:=by
 have e:l++[c,.cells 1 [bI x]]=(l++[c])++[.cells 1 [bI x]] :=by simp
 exact⟨l.length+1,pT (n:=1) (a:=[x]) rfl (by simp),by simp,fun b ai=>by rw[e]; exact List.getElem?_append_left ai,.inr (by simp),rfl⟩
structure adF (l:av) (v:hN) (p:Nat) (k:Nat) (ah:bi) (l1:av) :Prop where
 aY:ah 1=.ptr p 0 4
 bK:ah 4=.int .i64 (7 - (k:Int))
 q8:∃ w,ah 3=w/\cw 1 cd (l++[.cells 4 (ey v)]) l1 w (v.kind::m6 v.bits k) false
theorem an0 (v:hN) (ax:Lh v) {l:av} {K:ae->av->Prop} (a8:∀ w l',cw 1 cd l l' w (ik v) false->K w l') :
  dh Tryz.prog GS 142 [.aV (ey v)] l (c:=⟨K⟩) :=by
 apply bH QJ ZB;unfold F8 Mh;have aC:cT=140737488355328:=rfl;have aT:=Yo l (.cells 4 (ey v)) v.kind;obtain⟨pu,pv,aU⟩:=ax;have al:tx (.str v.text)=some (.b0 1 ((fg v.text).map cd)) :=by
  show some (ae.b0 1 (v.text.map fun b=>[iq b]))=_;rw[EH]
 by_cases cX:v.kind=1#8
 ·have nA:ik v=[v.kind]++ed (lI v.num).toNat:=by unfold ik; rw[if_pos cX]; rfl
  have aZ:(u v.kind:Int)=1:=(hL v.kind).2 cX;simp only[bI,aZ] at aT;have l6:=hw (lI v.num).toNat
  simp[ey,aZ];refine anX v.num pu pv fun w l' h=>?_
  obtain⟨bf,ce,bj,bz,_⟩:=(aT.frame h.le h.same).app (by_:=1) (x:=w) (xs:=ed (lI v.num).toNat) h.contents (by simp[cd]) (by omega) (by omega) (by rw[aC]; simp only[List.length_cons,List.length_nil]; omega);simp[bj];refine dK.cM ?_;simp;exact a8 _ _ (by rw[nA]; exact bz)
 ·have aZ:¬ (u v.kind:Int)=1:=fun h=>cX ((hL v.kind).1 h)
  by_cases dB:v.kind=2#8
  ·have b4:(u v.kind:Int)=2:=(kC v.kind).2 dB;have nA:ik v=v.kind::m6 v.bits 8:=by unfold ik; rw[if_neg cX,if_pos dB]
   have ag:=sP l (.cells 4 (ey v)) v.kind;simp only[bI,b4] at ag;simp[ey,b4];refine c7 8 (adF l v l.length) ?_ ⟨by simp,by simp,_,by simp,ag⟩;rintro k ah l1 hk ⟨aY,bK,w,bh,fj⟩;have aE:l1[l.length]? = some (.cells 4 (ey v)) :=by rw[fj.same l.length (by simp)]; simp
   obtain⟨ah,rfl⟩:=kD aY bh bK;clear aY bh bK;unfold WZ;by_cases ht:k=8
   ·subst ht;rw[<-nA] at fj;simp;exact a8 _ _ (fj.base (by simp) fun b ai=>List.getElem?_append_left ai)
   ·obtain⟨m,hm⟩:∃ m,m+k=7:=⟨7 - k,by omega⟩
    have em:7 - (k:Int)=(m:Int) :=by omega
    have Im:IntKind.i64.wrap ((m:Int) - 1)=(m:Int) - 1:=by rw[IntKind.wrap_i64]; omega
    have ags:IntKind.i64.wrap (8*(m:Int))=((8*m:Nat) :Int) :=by rw[IntKind.wrap_i64]; omega
    have rx:cr .shr .u64 (u v.bits) .i64 ((8*m:Nat) :Int)=some (.int .u64 (u (v.bits >>> (8*m)))) :=rN v.bits .i64 (8*m);have uW:=B0 v.bits m;have bA:(v.kind::m6 v.bits k).length<=1000000000:=by simp[m6]; omega
    obtain⟨w',l',bj,bz⟩:=cw.push fj (kI v.bits.toNat m) bA;rw[em];simp[ey] at aE;simp[aE,ags,rx,uW,bj,-Int.natCast_mul];refine dK.cM ?_;simp[Im];exact⟨by omega,by simp,by simp; omega,w',by simp,by rw[PU,show 7 - k=m by omega]; exact bz⟩
  ·have b4:¬ (u v.kind:Int)=2:=fun h=>dB ((kC v.kind).1 h)
   have nA:ik v=[v.kind]++ij (fg v.text) :=by unfold ik; rw[if_neg cX,if_neg dB]; rfl
   have kt:(ij (fg v.text)).length<=20000:=by
    have:=hw (fg v.text).length;unfold ij;rw[List.length_append];have:=oX v.text;omega
   simp[ey,aZ,b4,al];refine abS (some (fg v.text)) (by simpa [oX] using aU) (by simp[dv]) (by simp) (fun l' _ _=>by simp[dv]) fun w l' h=>?_
   obtain⟨bf,ce,bj,bz,_⟩:=(aT.frame h.le h.same).app (by_:=1) (x:=w) (xs:=ij (fg v.text)) h.contents (by simp[cd]) (by omega) (by omega) (by rw[aC]; simp only[List.length_cons,List.length_nil]; omega);simp[bj];refine dK.cM ?_;simp;exact a8 _ _ (by rw[nA]; exact bz)
structure adG (l:av) (v:hN) (p:Nat) (k:Nat) (ah:bi) (l1:av) :Prop where
 aY:ah 1=.ptr p 0 4
 cl:ah 6=.int .i64 (8*(7 - (k:Int)))
 q8:∃ w,ah 5=w/\cw 1 cd (l++[.cells 4 (ey v)]) l1 w (v.kind::m6 v.bits k) false
theorem ald {v:hN} (h:jG v=true) (cX:¬ v.kind=1#8) (dB:¬ v.kind=2#8) :v.kind=3#8:=by
 unfold jG at h;simp[cX,dB] at h;exact h.1
theorem aqB (v:hN) (ax:Lh v) (eb:jG v=true) {l:av} {K:ae->av->Prop} (a8:∀ w l',cw 1 cd l l' w (ik v) false->K (.bU [w,.int .i64 0]) l') :
  dh Tryz.prog GS 154 [.aV (ey v)] l (c:=⟨K⟩) :=by
 apply bH QV ZN;unfold Gh Mq;have aC:cT=140737488355328:=rfl;have aT:=Yo l (.cells 4 (ey v)) v.kind;obtain⟨pu,pv,aU⟩:=ax;have al:tx (.str v.text)=some (.b0 1 ((fg v.text).map cd)) :=by
  show some (ae.b0 1 (v.text.map fun b=>[iq b]))=_;rw[EH]
 have dW:=adf v;rw[eb] at dW;by_cases cX:v.kind=1#8
 ·have nA:ik v=[v.kind]++ed (lI v.num).toNat:=by unfold ik; rw[if_pos cX]; rfl
  have aZ:(u v.kind:Int)=1:=(hL v.kind).2 cX;simp only[bI,aZ] at aT;have l6:=hw (lI v.num).toNat
  simp[ey];refine bC dW rfl ?_;simp[jQ,aZ];refine aqz v.num pu pv fun w l' h=>?_
  obtain⟨bf,ce,bj,bz,_⟩:=(aT.frame h.le h.same).app (by_:=1) (x:=w) (xs:=ed (lI v.num).toNat) h.contents (by simp[cd]) (by omega) (by omega) (by rw[aC]; simp only[List.length_cons,List.length_nil]; omega);simp[bj];refine dK.cM ?_;simp;exact a8 _ _ (by rw[nA]; exact bz)
 ·have aZ:¬ (u v.kind:Int)=1:=fun h=>cX ((hL v.kind).1 h)
  by_cases dB:v.kind=2#8
  ·have b4:(u v.kind:Int)=2:=(kC v.kind).2 dB;have nA:ik v=v.kind::m6 v.bits 8:=by unfold ik; rw[if_neg cX,if_pos dB]
   have ag:=sP l (.cells 4 (ey v)) v.kind;simp only[bI,b4] at ag;simp[ey];refine bC dW rfl ?_;simp[jQ,b4];refine c7 8 (adG l v l.length) ?_ ⟨by simp,by simp,_,by simp,ag⟩;rintro k ah l1 hk ⟨aY,cl,w,bw,fj⟩;have aE:l1[l.length]? = some (.cells 4 (ey v)) :=by rw[fj.same l.length (by simp)]; simp
   obtain⟨ah,rfl⟩:=kD aY bw cl;clear aY bw cl;unfold W4;by_cases ht:k=8
   ·subst ht;rw[<-nA] at fj;simp;exact a8 _ _ (fj.base (by simp) fun b ai=>List.getElem?_append_left ai)
   ·obtain⟨m,hm⟩:∃ m,m+k=7:=⟨7 - k,by omega⟩
    obtain⟨n,aH⟩:∃ n,n=8*m:=⟨_,rfl⟩
    have em:8*(7 - (k:Int))=(n:Int) :=by omega
    have Im:IntKind.i64.wrap ((n:Int) - 8)=(n:Int) - 8:=by rw[IntKind.wrap_i64]; omega
    have rx:cr .shr .u64 (u v.bits) .i64 (n:Int)=some (.int .u64 (u (v.bits >>> n))) :=rN v.bits .i64 n;have uW:=B0 v.bits m;rw[<-aH] at uW;have bA:(v.kind::m6 v.bits k).length<=1000000000:=by simp[m6]; omega
    obtain⟨w',l',bj,bz⟩:=cw.push fj (kI v.bits.toNat m) bA;rw[em];simp[ey] at aE;simp[aE,rx,uW,bj];refine dK.cM ?_;simp[Im];exact⟨by omega,by simp,by simp; omega,w',by simp,by rw[PU,show 7 - k=m by omega]; exact bz⟩
  ·have b4:¬ (u v.kind:Int)=2:=fun h=>dB ((kC v.kind).1 h)
   have dC:(u v.kind:Int)=3:=(nT v.kind).2 (ald eb cX dB);have nA:ik v=[v.kind]++ij (fg v.text) :=by unfold ik; rw[if_neg cX,if_neg dB]; rfl
   have kt:(ij (fg v.text)).length<=20000:=by
    have:=hw (fg v.text).length;unfold ij;rw[List.length_append];have:=oX v.text;omega
   simp only[bI,dC] at aT;simp[ey];refine bC dW rfl ?_;simp[jQ,dC,al];refine adl (some (fg v.text)) (by simpa [oX] using aU) (by simp[dv]) (by simp) (fun l' _ _=>by simp[dv]) fun w l' h=>?_
   obtain⟨bf,ce,bj,bz,_⟩:=(aT.frame h.le h.same).app (by_:=1) (x:=w) (xs:=ij (fg v.text)) h.contents (by simp[cd]) (by omega) (by omega) (by rw[aC]; simp only[List.length_cons,List.length_nil]; omega);simp[bj];refine dK.cM ?_;simp;exact a8 _ _ (by rw[nA]; exact bz)
structure bQ where
 ha:D
 bO:fz
 ii:Q
 act:Act
 e:D
 s:D
def bD (o:bQ) :List ae:=[bE o.ha,bc o.bO,dG o.ii,bI o.act.kind,.str o.act.key,bI o.act.val.kind,.int .i64 o.act.val.num,dG o.act.val.bits,.str o.act.val.text,bE o.e,bE o.s]
structure kF (o:bQ) :Prop where
 ids:hx o.bO
 len:o.bO.l.length<=1000000
 val:Lh o.act.val
 key:o.act.key.length<=10000
def r1 (o:bQ) :Bool:=fG o.ha&&(decide (o.ii.toNat<=1000000000000)&&(jk o.act&&(iu o.e&&iu o.s)))
def fY (o:bQ) :Int:=if 4<o.bO.l.length then 4 else if eU o.bO.l then (if r1 o then 0 else 8) else 32
theorem mz (o:bQ) :bM (bD o)=true:=by
 have:=hb o.bO;simp[bD,bM,ae.closed,this]
theorem anR (o:bQ) (ay:kF o) :bR Tryz.prog GS 31 [.aV (bD o)] (.int .i64 (fY o)) :=by
 refine cf Tryz.checked.mixed b2 ?_;apply bH RN aaG;unfold Hf Nb fY;have ez:=hb o.bO;have bA:c8 (.ao 32) (bc o.bO)=some (.int .i64 o.bO.l.length) :=by simp[bc]
 have ix:(bc o.bO).cells=some [bc o.bO] :=by cases o.bO<;>rfl
 obtain⟨p,aE⟩:∃ p,p=bc o.bO:=⟨_,rfl⟩
 by_cases h1:4<o.bO.l.length
 ·have dH:(4:Int)<(o.bO.l.length:Int) :=by omega
  rw[if_pos h1];simp[bD,bA,dH];exact a1 rfl rfl
 ·have dH:¬ (4:Int)<(o.bO.l.length:Int) :=by omega
  rw[if_neg h1];simp[bD,bA,dH];refine bC (abQ o.bO ay.ids ay.len) (by simp[bM,ez]) ?_;cases ag:eU o.bO.l with
  | false=>
   simp;exact a1 rfl rfl
  | true=>
   simp;refine bC (abZ o.ha) rfl ?_;unfold r1;cases ap:fG o.ha with
   | false=>
    simp;exact a1 rfl rfl
   | true=>
    have cK:((1000000000000:Int)<u o.ii)<->¬ o.ii.toNat<=1000000000000:=by unfold u; omega
    by_cases aJ:o.ii.toNat<=1000000000000
    ·have xf:¬ ((1000000000000:Int)<u o.ii) :=fun h=>cK.1 h aJ
     simp[aJ,xf];refine bC (aod o.act) rfl ?_;cases bd:jk o.act with
     | false=>
      simp[jQ];exact a1 rfl rfl
     | true=>
      simp[jQ];refine bC (Cr o.e) rfl ?_;cases bL:iu o.e with
      | false=>
       simp;exact a1 rfl rfl
      | true=>
       simp;refine bC (Cr o.s) rfl ?_;cases eN:iu o.s with
       | false=>
        simp;exact a1 rfl rfl
       | true=>
        simp;exact a1 (by rw[if_pos aJ]) rfl
    ·have xf:(1000000000000:Int)<u o.ii:=cK.2 aJ;simp[aJ,xf];exact a1 rfl rfl
def opHead (o:bQ) :List B:=111#8::ed o.ha.toNat
def jC (o:bQ) :List B:=
 opHead o++pJ o.bO.l++ed o.ii.toNat++[o.act.kind]++(if o.act.kind=1#8 then [] else ij (fg o.act.key))++(if o.act.kind=4#8 then ik o.act.val else [])
theorem AW {l:List (List B)} (h:∀ x∈l,x.length=32) :(pJ l).length<=9+l.length*32:=by
 have:=hw l.length;have ag:=Kw h;unfold pJ;rw[List.length_append];omega
theorem yJ (s:List B) :(ij s).length<=9+s.length:=by
 have:=hw s.length;unfold ij;rw[List.length_append];omega
theorem BB (v:hN) :(ik v).length<=20+v.text.length:=by
 have h1:=hw (lI v.num).toNat
 have ag:=yJ (fg v.text);have ap:=oX v.text;unfold ik;simp only[List.length_cons];split
 ·omega
 ·split
  ·simp[m6]; omega
  ·omega
theorem abR (o:bQ) (ay:kF o) (sl:o.bO.l.length<=1000) {l:av} {K:ae->av->Prop} (a8:∀ w l',cw 1 cd l l' w (jC o) false->K w l') :
  dh Tryz.prog GS 101 [.aV (bD o)] l (c:=⟨K⟩) :=by
 apply bH Qd Y5;unfold FG LO;have aC:cT=140737488355328:=rfl;have aT:=sP l (.cells 11 (bD o)) 111#8;have JK:=hw o.ha.toNat
 have qL:=hw o.ii.toNat
 have g3:=AW ay.ids;have Kf:(BitVec.setWidth 64 o.ha).toNat=o.ha.toNat:=by rw[BitVec.toNat_setWidth]; exact Nat.mod_eq_of_lt (by have:=o.ha.isLt; omega)
 have aP:l.length<(l++[bt.cells 11 (bD o)]).length:=by simp
 have fC:(l++[bt.cells 11 (bD o)])[l.length]? = some (.cells 11 (bD o)) :=by simp
 simp[bD];refine uA _ fun cb l1 h1=>?_
 rw[Kf] at h1;obtain⟨w2,ce,bz,dU,_⟩:=(aT.frame h1.le h1.same).app (by_:=1) (x:=cb) (xs:=ed o.ha.toNat) h1.contents (by simp[cd]) (by omega) (by omega) (by rw[aC]; simp only[List.length_cons,List.length_nil]; omega);have qN:ce[l.length]? = some (.cells 11 (bD o)) :=by rw[dU.same _ aP]; exact fC
 have oB:l.length<ce.length:=by have:=dU.le; omega
 have pw:=qN;simp[bD] at pw;simp[bz];refine dK.cM ?_;simp[pw];refine anP o.bO ay.ids sl fun eg eO ap=>?_
 obtain⟨nV,jy,a4,oc,_⟩:=(dU.frame ap.le ap.same).app (by_:=1) (x:=eg) (xs:=pJ o.bO.l) ap.contents (by simp[cd]) (by omega) (by omega) (by rw[aC]; simp only[List.length_append,List.length_cons,List.length_nil]; omega);have cL:eO[l.length]? = some (.cells 11 (bD o)) :=by rw[ap.same _ oB]; exact qN
 have Dm:jy[l.length]? = some (.cells 11 (bD o)) :=by rw[oc.same _ aP]; exact fC
 have ajg:l.length<jy.length:=by have:=oc.le; omega
 have tY:=cL;have xI:=Dm;simp[bD] at tY xI;simp[tY,a4];refine dK.cM ?_;simp[xI];refine uA _ fun rv KV bd=>?_
 obtain⟨axv,alu,u4,BT,_⟩:=(oc.frame bd.le bd.same).app (by_:=1) (x:=rv) (xs:=ed o.ii.toNat) bd.contents (by simp[cd]) (by omega) (by omega) (by rw[aC]; simp only[List.length_append,List.length_cons,List.length_nil]; omega);have ajG:alu[l.length]? = some (.cells 11 (bD o)) :=by rw[BT.same _ aP]; exact fC
 have VK:=ajG;simp[bD] at VK;obtain⟨BD,XF,ad7,rL⟩:=cw.push BT o.act.kind (by simp only[List.length_append,List.length_cons,List.length_nil]; omega);have ajH:XF[l.length]? = some (.cells 11 (bD o)) :=by rw[rL.same _ aP]; exact fC
 have atO:l.length<XF.length:=by have:=rL.le; omega
 have JW:=ajH;simp[bD] at JW;simp[u4];refine dK.cM ?_;simp[VK,ad7];refine dK.cM ?_;obtain⟨M,lX⟩:∃ M,M=[111#8]++ed o.ha.toNat++pJ o.bO.l++ed o.ii.toNat++[o.act.kind] :=⟨_,rfl⟩
 have ahH:M.length<=40000:=by rw[lX]; simp only[List.length_append,List.length_cons,List.length_nil]; omega
 rw[<-lX] at rL;have dt:jC o=M++(if o.act.kind=1#8 then [] else ij (fg o.act.key))++(if o.act.kind=4#8 then ik o.act.val else []) :=by rw[lX]; rfl
 have kt:=yJ (fg o.act.key);rw[oX] at kt;have Jy:=ay.key;have ja:=BB o.act.val;have akg:=ay.val.2.2;have al:tx (.str o.act.key)=some (.b0 1 ((fg o.act.key).map cd)) :=by
  show some (ae.b0 1 (o.act.key.map fun b=>[iq b]))=_;rw[EH]
 by_cases cX:o.act.kind=1#8
 ·have aZ:(u o.act.kind:Int)=1:=(hL o.act.kind).2 cX;have jm:¬ o.act.kind=4#8:=by rw[cX]; decide
  rw[if_pos cX,if_neg jm,List.append_nil,List.append_nil] at dt;simp[JW,aZ];exact a8 _ _ (by rw[dt]; exact rL.base (by simp) fun b ai=>List.getElem?_append_left ai)
 ·have aZ:¬ (u o.act.kind:Int)=1:=fun h=>cX ((hL o.act.kind).1 h)
  rw[if_neg cX] at dt;simp[JW,aZ,al];refine abS (some (fg o.act.key)) (by simpa [oX] using Jy) (by simp[dv]) (by simp) (fun l' _ _=>by simp[dv]) fun ER kx hd=>?_
  obtain⟨aqp,KW,a9,tf,_⟩:=(rL.frame hd.le hd.same).app (by_:=1) (x:=ER) (xs:=ij (fg o.act.key)) hd.contents (by simp[cd]) (by omega) (by omega) (by rw[aC]; omega);have JX:KW[l.length]? = some (.cells 11 (bD o)) :=by rw[tf.same _ aP]; exact fC
  have vT:=JX;simp[bD] at vT;simp[a9];refine dK.cM ?_;simp only[Bool.false_and] at tf;by_cases jm:o.act.kind=4#8
  ·have lR:(u o.act.kind:Int)=4:=(uO o.act.kind).2 jm;rw[if_pos jm] at dt;simp[vT,lR];refine an0 o.act.val ay.val fun O5 alk lV=>?_
   obtain⟨aqo,alm,Fe,Fp,_⟩:=(tf.frame lV.le lV.same).app (by_:=1) (x:=O5) (xs:=ik o.act.val) lV.contents (by simp[cd]) (by omega) (by omega) (by rw[aC]; simp only[List.length_append]; omega);simp[Fe];refine dK.cM ?_;simp;exact a8 _ _ (by rw[dt]; exact Fp.base (by simp) fun b ai=>List.getElem?_append_left ai)
  ·have lR:¬ (u o.act.kind:Int)=4:=fun h=>jm ((uO o.act.kind).1 h)
   rw[if_neg jm,List.append_nil] at dt;simp[vT,lR];exact a8 _ _ (by rw[dt]; exact tf.base (by simp) fun b ai=>List.getElem?_append_left ai)
def hI (o:bQ) :List B:=jC o++ed o.e.toNat++ed o.s.toNat
theorem Yt (o:bQ) (ay:kF o) (sl:o.bO.l.length<=1000) :(jC o).length<=100000:=by
 have h1:=hw o.ha.toNat
 have ag:=hw o.ii.toNat
 have ap:=AW ay.ids;have aJ:=yJ (fg o.act.key);rw[oX] at aJ;have bd:=ay.key;have bL:=BB o.act.val;have eN:=ay.val.2.2;have aY:(if o.act.kind=1#8 then [] else ij (fg o.act.key)).length<=10009:=by split<;>(try simp) ; omega
 have a2:(if o.act.kind=4#8 then ik o.act.val else []).length<=10020:=by split<;>(try simp) ; omega
 unfold jC opHead;simp only[List.length_append,List.length_cons,List.length_nil];omega
theorem anH (o:bQ) (ay:kF o) (sl:o.bO.l.length<=1000) {l:av} {K:ae->av->Prop} (a8:∀ w l',cw 1 cd l l' w (hI o) false->K w l') :
  dh Tryz.prog GS 68 [.aV (bD o)] l (c:=⟨K⟩) :=by
 apply bH Sk abf;unfold HE NC;have aC:cT=140737488355328:=rfl;have bY:=hw o.e.toNat
 have qL:=hw o.s.toNat
 have kt:=Yt o ay sl;have hT:(BitVec.setWidth 64 o.e).toNat=o.e.toNat:=by rw[BitVec.toNat_setWidth]; exact Nat.mod_eq_of_lt (by have:=o.e.isLt; omega)
 have px:(BitVec.setWidth 64 o.s).toNat=o.s.toNat:=by rw[BitVec.toNat_setWidth]; exact Nat.mod_eq_of_lt (by have:=o.s.isLt; omega)
 have aP:l.length<(l++[bt.cells 11 (bD o)]).length:=by simp
 have fC:(l++[bt.cells 11 (bD o)])[l.length]? = some (.cells 11 (bD o)) :=by simp
 simp[bD];refine abR o ay sl fun cb l1 h1=>?_
 have qM:l1[l.length]? = some (.cells 11 (bD o)) :=by rw[h1.same _ aP]; exact fC
 have oA:l.length<l1.length:=by have:=h1.le; simp at this; omega
 have vR:=qM;simp[bD] at vR;simp[vR];refine uA _ fun w2 ce ag=>?_
 rw[hT] at ag;obtain⟨eg,eO,a3,gH,_⟩:=(h1.frame ag.le ag.same).app (by_:=1) (x:=w2) (xs:=ed o.e.toNat) ag.contents (by simp[cd]) (by omega) (by omega) (by rw[aC]; omega);have qN:ce[l.length]? = some (.cells 11 (bD o)) :=by rw[ag.same _ oA]; exact qM
 have cL:eO[l.length]? = some (.cells 11 (bD o)) :=by rw[gH.same _ aP]; exact fC
 have pw:=qN;have tY:=cL;simp[bD] at pw tY;simp[pw,a3];refine dK.cM ?_;simp[tY];refine uA _ fun nV jy aJ=>?_
 rw[px] at aJ;obtain⟨rv,KV,a5,u5,_⟩:=(gH.frame aJ.le aJ.same).app (by_:=1) (x:=nV) (xs:=ed o.s.toNat) aJ.contents (by simp[cd]) (by omega) (by omega) (by rw[aC]; simp only[List.length_append]; omega);simp[a5];refine dK.cM ?_;simp;exact a8 _ _ (u5.base (by simp) fun b ai=>List.getElem?_append_left ai)
theorem anQ (o:bQ) (ay:kF o) (sl:o.bO.l.length<=1000) :bR Tryz.prog GS 32 [.aV (bD o)] (fk (hy (hI o))) :=by
 refine cf Tryz.checked.mixed b2 ?_;apply bH RO aaH;unfold Hg Nc;have bY:=hw o.e.toNat
 have qL:=hw o.s.toNat
 have kt:=Yt o ay sl;have eT:(hy (hI o)).length=32:=sZ _;simp[bD];refine anH o ay sl fun cb l1 h1=>?_
 have fC:l1[1]? = some (.cells 32 (rep 32 (.int .u8 0))) :=by rw[h1.same 1 (by simp)]; rfl
 simp;refine iF (N8 (some (hI o)) (by simp[hI]; omega)) (.cons (h1.pW (fun _=>rfl) (some (hI o)) rfl rfl) .nil) (by simp[ae.flat,kM,fk,w6 bI (fun _=>rfl)]) ?_;have ss:bS (rep 32 (.int .u8 0)) 0 ((hy (hI o)).map bI)=(hy (hI o)).map bI:=g8 (by rw[List.length_map,eT]; rfl);have l8:(l1.set 1 (bt.cells 32 ((hy (hI o)).map bI)))[1]? = some (.cells 32 ((hy (hI o)).map bI)) :=List.getElem?_set_self (e9 fC);simp[fC,fk,eT,ss,l8,List.take_of_length_le];exact a1 rfl (by simp[ae.closed,kK bI (fun _=>rfl)])
theorem BV:∀ a b:List B,a.length=b.length->e8 (a.map bI) (b.map bI)=decide (a=b)
 | [],[],_=>rfl
 | [],_::_,h=>by simp at h
 | _::_,[],h=>by simp at h
 | x::a,y::b,h=>by
  have aL:=BV a b (by simpa using h);simp only[List.map_cons,e8,aL,ae.beq,decide_true,Bool.true_and];by_cases h1:x=y
  ·by_cases ag:a=b<;>simp[h1,ag]
  ·have:¬ u x=u y:=fun h=>h1 ((ru x y).1 h)
   simp[h1]
theorem yk:∀ a:List B,hG (List.replicate a.length (.i .u8)) (a.map bI)=true
 | []=>rfl
 | x::a=>by
  rw[List.length_cons,List.replicate_succ,List.map_cons];simp only[hG,yk a,EK,decide_true,Bool.and_self]
theorem WH:qZ Tryz.prog 20 71=some (List.replicate 32 (.i .u8)) :=by kernel_rfl
theorem DG {a b:List B} (aG:a.length=32) (ai:b.length=32) :gc Tryz.prog .eql 71 (.aV (a7 a)) (.aV (a7 b))=some (.bool (decide (a=b))) :=by
 unfold a7;rw[Fv WH (by kernel_rfl) (by kernel_rfl) (by have:=yk a; rwa [aG] at this) (by have:=yk b; rwa [ai] at this),BV a b (by omega)]
theorem Ku {a b:List B} (aG:a.length=32) (ai:b.length=32) :gc Tryz.prog .neq 71 (.aV (a7 a)) (.aV (a7 b))=some (.bool (!decide (a=b))) :=by
 unfold a7;rw[Fw WH (by kernel_rfl) (by kernel_rfl) (by have:=yk a; rwa [aG] at this) (by have:=yk b; rwa [ai] at this),BV a b (by omega)]
theorem ame (s:fz) :gc Tryz.prog .eql 26 (cO 32 a7 s) .aX=some (.bool s.isNone) :=Fu (e:=71) (by kernel_rfl) 32 a7 s
theorem ams (l:av) :cw 32 a7 l (l++[.cells 0 []]) (.ao 32 l.length 0 0 0 0) ([] :List (List B)) false:=
 ⟨l.length,.ao l.length 0 0 0 [] [] (by simp) rfl rfl (by simp) (Nat.le_refl _) (by omega) rfl,by simp,fun b ai=>List.getElem?_append_left ai,.inr (Nat.le_refl _),rfl⟩
theorem akt (s:fz) (ay:hx s) (ar:s.l.length<=1000000) {l:av} {K:ae->av->Prop} (a8:∀ v l',cw 32 a7 l l' v s.l s.isNone->K v l') :
  dh Tryz.prog GS 150 [bc s] l (c:=⟨K⟩) :=by
 apply bH QR ZJ;unfold Gd Mm;have aC:cT=140737488355328:=rfl;cases s with
 | none=>
  simp[bc];exact a8 _ _ cw.nil
 | some a=>
  simp at ar;obtain⟨bf,l',bj,bz,_⟩:=(ams l).app (by_:=32) (x:=cO 32 a7 (some a)) (xs:=a) (zu _ 32 a7 (some a)) (fun y aK=>dd (ay y aK)) (by omega) (by omega) (by rw[aC]; simp; omega);simp[bc,ame,bj];refine dK.cM ?_;simp;exact a8 _ _ (by simpa using bz)
def oi (l:List (List B)) (m:Nat) :List (List B) :=(List.range m).flatMap fun k=>if k=0\/ch l k≠ch l (k - 1) then [ch l k] else []
def qq (l:List (List B)) :List (List B) :=oi l l.length
theorem zx (l:List (List B)) (m:Nat) :oi l (m+1)=oi l m++(if m=0\/ch l m≠ch l (m - 1) then [ch l m] else []) :=by
 unfold oi; rw[List.range_succ,List.flatMap_append]; simp
theorem Th (l:List (List B)) :∀ m,(oi l m).length<=m
 | 0=>by simp[oi]
 | m+1=>by
  have:=Th l m;rw[zx,List.length_append];split<;>simp<;>omega
theorem zw {l:List (List B)}:∀ {m},m<=l.length->(∀ k,1<=k->k<m->ch l k≠ch l (k - 1))->oi l m=l.take m
 | 0,_,_=>by simp[oi]
 | m+1,hm,h=>by
  rw[zx,zw (by omega) (fun k h1 ag=>h k h1 (by omega)),List.take_add_one,if_pos (by
   by_cases aT:m=0
   ·exact .inl aT
   ·exact .inr (h m (by omega) (by omega)))]
  congr 1;unfold ch;rw[List.getD_eq_getElem?_getD,List.getElem?_eq_getElem (by omega)];rfl
theorem Ti {l:List (List B)} {k:Nat} (h1:1<=k) (aw:ch l k=ch l (k - 1)) :∀ {m},k<m->(oi l m).length<m
 | 0,h=>by omega
 | m+1,h=>by
  rw[zx,List.length_append];by_cases hk:k=m
  ·subst hk;have:=Th l k;rw[if_neg (fun h=>h.elim (fun aT=>by omega) (fun ag=>ag aw))];simp; omega
  ·have:=Ti h1 aw (m:=m) (by omega);split<;>simp<;>omega
theorem af9 {l:List (List B)} (ar:wu l=true) :((qq l).length=l.length)<->eU l=true:=by
 unfold wu at ar;rw[decide_eq_true_eq] at ar;unfold eU qq;rw[decide_eq_true_eq];constructor
 ·intro h k hk h1;have ag:=ar k hk h1;have ap:ch l k≠ch l (k - 1) :=fun aw=>by
   have:=Ti h1 aw hk;omega
  have aJ:=Cc (ch l k) (ch l (k - 1));have bd:cN (ch l (k - 1)) (ch l k)≠0:=fun aT=>ap (zp aT).symm
  omega
 ·intro h;rw[zw (Nat.le_refl _) (fun k h1 ag aw=>by
   have:=h k ag h1;rw[<-aw,qo] at this;omega),List.take_length]
theorem DH {a:List (List B)} {k:Nat} (h:k<a.length) :(a.map a7)[k]? = some (a7 (ch a k)) :=by
 rw[List.getElem?_map];unfold ch;rw[List.getD_eq_getElem?_getD,List.getElem?_eq_getElem h];rfl
theorem DF {a:List (List B)} {k:Nat} (h:k<a.length) :ch a k∈a:=by
 unfold ch;rw[List.getD_eq_getElem?_getD,List.getElem?_eq_getElem h];exact List.getElem_mem h
structure adL (l:av) (v:ae) (xs:List (List B)) (k:Nat) (ah:bi) (l1:av) :Prop where
 cC:ah 0=v
 bh:ah 3=.int .i64 ((k+1:Nat) :Int)
 au:l1=l
 ar:∀ j,1<=j->j<k+1->ch xs j≠ch xs (j - 1)
structure adK (l:av) (v ef:ae) (j:Nat) (xs:List (List B)) (m i:Nat) (ah:bi) (ce:av) :Prop where
 cC:ah 0=v
 bK:ah 4=ef
 bw:ah 5=.int .i64 ((i+1:Nat) :Int)
 ex:∃ (k:Nat) (bl:List (List B)),ah 3=.int .i64 (k:Int)/\bX 32 ce v j (bl.map a7)/\bl.length=xs.length/\(∀ y∈bl,y.length=32)/\bl.take k=oi xs (m+i+1)/\k<=m+i/\(∀ t,m+i<=t->ch bl t=ch xs t)/\ce.length=l.length/\∀ b,b≠j->ce[b]? = l[b]?
theorem af7 {l:av} {v:ae} {j k:Nat} {bl:List (List B)} (h:bX 32 l v j (bl.map a7)) (hk:k<bl.length) :
  ∃ v3 eO r,fQ (.ao 32) v (some (.int .i64 (k:Int))) none none=some v3/\qm (rep 32 (.int .u8 0)) l v3=some eO/\fQ (.ao 32) v none (some (.int .i64 (k:Int))) none=some r ∧
   bX 32 eO r j ((bl.take k).map a7)/\cU r=false/\eO.length=l.length/\∀ b,b≠j->eO[b]? = l[b]?:=by
 generalize aw:bl.map a7=es at h;cases h with
 | nil j=>rw[List.map_eq_nil_iff] at aw; subst aw; simp at hk
 | ao j n cap sz cs es ai au aH aB al c3 cp=>
  subst aw;have qK:bl.length=n:=by simpa using aH
  have gA:iN (.int .i64 (k:Int)) n=some k:=by
   show (if 0<=(k:Int)/\(k:Int)<=(n:Int) then some (k:Int).toNat else none)=some k;rw[if_pos ⟨by omega,by omega⟩]; simp
  have fU:iN (.int .i64 (k:Int)) cap=some k:=by
   show (if 0<=(k:Int)/\(k:Int)<=(cap:Int) then some (k:Int).toNat else none)=some k;rw[if_pos ⟨by omega,by omega⟩]; simp
  have ev:gd n cap (some (.int .i64 (k:Int))) none none=some (k,n,cap) :=by
   show (match iN (.int .i64 (k:Int)) n with | none=>none | some l=>some (l,n,cap))=_;rw[gA]
  have dU:gd n cap none (some (.int .i64 (k:Int))) none=some (0,k,cap) :=by
   show (match iN (.int .i64 (k:Int)) cap with | none=>none | some h=>some (0,h,cap))=_;rw[fU]
  have dW:¬ cap=k:=by omega
  have xm:¬ cap=0:=by omega
  have eR:j<l.length:=e9 ai;have fE:k*32<=n*32:=Nat.mul_le_mul_right _ (by omega);have jY:n*32<=cap*32:=Nat.mul_le_mul_right _ al;have oI:(dm (rep 32 (.int .u8 0)) (n - k)).length=(n - k)*32:=by rw[yy]; rfl
  have ajh:k*32+(n - k)*32=n*32:=by rw[<-Nat.add_mul]; congr 1; omega
  refine⟨.ao 32 j (k*32) (n - k) (cap - k) sz,l.set j (.cells sz (bS cs (k*32) (dm (rep 32 (.int .u8 0)) (n - k)))),.ao 32 j 0 k cap sz,?_,?_,?_,?_,rfl,by simp,fun b g1=>by rw[List.getElem?_set_ne (fun h=>g1 h.symm)]⟩
  ·rw[ws,ev]; simp[dW]
  ·unfold qm;simp only;rw[if_neg (by omega)];simp[ai]
  ·rw[ws,dU]; simp[xm]
  ·refine .ao j k cap sz _ _ (List.getElem?_set_self eR) (by rw[p1 (by omega),oI]; omega) (by simp; omega) (fun e aw=>?_) (by omega) c3 ?_
   ·obtain⟨y,aK,rfl⟩:=List.mem_map.1 aw;exact aB _ (List.mem_map_of_mem (List.mem_of_mem_take aK))
   ·unfold bS;rw[List.append_assoc,List.take_append_of_le_length (by rw[List.length_take]; omega),List.take_take,Nat.min_self];have aZ:cs.take (k*32)=(cs.take (n*32)).take (k*32) :=by rw[List.take_take,Nat.min_eq_left fE]
    have b4:bl.map a7=(bl.take k).map a7++(bl.drop k).map a7:=by rw[<-List.map_append,List.take_append_drop]
    have dC:((bl.take k).map a7).flatten.length=k*32:=by
     rw[lk (z:=32) (fun e aw=>by obtain⟨y,aK,rfl⟩:=List.mem_map.1 aw; exact aB _ (List.mem_map_of_mem (List.mem_of_mem_take aK)))];simp; omega
    rw[aZ,cp,b4,List.flatten_append,List.take_append_of_le_length (by omega),List.take_of_length_le (by omega)]
theorem YG {bl:List (List B)} (aB:∀ y∈bl,y.length=32) (k:Nat) (hk:k<=bl.length) {n:Nat} (aH:bl.length=n) {cs:List ae} (cp:cs.take (n*32)=(bl.map a7).flatten) (au:n*32<=cs.length) :
  cs.take (k*32)=((bl.take k).map a7).flatten/\(cs.drop (k*32)).take (n*32 - k*32)=((bl.drop k).map a7).flatten:=by
 have fE:k*32<=n*32:=Nat.mul_le_mul_right _ (by omega);have b4:bl.map a7=(bl.take k).map a7++(bl.drop k).map a7:=by rw[<-List.map_append,List.take_append_drop]
 have dC:((bl.take k).map a7).flatten.length=k*32:=by
  rw[lk (z:=32) (fun e aw=>by obtain⟨y,aK,rfl⟩:=List.mem_map.1 aw; exact dd (aB _ (List.mem_of_mem_take aK)))];simp; omega
 have aZ:cs.take (k*32)=(cs.take (n*32)).take (k*32) :=by rw[List.take_take,Nat.min_eq_left fE]
 constructor
 ·rw[aZ,cp,b4,List.flatten_append,List.take_append_of_le_length (by omega),List.take_of_length_le (by omega)]
 ·rw[<-List.drop_take,cp,b4,List.flatten_append,List.drop_append_of_le_length (by omega),List.drop_of_length_le (by omega),List.nil_append]
theorem aoO {l:av} {v:ae} {j k:Nat} {bl:List (List B)} {x:List B} (h:bX 32 l v j (bl.map a7)) (aB:∀ y∈bl,y.length=32) (hk:k<bl.length) (aj:x.length=32) :
  ∃ p l',cS (.ao 32) v (.int .i64 (k:Int))=some p/\jF 32 l p (.aV (a7 x))=some l'/\bX 32 l' v j ((bl.set k x).map a7)/\l'.length=l.length/\∀ b,b≠j->l'[b]? = l[b]?:=by
 generalize aw:bl.map a7=es at h;cases h with
 | nil j=>rw[List.map_eq_nil_iff] at aw; subst aw; simp at hk
 | ao j n cap sz cs es ai au aH kY al c3 cp=>
  subst aw;have qK:bl.length=n:=by simpa using aH
  have eR:j<l.length:=e9 ai;have bF:=dd aj;have fE:(k+1)*32<=n*32:=Nat.mul_le_mul_right _ (by omega);have jY:n*32<=cap*32:=Nat.mul_le_mul_right _ al;have ar:(k+1)*32=k*32+32:=by rw[Nat.succ_mul]
  obtain⟨f1,_⟩:=YG aB k (by omega) qK cp (by omega);obtain⟨_,f2⟩:=YG aB (k+1) (by omega) qK cp (by omega);refine⟨.ptr j (k*32) sz,l.set j (.cells sz (bS cs (k*32) (a7 x))),?_,?_,?_,by simp,fun b g1=>by rw[List.getElem?_set_ne (fun h=>g1 h.symm)]⟩
  ·simp[cS]; omega
  ·unfold jF;simp[ai,ae.cells,bF];omega
  ·refine .ao j n cap sz _ _ (List.getElem?_set_self eR) (by rw[p1 (by omega),bF]; omega) (by simp; omega) (fun e aw=>?_) al c3 ?_
   ·obtain⟨y,aK,rfl⟩:=List.mem_map.1 aw;rcases List.mem_or_eq_of_mem_set aK with h | h
    ·exact dd (aB _ h)
    ·rw[h]; exact bF
   ·have l8:bl.set k x=bl.take k++(x::bl.drop (k+1)) :=by rw[List.set_eq_take_append_cons_drop,if_pos hk]
    rw[l8,List.map_append,List.map_cons,List.flatten_append,List.flatten_cons,<-f1,<-f2];unfold bS;have t1:(cs.take (k*32)).length=k*32:=by rw[List.length_take]; omega
    have hK:(cs.take (k*32)).take (n*32)=cs.take (k*32) :=List.take_of_length_le (by rw[t1]; omega);have jf:(a7 x).take (n*32 - k*32)=a7 x:=List.take_of_length_le (by rw[bF]; omega);rw[List.append_assoc,bF,<-ar,List.take_append,t1,hK,List.take_append,jf,bF,show n*32 - k*32 - 32=n*32 - (k+1)*32 by omega]
theorem afY {eZ l:av} {v:ae} {xs:List (List B)} {gv:Bool} (h:cw 32 a7 eZ l v xs gv) (aj:∀ x∈xs,x.length=32) (aH:xs.length<=1000000) {K:ae->av->Prop} (a8:∀ r l',cw 32 a7 eZ l' r (qq xs) gv->K r l') :
  dh Tryz.prog GS 149 [v] l (c:=⟨K⟩) :=by
 apply bH QQ ZI;unfold Gc Ml;have bA:=h.len;by_cases ag:xs.length<2
 ·have fT:(xs.length:Int)<2:=by omega
  have xp:qq xs=xs:=by
   unfold qq;rw[zw (Nat.le_refl _) (fun k h1 ap=>by omega),List.take_length]
  simp[bA,fT];exact a8 _ _ (by rw[xp]; exact h)
 ·have fT:¬ (xs.length:Int)<2:=by omega
  simp[bA,fT];refine c7 (xs.length - 1) (adL l v xs) ?_ ⟨by simp,by simp,rfl,fun j h1 ap=>by omega⟩;rintro k ah l1 hk ⟨cC,bh,rfl,ar⟩;obtain⟨ah,rfl⟩:=o3 cC bh;clear cC bh;obtain⟨m,hm⟩:∃ m,m=k+1:=⟨_,rfl⟩
  rw[<-hm] at ar ⊢;unfold W2;by_cases aP:m<xs.length
  ·have aZ:IntKind.i64.wrap ((m:Int) - 1)=(k:Int) :=by rw[IntKind.wrap_i64]; omega
   have b4:IntKind.i64.wrap ((m:Int)+1)=((m+1:Nat) :Int) :=by rw[IntKind.wrap_i64]; omega
   have h7:(m:Int)<(xs.length:Int) :=by omega
   obtain⟨j,ay,mH⟩:=h;obtain⟨rf,cX,yg,bj,bz,a3,a4⟩:=ay.q.get (k:=.i64) (DH aP);obtain⟨Lq,dB,nG,ev,dU,gH,oc⟩:=ay.q.get (k:=.i64) (DH (a:=xs) (k:=k) (by omega));have hr:=DG (aj _ (DF aP)) (aj _ (DF (a:=xs) (k:=k) (by omega)));obtain⟨X,dN⟩:∃ X,X=ch xs m:=⟨_,rfl⟩
   obtain⟨Y,fb⟩:∃ Y,Y=ch xs k:=⟨_,rfl⟩
   rw[<-dN] at a4 hr;rw[<-fb] at oc hr;by_cases aw:X=Y
   ·have sh:gc Tryz.prog .eql 71 (.aV (a7 X)) (.aV (a7 Y))=some (.bool true) :=by rw[hr,decide_eq_true aw]
    have ax:cU v=false:=by
     cases tX:cU v with
     | false=>rfl
     | true=>
      have:=iW.1 tX;subst this;have:=ay.q.ye;rw[List.map_eq_nil_iff] at this;rw[this] at aP; simp at aP
    obtain⟨ef,dZ,mQ,_⟩:=ay.q.from ax (k:=.i64) (i:=m) (by simp; omega);have aT:oi xs m=xs.take m:=zw (by omega) ar;have h1:oi xs (m+1)=xs.take m:=by rw[zx,if_neg (fun h=>h.elim (fun aT=>by omega) (fun ag=>ag (by rw[<-dN,show m - 1=k by omega,<-fb]; exact aw))),aT,List.append_nil]
    simp[bA,h7,aZ,bj,bz,a3,a4,ev,dU,gH,oc,sh,dZ];refine c7 (xs.length - m - 1) (adK l1 v ef j xs m) ?_ ⟨by simp,by simp,by simp,m,xs,by simp,ay,rfl,aj,h1.symm,by omega,fun t _=>rfl,rfl,fun b _=>rfl⟩;rintro i ah ce aA ⟨cC,bK,bw,q,bl,bh,bp,ds,sx,hU,vV,nw,Ak,l2⟩;obtain⟨ah,rfl⟩:=jg cC bh bK bw;clear cC bh bK bw;obtain⟨er,aiS⟩:∃ er,er=i+1:=⟨_,rfl⟩
    rw[<-aiS];unfold W1;obtain⟨axs,aco,Ou,_⟩:=bp.q.from ax (k:=.i64) (i:=m) (by simp; omega);rw[dZ] at aco;obtain rfl:=Option.some.inj aco;have hD:=Ou.len;rw[List.length_drop,List.length_map,ds] at hD;by_cases oB:er<xs.length - m
    ·have Di:(er:Int)<((xs.length - m:Nat) :Int) :=by omega
     have cb:IntKind.i64.wrap ((er:Int) - 1)=(i:Int) :=by rw[IntKind.wrap_i64]; omega
     have w2:IntKind.i64.wrap ((er:Int)+1)=((er+1:Nat) :Int) :=by rw[IntKind.wrap_i64]; omega
     have eg:IntKind.i64.wrap ((q:Int)+1)=((q+1:Nat) :Int) :=by rw[IntKind.wrap_i64]; omega
     obtain⟨awu,kf,pS,jJ,mu,BG,rx⟩:=Ou.get (k:=.i64) (i:=er) (e:=a7 (ch bl (m+er))) (by rw[List.getElem?_drop]; exact DH (by omega));obtain⟨awv,jm,sO,k9,o5,adx,Pe⟩:=Ou.get (k:=.i64) (i:=i) (e:=a7 (ch bl (m+i))) (by rw[List.getElem?_drop]; exact DH (by omega));have sy:=sx _ (DF (a:=bl) (k:=m+er) (by omega));have kY:=sx _ (DF (a:=bl) (k:=m+i) (by omega));have bY:=Ku sy kY;have xN:=nw (m+er) (by omega);have xO:=nw (m+i) (by omega);have bN:=zx xs (m+er);rw[show m+er - 1=m+i by omega] at bN;obtain⟨u3,ahU⟩:∃ X,X=ch bl (m+er) :=⟨_,rfl⟩
     obtain⟨Fc,I3⟩:∃ Y,Y=ch bl (m+i) :=⟨_,rfl⟩
     rw[<-ahU] at rx bY sy xN;rw[<-I3] at Pe bY xO;rw[<-xN,<-xO] at bN;rw[show m+i+1=m+er by omega] at hU;by_cases xr:u3=Fc
     ·have vO:gc Tryz.prog .neq 71 (.aV (a7 u3)) (.aV (a7 Fc))=some (.bool false) :=by rw[bY]; simp[xr]
      rw[if_neg (fun h=>h.elim (fun aT=>by omega) (fun ag=>ag xr)),List.append_nil] at bN;simp[hD,Di,cb,jJ,mu,BG,rx,k9,o5,adx,Pe,vO,w2];exact⟨by omega,by simp,by simp,by simp,q,bl,by simp,bp,ds,sx,by rw[bN]; exact hU,by omega,fun t aU=>nw t (by omega),Ak,l2⟩
     ·have vO:gc Tryz.prog .neq 71 (.aV (a7 u3)) (.aV (a7 Fc))=some (.bool true) :=by rw[bY]; simp[xr]
      rw[if_pos (.inr xr)] at bN;obtain⟨YD,eO,lH,iH,z3,z4,z5⟩:=aoO bp sx (k:=q) (x:=u3) (by omega) sy;simp[hD,Di,cb,jJ,mu,BG,rx,k9,o5,adx,Pe,vO,w2,eg,lH,iH];have OS:(bl.take q).length=q:=by rw[List.length_take]; omega
      have py:(bl.set q u3).take (q+1)=bl.take q++[u3] :=by
       rw[List.set_eq_take_append_cons_drop,if_pos (by omega),List.take_append,OS,List.take_of_length_le (by omega),show q+1 - q=1 by omega]; simp
      refine⟨by omega,by simp,by simp,by simp,q+1,bl.set q u3,by simp,z3,by simp[ds],fun y aK=>?_,by rw[py,bN,hU],by omega,fun t aU=>?_,by omega,fun b ai=>(z5 b ai).trans (l2 b ai)⟩
      ·rcases List.mem_or_eq_of_mem_set aK with h | h
       ·exact sx _ h
       ·rw[h]; exact sy
      ·have:=nw t (by omega);unfold ch at this ⊢;rw[List.getD_eq_getElem?_getD,List.getElem?_set_ne (by omega),<-List.getD_eq_getElem?_getD];exact this
    ·have Di:¬ (er:Int)<((xs.length - m:Nat) :Int) :=by omega
     obtain⟨v3,eO,r,lH,iH,z3,z4,z5,aqY,Pf⟩:=af7 bp (k:=q) (by omega);simp[hD,Di,lH,iH,z3];obtain⟨aY,a2,bh,bK⟩:=mH;have Jt:eZ.length<=j:=bh.resolve_left (fun h=>by rw[h] at ax; cases ax);have xt:m+i+1=xs.length:=by omega
     rw[xt] at hU;refine a8 _ _ ⟨j,by unfold qq; rw[<-hU]; exact z4,by omega,fun b ai=>?_,.inr Jt,by rw[z5,<-bK,ax]⟩;rw[Pf b (by omega),l2 b (by omega)];exact a2 b ai
   ·have sh:gc Tryz.prog .eql 71 (.aV (a7 X)) (.aV (a7 Y))=some (.bool false) :=by rw[hr,decide_eq_false aw]
    simp[bA,h7,aZ,bj,bz,a3,a4,ev,dU,gH,oc,sh,b4];refine⟨by omega,by simp,by simp[hm],rfl,fun t h1 ag=>?_⟩;by_cases aU:t=m
    ·rw[aU,<-dN,show m - 1=k by omega,<-fb]; exact aw
    ·exact ar t h1 (by omega)
  ·have h7:¬ (m:Int)<(xs.length:Int) :=by omega
   have xp:qq xs=xs:=by
    unfold qq;rw[zw (Nat.le_refl _) (fun k h1 ap=>ar k h1 (by omega)),List.take_length]
   simp[bA,h7];exact a8 _ _ (by rw[xp]; exact h)
theorem aor {l:List (List B)} (h:eU l=true) :wu l=true:=by
 unfold eU at h;rw[decide_eq_true_eq] at h;exact acA fun k hk h1=>by
  have:=h k hk h1;have aJ:=Cc (ch l k) (ch l (k - 1));omega
theorem ES (o:bQ) (ay:kF o) :bR Tryz.prog GS 107 [.aV (bD o)] (.int .i64 (fY o)) :=by
 refine cf Tryz.checked.mixed b2 ?_;apply bH Qj Zb;unfold FJ LR fY;have ez:=hb o.bO;have bA:c8 (.ao 32) (bc o.bO)=some (.int .i64 o.bO.l.length) :=by simp[bc]
 have ix:(bc o.bO).cells=some [bc o.bO] :=by cases o.bO<;>rfl
 by_cases h1:4<o.bO.l.length
 ·have dH:(4:Int)<(o.bO.l.length:Int) :=by omega
  rw[if_pos h1];simp[bD,bA,dH];exact a1 rfl rfl
 ·have dH:¬ (4:Int)<(o.bO.l.length:Int) :=by omega
  rw[if_neg h1];simp[bD,bA,dH];refine bC (akX o.bO ay.ids ay.len) (by simp[bM,ez,ae.closed]) ?_;cases ag:wu o.bO.l with
  | false=>
   have ap:eU o.bO.l=false:=by
    cases ap:eU o.bO.l with
    | false=>rfl
    | true=>rw[aor ap] at ag; cases ag
   simp[ap,bA];exact a1 rfl rfl
  | true=>
   simp[bA];refine akt o.bO ay.ids ay.len fun fR l1 aY=>?_
   have ah3:l1[0]? = some (.cells 11 (bD o)) :=by rw[aY.same 0 (by simp)]; rfl
   have UD:=ah3;simp[bD] at UD;simp[UD];refine afY aY ay.ids ay.len fun ef ce a2=>?_
   have fC:ce[0]? = some (.cells 11 (bD o)) :=by rw[a2.same 0 (by simp)]; rfl
   have xl:=fC;simp[bD] at xl;have hD:=a2.len;have xp:=af9 ag;cases ap:eU o.bO.l with
   | false=>
    have bY:¬ ((qq o.bO.l).length:Int)=(o.bO.l.length:Int) :=fun h=>by
     have:=xp.1 (by omega);rw[ap] at this; cases this
    simp[hD,xl,bA,bY];exact a1 rfl rfl
   | true=>
    have heq:((qq o.bO.l).length:Int)=(o.bO.l.length:Int) :=by have:=xp.2 ap; omega
    simp[hD,xl,bA,heq];refine bC (KG o.ha) rfl ?_;unfold r1;cases bd:fG o.ha with
    | false=>
     simp;exact a1 rfl rfl
    | true=>
     have cK:((1000000000000:Int)<u o.ii)<->¬ o.ii.toNat<=1000000000000:=by unfold u; omega
     by_cases bL:o.ii.toNat<=1000000000000
     ·have tG:¬ ((1000000000000:Int)<u o.ii) :=fun h=>cK.1 h bL
      have vM:((500000003:Int)<=max (u o.e:Int) (u o.s))<->¬ (iu o.e&&iu o.s)=true:=by
       unfold iu u;simp only[Bool.and_eq_true,decide_eq_true_eq];omega
      have Vv:sJ (bE o.e) (bE o.s)=some (.int .u32 (max (u o.e:Int) (u o.s))) :=by
       show (if IntKind.u32=IntKind.u32 then some (ae.int .u32 (if (u o.e:Int)<u o.s then u o.s else u o.e)) else none)=_;rw[if_pos rfl];congr 2;split<;>omega
      cases eN:(iu o.e&&iu o.s) with
      | false=>
       have zS:(500000003:Int)<=max (u o.e:Int) (u o.s) :=vM.2 (by rw[eN]; simp);simp[xl,bL,tG,Vv,zS];exact a1 rfl rfl
      | true=>
       have zS:¬ (500000003:Int)<=max (u o.e:Int) (u o.s) :=fun h=>(vM.1 h) eN
       simp[xl,bL,tG,Vv,zS];refine bC (SY o.act) rfl ?_;cases hd:jk o.act with
       | false=>
        simp[jQ];exact a1 rfl rfl
       | true=>
        simp[jQ];exact a1 (by rw[if_pos bL]) rfl
     ·have tG:(1000000000000:Int)<u o.ii:=cK.2 bL;simp[xl,bL,tG];exact a1 rfl rfl
def ib (o:bQ) :List B:=if fY o=0 then hy (hI o) else List.replicate 32 0#8
theorem ym {o:bQ} (h:fY o=0) :o.bO.l.length<=4:=by
 unfold fY at h;split at h
 ·cases h
 ·omega
theorem Bp {l:av} {b n:Nat} {gC:List ae} {k:Nat} {w:ae} {kd:IntKind} (ai:l[b]? = some (.cells n gC)) (aH:gC.length=n) (hk:gC[k]? = some w) :
  ∃ p cs o,cS (.ao 1) (.ao 1 b 0 n n n) (.int kd (k:Int))=some p/\eC l p=some (cs,o)/\cs[o]? = some w:=by
 have aP:k<n:=by rw[<-aH]; exact (List.getElem?_eq_some_iff.1 hk).1
 refine⟨.ptr b (0+k*1) n,gC,0+k*1,?_,?_,by simpa using hk⟩
 ·simp only[cS,Int.toNat_natCast];rw[if_pos ⟨trivial,by omega,by omega⟩]
 ·simp only[eC,ai,if_true]
theorem aho {n:Nat} (aH:n<=1000000000) {l:av} {K:ae->av->Prop} (a8:∀ v l',cw 1 cd l l' v ([] :List B) (decide (n=0))->K v l') :dh Tryz.prog GS 155 [.aX,.int .i64 n] l (c:=⟨K⟩) :=by
 apply bH Gi Mr;unfold B3 Ej;have h1:¬((n:Int)<0) :=by omega
 have bB:IntKind.i64.wrap (n:Int)=n:=wrap_i64 (by omega) (by omega);have Kp:IntKind.i64.wrap (0:Int)=0:=rfl;by_cases aT:n=0
 ·subst aT;simp;exact a8 _ _ cw.nil
 have ag:(0:Int)<n:=by omega
 have aB:pe l 1 1 [.int .u8 0] .aX (.int .i64 n)=some (.ao 1 l.length 0 n n (n*1),l++[.cells (n*1) (dm [.int .u8 0] n)]) :=by
  unfold pe h0;simp only[Int.toNat_natCast];have aC:cT=140737488355328:=rfl;rw[if_pos ⟨by omega,by omega,by rw[aC]; omega⟩,if_neg aT,if_neg (by omega),if_pos (by rw[aC]; omega)]
 have ar:fQ (.ao 1) (.ao 1 l.length 0 n n (n*1)) none (some (.int .i64 0)) none=some (.ao 1 l.length 0 0 n (n*1)) :=by
  rw[ws,FA,if_pos ⟨by omega,by omega⟩];simp[aT]
 rw[Nat.mul_one] at aB ar;have ap:0<n:=by omega
 simp[h1,ag,ap,bB,aB,Kp,ar];refine a8 _ (l++[.cells n (dm [.int .u8 0] n)]) ⟨l.length,.ao _ 0 n n (dm [.int .u8 0] n) [] (by simp) (by rw[yy]; simp) rfl (by simp) (by omega) (by omega) rfl,by simp,fun b ai=>List.getElem?_append_left ai,.inr (Nat.le_refl _),?_⟩;simp[cU,aT]
def h4 (bs:List (List B)) :List B:=bs.flatten
theorem TJ {bs:List (List B)} {k:Nat} {s:List B} (h:bs[k]? = some s) :h4 (bs.take (k+1))=h4 (bs.take k)++s:=by
 unfold h4;rw[List.take_add_one,h]; simp
theorem TI (bs:List (List B)) (k:Nat) :(h4 (bs.take k)).length<=(h4 bs).length:=by
 conv=>rhs; rw[<-List.take_append_drop k bs]
 unfold h4;rw[List.flatten_append,List.length_append];omega
structure lL (l:av) (w:ae) (s:List B) :Prop where
 len:c8 (.ao 1) w=some (.int .i64 s.length)
 Td:∀ l',l.length<=l'.length->(∀ b,b<l.length->l'[b]? = l[b]?)->dv l' 1 w=some ((s.map cd).flatten,s.length)
theorem yh {l l1:av} {w:ae} {s:List B} {gv:Bool} (h:cw 1 cd l l1 w s gv) :lL l1 w s:=⟨h.len,fun l' h1 ag=>(h.frame h1 ag).contents⟩
theorem lL.frame {l l1:av} {w:ae} {s:List B} (h:lL l w s) (au:l.length<=l1.length) (ar:∀ b,b<l.length->l1[b]? = l[b]?) :lL l1 w s:=
 ⟨h.len,fun l' h1 ag=>h.Td l' (by omega) fun b ai=>by rw[ag b (by omega)]; exact ar b ai⟩
theorem YH {l:av} {b:Nat} {x:B} (h:l[b]? = some (.cells 1 [bI x])) :lL l (.ao 1 b 0 1 1 1) [x] :=by
 have:=e9 h;exact⟨rfl,fun l' h1 ag=>by have:=ag b this; rw[h] at this; simp[dv,this,cd]⟩
structure adJ (l:av) (X:ae) (bs:List (List B)) (k:Nat) (ah:bi) (l1:av) :Prop where
 kP:ah 25=X
 kQ:ah 26=.int .i64 bs.length
 xd:ah 27=.int .i64 k
 q8:∃ v,ah 6=v/\cw 1 cd l l1 v (h4 (bs.take k)) (decide ((h4 bs).length=0))
set_option maxHeartbeats 4000000 in
theorem Te {l:av} {b n:Nat} {gC:List ae} {bs:List (List B)} (ai:l[b]? = some (.cells n gC)) (akj:gC.length=n) (nh:bs.length=n)
  (aE:∀ (k:Nat) (w:ae) (s:List B),gC[k]? = some w->bs[k]? = some s->lL l w s) (au:(h4 bs).length<=1000000000) (Ak:n<=1000000000)
  {K:ae->av->Prop} (a8:∀ v l',cw 1 cd l l' v (h4 bs) (decide ((h4 bs).length=0))->K v l') :
  dh Tryz.prog GS 109 [.ao 1 b 0 n n n] l (c:=⟨K⟩) :=by
 apply bH FL LU;unfold B2 Ei;have sm:=e9 ai;have dN:∀ l',l.length<=l'.length->(∀ b,b<l.length->l'[b]? = l[b]?)->∀ k,k<n->∃ w s p cs o,gC[k]? = some w/\bs[k]? = some s/\lL l' w s/\cS (.ao 1) (.ao 1 b 0 n n n) (.int .i64 (k:Int))=some p/\eC l' p=some (cs,o)/\cs[o]? = some w:=by
  intro l' h1 ag k hk;obtain⟨w,bB,_⟩:=ck (l:=gC) (k:=k) (by omega);obtain⟨s,ar,_⟩:=ck (l:=bs) (k:=k) (by omega);obtain⟨p,cs,o,bj,bz,a3⟩:=Bp (kd:=.i64) (l:=l') (by rw[ag b sm]; exact ai) akj bB;exact⟨w,s,p,cs,o,bB,ar,(aE k w s bB ar).frame h1 ag,bj,bz,a3⟩
 obtain⟨X,qC⟩:∃ X,X=ae.ao 1 b 0 n n n:=⟨_,rfl⟩
 have zW:c8 (.ao 1) X=some (.int .i64 bs.length) :=by rw[qC,nh]; rfl
 rw[<-qC] at dN ⊢;simp[zW];refine c7 n (fun k ah l1=>ah 0=X/\ah 9=X/\ah 10=.int .i64 bs.length/\ah 11=.int .i64 k/\ah 3=.int .i64 (h4 (bs.take k)).length/\l1=l) ?_ ?_
 ·rintro k ah l1 hk ⟨cC,g0,fB,h6,bh,rfl⟩;obtain⟨ah,rfl⟩:=k7 cC bh g0 fB h6;clear cC bh g0 fB h6;unfold KT;simp;by_cases h:k<bs.length
  ·obtain⟨w,s,p,cs,o,bB,ar,J1,bj,bz,a3⟩:=dN l1 (Nat.le_refl _) (fun _ _=>rfl) k (by omega);have Ac:=TJ ar;have du:=TI bs (k+1);rw[Ac,List.length_append] at du;have l9:IntKind.i64.wrap (((h4 (bs.take k)).length:Int)+s.length)=((h4 (bs.take k)).length:Int)+s.length:=wrap_i64 (by omega) (by omega);have eW:IntKind.i64.wrap ((k:Int)+1)=k+1:=wrap_i64 (by omega) (by omega);have oC:¬(((h4 (bs.take k)).length:Int)+s.length<0) :=by omega
   have g3:=J1.len;simp[h,bj,bz,a3,g3,l9,oC,eW,Ac];omega
  ·have cZ:k=bs.length:=by omega
   subst cZ;rw[List.take_length];simp;refine aho au ?_;intro v l ay;simp[zW];refine c7 bs.length (adJ l1 X bs) ?_ ⟨by simp,by simp,by simp,v,by simp,by simpa [h4] using ay⟩;rintro k ah ce hk ⟨kP,kQ,xd,w,cl,ay⟩;obtain⟨ah,rfl⟩:=jg cl kP kQ xd;clear cl kP kQ xd;unfold KU;simp;by_cases h:k<bs.length
   ·obtain⟨y,s,p,cs,o,bB,ar,J1,bj,bz,a3⟩:=dN ce ay.le ay.same k (by omega);have Ac:=TJ ar;have du:=TI bs (k+1);rw[Ac,List.length_append] at du;have eW:IntKind.i64.wrap ((k:Int)+1)=k+1:=wrap_i64 (by omega) (by omega);have aC:cT=140737488355328:=rfl;obtain⟨bf,eO,ev,dU,gH⟩:=ay.app (by_:=1) (x:=y) (xs:=s) (J1.Td ce (Nat.le_refl _) fun _ _=>rfl) (by simp[cd]) (by omega) (by omega) (by rw[aC]; omega);simp[h,bj,bz,a3,ev];refine dK.cM ?_;simp[h,eW];refine⟨by simp,by simp,by simp,bf,by simp,?_⟩;rw[Ac];have l6:(decide ((h4 bs).length=0)&&s.isEmpty)=decide ((h4 bs).length=0) :=by
     by_cases aw:(h4 bs).length=0
     ·have:s=[] :=List.length_eq_zero_iff.1 (by omega);simp[aw,this]
     ·simp[aw]
    rw[l6] at dU;exact dU
   ·have cZ:k=bs.length:=by omega
    subst cZ;simp;rw[List.take_length] at ay;exact a8 _ _ ay
 ·simp[h4]
end Op
end Go.cn

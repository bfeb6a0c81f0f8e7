/-
  Values and acts, checked: walked in both texts.
-/
import Derived.Test.YtboebmmklamaeaaGreatDoorSi
set_option linter.unusedVariables false
set_option linter.unusedSimpArgs false
set_option linter.unnecessarySimpa false
namespace Go.cl
open Go Go.Proofs
set_option maxRecDepth 100000
namespace Op
open gX
structure hk where
 kind:B
 num:Int
 bits:Q
 text:List UInt8
def d0 (v:hk) :List ae:=[bG v.kind,.int .i64 v.num,dz v.bits,.str v.text]
def t6:hk:=⟨0#8,0,0#64,[]⟩
def iz (b:Q) :Nat:=b.toNat / 4503599627370496 % 2048
def nG (b:Q) :Q:=b % 4503599627370496#64
def cls (b:Q) :B:=if iz b=2047 then (if nG b=0#64 then 4#8 else 5#8) else if iz b=0 then (if nG b=0#64 then 1#8 else 2#8) else 3#8
def ll (b:Q) :Q:=if cls b=5#8 then 9221120237041090560#64 else b
theorem hi (k:B) :((u k:Int)=1)<->k=1#8:=qH k 1#8
theorem j1 (k:B) :((u k:Int)=2)<->k=2#8:=qH k 2#8
theorem nj (k:B) :((u k:Int)=3)<->k=3#8:=qH k 3#8
theorem tT (k:B) :((u k:Int)=4)<->k=4#8:=qH k 4#8
theorem DN (k:B) :((u k:Int)=5)<->k=5#8:=qH k 5#8
theorem amR (k:B) :((u k:Int)=0)<->k=0#8:=qH k 0#8
theorem r3 (k:Q) :((u k:Int)=0)<->k=0#64:=qH k 0#64
theorem RM (b:Q) :iz b<2048:=Nat.mod_lt _ (by decide)
theorem ab6 (n:Nat) (h:n<9223372036854775808) :ct .and .i64 (n:Int) .i64 2047=some (.int .i64 ((n % 2048:Nat) :Int)) :=by
 show some (ae.int .i64 (IntKind.i64.wrap ((BitVec.ofInt 64 (n:Int) &&& BitVec.ofInt 64 (2047:Int)).toNat:Int)))=_;have h1:(BitVec.ofInt 64 (n:Int) &&& BitVec.ofInt 64 (2047:Int)).toNat=n % 2048:=by
  rw[BitVec.ofInt_natCast,BitVec.toNat_and,BitVec.toNat_ofNat,Nat.mod_eq_of_lt (by omega)];exact Nat.and_two_pow_sub_one_eq_mod n 11
 have af:=Nat.mod_lt n (show 2048 > 0 by decide);rw[h1];generalize n % 2048=q at af;rw[wrap_i64 (by omega) (by omega)]
theorem aep (b:Q) :b &&& 4503599627370495#64=nG b:=by
 apply BitVec.eq_of_toNat_eq;unfold nG;rw[BitVec.toNat_and,BitVec.toNat_umod];exact Nat.and_two_pow_sub_one_eq_mod b.toNat 52
theorem al4 (b:Q) :bT Tryz.prog GS 201 [dz b] (.bU [.int .i64 (iz b),dz (nG b)]) :=by
 refine ca Tryz.checked.mixed b3 ?_;apply bI PZ Yw;unfold FW LF;have ai:=b.isLt;have h1:IntKind.i64.wrap (u (b >>> 52))=((b.toNat / 4503599627370496:Nat) :Int) :=by
  have:u (b >>> 52)=((b.toNat / 4503599627370496:Nat) :Int) :=by unfold u; rw[BitVec.toNat_ushiftRight,Nat.shiftRight_eq_div_pow]
  rw[this,wrap_i64 (by omega) (by omega)]
 have af:=ab6 (b.toNat / 4503599627370496) (by omega);have aw:iz b=b.toNat / 4503599627370496 % 2048:=rfl;rw[<-aw] at af;obtain⟨q,bp⟩:∃ q,b.toNat / 4503599627370496=q:=⟨_,rfl⟩
 rw[bp] at h1 af;have ap:ct .and .u64 (u b) .u64 4503599627370495=some (dz (nG b)) :=by
  rw[Og,kx,<-aep]; rfl
 have aH:ct .shr .u64 (u b) .u64 52=some (.int .u64 (u (b >>> 52))) :=su b .u64 52;simp[aH,h1,af,ap,-Og];exact aZ rfl rfl
theorem ak1 (b:Q) :bT Tryz.prog GS 194 [dz b] (.int .i64 (iz b)) :=by
 refine ca Tryz.checked.mixed b3 ?_;apply bI PS Yp;unfold FN Lv;have ai:=b.isLt;have h1:ct .rem .u64 (u b) .u64 9223372036854775808=some (dz (b % 9223372036854775808#64)) :=v6 b 9223372036854775808#64 (by decide);have af:ct .quo .u64 (u (b % 9223372036854775808#64)) .u64 4503599627370496=some (dz (b % 9223372036854775808#64 / 4503599627370496#64)) :=Kn _ 4503599627370496#64 (by decide);have ap:IntKind.i64.wrap (u (b % 9223372036854775808#64 / 4503599627370496#64))=(iz b:Int) :=by
  have:u (b % 9223372036854775808#64 / 4503599627370496#64)=(iz b:Int) :=by
   unfold u iz;rw[BitVec.toNat_udiv,BitVec.toNat_umod];show (((b.toNat % 9223372036854775808) / 4503599627370496:Nat) :Int)=_;congr 1;omega
  have aH:=RM b;rw[this,wrap_i64 (by omega) (by omega)]
 simp[h1,af,ap];exact aZ rfl rfl
theorem ak2 (b:Q) :bT Tryz.prog GS 195 [dz b] (dz (nG b)) :=by
 refine ca Tryz.checked.mixed b3 ?_;apply bI PT Yq;unfold FO Lw;have h1:ct .rem .u64 (u b) .u64 4503599627370496=some (dz (nG b)) :=v6 b 4503599627370496#64 (by decide);simp[h1];exact aZ rfl rfl
theorem ac8 (b:Q) :bT Tryz.prog GS 189 [dz b] (bG (cls b)) :=by
 refine ca Tryz.checked.mixed b3 ?_;apply bI PO Yk;unfold FJ Lr cls;simp;refine bv (al4 b) rfl ?_;have h1:((iz b:Int)=2047)<->iz b=2047:=by omega
 have af:((iz b:Int)=0)<->iz b=0:=by omega
 by_cases aV:iz b=2047
 ·by_cases aY:nG b=0#64
  ·simp[h1,aV,aY];exact aZ rfl rfl
  ·simp[h1,aV,aY,r3];exact aZ rfl rfl
 ·by_cases bd:iz b=0
  ·by_cases aY:nG b=0#64
   ·simp[h1,af,aV,aY,bd];exact aZ rfl rfl
   ·simp[h1,af,aV,aY,bd,r3];exact aZ rfl rfl
  ·simp[h1,af,aV,bd];exact aZ rfl rfl
theorem ak0 (b:Q) :bT Tryz.prog GS 177 [dz b] (bG (cls b)) :=by
 refine ca Tryz.checked.mixed b3 ?_;apply bI PB X6;unfold Fy Lg cls;simp;refine bv (ak1 b) rfl ?_;simp;refine bv (ak2 b) rfl ?_;have af:((iz b:Int)=0)<->iz b=0:=by omega
 have ap:((iz b:Int)<2047)<->¬ iz b=2047:=by have:=RM b; omega
 by_cases bd:iz b=0
 ·by_cases aY:nG b=0#64
  ·simp[af,aY,bd];exact aZ rfl rfl
  ·simp[af,aY,bd,r3];exact aZ rfl rfl
 ·by_cases aV:iz b=2047
  ·by_cases aY:nG b=0#64
   ·simp[af,ap,aV,aY];exact aZ rfl rfl
   ·simp[af,ap,aV,aY,r3];exact aZ rfl rfl
  ·simp[af,ap,aV,bd];exact aZ rfl rfl
theorem acW (b:Q) :bT Tryz.prog GS 163 [dz b] (dz (ll b)) :=by
 refine ca Tryz.checked.mixed b3 ?_;apply bI Ps XX;unfold Fo K7 ll;simp;refine bv (ac8 b) rfl ?_;by_cases h:cls b=5#8
 ·simp[DN,h];exact aZ rfl rfl
 ·simp[DN,h];exact aZ rfl rfl
theorem akY (b:Q) :bT Tryz.prog GS 137 [dz b] (dz (ll b)) :=by
 refine ca Tryz.checked.mixed b3 ?_;apply bI O5 XC;unfold E0 KL ll;simp;refine bv (ak0 b) rfl ?_;by_cases h:cls b=5#8
 ·simp[DN,h];exact aZ rfl rfl
 ·simp[DN,h];exact aZ rfl rfl
theorem amX (n:Int) :bT Tryz.prog GS 117 [.int .i64 n] (.aS (d0 ⟨1#8,n,0#64,[]⟩)) :=by
 refine ca Tryz.checked.mixed b3 ?_;apply bI OS Xp;unfold EP KA;simp;exact aZ rfl rfl
theorem amW (b:Q) :bT Tryz.prog GS 118 [dz b] (.aS (d0 ⟨2#8,0,ll b,[]⟩)) :=by
 refine ca Tryz.checked.mixed b3 ?_;apply bI OT Xq;unfold EQ KB;simp;refine bv (acW b) rfl ?_;simp;exact aZ rfl rfl
def qE (s:List UInt8) :hk × Int:=if s.length<=30 then (if s.all (gn 32) then (⟨3#8,0,0#64,s⟩,0) else (t6,8)) else (t6,4)
theorem amY (s:List UInt8) :bT Tryz.prog GS 119 [.str s] (.bU [.aS (d0 (qE s).1),.int .i64 (qE s).2]) :=by
 refine ca Tryz.checked.mixed b3 ?_;apply bI OU Xr;unfold ER KC qE;have af:((30:Int)<s.length)<->¬ s.length<=30:=by omega
 by_cases aY:s.length<=30
 ·simp[af,aY];refine bv (aar aen ams s) rfl ?_;have ap:=Jp 32 (by omega) s s.length 0 (by omega);rw[List.drop_zero] at ap;have aH:((0:Int)<=jA (lh 32) s s.length 0)<->¬ (s.all (gn 32)=true) :=by rw[<-ap]; omega
  cases ai:s.all (gn 32) with
  | true=>
   have bc:¬ (0:Int)<=jA (lh 32) s s.length 0:=by rw[aH,ai]; simp
   simp[bc];exact aZ (by simp[aY]; rfl) rfl
  | false=>
   have bc:(0:Int)<=jA (lh 32) s s.length 0:=by rw[aH,ai]; simp
   simp[bc];exact aZ (by simp[aY]; rfl) rfl
 ·simp[af,aY];exact aZ rfl rfl
def jd (v:hk) :Bool:=
 if v.kind=1#8 then decide (v.bits=0#64)&&decide (v.text=[])
 else if v.kind=2#8 then decide (v.num=0)&&decide (v.text=[])&&decide (ll v.bits=v.bits)
 else if v.kind=3#8 then decide (v.num=0)&&decide (v.bits=0#64)&&decide (v.text.length<=30)&&v.text.all (gn 32)
 else false
def kJ (b:Bool) :Int:=if b then 0 else 8
def aim:List kE:=[.i .u8,.i .i64,.i .u64,.s]
theorem UT:o4 Tryz.prog 20 29=some aim:=by kernel_rfl
theorem amZ (a b:hk) :fD Tryz.prog .eql 29 (.aS (d0 a)) (.aS (d0 b))=some (.bool (eD (d0 a) (d0 b))) :=AQ UT (by kernel_rfl) (by kernel_rfl) rfl rfl
theorem am0 (a b:hk) :fD Tryz.prog .neq 29 (.aS (d0 a)) (.aS (d0 b))=some (.bool (!eD (d0 a) (d0 b))) :=Ev UT (by kernel_rfl) (by kernel_rfl) rfl rfl
theorem Oo (a b:hk) :eD (d0 a) (d0 b)=(decide (a.kind=b.kind)&&(decide (a.num=b.num)&&(decide (a.bits=b.bits)&&decide (a.text=b.text)))) :=by
 simp[d0,eD,ae.beq]
theorem Nq {v:hk} (k:v.kind=1#8) :jd v=(decide (v.bits=0#64)&&decide (v.text=[])) :=by simp[jd,k]
theorem Nr {v:hk} (k:v.kind=2#8) :jd v=(decide (v.num=0)&&(decide (v.bits=ll v.bits)&&decide (v.text=[]))) :=by
 unfold jd;rw[if_neg (by rw[k]; decide),if_pos k,show decide (ll v.bits=v.bits)=decide (v.bits=ll v.bits) from decide_eq_decide.2 eq_comm];cases decide (v.num=0)<;>cases decide (v.text=[])<;>cases decide (v.bits=ll v.bits)<;>rfl
theorem aa3 {v:hk} (k:v.kind=3#8) :jd v=(decide (v.kind=(qE v.text).1.kind)&&(decide (v.num=(qE v.text).1.num)&&(decide (v.bits=(qE v.text).1.bits)&&decide (v.text=(qE v.text).1.text)))) :=by
 unfold jd qE;rw[if_neg (by rw[k]; decide),if_neg (by rw[k]; decide),if_pos k];by_cases h1:v.text.length<=30
 ·cases af:v.text.all (gn 32) with
  | true=>simp[h1,k]
  | false=>simp[h1,k,t6]
 ·simp[h1,k,t6]
theorem Ns {v:hk} (cd:v.kind≠1#8) (ce:v.kind≠2#8) (dH:v.kind≠3#8) :jd v=false:=by simp[jd,cd,ce,dH]
theorem aa1 (v:hk) :bT Tryz.prog GS 83 [.aS (d0 v)] (.int .i64 (kJ (jd v))) :=by
 refine ca Tryz.checked.mixed b3 ?_;apply bI QI Ze;unfold GG Ml;have aB:∀ (k:B) (n:Int) (b:Q) (t:List UInt8),fD Tryz.prog .neq 29 (.aS [bG v.kind,.int .i64 v.num,dz v.bits,.str v.text]) (.aS [bG k,.int .i64 n,dz b,.str t])=some (.bool (!(decide (v.kind=k)&&(decide (v.num=n)&&(decide (v.bits=b)&&decide (v.text=t)))))) :=fun k n b t=>by rw[<-Oo v ⟨k,n,b,t⟩]; exact am0 v ⟨k,n,b,t⟩
 by_cases cd:v.kind=1#8
 ·have h1:=aB 1#8 v.num 0#64 [];simp only[cd] at h1;unfold d0;simp[hi,cd];refine bv (amX v.num) rfl ?_;unfold d0;simp[h1];rw[Nq cd];cases decide (v.bits=0#64)<;>cases decide (v.text=[])<;>simp[cd]<;>exact aZ rfl rfl
 ·by_cases ce:v.kind=2#8
  ·have h1:=aB 2#8 0 (ll v.bits) [];simp only[ce] at h1;unfold d0;simp[hi,j1,ce];refine bv (amW v.bits) rfl ?_;unfold d0;simp[h1];rw[Nr ce];cases decide (v.num=0)<;>cases decide (v.bits=ll v.bits)<;>cases decide (v.text=[])<;>simp[ce]<;>exact aZ rfl rfl
  ·by_cases dH:v.kind=3#8
   ·obtain⟨w,bt⟩:∃ w,w=(qE v.text).1:=⟨_,rfl⟩
    have h1:=aB w.kind w.num w.bits w.text;have ap:=aa3 dH;rw[<-bt] at ap;simp only[dH] at h1 ap;unfold d0;simp[hi,j1,nj,dH];refine bv (amY v.text) rfl ?_;rw[<-bt];unfold d0;simp[h1];rw[ap];cases decide (3#8=w.kind)<;>cases decide (v.num=w.num)<;>cases decide (v.bits=w.bits)<;>cases decide (v.text=w.text)<;>simp[dH]<;>exact aZ rfl rfl
   ·have h1:fD Tryz.prog .neq 29 (.aS [bG v.kind,.int .i64 v.num,dz v.bits,.str v.text]) (.aS [.int .u8 0,.int .i64 0,.int .u64 0,.str []])=some (.bool (!(decide (v.kind=0#8)&&(decide (v.num=0)&&(decide (v.bits=0#64)&&decide (v.text=[])))))) :=aB 0#8 0 0#64 [];rw[Ns cd ce dH];unfold d0;simp[hi,j1,nj,cd,ce,dH];by_cases h9:v.kind=0#8
    ·simp only[h9,decide_true,Bool.true_and] at h1;simp[h9,h1];cases decide (v.num=0)<;>cases decide (v.bits=0#64)<;>cases decide (v.text=[])<;>simp[h9]<;>exact aZ rfl rfl
    ·simp only[h9,decide_false,Bool.false_and,Bool.not_false] at h1;simp[h1];exact aZ rfl rfl
theorem ak4 (v:hk) :bT Tryz.prog GS 96 [.aS (d0 v)] (.int .i64 (kJ (jd v))) :=by
 refine ca Tryz.checked.mixed b3 ?_;apply bI QU Zq;unfold GR Mv;by_cases cd:v.kind=1#8
 ·rw[Nq cd];unfold d0;simp[hi,cd,r3];by_cases aV:v.bits=0#64<;>by_cases aY:v.text=[]<;>simp[aV,aY,r3]<;>exact aZ rfl rfl
 ·by_cases ce:v.kind=2#8
  ·rw[Nr ce];unfold d0;simp[hi,j1,ce];by_cases aV:v.num=0
   ·by_cases aY:v.text=[]
    ·simp[aV,aY];refine bv (akY v.bits) rfl ?_;by_cases bd:v.bits=ll v.bits
     ·have bD:ll v.bits=v.bits:=bd.symm;simp[bD];exact aZ (by simp[kJ,aV,aY,bD]) rfl
     ·have bD:¬ ll v.bits=v.bits:=fun h=>bd h.symm
      simp[bd,bD];exact aZ (by simp[kJ,bd]) rfl
    ·simp[aV,aY];exact aZ rfl rfl
   ·simp[aV];exact aZ rfl rfl
  ·by_cases dH:v.kind=3#8
   ·have ax:jd v=(decide (v.num=0)&&decide (v.bits=0#64)&&decide (v.text.length<=30)&&v.text.all (gn 32)) :=by simp[jd,dH]
    have af:((v.text.length:Int)<=30)<->v.text.length<=30:=by omega
    rw[ax];unfold d0;simp[hi,j1,nj,dH,r3];by_cases aV:v.num=0
    ·by_cases aY:v.bits=0#64
     ·by_cases bd:v.text.length<=30
      ·simp[aV,aY,af,bd];refine bv (aj0 v.text (by omega)) rfl ?_;cases v.text.all (gn 32)<;>simp<;>exact aZ (by simp[kJ,aV,aY,bd]) rfl
      ·simp[aV,aY,af,bd];exact aZ rfl rfl
     ·simp[aV,aY,r3];exact aZ rfl rfl
    ·simp[aV];exact aZ rfl rfl
   ·rw[Ns cd ce dH];unfold d0;simp[hi,j1,nj,cd,ce,dH];exact aZ rfl rfl
structure Act where
 kind:B
 key:List UInt8
 val:hk
def fR (a:Act) :List ae:=[bG a.kind,.str a.key,bG a.val.kind,.int .i64 a.val.num,dz a.val.bits,.str a.val.text]
def mh (v:hk) :Bool:=decide (v.kind=0#8)&&(decide (v.num=0)&&(decide (v.bits=0#64)&&decide (v.text=[])))
def jg (a:Act) :Bool:=
 if a.kind=1#8 then decide (a.key=[])&&mh a.val
 else if a.kind=2#8\/a.kind=3#8 then g9 a.key&&mh a.val
 else if a.kind=4#8 then g9 a.key&&jd a.val
 else false
def tl:List kE:=[.i .u8,.s,.i .u8,.i .i64,.i .u64,.s]
theorem ais:o4 Tryz.prog 20 31=some tl:=by kernel_rfl
theorem NK (a b:Act) :fD Tryz.prog .eql 31 (.aS (fR a)) (.aS (fR b))=some (.bool (eD (fR a) (fR b))) :=AQ ais (by kernel_rfl) (by kernel_rfl) rfl rfl
theorem abU (a:Act) (h:a.kind=1#8) :fD Tryz.prog .eql 31 (.aS [.int .u8 1,.str a.key,bG a.val.kind,.int .i64 a.val.num,dz a.val.bits,.str a.val.text]) (.aS [.int .u8 1,.str [],.int .u8 0,.int .i64 0,.int .u64 0,.str []])=some (.bool (decide (a.key=[])&&mh a.val)) :=by
 have:=NK a ⟨1#8,[],t6⟩;simp only[fR,h] at this;refine Eq.trans this ?_;simp[eD,ae.beq,mh,t6,amR,r3];congr
theorem aa2 (v:hk) :fD Tryz.prog .eql 29 (.aS [bG v.kind,.int .i64 v.num,dz v.bits,.str v.text]) (.aS [.int .u8 0,.int .i64 0,.int .u64 0,.str []])=some (.bool (mh v)) :=by
 have:=amZ v t6;rw[Oo] at this;exact this
theorem NP {a:Act} (k:a.kind=1#8) :jg a=(decide (a.key=[])&&mh a.val) :=by simp[jg,k]
theorem AF {a:Act} (k:a.kind=2#8) :jg a=(g9 a.key&&mh a.val) :=by simp[jg,k]
theorem Eh {a:Act} (k:a.kind=3#8) :jg a=(g9 a.key&&mh a.val) :=by simp[jg,k]
theorem x2 {a:Act} (k:a.kind=4#8) :jg a=(g9 a.key&&jd a.val) :=by simp[jg,k]
theorem Ei {a:Act} (cd:a.kind≠1#8) (ce:a.kind≠2#8) (dH:a.kind≠3#8) (gI:a.kind≠4#8) :jg a=false:=by simp[jg,cd,ce,dH,gI]
theorem ac4 (a:Act) :bT Tryz.prog GS 50 [.aS (fR a)] (.int .i64 (kJ (jg a))) :=by
 refine ca Tryz.checked.mixed b3 ?_;apply bI Qi YP;unfold Gd LW;by_cases cd:a.kind=1#8
 ·have h1:=abU a cd;have a1:bG (1#8)=.int .u8 1:=rfl;rw[NP cd];unfold fR;simp[hi,cd,a1,h1];by_cases aV:a.key=[]<;>cases aY:mh a.val<;>simp[aV,aY]<;>exact aZ rfl rfl
 ·have h1:=aa2 a.val;by_cases ce:a.kind=2#8
  ·rw[AF ce];unfold fR;simp[hi,j1,nj,cd,ce];refine bv (Jx a.key) rfl ?_;cases g9 a.key with
   | true=>simp[h1]; cases mh a.val<;>simp<;>exact aZ rfl rfl
   | false=>simp; exact aZ rfl rfl
  ·by_cases dH:a.kind=3#8
   ·rw[Eh dH];unfold fR;simp[hi,j1,nj,cd,dH];refine bv (Jx a.key) rfl ?_;cases g9 a.key with
    | true=>simp[h1]; cases mh a.val<;>simp<;>exact aZ rfl rfl
    | false=>simp; exact aZ rfl rfl
   ·by_cases gI:a.kind=4#8
    ·rw[x2 gI];unfold fR;simp[hi,j1,nj,tT,gI];refine bv (Jx a.key) rfl ?_;cases g9 a.key with
     | true=>
      simp;refine bv (aa1 a.val) rfl ?_;cases jd a.val<;>simp[kJ]<;>exact aZ rfl rfl
     | false=>simp; exact aZ rfl rfl
    ·rw[Ei cd ce dH gI];unfold fR;simp[hi,j1,nj,tT,cd,ce,dH,gI];exact aZ rfl rfl
theorem akZ (a:Act) :bT Tryz.prog GS 65 [.aS (fR a)] (.int .i64 (kJ (jg a))) :=by
 refine ca Tryz.checked.mixed b3 ?_;apply bI Qx Y3;unfold Gr L9;have h1:=aa2 a.val;by_cases cd:a.kind=1#8
 ·rw[NP cd];unfold fR;simp[hi,cd,h1];by_cases aV:a.key=[]<;>cases aY:mh a.val<;>simp[aV,aY]<;>exact aZ rfl rfl
 ·by_cases ce:a.kind=2#8
  ·rw[AF ce];unfold fR;simp[hi,j1,nj,cd,ce,h1];refine bv (JT a.key) rfl ?_;cases g9 a.key with
   | true=>simp; cases mh a.val<;>simp<;>exact aZ rfl rfl
   | false=>simp; exact aZ rfl rfl
  ·by_cases dH:a.kind=3#8
   ·rw[Eh dH];unfold fR;simp[hi,j1,nj,cd,dH,h1];refine bv (JT a.key) rfl ?_;cases g9 a.key with
    | true=>simp; cases mh a.val<;>simp<;>exact aZ rfl rfl
    | false=>simp; exact aZ rfl rfl
   ·by_cases gI:a.kind=4#8
    ·rw[x2 gI];unfold fR;simp[hi,j1,nj,tT,gI,h1];refine bv (JT a.key) rfl ?_;cases g9 a.key with
     | true=>
      simp;refine bv (ak4 a.val) rfl ?_;cases jd a.val<;>simp[kJ]<;>exact aZ rfl rfl
     | false=>simp; exact aZ rfl rfl
    ·rw[Ei cd ce dH gI];unfold fR;simp[hi,j1,nj,tT,cd,ce,dH,gI,h1];exact aZ rfl rfl
end Op
end Go.cl

namespace Go.cl
open Go Go.Proofs
set_option maxRecDepth 100000
def cq {α:Type} (z:Nat) (enc:α->List ae) (l l1:au) (v:ae) (a:List α) (e2:Bool) :Prop:=
 ∃ j,bX z l1 v j (a.map enc)/\l.length<=l1.length/\(∀ b,b<l.length->l1[b]? = l[b]?)/\(v=.a6\/l.length<=j)/\cT v=e2
section
variable {α:Type} {z:Nat} {enc:α->List ae} {l l1:au} {v:ae} {a:List α} {e2:Bool}
theorem cq.nil:cq z enc l l .a6 ([] :List α) true:=⟨0,.nil 0,Nat.le_refl _,fun _ _=>rfl,.inl rfl,rfl⟩
theorem cq.more (h:cq z enc l l1 v a e2) (r:au) :cq z enc l (l1++r) v a e2:=by
 obtain⟨j,h1,af,ap,aH,bc⟩:=h;exact⟨j,h1.more r,by simp; omega,fun b ai=>by rw[List.getElem?_append_left (by omega)]; exact ap b ai,aH,bc⟩
theorem cq.len (h:cq z enc l l1 v a e2) :c9 (.ao z) v=some (.int .i64 a.length) :=by
 obtain⟨j,h1,_⟩:=h;rw[h1.len,List.length_map]
theorem cq.cells (h:cq z enc l l1 v a e2) :v.cells=some [v] :=by
 obtain⟨j,h1,_⟩:=h;exact h1.cells
theorem cq.contents (h:cq z enc l l1 v a e2) :df l1 z v=some ((a.map enc).flatten,a.length) :=by
 obtain⟨j,h1,_⟩:=h;rw[h1.contents,List.length_map]
theorem cq.le (h:cq z enc l l1 v a e2) :l.length<=l1.length:=by obtain⟨j,h1,af,_⟩:=h; exact af
theorem cq.same (h:cq z enc l l1 v a e2) :∀ b,b<l.length->l1[b]? = l[b]?:=by obtain⟨j,h1,af,ap,_⟩:=h; exact ap
theorem cq.qw (h:cq z enc l l1 v a e2) (aJ:∀ x,bP (enc x)=true) (s:eh α) (ar:e2=s.isNone) (aj:s.l=a) :fa (bW l1) v (cS z enc s) :=by
 obtain⟨j,h1,af,ap,aH,bc⟩:=h;exact h1.qx aJ s (by rw[bc,ar]) aj
theorem cq.rd (h:cq z enc l l1 v a e2) (aJ:∀ x,bP (enc x)=true) (s:eh α) (ar:e2=s.isNone) (aj:s.l=a) :Rd l1 v (cS z enc s) :=by
 obtain⟨j,h1,af,ap,aH,bc⟩:=h;exact h1.q.vC aJ s (by rw[bc,ar]) aj
theorem cq.Ds (h:cq z enc l l1 v a e2) (aJ:∀ x,kf (enc x)=true) (s:eh α) (ar:e2=s.isNone) (aj:s.l=a) :iO l1 v (cS z enc s) :=by
 obtain⟨j,h1,af,ap,aH,bc⟩:=h;exact h1.zZ aJ s (by rw[bc,ar]) aj
theorem cq.base (h:cq z enc l l1 v a e2) {eR:au} (aq:eR.length<=l.length) (ar:∀ b,b<eR.length->l[b]? = eR[b]?) :cq z enc eR l1 v a e2:=by
 obtain⟨j,h1,af,ap,aH,bc⟩:=h;exact⟨j,h1,by omega,fun b ai=>by rw[ap b (by omega)]; exact ar b ai,aH.imp id (by omega),bc⟩
theorem cq.frame (h:cq z enc l l1 v a e2) {cg:au} (aq:l1.length<=cg.length) (ar:∀ b,b<l1.length->cg[b]? = l1[b]?) :cq z enc l cg v a e2:=by
 obtain⟨j,h1,af,ap,aH,bc⟩:=h;exact⟨j,h1.frame fun am=>ar j am,by omega,fun b ai=>by rw[ar b (by omega)]; exact ap b ai,aH,bc⟩
theorem cq.app (h:cq z enc l l1 v a e2) {by_:Nat} {x:ae} {xs:List α} (aj:df l1 z x=some ((xs.map enc).flatten,xs.length)) (aB:∀ y∈xs,(enc y).length=z) (aQ:z≠0) (dE:by_≠0) (ds:(a.length+xs.length)*by_<=cJ) :
  ∃ bf l',ie l1 z by_ v x=some (bf,l')/\cq z enc l l' bf (a++xs) (e2&&xs.isEmpty)/\l1.length<=l'.length:=by
 obtain⟨j,h1,af,ap,aH,bc⟩:=h;obtain⟨bf,cD,l',aV,aY,bd,bD,br,cj⟩:=Ek (xs:=xs.map enc) h1 (by simpa using aj) (fun e aw=>by obtain⟨y,aO,rfl⟩:=List.mem_map.1 aw; exact aB y aO) aQ dE (by simpa using ds);refine⟨bf,l',aV,⟨cD,by rw[List.map_append]; exact aY,by omega,fun b ai=>?_,?_,?_⟩,bd⟩
 ·rw[bD b (by omega)]
  ·exact ap b ai
  ·rcases aH with h | h
   ·exact .inl h
   ·exact .inr (by omega)
 ·rcases br with h | ⟨bM,eE⟩ | h
  ·exact .inr (by omega)
  ·rcases aH with h | h
   ·exact absurd h bM
   ·exact .inr (by omega)
  ·exact .inl h
 ·rw[cj,bc]; simp
end
namespace Op
open gX
theorem cq.push {l l1:au} {v:ae} {a:List B} {e2:Bool} (h:cq 1 b9 l l1 v a e2) (x:B) (ds:a.length<=1000000000) :
  ∃ bf l',ie (l1++[.cells 1 [bG x]]) 1 1 v (.ao 1 l1.length 0 1 1 1)=some (bf,l')/\cq 1 b9 l l' bf (a++[x]) false:=by
 have aC:cJ=140737488355328:=rfl;obtain⟨bf,l',aV,aY,_⟩:=(h.more [.cells 1 [bG x]]).app (by_:=1) (x:=.ao 1 l1.length 0 1 1 1) (xs:=[x]) (by simp[df,b9]) (by simp[b9]) (by omega) (by omega) (by rw[aC]; simp; omega);exact⟨bf,l',aV,by simpa using aY⟩
theorem wq:∀ a:List B,(a.map b9).flatten=a.map bG
 | []=>rfl
 | x::a=>by rw[List.map_cons,List.flatten_cons,wq a]; rfl
theorem ph {l:au} {j n:Nat} {a:List B} (aG:a.length=n) (am:l[j]? = some (.cells n (a.map bG))) :bX 1 l (.ao 1 j 0 n n n) j (a.map b9) :=by
 refine .ao j n n n (a.map bG) _ am (by simp[aG]) (by simp[aG]) (fun e aw=>?_) (Nat.le_refl _) (by omega) ?_
 ·obtain⟨x,_,rfl⟩:=List.mem_map.1 aw; rfl
 ·rw[List.take_of_length_le (by simp[aG]),wq]
def jD (n:Nat) :Nat:=if n<256 then 1 else if n<65536 then 2 else if n<16777216 then 3 else if n<4294967296 then 4 else if n<1099511627776 then 5 else if n<281474976710656 then 6 else if n<72057594037927936 then 7 else 8
theorem C3 (n:Nat) :1<=jD n/\jD n<=8:=by unfold jD; refine⟨?_,?_⟩<;>(repeat' split)<;>omega
def j9 (n i:Nat) :B:=BitVec.ofNat 8 (n >>> (8*i))
def sa (n:Nat) :Nat->List B
 | 0=>[]
 | i+1=>j9 n i::sa n i
theorem Nd (n:Nat) :∀ i,(sa n i).length=i
 | 0=>rfl
 | i+1=>by simp[sa,Nd n i]
def dT (n:Nat) :List B:=if n<=247 then [BitVec.ofNat 8 n] else BitVec.ofNat 8 (247+jD n) ::sa n (jD n)
def jV (x:Nat) :Nat:=if x<1 then 0 else if x<2 then 1 else if x<4 then 2 else if x<8 then 3 else if x<16 then 4 else if x<32 then 5 else if x<64 then 6 else if x<128 then 7 else 8
def Ai:List UInt8:=[0,1,2,2,3,3,3,3,4,4,4,4,4,4,4,4,5,5,5,5,5,5,5,5,5,5,5,5,5,5,5,5,6,6,6,6,6,6,6,6,6,6,6,6,6,6,6,6,6,6,6,6,6,6,6,6,6,6,6,6,6,6,6,6,7,7,7,7,7,7,7,7,7,7,7,7,7,7,7,7,7,7,7,7,7,7,7,7,7,7,7,7,7,7,7,7,7,7,7,7,7,7,7,7,7,7,7,7,7,7,7,7,7,7,7,7,7,7,7,7,7,7,7,7,7,7,7,7,8,8,8,8,8,8,8,8,8,8,8,8,8,8,8,8,8,8,8,8,8,8,8,8,8,8,8,8,8,8,8,8,8,8,8,8,8,8,8,8,8,8,8,8,8,8,8,8,8,8,8,8,8,8,8,8,8,8,8,8,8,8,8,8,8,8,8,8,8,8,8,8,8,8,8,8,8,8,8,8,8,8,8,8,8,8,8,8,8,8,8,8,8,8,8,8,8,8,8,8,8,8,8,8,8,8,8,8,8,8,8,8,8,8,8,8,8,8,8,8,8,8,8,8,8,8,8,8]
def Nb:Nat->List UInt8->Bool
 | _,[]=>true
 | i,x::r=>Nat.beq x.toNat (jV i)&&Nb (i+1) r
theorem aaC:∀ (i:Nat) (l:List UInt8),Nb i l=true->∀ (j:Nat) (x:UInt8),l[j]? = some x->x.toNat=jV (i+j)
 | i,[],_,j,x,h=>by simp at h
 | i,y::r,h,j,x,aj=>by
  simp only[Nb,Bool.and_eq_true] at h;cases j with
  | zero=>simp at aj; subst aj; exact Nat.eq_of_beq_eq_true h.1
  | succ j=>simp at aj; rw[aaC (i+1) r h.2 j x aj]; congr 1; omega
theorem tR (i:Nat) (h:i<256) :∃ x,Ai[i]? = some x/\x.toNat=jV i:=by
 have aq:Ai.length=256:=by kernel_rfl
 have az:=aaC 0 Ai (by kernel_rfl) i _ (List.getElem?_eq_getElem (by omega));exact⟨_,List.getElem?_eq_getElem (by omega),by rw[az]; congr 1; omega⟩
theorem rO (x:Nat) :jV x<=8:=by unfold jV; (repeat' split)<;>omega
def i6 (n:Nat) :Nat:=
 if n<256 then jV n else if n<65536 then 8+jV (n / 256) else if n<16777216 then 16+jV (n / 65536) else if n<4294967296 then 24+jV (n / 16777216)
 else if n<1099511627776 then 32+jV (n / 4294967296) else if n<281474976710656 then 40+jV (n / 1099511627776) else if n<72057594037927936 then 48+jV (n / 281474976710656) else 56+jV (n / 72057594037927936)
theorem aiK (n:Nat) (h:1<=n) :(i6 n+7) / 8=jD n:=by
 have aq:∀ x,1<=x->1<=jV x/\jV x<=8:=fun x aj=>⟨by unfold jV; rw[if_neg (by omega)]; (repeat' split)<;>omega,rO x⟩
 unfold i6 jD
 repeat' split
 ·have:=aq n h; omega
 ·have:=aq (n / 256) (by omega); omega
 ·have:=aq (n / 65536) (by omega); omega
 ·have:=aq (n / 16777216) (by omega); omega
 ·have:=aq (n / 4294967296) (by omega); omega
 ·have:=aq (n / 1099511627776) (by omega); omega
 ·have:=aq (n / 281474976710656) (by omega); omega
 ·have:=aq (n / 72057594037927936) (by omega); omega
theorem MX (x:Q) (k:Nat) :ct .shr .u64 (u x) .u64 (k:Int)=some (.int .u64 (u (x >>> k))) :=su x .u64 k
theorem sl {i:Nat} {y:UInt8} {k:UInt8->Prop} (h:Ai[i]? = some y) (aE:k y) :W Ai[i]? (c:=⟨k⟩) :=by rw[h]; exact aE
set_option maxHeartbeats 4000000 in
theorem aiL (n:Q) :bT Tryz.prog GS 135 [dz n] (.int .i64 (i6 n.toNat)) :=by
 refine ca Tryz.checked.mixed b3 ?_;apply bI O3 XA;unfold EY KJ;have jc:IntKind.i64.wrap 8=8:=rfl;have tU:IntKind.i64.wrap 16=16:=rfl;have tV:IntKind.i64.wrap 24=24:=rfl;have tW:IntKind.i64.wrap 32=32:=rfl;have tX:IntKind.i64.wrap 40=40:=rfl;have tY:IntKind.i64.wrap 48=48:=rfl;have tZ:IntKind.i64.wrap 56=56:=rfl;have cz:∀ x:Q,((4294967296:Int)<=u x)<->4294967296<=x.toNat:=fun x=>by unfold u; omega
 have de:∀ x:Q,((65536:Int)<=u x)<->65536<=x.toNat:=fun x=>by unfold u; omega
 have lk:∀ x:Q,((256:Int)<=u x)<->256<=x.toNat:=fun x=>by unfold u; omega
 have tJ:∀ x:Q,ct .shr .u64 (u x) .u64 32=some (.int .u64 (u (x >>> 32))) :=fun x=>MX x 32
 have tI:∀ x:Q,ct .shr .u64 (u x) .u64 16=some (.int .u64 (u (x >>> 16))) :=fun x=>MX x 16
 have tK:∀ x:Q,ct .shr .u64 (u x) .u64 8=some (.int .u64 (u (x >>> 8))) :=fun x=>MX x 8
 have at2:n.toNat >>> 32=n.toNat / 4294967296:=by rw[Nat.shiftRight_eq_div_pow]
 have at3:n.toNat >>> 48=n.toNat / 281474976710656:=by rw[Nat.shiftRight_eq_div_pow]
 have at1:n.toNat >>> 16=n.toNat / 65536:=by rw[Nat.shiftRight_eq_div_pow]
 have afs:=n.isLt;by_cases h1:4294967296<=n.toNat
 ·by_cases af:65536<=n.toNat >>> 32
  ·by_cases ap:256<=n.toNat >>> 48
   ·have hy:n.toNat >>> 56 % 256=n.toNat / 72057594037927936:=by rw[Nat.shiftRight_eq_div_pow]; exact Nat.mod_eq_of_lt (by omega)
    obtain⟨y,aV,aY⟩:=tR (n.toNat / 72057594037927936) (by omega);have bd:=rO (n.toNat / 72057594037927936);rw[<-aY] at bd;have b4:IntKind.i64.wrap (y.toNat:Int)=y.toNat:=wrap_i64 (by omega) (by omega);have w2:IntKind.i64.wrap (56+(y.toNat:Int))=((56+y.toNat:Nat) :Int) :=by rw[wrap_i64 (by omega) (by omega)]; omega
    have ef:i6 n.toNat=56+y.toNat:=by unfold i6; rw[aY]; (repeat' split)<;>first | omega | rfl
    simp[cz,de,lk,tJ,tI,tK,h1,af,ap];refine sl (y:=y) (by rw[hy]; exact aV) ?_;rw[ef];simp[hZ,b4,w2];exact aZ (by simp[jc,tU,tV,tW,tX,tY,tZ,w2]) rfl
   ·have hy:n.toNat >>> 48 % 256=n.toNat / 281474976710656:=by rw[Nat.shiftRight_eq_div_pow]; exact Nat.mod_eq_of_lt (by omega)
    obtain⟨y,aV,aY⟩:=tR (n.toNat / 281474976710656) (by omega);have bd:=rO (n.toNat / 281474976710656);rw[<-aY] at bd;have b4:IntKind.i64.wrap (y.toNat:Int)=y.toNat:=wrap_i64 (by omega) (by omega);have w2:IntKind.i64.wrap (48+(y.toNat:Int))=((48+y.toNat:Nat) :Int) :=by rw[wrap_i64 (by omega) (by omega)]; omega
    have ef:i6 n.toNat=48+y.toNat:=by unfold i6; rw[aY]; (repeat' split)<;>first | omega | rfl
    simp[cz,de,lk,tJ,tI,tK,h1,af,ap];refine sl (y:=y) (by rw[hy]; exact aV) ?_;rw[ef];simp[hZ,b4,w2];exact aZ (by simp[jc,tU,tV,tW,tX,tY,tZ,w2]) rfl
  ·by_cases ap:256<=n.toNat >>> 32
   ·have hy:n.toNat >>> 40 % 256=n.toNat / 1099511627776:=by rw[Nat.shiftRight_eq_div_pow]; exact Nat.mod_eq_of_lt (by omega)
    obtain⟨y,aV,aY⟩:=tR (n.toNat / 1099511627776) (by omega);have bd:=rO (n.toNat / 1099511627776);rw[<-aY] at bd;have b4:IntKind.i64.wrap (y.toNat:Int)=y.toNat:=wrap_i64 (by omega) (by omega);have w2:IntKind.i64.wrap (40+(y.toNat:Int))=((40+y.toNat:Nat) :Int) :=by rw[wrap_i64 (by omega) (by omega)]; omega
    have ef:i6 n.toNat=40+y.toNat:=by unfold i6; rw[aY]; (repeat' split)<;>first | omega | rfl
    simp[cz,de,lk,tJ,tI,tK,h1,af,ap];refine sl (y:=y) (by rw[hy]; exact aV) ?_;rw[ef];simp[hZ,b4,w2];exact aZ (by simp[jc,tU,tV,tW,tX,tY,tZ,w2]) rfl
   ·have hy:n.toNat >>> 32 % 256=n.toNat / 4294967296:=by rw[Nat.shiftRight_eq_div_pow]; exact Nat.mod_eq_of_lt (by omega)
    obtain⟨y,aV,aY⟩:=tR (n.toNat / 4294967296) (by omega);have bd:=rO (n.toNat / 4294967296);rw[<-aY] at bd;have b4:IntKind.i64.wrap (y.toNat:Int)=y.toNat:=wrap_i64 (by omega) (by omega);have w2:IntKind.i64.wrap (32+(y.toNat:Int))=((32+y.toNat:Nat) :Int) :=by rw[wrap_i64 (by omega) (by omega)]; omega
    have ef:i6 n.toNat=32+y.toNat:=by unfold i6; rw[aY]; (repeat' split)<;>first | omega | rfl
    simp[cz,de,lk,tJ,tI,tK,h1,af,ap];refine sl (y:=y) (by rw[hy]; exact aV) ?_;rw[ef];simp[hZ,b4,w2];exact aZ (by simp[jc,tU,tV,tW,tX,tY,tZ,w2]) rfl
 ·by_cases af:65536<=n.toNat
  ·by_cases ap:256<=n.toNat >>> 16
   ·have hy:n.toNat >>> 24 % 256=n.toNat / 16777216:=by rw[Nat.shiftRight_eq_div_pow]; exact Nat.mod_eq_of_lt (by omega)
    obtain⟨y,aV,aY⟩:=tR (n.toNat / 16777216) (by omega);have bd:=rO (n.toNat / 16777216);rw[<-aY] at bd;have b4:IntKind.i64.wrap (y.toNat:Int)=y.toNat:=wrap_i64 (by omega) (by omega);have w2:IntKind.i64.wrap (24+(y.toNat:Int))=((24+y.toNat:Nat) :Int) :=by rw[wrap_i64 (by omega) (by omega)]; omega
    have ef:i6 n.toNat=24+y.toNat:=by unfold i6; rw[aY]; (repeat' split)<;>first | omega | rfl
    simp[cz,de,lk,tJ,tI,tK,h1,af,ap];refine sl (y:=y) (by rw[hy]; exact aV) ?_;rw[ef];simp[hZ,b4,w2];exact aZ (by simp[jc,tU,tV,tW,tX,tY,tZ,w2]) rfl
   ·have hy:n.toNat >>> 16 % 256=n.toNat / 65536:=by rw[Nat.shiftRight_eq_div_pow]; exact Nat.mod_eq_of_lt (by omega)
    obtain⟨y,aV,aY⟩:=tR (n.toNat / 65536) (by omega);have bd:=rO (n.toNat / 65536);rw[<-aY] at bd;have b4:IntKind.i64.wrap (y.toNat:Int)=y.toNat:=wrap_i64 (by omega) (by omega);have w2:IntKind.i64.wrap (16+(y.toNat:Int))=((16+y.toNat:Nat) :Int) :=by rw[wrap_i64 (by omega) (by omega)]; omega
    have ef:i6 n.toNat=16+y.toNat:=by unfold i6; rw[aY]; (repeat' split)<;>first | omega | rfl
    simp[cz,de,lk,tJ,tI,tK,h1,af,ap];refine sl (y:=y) (by rw[hy]; exact aV) ?_;rw[ef];simp[hZ,b4,w2];exact aZ (by simp[jc,tU,tV,tW,tX,tY,tZ,w2]) rfl
  ·by_cases ap:256<=n.toNat
   ·have hy:n.toNat >>> 8 % 256=n.toNat / 256:=by rw[Nat.shiftRight_eq_div_pow]; exact Nat.mod_eq_of_lt (by omega)
    obtain⟨y,aV,aY⟩:=tR (n.toNat / 256) (by omega);have bd:=rO (n.toNat / 256);rw[<-aY] at bd;have b4:IntKind.i64.wrap (y.toNat:Int)=y.toNat:=wrap_i64 (by omega) (by omega);have w2:IntKind.i64.wrap (8+(y.toNat:Int))=((8+y.toNat:Nat) :Int) :=by rw[wrap_i64 (by omega) (by omega)]; omega
    have ef:i6 n.toNat=8+y.toNat:=by unfold i6; rw[aY]; (repeat' split)<;>first | omega | rfl
    simp[cz,de,lk,tJ,tI,tK,h1,af,ap];refine sl (y:=y) (by rw[hy]; exact aV) ?_;rw[ef];simp[hZ,b4,w2];exact aZ (by simp[jc,tU,tV,tW,tX,tY,tZ,w2]) rfl
   ·have hy:n.toNat % 256=n.toNat:=Nat.mod_eq_of_lt (by omega);obtain⟨y,aV,aY⟩:=tR (n.toNat) (by omega);have bd:=rO (n.toNat);rw[<-aY] at bd;have b4:IntKind.i64.wrap (y.toNat:Int)=y.toNat:=wrap_i64 (by omega) (by omega);have w2:IntKind.i64.wrap (0+(y.toNat:Int))=((0+y.toNat:Nat) :Int) :=by rw[wrap_i64 (by omega) (by omega)]; omega
    have ef:i6 n.toNat=0+y.toNat:=by unfold i6; rw[aY]; (repeat' split)<;>first | omega | rfl
    simp[cz,de,lk,tJ,tI,tK,h1,af,ap];refine sl (y:=y) (by rw[hy]; exact aV) ?_;rw[ef];simp[hZ,b4,w2];exact aZ (by simp[jc,tU,tV,tW,tX,tY,tZ,w2]) rfl
theorem AX (n:Q) (i:Nat) :(n >>> (8*i)).setWidth 8=j9 n.toNat i:=by
 apply BitVec.eq_of_toNat_eq;unfold j9;rw[BitVec.toNat_setWidth,BitVec.toNat_ushiftRight,BitVec.toNat_ofNat]
theorem alB (l:au) (c d:bg) :(l++[c]).set l.length d=l++[d] :=by rw[List.set_append_right _ _ (Nat.le_refl _)]; simp
def pd (n k i:Nat) :List B:=BitVec.ofNat 8 (247+k) ::(List.replicate (k - i) 0#8++sa n i)
theorem Wt (n k i:Nat) (h:i<=k) :(pd n k i).length=k+1:=by simp[pd,Nd]; omega
theorem ajn (n k i:Nat) (h:i<k) :(pd n k i).set (k - i) (j9 n i)=pd n k (i+1) :=by
 unfold pd;obtain⟨m,hm⟩:∃ m,k - i=m+1:=⟨k - i - 1,by omega⟩
 rw[hm,List.set_cons_succ,show k - (i+1)=m by omega,List.replicate_succ',List.append_assoc];congr 1;rw[List.set_append_right _ _ (by simp)];simp[sa]
theorem ani (n:Q) {l:au} {K:ae->au->Prop} (a7:∀ v j l',bX 1 l' v j ((dT n.toNat).map b9)->l.length<=l'.length->(∀ b,b<l.length->l'[b]? = l[b]?)->l.length<=j->cT v=false->K v l') :
  dB Tryz.prog GS 110 [dz n] l (c:=⟨K⟩) :=by
 apply bI OM Xk;unfold EK Kv;have cz:((u n:Int)<=247)<->n.toNat<=247:=by unfold u; omega
 by_cases h:n.toNat<=247
 ·have s7:dT n.toNat=[n.setWidth 8] :=by
   unfold dT; rw[if_pos h]; rfl
  simp[cz,h];refine a7 _ l.length _ (ph (n:=1) (a:=dT n.toNat) (by rw[s7]; rfl) (by rw[s7]; simp)) (by simp) (fun b ai=>List.getElem?_append_left ai) (Nat.le_refl _) rfl
 ·have aE:=C3 n.toNat
  obtain⟨k,mU⟩:∃ k,jD n.toNat=k:=⟨_,rfl⟩
  have s7:dT n.toNat=pd n.toNat k k:=by unfold dT pd; rw[if_neg h,mU]; simp
  have yZ:=aiK n.toNat (by omega)
  rw[mU] at yZ aE;obtain⟨L,f5⟩:∃ L,i6 n.toNat=L:=⟨_,rfl⟩
  rw[f5] at yZ;have b4:IntKind.i64.wrap ((L:Int)+7)=((L+7:Nat) :Int) :=by rw[wrap_i64 (by omega) (by omega)]; omega
  have q1:ct .quo .i64 ((L+7:Nat) :Int) .i64 8=some (.int .i64 (k:Int)) :=by rw[EA _ 8 (by omega) (by omega)]; rw[show (8:Int).toNat=8 from rfl,yZ]
  have w2:IntKind.i64.wrap ((k:Int)+1)=((k+1:Nat) :Int) :=by rw[wrap_i64 (by omega) (by omega)]; omega
  have ef:IntKind.i64.wrap (247+(k:Int))=((247+k:Nat) :Int) :=by rw[wrap_i64 (by omega) (by omega)]; omega
  have fK:pa 1 1 [.int .u8 0] l (.int .i64 ((k+1:Nat) :Int)) (.int .i64 ((k+1:Nat) :Int))=some (.ao 1 l.length 0 (k+1) (k+1) (k+1),l++[.cells (k+1) ((List.replicate (k+1) 0#8).map bG)]) :=by
   unfold pa;have aC:cJ=140737488355328:=rfl;simp only[];rw[if_pos ⟨by omega,by omega,by omega,by rw[aC]; omega⟩,Dv];simp
  simp[cz,h];refine bv (aiL n) rfl ?_;rw[f5];have gM:bS (List.replicate (k+1) (bG 0#8)) 0 [bG (BitVec.ofNat 8 (247+k))]=(pd n.toNat k 0).map bG:=by
   rw[List.replicate_succ,al1,al3]; simp[pd,sa]
  simp[b4,q1,w2,ef,fK,-Int.natCast_add];refine c0 k (fun i ah l1=>ah 0=dz n/\ah 3=.int .i64 k/\ah 4=.ao 1 l.length 0 (k+1) (k+1) (k+1)/\ah 23=.int .i64 k/\ah 24=.int .i64 i/\l1=l++[.cells (k+1) ((pd n.toNat k i).map bG)]) ?_ ?_
  ·rintro i ah l1 aA ⟨cP,bd,bD,wy,mJ,rfl⟩;obtain⟨ah,rfl⟩:=kC cP bd bD wy mJ;clear cP bd bD wy mJ;unfold UY;by_cases rp:i<k
   ·have hB:IntKind.i64.wrap ((k:Int) - i)=((k - i:Nat) :Int) :=by rw[wrap_i64 (by omega) (by omega)]; omega
    have j3:IntKind.i64.wrap (8*(i:Int))=((8*i:Nat) :Int) :=by rw[wrap_i64 (by omega) (by omega)]; omega
    have t2:IntKind.i64.wrap ((i:Int)+1)=((i+1:Nat) :Int) :=by rw[wrap_i64 (by omega) (by omega)]; omega
    have my:ct .shr .u64 (u n) .i64 ((8*i:Nat) :Int)=some (.int .u64 (u (n >>> (8*i)))) :=su n .i64 (8*i);have sg:=AX n i;have xT:=mr bG (pd n.toNat k i) (k - i) (j9 n.toNat i) (by rw[Wt _ _ _ aA]; omega);rw[ajn _ _ _ rp] at xT;obtain⟨d,bJ⟩:∃ d,k - i=d:=⟨_,rfl⟩
    obtain⟨e,aw⟩:∃ e,8*i=e:=⟨_,rfl⟩
    rw[bJ] at hB xT;rw[aw] at j3 my sg;have wK:d<=k:=by omega
    simp[rp,hB,j3,t2,my,sg,xT,wK,-Int.natCast_add,alB];omega
   ·have fr:i=k:=by omega
    subst fr;simp;refine a7 _ l.length _ (ph (n:=i+1) (a:=dT n.toNat) (by rw[s7,Wt _ _ _ (Nat.le_refl _)]) (by rw[s7]; simp)) (by simp) (fun b ai=>List.getElem?_append_left ai) (Nat.le_refl _) rfl
  ·simp;exact gM
theorem aji {n:Nat} (h:n<18446744073709551616) :n<256 ^ jD n:=by
 unfold jD; (repeat' split)<;>simp<;>omega
theorem ajj {n k:Nat} (h1:1<=n) (h:k<jD n) :256 ^ k<=n:=by
 have gN:=(C3 n).2;have aE:k=0\/k=1\/k=2\/k=3\/k=4\/k=5\/k=6\/k=7:=by omega
 rcases aE with rfl | rfl | rfl | rfl | rfl | rfl | rfl | rfl<;>simp<;>unfold jD at h<;>(repeat' split at h)<;>omega
theorem alJ {n k:Nat} (h1:1<=n) (h:n<18446744073709551616) (aE:k<=jD n) :n >>> (8*k)=0<->k=jD n:=by
 have aF:2 ^ (8*k)=256 ^ k:=by rw[Nat.pow_mul]
 rw[Nat.shiftRight_eq_div_pow,aF,Nat.div_eq_zero_iff];constructor
 ·rintro (af | af)
  ·exact absurd af (by have:0<256 ^ k:=Nat.pow_pos (by decide); omega)
  ·rcases Nat.lt_or_ge k (jD n) with ap | ap
   ·have:=ajj h1 ap; omega
   ·omega
 ·rintro rfl;exact .inr (aji h)
theorem aaE (n:Nat) :∀ k,sa n k=((List.range k).map (j9 n)).reverse
 | 0=>rfl
 | k+1=>by rw[sa,aaE n k,List.range_succ,List.map_append,List.reverse_append]; rfl
def nD (n k:Nat) :List B:=(List.range k).map (j9 n)
theorem adz (n k:Nat) :nD n (k+1)=nD n k++[j9 n k] :=by simp[nD,List.range_succ]
theorem wn (n k:Nat) :(nD n k).length=k:=by simp[nD]
theorem Rx (n k i:Nat) (h:i<k) :(nD n k)[i]? = some (j9 n i) :=by simp[nD,h]
theorem ak7 (x:Q) :ct .rem .u64 (u x) .u64 256=some (.int .u64 (u (x % 256#64))) :=v6 x 256#64 (by decide)
theorem akd (x:Q) :ct .quo .u64 (u x) .u64 256=some (.int .u64 (u (x / 256#64))) :=Kn x 256#64 (by decide)
theorem aiY (n:Q) (i:Nat) :((n >>> (8*i)) % 256#64).setWidth 8=j9 n.toNat i:=by
 rw[<-AX];apply BitVec.eq_of_toNat_eq;rw[BitVec.toNat_setWidth,BitVec.toNat_umod,BitVec.toNat_setWidth];show _ % 256 % 2 ^ 8=_ % 2 ^ 8;omega
theorem ajg (n:Q) (i:Nat) :(n >>> (8*i)) / 256#64=n >>> (8*(i+1)) :=by
 apply BitVec.eq_of_toNat_eq;rw[BitVec.toNat_udiv,BitVec.toNat_ushiftRight,BitVec.toNat_ushiftRight,Nat.shiftRight_eq_div_pow,Nat.shiftRight_eq_div_pow,show 8*(i+1)=8*i+8 by omega,Nat.pow_add,<-Nat.div_div_eq_div_mul]; rfl
theorem cq.get {l l1:au} {v:ae} {a:List B} {e2:Bool} (h:cq 1 b9 l l1 v a e2) {k:IntKind} {i:Nat} {x:B} (aj:a[i]? = some x) :∃ p cs o,cO (.ao 1) v (.int k (i:Int))=some p/\d4 l1 p=some (cs,o)/\cs[o]? = some (bG x) :=by
 obtain⟨j,h,_⟩:=h;obtain⟨p,cs,o,h1,af,ap,aH⟩:=h.q.get (k:=k) (i:=i) (e:=b9 x) (by rw[List.getElem?_map,aj]; rfl);refine⟨p,cs,o,h1,af,?_⟩;have:=congrArg (fun l=>l[0]?) aH;simp[List.getElem?_take,List.getElem?_drop,b9] at this;exact this
theorem vK (n:Q) {l:au} {K:ae->au->Prop} (a7:∀ v l',cq 1 b9 l l' v (dT n.toNat) false->K v l') :dB Tryz.prog GS 110 [dz n] l (c:=⟨K⟩) :=
 ani n fun v j l' h1 af ap aH bc=>a7 v l' ⟨j,h1,af,ap,.inr aH,bc⟩
structure abC (l:au) (n:Q) (i:Nat) (ah:bj) (l1:au) :Prop where
 cP:ah 0=dz (n >>> (8*i))
 rX:∃ v,ah 3=v/\cq 1 b9 l l1 v (nD n.toNat i) (decide (i=0))
structure abD (l1:au) (v:ae) (n:Q) (k i:Nat) (ah:bj) (cg:au) :Prop where
 bd:ah 3=v
 br:ah 5=.int .i64 ((k:Int) - 1 - i)
 rX:∃ w,ah 4=w/\cq 1 b9 l1 cg w (BitVec.ofNat 8 (247+k) ::((nD n.toNat k).reverse.take i)) false
theorem tF (n:Q) {l:au} {K:ae->au->Prop} (a7:∀ v l',cq 1 b9 l l' v (dT n.toNat) false->K v l') :
  dB Tryz.prog GS 102 [dz n] l (c:=⟨K⟩) :=by
 apply bI OI Xg;unfold EF Kq;have cz:((u n:Int)<=247)<->n.toNat<=247:=by unfold u; omega
 by_cases h:n.toNat<=247
 ·have s7:dT n.toNat=[n.setWidth 8] :=by
   unfold dT; rw[if_pos h]; rfl
  simp[cz,h];exact a7 _ _ ⟨l.length,ph (n:=1) (a:=dT n.toNat) (by rw[s7]; rfl) (by rw[s7]; simp),by simp,fun b ai=>List.getElem?_append_left ai,.inr (Nat.le_refl _),rfl⟩
 ·have afs:=n.isLt;have aE:=C3 n.toNat
  simp[cz,h];refine c0 (jD n.toNat) (abC l n) ?_ ⟨by simp,.a6,by simp,cq.nil⟩;rintro i ah l1 aA ⟨cP,v,bd,eu⟩;obtain⟨ah,rfl⟩:=oj cP bd;clear cP bd;unfold UW;have aB:=alJ (n:=n.toNat) (k:=i) (by omega) (by omega) aA;have kq:((0:Int)<u (n >>> (8*i)))<->¬ i=jD n.toNat:=by
   rw[<-aB]; unfold u; rw[BitVec.toNat_ushiftRight]; generalize n.toNat >>> (8*i)=q; omega
  by_cases rp:i=jD n.toNat
  ·obtain⟨k,mU⟩:∃ k,jD n.toNat=k:=⟨_,rfl⟩
   rw[mU] at rp kq aE;subst rp;have agJ:dT n.toNat=BitVec.ofNat 8 (247+i) ::(nD n.toNat i).reverse:=by
    unfold dT; rw[if_neg h,mU,aaE]; rfl
   have bz:=eu.len;rw[wn] at bz;have b4:IntKind.i64.wrap (247+(i:Int))=((247+i:Nat) :Int) :=by rw[wrap_i64 (by omega) (by omega)]; omega
   have w2:IntKind.i64.wrap ((i:Int) - 1)=(i:Int) - 1:=wrap_i64 (by omega) (by omega);have h2:(dT n.toNat)=BitVec.ofNat 8 (247+i) ::(nD n.toNat i).reverse.take i:=by rw[agJ,List.take_of_length_le (by rw[List.length_reverse,wn]; omega)]
   simp[kq,bz,b4,w2,-Int.natCast_add];refine c0 i (abD l1 v n i) ?_ ⟨by simp,by simp,_,by simp,⟨l1.length,ph (n:=1) (a:=[BitVec.ofNat 8 (247+i)]) rfl (by simp),by simp,fun b ai=>List.getElem?_append_left ai,.inr (Nat.le_refl _),rfl⟩⟩;rintro j ah cg am ⟨bd,br,w,bD,rY⟩;have vb:=eu.frame rY.le rY.same;obtain⟨ah,rfl⟩:=jG bd bD br;clear bd bD br;unfold UX;by_cases l6:j=i
   ·have nS:¬ (j:Int)<=(i:Int) - 1:=by omega
    rw[l6,<-h2] at rY;simp[nS];exact a7 _ _ (rY.base eu.le eu.same)
   ·have wQ:(j:Int)<=(i:Int) - 1:=by omega
    have s2:((i:Int) - 1 - j)=((i - 1 - j:Nat) :Int) :=by omega
    have ef:IntKind.i64.wrap ((i:Int) - 1 - j - 1)=(i:Int) - 1 - (j+1:Nat) :=by rw[wrap_i64 (by omega) (by omega)]; omega
    obtain⟨p,cs,o,q1,hz,r2⟩:=cq.get vb (k:=.i64) (Rx n.toNat i (i - 1 - j) (by omega));rw[<-s2] at q1;have aj:(nD n.toNat i).reverse[j]? = some (j9 n.toNat (i - 1 - j)) :=by
     rw[List.getElem?_reverse (by rw[wn]; omega),wn,Rx _ _ _ (by omega)]
    have pZ:=wn n.toNat i;obtain⟨w',l',bn,bA⟩:=cq.push rY (j9 n.toNat (i - 1 - j)) (by simp; omega);simp[wQ,q1,hz,r2,bn];refine du.cM ?_;simp[ef];exact⟨by omega,by simp,by simp,w',by simp,by rw[List.take_add_one,aj]; simpa using bA⟩
  ·have uO:=wn n.toNat i;obtain⟨bf,l',bn,bA⟩:=cq.push eu (j9 n.toNat i) (by omega);rw[<-adz] at bA;have bp:ct .quo .u64 (u (n >>> (8*i))) .u64 256=some (dz (n >>> (8*(i+1)))) :=by rw[akd,ajg]
   simp[kq,rp,ak7,bp,aiY,bn];refine du.cM ?_;simp[bp];exact⟨by omega,by simp,bf,by simp,by simpa using bA⟩
end Op
end Go.cl

namespace Go.cl
open Go Go.Proofs
set_option maxRecDepth 100000
namespace Op
open gX
def k9 (n:Int) :Q:=if 0<=n then BitVec.ofNat 64 (2*n.toNat) else BitVec.ofNat 64 (2*(-(n+1)).toNat+1)
theorem ank (n:Int) (h1:-9223372036854775808<=n) (af:n<9223372036854775808) {l:au} {K:ae->au->Prop} (a7:∀ v l',cq 1 b9 l l' v (dT (k9 n).toNat) false->K v l') :
  dB Tryz.prog GS 185 [.int .i64 n] l (c:=⟨K⟩) :=by
 apply bI PK Yg;unfold FF Ln;have a1:ct .shl .u64 (u (BitVec.ofInt 64 n)) .u64 1=some (.int .u64 (u (BitVec.ofInt 64 n <<< 1))) :=Oy _ .u64 1;have b7:ct .shr .i64 n .u64 63=some (.int .i64 (if 0<=n then 0 else -1)) :=by
  show (if (63:Int)<0 then none else some (ae.int .i64 (n.fdiv (2 ^ min (63:Int).toNat 64))))=_;rw[if_neg (by omega)];congr 2;have:(2:Int) ^ min (63:Int).toNat 64=9223372036854775808:=by decide
  rw[this,Int.fdiv_eq_ediv_of_nonneg _ (by omega)];split<;>omega
 have aB:BitVec.ofInt 64 n <<< 1 ^^^ BitVec.ofInt 64 (if 0<=n then 0 else -1)=k9 n:=by
  unfold k9;by_cases h:0<=n
  ·rw[if_pos h,if_pos h];obtain⟨m,rfl⟩:=Int.eq_ofNat_of_zero_le h;rw[BitVec.ofInt_natCast,Int.toNat_natCast];have:BitVec.ofInt 64 (0:Int)=0#64:=rfl;rw[this,BitVec.xor_zero];apply BitVec.eq_of_toNat_eq;rw[BitVec.toNat_shiftLeft,BitVec.toNat_ofNat,BitVec.toNat_ofNat,Nat.shiftLeft_eq];omega
  ·rw[if_neg h,if_neg h];obtain⟨m,hm⟩:=Int.eq_ofNat_of_zero_le (show 0<=-(n+1) by omega);have aI:n=-((m:Int)+1) :=by omega
   have bn:BitVec.ofInt 64 (-1:Int)=BitVec.allOnes 64:=by decide
   have bA:BitVec.ofInt 64 n = ~~~ BitVec.ofNat 64 m:=by
    apply BitVec.eq_of_toNat_eq;rw[aI,BitVec.toNat_ofInt,BitVec.toNat_not,BitVec.toNat_ofNat];omega
   have jO:m<9223372036854775808:=by omega
   rw[bn,bA,BitVec.xor_allOnes,hm,Int.toNat_natCast];apply BitVec.eq_of_toNat_eq;rw[BitVec.toNat_not,BitVec.toNat_shiftLeft,BitVec.toNat_not,BitVec.toNat_ofNat,BitVec.toNat_ofNat,Nat.shiftLeft_eq];omega
 simp[a1,b7,aB];refine vK _ fun v l' h=>?_
 simp;exact a7 v l' h
theorem akF (n:Int) (h1:-9223372036854775808<=n) (af:n<9223372036854775808) {l:au} {K:ae->au->Prop} (a7:∀ v l',cq 1 b9 l l' v (dT (k9 n).toNat) false->K v l') :
  dB Tryz.prog GS 180 [.int .i64 n] l (c:=⟨K⟩) :=by
 apply bI PF Yb;unfold FA Li;by_cases h:0<=n
 ·obtain⟨m,rfl⟩:=Int.eq_ofNat_of_zero_le h;have aB:2#64*BitVec.ofNat 64 m=k9 m:=by
   unfold k9; rw[if_pos h,Int.toNat_natCast];apply BitVec.eq_of_toNat_eq;simp only[BitVec.toNat_mul,BitVec.toNat_ofNat];omega
  simp[aB];refine tF _ fun v l' h=>?_
  simp;exact a7 v l' h
 ·have b4:IntKind.i64.wrap (n+1)=n+1:=wrap_i64 (by omega) (by omega);have w2:IntKind.i64.wrap (0 - (n+1))=0 - (n+1) :=wrap_i64 (by omega) (by omega);have w2:IntKind.i64.wrap (-(n+1))=-(n+1) :=wrap_i64 (by omega) (by omega);have aB:2#64*BitVec.ofInt 64 (-(n+1))+1#64=k9 n:=by
   obtain⟨m,hm⟩:=Int.eq_ofNat_of_zero_le (show 0<=-(n+1) by omega);unfold k9; rw[if_neg h,hm,Int.toNat_natCast,BitVec.ofInt_natCast];apply BitVec.eq_of_toNat_eq;simp only[BitVec.toNat_mul,BitVec.toNat_ofNat,BitVec.toNat_add];omega
  simp[h,b4,w2,aB];refine tF _ fun v l' h=>?_
  simp;exact a7 v l' h
def hU (s:List B) :List B:=dT s.length++s
theorem ha (n:Nat) :(dT n).length<=9:=by
 unfold dT;have:=(C3 n).2;split
 ·simp
 ·simp[Nd]; omega
theorem aei (s:List B) :(s.map b9).flatten=s.map bG:=wq s
theorem Rp (l:au) (s:ew) :df l 1 (cE s)=some ((s.l.map b9).flatten,s.l.length) :=wh l 1 b9 s
theorem aa7 (s:ew) (ar:s.l.length<=10000) {x:ae} {l:au} (aj:df l 1 x=some ((s.l.map b9).flatten,s.l.length)) (bz:c9 (.ao 1) x=some (.int .i64 s.l.length)) (cm:∀ l',l.length<=l'.length->(∀ b,b<l.length->l'[b]? = l[b]?)->df l' 1 x=some ((s.l.map b9).flatten,s.l.length))
  {K:ae->au->Prop} (a7:∀ v l',cq 1 b9 l l' v (hU s.l) false->K (.bU [v,.int .i64 0]) l') :dB Tryz.prog GS 153 [x] l (c:=⟨K⟩) :=by
 apply bI Pk XP;unfold Fe KY;have h1:¬ ((10000:Int)<s.l.length) :=by omega
 have aC:cJ=140737488355328:=rfl;simp[bz,h1];refine vK _ fun v l' h=>?_
 have aI:(BitVec.ofNat 64 s.l.length).toNat=s.l.length:=by rw[BitVec.toNat_ofNat]; exact Nat.mod_eq_of_lt (by omega)
 rw[aI] at h;have ly:=ha s.l.length;obtain⟨bf,cg,bn,bA,_⟩:=h.app (by_:=1) (x:=x) (xs:=s.l) (cm l' h.le h.same) (by simp[b9]) (by omega) (by omega) (by rw[aC]; omega);simp[bn];refine du.cM ?_;simp;exact a7 bf cg (by simpa [hU] using bA)
theorem ZC (s:ew) (ar:s.l.length<=10000) {x:ae} {l:au} (aj:df l 1 x=some ((s.l.map b9).flatten,s.l.length)) (bz:c9 (.ao 1) x=some (.int .i64 s.l.length)) (cm:∀ l',l.length<=l'.length->(∀ b,b<l.length->l'[b]? = l[b]?)->df l' 1 x=some ((s.l.map b9).flatten,s.l.length))
  {K:ae->au->Prop} (a7:∀ v l',cq 1 b9 l l' v (hU s.l) false->K v l') :dB Tryz.prog GS 141 [x] l (c:=⟨K⟩) :=by
 apply bI O9 XG;unfold E4 KP;have aC:cJ=140737488355328:=rfl;simp[bz];refine tF _ fun v l' h=>?_
 have aI:(BitVec.ofNat 64 s.l.length).toNat=s.l.length:=by rw[BitVec.toNat_ofNat]; exact Nat.mod_eq_of_lt (by omega)
 rw[aI] at h;have ly:=ha s.l.length;obtain⟨bf,cg,bn,bA,_⟩:=h.app (by_:=1) (x:=x) (xs:=s.l) (cm l' h.le h.same) (by simp[b9]) (by omega) (by omega) (by rw[aC]; omega);simp[bn];refine du.cM ?_;simp;exact a7 bf cg (by simpa [hU] using bA)
def a2 (i:List B) :List ae:=i.map bG
abbrev fp:=eh (List B)
def a8 (s:fp) :ae:=cS 32 a2 s
def hS (s:fp) :Prop:=∀ i∈s.l,i.length=32
theorem gZ (i:List B) :bP (a2 i)=true:=kG bG (fun _=>rfl) _
theorem f2 (s:fp) :(a8 s).closed=true:=we gZ s
theorem Re:∀ a b:List B,a.length=b.length->lX (a.map fun x=>UInt8.ofNat x.toNat) (b.map fun x=>UInt8.ofNat x.toNat)=cK a b
 | [],[],_=>rfl
 | [],_::_,h=>by simp at h
 | _::_,[],h=>by simp at h
 | x::a,y::b,h=>by
  have aK:=Re a b (by simpa using h);have aj:=x.isLt;have aO:=y.isLt;rw[Rc];simp only[List.map_cons,lX,aK];have a1:(UInt8.ofNat x.toNat=UInt8.ofNat y.toNat)<->x.toNat=y.toNat:=by
   constructor
   ·intro h;have:=congrArg UInt8.toNat h;simp only[UInt8.toNat_ofNat'] at this;omega
   ·intro h; rw[h]
  have b7:(UInt8.ofNat x.toNat<UInt8.ofNat y.toNat)<->x.toNat<y.toNat:=by
   rw[UInt8.lt_iff_toNat_lt]; simp only[UInt8.toNat_ofNat'];rw[Nat.mod_eq_of_lt (by omega),Nat.mod_eq_of_lt (by omega)]
  by_cases h1:x.toNat=y.toNat
  ·rw[if_pos (a1.2 h1),if_neg (by omega),if_neg (by omega)]
  ·rw[if_neg (fun h=>h1 (a1.1 h))];by_cases af:x.toNat<y.toNat
   ·rw[if_pos (b7.2 af),if_pos af]
   ·rw[if_neg (fun h=>af (b7.1 h)),if_neg af,if_pos (by omega)]
@[simp ↓] theorem asB {P:Program} {aD:Operand->ae} {l:au} (f:FuncId) (pM x y:Operand) :bR P aD l (.cK f pM x y)=(match zs f (aD pM) with | true=>di l (cmpL l (aD x) (aD y)) | false=>none) :=id rfl
@[simp ↓] theorem arJ (f:FuncId) (pM x y:Operand) (v:ae) (l:au) (K:ae->au->Prop) :dS (.cK f pM x y) v l K=K v l:=id rfl
@[simp] theorem aqV (f:FuncId) :zs f (.fn f [] [])=true:=Nat.beq_refl f
theorem OB:∀ a:List B,lj (a.map bG)=some (a.map fun x=>UInt8.ofNat x.toNat)
 | []=>rfl
 | x::a=>by
  simp only[List.map_cons,lj,OB a,Option.map_some];simp[u]
theorem OC (l:au) (s:ew) :mH l (cE s)=some (s.l.map fun x=>UInt8.ofNat x.toNat) :=by
 have h:=Rp l s;rw[aei] at h;cases s with
 | none=>simp[mH,cS,df,lj]
 | some a=>
  unfold mH;simp only[cS];have af:df l 1 (ae.b6 1 (a.map b9))=some (a.map bG,a.length) :=h;rw[af];exact OB a
theorem Oe (a b:ew) (h:a.l.length=b.l.length) :bT Tryz.prog GS 76 [cE a,cE b] (.int .i64 (cK a.l b.l)) :=by
 refine ca Tryz.checked.mixed b3 ?_;apply bI QG Zc;unfold GD Mj;have ak:cmpL [] (cE a) (cE b)=some (.int .i64 (cK a.l b.l)) :=by
  unfold cmpL;rw[OC,OC];simp only[Re _ _ h]
 simp[ak];exact aZ rfl rfl
theorem MZ {n b:Nat} (dw:0<n) :fN (.arr n 1) (.ptr b 0 n) none none none=some (.ao 1 b 0 n n n) :=by
 have:f1 n n none none none=some (0,n,n) :=rfl;simp only[fN,this];rw[if_pos (by omega),if_neg (by omega)];simp
theorem wg (a b:List B) (aG:a.length=32) (ai:b.length=32) :bT Tryz.prog GS 121 [fj a,fj b] (.int .i64 (cK a b)) :=by
 refine ca Tryz.checked.mixed b3 ?_;apply bI OW Xt;unfold ET KE;have ar:=MZ (n:=32) (b:=1) (by omega);have IQ:=MZ (n:=32) (b:=0) (by omega);simp[fj,aG,ai,ar,IQ];have ak:=Oe (some a) (some b) (by simp[aG,ai]);refine ja ak ?_ rfl ?_
 ·exact .cons ((ph (j:=0) aG rfl).qx (fun _=>rfl) (some a) rfl rfl) (.cons ((ph (j:=1) ai rfl).qx (fun _=>rfl) (some b) rfl rfl) .nil)
 ·simp;exact aZ rfl rfl
theorem ZI (a b:List B) (aG:a.length=32) (ai:b.length=32) :bT Tryz.prog GS 84 [fj a,fj b] (.int .i64 (cK a b)) :=by
 refine ca Tryz.checked.mixed b3 ?_;apply bI QJ Zf;unfold GH Mm;obtain⟨A,cA⟩:∃ A,A=a.map bG:=⟨_,rfl⟩
 obtain⟨C,HE⟩:∃ C,C=b.map bG:=⟨_,rfl⟩
 have g3:A.length=32:=by rw[cA,List.length_map,aG]
 have BE:C.length=32:=by rw[HE,List.length_map,ai]
 unfold fj;rw[<-cA,<-HE];simp[g3,BE];refine c0 32 (fun k ah l=>ah 2=.ptr 0 0 32/\ah 3=.ptr 1 0 32/\ah 5=.int .i64 k/\l=[.cells 32 A,.cells 32 C]/\∀ j,j<k->a[j]? = b[j]?) ?_ (by simp);rintro k ah l aE ⟨aY,bd,br,rfl,heq⟩;obtain⟨ah,rfl⟩:=jG aY bd br;clear aY bd br;unfold VT;have uP:=adg k heq (by omega) (by omega);by_cases h:(k:Int)<32
 ·have fT:k<32:=by omega
  have eF:IntKind.i64.wrap ((k:Int)+1)=(k+1:Nat) :=wrap_i64 (by omega) (by omega);obtain⟨x,aj,_⟩:=ck (l:=a) (k:=k) (by omega);obtain⟨y,aO,_⟩:=ck (l:=b) (k:=k) (by omega);have aeP:A[k]? = some (bG x) :=by rw[cA,List.getElem?_map,aj]; rfl
  have aeT:C[k]? = some (bG y) :=by rw[HE,List.getElem?_map,aO]; rfl
  obtain⟨_,HC⟩:=List.getElem?_eq_some_iff.1 aeP;obtain⟨_,HF⟩:=List.getElem?_eq_some_iff.1 aeT;have H0:a.drop k=x::a.drop (k+1) :=by
   obtain⟨h1,af⟩:=List.getElem?_eq_some_iff.1 aj;rw[List.drop_eq_getElem_cons h1,af]
  have afE:b.drop k=y::b.drop (k+1) :=by
   obtain⟨h1,af⟩:=List.getElem?_eq_some_iff.1 aO;rw[List.drop_eq_getElem_cons h1,af]
  rw[H0,afE,Rc] at uP;have j0:((u x:Int)<u y)<->x.toNat<y.toNat:=by unfold u; omega
  have k8:((u y:Int)<u x)<->y.toNat<x.toNat:=by unfold u; omega
  by_cases cz:x.toNat<y.toNat
  ·rw[if_pos cz] at uP;have AY:x<y:=cz;simp[h,fT,g3,BE,HC,HF,AY];exact aZ (by rw[<-uP]) rfl
  ·have AY:¬ x<y:=cz;rw[if_neg cz] at uP;by_cases de:y.toNat<x.toNat
   ·rw[if_pos de] at uP;have FT:y<x:=de;simp[h,fT,g3,BE,HC,HF,AY,FT];exact aZ (by rw[<-uP]) rfl
   ·have FT:¬ y<x:=de;simp[h,fT,g3,BE,HC,HF,AY,FT,eF];intro j am;by_cases hu:j=k
    ·subst hu;rw[aj,aO];have:x=y:=BitVec.eq_of_toNat_eq (by omega);rw[this]
    ·exact heq j (by omega)
 ·have eb:k=32:=by omega
  subst eb;have:cK a b=0:=by
   rw[<-uP,List.drop_of_length_le (by omega),List.drop_of_length_le (by omega)]; rfl
  simp;exact aZ (by rw[this]) rfl
abbrev cc (l:List (List B)) (k:Nat) :List B:=l.getD k []
def eU (l:List (List B)) :Bool:=decide (∀ k,k<l.length->1<=k->cK (cc l (k - 1)) (cc l k)<0)
def vH (l:List (List B)) :Bool:=decide (∀ k,k<l.length->1<=k->¬ cK (cc l k) (cc l (k - 1))<0)
theorem hw {l:List (List B)} {k:Nat} {x:List B} (h:l[k]? = some x) :cc l k=x:=by
 unfold cc; rw[List.getD_eq_getElem?_getD,h]; rfl
theorem ZU {l:List (List B)} (h:∀ k,k<l.length->1<=k->cK (cc l (k - 1)) (cc l k)<0) :eU l=true:=decide_eq_true h
theorem ZT {l:List (List B)} {k:Nat} (aE:k<l.length) (h1:1<=k) (h:¬ cK (cc l (k - 1)) (cc l k)<0) :eU l=false:=decide_eq_false fun aR=>h (aR k aE h1)
theorem aak {l:List (List B)} (h:∀ k,k<l.length->1<=k->¬ cK (cc l k) (cc l (k - 1))<0) :vH l=true:=decide_eq_true h
theorem al6 {l:List (List B)} {k:Nat} (aE:k<l.length) (h1:1<=k) (h:cK (cc l k) (cc l (k - 1))<0) :vH l=false:=decide_eq_false fun aR=>aR k aE h1 h
theorem dm {x:List B} (h:x.length=32) :(a2 x).length=32:=by simp[a2,h]
theorem ZA (a:fp) (aG:hS a) (aq:a.l.length<=1000000) :bT Tryz.prog GS 63 [a8 a] (.bool (eU a.l)) :=by
 refine ca Tryz.checked.mixed b3 ?_;apply bI Qv Y1;unfold Gp L7;simp[a8];refine c0 (a.l.length - 1) (fun k ah l=>ah 0=cS 32 a2 a/\ah 3=.int .i64 ((k+1:Nat) :Int)/\∀ j,j<k+1->j<a.l.length->1<=j->cK (cc a.l (j - 1)) (cc a.l j)<0) ?_ ⟨by simp[a8],by simp,fun j h1 _ af=>by omega⟩;rintro k ah l aE ⟨cP,bd,ar⟩;obtain⟨s,rfl⟩:=oj cP bd;clear cP bd;obtain⟨m,hm⟩:∃ m,m=k+1:=⟨_,rfl⟩
 rw[<-hm] at ar ⊢;unfold VO;simp;refine rM (fun h=>?_) (fun h=>?_)
 ·simp only[decide_eq_true_eq] at h;have aN:m<a.l.length:=by omega
  obtain⟨x,aj,dV⟩:=ck (l:=a.l) (k:=k) (by omega);obtain⟨y,aO,el⟩:=ck aN;have a1:IntKind.i64.wrap ((m:Int) - 1)=(k:Int) :=by rw[IntKind.wrap_i64]; omega
  have b7:IntKind.i64.wrap ((m:Int)+1)=((m+1:Nat) :Int) :=by rw[IntKind.wrap_i64]; omega
  have hf:=hw aj;have qf:=hw aO;simp[a1,aj,aO,dm (aG x dV),dm (aG y el),List.take_of_length_le];refine bv (ZI x y (aG x dV) (aG y el)) (by simp[bP,gZ,ae.closed,fj]) ?_;by_cases ak:cK x y<0
  ·have ez:¬ (0<=cK x y) :=by omega
   simp[ez,b7];refine⟨by omega,fun j h1 af ap=>?_⟩;have et:cK (cc a.l (j - 1)) (cc a.l j)<0:=by
    by_cases am:j=m
    ·rw[am,show m - 1=k by omega,hf,qf]; exact ak
    ·exact ar j (by omega) af ap
   simpa [cc] using et
  ·have ez:0<=cK x y:=by omega
   simp[ez];refine aZ (congrArg ae.bool (ZT (k:=m) aN (by omega) ?_).symm) rfl;rw[show m - 1=k by omega,hf,qf];exact ak
 ·simp[h];exact aZ (congrArg ae.bool (ZU fun j h1 af=>ar j (by simp at h; omega) h1 af).symm) rfl
theorem Hm:iS Tryz.prog 121=true:=by kernel_rfl
theorem aih (a:fp) (aG:hS a) (aq:a.l.length<=1000000) :bT Tryz.prog GS 148 [a8 a,.fn 121 [] []] (.bool (vH a.l)) :=by
 refine ca Tryz.checked.mixed b3 ?_;apply bI Pe XK;unfold E8 KT;have gM:IntKind.i64.wrap ((a.l.length:Int) - 1)=(a.l.length:Int) - 1:=by rw[IntKind.wrap_i64]; omega
 simp[a8,gM];refine c0 (a.l.length - 1) (fun k ah l=>ah 0=cS 32 a2 a/\ah 1=.fn 121 [] []/\ah 5=.int .i64 ((a.l.length:Int) - 1 - k)/\∀ j,j<a.l.length->a.l.length - 1 - k<j->¬ cK (cc a.l j) (cc a.l (j - 1))<0) ?_ ⟨by simp[a8],by simp,by simp,fun j h1 af=>by omega⟩;rintro k ah l aE ⟨cP,aV,br,ar⟩;obtain⟨s,rfl⟩:=jG cP aV br;clear cP aV br;unfold Va;simp;refine rM (fun h=>?_) (fun h=>?_)
 ·simp only[decide_eq_true_eq] at h;obtain⟨m,hm⟩:∃ m,m+k+2=a.l.length:=⟨a.l.length - 2 - k,by omega⟩
  have a1:((a.l.length:Int) - 1 - k)=((m+1:Nat) :Int) :=by omega
  rw[a1];obtain⟨x,aj,dV⟩:=ck (l:=a.l) (k:=m+1) (by omega);obtain⟨y,aO,el⟩:=ck (l:=a.l) (k:=m) (by omega);obtain⟨n,aI⟩:∃ n,n=m+1:=⟨_,rfl⟩
  rw[<-aI] at aj ⊢;have b7:IntKind.i64.wrap ((n:Int) - 1)=(m:Int) :=by rw[IntKind.wrap_i64]; omega
  have hf:=hw aj;have qf:=hw aO;simp[b7,aj,aO,dm (aG x dV),dm (aG y el),List.take_of_length_le];refine⟨Hm,bv (wg x y (aG x dV) (aG y el)) (by simp[bP,gZ,ae.closed,fj]) ?_⟩;by_cases ak:cK x y<0
  ·simp[ak];refine aZ (congrArg ae.bool (al6 (k:=n) (by omega) (by omega) ?_).symm) rfl;rw[show n - 1=m by omega,hf,qf];exact ak
  ·simp[ak,b7];refine⟨by omega,by omega,fun j h1 af=>?_⟩;have et:¬ cK (cc a.l j) (cc a.l (j - 1))<0:=by
    by_cases am:j=n
    ·rw[am,show n - 1=m by omega,hf,qf]; exact ak
    ·exact ar j h1 (by omega)
   simpa [cc] using et
 ·simp[h];exact aZ (congrArg ae.bool (aak fun j h1 af=>ar j h1 (by simp at h; omega)).symm) rfl
def wo (l:List (List B)) (k:Nat) :Bool:=decide (k+1<l.length)&&decide (0<=cK (cc l k) (cc l (k+1)))
theorem ZS {l:List (List B)}:eU l=true<->∀ k,k<l.length->wo l k=false:=by
 unfold eU wo;rw[decide_eq_true_eq];constructor
 ·intro h k aE;by_cases h1:k+1<l.length
  ·have:=h (k+1) h1 (by omega);rw[Nat.add_sub_cancel] at this;rw[decide_eq_false (p:=0<=_) (by omega),Bool.and_false]
  ·simp[h1]
 ·intro h k aE h1;have:=h (k - 1) (by omega);rw[show k - 1+1=k by omega] at this;rw[decide_eq_true aE,Bool.true_and,decide_eq_false_iff_not] at this;omega
theorem alc (a:fp) (aG:hS a) (aq:a.l.length<=1000000) (k:Nat) (aE:k<a.l.length) (x:List B) (aj:x.length=32) (r:au) {K:ae->au->Prop}
  (a7:∀ cw,K (.bool (wo a.l k)) (.cells 1 [a8 a] ::.cells 1 [.int .i64 ((k+1:Nat) :Int)] ::cw)) :
  dB Tryz.prog GS 198 [fj x,.ptr 1 0 1,.ptr 0 0 1] (.cells 1 [a8 a] ::.cells 1 [.int .i64 (k:Int)] ::r) (c:=⟨K⟩) :=by
 apply bI PW Yt;unfold FR LA;have a1:IntKind.i64.wrap ((k:Int)+1)=((k+1:Nat) :Int) :=by rw[IntKind.wrap_i64]; omega
 obtain⟨m,hm⟩:∃ m,m=k+1:=⟨_,rfl⟩
 rw[<-hm] at a1 a7;have b7:IntKind.i64.wrap ((m:Int) - 1)=(k:Int) :=by rw[IntKind.wrap_i64]; omega
 unfold wo at a7;rw[<-hm] at a7;obtain⟨y,aO,el⟩:=ck aE;by_cases h:m<a.l.length
 ·obtain⟨z,aB,CI⟩:=ck h;have qf:=hw aO;have aij:=hw aB;rw[qf,aij] at a7;have h' : (m:Int)<(a.l.length:Int) :=by omega
  have zm:a.l[m]=z:=(List.getElem?_eq_some_iff.1 aB).2;simp[fj,a8,a1,b7,h,h',aO,zm,dm (aG y el),dm (aG z CI),List.take_of_length_le];refine bv (wg y z (aG y el) (aG z CI)) (by simp[bP,gZ,ae.closed,fj]) ?_;have:=a7 (r++[bg.cells x.length (List.map bG x)]);simpa [h,a8] using this
 ·have h' : ¬ (m:Int)<(a.l.length:Int) :=by omega
  simp[fj,a8,a1,b7,h,h'];have:=a7 (r++[bg.cells x.length (List.map bG x)]);simpa [h,a8] using this
theorem ael:iS Tryz.prog 198=true:=by kernel_rfl
theorem ale (a:fp) (aG:hS a) (aq:a.l.length<=1000000) {K:ae->au->Prop} (a7:∀ n cw,(n<0<->eU a.l=true)->K (.int .i64 n) cw) :
  dB Tryz.prog GS 202 [a8 a,.fn 198 [] [.ptr 1 0 1,.ptr 0 0 1]] [.cells 1 [a8 a],.cells 1 [.int .i64 0]] (c:=⟨K⟩) :=by
 apply bI P0 Yx;unfold FX LG;simp[a8];refine c0 a.l.length (fun k ah l=>ah 0=cS 32 a2 a/\ah 1=.fn 198 [] [.ptr 1 0 1,.ptr 0 0 1]/\ah 7=.int .i64 a.l.length/\ah 8=.int .i64 k/\(∃ r,l=.cells 1 [a8 a] ::.cells 1 [.int .i64 (k:Int)] ::r)/\∀ j,j<k->wo a.l j=false) ?_ ⟨by simp[a8],by simp,by simp,by simp,⟨[],by simp[a8]⟩,fun j h=>by omega⟩;rintro k ah l aE ⟨cP,aV,dU,ff,⟨r,rfl⟩,ar⟩;obtain⟨s,rfl⟩:=j2 cP aV dU ff;clear cP aV dU ff;unfold Vu;simp;refine rM (fun h=>?_) (fun h=>?_)
 ·simp only[decide_eq_true_eq] at h;obtain⟨x,aj,dV⟩:=ck (l:=a.l) (k:=k) (by omega);have a1:IntKind.i64.wrap ((k:Int)+1)=((k+1:Nat) :Int) :=by rw[IntKind.wrap_i64]; omega
  simp[aj,dm (aG x dV),List.take_of_length_le];refine⟨ael,alc a aG aq k (by omega) x (aG x dV) r fun cw=>?_⟩;cases bJ:wo a.l k with
  | true=>
   simp;refine a7 _ _ ⟨fun aI=>by omega,fun aC=>?_⟩;have:=ZS.1 aC k (by omega);rw[bJ] at this; cases this
  | false=>
   simp[a1];refine⟨by omega,fun j am=>?_⟩;by_cases hu:j=k
   ·subst hu; exact bJ
   ·exact ar j (by omega)
 ·simp[h];refine a7 _ _ ⟨fun _=>ZS.2 fun j am=>ar j (by simp at h; omega),fun _=>by omega⟩
theorem ald (a:fp) (aG:hS a) (aq:a.l.length<=1000000) {K:ae->au->Prop} (a7:∀ cw,K (.bool (!eU a.l)) cw) :
  dB Tryz.prog GS 197 [a8 a,.fn 198 [] [.ptr 1 0 1,.ptr 0 0 1]] [.cells 1 [a8 a],.cells 1 [.int .i64 0]] (c:=⟨K⟩) :=by
 apply bI PV Ys;unfold FQ Ly;simp;refine ale a aG aq fun n cw aI=>?_
 have e:decide (0<=n)=!eU a.l:=by
  cases aC:eU a.l with
  | true=>have:=aI.2 aC; simp; omega
  | false=>
   have:¬ n<0:=fun h=>by have:=aI.1 h; rw[aC] at this; cases this
   simp; omega
 simp[e];exact a7 cw
theorem alf (a:fp) (aG:hS a) (aq:a.l.length<=1000000) :bT Tryz.prog GS 184 [a8 a] (.bool (eU a.l)) :=by
 refine ca Tryz.checked.mixed b3 ?_;apply bI PJ Yf;unfold FE Lm;have ak:(a8 a).cells=some [a8 a] :=by cases a<;>rfl
 simp[ak];refine ald a aG aq fun cw=>?_
 simp;exact aZ rfl rfl
def o7 (l:List (List B)) :List B:=dT l.length++l.flatten
theorem Q7:∀ (x:List B),ka 1 x.length (x.map bG)=x.map b9
 | []=>rfl
 | b::r=>by
  show ((bG b::r.map bG).take 1) ::ka 1 r.length ((bG b::r.map bG).drop 1)=_;simp[Q7 r,b9]
theorem ac7 {x:List B} (h:x.length=32) :ka 1 32 (a2 x)=x.map b9:=by
 have:=Q7 x;rw[h] at this;exact this
theorem Jd {l:List (List B)} (h:∀ x∈l,x.length=32) :l.flatten.length=l.length*32:=l3 h
theorem aaF {l:List (List B)} {k:Nat} {x:List B} (h:l[k]? = some x) :(l.take (k+1)).flatten=(l.take k).flatten++x:=by
 rw[List.take_add_one,h]; simp
theorem alP {x:List B} (h:x.length=32) :fN (.arr 32 1) (.cn (a2 x) 0) none none none=some (.b6 1 (x.map b9)) :=by
 have:=ac7 h;have ai:f1 32 32 none none none=some (0,32,32) :=rfl;unfold fN;simp only[ai];simp[dm h,this]
structure abz (l:au) (s:fp) (k:Nat) (ah:bj) (l1:au) :Prop where
 cP:ah 0=cS 32 a2 s
 bD:ah 4=.int .i64 k
 rX:∃ v,ah 3=v/\cq 1 b9 l l1 v (dT s.l.length++(s.l.take k).flatten) false
theorem akt (s:fp) (ay:hS s) (ar:s.l.length<=1000) {l:au} {K:ae->au->Prop} (a7:∀ v l',cq 1 b9 l l' v (o7 s.l) false->K v l') :
  dB Tryz.prog GS 140 [a8 s] l (c:=⟨K⟩) :=by
 apply bI O8 XF;unfold E3 KO;have aC:cJ=140737488355328:=rfl;have aI:(BitVec.ofNat 64 s.l.length).toNat=s.l.length:=by rw[BitVec.toNat_ofNat]; exact Nat.mod_eq_of_lt (by omega)
 have ly:=ha s.l.length;simp[a8];refine tF _ fun v l' h=>?_
 rw[aI] at h;simp;refine c0 s.l.length (abz l s) ?_ ⟨by simp[a8],by simp,v,by simp,by simpa using h⟩;rintro k ah l1 aE ⟨cP,bD,v,bd,eu⟩;obtain⟨ah,rfl⟩:=jG cP bd bD;clear cP bd bD;unfold U8;simp;refine rM (fun h=>?_) (fun h=>?_)
 ·simp only[decide_eq_true_eq] at h;obtain⟨x,aj,dV⟩:=ck (l:=s.l) (k:=k) (by omega);have a1:IntKind.i64.wrap ((k:Int)+1)=((k+1:Nat) :Int) :=by rw[IntKind.wrap_i64]; omega
  have fE:((s.l.take k).flatten).length<=32000:=by
   rw[Jd (fun y aO=>ay y (List.mem_of_mem_take aO)),List.length_take]; omega
  obtain⟨bf,cg,bn,bA,_⟩:=eu.app (by_:=1) (x:=.b6 1 (x.map b9)) (xs:=x) (by simp[df]) (by simp[b9]) (by omega) (by omega) (by rw[aC,ay x dV]; simp only[List.length_append]; omega);simp[aj,dm (ay x dV),List.take_of_length_le,alP (ay x dV),bn];refine du.cM ?_;simp[a1];exact⟨by omega,by simp,by simp,bf,by simp,by rw[aaF aj,<-List.append_assoc]; exact bA⟩
 ·simp[h];have aU:s.l.take k=s.l:=List.take_of_length_le (by simp at h; omega);rw[aU] at eu;exact a7 _ _ eu
structure abA (l:au) (s:fp) (k:Nat) (ah:bj) (l1:au) :Prop where
 q5:ah 17=cS 32 a2 s
 q6:ah 18=.int .i64 s.l.length
 q7:ah 19=.int .i64 k
 rX:∃ v,ah 4=v/\cq 1 b9 l l1 v (dT s.l.length++(s.l.take k).flatten) false
theorem anh (s:fp) (ay:hS s) (ar:s.l.length<=60) (aC:eU s.l=true) {l:au} {K:ae->au->Prop} (a7:∀ v l',cq 1 b9 l l' v (o7 s.l) false->K (.bU [v,.int .i64 0]) l') :
  dB Tryz.prog GS 152 [a8 s] l (c:=⟨K⟩) :=by
 apply bI Pj XO;unfold Fc KX;have u6:cJ=140737488355328:=rfl;have aI:(BitVec.ofNat 64 s.l.length).toNat=s.l.length:=by rw[BitVec.toNat_ofNat]; exact Nat.mod_eq_of_lt (by omega)
 have ly:=ha s.l.length;have oD:¬ (60:Int)<(s.l.length:Int) :=by omega
 simp[a8,oD];refine bv (alf s ay (by omega)) (by have:=f2 s; simp[bP]; exact this) ?_;simp[aC,a8];refine vK _ fun v l' h=>?_
 rw[aI] at h;simp[a8];refine c0 s.l.length (abA l s) ?_ ⟨by simp[a8],by simp,by simp,v,by simp,by simpa using h⟩;rintro k ah l1 aE ⟨q5,q6,q7,v,bD,eu⟩;obtain⟨ah,rfl⟩:=j2 q5 q6 q7 bD;clear q5 q6 q7 bD;unfold Vd;simp;refine rM (fun h=>?_) (fun h=>?_)
 ·simp only[decide_eq_true_eq] at h;obtain⟨x,aj,dV⟩:=ck (l:=s.l) (k:=k) (by omega);have a1:IntKind.i64.wrap ((k:Int)+1)=((k+1:Nat) :Int) :=by rw[IntKind.wrap_i64]; omega
  have fE:((s.l.take k).flatten).length<=32000:=by
   rw[Jd (fun y aO=>ay y (List.mem_of_mem_take aO)),List.length_take]; omega
  obtain⟨bf,cg,bn,bA,_⟩:=(eu.more [.cells 32 (a2 x)]).app (by_:=1) (x:=.ao 1 l1.length 0 32 32 32) (xs:=x) (by simp[df,ay x dV,dm (ay x dV),List.take_of_length_le,a2,wq]) (by simp[b9]) (by omega) (by omega) (by rw[u6,ay x dV]; simp only[List.length_append]; omega);have rA:bS (rep 32 (.int .u8 0)) 0 (a2 x)=a2 x:=hb (by rw[dm (ay x dV)]; rfl);simp[aj,dm (ay x dV),List.take_of_length_le,MZ,rA,bn];refine du.cM ?_;simp[a1];exact⟨by omega,by simp,by simp,by simp,bf,by simp,by rw[aaF aj,<-List.append_assoc]; exact bA⟩
 ·simp[h];have aU:s.l.take k=s.l:=List.take_of_length_le (by simp at h; omega);rw[aU] at eu;exact a7 _ _ eu
def eW (s:List UInt8) :List B:=s.map fun b=>b.toBitVec
theorem DJ (s:List UInt8) :(s.map fun b=>[hZ b])=(eW s).map b9:=by
 unfold eW;rw[List.map_map];rfl
theorem od (s:List UInt8) :(eW s).length=s.length:=by simp[eW]
def mG (b:Q) (k:Nat) :List B:=(List.range k).map fun i=>j9 b.toNat (7 - i)
def hV (v:hk) :List B:=v.kind::(if v.kind=1#8 then dT (k9 v.num).toNat else if v.kind=2#8 then mG v.bits 8 else hU (eW v.text))
def JZ (v:hk) :Prop:=-9223372036854775808<=v.num/\v.num<9223372036854775808/\v.text.length<=10000
theorem Oj (b:Q) (k:Nat) :mG b (k+1)=mG b k++[j9 b.toNat (7 - k)] :=by
 unfold mG; rw[List.range_succ,List.map_append]; rfl
theorem Wv (l:au) (c:bg) (x:B) :cq 1 b9 l (l++[c,.cells 1 [bG x]]) (.ao 1 (l.length+1) 0 1 1 1) [x] false:=by
 exact⟨l.length+1,ph (n:=1) (a:=[x]) rfl (by simp),by simp,fun b ai=>List.getElem?_append_left ai,.inr (by omega),rfl⟩
theorem rY (l:au) (c:bg) (x:B) :cq 1 b9 (l++[c]) (l++[c,.cells 1 [bG x]]) (.ao 1 (l.length+1) 0 1 1 1) [x] false:=by
 have e:l++[c,.cells 1 [bG x]]=(l++[c])++[.cells 1 [bG x]] :=by simp
 exact⟨l.length+1,ph (n:=1) (a:=[x]) rfl (by simp),by simp,fun b ai=>by rw[e]; exact List.getElem?_append_left ai,.inr (by simp),rfl⟩
structure abr (l:au) (v:hk) (p:Nat) (k:Nat) (ah:bj) (l1:au) :Prop where
 aV:ah 1=.ptr p 0 4
 bD:ah 4=.int .i64 (7 - (k:Int))
 rX:∃ w,ah 3=w/\cq 1 b9 (l++[.cells 4 (d0 v)]) l1 w (v.kind::mG v.bits k) false
theorem akJ (v:hk) (ax:JZ v) {l:au} {K:ae->au->Prop} (a7:∀ w l',cq 1 b9 l l' w (hV v) false->K w l') :
  dB Tryz.prog GS 142 [.aS (d0 v)] l (c:=⟨K⟩) :=by
 apply bI Pb XH;unfold E5 KQ;have aC:cJ=140737488355328:=rfl;have aQ:=Wv l (.cells 4 (d0 v)) v.kind;obtain⟨ry,p1,aU⟩:=ax;have ak:sJ (.str v.text)=some (.b6 1 ((eW v.text).map b9)) :=by
  show some (ae.b6 1 (v.text.map fun b=>[hZ b]))=_;rw[DJ]
 by_cases cz:v.kind=1#8
 ·have m1:hV v=[v.kind]++dT (k9 v.num).toNat:=by unfold hV; rw[if_pos cz]; rfl
  have a1:(u v.kind:Int)=1:=(hi v.kind).2 cz;simp only[bG,a1] at aQ;have ly:=ha (k9 v.num).toNat
  simp[d0,a1];refine akF v.num ry p1 fun w l' h=>?_
  obtain⟨bf,cg,bn,bA,_⟩:=(aQ.frame h.le h.same).app (by_:=1) (x:=w) (xs:=dT (k9 v.num).toNat) h.contents (by simp[b9]) (by omega) (by omega) (by rw[aC]; simp only[List.length_cons,List.length_nil]; omega);simp[bn];refine du.cM ?_;simp;exact a7 _ _ (by rw[m1]; exact bA)
 ·have a1:¬ (u v.kind:Int)=1:=fun h=>cz ((hi v.kind).1 h)
  by_cases de:v.kind=2#8
  ·have b7:(u v.kind:Int)=2:=(j1 v.kind).2 de;have m1:hV v=v.kind::mG v.bits 8:=by unfold hV; rw[if_neg cz,if_pos de]
   have af:=rY l (.cells 4 (d0 v)) v.kind;simp only[bG,b7] at af;simp[d0,b7];refine c0 8 (abr l v l.length) ?_ ⟨by simp,by simp,_,by simp,af⟩;rintro k ah l1 aE ⟨aV,bD,w,bd,eu⟩;have aF:l1[l.length]? = some (.cells 4 (d0 v)) :=by rw[eu.same l.length (by simp)]; simp
   obtain⟨ah,rfl⟩:=jG aV bd bD;clear aV bd bD;unfold U9;by_cases g6:k=8
   ·subst g6;rw[<-m1] at eu;simp;exact a7 _ _ (eu.base (by simp) fun b ai=>List.getElem?_append_left ai)
   ·obtain⟨m,hm⟩:∃ m,m+k=7:=⟨7 - k,by omega⟩
    have em:7 - (k:Int)=(m:Int) :=by omega
    have Hc:IntKind.i64.wrap ((m:Int) - 1)=(m:Int) - 1:=by rw[IntKind.wrap_i64]; omega
    have adO:IntKind.i64.wrap (8*(m:Int))=((8*m:Nat) :Int) :=by rw[IntKind.wrap_i64]; omega
    have my:ct .shr .u64 (u v.bits) .i64 ((8*m:Nat) :Int)=some (.int .u64 (u (v.bits >>> (8*m)))) :=su v.bits .i64 (8*m);have sg:=AX v.bits m;have bz:(v.kind::mG v.bits k).length<=1000000000:=by simp[mG]; omega
    obtain⟨w',l',bn,bA⟩:=cq.push eu (j9 v.bits.toNat m) bz;rw[em];simp[d0] at aF;simp[aF,adO,my,sg,bn,-Int.natCast_mul];refine du.cM ?_;simp[Hc];exact⟨by omega,by simp,by simp; omega,w',by simp,by rw[Oj,show 7 - k=m by omega]; exact bA⟩
  ·have b7:¬ (u v.kind:Int)=2:=fun h=>de ((j1 v.kind).1 h)
   have m1:hV v=[v.kind]++hU (eW v.text) :=by unfold hV; rw[if_neg cz,if_neg de]; rfl
   have jS:(hU (eW v.text)).length<=20000:=by
    have:=ha (eW v.text).length;unfold hU;rw[List.length_append];have:=od v.text;omega
   simp[d0,a1,b7,ak];refine ZC (some (eW v.text)) (by simpa [od] using aU) (by simp[df]) (by simp) (fun l' _ _=>by simp[df]) fun w l' h=>?_
   obtain⟨bf,cg,bn,bA,_⟩:=(aQ.frame h.le h.same).app (by_:=1) (x:=w) (xs:=hU (eW v.text)) h.contents (by simp[b9]) (by omega) (by omega) (by rw[aC]; simp only[List.length_cons,List.length_nil]; omega);simp[bn];refine du.cM ?_;simp;exact a7 _ _ (by rw[m1]; exact bA)
structure abs (l:au) (v:hk) (p:Nat) (k:Nat) (ah:bj) (l1:au) :Prop where
 aV:ah 1=.ptr p 0 4
 cj:ah 6=.int .i64 (8*(7 - (k:Int)))
 rX:∃ w,ah 5=w/\cq 1 b9 (l++[.cells 4 (d0 v)]) l1 w (v.kind::mG v.bits k) false
theorem air {v:hk} (h:jd v=true) (cz:¬ v.kind=1#8) (de:¬ v.kind=2#8) :v.kind=3#8:=by
 unfold jd at h;simp[cz,de] at h;exact h.1
theorem anl (v:hk) (ax:JZ v) (dG:jd v=true) {l:au} {K:ae->au->Prop} (a7:∀ w l',cq 1 b9 l l' w (hV v) false->K (.bU [w,.int .i64 0]) l') :
  dB Tryz.prog GS 154 [.aS (d0 v)] l (c:=⟨K⟩) :=by
 apply bI Pl XQ;unfold Ff KZ;have aC:cJ=140737488355328:=rfl;have aQ:=Wv l (.cells 4 (d0 v)) v.kind;obtain⟨ry,p1,aU⟩:=ax;have ak:sJ (.str v.text)=some (.b6 1 ((eW v.text).map b9)) :=by
  show some (ae.b6 1 (v.text.map fun b=>[hZ b]))=_;rw[DJ]
 have ea:=aa1 v;rw[dG] at ea;by_cases cz:v.kind=1#8
 ·have m1:hV v=[v.kind]++dT (k9 v.num).toNat:=by unfold hV; rw[if_pos cz]; rfl
  have a1:(u v.kind:Int)=1:=(hi v.kind).2 cz;simp only[bG,a1] at aQ;have ly:=ha (k9 v.num).toNat
  simp[d0];refine bv ea rfl ?_;simp[kJ,a1];refine ank v.num ry p1 fun w l' h=>?_
  obtain⟨bf,cg,bn,bA,_⟩:=(aQ.frame h.le h.same).app (by_:=1) (x:=w) (xs:=dT (k9 v.num).toNat) h.contents (by simp[b9]) (by omega) (by omega) (by rw[aC]; simp only[List.length_cons,List.length_nil]; omega);simp[bn];refine du.cM ?_;simp;exact a7 _ _ (by rw[m1]; exact bA)
 ·have a1:¬ (u v.kind:Int)=1:=fun h=>cz ((hi v.kind).1 h)
  by_cases de:v.kind=2#8
  ·have b7:(u v.kind:Int)=2:=(j1 v.kind).2 de;have m1:hV v=v.kind::mG v.bits 8:=by unfold hV; rw[if_neg cz,if_pos de]
   have af:=rY l (.cells 4 (d0 v)) v.kind;simp only[bG,b7] at af;simp[d0];refine bv ea rfl ?_;simp[kJ,b7];refine c0 8 (abs l v l.length) ?_ ⟨by simp,by simp,_,by simp,af⟩;rintro k ah l1 aE ⟨aV,cj,w,br,eu⟩;have aF:l1[l.length]? = some (.cells 4 (d0 v)) :=by rw[eu.same l.length (by simp)]; simp
   obtain⟨ah,rfl⟩:=jG aV br cj;clear aV br cj;unfold Ve;by_cases g6:k=8
   ·subst g6;rw[<-m1] at eu;simp;exact a7 _ _ (eu.base (by simp) fun b ai=>List.getElem?_append_left ai)
   ·obtain⟨m,hm⟩:∃ m,m+k=7:=⟨7 - k,by omega⟩
    obtain⟨n,aI⟩:∃ n,n=8*m:=⟨_,rfl⟩
    have em:8*(7 - (k:Int))=(n:Int) :=by omega
    have Hc:IntKind.i64.wrap ((n:Int) - 8)=(n:Int) - 8:=by rw[IntKind.wrap_i64]; omega
    have my:ct .shr .u64 (u v.bits) .i64 (n:Int)=some (.int .u64 (u (v.bits >>> n))) :=su v.bits .i64 n;have sg:=AX v.bits m;rw[<-aI] at sg;have bz:(v.kind::mG v.bits k).length<=1000000000:=by simp[mG]; omega
    obtain⟨w',l',bn,bA⟩:=cq.push eu (j9 v.bits.toNat m) bz;rw[em];simp[d0] at aF;simp[aF,my,sg,bn];refine du.cM ?_;simp[Hc];exact⟨by omega,by simp,by simp; omega,w',by simp,by rw[Oj,show 7 - k=m by omega]; exact bA⟩
  ·have b7:¬ (u v.kind:Int)=2:=fun h=>de ((j1 v.kind).1 h)
   have dO:(u v.kind:Int)=3:=(nj v.kind).2 (air dG cz de);have m1:hV v=[v.kind]++hU (eW v.text) :=by unfold hV; rw[if_neg cz,if_neg de]; rfl
   have jS:(hU (eW v.text)).length<=20000:=by
    have:=ha (eW v.text).length;unfold hU;rw[List.length_append];have:=od v.text;omega
   simp only[bG,dO] at aQ;simp[d0];refine bv ea rfl ?_;simp[kJ,dO,ak];refine aa7 (some (eW v.text)) (by simpa [od] using aU) (by simp[df]) (by simp) (fun l' _ _=>by simp[df]) fun w l' h=>?_
   obtain⟨bf,cg,bn,bA,_⟩:=(aQ.frame h.le h.same).app (by_:=1) (x:=w) (xs:=hU (eW v.text)) h.contents (by simp[b9]) (by omega) (by omega) (by rw[aC]; simp only[List.length_cons,List.length_nil]; omega);simp[bn];refine du.cM ?_;simp;exact a7 _ _ (by rw[m1]; exact bA)
structure bH where
 fP:D
 bx:fp
 gT:Q
 act:Act
 e:D
 s:D
def bl (o:bH) :List ae:=[bu o.fP,a8 o.bx,dz o.gT,bG o.act.kind,.str o.act.key,bG o.act.val.kind,.int .i64 o.act.val.num,dz o.act.val.bits,.str o.act.val.text,bu o.e,bu o.s]
structure iv (o:bH) :Prop where
 ids:hS o.bx
 len:o.bx.l.length<=1000000
 val:JZ o.act.val
 key:o.act.key.length<=10000
def rc (o:bH) :Bool:=fk o.fP&&(decide (o.gT.toNat<=1000000000000)&&(jg o.act&&(h0 o.e&&h0 o.s)))
def fX (o:bH) :Int:=if 4<o.bx.l.length then 4 else if eU o.bx.l then (if rc o then 0 else 8) else 32
theorem kb (o:bH) :bP (bl o)=true:=by
 have:=f2 o.bx;simp[bl,bP,ae.closed,this]
theorem akw (o:bH) (ay:iv o) :bT Tryz.prog GS 31 [.aS (bl o)] (.int .i64 (fX o)) :=by
 refine ca Tryz.checked.mixed b3 ?_;apply bI Qb YI;unfold F7 LP fX;have er:=f2 o.bx;have bz:c9 (.ao 32) (a8 o.bx)=some (.int .i64 o.bx.l.length) :=by simp[a8]
 have h4:(a8 o.bx).cells=some [a8 o.bx] :=by cases o.bx<;>rfl
 obtain⟨p,aF⟩:∃ p,p=a8 o.bx:=⟨_,rfl⟩
 by_cases h1:4<o.bx.l.length
 ·have d8:(4:Int)<(o.bx.l.length:Int) :=by omega
  rw[if_pos h1];simp[bl,bz,d8];exact aZ rfl rfl
 ·have d8:¬ (4:Int)<(o.bx.l.length:Int) :=by omega
  rw[if_neg h1];simp[bl,bz,d8];refine bv (ZA o.bx ay.ids ay.len) (by simp[bP,er]) ?_;cases af:eU o.bx.l with
  | false=>
   simp;exact aZ rfl rfl
  | true=>
   simp;refine bv (ZJ o.fP) rfl ?_;unfold rc;cases ap:fk o.fP with
   | false=>
    simp;exact aZ rfl rfl
   | true=>
    have cm:((1000000000000:Int)<u o.gT)<->¬ o.gT.toNat<=1000000000000:=by unfold u; omega
    by_cases aH:o.gT.toNat<=1000000000000
    ·have wB:¬ ((1000000000000:Int)<u o.gT) :=fun h=>cm.1 h aH
     simp[aH,wB];refine bv (akZ o.act) rfl ?_;cases bc:jg o.act with
     | false=>
      simp[kJ];exact aZ rfl rfl
     | true=>
      simp[kJ];refine bv (Bm o.e) rfl ?_;cases bM:h0 o.e with
      | false=>
       simp;exact aZ rfl rfl
      | true=>
       simp;refine bv (Bm o.s) rfl ?_;cases eE:h0 o.s with
       | false=>
        simp;exact aZ rfl rfl
       | true=>
        simp;exact aZ (by rw[if_pos aH]) rfl
    ·have wB:(1000000000000:Int)<u o.gT:=cm.2 aH;simp[aH,wB];exact aZ rfl rfl
def opHead (o:bH) :List B:=111#8::dT o.fP.toNat
def i8 (o:bH) :List B:=
 opHead o++o7 o.bx.l++dT o.gT.toNat++[o.act.kind]++(if o.act.kind=1#8 then [] else hU (eW o.act.key))++(if o.act.kind=4#8 then hV o.act.val else [])
theorem zD {l:List (List B)} (h:∀ x∈l,x.length=32) :(o7 l).length<=9+l.length*32:=by
 have:=ha l.length;have af:=Jd h;unfold o7;rw[List.length_append];omega
theorem xO (s:List B) :(hU s).length<=9+s.length:=by
 have:=ha s.length;unfold hU;rw[List.length_append];omega
theorem Aq (v:hk) :(hV v).length<=20+v.text.length:=by
 have h1:=ha (k9 v.num).toNat
 have af:=xO (eW v.text);have ap:=od v.text;unfold hV;simp only[List.length_cons];split
 ·omega
 ·split
  ·simp[mG]; omega
  ·omega
theorem ZB (o:bH) (ay:iv o) (rs:o.bx.l.length<=1000) {l:au} {K:ae->au->Prop} (a7:∀ w l',cq 1 b9 l l' w (i8 o) false->K w l') :
  dB Tryz.prog GS 101 [.aS (bl o)] l (c:=⟨K⟩) :=by
 apply bI OH Xf;unfold EE Kp;have aC:cJ=140737488355328:=rfl;have aQ:=rY l (.cells 11 (bl o)) 111#8;have Is:=ha o.fP.toNat
 have p2:=ha o.gT.toNat
 have fU:=zD ay.ids;have IY:(BitVec.setWidth 64 o.fP).toNat=o.fP.toNat:=by rw[BitVec.toNat_setWidth]; exact Nat.mod_eq_of_lt (by have:=o.fP.isLt; omega)
 have aN:l.length<(l++[bg.cells 11 (bl o)]).length:=by simp
 have fx:(l++[bg.cells 11 (bl o)])[l.length]? = some (.cells 11 (bl o)) :=by simp
 simp[bl];refine tF _ fun b4 l1 h1=>?_
 rw[IY] at h1;obtain⟨w2,cg,bA,dN,_⟩:=(aQ.frame h1.le h1.same).app (by_:=1) (x:=b4) (xs:=dT o.fP.toNat) h1.contents (by simp[b9]) (by omega) (by omega) (by rw[aC]; simp only[List.length_cons,List.length_nil]; omega);have p4:cg[l.length]? = some (.cells 11 (bl o)) :=by rw[dN.same _ aN]; exact fx
 have nQ:l.length<cg.length:=by have:=dN.le; omega
 have oT:=p4;simp[bl] at oT;simp[bA];refine du.cM ?_;simp[oT];refine akt o.bx ay.ids rs fun ef eS ap=>?_
 obtain⟨pp,n4,a4,ox,_⟩:=(dN.frame ap.le ap.same).app (by_:=1) (x:=ef) (xs:=o7 o.bx.l) ap.contents (by simp[b9]) (by omega) (by omega) (by rw[aC]; simp only[List.length_append,List.length_cons,List.length_nil]; omega);have cH:eS[l.length]? = some (.cells 11 (bl o)) :=by rw[ap.same _ nQ]; exact p4
 have Cp:n4[l.length]? = some (.cells 11 (bl o)) :=by rw[ox.same _ aN]; exact fx
 have agw:l.length<n4.length:=by have:=ox.le; omega
 have s8:=cH;have wZ:=Cp;simp[bl] at s8 wZ;simp[s8,a4];refine du.cM ?_;simp[wZ];refine tF _ fun t1 JB bc=>?_
 obtain⟨aum,aiD,abS,Od,_⟩:=(ox.frame bc.le bc.same).app (by_:=1) (x:=t1) (xs:=dT o.gT.toNat) bc.contents (by simp[b9]) (by omega) (by omega) (by rw[aC]; simp only[List.length_append,List.length_cons,List.length_nil]; omega);have agX:aiD[l.length]? = some (.cells 11 (bl o)) :=by rw[Od.same _ aN]; exact fx
 have T5:=agX;simp[bl] at T5;obtain⟨Ar,VQ,abT,qW⟩:=cq.push Od o.act.kind (by simp only[List.length_append,List.length_cons,List.length_nil]; omega);have agY:VQ[l.length]? = some (.cells 11 (bl o)) :=by rw[qW.same _ aN]; exact fx
 have aqw:l.length<VQ.length:=by have:=qW.le; omega
 have IA:=agY;simp[bl] at IA;simp[abS];refine du.cM ?_;simp[T5,abT];refine du.cM ?_;obtain⟨M,lr⟩:∃ M,M=[111#8]++dT o.fP.toNat++o7 o.bx.l++dT o.gT.toNat++[o.act.kind] :=⟨_,rfl⟩
 have ae0:M.length<=40000:=by rw[lr]; simp only[List.length_append,List.length_cons,List.length_nil]; omega
 rw[<-lr] at qW;have d9:i8 o=M++(if o.act.kind=1#8 then [] else hU (eW o.act.key))++(if o.act.kind=4#8 then hV o.act.val else []) :=by rw[lr]; rfl
 have jS:=xO (eW o.act.key);rw[od] at jS;have Ik:=ay.key;have jz:=Aq o.act.val;have ahz:=ay.val.2.2;have ak:sJ (.str o.act.key)=some (.b6 1 ((eW o.act.key).map b9)) :=by
  show some (ae.b6 1 (o.act.key.map fun b=>[hZ b]))=_;rw[DJ]
 by_cases cz:o.act.kind=1#8
 ·have a1:(u o.act.kind:Int)=1:=(hi o.act.kind).2 cz;have hF:¬ o.act.kind=4#8:=by rw[cz]; decide
  rw[if_pos cz,if_neg hF,List.append_nil,List.append_nil] at d9;simp[IA,a1];exact a7 _ _ (by rw[d9]; exact qW.base (by simp) fun b ai=>List.getElem?_append_left ai)
 ·have a1:¬ (u o.act.kind:Int)=1:=fun h=>cz ((hi o.act.kind).1 h)
  rw[if_neg cz] at d9;simp[IA,a1,ak];refine ZC (some (eW o.act.key)) (by simpa [od] using Ik) (by simp[df]) (by simp) (fun l' _ _=>by simp[df]) fun DT jV gN=>?_
  obtain⟨anb,JC,a9,sp,_⟩:=(qW.frame gN.le gN.same).app (by_:=1) (x:=DT) (xs:=hU (eW o.act.key)) gN.contents (by simp[b9]) (by omega) (by omega) (by rw[aC]; omega);have IB:JC[l.length]? = some (.cells 11 (bl o)) :=by rw[sp.same _ aN]; exact fx
  have u3:=IB;simp[bl] at u3;simp[a9];refine du.cM ?_;simp only[Bool.false_and] at sp;by_cases hF:o.act.kind=4#8
  ·have ke:(u o.act.kind:Int)=4:=(tT o.act.kind).2 hF;rw[if_pos hF] at d9;simp[u3,ke];refine akJ o.act.val ay.val fun Nu aiz lq=>?_
   obtain⟨ana,aiA,Ee,Ep,_⟩:=(sp.frame lq.le lq.same).app (by_:=1) (x:=Nu) (xs:=hV o.act.val) lq.contents (by simp[b9]) (by omega) (by omega) (by rw[aC]; simp only[List.length_append]; omega);simp[Ee];refine du.cM ?_;simp;exact a7 _ _ (by rw[d9]; exact Ep.base (by simp) fun b ai=>List.getElem?_append_left ai)
  ·have ke:¬ (u o.act.kind:Int)=4:=fun h=>hF ((tT o.act.kind).1 h)
   rw[if_neg hF,List.append_nil] at d9;simp[u3,ke];exact a7 _ _ (by rw[d9]; exact sp.base (by simp) fun b ai=>List.getElem?_append_left ai)
def hh (o:bH) :List B:=i8 o++dT o.e.toNat++dT o.s.toNat
theorem WD (o:bH) (ay:iv o) (rs:o.bx.l.length<=1000) :(i8 o).length<=100000:=by
 have h1:=ha o.fP.toNat
 have af:=ha o.gT.toNat
 have ap:=zD ay.ids;have aH:=xO (eW o.act.key);rw[od] at aH;have bc:=ay.key;have bM:=Aq o.act.val;have eE:=ay.val.2.2;have aV:(if o.act.kind=1#8 then [] else hU (eW o.act.key)).length<=10009:=by split<;>(try simp) ; omega
 have aY:(if o.act.kind=4#8 then hV o.act.val else []).length<=10020:=by split<;>(try simp) ; omega
 unfold i8 opHead;simp only[List.length_append,List.length_cons,List.length_nil];omega
theorem akl (o:bH) (ay:iv o) (rs:o.bx.l.length<=1000) {l:au} {K:ae->au->Prop} (a7:∀ w l',cq 1 b9 l l' w (hh o) false->K w l') :
  dB Tryz.prog GS 68 [.aS (bl o)] l (c:=⟨K⟩) :=by
 apply bI QA Y6;unfold Gu Mc;have aC:cJ=140737488355328:=rfl;have b0:=ha o.e.toNat
 have p2:=ha o.s.toNat
 have jS:=WD o ay rs;have jx:(BitVec.setWidth 64 o.e).toNat=o.e.toNat:=by rw[BitVec.toNat_setWidth]; exact Nat.mod_eq_of_lt (by have:=o.e.isLt; omega)
 have mc:(BitVec.setWidth 64 o.s).toNat=o.s.toNat:=by rw[BitVec.toNat_setWidth]; exact Nat.mod_eq_of_lt (by have:=o.s.isLt; omega)
 have aN:l.length<(l++[bg.cells 11 (bl o)]).length:=by simp
 have fx:(l++[bg.cells 11 (bl o)])[l.length]? = some (.cells 11 (bl o)) :=by simp
 simp[bl];refine ZB o ay rs fun b4 l1 h1=>?_
 have p3:l1[l.length]? = some (.cells 11 (bl o)) :=by rw[h1.same _ aN]; exact fx
 have nP:l.length<l1.length:=by have:=h1.le; simp at this; omega
 have u1:=p3;simp[bl] at u1;simp[u1];refine tF _ fun w2 cg af=>?_
 rw[jx] at af;obtain⟨ef,eS,a3,gy,_⟩:=(h1.frame af.le af.same).app (by_:=1) (x:=w2) (xs:=dT o.e.toNat) af.contents (by simp[b9]) (by omega) (by omega) (by rw[aC]; omega);have p4:cg[l.length]? = some (.cells 11 (bl o)) :=by rw[af.same _ nP]; exact p3
 have cH:eS[l.length]? = some (.cells 11 (bl o)) :=by rw[gy.same _ aN]; exact fx
 have oT:=p4;have s8:=cH;simp[bl] at oT s8;simp[oT,a3];refine du.cM ?_;simp[s8];refine tF _ fun pp n4 aH=>?_
 rw[mc] at aH;obtain⟨t1,JB,a5,vZ,_⟩:=(gy.frame aH.le aH.same).app (by_:=1) (x:=pp) (xs:=dT o.s.toNat) aH.contents (by simp[b9]) (by omega) (by omega) (by rw[aC]; simp only[List.length_append]; omega);simp[a5];refine du.cM ?_;simp;exact a7 _ _ (vZ.base (by simp) fun b ai=>List.getElem?_append_left ai)
theorem akv (o:bH) (ay:iv o) (rs:o.bx.l.length<=1000) :bT Tryz.prog GS 32 [.aS (bl o)] (fj (hA (hh o))) :=by
 refine ca Tryz.checked.mixed b3 ?_;apply bI Qc YJ;unfold F8 LQ;have b0:=ha o.e.toNat
 have p2:=ha o.s.toNat
 have jS:=WD o ay rs;have e7:(hA (hh o)).length=32:=tO _;simp[bl];refine akl o ay rs fun b4 l1 h1=>?_
 have fx:l1[1]? = some (.cells 32 (rep 32 (.int .u8 0))) :=by rw[h1.same 1 (by simp)]; rfl
 simp;refine ja (ZK (some (hh o)) (by simp[hh]; omega)) (.cons (h1.qw (fun _=>rfl) (some (hh o)) rfl rfl) .nil) (by simp[ae.flat,kf,fj,wu bG (fun _=>rfl)]) ?_;have u9:bS (rep 32 (.int .u8 0)) 0 ((hA (hh o)).map bG)=(hA (hh o)).map bG:=hb (by rw[List.length_map,e7]; rfl);have lA:(l1.set 1 (bg.cells 32 ((hA (hh o)).map bG)))[1]? = some (.cells 32 ((hA (hh o)).map bG)) :=List.getElem?_set_self (fg fx);simp[fx,fj,e7,u9,lA,List.take_of_length_le];exact aZ rfl (by simp[ae.closed,kG bG (fun _=>rfl)])
theorem AP:∀ a b:List B,a.length=b.length->eD (a.map bG) (b.map bG)=decide (a=b)
 | [],[],_=>rfl
 | [],_::_,h=>by simp at h
 | _::_,[],h=>by simp at h
 | x::a,y::b,h=>by
  have aK:=AP a b (by simpa using h);simp only[List.map_cons,eD,aK,ae.beq,decide_true,Bool.true_and];by_cases h1:x=y
  ·by_cases af:a=b<;>simp[h1,af]
  ·have:¬ u x=u y:=fun h=>h1 ((qH x y).1 h)
   simp[h1]
theorem xu:∀ a:List B,hg (List.replicate a.length (.i .u8)) (a.map bG)=true
 | []=>rfl
 | x::a=>by
  rw[List.length_cons,List.replicate_succ,List.map_cons];simp only[hg,xu a,DM,decide_true,Bool.and_self]
theorem UR:o4 Tryz.prog 20 71=some (List.replicate 32 (.i .u8)) :=by kernel_rfl
theorem Jb {a b:List B} (aG:a.length=32) (ai:b.length=32) :fD Tryz.prog .eql 71 (.aS (a2 a)) (.aS (a2 b))=some (.bool (decide (a=b))) :=by
 unfold a2;rw[AQ UR (by kernel_rfl) (by kernel_rfl) (by have:=xu a; rwa [aG] at this) (by have:=xu b; rwa [ai] at this),AP a b (by omega)]
theorem CL {a b:List B} (aG:a.length=32) (ai:b.length=32) :fD Tryz.prog .neq 71 (.aS (a2 a)) (.aS (a2 b))=some (.bool (!decide (a=b))) :=by
 unfold a2;rw[Ev UR (by kernel_rfl) (by kernel_rfl) (by have:=xu a; rwa [aG] at this) (by have:=xu b; rwa [ai] at this),AP a b (by omega)]
theorem ajh (s:fp) :fD Tryz.prog .eql 26 (cS 32 a2 s) .a6=some (.bool s.isNone) :=Ot (e:=71) (by kernel_rfl) 32 a2 s
theorem aju (l:au) :cq 32 a2 l (l++[.cells 0 []]) (.ao 32 l.length 0 0 0 0) ([] :List (List B)) false:=
 ⟨l.length,.ao l.length 0 0 0 [] [] (by simp) rfl rfl (by simp) (Nat.le_refl _) (by omega) rfl,by simp,fun b ai=>List.getElem?_append_left ai,.inr (Nat.le_refl _),rfl⟩
theorem ahK (s:fp) (ay:hS s) (ar:s.l.length<=1000000) {l:au} {K:ae->au->Prop} (a7:∀ v l',cq 32 a2 l l' v s.l s.isNone->K v l') :
  dB Tryz.prog GS 150 [a8 s] l (c:=⟨K⟩) :=by
 apply bI Pg XM;unfold Fa KV;have aC:cJ=140737488355328:=rfl;cases s with
 | none=>
  simp[a8];exact a7 _ _ cq.nil
 | some a=>
  simp at ar;obtain⟨bf,l',bn,bA,_⟩:=(aju l).app (by_:=32) (x:=cS 32 a2 (some a)) (xs:=a) (wh _ 32 a2 (some a)) (fun y aO=>dm (ay y aO)) (by omega) (by omega) (by rw[aC]; simp; omega);simp[a8,ajh,bn];refine du.cM ?_;simp;exact a7 _ _ (by simpa using bA)
def nC (l:List (List B)) (m:Nat) :List (List B) :=(List.range m).flatMap fun k=>if k=0\/cc l k≠cc l (k - 1) then [cc l k] else []
def pJ (l:List (List B)) :List (List B) :=nC l l.length
theorem yl (l:List (List B)) (m:Nat) :nC l (m+1)=nC l m++(if m=0\/cc l m≠cc l (m - 1) then [cc l m] else []) :=by
 unfold nC; rw[List.range_succ,List.flatMap_append]; simp
theorem Ru (l:List (List B)) :∀ m,(nC l m).length<=m
 | 0=>by simp[nC]
 | m+1=>by
  have:=Ru l m;rw[yl,List.length_append];split<;>simp<;>omega
theorem yk {l:List (List B)}:∀ {m},m<=l.length->(∀ k,1<=k->k<m->cc l k≠cc l (k - 1))->nC l m=l.take m
 | 0,_,_=>by simp[nC]
 | m+1,hm,h=>by
  rw[yl,yk (by omega) (fun k h1 af=>h k h1 (by omega)),List.take_add_one,if_pos (by
   by_cases aQ:m=0
   ·exact .inl aQ
   ·exact .inr (h m (by omega) (by omega)))]
  congr 1;unfold cc;rw[List.getD_eq_getElem?_getD,List.getElem?_eq_getElem (by omega)];rfl
theorem Rv {l:List (List B)} {k:Nat} (h1:1<=k) (aw:cc l k=cc l (k - 1)) :∀ {m},k<m->(nC l m).length<m
 | 0,h=>by omega
 | m+1,h=>by
  rw[yl,List.length_append];by_cases aE:k=m
  ·subst aE;have:=Ru l k;rw[if_neg (fun h=>h.elim (fun aQ=>by omega) (fun af=>af aw))];simp; omega
  ·have:=Rv h1 aw (m:=m) (by omega);split<;>simp<;>omega
theorem adw {l:List (List B)} (ar:vH l=true) :((pJ l).length=l.length)<->eU l=true:=by
 unfold vH at ar;rw[decide_eq_true_eq] at ar;unfold eU pJ;rw[decide_eq_true_eq];constructor
 ·intro h k aE h1;have af:=ar k aE h1;have ap:cc l k≠cc l (k - 1) :=fun aw=>by
   have:=Rv h1 aw aE;omega
  have aH:=Bb (cc l k) (cc l (k - 1));have bc:cK (cc l (k - 1)) (cc l k)≠0:=fun aQ=>ap (Ba aQ).symm
  omega
 ·intro h;rw[yk (Nat.le_refl _) (fun k h1 af aw=>by
   have:=h k af h1;rw[<-aw,q0] at this;omega),List.take_length]
theorem CM {a:List (List B)} {k:Nat} (h:k<a.length) :(a.map a2)[k]? = some (a2 (cc a k)) :=by
 rw[List.getElem?_map];unfold cc;rw[List.getD_eq_getElem?_getD,List.getElem?_eq_getElem h];rfl
theorem CK {a:List (List B)} {k:Nat} (h:k<a.length) :cc a k∈a:=by
 unfold cc;rw[List.getD_eq_getElem?_getD,List.getElem?_eq_getElem h];exact List.getElem_mem h
structure abw (l:au) (v:ae) (xs:List (List B)) (k:Nat) (ah:bj) (l1:au) :Prop where
 cP:ah 0=v
 bd:ah 3=.int .i64 ((k+1:Nat) :Int)
 aq:l1=l
 ar:∀ j,1<=j->j<k+1->cc xs j≠cc xs (j - 1)
structure abv (l:au) (v dx:ae) (j:Nat) (xs:List (List B)) (m i:Nat) (ah:bj) (cg:au) :Prop where
 cP:ah 0=v
 bD:ah 4=dx
 br:ah 5=.int .i64 ((i+1:Nat) :Int)
 ex:∃ (k:Nat) (bm:List (List B)),ah 3=.int .i64 (k:Int)/\bX 32 cg v j (bm.map a2)/\bm.length=xs.length/\(∀ y∈bm,y.length=32)/\bm.take k=nC xs (m+i+1)/\k<=m+i/\(∀ t,m+i<=t->cc bm t=cc xs t)/\cg.length=l.length/\∀ b,b≠j->cg[b]? = l[b]?
theorem adu {l:au} {v:ae} {j k:Nat} {bm:List (List B)} (h:bX 32 l v j (bm.map a2)) (aE:k<bm.length) :
  ∃ v3 eS r,fN (.ao 32) v (some (.int .i64 (k:Int))) none none=some v3/\sD (rep 32 (.int .u8 0)) l v3=some eS/\fN (.ao 32) v none (some (.int .i64 (k:Int))) none=some r ∧
   bX 32 eS r j ((bm.take k).map a2)/\cT r=false/\eS.length=l.length/\∀ b,b≠j->eS[b]? = l[b]?:=by
 generalize aw:bm.map a2=es at h;cases h with
 | nil j=>rw[List.map_eq_nil_iff] at aw; subst aw; simp at aE
 | ao j n cap sz cs es ai aq aI aB ak cY cL=>
  subst aw;have rv:bm.length=n:=by simpa using aI
  have gG:jK (.int .i64 (k:Int)) n=some k:=by
   show (if 0<=(k:Int)/\(k:Int)<=(n:Int) then some (k:Int).toNat else none)=some k;rw[if_pos ⟨by omega,by omega⟩]; simp
  have e6:jK (.int .i64 (k:Int)) cap=some k:=by
   show (if 0<=(k:Int)/\(k:Int)<=(cap:Int) then some (k:Int).toNat else none)=some k;rw[if_pos ⟨by omega,by omega⟩]; simp
  have ei:f1 n cap (some (.int .i64 (k:Int))) none none=some (k,n,cap) :=by
   show (match jK (.int .i64 (k:Int)) n with | none=>none | some l=>some (l,n,cap))=_;rw[gG]
  have dN:f1 n cap none (some (.int .i64 (k:Int))) none=some (0,k,cap) :=by
   show (match jK (.int .i64 (k:Int)) cap with | none=>none | some h=>some (0,h,cap))=_;rw[e6]
  have ea:¬ cap=k:=by omega
  have BZ:¬ cap=0:=by omega
  have eQ:j<l.length:=fg ai;have fG:k*32<=n*32:=Nat.mul_le_mul_right _ (by omega);have jO:n*32<=cap*32:=Nat.mul_le_mul_right _ ak;have p5:(dp (rep 32 (.int .u8 0)) (n - k)).length=(n - k)*32:=by rw[z2]; rfl
  have aqy:k*32+(n - k)*32=n*32:=by rw[<-Nat.add_mul]; congr 1; omega
  refine⟨.ao 32 j (k*32) (n - k) (cap - k) sz,l.set j (.cells sz (bS cs (k*32) (dp (rep 32 (.int .u8 0)) (n - k)))),.ao 32 j 0 k cap sz,?_,?_,?_,?_,rfl,by simp,fun b kk=>by rw[List.getElem?_set_ne (fun h=>kk h.symm)]⟩
  ·rw[Af,ei]; simp[ea]
  ·unfold sD;simp only;rw[if_neg (by omega)];simp[ai]
  ·rw[Af,dN]; simp[BZ]
  ·refine .ao j k cap sz _ _ (List.getElem?_set_self eQ) (by rw[qC (by omega),p5]; omega) (by simp; omega) (fun e aw=>?_) (by omega) cY ?_
   ·obtain⟨y,aO,rfl⟩:=List.mem_map.1 aw;exact aB _ (List.mem_map_of_mem (List.mem_of_mem_take aO))
   ·unfold bS;rw[List.append_assoc,List.take_append_of_le_length (by rw[List.length_take]; omega),List.take_take,Nat.min_self];have a1:cs.take (k*32)=(cs.take (n*32)).take (k*32) :=by rw[List.take_take,Nat.min_eq_left fG]
    have b7:bm.map a2=(bm.take k).map a2++(bm.drop k).map a2:=by rw[<-List.map_append,List.take_append_drop]
    have dO:((bm.take k).map a2).flatten.length=k*32:=by
     rw[l3 (z:=32) (fun e aw=>by obtain⟨y,aO,rfl⟩:=List.mem_map.1 aw; exact aB _ (List.mem_map_of_mem (List.mem_of_mem_take aO)))];simp; omega
    rw[a1,cL,b7,List.flatten_append,List.take_append_of_le_length (by omega),List.take_of_length_le (by omega)]
theorem WQ {bm:List (List B)} (aB:∀ y∈bm,y.length=32) (k:Nat) (aE:k<=bm.length) {n:Nat} (aI:bm.length=n) {cs:List ae} (cL:cs.take (n*32)=(bm.map a2).flatten) (aq:n*32<=cs.length) :
  cs.take (k*32)=((bm.take k).map a2).flatten/\(cs.drop (k*32)).take (n*32 - k*32)=((bm.drop k).map a2).flatten:=by
 have fG:k*32<=n*32:=Nat.mul_le_mul_right _ (by omega);have b7:bm.map a2=(bm.take k).map a2++(bm.drop k).map a2:=by rw[<-List.map_append,List.take_append_drop]
 have dO:((bm.take k).map a2).flatten.length=k*32:=by
  rw[l3 (z:=32) (fun e aw=>by obtain⟨y,aO,rfl⟩:=List.mem_map.1 aw; exact dm (aB _ (List.mem_of_mem_take aO)))];simp; omega
 have a1:cs.take (k*32)=(cs.take (n*32)).take (k*32) :=by rw[List.take_take,Nat.min_eq_left fG]
 constructor
 ·rw[a1,cL,b7,List.flatten_append,List.take_append_of_le_length (by omega),List.take_of_length_le (by omega)]
 ·rw[<-List.drop_take,cL,b7,List.flatten_append,List.drop_append_of_le_length (by omega),List.drop_of_length_le (by omega),List.nil_append]
theorem alC {l:au} {v:ae} {j k:Nat} {bm:List (List B)} {x:List B} (h:bX 32 l v j (bm.map a2)) (aB:∀ y∈bm,y.length=32) (aE:k<bm.length) (aj:x.length=32) :
  ∃ p l',cO (.ao 32) v (.int .i64 (k:Int))=some p/\iJ 32 l p (.aS (a2 x))=some l'/\bX 32 l' v j ((bm.set k x).map a2)/\l'.length=l.length/\∀ b,b≠j->l'[b]? = l[b]?:=by
 generalize aw:bm.map a2=es at h;cases h with
 | nil j=>rw[List.map_eq_nil_iff] at aw; subst aw; simp at aE
 | ao j n cap sz cs es ai aq aI kr ak cY cL=>
  subst aw;have rv:bm.length=n:=by simpa using aI
  have eQ:j<l.length:=fg ai;have bE:=dm aj;have fG:(k+1)*32<=n*32:=Nat.mul_le_mul_right _ (by omega);have jO:n*32<=cap*32:=Nat.mul_le_mul_right _ ak;have ar:(k+1)*32=k*32+32:=by rw[Nat.succ_mul]
  obtain⟨h2,_⟩:=WQ aB k (by omega) rv cL (by omega);obtain⟨_,pL⟩:=WQ aB (k+1) (by omega) rv cL (by omega);refine⟨.ptr j (k*32) sz,l.set j (.cells sz (bS cs (k*32) (a2 x))),?_,?_,?_,by simp,fun b kk=>by rw[List.getElem?_set_ne (fun h=>kk h.symm)]⟩
  ·simp[cO]; omega
  ·unfold iJ;simp[ai,ae.cells,bE];omega
  ·refine .ao j n cap sz _ _ (List.getElem?_set_self eQ) (by rw[qC (by omega),bE]; omega) (by simp; omega) (fun e aw=>?_) ak cY ?_
   ·obtain⟨y,aO,rfl⟩:=List.mem_map.1 aw;rcases List.mem_or_eq_of_mem_set aO with h | h
    ·exact dm (aB _ h)
    ·rw[h]; exact bE
   ·have lA:bm.set k x=bm.take k++(x::bm.drop (k+1)) :=by rw[List.set_eq_take_append_cons_drop,if_pos aE]
    rw[lA,List.map_append,List.map_cons,List.flatten_append,List.flatten_cons,<-h2,<-pL];unfold bS;have ng:(cs.take (k*32)).length=k*32:=by rw[List.length_take]; omega
    have j0:(cs.take (k*32)).take (n*32)=cs.take (k*32) :=List.take_of_length_le (by rw[ng]; omega);have k8:(a2 x).take (n*32 - k*32)=a2 x:=List.take_of_length_le (by rw[bE]; omega);rw[List.append_assoc,bE,<-ar,List.take_append,ng,j0,List.take_append,k8,bE,show n*32 - k*32 - 32=n*32 - (k+1)*32 by omega]
theorem adk {eR l:au} {v:ae} {xs:List (List B)} {e2:Bool} (h:cq 32 a2 eR l v xs e2) (aj:∀ x∈xs,x.length=32) (aI:xs.length<=1000000) {K:ae->au->Prop} (a7:∀ r l',cq 32 a2 eR l' r (pJ xs) e2->K r l') :
  dB Tryz.prog GS 149 [v] l (c:=⟨K⟩) :=by
 apply bI Pf XL;unfold E9 KU;have bz:=h.len;by_cases af:xs.length<2
 ·have f3:(xs.length:Int)<2:=by omega
  have wJ:pJ xs=xs:=by
   unfold pJ;rw[yk (Nat.le_refl _) (fun k h1 ap=>by omega),List.take_length]
  simp[bz,f3];exact a7 _ _ (by rw[wJ]; exact h)
 ·have f3:¬ (xs.length:Int)<2:=by omega
  simp[bz,f3];refine c0 (xs.length - 1) (abw l v xs) ?_ ⟨by simp,by simp,rfl,fun j h1 ap=>by omega⟩;rintro k ah l1 aE ⟨cP,bd,rfl,ar⟩;obtain⟨ah,rfl⟩:=oj cP bd;clear cP bd;obtain⟨m,hm⟩:∃ m,m=k+1:=⟨_,rfl⟩
  rw[<-hm] at ar ⊢;unfold Vc;by_cases aN:m<xs.length
  ·have a1:IntKind.i64.wrap ((m:Int) - 1)=(k:Int) :=by rw[IntKind.wrap_i64]; omega
   have b7:IntKind.i64.wrap ((m:Int)+1)=((m+1:Nat) :Int) :=by rw[IntKind.wrap_i64]; omega
   have jN:(m:Int)<(xs.length:Int) :=by omega
   obtain⟨j,ay,l9⟩:=h;obtain⟨m9,cz,vt,bn,bA,a3,a4⟩:=ay.q.get (k:=.i64) (CM aN);obtain⟨Df,de,mn,ei,dN,gy,ox⟩:=ay.q.get (k:=.i64) (CM (a:=xs) (k:=k) (by omega));have jM:=Jb (aj _ (CK aN)) (aj _ (CK (a:=xs) (k:=k) (by omega)));obtain⟨X,dY⟩:∃ X,X=cc xs m:=⟨_,rfl⟩
   obtain⟨Y,gj⟩:∃ Y,Y=cc xs k:=⟨_,rfl⟩
   rw[<-dY] at a4 jM;rw[<-gj] at ox jM;by_cases aw:X=Y
   ·have rn:fD Tryz.prog .eql 71 (.aS (a2 X)) (.aS (a2 Y))=some (.bool true) :=by rw[jM,decide_eq_true aw]
    have ax:cT v=false:=by
     cases wV:cT v with
     | false=>rfl
     | true=>
      have:=i4.1 wV;subst this;have:=ay.q.xp;rw[List.map_eq_nil_iff] at this;rw[this] at aN; simp at aN
    obtain⟨dx,dC,mq,_⟩:=ay.q.from ax (k:=.i64) (i:=m) (by simp; omega);have aQ:nC xs m=xs.take m:=yk (by omega) ar;have h1:nC xs (m+1)=xs.take m:=by rw[yl,if_neg (fun h=>h.elim (fun aQ=>by omega) (fun af=>af (by rw[<-dY,show m - 1=k by omega,<-gj]; exact aw))),aQ,List.append_nil]
    simp[bz,jN,a1,bn,bA,a3,a4,ei,dN,gy,ox,rn,dC];refine c0 (xs.length - m - 1) (abv l1 v dx j xs m) ?_ ⟨by simp,by simp,by simp,m,xs,by simp,ay,rfl,aj,h1.symm,by omega,fun t _=>rfl,rfl,fun b _=>rfl⟩;rintro i ah cg aA ⟨cP,bD,br,q,bm,bd,bp,fc,zl,jy,zc,ta,y1,lw⟩;obtain⟨ah,rfl⟩:=j2 cP bd bD br;clear cP bd bD br;obtain⟨dP,af5⟩:∃ dP,dP=i+1:=⟨_,rfl⟩
    rw[<-af5];unfold Vb;obtain⟨auj,Z6,MU,_⟩:=bp.q.from ax (k:=.i64) (i:=m) (by simp; omega);rw[dC] at Z6;obtain rfl:=Option.some.inj Z6;have hK:=MU.len;rw[List.length_drop,List.length_map,fc] at hK;by_cases nQ:dP<xs.length - m
    ·have Cm:(dP:Int)<((xs.length - m:Nat) :Int) :=by omega
     have b4:IntKind.i64.wrap ((dP:Int) - 1)=(i:Int) :=by rw[IntKind.wrap_i64]; omega
     have w2:IntKind.i64.wrap ((dP:Int)+1)=((dP+1:Nat) :Int) :=by rw[IntKind.wrap_i64]; omega
     have ef:IntKind.i64.wrap ((q:Int)+1)=((q+1:Nat) :Int) :=by rw[IntKind.wrap_i64]; omega
     obtain⟨ajO,lk,pf,hB,j3,t2,my⟩:=MU.get (k:=.i64) (i:=dP) (e:=a2 (cc bm (m+dP))) (by rw[List.getElem?_drop]; exact CM (by omega));obtain⟨ajP,hF,pg,iM,lR,Aw,vP⟩:=MU.get (k:=.i64) (i:=i) (e:=a2 (cc bm (m+i))) (by rw[List.getElem?_drop]; exact CM (by omega));have rG:=zl _ (CK (a:=bm) (k:=m+dP) (by omega));have kr:=zl _ (CK (a:=bm) (k:=m+i) (by omega));have b0:=CL rG kr;have w3:=ta (m+dP) (by omega);have w4:=ta (m+i) (by omega);have bJ:=yl xs (m+dP);rw[show m+dP - 1=m+i by omega] at bJ;obtain⟨ui,afc⟩:∃ X,X=cc bm (m+dP) :=⟨_,rfl⟩
     obtain⟨Ed,HO⟩:∃ Y,Y=cc bm (m+i) :=⟨_,rfl⟩
     rw[<-afc] at my b0 rG w3;rw[<-HO] at vP b0 w4;rw[<-w3,<-w4] at bJ;rw[show m+i+1=m+dP by omega] at jy;by_cases wL:ui=Ed
     ·have uY:fD Tryz.prog .neq 71 (.aS (a2 ui)) (.aS (a2 Ed))=some (.bool false) :=by rw[b0]; simp[wL]
      rw[if_neg (fun h=>h.elim (fun aQ=>by omega) (fun af=>af wL)),List.append_nil] at bJ;simp[hK,Cm,b4,hB,j3,t2,my,iM,lR,Aw,vP,uY,w2];exact⟨by omega,by simp,by simp,by simp,q,bm,by simp,bp,fc,zl,by rw[bJ]; exact jy,by omega,fun t aU=>ta t (by omega),y1,lw⟩
     ·have uY:fD Tryz.prog .neq 71 (.aS (a2 ui)) (.aS (a2 Ed))=some (.bool true) :=by rw[b0]; simp[wL]
      rw[if_pos (.inr wL)] at bJ;obtain⟨WN,eS,om,jH,z3,z4,z5⟩:=alC bp zl (k:=q) (x:=ui) (by omega) rG;simp[hK,Cm,b4,hB,j3,t2,my,iM,lR,Aw,vP,uY,w2,ef,om,jH];have amu:(bm.take q).length=q:=by rw[List.length_take]; omega
      have oW:(bm.set q ui).take (q+1)=bm.take q++[ui] :=by
       rw[List.set_eq_take_append_cons_drop,if_pos (by omega),List.take_append,amu,List.take_of_length_le (by omega),show q+1 - q=1 by omega]; simp
      refine⟨by omega,by simp,by simp,by simp,q+1,bm.set q ui,by simp,z3,by simp[fc],fun y aO=>?_,by rw[oW,bJ,jy],by omega,fun t aU=>?_,by omega,fun b ai=>(z5 b ai).trans (lw b ai)⟩
      ·rcases List.mem_or_eq_of_mem_set aO with h | h
       ·exact zl _ h
       ·rw[h]; exact rG
      ·have:=ta t (by omega);unfold cc at this ⊢;rw[List.getD_eq_getElem?_getD,List.getElem?_set_ne (by omega),<-List.getD_eq_getElem?_getD];exact this
    ·have Cm:¬ (dP:Int)<((xs.length - m:Nat) :Int) :=by omega
     obtain⟨v3,eS,r,om,jH,z3,z4,z5,aup,anJ⟩:=adu bp (k:=q) (by omega);simp[hK,Cm,om,jH,z3];obtain⟨aV,aY,bd,bD⟩:=l9;have Ic:eR.length<=j:=bd.resolve_left (fun h=>by rw[h] at ax; cases ax);have H3:m+i+1=xs.length:=by omega
     rw[H3] at jy;refine a7 _ _ ⟨j,by unfold pJ; rw[<-jy]; exact z4,by omega,fun b ai=>?_,.inr Ic,by rw[z5,<-bD,ax]⟩;rw[anJ b (by omega),lw b (by omega)];exact aY b ai
   ·have rn:fD Tryz.prog .eql 71 (.aS (a2 X)) (.aS (a2 Y))=some (.bool false) :=by rw[jM,decide_eq_false aw]
    simp[bz,jN,a1,bn,bA,a3,a4,ei,dN,gy,ox,rn,b7];refine⟨by omega,by simp,by simp[hm],rfl,fun t h1 af=>?_⟩;by_cases aU:t=m
    ·rw[aU,<-dY,show m - 1=k by omega,<-gj]; exact aw
    ·exact ar t h1 (by omega)
  ·have jN:¬ (m:Int)<(xs.length:Int) :=by omega
   have wJ:pJ xs=xs:=by
    unfold pJ;rw[yk (Nat.le_refl _) (fun k h1 ap=>ar k h1 (by omega)),List.take_length]
   simp[bz,jN];exact a7 _ _ (by rw[wJ]; exact h)
theorem alb {l:List (List B)} (h:eU l=true) :vH l=true:=by
 unfold eU at h;rw[decide_eq_true_eq] at h;exact aak fun k aE h1=>by
  have:=h k aE h1;have aH:=Bb (cc l k) (cc l (k - 1));omega
theorem DU (o:bH) (ay:iv o) :bT Tryz.prog GS 107 [.aS (bl o)] (.int .i64 (fX o)) :=by
 refine ca Tryz.checked.mixed b3 ?_;apply bI OK Xi;unfold EH Ks fX;have er:=f2 o.bx;have bz:c9 (.ao 32) (a8 o.bx)=some (.int .i64 o.bx.l.length) :=by simp[a8]
 have h4:(a8 o.bx).cells=some [a8 o.bx] :=by cases o.bx<;>rfl
 by_cases h1:4<o.bx.l.length
 ·have d8:(4:Int)<(o.bx.l.length:Int) :=by omega
  rw[if_pos h1];simp[bl,bz,d8];exact aZ rfl rfl
 ·have d8:¬ (4:Int)<(o.bx.l.length:Int) :=by omega
  rw[if_neg h1];simp[bl,bz,d8];refine bv (aih o.bx ay.ids ay.len) (by simp[bP,er,ae.closed]) ?_;cases af:vH o.bx.l with
  | false=>
   have ap:eU o.bx.l=false:=by
    cases ap:eU o.bx.l with
    | false=>rfl
    | true=>rw[alb ap] at af; cases af
   simp[ap,bz];exact aZ rfl rfl
  | true=>
   simp[bz];refine ahK o.bx ay.ids ay.len fun e0 l1 aV=>?_
   have afk:l1[0]? = some (.cells 11 (bl o)) :=by rw[aV.same 0 (by simp)]; rfl
   have SQ:=afk;simp[bl] at SQ;simp[SQ];refine adk aV ay.ids ay.len fun dx cg aY=>?_
   have fx:cg[0]? = some (.cells 11 (bl o)) :=by rw[aY.same 0 (by simp)]; rfl
   have wG:=fx;simp[bl] at wG;have hK:=aY.len;have wJ:=adw af;cases ap:eU o.bx.l with
   | false=>
    have b0:¬ ((pJ o.bx.l).length:Int)=(o.bx.l.length:Int) :=fun h=>by
     have:=wJ.1 (by omega);rw[ap] at this; cases this
    simp[hK,wG,bz,b0];exact aZ rfl rfl
   | true=>
    have heq:((pJ o.bx.l).length:Int)=(o.bx.l.length:Int) :=by have:=wJ.2 ap; omega
    simp[hK,wG,bz,heq];refine bv (Jm o.fP) rfl ?_;unfold rc;cases bc:fk o.fP with
    | false=>
     simp;exact aZ rfl rfl
    | true=>
     have cm:((1000000000000:Int)<u o.gT)<->¬ o.gT.toNat<=1000000000000:=by unfold u; omega
     by_cases bM:o.gT.toNat<=1000000000000
     ·have BB:¬ ((1000000000000:Int)<u o.gT) :=fun h=>cm.1 h bM
      have uX:((500000003:Int)<=max (u o.e:Int) (u o.s))<->¬ (h0 o.e&&h0 o.s)=true:=by
       unfold h0 u;simp only[Bool.and_eq_true,decide_eq_true_eq];omega
      have TM:rS (bu o.e) (bu o.s)=some (.int .u32 (max (u o.e:Int) (u o.s))) :=by
       show (if IntKind.u32=IntKind.u32 then some (ae.int .u32 (if (u o.e:Int)<u o.s then u o.s else u o.e)) else none)=_;rw[if_pos rfl];congr 2;split<;>omega
      cases eE:(h0 o.e&&h0 o.s) with
      | false=>
       have yD:(500000003:Int)<=max (u o.e:Int) (u o.s) :=uX.2 (by rw[eE]; simp);simp[wG,bM,BB,TM,yD];exact aZ rfl rfl
      | true=>
       have yD:¬ (500000003:Int)<=max (u o.e:Int) (u o.s) :=fun h=>(uX.1 h) eE
       simp[wG,bM,BB,TM,yD];refine bv (ac4 o.act) rfl ?_;cases gN:jg o.act with
       | false=>
        simp[kJ];exact aZ rfl rfl
       | true=>
        simp[kJ];exact aZ (by rw[if_pos bM]) rfl
     ·have BB:(1000000000000:Int)<u o.gT:=cm.2 bM;simp[wG,bM,BB];exact aZ rfl rfl
theorem Z8 (a b:fp) (aG:hS a) (ai:hS b) (aq:a.l.length<=1000000) :bT Tryz.prog GS 58 [a8 a,a8 b] (.bool (decide (a.l=b.l))) :=by
 refine ca Tryz.checked.mixed b3 ?_;apply bI Qq YX;unfold Gk L3;simp[a8];by_cases h1:a.l.length=b.l.length
 ·have d8:((a.l.length:Int)=b.l.length) :=by omega
  simp[h1];refine c0 a.l.length (fun k ah l=>ah 0=cS 32 a2 a/\ah 1=cS 32 a2 b/\ah 5=.int .i64 k/\∀ j,j<k->a.l[j]? = b.l[j]?) ?_ (by simp[a8]);rintro k ah l aE ⟨cP,aV,br,ar⟩;obtain⟨s,rfl⟩:=jG cP aV br;clear cP aV br;unfold VM;simp;refine rM (fun h=>?_) (fun h=>?_)
  ·simp only[decide_eq_true_eq] at h;obtain⟨x,aj,dV⟩:=ck h;obtain⟨y,aO,el⟩:=ck (l:=b.l) (k:=k) (by omega);have a1:IntKind.i64.wrap ((k:Int)+1)=((k+1:Nat) :Int) :=by rw[IntKind.wrap_i64]; omega
   simp[aj,aO,dm (aG x dV),dm (ai y el),List.take_of_length_le,CL (aG x dV) (ai y el)];by_cases aw:x=y
   ·simp[aw,a1];refine⟨by omega,fun j am=>?_⟩;by_cases hu:j=k
    ·subst hu; rw[aj,aO,aw]
    ·exact ar j (by omega)
   ·simp[aw];refine aZ (congrArg ae.bool (decide_eq_false fun f7=>aw ?_).symm) rfl;rw[f7,aO] at aj; exact (Option.some.inj aj).symm
  ·simp[h];have s3:k=a.l.length:=by simp at h; omega
   refine aZ (congrArg ae.bool (decide_eq_true ?_).symm) rfl;apply List.ext_getElem?;intro j;by_cases am:j<a.l.length
   ·exact ar j (by omega)
   ·rw[List.getElem?_eq_none (by omega),List.getElem?_eq_none (by omega)]
 ·have d8:¬ ((a.l.length:Int)=b.l.length) :=by omega
  simp[h1,d8];exact aZ (by rw[decide_eq_false (fun f7=>h1 (by rw[f7]))]) rfl
def kt (o:bH) :List B:=if fX o=0 then hA (hh o) else List.replicate 32 0#8
theorem xx {o:bH} (h:fX o=0) :o.bx.l.length<=4:=by
 unfold fX at h;split at h
 ·cases h
 ·omega
theorem z8 {l:au} {b n:Nat} {gc:List ae} {k:Nat} {w:ae} {kd:IntKind} (ai:l[b]? = some (.cells n gc)) (aI:gc.length=n) (aE:gc[k]? = some w) :
  ∃ p cs o,cO (.ao 1) (.ao 1 b 0 n n n) (.int kd (k:Int))=some p/\d4 l p=some (cs,o)/\cs[o]? = some w:=by
 have aN:k<n:=by rw[<-aI]; exact (List.getElem?_eq_some_iff.1 aE).1
 refine⟨.ptr b (0+k*1) n,gc,0+k*1,?_,?_,by simpa using aE⟩
 ·simp only[cO,Int.toNat_natCast];rw[if_pos ⟨trivial,by omega,by omega⟩]
 ·simp only[d4,ai,if_true]
theorem aeJ {n:Nat} (aI:n<=1000000000) {l:au} {K:ae->au->Prop} (a7:∀ v l',cq 1 b9 l l' v ([] :List B) (decide (n=0))->K v l') :dB Tryz.prog GS 155 [.a6,.int .i64 n] l (c:=⟨K⟩) :=by
 apply bI Fg K0;unfold A0 Do;have h1:¬((n:Int)<0) :=by omega
 have bt:IntKind.i64.wrap (n:Int)=n:=wrap_i64 (by omega) (by omega);have I7:IntKind.i64.wrap (0:Int)=0:=rfl;by_cases aQ:n=0
 ·subst aQ;simp;exact a7 _ _ cq.nil
 have af:(0:Int)<n:=by omega
 have aB:ow l 1 1 [.int .u8 0] .a6 (.int .i64 n)=some (.ao 1 l.length 0 n n (n*1),l++[.cells (n*1) (dp [.int .u8 0] n)]) :=by
  unfold ow hE;simp only[Int.toNat_natCast];have aC:cJ=140737488355328:=rfl;rw[if_pos ⟨by omega,by omega,by rw[aC]; omega⟩,if_neg aQ,if_neg (by omega),if_pos (by rw[aC]; omega)]
 have ar:fN (.ao 1) (.ao 1 l.length 0 n n (n*1)) none (some (.int .i64 0)) none=some (.ao 1 l.length 0 0 n (n*1)) :=by
  rw[Af,Ez,if_pos ⟨by omega,by omega⟩];simp[aQ]
 rw[Nat.mul_one] at aB ar;have ap:0<n:=by omega
 simp[h1,af,ap,bt,aB,I7,ar];refine a7 _ (l++[.cells n (dp [.int .u8 0] n)]) ⟨l.length,.ao _ 0 n n (dp [.int .u8 0] n) [] (by simp) (by rw[z2]; simp) rfl (by simp) (by omega) (by omega) rfl,by simp,fun b ai=>List.getElem?_append_left ai,.inr (Nat.le_refl _),?_⟩;simp[cT,aQ]
def hI (bs:List (List B)) :List B:=bs.flatten
theorem RV {bs:List (List B)} {k:Nat} {s:List B} (h:bs[k]? = some s) :hI (bs.take (k+1))=hI (bs.take k)++s:=by
 unfold hI;rw[List.take_add_one,h]; simp
theorem RU (bs:List (List B)) (k:Nat) :(hI (bs.take k)).length<=(hI bs).length:=by
 conv=>rhs; rw[<-List.take_append_drop k bs]
 unfold hI;rw[List.flatten_append,List.length_append];omega
structure ld (l:au) (w:ae) (s:List B) :Prop where
 len:c9 (.ao 1) w=some (.int .i64 s.length)
 Rn:∀ l',l.length<=l'.length->(∀ b,b<l.length->l'[b]? = l[b]?)->df l' 1 w=some ((s.map b9).flatten,s.length)
theorem xr {l l1:au} {w:ae} {s:List B} {e2:Bool} (h:cq 1 b9 l l1 w s e2) :ld l1 w s:=⟨h.len,fun l' h1 af=>(h.frame h1 af).contents⟩
theorem ld.frame {l l1:au} {w:ae} {s:List B} (h:ld l w s) (aq:l.length<=l1.length) (ar:∀ b,b<l.length->l1[b]? = l[b]?) :ld l1 w s:=
 ⟨h.len,fun l' h1 af=>h.Rn l' (by omega) fun b ai=>by rw[af b (by omega)]; exact ar b ai⟩
theorem WR {l:au} {b:Nat} {x:B} (h:l[b]? = some (.cells 1 [bG x])) :ld l (.ao 1 b 0 1 1 1) [x] :=by
 have:=fg h;exact⟨rfl,fun l' h1 af=>by have:=af b this; rw[h] at this; simp[df,this,b9]⟩
structure abu (l:au) (X:ae) (bs:List (List B)) (k:Nat) (ah:bj) (l1:au) :Prop where
 kh:ah 25=X
 ki:ah 26=.int .i64 bs.length
 wz:ah 27=.int .i64 k
 rX:∃ v,ah 6=v/\cq 1 b9 l l1 v (hI (bs.take k)) (decide ((hI bs).length=0))
set_option maxHeartbeats 4000000 in
theorem Ro {l:au} {b n:Nat} {gc:List ae} {bs:List (List B)} (ai:l[b]? = some (.cells n gc)) (ahC:gc.length=n) (mO:bs.length=n)
  (aF:∀ (k:Nat) (w:ae) (s:List B),gc[k]? = some w->bs[k]? = some s->ld l w s) (aq:(hI bs).length<=1000000000) (y1:n<=1000000000)
  {K:ae->au->Prop} (a7:∀ v l',cq 1 b9 l l' v (hI bs) (decide ((hI bs).length=0))->K v l') :
  dB Tryz.prog GS 109 [.ao 1 b 0 n n n] l (c:=⟨K⟩) :=by
 apply bI EJ Ku;unfold AZ Dn;have nO:=fg ai;have dY:∀ l',l.length<=l'.length->(∀ b,b<l.length->l'[b]? = l[b]?)->∀ k,k<n->∃ w s p cs o,gc[k]? = some w/\bs[k]? = some s/\ld l' w s/\cO (.ao 1) (.ao 1 b 0 n n n) (.int .i64 (k:Int))=some p/\d4 l' p=some (cs,o)/\cs[o]? = some w:=by
  intro l' h1 af k aE;obtain⟨w,bt,_⟩:=ck (l:=gc) (k:=k) (by omega);obtain⟨s,ar,_⟩:=ck (l:=bs) (k:=k) (by omega);obtain⟨p,cs,o,bn,bA,a3⟩:=z8 (kd:=.i64) (l:=l') (by rw[af b nO]; exact ai) ahC bt;exact⟨w,s,p,cs,o,bt,ar,(aF k w s bt ar).frame h1 af,bn,bA,a3⟩
 obtain⟨X,l4⟩:∃ X,X=ae.ao 1 b 0 n n n:=⟨_,rfl⟩
 have SL:c9 (.ao 1) X=some (.int .i64 bs.length) :=by rw[l4,mO]; rfl
 rw[<-l4] at dY ⊢;simp[SL];refine c0 n (fun k ah l1=>ah 0=X/\ah 9=X/\ah 10=.int .i64 bs.length/\ah 11=.int .i64 k/\ah 3=.int .i64 (hI (bs.take k)).length/\l1=l) ?_ ?_
 ·rintro k ah l1 aE ⟨cP,hs,hr,iB,bd,rfl⟩;obtain⟨ah,rfl⟩:=kC cP bd hs hr iB;clear cP bd hs hr iB;unfold Jz;simp;by_cases h:k<bs.length
  ·obtain⟨w,s,p,cs,o,bt,ar,IF,bn,bA,a3⟩:=dY l1 (Nat.le_refl _) (fun _ _=>rfl) k (by omega);have yR:=RV ar;have dv:=RU bs (k+1);rw[yR,List.length_append] at dv;have lB:IntKind.i64.wrap (((hI (bs.take k)).length:Int)+s.length)=((hI (bs.take k)).length:Int)+s.length:=wrap_i64 (by omega) (by omega);have eF:IntKind.i64.wrap ((k:Int)+1)=k+1:=wrap_i64 (by omega) (by omega);have nS:¬(((hI (bs.take k)).length:Int)+s.length<0) :=by omega
   have fU:=IF.len;simp[h,bn,bA,a3,fU,lB,nS,eF,yR];omega
  ·have cC:k=bs.length:=by omega
   subst cC;rw[List.take_length];simp;refine aeJ aq ?_;intro v l ay;simp[SL];refine c0 bs.length (abu l1 X bs) ?_ ⟨by simp,by simp,by simp,v,by simp,by simpa [hI] using ay⟩;rintro k ah cg aE ⟨kh,ki,wz,w,cj,ay⟩;obtain⟨ah,rfl⟩:=j2 cj kh ki wz;clear cj kh ki wz;unfold JA;simp;by_cases h:k<bs.length
   ·obtain⟨y,s,p,cs,o,bt,ar,IF,bn,bA,a3⟩:=dY cg ay.le ay.same k (by omega);have yR:=RV ar;have dv:=RU bs (k+1);rw[yR,List.length_append] at dv;have eF:IntKind.i64.wrap ((k:Int)+1)=k+1:=wrap_i64 (by omega) (by omega);have aC:cJ=140737488355328:=rfl;obtain⟨bf,eS,ei,dN,gy⟩:=ay.app (by_:=1) (x:=y) (xs:=s) (IF.Rn cg (Nat.le_refl _) fun _ _=>rfl) (by simp[b9]) (by omega) (by omega) (by rw[aC]; omega);simp[h,bn,bA,a3,ei];refine du.cM ?_;simp[h,eF];refine⟨by simp,by simp,by simp,bf,by simp,?_⟩;rw[yR];have ly:(decide ((hI bs).length=0)&&s.isEmpty)=decide ((hI bs).length=0) :=by
     by_cases aw:(hI bs).length=0
     ·have:s=[] :=List.length_eq_zero_iff.1 (by omega);simp[aw,this]
     ·simp[aw]
    rw[ly] at dN;exact dN
   ·have cC:k=bs.length:=by omega
    subst cC;simp;rw[List.take_length] at ay;exact a7 _ _ ay
 ·simp[hI]
end Op
end Go.cl

/-
  Values and acts, checked: walked in both texts.
-/
import Derived.Test.YtboebmmklamaeaaGreatDoorWi
set_option linter.unusedVariables false
set_option linter.unusedSimpArgs false
set_option linter.unnecessarySimpa false
namespace Go.cj
open Go Go.Proofs
set_option maxRecDepth 100000
namespace Op
open g9
structure hj where
 kind:B
 num:Int
 bits:Q
 text:List UInt8
def d4 (v:hj) :List ae:=[bF v.kind,.int .i64 v.num,du v.bits,.str v.text]
def pH:hj:=⟨0#8,0,0#64,[]⟩
def ix (b:Q) :Nat:=b.toNat / 4503599627370496 % 2048
def nK (b:Q) :Q:=b % 4503599627370496#64
def cls (b:Q) :B:=if ix b=2047 then (if nK b=0#64 then 4#8 else 5#8) else if ix b=0 then (if nK b=0#64 then 1#8 else 2#8) else 3#8
def lj (b:Q) :Q:=if cls b=5#8 then 9221120237041090560#64 else b
theorem hh (k:B) :((u k:Int)=1)<->k=1#8:=q5 k 1#8
theorem j7 (k:B) :((u k:Int)=2)<->k=2#8:=q5 k 2#8
theorem ni (k:B) :((u k:Int)=3)<->k=3#8:=q5 k 3#8
theorem uk (k:B) :((u k:Int)=4)<->k=4#8:=q5 k 4#8
theorem D2 (k:B) :((u k:Int)=5)<->k=5#8:=q5 k 5#8
theorem aps (k:B) :((u k:Int)=0)<->k=0#8:=q5 k 0#8
theorem so (k:Q) :((u k:Int)=0)<->k=0#64:=q5 k 0#64
theorem Sy (b:Q) :ix b<2048:=Nat.mod_lt _ (by decide)
theorem adB (n:Nat) (h:n<9223372036854775808) :cn .and .i64 (n:Int) .i64 2047=some (.int .i64 ((n % 2048:Nat) :Int)) :=by
 show some (ae.int .i64 (IntKind.i64.wrap ((BitVec.ofInt 64 (n:Int) &&& BitVec.ofInt 64 (2047:Int)).toNat:Int)))=_;have h1:(BitVec.ofInt 64 (n:Int) &&& BitVec.ofInt 64 (2047:Int)).toNat=n % 2048:=by
  rw[BitVec.ofInt_natCast,BitVec.toNat_and,BitVec.toNat_ofNat,Nat.mod_eq_of_lt (by omega)];exact Nat.and_two_pow_sub_one_eq_mod n 11
 have ag:=Nat.mod_lt n (show 2048 > 0 by decide);rw[h1];generalize n % 2048=q at ag;rw[wrap_i64 (by omega) (by omega)]
theorem ago (b:Q) :b &&& 4503599627370495#64=nK b:=by
 apply BitVec.eq_of_toNat_eq;unfold nK;rw[BitVec.toNat_and,BitVec.toNat_umod];exact Nat.and_two_pow_sub_one_eq_mod b.toNat 52
theorem aoK (b:Q) :bT Tryz.prog GS 201 [du b] (.bP [.int .i64 (ix b),du (nK b)]) :=by
 refine cd Tryz.checked.mixed b2 ?_;apply bH Qy ZC;unfold Gb L1;have aj:=b.isLt;have h1:IntKind.i64.wrap (u (b >>> 52))=((b.toNat / 4503599627370496:Nat) :Int) :=by
  have:u (b >>> 52)=((b.toNat / 4503599627370496:Nat) :Int) :=by unfold u; rw[BitVec.toNat_ushiftRight,Nat.shiftRight_eq_div_pow]
  rw[this,wrap_i64 (by omega) (by omega)]
 have ag:=adB (b.toNat / 4503599627370496) (by omega);have aw:ix b=b.toNat / 4503599627370496 % 2048:=rfl;rw[<-aw] at ag;obtain⟨q,bp⟩:∃ q,b.toNat / 4503599627370496=q:=⟨_,rfl⟩
 rw[bp] at h1 ag;have aq:cn .and .u64 (u b) .u64 4503599627370495=some (du (nK b)) :=by
  rw[OH,kx,<-ago]; rfl
 have aK:cn .shr .u64 (u b) .u64 52=some (.int .u64 (u (b >>> 52))) :=sP b .u64 52;simp[aK,h1,ag,aq,-OH];exact a7 rfl rfl
theorem anO (b:Q) :bT Tryz.prog GS 194 [du b] (.int .i64 (ix b)) :=by
 refine cd Tryz.checked.mixed b2 ?_;apply bH Qq Zu;unfold F3 LU;have aj:=b.isLt;have h1:cn .rem .u64 (u b) .u64 9223372036854775808=some (du (b % 9223372036854775808#64)) :=wi b 9223372036854775808#64 (by decide);have ag:cn .quo .u64 (u (b % 9223372036854775808#64)) .u64 4503599627370496=some (du (b % 9223372036854775808#64 / 4503599627370496#64)) :=KH _ 4503599627370496#64 (by decide);have aq:IntKind.i64.wrap (u (b % 9223372036854775808#64 / 4503599627370496#64))=(ix b:Int) :=by
  have:u (b % 9223372036854775808#64 / 4503599627370496#64)=(ix b:Int) :=by
   unfold u ix;rw[BitVec.toNat_udiv,BitVec.toNat_umod];show (((b.toNat % 9223372036854775808) / 4503599627370496:Nat) :Int)=_;congr 1;omega
  have aK:=Sy b;rw[this,wrap_i64 (by omega) (by omega)]
 simp[h1,ag,aq];exact a7 rfl rfl
theorem anP (b:Q) :bT Tryz.prog GS 195 [du b] (du (nK b)) :=by
 refine cd Tryz.checked.mixed b2 ?_;apply bH Qr Zv;unfold F4 LV;have h1:cn .rem .u64 (u b) .u64 4503599627370496=some (du (nK b)) :=wi b 4503599627370496#64 (by decide);simp[h1];exact a7 rfl rfl
theorem ae8 (b:Q) :bT Tryz.prog GS 189 [du b] (bF (cls b)) :=by
 refine cd Tryz.checked.mixed b2 ?_;apply bH Qk Zp;unfold FZ LP cls;simp;refine bB (aoK b) rfl ?_;have h1:((ix b:Int)=2047)<->ix b=2047:=by omega
 have ag:((ix b:Int)=0)<->ix b=0:=by omega
 by_cases aY:ix b=2047
 ·by_cases a6:nK b=0#64
  ·simp[h1,aY,a6];exact a7 rfl rfl
  ·simp[h1,aY,a6,so];exact a7 rfl rfl
 ·by_cases bi:ix b=0
  ·by_cases a6:nK b=0#64
   ·simp[h1,ag,aY,a6,bi];exact a7 rfl rfl
   ·simp[h1,ag,aY,a6,bi,so];exact a7 rfl rfl
  ·simp[h1,ag,aY,bi];exact a7 rfl rfl
theorem anM (b:Q) :bT Tryz.prog GS 177 [du b] (bF (cls b)) :=by
 refine cd Tryz.checked.mixed b2 ?_;apply bH P7 Zc;unfold FN LD cls;simp;refine bB (anO b) rfl ?_;simp;refine bB (anP b) rfl ?_;have ag:((ix b:Int)=0)<->ix b=0:=by omega
 have aq:((ix b:Int)<2047)<->¬ ix b=2047:=by have:=Sy b; omega
 by_cases bi:ix b=0
 ·by_cases a6:nK b=0#64
  ·simp[ag,a6,bi];exact a7 rfl rfl
  ·simp[ag,a6,bi,so];exact a7 rfl rfl
 ·by_cases aY:ix b=2047
  ·by_cases a6:nK b=0#64
   ·simp[ag,aq,aY,a6];exact a7 rfl rfl
   ·simp[ag,aq,aY,a6,so];exact a7 rfl rfl
  ·simp[ag,aq,aY,bi];exact a7 rfl rfl
theorem aeV (b:Q) :bT Tryz.prog GS 163 [du b] (du (lj b)) :=by
 refine cd Tryz.checked.mixed b2 ?_;apply bH PY Y3;unfold FD Lt lj;simp;refine bB (ae8 b) rfl ?_;by_cases h:cls b=5#8
 ·simp[D2,h];exact a7 rfl rfl
 ·simp[D2,h];exact a7 rfl rfl
theorem anK (b:Q) :bT Tryz.prog GS 137 [du b] (du (lj b)) :=by
 refine cd Tryz.checked.mixed b2 ?_;apply bH Py YD;unfold Fg K6 lj;simp;refine bB (anM b) rfl ?_;by_cases h:cls b=5#8
 ·simp[D2,h];exact a7 rfl rfl
 ·simp[D2,h];exact a7 rfl rfl
theorem apz (n:Int) :bT Tryz.prog GS 117 [.int .i64 n] (.aV (d4 ⟨1#8,n,0#64,[]⟩)) :=by
 refine cd Tryz.checked.mixed b2 ?_;apply bH Pl Yq;unfold E3 KU;simp;exact a7 rfl rfl
theorem apy (b:Q) :bT Tryz.prog GS 118 [du b] (.aV (d4 ⟨2#8,0,lj b,[]⟩)) :=by
 refine cd Tryz.checked.mixed b2 ?_;apply bH Pm Yr;unfold E4 KV;simp;refine bB (aeV b) rfl ?_;simp;exact a7 rfl rfl
def q2 (s:List UInt8) :hj × Int:=if s.length<=30 then (if s.all (gl 32) then (⟨3#8,0,0#64,s⟩,0) else (pH,8)) else (pH,4)
theorem apA (s:List UInt8) :bT Tryz.prog GS 119 [.str s] (.bP [.aV (d4 (q2 s).1),.int .i64 (q2 s).2]) :=by
 refine cd Tryz.checked.mixed b2 ?_;apply bH Pn Ys;unfold E5 KW q2;have ag:((30:Int)<s.length)<->¬ s.length<=30:=by omega
 by_cases a6:s.length<=30
 ·simp[ag,a6];refine bB (abN agm ao4 s) rfl ?_;have aq:=JF 32 (by omega) s s.length 0 (by omega);rw[List.drop_zero] at aq;have aK:((0:Int)<=jH (lg 32) s s.length 0)<->¬ (s.all (gl 32)=true) :=by rw[<-aq]; omega
  cases aj:s.all (gl 32) with
  | true=>
   have bg:¬ (0:Int)<=jH (lg 32) s s.length 0:=by rw[aK,aj]; simp
   simp[bg];exact a7 (by simp[a6]; rfl) rfl
  | false=>
   have bg:(0:Int)<=jH (lg 32) s s.length 0:=by rw[aK,aj]; simp
   simp[bg];exact a7 (by simp[a6]; rfl) rfl
 ·simp[ag,a6];exact a7 rfl rfl
def jg (v:hj) :Bool:=
 if v.kind=1#8 then decide (v.bits=0#64)&&decide (v.text=[])
 else if v.kind=2#8 then decide (v.num=0)&&decide (v.text=[])&&decide (lj v.bits=v.bits)
 else if v.kind=3#8 then decide (v.num=0)&&decide (v.bits=0#64)&&decide (v.text.length<=30)&&v.text.all (gl 32)
 else false
def jr (b:Bool) :Int:=if b then 0 else 8
def aki:List kE:=[.i .u8,.i .i64,.i .u64,.s]
theorem VN:qC Tryz.prog 20 29=some aki:=by kernel_rfl
theorem apB (a b:hj) :fw Tryz.prog .eql 29 (.aV (d4 a)) (.aV (d4 b))=some (.bool (eO (d4 a) (d4 b))) :=EI VN (by kernel_rfl) (by kernel_rfl) rfl rfl
theorem apC (a b:hj) :fw Tryz.prog .neq 29 (.aV (d4 a)) (.aV (d4 b))=some (.bool (!eO (d4 a) (d4 b))) :=OQ VN (by kernel_rfl) (by kernel_rfl) rfl rfl
theorem ON (a b:hj) :eO (d4 a) (d4 b)=(decide (a.kind=b.kind)&&(decide (a.num=b.num)&&(decide (a.bits=b.bits)&&decide (a.text=b.text)))) :=by
 simp[d4,eO,ae.beq]
theorem NM {v:hj} (k:v.kind=1#8) :jg v=(decide (v.bits=0#64)&&decide (v.text=[])) :=by simp[jg,k]
theorem NN {v:hj} (k:v.kind=2#8) :jg v=(decide (v.num=0)&&(decide (v.bits=lj v.bits)&&decide (v.text=[]))) :=by
 unfold jg;rw[if_neg (by rw[k]; decide),if_pos k,show decide (lj v.bits=v.bits)=decide (v.bits=lj v.bits) from decide_eq_decide.2 eq_comm];cases decide (v.num=0)<;>cases decide (v.text=[])<;>cases decide (v.bits=lj v.bits)<;>rfl
theorem acq {v:hj} (k:v.kind=3#8) :jg v=(decide (v.kind=(q2 v.text).1.kind)&&(decide (v.num=(q2 v.text).1.num)&&(decide (v.bits=(q2 v.text).1.bits)&&decide (v.text=(q2 v.text).1.text)))) :=by
 unfold jg q2;rw[if_neg (by rw[k]; decide),if_neg (by rw[k]; decide),if_pos k];by_cases h1:v.text.length<=30
 ·cases ag:v.text.all (gl 32) with
  | true=>simp[h1,k]
  | false=>simp[h1,k,pH]
 ·simp[h1,k,pH]
theorem NP {v:hj} (cc:v.kind≠1#8) (ch:v.kind≠2#8) (dz:v.kind≠3#8) :jg v=false:=by simp[jg,cc,ch,dz]
theorem aco (v:hj) :bT Tryz.prog GS 83 [.aV (d4 v)] (.int .i64 (jr (jg v))) :=by
 refine cd Tryz.checked.mixed b2 ?_;apply bH Rt aay;unfold GR MC;have aC:∀ (k:B) (n:Int) (b:Q) (t:List UInt8),fw Tryz.prog .neq 29 (.aV [bF v.kind,.int .i64 v.num,du v.bits,.str v.text]) (.aV [bF k,.int .i64 n,du b,.str t])=some (.bool (!(decide (v.kind=k)&&(decide (v.num=n)&&(decide (v.bits=b)&&decide (v.text=t)))))) :=fun k n b t=>by rw[<-ON v ⟨k,n,b,t⟩]; exact apC v ⟨k,n,b,t⟩
 by_cases cc:v.kind=1#8
 ·have h1:=aC 1#8 v.num 0#64 [];simp only[cc] at h1;unfold d4;simp[hh,cc];refine bB (apz v.num) rfl ?_;unfold d4;simp[h1];rw[NM cc];cases decide (v.bits=0#64)<;>cases decide (v.text=[])<;>simp[cc]<;>exact a7 rfl rfl
 ·by_cases ch:v.kind=2#8
  ·have h1:=aC 2#8 0 (lj v.bits) [];simp only[ch] at h1;unfold d4;simp[hh,j7,ch];refine bB (apy v.bits) rfl ?_;unfold d4;simp[h1];rw[NN ch];cases decide (v.num=0)<;>cases decide (v.bits=lj v.bits)<;>cases decide (v.text=[])<;>simp[ch]<;>exact a7 rfl rfl
  ·by_cases dz:v.kind=3#8
   ·obtain⟨w,bx⟩:∃ w,w=(q2 v.text).1:=⟨_,rfl⟩
    have h1:=aC w.kind w.num w.bits w.text;have aq:=acq dz;rw[<-bx] at aq;simp only[dz] at h1 aq;unfold d4;simp[hh,j7,ni,dz];refine bB (apA v.text) rfl ?_;rw[<-bx];unfold d4;simp[h1];rw[aq];cases decide (3#8=w.kind)<;>cases decide (v.num=w.num)<;>cases decide (v.bits=w.bits)<;>cases decide (v.text=w.text)<;>simp[dz]<;>exact a7 rfl rfl
   ·have h1:fw Tryz.prog .neq 29 (.aV [bF v.kind,.int .i64 v.num,du v.bits,.str v.text]) (.aV [.int .u8 0,.int .i64 0,.int .u64 0,.str []])=some (.bool (!(decide (v.kind=0#8)&&(decide (v.num=0)&&(decide (v.bits=0#64)&&decide (v.text=[])))))) :=aC 0#8 0 0#64 [];rw[NP cc ch dz];unfold d4;simp[hh,j7,ni,cc,ch,dz];by_cases hY:v.kind=0#8
    ·simp only[hY,decide_true,Bool.true_and] at h1;simp[hY,h1];cases decide (v.num=0)<;>cases decide (v.bits=0#64)<;>cases decide (v.text=[])<;>simp[hY]<;>exact a7 rfl rfl
    ·simp only[hY,decide_false,Bool.false_and,Bool.not_false] at h1;simp[h1];exact a7 rfl rfl
theorem anR (v:hj) :bT Tryz.prog GS 96 [.aV (d4 v)] (.int .i64 (jr (jg v))) :=by
 refine cd Tryz.checked.mixed b2 ?_;apply bH RG aaM;unfold G4 MM;by_cases cc:v.kind=1#8
 ·rw[NM cc];unfold d4;simp[hh,cc,so];by_cases aY:v.bits=0#64<;>by_cases a6:v.text=[]<;>simp[aY,a6,so]<;>exact a7 rfl rfl
 ·by_cases ch:v.kind=2#8
  ·rw[NN ch];unfold d4;simp[hh,j7,ch];by_cases aY:v.num=0
   ·by_cases a6:v.text=[]
    ·simp[aY,a6];refine bB (anK v.bits) rfl ?_;by_cases bi:v.bits=lj v.bits
     ·have bI:lj v.bits=v.bits:=bi.symm;simp[bI];exact a7 (by simp[jr,aY,a6,bI]) rfl
     ·have bI:¬ lj v.bits=v.bits:=fun h=>bi h.symm
      simp[bi,bI];exact a7 (by simp[jr,bi]) rfl
    ·simp[aY,a6];exact a7 rfl rfl
   ·simp[aY];exact a7 rfl rfl
  ·by_cases dz:v.kind=3#8
   ·have ax:jg v=(decide (v.num=0)&&decide (v.bits=0#64)&&decide (v.text.length<=30)&&v.text.all (gl 32)) :=by simp[jg,dz]
    have ag:((v.text.length:Int)<=30)<->v.text.length<=30:=by omega
    rw[ax];unfold d4;simp[hh,j7,ni,dz,so];by_cases aY:v.num=0
    ·by_cases a6:v.bits=0#64
     ·by_cases bi:v.text.length<=30
      ·simp[aY,a6,ag,bi];refine bB (amn v.text (by omega)) rfl ?_;cases v.text.all (gl 32)<;>simp<;>exact a7 (by simp[jr,aY,a6,bi]) rfl
      ·simp[aY,a6,ag,bi];exact a7 rfl rfl
     ·simp[aY,a6,so];exact a7 rfl rfl
    ·simp[aY];exact a7 rfl rfl
   ·rw[NP cc ch dz];unfold d4;simp[hh,j7,ni,cc,ch,dz];exact a7 rfl rfl
structure Act where
 kind:B
 key:List UInt8
 val:hj
def jR (a:Act) :List ae:=[bF a.kind,.str a.key,bF a.val.kind,.int .i64 a.val.num,du a.val.bits,.str a.val.text]
def lB (v:hj) :Bool:=decide (v.kind=0#8)&&(decide (v.num=0)&&(decide (v.bits=0#64)&&decide (v.text=[])))
def iO (a:Act) :Bool:=
 if a.kind=1#8 then decide (a.key=[])&&lB a.val
 else if a.kind=2#8\/a.kind=3#8 then gk a.key&&lB a.val
 else if a.kind=4#8 then gk a.key&&jg a.val
 else false
def tL:List kE:=[.i .u8,.s,.i .u8,.i .i64,.i .u64,.s]
theorem akx:qC Tryz.prog 20 31=some tL:=by kernel_rfl
theorem adn (a b:Act) :fw Tryz.prog .eql 31 (.aV (jR a)) (.aV (jR b))=some (.bool (eO (jR a) (jR b))) :=EI akx (by kernel_rfl) (by kernel_rfl) rfl rfl
theorem ado (a:Act) (h:a.kind=1#8) :fw Tryz.prog .eql 31 (.aV [.int .u8 1,.str a.key,bF a.val.kind,.int .i64 a.val.num,du a.val.bits,.str a.val.text]) (.aV [.int .u8 1,.str [],.int .u8 0,.int .i64 0,.int .u64 0,.str []])=some (.bool (decide (a.key=[])&&lB a.val)) :=by
 have:=adn a ⟨1#8,[],pH⟩;simp only[jR,h] at this;refine Eq.trans this ?_;simp[eO,ae.beq,lB,pH,aps,so];congr
theorem acp (v:hj) :fw Tryz.prog .eql 29 (.aV [bF v.kind,.int .i64 v.num,du v.bits,.str v.text]) (.aV [.int .u8 0,.int .i64 0,.int .u64 0,.str []])=some (.bool (lB v)) :=by
 have:=apB v pH;rw[ON] at this;exact this
theorem Ob {a:Act} (k:a.kind=1#8) :iO a=(decide (a.key=[])&&lB a.val) :=by simp[iO,k]
theorem yi {a:Act} (k:a.kind=2#8) :iO a=(gk a.key&&lB a.val) :=by simp[iO,k]
theorem Ex {a:Act} (k:a.kind=3#8) :iO a=(gk a.key&&lB a.val) :=by simp[iO,k]
theorem yj {a:Act} (k:a.kind=4#8) :iO a=(gk a.key&&jg a.val) :=by simp[iO,k]
theorem Ey {a:Act} (cc:a.kind≠1#8) (ch:a.kind≠2#8) (dz:a.kind≠3#8) (f2:a.kind≠4#8) :iO a=false:=by simp[iO,cc,ch,dz,f2]
theorem RQ (a:Act) :bT Tryz.prog GS 50 [.aV (jR a)] (.int .i64 (jr (iO a))) :=by
 refine cd Tryz.checked.mixed b2 ?_;apply bH QY Z2;unfold Gr Mg;by_cases cc:a.kind=1#8
 ·have h1:=ado a cc;have a1:bF (1#8)=.int .u8 1:=rfl;rw[Ob cc];unfold jR;simp[hh,cc,a1,h1];by_cases aY:a.key=[]<;>cases a6:lB a.val<;>simp[aY,a6]<;>exact a7 rfl rfl
 ·have h1:=acp a.val;by_cases ch:a.kind=2#8
  ·rw[yi ch];unfold jR;simp[hh,j7,ni,cc,ch];refine bB (JN a.key) rfl ?_;cases gk a.key with
   | true=>simp[h1]; cases lB a.val<;>simp<;>exact a7 rfl rfl
   | false=>simp; exact a7 rfl rfl
  ·by_cases dz:a.kind=3#8
   ·rw[Ex dz];unfold jR;simp[hh,j7,ni,cc,dz];refine bB (JN a.key) rfl ?_;cases gk a.key with
    | true=>simp[h1]; cases lB a.val<;>simp<;>exact a7 rfl rfl
    | false=>simp; exact a7 rfl rfl
   ·by_cases f2:a.kind=4#8
    ·rw[yj f2];unfold jR;simp[hh,j7,ni,uk,f2];refine bB (JN a.key) rfl ?_;cases gk a.key with
     | true=>
      simp;refine bB (aco a.val) rfl ?_;cases jg a.val<;>simp[jr]<;>exact a7 rfl rfl
     | false=>simp; exact a7 rfl rfl
    ·rw[Ey cc ch dz f2];unfold jR;simp[hh,j7,ni,uk,cc,ch,dz,f2];exact a7 rfl rfl
theorem anL (a:Act) :bT Tryz.prog GS 65 [.aV (jR a)] (.int .i64 (jr (iO a))) :=by
 refine cd Tryz.checked.mixed b2 ?_;apply bH Re aaj;unfold GC Mp;have h1:=acp a.val;by_cases cc:a.kind=1#8
 ·rw[Ob cc];unfold jR;simp[hh,cc,h1];by_cases aY:a.key=[]<;>cases a6:lB a.val<;>simp[aY,a6]<;>exact a7 rfl rfl
 ·by_cases ch:a.kind=2#8
  ·rw[yi ch];unfold jR;simp[hh,j7,ni,cc,ch,h1];refine bB (J9 a.key) rfl ?_;cases gk a.key with
   | true=>simp; cases lB a.val<;>simp<;>exact a7 rfl rfl
   | false=>simp; exact a7 rfl rfl
  ·by_cases dz:a.kind=3#8
   ·rw[Ex dz];unfold jR;simp[hh,j7,ni,cc,dz,h1];refine bB (J9 a.key) rfl ?_;cases gk a.key with
    | true=>simp; cases lB a.val<;>simp<;>exact a7 rfl rfl
    | false=>simp; exact a7 rfl rfl
   ·by_cases f2:a.kind=4#8
    ·rw[yj f2];unfold jR;simp[hh,j7,ni,uk,f2,h1];refine bB (J9 a.key) rfl ?_;cases gk a.key with
     | true=>
      simp;refine bB (anR a.val) rfl ?_;cases jg a.val<;>simp[jr]<;>exact a7 rfl rfl
     | false=>simp; exact a7 rfl rfl
    ·rw[Ey cc ch dz f2];unfold jR;simp[hh,j7,ni,uk,cc,ch,dz,f2,h1];exact a7 rfl rfl
end Op
end Go.cj

namespace Go.cj
open Go Go.Proofs
set_option maxRecDepth 100000
def cl {α:Type} (z:Nat) (enc:α->List ae) (l l1:av) (v:ae) (a:List α) (fg:Bool) :Prop:=
 ∃ j,b0 z l1 v j (a.map enc)/\l.length<=l1.length/\(∀ b,b<l.length->l1[b]? = l[b]?)/\(v=.aZ\/l.length<=j)/\cS v=fg
section
variable {α:Type} {z:Nat} {enc:α->List ae} {l l1:av} {v:ae} {a:List α} {fg:Bool}
theorem cl.nil:cl z enc l l .aZ ([] :List α) true:=⟨0,.nil 0,Nat.le_refl _,fun _ _=>rfl,.inl rfl,rfl⟩
theorem cl.more (h:cl z enc l l1 v a fg) (r:av) :cl z enc l (l1++r) v a fg:=by
 obtain⟨j,h1,ag,aq,aK,bg⟩:=h;exact⟨j,h1.more r,by simp; omega,fun b aj=>by rw[List.getElem?_append_left (by omega)]; exact aq b aj,aK,bg⟩
theorem cl.len (h:cl z enc l l1 v a fg) :db (.ao z) v=some (.int .i64 a.length) :=by
 obtain⟨j,h1,_⟩:=h;rw[h1.len,List.length_map]
theorem cl.cells (h:cl z enc l l1 v a fg) :v.cells=some [v] :=by
 obtain⟨j,h1,_⟩:=h;exact h1.cells
theorem cl.contents (h:cl z enc l l1 v a fg) :dj l1 z v=some ((a.map enc).flatten,a.length) :=by
 obtain⟨j,h1,_⟩:=h;rw[h1.contents,List.length_map]
theorem cl.le (h:cl z enc l l1 v a fg) :l.length<=l1.length:=by obtain⟨j,h1,ag,_⟩:=h; exact ag
theorem cl.same (h:cl z enc l l1 v a fg) :∀ b,b<l.length->l1[b]? = l[b]?:=by obtain⟨j,h1,ag,aq,_⟩:=h; exact aq
theorem cl.qU (h:cl z enc l l1 v a fg) (aJ:∀ x,bV (enc x)=true) (s:eh α) (au:fg=s.isNone) (ak:s.l=a) :fc (bY l1) v (cO z enc s) :=by
 obtain⟨j,h1,ag,aq,aK,bg⟩:=h;exact h1.qV aJ s (by rw[bg,au]) ak
theorem cl.rd (h:cl z enc l l1 v a fg) (aJ:∀ x,bV (enc x)=true) (s:eh α) (au:fg=s.isNone) (ak:s.l=a) :Rd l1 v (cO z enc s) :=by
 obtain⟨j,h1,ag,aq,aK,bg⟩:=h;exact h1.q.xQ aJ s (by rw[bg,au]) ak
theorem cl.DE (h:cl z enc l l1 v a fg) (aJ:∀ x,kg (enc x)=true) (s:eh α) (au:fg=s.isNone) (ak:s.l=a) :iM l1 v (cO z enc s) :=by
 obtain⟨j,h1,ag,aq,aK,bg⟩:=h;exact h1.Ar aJ s (by rw[bg,au]) ak
theorem cl.base (h:cl z enc l l1 v a fg) {eB:av} (ar:eB.length<=l.length) (au:∀ b,b<eB.length->l[b]? = eB[b]?) :cl z enc eB l1 v a fg:=by
 obtain⟨j,h1,ag,aq,aK,bg⟩:=h;exact⟨j,h1,by omega,fun b aj=>by rw[aq b (by omega)]; exact au b aj,aK.imp id (by omega),bg⟩
theorem cl.frame (h:cl z enc l l1 v a fg) {ce:av} (ar:l1.length<=ce.length) (au:∀ b,b<l1.length->ce[b]? = l1[b]?) :cl z enc l ce v a fg:=by
 obtain⟨j,h1,ag,aq,aK,bg⟩:=h;exact⟨j,h1.frame fun am=>au j am,by omega,fun b aj=>by rw[au b (by omega)]; exact aq b aj,aK,bg⟩
theorem cl.app (h:cl z enc l l1 v a fg) {by_:Nat} {x:ae} {xs:List α} (ak:dj l1 z x=some ((xs.map enc).flatten,xs.length)) (aC:∀ y∈xs,(enc y).length=z) (aO:z≠0) (dE:by_≠0) (dk:(a.length+xs.length)*by_<=cQ) :
  ∃ bc l',iR l1 z by_ v x=some (bc,l')/\cl z enc l l' bc (a++xs) (fg&&xs.isEmpty)/\l1.length<=l'.length:=by
 obtain⟨j,h1,ag,aq,aK,bg⟩:=h;obtain⟨bc,cJ,l',aY,a6,bi,bI,bq,cx⟩:=Ot (xs:=xs.map enc) h1 (by simpa using ak) (fun e aw=>by obtain⟨y,aP,rfl⟩:=List.mem_map.1 aw; exact aC y aP) aO dE (by simpa using dk);refine⟨bc,l',aY,⟨cJ,by rw[List.map_append]; exact a6,by omega,fun b aj=>?_,?_,?_⟩,bi⟩
 ·rw[bI b (by omega)]
  ·exact aq b aj
  ·rcases aK with h | h
   ·exact .inl h
   ·exact .inr (by omega)
 ·rcases bq with h | ⟨bL,et⟩ | h
  ·exact .inr (by omega)
  ·rcases aK with h | h
   ·exact absurd h bL
   ·exact .inr (by omega)
  ·exact .inl h
 ·rw[cx,bg]; simp
end
namespace Op
open g9
theorem cl.push {l l1:av} {v:ae} {a:List B} {fg:Bool} (h:cl 1 b8 l l1 v a fg) (x:B) (dk:a.length<=1000000000) :
  ∃ bc l',iR (l1++[.cells 1 [bF x]]) 1 1 v (.ao 1 l1.length 0 1 1 1)=some (bc,l')/\cl 1 b8 l l' bc (a++[x]) false:=by
 have aD:cQ=140737488355328:=rfl;obtain⟨bc,l',aY,a6,_⟩:=(h.more [.cells 1 [bF x]]).app (by_:=1) (x:=.ao 1 l1.length 0 1 1 1) (xs:=[x]) (by simp[dj,b8]) (by simp[b8]) (by omega) (by omega) (by rw[aD]; simp; omega);exact⟨bc,l',aY,by simpa using a6⟩
theorem ww:∀ a:List B,(a.map b8).flatten=a.map bF
 | []=>rfl
 | x::a=>by rw[List.map_cons,List.flatten_cons,ww a]; rfl
theorem pu {l:av} {j n:Nat} {a:List B} (aI:a.length=n) (am:l[j]? = some (.cells n (a.map bF))) :b0 1 l (.ao 1 j 0 n n n) j (a.map b8) :=by
 refine .ao j n n n (a.map bF) _ am (by simp[aI]) (by simp[aI]) (fun e aw=>?_) (Nat.le_refl _) (by omega) ?_
 ·obtain⟨x,_,rfl⟩:=List.mem_map.1 aw; rfl
 ·rw[List.take_of_length_le (by simp[aI]),ww]
def jK (n:Nat) :Nat:=if n<256 then 1 else if n<65536 then 2 else if n<16777216 then 3 else if n<4294967296 then 4 else if n<1099511627776 then 5 else if n<281474976710656 then 6 else if n<72057594037927936 then 7 else 8
theorem Dk (n:Nat) :1<=jK n/\jK n<=8:=by unfold jK; refine⟨?_,?_⟩<;>(repeat' split)<;>omega
def ke (n i:Nat) :B:=BitVec.ofNat 8 (n >>> (8*i))
def sx (n:Nat) :Nat->List B
 | 0=>[]
 | i+1=>ke n i::sx n i
theorem Nx (n:Nat) :∀ i,(sx n i).length=i
 | 0=>rfl
 | i+1=>by simp[sx,Nx n i]
def dS (n:Nat) :List B:=if n<=247 then [BitVec.ofNat 8 n] else BitVec.ofNat 8 (247+jK n) ::sx n (jK n)
def j1 (x:Nat) :Nat:=if x<1 then 0 else if x<2 then 1 else if x<4 then 2 else if x<8 then 3 else if x<16 then 4 else if x<32 then 5 else if x<64 then 6 else if x<128 then 7 else 8
def AG:List UInt8:=[0,1,2,2,3,3,3,3,4,4,4,4,4,4,4,4,5,5,5,5,5,5,5,5,5,5,5,5,5,5,5,5,6,6,6,6,6,6,6,6,6,6,6,6,6,6,6,6,6,6,6,6,6,6,6,6,6,6,6,6,6,6,6,6,7,7,7,7,7,7,7,7,7,7,7,7,7,7,7,7,7,7,7,7,7,7,7,7,7,7,7,7,7,7,7,7,7,7,7,7,7,7,7,7,7,7,7,7,7,7,7,7,7,7,7,7,7,7,7,7,7,7,7,7,7,7,7,7,8,8,8,8,8,8,8,8,8,8,8,8,8,8,8,8,8,8,8,8,8,8,8,8,8,8,8,8,8,8,8,8,8,8,8,8,8,8,8,8,8,8,8,8,8,8,8,8,8,8,8,8,8,8,8,8,8,8,8,8,8,8,8,8,8,8,8,8,8,8,8,8,8,8,8,8,8,8,8,8,8,8,8,8,8,8,8,8,8,8,8,8,8,8,8,8,8,8,8,8,8,8,8,8,8,8,8,8,8,8,8,8,8,8,8,8,8,8,8,8,8,8,8,8,8,8,8,8]
def Nv:Nat->List UInt8->Bool
 | _,[]=>true
 | i,x::r=>Nat.beq x.toNat (j1 i)&&Nv (i+1) r
theorem ab1:∀ (i:Nat) (l:List UInt8),Nv i l=true->∀ (j:Nat) (x:UInt8),l[j]? = some x->x.toNat=j1 (i+j)
 | i,[],_,j,x,h=>by simp at h
 | i,y::r,h,j,x,ak=>by
  simp only[Nv,Bool.and_eq_true] at h;cases j with
  | zero=>simp at ak; subst ak; exact Nat.eq_of_beq_eq_true h.1
  | succ j=>simp at ak; rw[ab1 (i+1) r h.2 j x ak]; congr 1; omega
theorem uh (i:Nat) (h:i<256) :∃ x,AG[i]? = some x/\x.toNat=j1 i:=by
 have ar:AG.length=256:=by kernel_rfl
 have ay:=ab1 0 AG (by kernel_rfl) i _ (List.getElem?_eq_getElem (by omega));exact⟨_,List.getElem?_eq_getElem (by omega),by rw[ay]; congr 1; omega⟩
theorem r8 (x:Nat) :j1 x<=8:=by unfold j1; (repeat' split)<;>omega
def i7 (n:Nat) :Nat:=
 if n<256 then j1 n else if n<65536 then 8+j1 (n / 256) else if n<16777216 then 16+j1 (n / 65536) else if n<4294967296 then 24+j1 (n / 16777216)
 else if n<1099511627776 then 32+j1 (n / 4294967296) else if n<281474976710656 then 40+j1 (n / 1099511627776) else if n<72057594037927936 then 48+j1 (n / 281474976710656) else 56+j1 (n / 72057594037927936)
theorem ak6 (n:Nat) (h:1<=n) :(i7 n+7) / 8=jK n:=by
 have ar:∀ x,1<=x->1<=j1 x/\j1 x<=8:=fun x ak=>⟨by unfold j1; rw[if_neg (by omega)]; (repeat' split)<;>omega,r8 x⟩
 unfold i7 jK
 repeat' split
 ·have:=ar n h; omega
 ·have:=ar (n / 256) (by omega); omega
 ·have:=ar (n / 65536) (by omega); omega
 ·have:=ar (n / 16777216) (by omega); omega
 ·have:=ar (n / 4294967296) (by omega); omega
 ·have:=ar (n / 1099511627776) (by omega); omega
 ·have:=ar (n / 281474976710656) (by omega); omega
 ·have:=ar (n / 72057594037927936) (by omega); omega
theorem Ng (x:Q) (k:Nat) :cn .shr .u64 (u x) .u64 (k:Int)=some (.int .u64 (u (x >>> k))) :=sP x .u64 k
theorem sI {i:Nat} {y:UInt8} {k:UInt8->Prop} (h:AG[i]? = some y) (aF:k y) :W AG[i]? (c:=⟨k⟩) :=by rw[h]; exact aF
set_option maxHeartbeats 4000000 in
theorem ak7 (n:Q) :bT Tryz.prog GS 135 [du n] (.int .i64 (i7 n.toNat)) :=by
 refine cd Tryz.checked.mixed b2 ?_;apply bH Pw YB;unfold Fe K4;have jf:IntKind.i64.wrap 8=8:=rfl;have um:IntKind.i64.wrap 16=16:=rfl;have uo:IntKind.i64.wrap 24=24:=rfl;have uq:IntKind.i64.wrap 32=32:=rfl;have ur:IntKind.i64.wrap 40=40:=rfl;have us:IntKind.i64.wrap 48=48:=rfl;have ut:IntKind.i64.wrap 56=56:=rfl;have cN:∀ x:Q,((4294967296:Int)<=u x)<->4294967296<=x.toNat:=fun x=>by unfold u; omega
 have dm:∀ x:Q,((65536:Int)<=u x)<->65536<=x.toNat:=fun x=>by unfold u; omega
 have jn:∀ x:Q,((256:Int)<=u x)<->256<=x.toNat:=fun x=>by unfold u; omega
 have t8:∀ x:Q,cn .shr .u64 (u x) .u64 32=some (.int .u64 (u (x >>> 32))) :=fun x=>Ng x 32
 have t7:∀ x:Q,cn .shr .u64 (u x) .u64 16=some (.int .u64 (u (x >>> 16))) :=fun x=>Ng x 16
 have ua:∀ x:Q,cn .shr .u64 (u x) .u64 8=some (.int .u64 (u (x >>> 8))) :=fun x=>Ng x 8
 have awC:n.toNat >>> 32=n.toNat / 4294967296:=by rw[Nat.shiftRight_eq_div_pow]
 have awD:n.toNat >>> 48=n.toNat / 281474976710656:=by rw[Nat.shiftRight_eq_div_pow]
 have awB:n.toNat >>> 16=n.toNat / 65536:=by rw[Nat.shiftRight_eq_div_pow]
 have ahw:=n.isLt;by_cases h1:4294967296<=n.toNat
 ·by_cases ag:65536<=n.toNat >>> 32
  ·by_cases aq:256<=n.toNat >>> 48
   ·have il:n.toNat >>> 56 % 256=n.toNat / 72057594037927936:=by rw[Nat.shiftRight_eq_div_pow]; exact Nat.mod_eq_of_lt (by omega)
    obtain⟨y,aY,a6⟩:=uh (n.toNat / 72057594037927936) (by omega);have bi:=r8 (n.toNat / 72057594037927936);rw[<-a6] at bi;have b5:IntKind.i64.wrap (y.toNat:Int)=y.toNat:=wrap_i64 (by omega) (by omega);have w2:IntKind.i64.wrap (56+(y.toNat:Int))=((56+y.toNat:Nat) :Int) :=by rw[wrap_i64 (by omega) (by omega)]; omega
    have d2:i7 n.toNat=56+y.toNat:=by unfold i7; rw[a6]; (repeat' split)<;>first | omega | rfl
    simp[cN,dm,jn,t8,t7,ua,h1,ag,aq];refine sI (y:=y) (by rw[il]; exact aY) ?_;rw[d2];simp[hL,b5,w2];exact a7 (by simp[jf,um,uo,uq,ur,us,ut,w2]) rfl
   ·have il:n.toNat >>> 48 % 256=n.toNat / 281474976710656:=by rw[Nat.shiftRight_eq_div_pow]; exact Nat.mod_eq_of_lt (by omega)
    obtain⟨y,aY,a6⟩:=uh (n.toNat / 281474976710656) (by omega);have bi:=r8 (n.toNat / 281474976710656);rw[<-a6] at bi;have b5:IntKind.i64.wrap (y.toNat:Int)=y.toNat:=wrap_i64 (by omega) (by omega);have w2:IntKind.i64.wrap (48+(y.toNat:Int))=((48+y.toNat:Nat) :Int) :=by rw[wrap_i64 (by omega) (by omega)]; omega
    have d2:i7 n.toNat=48+y.toNat:=by unfold i7; rw[a6]; (repeat' split)<;>first | omega | rfl
    simp[cN,dm,jn,t8,t7,ua,h1,ag,aq];refine sI (y:=y) (by rw[il]; exact aY) ?_;rw[d2];simp[hL,b5,w2];exact a7 (by simp[jf,um,uo,uq,ur,us,ut,w2]) rfl
  ·by_cases aq:256<=n.toNat >>> 32
   ·have il:n.toNat >>> 40 % 256=n.toNat / 1099511627776:=by rw[Nat.shiftRight_eq_div_pow]; exact Nat.mod_eq_of_lt (by omega)
    obtain⟨y,aY,a6⟩:=uh (n.toNat / 1099511627776) (by omega);have bi:=r8 (n.toNat / 1099511627776);rw[<-a6] at bi;have b5:IntKind.i64.wrap (y.toNat:Int)=y.toNat:=wrap_i64 (by omega) (by omega);have w2:IntKind.i64.wrap (40+(y.toNat:Int))=((40+y.toNat:Nat) :Int) :=by rw[wrap_i64 (by omega) (by omega)]; omega
    have d2:i7 n.toNat=40+y.toNat:=by unfold i7; rw[a6]; (repeat' split)<;>first | omega | rfl
    simp[cN,dm,jn,t8,t7,ua,h1,ag,aq];refine sI (y:=y) (by rw[il]; exact aY) ?_;rw[d2];simp[hL,b5,w2];exact a7 (by simp[jf,um,uo,uq,ur,us,ut,w2]) rfl
   ·have il:n.toNat >>> 32 % 256=n.toNat / 4294967296:=by rw[Nat.shiftRight_eq_div_pow]; exact Nat.mod_eq_of_lt (by omega)
    obtain⟨y,aY,a6⟩:=uh (n.toNat / 4294967296) (by omega);have bi:=r8 (n.toNat / 4294967296);rw[<-a6] at bi;have b5:IntKind.i64.wrap (y.toNat:Int)=y.toNat:=wrap_i64 (by omega) (by omega);have w2:IntKind.i64.wrap (32+(y.toNat:Int))=((32+y.toNat:Nat) :Int) :=by rw[wrap_i64 (by omega) (by omega)]; omega
    have d2:i7 n.toNat=32+y.toNat:=by unfold i7; rw[a6]; (repeat' split)<;>first | omega | rfl
    simp[cN,dm,jn,t8,t7,ua,h1,ag,aq];refine sI (y:=y) (by rw[il]; exact aY) ?_;rw[d2];simp[hL,b5,w2];exact a7 (by simp[jf,um,uo,uq,ur,us,ut,w2]) rfl
 ·by_cases ag:65536<=n.toNat
  ·by_cases aq:256<=n.toNat >>> 16
   ·have il:n.toNat >>> 24 % 256=n.toNat / 16777216:=by rw[Nat.shiftRight_eq_div_pow]; exact Nat.mod_eq_of_lt (by omega)
    obtain⟨y,aY,a6⟩:=uh (n.toNat / 16777216) (by omega);have bi:=r8 (n.toNat / 16777216);rw[<-a6] at bi;have b5:IntKind.i64.wrap (y.toNat:Int)=y.toNat:=wrap_i64 (by omega) (by omega);have w2:IntKind.i64.wrap (24+(y.toNat:Int))=((24+y.toNat:Nat) :Int) :=by rw[wrap_i64 (by omega) (by omega)]; omega
    have d2:i7 n.toNat=24+y.toNat:=by unfold i7; rw[a6]; (repeat' split)<;>first | omega | rfl
    simp[cN,dm,jn,t8,t7,ua,h1,ag,aq];refine sI (y:=y) (by rw[il]; exact aY) ?_;rw[d2];simp[hL,b5,w2];exact a7 (by simp[jf,um,uo,uq,ur,us,ut,w2]) rfl
   ·have il:n.toNat >>> 16 % 256=n.toNat / 65536:=by rw[Nat.shiftRight_eq_div_pow]; exact Nat.mod_eq_of_lt (by omega)
    obtain⟨y,aY,a6⟩:=uh (n.toNat / 65536) (by omega);have bi:=r8 (n.toNat / 65536);rw[<-a6] at bi;have b5:IntKind.i64.wrap (y.toNat:Int)=y.toNat:=wrap_i64 (by omega) (by omega);have w2:IntKind.i64.wrap (16+(y.toNat:Int))=((16+y.toNat:Nat) :Int) :=by rw[wrap_i64 (by omega) (by omega)]; omega
    have d2:i7 n.toNat=16+y.toNat:=by unfold i7; rw[a6]; (repeat' split)<;>first | omega | rfl
    simp[cN,dm,jn,t8,t7,ua,h1,ag,aq];refine sI (y:=y) (by rw[il]; exact aY) ?_;rw[d2];simp[hL,b5,w2];exact a7 (by simp[jf,um,uo,uq,ur,us,ut,w2]) rfl
  ·by_cases aq:256<=n.toNat
   ·have il:n.toNat >>> 8 % 256=n.toNat / 256:=by rw[Nat.shiftRight_eq_div_pow]; exact Nat.mod_eq_of_lt (by omega)
    obtain⟨y,aY,a6⟩:=uh (n.toNat / 256) (by omega);have bi:=r8 (n.toNat / 256);rw[<-a6] at bi;have b5:IntKind.i64.wrap (y.toNat:Int)=y.toNat:=wrap_i64 (by omega) (by omega);have w2:IntKind.i64.wrap (8+(y.toNat:Int))=((8+y.toNat:Nat) :Int) :=by rw[wrap_i64 (by omega) (by omega)]; omega
    have d2:i7 n.toNat=8+y.toNat:=by unfold i7; rw[a6]; (repeat' split)<;>first | omega | rfl
    simp[cN,dm,jn,t8,t7,ua,h1,ag,aq];refine sI (y:=y) (by rw[il]; exact aY) ?_;rw[d2];simp[hL,b5,w2];exact a7 (by simp[jf,um,uo,uq,ur,us,ut,w2]) rfl
   ·have il:n.toNat % 256=n.toNat:=Nat.mod_eq_of_lt (by omega);obtain⟨y,aY,a6⟩:=uh (n.toNat) (by omega);have bi:=r8 (n.toNat);rw[<-a6] at bi;have b5:IntKind.i64.wrap (y.toNat:Int)=y.toNat:=wrap_i64 (by omega) (by omega);have w2:IntKind.i64.wrap (0+(y.toNat:Int))=((0+y.toNat:Nat) :Int) :=by rw[wrap_i64 (by omega) (by omega)]; omega
    have d2:i7 n.toNat=0+y.toNat:=by unfold i7; rw[a6]; (repeat' split)<;>first | omega | rfl
    simp[cN,dm,jn,t8,t7,ua,h1,ag,aq];refine sI (y:=y) (by rw[il]; exact aY) ?_;rw[d2];simp[hL,b5,w2];exact a7 (by simp[jf,um,uo,uq,ur,us,ut,w2]) rfl
theorem Bb (n:Q) (i:Nat) :(n >>> (8*i)).setWidth 8=ke n.toNat i:=by
 apply BitVec.eq_of_toNat_eq;unfold ke;rw[BitVec.toNat_setWidth,BitVec.toNat_ushiftRight,BitVec.toNat_ofNat]
theorem aoh (l:av) (c d:bv) :(l++[c]).set l.length d=l++[d] :=by rw[List.set_append_right _ _ (Nat.le_refl _)]; simp
def pr (n k i:Nat) :List B:=BitVec.ofNat 8 (247+k) ::(List.replicate (k - i) 0#8++sx n i)
theorem Xs (n k i:Nat) (h:i<=k) :(pr n k i).length=k+1:=by simp[pr,Nx]; omega
theorem alJ (n k i:Nat) (h:i<k) :(pr n k i).set (k - i) (ke n i)=pr n k (i+1) :=by
 unfold pr;obtain⟨m,hm⟩:∃ m,k - i=m+1:=⟨k - i - 1,by omega⟩
 rw[hm,List.set_cons_succ,show k - (i+1)=m by omega,List.replicate_succ',List.append_assoc];congr 1;rw[List.set_append_right _ _ (by simp)];simp[sx]
theorem apW (n:Q) {l:av} {K:ae->av->Prop} (a8:∀ v j l',b0 1 l' v j ((dS n.toNat).map b8)->l.length<=l'.length->(∀ b,b<l.length->l'[b]? = l[b]?)->l.length<=j->cS v=false->K v l') :
  dp Tryz.prog GS 110 [du n] l (c:=⟨K⟩) :=by
 apply bH Pf Yl;unfold EY KP;have cN:((u n:Int)<=247)<->n.toNat<=247:=by unfold u; omega
 by_cases h:n.toNat<=247
 ·have tv:dS n.toNat=[n.setWidth 8] :=by
   unfold dS; rw[if_pos h]; rfl
  simp[cN,h];refine a8 _ l.length _ (pu (n:=1) (a:=dS n.toNat) (by rw[tv]; rfl) (by rw[tv]; simp)) (by simp) (fun b aj=>List.getElem?_append_left aj) (Nat.le_refl _) rfl
 ·have aF:=Dk n.toNat
  obtain⟨k,mO⟩:∃ k,jK n.toNat=k:=⟨_,rfl⟩
  have tv:dS n.toNat=pr n.toNat k k:=by unfold dS pr; rw[if_neg h,mO]; simp
  have zn:=ak6 n.toNat (by omega)
  rw[mO] at zn aF;obtain⟨L,fY⟩:∃ L,i7 n.toNat=L:=⟨_,rfl⟩
  rw[fY] at zn;have b5:IntKind.i64.wrap ((L:Int)+7)=((L+7:Nat) :Int) :=by rw[wrap_i64 (by omega) (by omega)]; omega
  have q1:cn .quo .i64 ((L+7:Nat) :Int) .i64 8=some (.int .i64 (k:Int)) :=by rw[EN _ 8 (by omega) (by omega)]; rw[show (8:Int).toNat=8 from rfl,zn]
  have w2:IntKind.i64.wrap ((k:Int)+1)=((k+1:Nat) :Int) :=by rw[wrap_i64 (by omega) (by omega)]; omega
  have d2:IntKind.i64.wrap (247+(k:Int))=((247+k:Nat) :Int) :=by rw[wrap_i64 (by omega) (by omega)]; omega
  have i8:po 1 1 [.int .u8 0] l (.int .i64 ((k+1:Nat) :Int)) (.int .i64 ((k+1:Nat) :Int))=some (.ao 1 l.length 0 (k+1) (k+1) (k+1),l++[.cells (k+1) ((List.replicate (k+1) 0#8).map bF)]) :=by
   unfold po;have aD:cQ=140737488355328:=rfl;simp only[];rw[if_pos ⟨by omega,by omega,by omega,by rw[aD]; omega⟩,DI];simp
  simp[cN,h];refine bB (ak7 n) rfl ?_;rw[fY];have gL:bU (List.replicate (k+1) (bF 0#8)) 0 [bF (BitVec.ofNat 8 (247+k))]=(pr n.toNat k 0).map bF:=by
   rw[List.replicate_succ,aoH,aoJ]; simp[pr,sx]
  simp[b5,q1,w2,d2,i8,-Int.natCast_add];refine c0 k (fun i ah l1=>ah 0=du n/\ah 3=.int .i64 k/\ah 4=.ao 1 l.length 0 (k+1) (k+1) (k+1)/\ah 23=.int .i64 k/\ah 24=.int .i64 i/\l1=l++[.cells (k+1) ((pr n.toNat k i).map bF)]) ?_ ?_
  ·rintro i ah l1 aA ⟨cz,bi,bI,wH,mB,rfl⟩;obtain⟨ah,rfl⟩:=k6 cz bi bI wH mB;clear cz bi bI wH mB;unfold VT;by_cases oX:i<k
   ·have h4:IntKind.i64.wrap ((k:Int) - i)=((k - i:Nat) :Int) :=by rw[wrap_i64 (by omega) (by omega)]; omega
    have j8:IntKind.i64.wrap (8*(i:Int))=((8*i:Nat) :Int) :=by rw[wrap_i64 (by omega) (by omega)]; omega
    have AQ:IntKind.i64.wrap ((i:Int)+1)=((i+1:Nat) :Int) :=by rw[wrap_i64 (by omega) (by omega)]; omega
    have mi:cn .shr .u64 (u n) .i64 ((8*i:Nat) :Int)=some (.int .u64 (u (n >>> (8*i)))) :=sP n .i64 (8*i);have sC:=Bb n i;have x7:=md bF (pr n.toNat k i) (k - i) (ke n.toNat i) (by rw[Xs _ _ _ aA]; omega);rw[alJ _ _ _ oX] at x7;obtain⟨d,bD⟩:∃ d,k - i=d:=⟨_,rfl⟩
    obtain⟨e,aw⟩:∃ e,8*i=e:=⟨_,rfl⟩
    rw[bD] at h4 x7;rw[aw] at j8 mi sC;have wS:d<=k:=by omega
    simp[oX,h4,j8,AQ,mi,sC,x7,wS,-Int.natCast_add,aoh];omega
   ·have fq:i=k:=by omega
    subst fq;simp;refine a8 _ l.length _ (pu (n:=i+1) (a:=dS n.toNat) (by rw[tv,Xs _ _ _ (Nat.le_refl _)]) (by rw[tv]; simp)) (by simp) (fun b aj=>List.getElem?_append_left aj) (Nat.le_refl _) rfl
  ·simp;exact gL
theorem alE {n:Nat} (h:n<18446744073709551616) :n<256 ^ jK n:=by
 unfold jK; (repeat' split)<;>simp<;>omega
theorem alF {n k:Nat} (h1:1<=n) (h:k<jK n) :256 ^ k<=n:=by
 have gd:=(Dk n).2;have aF:k=0\/k=1\/k=2\/k=3\/k=4\/k=5\/k=6\/k=7:=by omega
 rcases aF with rfl | rfl | rfl | rfl | rfl | rfl | rfl | rfl<;>simp<;>unfold jK at h<;>(repeat' split at h)<;>omega
theorem aoo {n k:Nat} (h1:1<=n) (h:n<18446744073709551616) (aF:k<=jK n) :n >>> (8*k)=0<->k=jK n:=by
 have aG:2 ^ (8*k)=256 ^ k:=by rw[Nat.pow_mul]
 rw[Nat.shiftRight_eq_div_pow,aG,Nat.div_eq_zero_iff];constructor
 ·rintro (ag | ag)
  ·exact absurd ag (by have:0<256 ^ k:=Nat.pow_pos (by decide); omega)
  ·rcases Nat.lt_or_ge k (jK n) with aq | aq
   ·have:=alF h1 aq; omega
   ·omega
 ·rintro rfl;exact .inr (alE h)
theorem ab3 (n:Nat) :∀ k,sx n k=((List.range k).map (ke n)).reverse
 | 0=>rfl
 | k+1=>by rw[sx,ab3 n k,List.range_succ,List.map_append,List.reverse_append]; rfl
def nH (n k:Nat) :List B:=(List.range k).map (ke n)
theorem afx (n k:Nat) :nH n (k+1)=nH n k++[ke n k] :=by simp[nH,List.range_succ]
theorem wu (n k:Nat) :(nH n k).length=k:=by simp[nH]
theorem Si (n k i:Nat) (h:i<k) :(nH n k)[i]? = some (ke n i) :=by simp[nH,h]
theorem anU (x:Q) :cn .rem .u64 (u x) .u64 256=some (.int .u64 (u (x % 256#64))) :=wi x 256#64 (by decide)
theorem amA (x:Q) :cn .quo .u64 (u x) .u64 256=some (.int .u64 (u (x / 256#64))) :=KH x 256#64 (by decide)
theorem alj (n:Q) (i:Nat) :((n >>> (8*i)) % 256#64).setWidth 8=ke n.toNat i:=by
 rw[<-Bb];apply BitVec.eq_of_toNat_eq;rw[BitVec.toNat_setWidth,BitVec.toNat_umod,BitVec.toNat_setWidth];show _ % 256 % 2 ^ 8=_ % 2 ^ 8;omega
theorem alC (n:Q) (i:Nat) :(n >>> (8*i)) / 256#64=n >>> (8*(i+1)) :=by
 apply BitVec.eq_of_toNat_eq;rw[BitVec.toNat_udiv,BitVec.toNat_ushiftRight,BitVec.toNat_ushiftRight,Nat.shiftRight_eq_div_pow,Nat.shiftRight_eq_div_pow,show 8*(i+1)=8*i+8 by omega,Nat.pow_add,<-Nat.div_div_eq_div_mul]; rfl
theorem cl.get {l l1:av} {v:ae} {a:List B} {fg:Bool} (h:cl 1 b8 l l1 v a fg) {k:IntKind} {i:Nat} {x:B} (ak:a[i]? = some x) :∃ p cs o,cU (.ao 1) v (.int k (i:Int))=some p/\d1 l1 p=some (cs,o)/\cs[o]? = some (bF x) :=by
 obtain⟨j,h,_⟩:=h;obtain⟨p,cs,o,h1,ag,aq,aK⟩:=h.q.get (k:=k) (i:=i) (e:=b8 x) (by rw[List.getElem?_map,ak]; rfl);refine⟨p,cs,o,h1,ag,?_⟩;have:=congrArg (fun l=>l[0]?) aK;simp[List.getElem?_take,List.getElem?_drop,b8] at this;exact this
theorem vU (n:Q) {l:av} {K:ae->av->Prop} (a8:∀ v l',cl 1 b8 l l' v (dS n.toNat) false->K v l') :dp Tryz.prog GS 110 [du n] l (c:=⟨K⟩) :=
 apW n fun v j l' h1 ag aq aK bg=>a8 v l' ⟨j,h1,ag,aq,.inr aK,bg⟩
structure ac5 (l:av) (n:Q) (i:Nat) (ah:bj) (l1:av) :Prop where
 cz:ah 0=du (n >>> (8*i))
 qJ:∃ v,ah 3=v/\cl 1 b8 l l1 v (nH n.toNat i) (decide (i=0))
structure ac6 (l1:av) (v:ae) (n:Q) (k i:Nat) (ah:bj) (ce:av) :Prop where
 bi:ah 3=v
 bq:ah 5=.int .i64 ((k:Int) - 1 - i)
 qJ:∃ w,ah 4=w/\cl 1 b8 l1 ce w (BitVec.ofNat 8 (247+k) ::((nH n.toNat k).reverse.take i)) false
theorem t1 (n:Q) {l:av} {K:ae->av->Prop} (a8:∀ v l',cl 1 b8 l l' v (dS n.toNat) false->K v l') :
  dp Tryz.prog GS 102 [du n] l (c:=⟨K⟩) :=by
 apply bH O6 Yd;unfold ET KK;have cN:((u n:Int)<=247)<->n.toNat<=247:=by unfold u; omega
 by_cases h:n.toNat<=247
 ·have tv:dS n.toNat=[n.setWidth 8] :=by
   unfold dS; rw[if_pos h]; rfl
  simp[cN,h];exact a8 _ _ ⟨l.length,pu (n:=1) (a:=dS n.toNat) (by rw[tv]; rfl) (by rw[tv]; simp),by simp,fun b aj=>List.getElem?_append_left aj,.inr (Nat.le_refl _),rfl⟩
 ·have ahw:=n.isLt;have aF:=Dk n.toNat
  simp[cN,h];refine c0 (jK n.toNat) (ac5 l n) ?_ ⟨by simp,.aZ,by simp,cl.nil⟩;rintro i ah l1 aA ⟨cz,v,bi,eI⟩;obtain⟨ah,rfl⟩:=ov cz bi;clear cz bi;unfold VR;have aC:=aoo (n:=n.toNat) (k:=i) (by omega) (by omega) aA;have kr:((0:Int)<u (n >>> (8*i)))<->¬ i=jK n.toNat:=by
   rw[<-aC]; unfold u; rw[BitVec.toNat_ushiftRight]; generalize n.toNat >>> (8*i)=q; omega
  by_cases oX:i=jK n.toNat
  ·obtain⟨k,mO⟩:∃ k,jK n.toNat=k:=⟨_,rfl⟩
   rw[mO] at oX kr aF;subst oX;have aiM:dS n.toNat=BitVec.ofNat 8 (247+i) ::(nH n.toNat i).reverse:=by
    unfold dS; rw[if_neg h,mO,ab3]; rfl
   have bw:=eI.len;rw[wu] at bw;have b5:IntKind.i64.wrap (247+(i:Int))=((247+i:Nat) :Int) :=by rw[wrap_i64 (by omega) (by omega)]; omega
   have w2:IntKind.i64.wrap ((i:Int) - 1)=(i:Int) - 1:=wrap_i64 (by omega) (by omega);have h9:(dS n.toNat)=BitVec.ofNat 8 (247+i) ::(nH n.toNat i).reverse.take i:=by rw[aiM,List.take_of_length_le (by rw[List.length_reverse,wu]; omega)]
   simp[kr,bw,b5,w2,-Int.natCast_add];refine c0 i (ac6 l1 v n i) ?_ ⟨by simp,by simp,_,by simp,⟨l1.length,pu (n:=1) (a:=[BitVec.ofNat 8 (247+i)]) rfl (by simp),by simp,fun b aj=>List.getElem?_append_left aj,.inr (Nat.le_refl _),rfl⟩⟩;rintro j ah ce am ⟨bi,bq,w,bI,si⟩;have vr:=eI.frame si.le si.same;obtain⟨ah,rfl⟩:=k5 bi bI bq;clear bi bI bq;unfold VS;by_cases l0:j=i
   ·have nV:¬ (j:Int)<=(i:Int) - 1:=by omega
    rw[l0,<-h9] at si;simp[nV];exact a8 _ _ (si.base eI.le eI.same)
   ·have wX:(j:Int)<=(i:Int) - 1:=by omega
    have tl:((i:Int) - 1 - j)=((i - 1 - j:Nat) :Int) :=by omega
    have d2:IntKind.i64.wrap ((i:Int) - 1 - j - 1)=(i:Int) - 1 - (j+1:Nat) :=by rw[wrap_i64 (by omega) (by omega)]; omega
    obtain⟨p,cs,o,q1,im,sn⟩:=cl.get vr (k:=.i64) (Si n.toNat i (i - 1 - j) (by omega));rw[<-tl] at q1;have ak:(nH n.toNat i).reverse[j]? = some (ke n.toNat (i - 1 - j)) :=by
     rw[List.getElem?_reverse (by rw[wu]; omega),wu,Si _ _ _ (by omega)]
    have tt:=wu n.toNat i;obtain⟨w',l',bt,bE⟩:=cl.push si (ke n.toNat (i - 1 - j)) (by simp; omega);simp[wX,q1,im,sn,bt];refine dM.cM ?_;simp[d2];exact⟨by omega,by simp,by simp,w',by simp,by rw[List.take_add_one,ak]; simpa using bE⟩
  ·have u6:=wu n.toNat i;obtain⟨bc,l',bt,bE⟩:=cl.push eI (ke n.toNat i) (by omega);rw[<-afx] at bE;have bp:cn .quo .u64 (u (n >>> (8*i))) .u64 256=some (du (n >>> (8*(i+1)))) :=by rw[amA,alC]
   simp[kr,oX,anU,bp,alj,bt];refine dM.cM ?_;simp[bp];exact⟨by omega,by simp,bc,by simp,by simpa using bE⟩
end Op
end Go.cj

namespace Go.cj
open Go Go.Proofs
set_option maxRecDepth 100000
namespace Op
open g9
def k8 (n:Int) :Q:=if 0<=n then BitVec.ofNat 64 (2*n.toNat) else BitVec.ofNat 64 (2*(-(n+1)).toNat+1)
theorem apY (n:Int) (h1:-9223372036854775808<=n) (ag:n<9223372036854775808) {l:av} {K:ae->av->Prop} (a8:∀ v l',cl 1 b8 l l' v (dS (k8 n).toNat) false->K v l') :
  dp Tryz.prog GS 185 [.int .i64 n] l (c:=⟨K⟩) :=by
 apply bH Qg Zl;unfold FV LL;have a1:cn .shl .u64 (u (BitVec.ofInt 64 n)) .u64 1=some (.int .u64 (u (BitVec.ofInt 64 n <<< 1))) :=OW _ .u64 1;have b3:cn .shr .i64 n .u64 63=some (.int .i64 (if 0<=n then 0 else -1)) :=by
  show (if (63:Int)<0 then none else some (ae.int .i64 (n.fdiv (2 ^ min (63:Int).toNat 64))))=_;rw[if_neg (by omega)];congr 2;have:(2:Int) ^ min (63:Int).toNat 64=9223372036854775808:=by decide
  rw[this,Int.fdiv_eq_ediv_of_nonneg _ (by omega)];split<;>omega
 have aC:BitVec.ofInt 64 n <<< 1 ^^^ BitVec.ofInt 64 (if 0<=n then 0 else -1)=k8 n:=by
  unfold k8;by_cases h:0<=n
  ·rw[if_pos h,if_pos h];obtain⟨m,rfl⟩:=Int.eq_ofNat_of_zero_le h;rw[BitVec.ofInt_natCast,Int.toNat_natCast];have:BitVec.ofInt 64 (0:Int)=0#64:=rfl;rw[this,BitVec.xor_zero];apply BitVec.eq_of_toNat_eq;rw[BitVec.toNat_shiftLeft,BitVec.toNat_ofNat,BitVec.toNat_ofNat,Nat.shiftLeft_eq];omega
  ·rw[if_neg h,if_neg h];obtain⟨m,hm⟩:=Int.eq_ofNat_of_zero_le (show 0<=-(n+1) by omega);have aH:n=-((m:Int)+1) :=by omega
   have bt:BitVec.ofInt 64 (-1:Int)=BitVec.allOnes 64:=by decide
   have bE:BitVec.ofInt 64 n = ~~~ BitVec.ofNat 64 m:=by
    apply BitVec.eq_of_toNat_eq;rw[aH,BitVec.toNat_ofInt,BitVec.toNat_not,BitVec.toNat_ofNat];omega
   have jC:m<9223372036854775808:=by omega
   rw[bt,bE,BitVec.xor_allOnes,hm,Int.toNat_natCast];apply BitVec.eq_of_toNat_eq;rw[BitVec.toNat_not,BitVec.toNat_shiftLeft,BitVec.toNat_not,BitVec.toNat_ofNat,BitVec.toNat_ofNat,Nat.shiftLeft_eq];omega
 simp[a1,b3,aC];refine vU _ fun v l' h=>?_
 simp;exact a8 v l' h
theorem anu (n:Int) (h1:-9223372036854775808<=n) (ag:n<9223372036854775808) {l:av} {K:ae->av->Prop} (a8:∀ v l',cl 1 b8 l l' v (dS (k8 n).toNat) false->K v l') :
  dp Tryz.prog GS 180 [.int .i64 n] l (c:=⟨K⟩) :=by
 apply bH Qb Zg;unfold FQ LG;by_cases h:0<=n
 ·obtain⟨m,rfl⟩:=Int.eq_ofNat_of_zero_le h;have aC:2#64*BitVec.ofNat 64 m=k8 m:=by
   unfold k8; rw[if_pos h,Int.toNat_natCast];apply BitVec.eq_of_toNat_eq;simp only[BitVec.toNat_mul,BitVec.toNat_ofNat];omega
  simp[aC];refine t1 _ fun v l' h=>?_
  simp;exact a8 v l' h
 ·have b5:IntKind.i64.wrap (n+1)=n+1:=wrap_i64 (by omega) (by omega);have w2:IntKind.i64.wrap (0 - (n+1))=0 - (n+1) :=wrap_i64 (by omega) (by omega);have w2:IntKind.i64.wrap (-(n+1))=-(n+1) :=wrap_i64 (by omega) (by omega);have aC:2#64*BitVec.ofInt 64 (-(n+1))+1#64=k8 n:=by
   obtain⟨m,hm⟩:=Int.eq_ofNat_of_zero_le (show 0<=-(n+1) by omega);unfold k8; rw[if_neg h,hm,Int.toNat_natCast,BitVec.ofInt_natCast];apply BitVec.eq_of_toNat_eq;simp only[BitVec.toNat_mul,BitVec.toNat_ofNat,BitVec.toNat_add];omega
  simp[h,b5,w2,aC];refine t1 _ fun v l' h=>?_
  simp;exact a8 v l' h
def hG (s:List B) :List B:=dS s.length++s
theorem g5 (n:Nat) :(dS n).length<=9:=by
 unfold dS;have:=(Dk n).2;split
 ·simp
 ·simp[Nx]; omega
theorem agh (s:List B) :(s.map b8).flatten=s.map bF:=ww s
theorem Sa (l:av) (s:d7) :dj l 1 (cv s)=some ((s.l.map b8).flatten,s.l.length) :=Bq l 1 b8 s
theorem acv (s:d7) (au:s.l.length<=10000) {x:ae} {l:av} (ak:dj l 1 x=some ((s.l.map b8).flatten,s.l.length)) (bw:db (.ao 1) x=some (.int .i64 s.l.length)) (cI:∀ l',l.length<=l'.length->(∀ b,b<l.length->l'[b]? = l[b]?)->dj l' 1 x=some ((s.l.map b8).flatten,s.l.length))
  {K:ae->av->Prop} (a8:∀ v l',cl 1 b8 l l' v (hG s.l) false->K (.bP [v,.int .i64 0]) l') :dp Tryz.prog GS 153 [x] l (c:=⟨K⟩) :=by
 apply bH PP YU;unfold Fu Lk;have h1:¬ ((10000:Int)<s.l.length) :=by omega
 have aD:cQ=140737488355328:=rfl;simp[bw,h1];refine vU _ fun v l' h=>?_
 have aH:(BitVec.ofNat 64 s.l.length).toNat=s.l.length:=by rw[BitVec.toNat_ofNat]; exact Nat.mod_eq_of_lt (by omega)
 rw[aH] at h;have lw:=g5 s.l.length;obtain⟨bc,ce,bt,bE,_⟩:=h.app (by_:=1) (x:=x) (xs:=s.l) (cI l' h.le h.same) (by simp[b8]) (by omega) (by omega) (by rw[aD]; omega);simp[bt];refine dM.cM ?_;simp;exact a8 bc ce (by simpa [hG] using bE)
theorem aaZ (s:d7) (au:s.l.length<=10000) {x:ae} {l:av} (ak:dj l 1 x=some ((s.l.map b8).flatten,s.l.length)) (bw:db (.ao 1) x=some (.int .i64 s.l.length)) (cI:∀ l',l.length<=l'.length->(∀ b,b<l.length->l'[b]? = l[b]?)->dj l' 1 x=some ((s.l.map b8).flatten,s.l.length))
  {K:ae->av->Prop} (a8:∀ v l',cl 1 b8 l l' v (hG s.l) false->K v l') :dp Tryz.prog GS 141 [x] l (c:=⟨K⟩) :=by
 apply bH PD YI;unfold Fk La;have aD:cQ=140737488355328:=rfl;simp[bw];refine t1 _ fun v l' h=>?_
 have aH:(BitVec.ofNat 64 s.l.length).toNat=s.l.length:=by rw[BitVec.toNat_ofNat]; exact Nat.mod_eq_of_lt (by omega)
 rw[aH] at h;have lw:=g5 s.l.length;obtain⟨bc,ce,bt,bE,_⟩:=h.app (by_:=1) (x:=x) (xs:=s.l) (cI l' h.le h.same) (by simp[b8]) (by omega) (by omega) (by rw[aD]; omega);simp[bt];refine dM.cM ?_;simp;exact a8 bc ce (by simpa [hG] using bE)
def bb (i:List B) :List ae:=i.map bF
abbrev fS:=eh (List B)
def bl (s:fS) :ae:=cO 32 bb s
def ik (s:fS) :Prop:=∀ i∈s.l,i.length=32
theorem ha (i:List B) :bV (bb i)=true:=kI bF (fun _=>rfl) _
theorem hM (s:fS) :(bl s).closed=true:=uF ha s
theorem RZ:∀ a b:List B,a.length=b.length->lT (a.map fun x=>UInt8.ofNat x.toNat) (b.map fun x=>UInt8.ofNat x.toNat)=cG a b
 | [],[],_=>rfl
 | [],_::_,h=>by simp at h
 | _::_,[],h=>by simp at h
 | x::a,y::b,h=>by
  have aM:=RZ a b (by simpa using h);have ak:=x.isLt;have aP:=y.isLt;rw[RY];simp only[List.map_cons,lT,aM];have a1:(UInt8.ofNat x.toNat=UInt8.ofNat y.toNat)<->x.toNat=y.toNat:=by
   constructor
   ·intro h;have:=congrArg UInt8.toNat h;simp only[UInt8.toNat_ofNat'] at this;omega
   ·intro h; rw[h]
  have b3:(UInt8.ofNat x.toNat<UInt8.ofNat y.toNat)<->x.toNat<y.toNat:=by
   rw[UInt8.lt_iff_toNat_lt]; simp only[UInt8.toNat_ofNat'];rw[Nat.mod_eq_of_lt (by omega),Nat.mod_eq_of_lt (by omega)]
  by_cases h1:x.toNat=y.toNat
  ·rw[if_pos (a1.2 h1),if_neg (by omega),if_neg (by omega)]
  ·rw[if_neg (fun h=>h1 (a1.1 h))];by_cases ag:x.toNat<y.toNat
   ·rw[if_pos (b3.2 ag),if_pos ag]
   ·rw[if_neg (fun h=>ag (b3.1 h)),if_neg ag,if_pos (by omega)]
@[simp ↓] theorem avb {P:Program} {aB:Operand->ae} {l:av} (f:FuncId) (p3 x y:Operand) :bR P aB l (.cG f p3 x y)=(match zP f (aB p3) with | true=>dg l (cmpL l (aB x) (aB y)) | false=>none) :=id rfl
@[simp ↓] theorem auk (f:FuncId) (p3 x y:Operand) (v:ae) (l:av) (K:ae->av->Prop) :dR (.cG f p3 x y) v l K=K v l:=id rfl
@[simp] theorem atz (f:FuncId) :zP f (.fn f [] [])=true:=Nat.beq_refl f
theorem OZ:∀ a:List B,lh (a.map bF)=some (a.map fun x=>UInt8.ofNat x.toNat)
 | []=>rfl
 | x::a=>by
  simp only[List.map_cons,lh,OZ a,Option.map_some];simp[u]
theorem O0 (l:av) (s:d7) :mw l (cv s)=some (s.l.map fun x=>UInt8.ofNat x.toNat) :=by
 have h:=Sa l s;rw[agh] at h;cases s with
 | none=>simp[mw,cO,dj,lh]
 | some a=>
  unfold mw;simp only[cO];have ag:dj l 1 (ae.bW 1 (a.map b8))=some (a.map bF,a.length) :=h;rw[ag];exact OZ a
theorem OG (a b:d7) (h:a.l.length=b.l.length) :bT Tryz.prog GS 76 [cv a,cv b] (.int .i64 (cG a.l b.l)) :=by
 refine cd Tryz.checked.mixed b2 ?_;apply bH Ro aat
 unfold GN Mz;have al:cmpL [] (cv a) (cv b)=some (.int .i64 (cG a.l b.l)) :=by
  unfold cmpL;rw[O0,O0];simp only[RZ _ _ h]
 simp[al];exact a7 rfl rfl
theorem Ni {n b:Nat} (dy:0<n) :fu (.arr n 1) (.ptr b 0 n) none none none=some (.ao 1 b 0 n n n) :=by
 have:fH n n none none none=some (0,n,n) :=rfl;simp only[fu,this];rw[if_pos (by omega),if_neg (by omega)];simp
theorem wq (a b:List B) (aI:a.length=32) (aj:b.length=32) :bT Tryz.prog GS 121 [ff a,ff b] (.int .i64 (cG a b)) :=by
 refine cd Tryz.checked.mixed b2 ?_;apply bH Pp Yu;unfold E7 KY;have au:=Ni (n:=32) (b:=1) (by omega);have I4:=Ni (n:=32) (b:=0) (by omega);simp[ff,aI,aj,au,I4];have al:=OG (some a) (some b) (by simp[aI,aj]);refine jc al ?_ rfl ?_
 ·exact .cons ((pu (j:=0) aI rfl).qV (fun _=>rfl) (some a) rfl rfl) (.cons ((pu (j:=1) aj rfl).qV (fun _=>rfl) (some b) rfl rfl) .nil)
 ·simp;exact a7 rfl rfl
theorem anN (a b:List B) (aI:a.length=32) (aj:b.length=32) :bT Tryz.prog GS 84 [ff a,ff b] (.int .i64 (cG a b)) :=by
 refine cd Tryz.checked.mixed b2 ?_;apply bH Ru aaz;unfold GU MD;obtain⟨A,cR⟩:∃ A,A=a.map bF:=⟨_,rfl⟩
 obtain⟨C,HT⟩:∃ C,C=b.map bF:=⟨_,rfl⟩
 have js:A.length=32:=by rw[cR,List.length_map,aI]
 have BR:C.length=32:=by rw[HT,List.length_map,aj]
 unfold ff;rw[<-cR,<-HT];simp[js,BR];refine c0 32 (fun k ah l=>ah 2=.ptr 0 0 32/\ah 3=.ptr 1 0 32/\ah 5=.int .i64 k/\l=[.cells 32 A,.cells 32 C]/\∀ j,j<k->a[j]? = b[j]?) ?_ (by simp);rintro k ah l aF ⟨a6,bi,bq,rfl,heq⟩;obtain⟨ah,rfl⟩:=k5 a6 bi bq;clear a6 bi bq;unfold WQ;have u7:=aff k heq (by omega) (by omega);by_cases h:(k:Int)<32
 ·have gh:k<32:=by omega
  have eC:IntKind.i64.wrap ((k:Int)+1)=(k+1:Nat) :=wrap_i64 (by omega) (by omega);obtain⟨x,ak,_⟩:=cg (l:=a) (k:=k) (by omega);obtain⟨y,aP,_⟩:=cg (l:=b) (k:=k) (by omega);have agN:A[k]? = some (bF x) :=by rw[cR,List.getElem?_map,ak]; rfl
  have agS:C[k]? = some (bF y) :=by rw[HT,List.getElem?_map,aP]; rfl
  obtain⟨_,HR⟩:=List.getElem?_eq_some_iff.1 agN;obtain⟨_,HU⟩:=List.getElem?_eq_some_iff.1 agS;have Ig:a.drop k=x::a.drop (k+1) :=by
   obtain⟨h1,ag⟩:=List.getElem?_eq_some_iff.1 ak;rw[List.drop_eq_getElem_cons h1,ag]
  have ahG:b.drop k=y::b.drop (k+1) :=by
   obtain⟨h1,ag⟩:=List.getElem?_eq_some_iff.1 aP;rw[List.drop_eq_getElem_cons h1,ag]
  rw[Ig,ahG,RY] at u7;have me:((u x:Int)<u y)<->x.toNat<y.toNat:=by unfold u; omega
  have nh:((u y:Int)<u x)<->y.toNat<x.toNat:=by unfold u; omega
  by_cases cN:x.toNat<y.toNat
  ·rw[if_pos cN] at u7;have Bc:x<y:=cN;simp[h,gh,js,BR,HR,HU,Bc];exact a7 (by rw[<-u7]) rfl
  ·have Bc:¬ x<y:=cN;rw[if_neg cN] at u7;by_cases dm:y.toNat<x.toNat
   ·rw[if_pos dm] at u7;have F9:y<x:=dm;simp[h,gh,js,BR,HR,HU,Bc,F9];exact a7 (by rw[<-u7]) rfl
   ·have F9:¬ y<x:=dm;simp[h,gh,js,BR,HR,HU,Bc,F9,eC];intro j am;by_cases hS:j=k
    ·subst hS;rw[ak,aP];have:x=y:=BitVec.eq_of_toNat_eq (by omega);rw[this]
    ·exact heq j (by omega)
 ·have ed:k=32:=by omega
  subst ed;have:cG a b=0:=by
   rw[<-u7,List.drop_of_length_le (by omega),List.drop_of_length_le (by omega)]; rfl
  simp;exact a7 (by rw[this]) rfl
abbrev cb (l:List (List B)) (k:Nat) :List B:=l.getD k []
def eV (l:List (List B)) :Bool:=decide (∀ k,k<l.length->1<=k->cG (cb l (k - 1)) (cb l k)<0)
def vQ (l:List (List B)) :Bool:=decide (∀ k,k<l.length->1<=k->¬ cG (cb l k) (cb l (k - 1))<0)
theorem hq {l:List (List B)} {k:Nat} {x:List B} (h:l[k]? = some x) :cb l k=x:=by
 unfold cb; rw[List.getD_eq_getElem?_getD,h]; rfl
theorem abj {l:List (List B)} (h:∀ k,k<l.length->1<=k->cG (cb l (k - 1)) (cb l k)<0) :eV l=true:=decide_eq_true h
theorem abi {l:List (List B)} {k:Nat} (aF:k<l.length) (h1:1<=k) (h:¬ cG (cb l (k - 1)) (cb l k)<0) :eV l=false:=decide_eq_false fun aQ=>h (aQ k aF h1)
theorem abG {l:List (List B)} (h:∀ k,k<l.length->1<=k->¬ cG (cb l k) (cb l (k - 1))<0) :vQ l=true:=decide_eq_true h
theorem aoM {l:List (List B)} {k:Nat} (aF:k<l.length) (h1:1<=k) (h:cG (cb l k) (cb l (k - 1))<0) :vQ l=false:=decide_eq_false fun aQ=>aQ k aF h1 h
theorem dr {x:List B} (h:x.length=32) :(bb x).length=32:=by simp[bb,h]
theorem aaX (a:fS) (aI:ik a) (ar:a.l.length<=1000000) :bT Tryz.prog GS 63 [bl a] (.bool (eV a.l)) :=by
 refine cd Tryz.checked.mixed b2 ?_;apply bH Rb aah;unfold Gy Mn;simp[bl];refine c0 (a.l.length - 1) (fun k ah l=>ah 0=cO 32 bb a/\ah 3=.int .i64 ((k+1:Nat) :Int)/\∀ j,j<k+1->j<a.l.length->1<=j->cG (cb a.l (j - 1)) (cb a.l j)<0) ?_ ⟨by simp[bl],by simp,fun j h1 _ ag=>by omega⟩;rintro k ah l aF ⟨cz,bi,au⟩;obtain⟨s,rfl⟩:=ov cz bi;clear cz bi;obtain⟨m,hm⟩:∃ m,m=k+1:=⟨_,rfl⟩
 rw[<-hm] at au ⊢;unfold WK;simp;refine qB (fun h=>?_) (fun h=>?_)
 ·simp only[decide_eq_true_eq] at h;have aS:m<a.l.length:=by omega
  obtain⟨x,ak,d0⟩:=cg (l:=a.l) (k:=k) (by omega);obtain⟨y,aP,eA⟩:=cg aS;have a1:IntKind.i64.wrap ((m:Int) - 1)=(k:Int) :=by rw[IntKind.wrap_i64]; omega
  have b3:IntKind.i64.wrap ((m:Int)+1)=((m+1:Nat) :Int) :=by rw[IntKind.wrap_i64]; omega
  have he:=hq ak;have qz:=hq aP;simp[a1,ak,aP,dr (aI x d0),dr (aI y eA),List.take_of_length_le];refine bB (anN x y (aI x d0) (aI y eA)) (by simp[bV,ha,ae.closed,ff]) ?_;by_cases al:cG x y<0
  ·have eY:¬ (0<=cG x y) :=by omega
   simp[eY,b3];refine⟨by omega,fun j h1 ag aq=>?_⟩;have ev:cG (cb a.l (j - 1)) (cb a.l j)<0:=by
    by_cases am:j=m
    ·rw[am,show m - 1=k by omega,he,qz]; exact al
    ·exact au j (by omega) ag aq
   simpa [cb] using ev
  ·have eY:0<=cG x y:=by omega
   simp[eY];refine a7 (congrArg ae.bool (abi (k:=m) aS (by omega) ?_).symm) rfl;rw[show m - 1=k by omega,he,qz];exact al
 ·simp[h];exact a7 (congrArg ae.bool (abj fun j h1 ag=>au j (by simp at h; omega) h1 ag).symm) rfl
theorem Hz:iU Tryz.prog 121=true:=by kernel_rfl
theorem akd (a:fS) (aI:ik a) (ar:a.l.length<=1000000) :bT Tryz.prog GS 148 [bl a,.fn 121 [] []] (.bool (vQ a.l)) :=by
 refine cd Tryz.checked.mixed b2 ?_;apply bH PK YP;unfold Fp Le;have gL:IntKind.i64.wrap ((a.l.length:Int) - 1)=(a.l.length:Int) - 1:=by rw[IntKind.wrap_i64]; omega
 simp[bl,gL];refine c0 (a.l.length - 1) (fun k ah l=>ah 0=cO 32 bb a/\ah 1=.fn 121 [] []/\ah 5=.int .i64 ((a.l.length:Int) - 1 - k)/\∀ j,j<a.l.length->a.l.length - 1 - k<j->¬ cG (cb a.l j) (cb a.l (j - 1))<0) ?_ ⟨by simp[bl],by simp,by simp,fun j h1 ag=>by omega⟩;rintro k ah l aF ⟨cz,aY,bq,au⟩;obtain⟨s,rfl⟩:=k5 cz aY bq;clear cz aY bq;unfold V5;simp;refine qB (fun h=>?_) (fun h=>?_)
 ·simp only[decide_eq_true_eq] at h;obtain⟨m,hm⟩:∃ m,m+k+2=a.l.length:=⟨a.l.length - 2 - k,by omega⟩
  have a1:((a.l.length:Int) - 1 - k)=((m+1:Nat) :Int) :=by omega
  rw[a1];obtain⟨x,ak,d0⟩:=cg (l:=a.l) (k:=m+1) (by omega);obtain⟨y,aP,eA⟩:=cg (l:=a.l) (k:=m) (by omega);obtain⟨n,aH⟩:∃ n,n=m+1:=⟨_,rfl⟩
  rw[<-aH] at ak ⊢;have b3:IntKind.i64.wrap ((n:Int) - 1)=(m:Int) :=by rw[IntKind.wrap_i64]; omega
  have he:=hq ak;have qz:=hq aP;simp[b3,ak,aP,dr (aI x d0),dr (aI y eA),List.take_of_length_le];refine⟨Hz,bB (wq x y (aI x d0) (aI y eA)) (by simp[bV,ha,ae.closed,ff]) ?_⟩;by_cases al:cG x y<0
  ·simp[al];refine a7 (congrArg ae.bool (aoM (k:=n) (by omega) (by omega) ?_).symm) rfl;rw[show n - 1=m by omega,he,qz];exact al
  ·simp[al,b3];refine⟨by omega,by omega,fun j h1 ag=>?_⟩;have ev:¬ cG (cb a.l j) (cb a.l (j - 1))<0:=by
    by_cases am:j=n
    ·rw[am,show n - 1=m by omega,he,qz]; exact al
    ·exact au j h1 (by omega)
   simpa [cb] using ev
 ·simp[h];exact a7 (congrArg ae.bool (abG fun j h1 ag=>au j h1 (by simp at h; omega)).symm) rfl
def wv (l:List (List B)) (k:Nat) :Bool:=decide (k+1<l.length)&&decide (0<=cG (cb l k) (cb l (k+1)))
theorem abh {l:List (List B)}:eV l=true<->∀ k,k<l.length->wv l k=false:=by
 unfold eV wv;rw[decide_eq_true_eq];constructor
 ·intro h k aF;by_cases h1:k+1<l.length
  ·have:=h (k+1) h1 (by omega);rw[Nat.add_sub_cancel] at this;rw[decide_eq_false (p:=0<=_) (by omega),Bool.and_false]
  ·simp[h1]
 ·intro h k aF h1;have:=h (k - 1) (by omega);rw[show k - 1+1=k by omega] at this;rw[decide_eq_true aF,Bool.true_and,decide_eq_false_iff_not] at this;omega
theorem anZ (a:fS) (aI:ik a) (ar:a.l.length<=1000000) (k:Nat) (aF:k<a.l.length) (x:List B) (ak:x.length=32) (r:av) {K:ae->av->Prop}
  (a8:∀ co,K (.bool (wv a.l k)) (.cells 1 [bl a] ::.cells 1 [.int .i64 ((k+1:Nat) :Int)] ::co)) :
  dp Tryz.prog GS 198 [ff x,.ptr 1 0 1,.ptr 0 0 1] (.cells 1 [bl a] ::.cells 1 [.int .i64 (k:Int)] ::r) (c:=⟨K⟩) :=by
 apply bH Qu Zy;unfold F7 LY;have a1:IntKind.i64.wrap ((k:Int)+1)=((k+1:Nat) :Int) :=by rw[IntKind.wrap_i64]; omega
 obtain⟨m,hm⟩:∃ m,m=k+1:=⟨_,rfl⟩
 rw[<-hm] at a1 a8;have b3:IntKind.i64.wrap ((m:Int) - 1)=(k:Int) :=by rw[IntKind.wrap_i64]; omega
 unfold wv at a8;rw[<-hm] at a8;obtain⟨y,aP,eA⟩:=cg aF;by_cases h:m<a.l.length
 ·obtain⟨z,aC,CW⟩:=cg h;have qz:=hq aP;have akf:=hq aC;rw[qz,akf] at a8;have h' : (m:Int)<(a.l.length:Int) :=by omega
  have zK:a.l[m]=z:=(List.getElem?_eq_some_iff.1 aC).2;simp[ff,bl,a1,b3,h,h',aP,zK,dr (aI y eA),dr (aI z CW),List.take_of_length_le];refine bB (wq y z (aI y eA) (aI z CW)) (by simp[bV,ha,ae.closed,ff]) ?_;have:=a8 (r++[bv.cells x.length (List.map bF x)]);simpa [h,bl] using this
 ·have h' : ¬ (m:Int)<(a.l.length:Int) :=by omega
  simp[ff,bl,a1,b3,h,h'];have:=a8 (r++[bv.cells x.length (List.map bF x)]);simpa [h,bl] using this
theorem agk:iU Tryz.prog 198=true:=by kernel_rfl
theorem an1 (a:fS) (aI:ik a) (ar:a.l.length<=1000000) {K:ae->av->Prop} (a8:∀ n co,(n<0<->eV a.l=true)->K (.int .i64 n) co) :
  dp Tryz.prog GS 202 [bl a,.fn 198 [] [.ptr 1 0 1,.ptr 0 0 1]] [.cells 1 [bl a],.cells 1 [.int .i64 0]] (c:=⟨K⟩) :=by
 apply bH Qz ZD;unfold Gc L2;simp[bl];refine c0 a.l.length (fun k ah l=>ah 0=cO 32 bb a/\ah 1=.fn 198 [] [.ptr 1 0 1,.ptr 0 0 1]/\ah 7=.int .i64 a.l.length/\ah 8=.int .i64 k/\(∃ r,l=.cells 1 [bl a] ::.cells 1 [.int .i64 (k:Int)] ::r)/\∀ j,j<k->wv a.l j=false) ?_ ⟨by simp[bl],by simp,by simp,by simp,⟨[],by simp[bl]⟩,fun j h=>by omega⟩;rintro k ah l aF ⟨cz,aY,eb,dN,⟨r,rfl⟩,au⟩;obtain⟨s,rfl⟩:=iJ cz aY eb dN;clear cz aY eb dN;unfold Wr;simp;refine qB (fun h=>?_) (fun h=>?_)
 ·simp only[decide_eq_true_eq] at h;obtain⟨x,ak,d0⟩:=cg (l:=a.l) (k:=k) (by omega);have a1:IntKind.i64.wrap ((k:Int)+1)=((k+1:Nat) :Int) :=by rw[IntKind.wrap_i64]; omega
  simp[ak,dr (aI x d0),List.take_of_length_le];refine⟨agk,anZ a aI ar k (by omega) x (aI x d0) r fun co=>?_⟩;cases bD:wv a.l k with
  | true=>
   simp;refine a8 _ _ ⟨fun aH=>by omega,fun aD=>?_⟩;have:=abh.1 aD k (by omega);rw[bD] at this; cases this
  | false=>
   simp[a1];refine⟨by omega,fun j am=>?_⟩;by_cases hS:j=k
   ·subst hS; exact bD
   ·exact au j (by omega)
 ·simp[h];refine a8 _ _ ⟨fun _=>abh.2 fun j am=>au j (by simp at h; omega),fun _=>by omega⟩
theorem an0 (a:fS) (aI:ik a) (ar:a.l.length<=1000000) {K:ae->av->Prop} (a8:∀ co,K (.bool (!eV a.l)) co) :
  dp Tryz.prog GS 197 [bl a,.fn 198 [] [.ptr 1 0 1,.ptr 0 0 1]] [.cells 1 [bl a],.cells 1 [.int .i64 0]] (c:=⟨K⟩) :=by
 apply bH Qt Zx;unfold F6 LX;simp;refine an1 a aI ar fun n co aH=>?_
 have e:decide (0<=n)=!eV a.l:=by
  cases aD:eV a.l with
  | true=>have:=aH.2 aD; simp; omega
  | false=>
   have:¬ n<0:=fun h=>by have:=aH.1 h; rw[aD] at this; cases this
   simp; omega
 simp[e];exact a8 co
theorem an2 (a:fS) (aI:ik a) (ar:a.l.length<=1000000) :bT Tryz.prog GS 184 [bl a] (.bool (eV a.l)) :=by
 refine cd Tryz.checked.mixed b2 ?_;apply bH Qf Zk;unfold FU LK;have al:(bl a).cells=some [bl a] :=by cases a<;>rfl
 simp[al];refine an0 a aI ar fun co=>?_
 simp;exact a7 rfl rfl
def pj (l:List (List B)) :List B:=dS l.length++l.flatten
theorem RS:∀ (x:List B),kf 1 x.length (x.map bF)=x.map b8
 | []=>rfl
 | b::r=>by
  show ((bF b::r.map bF).take 1) ::kf 1 r.length ((bF b::r.map bF).drop 1)=_;simp[RS r,b8]
theorem ae7 {x:List B} (h:x.length=32) :kf 1 32 (bb x)=x.map b8:=by
 have:=RS x;rw[h] at this;exact this
theorem Js {l:List (List B)} (h:∀ x∈l,x.length=32) :l.flatten.length=l.length*32:=lo h
theorem ab4 {l:List (List B)} {k:Nat} {x:List B} (h:l[k]? = some x) :(l.take (k+1)).flatten=(l.take k).flatten++x:=by
 rw[List.take_add_one,h]; simp
theorem aou {x:List B} (h:x.length=32) :fu (.arr 32 1) (.cp (bb x) 0) none none none=some (.bW 1 (x.map b8)) :=by
 have:=ae7 h;have aj:fH 32 32 none none none=some (0,32,32) :=rfl;unfold fu;simp only[aj];simp[dr h,this]
structure ac2 (l:av) (s:fS) (k:Nat) (ah:bj) (l1:av) :Prop where
 cz:ah 0=cO 32 bb s
 bI:ah 4=.int .i64 k
 qJ:∃ v,ah 3=v/\cl 1 b8 l l1 v (dS s.l.length++(s.l.take k).flatten) false
theorem anm (s:fS) (az:ik s) (au:s.l.length<=1000) {l:av} {K:ae->av->Prop} (a8:∀ v l',cl 1 b8 l l' v (pj s.l) false->K v l') :
  dp Tryz.prog GS 140 [bl s] l (c:=⟨K⟩) :=by
 apply bH PC YH;unfold Fj K9;have aD:cQ=140737488355328:=rfl;have aH:(BitVec.ofNat 64 s.l.length).toNat=s.l.length:=by rw[BitVec.toNat_ofNat]; exact Nat.mod_eq_of_lt (by omega)
 have lw:=g5 s.l.length;simp[bl];refine t1 _ fun v l' h=>?_
 rw[aH] at h;simp;refine c0 s.l.length (ac2 l s) ?_ ⟨by simp[bl],by simp,v,by simp,by simpa using h⟩;rintro k ah l1 aF ⟨cz,bI,v,bi,eI⟩;obtain⟨ah,rfl⟩:=k5 cz bi bI;clear cz bi bI;unfold V3;simp;refine qB (fun h=>?_) (fun h=>?_)
 ·simp only[decide_eq_true_eq] at h;obtain⟨x,ak,d0⟩:=cg (l:=s.l) (k:=k) (by omega);have a1:IntKind.i64.wrap ((k:Int)+1)=((k+1:Nat) :Int) :=by rw[IntKind.wrap_i64]; omega
  have fT:((s.l.take k).flatten).length<=32000:=by
   rw[Js (fun y aP=>az y (List.mem_of_mem_take aP)),List.length_take]; omega
  obtain⟨bc,ce,bt,bE,_⟩:=eI.app (by_:=1) (x:=.bW 1 (x.map b8)) (xs:=x) (by simp[dj]) (by simp[b8]) (by omega) (by omega) (by rw[aD,az x d0]; simp only[List.length_append]; omega);simp[ak,dr (az x d0),List.take_of_length_le,aou (az x d0),bt];refine dM.cM ?_;simp[a1];exact⟨by omega,by simp,by simp,bc,by simp,by rw[ab4 ak,<-List.append_assoc]; exact bE⟩
 ·simp[h];have aW:s.l.take k=s.l:=List.take_of_length_le (by simp at h; omega);rw[aW] at eI;exact a8 _ _ eI
structure ac3 (l:av) (s:fS) (k:Nat) (ah:bj) (l1:av) :Prop where
 my:ah 17=cO 32 bb s
 mz:ah 18=.int .i64 s.l.length
 mA:ah 19=.int .i64 k
 qJ:∃ v,ah 4=v/\cl 1 b8 l l1 v (dS s.l.length++(s.l.take k).flatten) false
theorem apT (s:fS) (az:ik s) (au:s.l.length<=60) (aD:eV s.l=true) {l:av} {K:ae->av->Prop} (a8:∀ v l',cl 1 b8 l l' v (pj s.l) false->K (.bP [v,.int .i64 0]) l') :
  dp Tryz.prog GS 152 [bl s] l (c:=⟨K⟩) :=by
 apply bH PO YT;unfold Ft Lj;have vn:cQ=140737488355328:=rfl;have aH:(BitVec.ofNat 64 s.l.length).toNat=s.l.length:=by rw[BitVec.toNat_ofNat]; exact Nat.mod_eq_of_lt (by omega)
 have lw:=g5 s.l.length;have oL:¬ (60:Int)<(s.l.length:Int) :=by omega
 simp[bl,oL];refine bB (an2 s az (by omega)) (by have:=hM s; simp[bV]; exact this) ?_;simp[aD,bl];refine vU _ fun v l' h=>?_
 rw[aH] at h;simp[bl];refine c0 s.l.length (ac3 l s) ?_ ⟨by simp[bl],by simp,by simp,v,by simp,by simpa using h⟩;rintro k ah l1 aF ⟨my,mz,mA,v,bI,eI⟩;obtain⟨ah,rfl⟩:=iJ my mz mA bI;clear my mz mA bI;unfold V8;simp;refine qB (fun h=>?_) (fun h=>?_)
 ·simp only[decide_eq_true_eq] at h;obtain⟨x,ak,d0⟩:=cg (l:=s.l) (k:=k) (by omega);have a1:IntKind.i64.wrap ((k:Int)+1)=((k+1:Nat) :Int) :=by rw[IntKind.wrap_i64]; omega
  have fT:((s.l.take k).flatten).length<=32000:=by
   rw[Js (fun y aP=>az y (List.mem_of_mem_take aP)),List.length_take]; omega
  obtain⟨bc,ce,bt,bE,_⟩:=(eI.more [.cells 32 (bb x)]).app (by_:=1) (x:=.ao 1 l1.length 0 32 32 32) (xs:=x) (by simp[dj,az x d0,dr (az x d0),List.take_of_length_le,bb,ww]) (by simp[b8]) (by omega) (by omega) (by rw[vn,az x d0]; simp only[List.length_append]; omega);have mY:bU (rep 32 (.int .u8 0)) 0 (bb x)=bb x:=h3 (by rw[dr (az x d0)]; rfl);simp[ak,dr (az x d0),List.take_of_length_le,Ni,mY,bt];refine dM.cM ?_;simp[a1];exact⟨by omega,by simp,by simp,by simp,bc,by simp,by rw[ab4 ak,<-List.append_assoc]; exact bE⟩
 ·simp[h];have aW:s.l.take k=s.l:=List.take_of_length_le (by simp at h; omega);rw[aW] at eI;exact a8 _ _ eI
def eX (s:List UInt8) :List B:=s.map fun b=>b.toBitVec
theorem DY (s:List UInt8) :(s.map fun b=>[hL b])=(eX s).map b8:=by
 unfold eX;rw[List.map_map];rfl
theorem ol (s:List UInt8) :(eX s).length=s.length:=by simp[eX]
def mv (b:Q) (k:Nat) :List B:=(List.range k).map fun i=>ke b.toNat (7 - i)
def hH (v:hj) :List B:=v.kind::(if v.kind=1#8 then dS (k8 v.num).toNat else if v.kind=2#8 then mv v.bits 8 else hG (eX v.text))
def Kg (v:hj) :Prop:=-9223372036854775808<=v.num/\v.num<9223372036854775808/\v.text.length<=10000
theorem OK (b:Q) (k:Nat) :mv b (k+1)=mv b k++[ke b.toNat (7 - k)] :=by
 unfold mv; rw[List.range_succ,List.map_append]; rfl
theorem Xt (l:av) (c:bv) (x:B) :cl 1 b8 l (l++[c,.cells 1 [bF x]]) (.ao 1 (l.length+1) 0 1 1 1) [x] false:=by
 exact⟨l.length+1,pu (n:=1) (a:=[x]) rfl (by simp),by simp,fun b aj=>List.getElem?_append_left aj,.inr (by omega),rfl⟩
theorem si (l:av) (c:bv) (x:B) :cl 1 b8 (l++[c]) (l++[c,.cells 1 [bF x]]) (.ao 1 (l.length+1) 0 1 1 1) [x] false:=by
 have e:l++[c,.cells 1 [bF x]]=(l++[c])++[.cells 1 [bF x]] :=by simp
 exact⟨l.length+1,pu (n:=1) (a:=[x]) rfl (by simp),by simp,fun b aj=>by rw[e]; exact List.getElem?_append_left aj,.inr (by simp),rfl⟩
structure acR (l:av) (v:hj) (p:Nat) (k:Nat) (ah:bj) (l1:av) :Prop where
 aY:ah 1=.ptr p 0 4
 bI:ah 4=.int .i64 (7 - (k:Int))
 qJ:∃ w,ah 3=w/\cl 1 b8 (l++[.cells 4 (d4 v)]) l1 w (v.kind::mv v.bits k) false
theorem anw (v:hj) (ax:Kg v) {l:av} {K:ae->av->Prop} (a8:∀ w l',cl 1 b8 l l' w (hH v) false->K w l') :
  dp Tryz.prog GS 142 [.aV (d4 v)] l (c:=⟨K⟩) :=by
 apply bH PE YJ;unfold Fl Lb;have aD:cQ=140737488355328:=rfl;have aO:=Xt l (.cells 4 (d4 v)) v.kind;obtain⟨rS,qk,aW⟩:=ax;have al:s3 (.str v.text)=some (.bW 1 ((eX v.text).map b8)) :=by
  show some (ae.bW 1 (v.text.map fun b=>[hL b]))=_;rw[DY]
 by_cases cN:v.kind=1#8
 ·have mZ:hH v=[v.kind]++dS (k8 v.num).toNat:=by unfold hH; rw[if_pos cN]; rfl
  have a1:(u v.kind:Int)=1:=(hh v.kind).2 cN;simp only[bF,a1] at aO;have lw:=g5 (k8 v.num).toNat
  simp[d4,a1];refine anu v.num rS qk fun w l' h=>?_
  obtain⟨bc,ce,bt,bE,_⟩:=(aO.frame h.le h.same).app (by_:=1) (x:=w) (xs:=dS (k8 v.num).toNat) h.contents (by simp[b8]) (by omega) (by omega) (by rw[aD]; simp only[List.length_cons,List.length_nil]; omega);simp[bt];refine dM.cM ?_;simp;exact a8 _ _ (by rw[mZ]; exact bE)
 ·have a1:¬ (u v.kind:Int)=1:=fun h=>cN ((hh v.kind).1 h)
  by_cases dm:v.kind=2#8
  ·have b3:(u v.kind:Int)=2:=(j7 v.kind).2 dm;have mZ:hH v=v.kind::mv v.bits 8:=by unfold hH; rw[if_neg cN,if_pos dm]
   have ag:=si l (.cells 4 (d4 v)) v.kind;simp only[bF,b3] at ag;simp[d4,b3];refine c0 8 (acR l v l.length) ?_ ⟨by simp,by simp,_,by simp,ag⟩;rintro k ah l1 aF ⟨aY,bI,w,bi,eI⟩;have aG:l1[l.length]? = some (.cells 4 (d4 v)) :=by rw[eI.same l.length (by simp)]; simp
   obtain⟨ah,rfl⟩:=k5 aY bi bI;clear aY bi bI;unfold V4;by_cases g1:k=8
   ·subst g1;rw[<-mZ] at eI;simp;exact a8 _ _ (eI.base (by simp) fun b aj=>List.getElem?_append_left aj)
   ·obtain⟨m,hm⟩:∃ m,m+k=7:=⟨7 - k,by omega⟩
    have em:7 - (k:Int)=(m:Int) :=by omega
    have Hn:IntKind.i64.wrap ((m:Int) - 1)=(m:Int) - 1:=by rw[IntKind.wrap_i64]; omega
    have afM:IntKind.i64.wrap (8*(m:Int))=((8*m:Nat) :Int) :=by rw[IntKind.wrap_i64]; omega
    have mi:cn .shr .u64 (u v.bits) .i64 ((8*m:Nat) :Int)=some (.int .u64 (u (v.bits >>> (8*m)))) :=sP v.bits .i64 (8*m);have sC:=Bb v.bits m;have bw:(v.kind::mv v.bits k).length<=1000000000:=by simp[mv]; omega
    obtain⟨w',l',bt,bE⟩:=cl.push eI (ke v.bits.toNat m) bw;rw[em];simp[d4] at aG;simp[aG,afM,mi,sC,bt,-Int.natCast_mul];refine dM.cM ?_;simp[Hn];exact⟨by omega,by simp,by simp; omega,w',by simp,by rw[OK,show 7 - k=m by omega]; exact bE⟩
  ·have b3:¬ (u v.kind:Int)=2:=fun h=>dm ((j7 v.kind).1 h)
   have mZ:hH v=[v.kind]++hG (eX v.text) :=by unfold hH; rw[if_neg cN,if_neg dm]; rfl
   have jX:(hG (eX v.text)).length<=20000:=by
    have:=g5 (eX v.text).length;unfold hG;rw[List.length_append];have:=ol v.text;omega
   simp[d4,a1,b3,al];refine aaZ (some (eX v.text)) (by simpa [ol] using aW) (by simp[dj]) (by simp) (fun l' _ _=>by simp[dj]) fun w l' h=>?_
   obtain⟨bc,ce,bt,bE,_⟩:=(aO.frame h.le h.same).app (by_:=1) (x:=w) (xs:=hG (eX v.text)) h.contents (by simp[b8]) (by omega) (by omega) (by rw[aD]; simp only[List.length_cons,List.length_nil]; omega);simp[bt];refine dM.cM ?_;simp;exact a8 _ _ (by rw[mZ]; exact bE)
structure acS (l:av) (v:hj) (p:Nat) (k:Nat) (ah:bj) (l1:av) :Prop where
 aY:ah 1=.ptr p 0 4
 cx:ah 6=.int .i64 (8*(7 - (k:Int)))
 qJ:∃ w,ah 5=w/\cl 1 b8 (l++[.cells 4 (d4 v)]) l1 w (v.kind::mv v.bits k) false
theorem akw {v:hj} (h:jg v=true) (cN:¬ v.kind=1#8) (dm:¬ v.kind=2#8) :v.kind=3#8:=by
 unfold jg at h;simp[cN,dm] at h;exact h.1
theorem ap0 (v:hj) (ax:Kg v) (dP:jg v=true) {l:av} {K:ae->av->Prop} (a8:∀ w l',cl 1 b8 l l' w (hH v) false->K (.bP [w,.int .i64 0]) l') :
  dp Tryz.prog GS 154 [.aV (d4 v)] l (c:=⟨K⟩) :=by
 apply bH PQ YV;unfold Fv Ll;have aD:cQ=140737488355328:=rfl;have aO:=Xt l (.cells 4 (d4 v)) v.kind;obtain⟨rS,qk,aW⟩:=ax;have al:s3 (.str v.text)=some (.bW 1 ((eX v.text).map b8)) :=by
  show some (ae.bW 1 (v.text.map fun b=>[hL b]))=_;rw[DY]
 have dU:=aco v;rw[dP] at dU;by_cases cN:v.kind=1#8
 ·have mZ:hH v=[v.kind]++dS (k8 v.num).toNat:=by unfold hH; rw[if_pos cN]; rfl
  have a1:(u v.kind:Int)=1:=(hh v.kind).2 cN;simp only[bF,a1] at aO;have lw:=g5 (k8 v.num).toNat
  simp[d4];refine bB dU rfl ?_;simp[jr,a1];refine apY v.num rS qk fun w l' h=>?_
  obtain⟨bc,ce,bt,bE,_⟩:=(aO.frame h.le h.same).app (by_:=1) (x:=w) (xs:=dS (k8 v.num).toNat) h.contents (by simp[b8]) (by omega) (by omega) (by rw[aD]; simp only[List.length_cons,List.length_nil]; omega);simp[bt];refine dM.cM ?_;simp;exact a8 _ _ (by rw[mZ]; exact bE)
 ·have a1:¬ (u v.kind:Int)=1:=fun h=>cN ((hh v.kind).1 h)
  by_cases dm:v.kind=2#8
  ·have b3:(u v.kind:Int)=2:=(j7 v.kind).2 dm;have mZ:hH v=v.kind::mv v.bits 8:=by unfold hH; rw[if_neg cN,if_pos dm]
   have ag:=si l (.cells 4 (d4 v)) v.kind;simp only[bF,b3] at ag;simp[d4];refine bB dU rfl ?_;simp[jr,b3];refine c0 8 (acS l v l.length) ?_ ⟨by simp,by simp,_,by simp,ag⟩;rintro k ah l1 aF ⟨aY,cx,w,bq,eI⟩;have aG:l1[l.length]? = some (.cells 4 (d4 v)) :=by rw[eI.same l.length (by simp)]; simp
   obtain⟨ah,rfl⟩:=k5 aY bq cx;clear aY bq cx;unfold V9;by_cases g1:k=8
   ·subst g1;rw[<-mZ] at eI;simp;exact a8 _ _ (eI.base (by simp) fun b aj=>List.getElem?_append_left aj)
   ·obtain⟨m,hm⟩:∃ m,m+k=7:=⟨7 - k,by omega⟩
    obtain⟨n,aH⟩:∃ n,n=8*m:=⟨_,rfl⟩
    have em:8*(7 - (k:Int))=(n:Int) :=by omega
    have Hn:IntKind.i64.wrap ((n:Int) - 8)=(n:Int) - 8:=by rw[IntKind.wrap_i64]; omega
    have mi:cn .shr .u64 (u v.bits) .i64 (n:Int)=some (.int .u64 (u (v.bits >>> n))) :=sP v.bits .i64 n;have sC:=Bb v.bits m;rw[<-aH] at sC;have bw:(v.kind::mv v.bits k).length<=1000000000:=by simp[mv]; omega
    obtain⟨w',l',bt,bE⟩:=cl.push eI (ke v.bits.toNat m) bw;rw[em];simp[d4] at aG;simp[aG,mi,sC,bt];refine dM.cM ?_;simp[Hn];exact⟨by omega,by simp,by simp; omega,w',by simp,by rw[OK,show 7 - k=m by omega]; exact bE⟩
  ·have b3:¬ (u v.kind:Int)=2:=fun h=>dm ((j7 v.kind).1 h)
   have dD:(u v.kind:Int)=3:=(ni v.kind).2 (akw dP cN dm);have mZ:hH v=[v.kind]++hG (eX v.text) :=by unfold hH; rw[if_neg cN,if_neg dm]; rfl
   have jX:(hG (eX v.text)).length<=20000:=by
    have:=g5 (eX v.text).length;unfold hG;rw[List.length_append];have:=ol v.text;omega
   simp only[bF,dD] at aO;simp[d4];refine bB dU rfl ?_;simp[jr,dD,al];refine acv (some (eX v.text)) (by simpa [ol] using aW) (by simp[dj]) (by simp) (fun l' _ _=>by simp[dj]) fun w l' h=>?_
   obtain⟨bc,ce,bt,bE,_⟩:=(aO.frame h.le h.same).app (by_:=1) (x:=w) (xs:=hG (eX v.text)) h.contents (by simp[b8]) (by omega) (by omega) (by rw[aD]; simp only[List.length_cons,List.length_nil]; omega);simp[bt];refine dM.cM ?_;simp;exact a8 _ _ (by rw[mZ]; exact bE)
structure bS where
 gI:D
 bO:fS
 hF:Q
 act:Act
 e:D
 s:D
def bz (o:bS) :List ae:=[bA o.gI,bl o.bO,du o.hF,bF o.act.kind,.str o.act.key,bF o.act.val.kind,.int .i64 o.act.val.num,du o.act.val.bits,.str o.act.val.text,bA o.e,bA o.s]
structure kD (o:bS) :Prop where
 ids:ik o.bO
 len:o.bO.l.length<=1000000
 val:Kg o.act.val
 key:o.act.key.length<=10000
def rC (o:bS) :Bool:=fk o.gI&&(decide (o.hF.toNat<=1000000000000)&&(iO o.act&&(hO o.e&&hO o.s)))
def fV (o:bS) :Int:=if 4<o.bO.l.length then 4 else if eV o.bO.l then (if rC o then 0 else 8) else 32
theorem nD (o:bS) :bV (bz o)=true:=by
 have:=hM o.bO;simp[bz,bV,ae.closed,this]
theorem ano (o:bS) (az:kD o) :bT Tryz.prog GS 31 [.aV (bz o)] (.int .i64 (fV o)) :=by
 refine cd Tryz.checked.mixed b2 ?_;apply bH QI ZM;unfold Gj L8 fV;have dZ:=hM o.bO;have bw:db (.ao 32) (bl o.bO)=some (.int .i64 o.bO.l.length) :=by simp[bl]
 have hR:(bl o.bO).cells=some [bl o.bO] :=by cases o.bO<;>rfl
 obtain⟨p,aG⟩:∃ p,p=bl o.bO:=⟨_,rfl⟩
 by_cases h1:4<o.bO.l.length
 ·have er:(4:Int)<(o.bO.l.length:Int) :=by omega
  rw[if_pos h1];simp[bz,bw,er];exact a7 rfl rfl
 ·have er:¬ (4:Int)<(o.bO.l.length:Int) :=by omega
  rw[if_neg h1];simp[bz,bw,er];refine bB (aaX o.bO az.ids az.len) (by simp[bV,dZ]) ?_;cases ag:eV o.bO.l with
  | false=>
   simp;exact a7 rfl rfl
  | true=>
   simp;refine bB (aa6 o.gI) rfl ?_;unfold rC;cases aq:fk o.gI with
   | false=>
    simp;exact a7 rfl rfl
   | true=>
    have cI:((1000000000000:Int)<u o.hF)<->¬ o.hF.toNat<=1000000000000:=by unfold u; omega
    by_cases aK:o.hF.toNat<=1000000000000
    ·have wK:¬ ((1000000000000:Int)<u o.hF) :=fun h=>cI.1 h aK
     simp[aK,wK];refine bB (anL o.act) rfl ?_;cases bg:iO o.act with
     | false=>
      simp[jr];exact a7 rfl rfl
     | true=>
      simp[jr];refine bB (BC o.e) rfl ?_;cases bL:hO o.e with
      | false=>
       simp;exact a7 rfl rfl
      | true=>
       simp;refine bB (BC o.s) rfl ?_;cases et:hO o.s with
       | false=>
        simp;exact a7 rfl rfl
       | true=>
        simp;exact a7 (by rw[if_pos aK]) rfl
    ·have wK:(1000000000000:Int)<u o.hF:=cI.2 aK;simp[aK,wK];exact a7 rfl rfl
def opHead (o:bS) :List B:=111#8::dS o.gI.toNat
def ja (o:bS) :List B:=
 opHead o++pj o.bO.l++dS o.hF.toNat++[o.act.kind]++(if o.act.kind=1#8 then [] else hG (eX o.act.key))++(if o.act.kind=4#8 then hH o.act.val else [])
theorem zZ {l:List (List B)} (h:∀ x∈l,x.length=32) :(pj l).length<=9+l.length*32:=by
 have:=g5 l.length;have ag:=Js h;unfold pj;rw[List.length_append];omega
theorem x0 (s:List B) :(hG s).length<=9+s.length:=by
 have:=g5 s.length;unfold hG;rw[List.length_append];omega
theorem AM (v:hj) :(hH v).length<=20+v.text.length:=by
 have h1:=g5 (k8 v.num).toNat
 have ag:=x0 (eX v.text);have aq:=ol v.text;unfold hH;simp only[List.length_cons];split
 ·omega
 ·split
  ·simp[mv]; omega
  ·omega
theorem aaY (o:bS) (az:kD o) (rO:o.bO.l.length<=1000) {l:av} {K:ae->av->Prop} (a8:∀ w l',cl 1 b8 l l' w (ja o) false->K w l') :
  dp Tryz.prog GS 101 [.aV (bz o)] l (c:=⟨K⟩) :=by
 apply bH O5 Yc;unfold ES KJ;have aD:cQ=140737488355328:=rfl;have aO:=si l (.cells 11 (bz o)) 111#8;have IE:=g5 o.gI.toNat
 have ql:=g5 o.hF.toNat
 have gD:=zZ az.ids;have Ja:(BitVec.setWidth 64 o.gI).toNat=o.gI.toNat:=by rw[BitVec.toNat_setWidth]; exact Nat.mod_eq_of_lt (by have:=o.gI.isLt; omega)
 have aS:l.length<(l++[bv.cells 11 (bz o)]).length:=by simp
 have fy:(l++[bv.cells 11 (bz o)])[l.length]? = some (.cells 11 (bz o)) :=by simp
 simp[bz];refine t1 _ fun b5 l1 h1=>?_
 rw[Ja] at h1;obtain⟨w2,ce,bE,dK,_⟩:=(aO.frame h1.le h1.same).app (by_:=1) (x:=b5) (xs:=dS o.gI.toNat) h1.contents (by simp[b8]) (by omega) (by omega) (by rw[aD]; simp only[List.length_cons,List.length_nil]; omega);have qn:ce[l.length]? = some (.cells 11 (bz o)) :=by rw[dK.same _ aS]; exact fy
 have mS:l.length<ce.length:=by have:=dK.le; omega
 have o1:=qn;simp[bz] at o1;simp[bE];refine dM.cM ?_;simp[o1];refine anm o.bO az.ids rO fun d2 ek aq=>?_
 obtain⟨pE,pi,a4,lf,_⟩:=(dK.frame aq.le aq.same).app (by_:=1) (x:=d2) (xs:=pj o.bO.l) aq.contents (by simp[b8]) (by omega) (by omega) (by rw[aD]; simp only[List.length_append,List.length_cons,List.length_nil]; omega);have cE:ek[l.length]? = some (.cells 11 (bz o)) :=by rw[aq.same _ mS]; exact qn
 have CD:pi[l.length]? = some (.cells 11 (bz o)) :=by rw[lf.same _ aS]; exact fy
 have aiy:l.length<pi.length:=by have:=lf.le; omega
 have tx:=cE;have w6:=CD;simp[bz] at tx w6;simp[tx,a4];refine dM.cM ?_;simp[w6];refine t1 _ fun uu WC bg=>?_
 obtain⟨awV,akR,adl,OE,_⟩:=(lf.frame bg.le bg.same).app (by_:=1) (x:=uu) (xs:=dS o.hF.toNat) bg.contents (by simp[b8]) (by omega) (by omega) (by rw[aD]; simp only[List.length_append,List.length_cons,List.length_nil]; omega);have aiY:akR[l.length]? = some (.cells 11 (bz o)) :=by rw[OE.same _ aS]; exact fy
 have UP:=aiY;simp[bz] at UP;obtain⟨AN,WM,adm,rl⟩:=cl.push OE o.act.kind (by simp only[List.length_append,List.length_cons,List.length_nil]; omega);have aiZ:WM[l.length]? = some (.cells 11 (bz o)) :=by rw[rl.same _ aS]; exact fy
 have atc:l.length<WM.length:=by have:=rl.le; omega
 have IM:=aiZ;simp[bz] at IM;simp[adl];refine dM.cM ?_;simp[UP,adm];refine dM.cM ?_;obtain⟨M,lq⟩:∃ M,M=[111#8]++dS o.gI.toNat++pj o.bO.l++dS o.hF.toNat++[o.act.kind] :=⟨_,rfl⟩
 have ag0:M.length<=40000:=by rw[lq]; simp only[List.length_append,List.length_cons,List.length_nil]; omega
 rw[<-lq] at rl;have eu:ja o=M++(if o.act.kind=1#8 then [] else hG (eX o.act.key))++(if o.act.kind=4#8 then hH o.act.val else []) :=by rw[lq]; rfl
 have jX:=x0 (eX o.act.key);rw[ol] at jX;have Iv:=az.key;have jG:=AM o.act.val;have ajy:=az.val.2.2;have al:s3 (.str o.act.key)=some (.bW 1 ((eX o.act.key).map b8)) :=by
  show some (ae.bW 1 (o.act.key.map fun b=>[hL b]))=_;rw[DY]
 by_cases cN:o.act.kind=1#8
 ·have a1:(u o.act.kind:Int)=1:=(hh o.act.kind).2 cN;have iv:¬ o.act.kind=4#8:=by rw[cN]; decide
  rw[if_pos cN,if_neg iv,List.append_nil,List.append_nil] at eu;simp[IM,a1];exact a8 _ _ (by rw[eu]; exact rl.base (by simp) fun b aj=>List.getElem?_append_left aj)
 ·have a1:¬ (u o.act.kind:Int)=1:=fun h=>cN ((hh o.act.kind).1 h)
  rw[if_neg cN] at eu;simp[IM,a1,al];refine aaZ (some (eX o.act.key)) (by simpa [ol] using Iv) (by simp[dj]) (by simp) (fun l' _ _=>by simp[dj]) fun D8 j1 gd=>?_
  obtain⟨apN,JS,a9,sM,_⟩:=(rl.frame gd.le gd.same).app (by_:=1) (x:=D8) (xs:=hG (eX o.act.key)) gd.contents (by simp[b8]) (by omega) (by omega) (by rw[aD]; omega);have IP:JS[l.length]? = some (.cells 11 (bz o)) :=by rw[sM.same _ aS]; exact fy
  have vm:=IP;simp[bz] at vm;simp[a9];refine dM.cM ?_;simp only[Bool.false_and] at sM;by_cases iv:o.act.kind=4#8
  ·have lk:(u o.act.kind:Int)=4:=(uk o.act.kind).2 iv;rw[if_pos iv] at eu;simp[vm,lk];refine anw o.act.val az.val fun NR akE kk=>?_
   obtain⟨apM,akF,Eu,ED,_⟩:=(sM.frame kk.le kk.same).app (by_:=1) (x:=NR) (xs:=hH o.act.val) kk.contents (by simp[b8]) (by omega) (by omega) (by rw[aD]; simp only[List.length_append]; omega);simp[Eu];refine dM.cM ?_;simp;exact a8 _ _ (by rw[eu]; exact ED.base (by simp) fun b aj=>List.getElem?_append_left aj)
  ·have lk:¬ (u o.act.kind:Int)=4:=fun h=>iv ((uk o.act.kind).1 h)
   rw[if_neg iv,List.append_nil] at eu;simp[vm,lk];exact a8 _ _ (by rw[eu]; exact sM.base (by simp) fun b aj=>List.getElem?_append_left aj)
def hg (o:bS) :List B:=ja o++dS o.e.toNat++dS o.s.toNat
theorem XB (o:bS) (az:kD o) (rO:o.bO.l.length<=1000) :(ja o).length<=100000:=by
 have h1:=g5 o.gI.toNat
 have ag:=g5 o.hF.toNat
 have aq:=zZ az.ids;have aK:=x0 (eX o.act.key);rw[ol] at aK;have bg:=az.key;have bL:=AM o.act.val;have et:=az.val.2.2;have aY:(if o.act.kind=1#8 then [] else hG (eX o.act.key)).length<=10009:=by split<;>(try simp) ; omega
 have a6:(if o.act.kind=4#8 then hH o.act.val else []).length<=10020:=by split<;>(try simp) ; omega
 unfold ja opHead;simp only[List.length_append,List.length_cons,List.length_nil];omega
theorem anf (o:bS) (az:kD o) (rO:o.bO.l.length<=1000) {l:av} {K:ae->av->Prop} (a8:∀ w l',cl 1 b8 l l' w (hg o) false->K w l') :
  dp Tryz.prog GS 68 [.aV (bz o)] l (c:=⟨K⟩) :=by
 apply bH Rh aam;unfold GG Ms;have aD:cQ=140737488355328:=rfl;have b7:=g5 o.e.toNat
 have ql:=g5 o.s.toNat
 have jX:=XB o az rO;have jF:(BitVec.setWidth 64 o.e).toNat=o.e.toNat:=by rw[BitVec.toNat_setWidth]; exact Nat.mod_eq_of_lt (by have:=o.e.isLt; omega)
 have o6:(BitVec.setWidth 64 o.s).toNat=o.s.toNat:=by rw[BitVec.toNat_setWidth]; exact Nat.mod_eq_of_lt (by have:=o.s.isLt; omega)
 have aS:l.length<(l++[bv.cells 11 (bz o)]).length:=by simp
 have fy:(l++[bv.cells 11 (bz o)])[l.length]? = some (.cells 11 (bz o)) :=by simp
 simp[bz];refine aaY o az rO fun b5 l1 h1=>?_
 have qm:l1[l.length]? = some (.cells 11 (bz o)) :=by rw[h1.same _ aS]; exact fy
 have nT:l.length<l1.length:=by have:=h1.le; simp at this; omega
 have vk:=qm;simp[bz] at vk;simp[vk];refine t1 _ fun w2 ce ag=>?_
 rw[jF] at ag;obtain⟨d2,ek,a3,gu,_⟩:=(h1.frame ag.le ag.same).app (by_:=1) (x:=w2) (xs:=dS o.e.toNat) ag.contents (by simp[b8]) (by omega) (by omega) (by rw[aD]; omega);have qn:ce[l.length]? = some (.cells 11 (bz o)) :=by rw[ag.same _ nT]; exact qm
 have cE:ek[l.length]? = some (.cells 11 (bz o)) :=by rw[gu.same _ aS]; exact fy
 have o1:=qn;have tx:=cE;simp[bz] at o1 tx;simp[o1,a3];refine dM.cM ?_;simp[tx];refine t1 _ fun pE pi aK=>?_
 rw[o6] at aK;obtain⟨uu,WC,a5,we,_⟩:=(gu.frame aK.le aK.same).app (by_:=1) (x:=pE) (xs:=dS o.s.toNat) aK.contents (by simp[b8]) (by omega) (by omega) (by rw[aD]; simp only[List.length_append]; omega);simp[a5];refine dM.cM ?_;simp;exact a8 _ _ (we.base (by simp) fun b aj=>List.getElem?_append_left aj)
theorem ann (o:bS) (az:kD o) (rO:o.bO.l.length<=1000) :bT Tryz.prog GS 32 [.aV (bz o)] (ff (g6 (hg o))) :=by
 refine cd Tryz.checked.mixed b2 ?_;apply bH QJ ZN;unfold Gk L9;have b7:=g5 o.e.toNat
 have ql:=g5 o.s.toNat
 have jX:=XB o az rO;have e8:(g6 (hg o)).length=32:=ud _;simp[bz];refine anf o az rO fun b5 l1 h1=>?_
 have fy:l1[1]? = some (.cells 32 (rep 32 (.int .u8 0))) :=by rw[h1.same 1 (by simp)]; rfl
 simp;refine jc (MV (some (hg o)) (by simp[hg]; omega)) (.cons (h1.qU (fun _=>rfl) (some (hg o)) rfl rfl) .nil) (by simp[ae.flat,kg,ff,wC bF (fun _=>rfl)]) ?_;have vp:bU (rep 32 (.int .u8 0)) 0 ((g6 (hg o)).map bF)=(g6 (hg o)).map bF:=h3 (by rw[List.length_map,e8]; rfl);have ly:(l1.set 1 (bv.cells 32 ((g6 (hg o)).map bF)))[1]? = some (.cells 32 ((g6 (hg o)).map bF)) :=List.getElem?_set_self (fi fy);simp[fy,ff,e8,vp,ly,List.take_of_length_le];exact a7 rfl (by simp[ae.closed,kI bF (fun _=>rfl)])
theorem A6:∀ a b:List B,a.length=b.length->eO (a.map bF) (b.map bF)=decide (a=b)
 | [],[],_=>rfl
 | [],_::_,h=>by simp at h
 | _::_,[],h=>by simp at h
 | x::a,y::b,h=>by
  have aM:=A6 a b (by simpa using h);simp only[List.map_cons,eO,aM,ae.beq,decide_true,Bool.true_and];by_cases h1:x=y
  ·by_cases ag:a=b<;>simp[h1,ag]
  ·have:¬ u x=u y:=fun h=>h1 ((q5 x y).1 h)
   simp[h1]
theorem xE:∀ a:List B,hf (List.replicate a.length (.i .u8)) (a.map bF)=true
 | []=>rfl
 | x::a=>by
  rw[List.length_cons,List.replicate_succ,List.map_cons];simp only[hf,xE a,D1,decide_true,Bool.and_self]
theorem VM:qC Tryz.prog 20 71=some (List.replicate 32 (.i .u8)) :=by kernel_rfl
theorem Jp {a b:List B} (aI:a.length=32) (aj:b.length=32) :fw Tryz.prog .eql 71 (.aV (bb a)) (.aV (bb b))=some (.bool (decide (a=b))) :=by
 unfold bb;rw[EI VM (by kernel_rfl) (by kernel_rfl) (by have:=xE a; rwa [aI] at this) (by have:=xE b; rwa [aj] at this),A6 a b (by omega)]
theorem Jq {a b:List B} (aI:a.length=32) (aj:b.length=32) :fw Tryz.prog .neq 71 (.aV (bb a)) (.aV (bb b))=some (.bool (!decide (a=b))) :=by
 unfold bb;rw[OQ VM (by kernel_rfl) (by kernel_rfl) (by have:=xE a; rwa [aI] at this) (by have:=xE b; rwa [aj] at this),A6 a b (by omega)]
theorem alD (s:fS) :fw Tryz.prog .eql 26 (cO 32 bb s) .aZ=some (.bool s.isNone) :=OP (e:=71) (by kernel_rfl) 32 bb s
theorem alQ (l:av) :cl 32 bb l (l++[.cells 0 []]) (.ao 32 l.length 0 0 0 0) ([] :List (List B)) false:=
 ⟨l.length,.ao l.length 0 0 0 [] [] (by simp) rfl rfl (by simp) (Nat.le_refl _) (by omega) rfl,by simp,fun b aj=>List.getElem?_append_left aj,.inr (Nat.le_refl _),rfl⟩
theorem ajH (s:fS) (az:ik s) (au:s.l.length<=1000000) {l:av} {K:ae->av->Prop} (a8:∀ v l',cl 32 bb l l' v s.l s.isNone->K v l') :
  dp Tryz.prog GS 150 [bl s] l (c:=⟨K⟩) :=by
 apply bH PM YR;unfold Fr Lh;have aD:cQ=140737488355328:=rfl;cases s with
 | none=>
  simp[bl];exact a8 _ _ cl.nil
 | some a=>
  simp at au;obtain⟨bc,l',bt,bE,_⟩:=(alQ l).app (by_:=32) (x:=cO 32 bb (some a)) (xs:=a) (Bq _ 32 bb (some a)) (fun y aP=>dr (az y aP)) (by omega) (by omega) (by rw[aD]; simp; omega);simp[bl,alD,bt];refine dM.cM ?_;simp;exact a8 _ _ (by simpa using bE)
def nG (l:List (List B)) (m:Nat) :List (List B) :=(List.range m).flatMap fun k=>if k=0\/cb l k≠cb l (k - 1) then [cb l k] else []
def pZ (l:List (List B)) :List (List B) :=nG l l.length
theorem yL (l:List (List B)) (m:Nat) :nG l (m+1)=nG l m++(if m=0\/cb l m≠cb l (m - 1) then [cb l m] else []) :=by
 unfold nG; rw[List.range_succ,List.flatMap_append]; simp
theorem Sf (l:List (List B)) :∀ m,(nG l m).length<=m
 | 0=>by simp[nG]
 | m+1=>by
  have:=Sf l m;rw[yL,List.length_append];split<;>simp<;>omega
theorem yK {l:List (List B)}:∀ {m},m<=l.length->(∀ k,1<=k->k<m->cb l k≠cb l (k - 1))->nG l m=l.take m
 | 0,_,_=>by simp[nG]
 | m+1,hm,h=>by
  rw[yL,yK (by omega) (fun k h1 ag=>h k h1 (by omega)),List.take_add_one,if_pos (by
   by_cases aO:m=0
   ·exact .inl aO
   ·exact .inr (h m (by omega) (by omega)))]
  congr 1;unfold cb;rw[List.getD_eq_getElem?_getD,List.getElem?_eq_getElem (by omega)];rfl
theorem Sg {l:List (List B)} {k:Nat} (h1:1<=k) (aw:cb l k=cb l (k - 1)) :∀ {m},k<m->(nG l m).length<m
 | 0,h=>by omega
 | m+1,h=>by
  rw[yL,List.length_append];by_cases aF:k=m
  ·subst aF;have:=Sf l k;rw[if_neg (fun h=>h.elim (fun aO=>by omega) (fun ag=>ag aw))];simp; omega
  ·have:=Sg h1 aw (m:=m) (by omega);split<;>simp<;>omega
theorem afu {l:List (List B)} (au:vQ l=true) :((pZ l).length=l.length)<->eV l=true:=by
 unfold vQ at au;rw[decide_eq_true_eq] at au;unfold eV pZ;rw[decide_eq_true_eq];constructor
 ·intro h k aF h1;have ag:=au k aF h1;have aq:cb l k≠cb l (k - 1) :=fun aw=>by
   have:=Sg h1 aw aF;omega
  have aK:=Bp (cb l k) (cb l (k - 1));have bg:cG (cb l (k - 1)) (cb l k)≠0:=fun aO=>aq (Bo aO).symm
  omega
 ·intro h;rw[yK (Nat.le_refl _) (fun k h1 ag aw=>by
   have:=h k ag h1;rw[<-aw,rr] at this;omega),List.take_length]
theorem CZ {a:List (List B)} {k:Nat} (h:k<a.length) :(a.map bb)[k]? = some (bb (cb a k)) :=by
 rw[List.getElem?_map];unfold cb;rw[List.getD_eq_getElem?_getD,List.getElem?_eq_getElem h];rfl
theorem CY {a:List (List B)} {k:Nat} (h:k<a.length) :cb a k∈a:=by
 unfold cb;rw[List.getD_eq_getElem?_getD,List.getElem?_eq_getElem h];exact List.getElem_mem h
structure acW (l:av) (v:ae) (xs:List (List B)) (k:Nat) (ah:bj) (l1:av) :Prop where
 cz:ah 0=v
 bi:ah 3=.int .i64 ((k+1:Nat) :Int)
 ar:l1=l
 au:∀ j,1<=j->j<k+1->cb xs j≠cb xs (j - 1)
structure acV (l:av) (v dt:ae) (j:Nat) (xs:List (List B)) (m i:Nat) (ah:bj) (ce:av) :Prop where
 cz:ah 0=v
 bI:ah 4=dt
 bq:ah 5=.int .i64 ((i+1:Nat) :Int)
 ex:∃ (k:Nat) (bd:List (List B)),ah 3=.int .i64 (k:Int)/\b0 32 ce v j (bd.map bb)/\bd.length=xs.length/\(∀ y∈bd,y.length=32)/\bd.take k=nG xs (m+i+1)/\k<=m+i/\(∀ t,m+i<=t->cb bd t=cb xs t)/\ce.length=l.length/\∀ b,b≠j->ce[b]? = l[b]?
theorem afs {l:av} {v:ae} {j k:Nat} {bd:List (List B)} (h:b0 32 l v j (bd.map bb)) (aF:k<bd.length) :
  ∃ v3 ek r,fu (.ao 32) v (some (.int .i64 (k:Int))) none none=some v3/\pW (rep 32 (.int .u8 0)) l v3=some ek/\fu (.ao 32) v none (some (.int .i64 (k:Int))) none=some r ∧
   b0 32 ek r j ((bd.take k).map bb)/\cS r=false/\ek.length=l.length/\∀ b,b≠j->ek[b]? = l[b]?:=by
 generalize aw:bd.map bb=es at h;cases h with
 | nil j=>rw[List.map_eq_nil_iff] at aw; subst aw; simp at aF
 | ao j n cap sz cs es aj ar aH aC al cX cH=>
  subst aw;have qj:bd.length=n:=by simpa using aH
  have fZ:h8 (.int .i64 (k:Int)) n=some k:=by
   show (if 0<=(k:Int)/\(k:Int)<=(n:Int) then some (k:Int).toNat else none)=some k;rw[if_pos ⟨by omega,by omega⟩]; simp
  have fz:h8 (.int .i64 (k:Int)) cap=some k:=by
   show (if 0<=(k:Int)/\(k:Int)<=(cap:Int) then some (k:Int).toNat else none)=some k;rw[if_pos ⟨by omega,by omega⟩]; simp
  have dV:fH n cap (some (.int .i64 (k:Int))) none none=some (k,n,cap) :=by
   show (match h8 (.int .i64 (k:Int)) n with | none=>none | some l=>some (l,n,cap))=_;rw[fZ]
  have dK:fH n cap none (some (.int .i64 (k:Int))) none=some (0,k,cap) :=by
   show (match h8 (.int .i64 (k:Int)) cap with | none=>none | some h=>some (0,h,cap))=_;rw[fz]
  have dU:¬ cap=k:=by omega
  have wQ:¬ cap=0:=by omega
  have eD:j<l.length:=fi aj;have fr:k*32<=n*32:=Nat.mul_le_mul_right _ (by omega);have jC:n*32<=cap*32:=Nat.mul_le_mul_right _ al;have n1:(dd (rep 32 (.int .u8 0)) (n - k)).length=(n - k)*32:=by rw[xR]; rfl
  have aiz:k*32+(n - k)*32=n*32:=by rw[<-Nat.add_mul]; congr 1; omega
  refine⟨.ao 32 j (k*32) (n - k) (cap - k) sz,l.set j (.cells sz (bU cs (k*32) (dd (rep 32 (.int .u8 0)) (n - k)))),.ao 32 j 0 k cap sz,?_,?_,?_,?_,rfl,by simp,fun b jw=>by rw[List.getElem?_set_ne (fun h=>jw h.symm)]⟩
  ·rw[vP,dV]; simp[dU]
  ·unfold pW;simp only;rw[if_neg (by omega)];simp[aj]
  ·rw[vP,dK]; simp[wQ]
  ·refine .ao j k cap sz _ _ (List.getElem?_set_self eD) (by rw[pB (by omega),n1]; omega) (by simp; omega) (fun e aw=>?_) (by omega) cX ?_
   ·obtain⟨y,aP,rfl⟩:=List.mem_map.1 aw;exact aC _ (List.mem_map_of_mem (List.mem_of_mem_take aP))
   ·unfold bU;rw[List.append_assoc,List.take_append_of_le_length (by rw[List.length_take]; omega),List.take_take,Nat.min_self];have a1:cs.take (k*32)=(cs.take (n*32)).take (k*32) :=by rw[List.take_take,Nat.min_eq_left fr]
    have b3:bd.map bb=(bd.take k).map bb++(bd.drop k).map bb:=by rw[<-List.map_append,List.take_append_drop]
    have dD:((bd.take k).map bb).flatten.length=k*32:=by
     rw[lo (z:=32) (fun e aw=>by obtain⟨y,aP,rfl⟩:=List.mem_map.1 aw; exact aC _ (List.mem_map_of_mem (List.mem_of_mem_take aP)))];simp; omega
    rw[a1,cH,b3,List.flatten_append,List.take_append_of_le_length (by omega),List.take_of_length_le (by omega)]
theorem XN {bd:List (List B)} (aC:∀ y∈bd,y.length=32) (k:Nat) (aF:k<=bd.length) {n:Nat} (aH:bd.length=n) {cs:List ae} (cH:cs.take (n*32)=(bd.map bb).flatten) (ar:n*32<=cs.length) :
  cs.take (k*32)=((bd.take k).map bb).flatten/\(cs.drop (k*32)).take (n*32 - k*32)=((bd.drop k).map bb).flatten:=by
 have fr:k*32<=n*32:=Nat.mul_le_mul_right _ (by omega);have b3:bd.map bb=(bd.take k).map bb++(bd.drop k).map bb:=by rw[<-List.map_append,List.take_append_drop]
 have dD:((bd.take k).map bb).flatten.length=k*32:=by
  rw[lo (z:=32) (fun e aw=>by obtain⟨y,aP,rfl⟩:=List.mem_map.1 aw; exact dr (aC _ (List.mem_of_mem_take aP)))];simp; omega
 have a1:cs.take (k*32)=(cs.take (n*32)).take (k*32) :=by rw[List.take_take,Nat.min_eq_left fr]
 constructor
 ·rw[a1,cH,b3,List.flatten_append,List.take_append_of_le_length (by omega),List.take_of_length_le (by omega)]
 ·rw[<-List.drop_take,cH,b3,List.flatten_append,List.drop_append_of_le_length (by omega),List.drop_of_length_le (by omega),List.nil_append]
theorem aoi {l:av} {v:ae} {j k:Nat} {bd:List (List B)} {x:List B} (h:b0 32 l v j (bd.map bb)) (aC:∀ y∈bd,y.length=32) (aF:k<bd.length) (ak:x.length=32) :
  ∃ p l',cU (.ao 32) v (.int .i64 (k:Int))=some p/\je 32 l p (.aV (bb x))=some l'/\b0 32 l' v j ((bd.set k x).map bb)/\l'.length=l.length/\∀ b,b≠j->l'[b]? = l[b]?:=by
 generalize aw:bd.map bb=es at h;cases h with
 | nil j=>rw[List.map_eq_nil_iff] at aw; subst aw; simp at aF
 | ao j n cap sz cs es aj ar aH jZ al cX cH=>
  subst aw;have qj:bd.length=n:=by simpa using aH
  have eD:j<l.length:=fi aj;have bJ:=dr ak;have fr:(k+1)*32<=n*32:=Nat.mul_le_mul_right _ (by omega);have jC:n*32<=cap*32:=Nat.mul_le_mul_right _ al;have au:(k+1)*32=k*32+32:=by rw[Nat.succ_mul]
  obtain⟨h9,_⟩:=XN aC k (by omega) qj cH (by omega);obtain⟨_,p2⟩:=XN aC (k+1) (by omega) qj cH (by omega);refine⟨.ptr j (k*32) sz,l.set j (.cells sz (bU cs (k*32) (bb x))),?_,?_,?_,by simp,fun b jw=>by rw[List.getElem?_set_ne (fun h=>jw h.symm)]⟩
  ·simp[cU]; omega
  ·unfold je;simp[aj,ae.cells,bJ];omega
  ·refine .ao j n cap sz _ _ (List.getElem?_set_self eD) (by rw[pB (by omega),bJ]; omega) (by simp; omega) (fun e aw=>?_) al cX ?_
   ·obtain⟨y,aP,rfl⟩:=List.mem_map.1 aw;rcases List.mem_or_eq_of_mem_set aP with h | h
    ·exact dr (aC _ h)
    ·rw[h]; exact bJ
   ·have ly:bd.set k x=bd.take k++(x::bd.drop (k+1)) :=by rw[List.set_eq_take_append_cons_drop,if_pos aF]
    rw[ly,List.map_append,List.map_cons,List.flatten_append,List.flatten_cons,<-h9,<-p2];unfold bU;have q0:(cs.take (k*32)).length=k*32:=by rw[List.length_take]; omega
    have me:(cs.take (k*32)).take (n*32)=cs.take (k*32) :=List.take_of_length_le (by rw[q0]; omega);have nh:(bb x).take (n*32 - k*32)=bb x:=List.take_of_length_le (by rw[bJ]; omega);rw[List.append_assoc,bJ,<-au,List.take_append,q0,me,List.take_append,nh,bJ,show n*32 - k*32 - 32=n*32 - (k+1)*32 by omega]
theorem afj {eB l:av} {v:ae} {xs:List (List B)} {fg:Bool} (h:cl 32 bb eB l v xs fg) (ak:∀ x∈xs,x.length=32) (aH:xs.length<=1000000) {K:ae->av->Prop} (a8:∀ r l',cl 32 bb eB l' r (pZ xs) fg->K r l') :
  dp Tryz.prog GS 149 [v] l (c:=⟨K⟩) :=by
 apply bH PL YQ;unfold Fq Lf;have bw:=h.len;by_cases ag:xs.length<2
 ·have fX:(xs.length:Int)<2:=by omega
  have qd:pZ xs=xs:=by
   unfold pZ;rw[yK (Nat.le_refl _) (fun k h1 aq=>by omega),List.take_length]
  simp[bw,fX];exact a8 _ _ (by rw[qd]; exact h)
 ·have fX:¬ (xs.length:Int)<2:=by omega
  simp[bw,fX];refine c0 (xs.length - 1) (acW l v xs) ?_ ⟨by simp,by simp,rfl,fun j h1 aq=>by omega⟩;rintro k ah l1 aF ⟨cz,bi,rfl,au⟩;obtain⟨ah,rfl⟩:=ov cz bi;clear cz bi;obtain⟨m,hm⟩:∃ m,m=k+1:=⟨_,rfl⟩
  rw[<-hm] at au ⊢;unfold V7;by_cases aS:m<xs.length
  ·have a1:IntKind.i64.wrap ((m:Int) - 1)=(k:Int) :=by rw[IntKind.wrap_i64]; omega
   have b3:IntKind.i64.wrap ((m:Int)+1)=((m+1:Nat) :Int) :=by rw[IntKind.wrap_i64]; omega
   have hU:(m:Int)<(xs.length:Int) :=by omega
   obtain⟨j,az,kU⟩:=h;obtain⟨pv,cN,vC,bt,bE,a3,a4⟩:=az.q.get (k:=.i64) (CZ aS);obtain⟨Dt,dm,mb,dV,dK,gu,lf⟩:=az.q.get (k:=.i64) (CZ (a:=xs) (k:=k) (by omega));have jU:=Jp (ak _ (CY aS)) (ak _ (CY (a:=xs) (k:=k) (by omega)));obtain⟨X,ei⟩:∃ X,X=cb xs m:=⟨_,rfl⟩
   obtain⟨Y,gf⟩:∃ Y,Y=cb xs k:=⟨_,rfl⟩
   rw[<-ei] at a4 jU;rw[<-gf] at lf jU;by_cases aw:X=Y
   ·have oW:fw Tryz.prog .eql 71 (.aV (bb X)) (.aV (bb Y))=some (.bool true) :=by rw[jU,decide_eq_true aw]
    have ax:cS v=false:=by
     cases tw:cS v with
     | false=>rfl
     | true=>
      have:=iC.1 tw;subst this;have:=az.q.xA;rw[List.map_eq_nil_iff] at this;rw[this] at aS; simp at aS
    obtain⟨dt,dx,lK,_⟩:=az.q.from ax (k:=.i64) (i:=m) (by simp; omega);have aO:nG xs m=xs.take m:=yK (by omega) au;have h1:nG xs (m+1)=xs.take m:=by rw[yL,if_neg (fun h=>h.elim (fun aO=>by omega) (fun ag=>ag (by rw[<-ei,show m - 1=k by omega,<-gf]; exact aw))),aO,List.append_nil]
    simp[bw,hU,a1,bt,bE,a3,a4,dV,dK,gu,lf,oW,dx];refine c0 (xs.length - m - 1) (acV l1 v dt j xs m) ?_ ⟨by simp,by simp,by simp,m,xs,by simp,az,rfl,ak,h1.symm,by omega,fun t _=>rfl,rfl,fun b _=>rfl⟩;rintro i ah ce aA ⟨cz,bI,bq,q,bd,bi,bp,eJ,qu,gF,xa,mW,vf,jz⟩;obtain⟨ah,rfl⟩:=iJ cz bi bI bq;clear cz bi bI bq;obtain⟨c4,Ip⟩:∃ c4,c4=i+1:=⟨_,rfl⟩
    rw[<-Ip];unfold V6;obtain⟨apx,AA,vN,_⟩:=bp.q.from ax (k:=.i64) (i:=m) (by simp; omega);rw[dx] at AA;obtain rfl:=Option.some.inj AA;have gC:=vN.len;rw[List.length_drop,List.length_map,eJ] at gC;by_cases mS:c4<xs.length - m
    ·have rP:(c4:Int)<((xs.length - m:Nat) :Int) :=by omega
     have b5:IntKind.i64.wrap ((c4:Int) - 1)=(i:Int) :=by rw[IntKind.wrap_i64]; omega
     have w2:IntKind.i64.wrap ((c4:Int)+1)=((c4+1:Nat) :Int) :=by rw[IntKind.wrap_i64]; omega
     have d2:IntKind.i64.wrap ((q:Int)+1)=((q+1:Nat) :Int) :=by rw[IntKind.wrap_i64]; omega
     obtain⟨amb,jn,oc,h4,j8,AQ,mi⟩:=vN.get (k:=.i64) (i:=c4) (e:=bb (cb bd (m+c4))) (by rw[List.getElem?_drop]; exact CZ (by omega));obtain⟨amc,iv,od,jj,lP,acJ,vZ⟩:=vN.get (k:=.i64) (i:=i) (e:=bb (cb bd (m+i))) (by rw[List.getElem?_drop]; exact CZ (by omega));have o8:=qu _ (CY (a:=bd) (k:=m+c4) (by omega));have jZ:=qu _ (CY (a:=bd) (k:=m+i) (by omega));have b7:=Jq o8 jZ;have rU:=mW (m+c4) (by omega);have rV:=mW (m+i) (by omega);have bD:=yL xs (m+c4);rw[show m+c4 - 1=m+i by omega] at bD;obtain⟨kG,H3⟩:∃ X,X=cb bd (m+c4) :=⟨_,rfl⟩
     obtain⟨uC,y5⟩:∃ Y,Y=cb bd (m+i) :=⟨_,rfl⟩
     rw[<-H3] at mi b7 o8 rU;rw[<-y5] at vZ b7 rV;rw[<-rU,<-rV] at bD;rw[show m+i+1=m+c4 by omega] at gF;by_cases mK:kG=uC
     ·have rT:fw Tryz.prog .neq 71 (.aV (bb kG)) (.aV (bb uC))=some (.bool false) :=by rw[b7]; simp[mK]
      rw[if_neg (fun h=>h.elim (fun aO=>by omega) (fun ag=>ag mK)),List.append_nil] at bD;simp[gC,rP,b5,h4,j8,AQ,mi,jj,lP,acJ,vZ,rT,w2];exact⟨by omega,by simp,by simp,by simp,q,bd,by simp,bp,eJ,qu,by rw[bD]; exact gF,by omega,fun t aW=>mW t (by omega),vf,jz⟩
     ·have rT:fw Tryz.prog .neq 71 (.aV (bb kG)) (.aV (bb uC))=some (.bool true) :=by rw[b7]; simp[mK]
      rw[if_pos (.inr mK)] at bD;obtain⟨Ko,ek,k7,h5,z3,z4,z5⟩:=aoi bp qu (k:=q) (x:=kG) (by omega) o8;simp[gC,rP,b5,h4,j8,AQ,mi,jj,lP,acJ,vZ,rT,w2,d2,k7,h5];have NB:(bd.take q).length=q:=by rw[List.length_take]; omega
      have lz:(bd.set q kG).take (q+1)=bd.take q++[kG] :=by
       rw[List.set_eq_take_append_cons_drop,if_pos (by omega),List.take_append,NB,List.take_of_length_le (by omega),show q+1 - q=1 by omega]; simp
      refine⟨by omega,by simp,by simp,by simp,q+1,bd.set q kG,by simp,z3,by simp[eJ],fun y aP=>?_,by rw[lz,bD,gF],by omega,fun t aW=>?_,by omega,fun b aj=>(z5 b aj).trans (jz b aj)⟩
      ·rcases List.mem_or_eq_of_mem_set aP with h | h
       ·exact qu _ h
       ·rw[h]; exact o8
      ·have:=mW t (by omega);unfold cb at this ⊢;rw[List.getD_eq_getElem?_getD,List.getElem?_set_ne (by omega),<-List.getD_eq_getElem?_getD];exact this
    ·have rP:¬ (c4:Int)<((xs.length - m:Nat) :Int) :=by omega
     obtain⟨v3,ek,r,k7,h5,z3,z4,z5,aqo,NZ⟩:=afs bp (k:=q) (by omega);simp[gC,rP,k7,h5,z3];obtain⟨aY,a6,bi,bI⟩:=kU;have zl:eB.length<=j:=bi.resolve_left (fun h=>by rw[h] at ax; cases ax);have ze:m+i+1=xs.length:=by omega
     rw[ze] at gF;refine a8 _ _ ⟨j,by unfold pZ; rw[<-gF]; exact z4,by omega,fun b aj=>?_,.inr zl,by rw[z5,<-bI,ax]⟩;rw[NZ b (by omega),jz b (by omega)];exact a6 b aj
   ·have oW:fw Tryz.prog .eql 71 (.aV (bb X)) (.aV (bb Y))=some (.bool false) :=by rw[jU,decide_eq_false aw]
    simp[bw,hU,a1,bt,bE,a3,a4,dV,dK,gu,lf,oW,b3];refine⟨by omega,by simp,by simp[hm],rfl,fun t h1 ag=>?_⟩;by_cases aW:t=m
    ·rw[aW,<-ei,show m - 1=k by omega,<-gf]; exact aw
    ·exact au t h1 (by omega)
  ·have hU:¬ (m:Int)<(xs.length:Int) :=by omega
   have qd:pZ xs=xs:=by
    unfold pZ;rw[yK (Nat.le_refl _) (fun k h1 aq=>au k h1 (by omega)),List.take_length]
   simp[bw,hU];exact a8 _ _ (by rw[qd]; exact h)
theorem anY {l:List (List B)} (h:eV l=true) :vQ l=true:=by
 unfold eV at h;rw[decide_eq_true_eq] at h;exact abG fun k aF h1=>by
  have:=h k aF h1;have aK:=Bp (cb l k) (cb l (k - 1));omega
theorem D9 (o:bS) (az:kD o) :bT Tryz.prog GS 107 [.aV (bz o)] (.int .i64 (fV o)) :=by
 refine cd Tryz.checked.mixed b2 ?_;apply bH Pc Yi;unfold EV KM fV;have dZ:=hM o.bO;have bw:db (.ao 32) (bl o.bO)=some (.int .i64 o.bO.l.length) :=by simp[bl]
 have hR:(bl o.bO).cells=some [bl o.bO] :=by cases o.bO<;>rfl
 by_cases h1:4<o.bO.l.length
 ·have er:(4:Int)<(o.bO.l.length:Int) :=by omega
  rw[if_pos h1];simp[bz,bw,er];exact a7 rfl rfl
 ·have er:¬ (4:Int)<(o.bO.l.length:Int) :=by omega
  rw[if_neg h1];simp[bz,bw,er];refine bB (akd o.bO az.ids az.len) (by simp[bV,dZ,ae.closed]) ?_;cases ag:vQ o.bO.l with
  | false=>
   have aq:eV o.bO.l=false:=by
    cases aq:eV o.bO.l with
    | false=>rfl
    | true=>rw[anY aq] at ag; cases ag
   simp[aq,bw];exact a7 rfl rfl
  | true=>
   simp[bw];refine ajH o.bO az.ids az.len fun fa l1 aY=>?_
   have ahm:l1[0]? = some (.cells 11 (bz o)) :=by rw[aY.same 0 (by simp)]; rfl
   have TD:=ahm;simp[bz] at TD;simp[TD];refine afj aY az.ids az.len fun dt ce a6=>?_
   have fy:ce[0]? = some (.cells 11 (bz o)) :=by rw[a6.same 0 (by simp)]; rfl
   have wP:=fy;simp[bz] at wP;have gC:=a6.len;have qd:=afu ag;cases aq:eV o.bO.l with
   | false=>
    have b7:¬ ((pZ o.bO.l).length:Int)=(o.bO.l.length:Int) :=fun h=>by
     have:=qd.1 (by omega);rw[aq] at this; cases this
    simp[gC,wP,bw,b7];exact a7 rfl rfl
   | true=>
    have heq:((pZ o.bO.l).length:Int)=(o.bO.l.length:Int) :=by have:=qd.2 aq; omega
    simp[gC,wP,bw,heq];refine bB (JB o.gI) rfl ?_;unfold rC;cases bg:fk o.gI with
    | false=>
     simp;exact a7 rfl rfl
    | true=>
     have cI:((1000000000000:Int)<u o.hF)<->¬ o.hF.toNat<=1000000000000:=by unfold u; omega
     by_cases bL:o.hF.toNat<=1000000000000
     ·have tb:¬ ((1000000000000:Int)<u o.hF) :=fun h=>cI.1 h bL
      have vh:((500000003:Int)<=max (u o.e:Int) (u o.s))<->¬ (hO o.e&&hO o.s)=true:=by
       unfold hO u;simp only[Bool.and_eq_true,decide_eq_true_eq];omega
      have Uy:sd (bA o.e) (bA o.s)=some (.int .u32 (max (u o.e:Int) (u o.s))) :=by
       show (if IntKind.u32=IntKind.u32 then some (ae.int .u32 (if (u o.e:Int)<u o.s then u o.s else u o.e)) else none)=_;rw[if_pos rfl];congr 2;split<;>omega
      cases et:(hO o.e&&hO o.s) with
      | false=>
       have y1:(500000003:Int)<=max (u o.e:Int) (u o.s) :=vh.2 (by rw[et]; simp);simp[wP,bL,tb,Uy,y1];exact a7 rfl rfl
      | true=>
       have y1:¬ (500000003:Int)<=max (u o.e:Int) (u o.s) :=fun h=>(vh.1 h) et
       simp[wP,bL,tb,Uy,y1];refine bB (RQ o.act) rfl ?_;cases gd:iO o.act with
       | false=>
        simp[jr];exact a7 rfl rfl
       | true=>
        simp[jr];exact a7 (by rw[if_pos bL]) rfl
     ·have tb:(1000000000000:Int)<u o.hF:=cI.2 bL;simp[wP,bL,tb];exact a7 rfl rfl
def kt (o:bS) :List B:=if fV o=0 then g6 (hg o) else List.replicate 32 0#8
theorem xH {o:bS} (h:fV o=0) :o.bO.l.length<=4:=by
 unfold fV at h;split at h
 ·cases h
 ·omega
theorem Ax {l:av} {b n:Nat} {f4:List ae} {k:Nat} {w:ae} {kd:IntKind} (aj:l[b]? = some (.cells n f4)) (aH:f4.length=n) (aF:f4[k]? = some w) :
  ∃ p cs o,cU (.ao 1) (.ao 1 b 0 n n n) (.int kd (k:Int))=some p/\d1 l p=some (cs,o)/\cs[o]? = some w:=by
 have aS:k<n:=by rw[<-aH]; exact (List.getElem?_eq_some_iff.1 aF).1
 refine⟨.ptr b (0+k*1) n,f4,0+k*1,?_,?_,by simpa using aF⟩
 ·simp only[cU,Int.toNat_natCast];rw[if_pos ⟨trivial,by omega,by omega⟩]
 ·simp only[d1,aj,if_true]
theorem agH {n:Nat} (aH:n<=1000000000) {l:av} {K:ae->av->Prop} (a8:∀ v l',cl 1 b8 l l' v ([] :List B) (decide (n=0))->K v l') :dp Tryz.prog GS 155 [.aZ,.int .i64 n] l (c:=⟨K⟩) :=by
 apply bH Fw Lm;unfold Be DB;have h1:¬((n:Int)<0) :=by omega
 have bx:IntKind.i64.wrap (n:Int)=n:=wrap_i64 (by omega) (by omega);have Jj:IntKind.i64.wrap (0:Int)=0:=rfl;by_cases aO:n=0
 ·subst aO;simp;exact a8 _ _ cl.nil
 have ag:(0:Int)<n:=by omega
 have aC:oF l 1 1 [.int .u8 0] .aZ (.int .i64 n)=some (.ao 1 l.length 0 n n (n*1),l++[.cells (n*1) (dd [.int .u8 0] n)]) :=by
  unfold oF hK;simp only[Int.toNat_natCast];have aD:cQ=140737488355328:=rfl;rw[if_pos ⟨by omega,by omega,by rw[aD]; omega⟩,if_neg aO,if_neg (by omega),if_pos (by rw[aD]; omega)]
 have au:fu (.ao 1) (.ao 1 l.length 0 n n (n*1)) none (some (.int .i64 0)) none=some (.ao 1 l.length 0 0 n (n*1)) :=by
  rw[vP,EM,if_pos ⟨by omega,by omega⟩];simp[aO]
 rw[Nat.mul_one] at aC au;have aq:0<n:=by omega
 simp[h1,ag,aq,bx,aC,Jj,au];refine a8 _ (l++[.cells n (dd [.int .u8 0] n)]) ⟨l.length,.ao _ 0 n n (dd [.int .u8 0] n) [] (by simp) (by rw[xR]; simp) rfl (by simp) (by omega) (by omega) rfl,by simp,fun b aj=>List.getElem?_append_left aj,.inr (Nat.le_refl _),?_⟩;simp[cS,aO]
def hw (bs:List (List B)) :List B:=bs.flatten
theorem SH {bs:List (List B)} {k:Nat} {s:List B} (h:bs[k]? = some s) :hw (bs.take (k+1))=hw (bs.take k)++s:=by
 unfold hw;rw[List.take_add_one,h]; simp
theorem SG (bs:List (List B)) (k:Nat) :(hw (bs.take k)).length<=(hw bs).length:=by
 conv=>rhs; rw[<-List.take_append_drop k bs]
 unfold hw;rw[List.flatten_append,List.length_append];omega
structure lc (l:av) (w:ae) (s:List B) :Prop where
 len:db (.ao 1) w=some (.int .i64 s.length)
 R8:∀ l',l.length<=l'.length->(∀ b,b<l.length->l'[b]? = l[b]?)->dj l' 1 w=some ((s.map b8).flatten,s.length)
theorem xC {l l1:av} {w:ae} {s:List B} {fg:Bool} (h:cl 1 b8 l l1 w s fg) :lc l1 w s:=⟨h.len,fun l' h1 ag=>(h.frame h1 ag).contents⟩
theorem lc.frame {l l1:av} {w:ae} {s:List B} (h:lc l w s) (ar:l.length<=l1.length) (au:∀ b,b<l.length->l1[b]? = l[b]?) :lc l1 w s:=
 ⟨h.len,fun l' h1 ag=>h.R8 l' (by omega) fun b aj=>by rw[ag b (by omega)]; exact au b aj⟩
theorem XO {l:av} {b:Nat} {x:B} (h:l[b]? = some (.cells 1 [bF x])) :lc l (.ao 1 b 0 1 1 1) [x] :=by
 have:=fi h;exact⟨rfl,fun l' h1 ag=>by have:=ag b this; rw[h] at this; simp[dj,this,b8]⟩
structure acU (l:av) (X:ae) (bs:List (List B)) (k:Nat) (ah:bj) (l1:av) :Prop where
 ki:ah 25=X
 kj:ah 26=.int .i64 bs.length
 wI:ah 27=.int .i64 k
 qJ:∃ v,ah 6=v/\cl 1 b8 l l1 v (hw (bs.take k)) (decide ((hw bs).length=0))
set_option maxHeartbeats 4000000 in
theorem R9 {l:av} {b n:Nat} {f4:List ae} {bs:List (List B)} (aj:l[b]? = some (.cells n f4)) (ajB:f4.length=n) (mI:bs.length=n)
  (aG:∀ (k:Nat) (w:ae) (s:List B),f4[k]? = some w->bs[k]? = some s->lc l w s) (ar:(hw bs).length<=1000000000) (vf:n<=1000000000)
  {K:ae->av->Prop} (a8:∀ v l',cl 1 b8 l l' v (hw bs) (decide ((hw bs).length=0))->K v l') :
  dp Tryz.prog GS 109 [.ao 1 b 0 n n n] l (c:=⟨K⟩) :=by
 apply bH EX KO;unfold Bd DA;have w0:=fi aj;have ei:∀ l',l.length<=l'.length->(∀ b,b<l.length->l'[b]? = l[b]?)->∀ k,k<n->∃ w s p cs o,f4[k]? = some w/\bs[k]? = some s/\lc l' w s/\cU (.ao 1) (.ao 1 b 0 n n n) (.int .i64 (k:Int))=some p/\d1 l' p=some (cs,o)/\cs[o]? = some w:=by
  intro l' h1 ag k aF;obtain⟨w,bx,_⟩:=cg (l:=f4) (k:=k) (by omega);obtain⟨s,au,_⟩:=cg (l:=bs) (k:=k) (by omega);obtain⟨p,cs,o,bt,bE,a3⟩:=Ax (kd:=.i64) (l:=l') (by rw[ag b w0]; exact aj) ajB bx;exact⟨w,s,p,cs,o,bx,au,(aG k w s bx au).frame h1 ag,bt,bE,a3⟩
 obtain⟨X,p8⟩:∃ X,X=ae.ao 1 b 0 n n n:=⟨_,rfl⟩
 have Ty:db (.ao 1) X=some (.int .i64 bs.length) :=by rw[p8,mI]; rfl
 rw[<-p8] at ei ⊢;simp[Ty];refine c0 n (fun k ah l1=>ah 0=X/\ah 9=X/\ah 10=.int .i64 bs.length/\ah 11=.int .i64 k/\ah 3=.int .i64 (hw (bs.take k)).length/\l1=l) ?_ ?_
 ·rintro k ah l1 aF ⟨cz,ib,eP,hx,bi,rfl⟩;obtain⟨ah,rfl⟩:=k6 cz bi ib eP hx;clear cz bi ib eP hx;unfold JQ;simp;by_cases h:k<bs.length
  ·obtain⟨w,s,p,cs,o,bx,au,IV,bt,bE,a3⟩:=ei l1 (Nat.le_refl _) (fun _ _=>rfl) k (by omega);have zg:=SH au;have dO:=SG bs (k+1);rw[zg,List.length_append] at dO;have lA:IntKind.i64.wrap (((hw (bs.take k)).length:Int)+s.length)=((hw (bs.take k)).length:Int)+s.length:=wrap_i64 (by omega) (by omega);have eC:IntKind.i64.wrap ((k:Int)+1)=k+1:=wrap_i64 (by omega) (by omega);have nV:¬(((hw (bs.take k)).length:Int)+s.length<0) :=by omega
   have gD:=IV.len;simp[h,bt,bE,a3,gD,lA,nV,eC,zg];omega
  ·have cY:k=bs.length:=by omega
   subst cY;rw[List.take_length];simp;refine agH ar ?_;intro v l az;simp[Ty];refine c0 bs.length (acU l1 X bs) ?_ ⟨by simp,by simp,by simp,v,by simp,by simpa [hw] using az⟩;rintro k ah ce aF ⟨ki,kj,wI,w,cx,az⟩;obtain⟨ah,rfl⟩:=iJ cx ki kj wI;clear cx ki kj wI;unfold JR;simp;by_cases h:k<bs.length
   ·obtain⟨y,s,p,cs,o,bx,au,IV,bt,bE,a3⟩:=ei ce az.le az.same k (by omega);have zg:=SH au;have dO:=SG bs (k+1);rw[zg,List.length_append] at dO;have eC:IntKind.i64.wrap ((k:Int)+1)=k+1:=wrap_i64 (by omega) (by omega);have aD:cQ=140737488355328:=rfl;obtain⟨bc,ek,dV,dK,gu⟩:=az.app (by_:=1) (x:=y) (xs:=s) (IV.R8 ce (Nat.le_refl _) fun _ _=>rfl) (by simp[b8]) (by omega) (by omega) (by rw[aD]; omega);simp[h,bt,bE,a3,dV];refine dM.cM ?_;simp[h,eC];refine⟨by simp,by simp,by simp,bc,by simp,?_⟩;rw[zg];have lw:(decide ((hw bs).length=0)&&s.isEmpty)=decide ((hw bs).length=0) :=by
     by_cases aw:(hw bs).length=0
     ·have:s=[] :=List.length_eq_zero_iff.1 (by omega);simp[aw,this]
     ·simp[aw]
    rw[lw] at dK;exact dK
   ·have cY:k=bs.length:=by omega
    subst cY;simp;rw[List.take_length] at az;exact a8 _ _ az
 ·simp[hw]
end Op
end Go.cj

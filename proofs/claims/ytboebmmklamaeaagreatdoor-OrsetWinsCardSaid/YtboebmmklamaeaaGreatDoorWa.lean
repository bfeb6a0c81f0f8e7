/-
  The canonical machine, part A: its values, blocks, heap, and what one operation does.
-/
import Derived.WalkKit
import Derived.Below
import Derived.Laws.AppendOwn
import Derived.Laws.CopyRow
import Derived.Laws.IdiomCopy
import Derived.Laws.StructEq
set_option linter.unusedVariables false
set_option linter.unusedSimpArgs false
set_option linter.unnecessarySimpa false
namespace Go.cj
open Go
inductive ae where
 | bool (b:Bool)
 | int (k:IntKind) (n:Int)
 | str (s:List UInt8)
 | h0 | aZ | gG | hC | hZ
 | aV (cs:List ae)
 | bP (vs:List ae)
 | ptr (b off sz:Nat)
 | cp (cs:List ae) (off:Nat)
 | ao (z b off len cap sz:Nat)
 | bW (z:Nat) (es:List (List ae))
 | fn (f:FuncId) (first e6:List ae)
 | mp (b:Nat)
 | it (b:Nat)
 | fK (t:TypeId) (v:ae)
 | kC (l:Nat)
 | bad
 deriving Inhabited
inductive bv where
 | none
 | dead
 | cells (sz:Nat) (cs:List ae)
 | map (es:List (ae × ae × Nat)) (arO:Nat)
 | iter (s:List UInt8) (pos:Nat)
 deriving Inhabited
inductive cu (α:Type) where
 | nil
 | node (l:cu α) (v:Option α) (r:cu α)
def cu.get {α:Type}:cu α->Nat->Option α
 | .nil,_=>none
 | .node l v r,n=>match Nat.beq n 0 with
  | true=>v
  | false=>match Nat.beq (n % 2) 1 with
   | true=>l.get (n / 2)
   | false=>r.get (n / 2 - 1)
def cu.jd {α:Type}:Nat->cu α->Nat->α->cu α
 | 0,t,_,_=>t
 | k+1,.nil,n,x=>match Nat.beq n 0 with
  | true=>.node .nil (some x) .nil
  | false=>match Nat.beq (n % 2) 1 with
   | true=>.node (cu.jd k .nil (n / 2) x) none .nil
   | false=>.node .nil none (cu.jd k .nil (n / 2 - 1) x)
 | k+1,.node l v r,n,x=>match Nat.beq n 0 with
  | true=>.node l (some x) r
  | false=>match Nat.beq (n % 2) 1 with
   | true=>.node (cu.jd k l (n / 2) x) v r
   | false=>.node l v (cu.jd k r (n / 2 - 1) x)
def cu.set {α:Type} (t:cu α) (n:Nat) (x:α) :cu α:=t.jd (n+1) n x
theorem ij {a b:Nat} (h:¬ a=b) :Nat.beq a b=false:=by
 cases aj:Nat.beq a b with
 | false=>rfl
 | true=>exact absurd (Nat.eq_of_beq_eq_true aj) h
theorem qI {a b:Nat} (h:a=b) :Nat.beq a b=true:=by subst h; exact Nat.beq_refl a
theorem cu.yX {α:Type}:∀ (k:Nat) (t:cu α) (n:Nat) (x:α) (m:Nat),n<k->(t.jd k n x).get m=if m=n then some x else t.get m
 | 0,_,_,_,_,h=>by omega
 | k+1,.nil,n,x,m,h=>by
  unfold cu.jd;by_cases aO:n=0
  ·subst aO;simp only;unfold cu.get;by_cases hm:m=0
   ·subst hm; simp
   ·have:Nat.beq m 0=false:=ij hm;simp only[this,if_neg hm];split<;>rfl
  ·have aj:Nat.beq n 0=false:=ij aO;simp only[aj];by_cases h1:n % 2=1
   ·have fZ:Nat.beq (n % 2) 1=true:=qI h1;simp only[fZ];unfold cu.get;by_cases hm:m=0
    ·subst hm; simp; omega
    ·have:Nat.beq m 0=false:=ij hm;simp only[this];by_cases fr:m % 2=1
     ·have:Nat.beq (m % 2) 1=true:=qI fr;simp only[this];rw[cu.yX k .nil (n / 2) x (m / 2) (by omega)];by_cases aw:m=n
      ·subst aw; simp
      ·rw[if_neg aw,if_neg (by omega)]; rfl
     ·have:Nat.beq (m % 2) 1=false:=ij fr;simp only[this];rw[if_neg (by intro aQ; subst aQ; exact fr h1)];rfl
   ·have fZ:Nat.beq (n % 2) 1=false:=ij h1;simp only[fZ];unfold cu.get;by_cases hm:m=0
    ·subst hm; simp; omega
    ·have:Nat.beq m 0=false:=ij hm;simp only[this];by_cases fr:m % 2=1
     ·have:Nat.beq (m % 2) 1=true:=qI fr;simp only[this];rw[if_neg (by intro aQ; subst aQ; exact h1 fr)];rfl
     ·have:Nat.beq (m % 2) 1=false:=ij fr;simp only[this];rw[cu.yX k .nil (n / 2 - 1) x (m / 2 - 1) (by omega)];by_cases aw:m=n
      ·subst aw; simp
      ·rw[if_neg aw,if_neg (by omega)]; rfl
 | k+1,.node l v r,n,x,m,h=>by
  unfold cu.jd;by_cases aO:n=0
  ·subst aO;simp only;unfold cu.get;by_cases hm:m=0
   ·subst hm; simp
   ·have:Nat.beq m 0=false:=ij hm;simp only[this,if_neg hm]
  ·have aj:Nat.beq n 0=false:=ij aO;simp only[aj];by_cases h1:n % 2=1
   ·have fZ:Nat.beq (n % 2) 1=true:=qI h1;simp only[fZ];unfold cu.get;by_cases hm:m=0
    ·subst hm; simp; omega
    ·have:Nat.beq m 0=false:=ij hm;simp only[this];by_cases fr:m % 2=1
     ·have:Nat.beq (m % 2) 1=true:=qI fr;simp only[this];rw[cu.yX k l (n / 2) x (m / 2) (by omega)];by_cases aw:m=n
      ·subst aw; simp
      ·rw[if_neg aw,if_neg (by omega)]
     ·have:Nat.beq (m % 2) 1=false:=ij fr;simp only[this];rw[if_neg (by intro aQ; subst aQ; exact fr h1)]
   ·have fZ:Nat.beq (n % 2) 1=false:=ij h1;simp only[fZ];unfold cu.get;by_cases hm:m=0
    ·subst hm; simp; omega
    ·have:Nat.beq m 0=false:=ij hm;simp only[this];by_cases fr:m % 2=1
     ·have:Nat.beq (m % 2) 1=true:=qI fr;simp only[this];rw[if_neg (by intro aQ; subst aQ; exact h1 fr)]
     ·have:Nat.beq (m % 2) 1=false:=ij fr;simp only[this];rw[cu.yX k r (n / 2 - 1) x (m / 2 - 1) (by omega)];by_cases aw:m=n
      ·subst aw; simp
      ·rw[if_neg aw,if_neg (by omega)]
theorem cu.BI {α:Type} (t:cu α) (n:Nat) (x:α) (m:Nat) :(t.set n x).get m=if m=n then some x else t.get m:=cu.yX _ _ _ _ _ (by omega)
structure aR where
 n:Nat
 t:cu bv
def aR.f (h:aR) (b:Nat) :bv:=match h.t.get b with | some c=>c | none=>.none
def aR.empty:aR:=⟨0,.nil⟩
def bM {α:Type} (f:Nat->α) (i:Nat) (v:α) :Nat->α:=fun j=>if j=i then v else f j
def aR.push (h:aR) (c:bv) :aR:=⟨h.n+1,h.t.set h.n c⟩
def aR.set (h:aR) (b:Nat) (c:bv) :aR:=⟨h.n,h.t.set b c⟩
theorem eK (h:aR) (c:bv) :(h.push c).n=h.n+1:=rfl
theorem ef (h:aR) (b:Nat) (c:bv) :(h.set b c).n=h.n:=rfl
theorem dH (h:aR) (c:bv) :(h.push c).f=bM h.f h.n c:=by
 funext b;simp only[aR.f,aR.push,bM,cu.BI];by_cases aj:b=h.n
 ·simp[aj]
 ·simp[aj]
theorem dn (h:aR) (b:Nat) (c:bv) :(h.set b c).f=bM h.f b c:=by
 funext bu;simp only[aR.f,aR.set,bM,cu.BI];by_cases aj:bu=b
 ·simp[aj]
 ·simp[aj]
theorem By (b:Nat) :aR.empty.f b=.none:=rfl
@[simp] theorem iy {α:Type} (f:Nat->α) (i:Nat) (v:α) :bM f i v i=v:=by simp[bM]
theorem ca {α:Type} (f:Nat->α) (i j:Nat) (v:α) (h:j≠i) :bM f i v j=f j:=by simp[bM,h]
def ae.one:ae->Bool
 | .aV _ | .bP _ | .bad=>false
 | _=>true
def ae.cells:ae->Option (List ae)
 | .aV cs=>some cs
 | .bP _ | .bad=>none
 | v=>some [v]
def m6:Value->ae
 | .bool b=>.bool b
 | .int k n=>.int k n
 | .string s=>.str s.data.toList
 | .pointer a=>match a with | none=>.h0 | some _=>.bad
 | .slice a l c=>match a,l,c with | none,0,0=>.aZ | _,_,_=>.bad
 | .map r=>match r with | none=>.gG | some _=>.bad
 | .nilFunc=>.hC
 | .nilIface=>.hZ
 | .func fn first e6=>match fn,first.toList,e6.toList with | .func f,[],[]=>.fn f [] [] | _,_,_=>.bad
 | _=>.bad
def tS:Value->ae
 | .agg cs=>if cs.toList.all Value.oneCell' then .aV (cs.toList.map m6) else .bad
 | .tuple vs=>.bP (vs.toList.map m6)
 | v=>m6 v
def cT (G:Nat->ae) (ah:Nat->ae) :Operand->ae
 | .tmp t=>ah t
 | .const v=>tS v
 | .func f=>.fn f [] []
 | .global g=>G g
def dC (P:Program) (t:TypeId) :Option Bool:=(P.underlying t).map fun d=>match d with | .struct _ | .array _ _=>true | _=>false
def cr (P:Program) (t:TypeId) :Option Nat:=(P.info? t).map (·.size)
def iT (P:Program) (t:TypeId) :Option Nat:=(P.info? t).map (·.bytes)
def gH (P:Program) (t:TypeId) :Option (List ae) :=((P.info? t).bind (·.zero)).bind fun v=>if v.cells.toList.all Value.oneCell' then some (v.cells.toList.map m6) else none
def hl (P:Program) (t:TypeId) :Option TypeId:=match P.underlying t with | some (.slice e)=>some e | _=>none
def gQ (P:Program) (t:TypeId) (cs:List ae) (off:Nat) :Option ae:=
 match dC P t,cr P t with
 | some true,some n=>if off+n<=cs.length then some (.aV ((cs.drop off).take n)) else none
 | some false,_=>cs[off]?
 | _,_=>none
def reach (h:aR) :ae->Option (List ae × Nat)
 | .ptr b off sz=>match h.f b with
  | .cells n cs=>if n=sz then some (cs,off) else none
  | _=>none
 | .cp cs off=>some (cs,off)
 | _=>none
def qD (P:Program) (h:aR) (t:TypeId) (p:ae) :Option ae:=
 match reach h p with
 | some (cs,off)=>gQ P t cs off
 | none=>none
def bU (cs:List ae) (off:Nat) (vs:List ae) :List ae:=cs.take off++vs++cs.drop (off+vs.length)
def xV (P:Program) (h:aR) (t:TypeId) (p v:ae) :Option aR:=
 match p,v.cells,cr P t with
 | .ptr b off sz,some vs,some n=>match h.f b with
  | .cells m cs=>if m=sz/\vs.length=n/\off+n<=m then some (h.set b (.cells m (bU cs off vs))) else none
  | _=>none
 | _,_,_=>none
def asInt:ae->Option Int
 | .int _ n=>some n
 | _=>none
def uP (P:Program) (s:TypeId) (f:Nat) :Option Field:=match P.underlying s with | some (.struct fs)=>fs[f]? | _=>none
def lS:ae->Nat->Option ae
 | .ptr b off sz,k=>some (.ptr b (off+k) sz)
 | .cp cs off,k=>some (.cp cs (off+k))
 | _,_=>none
def BD (P:Program) (s:TypeId) (x:ae) (f:Nat) :Option ae:=
 match uP P s f with
 | some fd=>match cr P fd.type with
  | some (_+1)=>lS x fd.offset
  | _=>none
 | none=>none
def zM (P:Program) (t:TypeId) (x he:ae) :Option ae:=
 match P.underlying t,asInt he with
 | some (.array len e),some i=>match cr P e with
  | some z=>if 0<=i/\i<len then lS x (i.toNat*z) else none
  | none=>none
 | some (.slice e),some i=>match cr P e,x with
  | some z,.ao c9 b off len _ sz=>if z=c9/\0<=i/\i<len then some (.ptr b (off+i.toNat*z) sz) else none
  | some z,.bW c9 es=>if z=c9/\0<=i then (es[i.toNat]?).map fun cs=>.cp cs 0 else none
  | _,_=>none
 | _,_=>none
def gB (jL:Nat->Option (Nat × Nat)) (cells:List ae) :List (Nat × ae)->Option (List ae)
 | []=>some cells
 | (i,v) ::rest=>match jL i,v.cells with
  | some (off,size),some vs=>if vs.length=size/\off+size<=cells.length then gB jL (bU cells off vs) rest else none
  | _,_=>none
def Ai (P:Program) (fs:Array Field) (i:Nat) :Option (Nat × Nat) :=(fs[i]?).bind fun f=>(cr P f.type).map fun n=>(f.offset,n)
def yr (P:Program) (t:TypeId) (ew:List (Nat × ae)) :Option ae:=
 match gH P t,P.underlying t with
 | some zero,some (.struct fs)=>if !(fs.toList.all fun f=>(cr P f.type).isSome) then none else (gB (Ai P fs) zero ew).map .aV
 | some zero,some (.array _ e)=>match cr P e with
  | some n=>(gB (fun i=>some (i*n,n)) zero ew).map .aV
  | none=>none
 | _,_=>none
def dd (zero:List ae) :Nat->List ae
 | 0=>[]
 | n+1=>zero++dd zero n
def Ba (P:Program) (h:aR) (t:TypeId) (len:Nat) (ew:List (Nat × ae)) :Option (ae × aR) :=
 match hl P t with
 | some e=>match cr P e,gH P e with
  | some z,some zero=>if zero.length=z/\len*z<=16777216 then
    (gB (fun i=>some (i*z,z)) (dd zero len) ew).map fun cs=>(.ao z h.n 0 len len (len*z),h.push (.cells (len*z) cs))
   else none
  | _,_=>none
 | none=>none
def cn (op:BinOp) (k:IntKind) (a:Int) (k' : IntKind) (b:Int) :Option ae:=
 match op with
 | .shl=>if b<0 then none else some (.int k (k.wrap (a*2 ^ min b.toNat k.bits)))
 | .shr=>if b<0 then none else some (.int k (a.fdiv (2 ^ min b.toNat k.bits)))
 | .add=>if k=k' then some (.int k (k.wrap (a+b))) else none
 | .sub=>if k=k' then some (.int k (k.wrap (a - b))) else none
 | .mul=>if k=k' then some (.int k (k.wrap (a*b))) else none
 | .quo=>if k=k'/\b≠0 then some (.int k (k.wrap (a.tdiv b))) else none
 | .rem=>if k=k'/\b≠0 then some (.int k (a.tmod b)) else none
 | .and=>if k=k' then some (.int k (k.wrap (BitVec.ofInt k.bits a &&& BitVec.ofInt k.bits b).toNat)) else none
 | .or=>if k=k' then some (.int k (k.wrap (BitVec.ofInt k.bits a ||| BitVec.ofInt k.bits b).toNat)) else none
 | .xor=>if k=k' then some (.int k (k.wrap (BitVec.ofInt k.bits a ^^^ BitVec.ofInt k.bits b).toNat)) else none
 | .andNot=>if k=k' then some (.int k (k.wrap (BitVec.ofInt k.bits a &&& ~~~BitVec.ofInt k.bits b).toNat)) else none
 | .eql=>if k=k' then some (.bool (a == b)) else none
 | .neq=>if k=k' then some (.bool (a != b)) else none
 | .lss=>if k=k' then some (.bool (decide (a<b))) else none
 | .leq=>if k=k' then some (.bool (decide (a<=b))) else none
 | .gtr=>if k=k' then some (.bool (decide (a > b))) else none
 | .geq=>if k=k' then some (.bool (decide (a ≥ b))) else none
def oG (op:BinOp) (a b:List UInt8) :Option ae:=
 match op with
 | .eql=>some (.bool (a == b))
 | .neq=>some (.bool (!(a == b)))
 | .lss=>some (.bool (Op.bytesLess a b))
 | .leq=>some (.bool (Op.bytesLess a b||a == b))
 | .gtr=>some (.bool (!(Op.bytesLess a b||a == b)))
 | .geq=>some (.bool (!Op.bytesLess a b))
 | .add=>if a.length+b.length<=9223372036854775807 then some (.str (a++b)) else none
 | _=>none
def dT (P:Program) :Nat->TypeId->ae->ae->Option Bool
 | 0,_,_,_=>none
 | d+1,t,x,y=>
  match P.underlying t,x,y with
  | some .bool,.bool a,.bool b=>some (a == b)
  | some (.int _),.int k a,.int k' b=>if k=k' then some (a == b) else none
  | some .string,.str a,.str b=>some (a == b)
  | some (.struct fs),.aV xs,.aV bd=>if P.stoodInHeld t then none else eqFields P (dT P d) xs bd fs.toList
  | some (.array n e),.aV xs,.aV bd=>match cr P e with
   | some z=>p1 P (dT P d) e z xs bd n 0
   | none=>none
  | some (.slice _),.aZ,.aZ=>some true
  | some (.slice _),.aZ,.ao .. | some (.slice _),.aZ,.bW .. | some (.slice _),.ao ..,.aZ | some (.slice _),.bW ..,.aZ=>some false
  | _,_,_=>none
where
 eqFields (P:Program) (eq:TypeId->ae->ae->Option Bool) (xs bd:List ae) :List Field->Option Bool
  | []=>some true
  | f::fs=>if f.name= "_" then eqFields P eq xs bd fs else
   match gQ P f.type xs f.offset,gQ P f.type bd f.offset with
   | some a,some b=>match eq f.type a b with
    | some true=>eqFields P eq xs bd fs
    | some false=>some false
    | none=>none
   | _,_=>none
 p1 (P:Program) (eq:TypeId->ae->ae->Option Bool) (e:TypeId) (z:Nat) (xs bd:List ae) :Nat->Nat->Option Bool
  | 0,_=>some true
  | n+1,i=>match gQ P e xs (i*z),gQ P e bd (i*z) with
   | some a,some b=>match eq e a b with
    | some true=>p1 P eq e z xs bd n (i+1)
    | some false=>some false
    | none=>none
   | _,_=>none
def s6 (P:Program) (t:TypeId) :ae->ae->Bool
 | .aV _,.aV _=>!P.eqGuardType P.depth t
 | _,_=>true
def fw (P:Program) (op:BinOp) (t:TypeId) (x y:ae) :Option ae:=
 match x,y with
 | .int k a,.int k' b=>cn op k a k' b
 | .str a,.str b=>oG op a b
 | x,y=>match op with
  | .eql=>if s6 P t x y then (dT P 10000 t x y).map .bool else none
  | .neq=>if s6 P t x y then (dT P 10000 t x y).map fun b=>.bool (!b) else none
  | _=>none
def ot (op:UnOp) (x:ae) :Option ae:=
 match op,x with
 | .not,.bool b=>some (.bool (!b))
 | .neg,.int k n=>some (.int k (k.wrap (0 - n)))
 | .xor,.int k n=>some (.int k (k.wrap (BitVec.ofInt k.bits (if k.signed then -1 else k.max) ^^^ BitVec.ofInt k.bits n).toNat))
 | _,_=>none
def kf (z:Nat) :Nat->List ae->List (List ae)
 | 0,_=>[]
 | n+1,cs=>cs.take z::kf z n (cs.drop z)
def hL (b:UInt8) :ae:=.int .u8 b.toNat
def contents (h:aR) (z:Nat) :ae->Option (List ae × Nat)
 | .aZ=>some ([],0)
 | .bW c9 es=>if z=c9 then some (es.flatten,es.length) else none
 | .ao c9 b off len _ sz=>match h.f b with
  | .cells n cs=>if n=sz/\z=c9 then some ((cs.drop off).take (len*z),len) else none
  | _=>none
 | .str s=>if z=1 then some (s.map hL,s.length) else none
 | _=>none
def cQ:Nat:=140737488355328
def q6 (P:Program) (t:TypeId) :Option Nat:=((P.info? t).bind (·.zero)).map (·.cells.size)
def sL (P:Program) (h:aR) (e:TypeId) (z by_:Nat) (s:ae) (xs:List ae) (n:Nat) :Option (ae × aR) :=
 if n=0 then (match s with | .aZ | .bW .. | .ao ..=>some (s,h) | _=>none)
 else if z=0\/by_=0\/q6 P e≠some z then none else match s with
  | .aZ=>if n*by_<=cQ then some (.ao z h.n 0 n n (n*z),h.push (.cells (n*z) xs)) else none
  | .ao c9 b off len cap sz=>match h.f b with
   | .cells m cs=>
    if m=sz/\z=c9/\(len+n)*by_<=cQ then
     if len+n<=cap then some (.ao z b off (len+n) cap sz,h.set b (.cells m (bU cs (off+len*z) xs)))
     else if off+cap*z<sz then some (.ao z h.n 0 (len+n) (len+n) ((len+n)*z),h.push (.cells ((len+n)*z) ((cs.drop off).take (len*z)++xs)))
     else if off=0 then some (.ao z b 0 (len+n) (len+n) ((len+n)*z),h.set b (.cells ((len+n)*z) (cs.take (len*z)++xs)))
     else some (.ao z h.n 0 (len+n) (len+n) ((len+n)*z),(h.set b .dead).push (.cells ((len+n)*z) ((cs.drop off).take (len*z)++xs)))
    else none
   | _=>none
  | _=>none
def pR (P:Program) (h:aR) (t:TypeId) (s x:ae) :Option (ae × aR) :=
 match hl P t with
 | none=>none
 | some e=>match cr P e,iT P e with
  | some z,some by_=>match contents h z x with
   | none=>none
   | some (xs,n)=>sL P h e z by_ s xs n
  | _,_=>none
def h8 (x:ae) (y:Nat) :Option Nat:=match x with | .int _ i=>if 0<=i/\i<=y then some i.toNat else none | _=>none
def fH (len cap:Nat) (cP aA cB:Option ae) :Option (Nat × Nat × Nat) :=
 match (match cB with | some v=>h8 v cap | none=>some cap) with
 | none=>none
 | some m=>match (match aA,cB with | some v,_=>h8 v m | none,none=>some len | none,some _=>none) with
  | none=>none
  | some h=>match (match cP with | some v=>h8 v h | none=>some 0) with
   | none=>none
   | some l=>some (l,h,m)
def AD (P:Program) (t:TypeId) (x:ae) (cP aA cB:Option ae) :Option ae:=
 match P.underlying t,x with
 | some (.array n e),x=>match cr P e,fH n n cP aA cB with
  | some z,some (l,aQ,m)=>match x with
   | .ptr b off sz=>if off+m*z<=sz then (if m=l then some (.bW z []) else some (.ao z b (off+l*z) (aQ - l) (m - l) sz)) else none
   | .cp cs off=>if off+n*z<=cs.length then some (.bW z (kf z (aQ - l) (cs.drop (off+l*z)))) else none
   | _=>none
  | _,_=>none
 | some (.slice e),x=>match cr P e,x with
  | some z,.ao c9 b off len cap sz=>if z=c9 then (fH len cap cP aA cB).map fun (l,aQ,m)=>if m=l then .ao z b (off+l*z) 0 0 sz else .ao z b (off+l*z) (aQ - l) (m - l) sz else none
  | some z,.bW c9 es=>if z=c9 then (fH es.length es.length cP aA cB).map fun (l,aQ,_)=>.bW z ((es.drop l).take (aQ - l)) else none
  | some _,.aZ=>(fH 0 0 cP aA cB).map fun _=>.aZ
  | _,_=>none
 | some .string,.str s=>match cB with
  | none=>(fH s.length s.length cP aA none).map fun (l,aQ,_)=>.str ((s.drop l).take (aQ - l))
  | some _=>none
 | _,_=>none
def vw (P:Program) (t:TypeId) (x:ae) :Option ae:=
 match P.underlying t,x with
 | some .string,.str s=>some (.int .i64 s.length)
 | some (.array n _),_=>some (.int .i64 n)
 | some (.slice _),.aZ=>some (.int .i64 0)
 | some (.slice _),.ao _ _ _ len _ _=>some (.int .i64 len)
 | some (.slice _),.bW _ es=>some (.int .i64 es.length)
 | some (.map _ _),.gG=>some (.int .i64 0)
 | _,_=>none
def De (P:Program) (h:aR) (t:TypeId) (l c:ae) :Option (ae × aR) :=
 match hl P t,asInt l,asInt c with
 | some e,some l,some c=>match cr P e,iT P e,gH P e with
  | some z,some by_,some zero=>
   if zero.length=z/\0<=l/\l<=c/\c<9223372036854775808/\by_*c<=cQ then
    some (.ao z h.n 0 l.toNat c.toNat (c.toNat*z),h.push (.cells (c.toNat*z) (dd zero c.toNat)))
   else none
  | _,_,_=>none
 | _,_,_=>none
def wr (P:Program) (h:aR) (t:TypeId) (d x:ae) :Option (ae × aR) :=
 match hl P t with
 | none=>none
 | some e=>match cr P e with
  | none=>none
  | some z=>match contents h z x with
   | none=>none
   | some (xs,n)=>match d with
    | .aZ=>some (.int .i64 0,h)
    | .ao c9 b off len _ sz=>match h.f b with
     | .cells m cs=>if m=sz/\z=c9 then some (.int .i64 ((min n len:Nat) :Int),h.set b (.cells m (bU cs off (xs.take (min n len*z))))) else none
     | _=>none
    | _=>none
def lh:List ae->Option (List UInt8)
 | []=>some []
 | .int .u8 n::r=>(lh r).map (UInt8.ofNat n.toNat::·)
 | _::_=>none
def uJ (P:Program) (h:aR) (Nn dst:TypeId) (x:ae) :Option ae:=
 match P.underlying Nn,P.underlying dst,x with
 | some _,some (.int k),.int _ n=>some (.int k (k.wrap n))
 | some _,some .string,.str s=>some (.str s)
 | some (.slice e),some .string,x=>match P.underlying e,x with
  | some (.int .u8),.aZ=>some (.str [])
  | some (.int .u8),x=>match contents h 1 x,x with
   | some _,.str _=>none
   | some (cs,_),_=>(lh cs).map .str
   | none,_=>none
  | _,_=>none
 | _,_,_=>none
def wj (P:Program) (Nn dst:TypeId) (x:ae) :Option ae:=
 match P.underlying Nn,P.underlying dst,x with
 | some _,some (.slice e),.str s=>match P.underlying e with
  | some (.int .u8)=>some (.bW 1 (s.map fun b=>[hL b]))
  | _=>none
 | _,_,_=>none
def wm (P:Program) (t:TypeId) (x:ae) :Option ae:=
 match P.underlying t,x with
 | some (.array n _),_=>some (.int .i64 n)
 | some (.slice _),.aZ=>some (.int .i64 0)
 | _,_=>none
def wo (P:Program) (h:aR) (t:TypeId) (x:ae) :Option aR:=
 match P.underlying t,x with
 | some (.slice _),.aZ=>some h
 | some (.slice _),.bW _ []=>some h
 | some (.slice e),.ao z b off len _ sz=>if len=0 then some h else match gH P e,h.f b with
  | some zero,.cells m cs=>if m=sz/\zero.length=z then some (h.set b (.cells m (bU cs off (dd zero len)))) else none
  | _,_=>none
 | _,_=>none
def xp (P:Program) (t:TypeId) (x he:ae) :Option ae:=
 match P.underlying t,x,asInt he with
 | some (.array n e),.aV cs,some i=>match cr P e with
  | some z=>if 0<=i/\i<n then gQ P e cs (i.toNat*z) else none
  | none=>none
 | some .string,.str s,some i=>if 0<=i then (s[i.toNat]?).map hL else none
 | _,_,_=>none
mutual
def ae.beq:ae->ae->Bool
 | .bool a,y=>match y with | .bool b=>(match a,b with | true,true=>true | false,false=>true | _,_=>false) | _=>false
 | .int k n,y=>match y with | .int k' f3=>decide (k=k')&&decide (n=f3) | _=>false
 | .str a,y=>match y with | .str b=>decide (a=b) | _=>false
 | .h0,y=>match y with | .h0=>true | _=>false
 | .aZ,y=>match y with | .aZ=>true | _=>false
 | .gG,y=>match y with | .gG=>true | _=>false
 | .hC,y=>match y with | .hC=>true | _=>false
 | .hZ,y=>match y with | .hZ=>true | _=>false
 | .aV a,y=>match y with | .aV b=>eO a b | _=>false
 | .bP a,y=>match y with | .bP b=>eO a b | _=>false
 | .ptr a b c,y=>match y with | .ptr en bu c'=>Nat.beq a en&&Nat.beq b bu&&Nat.beq c c' | _=>false
 | .cp a n,y=>match y with | .cp en f3=>eO a en&&Nat.beq n f3 | _=>false
 | .ao a b c d e f,y=>match y with | .ao en bu c' oI eG af7=>Nat.beq a en&&Nat.beq b bu&&Nat.beq c c'&&Nat.beq d oI&&Nat.beq e eG&&Nat.beq f af7 | _=>false
 | .bW a b,y=>match y with | .bW en bu=>Nat.beq a en&&yp b bu | _=>false
 | .fn a b c,y=>match y with | .fn en bu c'=>Nat.beq a en&&eO b bu&&eO c c' | _=>false
 | .mp a,y=>match y with | .mp en=>Nat.beq a en | _=>false
 | .it a,y=>match y with | .it en=>Nat.beq a en | _=>false
 | .fK a b,y=>match y with | .fK en bu=>Nat.beq a en&&ae.beq b bu | _=>false
 | .kC a,y=>match y with | .kC en=>Nat.beq a en | _=>false
 | .bad,y=>match y with | .bad=>true | _=>false
def eO:List ae->List ae->Bool
 | [],y=>match y with | []=>true | _=>false
 | a::as,y=>match y with | b::bs=>ae.beq a b&&eO as bs | _=>false
def yp:List (List ae)->List (List ae)->Bool
 | [],y=>match y with | []=>true | _=>false
 | a::as,y=>match y with | b::bs=>eO a b&&yp as bs | _=>false
end
theorem i9 {a b:Nat} (h:Nat.beq a b=true) :a=b:=Nat.eq_of_beq_eq_true h
mutual
theorem ae.beq_eq:∀ {a b:ae},ae.beq a b=true->a=b
 | .bool a,b,h=>by cases b<;>simp only[ae.beq] at h<;>first | cases h | (rename_i b; cases a<;>cases b<;>first | rfl | cases h)
 | .int k n,b,h=>by cases b<;>simp only[ae.beq] at h<;>first | cases h | (simp only[Bool.and_eq_true,decide_eq_true_eq] at h; rw[h.1,h.2])
 | .str a,b,h=>by cases b<;>simp only[ae.beq] at h<;>first | cases h | (simp only[decide_eq_true_eq] at h; rw[h])
 | .h0,b,h=>by cases b<;>simp only[ae.beq] at h<;>first | rfl | cases h
 | .aZ,b,h=>by cases b<;>simp only[ae.beq] at h<;>first | rfl | cases h
 | .gG,b,h=>by cases b<;>simp only[ae.beq] at h<;>first | rfl | cases h
 | .hC,b,h=>by cases b<;>simp only[ae.beq] at h<;>first | rfl | cases h
 | .hZ,b,h=>by cases b<;>simp only[ae.beq] at h<;>first | rfl | cases h
 | .bad,b,h=>by cases b<;>simp only[ae.beq] at h<;>first | rfl | cases h
 | .aV a,b,h=>by cases b<;>simp only[ae.beq] at h<;>first | cases h | rw[rm h]
 | .bP a,b,h=>by cases b<;>simp only[ae.beq] at h<;>first | cases h | rw[rm h]
 | .ptr ..,b,h=>by cases b<;>simp only[ae.beq] at h<;>first | cases h | (simp only[Bool.and_eq_true] at h; rw[i9 h.1.1,i9 h.1.2,i9 h.2])
 | .cp a n,b,h=>by cases b<;>simp only[ae.beq] at h<;>first | cases h | (simp only[Bool.and_eq_true] at h; rw[rm h.1,i9 h.2])
 | .ao ..,b,h=>by cases b<;>simp only[ae.beq] at h<;>first | cases h | (simp only[Bool.and_eq_true] at h; rw[i9 h.1.1.1.1.1,i9 h.1.1.1.1.2,i9 h.1.1.1.2,i9 h.1.1.2,i9 h.1.2,i9 h.2])
 | .bW a n,b,h=>by cases b<;>simp only[ae.beq] at h<;>first | cases h | (simp only[Bool.and_eq_true] at h; rw[i9 h.1,OM h.2])
 | .fn a n m,b,h=>by cases b<;>simp only[ae.beq] at h<;>first | cases h | (simp only[Bool.and_eq_true] at h; rw[i9 h.1.1,rm h.1.2,rm h.2])
 | .mp a,b,h=>by cases b<;>simp only[ae.beq] at h<;>first | cases h | rw[i9 h]
 | .it a,b,h=>by cases b<;>simp only[ae.beq] at h<;>first | cases h | rw[i9 h]
 | .kC a,b,h=>by cases b<;>simp only[ae.beq] at h<;>first | cases h | rw[i9 h]
 | .fK a n,b,h=>by cases b<;>simp only[ae.beq] at h<;>first | cases h | (simp only[Bool.and_eq_true] at h; rw[i9 h.1,ae.beq_eq h.2])
theorem rm:∀ {a b:List ae},eO a b=true->a=b
 | [],b,h=>by cases b<;>simp only[eO] at h<;>first | rfl | cases h
 | x::a,b,h=>by cases b<;>simp only[eO] at h<;>first | cases h | (simp only[Bool.and_eq_true] at h; rw[ae.beq_eq h.1,rm h.2])
theorem OM:∀ {a b:List (List ae)},yp a b=true->a=b
 | [],b,h=>by cases b<;>simp only[yp] at h<;>first | rfl | cases h
 | x::a,b,h=>by cases b<;>simp only[yp] at h<;>first | cases h | (simp only[Bool.and_eq_true] at h; rw[rm h.1,OM h.2])
end
def qP:ae->Bool | .int .. | .str _ | .bool _=>true | _=>false
def pf (P:Program) :Nat->TypeId->Bool
 | 0,_=>false
 | d+1,t=>match P.underlying t,cr P t with
  | some (.int _),_=>true
  | some .string,_=>true
  | some .bool,_=>true
  | some (.array n e),some m=>pf P d e&&(match cr P e,dC P e with | some z,some _=>Nat.ble (n*z) m&&Nat.ble 1 z | _,_=>false)
  | some (.struct fs),some m=>fs.toList.all fun f=>pf P d f.type&&(match cr P f.type,dC P f.type with | some z,some _=>Nat.ble (f.offset+z) m&&Nat.ble 1 z | _,_=>false)
  | _,_=>false
def jI (P:Program) (t:TypeId) (c:ae) :Bool:=
 match c with
 | .aV cs=>pf P 8 t&&(match dC P t,cr P t with | some true,some m=>Nat.beq cs.length m | _,_=>false)&&cs.all qP
 | _=>false
def ia (P:Program) (cK:TypeId) (k:ae) :List (ae × ae × Nat)->Nat->Option (Option (Nat × ae))
 | [],_=>some none
 | (k',v,_) ::es,i=>match jI P cK k' with
  | false=>none
  | true=>match dT P 10000 cK k k' with
   | some true=>match ae.beq k k' with | true=>some (some (i,v)) | false=>none
   | some false=>ia P cK k es (i+1)
   | none=>none
def mapOf (h:aR) :ae->Option (List (ae × ae × Nat))
 | .gG=>some []
 | .mp b=>match h.f b with | .map es _=>some es | _=>none
 | _=>none
def v1 (P:Program) (t:TypeId) :Option ae:=((P.info? t).bind (·.zero)).map tS
def Db (P:Program) (h:aR) (t:TypeId) (m k:ae) (ok:Bool) :Option ae:=
 match P.underlying t,mapOf h m with
 | some (.map cK kK),some es=>match jI P cK k with
  | false=>none
  | true=>match ia P cK k es 0 with
   | some (some (_,v))=>some (if ok then .bP [v,.bool true] else v)
   | some none=>(v1 P kK).map fun z=>if ok then .bP [z,.bool false] else z
   | none=>none
 | _,_=>none
def vz (P:Program) (h:aR) (t:TypeId) (m k v:ae) :Option aR:=
 match P.underlying t,m with
 | some (.map cK _),.mp b=>match h.f b with
  | .map es dX=>match jI P cK k with
   | false=>none
   | true=>match ia P cK k es 0 with
    | some (some (i,_))=>some (h.set b (.map (es.modify i fun e=>(k,v,e.2.2)) dX))
    | some none=>some (h.set b (.map (es++[(k,v,dX)]) (dX+1)))
    | none=>none
  | _=>none
 | _,_=>none
def vx (P:Program) (h:aR) (t:TypeId) (x:ae) :Option ae:=
 match P.underlying t,x with
 | some (.map _ _),.mp b=>match h.f b with | .map es _=>some (.int .i64 es.length) | _=>none
 | _,_=>none
def DD (P:Program) (h:aR) (t:TypeId) (x:ae) :Option (ae × aR) :=
 match P.underlying t,x with
 | some .string,.str s=>some (.it h.n,h.push (.iter s 0))
 | _,_=>none
def xy (h:aR) (x:ae) :Option (ae × aR) :=
 match x with
 | .it b=>match h.f b with
  | .iter s pos=>match Nat.blt pos s.length with
   | true=>some (.bP [.bool true,.int .i64 pos,.int .i32 (Utf8.decode ⟨s.toArray⟩ pos).1],h.set b (.iter s (pos+(Utf8.decode ⟨s.toArray⟩ pos).2)))
   | false=>some (.bP [.bool false],h)
  | _=>none
 | _=>none
def lT:List UInt8->List UInt8->Int
 | [],[]=>0
 | [],_::_=>-1
 | _::_,[]=>1
 | a::as,b::bs=>if a=b then lT as bs else if a<b then -1 else 1
def pU (h:aR) (x:ae) :Option (List UInt8) :=match x with
 | .str s=>some s
 | x=>match contents h 1 x with
  | some (cs,_)=>lh cs
  | none=>none
def yG (h:aR) :List ae->Option ae
 | [x,y]=>match pU h x,pU h y with
  | some a,some b=>some (.int .i64 (lT a b))
  | _,_=>none
 | _=>none
def zO (fn:Func) :Bool:=fn.body.isNone&&fn.name == "internal/bytealg.Compare"&&(fn.origin == ""||fn.origin == "internal/bytealg.Compare")
inductive nu where
 | val (v:ae) (h:aR)
 | call (f:FuncId) (args:List ae) (h:aR)
def xw:ae->ae->Option ae
 | .int k x,.int k' y=>if k=k' then some (.int k (if y<x then y else x)) else none
 | _,_=>none
def sd:ae->ae->Option ae
 | .int k x,.int k' y=>if k=k' then some (.int k (if x<y then y else x)) else none
 | _,_=>none
def gp:ae:=.bP []
def yn (P:Program) (h:aR) (t:TypeId) (s x:ae) :Option (ae × aR) :=
 match hl P t,asInt x with
 | some e,some n=>match cr P e,iT P e,gH P e with
  | some z,some by_,some zero=>
   if zero.length=z/\0<=n/\n<9223372036854775808/\n.toNat*by_<=cQ then sL P h e z by_ s (dd zero n.toNat) n.toNat else none
  | _,_,_=>none
 | _,_=>none
def nB (P:Program) (h:aR) (b:Builtin) (ts:List TypeId) (args:List ae) :Option nu:=
 match b,ts,args with
 | .len,[t],[x]=>match vx P h t x with
  | some v=>some (.val v h)
  | none=>(vw P t x).map fun v=>.val v h
 | .append,[t,u],[s,x]=>match P.underlying u with
  | some (.int _)=>(yn P h t s x).map fun (v,h')=>.val v h'
  | none=>none
  | _=>(pR P h t s x).map fun (v,h')=>.val v h'
 | .copy,[t,_],[d,x]=>(wr P h t d x).map fun (v,h')=>.val v h'
 | .cap,[t],[x]=>(wm P t x).map fun v=>.val v h
 | .clear,[t],[x]=>(wo P h t x).map fun h'=>.val (.bP []) h'
 | .min,_,[x,y]=>(xw x y).map fun v=>.val v h
 | .max,_,[x,y]=>(sd x y).map fun v=>.val v h
 | _,_,_=>none
def vA (P:Program) (t:TypeId) (name:String) :Option FuncId:=
 match P.underlying t with
 | some (.pointer _) | none=>none
 | _=>match P.info? t with
  | some i=>match i.methods.find? (·.name == name) with
   | some m=>match m.path.toList,m.func with
    | [],some (f,false)=>some f
    | _,_=>none
   | none=>none
  | none=>none
def xX (t:TypeId) (z:ae) (ok:Bool) :ae->Option ae
 | .fK fp v=>match Nat.beq fp t with
  | true=>match ok with | true=>some (.bP [v,.bool true]) | false=>some v
  | false=>match ok with | true=>some (.bP [z,.bool false]) | false=>none
 | .hZ=>match ok with | true=>some (.bP [z,.bool false]) | false=>none
 | _=>none
def D0 (P:Program) (t:TypeId) :Option ae:=match P.underlying t with
 | some (.interface _) | none=>none
 | _=>v1 P t
def sQ (P:Program) (h:aR) (aB:Operand->ae) (c:Call) :Option nu:=
 match c.callee with
 | .builtin b=>nB P h b c.argTypes.toList (c.args.toList.map aB)
 | .value f=>match aB f with
  | .fn g first e6=>match P.funcs[g]? with
   | some fn=>if fn.body.isSome/\fn.name≠ "runtime.NumGoroutine" then some (.call g (first++c.args.toList.map aB++e6) h)
    else if zO fn then (yG h (first++c.args.toList.map aB++e6)).map fun v=>.val v h else none
   | none=>none
  | _=>none
 | .invoke x name=>match aB x with
  | .fK t v=>match vA P t name with
   | some g=>match P.funcs[g]? with
    | some fn=>if fn.body.isSome/\fn.name≠ "runtime.NumGoroutine" then some (.call g (v::c.args.toList.map aB) h) else none
    | none=>none
   | none=>none
  | _=>none
def cW (P:Program) (h:aR) (aB:Operand->ae) (op:Op) :Option nu:=
 let v (x:Option ae) :Option nu:=x.map fun y=>.val y h
 let w (x:Option (ae × aR)) :Option nu:=x.map fun y=>.val y.1 y.2
 match op with
 | .move x | .assign x=>some (.val (aB x) h)
 | .pick c a b=>match aB c with | .bool t=>some (.val (if t then aB a else aB b) h) | _=>none
 | .alloc t=>(gH P t).map fun z=>.val (.ptr h.n 0 z.length) (h.push (.cells z.length z))
 | .box _ x=>(aB x).cells.map fun cs=>.val (.ptr h.n 0 cs.length) (h.push (.cells cs.length cs))
 | .build t ew=>v (yr P t (ew.toList.map fun p=>(p.1,aB p.2)))
 | .buildSlice t len ew=>w (Ba P h t len (ew.toList.map fun p=>(p.1,aB p.2)))
 | .load t a=>v (qD P h t (aB a))
 | .store t a x=>(xV P h t (aB a) (aB x)).map fun h'=>.val gp h'
 | .nilCheck x=>match aB x with | .ptr b o s=>some (.val (.ptr b o s) h) | .cp c o=>some (.val (.cp c o) h) | .fn f a b=>some (.val (.fn f a b) h) | _=>none
 | .binOp op t x y _=>v (fw P op t (aB x) (aB y))
 | .unOp op _ x=>v (ot op (aB x))
 | .convert s d x=>match wj P s d (aB x) with
  | some c=>some (.val c h)
  | none=>v (uJ P h s d (aB x))
 | .makeInterface t x=>match P.underlying t with
  | some (.interface _) | none=>none
  | _=>some (.val (.fK t (aB x)) h)
 | .makeFunc (.func f) first e6=>some (.val (.fn f (first.toList.map aB) (e6.toList.map aB)) h)
 | .makeSlice t l c=>w (De P h t (aB l) (aB c))
 | .slice t x cP aA cB=>v (AD P t (aB x) (cP.map aB) (aA.map aB) (cB.map aB))
 | .fieldAddr s x f=>v (BD P s (aB x) f)
 | .field t x f=>match aB x,uP P t f with
  | .aV cs,some fd=>v (gQ P fd.type cs fd.offset)
  | _,_=>none
 | .indexAddr t x i=>v (zM P t (aB x) (aB i))
 | .index t x i=>v (xp P t (aB x) (aB i))
 | .extract x i=>match aB x with | .bP vs=>v vs[i]? | _=>none
 | .call c=>sQ P h aB c
 | .makeMap t r=>match P.underlying t,(match r with | none=>true | some x=>(asInt (aB x)).isSome) with | some (.map _ _),true=>some (.val (.mp h.n) (h.push (.map [] 0))) | _,_=>none
 | .lookup t m k ok=>v (Db P h t (aB m) (aB k) ok)
 | .mapUpdate t m k x | .insert t m k x=>(vz P h t (aB m) (aB k) (aB x)).map fun h'=>.val gp h'
 | .range t x=>w (DD P h t (aB x))
 | .next it true=>w (xy h (aB it))
 | .typeAssert x _ t ok=>match D0 P t with | some z=>v (xX t z ok (aB x)) | none=>none
 | _=>none
structure M where
 r:Nat
 s:Nat
 T:Nat
abbrev cD:=Nat->Option M
def live:bv->Bool
 | .cells .. | .map .. | .iter ..=>true
 | _=>false
def ma:bv->Nat
 | .map ..=>1
 | .iter ..=>2
 | _=>0
def ka (h:aR) (μ:cD) (k:Nat) :Prop:=∃ b m,live (h.f b)=true/\μ b=some m/\m.r=k
def sE (h:aR) (b sz:Nat) :Prop:=h.f b=.dead\/∃ n cs,h.f b=.cells n cs/\sz<n
structure Cell (w:World) (R:Nat->Prop) (h:aR) (μ:cD) (b o:Nat) (v:Value) :Prop where
 here:w.cell? ⟨b,o,none⟩=some v
 one:v.oneCell'=true
 ro:R b
 free:¬ ka h μ b
inductive aU (w:World) (R:Nat->Prop) (h:aR) (μ:cD) :ae->Value->Prop where
 | bool (b:Bool) :aU w R h μ (.bool b) (.bool b)
 | int (k:IntKind) (n:Int) :aU w R h μ (.int k n) (.int k n)
 | str (bs:ByteArray) :aU w R h μ (.str bs.data.toList) (.string bs)
 | h0:aU w R h μ .h0 (.pointer none)
 | aZ:aU w R h μ .aZ (.slice none 0 0)
 | gG:aU w R h μ .gG (.map none)
 | hC:aU w R h μ .hC .nilFunc
 | hZ:aU w R h μ .hZ .nilIface
 | aV (cs:List ae) (vs:Array Value) (ar:vs.size=cs.length) (h1:∀ (j:Nat) (v:Value),vs[j]? = some v->v.oneCell'=true)
   (ax:∀ (j:Nat) (c:ae) (v:Value),cs[j]? = some c->vs[j]? = some v->aU w R h μ c v) :aU w R h μ (.aV cs) (.agg vs)
 | bP (cs:List ae) (vs:Array Value) (ar:vs.size=cs.length)
   (ax:∀ (j:Nat) (c:ae) (v:Value),cs[j]? = some c->vs[j]? = some v->aU w R h μ c v) :aU w R h μ (.bP cs) (.tuple vs)
 | ptr (b off sz:Nat) (cs:List ae) (m:M) (aj:h.f b=.cells sz cs) (hm:μ b=some m) :
   aU w R h μ (.ptr b off sz) (.pointer (some ⟨m.r,m.s+off,none⟩))
 | k0 (b off sz:Nat) (a:Addr) (ay:sE h b sz) :aU w R h μ (.ptr b off sz) (.pointer (some a))
 | cp (cs:List ae) (off blk o:Nat) (dI:Nat->Value) (al:∀ j,j<cs.length->Cell w R h μ blk (o+j) (dI j))
   (ax:∀ (j:Nat) (c:ae),cs[j]? = some c->aU w R h μ c (dI j)) :aU w R h μ (.cp cs off) (.pointer (some ⟨blk,o+off,none⟩))
 | ao (z b off len cap sz cap' : Nat) (cs:List ae) (m:M) (aj:h.f b=.cells sz cs) (hm:μ b=some m) (ar:len<=cap) (az:off+cap*z<=sz)
   (al:(off+cap*z<sz/\cap'=cap)\/(off+cap*z=sz/\cap<=cap'/\m.s+off+cap'*z<=m.T)) :
   aU w R h μ (.ao z b off len cap sz) (.slice (some ⟨m.r,m.s+off,none⟩) len cap')
 | fE (z b off len cap sz cap' : Nat) (a:Addr) (ar:len<=cap) (al:cap<=cap') (ay:sE h b sz) :aU w R h μ (.ao z b off len cap sz) (.slice (some a) len cap')
 | gR (z b off sz:Nat) (a:Addr) (cs:List ae) (m:M) (aj:h.f b=.cells sz cs) (hm:μ b=some m) :aU w R h μ (.ao z b off 0 0 sz) (.slice (some a) 0 0)
 | bW (z:Nat) (es:List (List ae)) (blk off cap:Nat) (dI:Nat->Nat->Value) (ar:es.length<=cap) (aC:∀ e,e∈es->e.length=z)
   (al:∀ i j,i<es.length->j<z->Cell w R h μ blk (off+(i*z+j)) (dI i j))
   (ax:∀ (i:Nat) (e:List ae),es[i]? = some e->∀ (j:Nat) (c:ae),e[j]? = some c->aU w R h μ c (dI i j)) :
   aU w R h μ (.bW z es) (.slice (some ⟨blk,off,none⟩) es.length cap)
 | e1 (z:Nat) (a:Addr) (cap:Nat) :aU w R h μ (.bW z []) (.slice (some a) 0 cap)
 | fn (f:FuncId) (first e6:List ae) (fs cs:Array Value) (aJ:fs.size=first.length) (al:cs.size=e6.length)
   (h1:∀ (j:Nat) (c:ae) (v:Value),first[j]? = some c->fs[j]? = some v->aU w R h μ c v) (ag:∀ (j:Nat) (c:ae) (v:Value),e6[j]? = some c->cs[j]? = some v->aU w R h μ c v) :
   aU w R h μ (.fn f first e6) (.func (.func f) fs cs)
 | mp (b:Nat) (m:M) (aj:ma (h.f b)=1) (hm:μ b=some m) :aU w R h μ (.mp b) (.map (some m.r))
 | it (b:Nat) (m:M) (aj:ma (h.f b)=2) (hm:μ b=some m) :aU w R h μ (.it b) (.pointer (some ⟨m.r,0,none⟩))
 | fK (t:TypeId) (c:ae) (v:Value) (ax:aU w R h μ c v) :aU w R h μ (.fK t c) (.iface t v)
 | kC (l:Nat) :aU w R h μ (.kC l) (.func (.yield l) #[] #[])
 | bad (v:Value) :aU w R h μ .bad v
structure Ext0 (w:World) (h:aR) (μ:cD) (w' : World) (h' : aR) (μ' : cD) :Prop where
 os:w'.os=w.os
 tape:w'.tape=w.tape
 output:w'.output=w.output
 size:w.heap.size<=w'.heap.size
 cM:∀ k,k<w.heap.size->¬ ka h μ k->w'.heap[k]? = w.heap[k]?
 own:∀ k,ka h' μ' k->ka h μ k\/w.heap.size<=k
 cells:∀ b sz cs m,h.f b=.cells sz cs->μ b=some m->(∃ cs',h'.f b=.cells sz cs'/\μ' b=some m)\/sE h' b sz
 gone:∀ b sz,sE h b sz->sE h' b sz
 Dm:∀ b k m,ma (h.f b)=k+1->μ b=some m->ma (h'.f b)=k+1/\μ' b=some m
 n:h.n<=h'.n
 drawn:w.drawn<=w'.drawn:=by first | exact Nat.le_refl _ | exact Nat.le_succ _ | assumption
structure di (w:World) (h:aR) (μ:cD) (w' : World) (h' : aR) (μ' : cD) :Prop extends Ext0 w h μ w' h' μ' where
 ou:∀ b,b<h.n->μ b=none->μ' b=none
theorem Ext0.refl (w:World) (h:aR) (μ:cD) :Ext0 w h μ w h μ:=
 ⟨rfl,rfl,rfl,Nat.le_refl _,fun _ _ _=>rfl,fun _ h=>.inl h,fun b sz cs m h1 ag=>.inl ⟨cs,h1,ag⟩,fun _ _ h=>h,fun _ _ _ h1 ag=>⟨h1,ag⟩,Nat.le_refl _,Nat.le_refl _⟩
theorem di.refl (w:World) (h:aR) (μ:cD) :di w h μ w h μ:=⟨.refl w h μ,fun _ _ h=>h⟩
theorem Ext0.trans {w b5 w2:World} {h h1 ag:aR} {μ f8 pJ:cD} (a:Ext0 w h μ b5 h1 f8) (b:Ext0 b5 h1 f8 w2 ag pJ) :Ext0 w h μ w2 ag pJ:=by
 refine⟨b.os.trans a.os,b.tape.trans a.tape,b.output.trans a.output,Nat.le_trans a.size b.size,?_,?_,?_,fun _ _ ay=>b.gone _ _ (a.gone _ _ ay),?_,Nat.le_trans a.n b.n,Nat.le_trans a.drawn b.drawn⟩
 ·intro k aF aH;rw[b.cM k (Nat.lt_of_lt_of_le aF a.size) (fun az=>(a.own k az).elim aH (by omega)),a.cM k aF aH]
 ·intro k aF;rcases b.own k aF with h | h
  ·exact a.own k h
  ·exact .inr (Nat.le_trans a.size h)
 ·intro blk sz cs m aj hm;rcases a.cells blk sz cs m aj hm with ⟨cs',aq,aK⟩ | aq
  ·exact b.cells blk sz cs' m aq aK
  ·exact .inr (b.gone _ _ aq)
 ·intro blk k m aj hm;obtain⟨aq,aK⟩:=a.Dm blk k m aj hm;exact b.Dm blk k m aq aK
theorem di.trans {w b5 w2:World} {h h1 ag:aR} {μ f8 pJ:cD} (a:di w h μ b5 h1 f8) (b:di b5 h1 f8 w2 ag pJ) :di w h μ w2 ag pJ:=
 ⟨a.toExt0.trans b.toExt0,fun blk aj hm=>b.ou blk (Nat.lt_of_lt_of_le aj a.n) (a.ou blk aj hm)⟩
theorem Cell.ext {w w' : World} {h h' : aR} {μ μ' : cD} {R:Nat->Prop} {b o:Nat} {v:Value} (e:Ext0 w h μ w' h' μ') (c:Cell w R h μ b o v) :Cell w' R h' μ' b o v:=by
 have aj:b<w.heap.size:=World.block_lt_of_cell? _ _ c.here;refine⟨?_,c.one,c.ro,fun az=>?_⟩
 ·rw[World.cell?_of_block (w:=w) (a:=⟨b,o,none⟩) (e.cM b aj c.free)]; exact c.here
 ·rcases e.own b az with h1 | h1
  ·exact c.free h1
  ·omega
theorem aU.ln {w w' : World} {h h' : aR} {μ μ' : cD} {R:Nat->Prop} {c:ae} {v:Value} (e:Ext0 w h μ w' h' μ') (ax:aU w R h μ c v) :aU w' R h' μ' c v:=by
 induction ax with
 | bool b=>exact .bool b
 | int k n=>exact .int k n
 | str bs=>exact .str bs
 | h0=>exact .h0
 | aZ=>exact .aZ
 | gG=>exact .gG
 | hC=>exact .hC
 | hZ=>exact .hZ
 | aV cs vs ar h1 ax aM=>exact .aV cs vs ar h1 aM
 | bP cs vs ar ax aM=>exact .bP cs vs ar aM
 | ptr b off sz cs m aj hm=>
  rcases e.cells b sz cs m aj hm with ⟨cs',h1,ag⟩ | h1
  ·exact .ptr b off sz cs' m h1 ag
  ·exact .k0 b off sz _ h1
 | k0 b off sz a ay=>exact .k0 b off sz a (e.gone _ _ ay)
 | cp cs off blk o dI al ax aM=>exact .cp cs off blk o dI (fun j am=>(al j am).ext e) aM
 | ao z b off len cap sz cap' cs m aj hm ar az al=>
  rcases e.cells b sz cs m aj hm with ⟨cs',h1,ag⟩ | h1
  ·exact .ao z b off len cap sz cap' cs' m h1 ag ar az al
  ·exact .fE z b off len cap sz cap' _ ar (by omega) h1
 | fE z b off len cap sz cap' a ar al ay=>exact .fE z b off len cap sz cap' a ar al (e.gone _ _ ay)
 | gR z b off sz a cs m aj hm=>
  rcases e.cells b sz cs m aj hm with ⟨cs',h1,ag⟩ | h1
  ·exact .gR z b off sz a cs' m h1 ag
  ·exact .fE z b off 0 0 sz 0 a (Nat.le_refl _) (Nat.le_refl _) h1
 | bW z es blk off cap dI ar aC al ax aM=>exact .bW z es blk off cap dI ar aC (fun i j aA am=>(al i j aA am).ext e) aM
 | e1 z a cap=>exact .e1 z a cap
 | fn f first e6 fs cs aJ al h1 ag dL ku=>exact .fn f first e6 fs cs aJ al dL ku
 | mp b m aj hm=>
  obtain⟨h1,ag⟩:=e.Dm b 0 m aj hm;exact .mp b m h1 ag
 | it b m aj hm=>
  obtain⟨h1,ag⟩:=e.Dm b 1 m aj hm;exact .it b m h1 ag
 | fK t c v ax aM=>exact .fK t c v aM
 | kC l=>exact .kC l
 | bad v=>exact .bad v
theorem aU.ext {w w' : World} {h h' : aR} {μ μ' : cD} {R:Nat->Prop} {c:ae} {v:Value} (e:di w h μ w' h' μ') (ax:aU w R h μ c v) :aU w' R h' μ' c v:=ax.ln e.toExt0
def sD (w:World) (R:Nat->Prop) (h:aR) (μ:cD) (m:M) :bv->Prop
 | .cells sz cs=>cs.length=sz/\m.s+sz<=m.T/\∃ arr e fh,w.heap[m.r]? = some (.cells arr e fh)/\arr.size=m.T/\(fh=(0,0)\/m.T<fh.1) ∧
   ∀ (j:Nat) (c:ae),cs[j]? = some c->∃ v:Value,arr[m.s+j]? = some v/\v.oneCell'=true/\aU w R h μ c v
 | .map es dX=>∃ de,w.heap[m.r]? = some (.map de dX)/\de.size=es.length ∧
   ∀ (j:Nat) (k v:ae) (b:Nat),es[j]? = some (k,v,b)->∃ x:MapEntry,de[j]? = some x/\aU w R h μ k x.key/\aU w R h μ v x.val/\x.born=b
 | .iter s pos=>∃ bs:ByteArray,bs.data.toList=s/\w.heap[m.r]? = some (.stringIter bs pos)
 | _=>True
theorem sD.ext {w w' : World} {h h' : aR} {μ μ' : cD} {R:Nat->Prop} {m:M} (e:Ext0 w h μ w' h' μ') (bx:w'.heap[m.r]? = w.heap[m.r]?) :
  ∀ {c:bv},sD w R h μ m c->sD w' R h' μ' m c
 | .cells sz cs,⟨h1,ag,arr,t,fh,aq,aK,bg,bL⟩=>⟨h1,ag,arr,t,fh,bx.trans aq,aK,bg,fun j c am=>let ⟨v,a,b,d⟩:=bL j c am; ⟨v,a,b,d.ln e⟩⟩
 | .map es dX,⟨de,h1,ag,aq⟩=>⟨de,bx.trans h1,ag,fun j k v b am=>let ⟨x,a,dV,d,f⟩:=aq j k v b am; ⟨x,a,dV.ln e,d.ln e,f⟩⟩
 | .iter s pos,⟨bs,h1,ag⟩=>⟨bs,h1,bx.trans ag⟩
 | .none,_=>trivial
 | .dead,_=>trivial
structure b6 (R:Nat->Prop) (B:Nat) (w:World) (h:aR) (μ:cD) :Prop where
 blk:∀ b m,μ b=some m->sD w R h μ m (h.f b)
 inj:∀ b bu m ck,live (h.f b)=true->live (h.f bu)=true->μ b=some m->μ bu=some ck->m.r=ck.r->b=bu
 base:∀ b m,live (h.f b)=true->μ b=some m->B<=m.r
 fresh:∀ b,h.n<=b->h.f b=.none
 up:∀ k,B<=k->R k
 size:B<=w.heap.size
 jJ:∀ b,h.n<=b->μ b=none
theorem b6.pT {R:Nat->Prop} {B:Nat} {w:World} {h:aR} {μ:cD} (rel:b6 R B w h μ) {b:Nat} {m:M} (hm:μ b=some m) :b<h.n:=by
 rcases Nat.lt_or_ge b h.n with h1 | h1
 ·exact h1
 ·rw[rel.jJ b h1] at hm; cases hm
theorem b6.lt {R:Nat->Prop} {B:Nat} {w:World} {h:aR} {μ:cD} (rel:b6 R B w h μ) {b:Nat} {m:M} (ar:live (h.f b)=true) (hm:μ b=some m) :m.r<w.heap.size:=by
 have aj:=rel.blk b m hm;cases al:h.f b with
 | none=>rw[al] at ar; cases ar
 | dead=>rw[al] at ar; cases ar
 | cells sz cs=>
  rw[al] at aj;obtain⟨_,_,arr,t,fh,aq,_⟩:=aj;rcases Nat.lt_or_ge m.r w.heap.size with h | h
  ·exact h
  ·rw[Array.getElem?_eq_none h] at aq; cases aq
 | map es dX=>
  rw[al] at aj;obtain⟨de,aq,_⟩:=aj;rcases Nat.lt_or_ge m.r w.heap.size with h | h
  ·exact h
  ·rw[Array.getElem?_eq_none h] at aq; cases aq
 | iter s pos=>
  rw[al] at aj;obtain⟨bs,_,aq⟩:=aj;rcases Nat.lt_or_ge m.r w.heap.size with h | h
  ·exact h
  ·rw[Array.getElem?_eq_none h] at aq; cases aq
theorem b6.sA {R:Nat->Prop} {B:Nat} {w w' : World} {h h' : aR} {μ μ' : cD} (rel:b6 R B w h μ) (e:Ext0 w h μ w' h' μ') (gb:Nat)
  (nZ:∀ b,b≠gb->live (h'.f b)=true->h'.f b=h.f b/\μ' b=μ b/\∀ m,μ b=some m->w'.heap[m.r]? = w.heap[m.r]?)
  (jv:∀ m,μ' gb=some m->sD w' R h' μ' m (h'.f gb))
  (gg:∀ b m ck,b≠gb->live (h'.f b)=true->live (h'.f gb)=true->μ b=some m->μ' gb=some ck->m.r≠ck.r)
  (B6:∀ m,live (h'.f gb)=true->μ' gb=some m->B<=m.r)
  (ah1:∀ b,h'.n<=b->h'.f b=.none) (aiG:∀ b,h'.n<=b->μ' b=none) :b6 R B w' h' μ':=by
 refine⟨?_,?_,?_,ah1,rel.up,Nat.le_trans rel.size e.size,aiG⟩
 ·intro b m hm;by_cases aj:b=gb
  ·subst aj; exact jv m hm
  ·cases ar:live (h'.f b) with
   | false=>cases al:h'.f b<;>first | trivial | (rw[al] at ar; cases ar)
   | true=>
    obtain⟨h1,ag,aq⟩:=nZ b aj ar;rw[ag] at hm;rw[h1];exact (rel.blk b m hm).ext e (aq m hm)
 ·intro b bu m ck ar c1 hm b1 aD;by_cases aj:b=gb<;>by_cases bK:bu=gb
  ·rw[aj,bK]
  ·subst aj;obtain⟨h1,ag,aq⟩:=nZ bu bK c1;rw[ag] at b1;exact absurd aD.symm (gg bu ck m bK c1 ar b1 hm)
  ·subst bK;obtain⟨h1,ag,aq⟩:=nZ b aj ar;rw[ag] at hm;exact absurd aD (gg b m ck aj ar c1 hm b1)
  ·obtain⟨h1,ag,_⟩:=nZ b aj ar;obtain⟨aq,aK,_⟩:=nZ bu bK c1;rw[h1] at ar; rw[ag] at hm; rw[aq] at c1; rw[aK] at b1;exact rel.inj b bu m ck ar c1 hm b1 aD
 ·intro b m ar hm;by_cases aj:b=gb
  ·subst aj; exact B6 m ar hm
  ·obtain⟨h1,ag,_⟩:=nZ b aj ar;rw[h1] at ar; rw[ag] at hm;exact rel.base b m ar hm
theorem b6.push {R:Nat->Prop} {B:Nat} {w w' : World} {h:aR} {μ:cD} (rel:b6 R B w h μ) (cs:List ae) (arr:Array Value) (t:TypeId)
  (nY:w'.os=w.os) (rX:w'.tape=w.tape) (jV:w'.output=w.output) (iz:w'.heap=w.heap.push (.cells arr t (0,0)))
  (gE:cs.length<=arr.size) (ax:∀ (j:Nat) (c:ae),cs[j]? = some c->∃ v:Value,arr[j]? = some v/\v.oneCell'=true/\aU w R h μ c v) (oT:w.drawn<=w'.drawn:=by first | exact Nat.le_refl _ | exact Nat.le_succ _ | assumption) :
  di w h μ w' (h.push (.cells cs.length cs)) (bM μ h.n (some ⟨w.heap.size,0,arr.size⟩)) ∧
  b6 R B w' (h.push (.cells cs.length cs)) (bM μ h.n (some ⟨w.heap.size,0,arr.size⟩)) :=by
 have aH:h.f h.n=.none:=rel.fresh _ (Nat.le_refl _);have e:di w h μ w' (h.push (.cells cs.length cs)) (bM μ h.n (some ⟨w.heap.size,0,arr.size⟩)) :=by
  refine⟨⟨nY,rX,jV,by simp[iz],?_,?_,?_,?_,?_,?_,oT⟩,?_⟩
  ·intro k aF _;rw[iz,Array.getElem?_push,if_neg (by omega)]
  ·rintro k ⟨b,m,ar,hm,rfl⟩;by_cases aj:b=h.n
   ·subst aj; simp at hm; subst hm; exact .inr (Nat.le_refl _)
   ·rw[ca _ _ _ _ aj] at hm;simp only[dH,eK,ca _ _ _ _ aj] at ar;exact .inl ⟨b,m,ar,hm,rfl⟩
  ·intro b sz cs' m aj hm;have:b≠h.n:=fun aQ=>by rw[aQ,aH] at aj; cases aj
   exact .inl ⟨cs',by simp only[dH,eK,ca _ _ _ _ this]; exact aj,by rw[ca _ _ _ _ this]; exact hm⟩
  ·rintro b sz (aj | ⟨n,cs',aj,aS⟩)
   ·have:b≠h.n:=fun aQ=>by rw[aQ,aH] at aj; cases aj
    exact .inl (by simp only[dH,eK,ca _ _ _ _ this]; exact aj)
   ·have:b≠h.n:=fun aQ=>by rw[aQ,aH] at aj; cases aj
    exact .inr ⟨n,cs',by simp only[dH,eK,ca _ _ _ _ this]; exact aj,aS⟩
  ·intro b k m aj hm;have:b≠h.n:=fun aQ=>by rw[aQ,aH] at aj; cases aj
   exact⟨by simp only[dH,eK,ca _ _ _ _ this]; exact aj,by rw[ca _ _ _ _ this]; exact hm⟩
  ·simp[dH,eK]
  ·intro b aj hm;rw[ca _ _ _ _ (by omega)]; exact hm
 refine⟨e,rel.sA e.toExt0 h.n ?_ ?_ ?_ ?_ ?_ ?_⟩
 ·intro b aj ar;simp only[dH,eK,ca _ _ _ _ aj] at ar ⊢;exact⟨trivial,trivial,fun m hm=>by rw[iz,Array.getElem?_push,if_neg (by have:=rel.lt ar hm; omega)]⟩
 ·intro m hm;simp at hm; subst hm;simp only[dH,eK,iy];refine⟨rfl,by simpa using gE,arr,t,(0,0),by simp[iz],rfl,.inl rfl,fun j c am=>?_⟩;obtain⟨v,h1,ag,aq⟩:=ax j c am;exact⟨v,by simpa using h1,ag,aq.ext e⟩
 ·intro b m ck aj ar _ hm b1;simp only[dH,eK,ca _ _ _ _ aj] at ar;simp at b1; subst b1;have:=rel.lt ar hm;simp only[ne_eq]; omega
 ·intro m _ hm;simp at hm; subst hm;exact rel.size
 ·intro b aj;simp only[dH,eK] at aj ⊢;rw[ca _ _ _ _ (by omega)];exact rel.fresh b (by omega)
 ·intro b aj;simp only[dH,eK] at aj;rw[ca _ _ _ _ (by omega)];exact rel.jJ b (by omega)
theorem b6.same {R:Nat->Prop} {B:Nat} {w:World} {h h' : aR} {μ:cD} (rel:b6 R B w h μ) (aJ:h'.f=h.f) (aH:h'.n=h.n) :di w h μ w h' μ/\b6 R B w h' μ:=by
 have e:di w h μ w h' μ:=by
  refine⟨⟨rfl,rfl,rfl,Nat.le_refl _,fun _ _ _=>rfl,?_,?_,?_,?_,by omega,Nat.le_refl _⟩,fun _ _ hm=>hm⟩
  ·rintro k ⟨bu,ck,c1,b1,rfl⟩;rw[aJ] at c1; exact .inl ⟨bu,ck,c1,b1,rfl⟩
  ·intro bu sz' cs' ck bK b1;exact .inl ⟨cs',by rw[aJ]; exact bK,b1⟩
  ·intro bu sz' ay;unfold sE at ay ⊢; rw[aJ]; exact ay
  ·intro bu k' ck bK b1;exact⟨by rw[aJ]; exact bK,b1⟩
 refine⟨e,rel.sA e.toExt0 h.n (fun b _ _=>⟨by rw[aJ],rfl,fun _ _=>rfl⟩) (fun m hm=>?_) (fun b m ck _ _ _ _ hm=>?_) (fun m _ hm=>?_) (fun b aj=>by rw[aJ]; exact rel.fresh b (by omega)) (by rw[aH]; exact rel.jJ)⟩
 all_goals (rw[rel.jJ h.n (Nat.le_refl _)] at hm; cases hm)
theorem b6.kill {R:Nat->Prop} {B:Nat} {w:World} {h h' : aR} {μ:cD} (rel:b6 R B w h μ) {b sz:Nat} {cs:List ae} (aj:h.f b=.cells sz cs) (mI:b<h.n)
  (aJ:h'.f=bM h.f b .dead) (aH:h'.n=h.n) :di w h μ w h' μ/\b6 R B w h' μ:=by
 have e:di w h μ w h' μ:=by
  refine⟨⟨rfl,rfl,rfl,Nat.le_refl _,fun _ _ _=>rfl,?_,?_,?_,?_,by omega,Nat.le_refl _⟩,fun _ _ hm=>hm⟩
  ·rintro k ⟨bu,ck,c1,b1,rfl⟩;rw[aJ] at c1;by_cases b4:bu=b
   ·subst b4; simp[live] at c1
   ·rw[ca _ _ _ _ b4] at c1; exact .inl ⟨bu,ck,c1,b1,rfl⟩
  ·intro bu sz' cs' ck bK b1;by_cases b4:bu=b
   ·subst b4; exact .inr (.inl (by rw[aJ]; simp))
   ·exact .inl ⟨cs',by rw[aJ,ca _ _ _ _ b4]; exact bK,b1⟩
  ·rintro bu sz' ay;by_cases b4:bu=b
   ·subst b4; exact .inl (by rw[aJ]; simp)
   ·rcases ay with ay | ⟨n,cs',ay,aS⟩
    ·exact .inl (by rw[aJ,ca _ _ _ _ b4]; exact ay)
    ·exact .inr ⟨n,cs',by rw[aJ,ca _ _ _ _ b4]; exact ay,aS⟩
  ·intro bu k' ck bK b1;by_cases b4:bu=b
   ·subst b4; rw[aj] at bK; cases bK
   ·exact⟨by rw[aJ,ca _ _ _ _ b4]; exact bK,b1⟩
 refine⟨e,rel.sA e.toExt0 b ?_ ?_ ?_ ?_ ?_ (by rw[aH]; exact rel.jJ)⟩
 ·intro bu b4 ar;rw[aJ,ca _ _ _ _ b4];exact⟨rfl,rfl,fun _ _=>rfl⟩
 ·intro m _;rw[aJ]; simp[sD]
 ·intro bu m ck _ _ ar;rw[aJ] at ar; simp[live] at ar
 ·intro m ar;rw[aJ] at ar; simp[live] at ar
 ·intro bu bK;rw[aJ,ca _ _ _ _ (by omega)];exact rel.fresh bu (by omega)
theorem b6.abf {R:Nat->Prop} {B:Nat} {w:World} {h h' : aR} {μ:cD} (rel:b6 R B w h μ) {b sz off:Nat} {cs:List ae} {m:M} (aj:h.f b=.cells sz cs) (hm:μ b=some m) (az:off<=sz)
  (aJ:h'.f=bM (bM h.f b .dead) h.n (.cells (sz - off) (cs.drop off))) (aH:h'.n=h.n+1) :
  di w h μ w h' (bM μ h.n (some ⟨m.r,m.s+off,m.T⟩))/\b6 R B w h' (bM μ h.n (some ⟨m.r,m.s+off,m.T⟩)) :=by
 have mI:=rel.pT hm;have vi:h.f h.n=.none:=rel.fresh _ (Nat.le_refl _);have jA:live (h.f b)=true:=by rw[aj]; rfl
 have e:di w h μ w h' (bM μ h.n (some ⟨m.r,m.s+off,m.T⟩)) :=by
  refine⟨⟨rfl,rfl,rfl,Nat.le_refl _,fun _ _ _=>rfl,?_,?_,?_,?_,by omega,Nat.le_refl _⟩,fun bu bK b1=>by rw[ca _ _ _ _ (by omega)]; exact b1⟩
  ·rintro k ⟨bu,ck,c1,b1,rfl⟩;rw[aJ] at c1;by_cases iV:bu=h.n
   ·subst iV; simp at b1; subst b1; exact .inl ⟨b,m,jA,hm,rfl⟩
   ·rw[ca _ _ _ _ iV] at c1 b1;by_cases b4:bu=b
    ·subst b4; simp[live] at c1
    ·rw[ca _ _ _ _ b4] at c1; exact .inl ⟨bu,ck,c1,b1,rfl⟩
  ·intro bu sz' cs' ck bK b1;have iV:bu≠h.n:=fun aQ=>by rw[aQ,vi] at bK; cases bK
   by_cases b4:bu=b
   ·subst b4; exact .inr (.inl (by rw[aJ,ca _ _ _ _ iV]; simp))
   ·exact .inl ⟨cs',by rw[aJ,ca _ _ _ _ iV,ca _ _ _ _ b4]; exact bK,by rw[ca _ _ _ _ iV]; exact b1⟩
  ·rintro bu sz' ay;have iV:bu≠h.n:=fun aQ=>by
    subst aQ;rcases ay with ay | ⟨n,cs',ay,_⟩
    ·rw[vi] at ay; cases ay
    ·rw[vi] at ay; cases ay
   by_cases b4:bu=b
   ·subst b4; exact .inl (by rw[aJ,ca _ _ _ _ iV]; simp)
   ·rcases ay with ay | ⟨n,cs',ay,aS⟩
    ·exact .inl (by rw[aJ,ca _ _ _ _ iV,ca _ _ _ _ b4]; exact ay)
    ·exact .inr ⟨n,cs',by rw[aJ,ca _ _ _ _ iV,ca _ _ _ _ b4]; exact ay,aS⟩
  ·intro bu k' ck bK b1;have iV:bu≠h.n:=fun aQ=>by rw[aQ,vi] at bK; cases bK
   by_cases b4:bu=b
   ·subst b4; rw[aj] at bK; cases bK
   ·exact⟨by rw[aJ,ca _ _ _ _ iV,ca _ _ _ _ b4]; exact bK,by rw[ca _ _ _ _ iV]; exact b1⟩
 have nZ:∀ bu,bu≠h.n->live (h'.f bu)=true->bu≠b/\h'.f bu=h.f bu:=fun bu iV ar=>by
  rw[aJ,ca _ _ _ _ iV] at ar ⊢;by_cases b4:bu=b
  ·subst b4; simp[live] at ar
  ·exact⟨b4,by rw[ca _ _ _ _ b4]⟩
 refine⟨e,rel.sA e.toExt0 h.n ?_ ?_ ?_ ?_ ?_ ?_⟩
 ·intro bu iV ar;exact⟨(nZ bu iV ar).2,by rw[ca _ _ _ _ iV],fun _ _=>rfl⟩
 ·intro ck b1;simp at b1; subst b1;rw[aJ,iy];have dY:=rel.blk b m hm;rw[aj] at dY;obtain⟨h1,ag,arr,t,fh,aq,aK,bg,bL⟩:=dY;refine⟨by simp; omega,by simp only; omega,arr,t,fh,aq,aK,bg,fun j c am=>?_⟩;rw[List.getElem?_drop] at am;obtain⟨v,bt,bE,a3⟩:=bL (off+j) c am;exact⟨v,by simp only; rw[Nat.add_assoc]; exact bt,bE,a3.ext e⟩
 ·intro bu i8 iF iV ar _ h1 ag aQ;simp at ag; subst ag;obtain⟨b4,gC⟩:=nZ bu iV ar;rw[gC] at ar;exact b4 (rel.inj bu b i8 m ar jA h1 hm aQ)
 ·intro ck _ b1;simp at b1; subst b1;exact rel.base b m jA hm
 ·intro bu bK;rw[aJ,ca _ _ _ _ (by omega),ca _ _ _ _ (by omega)];exact rel.fresh bu (by omega)
 ·intro bu bK;rw[ca _ _ _ _ (by omega)];exact rel.jJ bu (by omega)
theorem b6.X3 {R:Nat->Prop} {B:Nat} {w w' : World} {h:aR} {μ:cD} (rel:b6 R B w h μ) (c:bv) (o:Obj) {k:Nat} (aF:ma c=k+1)
  (nY:w'.os=w.os) (rX:w'.tape=w.tape) (jV:w'.output=w.output) (iz:w'.heap=w.heap.push o)
  (dP:sD w' R (h.push c) (bM μ h.n (some ⟨w.heap.size,0,0⟩)) ⟨w.heap.size,0,0⟩ c) (oT:w.drawn<=w'.drawn:=by first | exact Nat.le_refl _ | exact Nat.le_succ _ | assumption) :
  di w h μ w' (h.push c) (bM μ h.n (some ⟨w.heap.size,0,0⟩))/\b6 R B w' (h.push c) (bM μ h.n (some ⟨w.heap.size,0,0⟩)) :=by
 have aH:h.f h.n=.none:=rel.fresh _ (Nat.le_refl _);have Uo:ma bv.none=0:=rfl;have e:di w h μ w' (h.push c) (bM μ h.n (some ⟨w.heap.size,0,0⟩)) :=by
  refine⟨⟨nY,rX,jV,by simp[iz],?_,?_,?_,?_,?_,?_,oT⟩,?_⟩
  ·intro k aF _;rw[iz,Array.getElem?_push,if_neg (by omega)]
  ·rintro k ⟨b,m,ar,hm,rfl⟩;by_cases aj:b=h.n
   ·subst aj; simp at hm; subst hm; exact .inr (Nat.le_refl _)
   ·rw[ca _ _ _ _ aj] at hm;simp only[dH,eK,ca _ _ _ _ aj] at ar;exact .inl ⟨b,m,ar,hm,rfl⟩
  ·intro b sz cs' m aj hm;have:b≠h.n:=fun aQ=>by rw[aQ,aH] at aj; cases aj
   exact .inl ⟨cs',by simp only[dH,eK,ca _ _ _ _ this]; exact aj,by rw[ca _ _ _ _ this]; exact hm⟩
  ·rintro b sz (aj | ⟨n,cs',aj,aS⟩)
   ·have:b≠h.n:=fun aQ=>by rw[aQ,aH] at aj; cases aj
    exact .inl (by simp only[dH,eK,ca _ _ _ _ this]; exact aj)
   ·have:b≠h.n:=fun aQ=>by rw[aQ,aH] at aj; cases aj
    exact .inr ⟨n,cs',by simp only[dH,eK,ca _ _ _ _ this]; exact aj,aS⟩
  ·intro b k m aj hm;have:b≠h.n:=fun aQ=>by rw[aQ,aH] at aj; cases aj
   exact⟨by simp only[dH,eK,ca _ _ _ _ this]; exact aj,by rw[ca _ _ _ _ this]; exact hm⟩
  ·simp[dH,eK]
  ·intro b aj hm;rw[ca _ _ _ _ (by omega)]; exact hm
 refine⟨e,rel.sA e.toExt0 h.n ?_ ?_ ?_ ?_ ?_ ?_⟩
 ·intro b aj ar;simp only[dH,eK,ca _ _ _ _ aj] at ar ⊢;exact⟨trivial,trivial,fun m hm=>by rw[iz,Array.getElem?_push,if_neg (by have:=rel.lt ar hm; omega)]⟩
 ·intro m hm;simp at hm; subst hm;simp only[dH,eK,iy];exact dP
 ·intro b m ck aj ar _ hm b1;simp only[dH,eK,ca _ _ _ _ aj] at ar;simp at b1; subst b1;have:=rel.lt ar hm;simp only[ne_eq]; omega
 ·intro m _ hm;simp at hm; subst hm;exact rel.size
 ·intro b aj;simp only[dH,eK] at aj ⊢;rw[ca _ _ _ _ (by omega)];exact rel.fresh b (by omega)
 ·intro b aj;simp only[dH,eK] at aj ⊢;rw[ca _ _ _ _ (by omega)];exact rel.jJ b (by omega)
theorem b6.X7 {R:Nat->Prop} {B:Nat} {w w' : World} {h:aR} {μ:cD} (rel:b6 R B w h μ) {b k:Nat} {c c' : bv} {m:M}
  (aj:h.f b=c) (aF:ma c=k+1) (ed:ma c'=k+1) (hm:μ b=some m)
  (nY:w'.os=w.os) (rX:w'.tape=w.tape) (jV:w'.output=w.output) (n5:w'.heap.size=w.heap.size) (zF:∀ k,k≠m.r->w'.heap[k]? = w.heap[k]?)
  (dP:Ext0 w h μ w' (h.set b c') μ->sD w' R (h.set b c') μ m c') (oT:w.drawn<=w'.drawn:=by first | exact Nat.le_refl _ | exact Nat.le_succ _ | assumption) :
  di w h μ w' (h.set b c') μ/\b6 R B w' (h.set b c') μ:=by
 have jA:live (h.f b)=true:=by rw[aj]; cases c<;>simp[ma] at aF<;>rfl
 have ata:live c'=true:=by cases c'<;>simp[ma] at ed<;>rfl
 have IF:∀ sz cs,h.f b≠.cells sz cs:=fun sz cs aQ=>by rw[aj] at aQ; subst aQ; simp[ma] at aF
 have zt:h.f b≠.dead:=fun aQ=>by rw[aj] at aQ; subst aQ; simp[ma] at aF
 have e:di w h μ w' (h.set b c') μ:=by
  refine⟨⟨nY,rX,jV,Nat.le_of_eq n5.symm,?_,?_,?_,?_,?_,Nat.le_refl _,oT⟩,fun _ _ hm=>hm⟩
  ·intro k aF aH;exact zF k (fun aQ=>aH ⟨b,m,jA,hm,aQ.symm⟩)
  ·rintro k ⟨bu,ck,c1,b1,rfl⟩;by_cases b4:bu=b
   ·subst b4; exact .inl ⟨bu,ck,jA,b1,rfl⟩
   ·simp only[dn,ca _ _ _ _ b4] at c1;exact .inl ⟨bu,ck,c1,b1,rfl⟩
  ·intro bu sz cs ck bK b1;have b4:bu≠b:=fun aQ=>by subst aQ; exact IF _ _ bK
   exact .inl ⟨cs,by simp only[dn,ca _ _ _ _ b4]; exact bK,b1⟩
  ·rintro bu sz (ay | ⟨n,cs',ay,aS⟩)
   ·have b4:bu≠b:=fun aQ=>by subst aQ; exact zt ay
    exact .inl (by simp only[dn,ca _ _ _ _ b4]; exact ay)
   ·have b4:bu≠b:=fun aQ=>by subst aQ; exact IF _ _ ay
    exact .inr ⟨n,cs',by simp only[dn,ca _ _ _ _ b4]; exact ay,aS⟩
  ·intro bu k' ck bK b1;by_cases b4:bu=b
   ·subst b4;refine⟨?_,b1⟩;simp only[dn,iy];rw[aj,aF] at bK;rw[ed]; exact bK
   ·exact⟨by simp only[dn,ca _ _ _ _ b4]; exact bK,b1⟩
 refine⟨e,rel.sA e.toExt0 b ?_ ?_ ?_ ?_ ?_ rel.jJ⟩
 ·intro bu b4 ar;simp only[dn,ca _ _ _ _ b4] at ar ⊢;exact⟨trivial,trivial,fun ck b1=>zF _ (fun aQ=>b4 (rel.inj bu b ck m ar jA b1 hm aQ))⟩
 ·intro ck b1;rw[hm] at b1; cases b1;simp only[dn,iy];exact dP e.toExt0
 ·intro bu i8 iF b4 ar _ h1 ag aQ;rw[hm] at ag; cases ag;simp only[dn,ca _ _ _ _ b4] at ar;exact b4 (rel.inj bu b i8 m ar jA h1 hm aQ)
 ·intro ck _ b1;rw[hm] at b1; cases b1;exact rel.base b m jA hm
 ·intro bu bK;by_cases b4:bu=b
  ·subst b4;have:=rel.pT hm;simp only[ef] at bK; omega
  ·simp only[dn,ca _ _ _ _ b4]; exact rel.fresh bu bK
theorem b6.write {R:Nat->Prop} {B:Nat} {w w' : World} {h:aR} {μ:cD} (rel:b6 R B w h μ) {b sz sz' : Nat} {cs cs' : List ae} {m:M} {arr arr' : Array Value} {t:TypeId} {fh:Nat × Nat}
  (aj:h.f b=.cells sz cs) (hm:μ b=some m) (aD:w.heap[m.r]? = some (.cells arr t fh)) (eu:arr.size=m.T) (ko:fh=(0,0)\/m.T<fh.1)
  (nY:w'.os=w.os) (rX:w'.tape=w.tape) (jV:w'.output=w.output) (n5:w'.heap.size=w.heap.size)
  (zG:w'.heap[m.r]? = some (.cells arr' t fh)) (zF:∀ k,k≠m.r->w'.heap[k]? = w.heap[k]?) (aI:arr'.size=arr.size)
  (ar:cs'.length=sz') (nR:sz<=sz') (dF:m.s+sz'<=m.T)
  (ax:∀ (j:Nat) (c:ae),cs'[j]? = some c->∃ v:Value,arr'[m.s+j]? = some v/\v.oneCell'=true/\aU w R h μ c v) (oT:w.drawn<=w'.drawn:=by first | exact Nat.le_refl _ | exact Nat.le_succ _ | assumption) :
  di w h μ w' (h.set b (.cells sz' cs')) μ/\b6 R B w' (h.set b (.cells sz' cs')) μ:=by
 have jA:live (h.f b)=true:=by rw[aj]; rfl
 have e:di w h μ w' (h.set b (.cells sz' cs')) μ:=by
  refine⟨⟨nY,rX,jV,Nat.le_of_eq n5.symm,?_,?_,?_,?_,?_,Nat.le_refl _,oT⟩,fun _ _ hm=>hm⟩
  ·intro k aF aH;exact zF k (fun aQ=>aH ⟨b,m,jA,hm,aQ.symm⟩)
  ·rintro k ⟨bu,ck,c1,b1,rfl⟩;by_cases b4:bu=b
   ·subst b4; exact .inl ⟨bu,ck,jA,b1,rfl⟩
   ·simp only[dn,ef,ca _ _ _ _ b4] at c1;exact .inl ⟨bu,ck,c1,b1,rfl⟩
  ·intro bu aoX lV ck bK b1;by_cases b4:bu=b
   ·subst b4;rw[aj] at bK; cases bK;by_cases au:sz'=sz
    ·exact .inl ⟨cs',by simp[dn,ef,au],b1⟩
    ·exact .inr (.inr ⟨sz',cs',by simp[dn,ef],by omega⟩)
   ·exact .inl ⟨lV,by simp only[dn,ef,ca _ _ _ _ b4]; exact bK,b1⟩
  ·rintro bu s0 (bK | ⟨n,lV,bK,aS⟩)
   ·have b4:bu≠b:=fun aQ=>by rw[aQ,aj] at bK; cases bK
    exact .inl (by simp only[dn,ef,ca _ _ _ _ b4]; exact bK)
   ·by_cases b4:bu=b
    ·subst b4;rw[aj] at bK; cases bK;exact .inr ⟨sz',cs',by simp[dn,ef],by omega⟩
    ·exact .inr ⟨n,lV,by simp only[dn,ef,ca _ _ _ _ b4]; exact bK,aS⟩
  ·intro bu k ck bK b1;have b4:bu≠b:=fun aQ=>by rw[aQ,aj] at bK; cases bK
   exact⟨by simp only[dn,ef,ca _ _ _ _ b4]; exact bK,b1⟩
 refine⟨e,rel.sA e.toExt0 b ?_ ?_ ?_ ?_ ?_ ?_⟩
 ·intro bu b4 c1;simp only[dn,ef,ca _ _ _ _ b4] at c1 ⊢;exact⟨trivial,trivial,fun ck b1=>zF _ (fun aQ=>b4 (rel.inj bu b ck m c1 jA b1 hm aQ))⟩
 ·intro ck b1;rw[hm] at b1; cases b1;simp only[dn,ef,iy];refine⟨ar,dF,arr',t,fh,zG,aI.trans eu,ko,fun j c am=>?_⟩;obtain⟨v,h1,ag,aq⟩:=ax j c am;exact⟨v,h1,ag,aq.ext e⟩
 ·intro bu ck alk b4 c1 _ b1 zp aQ;rw[hm] at zp; cases zp;simp only[dn,ef,ca _ _ _ _ b4] at c1;exact b4 (rel.inj bu b ck m c1 jA b1 hm aQ)
 ·intro ck _ b1;exact rel.base b ck jA b1
 ·intro bu bK;simp only[dn,ef] at bK ⊢;have b4:bu≠b:=fun aQ=>by
   have:=rel.fresh bu bK;rw[aQ,aj] at this; cases this
  rw[ca _ _ _ _ b4];exact rel.fresh bu bK
 ·intro bu bK;exact rel.jJ bu bK
theorem b6.move {R:Nat->Prop} {B:Nat} {w w' : World} {h:aR} {μ:cD} (rel:b6 R B w h μ) {b sz sz' : Nat} {cs cs' : List ae} {m:M} {arr:Array Value} {t:TypeId}
  (aj:h.f b=.cells sz cs) (hm:μ b=some m)
  (nY:w'.os=w.os) (rX:w'.tape=w.tape) (jV:w'.output=w.output) (iz:w'.heap=w.heap.push (.cells arr t (0,0)))
  (ar:cs'.length=sz') (nR:sz<sz') (dF:sz'<=arr.size)
  (ax:∀ (j:Nat) (c:ae),cs'[j]? = some c->∃ v:Value,arr[j]? = some v/\v.oneCell'=true/\aU w R h μ c v) (oT:w.drawn<=w'.drawn:=by first | exact Nat.le_refl _ | exact Nat.le_succ _ | assumption) :
  di w h μ w' (h.set b (.cells sz' cs')) (bM μ b (some ⟨w.heap.size,0,arr.size⟩))/\b6 R B w' (h.set b (.cells sz' cs')) (bM μ b (some ⟨w.heap.size,0,arr.size⟩)) :=by
 have jA:live (h.f b)=true:=by rw[aj]; rfl
 have e:di w h μ w' (h.set b (.cells sz' cs')) (bM μ b (some ⟨w.heap.size,0,arr.size⟩)) :=by
  refine⟨⟨nY,rX,jV,by simp[iz],?_,?_,?_,?_,?_,Nat.le_refl _,oT⟩,?_⟩
  ·intro k aF aH;rw[iz,Array.getElem?_push,if_neg (by omega)]
  ·rintro k ⟨bu,ck,c1,b1,rfl⟩;by_cases b4:bu=b
   ·subst b4; simp at b1; subst b1; exact .inr (Nat.le_refl _)
   ·rw[ca _ _ _ _ b4] at b1;simp only[dn,ef,ca _ _ _ _ b4] at c1;exact .inl ⟨bu,ck,c1,b1,rfl⟩
  ·intro bu aoX lV ck bK b1;by_cases b4:bu=b
   ·subst b4;rw[aj] at bK; cases bK;exact .inr (.inr ⟨sz',cs',by simp[dn,ef],by omega⟩)
   ·exact .inl ⟨lV,by simp only[dn,ef,ca _ _ _ _ b4]; exact bK,by rw[ca _ _ _ _ b4]; exact b1⟩
  ·rintro bu s0 (bK | ⟨n,lV,bK,aS⟩)
   ·have b4:bu≠b:=fun aQ=>by rw[aQ,aj] at bK; cases bK
    exact .inl (by simp only[dn,ef,ca _ _ _ _ b4]; exact bK)
   ·by_cases b4:bu=b
    ·subst b4;rw[aj] at bK; cases bK;exact .inr ⟨sz',cs',by simp[dn,ef],by omega⟩
    ·exact .inr ⟨n,lV,by simp only[dn,ef,ca _ _ _ _ b4]; exact bK,aS⟩
  ·intro bu k ck bK b1;have b4:bu≠b:=fun aQ=>by rw[aQ,aj] at bK; cases bK
   exact⟨by simp only[dn,ef,ca _ _ _ _ b4]; exact bK,by rw[ca _ _ _ _ b4]; exact b1⟩
  ·intro bu _ b1;have b4:bu≠b:=fun aQ=>by rw[aQ,hm] at b1; cases b1
   rw[ca _ _ _ _ b4]; exact b1
 refine⟨e,rel.sA e.toExt0 b ?_ ?_ ?_ ?_ ?_ ?_⟩
 ·intro bu b4 c1;simp only[dn,ef,ca _ _ _ _ b4] at c1 ⊢;exact⟨trivial,trivial,fun ck b1=>by rw[iz,Array.getElem?_push,if_neg (by have:=rel.lt c1 b1; omega)]⟩
 ·intro ck b1;simp at b1; subst b1;simp only[dn,ef,iy];refine⟨ar,by simpa using dF,arr,t,(0,0),by simp[iz],rfl,.inl rfl,fun j c am=>?_⟩;obtain⟨v,h1,ag,aq⟩:=ax j c am;exact⟨v,by simpa using h1,ag,aq.ext e⟩
 ·intro bu ck alk b4 c1 _ b1 zp;simp only[dn,ef,ca _ _ _ _ b4] at c1;simp at zp; subst zp;have:=rel.lt c1 b1;simp only[ne_eq]; omega
 ·intro ck _ b1;simp at b1; subst b1;exact rel.size
 ·intro bu bK;simp only[dn,ef] at bK ⊢;have b4:bu≠b:=fun aQ=>by
   have:=rel.fresh bu bK;rw[aQ,aj] at this; cases this
  rw[ca _ _ _ _ b4];exact rel.fresh bu bK
 ·intro bu bK;simp only[dn,ef] at bK;have b4:bu≠b:=fun aQ=>by
   have:=rel.pT hm;omega
  rw[ca _ _ _ _ b4];exact rel.jJ bu bK
section
variable {P:Program} {w:World} {R:Nat->Prop} {B:Nat} {h:aR} {μ:cD}
def Good (R:Nat->Prop) (B:Nat) (w:World) (h:aR) (μ:cD) (r:Result Next) (c:ae) (h' : aR) :Prop:=
 ∃ v w' μ',(r=.ok (.value v) w'\/(r=.ok .skip w'/\v=undef))/\di w h μ w' h' μ'/\b6 R B w' h' μ'/\aU w' R h' μ' c v
theorem Good.pure (rel:b6 R B w h μ) {r:Result Next} {c:ae} {v:Value} (aD:r=.ok (.value v) w) (ax:aU w R h μ c v) :Good R B w h μ r c h:=
 ⟨v,w,μ,.inl aD,.refl _ _ _,rel,ax⟩
theorem cq {t:TypeId} {d:TypeDesc} (bD:P.underlying t=some d) :(underlying t).run P w=.ok d w:=by
 simp[underlying,bD]
theorem DN {t:TypeId} {b:Bool} (aj:dC P t=some b) :(isAgg t).run P w=.ok b w:=by
 unfold dC at aj;cases bD:P.underlying t with
 | none=>rw[bD] at aj; cases aj
 | some d=>
  rw[bD] at aj;simp only[Option.map_some,Option.some.injEq] at aj;unfold isAgg;simp only[Sem.run_bind,cq bD,Result.andThen_ok];cases d<;>simp_all
theorem ajN {t:TypeId} {n:Nat} (aH:cr P t=some n) :∃ i,P.info? t=some i/\i.size=n:=by
 unfold cr at aH;cases aA:P.info? t with
 | none=>rw[aA] at aH; cases aH
 | some i=>rw[aA] at aH; exact⟨i,rfl,by simpa using aH⟩
theorem e5 {t:TypeId} {n:Nat} (aH:cr P t=some n) :(sizeOf t).run P w=.ok n w:=by
 obtain⟨i,aA,au⟩:=ajN aH;simp[sizeOf,typeInfo,aA,au]
theorem aqp {t:TypeId} {z:List ae} (aC:gH P t=some z) :∃ i v,P.info? t=some i/\i.zero=some v/\v.cells.toList.all Value.oneCell'=true/\z=v.cells.toList.map m6:=by
 unfold gH at aC;cases aA:P.info? t with
 | none=>rw[aA] at aC; cases aC
 | some i=>
  rw[aA] at aC;simp only[Option.bind_some] at aC;cases ax:i.zero with
  | none=>rw[ax] at aC; cases aC
  | some v=>
   rw[ax] at aC;simp only[Option.bind_some] at aC;split at aC
   ·rename_i h1;exact⟨i,v,rfl,ax,h1,by simpa using aC.symm⟩
   ·cases aC
theorem abs {t:TypeId} {i:TypeInfo} {v:Value} (aA:P.info? t=some i) (ax:i.zero=some v) :(zeroValue t).run P w=.ok v w:=by
 simp[zeroValue,typeInfo,aA,ax]
theorem aU.m6 (v:Value) :aU w R h μ (m6 v) v:=by
 cases v with
 | bool b=>exact .bool _
 | int k n=>exact .int _ _
 | string s=>exact .str _
 | pointer a=>cases a<;>first | exact .h0 | exact .bad _
 | slice a l c=>
  simp only[cj.m6];split
  ·exact .aZ
  ·exact .bad _
 | map r=>cases r<;>first | exact .gG | exact .bad _
 | nilFunc=>exact .hC
 | nilIface=>exact .hZ
 | func fn first e6=>
  simp only[cj.m6];split
  ·rename_i f h1 ag;have a1:first=#[] :=by simpa using h1
   have b3:e6=#[] :=by simpa using ag
   subst a1 b3;exact .fn _ [] [] #[] #[] rfl rfl (fun _ _ _ aQ=>by simp at aQ) (fun _ _ _ aQ=>by simp at aQ)
  ·exact .bad _
 | _=>exact .bad _
theorem aU.tS (v:Value) :aU w R h μ (tS v) v:=by
 unfold cj.tS;split
 ·rename_i cs;split
  ·rename_i cH;refine .aV _ _ (by simp) (fun j v am=>?_) (fun j c v al jY=>?_)
   ·rw[List.all_eq_true] at cH;exact cH v (by have:=Array.mem_of_getElem? am; simpa using this)
   ·rw[List.getElem?_map] at al;simp only[Array.getElem?_toList,jY,Option.map_some,Option.some.injEq] at al;subst al;exact aU.m6 v
  ·exact .bad _
 ·rename_i vs;refine .bP _ _ (by simp) (fun j c v al jY=>?_);rw[List.getElem?_map] at al;simp only[Array.getElem?_toList,jY,Option.map_some,Option.some.injEq] at al;subst al;exact aU.m6 v
 ·exact aU.m6 v
theorem aU.one {c:ae} {v:Value} (ax:aU w R h μ c v) (h1:c.one=true) :v.oneCell'=true:=by
 cases ax<;>first | rfl | (simp[ae.one] at h1)
theorem Bj {c:ae} {v:Value} {cs:List ae} (ax:aU w R h μ c v) (al:c.cells=some cs) :
  v.cells.size=cs.length/\∀ (j:Nat) (x:ae),cs[j]? = some x->∃ u:Value,v.cells[j]? = some u/\u.oneCell'=true/\aU w R h μ x u:=by
 have iI:∀ (c:ae) (v:Value),aU w R h μ c v->v.cells=#[v]->v.oneCell'=true->∀ cs,cs=[c]->
   v.cells.size=cs.length/\∀ (j:Nat) (x:ae),cs[j]? = some x->∃ u:Value,v.cells[j]? = some u/\u.oneCell'=true/\aU w R h μ x u:=by
  intro c v ax iW h1 cs cH;subst cH;rw[iW];refine⟨rfl,fun j x ak=>?_⟩;cases j with
  | zero=>simp at ak; subst ak; exact⟨v,rfl,h1,ax⟩
  | succ j=>simp at ak
 cases ax with
 | aV cs' vs ar h1 ax=>
  simp only[ae.cells,Option.some.injEq] at al; subst al;refine⟨ar,fun j x ak=>?_⟩;have am:j<vs.size:=by rw[ar]; exact (List.getElem?_eq_some_iff.1 ak).1
  exact⟨vs[j],by simp[Value.cells,am],h1 j _ (by simp[am]),ax j x _ ak (by simp[am])⟩
 | bP cs' vs ar ax=>simp[ae.cells] at al
 | bad v=>simp[ae.cells] at al
 | bool b=>exact iI _ _ (.bool b) rfl rfl _ (by simpa [ae.cells] using al.symm)
 | int k n=>exact iI _ _ (.int k n) rfl rfl _ (by simpa [ae.cells] using al.symm)
 | str bs=>exact iI _ _ (.str bs) rfl rfl _ (by simpa [ae.cells] using al.symm)
 | h0=>exact iI _ _ .h0 rfl rfl _ (by simpa [ae.cells] using al.symm)
 | aZ=>exact iI _ _ .aZ rfl rfl _ (by simpa [ae.cells] using al.symm)
 | gG=>exact iI _ _ .gG rfl rfl _ (by simpa [ae.cells] using al.symm)
 | hC=>exact iI _ _ .hC rfl rfl _ (by simpa [ae.cells] using al.symm)
 | hZ=>exact iI _ _ .hZ rfl rfl _ (by simpa [ae.cells] using al.symm)
 | ptr b off sz cs' m aj hm=>exact iI _ _ (.ptr b off sz cs' m aj hm) rfl rfl _ (by simpa [ae.cells] using al.symm)
 | k0 b off sz a ay=>exact iI _ _ (.k0 b off sz a ay) rfl rfl _ (by simpa [ae.cells] using al.symm)
 | cp cs' off blk o dI eY ax=>exact iI _ _ (.cp cs' off blk o dI eY ax) rfl rfl _ (by simpa [ae.cells] using al.symm)
 | ao z b off len cap sz cap' cs' m aj hm ar az eY=>exact iI _ _ (.ao z b off len cap sz cap' cs' m aj hm ar az eY) rfl rfl _ (by simpa [ae.cells] using al.symm)
 | fE z b off len cap sz cap' a ar eY ay=>exact iI _ _ (.fE z b off len cap sz cap' a ar eY ay) rfl rfl _ (by simpa [ae.cells] using al.symm)
 | gR z b off sz a cs' m aj hm=>exact iI _ _ (.gR z b off sz a cs' m aj hm) rfl rfl _ (by simpa [ae.cells] using al.symm)
 | bW z es blk off cap dI ar aC eY ax=>exact iI _ _ (.bW z es blk off cap dI ar aC eY ax) rfl rfl _ (by simpa [ae.cells] using al.symm)
 | e1 z a cap=>exact iI _ _ (.e1 z a cap) rfl rfl _ (by simpa [ae.cells] using al.symm)
 | fn f af9 wk fs cs' aJ eY h1 ag=>exact iI _ _ (.fn f af9 wk fs cs' aJ eY h1 ag) rfl rfl _ (by simpa [ae.cells] using al.symm)
 | mp b m aj hm=>exact iI _ _ (.mp b m aj hm) rfl rfl _ (by simpa [ae.cells] using al.symm)
 | it b m aj hm=>exact iI _ _ (.it b m aj hm) rfl rfl _ (by simpa [ae.cells] using al.symm)
 | fK t c v ax=>exact iI _ _ (.fK t c v ax) rfl rfl _ (by simpa [ae.cells] using al.symm)
 | kC l=>exact iI _ _ (.kC l) rfl rfl _ (by simpa [ae.cells] using al.symm)
theorem Addr.kH (b o n:Nat) :(⟨b,o,none⟩:Addr).add n=⟨b,o+n,none⟩:=by unfold Addr.add; split<;>simp_all
theorem MU (rel:b6 R B w h μ) {p:ae} {tV:Value} {cs:List ae} {off:Nat} (aD:reach h p=some (cs,off)) (aG:aU w R h μ p tV) :
  ∃ blk o,tV=.pointer (some ⟨blk,o+off,none⟩)/\∀ (j:Nat) (c:ae),cs[j]? = some c->∃ v:Value,w.cell? ⟨blk,o+j,none⟩=some v/\v.oneCell'=true/\aU w R h μ c v:=by
 cases aG with
 | ptr b Do sz cs' m aj hm=>
  simp only[reach,aj,ite_true,Option.some.injEq,Prod.mk.injEq] at aD;obtain⟨rfl,rfl⟩:=aD;have dY:=rel.blk b m hm;rw[aj] at dY;obtain⟨h1,ag,arr,t,fh,aq,aK,bg,bL⟩:=dY;refine⟨m.r,m.s,rfl,fun j c am=>?_⟩;obtain⟨v,bt,bE,a3⟩:=bL j c am;exact⟨v,by simp[World.cell?,aq,bt],bE,a3⟩
 | k0 b Do sz a ay=>
  unfold reach at aD;rcases ay with ay | ⟨n,cs',ay,aS⟩
  ·simp[ay] at aD
  ·simp only[ay] at aD;split at aD
   ·omega
   ·cases aD
 | cp cs' Do blk o dI al ax=>
  simp only[reach,Option.some.injEq,Prod.mk.injEq] at aD;obtain⟨rfl,rfl⟩:=aD;exact⟨blk,o,rfl,fun j c am=>⟨dI j,(al j (List.getElem?_eq_some_iff.1 am).1).here,(al j (List.getElem?_eq_some_iff.1 am).1).one,ax j c am⟩⟩
 | _=>simp[reach] at aD
theorem an7 {t:TypeId} {cs:List ae} {off:Nat} {c:ae} (aG:gQ P t cs off=some c) {blk o:Nat}
  (al:∀ (j:Nat) (x:ae),cs[j]? = some x->∃ v:Value,w.cell? ⟨blk,o+j,none⟩=some v/\v.oneCell'=true/\aU w R h μ x v) :
  ∃ v,(loadVar t ⟨blk,o+off,none⟩).run P w=.ok v w/\aU w R h μ c v:=by
 unfold gQ at aG;cases mH:dC P t with
 | none=>rw[mH] at aG; cases aG
 | some b=>
  rw[mH] at aG;cases b with
  | false=>
   simp only at aG;obtain⟨v,h1,_,aq⟩:=al off c aG;exact⟨v,by simp[loadVar,DN mH,h1],aq⟩
  | true=>
   cases aH:cr P t with
   | none=>rw[aH] at aG; cases aG
   | some n=>
    rw[aH] at aG;simp only at aG;split at aG
    ·rename_i dO;simp only[Option.some.injEq] at aG;subst aG;have wT:∀ j,j<n->∃ v,w.cell? ⟨blk,o+(off+j),none⟩=some v/\v.oneCell'=true/\aU w R h μ (cs.getD (off+j) .bad) v:=by
      intro j am;have aS:off+j<cs.length:=by omega
      have:=al (off+j) cs[off+j] (by simp[aS]);simpa [List.getD,aS] using this
     have ax:∃ f:Nat->Value,∀ j,j<n->w.cell? ⟨blk,o+(off+j),none⟩=some (f j)/\(f j).oneCell'=true/\aU w R h μ (cs.getD (off+j) .bad) (f j) :=by
      refine⟨fun j=>if am:j<n then Classical.choose (wT j am) else undef,fun j am=>?_⟩;simp only[am,dif_pos];exact Classical.choose_spec (wT j am)
     obtain⟨f,aJ⟩:=ax;have ar:(loadCells ⟨blk,o+off,none⟩ n).run P w=.ok ((List.range n).map f).toArray w:=by
      have:=run_loadCells_list (P:=P) w ⟨blk,o+off,none⟩ ((List.range n).map f) (fun j v am=>by
       rw[List.getElem?_map] at am;have kP:j<n:=by
        rcases Nat.lt_or_ge j n with h1 | h1
        ·exact h1
        ·rw[List.getElem?_eq_none (by simpa using h1)] at am; cases am
       rw[List.getElem?_range kP] at am;simp only[Option.map_some,Option.some.injEq] at am;rw[Addr.kH,<-am,Nat.add_assoc];exact (aJ j kP).1)
      simpa using this
     refine⟨.agg ((List.range n).map f).toArray,by simp[loadVar,DN mH,e5 aH,ar],.aV _ _ (by simp; omega) (fun j v am=>?_) (fun j c v eY am=>?_)⟩
     ·simp only[List.getElem?_toArray,List.getElem?_map] at am;have kP:j<n:=by
       rcases Nat.lt_or_ge j n with h1 | h1
       ·exact h1
       ·rw[List.getElem?_eq_none (by simpa using h1)] at am; cases am
      rw[List.getElem?_range kP] at am;simp only[Option.map_some,Option.some.injEq] at am;rw[<-am]; exact (aJ j kP).2.1
     ·simp only[List.getElem?_toArray,List.getElem?_map] at am;have kP:j<n:=by
       rcases Nat.lt_or_ge j n with h1 | h1
       ·exact h1
       ·rw[List.getElem?_eq_none (by simpa using h1)] at am; cases am
      rw[List.getElem?_range kP] at am;simp only[Option.map_some,Option.some.injEq] at am;rw[List.getElem?_take_of_lt kP,List.getElem?_drop] at eY;have:=(aJ j kP).2.2;rw[List.getD,eY] at this;rw[<-am]; simpa using this
    ·cases aG
theorem W3 (rel:b6 R B w h μ) {t:TypeId} {p:ae} {tV:Value} {c:ae} (ar:qD P h t p=some c) (aG:aU w R h μ p tV) :
  ∃ v,(Instr.loadAt t tV).run P w=.ok v w/\aU w R h μ c v:=by
 unfold qD at ar;cases aD:reach h p with
 | none=>rw[aD] at ar; cases ar
 | some x=>
  obtain⟨cs,off⟩:=x;rw[aD] at ar;obtain⟨blk,o,rfl,al⟩:=MU rel aD aG;obtain⟨v,h1,ag⟩:=an7 ar al;exact⟨v,by simp[Instr.loadAt,Instr.sureAddr,h1],ag⟩
end
section
variable {P:Program} {w:World} {R:Nat->Prop} {B:Nat} {h:aR} {μ:cD}
theorem abr (P:Program) (g o:Nat) (t:TypeId) (fh:Nat × Nat) :∀ (vs:List Value) (i:Nat) (gX:Array Value) (w:World),w.heap[g]? = some (.cells gX t fh)->(fh=(0,0)\/gX.size<=fh.1)->
  o+i+vs.length<=gX.size->(∀ v∈vs,v.oneCell'=true)->
  (storeCells ⟨g,o,none⟩ vs i).run P w=.ok () (w.setRow g (gX.toList.take (o+i)++vs++gX.toList.drop (o+i+vs.length)).toArray)
 | [],i,gX,w,ay,_,_,_=>by
  simp only[storeCells,List.append_nil,List.length_nil,Nat.add_zero,List.take_append_drop,Array.toArray_toList];rw[setRow_self w g gX t fh ay];rfl
 | v::rest,i,gX,w,ay,ko,ar,h1=>by
  have aA:o+i<gX.size:=by simp at ar; omega
  have ahf:(⟨g,o,none⟩:Addr).add i=⟨g,o+i,none⟩:=Addr.kH _ _ _;have kO:w.cell? ⟨g,o+i,none⟩=some gX[o+i] :=by simp[World.cell?,ay,aA]
  have ah2:w.frozen? ⟨g,o+i,none⟩=false:=by
   obtain⟨cP,fq⟩:=fh;rcases ko with ko | ko
   ·cases ko; simp[World.frozen?,ay]
   ·have:¬ cP<=o+i:=by simp at ko; omega
    simp[World.frozen?,ay,this]
  have cI:(store ((⟨g,o,none⟩:Addr).add i) v).run P w=.ok () (w.setRow g (gX.setIfInBounds (o+i) v)) :=by
   rw[ahf,run_store P w _ v _ (h1 v (by simp)),kO];simp[ah2,setCell_eq_setRow w g (o+i) gX t fh v ay]
  have aM:=abr P g o t fh rest (i+1) (gX.setIfInBounds (o+i) v) (w.setRow g (gX.setIfInBounds (o+i) v)) (setRow_heap w g gX _ t _ ay) (by simpa using ko) (by simp at ar ⊢; omega) (fun x ak=>h1 x (by simp[ak]));simp only[storeCells,Sem.run_bind,cI,Result.andThen_ok,aM,setRow_setRow];congr 3;have:=list_seg_step gX.toList (o+i) v rest (by simp at ar ⊢; omega);simpa [Nat.add_assoc,Nat.add_comm 1] using this
theorem pB {cs vs:List ae} {k:Nat} (aF:k<=cs.length) :(bU cs k vs).length=max cs.length (k+vs.length) :=by
 unfold bU;simp only[List.length_append,List.length_take,List.length_drop];omega
theorem Nl {cs vs:List ae} {k j:Nat} (aF:k<=cs.length) :(bU cs k vs)[j]? = if j<k then cs[j]? else if j<k+vs.length then vs[j - k]? else cs[j]?:=by
 unfold bU;rw[List.append_assoc];by_cases h1:j<k
 ·rw[List.getElem?_append_left (by simp; omega),List.getElem?_take_of_lt h1,if_pos h1]
 ·rw[List.getElem?_append_right (by simp; omega),if_neg h1];simp only[List.length_take,Nat.min_eq_left aF];by_cases ag:j<k+vs.length
  ·rw[List.getElem?_append_left (by omega),if_pos ag]
  ·rw[List.getElem?_append_right (by omega),if_neg ag,List.getElem?_drop];congr 1; omega
theorem vW (rel:b6 R B w h μ) {b sz k:Nat} {cs cvs:List ae} {m:M} {vs:List Value} (aj:h.f b=.cells sz cs) (hm:μ b=some m) (aF:k<=sz)
  (ar:vs.length=cvs.length) (dF:m.s+max sz (k+cvs.length)<=m.T)
  (ax:∀ (j:Nat) (c:ae),cvs[j]? = some c->∃ v:Value,vs[j]? = some v/\v.oneCell'=true/\aU w R h μ c v) :
  ∃ w',(storeCells ⟨m.r,m.s+k,none⟩ vs).run P w=.ok () w'/\di w h μ w' (h.set b (.cells (max sz (k+cvs.length)) (bU cs k cvs))) μ ∧
   b6 R B w' (h.set b (.cells (max sz (k+cvs.length)) (bU cs k cvs))) μ:=by
 have dY:=rel.blk b m hm;rw[aj] at dY;obtain⟨bw,eu,arr,t,fh,aD,aI,ko,al⟩:=dY;have h1:∀ v∈vs,v.oneCell'=true:=by
  intro v kS;obtain⟨j,am,rfl⟩:=List.getElem_of_mem kS;obtain⟨v,bt,bE,_⟩:=ax j (cvs[j]'(by omega)) (by simp);rw[List.getElem?_eq_getElem am] at bt;cases bt;exact bE
 have g3:=abr P m.r (m.s+k) t fh vs 0 arr w aD (by rw[aI]; exact ko.imp id Nat.le_of_lt) (by omega) h1;simp only[Nat.add_zero] at g3;have n3:(arr.toList.take (m.s+k)++vs++arr.toList.drop (m.s+k+vs.length)).toArray.size=arr.size:=by
  simp only[List.size_toArray,List.length_append,List.length_take,List.length_drop,Array.length_toList];omega
 have dZ:=rel.write (w':=w.setRow m.r (arr.toList.take (m.s+k)++vs++arr.toList.drop (m.s+k+vs.length)).toArray) (cs':=bU cs k cvs) (sz':=max sz (k+cvs.length)) aj hm aD aI ko
  rfl rfl rfl (by simp[World.setRow]) (setRow_heap w m.r arr _ t fh aD) (fun k' ed=>setRow_other w m.r k' _ ed) n3
  (by rw[pB (by omega),bw]) (by omega) (by omega) (fun j c am=>?_)
 ·exact⟨_,g3,dZ.1,dZ.2⟩
 ·rw[Nl (by omega)] at am;simp only[List.getElem?_toArray];rw[List.append_assoc];split at am
  ·rename_i aS;obtain⟨v,bt,bE,a3⟩:=al j c am;refine⟨v,?_,bE,a3⟩;rw[List.getElem?_append_left (by simp; omega),List.getElem?_take_of_lt (by omega)];simpa using bt
  ·rename_i wX;split at am
   ·rename_i aS;obtain⟨v,bt,bE,a3⟩:=ax _ c am;refine⟨v,?_,bE,a3⟩;have zq:min (m.s+k) arr.size=m.s+k:=by omega
    rw[List.getElem?_append_right (by simp; omega)];simp only[List.length_take,Array.length_toList,zq];rw[List.getElem?_append_left (by omega),<-bt];congr 1; omega
   ·rename_i as1;obtain⟨v,bt,bE,a3⟩:=al j c am;refine⟨v,?_,bE,a3⟩;have zq:min (m.s+k) arr.size=m.s+k:=by omega
    rw[List.getElem?_append_right (by simp; omega)];simp only[List.length_take,Array.length_toList,zq];rw[List.getElem?_append_right (by omega),List.getElem?_drop];have:(m.s+k+vs.length+(m.s+j - (m.s+k) - vs.length))=m.s+j:=by omega
    rw[this];simpa using bt
theorem aoR (rel:b6 R B w h μ) {t:TypeId} {p v:ae} {tV nj:Value} {h' : aR} (au:xV P h t p v=some h') (aG:aU w R h μ p tV) (ax:aU w R h μ v nj) :
  ∃ w',(Instr.storeAt t tV nj).run P w=.ok () w'/\di w h μ w' h' μ/\b6 R B w' h' μ:=by
 unfold xV at au;split at au
 ·rename_i b off sz vs n hR aH;obtain⟨gE,kX⟩:=Bj ax hR;cases aj:h.f b with
  | cells m cs=>
   rw[aj] at au;simp only at au;split at au
   ·rename_i ic;obtain⟨rfl,bw,dF⟩:=ic;simp only[Option.some.injEq] at au;subst au;cases aG with
    | ptr bu Do sz' cs' cf bK hm=>
     have dY:=rel.blk b cf hm;rw[aj] at dY;have eu:=dY.2.1;obtain⟨w',h1,ag,aq⟩:=vW (P:=P) rel (cvs:=vs) (vs:=nj.cells.toList) (k:=off) aj hm (by omega) (by simpa using gE) (by omega)
      (fun j c am=>by obtain⟨u,bt,bE,a3⟩:=kX j c am; exact⟨u,by simpa using bt,bE,a3⟩)
     have kR:max m (off+vs.length)=m:=by omega
     rw[kR] at ag aq;refine⟨w',?_,ag,aq⟩;have b7:¬ (nj.cells.size≠n) :=by omega
     simp[Instr.storeAt,Instr.sureAddr,storeVar,e5 aH,b7,h1]
    | k0 bu Do sz' a ay=>
     rcases ay with ay | ⟨f3,cs',ay,aS⟩
     ·rw[ay] at aj; cases aj
     ·rw[ay] at aj; cases aj; omega
   ·cases au
  | _=>rw[aj] at au; cases au
 ·cases au
theorem A2 (rel:b6 R B w h μ) {cs:List ae} {vs:Array Value} (t:TypeId) (ar:vs.size=cs.length)
  (ax:∀ (j:Nat) (c:ae),cs[j]? = some c->∃ v:Value,vs[j]? = some v/\v.oneCell'=true/\aU w R h μ c v) :
  let h':=h.push (.cells cs.length cs)
  let μ':=bM μ h.n (some ⟨w.heap.size,0,vs.size⟩)
  let w':=w.alloc (.cells vs t)
  di w h μ w' h' μ'/\b6 R B w' h' μ'/\∀ off,aU w' R h' μ' (.ptr h.n off cs.length) (.pointer (some ⟨w.heap.size,off,none⟩)) :=by
 intro h' μ' w';have:=rel.push (w':=w') cs vs t rfl rfl rfl rfl (by omega) ax;refine⟨this.1,this.2,fun off=>?_⟩;have aG:=aU.ptr (w:=w') (R:=R) (h:=h') (μ:=μ') h.n off cs.length cs ⟨w.heap.size,0,vs.size⟩ (by simp[h',dH,eK]) (by simp[μ']);simpa using aG
theorem acM {t:TypeId} {z:List ae} (aC:gH P t=some z) :∃ i v,P.info? t=some i/\i.zero=some v/\v.cells.size=z.length ∧
  ∀ (j:Nat) (c:ae),z[j]? = some c->∃ u:Value,v.cells[j]? = some u/\u.oneCell'=true/\aU w R h μ c u:=by
 obtain⟨i,v,aA,ax,h1,rfl⟩:=aqp aC;refine⟨i,v,aA,ax,by simp,fun j c am=>?_⟩;rw[List.getElem?_map] at am;cases aL:v.cells[j]? with
 | none=>simp[aL] at am
 | some u=>
  simp[aL] at am;subst am;rw[List.all_eq_true] at h1;exact⟨u,rfl,h1 u (by have:=Array.mem_of_getElem? aL; simpa using this),aU.m6 u⟩
theorem RO {x:ae} {bG:Value} {k:Nat} {c:ae} (al:lS x k=some c) (ak:aU w R h μ x bG) :
  ∃ a,bG=.pointer (some a)/\aU w R h μ c (.pointer (some (a.add k))) :=by
 cases ak with
 | ptr b off sz cs m aj hm=>
  simp only[lS,Option.some.injEq] at al; subst al;refine⟨_,rfl,?_⟩;rw[Addr.kH,Nat.add_assoc];exact .ptr b _ sz cs m aj hm
 | k0 b off sz a ay=>
  simp only[lS,Option.some.injEq] at al; subst al;exact⟨a,rfl,.k0 _ _ _ _ ay⟩
 | cp cs off blk o dI eY ax=>
  simp only[lS,Option.some.injEq] at al; subst al;refine⟨_,rfl,?_⟩;rw[Addr.kH,Nat.add_assoc];exact .cp cs _ blk o dI eY ax
 | _=>simp[lS] at al
theorem SB {s:TypeId} {f:Nat} {fd:Field} (aJ:uP P s f=some fd) :∃ fs,P.underlying s=some (.struct fs)/\fs[f]? = some fd:=by
 unfold uP at aJ;split at aJ
 ·rename_i fs aL; exact⟨fs,aL,aJ⟩
 ·cases aJ
theorem aga {s:TypeId} {x c:ae} {bG:Value} {f:Nat} (al:BD P s x f=some c) (ak:aU w R h μ x bG) :
  ∃ v,(Instr.fieldAt s bG f).run P w=.ok v w/\aU w R h μ c v:=by
 unfold BD at al;split at al
 ·rename_i fd aJ;obtain⟨fs,aL,oU⟩:=SB aJ;split at al
  ·rename_i n aH;obtain⟨a,rfl,ax⟩:=RO al ak;refine⟨_,?_,ax⟩;simp[Instr.fieldAt,cq aL,oU,Instr.sureAddr,fieldPlace,e5 aH]
  ·cases al
 ·cases al
theorem pS {x:ae} {bG:Value} {n:Int} (aA:asInt x=some n) (ak:aU w R h μ x bG) :∃ k,bG=.int k n:=by
 cases ak<;>simp[asInt] at aA;subst aA;exact⟨_,rfl⟩
theorem ajL {t:TypeId} {x he c:ae} {bG zQ:Value} (al:zM P t x he=some c) (ak:aU w R h μ x bG) (aA:aU w R h μ he zQ) :
  ∃ v,(Instr.indexAt t bG zQ).run P w=.ok v w/\aU w R h μ c v:=by
 unfold zM at al;split at al
 ·rename_i len e i aL fC;obtain⟨k,rfl⟩:=pS fC aA;cases aC:cr P e with
  | none=>rw[aC] at al; cases al
  | some z=>
   rw[aC] at al;simp only at al;split at al
   ·rename_i aj;obtain⟨a,rfl,ax⟩:=RO al ak;refine⟨_,?_,ax⟩;simp[Instr.indexAt,asIntOf,cq aL,Instr.sureAddr,aj,e5 aC]
   ·cases al
 ·rename_i e i aL fC;obtain⟨k,rfl⟩:=pS fC aA;split at al
  ·rename_i z c9 b off len cap sz aC;split at al
   ·rename_i aj;obtain⟨rfl,aj⟩:=aj;simp only[Option.some.injEq] at al; subst al;cases ak with
    | ao _ _ _ _ _ _ cap' cs m bK hm ar az c7=>
     refine⟨_,?_,aU.ptr b (off+i.toNat*z) sz cs m bK hm⟩;simp[Instr.indexAt,asIntOf,cq aL,aj,e5 aC,Addr.kH,Nat.add_assoc]
    | gR=>simp at aj; omega
    | fE _ _ _ _ _ _ cap' a ar c7 ay=>
     refine⟨_,?_,aU.k0 b _ sz (a.add (i.toNat*z)) ay⟩;simp[Instr.indexAt,asIntOf,cq aL,aj,e5 aC]
   ·cases al
  ·rename_i z c9 es aC;split at al
   ·rename_i aj;obtain⟨rfl,aj⟩:=aj;cases aw:es[i.toNat]? with
    | none=>rw[aw] at al; cases al
    | some eG=>
     rw[aw] at al;simp only[Option.map_some,Option.some.injEq] at al; subst al;have aS:i.toNat<es.length:=(List.getElem?_eq_some_iff.1 aw).1;have ec:(0<=i/\i<(es.length:Int)) :=by omega
     cases ak with
     | bW _ _ blk off cap dI ar zK kO ax=>
      have ahS:eG.length=z:=zK _ (List.mem_of_getElem? aw);refine⟨_,?_,aU.cp eG 0 blk (off+i.toNat*z) (dI i.toNat) (fun j am=>?_) (ax _ _ aw)⟩
      ·simp[Instr.indexAt,asIntOf,cq aL,ec,e5 aC,Addr.kH]
      ·have:=kO i.toNat j aS (by omega)
       rwa [Nat.add_assoc]
     | e1=>simp at aS
   ·cases al
  ·cases al
 ·cases al
end
end Go.cj

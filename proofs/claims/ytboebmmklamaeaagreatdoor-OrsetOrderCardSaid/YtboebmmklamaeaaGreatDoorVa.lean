/-
  The canonical machine, part A: its values, blocks, heap, and what one operation does.
-/
import Derived.WalkKit
import Derived.Below
import Derived.Laws.AppendOwn
import Derived.Laws.CopyRow
import Derived.Laws.IdiomCopy
import Derived.Laws.StructEq
set_option linter.unusedVariables false
set_option linter.unusedSimpArgs false
set_option linter.unnecessarySimpa false
namespace Go.cn
open Go
inductive ae where
 | bool (b:Bool)
 | int (k:IntKind) (n:Int)
 | str (s:List UInt8)
 | iD | aX | g6 | ie | iC
 | aV (cs:List ae)
 | bU (vs:List ae)
 | ptr (b off sz:Nat)
 | cq (cs:List ae) (off:Nat)
 | ao (z b off len cap sz:Nat)
 | b0 (z:Nat) (es:List (List ae))
 | fn (f:FuncId) (first ft:List ae)
 | mp (b:Nat)
 | it (b:Nat)
 | gg (t:TypeId) (v:ae)
 | la (l:Nat)
 | bad
 deriving Inhabited
inductive bt where
 | none
 | dead
 | cells (sz:Nat) (cs:List ae)
 | map (es:List (ae × ae × Nat)) (ass:Nat)
 | iter (s:List UInt8) (pos:Nat)
 deriving Inhabited
inductive cD (α:Type) where
 | nil
 | node (l:cD α) (v:Option α) (r:cD α)
def cD.get {α:Type}:cD α->Nat->Option α
 | .nil,_=>none
 | .node l v r,n=>match Nat.beq n 0 with
  | true=>v
  | false=>match Nat.beq (n % 2) 1 with
   | true=>l.get (n / 2)
   | false=>r.get (n / 2 - 1)
def cD.jE {α:Type}:Nat->cD α->Nat->α->cD α
 | 0,t,_,_=>t
 | k+1,.nil,n,x=>match Nat.beq n 0 with
  | true=>.node .nil (some x) .nil
  | false=>match Nat.beq (n % 2) 1 with
   | true=>.node (cD.jE k .nil (n / 2) x) none .nil
   | false=>.node .nil none (cD.jE k .nil (n / 2 - 1) x)
 | k+1,.node l v r,n,x=>match Nat.beq n 0 with
  | true=>.node l (some x) r
  | false=>match Nat.beq (n % 2) 1 with
   | true=>.node (cD.jE k l (n / 2) x) v r
   | false=>.node l v (cD.jE k r (n / 2 - 1) x)
def cD.set {α:Type} (t:cD α) (n:Nat) (x:α) :cD α:=t.jE (n+1) n x
theorem iY {a b:Nat} (h:¬ a=b) :Nat.beq a b=false:=by
 cases ai:Nat.beq a b with
 | false=>rfl
 | true=>exact absurd (Nat.eq_of_beq_eq_true ai) h
theorem q7 {a b:Nat} (h:a=b) :Nat.beq a b=true:=by subst h; exact Nat.beq_refl a
theorem cD.zM {α:Type}:∀ (k:Nat) (t:cD α) (n:Nat) (x:α) (m:Nat),n<k->(t.jE k n x).get m=if m=n then some x else t.get m
 | 0,_,_,_,_,h=>by omega
 | k+1,.nil,n,x,m,h=>by
  unfold cD.jE;by_cases aT:n=0
  ·subst aT;simp only;unfold cD.get;by_cases hm:m=0
   ·subst hm; simp
   ·have:Nat.beq m 0=false:=iY hm;simp only[this,if_neg hm];split<;>rfl
  ·have ai:Nat.beq n 0=false:=iY aT;simp only[ai];by_cases h1:n % 2=1
   ·have gA:Nat.beq (n % 2) 1=true:=q7 h1;simp only[gA];unfold cD.get;by_cases hm:m=0
    ·subst hm; simp; omega
    ·have:Nat.beq m 0=false:=iY hm;simp only[this];by_cases fE:m % 2=1
     ·have:Nat.beq (m % 2) 1=true:=q7 fE;simp only[this];rw[cD.zM k .nil (n / 2) x (m / 2) (by omega)];by_cases aw:m=n
      ·subst aw; simp
      ·rw[if_neg aw,if_neg (by omega)]; rfl
     ·have:Nat.beq (m % 2) 1=false:=iY fE;simp only[this];rw[if_neg (by intro aN; subst aN; exact fE h1)];rfl
   ·have gA:Nat.beq (n % 2) 1=false:=iY h1;simp only[gA];unfold cD.get;by_cases hm:m=0
    ·subst hm; simp; omega
    ·have:Nat.beq m 0=false:=iY hm;simp only[this];by_cases fE:m % 2=1
     ·have:Nat.beq (m % 2) 1=true:=q7 fE;simp only[this];rw[if_neg (by intro aN; subst aN; exact h1 fE)];rfl
     ·have:Nat.beq (m % 2) 1=false:=iY fE;simp only[this];rw[cD.zM k .nil (n / 2 - 1) x (m / 2 - 1) (by omega)];by_cases aw:m=n
      ·subst aw; simp
      ·rw[if_neg aw,if_neg (by omega)]; rfl
 | k+1,.node l v r,n,x,m,h=>by
  unfold cD.jE;by_cases aT:n=0
  ·subst aT;simp only;unfold cD.get;by_cases hm:m=0
   ·subst hm; simp
   ·have:Nat.beq m 0=false:=iY hm;simp only[this,if_neg hm]
  ·have ai:Nat.beq n 0=false:=iY aT;simp only[ai];by_cases h1:n % 2=1
   ·have gA:Nat.beq (n % 2) 1=true:=q7 h1;simp only[gA];unfold cD.get;by_cases hm:m=0
    ·subst hm; simp; omega
    ·have:Nat.beq m 0=false:=iY hm;simp only[this];by_cases fE:m % 2=1
     ·have:Nat.beq (m % 2) 1=true:=q7 fE;simp only[this];rw[cD.zM k l (n / 2) x (m / 2) (by omega)];by_cases aw:m=n
      ·subst aw; simp
      ·rw[if_neg aw,if_neg (by omega)]
     ·have:Nat.beq (m % 2) 1=false:=iY fE;simp only[this];rw[if_neg (by intro aN; subst aN; exact fE h1)]
   ·have gA:Nat.beq (n % 2) 1=false:=iY h1;simp only[gA];unfold cD.get;by_cases hm:m=0
    ·subst hm; simp; omega
    ·have:Nat.beq m 0=false:=iY hm;simp only[this];by_cases fE:m % 2=1
     ·have:Nat.beq (m % 2) 1=true:=q7 fE;simp only[this];rw[if_neg (by intro aN; subst aN; exact h1 fE)]
     ·have:Nat.beq (m % 2) 1=false:=iY fE;simp only[this];rw[cD.zM k r (n / 2 - 1) x (m / 2 - 1) (by omega)];by_cases aw:m=n
      ·subst aw; simp
      ·rw[if_neg aw,if_neg (by omega)]
theorem cD.Cx {α:Type} (t:cD α) (n:Nat) (x:α) (m:Nat) :(t.set n x).get m=if m=n then some x else t.get m:=cD.zM _ _ _ _ _ (by omega)
structure aQ where
 n:Nat
 t:cD bt
def aQ.f (h:aQ) (b:Nat) :bt:=match h.t.get b with | some c=>c | none=>.none
def aQ.empty:aQ:=⟨0,.nil⟩
def b5 {α:Type} (f:Nat->α) (i:Nat) (v:α) :Nat->α:=fun j=>if j=i then v else f j
def aQ.push (h:aQ) (c:bt) :aQ:=⟨h.n+1,h.t.set h.n c⟩
def aQ.set (h:aQ) (b:Nat) (c:bt) :aQ:=⟨h.n,h.t.set b c⟩
theorem e3 (h:aQ) (c:bt) :(h.push c).n=h.n+1:=rfl
theorem eI (h:aQ) (b:Nat) (c:bt) :(h.set b c).n=h.n:=rfl
theorem dR (h:aQ) (c:bt) :(h.push c).f=b5 h.f h.n c:=by
 funext b;simp only[aQ.f,aQ.push,b5,cD.Cx];by_cases ai:b=h.n
 ·simp[ai]
 ·simp[ai]
theorem dz (h:aQ) (b:Nat) (c:bt) :(h.set b c).f=b5 h.f b c:=by
 funext bx;simp only[aQ.f,aQ.set,b5,cD.Cx];by_cases ai:bx=b
 ·simp[ai]
 ·simp[ai]
theorem Cm (b:Nat) :aQ.empty.f b=.none:=rfl
@[simp] theorem i7 {α:Type} (f:Nat->α) (i:Nat) (v:α) :b5 f i v i=v:=by simp[b5]
theorem cg {α:Type} (f:Nat->α) (i j:Nat) (v:α) (h:j≠i) :b5 f i v j=f j:=by simp[b5,h]
def ae.one:ae->Bool
 | .aV _ | .bU _ | .bad=>false
 | _=>true
def ae.cells:ae->Option (List ae)
 | .aV cs=>some cs
 | .bU _ | .bad=>none
 | v=>some [v]
def nJ:Value->ae
 | .bool b=>.bool b
 | .int k n=>.int k n
 | .string s=>.str s.data.toList
 | .pointer a=>match a with | none=>.iD | some _=>.bad
 | .slice a l c=>match a,l,c with | none,0,0=>.aX | _,_,_=>.bad
 | .map r=>match r with | none=>.g6 | some _=>.bad
 | .nilFunc=>.ie
 | .nilIface=>.iC
 | .func fn first ft=>match fn,first.toList,ft.toList with | .func f,[],[]=>.fn f [] [] | _,_,_=>.bad
 | _=>.bad
def ut:Value->ae
 | .agg cs=>if cs.toList.all Value.oneCell' then .aV (cs.toList.map nJ) else .bad
 | .tuple vs=>.bU (vs.toList.map nJ)
 | v=>nJ v
def cY (G:Nat->ae) (ah:Nat->ae) :Operand->ae
 | .tmp t=>ah t
 | .const v=>ut v
 | .func f=>.fn f [] []
 | .global g=>G g
def dM (P:Program) (t:TypeId) :Option Bool:=(P.underlying t).map fun d=>match d with | .struct _ | .array _ _=>true | _=>false
def cz (P:Program) (t:TypeId) :Option Nat:=(P.info? t).map (·.size)
def iO (P:Program) (t:TypeId) :Option Nat:=(P.info? t).map (·.bytes)
def g9 (P:Program) (t:TypeId) :Option (List ae) :=((P.info? t).bind (·.zero)).bind fun v=>if v.cells.toList.all Value.oneCell' then some (v.cells.toList.map nJ) else none
def hQ (P:Program) (t:TypeId) :Option TypeId:=match P.underlying t with | some (.slice e)=>some e | _=>none
def hh (P:Program) (t:TypeId) (cs:List ae) (off:Nat) :Option ae:=
 match dM P t,cz P t with
 | some true,some n=>if off+n<=cs.length then some (.aV ((cs.drop off).take n)) else none
 | some false,_=>cs[off]?
 | _,_=>none
def reach (h:aQ) :ae->Option (List ae × Nat)
 | .ptr b off sz=>match h.f b with
  | .cells n cs=>if n=sz then some (cs,off) else none
  | _=>none
 | .cq cs off=>some (cs,off)
 | _=>none
def q0 (P:Program) (h:aQ) (t:TypeId) (p:ae) :Option ae:=
 match reach h p with
 | some (cs,off)=>hh P t cs off
 | none=>none
def bS (cs:List ae) (off:Nat) (vs:List ae) :List ae:=cs.take off++vs++cs.drop (off+vs.length)
def yD (P:Program) (h:aQ) (t:TypeId) (p v:ae) :Option aQ:=
 match p,v.cells,cz P t with
 | .ptr b off sz,some vs,some n=>match h.f b with
  | .cells m cs=>if m=sz/\vs.length=n/\off+n<=m then some (h.set b (.cells m (bS cs off vs))) else none
  | _=>none
 | _,_,_=>none
def asInt:ae->Option Int
 | .int _ n=>some n
 | _=>none
def vi (P:Program) (s:TypeId) (f:Nat) :Option Field:=match P.underlying s with | some (.struct fs)=>fs[f]? | _=>none
def my:ae->Nat->Option ae
 | .ptr b off sz,k=>some (.ptr b (off+k) sz)
 | .cq cs off,k=>some (.cq cs (off+k))
 | _,_=>none
def Cs (P:Program) (s:TypeId) (x:ae) (f:Nat) :Option ae:=
 match vi P s f with
 | some fd=>match cz P fd.type with
  | some (_+1)=>my x fd.offset
  | _=>none
 | none=>none
def AG (P:Program) (t:TypeId) (x hF:ae) :Option ae:=
 match P.underlying t,asInt hF with
 | some (.array len e),some i=>match cz P e with
  | some z=>if 0<=i/\i<len then my x (i.toNat*z) else none
  | none=>none
 | some (.slice e),some i=>match cz P e,x with
  | some z,.ao di b off len _ sz=>if z=di/\0<=i/\i<len then some (.ptr b (off+i.toNat*z) sz) else none
  | some z,.b0 di es=>if z=di/\0<=i then (es[i.toNat]?).map fun cs=>.cq cs 0 else none
  | _,_=>none
 | _,_=>none
def gZ (j8:Nat->Option (Nat × Nat)) (cells:List ae) :List (Nat × ae)->Option (List ae)
 | []=>some cells
 | (i,v) ::rest=>match j8 i,v.cells with
  | some (off,size),some vs=>if vs.length=size/\off+size<=cells.length then gZ j8 (bS cells off vs) rest else none
  | _,_=>none
def Ba (P:Program) (fs:Array Field) (i:Nat) :Option (Nat × Nat) :=(fs[i]?).bind fun f=>(cz P f.type).map fun n=>(f.offset,n)
def ze (P:Program) (t:TypeId) (parts:List (Nat × ae)) :Option ae:=
 match g9 P t,P.underlying t with
 | some zero,some (.struct fs)=>if !(fs.toList.all fun f=>(cz P f.type).isSome) then none else (gZ (Ba P fs) zero parts).map .aV
 | some zero,some (.array _ e)=>match cz P e with
  | some n=>(gZ (fun i=>some (i*n,n)) zero parts).map .aV
  | none=>none
 | _,_=>none
def dm (zero:List ae) :Nat->List ae
 | 0=>[]
 | n+1=>zero++dm zero n
def BZ (P:Program) (h:aQ) (t:TypeId) (len:Nat) (parts:List (Nat × ae)) :Option (ae × aQ) :=
 match hQ P t with
 | some e=>match cz P e,g9 P e with
  | some z,some zero=>if zero.length=z/\len*z<=16777216 then
    (gZ (fun i=>some (i*z,z)) (dm zero len) parts).map fun cs=>(.ao z h.n 0 len len (len*z),h.push (.cells (len*z) cs))
   else none
  | _,_=>none
 | none=>none
def cr (op:BinOp) (k:IntKind) (a:Int) (k' : IntKind) (b:Int) :Option ae:=
 match op with
 | .shl=>if b<0 then none else some (.int k (k.wrap (a*2 ^ min b.toNat k.bits)))
 | .shr=>if b<0 then none else some (.int k (a.fdiv (2 ^ min b.toNat k.bits)))
 | .add=>if k=k' then some (.int k (k.wrap (a+b))) else none
 | .sub=>if k=k' then some (.int k (k.wrap (a - b))) else none
 | .mul=>if k=k' then some (.int k (k.wrap (a*b))) else none
 | .quo=>if k=k'/\b≠0 then some (.int k (k.wrap (a.tdiv b))) else none
 | .rem=>if k=k'/\b≠0 then some (.int k (a.tmod b)) else none
 | .and=>if k=k' then some (.int k (k.wrap (BitVec.ofInt k.bits a &&& BitVec.ofInt k.bits b).toNat)) else none
 | .or=>if k=k' then some (.int k (k.wrap (BitVec.ofInt k.bits a ||| BitVec.ofInt k.bits b).toNat)) else none
 | .xor=>if k=k' then some (.int k (k.wrap (BitVec.ofInt k.bits a ^^^ BitVec.ofInt k.bits b).toNat)) else none
 | .andNot=>if k=k' then some (.int k (k.wrap (BitVec.ofInt k.bits a &&& ~~~BitVec.ofInt k.bits b).toNat)) else none
 | .eql=>if k=k' then some (.bool (a == b)) else none
 | .neq=>if k=k' then some (.bool (a != b)) else none
 | .lss=>if k=k' then some (.bool (decide (a<b))) else none
 | .leq=>if k=k' then some (.bool (decide (a<=b))) else none
 | .gtr=>if k=k' then some (.bool (decide (a > b))) else none
 | .geq=>if k=k' then some (.bool (decide (a ≥ b))) else none
def pf (op:BinOp) (a b:List UInt8) :Option ae:=
 match op with
 | .eql=>some (.bool (a == b))
 | .neq=>some (.bool (!(a == b)))
 | .lss=>some (.bool (Op.bytesLess a b))
 | .leq=>some (.bool (Op.bytesLess a b||a == b))
 | .gtr=>some (.bool (!(Op.bytesLess a b||a == b)))
 | .geq=>some (.bool (!Op.bytesLess a b))
 | .add=>if a.length+b.length<=9223372036854775807 then some (.str (a++b)) else none
 | _=>none
def ej (P:Program) :Nat->TypeId->ae->ae->Option Bool
 | 0,_,_,_=>none
 | d+1,t,x,y=>
  match P.underlying t,x,y with
  | some .bool,.bool a,.bool b=>some (a == b)
  | some (.int _),.int k a,.int k' b=>if k=k' then some (a == b) else none
  | some .string,.str a,.str b=>some (a == b)
  | some (.struct fs),.aV xs,.aV bl=>if P.stoodInHeld t then none else eqFields P (ej P d) xs bl fs.toList
  | some (.array n e),.aV xs,.aV bl=>match cz P e with
   | some z=>qs P (ej P d) e z xs bl n 0
   | none=>none
  | some (.slice _),.aX,.aX=>some true
  | some (.slice _),.aX,.ao .. | some (.slice _),.aX,.b0 .. | some (.slice _),.ao ..,.aX | some (.slice _),.b0 ..,.aX=>some false
  | _,_,_=>none
where
 eqFields (P:Program) (eq:TypeId->ae->ae->Option Bool) (xs bl:List ae) :List Field->Option Bool
  | []=>some true
  | f::fs=>if f.name= "_" then eqFields P eq xs bl fs else
   match hh P f.type xs f.offset,hh P f.type bl f.offset with
   | some a,some b=>match eq f.type a b with
    | some true=>eqFields P eq xs bl fs
    | some false=>some false
    | none=>none
   | _,_=>none
 qs (P:Program) (eq:TypeId->ae->ae->Option Bool) (e:TypeId) (z:Nat) (xs bl:List ae) :Nat->Nat->Option Bool
  | 0,_=>some true
  | n+1,i=>match hh P e xs (i*z),hh P e bl (i*z) with
   | some a,some b=>match eq e a b with
    | some true=>qs P eq e z xs bl n (i+1)
    | some false=>some false
    | none=>none
   | _,_=>none
def vg (P:Program) (t:TypeId) :ae->ae->Bool
 | .aV _,.aV _=>!P.eqGuardType P.depth t
 | _,_=>true
def gc (P:Program) (op:BinOp) (t:TypeId) (x y:ae) :Option ae:=
 match x,y with
 | .int k a,.int k' b=>cr op k a k' b
 | .str a,.str b=>pf op a b
 | x,y=>match op with
  | .eql=>if vg P t x y then (ej P 10000 t x y).map .bool else none
  | .neq=>if vg P t x y then (ej P 10000 t x y).map fun b=>.bool (!b) else none
  | _=>none
def o1 (op:UnOp) (x:ae) :Option ae:=
 match op,x with
 | .not,.bool b=>some (.bool (!b))
 | .neg,.int k n=>some (.int k (k.wrap (0 - n)))
 | .xor,.int k n=>some (.int k (k.wrap (BitVec.ofInt k.bits (if k.signed then -1 else k.max) ^^^ BitVec.ofInt k.bits n).toNat))
 | _,_=>none
def kJ (z:Nat) :Nat->List ae->List (List ae)
 | 0,_=>[]
 | n+1,cs=>cs.take z::kJ z n (cs.drop z)
def iq (b:UInt8) :ae:=.int .u8 b.toNat
def contents (h:aQ) (z:Nat) :ae->Option (List ae × Nat)
 | .aX=>some ([],0)
 | .b0 di es=>if z=di then some (es.flatten,es.length) else none
 | .ao di b off len _ sz=>match h.f b with
  | .cells n cs=>if n=sz/\z=di then some ((cs.drop off).take (len*z),len) else none
  | _=>none
 | .str s=>if z=1 then some (s.map iq,s.length) else none
 | _=>none
def cT:Nat:=140737488355328
def ry (P:Program) (t:TypeId) :Option Nat:=((P.info? t).bind (·.zero)).map (·.cells.size)
def te (P:Program) (h:aQ) (e:TypeId) (z by_:Nat) (s:ae) (xs:List ae) (n:Nat) :Option (ae × aQ) :=
 if n=0 then (match s with | .aX | .b0 .. | .ao ..=>some (s,h) | _=>none)
 else if z=0\/by_=0\/ry P e≠some z then none else match s with
  | .aX=>if n*by_<=cT then some (.ao z h.n 0 n n (n*z),h.push (.cells (n*z) xs)) else none
  | .ao di b off len cap sz=>match h.f b with
   | .cells m cs=>
    if m=sz/\z=di/\(len+n)*by_<=cT then
     if len+n<=cap then some (.ao z b off (len+n) cap sz,h.set b (.cells m (bS cs (off+len*z) xs)))
     else if off+cap*z<sz then some (.ao z h.n 0 (len+n) (len+n) ((len+n)*z),h.push (.cells ((len+n)*z) ((cs.drop off).take (len*z)++xs)))
     else if off=0 then some (.ao z b 0 (len+n) (len+n) ((len+n)*z),h.set b (.cells ((len+n)*z) (cs.take (len*z)++xs)))
     else some (.ao z h.n 0 (len+n) (len+n) ((len+n)*z),(h.set b .dead).push (.cells ((len+n)*z) ((cs.drop off).take (len*z)++xs)))
    else none
   | _=>none
  | _=>none
def qh (P:Program) (h:aQ) (t:TypeId) (s x:ae) :Option (ae × aQ) :=
 match hQ P t with
 | none=>none
 | some e=>match cz P e,iO P e with
  | some z,some by_=>match contents h z x with
   | none=>none
   | some (xs,n)=>te P h e z by_ s xs n
  | _,_=>none
def iN (x:ae) (y:Nat) :Option Nat:=match x with | .int _ i=>if 0<=i/\i<=y then some i.toNat else none | _=>none
def gd (len cap:Nat) (cW aA cI:Option ae) :Option (Nat × Nat × Nat) :=
 match (match cI with | some v=>iN v cap | none=>some cap) with
 | none=>none
 | some m=>match (match aA,cI with | some v,_=>iN v m | none,none=>some len | none,some _=>none) with
  | none=>none
  | some h=>match (match cW with | some v=>iN v h | none=>some 0) with
   | none=>none
   | some l=>some (l,h,m)
def Bu (P:Program) (t:TypeId) (x:ae) (cW aA cI:Option ae) :Option ae:=
 match P.underlying t,x with
 | some (.array n e),x=>match cz P e,gd n n cW aA cI with
  | some z,some (l,aN,m)=>match x with
   | .ptr b off sz=>if off+m*z<=sz then (if m=l then some (.b0 z []) else some (.ao z b (off+l*z) (aN - l) (m - l) sz)) else none
   | .cq cs off=>if off+n*z<=cs.length then some (.b0 z (kJ z (aN - l) (cs.drop (off+l*z)))) else none
   | _=>none
  | _,_=>none
 | some (.slice e),x=>match cz P e,x with
  | some z,.ao di b off len cap sz=>if z=di then (gd len cap cW aA cI).map fun (l,aN,m)=>if m=l then .ao z b (off+l*z) 0 0 sz else .ao z b (off+l*z) (aN - l) (m - l) sz else none
  | some z,.b0 di es=>if z=di then (gd es.length es.length cW aA cI).map fun (l,aN,_)=>.b0 z ((es.drop l).take (aN - l)) else none
  | some _,.aX=>(gd 0 0 cW aA cI).map fun _=>.aX
  | _,_=>none
 | some .string,.str s=>match cI with
  | none=>(gd s.length s.length cW aA none).map fun (l,aN,_)=>.str ((s.drop l).take (aN - l))
  | some _=>none
 | _,_=>none
def v8 (P:Program) (t:TypeId) (x:ae) :Option ae:=
 match P.underlying t,x with
 | some .string,.str s=>some (.int .i64 s.length)
 | some (.array n _),_=>some (.int .i64 n)
 | some (.slice _),.aX=>some (.int .i64 0)
 | some (.slice _),.ao _ _ _ len _ _=>some (.int .i64 len)
 | some (.slice _),.b0 _ es=>some (.int .i64 es.length)
 | some (.map _ _),.g6=>some (.int .i64 0)
 | _,_=>none
def DU (P:Program) (h:aQ) (t:TypeId) (l c:ae) :Option (ae × aQ) :=
 match hQ P t,asInt l,asInt c with
 | some e,some l,some c=>match cz P e,iO P e,g9 P e with
  | some z,some by_,some zero=>
   if zero.length=z/\0<=l/\l<=c/\c<9223372036854775808/\by_*c<=cT then
    some (.ao z h.n 0 l.toNat c.toNat (c.toNat*z),h.push (.cells (c.toNat*z) (dm zero c.toNat)))
   else none
  | _,_,_=>none
 | _,_,_=>none
def wW (P:Program) (h:aQ) (t:TypeId) (d x:ae) :Option (ae × aQ) :=
 match hQ P t with
 | none=>none
 | some e=>match cz P e with
  | none=>none
  | some z=>match contents h z x with
   | none=>none
   | some (xs,n)=>match d with
    | .aX=>some (.int .i64 0,h)
    | .ao di b off len _ sz=>match h.f b with
     | .cells m cs=>if m=sz/\z=di then some (.int .i64 ((min n len:Nat) :Int),h.set b (.cells m (bS cs off (xs.take (min n len*z))))) else none
     | _=>none
    | _=>none
def lO:List ae->Option (List UInt8)
 | []=>some []
 | .int .u8 n::r=>(lO r).map (UInt8.ofNat n.toNat::·)
 | _::_=>none
def vd (P:Program) (h:aQ) (src dst:TypeId) (x:ae) :Option ae:=
 match P.underlying src,P.underlying dst,x with
 | some _,some (.int k),.int _ n=>some (.int k (k.wrap n))
 | some _,some .string,.str s=>some (.str s)
 | some (.slice e),some .string,x=>match P.underlying e,x with
  | some (.int .u8),.aX=>some (.str [])
  | some (.int .u8),x=>match contents h 1 x,x with
   | some _,.str _=>none
   | some (cs,_),_=>(lO cs).map .str
   | none,_=>none
  | _,_=>none
 | _,_,_=>none
def wP (P:Program) (src dst:TypeId) (x:ae) :Option ae:=
 match P.underlying src,P.underlying dst,x with
 | some _,some (.slice e),.str s=>match P.underlying e with
  | some (.int .u8)=>some (.b0 1 (s.map fun b=>[iq b]))
  | _=>none
 | _,_,_=>none
def wR (P:Program) (t:TypeId) (x:ae) :Option ae:=
 match P.underlying t,x with
 | some (.array n _),_=>some (.int .i64 n)
 | some (.slice _),.aX=>some (.int .i64 0)
 | _,_=>none
def wT (P:Program) (h:aQ) (t:TypeId) (x:ae) :Option aQ:=
 match P.underlying t,x with
 | some (.slice _),.aX=>some h
 | some (.slice _),.b0 _ []=>some h
 | some (.slice e),.ao z b off len _ sz=>if len=0 then some h else match g9 P e,h.f b with
  | some zero,.cells m cs=>if m=sz/\zero.length=z then some (h.set b (.cells m (bS cs off (dm zero len)))) else none
  | _,_=>none
 | _,_=>none
def x6 (P:Program) (t:TypeId) (x hF:ae) :Option ae:=
 match P.underlying t,x,asInt hF with
 | some (.array n e),.aV cs,some i=>match cz P e with
  | some z=>if 0<=i/\i<n then hh P e cs (i.toNat*z) else none
  | none=>none
 | some .string,.str s,some i=>if 0<=i then (s[i.toNat]?).map iq else none
 | _,_,_=>none
mutual
def ae.beq:ae->ae->Bool
 | .bool a,y=>match y with | .bool b=>(match a,b with | true,true=>true | false,false=>true | _,_=>false) | _=>false
 | .int k n,y=>match y with | .int k' gB=>decide (k=k')&&decide (n=gB) | _=>false
 | .str a,y=>match y with | .str b=>decide (a=b) | _=>false
 | .iD,y=>match y with | .iD=>true | _=>false
 | .aX,y=>match y with | .aX=>true | _=>false
 | .g6,y=>match y with | .g6=>true | _=>false
 | .ie,y=>match y with | .ie=>true | _=>false
 | .iC,y=>match y with | .iC=>true | _=>false
 | .aV a,y=>match y with | .aV b=>e8 a b | _=>false
 | .bU a,y=>match y with | .bU b=>e8 a b | _=>false
 | .ptr a b c,y=>match y with | .ptr eL bx c'=>Nat.beq a eL&&Nat.beq b bx&&Nat.beq c c' | _=>false
 | .cq a n,y=>match y with | .cq eL gB=>e8 a eL&&Nat.beq n gB | _=>false
 | .ao a b c d e f,y=>match y with | .ao eL bx c' pg e0 agM=>Nat.beq a eL&&Nat.beq b bx&&Nat.beq c c'&&Nat.beq d pg&&Nat.beq e e0&&Nat.beq f agM | _=>false
 | .b0 a b,y=>match y with | .b0 eL bx=>Nat.beq a eL&&zb b bx | _=>false
 | .fn a b c,y=>match y with | .fn eL bx c'=>Nat.beq a eL&&e8 b bx&&e8 c c' | _=>false
 | .mp a,y=>match y with | .mp eL=>Nat.beq a eL | _=>false
 | .it a,y=>match y with | .it eL=>Nat.beq a eL | _=>false
 | .gg a b,y=>match y with | .gg eL bx=>Nat.beq a eL&&ae.beq b bx | _=>false
 | .la a,y=>match y with | .la eL=>Nat.beq a eL | _=>false
 | .bad,y=>match y with | .bad=>true | _=>false
def e8:List ae->List ae->Bool
 | [],y=>match y with | []=>true | _=>false
 | a::as,y=>match y with | b::bs=>ae.beq a b&&e8 as bs | _=>false
def zb:List (List ae)->List (List ae)->Bool
 | [],y=>match y with | []=>true | _=>false
 | a::as,y=>match y with | b::bs=>e8 a b&&zb as bs | _=>false
end
theorem jB {a b:Nat} (h:Nat.beq a b=true) :a=b:=Nat.eq_of_beq_eq_true h
mutual
theorem ae.beq_eq:∀ {a b:ae},ae.beq a b=true->a=b
 | .bool a,b,h=>by cases b<;>simp only[ae.beq] at h<;>first | cases h | (rename_i b; cases a<;>cases b<;>first | rfl | cases h)
 | .int k n,b,h=>by cases b<;>simp only[ae.beq] at h<;>first | cases h | (simp only[Bool.and_eq_true,decide_eq_true_eq] at h; rw[h.1,h.2])
 | .str a,b,h=>by cases b<;>simp only[ae.beq] at h<;>first | cases h | (simp only[decide_eq_true_eq] at h; rw[h])
 | .iD,b,h=>by cases b<;>simp only[ae.beq] at h<;>first | rfl | cases h
 | .aX,b,h=>by cases b<;>simp only[ae.beq] at h<;>first | rfl | cases h
 | .g6,b,h=>by cases b<;>simp only[ae.beq] at h<;>first | rfl | cases h
 | .ie,b,h=>by cases b<;>simp only[ae.beq] at h<;>first | rfl | cases h
 | .iC,b,h=>by cases b<;>simp only[ae.beq] at h<;>first | rfl | cases h
 | .bad,b,h=>by cases b<;>simp only[ae.beq] at h<;>first | rfl | cases h
 | .aV a,b,h=>by cases b<;>simp only[ae.beq] at h<;>first | cases h | rw[rM h]
 | .bU a,b,h=>by cases b<;>simp only[ae.beq] at h<;>first | cases h | rw[rM h]
 | .ptr ..,b,h=>by cases b<;>simp only[ae.beq] at h<;>first | cases h | (simp only[Bool.and_eq_true] at h; rw[jB h.1.1,jB h.1.2,jB h.2])
 | .cq a n,b,h=>by cases b<;>simp only[ae.beq] at h<;>first | cases h | (simp only[Bool.and_eq_true] at h; rw[rM h.1,jB h.2])
 | .ao ..,b,h=>by cases b<;>simp only[ae.beq] at h<;>first | cases h | (simp only[Bool.and_eq_true] at h; rw[jB h.1.1.1.1.1,jB h.1.1.1.1.2,jB h.1.1.1.2,jB h.1.1.2,jB h.1.2,jB h.2])
 | .b0 a n,b,h=>by cases b<;>simp only[ae.beq] at h<;>first | cases h | (simp only[Bool.and_eq_true] at h; rw[jB h.1,PW h.2])
 | .fn a n m,b,h=>by cases b<;>simp only[ae.beq] at h<;>first | cases h | (simp only[Bool.and_eq_true] at h; rw[jB h.1.1,rM h.1.2,rM h.2])
 | .mp a,b,h=>by cases b<;>simp only[ae.beq] at h<;>first | cases h | rw[jB h]
 | .it a,b,h=>by cases b<;>simp only[ae.beq] at h<;>first | cases h | rw[jB h]
 | .la a,b,h=>by cases b<;>simp only[ae.beq] at h<;>first | cases h | rw[jB h]
 | .gg a n,b,h=>by cases b<;>simp only[ae.beq] at h<;>first | cases h | (simp only[Bool.and_eq_true] at h; rw[jB h.1,ae.beq_eq h.2])
theorem rM:∀ {a b:List ae},e8 a b=true->a=b
 | [],b,h=>by cases b<;>simp only[e8] at h<;>first | rfl | cases h
 | x::a,b,h=>by cases b<;>simp only[e8] at h<;>first | cases h | (simp only[Bool.and_eq_true] at h; rw[ae.beq_eq h.1,rM h.2])
theorem PW:∀ {a b:List (List ae)},zb a b=true->a=b
 | [],b,h=>by cases b<;>simp only[zb] at h<;>first | rfl | cases h
 | x::a,b,h=>by cases b<;>simp only[zb] at h<;>first | cases h | (simp only[Bool.and_eq_true] at h; rw[rM h.1,PW h.2])
end
def rh:ae->Bool | .int .. | .str _ | .bool _=>true | _=>false
def pH (P:Program) :Nat->TypeId->Bool
 | 0,_=>false
 | d+1,t=>match P.underlying t,cz P t with
  | some (.int _),_=>true
  | some .string,_=>true
  | some .bool,_=>true
  | some (.array n e),some m=>pH P d e&&(match cz P e,dM P e with | some z,some _=>Nat.ble (n*z) m&&Nat.ble 1 z | _,_=>false)
  | some (.struct fs),some m=>fs.toList.all fun f=>pH P d f.type&&(match cz P f.type,dM P f.type with | some z,some _=>Nat.ble (f.offset+z) m&&Nat.ble 1 z | _,_=>false)
  | _,_=>false
def j5 (P:Program) (t:TypeId) (c:ae) :Bool:=
 match c with
 | .aV cs=>pH P 8 t&&(match dM P t,cz P t with | some true,some m=>Nat.beq cs.length m | _,_=>false)&&cs.all rh
 | _=>false
def iQ (P:Program) (cP:TypeId) (k:ae) :List (ae × ae × Nat)->Nat->Option (Option (Nat × ae))
 | [],_=>some none
 | (k',v,_) ::es,i=>match j5 P cP k' with
  | false=>none
  | true=>match ej P 10000 cP k k' with
   | some true=>match ae.beq k k' with | true=>some (some (i,v)) | false=>none
   | some false=>iQ P cP k es (i+1)
   | none=>none
def mapOf (h:aQ) :ae->Option (List (ae × ae × Nat))
 | .g6=>some []
 | .mp b=>match h.f b with | .map es _=>some es | _=>none
 | _=>none
def wC (P:Program) (t:TypeId) :Option ae:=((P.info? t).bind (·.zero)).map ut
def DR (P:Program) (h:aQ) (t:TypeId) (m k:ae) (ok:Bool) :Option ae:=
 match P.underlying t,mapOf h m with
 | some (.map cP lj),some es=>match j5 P cP k with
  | false=>none
  | true=>match iQ P cP k es 0 with
   | some (some (_,v))=>some (if ok then .bU [v,.bool true] else v)
   | some none=>(wC P lj).map fun z=>if ok then .bU [z,.bool false] else z
   | none=>none
 | _,_=>none
def wd (P:Program) (h:aQ) (t:TypeId) (m k v:ae) :Option aQ:=
 match P.underlying t,m with
 | some (.map cP _),.mp b=>match h.f b with
  | .map es ei=>match j5 P cP k with
   | false=>none
   | true=>match iQ P cP k es 0 with
    | some (some (i,_))=>some (h.set b (.map (es.modify i fun e=>(k,v,e.2.2)) ei))
    | some none=>some (h.set b (.map (es++[(k,v,ei)]) (ei+1)))
    | none=>none
  | _=>none
 | _,_=>none
def wa (P:Program) (h:aQ) (t:TypeId) (x:ae) :Option ae:=
 match P.underlying t,x with
 | some (.map _ _),.mp b=>match h.f b with | .map es _=>some (.int .i64 es.length) | _=>none
 | _,_=>none
def Em (P:Program) (h:aQ) (t:TypeId) (x:ae) :Option (ae × aQ) :=
 match P.underlying t,x with
 | some .string,.str s=>some (.it h.n,h.push (.iter s 0))
 | _,_=>none
def yd (h:aQ) (x:ae) :Option (ae × aQ) :=
 match x with
 | .it b=>match h.f b with
  | .iter s pos=>match Nat.blt pos s.length with
   | true=>some (.bU [.bool true,.int .i64 pos,.int .i32 (Utf8.decode ⟨s.toArray⟩ pos).1],h.set b (.iter s (pos+(Utf8.decode ⟨s.toArray⟩ pos).2)))
   | false=>some (.bU [.bool false],h)
  | _=>none
 | _=>none
def mA:List UInt8->List UInt8->Int
 | [],[]=>0
 | [],_::_=>-1
 | _::_,[]=>1
 | a::as,b::bs=>if a=b then mA as bs else if a<b then -1 else 1
def qk (h:aQ) (x:ae) :Option (List UInt8) :=match x with
 | .str s=>some s
 | x=>match contents h 1 x with
  | some (cs,_)=>lO cs
  | none=>none
def zs (h:aQ) :List ae->Option ae
 | [x,y]=>match qk h x,qk h y with
  | some a,some b=>some (.int .i64 (mA a b))
  | _,_=>none
 | _=>none
def AI (fn:Func) :Bool:=fn.body.isNone&&fn.name == "internal/bytealg.Compare"&&(fn.origin == ""||fn.origin == "internal/bytealg.Compare")
inductive n3 where
 | val (v:ae) (h:aQ)
 | call (f:FuncId) (args:List ae) (h:aQ)
def yb:ae->ae->Option ae
 | .int k x,.int k' y=>if k=k' then some (.int k (if y<x then y else x)) else none
 | _,_=>none
def sJ:ae->ae->Option ae
 | .int k x,.int k' y=>if k=k' then some (.int k (if x<y then y else x)) else none
 | _,_=>none
def gT:ae:=.bU []
def y9 (P:Program) (h:aQ) (t:TypeId) (s x:ae) :Option (ae × aQ) :=
 match hQ P t,asInt x with
 | some e,some n=>match cz P e,iO P e,g9 P e with
  | some z,some by_,some zero=>
   if zero.length=z/\0<=n/\n<9223372036854775808/\n.toNat*by_<=cT then te P h e z by_ s (dm zero n.toNat) n.toNat else none
  | _,_,_=>none
 | _,_=>none
def oe (P:Program) (h:aQ) (b:Builtin) (ts:List TypeId) (args:List ae) :Option n3:=
 match b,ts,args with
 | .len,[t],[x]=>match wa P h t x with
  | some v=>some (.val v h)
  | none=>(v8 P t x).map fun v=>.val v h
 | .append,[t,u],[s,x]=>match P.underlying u with
  | some (.int _)=>(y9 P h t s x).map fun (v,h')=>.val v h'
  | none=>none
  | _=>(qh P h t s x).map fun (v,h')=>.val v h'
 | .copy,[t,_],[d,x]=>(wW P h t d x).map fun (v,h')=>.val v h'
 | .cap,[t],[x]=>(wR P t x).map fun v=>.val v h
 | .clear,[t],[x]=>(wT P h t x).map fun h'=>.val (.bU []) h'
 | .min,_,[x,y]=>(yb x y).map fun v=>.val v h
 | .max,_,[x,y]=>(sJ x y).map fun v=>.val v h
 | _,_,_=>none
def we (P:Program) (t:TypeId) (name:String) :Option FuncId:=
 match P.underlying t with
 | some (.pointer _) | none=>none
 | _=>match P.info? t with
  | some i=>match i.methods.find? (·.name == name) with
   | some m=>match m.path.toList,m.func with
    | [],some (f,false)=>some f
    | _,_=>none
   | none=>none
  | none=>none
def yG (t:TypeId) (z:ae) (ok:Bool) :ae->Option ae
 | .gg fJ v=>match Nat.beq fJ t with
  | true=>match ok with | true=>some (.bU [v,.bool true]) | false=>some v
  | false=>match ok with | true=>some (.bU [z,.bool false]) | false=>none
 | .iC=>match ok with | true=>some (.bU [z,.bool false]) | false=>none
 | _=>none
def EJ (P:Program) (t:TypeId) :Option ae:=match P.underlying t with
 | some (.interface _) | none=>none
 | _=>wC P t
def ti (P:Program) (h:aQ) (aD:Operand->ae) (c:Call) :Option n3:=
 match c.callee with
 | .builtin b=>oe P h b c.argTypes.toList (c.args.toList.map aD)
 | .value f=>match aD f with
  | .fn g first ft=>match P.funcs[g]? with
   | some fn=>if fn.body.isSome/\fn.name≠ "runtime.NumGoroutine" then some (.call g (first++c.args.toList.map aD++ft) h)
    else if AI fn then (zs h (first++c.args.toList.map aD++ft)).map fun v=>.val v h else none
   | none=>none
  | _=>none
 | .invoke x name=>match aD x with
  | .gg t v=>match we P t name with
   | some g=>match P.funcs[g]? with
    | some fn=>if fn.body.isSome/\fn.name≠ "runtime.NumGoroutine" then some (.call g (v::c.args.toList.map aD) h) else none
    | none=>none
   | none=>none
  | _=>none
def c1 (P:Program) (h:aQ) (aD:Operand->ae) (op:Op) :Option n3:=
 let v (x:Option ae) :Option n3:=x.map fun y=>.val y h
 let w (x:Option (ae × aQ)) :Option n3:=x.map fun y=>.val y.1 y.2
 match op with
 | .move x | .assign x=>some (.val (aD x) h)
 | .pick c a b=>match aD c with | .bool t=>some (.val (if t then aD a else aD b) h) | _=>none
 | .alloc t=>(g9 P t).map fun z=>.val (.ptr h.n 0 z.length) (h.push (.cells z.length z))
 | .box _ x=>(aD x).cells.map fun cs=>.val (.ptr h.n 0 cs.length) (h.push (.cells cs.length cs))
 | .build t parts=>v (ze P t (parts.toList.map fun p=>(p.1,aD p.2)))
 | .buildSlice t len parts=>w (BZ P h t len (parts.toList.map fun p=>(p.1,aD p.2)))
 | .load t a=>v (q0 P h t (aD a))
 | .store t a x=>(yD P h t (aD a) (aD x)).map fun h'=>.val gT h'
 | .nilCheck x=>match aD x with | .ptr b o s=>some (.val (.ptr b o s) h) | .cq c o=>some (.val (.cq c o) h) | .fn f a b=>some (.val (.fn f a b) h) | _=>none
 | .binOp op t x y _=>v (gc P op t (aD x) (aD y))
 | .unOp op _ x=>v (o1 op (aD x))
 | .convert s d x=>match wP P s d (aD x) with
  | some c=>some (.val c h)
  | none=>v (vd P h s d (aD x))
 | .makeInterface t x=>match P.underlying t with
  | some (.interface _) | none=>none
  | _=>some (.val (.gg t (aD x)) h)
 | .makeFunc (.func f) first ft=>some (.val (.fn f (first.toList.map aD) (ft.toList.map aD)) h)
 | .makeSlice t l c=>w (DU P h t (aD l) (aD c))
 | .slice t x cW aA cI=>v (Bu P t (aD x) (cW.map aD) (aA.map aD) (cI.map aD))
 | .fieldAddr s x f=>v (Cs P s (aD x) f)
 | .field t x f=>match aD x,vi P t f with
  | .aV cs,some fd=>v (hh P fd.type cs fd.offset)
  | _,_=>none
 | .indexAddr t x i=>v (AG P t (aD x) (aD i))
 | .index t x i=>v (x6 P t (aD x) (aD i))
 | .extract x i=>match aD x with | .bU vs=>v vs[i]? | _=>none
 | .call c=>ti P h aD c
 | .makeMap t r=>match P.underlying t,(match r with | none=>true | some x=>(asInt (aD x)).isSome) with | some (.map _ _),true=>some (.val (.mp h.n) (h.push (.map [] 0))) | _,_=>none
 | .lookup t m k ok=>v (DR P h t (aD m) (aD k) ok)
 | .mapUpdate t m k x | .insert t m k x=>(wd P h t (aD m) (aD k) (aD x)).map fun h'=>.val gT h'
 | .range t x=>w (Em P h t (aD x))
 | .next it true=>w (yd h (aD it))
 | .typeAssert x _ t ok=>match EJ P t with | some z=>v (yG t z ok (aD x)) | none=>none
 | _=>none
structure M where
 r:Nat
 s:Nat
 T:Nat
abbrev cJ:=Nat->Option M
def live:bt->Bool
 | .cells .. | .map .. | .iter ..=>true
 | _=>false
def mO:bt->Nat
 | .map ..=>1
 | .iter ..=>2
 | _=>0
def kG (h:aQ) (μ:cJ) (k:Nat) :Prop:=∃ b m,live (h.f b)=true/\μ b=some m/\m.r=k
def s7 (h:aQ) (b sz:Nat) :Prop:=h.f b=.dead\/∃ n cs,h.f b=.cells n cs/\sz<n
structure Cell (w:World) (R:Nat->Prop) (h:aQ) (μ:cJ) (b o:Nat) (v:Value) :Prop where
 here:w.cell? ⟨b,o,none⟩=some v
 one:v.oneCell'=true
 ro:R b
 free:¬ kG h μ b
inductive aR (w:World) (R:Nat->Prop) (h:aQ) (μ:cJ) :ae->Value->Prop where
 | bool (b:Bool) :aR w R h μ (.bool b) (.bool b)
 | int (k:IntKind) (n:Int) :aR w R h μ (.int k n) (.int k n)
 | str (bs:ByteArray) :aR w R h μ (.str bs.data.toList) (.string bs)
 | iD:aR w R h μ .iD (.pointer none)
 | aX:aR w R h μ .aX (.slice none 0 0)
 | g6:aR w R h μ .g6 (.map none)
 | ie:aR w R h μ .ie .nilFunc
 | iC:aR w R h μ .iC .nilIface
 | aV (cs:List ae) (vs:Array Value) (au:vs.size=cs.length) (h1:∀ (j:Nat) (v:Value),vs[j]? = some v->v.oneCell'=true)
   (ax:∀ (j:Nat) (c:ae) (v:Value),cs[j]? = some c->vs[j]? = some v->aR w R h μ c v) :aR w R h μ (.aV cs) (.agg vs)
 | bU (cs:List ae) (vs:Array Value) (au:vs.size=cs.length)
   (ax:∀ (j:Nat) (c:ae) (v:Value),cs[j]? = some c->vs[j]? = some v->aR w R h μ c v) :aR w R h μ (.bU cs) (.tuple vs)
 | ptr (b off sz:Nat) (cs:List ae) (m:M) (ai:h.f b=.cells sz cs) (hm:μ b=some m) :
   aR w R h μ (.ptr b off sz) (.pointer (some ⟨m.r,m.s+off,none⟩))
 | lC (b off sz:Nat) (a:Addr) (az:s7 h b sz) :aR w R h μ (.ptr b off sz) (.pointer (some a))
 | cq (cs:List ae) (off blk o:Nat) (dS:Nat->Value) (al:∀ j,j<cs.length->Cell w R h μ blk (o+j) (dS j))
   (ax:∀ (j:Nat) (c:ae),cs[j]? = some c->aR w R h μ c (dS j)) :aR w R h μ (.cq cs off) (.pointer (some ⟨blk,o+off,none⟩))
 | ao (z b off len cap sz cap' : Nat) (cs:List ae) (m:M) (ai:h.f b=.cells sz cs) (hm:μ b=some m) (au:len<=cap) (ay:off+cap*z<=sz)
   (al:(off+cap*z<sz/\cap'=cap)\/(off+cap*z=sz/\cap<=cap'/\m.s+off+cap'*z<=m.T)) :
   aR w R h μ (.ao z b off len cap sz) (.slice (some ⟨m.r,m.s+off,none⟩) len cap')
 | fZ (z b off len cap sz cap' : Nat) (a:Addr) (au:len<=cap) (al:cap<=cap') (az:s7 h b sz) :aR w R h μ (.ao z b off len cap sz) (.slice (some a) len cap')
 | hi (z b off sz:Nat) (a:Addr) (cs:List ae) (m:M) (ai:h.f b=.cells sz cs) (hm:μ b=some m) :aR w R h μ (.ao z b off 0 0 sz) (.slice (some a) 0 0)
 | b0 (z:Nat) (es:List (List ae)) (blk off cap:Nat) (dS:Nat->Nat->Value) (au:es.length<=cap) (aB:∀ e,e∈es->e.length=z)
   (al:∀ i j,i<es.length->j<z->Cell w R h μ blk (off+(i*z+j)) (dS i j))
   (ax:∀ (i:Nat) (e:List ae),es[i]? = some e->∀ (j:Nat) (c:ae),e[j]? = some c->aR w R h μ c (dS i j)) :
   aR w R h μ (.b0 z es) (.slice (some ⟨blk,off,none⟩) es.length cap)
 | fo (z:Nat) (a:Addr) (cap:Nat) :aR w R h μ (.b0 z []) (.slice (some a) 0 cap)
 | fn (f:FuncId) (first ft:List ae) (fs cs:Array Value) (aI:fs.size=first.length) (al:cs.size=ft.length)
   (h1:∀ (j:Nat) (c:ae) (v:Value),first[j]? = some c->fs[j]? = some v->aR w R h μ c v) (ag:∀ (j:Nat) (c:ae) (v:Value),ft[j]? = some c->cs[j]? = some v->aR w R h μ c v) :
   aR w R h μ (.fn f first ft) (.func (.func f) fs cs)
 | mp (b:Nat) (m:M) (ai:mO (h.f b)=1) (hm:μ b=some m) :aR w R h μ (.mp b) (.map (some m.r))
 | it (b:Nat) (m:M) (ai:mO (h.f b)=2) (hm:μ b=some m) :aR w R h μ (.it b) (.pointer (some ⟨m.r,0,none⟩))
 | gg (t:TypeId) (c:ae) (v:Value) (ax:aR w R h μ c v) :aR w R h μ (.gg t c) (.iface t v)
 | la (l:Nat) :aR w R h μ (.la l) (.func (.yield l) #[] #[])
 | bad (v:Value) :aR w R h μ .bad v
structure Ext0 (w:World) (h:aQ) (μ:cJ) (w' : World) (h' : aQ) (μ' : cJ) :Prop where
 os:w'.os=w.os
 tape:w'.tape=w.tape
 output:w'.output=w.output
 size:w.heap.size<=w'.heap.size
 cM:∀ k,k<w.heap.size->¬ kG h μ k->w'.heap[k]? = w.heap[k]?
 own:∀ k,kG h' μ' k->kG h μ k\/w.heap.size<=k
 cells:∀ b sz cs m,h.f b=.cells sz cs->μ b=some m->(∃ cs',h'.f b=.cells sz cs'/\μ' b=some m)\/s7 h' b sz
 gone:∀ b sz,s7 h b sz->s7 h' b sz
 D3:∀ b k m,mO (h.f b)=k+1->μ b=some m->mO (h'.f b)=k+1/\μ' b=some m
 n:h.n<=h'.n
 drawn:w.drawn<=w'.drawn:=by first | exact Nat.le_refl _ | exact Nat.le_succ _ | assumption
structure dr (w:World) (h:aQ) (μ:cJ) (w' : World) (h' : aQ) (μ' : cJ) :Prop extends Ext0 w h μ w' h' μ' where
 o2:∀ b,b<h.n->μ b=none->μ' b=none
theorem Ext0.refl (w:World) (h:aQ) (μ:cJ) :Ext0 w h μ w h μ:=
 ⟨rfl,rfl,rfl,Nat.le_refl _,fun _ _ _=>rfl,fun _ h=>.inl h,fun b sz cs m h1 ag=>.inl ⟨cs,h1,ag⟩,fun _ _ h=>h,fun _ _ _ h1 ag=>⟨h1,ag⟩,Nat.le_refl _,Nat.le_refl _⟩
theorem dr.refl (w:World) (h:aQ) (μ:cJ) :dr w h μ w h μ:=⟨.refl w h μ,fun _ _ h=>h⟩
theorem Ext0.trans {w cb w2:World} {h h1 ag:aQ} {μ gE p9:cJ} (a:Ext0 w h μ cb h1 gE) (b:Ext0 cb h1 gE w2 ag p9) :Ext0 w h μ w2 ag p9:=by
 refine⟨b.os.trans a.os,b.tape.trans a.tape,b.output.trans a.output,Nat.le_trans a.size b.size,?_,?_,?_,fun _ _ az=>b.gone _ _ (a.gone _ _ az),?_,Nat.le_trans a.n b.n,Nat.le_trans a.drawn b.drawn⟩
 ·intro k hk aH;rw[b.cM k (Nat.lt_of_lt_of_le hk a.size) (fun ay=>(a.own k ay).elim aH (by omega)),a.cM k hk aH]
 ·intro k hk;rcases b.own k hk with h | h
  ·exact a.own k h
  ·exact .inr (Nat.le_trans a.size h)
 ·intro blk sz cs m ai hm;rcases a.cells blk sz cs m ai hm with ⟨cs',ap,aJ⟩ | ap
  ·exact b.cells blk sz cs' m ap aJ
  ·exact .inr (b.gone _ _ ap)
 ·intro blk k m ai hm;obtain⟨ap,aJ⟩:=a.D3 blk k m ai hm;exact b.D3 blk k m ap aJ
theorem dr.trans {w cb w2:World} {h h1 ag:aQ} {μ gE p9:cJ} (a:dr w h μ cb h1 gE) (b:dr cb h1 gE w2 ag p9) :dr w h μ w2 ag p9:=
 ⟨a.toExt0.trans b.toExt0,fun blk ai hm=>b.o2 blk (Nat.lt_of_lt_of_le ai a.n) (a.o2 blk ai hm)⟩
theorem Cell.ext {w w' : World} {h h' : aQ} {μ μ' : cJ} {R:Nat->Prop} {b o:Nat} {v:Value} (e:Ext0 w h μ w' h' μ') (c:Cell w R h μ b o v) :Cell w' R h' μ' b o v:=by
 have ai:b<w.heap.size:=World.block_lt_of_cell? _ _ c.here;refine⟨?_,c.one,c.ro,fun ay=>?_⟩
 ·rw[World.cell?_of_block (w:=w) (a:=⟨b,o,none⟩) (e.cM b ai c.free)]; exact c.here
 ·rcases e.own b ay with h1 | h1
  ·exact c.free h1
  ·omega
theorem aR.lU {w w' : World} {h h' : aQ} {μ μ' : cJ} {R:Nat->Prop} {c:ae} {v:Value} (e:Ext0 w h μ w' h' μ') (ax:aR w R h μ c v) :aR w' R h' μ' c v:=by
 induction ax with
 | bool b=>exact .bool b
 | int k n=>exact .int k n
 | str bs=>exact .str bs
 | iD=>exact .iD
 | aX=>exact .aX
 | g6=>exact .g6
 | ie=>exact .ie
 | iC=>exact .iC
 | aV cs vs au h1 ax aL=>exact .aV cs vs au h1 aL
 | bU cs vs au ax aL=>exact .bU cs vs au aL
 | ptr b off sz cs m ai hm=>
  rcases e.cells b sz cs m ai hm with ⟨cs',h1,ag⟩ | h1
  ·exact .ptr b off sz cs' m h1 ag
  ·exact .lC b off sz _ h1
 | lC b off sz a az=>exact .lC b off sz a (e.gone _ _ az)
 | cq cs off blk o dS al ax aL=>exact .cq cs off blk o dS (fun j am=>(al j am).ext e) aL
 | ao z b off len cap sz cap' cs m ai hm au ay al=>
  rcases e.cells b sz cs m ai hm with ⟨cs',h1,ag⟩ | h1
  ·exact .ao z b off len cap sz cap' cs' m h1 ag au ay al
  ·exact .fZ z b off len cap sz cap' _ au (by omega) h1
 | fZ z b off len cap sz cap' a au al az=>exact .fZ z b off len cap sz cap' a au al (e.gone _ _ az)
 | hi z b off sz a cs m ai hm=>
  rcases e.cells b sz cs m ai hm with ⟨cs',h1,ag⟩ | h1
  ·exact .hi z b off sz a cs' m h1 ag
  ·exact .fZ z b off 0 0 sz 0 a (Nat.le_refl _) (Nat.le_refl _) h1
 | b0 z es blk off cap dS au aB al ax aL=>exact .b0 z es blk off cap dS au aB (fun i j aA am=>(al i j aA am).ext e) aL
 | fo z a cap=>exact .fo z a cap
 | fn f first ft fs cs aI al h1 ag dY k0=>exact .fn f first ft fs cs aI al dY k0
 | mp b m ai hm=>
  obtain⟨h1,ag⟩:=e.D3 b 0 m ai hm;exact .mp b m h1 ag
 | it b m ai hm=>
  obtain⟨h1,ag⟩:=e.D3 b 1 m ai hm;exact .it b m h1 ag
 | gg t c v ax aL=>exact .gg t c v aL
 | la l=>exact .la l
 | bad v=>exact .bad v
theorem aR.ext {w w' : World} {h h' : aQ} {μ μ' : cJ} {R:Nat->Prop} {c:ae} {v:Value} (e:dr w h μ w' h' μ') (ax:aR w R h μ c v) :aR w' R h' μ' c v:=ax.lU e.toExt0
def s6 (w:World) (R:Nat->Prop) (h:aQ) (μ:cJ) (m:M) :bt->Prop
 | .cells sz cs=>cs.length=sz/\m.s+sz<=m.T/\∃ arr e fA,w.heap[m.r]? = some (.cells arr e fA)/\arr.size=m.T/\(fA=(0,0)\/m.T<fA.1) ∧
   ∀ (j:Nat) (c:ae),cs[j]? = some c->∃ v:Value,arr[m.s+j]? = some v/\v.oneCell'=true/\aR w R h μ c v
 | .map es ei=>∃ dn,w.heap[m.r]? = some (.map dn ei)/\dn.size=es.length ∧
   ∀ (j:Nat) (k v:ae) (b:Nat),es[j]? = some (k,v,b)->∃ x:MapEntry,dn[j]? = some x/\aR w R h μ k x.key/\aR w R h μ v x.val/\x.born=b
 | .iter s pos=>∃ bs:ByteArray,bs.data.toList=s/\w.heap[m.r]? = some (.stringIter bs pos)
 | _=>True
theorem s6.ext {w w' : World} {h h' : aQ} {μ μ' : cJ} {R:Nat->Prop} {m:M} (e:Ext0 w h μ w' h' μ') (bB:w'.heap[m.r]? = w.heap[m.r]?) :
  ∀ {c:bt},s6 w R h μ m c->s6 w' R h' μ' m c
 | .cells sz cs,⟨h1,ag,arr,t,fA,ap,aJ,bd,bL⟩=>⟨h1,ag,arr,t,fA,bB.trans ap,aJ,bd,fun j c am=>let ⟨v,a,b,d⟩:=bL j c am; ⟨v,a,b,d.lU e⟩⟩
 | .map es ei,⟨dn,h1,ag,ap⟩=>⟨dn,bB.trans h1,ag,fun j k v b am=>let ⟨x,a,ev,d,f⟩:=ap j k v b am; ⟨x,a,ev.lU e,d.lU e,f⟩⟩
 | .iter s pos,⟨bs,h1,ag⟩=>⟨bs,h1,bB.trans ag⟩
 | .none,_=>trivial
 | .dead,_=>trivial
structure cc (R:Nat->Prop) (B:Nat) (w:World) (h:aQ) (μ:cJ) :Prop where
 blk:∀ b m,μ b=some m->s6 w R h μ m (h.f b)
 inj:∀ b bx m cu,live (h.f b)=true->live (h.f bx)=true->μ b=some m->μ bx=some cu->m.r=cu.r->b=bx
 base:∀ b m,live (h.f b)=true->μ b=some m->B<=m.r
 fresh:∀ b,h.n<=b->h.f b=.none
 up:∀ k,B<=k->R k
 size:B<=w.heap.size
 j6:∀ b,h.n<=b->μ b=none
theorem cc.qj {R:Nat->Prop} {B:Nat} {w:World} {h:aQ} {μ:cJ} (rel:cc R B w h μ) {b:Nat} {m:M} (hm:μ b=some m) :b<h.n:=by
 rcases Nat.lt_or_ge b h.n with h1 | h1
 ·exact h1
 ·rw[rel.j6 b h1] at hm; cases hm
theorem cc.lt {R:Nat->Prop} {B:Nat} {w:World} {h:aQ} {μ:cJ} (rel:cc R B w h μ) {b:Nat} {m:M} (au:live (h.f b)=true) (hm:μ b=some m) :m.r<w.heap.size:=by
 have ai:=rel.blk b m hm;cases al:h.f b with
 | none=>rw[al] at au; cases au
 | dead=>rw[al] at au; cases au
 | cells sz cs=>
  rw[al] at ai;obtain⟨_,_,arr,t,fA,ap,_⟩:=ai;rcases Nat.lt_or_ge m.r w.heap.size with h | h
  ·exact h
  ·rw[Array.getElem?_eq_none h] at ap; cases ap
 | map es ei=>
  rw[al] at ai;obtain⟨dn,ap,_⟩:=ai;rcases Nat.lt_or_ge m.r w.heap.size with h | h
  ·exact h
  ·rw[Array.getElem?_eq_none h] at ap; cases ap
 | iter s pos=>
  rw[al] at ai;obtain⟨bs,_,ap⟩:=ai;rcases Nat.lt_or_ge m.r w.heap.size with h | h
  ·exact h
  ·rw[Array.getElem?_eq_none h] at ap; cases ap
theorem cc.s4 {R:Nat->Prop} {B:Nat} {w w' : World} {h h' : aQ} {μ μ' : cJ} (rel:cc R B w h μ) (e:Ext0 w h μ w' h' μ') (gG:Nat)
  (oF:∀ b,b≠gG->live (h'.f b)=true->h'.f b=h.f b/\μ' b=μ b/\∀ m,μ b=some m->w'.heap[m.r]? = w.heap[m.r]?)
  (jU:∀ m,μ' gG=some m->s6 w' R h' μ' m (h'.f gG))
  (eV:∀ b m cu,b≠gG->live (h'.f b)=true->live (h'.f gG)=true->μ b=some m->μ' gG=some cu->m.r≠cu.r)
  (CU:∀ m,live (h'.f gG)=true->μ' gG=some m->B<=m.r)
  (aiK:∀ b,h'.n<=b->h'.f b=.none) (ajo:∀ b,h'.n<=b->μ' b=none) :cc R B w' h' μ':=by
 refine⟨?_,?_,?_,aiK,rel.up,Nat.le_trans rel.size e.size,ajo⟩
 ·intro b m hm;by_cases ai:b=gG
  ·subst ai; exact jU m hm
  ·cases au:live (h'.f b) with
   | false=>cases al:h'.f b<;>first | trivial | (rw[al] at au; cases au)
   | true=>
    obtain⟨h1,ag,ap⟩:=oF b ai au;rw[ag] at hm;rw[h1];exact (rel.blk b m hm).ext e (ap m hm)
 ·intro b bx m cu au c6 hm b8 aC;by_cases ai:b=gG<;>by_cases bP:bx=gG
  ·rw[ai,bP]
  ·subst ai;obtain⟨h1,ag,ap⟩:=oF bx bP c6;rw[ag] at b8;exact absurd aC.symm (eV bx cu m bP c6 au b8 hm)
  ·subst bP;obtain⟨h1,ag,ap⟩:=oF b ai au;rw[ag] at hm;exact absurd aC (eV b m cu ai au c6 hm b8)
  ·obtain⟨h1,ag,_⟩:=oF b ai au;obtain⟨ap,aJ,_⟩:=oF bx bP c6;rw[h1] at au; rw[ag] at hm; rw[ap] at c6; rw[aJ] at b8;exact rel.inj b bx m cu au c6 hm b8 aC
 ·intro b m au hm;by_cases ai:b=gG
  ·subst ai; exact CU m au hm
  ·obtain⟨h1,ag,_⟩:=oF b ai au;rw[h1] at au; rw[ag] at hm;exact rel.base b m au hm
theorem cc.push {R:Nat->Prop} {B:Nat} {w w' : World} {h:aQ} {μ:cJ} (rel:cc R B w h μ) (cs:List ae) (arr:Array Value) (t:TypeId)
  (oE:w'.os=w.os) (su:w'.tape=w.tape) (ko:w'.output=w.output) (i8:w'.heap=w.heap.push (.cells arr t (0,0)))
  (g4:cs.length<=arr.size) (ax:∀ (j:Nat) (c:ae),cs[j]? = some c->∃ v:Value,arr[j]? = some v/\v.oneCell'=true/\aR w R h μ c v) (pp:w.drawn<=w'.drawn:=by first | exact Nat.le_refl _ | exact Nat.le_succ _ | assumption) :
  dr w h μ w' (h.push (.cells cs.length cs)) (b5 μ h.n (some ⟨w.heap.size,0,arr.size⟩)) ∧
  cc R B w' (h.push (.cells cs.length cs)) (b5 μ h.n (some ⟨w.heap.size,0,arr.size⟩)) :=by
 have aH:h.f h.n=.none:=rel.fresh _ (Nat.le_refl _);have e:dr w h μ w' (h.push (.cells cs.length cs)) (b5 μ h.n (some ⟨w.heap.size,0,arr.size⟩)) :=by
  refine⟨⟨oE,su,ko,by simp[i8],?_,?_,?_,?_,?_,?_,pp⟩,?_⟩
  ·intro k hk _;rw[i8,Array.getElem?_push,if_neg (by omega)]
  ·rintro k ⟨b,m,au,hm,rfl⟩;by_cases ai:b=h.n
   ·subst ai; simp at hm; subst hm; exact .inr (Nat.le_refl _)
   ·rw[cg _ _ _ _ ai] at hm;simp only[dR,e3,cg _ _ _ _ ai] at au;exact .inl ⟨b,m,au,hm,rfl⟩
  ·intro b sz cs' m ai hm;have:b≠h.n:=fun aN=>by rw[aN,aH] at ai; cases ai
   exact .inl ⟨cs',by simp only[dR,e3,cg _ _ _ _ this]; exact ai,by rw[cg _ _ _ _ this]; exact hm⟩
  ·rintro b sz (ai | ⟨n,cs',ai,aP⟩)
   ·have:b≠h.n:=fun aN=>by rw[aN,aH] at ai; cases ai
    exact .inl (by simp only[dR,e3,cg _ _ _ _ this]; exact ai)
   ·have:b≠h.n:=fun aN=>by rw[aN,aH] at ai; cases ai
    exact .inr ⟨n,cs',by simp only[dR,e3,cg _ _ _ _ this]; exact ai,aP⟩
  ·intro b k m ai hm;have:b≠h.n:=fun aN=>by rw[aN,aH] at ai; cases ai
   exact⟨by simp only[dR,e3,cg _ _ _ _ this]; exact ai,by rw[cg _ _ _ _ this]; exact hm⟩
  ·simp[dR,e3]
  ·intro b ai hm;rw[cg _ _ _ _ (by omega)]; exact hm
 refine⟨e,rel.s4 e.toExt0 h.n ?_ ?_ ?_ ?_ ?_ ?_⟩
 ·intro b ai au;simp only[dR,e3,cg _ _ _ _ ai] at au ⊢;exact⟨trivial,trivial,fun m hm=>by rw[i8,Array.getElem?_push,if_neg (by have:=rel.lt au hm; omega)]⟩
 ·intro m hm;simp at hm; subst hm;simp only[dR,e3,i7];refine⟨rfl,by simpa using g4,arr,t,(0,0),by simp[i8],rfl,.inl rfl,fun j c am=>?_⟩;obtain⟨v,h1,ag,ap⟩:=ax j c am;exact⟨v,by simpa using h1,ag,ap.ext e⟩
 ·intro b m cu ai au _ hm b8;simp only[dR,e3,cg _ _ _ _ ai] at au;simp at b8; subst b8;have:=rel.lt au hm;simp only[ne_eq]; omega
 ·intro m _ hm;simp at hm; subst hm;exact rel.size
 ·intro b ai;simp only[dR,e3] at ai ⊢;rw[cg _ _ _ _ (by omega)];exact rel.fresh b (by omega)
 ·intro b ai;simp only[dR,e3] at ai;rw[cg _ _ _ _ (by omega)];exact rel.j6 b (by omega)
theorem cc.same {R:Nat->Prop} {B:Nat} {w:World} {h h' : aQ} {μ:cJ} (rel:cc R B w h μ) (aI:h'.f=h.f) (aH:h'.n=h.n) :dr w h μ w h' μ/\cc R B w h' μ:=by
 have e:dr w h μ w h' μ:=by
  refine⟨⟨rfl,rfl,rfl,Nat.le_refl _,fun _ _ _=>rfl,?_,?_,?_,?_,by omega,Nat.le_refl _⟩,fun _ _ hm=>hm⟩
  ·rintro k ⟨bx,cu,c6,b8,rfl⟩;rw[aI] at c6; exact .inl ⟨bx,cu,c6,b8,rfl⟩
  ·intro bx sz' cs' cu bP b8;exact .inl ⟨cs',by rw[aI]; exact bP,b8⟩
  ·intro bx sz' az;unfold s7 at az ⊢; rw[aI]; exact az
  ·intro bx k' cu bP b8;exact⟨by rw[aI]; exact bP,b8⟩
 refine⟨e,rel.s4 e.toExt0 h.n (fun b _ _=>⟨by rw[aI],rfl,fun _ _=>rfl⟩) (fun m hm=>?_) (fun b m cu _ _ _ _ hm=>?_) (fun m _ hm=>?_) (fun b ai=>by rw[aI]; exact rel.fresh b (by omega)) (by rw[aH]; exact rel.j6)⟩
 all_goals (rw[rel.j6 h.n (Nat.le_refl _)] at hm; cases hm)
theorem cc.kill {R:Nat->Prop} {B:Nat} {w:World} {h h' : aQ} {μ:cJ} (rel:cc R B w h μ) {b sz:Nat} {cs:List ae} (ai:h.f b=.cells sz cs) (nh:b<h.n)
  (aI:h'.f=b5 h.f b .dead) (aH:h'.n=h.n) :dr w h μ w h' μ/\cc R B w h' μ:=by
 have e:dr w h μ w h' μ:=by
  refine⟨⟨rfl,rfl,rfl,Nat.le_refl _,fun _ _ _=>rfl,?_,?_,?_,?_,by omega,Nat.le_refl _⟩,fun _ _ hm=>hm⟩
  ·rintro k ⟨bx,cu,c6,b8,rfl⟩;rw[aI] at c6;by_cases ca:bx=b
   ·subst ca; simp[live] at c6
   ·rw[cg _ _ _ _ ca] at c6; exact .inl ⟨bx,cu,c6,b8,rfl⟩
  ·intro bx sz' cs' cu bP b8;by_cases ca:bx=b
   ·subst ca; exact .inr (.inl (by rw[aI]; simp))
   ·exact .inl ⟨cs',by rw[aI,cg _ _ _ _ ca]; exact bP,b8⟩
  ·rintro bx sz' az;by_cases ca:bx=b
   ·subst ca; exact .inl (by rw[aI]; simp)
   ·rcases az with az | ⟨n,cs',az,aP⟩
    ·exact .inl (by rw[aI,cg _ _ _ _ ca]; exact az)
    ·exact .inr ⟨n,cs',by rw[aI,cg _ _ _ _ ca]; exact az,aP⟩
  ·intro bx k' cu bP b8;by_cases ca:bx=b
   ·subst ca; rw[ai] at bP; cases bP
   ·exact⟨by rw[aI,cg _ _ _ _ ca]; exact bP,b8⟩
 refine⟨e,rel.s4 e.toExt0 b ?_ ?_ ?_ ?_ ?_ (by rw[aH]; exact rel.j6)⟩
 ·intro bx ca au;rw[aI,cg _ _ _ _ ca];exact⟨rfl,rfl,fun _ _=>rfl⟩
 ·intro m _;rw[aI]; simp[s6]
 ·intro bx m cu _ _ au;rw[aI] at au; simp[live] at au
 ·intro m au;rw[aI] at au; simp[live] at au
 ·intro bx bP;rw[aI,cg _ _ _ _ (by omega)];exact rel.fresh bx (by omega)
theorem cc.ab6 {R:Nat->Prop} {B:Nat} {w:World} {h h' : aQ} {μ:cJ} (rel:cc R B w h μ) {b sz off:Nat} {cs:List ae} {m:M} (ai:h.f b=.cells sz cs) (hm:μ b=some m) (ay:off<=sz)
  (aI:h'.f=b5 (b5 h.f b .dead) h.n (.cells (sz - off) (cs.drop off))) (aH:h'.n=h.n+1) :
  dr w h μ w h' (b5 μ h.n (some ⟨m.r,m.s+off,m.T⟩))/\cc R B w h' (b5 μ h.n (some ⟨m.r,m.s+off,m.T⟩)) :=by
 have nh:=rel.qj hm;have vP:h.f h.n=.none:=rel.fresh _ (Nat.le_refl _);have jW:live (h.f b)=true:=by rw[ai]; rfl
 have e:dr w h μ w h' (b5 μ h.n (some ⟨m.r,m.s+off,m.T⟩)) :=by
  refine⟨⟨rfl,rfl,rfl,Nat.le_refl _,fun _ _ _=>rfl,?_,?_,?_,?_,by omega,Nat.le_refl _⟩,fun bx bP b8=>by rw[cg _ _ _ _ (by omega)]; exact b8⟩
  ·rintro k ⟨bx,cu,c6,b8,rfl⟩;rw[aI] at c6;by_cases jn:bx=h.n
   ·subst jn; simp at b8; subst b8; exact .inl ⟨b,m,jW,hm,rfl⟩
   ·rw[cg _ _ _ _ jn] at c6 b8;by_cases ca:bx=b
    ·subst ca; simp[live] at c6
    ·rw[cg _ _ _ _ ca] at c6; exact .inl ⟨bx,cu,c6,b8,rfl⟩
  ·intro bx sz' cs' cu bP b8;have jn:bx≠h.n:=fun aN=>by rw[aN,vP] at bP; cases bP
   by_cases ca:bx=b
   ·subst ca; exact .inr (.inl (by rw[aI,cg _ _ _ _ jn]; simp))
   ·exact .inl ⟨cs',by rw[aI,cg _ _ _ _ jn,cg _ _ _ _ ca]; exact bP,by rw[cg _ _ _ _ jn]; exact b8⟩
  ·rintro bx sz' az;have jn:bx≠h.n:=fun aN=>by
    subst aN;rcases az with az | ⟨n,cs',az,_⟩
    ·rw[vP] at az; cases az
    ·rw[vP] at az; cases az
   by_cases ca:bx=b
   ·subst ca; exact .inl (by rw[aI,cg _ _ _ _ jn]; simp)
   ·rcases az with az | ⟨n,cs',az,aP⟩
    ·exact .inl (by rw[aI,cg _ _ _ _ jn,cg _ _ _ _ ca]; exact az)
    ·exact .inr ⟨n,cs',by rw[aI,cg _ _ _ _ jn,cg _ _ _ _ ca]; exact az,aP⟩
  ·intro bx k' cu bP b8;have jn:bx≠h.n:=fun aN=>by rw[aN,vP] at bP; cases bP
   by_cases ca:bx=b
   ·subst ca; rw[ai] at bP; cases bP
   ·exact⟨by rw[aI,cg _ _ _ _ jn,cg _ _ _ _ ca]; exact bP,by rw[cg _ _ _ _ jn]; exact b8⟩
 have oF:∀ bx,bx≠h.n->live (h'.f bx)=true->bx≠b/\h'.f bx=h.f bx:=fun bx jn au=>by
  rw[aI,cg _ _ _ _ jn] at au ⊢;by_cases ca:bx=b
  ·subst ca; simp[live] at au
  ·exact⟨ca,by rw[cg _ _ _ _ ca]⟩
 refine⟨e,rel.s4 e.toExt0 h.n ?_ ?_ ?_ ?_ ?_ ?_⟩
 ·intro bx jn au;exact⟨(oF bx jn au).2,by rw[cg _ _ _ _ jn],fun _ _=>rfl⟩
 ·intro cu b8;simp at b8; subst b8;rw[aI,i7];have en:=rel.blk b m hm;rw[ai] at en;obtain⟨h1,ag,arr,t,fA,ap,aJ,bd,bL⟩:=en;refine⟨by simp; omega,by simp only; omega,arr,t,fA,ap,aJ,bd,fun j c am=>?_⟩;rw[List.getElem?_drop] at am;obtain⟨v,bj,bz,a3⟩:=bL (off+j) c am;exact⟨v,by simp only; rw[Nat.add_assoc]; exact bj,bz,a3.ext e⟩
 ·intro bx jA jc jn au _ h1 ag aN;simp at ag; subst ag;obtain⟨ca,hD⟩:=oF bx jn au;rw[hD] at au;exact ca (rel.inj bx b jA m au jW h1 hm aN)
 ·intro cu _ b8;simp at b8; subst b8;exact rel.base b m jW hm
 ·intro bx bP;rw[aI,cg _ _ _ _ (by omega),cg _ _ _ _ (by omega)];exact rel.fresh bx (by omega)
 ·intro bx bP;rw[cg _ _ _ _ (by omega)];exact rel.j6 bx (by omega)
theorem cc.YV {R:Nat->Prop} {B:Nat} {w w' : World} {h:aQ} {μ:cJ} (rel:cc R B w h μ) (c:bt) (o:Obj) {k:Nat} (hk:mO c=k+1)
  (oE:w'.os=w.os) (su:w'.tape=w.tape) (ko:w'.output=w.output) (i8:w'.heap=w.heap.push o)
  (eb:s6 w' R (h.push c) (b5 μ h.n (some ⟨w.heap.size,0,0⟩)) ⟨w.heap.size,0,0⟩ c) (pp:w.drawn<=w'.drawn:=by first | exact Nat.le_refl _ | exact Nat.le_succ _ | assumption) :
  dr w h μ w' (h.push c) (b5 μ h.n (some ⟨w.heap.size,0,0⟩))/\cc R B w' (h.push c) (b5 μ h.n (some ⟨w.heap.size,0,0⟩)) :=by
 have aH:h.f h.n=.none:=rel.fresh _ (Nat.le_refl _);have atI:mO bt.none=0:=rfl;have e:dr w h μ w' (h.push c) (b5 μ h.n (some ⟨w.heap.size,0,0⟩)) :=by
  refine⟨⟨oE,su,ko,by simp[i8],?_,?_,?_,?_,?_,?_,pp⟩,?_⟩
  ·intro k hk _;rw[i8,Array.getElem?_push,if_neg (by omega)]
  ·rintro k ⟨b,m,au,hm,rfl⟩;by_cases ai:b=h.n
   ·subst ai; simp at hm; subst hm; exact .inr (Nat.le_refl _)
   ·rw[cg _ _ _ _ ai] at hm;simp only[dR,e3,cg _ _ _ _ ai] at au;exact .inl ⟨b,m,au,hm,rfl⟩
  ·intro b sz cs' m ai hm;have:b≠h.n:=fun aN=>by rw[aN,aH] at ai; cases ai
   exact .inl ⟨cs',by simp only[dR,e3,cg _ _ _ _ this]; exact ai,by rw[cg _ _ _ _ this]; exact hm⟩
  ·rintro b sz (ai | ⟨n,cs',ai,aP⟩)
   ·have:b≠h.n:=fun aN=>by rw[aN,aH] at ai; cases ai
    exact .inl (by simp only[dR,e3,cg _ _ _ _ this]; exact ai)
   ·have:b≠h.n:=fun aN=>by rw[aN,aH] at ai; cases ai
    exact .inr ⟨n,cs',by simp only[dR,e3,cg _ _ _ _ this]; exact ai,aP⟩
  ·intro b k m ai hm;have:b≠h.n:=fun aN=>by rw[aN,aH] at ai; cases ai
   exact⟨by simp only[dR,e3,cg _ _ _ _ this]; exact ai,by rw[cg _ _ _ _ this]; exact hm⟩
  ·simp[dR,e3]
  ·intro b ai hm;rw[cg _ _ _ _ (by omega)]; exact hm
 refine⟨e,rel.s4 e.toExt0 h.n ?_ ?_ ?_ ?_ ?_ ?_⟩
 ·intro b ai au;simp only[dR,e3,cg _ _ _ _ ai] at au ⊢;exact⟨trivial,trivial,fun m hm=>by rw[i8,Array.getElem?_push,if_neg (by have:=rel.lt au hm; omega)]⟩
 ·intro m hm;simp at hm; subst hm;simp only[dR,e3,i7];exact eb
 ·intro b m cu ai au _ hm b8;simp only[dR,e3,cg _ _ _ _ ai] at au;simp at b8; subst b8;have:=rel.lt au hm;simp only[ne_eq]; omega
 ·intro m _ hm;simp at hm; subst hm;exact rel.size
 ·intro b ai;simp only[dR,e3] at ai ⊢;rw[cg _ _ _ _ (by omega)];exact rel.fresh b (by omega)
 ·intro b ai;simp only[dR,e3] at ai ⊢;rw[cg _ _ _ _ (by omega)];exact rel.j6 b (by omega)
theorem cc.YZ {R:Nat->Prop} {B:Nat} {w w' : World} {h:aQ} {μ:cJ} (rel:cc R B w h μ) {b k:Nat} {c c' : bt} {m:M}
  (ai:h.f b=c) (hk:mO c=k+1) (eH:mO c'=k+1) (hm:μ b=some m)
  (oE:w'.os=w.os) (su:w'.tape=w.tape) (ko:w'.output=w.output) (vY:w'.heap.size=w.heap.size) (Ay:∀ k,k≠m.r->w'.heap[k]? = w.heap[k]?)
  (eb:Ext0 w h μ w' (h.set b c') μ->s6 w' R (h.set b c') μ m c') (pp:w.drawn<=w'.drawn:=by first | exact Nat.le_refl _ | exact Nat.le_succ _ | assumption) :
  dr w h μ w' (h.set b c') μ/\cc R B w' (h.set b c') μ:=by
 have jW:live (h.f b)=true:=by rw[ai]; cases c<;>simp[mO] at hk<;>rfl
 have atM:live c'=true:=by cases c'<;>simp[mO] at eH<;>rfl
 have JL:∀ sz cs,h.f b≠.cells sz cs:=fun sz cs aN=>by rw[ai] at aN; subst aN; simp[mO] at hk
 have vN:h.f b≠.dead:=fun aN=>by rw[ai] at aN; subst aN; simp[mO] at hk
 have e:dr w h μ w' (h.set b c') μ:=by
  refine⟨⟨oE,su,ko,Nat.le_of_eq vY.symm,?_,?_,?_,?_,?_,Nat.le_refl _,pp⟩,fun _ _ hm=>hm⟩
  ·intro k hk aH;exact Ay k (fun aN=>aH ⟨b,m,jW,hm,aN.symm⟩)
  ·rintro k ⟨bx,cu,c6,b8,rfl⟩;by_cases ca:bx=b
   ·subst ca; exact .inl ⟨bx,cu,jW,b8,rfl⟩
   ·simp only[dz,cg _ _ _ _ ca] at c6;exact .inl ⟨bx,cu,c6,b8,rfl⟩
  ·intro bx sz cs cu bP b8;have ca:bx≠b:=fun aN=>by subst aN; exact JL _ _ bP
   exact .inl ⟨cs,by simp only[dz,cg _ _ _ _ ca]; exact bP,b8⟩
  ·rintro bx sz (az | ⟨n,cs',az,aP⟩)
   ·have ca:bx≠b:=fun aN=>by subst aN; exact vN az
    exact .inl (by simp only[dz,cg _ _ _ _ ca]; exact az)
   ·have ca:bx≠b:=fun aN=>by subst aN; exact JL _ _ az
    exact .inr ⟨n,cs',by simp only[dz,cg _ _ _ _ ca]; exact az,aP⟩
  ·intro bx k' cu bP b8;by_cases ca:bx=b
   ·subst ca;refine⟨?_,b8⟩;simp only[dz,i7];rw[ai,hk] at bP;rw[eH]; exact bP
   ·exact⟨by simp only[dz,cg _ _ _ _ ca]; exact bP,b8⟩
 refine⟨e,rel.s4 e.toExt0 b ?_ ?_ ?_ ?_ ?_ rel.j6⟩
 ·intro bx ca au;simp only[dz,cg _ _ _ _ ca] at au ⊢;exact⟨trivial,trivial,fun cu b8=>Ay _ (fun aN=>ca (rel.inj bx b cu m au jW b8 hm aN))⟩
 ·intro cu b8;rw[hm] at b8; cases b8;simp only[dz,i7];exact eb e.toExt0
 ·intro bx jA jc ca au _ h1 ag aN;rw[hm] at ag; cases ag;simp only[dz,cg _ _ _ _ ca] at au;exact ca (rel.inj bx b jA m au jW h1 hm aN)
 ·intro cu _ b8;rw[hm] at b8; cases b8;exact rel.base b m jW hm
 ·intro bx bP;by_cases ca:bx=b
  ·subst ca;have:=rel.qj hm;simp only[eI] at bP; omega
  ·simp only[dz,cg _ _ _ _ ca]; exact rel.fresh bx bP
theorem cc.write {R:Nat->Prop} {B:Nat} {w w' : World} {h:aQ} {μ:cJ} (rel:cc R B w h μ) {b sz sz' : Nat} {cs cs' : List ae} {m:M} {arr arr' : Array Value} {t:TypeId} {fA:Nat × Nat}
  (ai:h.f b=.cells sz cs) (hm:μ b=some m) (aC:w.heap[m.r]? = some (.cells arr t fA)) (dt:arr.size=m.T) (kU:fA=(0,0)\/m.T<fA.1)
  (oE:w'.os=w.os) (su:w'.tape=w.tape) (ko:w'.output=w.output) (vY:w'.heap.size=w.heap.size)
  (Az:w'.heap[m.r]? = some (.cells arr' t fA)) (Ay:∀ k,k≠m.r->w'.heap[k]? = w.heap[k]?) (aG:arr'.size=arr.size)
  (au:cs'.length=sz') (oy:sz<=sz') (dP:m.s+sz'<=m.T)
  (ax:∀ (j:Nat) (c:ae),cs'[j]? = some c->∃ v:Value,arr'[m.s+j]? = some v/\v.oneCell'=true/\aR w R h μ c v) (pp:w.drawn<=w'.drawn:=by first | exact Nat.le_refl _ | exact Nat.le_succ _ | assumption) :
  dr w h μ w' (h.set b (.cells sz' cs')) μ/\cc R B w' (h.set b (.cells sz' cs')) μ:=by
 have jW:live (h.f b)=true:=by rw[ai]; rfl
 have e:dr w h μ w' (h.set b (.cells sz' cs')) μ:=by
  refine⟨⟨oE,su,ko,Nat.le_of_eq vY.symm,?_,?_,?_,?_,?_,Nat.le_refl _,pp⟩,fun _ _ hm=>hm⟩
  ·intro k hk aH;exact Ay k (fun aN=>aH ⟨b,m,jW,hm,aN.symm⟩)
  ·rintro k ⟨bx,cu,c6,b8,rfl⟩;by_cases ca:bx=b
   ·subst ca; exact .inl ⟨bx,cu,jW,b8,rfl⟩
   ·simp only[dz,eI,cg _ _ _ _ ca] at c6;exact .inl ⟨bx,cu,c6,b8,rfl⟩
  ·intro bx apz mC cu bP b8;by_cases ca:bx=b
   ·subst ca;rw[ai] at bP; cases bP;by_cases ar:sz'=sz
    ·exact .inl ⟨cs',by simp[dz,eI,ar],b8⟩
    ·exact .inr (.inr ⟨sz',cs',by simp[dz,eI],by omega⟩)
   ·exact .inl ⟨mC,by simp only[dz,eI,cg _ _ _ _ ca]; exact bP,b8⟩
  ·rintro bx s0 (bP | ⟨n,mC,bP,aP⟩)
   ·have ca:bx≠b:=fun aN=>by rw[aN,ai] at bP; cases bP
    exact .inl (by simp only[dz,eI,cg _ _ _ _ ca]; exact bP)
   ·by_cases ca:bx=b
    ·subst ca;rw[ai] at bP; cases bP;exact .inr ⟨sz',cs',by simp[dz,eI],by omega⟩
    ·exact .inr ⟨n,mC,by simp only[dz,eI,cg _ _ _ _ ca]; exact bP,aP⟩
  ·intro bx k cu bP b8;have ca:bx≠b:=fun aN=>by rw[aN,ai] at bP; cases bP
   exact⟨by simp only[dz,eI,cg _ _ _ _ ca]; exact bP,b8⟩
 refine⟨e,rel.s4 e.toExt0 b ?_ ?_ ?_ ?_ ?_ ?_⟩
 ·intro bx ca c6;simp only[dz,eI,cg _ _ _ _ ca] at c6 ⊢;exact⟨trivial,trivial,fun cu b8=>Ay _ (fun aN=>ca (rel.inj bx b cu m c6 jW b8 hm aN))⟩
 ·intro cu b8;rw[hm] at b8; cases b8;simp only[dz,eI,i7];refine⟨au,dP,arr',t,fA,Az,aG.trans dt,kU,fun j c am=>?_⟩;obtain⟨v,h1,ag,ap⟩:=ax j c am;exact⟨v,h1,ag,ap.ext e⟩
 ·intro bx cu alX ca c6 _ b8 Al aN;rw[hm] at Al; cases Al;simp only[dz,eI,cg _ _ _ _ ca] at c6;exact ca (rel.inj bx b cu m c6 jW b8 hm aN)
 ·intro cu _ b8;exact rel.base b cu jW b8
 ·intro bx bP;simp only[dz,eI] at bP ⊢;have ca:bx≠b:=fun aN=>by
   have:=rel.fresh bx bP;rw[aN,ai] at this; cases this
  rw[cg _ _ _ _ ca];exact rel.fresh bx bP
 ·intro bx bP;exact rel.j6 bx bP
theorem cc.move {R:Nat->Prop} {B:Nat} {w w' : World} {h:aQ} {μ:cJ} (rel:cc R B w h μ) {b sz sz' : Nat} {cs cs' : List ae} {m:M} {arr:Array Value} {t:TypeId}
  (ai:h.f b=.cells sz cs) (hm:μ b=some m)
  (oE:w'.os=w.os) (su:w'.tape=w.tape) (ko:w'.output=w.output) (i8:w'.heap=w.heap.push (.cells arr t (0,0)))
  (au:cs'.length=sz') (oy:sz<sz') (dP:sz'<=arr.size)
  (ax:∀ (j:Nat) (c:ae),cs'[j]? = some c->∃ v:Value,arr[j]? = some v/\v.oneCell'=true/\aR w R h μ c v) (pp:w.drawn<=w'.drawn:=by first | exact Nat.le_refl _ | exact Nat.le_succ _ | assumption) :
  dr w h μ w' (h.set b (.cells sz' cs')) (b5 μ b (some ⟨w.heap.size,0,arr.size⟩))/\cc R B w' (h.set b (.cells sz' cs')) (b5 μ b (some ⟨w.heap.size,0,arr.size⟩)) :=by
 have jW:live (h.f b)=true:=by rw[ai]; rfl
 have e:dr w h μ w' (h.set b (.cells sz' cs')) (b5 μ b (some ⟨w.heap.size,0,arr.size⟩)) :=by
  refine⟨⟨oE,su,ko,by simp[i8],?_,?_,?_,?_,?_,Nat.le_refl _,pp⟩,?_⟩
  ·intro k hk aH;rw[i8,Array.getElem?_push,if_neg (by omega)]
  ·rintro k ⟨bx,cu,c6,b8,rfl⟩;by_cases ca:bx=b
   ·subst ca; simp at b8; subst b8; exact .inr (Nat.le_refl _)
   ·rw[cg _ _ _ _ ca] at b8;simp only[dz,eI,cg _ _ _ _ ca] at c6;exact .inl ⟨bx,cu,c6,b8,rfl⟩
  ·intro bx apz mC cu bP b8;by_cases ca:bx=b
   ·subst ca;rw[ai] at bP; cases bP;exact .inr (.inr ⟨sz',cs',by simp[dz,eI],by omega⟩)
   ·exact .inl ⟨mC,by simp only[dz,eI,cg _ _ _ _ ca]; exact bP,by rw[cg _ _ _ _ ca]; exact b8⟩
  ·rintro bx s0 (bP | ⟨n,mC,bP,aP⟩)
   ·have ca:bx≠b:=fun aN=>by rw[aN,ai] at bP; cases bP
    exact .inl (by simp only[dz,eI,cg _ _ _ _ ca]; exact bP)
   ·by_cases ca:bx=b
    ·subst ca;rw[ai] at bP; cases bP;exact .inr ⟨sz',cs',by simp[dz,eI],by omega⟩
    ·exact .inr ⟨n,mC,by simp only[dz,eI,cg _ _ _ _ ca]; exact bP,aP⟩
  ·intro bx k cu bP b8;have ca:bx≠b:=fun aN=>by rw[aN,ai] at bP; cases bP
   exact⟨by simp only[dz,eI,cg _ _ _ _ ca]; exact bP,by rw[cg _ _ _ _ ca]; exact b8⟩
  ·intro bx _ b8;have ca:bx≠b:=fun aN=>by rw[aN,hm] at b8; cases b8
   rw[cg _ _ _ _ ca]; exact b8
 refine⟨e,rel.s4 e.toExt0 b ?_ ?_ ?_ ?_ ?_ ?_⟩
 ·intro bx ca c6;simp only[dz,eI,cg _ _ _ _ ca] at c6 ⊢;exact⟨trivial,trivial,fun cu b8=>by rw[i8,Array.getElem?_push,if_neg (by have:=rel.lt c6 b8; omega)]⟩
 ·intro cu b8;simp at b8; subst b8;simp only[dz,eI,i7];refine⟨au,by simpa using dP,arr,t,(0,0),by simp[i8],rfl,.inl rfl,fun j c am=>?_⟩;obtain⟨v,h1,ag,ap⟩:=ax j c am;exact⟨v,by simpa using h1,ag,ap.ext e⟩
 ·intro bx cu alX ca c6 _ b8 Al;simp only[dz,eI,cg _ _ _ _ ca] at c6;simp at Al; subst Al;have:=rel.lt c6 b8;simp only[ne_eq]; omega
 ·intro cu _ b8;simp at b8; subst b8;exact rel.size
 ·intro bx bP;simp only[dz,eI] at bP ⊢;have ca:bx≠b:=fun aN=>by
   have:=rel.fresh bx bP;rw[aN,ai] at this; cases this
  rw[cg _ _ _ _ ca];exact rel.fresh bx bP
 ·intro bx bP;simp only[dz,eI] at bP;have ca:bx≠b:=fun aN=>by
   have:=rel.qj hm;omega
  rw[cg _ _ _ _ ca];exact rel.j6 bx bP
section
variable {P:Program} {w:World} {R:Nat->Prop} {B:Nat} {h:aQ} {μ:cJ}
def Good (R:Nat->Prop) (B:Nat) (w:World) (h:aQ) (μ:cJ) (r:Result Next) (c:ae) (h' : aQ) :Prop:=
 ∃ v w' μ',(r=.ok (.value v) w'\/(r=.ok .skip w'/\v=undef))/\dr w h μ w' h' μ'/\cc R B w' h' μ'/\aR w' R h' μ' c v
theorem Good.pure (rel:cc R B w h μ) {r:Result Next} {c:ae} {v:Value} (aC:r=.ok (.value v) w) (ax:aR w R h μ c v) :Good R B w h μ r c h:=
 ⟨v,w,μ,.inl aC,.refl _ _ _,rel,ax⟩
theorem cy {t:TypeId} {d:TypeDesc} (bN:P.underlying t=some d) :(underlying t).run P w=.ok d w:=by
 simp[underlying,bN]
theorem Ex {t:TypeId} {b:Bool} (ai:dM P t=some b) :(isAgg t).run P w=.ok b w:=by
 unfold dM at ai;cases bN:P.underlying t with
 | none=>rw[bN] at ai; cases ai
 | some d=>
  rw[bN] at ai;simp only[Option.map_some,Option.some.injEq] at ai;unfold isAgg;simp only[Sem.run_bind,cy bN,Result.andThen_ok];cases d<;>simp_all
theorem akA {t:TypeId} {n:Nat} (aH:cz P t=some n) :∃ i,P.info? t=some i/\i.size=n:=by
 unfold cz at aH;cases aA:P.info? t with
 | none=>rw[aA] at aH; cases aH
 | some i=>rw[aA] at aH; exact⟨i,rfl,by simpa using aH⟩
theorem fr {t:TypeId} {n:Nat} (aH:cz P t=some n) :(sizeOf t).run P w=.ok n w:=by
 obtain⟨i,aA,ar⟩:=akA aH;simp[sizeOf,typeInfo,aA,ar]
theorem aqZ {t:TypeId} {z:List ae} (aB:g9 P t=some z) :∃ i v,P.info? t=some i/\i.zero=some v/\v.cells.toList.all Value.oneCell'=true/\z=v.cells.toList.map nJ:=by
 unfold g9 at aB;cases aA:P.info? t with
 | none=>rw[aA] at aB; cases aB
 | some i=>
  rw[aA] at aB;simp only[Option.bind_some] at aB;cases ax:i.zero with
  | none=>rw[ax] at aB; cases aB
  | some v=>
   rw[ax] at aB;simp only[Option.bind_some] at aB;split at aB
   ·rename_i h1;exact⟨i,v,rfl,ax,h1,by simpa using aB.symm⟩
   ·cases aB
theorem ack {t:TypeId} {i:TypeInfo} {v:Value} (aA:P.info? t=some i) (ax:i.zero=some v) :(zeroValue t).run P w=.ok v w:=by
 simp[zeroValue,typeInfo,aA,ax]
theorem aR.nJ (v:Value) :aR w R h μ (nJ v) v:=by
 cases v with
 | bool b=>exact .bool _
 | int k n=>exact .int _ _
 | string s=>exact .str _
 | pointer a=>cases a<;>first | exact .iD | exact .bad _
 | slice a l c=>
  simp only[cn.nJ];split
  ·exact .aX
  ·exact .bad _
 | map r=>cases r<;>first | exact .g6 | exact .bad _
 | nilFunc=>exact .ie
 | nilIface=>exact .iC
 | func fn first ft=>
  simp only[cn.nJ];split
  ·rename_i f h1 ag;have aZ:first=#[] :=by simpa using h1
   have b4:ft=#[] :=by simpa using ag
   subst aZ b4;exact .fn _ [] [] #[] #[] rfl rfl (fun _ _ _ aN=>by simp at aN) (fun _ _ _ aN=>by simp at aN)
  ·exact .bad _
 | _=>exact .bad _
theorem aR.ut (v:Value) :aR w R h μ (ut v) v:=by
 unfold cn.ut;split
 ·rename_i cs;split
  ·rename_i cp;refine .aV _ _ (by simp) (fun j v am=>?_) (fun j c v al ku=>?_)
   ·rw[List.all_eq_true] at cp;exact cp v (by have:=Array.mem_of_getElem? am; simpa using this)
   ·rw[List.getElem?_map] at al;simp only[Array.getElem?_toList,ku,Option.map_some,Option.some.injEq] at al;subst al;exact aR.nJ v
  ·exact .bad _
 ·rename_i vs;refine .bU _ _ (by simp) (fun j c v al ku=>?_);rw[List.getElem?_map] at al;simp only[Array.getElem?_toList,ku,Option.map_some,Option.some.injEq] at al;subst al;exact aR.nJ v
 ·exact aR.nJ v
theorem aR.one {c:ae} {v:Value} (ax:aR w R h μ c v) (h1:c.one=true) :v.oneCell'=true:=by
 cases ax<;>first | rfl | (simp[ae.one] at h1)
theorem B8 {c:ae} {v:Value} {cs:List ae} (ax:aR w R h μ c v) (al:c.cells=some cs) :
  v.cells.size=cs.length/\∀ (j:Nat) (x:ae),cs[j]? = some x->∃ u:Value,v.cells[j]? = some u/\u.oneCell'=true/\aR w R h μ x u:=by
 have je:∀ (c:ae) (v:Value),aR w R h μ c v->v.cells=#[v]->v.oneCell'=true->∀ cs,cs=[c]->
   v.cells.size=cs.length/\∀ (j:Nat) (x:ae),cs[j]? = some x->∃ u:Value,v.cells[j]? = some u/\u.oneCell'=true/\aR w R h μ x u:=by
  intro c v ax kj h1 cs cp;subst cp;rw[kj];refine⟨rfl,fun j x aj=>?_⟩;cases j with
  | zero=>simp at aj; subst aj; exact⟨v,rfl,h1,ax⟩
  | succ j=>simp at aj
 cases ax with
 | aV cs' vs au h1 ax=>
  simp only[ae.cells,Option.some.injEq] at al; subst al;refine⟨au,fun j x aj=>?_⟩;have am:j<vs.size:=by rw[au]; exact (List.getElem?_eq_some_iff.1 aj).1
  exact⟨vs[j],by simp[Value.cells,am],h1 j _ (by simp[am]),ax j x _ aj (by simp[am])⟩
 | bU cs' vs au ax=>simp[ae.cells] at al
 | bad v=>simp[ae.cells] at al
 | bool b=>exact je _ _ (.bool b) rfl rfl _ (by simpa [ae.cells] using al.symm)
 | int k n=>exact je _ _ (.int k n) rfl rfl _ (by simpa [ae.cells] using al.symm)
 | str bs=>exact je _ _ (.str bs) rfl rfl _ (by simpa [ae.cells] using al.symm)
 | iD=>exact je _ _ .iD rfl rfl _ (by simpa [ae.cells] using al.symm)
 | aX=>exact je _ _ .aX rfl rfl _ (by simpa [ae.cells] using al.symm)
 | g6=>exact je _ _ .g6 rfl rfl _ (by simpa [ae.cells] using al.symm)
 | ie=>exact je _ _ .ie rfl rfl _ (by simpa [ae.cells] using al.symm)
 | iC=>exact je _ _ .iC rfl rfl _ (by simpa [ae.cells] using al.symm)
 | ptr b off sz cs' m ai hm=>exact je _ _ (.ptr b off sz cs' m ai hm) rfl rfl _ (by simpa [ae.cells] using al.symm)
 | lC b off sz a az=>exact je _ _ (.lC b off sz a az) rfl rfl _ (by simpa [ae.cells] using al.symm)
 | cq cs' off blk o dS fi ax=>exact je _ _ (.cq cs' off blk o dS fi ax) rfl rfl _ (by simpa [ae.cells] using al.symm)
 | ao z b off len cap sz cap' cs' m ai hm au ay fi=>exact je _ _ (.ao z b off len cap sz cap' cs' m ai hm au ay fi) rfl rfl _ (by simpa [ae.cells] using al.symm)
 | fZ z b off len cap sz cap' a au fi az=>exact je _ _ (.fZ z b off len cap sz cap' a au fi az) rfl rfl _ (by simpa [ae.cells] using al.symm)
 | hi z b off sz a cs' m ai hm=>exact je _ _ (.hi z b off sz a cs' m ai hm) rfl rfl _ (by simpa [ae.cells] using al.symm)
 | b0 z es blk off cap dS au aB fi ax=>exact je _ _ (.b0 z es blk off cap dS au aB fi ax) rfl rfl _ (by simpa [ae.cells] using al.symm)
 | fo z a cap=>exact je _ _ (.fo z a cap) rfl rfl _ (by simpa [ae.cells] using al.symm)
 | fn f agO wQ fs cs' aI fi h1 ag=>exact je _ _ (.fn f agO wQ fs cs' aI fi h1 ag) rfl rfl _ (by simpa [ae.cells] using al.symm)
 | mp b m ai hm=>exact je _ _ (.mp b m ai hm) rfl rfl _ (by simpa [ae.cells] using al.symm)
 | it b m ai hm=>exact je _ _ (.it b m ai hm) rfl rfl _ (by simpa [ae.cells] using al.symm)
 | gg t c v ax=>exact je _ _ (.gg t c v ax) rfl rfl _ (by simpa [ae.cells] using al.symm)
 | la l=>exact je _ _ (.la l) rfl rfl _ (by simpa [ae.cells] using al.symm)
theorem Addr.lg (b o n:Nat) :(⟨b,o,none⟩:Addr).add n=⟨b,o+n,none⟩:=by unfold Addr.add; split<;>simp_all
theorem N7 (rel:cc R B w h μ) {p:ae} {ux:Value} {cs:List ae} {off:Nat} (aC:reach h p=some (cs,off)) (aE:aR w R h μ p ux) :
  ∃ blk o,ux=.pointer (some ⟨blk,o+off,none⟩)/\∀ (j:Nat) (c:ae),cs[j]? = some c->∃ v:Value,w.cell? ⟨blk,o+j,none⟩=some v/\v.oneCell'=true/\aR w R h μ c v:=by
 cases aE with
 | ptr b D5 sz cs' m ai hm=>
  simp only[reach,ai,ite_true,Option.some.injEq,Prod.mk.injEq] at aC;obtain⟨rfl,rfl⟩:=aC;have en:=rel.blk b m hm;rw[ai] at en;obtain⟨h1,ag,arr,t,fA,ap,aJ,bd,bL⟩:=en;refine⟨m.r,m.s,rfl,fun j c am=>?_⟩;obtain⟨v,bj,bz,a3⟩:=bL j c am;exact⟨v,by simp[World.cell?,ap,bj],bz,a3⟩
 | lC b D5 sz a az=>
  unfold reach at aC;rcases az with az | ⟨n,cs',az,aP⟩
  ·simp[az] at aC
  ·simp only[az] at aC;split at aC
   ·omega
   ·cases aC
 | cq cs' D5 blk o dS al ax=>
  simp only[reach,Option.some.injEq,Prod.mk.injEq] at aC;obtain⟨rfl,rfl⟩:=aC;exact⟨blk,o,rfl,fun j c am=>⟨dS j,(al j (List.getElem?_eq_some_iff.1 am).1).here,(al j (List.getElem?_eq_some_iff.1 am).1).one,ax j c am⟩⟩
 | _=>simp[reach] at aC
theorem aoA {t:TypeId} {cs:List ae} {off:Nat} {c:ae} (aE:hh P t cs off=some c) {blk o:Nat}
  (al:∀ (j:Nat) (x:ae),cs[j]? = some x->∃ v:Value,w.cell? ⟨blk,o+j,none⟩=some v/\v.oneCell'=true/\aR w R h μ x v) :
  ∃ v,(loadVar t ⟨blk,o+off,none⟩).run P w=.ok v w/\aR w R h μ c v:=by
 unfold hh at aE;cases ng:dM P t with
 | none=>rw[ng] at aE; cases aE
 | some b=>
  rw[ng] at aE;cases b with
  | false=>
   simp only at aE;obtain⟨v,h1,_,ap⟩:=al off c aE;exact⟨v,by simp[loadVar,Ex ng,h1],ap⟩
  | true=>
   cases aH:cz P t with
   | none=>rw[aH] at aE; cases aE
   | some n=>
    rw[aH] at aE;simp only at aE;split at aE
    ·rename_i du;simp only[Option.some.injEq] at aE;subst aE;have xv:∀ j,j<n->∃ v,w.cell? ⟨blk,o+(off+j),none⟩=some v/\v.oneCell'=true/\aR w R h μ (cs.getD (off+j) .bad) v:=by
      intro j am;have aP:off+j<cs.length:=by omega
      have:=al (off+j) cs[off+j] (by simp[aP]);simpa [List.getD,aP] using this
     have ax:∃ f:Nat->Value,∀ j,j<n->w.cell? ⟨blk,o+(off+j),none⟩=some (f j)/\(f j).oneCell'=true/\aR w R h μ (cs.getD (off+j) .bad) (f j) :=by
      refine⟨fun j=>if am:j<n then Classical.choose (xv j am) else undef,fun j am=>?_⟩;simp only[am,dif_pos];exact Classical.choose_spec (xv j am)
     obtain⟨f,aI⟩:=ax;have au:(loadCells ⟨blk,o+off,none⟩ n).run P w=.ok ((List.range n).map f).toArray w:=by
      have:=run_loadCells_list (P:=P) w ⟨blk,o+off,none⟩ ((List.range n).map f) (fun j v am=>by
       rw[List.getElem?_map] at am;have lr:j<n:=by
        rcases Nat.lt_or_ge j n with h1 | h1
        ·exact h1
        ·rw[List.getElem?_eq_none (by simpa using h1)] at am; cases am
       rw[List.getElem?_range lr] at am;simp only[Option.map_some,Option.some.injEq] at am;rw[Addr.lg,<-am,Nat.add_assoc];exact (aI j lr).1)
      simpa using this
     refine⟨.agg ((List.range n).map f).toArray,by simp[loadVar,Ex ng,fr aH,au],.aV _ _ (by simp; omega) (fun j v am=>?_) (fun j c v fi am=>?_)⟩
     ·simp only[List.getElem?_toArray,List.getElem?_map] at am;have lr:j<n:=by
       rcases Nat.lt_or_ge j n with h1 | h1
       ·exact h1
       ·rw[List.getElem?_eq_none (by simpa using h1)] at am; cases am
      rw[List.getElem?_range lr] at am;simp only[Option.map_some,Option.some.injEq] at am;rw[<-am]; exact (aI j lr).2.1
     ·simp only[List.getElem?_toArray,List.getElem?_map] at am;have lr:j<n:=by
       rcases Nat.lt_or_ge j n with h1 | h1
       ·exact h1
       ·rw[List.getElem?_eq_none (by simpa using h1)] at am; cases am
      rw[List.getElem?_range lr] at am;simp only[Option.map_some,Option.some.injEq] at am;rw[List.getElem?_take_of_lt lr,List.getElem?_drop] at fi;have:=(aI j lr).2.2;rw[List.getD,fi] at this;rw[<-am]; simpa using this
    ·cases aE
theorem XY (rel:cc R B w h μ) {t:TypeId} {p:ae} {ux:Value} {c:ae} (au:q0 P h t p=some c) (aE:aR w R h μ p ux) :
  ∃ v,(Instr.loadAt t ux).run P w=.ok v w/\aR w R h μ c v:=by
 unfold q0 at au;cases aC:reach h p with
 | none=>rw[aC] at au; cases au
 | some x=>
  obtain⟨cs,off⟩:=x;rw[aC] at au;obtain⟨blk,o,rfl,al⟩:=N7 rel aC aE;obtain⟨v,h1,ag⟩:=aoA au al;exact⟨v,by simp[Instr.loadAt,Instr.sureAddr,h1],ag⟩
end
section
variable {P:Program} {w:World} {R:Nat->Prop} {B:Nat} {h:aQ} {μ:cJ}
theorem acj (P:Program) (g o:Nat) (t:TypeId) (fA:Nat × Nat) :∀ (vs:List Value) (i:Nat) (hp:Array Value) (w:World),w.heap[g]? = some (.cells hp t fA)->(fA=(0,0)\/hp.size<=fA.1)->
  o+i+vs.length<=hp.size->(∀ v∈vs,v.oneCell'=true)->
  (storeCells ⟨g,o,none⟩ vs i).run P w=.ok () (w.setRow g (hp.toList.take (o+i)++vs++hp.toList.drop (o+i+vs.length)).toArray)
 | [],i,hp,w,az,_,_,_=>by
  simp only[storeCells,List.append_nil,List.length_nil,Nat.add_zero,List.take_append_drop,Array.toArray_toList];rw[setRow_self w g hp t fA az];rfl
 | v::rest,i,hp,w,az,kU,au,h1=>by
  have aA:o+i<hp.size:=by simp at au; omega
  have CP:(⟨g,o,none⟩:Addr).add i=⟨g,o+i,none⟩:=Addr.lg _ _ _;have lo:w.cell? ⟨g,o+i,none⟩=some hp[o+i] :=by simp[World.cell?,az,aA]
  have aiL:w.frozen? ⟨g,o+i,none⟩=false:=by
   obtain⟨cW,fN⟩:=fA;rcases kU with kU | kU
   ·cases kU; simp[World.frozen?,az]
   ·have:¬ cW<=o+i:=by simp at kU; omega
    simp[World.frozen?,az,this]
  have cK:(store ((⟨g,o,none⟩:Addr).add i) v).run P w=.ok () (w.setRow g (hp.setIfInBounds (o+i) v)) :=by
   rw[CP,run_store P w _ v _ (h1 v (by simp)),lo];simp[aiL,setCell_eq_setRow w g (o+i) hp t fA v az]
  have aL:=acj P g o t fA rest (i+1) (hp.setIfInBounds (o+i) v) (w.setRow g (hp.setIfInBounds (o+i) v)) (setRow_heap w g hp _ t _ az) (by simpa using kU) (by simp at au ⊢; omega) (fun x aj=>h1 x (by simp[aj]));simp only[storeCells,Sem.run_bind,cK,Result.andThen_ok,aL,setRow_setRow];congr 3;have:=list_seg_step hp.toList (o+i) v rest (by simp at au ⊢; omega);simpa [Nat.add_assoc,Nat.add_comm 1] using this
theorem p1 {cs vs:List ae} {k:Nat} (hk:k<=cs.length) :(bS cs k vs).length=max cs.length (k+vs.length) :=by
 unfold bS;simp only[List.length_append,List.length_take,List.length_drop];omega
theorem OC {cs vs:List ae} {k j:Nat} (hk:k<=cs.length) :(bS cs k vs)[j]? = if j<k then cs[j]? else if j<k+vs.length then vs[j - k]? else cs[j]?:=by
 unfold bS;rw[List.append_assoc];by_cases h1:j<k
 ·rw[List.getElem?_append_left (by simp; omega),List.getElem?_take_of_lt h1,if_pos h1]
 ·rw[List.getElem?_append_right (by simp; omega),if_neg h1];simp only[List.length_take,Nat.min_eq_left hk];by_cases ag:j<k+vs.length
  ·rw[List.getElem?_append_left (by omega),if_pos ag]
  ·rw[List.getElem?_append_right (by omega),if_neg ag,List.getElem?_drop];congr 1; omega
theorem wz (rel:cc R B w h μ) {b sz k:Nat} {cs cvs:List ae} {m:M} {vs:List Value} (ai:h.f b=.cells sz cs) (hm:μ b=some m) (hk:k<=sz)
  (au:vs.length=cvs.length) (dP:m.s+max sz (k+cvs.length)<=m.T)
  (ax:∀ (j:Nat) (c:ae),cvs[j]? = some c->∃ v:Value,vs[j]? = some v/\v.oneCell'=true/\aR w R h μ c v) :
  ∃ w',(storeCells ⟨m.r,m.s+k,none⟩ vs).run P w=.ok () w'/\dr w h μ w' (h.set b (.cells (max sz (k+cvs.length)) (bS cs k cvs))) μ ∧
   cc R B w' (h.set b (.cells (max sz (k+cvs.length)) (bS cs k cvs))) μ:=by
 have en:=rel.blk b m hm;rw[ai] at en;obtain⟨bA,dt,arr,t,fA,aC,aG,kU,al⟩:=en;have h1:∀ v∈vs,v.oneCell'=true:=by
  intro v jZ;obtain⟨j,am,rfl⟩:=List.getElem_of_mem jZ;obtain⟨v,bj,bz,_⟩:=ax j (cvs[j]'(by omega)) (by simp);rw[List.getElem?_eq_getElem am] at bj;cases bj;exact bz
 have hv:=acj P m.r (m.s+k) t fA vs 0 arr w aC (by rw[aG]; exact kU.imp id Nat.le_of_lt) (by omega) h1;simp only[Nat.add_zero] at hv;have oK:(arr.toList.take (m.s+k)++vs++arr.toList.drop (m.s+k+vs.length)).toArray.size=arr.size:=by
  simp only[List.size_toArray,List.length_append,List.length_take,List.length_drop,Array.length_toList];omega
 have ez:=rel.write (w':=w.setRow m.r (arr.toList.take (m.s+k)++vs++arr.toList.drop (m.s+k+vs.length)).toArray) (cs':=bS cs k cvs) (sz':=max sz (k+cvs.length)) ai hm aC aG kU
  rfl rfl rfl (by simp[World.setRow]) (setRow_heap w m.r arr _ t fA aC) (fun k' eH=>setRow_other w m.r k' _ eH) oK
  (by rw[p1 (by omega),bA]) (by omega) (by omega) (fun j c am=>?_)
 ·exact⟨_,hv,ez.1,ez.2⟩
 ·rw[OC (by omega)] at am;simp only[List.getElem?_toArray];rw[List.append_assoc];split at am
  ·rename_i aP;obtain⟨v,bj,bz,a3⟩:=al j c am;refine⟨v,?_,bz,a3⟩;rw[List.getElem?_append_left (by simp; omega),List.getElem?_take_of_lt (by omega)];simpa using bj
  ·rename_i xA;split at am
   ·rename_i aP;obtain⟨v,bj,bz,a3⟩:=ax _ c am;refine⟨v,?_,bz,a3⟩;have Am:min (m.s+k) arr.size=m.s+k:=by omega
    rw[List.getElem?_append_right (by simp; omega)];simp only[List.length_take,Array.length_toList,Am];rw[List.getElem?_append_left (by omega),<-bj];congr 1; omega
   ·rename_i atB;obtain⟨v,bj,bz,a3⟩:=al j c am;refine⟨v,?_,bz,a3⟩;have Am:min (m.s+k) arr.size=m.s+k:=by omega
    rw[List.getElem?_append_right (by simp; omega)];simp only[List.length_take,Array.length_toList,Am];rw[List.getElem?_append_right (by omega),List.getElem?_drop];have:(m.s+k+vs.length+(m.s+j - (m.s+k) - vs.length))=m.s+j:=by omega
    rw[this];simpa using bj
theorem apt (rel:cc R B w h μ) {t:TypeId} {p v:ae} {ux nU:Value} {h' : aQ} (ar:yD P h t p v=some h') (aE:aR w R h μ p ux) (ax:aR w R h μ v nU) :
  ∃ w',(Instr.storeAt t ux nU).run P w=.ok () w'/\dr w h μ w' h' μ/\cc R B w' h' μ:=by
 unfold yD at ar;split at ar
 ·rename_i b off sz vs n ix aH;obtain⟨g4,lx⟩:=B8 ax ix;cases ai:h.f b with
  | cells m cs=>
   rw[ai] at ar;simp only at ar;split at ar
   ·rename_i iR;obtain⟨rfl,bA,dP⟩:=iR;simp only[Option.some.injEq] at ar;subst ar;cases aE with
    | ptr bx D5 sz' cs' cj bP hm=>
     have en:=rel.blk b cj hm;rw[ai] at en;have dt:=en.2.1;obtain⟨w',h1,ag,ap⟩:=wz (P:=P) rel (cvs:=vs) (vs:=nU.cells.toList) (k:=off) ai hm (by omega) (by simpa using g4) (by omega)
      (fun j c am=>by obtain⟨u,bj,bz,a3⟩:=lx j c am; exact⟨u,by simpa using bj,bz,a3⟩)
     have lu:max m (off+vs.length)=m:=by omega
     rw[lu] at ag ap;refine⟨w',?_,ag,ap⟩;have bY:¬ (nU.cells.size≠n) :=by omega
     simp[Instr.storeAt,Instr.sureAddr,storeVar,fr aH,bY,h1]
    | lC bx D5 sz' a az=>
     rcases az with az | ⟨gB,cs',az,aP⟩
     ·rw[az] at ai; cases ai
     ·rw[az] at ai; cases ai; omega
   ·cases ar
  | _=>rw[ai] at ar; cases ar
 ·cases ar
theorem BQ (rel:cc R B w h μ) {cs:List ae} {vs:Array Value} (t:TypeId) (au:vs.size=cs.length)
  (ax:∀ (j:Nat) (c:ae),cs[j]? = some c->∃ v:Value,vs[j]? = some v/\v.oneCell'=true/\aR w R h μ c v) :
  let h':=h.push (.cells cs.length cs)
  let μ':=b5 μ h.n (some ⟨w.heap.size,0,vs.size⟩)
  let w':=w.alloc (.cells vs t)
  dr w h μ w' h' μ'/\cc R B w' h' μ'/\∀ off,aR w' R h' μ' (.ptr h.n off cs.length) (.pointer (some ⟨w.heap.size,off,none⟩)) :=by
 intro h' μ' w';have:=rel.push (w':=w') cs vs t rfl rfl rfl rfl (by omega) ax;refine⟨this.1,this.2,fun off=>?_⟩;have aE:=aR.ptr (w:=w') (R:=R) (h:=h') (μ:=μ') h.n off cs.length cs ⟨w.heap.size,0,vs.size⟩ (by simp[h',dR,e3]) (by simp[μ']);simpa using aE
theorem adA {t:TypeId} {z:List ae} (aB:g9 P t=some z) :∃ i v,P.info? t=some i/\i.zero=some v/\v.cells.size=z.length ∧
  ∀ (j:Nat) (c:ae),z[j]? = some c->∃ u:Value,v.cells[j]? = some u/\u.oneCell'=true/\aR w R h μ c u:=by
 obtain⟨i,v,aA,ax,h1,rfl⟩:=aqZ aB;refine⟨i,v,aA,ax,by simp,fun j c am=>?_⟩;rw[List.getElem?_map] at am;cases aM:v.cells[j]? with
 | none=>simp[aM] at am
 | some u=>
  simp[aM] at am;subst am;rw[List.all_eq_true] at h1;exact⟨u,rfl,h1 u (by have:=Array.mem_of_getElem? aM; simpa using this),aR.nJ u⟩
theorem SU {x:ae} {bJ:Value} {k:Nat} {c:ae} (al:my x k=some c) (aj:aR w R h μ x bJ) :
  ∃ a,bJ=.pointer (some a)/\aR w R h μ c (.pointer (some (a.add k))) :=by
 cases aj with
 | ptr b off sz cs m ai hm=>
  simp only[my,Option.some.injEq] at al; subst al;refine⟨_,rfl,?_⟩;rw[Addr.lg,Nat.add_assoc];exact .ptr b _ sz cs m ai hm
 | lC b off sz a az=>
  simp only[my,Option.some.injEq] at al; subst al;exact⟨a,rfl,.lC _ _ _ _ az⟩
 | cq cs off blk o dS fi ax=>
  simp only[my,Option.some.injEq] at al; subst al;refine⟨_,rfl,?_⟩;rw[Addr.lg,Nat.add_assoc];exact .cq cs _ blk o dS fi ax
 | _=>simp[my] at al
theorem TC {s:TypeId} {f:Nat} {fd:Field} (aI:vi P s f=some fd) :∃ fs,P.underlying s=some (.struct fs)/\fs[f]? = some fd:=by
 unfold vi at aI;split at aI
 ·rename_i fs aM; exact⟨fs,aM,aI⟩
 ·cases aI
theorem agP {s:TypeId} {x c:ae} {bJ:Value} {f:Nat} (al:Cs P s x f=some c) (aj:aR w R h μ x bJ) :
  ∃ v,(Instr.fieldAt s bJ f).run P w=.ok v w/\aR w R h μ c v:=by
 unfold Cs at al;split at al
 ·rename_i fd aI;obtain⟨fs,aM,lp⟩:=TC aI;split at al
  ·rename_i n aH;obtain⟨a,rfl,ax⟩:=SU al aj;refine⟨_,?_,ax⟩;simp[Instr.fieldAt,cy aM,lp,Instr.sureAddr,fieldPlace,fr aH]
  ·cases al
 ·cases al
theorem qi {x:ae} {bJ:Value} {n:Int} (aA:asInt x=some n) (aj:aR w R h μ x bJ) :∃ k,bJ=.int k n:=by
 cases aj<;>simp[asInt] at aA;subst aA;exact⟨_,rfl⟩
theorem akx {t:TypeId} {x hF c:ae} {bJ AK:Value} (al:AG P t x hF=some c) (aj:aR w R h μ x bJ) (aA:aR w R h μ hF AK) :
  ∃ v,(Instr.indexAt t bJ AK).run P w=.ok v w/\aR w R h μ c v:=by
 unfold AG at al;split at al
 ·rename_i len e i aM fX;obtain⟨k,rfl⟩:=qi fX aA;cases aB:cz P e with
  | none=>rw[aB] at al; cases al
  | some z=>
   rw[aB] at al;simp only at al;split at al
   ·rename_i ai;obtain⟨a,rfl,ax⟩:=SU al aj;refine⟨_,?_,ax⟩;simp[Instr.indexAt,asIntOf,cy aM,Instr.sureAddr,ai,fr aB]
   ·cases al
 ·rename_i e i aM fX;obtain⟨k,rfl⟩:=qi fX aA;split at al
  ·rename_i z di b off len cap sz aB;split at al
   ·rename_i ai;obtain⟨rfl,ai⟩:=ai;simp only[Option.some.injEq] at al; subst al;cases aj with
    | ao _ _ _ _ _ _ cap' cs m bP hm au ay de=>
     refine⟨_,?_,aR.ptr b (off+i.toNat*z) sz cs m bP hm⟩;simp[Instr.indexAt,asIntOf,cy aM,ai,fr aB,Addr.lg,Nat.add_assoc]
    | hi=>simp at ai; omega
    | fZ _ _ _ _ _ _ cap' a au de az=>
     refine⟨_,?_,aR.lC b _ sz (a.add (i.toNat*z)) az⟩;simp[Instr.indexAt,asIntOf,cy aM,ai,fr aB]
   ·cases al
  ·rename_i z di es aB;split at al
   ·rename_i ai;obtain⟨rfl,ai⟩:=ai;cases aw:es[i.toNat]? with
    | none=>rw[aw] at al; cases al
    | some e0=>
     rw[aw] at al;simp only[Option.map_some,Option.some.injEq] at al; subst al;have aP:i.toNat<es.length:=(List.getElem?_eq_some_iff.1 aw).1;have eA:(0<=i/\i<(es.length:Int)) :=by omega
     cases aj with
     | b0 _ _ blk off cap dS au AC lo ax=>
      have aiC:e0.length=z:=AC _ (List.mem_of_getElem? aw);refine⟨_,?_,aR.cq e0 0 blk (off+i.toNat*z) (dS i.toNat) (fun j am=>?_) (ax _ _ aw)⟩
      ·simp[Instr.indexAt,asIntOf,cy aM,eA,fr aB,Addr.lg]
      ·have:=lo i.toNat j aP (by omega)
       rwa [Nat.add_assoc]
     | fo=>simp at aP
   ·cases al
  ·cases al
 ·cases al
end
end Go.cn

/-
  The canonical machine, part A: its values, blocks, heap, and what one operation does.
-/
import Derived.WalkKit
import Derived.Below
import Derived.Laws.AppendOwn
import Derived.Laws.CopyRow
import Derived.Laws.IdiomCopy
import Derived.Laws.StructEq
set_option linter.unusedVariables false
set_option linter.unusedSimpArgs false
set_option linter.unnecessarySimpa false
namespace Go.cl
open Go
inductive ae where
 | bool (b:Bool)
 | int (k:IntKind) (n:Int)
 | str (s:List UInt8)
 | ib | a6 | gJ | hQ | ia
 | aS (cs:List ae)
 | bU (vs:List ae)
 | ptr (b off sz:Nat)
 | cn (cs:List ae) (off:Nat)
 | ao (z b off len cap sz:Nat)
 | b6 (z:Nat) (es:List (List ae))
 | fn (f:FuncId) (first e5:List ae)
 | mp (b:Nat)
 | it (b:Nat)
 | fH (t:TypeId) (v:ae)
 | kD (l:Nat)
 | bad
 deriving Inhabited
inductive bg where
 | none
 | dead
 | cells (sz:Nat) (cs:List ae)
 | map (es:List (ae × ae × Nat)) (ao5:Nat)
 | iter (s:List UInt8) (pos:Nat)
 deriving Inhabited
inductive cy (α:Type) where
 | nil
 | node (l:cy α) (v:Option α) (r:cy α)
def cy.get {α:Type}:cy α->Nat->Option α
 | .nil,_=>none
 | .node l v r,n=>match Nat.beq n 0 with
  | true=>v
  | false=>match Nat.beq (n % 2) 1 with
   | true=>l.get (n / 2)
   | false=>r.get (n / 2 - 1)
def cy.jb {α:Type}:Nat->cy α->Nat->α->cy α
 | 0,t,_,_=>t
 | k+1,.nil,n,x=>match Nat.beq n 0 with
  | true=>.node .nil (some x) .nil
  | false=>match Nat.beq (n % 2) 1 with
   | true=>.node (cy.jb k .nil (n / 2) x) none .nil
   | false=>.node .nil none (cy.jb k .nil (n / 2 - 1) x)
 | k+1,.node l v r,n,x=>match Nat.beq n 0 with
  | true=>.node l (some x) r
  | false=>match Nat.beq (n % 2) 1 with
   | true=>.node (cy.jb k l (n / 2) x) v r
   | false=>.node l v (cy.jb k r (n / 2 - 1) x)
def cy.set {α:Type} (t:cy α) (n:Nat) (x:α) :cy α:=t.jb (n+1) n x
theorem io {a b:Nat} (h:¬ a=b) :Nat.beq a b=false:=by
 cases ai:Nat.beq a b with
 | false=>rfl
 | true=>exact absurd (Nat.eq_of_beq_eq_true ai) h
theorem qm {a b:Nat} (h:a=b) :Nat.beq a b=true:=by subst h; exact Nat.beq_refl a
theorem cy.yy {α:Type}:∀ (k:Nat) (t:cy α) (n:Nat) (x:α) (m:Nat),n<k->(t.jb k n x).get m=if m=n then some x else t.get m
 | 0,_,_,_,_,h=>by omega
 | k+1,.nil,n,x,m,h=>by
  unfold cy.jb;by_cases aQ:n=0
  ·subst aQ;simp only;unfold cy.get;by_cases hm:m=0
   ·subst hm; simp
   ·have:Nat.beq m 0=false:=io hm;simp only[this,if_neg hm];split<;>rfl
  ·have ai:Nat.beq n 0=false:=io aQ;simp only[ai];by_cases h1:n % 2=1
   ·have gG:Nat.beq (n % 2) 1=true:=qm h1;simp only[gG];unfold cy.get;by_cases hm:m=0
    ·subst hm; simp; omega
    ·have:Nat.beq m 0=false:=io hm;simp only[this];by_cases fG:m % 2=1
     ·have:Nat.beq (m % 2) 1=true:=qm fG;simp only[this];rw[cy.yy k .nil (n / 2) x (m / 2) (by omega)];by_cases aw:m=n
      ·subst aw; simp
      ·rw[if_neg aw,if_neg (by omega)]; rfl
     ·have:Nat.beq (m % 2) 1=false:=io fG;simp only[this];rw[if_neg (by intro aR; subst aR; exact fG h1)];rfl
   ·have gG:Nat.beq (n % 2) 1=false:=io h1;simp only[gG];unfold cy.get;by_cases hm:m=0
    ·subst hm; simp; omega
    ·have:Nat.beq m 0=false:=io hm;simp only[this];by_cases fG:m % 2=1
     ·have:Nat.beq (m % 2) 1=true:=qm fG;simp only[this];rw[if_neg (by intro aR; subst aR; exact h1 fG)];rfl
     ·have:Nat.beq (m % 2) 1=false:=io fG;simp only[this];rw[cy.yy k .nil (n / 2 - 1) x (m / 2 - 1) (by omega)];by_cases aw:m=n
      ·subst aw; simp
      ·rw[if_neg aw,if_neg (by omega)]; rfl
 | k+1,.node l v r,n,x,m,h=>by
  unfold cy.jb;by_cases aQ:n=0
  ·subst aQ;simp only;unfold cy.get;by_cases hm:m=0
   ·subst hm; simp
   ·have:Nat.beq m 0=false:=io hm;simp only[this,if_neg hm]
  ·have ai:Nat.beq n 0=false:=io aQ;simp only[ai];by_cases h1:n % 2=1
   ·have gG:Nat.beq (n % 2) 1=true:=qm h1;simp only[gG];unfold cy.get;by_cases hm:m=0
    ·subst hm; simp; omega
    ·have:Nat.beq m 0=false:=io hm;simp only[this];by_cases fG:m % 2=1
     ·have:Nat.beq (m % 2) 1=true:=qm fG;simp only[this];rw[cy.yy k l (n / 2) x (m / 2) (by omega)];by_cases aw:m=n
      ·subst aw; simp
      ·rw[if_neg aw,if_neg (by omega)]
     ·have:Nat.beq (m % 2) 1=false:=io fG;simp only[this];rw[if_neg (by intro aR; subst aR; exact fG h1)]
   ·have gG:Nat.beq (n % 2) 1=false:=io h1;simp only[gG];unfold cy.get;by_cases hm:m=0
    ·subst hm; simp; omega
    ·have:Nat.beq m 0=false:=io hm;simp only[this];by_cases fG:m % 2=1
     ·have:Nat.beq (m % 2) 1=true:=qm fG;simp only[this];rw[if_neg (by intro aR; subst aR; exact h1 fG)]
     ·have:Nat.beq (m % 2) 1=false:=io fG;simp only[this];rw[cy.yy k r (n / 2 - 1) x (m / 2 - 1) (by omega)];by_cases aw:m=n
      ·subst aw; simp
      ·rw[if_neg aw,if_neg (by omega)]
theorem cy.Bu {α:Type} (t:cy α) (n:Nat) (x:α) (m:Nat) :(t.set n x).get m=if m=n then some x else t.get m:=cy.yy _ _ _ _ _ (by omega)
structure aM where
 n:Nat
 t:cy bg
def aM.f (h:aM) (b:Nat) :bg:=match h.t.get b with | some c=>c | none=>.none
def aM.empty:aM:=⟨0,.nil⟩
def bO {α:Type} (f:Nat->α) (i:Nat) (v:α) :Nat->α:=fun j=>if j=i then v else f j
def aM.push (h:aM) (c:bg) :aM:=⟨h.n+1,h.t.set h.n c⟩
def aM.set (h:aM) (b:Nat) (c:bg) :aM:=⟨h.n,h.t.set b c⟩
theorem eK (h:aM) (c:bg) :(h.push c).n=h.n+1:=rfl
theorem ed (h:aM) (b:Nat) (c:bg) :(h.set b c).n=h.n:=rfl
theorem dJ (h:aM) (c:bg) :(h.push c).f=bO h.f h.n c:=by
 funext b;simp only[aM.f,aM.push,bO,cy.Bu];by_cases ai:b=h.n
 ·simp[ai]
 ·simp[ai]
theorem dt (h:aM) (b:Nat) (c:bg) :(h.set b c).f=bO h.f b c:=by
 funext bo;simp only[aM.f,aM.set,bO,cy.Bu];by_cases ai:bo=b
 ·simp[ai]
 ·simp[ai]
theorem Bi (b:Nat) :aM.empty.f b=.none:=rfl
@[simp] theorem iA {α:Type} (f:Nat->α) (i:Nat) (v:α) :bO f i v i=v:=by simp[bO]
theorem cb {α:Type} (f:Nat->α) (i j:Nat) (v:α) (h:j≠i) :bO f i v j=f j:=by simp[bO,h]
def ae.one:ae->Bool
 | .aS _ | .bU _ | .bad=>false
 | _=>true
def ae.cells:ae->Option (List ae)
 | .aS cs=>some cs
 | .bU _ | .bad=>none
 | v=>some [v]
def m6:Value->ae
 | .bool b=>.bool b
 | .int k n=>.int k n
 | .string s=>.str s.data.toList
 | .pointer a=>match a with | none=>.ib | some _=>.bad
 | .slice a l c=>match a,l,c with | none,0,0=>.a6 | _,_,_=>.bad
 | .map r=>match r with | none=>.gJ | some _=>.bad
 | .nilFunc=>.hQ
 | .nilIface=>.ia
 | .func fn first e5=>match fn,first.toList,e5.toList with | .func f,[],[]=>.fn f [] [] | _,_,_=>.bad
 | _=>.bad
def tv:Value->ae
 | .agg cs=>if cs.toList.all Value.oneCell' then .aS (cs.toList.map m6) else .bad
 | .tuple vs=>.bU (vs.toList.map m6)
 | v=>m6 v
def cU (G:Nat->ae) (ah:Nat->ae) :Operand->ae
 | .tmp t=>ah t
 | .const v=>tv v
 | .func f=>.fn f [] []
 | .global g=>G g
def dM (P:Program) (t:TypeId) :Option Bool:=(P.underlying t).map fun d=>match d with | .struct _ | .array _ _=>true | _=>false
def cv (P:Program) (t:TypeId) :Option Nat:=(P.info? t).map (·.size)
def iR (P:Program) (t:TypeId) :Option Nat:=(P.info? t).map (·.bytes)
def gK (P:Program) (t:TypeId) :Option (List ae) :=((P.info? t).bind (·.zero)).bind fun v=>if v.cells.toList.all Value.oneCell' then some (v.cells.toList.map m6) else none
def hp (P:Program) (t:TypeId) :Option TypeId:=match P.underlying t with | some (.slice e)=>some e | _=>none
def gR (P:Program) (t:TypeId) (cs:List ae) (off:Nat) :Option ae:=
 match dM P t,cv P t with
 | some true,some n=>if off+n<=cs.length then some (.aS ((cs.drop off).take n)) else none
 | some false,_=>cs[off]?
 | _,_=>none
def reach (h:aM) :ae->Option (List ae × Nat)
 | .ptr b off sz=>match h.f b with
  | .cells n cs=>if n=sz then some (cs,off) else none
  | _=>none
 | .cn cs off=>some (cs,off)
 | _=>none
def qg (P:Program) (h:aM) (t:TypeId) (p:ae) :Option ae:=
 match reach h p with
 | some (cs,off)=>gR P t cs off
 | none=>none
def bS (cs:List ae) (off:Nat) (vs:List ae) :List ae:=cs.take off++vs++cs.drop (off+vs.length)
def xI (P:Program) (h:aM) (t:TypeId) (p v:ae) :Option aM:=
 match p,v.cells,cv P t with
 | .ptr b off sz,some vs,some n=>match h.f b with
  | .cells m cs=>if m=sz/\vs.length=n/\off+n<=m then some (h.set b (.cells m (bS cs off vs))) else none
  | _=>none
 | _,_,_=>none
def asInt:ae->Option Int
 | .int _ n=>some n
 | _=>none
def uv (P:Program) (s:TypeId) (f:Nat) :Option Field:=match P.underlying s with | some (.struct fs)=>fs[f]? | _=>none
def lV:ae->Nat->Option ae
 | .ptr b off sz,k=>some (.ptr b (off+k) sz)
 | .cn cs off,k=>some (.cn cs (off+k))
 | _,_=>none
def Bn (P:Program) (s:TypeId) (x:ae) (f:Nat) :Option ae:=
 match uv P s f with
 | some fd=>match cv P fd.type with
  | some (_+1)=>lV x fd.offset
  | _=>none
 | none=>none
def zp (P:Program) (t:TypeId) (x hf:ae) :Option ae:=
 match P.underlying t,asInt hf with
 | some (.array len e),some i=>match cv P e with
  | some z=>if 0<=i/\i<len then lV x (i.toNat*z) else none
  | none=>none
 | some (.slice e),some i=>match cv P e,x with
  | some z,.ao db b off len _ sz=>if z=db/\0<=i/\i<len then some (.ptr b (off+i.toNat*z) sz) else none
  | some z,.b6 db es=>if z=db/\0<=i then (es[i.toNat]?).map fun cs=>.cn cs 0 else none
  | _,_=>none
 | _,_=>none
def gF (jF:Nat->Option (Nat × Nat)) (cells:List ae) :List (Nat × ae)->Option (List ae)
 | []=>some cells
 | (i,v) ::rest=>match jF i,v.cells with
  | some (off,size),some vs=>if vs.length=size/\off+size<=cells.length then gF jF (bS cells off vs) rest else none
  | _,_=>none
def zP (P:Program) (fs:Array Field) (i:Nat) :Option (Nat × Nat) :=(fs[i]?).bind fun f=>(cv P f.type).map fun n=>(f.offset,n)
def x7 (P:Program) (t:TypeId) (ev:List (Nat × ae)) :Option ae:=
 match gK P t,P.underlying t with
 | some zero,some (.struct fs)=>if !(fs.toList.all fun f=>(cv P f.type).isSome) then none else (gF (zP P fs) zero ev).map .aS
 | some zero,some (.array _ e)=>match cv P e with
  | some n=>(gF (fun i=>some (i*n,n)) zero ev).map .aS
  | none=>none
 | _,_=>none
def dp (zero:List ae) :Nat->List ae
 | 0=>[]
 | n+1=>zero++dp zero n
def AW (P:Program) (h:aM) (t:TypeId) (len:Nat) (ev:List (Nat × ae)) :Option (ae × aM) :=
 match hp P t with
 | some e=>match cv P e,gK P e with
  | some z,some zero=>if zero.length=z/\len*z<=16777216 then
    (gF (fun i=>some (i*z,z)) (dp zero len) ev).map fun cs=>(.ao z h.n 0 len len (len*z),h.push (.cells (len*z) cs))
   else none
  | _,_=>none
 | none=>none
def ct (op:BinOp) (k:IntKind) (a:Int) (k' : IntKind) (b:Int) :Option ae:=
 match op with
 | .shl=>if b<0 then none else some (.int k (k.wrap (a*2 ^ min b.toNat k.bits)))
 | .shr=>if b<0 then none else some (.int k (a.fdiv (2 ^ min b.toNat k.bits)))
 | .add=>if k=k' then some (.int k (k.wrap (a+b))) else none
 | .sub=>if k=k' then some (.int k (k.wrap (a - b))) else none
 | .mul=>if k=k' then some (.int k (k.wrap (a*b))) else none
 | .quo=>if k=k'/\b≠0 then some (.int k (k.wrap (a.tdiv b))) else none
 | .rem=>if k=k'/\b≠0 then some (.int k (a.tmod b)) else none
 | .and=>if k=k' then some (.int k (k.wrap (BitVec.ofInt k.bits a &&& BitVec.ofInt k.bits b).toNat)) else none
 | .or=>if k=k' then some (.int k (k.wrap (BitVec.ofInt k.bits a ||| BitVec.ofInt k.bits b).toNat)) else none
 | .xor=>if k=k' then some (.int k (k.wrap (BitVec.ofInt k.bits a ^^^ BitVec.ofInt k.bits b).toNat)) else none
 | .andNot=>if k=k' then some (.int k (k.wrap (BitVec.ofInt k.bits a &&& ~~~BitVec.ofInt k.bits b).toNat)) else none
 | .eql=>if k=k' then some (.bool (a == b)) else none
 | .neq=>if k=k' then some (.bool (a != b)) else none
 | .lss=>if k=k' then some (.bool (decide (a<b))) else none
 | .leq=>if k=k' then some (.bool (decide (a<=b))) else none
 | .gtr=>if k=k' then some (.bool (decide (a > b))) else none
 | .geq=>if k=k' then some (.bool (decide (a ≥ b))) else none
def oy (op:BinOp) (a b:List UInt8) :Option ae:=
 match op with
 | .eql=>some (.bool (a == b))
 | .neq=>some (.bool (!(a == b)))
 | .lss=>some (.bool (Op.bytesLess a b))
 | .leq=>some (.bool (Op.bytesLess a b||a == b))
 | .gtr=>some (.bool (!(Op.bytesLess a b||a == b)))
 | .geq=>some (.bool (!Op.bytesLess a b))
 | .add=>if a.length+b.length<=9223372036854775807 then some (.str (a++b)) else none
 | _=>none
def dX (P:Program) :Nat->TypeId->ae->ae->Option Bool
 | 0,_,_,_=>none
 | d+1,t,x,y=>
  match P.underlying t,x,y with
  | some .bool,.bool a,.bool b=>some (a == b)
  | some (.int _),.int k a,.int k' b=>if k=k' then some (a == b) else none
  | some .string,.str a,.str b=>some (a == b)
  | some (.struct fs),.aS xs,.aS bm=>if P.stoodInHeld t then none else eqFields P (dX P d) xs bm fs.toList
  | some (.array n e),.aS xs,.aS bm=>match cv P e with
   | some z=>pK P (dX P d) e z xs bm n 0
   | none=>none
  | some (.slice _),.a6,.a6=>some true
  | some (.slice _),.a6,.ao .. | some (.slice _),.a6,.b6 .. | some (.slice _),.ao ..,.a6 | some (.slice _),.b6 ..,.a6=>some false
  | _,_,_=>none
where
 eqFields (P:Program) (eq:TypeId->ae->ae->Option Bool) (xs bm:List ae) :List Field->Option Bool
  | []=>some true
  | f::fs=>if f.name= "_" then eqFields P eq xs bm fs else
   match gR P f.type xs f.offset,gR P f.type bm f.offset with
   | some a,some b=>match eq f.type a b with
    | some true=>eqFields P eq xs bm fs
    | some false=>some false
    | none=>none
   | _,_=>none
 pK (P:Program) (eq:TypeId->ae->ae->Option Bool) (e:TypeId) (z:Nat) (xs bm:List ae) :Nat->Nat->Option Bool
  | 0,_=>some true
  | n+1,i=>match gR P e xs (i*z),gR P e bm (i*z) with
   | some a,some b=>match eq e a b with
    | some true=>pK P eq e z xs bm n (i+1)
    | some false=>some false
    | none=>none
   | _,_=>none
def ut (P:Program) (t:TypeId) :ae->ae->Bool
 | .aS _,.aS _=>!P.eqGuardType P.depth t
 | _,_=>true
def fD (P:Program) (op:BinOp) (t:TypeId) (x y:ae) :Option ae:=
 match x,y with
 | .int k a,.int k' b=>ct op k a k' b
 | .str a,.str b=>oy op a b
 | x,y=>match op with
  | .eql=>if ut P t x y then (dX P 10000 t x y).map .bool else none
  | .neq=>if ut P t x y then (dX P 10000 t x y).map fun b=>.bool (!b) else none
  | _=>none
def oh (op:UnOp) (x:ae) :Option ae:=
 match op,x with
 | .not,.bool b=>some (.bool (!b))
 | .neg,.int k n=>some (.int k (k.wrap (0 - n)))
 | .xor,.int k n=>some (.int k (k.wrap (BitVec.ofInt k.bits (if k.signed then -1 else k.max) ^^^ BitVec.ofInt k.bits n).toNat))
 | _,_=>none
def ka (z:Nat) :Nat->List ae->List (List ae)
 | 0,_=>[]
 | n+1,cs=>cs.take z::ka z n (cs.drop z)
def hZ (b:UInt8) :ae:=.int .u8 b.toNat
def contents (h:aM) (z:Nat) :ae->Option (List ae × Nat)
 | .a6=>some ([],0)
 | .b6 db es=>if z=db then some (es.flatten,es.length) else none
 | .ao db b off len _ sz=>match h.f b with
  | .cells n cs=>if n=sz/\z=db then some ((cs.drop off).take (len*z),len) else none
  | _=>none
 | .str s=>if z=1 then some (s.map hZ,s.length) else none
 | _=>none
def cJ:Nat:=140737488355328
def qI (P:Program) (t:TypeId) :Option Nat:=((P.info? t).bind (·.zero)).map (·.cells.size)
def so (P:Program) (h:aM) (e:TypeId) (z by_:Nat) (s:ae) (xs:List ae) (n:Nat) :Option (ae × aM) :=
 if n=0 then (match s with | .a6 | .b6 .. | .ao ..=>some (s,h) | _=>none)
 else if z=0\/by_=0\/qI P e≠some z then none else match s with
  | .a6=>if n*by_<=cJ then some (.ao z h.n 0 n n (n*z),h.push (.cells (n*z) xs)) else none
  | .ao db b off len cap sz=>match h.f b with
   | .cells m cs=>
    if m=sz/\z=db/\(len+n)*by_<=cJ then
     if len+n<=cap then some (.ao z b off (len+n) cap sz,h.set b (.cells m (bS cs (off+len*z) xs)))
     else if off+cap*z<sz then some (.ao z h.n 0 (len+n) (len+n) ((len+n)*z),h.push (.cells ((len+n)*z) ((cs.drop off).take (len*z)++xs)))
     else if off=0 then some (.ao z b 0 (len+n) (len+n) ((len+n)*z),h.set b (.cells ((len+n)*z) (cs.take (len*z)++xs)))
     else some (.ao z h.n 0 (len+n) (len+n) ((len+n)*z),(h.set b .dead).push (.cells ((len+n)*z) ((cs.drop off).take (len*z)++xs)))
    else none
   | _=>none
  | _=>none
def pB (P:Program) (h:aM) (t:TypeId) (s x:ae) :Option (ae × aM) :=
 match hp P t with
 | none=>none
 | some e=>match cv P e,iR P e with
  | some z,some by_=>match contents h z x with
   | none=>none
   | some (xs,n)=>so P h e z by_ s xs n
  | _,_=>none
def jK (x:ae) (y:Nat) :Option Nat:=match x with | .int _ i=>if 0<=i/\i<=y then some i.toNat else none | _=>none
def f1 (len cap:Nat) (cI aA cF:Option ae) :Option (Nat × Nat × Nat) :=
 match (match cF with | some v=>jK v cap | none=>some cap) with
 | none=>none
 | some m=>match (match aA,cF with | some v,_=>jK v m | none,none=>some len | none,some _=>none) with
  | none=>none
  | some h=>match (match cI with | some v=>jK v h | none=>some 0) with
   | none=>none
   | some l=>some (l,h,m)
def Ae (P:Program) (t:TypeId) (x:ae) (cI aA cF:Option ae) :Option ae:=
 match P.underlying t,x with
 | some (.array n e),x=>match cv P e,f1 n n cI aA cF with
  | some z,some (l,aR,m)=>match x with
   | .ptr b off sz=>if off+m*z<=sz then (if m=l then some (.b6 z []) else some (.ao z b (off+l*z) (aR - l) (m - l) sz)) else none
   | .cn cs off=>if off+n*z<=cs.length then some (.b6 z (ka z (aR - l) (cs.drop (off+l*z)))) else none
   | _=>none
  | _,_=>none
 | some (.slice e),x=>match cv P e,x with
  | some z,.ao db b off len cap sz=>if z=db then (f1 len cap cI aA cF).map fun (l,aR,m)=>if m=l then .ao z b (off+l*z) 0 0 sz else .ao z b (off+l*z) (aR - l) (m - l) sz else none
  | some z,.b6 db es=>if z=db then (f1 es.length es.length cI aA cF).map fun (l,aR,_)=>.b6 z ((es.drop l).take (aR - l)) else none
  | some _,.a6=>(f1 0 0 cI aA cF).map fun _=>.a6
  | _,_=>none
 | some .string,.str s=>match cF with
  | none=>(f1 s.length s.length cI aA none).map fun (l,aR,_)=>.str ((s.drop l).take (aR - l))
  | some _=>none
 | _,_=>none
def vk (P:Program) (t:TypeId) (x:ae) :Option ae:=
 match P.underlying t,x with
 | some .string,.str s=>some (.int .i64 s.length)
 | some (.array n _),_=>some (.int .i64 n)
 | some (.slice _),.a6=>some (.int .i64 0)
 | some (.slice _),.ao _ _ _ len _ _=>some (.int .i64 len)
 | some (.slice _),.b6 _ es=>some (.int .i64 es.length)
 | some (.map _ _),.gJ=>some (.int .i64 0)
 | _,_=>none
def CX (P:Program) (h:aM) (t:TypeId) (l c:ae) :Option (ae × aM) :=
 match hp P t,asInt l,asInt c with
 | some e,some l,some c=>match cv P e,iR P e,gK P e with
  | some z,some by_,some zero=>
   if zero.length=z/\0<=l/\l<=c/\c<9223372036854775808/\by_*c<=cJ then
    some (.ao z h.n 0 l.toNat c.toNat (c.toNat*z),h.push (.cells (c.toNat*z) (dp zero c.toNat)))
   else none
  | _,_,_=>none
 | _,_,_=>none
def wi (P:Program) (h:aM) (t:TypeId) (d x:ae) :Option (ae × aM) :=
 match hp P t with
 | none=>none
 | some e=>match cv P e with
  | none=>none
  | some z=>match contents h z x with
   | none=>none
   | some (xs,n)=>match d with
    | .a6=>some (.int .i64 0,h)
    | .ao db b off len _ sz=>match h.f b with
     | .cells m cs=>if m=sz/\z=db then some (.int .i64 ((min n len:Nat) :Int),h.set b (.cells m (bS cs off (xs.take (min n len*z))))) else none
     | _=>none
    | _=>none
def lj:List ae->Option (List UInt8)
 | []=>some []
 | .int .u8 n::r=>(lj r).map (UInt8.ofNat n.toNat::·)
 | _::_=>none
def ur (P:Program) (h:aM) (M3 dst:TypeId) (x:ae) :Option ae:=
 match P.underlying M3,P.underlying dst,x with
 | some _,some (.int k),.int _ n=>some (.int k (k.wrap n))
 | some _,some .string,.str s=>some (.str s)
 | some (.slice e),some .string,x=>match P.underlying e,x with
  | some (.int .u8),.a6=>some (.str [])
  | some (.int .u8),x=>match contents h 1 x,x with
   | some _,.str _=>none
   | some (cs,_),_=>(lj cs).map .str
   | none,_=>none
  | _,_=>none
 | _,_,_=>none
def v7 (P:Program) (M3 dst:TypeId) (x:ae) :Option ae:=
 match P.underlying M3,P.underlying dst,x with
 | some _,some (.slice e),.str s=>match P.underlying e with
  | some (.int .u8)=>some (.b6 1 (s.map fun b=>[hZ b]))
  | _=>none
 | _,_,_=>none
def wa (P:Program) (t:TypeId) (x:ae) :Option ae:=
 match P.underlying t,x with
 | some (.array n _),_=>some (.int .i64 n)
 | some (.slice _),.a6=>some (.int .i64 0)
 | _,_=>none
def wc (P:Program) (h:aM) (t:TypeId) (x:ae) :Option aM:=
 match P.underlying t,x with
 | some (.slice _),.a6=>some h
 | some (.slice _),.b6 _ []=>some h
 | some (.slice e),.ao z b off len _ sz=>if len=0 then some h else match gK P e,h.f b with
  | some zero,.cells m cs=>if m=sz/\zero.length=z then some (h.set b (.cells m (bS cs off (dp zero len)))) else none
  | _,_=>none
 | _,_=>none
def xi (P:Program) (t:TypeId) (x hf:ae) :Option ae:=
 match P.underlying t,x,asInt hf with
 | some (.array n e),.aS cs,some i=>match cv P e with
  | some z=>if 0<=i/\i<n then gR P e cs (i.toNat*z) else none
  | none=>none
 | some .string,.str s,some i=>if 0<=i then (s[i.toNat]?).map hZ else none
 | _,_,_=>none
mutual
def ae.beq:ae->ae->Bool
 | .bool a,y=>match y with | .bool b=>(match a,b with | true,true=>true | false,false=>true | _,_=>false) | _=>false
 | .int k n,y=>match y with | .int k' ga=>decide (k=k')&&decide (n=ga) | _=>false
 | .str a,y=>match y with | .str b=>decide (a=b) | _=>false
 | .ib,y=>match y with | .ib=>true | _=>false
 | .a6,y=>match y with | .a6=>true | _=>false
 | .gJ,y=>match y with | .gJ=>true | _=>false
 | .hQ,y=>match y with | .hQ=>true | _=>false
 | .ia,y=>match y with | .ia=>true | _=>false
 | .aS a,y=>match y with | .aS b=>eD a b | _=>false
 | .bU a,y=>match y with | .bU b=>eD a b | _=>false
 | .ptr a b c,y=>match y with | .ptr eo bo c'=>Nat.beq a eo&&Nat.beq b bo&&Nat.beq c c' | _=>false
 | .cn a n,y=>match y with | .cn eo ga=>eD a eo&&Nat.beq n ga | _=>false
 | .ao a b c d e f,y=>match y with | .ao eo bo c' oz eH ad8=>Nat.beq a eo&&Nat.beq b bo&&Nat.beq c c'&&Nat.beq d oz&&Nat.beq e eH&&Nat.beq f ad8 | _=>false
 | .b6 a b,y=>match y with | .b6 eo bo=>Nat.beq a eo&&x5 b bo | _=>false
 | .fn a b c,y=>match y with | .fn eo bo c'=>Nat.beq a eo&&eD b bo&&eD c c' | _=>false
 | .mp a,y=>match y with | .mp eo=>Nat.beq a eo | _=>false
 | .it a,y=>match y with | .it eo=>Nat.beq a eo | _=>false
 | .fH a b,y=>match y with | .fH eo bo=>Nat.beq a eo&&ae.beq b bo | _=>false
 | .kD a,y=>match y with | .kD eo=>Nat.beq a eo | _=>false
 | .bad,y=>match y with | .bad=>true | _=>false
def eD:List ae->List ae->Bool
 | [],y=>match y with | []=>true | _=>false
 | a::as,y=>match y with | b::bs=>ae.beq a b&&eD as bs | _=>false
def x5:List (List ae)->List (List ae)->Bool
 | [],y=>match y with | []=>true | _=>false
 | a::as,y=>match y with | b::bs=>eD a b&&x5 as bs | _=>false
end
theorem i7 {a b:Nat} (h:Nat.beq a b=true) :a=b:=Nat.eq_of_beq_eq_true h
mutual
theorem ae.beq_eq:∀ {a b:ae},ae.beq a b=true->a=b
 | .bool a,b,h=>by cases b<;>simp only[ae.beq] at h<;>first | cases h | (rename_i b; cases a<;>cases b<;>first | rfl | cases h)
 | .int k n,b,h=>by cases b<;>simp only[ae.beq] at h<;>first | cases h | (simp only[Bool.and_eq_true,decide_eq_true_eq] at h; rw[h.1,h.2])
 | .str a,b,h=>by cases b<;>simp only[ae.beq] at h<;>first | cases h | (simp only[decide_eq_true_eq] at h; rw[h])
 | .ib,b,h=>by cases b<;>simp only[ae.beq] at h<;>first | rfl | cases h
 | .a6,b,h=>by cases b<;>simp only[ae.beq] at h<;>first | rfl | cases h
 | .gJ,b,h=>by cases b<;>simp only[ae.beq] at h<;>first | rfl | cases h
 | .hQ,b,h=>by cases b<;>simp only[ae.beq] at h<;>first | rfl | cases h
 | .ia,b,h=>by cases b<;>simp only[ae.beq] at h<;>first | rfl | cases h
 | .bad,b,h=>by cases b<;>simp only[ae.beq] at h<;>first | rfl | cases h
 | .aS a,b,h=>by cases b<;>simp only[ae.beq] at h<;>first | cases h | rw[sq h]
 | .bU a,b,h=>by cases b<;>simp only[ae.beq] at h<;>first | cases h | rw[sq h]
 | .ptr ..,b,h=>by cases b<;>simp only[ae.beq] at h<;>first | cases h | (simp only[Bool.and_eq_true] at h; rw[i7 h.1.1,i7 h.1.2,i7 h.2])
 | .cn a n,b,h=>by cases b<;>simp only[ae.beq] at h<;>first | cases h | (simp only[Bool.and_eq_true] at h; rw[sq h.1,i7 h.2])
 | .ao ..,b,h=>by cases b<;>simp only[ae.beq] at h<;>first | cases h | (simp only[Bool.and_eq_true] at h; rw[i7 h.1.1.1.1.1,i7 h.1.1.1.1.2,i7 h.1.1.1.2,i7 h.1.1.2,i7 h.1.2,i7 h.2])
 | .b6 a n,b,h=>by cases b<;>simp only[ae.beq] at h<;>first | cases h | (simp only[Bool.and_eq_true] at h; rw[i7 h.1,Om h.2])
 | .fn a n m,b,h=>by cases b<;>simp only[ae.beq] at h<;>first | cases h | (simp only[Bool.and_eq_true] at h; rw[i7 h.1.1,sq h.1.2,sq h.2])
 | .mp a,b,h=>by cases b<;>simp only[ae.beq] at h<;>first | cases h | rw[i7 h]
 | .it a,b,h=>by cases b<;>simp only[ae.beq] at h<;>first | cases h | rw[i7 h]
 | .kD a,b,h=>by cases b<;>simp only[ae.beq] at h<;>first | cases h | rw[i7 h]
 | .fH a n,b,h=>by cases b<;>simp only[ae.beq] at h<;>first | cases h | (simp only[Bool.and_eq_true] at h; rw[i7 h.1,ae.beq_eq h.2])
theorem sq:∀ {a b:List ae},eD a b=true->a=b
 | [],b,h=>by cases b<;>simp only[eD] at h<;>first | rfl | cases h
 | x::a,b,h=>by cases b<;>simp only[eD] at h<;>first | cases h | (simp only[Bool.and_eq_true] at h; rw[ae.beq_eq h.1,sq h.2])
theorem Om:∀ {a b:List (List ae)},x5 a b=true->a=b
 | [],b,h=>by cases b<;>simp only[x5] at h<;>first | rfl | cases h
 | x::a,b,h=>by cases b<;>simp only[x5] at h<;>first | cases h | (simp only[Bool.and_eq_true] at h; rw[sq h.1,Om h.2])
end
def qr:ae->Bool | .int .. | .str _ | .bool _=>true | _=>false
def o3 (P:Program) :Nat->TypeId->Bool
 | 0,_=>false
 | d+1,t=>match P.underlying t,cv P t with
  | some (.int _),_=>true
  | some .string,_=>true
  | some .bool,_=>true
  | some (.array n e),some m=>o3 P d e&&(match cv P e,dM P e with | some z,some _=>Nat.ble (n*z) m&&Nat.ble 1 z | _,_=>false)
  | some (.struct fs),some m=>fs.toList.all fun f=>o3 P d f.type&&(match cv P f.type,dM P f.type with | some z,some _=>Nat.ble (f.offset+z) m&&Nat.ble 1 z | _,_=>false)
  | _,_=>false
def jB (P:Program) (t:TypeId) (c:ae) :Bool:=
 match c with
 | .aS cs=>o3 P 8 t&&(match dM P t,cv P t with | some true,some m=>Nat.beq cs.length m | _,_=>false)&&cs.all qr
 | _=>false
def ig (P:Program) (cN:TypeId) (k:ae) :List (ae × ae × Nat)->Nat->Option (Option (Nat × ae))
 | [],_=>some none
 | (k',v,_) ::es,i=>match jB P cN k' with
  | false=>none
  | true=>match dX P 10000 cN k k' with
   | some true=>match ae.beq k k' with | true=>some (some (i,v)) | false=>none
   | some false=>ig P cN k es (i+1)
   | none=>none
def mapOf (h:aM) :ae->Option (List (ae × ae × Nat))
 | .gJ=>some []
 | .mp b=>match h.f b with | .map es _=>some es | _=>none
 | _=>none
def vQ (P:Program) (t:TypeId) :Option ae:=((P.info? t).bind (·.zero)).map tv
def CV (P:Program) (h:aM) (t:TypeId) (m k:ae) (ok:Bool) :Option ae:=
 match P.underlying t,mapOf h m with
 | some (.map cN kK),some es=>match jB P cN k with
  | false=>none
  | true=>match ig P cN k es 0 with
   | some (some (_,v))=>some (if ok then .bU [v,.bool true] else v)
   | some none=>(vQ P kK).map fun z=>if ok then .bU [z,.bool false] else z
   | none=>none
 | _,_=>none
def vp (P:Program) (h:aM) (t:TypeId) (m k v:ae) :Option aM:=
 match P.underlying t,m with
 | some (.map cN _),.mp b=>match h.f b with
  | .map es dW=>match jB P cN k with
   | false=>none
   | true=>match ig P cN k es 0 with
    | some (some (i,_))=>some (h.set b (.map (es.modify i fun e=>(k,v,e.2.2)) dW))
    | some none=>some (h.set b (.map (es++[(k,v,dW)]) (dW+1)))
    | none=>none
  | _=>none
 | _,_=>none
def vl (P:Program) (h:aM) (t:TypeId) (x:ae) :Option ae:=
 match P.underlying t,x with
 | some (.map _ _),.mp b=>match h.f b with | .map es _=>some (.int .i64 es.length) | _=>none
 | _,_=>none
def Dr (P:Program) (h:aM) (t:TypeId) (x:ae) :Option (ae × aM) :=
 match P.underlying t,x with
 | some .string,.str s=>some (.it h.n,h.push (.iter s 0))
 | _,_=>none
def xo (h:aM) (x:ae) :Option (ae × aM) :=
 match x with
 | .it b=>match h.f b with
  | .iter s pos=>match Nat.blt pos s.length with
   | true=>some (.bU [.bool true,.int .i64 pos,.int .i32 (Utf8.decode ⟨s.toArray⟩ pos).1],h.set b (.iter s (pos+(Utf8.decode ⟨s.toArray⟩ pos).2)))
   | false=>some (.bU [.bool false],h)
  | _=>none
 | _=>none
def lX:List UInt8->List UInt8->Int
 | [],[]=>0
 | [],_::_=>-1
 | _::_,[]=>1
 | a::as,b::bs=>if a=b then lX as bs else if a<b then -1 else 1
def pE (h:aM) (x:ae) :Option (List UInt8) :=match x with
 | .str s=>some s
 | x=>match contents h 1 x with
  | some (cs,_)=>lj cs
  | none=>none
def yh (h:aM) :List ae->Option ae
 | [x,y]=>match pE h x,pE h y with
  | some a,some b=>some (.int .i64 (lX a b))
  | _,_=>none
 | _=>none
def zr (fn:Func) :Bool:=fn.body.isNone&&fn.name == "internal/bytealg.Compare"&&(fn.origin == ""||fn.origin == "internal/bytealg.Compare")
inductive nt where
 | val (v:ae) (h:aM)
 | call (f:FuncId) (args:List ae) (h:aM)
def xm:ae->ae->Option ae
 | .int k x,.int k' y=>if k=k' then some (.int k (if y<x then y else x)) else none
 | _,_=>none
def rS:ae->ae->Option ae
 | .int k x,.int k' y=>if k=k' then some (.int k (if x<y then y else x)) else none
 | _,_=>none
def gv:ae:=.bU []
def x3 (P:Program) (h:aM) (t:TypeId) (s x:ae) :Option (ae × aM) :=
 match hp P t,asInt x with
 | some e,some n=>match cv P e,iR P e,gK P e with
  | some z,some by_,some zero=>
   if zero.length=z/\0<=n/\n<9223372036854775808/\n.toNat*by_<=cJ then so P h e z by_ s (dp zero n.toNat) n.toNat else none
  | _,_,_=>none
 | _,_=>none
def nz (P:Program) (h:aM) (b:Builtin) (ts:List TypeId) (args:List ae) :Option nt:=
 match b,ts,args with
 | .len,[t],[x]=>match vl P h t x with
  | some v=>some (.val v h)
  | none=>(vk P t x).map fun v=>.val v h
 | .append,[t,u],[s,x]=>match P.underlying u with
  | some (.int _)=>(x3 P h t s x).map fun (v,h')=>.val v h'
  | none=>none
  | _=>(pB P h t s x).map fun (v,h')=>.val v h'
 | .copy,[t,_],[d,x]=>(wi P h t d x).map fun (v,h')=>.val v h'
 | .cap,[t],[x]=>(wa P t x).map fun v=>.val v h
 | .clear,[t],[x]=>(wc P h t x).map fun h'=>.val (.bU []) h'
 | .min,_,[x,y]=>(xm x y).map fun v=>.val v h
 | .max,_,[x,y]=>(rS x y).map fun v=>.val v h
 | _,_,_=>none
def vq (P:Program) (t:TypeId) (name:String) :Option FuncId:=
 match P.underlying t with
 | some (.pointer _) | none=>none
 | _=>match P.info? t with
  | some i=>match i.methods.find? (·.name == name) with
   | some m=>match m.path.toList,m.func with
    | [],some (f,false)=>some f
    | _,_=>none
   | none=>none
  | none=>none
def xL (t:TypeId) (z:ae) (ok:Bool) :ae->Option ae
 | .fH fo v=>match Nat.beq fo t with
  | true=>match ok with | true=>some (.bU [v,.bool true]) | false=>some v
  | false=>match ok with | true=>some (.bU [z,.bool false]) | false=>none
 | .ia=>match ok with | true=>some (.bU [z,.bool false]) | false=>none
 | _=>none
def DL (P:Program) (t:TypeId) :Option ae:=match P.underlying t with
 | some (.interface _) | none=>none
 | _=>vQ P t
def sv (P:Program) (h:aM) (aD:Operand->ae) (c:Call) :Option nt:=
 match c.callee with
 | .builtin b=>nz P h b c.argTypes.toList (c.args.toList.map aD)
 | .value f=>match aD f with
  | .fn g first e5=>match P.funcs[g]? with
   | some fn=>if fn.body.isSome/\fn.name≠ "runtime.NumGoroutine" then some (.call g (first++c.args.toList.map aD++e5) h)
    else if zr fn then (yh h (first++c.args.toList.map aD++e5)).map fun v=>.val v h else none
   | none=>none
  | _=>none
 | .invoke x name=>match aD x with
  | .fH t v=>match vq P t name with
   | some g=>match P.funcs[g]? with
    | some fn=>if fn.body.isSome/\fn.name≠ "runtime.NumGoroutine" then some (.call g (v::c.args.toList.map aD) h) else none
    | none=>none
   | none=>none
  | _=>none
def cV (P:Program) (h:aM) (aD:Operand->ae) (op:Op) :Option nt:=
 let v (x:Option ae) :Option nt:=x.map fun y=>.val y h
 let w (x:Option (ae × aM)) :Option nt:=x.map fun y=>.val y.1 y.2
 match op with
 | .move x | .assign x=>some (.val (aD x) h)
 | .pick c a b=>match aD c with | .bool t=>some (.val (if t then aD a else aD b) h) | _=>none
 | .alloc t=>(gK P t).map fun z=>.val (.ptr h.n 0 z.length) (h.push (.cells z.length z))
 | .box _ x=>(aD x).cells.map fun cs=>.val (.ptr h.n 0 cs.length) (h.push (.cells cs.length cs))
 | .build t ev=>v (x7 P t (ev.toList.map fun p=>(p.1,aD p.2)))
 | .buildSlice t len ev=>w (AW P h t len (ev.toList.map fun p=>(p.1,aD p.2)))
 | .load t a=>v (qg P h t (aD a))
 | .store t a x=>(xI P h t (aD a) (aD x)).map fun h'=>.val gv h'
 | .nilCheck x=>match aD x with | .ptr b o s=>some (.val (.ptr b o s) h) | .cn c o=>some (.val (.cn c o) h) | .fn f a b=>some (.val (.fn f a b) h) | _=>none
 | .binOp op t x y _=>v (fD P op t (aD x) (aD y))
 | .unOp op _ x=>v (oh op (aD x))
 | .convert s d x=>match v7 P s d (aD x) with
  | some c=>some (.val c h)
  | none=>v (ur P h s d (aD x))
 | .makeInterface t x=>match P.underlying t with
  | some (.interface _) | none=>none
  | _=>some (.val (.fH t (aD x)) h)
 | .makeFunc (.func f) first e5=>some (.val (.fn f (first.toList.map aD) (e5.toList.map aD)) h)
 | .makeSlice t l c=>w (CX P h t (aD l) (aD c))
 | .slice t x cI aA cF=>v (Ae P t (aD x) (cI.map aD) (aA.map aD) (cF.map aD))
 | .fieldAddr s x f=>v (Bn P s (aD x) f)
 | .field t x f=>match aD x,uv P t f with
  | .aS cs,some fd=>v (gR P fd.type cs fd.offset)
  | _,_=>none
 | .indexAddr t x i=>v (zp P t (aD x) (aD i))
 | .index t x i=>v (xi P t (aD x) (aD i))
 | .extract x i=>match aD x with | .bU vs=>v vs[i]? | _=>none
 | .call c=>sv P h aD c
 | .makeMap t r=>match P.underlying t,(match r with | none=>true | some x=>(asInt (aD x)).isSome) with | some (.map _ _),true=>some (.val (.mp h.n) (h.push (.map [] 0))) | _,_=>none
 | .lookup t m k ok=>v (CV P h t (aD m) (aD k) ok)
 | .mapUpdate t m k x | .insert t m k x=>(vp P h t (aD m) (aD k) (aD x)).map fun h'=>.val gv h'
 | .range t x=>w (Dr P h t (aD x))
 | .next it true=>w (xo h (aD it))
 | .typeAssert x _ t ok=>match DL P t with | some z=>v (xL t z ok (aD x)) | none=>none
 | _=>none
structure M where
 r:Nat
 s:Nat
 T:Nat
abbrev cG:=Nat->Option M
def live:bg->Bool
 | .cells .. | .map .. | .iter ..=>true
 | _=>false
def mm:bg->Nat
 | .map ..=>1
 | .iter ..=>2
 | _=>0
def j6 (h:aM) (μ:cG) (k:Nat) :Prop:=∃ b m,live (h.f b)=true/\μ b=some m/\m.r=k
def si (h:aM) (b sz:Nat) :Prop:=h.f b=.dead\/∃ n cs,h.f b=.cells n cs/\sz<n
structure Cell (w:World) (R:Nat->Prop) (h:aM) (μ:cG) (b o:Nat) (v:Value) :Prop where
 here:w.cell? ⟨b,o,none⟩=some v
 one:v.oneCell'=true
 ro:R b
 free:¬ j6 h μ b
inductive aP (w:World) (R:Nat->Prop) (h:aM) (μ:cG) :ae->Value->Prop where
 | bool (b:Bool) :aP w R h μ (.bool b) (.bool b)
 | int (k:IntKind) (n:Int) :aP w R h μ (.int k n) (.int k n)
 | str (bs:ByteArray) :aP w R h μ (.str bs.data.toList) (.string bs)
 | ib:aP w R h μ .ib (.pointer none)
 | a6:aP w R h μ .a6 (.slice none 0 0)
 | gJ:aP w R h μ .gJ (.map none)
 | hQ:aP w R h μ .hQ .nilFunc
 | ia:aP w R h μ .ia .nilIface
 | aS (cs:List ae) (vs:Array Value) (aq:vs.size=cs.length) (h1:∀ (j:Nat) (v:Value),vs[j]? = some v->v.oneCell'=true)
   (ax:∀ (j:Nat) (c:ae) (v:Value),cs[j]? = some c->vs[j]? = some v->aP w R h μ c v) :aP w R h μ (.aS cs) (.agg vs)
 | bU (cs:List ae) (vs:Array Value) (aq:vs.size=cs.length)
   (ax:∀ (j:Nat) (c:ae) (v:Value),cs[j]? = some c->vs[j]? = some v->aP w R h μ c v) :aP w R h μ (.bU cs) (.tuple vs)
 | ptr (b off sz:Nat) (cs:List ae) (m:M) (ai:h.f b=.cells sz cs) (hm:μ b=some m) :
   aP w R h μ (.ptr b off sz) (.pointer (some ⟨m.r,m.s+off,none⟩))
 | k3 (b off sz:Nat) (a:Addr) (az:si h b sz) :aP w R h μ (.ptr b off sz) (.pointer (some a))
 | cn (cs:List ae) (off blk o:Nat) (dK:Nat->Value) (ak:∀ j,j<cs.length->Cell w R h μ blk (o+j) (dK j))
   (ax:∀ (j:Nat) (c:ae),cs[j]? = some c->aP w R h μ c (dK j)) :aP w R h μ (.cn cs off) (.pointer (some ⟨blk,o+off,none⟩))
 | ao (z b off len cap sz cap' : Nat) (cs:List ae) (m:M) (ai:h.f b=.cells sz cs) (hm:μ b=some m) (aq:len<=cap) (ay:off+cap*z<=sz)
   (ak:(off+cap*z<sz/\cap'=cap)\/(off+cap*z=sz/\cap<=cap'/\m.s+off+cap'*z<=m.T)) :
   aP w R h μ (.ao z b off len cap sz) (.slice (some ⟨m.r,m.s+off,none⟩) len cap')
 | fA (z b off len cap sz cap' : Nat) (a:Addr) (aq:len<=cap) (ak:cap<=cap') (az:si h b sz) :aP w R h μ (.ao z b off len cap sz) (.slice (some a) len cap')
 | gS (z b off sz:Nat) (a:Addr) (cs:List ae) (m:M) (ai:h.f b=.cells sz cs) (hm:μ b=some m) :aP w R h μ (.ao z b off 0 0 sz) (.slice (some a) 0 0)
 | b6 (z:Nat) (es:List (List ae)) (blk off cap:Nat) (dK:Nat->Nat->Value) (aq:es.length<=cap) (aB:∀ e,e∈es->e.length=z)
   (ak:∀ i j,i<es.length->j<z->Cell w R h μ blk (off+(i*z+j)) (dK i j))
   (ax:∀ (i:Nat) (e:List ae),es[i]? = some e->∀ (j:Nat) (c:ae),e[j]? = some c->aP w R h μ c (dK i j)) :
   aP w R h μ (.b6 z es) (.slice (some ⟨blk,off,none⟩) es.length cap)
 | eZ (z:Nat) (a:Addr) (cap:Nat) :aP w R h μ (.b6 z []) (.slice (some a) 0 cap)
 | fn (f:FuncId) (first e5:List ae) (fs cs:Array Value) (aJ:fs.size=first.length) (ak:cs.size=e5.length)
   (h1:∀ (j:Nat) (c:ae) (v:Value),first[j]? = some c->fs[j]? = some v->aP w R h μ c v) (af:∀ (j:Nat) (c:ae) (v:Value),e5[j]? = some c->cs[j]? = some v->aP w R h μ c v) :
   aP w R h μ (.fn f first e5) (.func (.func f) fs cs)
 | mp (b:Nat) (m:M) (ai:mm (h.f b)=1) (hm:μ b=some m) :aP w R h μ (.mp b) (.map (some m.r))
 | it (b:Nat) (m:M) (ai:mm (h.f b)=2) (hm:μ b=some m) :aP w R h μ (.it b) (.pointer (some ⟨m.r,0,none⟩))
 | fH (t:TypeId) (c:ae) (v:Value) (ax:aP w R h μ c v) :aP w R h μ (.fH t c) (.iface t v)
 | kD (l:Nat) :aP w R h μ (.kD l) (.func (.yield l) #[] #[])
 | bad (v:Value) :aP w R h μ .bad v
structure Ext0 (w:World) (h:aM) (μ:cG) (w' : World) (h' : aM) (μ' : cG) :Prop where
 os:w'.os=w.os
 tape:w'.tape=w.tape
 output:w'.output=w.output
 size:w.heap.size<=w'.heap.size
 cM:∀ k,k<w.heap.size->¬ j6 h μ k->w'.heap[k]? = w.heap[k]?
 own:∀ k,j6 h' μ' k->j6 h μ k\/w.heap.size<=k
 cells:∀ b sz cs m,h.f b=.cells sz cs->μ b=some m->(∃ cs',h'.f b=.cells sz cs'/\μ' b=some m)\/si h' b sz
 gone:∀ b sz,si h b sz->si h' b sz
 C5:∀ b k m,mm (h.f b)=k+1->μ b=some m->mm (h'.f b)=k+1/\μ' b=some m
 n:h.n<=h'.n
 drawn:w.drawn<=w'.drawn:=by first | exact Nat.le_refl _ | exact Nat.le_succ _ | assumption
structure dk (w:World) (h:aM) (μ:cG) (w' : World) (h' : aM) (μ' : cG) :Prop extends Ext0 w h μ w' h' μ' where
 oi:∀ b,b<h.n->μ b=none->μ' b=none
theorem Ext0.refl (w:World) (h:aM) (μ:cG) :Ext0 w h μ w h μ:=
 ⟨rfl,rfl,rfl,Nat.le_refl _,fun _ _ _=>rfl,fun _ h=>.inl h,fun b sz cs m h1 af=>.inl ⟨cs,h1,af⟩,fun _ _ h=>h,fun _ _ _ h1 af=>⟨h1,af⟩,Nat.le_refl _,Nat.le_refl _⟩
theorem dk.refl (w:World) (h:aM) (μ:cG) :dk w h μ w h μ:=⟨.refl w h μ,fun _ _ h=>h⟩
theorem Ext0.trans {w b4 w2:World} {h h1 af:aM} {μ gf pt:cG} (a:Ext0 w h μ b4 h1 gf) (b:Ext0 b4 h1 gf w2 af pt) :Ext0 w h μ w2 af pt:=by
 refine⟨b.os.trans a.os,b.tape.trans a.tape,b.output.trans a.output,Nat.le_trans a.size b.size,?_,?_,?_,fun _ _ az=>b.gone _ _ (a.gone _ _ az),?_,Nat.le_trans a.n b.n,Nat.le_trans a.drawn b.drawn⟩
 ·intro k aE aI;rw[b.cM k (Nat.lt_of_lt_of_le aE a.size) (fun ay=>(a.own k ay).elim aI (by omega)),a.cM k aE aI]
 ·intro k aE;rcases b.own k aE with h | h
  ·exact a.own k h
  ·exact .inr (Nat.le_trans a.size h)
 ·intro blk sz cs m ai hm;rcases a.cells blk sz cs m ai hm with ⟨cs',ap,aH⟩ | ap
  ·exact b.cells blk sz cs' m ap aH
  ·exact .inr (b.gone _ _ ap)
 ·intro blk k m ai hm;obtain⟨ap,aH⟩:=a.C5 blk k m ai hm;exact b.C5 blk k m ap aH
theorem dk.trans {w b4 w2:World} {h h1 af:aM} {μ gf pt:cG} (a:dk w h μ b4 h1 gf) (b:dk b4 h1 gf w2 af pt) :dk w h μ w2 af pt:=
 ⟨a.toExt0.trans b.toExt0,fun blk ai hm=>b.oi blk (Nat.lt_of_lt_of_le ai a.n) (a.oi blk ai hm)⟩
theorem Cell.ext {w w' : World} {h h' : aM} {μ μ' : cG} {R:Nat->Prop} {b o:Nat} {v:Value} (e:Ext0 w h μ w' h' μ') (c:Cell w R h μ b o v) :Cell w' R h' μ' b o v:=by
 have ai:b<w.heap.size:=World.block_lt_of_cell? _ _ c.here;refine⟨?_,c.one,c.ro,fun ay=>?_⟩
 ·rw[World.cell?_of_block (w:=w) (a:=⟨b,o,none⟩) (e.cM b ai c.free)]; exact c.here
 ·rcases e.own b ay with h1 | h1
  ·exact c.free h1
  ·omega
theorem aP.lo {w w' : World} {h h' : aM} {μ μ' : cG} {R:Nat->Prop} {c:ae} {v:Value} (e:Ext0 w h μ w' h' μ') (ax:aP w R h μ c v) :aP w' R h' μ' c v:=by
 induction ax with
 | bool b=>exact .bool b
 | int k n=>exact .int k n
 | str bs=>exact .str bs
 | ib=>exact .ib
 | a6=>exact .a6
 | gJ=>exact .gJ
 | hQ=>exact .hQ
 | ia=>exact .ia
 | aS cs vs aq h1 ax aK=>exact .aS cs vs aq h1 aK
 | bU cs vs aq ax aK=>exact .bU cs vs aq aK
 | ptr b off sz cs m ai hm=>
  rcases e.cells b sz cs m ai hm with ⟨cs',h1,af⟩ | h1
  ·exact .ptr b off sz cs' m h1 af
  ·exact .k3 b off sz _ h1
 | k3 b off sz a az=>exact .k3 b off sz a (e.gone _ _ az)
 | cn cs off blk o dK ak ax aK=>exact .cn cs off blk o dK (fun j am=>(ak j am).ext e) aK
 | ao z b off len cap sz cap' cs m ai hm aq ay ak=>
  rcases e.cells b sz cs m ai hm with ⟨cs',h1,af⟩ | h1
  ·exact .ao z b off len cap sz cap' cs' m h1 af aq ay ak
  ·exact .fA z b off len cap sz cap' _ aq (by omega) h1
 | fA z b off len cap sz cap' a aq ak az=>exact .fA z b off len cap sz cap' a aq ak (e.gone _ _ az)
 | gS z b off sz a cs m ai hm=>
  rcases e.cells b sz cs m ai hm with ⟨cs',h1,af⟩ | h1
  ·exact .gS z b off sz a cs' m h1 af
  ·exact .fA z b off 0 0 sz 0 a (Nat.le_refl _) (Nat.le_refl _) h1
 | b6 z es blk off cap dK aq aB ak ax aK=>exact .b6 z es blk off cap dK aq aB (fun i j aA am=>(ak i j aA am).ext e) aK
 | eZ z a cap=>exact .eZ z a cap
 | fn f first e5 fs cs aJ ak h1 af dQ ku=>exact .fn f first e5 fs cs aJ ak dQ ku
 | mp b m ai hm=>
  obtain⟨h1,af⟩:=e.C5 b 0 m ai hm;exact .mp b m h1 af
 | it b m ai hm=>
  obtain⟨h1,af⟩:=e.C5 b 1 m ai hm;exact .it b m h1 af
 | fH t c v ax aK=>exact .fH t c v aK
 | kD l=>exact .kD l
 | bad v=>exact .bad v
theorem aP.ext {w w' : World} {h h' : aM} {μ μ' : cG} {R:Nat->Prop} {c:ae} {v:Value} (e:dk w h μ w' h' μ') (ax:aP w R h μ c v) :aP w' R h' μ' c v:=ax.lo e.toExt0
def sh (w:World) (R:Nat->Prop) (h:aM) (μ:cG) (m:M) :bg->Prop
 | .cells sz cs=>cs.length=sz/\m.s+sz<=m.T/\∃ arr e fe,w.heap[m.r]? = some (.cells arr e fe)/\arr.size=m.T/\(fe=(0,0)\/m.T<fe.1) ∧
   ∀ (j:Nat) (c:ae),cs[j]? = some c->∃ v:Value,arr[m.s+j]? = some v/\v.oneCell'=true/\aP w R h μ c v
 | .map es dW=>∃ dg,w.heap[m.r]? = some (.map dg dW)/\dg.size=es.length ∧
   ∀ (j:Nat) (k v:ae) (b:Nat),es[j]? = some (k,v,b)->∃ x:MapEntry,dg[j]? = some x/\aP w R h μ k x.key/\aP w R h μ v x.val/\x.born=b
 | .iter s pos=>∃ bs:ByteArray,bs.data.toList=s/\w.heap[m.r]? = some (.stringIter bs pos)
 | _=>True
theorem sh.ext {w w' : World} {h h' : aM} {μ μ' : cG} {R:Nat->Prop} {m:M} (e:Ext0 w h μ w' h' μ') (bt:w'.heap[m.r]? = w.heap[m.r]?) :
  ∀ {c:bg},sh w R h μ m c->sh w' R h' μ' m c
 | .cells sz cs,⟨h1,af,arr,t,fe,ap,aH,bc,bM⟩=>⟨h1,af,arr,t,fe,bt.trans ap,aH,bc,fun j c am=>let ⟨v,a,b,d⟩:=bM j c am; ⟨v,a,b,d.lo e⟩⟩
 | .map es dW,⟨dg,h1,af,ap⟩=>⟨dg,bt.trans h1,af,fun j k v b am=>let ⟨x,a,ei,d,f⟩:=ap j k v b am; ⟨x,a,ei.lo e,d.lo e,f⟩⟩
 | .iter s pos,⟨bs,h1,af⟩=>⟨bs,h1,bt.trans af⟩
 | .none,_=>trivial
 | .dead,_=>trivial
structure b5 (R:Nat->Prop) (B:Nat) (w:World) (h:aM) (μ:cG) :Prop where
 blk:∀ b m,μ b=some m->sh w R h μ m (h.f b)
 inj:∀ b bo m cp,live (h.f b)=true->live (h.f bo)=true->μ b=some m->μ bo=some cp->m.r=cp.r->b=bo
 base:∀ b m,live (h.f b)=true->μ b=some m->B<=m.r
 fresh:∀ b,h.n<=b->h.f b=.none
 up:∀ k,B<=k->R k
 size:B<=w.heap.size
 jC:∀ b,h.n<=b->μ b=none
theorem b5.pD {R:Nat->Prop} {B:Nat} {w:World} {h:aM} {μ:cG} (rel:b5 R B w h μ) {b:Nat} {m:M} (hm:μ b=some m) :b<h.n:=by
 rcases Nat.lt_or_ge b h.n with h1 | h1
 ·exact h1
 ·rw[rel.jC b h1] at hm; cases hm
theorem b5.lt {R:Nat->Prop} {B:Nat} {w:World} {h:aM} {μ:cG} (rel:b5 R B w h μ) {b:Nat} {m:M} (aq:live (h.f b)=true) (hm:μ b=some m) :m.r<w.heap.size:=by
 have ai:=rel.blk b m hm;cases ak:h.f b with
 | none=>rw[ak] at aq; cases aq
 | dead=>rw[ak] at aq; cases aq
 | cells sz cs=>
  rw[ak] at ai;obtain⟨_,_,arr,t,fe,ap,_⟩:=ai;rcases Nat.lt_or_ge m.r w.heap.size with h | h
  ·exact h
  ·rw[Array.getElem?_eq_none h] at ap; cases ap
 | map es dW=>
  rw[ak] at ai;obtain⟨dg,ap,_⟩:=ai;rcases Nat.lt_or_ge m.r w.heap.size with h | h
  ·exact h
  ·rw[Array.getElem?_eq_none h] at ap; cases ap
 | iter s pos=>
  rw[ak] at ai;obtain⟨bs,_,ap⟩:=ai;rcases Nat.lt_or_ge m.r w.heap.size with h | h
  ·exact h
  ·rw[Array.getElem?_eq_none h] at ap; cases ap
theorem b5.se {R:Nat->Prop} {B:Nat} {w w' : World} {h h' : aM} {μ μ' : cG} (rel:b5 R B w h μ) (e:Ext0 w h μ w' h' μ') (gh:Nat)
  (nW:∀ b,b≠gh->live (h'.f b)=true->h'.f b=h.f b/\μ' b=μ b/\∀ m,μ b=some m->w'.heap[m.r]? = w.heap[m.r]?)
  (jp:∀ m,μ' gh=some m->sh w' R h' μ' m (h'.f gh))
  (gk:∀ b m cp,b≠gh->live (h'.f b)=true->live (h'.f gh)=true->μ b=some m->μ' gh=some cp->m.r≠cp.r)
  (BR:∀ m,live (h'.f gh)=true->μ' gh=some m->B<=m.r)
  (afY:∀ b,h'.n<=b->h'.f b=.none) (agD:∀ b,h'.n<=b->μ' b=none) :b5 R B w' h' μ':=by
 refine⟨?_,?_,?_,afY,rel.up,Nat.le_trans rel.size e.size,agD⟩
 ·intro b m hm;by_cases ai:b=gh
  ·subst ai; exact jp m hm
  ·cases aq:live (h'.f b) with
   | false=>cases ak:h'.f b<;>first | trivial | (rw[ak] at aq; cases aq)
   | true=>
    obtain⟨h1,af,ap⟩:=nW b ai aq;rw[af] at hm;rw[h1];exact (rel.blk b m hm).ext e (ap m hm)
 ·intro b bo m cp aq cZ hm bZ aC;by_cases ai:b=gh<;>by_cases bL:bo=gh
  ·rw[ai,bL]
  ·subst ai;obtain⟨h1,af,ap⟩:=nW bo bL cZ;rw[af] at bZ;exact absurd aC.symm (gk bo cp m bL cZ aq bZ hm)
  ·subst bL;obtain⟨h1,af,ap⟩:=nW b ai aq;rw[af] at hm;exact absurd aC (gk b m cp ai aq cZ hm bZ)
  ·obtain⟨h1,af,_⟩:=nW b ai aq;obtain⟨ap,aH,_⟩:=nW bo bL cZ;rw[h1] at aq; rw[af] at hm; rw[ap] at cZ; rw[aH] at bZ;exact rel.inj b bo m cp aq cZ hm bZ aC
 ·intro b m aq hm;by_cases ai:b=gh
  ·subst ai; exact BR m aq hm
  ·obtain⟨h1,af,_⟩:=nW b ai aq;rw[h1] at aq; rw[af] at hm;exact rel.base b m aq hm
theorem b5.push {R:Nat->Prop} {B:Nat} {w w' : World} {h:aM} {μ:cG} (rel:b5 R B w h μ) (cs:List ae) (arr:Array Value) (t:TypeId)
  (nV:w'.os=w.os) (rC:w'.tape=w.tape) (jP:w'.output=w.output) (iC:w'.heap=w.heap.push (.cells arr t (0,0)))
  (gH:cs.length<=arr.size) (ax:∀ (j:Nat) (c:ae),cs[j]? = some c->∃ v:Value,arr[j]? = some v/\v.oneCell'=true/\aP w R h μ c v) (oL:w.drawn<=w'.drawn:=by first | exact Nat.le_refl _ | exact Nat.le_succ _ | assumption) :
  dk w h μ w' (h.push (.cells cs.length cs)) (bO μ h.n (some ⟨w.heap.size,0,arr.size⟩)) ∧
  b5 R B w' (h.push (.cells cs.length cs)) (bO μ h.n (some ⟨w.heap.size,0,arr.size⟩)) :=by
 have aI:h.f h.n=.none:=rel.fresh _ (Nat.le_refl _);have e:dk w h μ w' (h.push (.cells cs.length cs)) (bO μ h.n (some ⟨w.heap.size,0,arr.size⟩)) :=by
  refine⟨⟨nV,rC,jP,by simp[iC],?_,?_,?_,?_,?_,?_,oL⟩,?_⟩
  ·intro k aE _;rw[iC,Array.getElem?_push,if_neg (by omega)]
  ·rintro k ⟨b,m,aq,hm,rfl⟩;by_cases ai:b=h.n
   ·subst ai; simp at hm; subst hm; exact .inr (Nat.le_refl _)
   ·rw[cb _ _ _ _ ai] at hm;simp only[dJ,eK,cb _ _ _ _ ai] at aq;exact .inl ⟨b,m,aq,hm,rfl⟩
  ·intro b sz cs' m ai hm;have:b≠h.n:=fun aR=>by rw[aR,aI] at ai; cases ai
   exact .inl ⟨cs',by simp only[dJ,eK,cb _ _ _ _ this]; exact ai,by rw[cb _ _ _ _ this]; exact hm⟩
  ·rintro b sz (ai | ⟨n,cs',ai,aN⟩)
   ·have:b≠h.n:=fun aR=>by rw[aR,aI] at ai; cases ai
    exact .inl (by simp only[dJ,eK,cb _ _ _ _ this]; exact ai)
   ·have:b≠h.n:=fun aR=>by rw[aR,aI] at ai; cases ai
    exact .inr ⟨n,cs',by simp only[dJ,eK,cb _ _ _ _ this]; exact ai,aN⟩
  ·intro b k m ai hm;have:b≠h.n:=fun aR=>by rw[aR,aI] at ai; cases ai
   exact⟨by simp only[dJ,eK,cb _ _ _ _ this]; exact ai,by rw[cb _ _ _ _ this]; exact hm⟩
  ·simp[dJ,eK]
  ·intro b ai hm;rw[cb _ _ _ _ (by omega)]; exact hm
 refine⟨e,rel.se e.toExt0 h.n ?_ ?_ ?_ ?_ ?_ ?_⟩
 ·intro b ai aq;simp only[dJ,eK,cb _ _ _ _ ai] at aq ⊢;exact⟨trivial,trivial,fun m hm=>by rw[iC,Array.getElem?_push,if_neg (by have:=rel.lt aq hm; omega)]⟩
 ·intro m hm;simp at hm; subst hm;simp only[dJ,eK,iA];refine⟨rfl,by simpa using gH,arr,t,(0,0),by simp[iC],rfl,.inl rfl,fun j c am=>?_⟩;obtain⟨v,h1,af,ap⟩:=ax j c am;exact⟨v,by simpa using h1,af,ap.ext e⟩
 ·intro b m cp ai aq _ hm bZ;simp only[dJ,eK,cb _ _ _ _ ai] at aq;simp at bZ; subst bZ;have:=rel.lt aq hm;simp only[ne_eq]; omega
 ·intro m _ hm;simp at hm; subst hm;exact rel.size
 ·intro b ai;simp only[dJ,eK] at ai ⊢;rw[cb _ _ _ _ (by omega)];exact rel.fresh b (by omega)
 ·intro b ai;simp only[dJ,eK] at ai;rw[cb _ _ _ _ (by omega)];exact rel.jC b (by omega)
theorem b5.same {R:Nat->Prop} {B:Nat} {w:World} {h h' : aM} {μ:cG} (rel:b5 R B w h μ) (aJ:h'.f=h.f) (aI:h'.n=h.n) :dk w h μ w h' μ/\b5 R B w h' μ:=by
 have e:dk w h μ w h' μ:=by
  refine⟨⟨rfl,rfl,rfl,Nat.le_refl _,fun _ _ _=>rfl,?_,?_,?_,?_,by omega,Nat.le_refl _⟩,fun _ _ hm=>hm⟩
  ·rintro k ⟨bo,cp,cZ,bZ,rfl⟩;rw[aJ] at cZ; exact .inl ⟨bo,cp,cZ,bZ,rfl⟩
  ·intro bo sz' cs' cp bL bZ;exact .inl ⟨cs',by rw[aJ]; exact bL,bZ⟩
  ·intro bo sz' az;unfold si at az ⊢; rw[aJ]; exact az
  ·intro bo k' cp bL bZ;exact⟨by rw[aJ]; exact bL,bZ⟩
 refine⟨e,rel.se e.toExt0 h.n (fun b _ _=>⟨by rw[aJ],rfl,fun _ _=>rfl⟩) (fun m hm=>?_) (fun b m cp _ _ _ _ hm=>?_) (fun m _ hm=>?_) (fun b ai=>by rw[aJ]; exact rel.fresh b (by omega)) (by rw[aI]; exact rel.jC)⟩
 all_goals (rw[rel.jC h.n (Nat.le_refl _)] at hm; cases hm)
theorem b5.kill {R:Nat->Prop} {B:Nat} {w:World} {h h' : aM} {μ:cG} (rel:b5 R B w h μ) {b sz:Nat} {cs:List ae} (ai:h.f b=.cells sz cs) (mO:b<h.n)
  (aJ:h'.f=bO h.f b .dead) (aI:h'.n=h.n) :dk w h μ w h' μ/\b5 R B w h' μ:=by
 have e:dk w h μ w h' μ:=by
  refine⟨⟨rfl,rfl,rfl,Nat.le_refl _,fun _ _ _=>rfl,?_,?_,?_,?_,by omega,Nat.le_refl _⟩,fun _ _ hm=>hm⟩
  ·rintro k ⟨bo,cp,cZ,bZ,rfl⟩;rw[aJ] at cZ;by_cases b1:bo=b
   ·subst b1; simp[live] at cZ
   ·rw[cb _ _ _ _ b1] at cZ; exact .inl ⟨bo,cp,cZ,bZ,rfl⟩
  ·intro bo sz' cs' cp bL bZ;by_cases b1:bo=b
   ·subst b1; exact .inr (.inl (by rw[aJ]; simp))
   ·exact .inl ⟨cs',by rw[aJ,cb _ _ _ _ b1]; exact bL,bZ⟩
  ·rintro bo sz' az;by_cases b1:bo=b
   ·subst b1; exact .inl (by rw[aJ]; simp)
   ·rcases az with az | ⟨n,cs',az,aN⟩
    ·exact .inl (by rw[aJ,cb _ _ _ _ b1]; exact az)
    ·exact .inr ⟨n,cs',by rw[aJ,cb _ _ _ _ b1]; exact az,aN⟩
  ·intro bo k' cp bL bZ;by_cases b1:bo=b
   ·subst b1; rw[ai] at bL; cases bL
   ·exact⟨by rw[aJ,cb _ _ _ _ b1]; exact bL,bZ⟩
 refine⟨e,rel.se e.toExt0 b ?_ ?_ ?_ ?_ ?_ (by rw[aI]; exact rel.jC)⟩
 ·intro bo b1 aq;rw[aJ,cb _ _ _ _ b1];exact⟨rfl,rfl,fun _ _=>rfl⟩
 ·intro m _;rw[aJ]; simp[sh]
 ·intro bo m cp _ _ aq;rw[aJ] at aq; simp[live] at aq
 ·intro m aq;rw[aJ] at aq; simp[live] at aq
 ·intro bo bL;rw[aJ,cb _ _ _ _ (by omega)];exact rel.fresh bo (by omega)
theorem b5.ZQ {R:Nat->Prop} {B:Nat} {w:World} {h h' : aM} {μ:cG} (rel:b5 R B w h μ) {b sz off:Nat} {cs:List ae} {m:M} (ai:h.f b=.cells sz cs) (hm:μ b=some m) (ay:off<=sz)
  (aJ:h'.f=bO (bO h.f b .dead) h.n (.cells (sz - off) (cs.drop off))) (aI:h'.n=h.n+1) :
  dk w h μ w h' (bO μ h.n (some ⟨m.r,m.s+off,m.T⟩))/\b5 R B w h' (bO μ h.n (some ⟨m.r,m.s+off,m.T⟩)) :=by
 have mO:=rel.pD hm;have uZ:h.f h.n=.none:=rel.fresh _ (Nat.le_refl _);have jt:live (h.f b)=true:=by rw[ai]; rfl
 have e:dk w h μ w h' (bO μ h.n (some ⟨m.r,m.s+off,m.T⟩)) :=by
  refine⟨⟨rfl,rfl,rfl,Nat.le_refl _,fun _ _ _=>rfl,?_,?_,?_,?_,by omega,Nat.le_refl _⟩,fun bo bL bZ=>by rw[cb _ _ _ _ (by omega)]; exact bZ⟩
  ·rintro k ⟨bo,cp,cZ,bZ,rfl⟩;rw[aJ] at cZ;by_cases iU:bo=h.n
   ·subst iU; simp at bZ; subst bZ; exact .inl ⟨b,m,jt,hm,rfl⟩
   ·rw[cb _ _ _ _ iU] at cZ bZ;by_cases b1:bo=b
    ·subst b1; simp[live] at cZ
    ·rw[cb _ _ _ _ b1] at cZ; exact .inl ⟨bo,cp,cZ,bZ,rfl⟩
  ·intro bo sz' cs' cp bL bZ;have iU:bo≠h.n:=fun aR=>by rw[aR,uZ] at bL; cases bL
   by_cases b1:bo=b
   ·subst b1; exact .inr (.inl (by rw[aJ,cb _ _ _ _ iU]; simp))
   ·exact .inl ⟨cs',by rw[aJ,cb _ _ _ _ iU,cb _ _ _ _ b1]; exact bL,by rw[cb _ _ _ _ iU]; exact bZ⟩
  ·rintro bo sz' az;have iU:bo≠h.n:=fun aR=>by
    subst aR;rcases az with az | ⟨n,cs',az,_⟩
    ·rw[uZ] at az; cases az
    ·rw[uZ] at az; cases az
   by_cases b1:bo=b
   ·subst b1; exact .inl (by rw[aJ,cb _ _ _ _ iU]; simp)
   ·rcases az with az | ⟨n,cs',az,aN⟩
    ·exact .inl (by rw[aJ,cb _ _ _ _ iU,cb _ _ _ _ b1]; exact az)
    ·exact .inr ⟨n,cs',by rw[aJ,cb _ _ _ _ iU,cb _ _ _ _ b1]; exact az,aN⟩
  ·intro bo k' cp bL bZ;have iU:bo≠h.n:=fun aR=>by rw[aR,uZ] at bL; cases bL
   by_cases b1:bo=b
   ·subst b1; rw[ai] at bL; cases bL
   ·exact⟨by rw[aJ,cb _ _ _ _ iU,cb _ _ _ _ b1]; exact bL,by rw[cb _ _ _ _ iU]; exact bZ⟩
 have nW:∀ bo,bo≠h.n->live (h'.f bo)=true->bo≠b/\h'.f bo=h.f bo:=fun bo iU aq=>by
  rw[aJ,cb _ _ _ _ iU] at aq ⊢;by_cases b1:bo=b
  ·subst b1; simp[live] at aq
  ·exact⟨b1,by rw[cb _ _ _ _ b1]⟩
 refine⟨e,rel.se e.toExt0 h.n ?_ ?_ ?_ ?_ ?_ ?_⟩
 ·intro bo iU aq;exact⟨(nW bo iU aq).2,by rw[cb _ _ _ _ iU],fun _ _=>rfl⟩
 ·intro cp bZ;simp at bZ; subst bZ;rw[aJ,iA];have dZ:=rel.blk b m hm;rw[ai] at dZ;obtain⟨h1,af,arr,t,fe,ap,aH,bc,bM⟩:=dZ;refine⟨by simp; omega,by simp only; omega,arr,t,fe,ap,aH,bc,fun j c am=>?_⟩;rw[List.getElem?_drop] at am;obtain⟨v,bn,bA,a3⟩:=bM (off+j) c am;exact⟨v,by simp only; rw[Nat.add_assoc]; exact bn,bA,a3.ext e⟩
 ·intro bo fK iG iU aq _ h1 af aR;simp at af; subst af;obtain⟨b1,hK⟩:=nW bo iU aq;rw[hK] at aq;exact b1 (rel.inj bo b fK m aq jt h1 hm aR)
 ·intro cp _ bZ;simp at bZ; subst bZ;exact rel.base b m jt hm
 ·intro bo bL;rw[aJ,cb _ _ _ _ (by omega),cb _ _ _ _ (by omega)];exact rel.fresh bo (by omega)
 ·intro bo bL;rw[cb _ _ _ _ (by omega)];exact rel.jC bo (by omega)
theorem b5.W5 {R:Nat->Prop} {B:Nat} {w w' : World} {h:aM} {μ:cG} (rel:b5 R B w h μ) (c:bg) (o:Obj) {k:Nat} (aE:mm c=k+1)
  (nV:w'.os=w.os) (rC:w'.tape=w.tape) (jP:w'.output=w.output) (iC:w'.heap=w.heap.push o)
  (dG:sh w' R (h.push c) (bO μ h.n (some ⟨w.heap.size,0,0⟩)) ⟨w.heap.size,0,0⟩ c) (oL:w.drawn<=w'.drawn:=by first | exact Nat.le_refl _ | exact Nat.le_succ _ | assumption) :
  dk w h μ w' (h.push c) (bO μ h.n (some ⟨w.heap.size,0,0⟩))/\b5 R B w' (h.push c) (bO μ h.n (some ⟨w.heap.size,0,0⟩)) :=by
 have aI:h.f h.n=.none:=rel.fresh _ (Nat.le_refl _);have aqr:mm bg.none=0:=rfl;have e:dk w h μ w' (h.push c) (bO μ h.n (some ⟨w.heap.size,0,0⟩)) :=by
  refine⟨⟨nV,rC,jP,by simp[iC],?_,?_,?_,?_,?_,?_,oL⟩,?_⟩
  ·intro k aE _;rw[iC,Array.getElem?_push,if_neg (by omega)]
  ·rintro k ⟨b,m,aq,hm,rfl⟩;by_cases ai:b=h.n
   ·subst ai; simp at hm; subst hm; exact .inr (Nat.le_refl _)
   ·rw[cb _ _ _ _ ai] at hm;simp only[dJ,eK,cb _ _ _ _ ai] at aq;exact .inl ⟨b,m,aq,hm,rfl⟩
  ·intro b sz cs' m ai hm;have:b≠h.n:=fun aR=>by rw[aR,aI] at ai; cases ai
   exact .inl ⟨cs',by simp only[dJ,eK,cb _ _ _ _ this]; exact ai,by rw[cb _ _ _ _ this]; exact hm⟩
  ·rintro b sz (ai | ⟨n,cs',ai,aN⟩)
   ·have:b≠h.n:=fun aR=>by rw[aR,aI] at ai; cases ai
    exact .inl (by simp only[dJ,eK,cb _ _ _ _ this]; exact ai)
   ·have:b≠h.n:=fun aR=>by rw[aR,aI] at ai; cases ai
    exact .inr ⟨n,cs',by simp only[dJ,eK,cb _ _ _ _ this]; exact ai,aN⟩
  ·intro b k m ai hm;have:b≠h.n:=fun aR=>by rw[aR,aI] at ai; cases ai
   exact⟨by simp only[dJ,eK,cb _ _ _ _ this]; exact ai,by rw[cb _ _ _ _ this]; exact hm⟩
  ·simp[dJ,eK]
  ·intro b ai hm;rw[cb _ _ _ _ (by omega)]; exact hm
 refine⟨e,rel.se e.toExt0 h.n ?_ ?_ ?_ ?_ ?_ ?_⟩
 ·intro b ai aq;simp only[dJ,eK,cb _ _ _ _ ai] at aq ⊢;exact⟨trivial,trivial,fun m hm=>by rw[iC,Array.getElem?_push,if_neg (by have:=rel.lt aq hm; omega)]⟩
 ·intro m hm;simp at hm; subst hm;simp only[dJ,eK,iA];exact dG
 ·intro b m cp ai aq _ hm bZ;simp only[dJ,eK,cb _ _ _ _ ai] at aq;simp at bZ; subst bZ;have:=rel.lt aq hm;simp only[ne_eq]; omega
 ·intro m _ hm;simp at hm; subst hm;exact rel.size
 ·intro b ai;simp only[dJ,eK] at ai ⊢;rw[cb _ _ _ _ (by omega)];exact rel.fresh b (by omega)
 ·intro b ai;simp only[dJ,eK] at ai ⊢;rw[cb _ _ _ _ (by omega)];exact rel.jC b (by omega)
theorem b5.W9 {R:Nat->Prop} {B:Nat} {w w' : World} {h:aM} {μ:cG} (rel:b5 R B w h μ) {b k:Nat} {c c' : bg} {m:M}
  (ai:h.f b=c) (aE:mm c=k+1) (eb:mm c'=k+1) (hm:μ b=some m)
  (nV:w'.os=w.os) (rC:w'.tape=w.tape) (jP:w'.output=w.output) (vd:w'.heap.size=w.heap.size) (zh:∀ k,k≠m.r->w'.heap[k]? = w.heap[k]?)
  (dG:Ext0 w h μ w' (h.set b c') μ->sh w' R (h.set b c') μ m c') (oL:w.drawn<=w'.drawn:=by first | exact Nat.le_refl _ | exact Nat.le_succ _ | assumption) :
  dk w h μ w' (h.set b c') μ/\b5 R B w' (h.set b c') μ:=by
 have jt:live (h.f b)=true:=by rw[ai]; cases c<;>simp[mm] at aE<;>rfl
 have aqu:live c'=true:=by cases c'<;>simp[mm] at eb<;>rfl
 have It:∀ sz cs,h.f b≠.cells sz cs:=fun sz cs aR=>by rw[ai] at aR; subst aR; simp[mm] at aE
 have y5:h.f b≠.dead:=fun aR=>by rw[ai] at aR; subst aR; simp[mm] at aE
 have e:dk w h μ w' (h.set b c') μ:=by
  refine⟨⟨nV,rC,jP,Nat.le_of_eq vd.symm,?_,?_,?_,?_,?_,Nat.le_refl _,oL⟩,fun _ _ hm=>hm⟩
  ·intro k aE aI;exact zh k (fun aR=>aI ⟨b,m,jt,hm,aR.symm⟩)
  ·rintro k ⟨bo,cp,cZ,bZ,rfl⟩;by_cases b1:bo=b
   ·subst b1; exact .inl ⟨bo,cp,jt,bZ,rfl⟩
   ·simp only[dt,cb _ _ _ _ b1] at cZ;exact .inl ⟨bo,cp,cZ,bZ,rfl⟩
  ·intro bo sz cs cp bL bZ;have b1:bo≠b:=fun aR=>by subst aR; exact It _ _ bL
   exact .inl ⟨cs,by simp only[dt,cb _ _ _ _ b1]; exact bL,bZ⟩
  ·rintro bo sz (az | ⟨n,cs',az,aN⟩)
   ·have b1:bo≠b:=fun aR=>by subst aR; exact y5 az
    exact .inl (by simp only[dt,cb _ _ _ _ b1]; exact az)
   ·have b1:bo≠b:=fun aR=>by subst aR; exact It _ _ az
    exact .inr ⟨n,cs',by simp only[dt,cb _ _ _ _ b1]; exact az,aN⟩
  ·intro bo k' cp bL bZ;by_cases b1:bo=b
   ·subst b1;refine⟨?_,bZ⟩;simp only[dt,iA];rw[ai,aE] at bL;rw[eb]; exact bL
   ·exact⟨by simp only[dt,cb _ _ _ _ b1]; exact bL,bZ⟩
 refine⟨e,rel.se e.toExt0 b ?_ ?_ ?_ ?_ ?_ rel.jC⟩
 ·intro bo b1 aq;simp only[dt,cb _ _ _ _ b1] at aq ⊢;exact⟨trivial,trivial,fun cp bZ=>zh _ (fun aR=>b1 (rel.inj bo b cp m aq jt bZ hm aR))⟩
 ·intro cp bZ;rw[hm] at bZ; cases bZ;simp only[dt,iA];exact dG e.toExt0
 ·intro bo fK iG b1 aq _ h1 af aR;rw[hm] at af; cases af;simp only[dt,cb _ _ _ _ b1] at aq;exact b1 (rel.inj bo b fK m aq jt h1 hm aR)
 ·intro cp _ bZ;rw[hm] at bZ; cases bZ;exact rel.base b m jt hm
 ·intro bo bL;by_cases b1:bo=b
  ·subst b1;have:=rel.pD hm;simp only[ed] at bL; omega
  ·simp only[dt,cb _ _ _ _ b1]; exact rel.fresh bo bL
theorem b5.write {R:Nat->Prop} {B:Nat} {w w' : World} {h:aM} {μ:cG} (rel:b5 R B w h μ) {b sz sz' : Nat} {cs cs' : List ae} {m:M} {arr arr' : Array Value} {t:TypeId} {fe:Nat × Nat}
  (ai:h.f b=.cells sz cs) (hm:μ b=some m) (aC:w.heap[m.r]? = some (.cells arr t fe)) (d9:arr.size=m.T) (kn:fe=(0,0)\/m.T<fe.1)
  (nV:w'.os=w.os) (rC:w'.tape=w.tape) (jP:w'.output=w.output) (vd:w'.heap.size=w.heap.size)
  (zi:w'.heap[m.r]? = some (.cells arr' t fe)) (zh:∀ k,k≠m.r->w'.heap[k]? = w.heap[k]?) (aG:arr'.size=arr.size)
  (aq:cs'.length=sz') (nN:sz<=sz') (dF:m.s+sz'<=m.T)
  (ax:∀ (j:Nat) (c:ae),cs'[j]? = some c->∃ v:Value,arr'[m.s+j]? = some v/\v.oneCell'=true/\aP w R h μ c v) (oL:w.drawn<=w'.drawn:=by first | exact Nat.le_refl _ | exact Nat.le_succ _ | assumption) :
  dk w h μ w' (h.set b (.cells sz' cs')) μ/\b5 R B w' (h.set b (.cells sz' cs')) μ:=by
 have jt:live (h.f b)=true:=by rw[ai]; rfl
 have e:dk w h μ w' (h.set b (.cells sz' cs')) μ:=by
  refine⟨⟨nV,rC,jP,Nat.le_of_eq vd.symm,?_,?_,?_,?_,?_,Nat.le_refl _,oL⟩,fun _ _ hm=>hm⟩
  ·intro k aE aI;exact zh k (fun aR=>aI ⟨b,m,jt,hm,aR.symm⟩)
  ·rintro k ⟨bo,cp,cZ,bZ,rfl⟩;by_cases b1:bo=b
   ·subst b1; exact .inl ⟨bo,cp,jt,bZ,rfl⟩
   ·simp only[dt,ed,cb _ _ _ _ b1] at cZ;exact .inl ⟨bo,cp,cZ,bZ,rfl⟩
  ·intro bo amj lZ cp bL bZ;by_cases b1:bo=b
   ·subst b1;rw[ai] at bL; cases bL;by_cases ar:sz'=sz
    ·exact .inl ⟨cs',by simp[dt,ed,ar],bZ⟩
    ·exact .inr (.inr ⟨sz',cs',by simp[dt,ed],by omega⟩)
   ·exact .inl ⟨lZ,by simp only[dt,ed,cb _ _ _ _ b1]; exact bL,bZ⟩
  ·rintro bo s0 (bL | ⟨n,lZ,bL,aN⟩)
   ·have b1:bo≠b:=fun aR=>by rw[aR,ai] at bL; cases bL
    exact .inl (by simp only[dt,ed,cb _ _ _ _ b1]; exact bL)
   ·by_cases b1:bo=b
    ·subst b1;rw[ai] at bL; cases bL;exact .inr ⟨sz',cs',by simp[dt,ed],by omega⟩
    ·exact .inr ⟨n,lZ,by simp only[dt,ed,cb _ _ _ _ b1]; exact bL,aN⟩
  ·intro bo k cp bL bZ;have b1:bo≠b:=fun aR=>by rw[aR,ai] at bL; cases bL
   exact⟨by simp only[dt,ed,cb _ _ _ _ b1]; exact bL,bZ⟩
 refine⟨e,rel.se e.toExt0 b ?_ ?_ ?_ ?_ ?_ ?_⟩
 ·intro bo b1 cZ;simp only[dt,ed,cb _ _ _ _ b1] at cZ ⊢;exact⟨trivial,trivial,fun cp bZ=>zh _ (fun aR=>b1 (rel.inj bo b cp m cZ jt bZ hm aR))⟩
 ·intro cp bZ;rw[hm] at bZ; cases bZ;simp only[dt,ed,iA];refine⟨aq,dF,arr',t,fe,zi,aG.trans d9,kn,fun j c am=>?_⟩;obtain⟨v,h1,af,ap⟩:=ax j c am;exact⟨v,h1,af,ap.ext e⟩
 ·intro bo cp aiZ b1 cZ _ bZ y2 aR;rw[hm] at y2; cases y2;simp only[dt,ed,cb _ _ _ _ b1] at cZ;exact b1 (rel.inj bo b cp m cZ jt bZ hm aR)
 ·intro cp _ bZ;exact rel.base b cp jt bZ
 ·intro bo bL;simp only[dt,ed] at bL ⊢;have b1:bo≠b:=fun aR=>by
   have:=rel.fresh bo bL;rw[aR,ai] at this; cases this
  rw[cb _ _ _ _ b1];exact rel.fresh bo bL
 ·intro bo bL;exact rel.jC bo bL
theorem b5.move {R:Nat->Prop} {B:Nat} {w w' : World} {h:aM} {μ:cG} (rel:b5 R B w h μ) {b sz sz' : Nat} {cs cs' : List ae} {m:M} {arr:Array Value} {t:TypeId}
  (ai:h.f b=.cells sz cs) (hm:μ b=some m)
  (nV:w'.os=w.os) (rC:w'.tape=w.tape) (jP:w'.output=w.output) (iC:w'.heap=w.heap.push (.cells arr t (0,0)))
  (aq:cs'.length=sz') (nN:sz<sz') (dF:sz'<=arr.size)
  (ax:∀ (j:Nat) (c:ae),cs'[j]? = some c->∃ v:Value,arr[j]? = some v/\v.oneCell'=true/\aP w R h μ c v) (oL:w.drawn<=w'.drawn:=by first | exact Nat.le_refl _ | exact Nat.le_succ _ | assumption) :
  dk w h μ w' (h.set b (.cells sz' cs')) (bO μ b (some ⟨w.heap.size,0,arr.size⟩))/\b5 R B w' (h.set b (.cells sz' cs')) (bO μ b (some ⟨w.heap.size,0,arr.size⟩)) :=by
 have jt:live (h.f b)=true:=by rw[ai]; rfl
 have e:dk w h μ w' (h.set b (.cells sz' cs')) (bO μ b (some ⟨w.heap.size,0,arr.size⟩)) :=by
  refine⟨⟨nV,rC,jP,by simp[iC],?_,?_,?_,?_,?_,Nat.le_refl _,oL⟩,?_⟩
  ·intro k aE aI;rw[iC,Array.getElem?_push,if_neg (by omega)]
  ·rintro k ⟨bo,cp,cZ,bZ,rfl⟩;by_cases b1:bo=b
   ·subst b1; simp at bZ; subst bZ; exact .inr (Nat.le_refl _)
   ·rw[cb _ _ _ _ b1] at bZ;simp only[dt,ed,cb _ _ _ _ b1] at cZ;exact .inl ⟨bo,cp,cZ,bZ,rfl⟩
  ·intro bo amj lZ cp bL bZ;by_cases b1:bo=b
   ·subst b1;rw[ai] at bL; cases bL;exact .inr (.inr ⟨sz',cs',by simp[dt,ed],by omega⟩)
   ·exact .inl ⟨lZ,by simp only[dt,ed,cb _ _ _ _ b1]; exact bL,by rw[cb _ _ _ _ b1]; exact bZ⟩
  ·rintro bo s0 (bL | ⟨n,lZ,bL,aN⟩)
   ·have b1:bo≠b:=fun aR=>by rw[aR,ai] at bL; cases bL
    exact .inl (by simp only[dt,ed,cb _ _ _ _ b1]; exact bL)
   ·by_cases b1:bo=b
    ·subst b1;rw[ai] at bL; cases bL;exact .inr ⟨sz',cs',by simp[dt,ed],by omega⟩
    ·exact .inr ⟨n,lZ,by simp only[dt,ed,cb _ _ _ _ b1]; exact bL,aN⟩
  ·intro bo k cp bL bZ;have b1:bo≠b:=fun aR=>by rw[aR,ai] at bL; cases bL
   exact⟨by simp only[dt,ed,cb _ _ _ _ b1]; exact bL,by rw[cb _ _ _ _ b1]; exact bZ⟩
  ·intro bo _ bZ;have b1:bo≠b:=fun aR=>by rw[aR,hm] at bZ; cases bZ
   rw[cb _ _ _ _ b1]; exact bZ
 refine⟨e,rel.se e.toExt0 b ?_ ?_ ?_ ?_ ?_ ?_⟩
 ·intro bo b1 cZ;simp only[dt,ed,cb _ _ _ _ b1] at cZ ⊢;exact⟨trivial,trivial,fun cp bZ=>by rw[iC,Array.getElem?_push,if_neg (by have:=rel.lt cZ bZ; omega)]⟩
 ·intro cp bZ;simp at bZ; subst bZ;simp only[dt,ed,iA];refine⟨aq,by simpa using dF,arr,t,(0,0),by simp[iC],rfl,.inl rfl,fun j c am=>?_⟩;obtain⟨v,h1,af,ap⟩:=ax j c am;exact⟨v,by simpa using h1,af,ap.ext e⟩
 ·intro bo cp aiZ b1 cZ _ bZ y2;simp only[dt,ed,cb _ _ _ _ b1] at cZ;simp at y2; subst y2;have:=rel.lt cZ bZ;simp only[ne_eq]; omega
 ·intro cp _ bZ;simp at bZ; subst bZ;exact rel.size
 ·intro bo bL;simp only[dt,ed] at bL ⊢;have b1:bo≠b:=fun aR=>by
   have:=rel.fresh bo bL;rw[aR,ai] at this; cases this
  rw[cb _ _ _ _ b1];exact rel.fresh bo bL
 ·intro bo bL;simp only[dt,ed] at bL;have b1:bo≠b:=fun aR=>by
   have:=rel.pD hm;omega
  rw[cb _ _ _ _ b1];exact rel.jC bo bL
section
variable {P:Program} {w:World} {R:Nat->Prop} {B:Nat} {h:aM} {μ:cG}
def Good (R:Nat->Prop) (B:Nat) (w:World) (h:aM) (μ:cG) (r:Result Next) (c:ae) (h' : aM) :Prop:=
 ∃ v w' μ',(r=.ok (.value v) w'\/(r=.ok .skip w'/\v=undef))/\dk w h μ w' h' μ'/\b5 R B w' h' μ'/\aP w' R h' μ' c v
theorem Good.pure (rel:b5 R B w h μ) {r:Result Next} {c:ae} {v:Value} (aC:r=.ok (.value v) w) (ax:aP w R h μ c v) :Good R B w h μ r c h:=
 ⟨v,w,μ,.inl aC,.refl _ _ _,rel,ax⟩
theorem cu {t:TypeId} {d:TypeDesc} (bJ:P.underlying t=some d) :(underlying t).run P w=.ok d w:=by
 simp[underlying,bJ]
theorem Dz {t:TypeId} {b:Bool} (ai:dM P t=some b) :(isAgg t).run P w=.ok b w:=by
 unfold dM at ai;cases bJ:P.underlying t with
 | none=>rw[bJ] at ai; cases ai
 | some d=>
  rw[bJ] at ai;simp only[Option.map_some,Option.some.injEq] at ai;unfold isAgg;simp only[Sem.run_bind,cu bJ,Result.andThen_ok];cases d<;>simp_all
theorem ahQ {t:TypeId} {n:Nat} (aI:cv P t=some n) :∃ i,P.info? t=some i/\i.size=n:=by
 unfold cv at aI;cases aA:P.info? t with
 | none=>rw[aA] at aI; cases aI
 | some i=>rw[aA] at aI; exact⟨i,rfl,by simpa using aI⟩
theorem e4 {t:TypeId} {n:Nat} (aI:cv P t=some n) :(sizeOf t).run P w=.ok n w:=by
 obtain⟨i,aA,ar⟩:=ahQ aI;simp[sizeOf,typeInfo,aA,ar]
theorem anK {t:TypeId} {z:List ae} (aB:gK P t=some z) :∃ i v,P.info? t=some i/\i.zero=some v/\v.cells.toList.all Value.oneCell'=true/\z=v.cells.toList.map m6:=by
 unfold gK at aB;cases aA:P.info? t with
 | none=>rw[aA] at aB; cases aB
 | some i=>
  rw[aA] at aB;simp only[Option.bind_some] at aB;cases ax:i.zero with
  | none=>rw[ax] at aB; cases aB
  | some v=>
   rw[ax] at aB;simp only[Option.bind_some] at aB;split at aB
   ·rename_i h1;exact⟨i,v,rfl,ax,h1,by simpa using aB.symm⟩
   ·cases aB
theorem Z3 {t:TypeId} {i:TypeInfo} {v:Value} (aA:P.info? t=some i) (ax:i.zero=some v) :(zeroValue t).run P w=.ok v w:=by
 simp[zeroValue,typeInfo,aA,ax]
theorem aP.m6 (v:Value) :aP w R h μ (m6 v) v:=by
 cases v with
 | bool b=>exact .bool _
 | int k n=>exact .int _ _
 | string s=>exact .str _
 | pointer a=>cases a<;>first | exact .ib | exact .bad _
 | slice a l c=>
  simp only[cl.m6];split
  ·exact .a6
  ·exact .bad _
 | map r=>cases r<;>first | exact .gJ | exact .bad _
 | nilFunc=>exact .hQ
 | nilIface=>exact .ia
 | func fn first e5=>
  simp only[cl.m6];split
  ·rename_i f h1 af;have a1:first=#[] :=by simpa using h1
   have b7:e5=#[] :=by simpa using af
   subst a1 b7;exact .fn _ [] [] #[] #[] rfl rfl (fun _ _ _ aR=>by simp at aR) (fun _ _ _ aR=>by simp at aR)
  ·exact .bad _
 | _=>exact .bad _
theorem aP.tv (v:Value) :aP w R h μ (tv v) v:=by
 unfold cl.tv;split
 ·rename_i cs;split
  ·rename_i cL;refine .aS _ _ (by simp) (fun j v am=>?_) (fun j c v ak jT=>?_)
   ·rw[List.all_eq_true] at cL;exact cL v (by have:=Array.mem_of_getElem? am; simpa using this)
   ·rw[List.getElem?_map] at ak;simp only[Array.getElem?_toList,jT,Option.map_some,Option.some.injEq] at ak;subst ak;exact aP.m6 v
  ·exact .bad _
 ·rename_i vs;refine .bU _ _ (by simp) (fun j c v ak jT=>?_);rw[List.getElem?_map] at ak;simp only[Array.getElem?_toList,jT,Option.map_some,Option.some.injEq] at ak;subst ak;exact aP.m6 v
 ·exact aP.m6 v
theorem aP.one {c:ae} {v:Value} (ax:aP w R h μ c v) (h1:c.one=true) :v.oneCell'=true:=by
 cases ax<;>first | rfl | (simp[ae.one] at h1)
theorem A6 {c:ae} {v:Value} {cs:List ae} (ax:aP w R h μ c v) (ak:c.cells=some cs) :
  v.cells.size=cs.length/\∀ (j:Nat) (x:ae),cs[j]? = some x->∃ u:Value,v.cells[j]? = some u/\u.oneCell'=true/\aP w R h μ x u:=by
 have iI:∀ (c:ae) (v:Value),aP w R h μ c v->v.cells=#[v]->v.oneCell'=true->∀ cs,cs=[c]->
   v.cells.size=cs.length/\∀ (j:Nat) (x:ae),cs[j]? = some x->∃ u:Value,v.cells[j]? = some u/\u.oneCell'=true/\aP w R h μ x u:=by
  intro c v ax iV h1 cs cL;subst cL;rw[iV];refine⟨rfl,fun j x aj=>?_⟩;cases j with
  | zero=>simp at aj; subst aj; exact⟨v,rfl,h1,ax⟩
  | succ j=>simp at aj
 cases ax with
 | aS cs' vs aq h1 ax=>
  simp only[ae.cells,Option.some.injEq] at ak; subst ak;refine⟨aq,fun j x aj=>?_⟩;have am:j<vs.size:=by rw[aq]; exact (List.getElem?_eq_some_iff.1 aj).1
  exact⟨vs[j],by simp[Value.cells,am],h1 j _ (by simp[am]),ax j x _ aj (by simp[am])⟩
 | bU cs' vs aq ax=>simp[ae.cells] at ak
 | bad v=>simp[ae.cells] at ak
 | bool b=>exact iI _ _ (.bool b) rfl rfl _ (by simpa [ae.cells] using ak.symm)
 | int k n=>exact iI _ _ (.int k n) rfl rfl _ (by simpa [ae.cells] using ak.symm)
 | str bs=>exact iI _ _ (.str bs) rfl rfl _ (by simpa [ae.cells] using ak.symm)
 | ib=>exact iI _ _ .ib rfl rfl _ (by simpa [ae.cells] using ak.symm)
 | a6=>exact iI _ _ .a6 rfl rfl _ (by simpa [ae.cells] using ak.symm)
 | gJ=>exact iI _ _ .gJ rfl rfl _ (by simpa [ae.cells] using ak.symm)
 | hQ=>exact iI _ _ .hQ rfl rfl _ (by simpa [ae.cells] using ak.symm)
 | ia=>exact iI _ _ .ia rfl rfl _ (by simpa [ae.cells] using ak.symm)
 | ptr b off sz cs' m ai hm=>exact iI _ _ (.ptr b off sz cs' m ai hm) rfl rfl _ (by simpa [ae.cells] using ak.symm)
 | k3 b off sz a az=>exact iI _ _ (.k3 b off sz a az) rfl rfl _ (by simpa [ae.cells] using ak.symm)
 | cn cs' off blk o dK ez ax=>exact iI _ _ (.cn cs' off blk o dK ez ax) rfl rfl _ (by simpa [ae.cells] using ak.symm)
 | ao z b off len cap sz cap' cs' m ai hm aq ay ez=>exact iI _ _ (.ao z b off len cap sz cap' cs' m ai hm aq ay ez) rfl rfl _ (by simpa [ae.cells] using ak.symm)
 | fA z b off len cap sz cap' a aq ez az=>exact iI _ _ (.fA z b off len cap sz cap' a aq ez az) rfl rfl _ (by simpa [ae.cells] using ak.symm)
 | gS z b off sz a cs' m ai hm=>exact iI _ _ (.gS z b off sz a cs' m ai hm) rfl rfl _ (by simpa [ae.cells] using ak.symm)
 | b6 z es blk off cap dK aq aB ez ax=>exact iI _ _ (.b6 z es blk off cap dK aq aB ez ax) rfl rfl _ (by simpa [ae.cells] using ak.symm)
 | eZ z a cap=>exact iI _ _ (.eZ z a cap) rfl rfl _ (by simpa [ae.cells] using ak.symm)
 | fn f aeb v8 fs cs' aJ ez h1 af=>exact iI _ _ (.fn f aeb v8 fs cs' aJ ez h1 af) rfl rfl _ (by simpa [ae.cells] using ak.symm)
 | mp b m ai hm=>exact iI _ _ (.mp b m ai hm) rfl rfl _ (by simpa [ae.cells] using ak.symm)
 | it b m ai hm=>exact iI _ _ (.it b m ai hm) rfl rfl _ (by simpa [ae.cells] using ak.symm)
 | fH t c v ax=>exact iI _ _ (.fH t c v ax) rfl rfl _ (by simpa [ae.cells] using ak.symm)
 | kD l=>exact iI _ _ (.kD l) rfl rfl _ (by simpa [ae.cells] using ak.symm)
theorem Addr.kF (b o n:Nat) :(⟨b,o,none⟩:Addr).add n=⟨b,o+n,none⟩:=by unfold Addr.add; split<;>simp_all
theorem MC (rel:b5 R B w h μ) {p:ae} {tC:Value} {cs:List ae} {off:Nat} (aC:reach h p=some (cs,off)) (aF:aP w R h μ p tC) :
  ∃ blk o,tC=.pointer (some ⟨blk,o+off,none⟩)/\∀ (j:Nat) (c:ae),cs[j]? = some c->∃ v:Value,w.cell? ⟨blk,o+j,none⟩=some v/\v.oneCell'=true/\aP w R h μ c v:=by
 cases aF with
 | ptr b C7 sz cs' m ai hm=>
  simp only[reach,ai,ite_true,Option.some.injEq,Prod.mk.injEq] at aC;obtain⟨rfl,rfl⟩:=aC;have dZ:=rel.blk b m hm;rw[ai] at dZ;obtain⟨h1,af,arr,t,fe,ap,aH,bc,bM⟩:=dZ;refine⟨m.r,m.s,rfl,fun j c am=>?_⟩;obtain⟨v,bn,bA,a3⟩:=bM j c am;exact⟨v,by simp[World.cell?,ap,bn],bA,a3⟩
 | k3 b C7 sz a az=>
  unfold reach at aC;rcases az with az | ⟨n,cs',az,aN⟩
  ·simp[az] at aC
  ·simp only[az] at aC;split at aC
   ·omega
   ·cases aC
 | cn cs' C7 blk o dK ak ax=>
  simp only[reach,Option.some.injEq,Prod.mk.injEq] at aC;obtain⟨rfl,rfl⟩:=aC;exact⟨blk,o,rfl,fun j c am=>⟨dK j,(ak j (List.getElem?_eq_some_iff.1 am).1).here,(ak j (List.getElem?_eq_some_iff.1 am).1).one,ax j c am⟩⟩
 | _=>simp[reach] at aC
theorem alk {t:TypeId} {cs:List ae} {off:Nat} {c:ae} (aF:gR P t cs off=some c) {blk o:Nat}
  (ak:∀ (j:Nat) (x:ae),cs[j]? = some x->∃ v:Value,w.cell? ⟨blk,o+j,none⟩=some v/\v.oneCell'=true/\aP w R h μ x v) :
  ∃ v,(loadVar t ⟨blk,o+off,none⟩).run P w=.ok v w/\aP w R h μ c v:=by
 unfold gR at aF;cases mN:dM P t with
 | none=>rw[mN] at aF; cases aF
 | some b=>
  rw[mN] at aF;cases b with
  | false=>
   simp only at aF;obtain⟨v,h1,_,ap⟩:=ak off c aF;exact⟨v,by simp[loadVar,Dz mN,h1],ap⟩
  | true=>
   cases aI:cv P t with
   | none=>rw[aI] at aF; cases aF
   | some n=>
    rw[aI] at aF;simp only at aF;split at aF
    ·rename_i dv;simp only[Option.some.injEq] at aF;subst aF;have wM:∀ j,j<n->∃ v,w.cell? ⟨blk,o+(off+j),none⟩=some v/\v.oneCell'=true/\aP w R h μ (cs.getD (off+j) .bad) v:=by
      intro j am;have aN:off+j<cs.length:=by omega
      have:=ak (off+j) cs[off+j] (by simp[aN]);simpa [List.getD,aN] using this
     have ax:∃ f:Nat->Value,∀ j,j<n->w.cell? ⟨blk,o+(off+j),none⟩=some (f j)/\(f j).oneCell'=true/\aP w R h μ (cs.getD (off+j) .bad) (f j) :=by
      refine⟨fun j=>if am:j<n then Classical.choose (wM j am) else undef,fun j am=>?_⟩;simp only[am,dif_pos];exact Classical.choose_spec (wM j am)
     obtain⟨f,aJ⟩:=ax;have aq:(loadCells ⟨blk,o+off,none⟩ n).run P w=.ok ((List.range n).map f).toArray w:=by
      have:=run_loadCells_list (P:=P) w ⟨blk,o+off,none⟩ ((List.range n).map f) (fun j v am=>by
       rw[List.getElem?_map] at am;have kQ:j<n:=by
        rcases Nat.lt_or_ge j n with h1 | h1
        ·exact h1
        ·rw[List.getElem?_eq_none (by simpa using h1)] at am; cases am
       rw[List.getElem?_range kQ] at am;simp only[Option.map_some,Option.some.injEq] at am;rw[Addr.kF,<-am,Nat.add_assoc];exact (aJ j kQ).1)
      simpa using this
     refine⟨.agg ((List.range n).map f).toArray,by simp[loadVar,Dz mN,e4 aI,aq],.aS _ _ (by simp; omega) (fun j v am=>?_) (fun j c v ez am=>?_)⟩
     ·simp only[List.getElem?_toArray,List.getElem?_map] at am;have kQ:j<n:=by
       rcases Nat.lt_or_ge j n with h1 | h1
       ·exact h1
       ·rw[List.getElem?_eq_none (by simpa using h1)] at am; cases am
      rw[List.getElem?_range kQ] at am;simp only[Option.map_some,Option.some.injEq] at am;rw[<-am]; exact (aJ j kQ).2.1
     ·simp only[List.getElem?_toArray,List.getElem?_map] at am;have kQ:j<n:=by
       rcases Nat.lt_or_ge j n with h1 | h1
       ·exact h1
       ·rw[List.getElem?_eq_none (by simpa using h1)] at am; cases am
      rw[List.getElem?_range kQ] at am;simp only[Option.map_some,Option.some.injEq] at am;rw[List.getElem?_take_of_lt kQ,List.getElem?_drop] at ez;have:=(aJ j kQ).2.2;rw[List.getD,ez] at this;rw[<-am]; simpa using this
    ·cases aF
theorem V6 (rel:b5 R B w h μ) {t:TypeId} {p:ae} {tC:Value} {c:ae} (aq:qg P h t p=some c) (aF:aP w R h μ p tC) :
  ∃ v,(Instr.loadAt t tC).run P w=.ok v w/\aP w R h μ c v:=by
 unfold qg at aq;cases aC:reach h p with
 | none=>rw[aC] at aq; cases aq
 | some x=>
  obtain⟨cs,off⟩:=x;rw[aC] at aq;obtain⟨blk,o,rfl,ak⟩:=MC rel aC aF;obtain⟨v,h1,af⟩:=alk aq ak;exact⟨v,by simp[Instr.loadAt,Instr.sureAddr,h1],af⟩
end
section
variable {P:Program} {w:World} {R:Nat->Prop} {B:Nat} {h:aM} {μ:cG}
theorem Z2 (P:Program) (g o:Nat) (t:TypeId) (fe:Nat × Nat) :∀ (vs:List Value) (i:Nat) (g1:Array Value) (w:World),w.heap[g]? = some (.cells g1 t fe)->(fe=(0,0)\/g1.size<=fe.1)->
  o+i+vs.length<=g1.size->(∀ v∈vs,v.oneCell'=true)->
  (storeCells ⟨g,o,none⟩ vs i).run P w=.ok () (w.setRow g (g1.toList.take (o+i)++vs++g1.toList.drop (o+i+vs.length)).toArray)
 | [],i,g1,w,az,_,_,_=>by
  simp only[storeCells,List.append_nil,List.length_nil,Nat.add_zero,List.take_append_drop,Array.toArray_toList];rw[setRow_self w g g1 t fe az];rfl
 | v::rest,i,g1,w,az,kn,aq,h1=>by
  have aA:o+i<g1.size:=by simp at aq; omega
  have aff:(⟨g,o,none⟩:Addr).add i=⟨g,o+i,none⟩:=Addr.kF _ _ _;have kP:w.cell? ⟨g,o+i,none⟩=some g1[o+i] :=by simp[World.cell?,az,aA]
  have afZ:w.frozen? ⟨g,o+i,none⟩=false:=by
   obtain⟨cI,fr⟩:=fe;rcases kn with kn | kn
   ·cases kn; simp[World.frozen?,az]
   ·have:¬ cI<=o+i:=by simp at kn; omega
    simp[World.frozen?,az,this]
  have cm:(store ((⟨g,o,none⟩:Addr).add i) v).run P w=.ok () (w.setRow g (g1.setIfInBounds (o+i) v)) :=by
   rw[aff,run_store P w _ v _ (h1 v (by simp)),kP];simp[afZ,setCell_eq_setRow w g (o+i) g1 t fe v az]
  have aK:=Z2 P g o t fe rest (i+1) (g1.setIfInBounds (o+i) v) (w.setRow g (g1.setIfInBounds (o+i) v)) (setRow_heap w g g1 _ t _ az) (by simpa using kn) (by simp at aq ⊢; omega) (fun x aj=>h1 x (by simp[aj]));simp only[storeCells,Sem.run_bind,cm,Result.andThen_ok,aK,setRow_setRow];congr 3;have:=list_seg_step g1.toList (o+i) v rest (by simp at aq ⊢; omega);simpa [Nat.add_assoc,Nat.add_comm 1] using this
theorem qC {cs vs:List ae} {k:Nat} (aE:k<=cs.length) :(bS cs k vs).length=max cs.length (k+vs.length) :=by
 unfold bS;simp only[List.length_append,List.length_take,List.length_drop];omega
theorem M2 {cs vs:List ae} {k j:Nat} (aE:k<=cs.length) :(bS cs k vs)[j]? = if j<k then cs[j]? else if j<k+vs.length then vs[j - k]? else cs[j]?:=by
 unfold bS;rw[List.append_assoc];by_cases h1:j<k
 ·rw[List.getElem?_append_left (by simp; omega),List.getElem?_take_of_lt h1,if_pos h1]
 ·rw[List.getElem?_append_right (by simp; omega),if_neg h1];simp only[List.length_take,Nat.min_eq_left aE];by_cases af:j<k+vs.length
  ·rw[List.getElem?_append_left (by omega),if_pos af]
  ·rw[List.getElem?_append_right (by omega),if_neg af,List.getElem?_drop];congr 1; omega
theorem vM (rel:b5 R B w h μ) {b sz k:Nat} {cs cvs:List ae} {m:M} {vs:List Value} (ai:h.f b=.cells sz cs) (hm:μ b=some m) (aE:k<=sz)
  (aq:vs.length=cvs.length) (dF:m.s+max sz (k+cvs.length)<=m.T)
  (ax:∀ (j:Nat) (c:ae),cvs[j]? = some c->∃ v:Value,vs[j]? = some v/\v.oneCell'=true/\aP w R h μ c v) :
  ∃ w',(storeCells ⟨m.r,m.s+k,none⟩ vs).run P w=.ok () w'/\dk w h μ w' (h.set b (.cells (max sz (k+cvs.length)) (bS cs k cvs))) μ ∧
   b5 R B w' (h.set b (.cells (max sz (k+cvs.length)) (bS cs k cvs))) μ:=by
 have dZ:=rel.blk b m hm;rw[ai] at dZ;obtain⟨bz,d9,arr,t,fe,aC,aG,kn,ak⟩:=dZ;have h1:∀ v∈vs,v.oneCell'=true:=by
  intro v kT;obtain⟨j,am,rfl⟩:=List.getElem_of_mem kT;obtain⟨v,bn,bA,_⟩:=ax j (cvs[j]'(by omega)) (by simp);rw[List.getElem?_eq_getElem am] at bn;cases bn;exact bA
 have g8:=Z2 P m.r (m.s+k) t fe vs 0 arr w aC (by rw[aG]; exact kn.imp id Nat.le_of_lt) (by omega) h1;simp only[Nat.add_zero] at g8;have n0:(arr.toList.take (m.s+k)++vs++arr.toList.drop (m.s+k+vs.length)).toArray.size=arr.size:=by
  simp only[List.size_toArray,List.length_append,List.length_take,List.length_drop,Array.length_toList];omega
 have er:=rel.write (w':=w.setRow m.r (arr.toList.take (m.s+k)++vs++arr.toList.drop (m.s+k+vs.length)).toArray) (cs':=bS cs k cvs) (sz':=max sz (k+cvs.length)) ai hm aC aG kn
  rfl rfl rfl (by simp[World.setRow]) (setRow_heap w m.r arr _ t fe aC) (fun k' eb=>setRow_other w m.r k' _ eb) n0
  (by rw[qC (by omega),bz]) (by omega) (by omega) (fun j c am=>?_)
 ·exact⟨_,g8,er.1,er.2⟩
 ·rw[M2 (by omega)] at am;simp only[List.getElem?_toArray];rw[List.append_assoc];split at am
  ·rename_i aN;obtain⟨v,bn,bA,a3⟩:=ak j c am;refine⟨v,?_,bA,a3⟩;rw[List.getElem?_append_left (by simp; omega),List.getElem?_take_of_lt (by omega)];simpa using bn
  ·rename_i wQ;split at am
   ·rename_i aN;obtain⟨v,bn,bA,a3⟩:=ax _ c am;refine⟨v,?_,bA,a3⟩;have y3:min (m.s+k) arr.size=m.s+k:=by omega
    rw[List.getElem?_append_right (by simp; omega)];simp only[List.length_take,Array.length_toList,y3];rw[List.getElem?_append_left (by omega),<-bn];congr 1; omega
   ·rename_i aqk;obtain⟨v,bn,bA,a3⟩:=ak j c am;refine⟨v,?_,bA,a3⟩;have y3:min (m.s+k) arr.size=m.s+k:=by omega
    rw[List.getElem?_append_right (by simp; omega)];simp only[List.length_take,Array.length_toList,y3];rw[List.getElem?_append_right (by omega),List.getElem?_drop];have:(m.s+k+vs.length+(m.s+j - (m.s+k) - vs.length))=m.s+j:=by omega
    rw[this];simpa using bn
theorem amb (rel:b5 R B w h μ) {t:TypeId} {p v:ae} {tC nk:Value} {h' : aM} (ar:xI P h t p v=some h') (aF:aP w R h μ p tC) (ax:aP w R h μ v nk) :
  ∃ w',(Instr.storeAt t tC nk).run P w=.ok () w'/\dk w h μ w' h' μ/\b5 R B w' h' μ:=by
 unfold xI at ar;split at ar
 ·rename_i b off sz vs n h4 aI;obtain⟨gH,kZ⟩:=A6 ax h4;cases ai:h.f b with
  | cells m cs=>
   rw[ai] at ar;simp only at ar;split at ar
   ·rename_i ii;obtain⟨rfl,bz,dF⟩:=ii;simp only[Option.some.injEq] at ar;subst ar;cases aF with
    | ptr bo C7 sz' cs' cf bL hm=>
     have dZ:=rel.blk b cf hm;rw[ai] at dZ;have d9:=dZ.2.1;obtain⟨w',h1,af,ap⟩:=vM (P:=P) rel (cvs:=vs) (vs:=nk.cells.toList) (k:=off) ai hm (by omega) (by simpa using gH) (by omega)
      (fun j c am=>by obtain⟨u,bn,bA,a3⟩:=kZ j c am; exact⟨u,by simpa using bn,bA,a3⟩)
     have kS:max m (off+vs.length)=m:=by omega
     rw[kS] at af ap;refine⟨w',?_,af,ap⟩;have b0:¬ (nk.cells.size≠n) :=by omega
     simp[Instr.storeAt,Instr.sureAddr,storeVar,e4 aI,b0,h1]
    | k3 bo C7 sz' a az=>
     rcases az with az | ⟨ga,cs',az,aN⟩
     ·rw[az] at ai; cases ai
     ·rw[az] at ai; cases ai; omega
   ·cases ar
  | _=>rw[ai] at ar; cases ar
 ·cases ar
theorem AM (rel:b5 R B w h μ) {cs:List ae} {vs:Array Value} (t:TypeId) (aq:vs.size=cs.length)
  (ax:∀ (j:Nat) (c:ae),cs[j]? = some c->∃ v:Value,vs[j]? = some v/\v.oneCell'=true/\aP w R h μ c v) :
  let h':=h.push (.cells cs.length cs)
  let μ':=bO μ h.n (some ⟨w.heap.size,0,vs.size⟩)
  let w':=w.alloc (.cells vs t)
  dk w h μ w' h' μ'/\b5 R B w' h' μ'/\∀ off,aP w' R h' μ' (.ptr h.n off cs.length) (.pointer (some ⟨w.heap.size,off,none⟩)) :=by
 intro h' μ' w';have:=rel.push (w':=w') cs vs t rfl rfl rfl rfl (by omega) ax;refine⟨this.1,this.2,fun off=>?_⟩;have aF:=aP.ptr (w:=w') (R:=R) (h:=h') (μ:=μ') h.n off cs.length cs ⟨w.heap.size,0,vs.size⟩ (by simp[h',dJ,eK]) (by simp[μ']);simpa using aF
theorem abm {t:TypeId} {z:List ae} (aB:gK P t=some z) :∃ i v,P.info? t=some i/\i.zero=some v/\v.cells.size=z.length ∧
  ∀ (j:Nat) (c:ae),z[j]? = some c->∃ u:Value,v.cells[j]? = some u/\u.oneCell'=true/\aP w R h μ c u:=by
 obtain⟨i,v,aA,ax,h1,rfl⟩:=anK aB;refine⟨i,v,aA,ax,by simp,fun j c am=>?_⟩;rw[List.getElem?_map] at am;cases aL:v.cells[j]? with
 | none=>simp[aL] at am
 | some u=>
  simp[aL] at am;subst am;rw[List.all_eq_true] at h1;exact⟨u,rfl,h1 u (by have:=Array.mem_of_getElem? aL; simpa using this),aP.m6 u⟩
theorem Q3 {x:ae} {bK:Value} {k:Nat} {c:ae} (ak:lV x k=some c) (aj:aP w R h μ x bK) :
  ∃ a,bK=.pointer (some a)/\aP w R h μ c (.pointer (some (a.add k))) :=by
 cases aj with
 | ptr b off sz cs m ai hm=>
  simp only[lV,Option.some.injEq] at ak; subst ak;refine⟨_,rfl,?_⟩;rw[Addr.kF,Nat.add_assoc];exact .ptr b _ sz cs m ai hm
 | k3 b off sz a az=>
  simp only[lV,Option.some.injEq] at ak; subst ak;exact⟨a,rfl,.k3 _ _ _ _ az⟩
 | cn cs off blk o dK ez ax=>
  simp only[lV,Option.some.injEq] at ak; subst ak;refine⟨_,rfl,?_⟩;rw[Addr.kF,Nat.add_assoc];exact .cn cs _ blk o dK ez ax
 | _=>simp[lV] at ak
theorem RP {s:TypeId} {f:Nat} {fd:Field} (aJ:uv P s f=some fd) :∃ fs,P.underlying s=some (.struct fs)/\fs[f]? = some fd:=by
 unfold uv at aJ;split at aJ
 ·rename_i fs aL; exact⟨fs,aL,aJ⟩
 ·cases aJ
theorem aec {s:TypeId} {x c:ae} {bK:Value} {f:Nat} (ak:Bn P s x f=some c) (aj:aP w R h μ x bK) :
  ∃ v,(Instr.fieldAt s bK f).run P w=.ok v w/\aP w R h μ c v:=by
 unfold Bn at ak;split at ak
 ·rename_i fd aJ;obtain⟨fs,aL,oM⟩:=RP aJ;split at ak
  ·rename_i n aI;obtain⟨a,rfl,ax⟩:=Q3 ak aj;refine⟨_,?_,ax⟩;simp[Instr.fieldAt,cu aL,oM,Instr.sureAddr,fieldPlace,e4 aI]
  ·cases ak
 ·cases ak
theorem pC {x:ae} {bK:Value} {n:Int} (aA:asInt x=some n) (aj:aP w R h μ x bK) :∃ k,bK=.int k n:=by
 cases aj<;>simp[asInt] at aA;subst aA;exact⟨_,rfl⟩
theorem ahO {t:TypeId} {x hf c:ae} {bK zt:Value} (ak:zp P t x hf=some c) (aj:aP w R h μ x bK) (aA:aP w R h μ hf zt) :
  ∃ v,(Instr.indexAt t bK zt).run P w=.ok v w/\aP w R h μ c v:=by
 unfold zp at ak;split at ak
 ·rename_i len e i aL fS;obtain⟨k,rfl⟩:=pC fS aA;cases aB:cv P e with
  | none=>rw[aB] at ak; cases ak
  | some z=>
   rw[aB] at ak;simp only at ak;split at ak
   ·rename_i ai;obtain⟨a,rfl,ax⟩:=Q3 ak aj;refine⟨_,?_,ax⟩;simp[Instr.indexAt,asIntOf,cu aL,Instr.sureAddr,ai,e4 aB]
   ·cases ak
 ·rename_i e i aL fS;obtain⟨k,rfl⟩:=pC fS aA;split at ak
  ·rename_i z db b off len cap sz aB;split at ak
   ·rename_i ai;obtain⟨rfl,ai⟩:=ai;simp only[Option.some.injEq] at ak; subst ak;cases aj with
    | ao _ _ _ _ _ _ cap' cs m bL hm aq ay c4=>
     refine⟨_,?_,aP.ptr b (off+i.toNat*z) sz cs m bL hm⟩;simp[Instr.indexAt,asIntOf,cu aL,ai,e4 aB,Addr.kF,Nat.add_assoc]
    | gS=>simp at ai; omega
    | fA _ _ _ _ _ _ cap' a aq c4 az=>
     refine⟨_,?_,aP.k3 b _ sz (a.add (i.toNat*z)) az⟩;simp[Instr.indexAt,asIntOf,cu aL,ai,e4 aB]
   ·cases ak
  ·rename_i z db es aB;split at ak
   ·rename_i ai;obtain⟨rfl,ai⟩:=ai;cases aw:es[i.toNat]? with
    | none=>rw[aw] at ak; cases ak
    | some eH=>
     rw[aw] at ak;simp only[Option.map_some,Option.some.injEq] at ak; subst ak;have aN:i.toNat<es.length:=(List.getElem?_eq_some_iff.1 aw).1;have d2:(0<=i/\i<(es.length:Int)) :=by omega
     cases aj with
     | b6 _ _ blk off cap dK aq zm kP ax=>
      have afQ:eH.length=z:=zm _ (List.mem_of_getElem? aw);refine⟨_,?_,aP.cn eH 0 blk (off+i.toNat*z) (dK i.toNat) (fun j am=>?_) (ax _ _ aw)⟩
      ·simp[Instr.indexAt,asIntOf,cu aL,d2,e4 aB,Addr.kF]
      ·have:=kP i.toNat j aN (by omega)
       rwa [Nat.add_assoc]
     | eZ=>simp at aN
   ·cases ak
  ·cases ak
 ·cases ak
end
end Go.cl

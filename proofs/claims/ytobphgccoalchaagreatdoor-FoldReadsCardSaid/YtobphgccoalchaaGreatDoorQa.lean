/-
  The canonical machine, part A: its values, blocks, heap, and what one operation does.
-/
import Derived.WalkKit
import Derived.Below
import Derived.Laws.AppendOwn
import Derived.Laws.CopyRow
import Derived.Laws.IdiomCopy
import Derived.Laws.StructEq
set_option linter.unusedVariables false
set_option linter.unusedSimpArgs false
set_option linter.unnecessarySimpa false
namespace Go.b2
abbrev atq:=@List.getElem?_eq_some_iff
abbrev atr:=@List.take_of_length_le
abbrev ats:=@List.getElem?_append_left
abbrev att:=@Nat.le_refl
abbrev atu:=@List.getElem?_eq_getElem
abbrev atv:=@Bool.and_eq_true
abbrev atw:=@List.getElem?_map
abbrev atx:=@List.mem_iff_getElem?
abbrev aty:=@Nat.mul_le_mul_right
abbrev atz:=@List.mem_of_getElem?
abbrev atA:=@Option.map_some
abbrev atB:=@List.length_append
abbrev atC:=@List.getElem?_append_right
abbrev atD:=@Nat.mod_eq_of_lt
abbrev atE:=@List.getD_eq_getElem?_getD
abbrev atF:=@List.getElem?_set_ne
abbrev atG:=@List.getElem?_eq_none
abbrev atH:=@BitVec.eq_of_toNat_eq
abbrev atI:=@BitVec.toNat_setWidth
abbrev atJ:=@List.take_add_one
abbrev atK:=@BitVec.toNat_ofNat
abbrev atL:=@List.length_cons
abbrev atM:=@List.mem_singleton
abbrev atN:=@List.length_take
abbrev atO:=@List.getElem?_set_self
abbrev atP:=@List.getElem?_take_of_lt
abbrev atQ:=@List.mem_append
abbrev atR:=@Nat.shiftRight_eq_div_pow
abbrev atS:=@List.take_append_of_le_length
abbrev atT:=@List.getElem?_cons_zero
abbrev atU:=@List.length_map
abbrev atV:=@List.mem_map
abbrev atW:=@List.take_length
abbrev atX:=@List.map_append
abbrev atY:=@List.map_cons
abbrev atZ:=@List.append_nil
abbrev at0:=@List.mem_of_mem_take
abbrev at1:=@List.append_assoc
abbrev at2:=@Array.getElem?_eq_some_iff
abbrev at3:=@List.getElem?_range
abbrev at4:=@List.mem_range
abbrev at5:=@List.getElem?_cons_succ
abbrev at6:=@List.getElem?_drop
abbrev at7:=@List.length_nil
abbrev at8:=@List.set_append_right
abbrev at9:=@List.drop_eq_nil_of_le
abbrev aua:=@Nat.succ_mul
abbrev aub:=@List.mem_cons
abbrev auc:=@List.take_append_drop
abbrev aud:=@Option.getD_some
abbrev aue:=@List.all_eq_true
abbrev auf:=@BitVec.toNat_ushiftRight
abbrev aug:=@List.length_eq_zero_iff
abbrev auh:=@Nat.add_mul
abbrev aui:=@List.pairwise_iff_getElem
abbrev auj:=@Nat.eq_of_beq_eq_true
abbrev auk:=@List.ext_getElem?
abbrev aul:=@List.flatten_append
abbrev aum:=@List.drop_append_of_le_length
abbrev aun:=@Array.getD_eq_getD_getElem?
abbrev auo:=@List.drop_eq_getElem_cons
abbrev aup:=@List.flatten_cons
abbrev auq:=@Int.toNat_natCast
abbrev aur:=@Nat.le_of_ble_eq_true
abbrev aus:=@List.replicate_succ
abbrev aut:=@Array.getElem?_append_left
abbrev auu:=@Bool.true_and
abbrev auv:=@List.drop_zero
abbrev auw:=@List.length_drop
abbrev aux:=@List.map_eq_nil_iff
abbrev auy:=@Nat.zero_le
abbrev auz:=@Nat.lt_trichotomy
abbrev auA:=@Nat.lt_or_ge
abbrev auB:=@List.nil_append
abbrev auC:=@BitVec.toNat_umod
abbrev auD:=@List.nodup_append
abbrev auE:=@List.take_zero
abbrev auF:=@Nat.zero_add
abbrev auG:=@Array.getElem?_setIfInBounds
abbrev auH:=@List.eq_of_mem_replicate
abbrev auI:=@List.mem_filter
abbrev auJ:=@Nat.min_eq_left
abbrev auK:=@List.range_succ
abbrev auL:=@Bool.false_eq_true
abbrev auM:=@List.cons_append
abbrev auN:=@List.drop_of_length_le
abbrev auO:=@List.take_take
abbrev auP:=@Bool.not_eq_true'
abbrev auQ:=@List.getElem?_set
abbrev auR:=@List.flatMap_append
abbrev auS:=@List.mem_map_of_mem
abbrev auT:=@Array.getElem?_eq_getElem
abbrev auU:=@List.mem_or_eq_of_mem_set
abbrev auV:=@Nat.le_trans
abbrev auW:=@Nat.mul_one
abbrev auX:=@BitVec.ofInt_natCast
abbrev auY:=@Int.eq_ofNat_of_zero_le
abbrev auZ:=@BitVec.toNat_udiv
abbrev au0:=@List.map_congr_left
abbrev au1:=@List.takeWhile_cons
abbrev au2:=@Array.getElem?_eq_none
abbrev au3:=@List.set_eq_take_append_cons_drop
abbrev au4:=@Nat.add_assoc
abbrev au5:=@Option.bind_some
abbrev au6:=@Nat.shiftLeft_eq
abbrev au7:=@List.mapM_cons
abbrev au8:=@Bool.false_and
abbrev au9:=@Array.getElem?_toList
abbrev ava:=@Option.pure_def
abbrev avb:=@Bool.eq_false_iff
abbrev avc:=@List.mem_of_mem_drop
abbrev avd:=@List.getElem?_of_mem
abbrev ave:=@Nat.mod_lt
abbrev avf:=@BitVec.toNat_mul
abbrev avg:=@List.take_append
abbrev avh:=@Array.length_toList
abbrev avi:=@Bool.and_self
abbrev avj:=@List.sum_cons
abbrev avk:=@Option.isSome_none
abbrev avl:=@Array.eq_empty_of_size_eq_zero
abbrev avm:=@Bool.or_eq_true
abbrev avn:=@List.set_cons_zero
abbrev avo:=@List.set_cons_succ
abbrev avp:=@Nat.add_sub_cancel
abbrev avq:=@List.pairwise_cons
abbrev avr:=@BitVec.toNat_shiftLeft
abbrev avs:=@List.count_append
abbrev avt:=@Nat.sub_self
abbrev avu:=@Array.getElem?_modify
abbrev avv:=@Nat.le_of_lt
abbrev avw:=@List.map_map
abbrev avx:=@Array.getElem?_append_right
abbrev avy:=@List.getElem_mem
abbrev avz:=@List.pairwise_append
abbrev avA:=@List.count_singleton
abbrev avB:=@List.mem_append_left
abbrev avC:=@List.filter_sublist
abbrev avD:=@List.getElem?_eq_none_iff
abbrev avE:=@List.length_set
abbrev avF:=@List.nodup_cons
abbrev avG:=@Nat.zero_mul
abbrev avH:=@Array.append_assoc
abbrev avI:=@Array.getElem?_map
abbrev avJ:=@Nat.lt_of_lt_of_le
abbrev avK:=@List.getElem?_take
abbrev avL:=@Nat.lt_of_le_of_ne
abbrev avM:=@List.drop_take
abbrev avN:=@List.foldl_append
abbrev avO:=@List.take_sublist
abbrev avP:=@Option.map_eq_some_iff
abbrev avQ:=@Nat.one_mul
abbrev avR:=@Nat.mul_mod
abbrev avS:=@Nat.max_eq_right
abbrev avT:=@BitVec.toNat_and
abbrev avU:=@Bool.not_eq_true
abbrev avV:=@List.getElem?_toArray
abbrev avW:=@List.length_filter_le
abbrev avX:=@List.takeWhile_prefix
abbrev avY:=@Nat.add_zero
abbrev avZ:=@List.find?_cons
abbrev av0:=@List.mem_cons_of_mem
abbrev av1:=@Nat.sub_zero
abbrev av2:=@Nat.and_two_pow_sub_one_eq_mod
abbrev av3:=@Nat.shiftLeft_add_eq_or_of_lt
abbrev av4:=@List.drop_succ_cons
abbrev av5:=@List.drop_drop
abbrev av6:=@Nat.pow_add
abbrev av7:=@Nat.pow_mod
abbrev av8:=@List.count_pos_iff
abbrev av9:=@Nat.eq_or_lt_of_le
abbrev awa:=@List.mem_cons_self
abbrev awb:=@Bool.true_eq_false
abbrev awc:=@List.map_replicate
abbrev awd:=@List.getElem?_concat_length
abbrev awe:=@Bool.false_or
abbrev awf:=@Array.size_append
abbrev awg:=@List.size_toArray
abbrev awh:=@List.mem_of_find?_eq_some
abbrev awi:=@Option.isNone_iff_eq_none
abbrev awj:=@Nat.beq_refl
abbrev awk:=@Option.isSome_iff_exists
abbrev awl:=@List.map_nil
abbrev awm:=@List.mem_flatMap
abbrev awn:=@Nat.mul_comm
abbrev awo:=@BitVec.toNat_add
abbrev awp:=@Nat.div_eq_of_lt
abbrev awq:=@BitVec.toNat_not
abbrev awr:=@List.length_erase_of_mem
abbrev aws:=@List.nodup_range
abbrev awt:=@List.isEmpty_iff
abbrev awu:=@Nat.le_of_not_lt
abbrev awv:=@List.le_antisymm
abbrev aww:=@List.prefix_iff_eq_take
abbrev awx:=@List.pairwise_mergeSort
abbrev awy:=@List.foldl_cons
abbrev awz:=@Nat.max_eq_left
abbrev awA:=@Nat.min_def
abbrev awB:=@List.not_lt
abbrev awC:=@List.nodup_nil
abbrev awD:=@List.lt_irrefl
abbrev awE:=@Nat.blt_eq
abbrev awF:=@List.all_cons
abbrev awG:=@List.map_take
open Go
inductive U where
 | bool (b:Bool)
 | int (k:IntKind) (n:Int)
 | str (s:List UInt8)
 | i8 | a1 | hA | i6 | i7
 | aM (cs:List U)
 | bG (vs:List U)
 | ptr (b off sz:Nat)
 | b6 (cs:List U) (off:Nat)
 | au (z b off len cap sz:Nat)
 | bD (z:Nat) (es:List (List U))
 | fn (f:FuncId) (first fI:List U)
 | mp (b:Nat)
 | it (b:Nat)
 | gA (t:TypeId) (v:U)
 | lW (l:Nat)
 | bad
 deriving Inhabited
inductive a2 where
 | none
 | dead
 | cells (sz:Nat) (cs:List U)
 | map (es:List (U × U × Nat)) (aoj:Nat)
 | iter (s:List UInt8) (pos:Nat)
 deriving Inhabited
inductive cA (α:Type) where
 | nil
 | node (l:cA α) (v:Option α) (r:cA α)
def cA.get {α:Type}:cA α->Nat->Option α
 | .nil,_=>none
 | .node l v r,n=>match Nat.beq n 0 with
  | true=>v
  | false=>match Nat.beq (n % 2) 1 with
   | true=>l.get (n / 2)
   | false=>r.get (n / 2 - 1)
def cA.kp {α:Type}:Nat->cA α->Nat->α->cA α
 | 0,t,_,_=>t
 | k+1,.nil,n,x=>match Nat.beq n 0 with
  | true=>.node .nil (some x) .nil
  | false=>match Nat.beq (n % 2) 1 with
   | true=>.node (cA.kp k .nil (n / 2) x) none .nil
   | false=>.node .nil none (cA.kp k .nil (n / 2 - 1) x)
 | k+1,.node l v r,n,x=>match Nat.beq n 0 with
  | true=>.node l (some x) r
  | false=>match Nat.beq (n % 2) 1 with
   | true=>.node (cA.kp k l (n / 2) x) v r
   | false=>.node l v (cA.kp k r (n / 2 - 1) x)
def cA.set {α:Type} (t:cA α) (n:Nat) (x:α) :cA α:=t.kp (n+1) n x
theorem jt {a b:Nat} (h:¬ a=b) :Nat.beq a b=false:=by
 cases ag:Nat.beq a b with
 | false=>rfl
 | true=>exact absurd (auj ag) h
theorem sO {a b:Nat} (h:a=b) :Nat.beq a b=true:=by subst h; exact awj a
theorem cA.B6 {α:Type}:∀ (k:Nat) (t:cA α) (n:Nat) (x:α) (m:Nat),n<k->(t.kp k n x).get m=if m=n then some x else t.get m
 | 0,_,_,_,_,h=>by omega
 | k+1,.nil,n,x,m,h=>by
  unfold cA.kp;by_cases aE:n=0
  ·subst aE;simp only;unfold cA.get;by_cases hm:m=0
   ·subst hm; simp
   ·have:Nat.beq m 0=false:=jt hm;simp only[this,if_neg hm];split<;>rfl
  ·have ag:Nat.beq n 0=false:=jt aE;simp only[ag];by_cases h1:n % 2=1
   ·have fk:Nat.beq (n % 2) 1=true:=sO h1;simp only[fk];unfold cA.get;by_cases hm:m=0
    ·subst hm; simp; omega
    ·have:Nat.beq m 0=false:=jt hm;simp only[this];by_cases fD:m % 2=1
     ·have:Nat.beq (m % 2) 1=true:=sO fD;simp only[this];rw[cA.B6 k .nil (n / 2) x (m / 2) (by omega)];by_cases ao:m=n
      ·subst ao; simp
      ·rw[if_neg ao,if_neg (by omega)]; rfl
     ·have:Nat.beq (m % 2) 1=false:=jt fD;simp only[this];rw[if_neg (by intro aG; subst aG; exact fD h1)];rfl
   ·have fk:Nat.beq (n % 2) 1=false:=jt h1;simp only[fk];unfold cA.get;by_cases hm:m=0
    ·subst hm; simp; omega
    ·have:Nat.beq m 0=false:=jt hm;simp only[this];by_cases fD:m % 2=1
     ·have:Nat.beq (m % 2) 1=true:=sO fD;simp only[this];rw[if_neg (by intro aG; subst aG; exact h1 fD)];rfl
     ·have:Nat.beq (m % 2) 1=false:=jt fD;simp only[this];rw[cA.B6 k .nil (n / 2 - 1) x (m / 2 - 1) (by omega)];by_cases ao:m=n
      ·subst ao; simp
      ·rw[if_neg ao,if_neg (by omega)]; rfl
 | k+1,.node l v r,n,x,m,h=>by
  unfold cA.kp;by_cases aE:n=0
  ·subst aE;simp only;unfold cA.get;by_cases hm:m=0
   ·subst hm; simp
   ·have:Nat.beq m 0=false:=jt hm;simp only[this,if_neg hm]
  ·have ag:Nat.beq n 0=false:=jt aE;simp only[ag];by_cases h1:n % 2=1
   ·have fk:Nat.beq (n % 2) 1=true:=sO h1;simp only[fk];unfold cA.get;by_cases hm:m=0
    ·subst hm; simp; omega
    ·have:Nat.beq m 0=false:=jt hm;simp only[this];by_cases fD:m % 2=1
     ·have:Nat.beq (m % 2) 1=true:=sO fD;simp only[this];rw[cA.B6 k l (n / 2) x (m / 2) (by omega)];by_cases ao:m=n
      ·subst ao; simp
      ·rw[if_neg ao,if_neg (by omega)]
     ·have:Nat.beq (m % 2) 1=false:=jt fD;simp only[this];rw[if_neg (by intro aG; subst aG; exact fD h1)]
   ·have fk:Nat.beq (n % 2) 1=false:=jt h1;simp only[fk];unfold cA.get;by_cases hm:m=0
    ·subst hm; simp; omega
    ·have:Nat.beq m 0=false:=jt hm;simp only[this];by_cases fD:m % 2=1
     ·have:Nat.beq (m % 2) 1=true:=sO fD;simp only[this];rw[if_neg (by intro aG; subst aG; exact h1 fD)]
     ·have:Nat.beq (m % 2) 1=false:=jt fD;simp only[this];rw[cA.B6 k r (n / 2 - 1) x (m / 2 - 1) (by omega)];by_cases ao:m=n
      ·subst ao; simp
      ·rw[if_neg ao,if_neg (by omega)]
theorem cA.E7 {α:Type} (t:cA α) (n:Nat) (x:α) (m:Nat) :(t.set n x).get m=if m=n then some x else t.get m:=cA.B6 _ _ _ _ _ (by omega)
structure aN where
 n:Nat
 t:cA a2
def aN.f (h:aN) (b:Nat) :a2:=match h.t.get b with | some c=>c | none=>.none
def aN.empty:aN:=⟨0,.nil⟩
def bL {α:Type} (f:Nat->α) (i:Nat) (v:α) :Nat->α:=fun j=>if j=i then v else f j
def aN.push (h:aN) (c:a2) :aN:=⟨h.n+1,h.t.set h.n c⟩
def aN.set (h:aN) (b:Nat) (c:a2) :aN:=⟨h.n,h.t.set b c⟩
theorem ff (h:aN) (c:a2) :(h.push c).n=h.n+1:=rfl
theorem eL (h:aN) (b:Nat) (c:a2) :(h.set b c).n=h.n:=rfl
theorem eb (h:aN) (c:a2) :(h.push c).f=bL h.f h.n c:=by
 funext b;simp only[aN.f,aN.push,bL,cA.E7];by_cases ag:b=h.n
 ·simp[ag]
 ·simp[ag]
theorem dI (h:aN) (b:Nat) (c:a2) :(h.set b c).f=bL h.f b c:=by
 funext bi;simp only[aN.f,aN.set,bL,cA.E7];by_cases ag:bi=b
 ·simp[ag]
 ·simp[ag]
theorem EO (b:Nat) :aN.empty.f b=.none:=rfl
@[simp] theorem jK {α:Type} (f:Nat->α) (i:Nat) (v:α) :bL f i v i=v:=by simp[bL]
theorem cb {α:Type} (f:Nat->α) (i j:Nat) (v:α) (h:j≠i) :bL f i v j=f j:=by simp[bL,h]
def U.one:U->Bool
 | .aM _ | .bG _ | .bad=>false
 | _=>true
def U.cells:U->Option (List U)
 | .aM cs=>some cs
 | .bG _ | .bad=>none
 | v=>some [v]
def o4:Value->U
 | .bool b=>.bool b
 | .int k n=>.int k n
 | .string s=>.str s.data.toList
 | .pointer a=>match a with | none=>.i8 | some _=>.bad
 | .slice a l c=>match a,l,c with | none,0,0=>.a1 | _,_,_=>.bad
 | .map r=>match r with | none=>.hA | some _=>.bad
 | .nilFunc=>.i6
 | .nilIface=>.i7
 | .func fn first fI=>match fn,first.toList,fI.toList with | .func f,[],[]=>.fn f [] [] | _,_,_=>.bad
 | _=>.bad
def wr:Value->U
 | .agg cs=>if cs.toList.all Value.oneCell' then .aM (cs.toList.map o4) else .bad
 | .tuple vs=>.bG (vs.toList.map o4)
 | v=>o4 v
def cR (G:Nat->U) (ae:Nat->U) :Operand->U
 | .tmp t=>ae t
 | .const v=>wr v
 | .func f=>.fn f [] []
 | .global g=>G g
def dW (P:Program) (t:TypeId) :Option Bool:=(P.underlying t).map fun d=>match d with | .struct _ | .array _ _=>true | _=>false
def cv (P:Program) (t:TypeId) :Option Nat:=(P.info? t).map (·.size)
def jc (P:Program) (t:TypeId) :Option Nat:=(P.info? t).map (·.bytes)
def hs (P:Program) (t:TypeId) :Option (List U) :=((P.info? t).bind (·.zero)).bind fun v=>if v.cells.toList.all Value.oneCell' then some (v.cells.toList.map o4) else none
def io (P:Program) (t:TypeId) :Option TypeId:=match P.underlying t with | some (.slice e)=>some e | _=>none
def hC (P:Program) (t:TypeId) (cs:List U) (off:Nat) :Option U:=
 match dW P t,cv P t with
 | some true,some n=>if off+n<=cs.length then some (.aM ((cs.drop off).take n)) else none
 | some false,_=>cs[off]?
 | _,_=>none
def reach (h:aN) :U->Option (List U × Nat)
 | .ptr b off sz=>match h.f b with
  | .cells n cs=>if n=sz then some (cs,off) else none
  | _=>none
 | .b6 cs off=>some (cs,off)
 | _=>none
def sK (P:Program) (h:aN) (t:TypeId) (p:U) :Option U:=
 match reach h p with
 | some (cs,off)=>hC P t cs off
 | none=>none
def bz (cs:List U) (off:Nat) (vs:List U) :List U:=cs.take off++vs++cs.drop (off+vs.length)
def AR (P:Program) (h:aN) (t:TypeId) (p v:U) :Option aN:=
 match p,v.cells,cv P t with
 | .ptr b off sz,some vs,some n=>match h.f b with
  | .cells m cs=>if m=sz/\vs.length=n/\off+n<=m then some (h.set b (.cells m (bz cs off vs))) else none
  | _=>none
 | _,_,_=>none
def asInt:U->Option Int
 | .int _ n=>some n
 | _=>none
def xm (P:Program) (s:TypeId) (f:Nat) :Option Field:=match P.underlying s with | some (.struct fs)=>fs[f]? | _=>none
def mT:U->Nat->Option U
 | .ptr b off sz,k=>some (.ptr b (off+k) sz)
 | .b6 cs off,k=>some (.b6 cs (off+k))
 | _,_=>none
def EU (P:Program) (s:TypeId) (x:U) (f:Nat) :Option U:=
 match xm P s f with
 | some fd=>match cv P fd.type with
  | some (_+1)=>mT x fd.offset
  | _=>none
 | none=>none
def C2 (P:Program) (t:TypeId) (x gd:U) :Option U:=
 match P.underlying t,asInt gd with
 | some (.array len e),some i=>match cv P e with
  | some z=>if 0<=i/\i<len then mT x (i.toNat*z) else none
  | none=>none
 | some (.slice e),some i=>match cv P e,x with
  | some z,.au dm b off len _ sz=>if z=dm/\0<=i/\i<len then some (.ptr b (off+i.toNat*z) sz) else none
  | some z,.bD dm es=>if z=dm/\0<=i then (es[i.toNat]?).map fun cs=>.b6 cs 0 else none
  | _,_=>none
 | _,_=>none
def hl (kO:Nat->Option (Nat × Nat)) (cells:List U) :List (Nat × U)->Option (List U)
 | []=>some cells
 | (i,v) ::rest=>match kO i,v.cells with
  | some (off,size),some vs=>if vs.length=size/\off+size<=cells.length then hl kO (bz cells off vs) rest else none
  | _,_=>none
def DA (P:Program) (fs:Array Field) (i:Nat) :Option (Nat × Nat) :=(fs[i]?).bind fun f=>(cv P f.type).map fun n=>(f.offset,n)
def Bw (P:Program) (t:TypeId) (parts:List (Nat × U)) :Option U:=
 match hs P t,P.underlying t with
 | some zero,some (.struct fs)=>if !(fs.toList.all fun f=>(cv P f.type).isSome) then none else (hl (DA P fs) zero parts).map .aM
 | some zero,some (.array _ e)=>match cv P e with
  | some n=>(hl (fun i=>some (i*n,n)) zero parts).map .aM
  | none=>none
 | _,_=>none
def dk (zero:List U) :Nat->List U
 | 0=>[]
 | n+1=>zero++dk zero n
def Eu (P:Program) (h:aN) (t:TypeId) (len:Nat) (parts:List (Nat × U)) :Option (U × aN) :=
 match io P t with
 | some e=>match cv P e,hs P e with
  | some z,some zero=>if zero.length=z/\len*z<=16777216 then
    (hl (fun i=>some (i*z,z)) (dk zero len) parts).map fun cs=>(.au z h.n 0 len len (len*z),h.push (.cells (len*z) cs))
   else none
  | _,_=>none
 | none=>none
def cm (op:BinOp) (k:IntKind) (a:Int) (k' : IntKind) (b:Int) :Option U:=
 match op with
 | .shl=>if b<0 then none else some (.int k (k.wrap (a*2 ^ min b.toNat k.bits)))
 | .shr=>if b<0 then none else some (.int k (a.fdiv (2 ^ min b.toNat k.bits)))
 | .add=>if k=k' then some (.int k (k.wrap (a+b))) else none
 | .sub=>if k=k' then some (.int k (k.wrap (a - b))) else none
 | .mul=>if k=k' then some (.int k (k.wrap (a*b))) else none
 | .quo=>if k=k'/\b≠0 then some (.int k (k.wrap (a.tdiv b))) else none
 | .rem=>if k=k'/\b≠0 then some (.int k (a.tmod b)) else none
 | .and=>if k=k' then some (.int k (k.wrap (BitVec.ofInt k.bits a &&& BitVec.ofInt k.bits b).toNat)) else none
 | .or=>if k=k' then some (.int k (k.wrap (BitVec.ofInt k.bits a ||| BitVec.ofInt k.bits b).toNat)) else none
 | .xor=>if k=k' then some (.int k (k.wrap (BitVec.ofInt k.bits a ^^^ BitVec.ofInt k.bits b).toNat)) else none
 | .andNot=>if k=k' then some (.int k (k.wrap (BitVec.ofInt k.bits a &&& ~~~BitVec.ofInt k.bits b).toNat)) else none
 | .eql=>if k=k' then some (.bool (a == b)) else none
 | .neq=>if k=k' then some (.bool (a != b)) else none
 | .lss=>if k=k' then some (.bool (decide (a<b))) else none
 | .leq=>if k=k' then some (.bool (decide (a<=b))) else none
 | .gtr=>if k=k' then some (.bool (decide (a > b))) else none
 | .geq=>if k=k' then some (.bool (decide (a ≥ b))) else none
def pu (op:BinOp) (a b:List UInt8) :Option U:=
 match op with
 | .eql=>some (.bool (a == b))
 | .neq=>some (.bool (!(a == b)))
 | .lss=>some (.bool (Op.bytesLess a b))
 | .leq=>some (.bool (Op.bytesLess a b||a == b))
 | .gtr=>some (.bool (!(Op.bytesLess a b||a == b)))
 | .geq=>some (.bool (!Op.bytesLess a b))
 | .add=>if a.length+b.length<=9223372036854775807 then some (.str (a++b)) else none
 | _=>none
def ez (P:Program) :Nat->TypeId->U->U->Option Bool
 | 0,_,_,_=>none
 | d+1,t,x,y=>
  match P.underlying t,x,y with
  | some .bool,.bool a,.bool b=>some (a == b)
  | some (.int _),.int k a,.int k' b=>if k=k' then some (a == b) else none
  | some .string,.str a,.str b=>some (a == b)
  | some (.struct fs),.aM xs,.aM a6=>if P.stoodInHeld t then none else eqFields P (ez P d) xs a6 fs.toList
  | some (.array n e),.aM xs,.aM a6=>match cv P e with
   | some z=>r6 P (ez P d) e z xs a6 n 0
   | none=>none
  | some (.slice _),.a1,.a1=>some true
  | some (.slice _),.a1,.au .. | some (.slice _),.a1,.bD .. | some (.slice _),.au ..,.a1 | some (.slice _),.bD ..,.a1=>some false
  | _,_,_=>none
where
 eqFields (P:Program) (eq:TypeId->U->U->Option Bool) (xs a6:List U) :List Field->Option Bool
  | []=>some true
  | f::fs=>if f.name= "_" then eqFields P eq xs a6 fs else
   match hC P f.type xs f.offset,hC P f.type a6 f.offset with
   | some a,some b=>match eq f.type a b with
    | some true=>eqFields P eq xs a6 fs
    | some false=>some false
    | none=>none
   | _,_=>none
 r6 (P:Program) (eq:TypeId->U->U->Option Bool) (e:TypeId) (z:Nat) (xs a6:List U) :Nat->Nat->Option Bool
  | 0,_=>some true
  | n+1,i=>match hC P e xs (i*z),hC P e a6 (i*z) with
   | some a,some b=>match eq e a b with
    | some true=>r6 P eq e z xs a6 n (i+1)
    | some false=>some false
    | none=>none
   | _,_=>none
def xk (P:Program) (t:TypeId) :U->U->Bool
 | .aM _,.aM _=>!P.eqGuardType P.depth t
 | _,_=>true
def gi (P:Program) (op:BinOp) (t:TypeId) (x y:U) :Option U:=
 match x,y with
 | .int k a,.int k' b=>cm op k a k' b
 | .str a,.str b=>pu op a b
 | x,y=>match op with
  | .eql=>if xk P t x y then (ez P 10000 t x y).map .bool else none
  | .neq=>if xk P t x y then (ez P 10000 t x y).map fun b=>.bool (!b) else none
  | _=>none
def qs (op:UnOp) (x:U) :Option U:=
 match op,x with
 | .not,.bool b=>some (.bool (!b))
 | .neg,.int k n=>some (.int k (k.wrap (0 - n)))
 | .xor,.int k n=>some (.int k (k.wrap (BitVec.ofInt k.bits (if k.signed then -1 else k.max) ^^^ BitVec.ofInt k.bits n).toNat))
 | _,_=>none
def ly (z:Nat) :Nat->List U->List (List U)
 | 0,_=>[]
 | n+1,cs=>cs.take z::ly z n (cs.drop z)
def iO (b:UInt8) :U:=.int .u8 b.toNat
def contents (h:aN) (z:Nat) :U->Option (List U × Nat)
 | .a1=>some ([],0)
 | .bD dm es=>if z=dm then some (es.flatten,es.length) else none
 | .au dm b off len _ sz=>match h.f b with
  | .cells n cs=>if n=sz/\z=dm then some ((cs.drop off).take (len*z),len) else none
  | _=>none
 | .str s=>if z=1 then some (s.map iO,s.length) else none
 | _=>none
def ct:Nat:=140737488355328
def tf (P:Program) (t:TypeId) :Option Nat:=((P.info? t).bind (·.zero)).map (·.cells.size)
def u9 (P:Program) (h:aN) (e:TypeId) (z by_:Nat) (s:U) (xs:List U) (n:Nat) :Option (U × aN) :=
 if n=0 then (match s with | .a1 | .bD .. | .au ..=>some (s,h) | _=>none)
 else if z=0\/by_=0\/tf P e≠some z then none else match s with
  | .a1=>if n*by_<=ct then some (.au z h.n 0 n n (n*z),h.push (.cells (n*z) xs)) else none
  | .au dm b off len cap sz=>match h.f b with
   | .cells m cs=>
    if m=sz/\z=dm/\(len+n)*by_<=ct then
     if len+n<=cap then some (.au z b off (len+n) cap sz,h.set b (.cells m (bz cs (off+len*z) xs)))
     else if off+cap*z<sz then some (.au z h.n 0 (len+n) (len+n) ((len+n)*z),h.push (.cells ((len+n)*z) ((cs.drop off).take (len*z)++xs)))
     else if off=0 then some (.au z b 0 (len+n) (len+n) ((len+n)*z),h.set b (.cells ((len+n)*z) (cs.take (len*z)++xs)))
     else some (.au z h.n 0 (len+n) (len+n) ((len+n)*z),(h.set b .dead).push (.cells ((len+n)*z) ((cs.drop off).take (len*z)++xs)))
    else none
   | _=>none
  | _=>none
def rY (P:Program) (h:aN) (t:TypeId) (s x:U) :Option (U × aN) :=
 match io P t with
 | none=>none
 | some e=>match cv P e,jc P e with
  | some z,some by_=>match contents h z x with
   | none=>none
   | some (xs,n)=>u9 P h e z by_ s xs n
  | _,_=>none
def jb (x:U) (y:Nat) :Option Nat:=match x with | .int _ i=>if 0<=i/\i<=y then some i.toNat else none | _=>none
def gv (len cap:Nat) (cN av cG:Option U) :Option (Nat × Nat × Nat) :=
 match (match cG with | some v=>jb v cap | none=>some cap) with
 | none=>none
 | some m=>match (match av,cG with | some v,_=>jb v m | none,none=>some len | none,some _=>none) with
  | none=>none
  | some h=>match (match cN with | some v=>jb v h | none=>some 0) with
   | none=>none
   | some l=>some (l,h,m)
def DT (P:Program) (t:TypeId) (x:U) (cN av cG:Option U) :Option U:=
 match P.underlying t,x with
 | some (.array n e),x=>match cv P e,gv n n cN av cG with
  | some z,some (l,aG,m)=>match x with
   | .ptr b off sz=>if off+m*z<=sz then (if m=l then some (.bD z []) else some (.au z b (off+l*z) (aG - l) (m - l) sz)) else none
   | .b6 cs off=>if off+n*z<=cs.length then some (.bD z (ly z (aG - l) (cs.drop (off+l*z)))) else none
   | _=>none
  | _,_=>none
 | some (.slice e),x=>match cv P e,x with
  | some z,.au dm b off len cap sz=>if z=dm then (gv len cap cN av cG).map fun (l,aG,m)=>if m=l then .au z b (off+l*z) 0 0 sz else .au z b (off+l*z) (aG - l) (m - l) sz else none
  | some z,.bD dm es=>if z=dm then (gv es.length es.length cN av cG).map fun (l,aG,_)=>.bD z ((es.drop l).take (aG - l)) else none
  | some _,.a1=>(gv 0 0 cN av cG).map fun _=>.a1
  | _,_=>none
 | some .string,.str s=>match cG with
  | none=>(gv s.length s.length cN av none).map fun (l,aG,_)=>.str ((s.drop l).take (aG - l))
  | some _=>none
 | _,_=>none
def yk (P:Program) (t:TypeId) (x:U) :Option U:=
 match P.underlying t,x with
 | some .string,.str s=>some (.int .i64 s.length)
 | some (.array n _),_=>some (.int .i64 n)
 | some (.slice _),.a1=>some (.int .i64 0)
 | some (.slice _),.au _ _ _ len _ _=>some (.int .i64 len)
 | some (.slice _),.bD _ es=>some (.int .i64 es.length)
 | some (.map _ _),.hA=>some (.int .i64 0)
 | _,_=>none
def GN (P:Program) (h:aN) (t:TypeId) (l c:U) :Option (U × aN) :=
 match io P t,asInt l,asInt c with
 | some e,some l,some c=>match cv P e,jc P e,hs P e with
  | some z,some by_,some zero=>
   if zero.length=z/\0<=l/\l<=c/\c<9223372036854775808/\by_*c<=ct then
    some (.au z h.n 0 l.toNat c.toNat (c.toNat*z),h.push (.cells (c.toNat*z) (dk zero c.toNat)))
   else none
  | _,_,_=>none
 | _,_,_=>none
def zm (P:Program) (h:aN) (t:TypeId) (d x:U) :Option (U × aN) :=
 match io P t with
 | none=>none
 | some e=>match cv P e with
  | none=>none
  | some z=>match contents h z x with
   | none=>none
   | some (xs,n)=>match d with
    | .a1=>some (.int .i64 0,h)
    | .au dm b off len _ sz=>match h.f b with
     | .cells m cs=>if m=sz/\z=dm then some (.int .i64 ((min n len:Nat) :Int),h.set b (.cells m (bz cs off (xs.take (min n len*z))))) else none
     | _=>none
    | _=>none
def mP:List U->Option (List UInt8)
 | []=>some []
 | .int .u8 n::r=>(mP r).map (UInt8.ofNat n.toNat::·)
 | _::_=>none
def xe (P:Program) (h:aN) (src dst:TypeId) (x:U) :Option U:=
 match P.underlying src,P.underlying dst,x with
 | some _,some (.int k),.int _ n=>some (.int k (k.wrap n))
 | some _,some .string,.str s=>some (.str s)
 | some (.slice e),some .string,x=>match P.underlying e,x with
  | some (.int .u8),.a1=>some (.str [])
  | some (.int .u8),x=>match contents h 1 x,x with
   | some _,.str _=>none
   | some (cs,_),_=>(mP cs).map .str
   | none,_=>none
  | _,_=>none
 | _,_,_=>none
def zc (P:Program) (src dst:TypeId) (x:U) :Option U:=
 match P.underlying src,P.underlying dst,x with
 | some _,some (.slice e),.str s=>match P.underlying e with
  | some (.int .u8)=>some (.bD 1 (s.map fun b=>[iO b]))
  | _=>none
 | _,_,_=>none
def ze (P:Program) (t:TypeId) (x:U) :Option U:=
 match P.underlying t,x with
 | some (.array n _),_=>some (.int .i64 n)
 | some (.slice _),.a1=>some (.int .i64 0)
 | _,_=>none
def zi (P:Program) (h:aN) (t:TypeId) (x:U) :Option aN:=
 match P.underlying t,x with
 | some (.slice _),.a1=>some h
 | some (.slice _),.bD _ []=>some h
 | some (.slice e),.au z b off len _ sz=>if len=0 then some h else match hs P e,h.f b with
  | some zero,.cells m cs=>if m=sz/\zero.length=z then some (h.set b (.cells m (bz cs off (dk zero len)))) else none
  | _,_=>none
 | _,_=>none
def Am (P:Program) (t:TypeId) (x gd:U) :Option U:=
 match P.underlying t,x,asInt gd with
 | some (.array n e),.aM cs,some i=>match cv P e with
  | some z=>if 0<=i/\i<n then hC P e cs (i.toNat*z) else none
  | none=>none
 | some .string,.str s,some i=>if 0<=i then (s[i.toNat]?).map iO else none
 | _,_,_=>none
mutual
def U.beq:U->U->Bool
 | .bool a,y=>match y with | .bool b=>(match a,b with | true,true=>true | false,false=>true | _,_=>false) | _=>false
 | .int k n,y=>match y with | .int k' gY=>decide (k=k')&&decide (n=gY) | _=>false
 | .str a,y=>match y with | .str b=>decide (a=b) | _=>false
 | .i8,y=>match y with | .i8=>true | _=>false
 | .a1,y=>match y with | .a1=>true | _=>false
 | .hA,y=>match y with | .hA=>true | _=>false
 | .i6,y=>match y with | .i6=>true | _=>false
 | .i7,y=>match y with | .i7=>true | _=>false
 | .aM a,y=>match y with | .aM b=>eU a b | _=>false
 | .bG a,y=>match y with | .bG b=>eU a b | _=>false
 | .ptr a b c,y=>match y with | .ptr eQ bi c'=>Nat.beq a eQ&&Nat.beq b bi&&Nat.beq c c' | _=>false
 | .b6 a n,y=>match y with | .b6 eQ gY=>eU a eQ&&Nat.beq n gY | _=>false
 | .au a b c d e f,y=>match y with | .au eQ bi c' qI fb abI=>Nat.beq a eQ&&Nat.beq b bi&&Nat.beq c c'&&Nat.beq d qI&&Nat.beq e fb&&Nat.beq f abI | _=>false
 | .bD a b,y=>match y with | .bD eQ bi=>Nat.beq a eQ&&Bs b bi | _=>false
 | .fn a b c,y=>match y with | .fn eQ bi c'=>Nat.beq a eQ&&eU b bi&&eU c c' | _=>false
 | .mp a,y=>match y with | .mp eQ=>Nat.beq a eQ | _=>false
 | .it a,y=>match y with | .it eQ=>Nat.beq a eQ | _=>false
 | .gA a b,y=>match y with | .gA eQ bi=>Nat.beq a eQ&&U.beq b bi | _=>false
 | .lW a,y=>match y with | .lW eQ=>Nat.beq a eQ | _=>false
 | .bad,y=>match y with | .bad=>true | _=>false
def eU:List U->List U->Bool
 | [],y=>match y with | []=>true | _=>false
 | a::as,y=>match y with | b::bs=>U.beq a b&&eU as bs | _=>false
def Bs:List (List U)->List (List U)->Bool
 | [],y=>match y with | []=>true | _=>false
 | a::as,y=>match y with | b::bs=>eU a b&&Bs as bs | _=>false
end
theorem km {a b:Nat} (h:Nat.beq a b=true) :a=b:=Nat.eq_of_beq_eq_true h
mutual
theorem U.beq_eq:∀ {a b:U},U.beq a b=true->a=b
 | .bool a,b,h=>by cases b<;>simp only[U.beq] at h<;>first | cases h | (rename_i b; cases a<;>cases b<;>first | rfl | cases h)
 | .int k n,b,h=>by cases b<;>simp only[U.beq] at h<;>first | cases h | (simp only[Bool.and_eq_true,decide_eq_true_eq] at h; rw[h.1,h.2])
 | .str a,b,h=>by cases b<;>simp only[U.beq] at h<;>first | cases h | (simp only[decide_eq_true_eq] at h; rw[h])
 | .i8,b,h=>by cases b<;>simp only[U.beq] at h<;>first | rfl | cases h
 | .a1,b,h=>by cases b<;>simp only[U.beq] at h<;>first | rfl | cases h
 | .hA,b,h=>by cases b<;>simp only[U.beq] at h<;>first | rfl | cases h
 | .i6,b,h=>by cases b<;>simp only[U.beq] at h<;>first | rfl | cases h
 | .i7,b,h=>by cases b<;>simp only[U.beq] at h<;>first | rfl | cases h
 | .bad,b,h=>by cases b<;>simp only[U.beq] at h<;>first | rfl | cases h
 | .aM a,b,h=>by cases b<;>simp only[U.beq] at h<;>first | cases h | rw[tx h]
 | .bG a,b,h=>by cases b<;>simp only[U.beq] at h<;>first | cases h | rw[tx h]
 | .ptr ..,b,h=>by cases b<;>simp only[U.beq] at h<;>first | cases h | (simp only[Bool.and_eq_true] at h; rw[km h.1.1,km h.1.2,km h.2])
 | .b6 a n,b,h=>by cases b<;>simp only[U.beq] at h<;>first | cases h | (simp only[Bool.and_eq_true] at h; rw[tx h.1,km h.2])
 | .au ..,b,h=>by cases b<;>simp only[U.beq] at h<;>first | cases h | (simp only[Bool.and_eq_true] at h; rw[km h.1.1.1.1.1,km h.1.1.1.1.2,km h.1.1.1.2,km h.1.1.2,km h.1.2,km h.2])
 | .bD a n,b,h=>by cases b<;>simp only[U.beq] at h<;>first | cases h | (simp only[Bool.and_eq_true] at h; rw[km h.1,OK h.2])
 | .fn a n m,b,h=>by cases b<;>simp only[U.beq] at h<;>first | cases h | (simp only[Bool.and_eq_true] at h; rw[km h.1.1,tx h.1.2,tx h.2])
 | .mp a,b,h=>by cases b<;>simp only[U.beq] at h<;>first | cases h | rw[km h]
 | .it a,b,h=>by cases b<;>simp only[U.beq] at h<;>first | cases h | rw[km h]
 | .lW a,b,h=>by cases b<;>simp only[U.beq] at h<;>first | cases h | rw[km h]
 | .gA a n,b,h=>by cases b<;>simp only[U.beq] at h<;>first | cases h | (simp only[Bool.and_eq_true] at h; rw[km h.1,U.beq_eq h.2])
theorem tx:∀ {a b:List U},eU a b=true->a=b
 | [],b,h=>by cases b<;>simp only[eU] at h<;>first | rfl | cases h
 | x::a,b,h=>by cases b<;>simp only[eU] at h<;>first | cases h | (simp only[Bool.and_eq_true] at h; rw[U.beq_eq h.1,tx h.2])
theorem OK:∀ {a b:List (List U)},Bs a b=true->a=b
 | [],b,h=>by cases b<;>simp only[Bs] at h<;>first | rfl | cases h
 | x::a,b,h=>by cases b<;>simp only[Bs] at h<;>first | cases h | (simp only[Bool.and_eq_true] at h; rw[tx h.1,OK h.2])
end
def sY:U->Bool | .int .. | .str _ | .bool _=>true | _=>false
def rf (P:Program) :Nat->TypeId->Bool
 | 0,_=>false
 | d+1,t=>match P.underlying t,cv P t with
  | some (.int _),_=>true
  | some .string,_=>true
  | some .bool,_=>true
  | some (.array n e),some m=>rf P d e&&(match cv P e,dW P e with | some z,some _=>Nat.ble (n*z) m&&Nat.ble 1 z | _,_=>false)
  | some (.struct fs),some m=>fs.toList.all fun f=>rf P d f.type&&(match cv P f.type,dW P f.type with | some z,some _=>Nat.ble (f.offset+z) m&&Nat.ble 1 z | _,_=>false)
  | _,_=>false
def kL (P:Program) (t:TypeId) (c:U) :Bool:=
 match c with
 | .aM cs=>rf P 8 t&&(match dW P t,cv P t with | some true,some m=>Nat.beq cs.length m | _,_=>false)&&cs.all sY
 | _=>false
def jd (P:Program) (cM:TypeId) (k:U) :List (U × U × Nat)->Nat->Option (Option (Nat × U))
 | [],_=>some none
 | (k',v,_) ::es,i=>match kL P cM k' with
  | false=>none
  | true=>match ez P 10000 cM k k' with
   | some true=>match U.beq k k' with | true=>some (some (i,v)) | false=>none
   | some false=>jd P cM k es (i+1)
   | none=>none
def mapOf (h:aN) :U->Option (List (U × U × Nat))
 | .hA=>some []
 | .mp b=>match h.f b with | .map es _=>some es | _=>none
 | _=>none
def yX (P:Program) (t:TypeId) :Option U:=((P.info? t).bind (·.zero)).map wr
def GH (P:Program) (h:aN) (t:TypeId) (m k:U) (ok:Bool) :Option U:=
 match P.underlying t,mapOf h m with
 | some (.map cM l8),some es=>match kL P cM k with
  | false=>none
  | true=>match jd P cM k es 0 with
   | some (some (_,v))=>some (if ok then .bG [v,.bool true] else v)
   | some none=>(yX P l8).map fun z=>if ok then .bG [z,.bool false] else z
   | none=>none
 | _,_=>none
def yp (P:Program) (h:aN) (t:TypeId) (m k v:U) :Option aN:=
 match P.underlying t,m with
 | some (.map cM _),.mp b=>match h.f b with
  | .map es ey=>match kL P cM k with
   | false=>none
   | true=>match jd P cM k es 0 with
    | some (some (i,_))=>some (h.set b (.map (es.modify i fun e=>(k,v,e.2.2)) ey))
    | some none=>some (h.set b (.map (es++[(k,v,ey)]) (ey+1)))
    | none=>none
  | _=>none
 | _,_=>none
def yl (P:Program) (h:aN) (t:TypeId) (x:U) :Option U:=
 match P.underlying t,x with
 | some (.map _ _),.mp b=>match h.f b with | .map es _=>some (.int .i64 es.length) | _=>none
 | _,_=>none
def Hk (P:Program) (h:aN) (t:TypeId) (x:U) :Option (U × aN) :=
 match P.underlying t,x with
 | some .string,.str s=>some (.it h.n,h.push (.iter s 0))
 | _,_=>none
def Au (h:aN) (x:U) :Option (U × aN) :=
 match x with
 | .it b=>match h.f b with
  | .iter s pos=>match Nat.blt pos s.length with
   | true=>some (.bG [.bool true,.int .i64 pos,.int .i32 (Utf8.decode ⟨s.toArray⟩ pos).1],h.set b (.iter s (pos+(Utf8.decode ⟨s.toArray⟩ pos).2)))
   | false=>some (.bG [.bool false],h)
  | _=>none
 | _=>none
def nI:List UInt8->List UInt8->Int
 | [],[]=>0
 | [],_::_=>-1
 | _::_,[]=>1
 | a::as,b::bs=>if a=b then nI as bs else if a<b then -1 else 1
def r1 (h:aN) (x:U) :Option (List UInt8) :=match x with
 | .str s=>some s
 | x=>match contents h 1 x with
  | some (cs,_)=>mP cs
  | none=>none
def BJ (h:aN) :List U->Option U
 | [x,y]=>match r1 h x,r1 h y with
  | some a,some b=>some (.int .i64 (nI a b))
  | _,_=>none
 | _=>none
def C4 (fn:Func) :Bool:=fn.body.isNone&&fn.name == "internal/bytealg.Compare"&&(fn.origin == ""||fn.origin == "internal/bytealg.Compare")
inductive pp where
 | val (v:U) (h:aN)
 | call (f:FuncId) (args:List U) (h:aN)
def Ar:U->U->Option U
 | .int k x,.int k' y=>if k=k' then some (.int k (if y<x then y else x)) else none
 | _,_=>none
def uz:U->U->Option U
 | .int k x,.int k' y=>if k=k' then some (.int k (if x<y then y else x)) else none
 | _,_=>none
def he:U:=.bG []
def Bp (P:Program) (h:aN) (t:TypeId) (s x:U) :Option (U × aN) :=
 match io P t,asInt x with
 | some e,some n=>match cv P e,jc P e,hs P e with
  | some z,some by_,some zero=>
   if zero.length=z/\0<=n/\n<9223372036854775808/\n.toNat*by_<=ct then u9 P h e z by_ s (dk zero n.toNat) n.toNat else none
  | _,_,_=>none
 | _,_=>none
def pw (P:Program) (h:aN) (b:Builtin) (ts:List TypeId) (args:List U) :Option pp:=
 match b,ts,args with
 | .len,[t],[x]=>match yl P h t x with
  | some v=>some (.val v h)
  | none=>(yk P t x).map fun v=>.val v h
 | .append,[t,u],[s,x]=>match P.underlying u with
  | some (.int _)=>(Bp P h t s x).map fun (v,h')=>.val v h'
  | none=>none
  | _=>(rY P h t s x).map fun (v,h')=>.val v h'
 | .copy,[t,_],[d,x]=>(zm P h t d x).map fun (v,h')=>.val v h'
 | .cap,[t],[x]=>(ze P t x).map fun v=>.val v h
 | .clear,[t],[x]=>(zi P h t x).map fun h'=>.val (.bG []) h'
 | .min,_,[x,y]=>(Ar x y).map fun v=>.val v h
 | .max,_,[x,y]=>(uz x y).map fun v=>.val v h
 | _,_,_=>none
def yq (P:Program) (t:TypeId) (name:String) :Option FuncId:=
 match P.underlying t with
 | some (.pointer _) | none=>none
 | _=>match P.info? t with
  | some i=>match i.methods.find? (·.name == name) with
   | some m=>match m.path.toList,m.func with
    | [],some (f,false)=>some f
    | _,_=>none
   | none=>none
  | none=>none
def AV (t:TypeId) (z:U) (ok:Bool) :U->Option U
 | .gA gb v=>match Nat.beq gb t with
  | true=>match ok with | true=>some (.bG [v,.bool true]) | false=>some v
  | false=>match ok with | true=>some (.bG [z,.bool false]) | false=>none
 | .i7=>match ok with | true=>some (.bG [z,.bool false]) | false=>none
 | _=>none
def HI (P:Program) (t:TypeId) :Option U:=match P.underlying t with
 | some (.interface _) | none=>none
 | _=>yX P t
def vd (P:Program) (h:aN) (aA:Operand->U) (c:Call) :Option pp:=
 match c.callee with
 | .builtin b=>pw P h b c.argTypes.toList (c.args.toList.map aA)
 | .value f=>match aA f with
  | .fn g first fI=>match P.funcs[g]? with
   | some fn=>if fn.body.isSome/\fn.name≠ "runtime.NumGoroutine" then some (.call g (first++c.args.toList.map aA++fI) h)
    else if C4 fn then (BJ h (first++c.args.toList.map aA++fI)).map fun v=>.val v h else none
   | none=>none
  | _=>none
 | .invoke x name=>match aA x with
  | .gA t v=>match yq P t name with
   | some g=>match P.funcs[g]? with
    | some fn=>if fn.body.isSome/\fn.name≠ "runtime.NumGoroutine" then some (.call g (v::c.args.toList.map aA) h) else none
    | none=>none
   | none=>none
  | _=>none
def cV (P:Program) (h:aN) (aA:Operand->U) (op:Op) :Option pp:=
 let v (x:Option U) :Option pp:=x.map fun y=>.val y h
 let w (x:Option (U × aN)) :Option pp:=x.map fun y=>.val y.1 y.2
 match op with
 | .move x | .assign x=>some (.val (aA x) h)
 | .pick c a b=>match aA c with | .bool t=>some (.val (if t then aA a else aA b) h) | _=>none
 | .alloc t=>(hs P t).map fun z=>.val (.ptr h.n 0 z.length) (h.push (.cells z.length z))
 | .box _ x=>(aA x).cells.map fun cs=>.val (.ptr h.n 0 cs.length) (h.push (.cells cs.length cs))
 | .build t parts=>v (Bw P t (parts.toList.map fun p=>(p.1,aA p.2)))
 | .buildSlice t len parts=>w (Eu P h t len (parts.toList.map fun p=>(p.1,aA p.2)))
 | .load t a=>v (sK P h t (aA a))
 | .store t a x=>(AR P h t (aA a) (aA x)).map fun h'=>.val he h'
 | .nilCheck x=>match aA x with | .ptr b o s=>some (.val (.ptr b o s) h) | .b6 c o=>some (.val (.b6 c o) h) | .fn f a b=>some (.val (.fn f a b) h) | _=>none
 | .binOp op t x y _=>v (gi P op t (aA x) (aA y))
 | .unOp op _ x=>v (qs op (aA x))
 | .convert s d x=>match zc P s d (aA x) with
  | some c=>some (.val c h)
  | none=>v (xe P h s d (aA x))
 | .makeInterface t x=>match P.underlying t with
  | some (.interface _) | none=>none
  | _=>some (.val (.gA t (aA x)) h)
 | .makeFunc (.func f) first fI=>some (.val (.fn f (first.toList.map aA) (fI.toList.map aA)) h)
 | .makeSlice t l c=>w (GN P h t (aA l) (aA c))
 | .slice t x cN av cG=>v (DT P t (aA x) (cN.map aA) (av.map aA) (cG.map aA))
 | .fieldAddr s x f=>v (EU P s (aA x) f)
 | .field t x f=>match aA x,xm P t f with
  | .aM cs,some fd=>v (hC P fd.type cs fd.offset)
  | _,_=>none
 | .indexAddr t x i=>v (C2 P t (aA x) (aA i))
 | .index t x i=>v (Am P t (aA x) (aA i))
 | .extract x i=>match aA x with | .bG vs=>v vs[i]? | _=>none
 | .call c=>vd P h aA c
 | .makeMap t r=>match P.underlying t,(match r with | none=>true | some x=>(asInt (aA x)).isSome) with | some (.map _ _),true=>some (.val (.mp h.n) (h.push (.map [] 0))) | _,_=>none
 | .lookup t m k ok=>v (GH P h t (aA m) (aA k) ok)
 | .mapUpdate t m k x | .insert t m k x=>(yp P h t (aA m) (aA k) (aA x)).map fun h'=>.val he h'
 | .range t x=>w (Hk P h t (aA x))
 | .next it true=>w (Au h (aA it))
 | .typeAssert x _ t ok=>match HI P t with | some z=>v (AV t z ok (aA x)) | none=>none
 | _=>none
structure M where
 r:Nat
 s:Nat
 T:Nat
abbrev cH:=Nat->Option M
def live:a2->Bool
 | .cells .. | .map .. | .iter ..=>true
 | _=>false
def n0:a2->Nat
 | .map ..=>1
 | .iter ..=>2
 | _=>0
def lu (h:aN) (μ:cH) (k:Nat) :Prop:=∃ b m,live (h.f b)=true/\μ b=some m/\m.r=k
def uW (h:aN) (b sz:Nat) :Prop:=h.f b=.dead\/∃ n cs,h.f b=.cells n cs/\sz<n
structure Cell (w:World) (R:Nat->Prop) (h:aN) (μ:cH) (b o:Nat) (v:Value) :Prop where
 here:w.cell? ⟨b,o,none⟩=some v
 one:v.oneCell'=true
 ro:R b
 free:¬ lu h μ b
inductive aO (w:World) (R:Nat->Prop) (h:aN) (μ:cH) :U->Value->Prop where
 | bool (b:Bool) :aO w R h μ (.bool b) (.bool b)
 | int (k:IntKind) (n:Int) :aO w R h μ (.int k n) (.int k n)
 | str (bs:ByteArray) :aO w R h μ (.str bs.data.toList) (.string bs)
 | i8:aO w R h μ .i8 (.pointer none)
 | a1:aO w R h μ .a1 (.slice none 0 0)
 | hA:aO w R h μ .hA (.map none)
 | i6:aO w R h μ .i6 .nilFunc
 | i7:aO w R h μ .i7 .nilIface
 | aM (cs:List U) (vs:Array Value) (ak:vs.size=cs.length) (h1:∀ (j:Nat) (v:Value),vs[j]? = some v->v.oneCell'=true)
   (aq:∀ (j:Nat) (c:U) (v:Value),cs[j]? = some c->vs[j]? = some v->aO w R h μ c v) :aO w R h μ (.aM cs) (.agg vs)
 | bG (cs:List U) (vs:Array Value) (ak:vs.size=cs.length)
   (aq:∀ (j:Nat) (c:U) (v:Value),cs[j]? = some c->vs[j]? = some v->aO w R h μ c v) :aO w R h μ (.bG cs) (.tuple vs)
 | ptr (b off sz:Nat) (cs:List U) (m:M) (ag:h.f b=.cells sz cs) (hm:μ b=some m) :
   aO w R h μ (.ptr b off sz) (.pointer (some ⟨m.r,m.s+off,none⟩))
 | mz (b off sz:Nat) (a:Addr) (ar:uW h b sz) :aO w R h μ (.ptr b off sz) (.pointer (some a))
 | b6 (cs:List U) (off blk o:Nat) (ed:Nat->Value) (ah:∀ j,j<cs.length->Cell w R h μ blk (o+j) (ed j))
   (aq:∀ (j:Nat) (c:U),cs[j]? = some c->aO w R h μ c (ed j)) :aO w R h μ (.b6 cs off) (.pointer (some ⟨blk,o+off,none⟩))
 | au (z b off len cap sz cap' : Nat) (cs:List U) (m:M) (ag:h.f b=.cells sz cs) (hm:μ b=some m) (ak:len<=cap) (ap:off+cap*z<=sz)
   (ah:(off+cap*z<sz/\cap'=cap)\/(off+cap*z=sz/\cap<=cap'/\m.s+off+cap'*z<=m.T)) :
   aO w R h μ (.au z b off len cap sz) (.slice (some ⟨m.r,m.s+off,none⟩) len cap')
 | go (z b off len cap sz cap' : Nat) (a:Addr) (ak:len<=cap) (ah:cap<=cap') (ar:uW h b sz) :aO w R h μ (.au z b off len cap sz) (.slice (some a) len cap')
 | hF (z b off sz:Nat) (a:Addr) (cs:List U) (m:M) (ag:h.f b=.cells sz cs) (hm:μ b=some m) :aO w R h μ (.au z b off 0 0 sz) (.slice (some a) 0 0)
 | bD (z:Nat) (es:List (List U)) (blk off cap:Nat) (ed:Nat->Nat->Value) (ak:es.length<=cap) (aw:∀ e,e∈es->e.length=z)
   (ah:∀ i j,i<es.length->j<z->Cell w R h μ blk (off+(i*z+j)) (ed i j))
   (aq:∀ (i:Nat) (e:List U),es[i]? = some e->∀ (j:Nat) (c:U),e[j]? = some c->aO w R h μ c (ed i j)) :
   aO w R h μ (.bD z es) (.slice (some ⟨blk,off,none⟩) es.length cap)
 | fw (z:Nat) (a:Addr) (cap:Nat) :aO w R h μ (.bD z []) (.slice (some a) 0 cap)
 | fn (f:FuncId) (first fI:List U) (fs cs:Array Value) (aD:fs.size=first.length) (ah:cs.size=fI.length)
   (h1:∀ (j:Nat) (c:U) (v:Value),first[j]? = some c->fs[j]? = some v->aO w R h μ c v) (ad:∀ (j:Nat) (c:U) (v:Value),fI[j]? = some c->cs[j]? = some v->aO w R h μ c v) :
   aO w R h μ (.fn f first fI) (.func (.func f) fs cs)
 | mp (b:Nat) (m:M) (ag:n0 (h.f b)=1) (hm:μ b=some m) :aO w R h μ (.mp b) (.map (some m.r))
 | it (b:Nat) (m:M) (ag:n0 (h.f b)=2) (hm:μ b=some m) :aO w R h μ (.it b) (.pointer (some ⟨m.r,0,none⟩))
 | gA (t:TypeId) (c:U) (v:Value) (aq:aO w R h μ c v) :aO w R h μ (.gA t c) (.iface t v)
 | lW (l:Nat) :aO w R h μ (.lW l) (.func (.yield l) #[] #[])
 | bad (v:Value) :aO w R h μ .bad v
structure Ext0 (w:World) (h:aN) (μ:cH) (w' : World) (h' : aN) (μ' : cH) :Prop where
 os:w'.os=w.os
 tape:w'.tape=w.tape
 output:w'.output=w.output
 size:w.heap.size<=w'.heap.size
 cq:∀ k,k<w.heap.size->¬ lu h μ k->w'.heap[k]? = w.heap[k]?
 own:∀ k,lu h' μ' k->lu h μ k\/w.heap.size<=k
 cells:∀ b sz cs m,h.f b=.cells sz cs->μ b=some m->(∃ cs',h'.f b=.cells sz cs'/\μ' b=some m)\/uW h' b sz
 gone:∀ b sz,uW h b sz->uW h' b sz
 G1:∀ b k m,n0 (h.f b)=k+1->μ b=some m->n0 (h'.f b)=k+1/\μ' b=some m
 n:h.n<=h'.n
 drawn:w.drawn<=w'.drawn:=by first | exact Nat.le_refl _ | exact Nat.le_succ _ | assumption
structure dx (w:World) (h:aN) (μ:cH) (w' : World) (h' : aN) (μ' : cH) :Prop extends Ext0 w h μ w' h' μ' where
 qt:∀ b,b<h.n->μ b=none->μ' b=none
theorem Ext0.refl (w:World) (h:aN) (μ:cH) :Ext0 w h μ w h μ:=
 ⟨rfl,rfl,rfl,Nat.le_refl _,fun _ _ _=>rfl,fun _ h=>.inl h,fun b sz cs m h1 ad=>.inl ⟨cs,h1,ad⟩,fun _ _ h=>h,fun _ _ _ h1 ad=>⟨h1,ad⟩,Nat.le_refl _,Nat.le_refl _⟩
theorem dx.refl (w:World) (h:aN) (μ:cH) :dx w h μ w h μ:=⟨.refl w h μ,fun _ _ h=>h⟩
theorem Ext0.trans {w bW w2:World} {h h1 ad:aN} {μ g2 rN:cH} (a:Ext0 w h μ bW h1 g2) (b:Ext0 bW h1 g2 w2 ad rN) :Ext0 w h μ w2 ad rN:=by
 refine⟨b.os.trans a.os,b.tape.trans a.tape,b.output.trans a.output,Nat.le_trans a.size b.size,?_,?_,?_,fun _ _ ar=>b.gone _ _ (a.gone _ _ ar),?_,Nat.le_trans a.n b.n,Nat.le_trans a.drawn b.drawn⟩
 ·intro k hk aC;rw[b.cq k (Nat.lt_of_lt_of_le hk a.size) (fun ap=>(a.own k ap).elim aC (by omega)),a.cq k hk aC]
 ·intro k hk;rcases b.own k hk with h | h
  ·exact a.own k h
  ·exact .inr (Nat.le_trans a.size h)
 ·intro blk sz cs m ag hm;rcases a.cells blk sz cs m ag hm with ⟨cs',aj,aF⟩ | aj
  ·exact b.cells blk sz cs' m aj aF
  ·exact .inr (b.gone _ _ aj)
 ·intro blk k m ag hm;obtain⟨aj,aF⟩:=a.G1 blk k m ag hm;exact b.G1 blk k m aj aF
theorem dx.trans {w bW w2:World} {h h1 ad:aN} {μ g2 rN:cH} (a:dx w h μ bW h1 g2) (b:dx bW h1 g2 w2 ad rN) :dx w h μ w2 ad rN:=
 ⟨a.toExt0.trans b.toExt0,fun blk ag hm=>b.qt blk (Nat.lt_of_lt_of_le ag a.n) (a.qt blk ag hm)⟩
theorem Cell.ext {w w' : World} {h h' : aN} {μ μ' : cH} {R:Nat->Prop} {b o:Nat} {v:Value} (e:Ext0 w h μ w' h' μ') (c:Cell w R h μ b o v) :Cell w' R h' μ' b o v:=by
 have ag:b<w.heap.size:=World.block_lt_of_cell? _ _ c.here;refine⟨?_,c.one,c.ro,fun ap=>?_⟩
 ·rw[World.cell?_of_block (w:=w) (a:=⟨b,o,none⟩) (e.cq b ag c.free)]; exact c.here
 ·rcases e.own b ap with h1 | h1
  ·exact c.free h1
  ·omega
theorem aO.mY {w w' : World} {h h' : aN} {μ μ' : cH} {R:Nat->Prop} {c:U} {v:Value} (e:Ext0 w h μ w' h' μ') (aq:aO w R h μ c v) :aO w' R h' μ' c v:=by
 induction aq with
 | bool b=>exact .bool b
 | int k n=>exact .int k n
 | str bs=>exact .str bs
 | i8=>exact .i8
 | a1=>exact .a1
 | hA=>exact .hA
 | i6=>exact .i6
 | i7=>exact .i7
 | aM cs vs ak h1 aq aH=>exact .aM cs vs ak h1 aH
 | bG cs vs ak aq aH=>exact .bG cs vs ak aH
 | ptr b off sz cs m ag hm=>
  rcases e.cells b sz cs m ag hm with ⟨cs',h1,ad⟩ | h1
  ·exact .ptr b off sz cs' m h1 ad
  ·exact .mz b off sz _ h1
 | mz b off sz a ar=>exact .mz b off sz a (e.gone _ _ ar)
 | b6 cs off blk o ed ah aq aH=>exact .b6 cs off blk o ed (fun j ai=>(ah j ai).ext e) aH
 | au z b off len cap sz cap' cs m ag hm ak ap ah=>
  rcases e.cells b sz cs m ag hm with ⟨cs',h1,ad⟩ | h1
  ·exact .au z b off len cap sz cap' cs' m h1 ad ak ap ah
  ·exact .go z b off len cap sz cap' _ ak (by omega) h1
 | go z b off len cap sz cap' a ak ah ar=>exact .go z b off len cap sz cap' a ak ah (e.gone _ _ ar)
 | hF z b off sz a cs m ag hm=>
  rcases e.cells b sz cs m ag hm with ⟨cs',h1,ad⟩ | h1
  ·exact .hF z b off sz a cs' m h1 ad
  ·exact .go z b off 0 0 sz 0 a (Nat.le_refl _) (Nat.le_refl _) h1
 | bD z es blk off cap ed ak aw ah aq aH=>exact .bD z es blk off cap ed ak aw (fun i j av ai=>(ah i j av ai).ext e) aH
 | fw z a cap=>exact .fw z a cap
 | fn f first fI fs cs aD ah h1 ad c2 hy=>exact .fn f first fI fs cs aD ah c2 hy
 | mp b m ag hm=>
  obtain⟨h1,ad⟩:=e.G1 b 0 m ag hm;exact .mp b m h1 ad
 | it b m ag hm=>
  obtain⟨h1,ad⟩:=e.G1 b 1 m ag hm;exact .it b m h1 ad
 | gA t c v aq aH=>exact .gA t c v aH
 | lW l=>exact .lW l
 | bad v=>exact .bad v
theorem aO.ext {w w' : World} {h h' : aN} {μ μ' : cH} {R:Nat->Prop} {c:U} {v:Value} (e:dx w h μ w' h' μ') (aq:aO w R h μ c v) :aO w' R h' μ' c v:=aq.mY e.toExt0
def uV (w:World) (R:Nat->Prop) (h:aN) (μ:cH) (m:M) :a2->Prop
 | .cells sz cs=>cs.length=sz/\m.s+sz<=m.T/\∃ arr e fV,w.heap[m.r]? = some (.cells arr e fV)/\arr.size=m.T/\(fV=(0,0)\/m.T<fV.1) ∧
   ∀ (j:Nat) (c:U),cs[j]? = some c->∃ v:Value,arr[m.s+j]? = some v/\v.oneCell'=true/\aO w R h μ c v
 | .map es ey=>∃ ds,w.heap[m.r]? = some (.map ds ey)/\ds.size=es.length ∧
   ∀ (j:Nat) (k v:U) (b:Nat),es[j]? = some (k,v,b)->∃ x:MapEntry,ds[j]? = some x/\aO w R h μ k x.key/\aO w R h μ v x.val/\x.born=b
 | .iter s pos=>∃ bs:ByteArray,bs.data.toList=s/\w.heap[m.r]? = some (.stringIter bs pos)
 | _=>True
theorem uV.ext {w w' : World} {h h' : aN} {μ μ' : cH} {R:Nat->Prop} {m:M} (e:Ext0 w h μ w' h' μ') (hw:w'.heap[m.r]? = w.heap[m.r]?) :
  ∀ {c:a2},uV w R h μ m c->uV w' R h' μ' m c
 | .cells sz cs,⟨h1,ad,arr,t,fV,aj,aF,aW,bt⟩=>⟨h1,ad,arr,t,fV,hw.trans aj,aF,aW,fun j c ai=>let ⟨v,a,b,d⟩:=bt j c ai; ⟨v,a,b,d.mY e⟩⟩
 | .map es ey,⟨ds,h1,ad,aj⟩=>⟨ds,hw.trans h1,ad,fun j k v b ai=>let ⟨x,a,dM,d,f⟩:=aj j k v b ai; ⟨x,a,dM.mY e,d.mY e,f⟩⟩
 | .iter s pos,⟨bs,h1,ad⟩=>⟨bs,h1,hw.trans ad⟩
 | .none,_=>trivial
 | .dead,_=>trivial
structure b3 (R:Nat->Prop) (B:Nat) (w:World) (h:aN) (μ:cH) :Prop where
 blk:∀ b m,μ b=some m->uV w R h μ m (h.f b)
 inj:∀ b bi m cn,live (h.f b)=true->live (h.f bi)=true->μ b=some m->μ bi=some cn->m.r=cn.r->b=bi
 base:∀ b m,live (h.f b)=true->μ b=some m->B<=m.r
 fresh:∀ b,h.n<=b->h.f b=.none
 up:∀ k,B<=k->R k
 size:B<=w.heap.size
 kM:∀ b,h.n<=b->μ b=none
theorem b3.r0 {R:Nat->Prop} {B:Nat} {w:World} {h:aN} {μ:cH} (rel:b3 R B w h μ) {b:Nat} {m:M} (hm:μ b=some m) :b<h.n:=by
 rcases Nat.lt_or_ge b h.n with h1 | h1
 ·exact h1
 ·rw[rel.kM b h1] at hm; cases hm
theorem b3.lt {R:Nat->Prop} {B:Nat} {w:World} {h:aN} {μ:cH} (rel:b3 R B w h μ) {b:Nat} {m:M} (ak:live (h.f b)=true) (hm:μ b=some m) :m.r<w.heap.size:=by
 have ag:=rel.blk b m hm;cases ah:h.f b with
 | none=>rw[ah] at ak; cases ak
 | dead=>rw[ah] at ak; cases ak
 | cells sz cs=>
  rw[ah] at ag;obtain⟨_,_,arr,t,fV,aj,_⟩:=ag;rcases Nat.lt_or_ge m.r w.heap.size with h | h
  ·exact h
  ·rw[Array.getElem?_eq_none h] at aj; cases aj
 | map es ey=>
  rw[ah] at ag;obtain⟨ds,aj,_⟩:=ag;rcases Nat.lt_or_ge m.r w.heap.size with h | h
  ·exact h
  ·rw[Array.getElem?_eq_none h] at aj; cases aj
 | iter s pos=>
  rw[ah] at ag;obtain⟨bs,_,aj⟩:=ag;rcases Nat.lt_or_ge m.r w.heap.size with h | h
  ·exact h
  ·rw[Array.getElem?_eq_none h] at aj; cases aj
theorem b3.uT {R:Nat->Prop} {B:Nat} {w w' : World} {h h' : aN} {μ μ' : cH} (rel:b3 R B w h μ) (e:Ext0 w h μ w' h' μ') (g4:Nat)
  (pZ:∀ b,b≠g4->live (h'.f b)=true->h'.f b=h.f b/\μ' b=μ b/\∀ m,μ b=some m->w'.heap[m.r]? = w.heap[m.r]?)
  (jg:∀ m,μ' g4=some m->uV w' R h' μ' m (h'.f g4))
  (dY:∀ b m cn,b≠g4->live (h'.f b)=true->live (h'.f g4)=true->μ b=some m->μ' g4=some cn->m.r≠cn.r)
  (Fz:∀ m,live (h'.f g4)=true->μ' g4=some m->B<=m.r)
  (aed:∀ b,h'.n<=b->h'.f b=.none) (aeU:∀ b,h'.n<=b->μ' b=none) :b3 R B w' h' μ':=by
 refine⟨?_,?_,?_,aed,rel.up,Nat.le_trans rel.size e.size,aeU⟩
 ·intro b m hm;by_cases ag:b=g4
  ·subst ag; exact jg m hm
  ·cases ak:live (h'.f b) with
   | false=>cases ah:h'.f b<;>first | trivial | (rw[ah] at ak; cases ak)
   | true=>
    obtain⟨h1,ad,aj⟩:=pZ b ag ak;rw[ad] at hm;rw[h1];exact (rel.blk b m hm).ext e (aj m hm)
 ·intro b bi m cn ak c1 hm bZ ax;by_cases ag:b=g4<;>by_cases bH:bi=g4
  ·rw[ag,bH]
  ·subst ag;obtain⟨h1,ad,aj⟩:=pZ bi bH c1;rw[ad] at bZ;exact absurd ax.symm (dY bi cn m bH c1 ak bZ hm)
  ·subst bH;obtain⟨h1,ad,aj⟩:=pZ b ag ak;rw[ad] at hm;exact absurd ax (dY b m cn ag ak c1 hm bZ)
  ·obtain⟨h1,ad,_⟩:=pZ b ag ak;obtain⟨aj,aF,_⟩:=pZ bi bH c1;rw[h1] at ak; rw[ad] at hm; rw[aj] at c1; rw[aF] at bZ;exact rel.inj b bi m cn ak c1 hm bZ ax
 ·intro b m ak hm;by_cases ag:b=g4
  ·subst ag; exact Fz m ak hm
  ·obtain⟨h1,ad,_⟩:=pZ b ag ak;rw[h1] at ak; rw[ad] at hm;exact rel.base b m ak hm
theorem b3.push {R:Nat->Prop} {B:Nat} {w w' : World} {h:aN} {μ:cH} (rel:b3 R B w h μ) (cs:List U) (arr:Array Value) (t:TypeId)
  (pY:w'.os=w.os) (ui:w'.tape=w.tape) (k4:w'.output=w.output) (jN:w'.heap=w.heap.push (.cells arr t (0,0)))
  (hq:cs.length<=arr.size) (aq:∀ (j:Nat) (c:U),cs[j]? = some c->∃ v:Value,arr[j]? = some v/\v.oneCell'=true/\aO w R h μ c v) (qV:w.drawn<=w'.drawn:=by first | exact Nat.le_refl _ | exact Nat.le_succ _ | assumption) :
  dx w h μ w' (h.push (.cells cs.length cs)) (bL μ h.n (some ⟨w.heap.size,0,arr.size⟩)) ∧
  b3 R B w' (h.push (.cells cs.length cs)) (bL μ h.n (some ⟨w.heap.size,0,arr.size⟩)) :=by
 have aC:h.f h.n=.none:=rel.fresh _ (Nat.le_refl _);have e:dx w h μ w' (h.push (.cells cs.length cs)) (bL μ h.n (some ⟨w.heap.size,0,arr.size⟩)) :=by
  refine⟨⟨pY,ui,k4,by simp[jN],?_,?_,?_,?_,?_,?_,qV⟩,?_⟩
  ·intro k hk _;rw[jN,Array.getElem?_push,if_neg (by omega)]
  ·rintro k ⟨b,m,ak,hm,rfl⟩;by_cases ag:b=h.n
   ·subst ag; simp at hm; subst hm; exact .inr (Nat.le_refl _)
   ·rw[cb _ _ _ _ ag] at hm;simp only[eb,ff,cb _ _ _ _ ag] at ak;exact .inl ⟨b,m,ak,hm,rfl⟩
  ·intro b sz cs' m ag hm;have:b≠h.n:=fun aG=>by rw[aG,aC] at ag; cases ag
   exact .inl ⟨cs',by simp only[eb,ff,cb _ _ _ _ this]; exact ag,by rw[cb _ _ _ _ this]; exact hm⟩
  ·rintro b sz (ag | ⟨n,cs',ag,aK⟩)
   ·have:b≠h.n:=fun aG=>by rw[aG,aC] at ag; cases ag
    exact .inl (by simp only[eb,ff,cb _ _ _ _ this]; exact ag)
   ·have:b≠h.n:=fun aG=>by rw[aG,aC] at ag; cases ag
    exact .inr ⟨n,cs',by simp only[eb,ff,cb _ _ _ _ this]; exact ag,aK⟩
  ·intro b k m ag hm;have:b≠h.n:=fun aG=>by rw[aG,aC] at ag; cases ag
   exact⟨by simp only[eb,ff,cb _ _ _ _ this]; exact ag,by rw[cb _ _ _ _ this]; exact hm⟩
  ·simp[eb,ff]
  ·intro b ag hm;rw[cb _ _ _ _ (by omega)]; exact hm
 refine⟨e,rel.uT e.toExt0 h.n ?_ ?_ ?_ ?_ ?_ ?_⟩
 ·intro b ag ak;simp only[eb,ff,cb _ _ _ _ ag] at ak ⊢;exact⟨trivial,trivial,fun m hm=>by rw[jN,Array.getElem?_push,if_neg (by have:=rel.lt ak hm; omega)]⟩
 ·intro m hm;simp at hm; subst hm;simp only[eb,ff,jK];refine⟨rfl,by simpa using hq,arr,t,(0,0),by simp[jN],rfl,.inl rfl,fun j c ai=>?_⟩;obtain⟨v,h1,ad,aj⟩:=aq j c ai;exact⟨v,by simpa using h1,ad,aj.ext e⟩
 ·intro b m cn ag ak _ hm bZ;simp only[eb,ff,cb _ _ _ _ ag] at ak;simp at bZ; subst bZ;have:=rel.lt ak hm;simp only[ne_eq]; omega
 ·intro m _ hm;simp at hm; subst hm;exact rel.size
 ·intro b ag;simp only[eb,ff] at ag ⊢;rw[cb _ _ _ _ (by omega)];exact rel.fresh b (by omega)
 ·intro b ag;simp only[eb,ff] at ag;rw[cb _ _ _ _ (by omega)];exact rel.kM b (by omega)
theorem b3.same {R:Nat->Prop} {B:Nat} {w:World} {h h' : aN} {μ:cH} (rel:b3 R B w h μ) (aD:h'.f=h.f) (aC:h'.n=h.n) :dx w h μ w h' μ/\b3 R B w h' μ:=by
 have e:dx w h μ w h' μ:=by
  refine⟨⟨rfl,rfl,rfl,Nat.le_refl _,fun _ _ _=>rfl,?_,?_,?_,?_,by omega,Nat.le_refl _⟩,fun _ _ hm=>hm⟩
  ·rintro k ⟨bi,cn,c1,bZ,rfl⟩;rw[aD] at c1; exact .inl ⟨bi,cn,c1,bZ,rfl⟩
  ·intro bi sz' cs' cn bH bZ;exact .inl ⟨cs',by rw[aD]; exact bH,bZ⟩
  ·intro bi sz' ar;unfold uW at ar ⊢; rw[aD]; exact ar
  ·intro bi k' cn bH bZ;exact⟨by rw[aD]; exact bH,bZ⟩
 refine⟨e,rel.uT e.toExt0 h.n (fun b _ _=>⟨by rw[aD],rfl,fun _ _=>rfl⟩) (fun m hm=>?_) (fun b m cn _ _ _ _ hm=>?_) (fun m _ hm=>?_) (fun b ag=>by rw[aD]; exact rel.fresh b (by omega)) (by rw[aC]; exact rel.kM)⟩
 all_goals (rw[rel.kM h.n (Nat.le_refl _)] at hm; cases hm)
theorem b3.kill {R:Nat->Prop} {B:Nat} {w:World} {h h' : aN} {μ:cH} (rel:b3 R B w h μ) {b sz:Nat} {cs:List U} (ag:h.f b=.cells sz cs) (m5:b<h.n)
  (aD:h'.f=bL h.f b .dead) (aC:h'.n=h.n) :dx w h μ w h' μ/\b3 R B w h' μ:=by
 have e:dx w h μ w h' μ:=by
  refine⟨⟨rfl,rfl,rfl,Nat.le_refl _,fun _ _ _=>rfl,?_,?_,?_,?_,by omega,Nat.le_refl _⟩,fun _ _ hm=>hm⟩
  ·rintro k ⟨bi,cn,c1,bZ,rfl⟩;rw[aD] at c1;by_cases b1:bi=b
   ·subst b1; simp[live] at c1
   ·rw[cb _ _ _ _ b1] at c1; exact .inl ⟨bi,cn,c1,bZ,rfl⟩
  ·intro bi sz' cs' cn bH bZ;by_cases b1:bi=b
   ·subst b1; exact .inr (.inl (by rw[aD]; simp))
   ·exact .inl ⟨cs',by rw[aD,cb _ _ _ _ b1]; exact bH,bZ⟩
  ·rintro bi sz' ar;by_cases b1:bi=b
   ·subst b1; exact .inl (by rw[aD]; simp)
   ·rcases ar with ar | ⟨n,cs',ar,aK⟩
    ·exact .inl (by rw[aD,cb _ _ _ _ b1]; exact ar)
    ·exact .inr ⟨n,cs',by rw[aD,cb _ _ _ _ b1]; exact ar,aK⟩
  ·intro bi k' cn bH bZ;by_cases b1:bi=b
   ·subst b1; rw[ag] at bH; cases bH
   ·exact⟨by rw[aD,cb _ _ _ _ b1]; exact bH,bZ⟩
 refine⟨e,rel.uT e.toExt0 b ?_ ?_ ?_ ?_ ?_ (by rw[aC]; exact rel.kM)⟩
 ·intro bi b1 ak;rw[aD,cb _ _ _ _ b1];exact⟨rfl,rfl,fun _ _=>rfl⟩
 ·intro m _;rw[aD]; simp[uV]
 ·intro bi m cn _ _ ak;rw[aD] at ak; simp[live] at ak
 ·intro m ak;rw[aD] at ak; simp[live] at ak
 ·intro bi bH;rw[aD,cb _ _ _ _ (by omega)];exact rel.fresh bi (by omega)
theorem b3.W7 {R:Nat->Prop} {B:Nat} {w:World} {h h' : aN} {μ:cH} (rel:b3 R B w h μ) {b sz off:Nat} {cs:List U} {m:M} (ag:h.f b=.cells sz cs) (hm:μ b=some m) (ap:off<=sz)
  (aD:h'.f=bL (bL h.f b .dead) h.n (.cells (sz - off) (cs.drop off))) (aC:h'.n=h.n+1) :
  dx w h μ w h' (bL μ h.n (some ⟨m.r,m.s+off,m.T⟩))/\b3 R B w h' (bL μ h.n (some ⟨m.r,m.s+off,m.T⟩)) :=by
 have m5:=rel.r0 hm;have xZ:h.f h.n=.none:=rel.fresh _ (Nat.le_refl _);have kF:live (h.f b)=true:=by rw[ag]; rfl
 have e:dx w h μ w h' (bL μ h.n (some ⟨m.r,m.s+off,m.T⟩)) :=by
  refine⟨⟨rfl,rfl,rfl,Nat.le_refl _,fun _ _ _=>rfl,?_,?_,?_,?_,by omega,Nat.le_refl _⟩,fun bi bH bZ=>by rw[cb _ _ _ _ (by omega)]; exact bZ⟩
  ·rintro k ⟨bi,cn,c1,bZ,rfl⟩;rw[aD] at c1;by_cases j4:bi=h.n
   ·subst j4; simp at bZ; subst bZ; exact .inl ⟨b,m,kF,hm,rfl⟩
   ·rw[cb _ _ _ _ j4] at c1 bZ;by_cases b1:bi=b
    ·subst b1; simp[live] at c1
    ·rw[cb _ _ _ _ b1] at c1; exact .inl ⟨bi,cn,c1,bZ,rfl⟩
  ·intro bi sz' cs' cn bH bZ;have j4:bi≠h.n:=fun aG=>by rw[aG,xZ] at bH; cases bH
   by_cases b1:bi=b
   ·subst b1; exact .inr (.inl (by rw[aD,cb _ _ _ _ j4]; simp))
   ·exact .inl ⟨cs',by rw[aD,cb _ _ _ _ j4,cb _ _ _ _ b1]; exact bH,by rw[cb _ _ _ _ j4]; exact bZ⟩
  ·rintro bi sz' ar;have j4:bi≠h.n:=fun aG=>by
    subst aG;rcases ar with ar | ⟨n,cs',ar,_⟩
    ·rw[xZ] at ar; cases ar
    ·rw[xZ] at ar; cases ar
   by_cases b1:bi=b
   ·subst b1; exact .inl (by rw[aD,cb _ _ _ _ j4]; simp)
   ·rcases ar with ar | ⟨n,cs',ar,aK⟩
    ·exact .inl (by rw[aD,cb _ _ _ _ j4,cb _ _ _ _ b1]; exact ar)
    ·exact .inr ⟨n,cs',by rw[aD,cb _ _ _ _ j4,cb _ _ _ _ b1]; exact ar,aK⟩
  ·intro bi k' cn bH bZ;have j4:bi≠h.n:=fun aG=>by rw[aG,xZ] at bH; cases bH
   by_cases b1:bi=b
   ·subst b1; rw[ag] at bH; cases bH
   ·exact⟨by rw[aD,cb _ _ _ _ j4,cb _ _ _ _ b1]; exact bH,by rw[cb _ _ _ _ j4]; exact bZ⟩
 have pZ:∀ bi,bi≠h.n->live (h'.f bi)=true->bi≠b/\h'.f bi=h.f bi:=fun bi j4 ak=>by
  rw[aD,cb _ _ _ _ j4] at ak ⊢;by_cases b1:bi=b
  ·subst b1; simp[live] at ak
  ·exact⟨b1,by rw[cb _ _ _ _ b1]⟩
 refine⟨e,rel.uT e.toExt0 h.n ?_ ?_ ?_ ?_ ?_ ?_⟩
 ·intro bi j4 ak;exact⟨(pZ bi j4 ak).2,by rw[cb _ _ _ _ j4],fun _ _=>rfl⟩
 ·intro cn bZ;simp at bZ; subst bZ;rw[aD,jK];have eD:=rel.blk b m hm;rw[ag] at eD;obtain⟨h1,ad,arr,t,fV,aj,aF,aW,bt⟩:=eD;refine⟨by simp; omega,by simp only; omega,arr,t,fV,aj,aF,aW,fun j c ai=>?_⟩;rw[List.getElem?_drop] at ai;obtain⟨v,aS,aX,a3⟩:=bt (off+j) c ai;exact⟨v,by simp only; rw[Nat.add_assoc]; exact aS,aX,a3.ext e⟩
 ·intro bi gm hr j4 ak _ h1 ad aG;simp at ad; subst ad;obtain⟨b1,gX⟩:=pZ bi j4 ak;rw[gX] at ak;exact b1 (rel.inj bi b gm m ak kF h1 hm aG)
 ·intro cn _ bZ;simp at bZ; subst bZ;exact rel.base b m kF hm
 ·intro bi bH;rw[aD,cb _ _ _ _ (by omega),cb _ _ _ _ (by omega)];exact rel.fresh bi (by omega)
 ·intro bi bH;rw[cb _ _ _ _ (by omega)];exact rel.kM bi (by omega)
theorem b3.Wy {R:Nat->Prop} {B:Nat} {w w' : World} {h:aN} {μ:cH} (rel:b3 R B w h μ) (c:a2) (o:Obj) {k:Nat} (hk:n0 c=k+1)
  (pY:w'.os=w.os) (ui:w'.tape=w.tape) (k4:w'.output=w.output) (jN:w'.heap=w.heap.push o)
  (dG:uV w' R (h.push c) (bL μ h.n (some ⟨w.heap.size,0,0⟩)) ⟨w.heap.size,0,0⟩ c) (qV:w.drawn<=w'.drawn:=by first | exact Nat.le_refl _ | exact Nat.le_succ _ | assumption) :
  dx w h μ w' (h.push c) (bL μ h.n (some ⟨w.heap.size,0,0⟩))/\b3 R B w' (h.push c) (bL μ h.n (some ⟨w.heap.size,0,0⟩)) :=by
 have aC:h.f h.n=.none:=rel.fresh _ (Nat.le_refl _);have TU:n0 a2.none=0:=rfl;have e:dx w h μ w' (h.push c) (bL μ h.n (some ⟨w.heap.size,0,0⟩)) :=by
  refine⟨⟨pY,ui,k4,by simp[jN],?_,?_,?_,?_,?_,?_,qV⟩,?_⟩
  ·intro k hk _;rw[jN,Array.getElem?_push,if_neg (by omega)]
  ·rintro k ⟨b,m,ak,hm,rfl⟩;by_cases ag:b=h.n
   ·subst ag; simp at hm; subst hm; exact .inr (Nat.le_refl _)
   ·rw[cb _ _ _ _ ag] at hm;simp only[eb,ff,cb _ _ _ _ ag] at ak;exact .inl ⟨b,m,ak,hm,rfl⟩
  ·intro b sz cs' m ag hm;have:b≠h.n:=fun aG=>by rw[aG,aC] at ag; cases ag
   exact .inl ⟨cs',by simp only[eb,ff,cb _ _ _ _ this]; exact ag,by rw[cb _ _ _ _ this]; exact hm⟩
  ·rintro b sz (ag | ⟨n,cs',ag,aK⟩)
   ·have:b≠h.n:=fun aG=>by rw[aG,aC] at ag; cases ag
    exact .inl (by simp only[eb,ff,cb _ _ _ _ this]; exact ag)
   ·have:b≠h.n:=fun aG=>by rw[aG,aC] at ag; cases ag
    exact .inr ⟨n,cs',by simp only[eb,ff,cb _ _ _ _ this]; exact ag,aK⟩
  ·intro b k m ag hm;have:b≠h.n:=fun aG=>by rw[aG,aC] at ag; cases ag
   exact⟨by simp only[eb,ff,cb _ _ _ _ this]; exact ag,by rw[cb _ _ _ _ this]; exact hm⟩
  ·simp[eb,ff]
  ·intro b ag hm;rw[cb _ _ _ _ (by omega)]; exact hm
 refine⟨e,rel.uT e.toExt0 h.n ?_ ?_ ?_ ?_ ?_ ?_⟩
 ·intro b ag ak;simp only[eb,ff,cb _ _ _ _ ag] at ak ⊢;exact⟨trivial,trivial,fun m hm=>by rw[jN,Array.getElem?_push,if_neg (by have:=rel.lt ak hm; omega)]⟩
 ·intro m hm;simp at hm; subst hm;simp only[eb,ff,jK];exact dG
 ·intro b m cn ag ak _ hm bZ;simp only[eb,ff,cb _ _ _ _ ag] at ak;simp at bZ; subst bZ;have:=rel.lt ak hm;simp only[ne_eq]; omega
 ·intro m _ hm;simp at hm; subst hm;exact rel.size
 ·intro b ag;simp only[eb,ff] at ag ⊢;rw[cb _ _ _ _ (by omega)];exact rel.fresh b (by omega)
 ·intro b ag;simp only[eb,ff] at ag ⊢;rw[cb _ _ _ _ (by omega)];exact rel.kM b (by omega)
theorem b3.gG {R:Nat->Prop} {B:Nat} {w w' : World} {h:aN} {μ:cH} (rel:b3 R B w h μ) {b k:Nat} {c c' : a2} {m:M}
  (ag:h.f b=c) (hk:n0 c=k+1) (eK:n0 c'=k+1) (hm:μ b=some m)
  (pY:w'.os=w.os) (ui:w'.tape=w.tape) (k4:w'.output=w.output) (ye:w'.heap.size=w.heap.size) (CT:∀ k,k≠m.r->w'.heap[k]? = w.heap[k]?)
  (dG:Ext0 w h μ w' (h.set b c') μ->uV w' R (h.set b c') μ m c') (qV:w.drawn<=w'.drawn:=by first | exact Nat.le_refl _ | exact Nat.le_succ _ | assumption) :
  dx w h μ w' (h.set b c') μ/\b3 R B w' (h.set b c') μ:=by
 have kF:live (h.f b)=true:=by rw[ag]; cases c<;>simp[n0] at hk<;>rfl
 have apD:live c'=true:=by cases c'<;>simp[n0] at eK<;>rfl
 have F1:∀ sz cs,h.f b≠.cells sz cs:=fun sz cs aG=>by rw[ag] at aG; subst aG; simp[n0] at hk
 have pV:h.f b≠.dead:=fun aG=>by rw[ag] at aG; subst aG; simp[n0] at hk
 have e:dx w h μ w' (h.set b c') μ:=by
  refine⟨⟨pY,ui,k4,Nat.le_of_eq ye.symm,?_,?_,?_,?_,?_,Nat.le_refl _,qV⟩,fun _ _ hm=>hm⟩
  ·intro k hk aC;exact CT k (fun aG=>aC ⟨b,m,kF,hm,aG.symm⟩)
  ·rintro k ⟨bi,cn,c1,bZ,rfl⟩;by_cases b1:bi=b
   ·subst b1; exact .inl ⟨bi,cn,kF,bZ,rfl⟩
   ·simp only[dI,cb _ _ _ _ b1] at c1;exact .inl ⟨bi,cn,c1,bZ,rfl⟩
  ·intro bi sz cs cn bH bZ;have b1:bi≠b:=fun aG=>by subst aG; exact F1 _ _ bH
   exact .inl ⟨cs,by simp only[dI,cb _ _ _ _ b1]; exact bH,bZ⟩
  ·rintro bi sz (ar | ⟨n,cs',ar,aK⟩)
   ·have b1:bi≠b:=fun aG=>by subst aG; exact pV ar
    exact .inl (by simp only[dI,cb _ _ _ _ b1]; exact ar)
   ·have b1:bi≠b:=fun aG=>by subst aG; exact F1 _ _ ar
    exact .inr ⟨n,cs',by simp only[dI,cb _ _ _ _ b1]; exact ar,aK⟩
  ·intro bi k' cn bH bZ;by_cases b1:bi=b
   ·subst b1;refine⟨?_,bZ⟩;simp only[dI,jK];rw[ag,hk] at bH;rw[eK]; exact bH
   ·exact⟨by simp only[dI,cb _ _ _ _ b1]; exact bH,bZ⟩
 refine⟨e,rel.uT e.toExt0 b ?_ ?_ ?_ ?_ ?_ rel.kM⟩
 ·intro bi b1 ak;simp only[dI,cb _ _ _ _ b1] at ak ⊢;exact⟨trivial,trivial,fun cn bZ=>CT _ (fun aG=>b1 (rel.inj bi b cn m ak kF bZ hm aG))⟩
 ·intro cn bZ;rw[hm] at bZ; cases bZ;simp only[dI,jK];exact dG e.toExt0
 ·intro bi gm hr b1 ak _ h1 ad aG;rw[hm] at ad; cases ad;simp only[dI,cb _ _ _ _ b1] at ak;exact b1 (rel.inj bi b gm m ak kF h1 hm aG)
 ·intro cn _ bZ;rw[hm] at bZ; cases bZ;exact rel.base b m kF hm
 ·intro bi bH;by_cases b1:bi=b
  ·subst b1;have:=rel.r0 hm;simp only[eL] at bH; omega
  ·simp only[dI,cb _ _ _ _ b1]; exact rel.fresh bi bH
theorem b3.write {R:Nat->Prop} {B:Nat} {w w' : World} {h:aN} {μ:cH} (rel:b3 R B w h μ) {b sz sz' : Nat} {cs cs' : List U} {m:M} {arr arr' : Array Value} {t:TypeId} {fV:Nat × Nat}
  (ag:h.f b=.cells sz cs) (hm:μ b=some m) (ax:w.heap[m.r]? = some (.cells arr t fV)) (ci:arr.size=m.T) (lG:fV=(0,0)\/m.T<fV.1)
  (pY:w'.os=w.os) (ui:w'.tape=w.tape) (k4:w'.output=w.output) (ye:w'.heap.size=w.heap.size)
  (CU:w'.heap[m.r]? = some (.cells arr' t fV)) (CT:∀ k,k≠m.r->w'.heap[k]? = w.heap[k]?) (aB:arr'.size=arr.size)
  (ak:cs'.length=sz') (pS:sz<=sz') (dX:m.s+sz'<=m.T)
  (aq:∀ (j:Nat) (c:U),cs'[j]? = some c->∃ v:Value,arr'[m.s+j]? = some v/\v.oneCell'=true/\aO w R h μ c v) (qV:w.drawn<=w'.drawn:=by first | exact Nat.le_refl _ | exact Nat.le_succ _ | assumption) :
  dx w h μ w' (h.set b (.cells sz' cs')) μ/\b3 R B w' (h.set b (.cells sz' cs')) μ:=by
 have kF:live (h.f b)=true:=by rw[ag]; rfl
 have e:dx w h μ w' (h.set b (.cells sz' cs')) μ:=by
  refine⟨⟨pY,ui,k4,Nat.le_of_eq ye.symm,?_,?_,?_,?_,?_,Nat.le_refl _,qV⟩,fun _ _ hm=>hm⟩
  ·intro k hk aC;exact CT k (fun aG=>aC ⟨b,m,kF,hm,aG.symm⟩)
  ·rintro k ⟨bi,cn,c1,bZ,rfl⟩;by_cases b1:bi=b
   ·subst b1; exact .inl ⟨bi,cn,kF,bZ,rfl⟩
   ·simp only[dI,eL,cb _ _ _ _ b1] at c1;exact .inl ⟨bi,cn,c1,bZ,rfl⟩
  ·intro bi ak2 nK cn bH bZ;by_cases b1:bi=b
   ·subst b1;rw[ag] at bH; cases bH;by_cases al:sz'=sz
    ·exact .inl ⟨cs',by simp[dI,eL,al],bZ⟩
    ·exact .inr (.inr ⟨sz',cs',by simp[dI,eL],by omega⟩)
   ·exact .inl ⟨nK,by simp only[dI,eL,cb _ _ _ _ b1]; exact bH,bZ⟩
  ·rintro bi s0 (bH | ⟨n,nK,bH,aK⟩)
   ·have b1:bi≠b:=fun aG=>by rw[aG,ag] at bH; cases bH
    exact .inl (by simp only[dI,eL,cb _ _ _ _ b1]; exact bH)
   ·by_cases b1:bi=b
    ·subst b1;rw[ag] at bH; cases bH;exact .inr ⟨sz',cs',by simp[dI,eL],by omega⟩
    ·exact .inr ⟨n,nK,by simp only[dI,eL,cb _ _ _ _ b1]; exact bH,aK⟩
  ·intro bi k cn bH bZ;have b1:bi≠b:=fun aG=>by rw[aG,ag] at bH; cases bH
   exact⟨by simp only[dI,eL,cb _ _ _ _ b1]; exact bH,bZ⟩
 refine⟨e,rel.uT e.toExt0 b ?_ ?_ ?_ ?_ ?_ ?_⟩
 ·intro bi b1 c1;simp only[dI,eL,cb _ _ _ _ b1] at c1 ⊢;exact⟨trivial,trivial,fun cn bZ=>CT _ (fun aG=>b1 (rel.inj bi b cn m c1 kF bZ hm aG))⟩
 ·intro cn bZ;rw[hm] at bZ; cases bZ;simp only[dI,eL,jK];refine⟨ak,dX,arr',t,fV,CU,aB.trans ci,lG,fun j c ai=>?_⟩;obtain⟨v,h1,ad,aj⟩:=aq j c ai;exact⟨v,h1,ad,aj.ext e⟩
 ·intro bi cn ahx b1 c1 _ bZ CF aG;rw[hm] at CF; cases CF;simp only[dI,eL,cb _ _ _ _ b1] at c1;exact b1 (rel.inj bi b cn m c1 kF bZ hm aG)
 ·intro cn _ bZ;exact rel.base b cn kF bZ
 ·intro bi bH;simp only[dI,eL] at bH ⊢;have b1:bi≠b:=fun aG=>by
   have:=rel.fresh bi bH;rw[aG,ag] at this; cases this
  rw[cb _ _ _ _ b1];exact rel.fresh bi bH
 ·intro bi bH;exact rel.kM bi bH
theorem b3.move {R:Nat->Prop} {B:Nat} {w w' : World} {h:aN} {μ:cH} (rel:b3 R B w h μ) {b sz sz' : Nat} {cs cs' : List U} {m:M} {arr:Array Value} {t:TypeId}
  (ag:h.f b=.cells sz cs) (hm:μ b=some m)
  (pY:w'.os=w.os) (ui:w'.tape=w.tape) (k4:w'.output=w.output) (jN:w'.heap=w.heap.push (.cells arr t (0,0)))
  (ak:cs'.length=sz') (pS:sz<sz') (dX:sz'<=arr.size)
  (aq:∀ (j:Nat) (c:U),cs'[j]? = some c->∃ v:Value,arr[j]? = some v/\v.oneCell'=true/\aO w R h μ c v) (qV:w.drawn<=w'.drawn:=by first | exact Nat.le_refl _ | exact Nat.le_succ _ | assumption) :
  dx w h μ w' (h.set b (.cells sz' cs')) (bL μ b (some ⟨w.heap.size,0,arr.size⟩))/\b3 R B w' (h.set b (.cells sz' cs')) (bL μ b (some ⟨w.heap.size,0,arr.size⟩)) :=by
 have kF:live (h.f b)=true:=by rw[ag]; rfl
 have e:dx w h μ w' (h.set b (.cells sz' cs')) (bL μ b (some ⟨w.heap.size,0,arr.size⟩)) :=by
  refine⟨⟨pY,ui,k4,by simp[jN],?_,?_,?_,?_,?_,Nat.le_refl _,qV⟩,?_⟩
  ·intro k hk aC;rw[jN,Array.getElem?_push,if_neg (by omega)]
  ·rintro k ⟨bi,cn,c1,bZ,rfl⟩;by_cases b1:bi=b
   ·subst b1; simp at bZ; subst bZ; exact .inr (Nat.le_refl _)
   ·rw[cb _ _ _ _ b1] at bZ;simp only[dI,eL,cb _ _ _ _ b1] at c1;exact .inl ⟨bi,cn,c1,bZ,rfl⟩
  ·intro bi ak2 nK cn bH bZ;by_cases b1:bi=b
   ·subst b1;rw[ag] at bH; cases bH;exact .inr (.inr ⟨sz',cs',by simp[dI,eL],by omega⟩)
   ·exact .inl ⟨nK,by simp only[dI,eL,cb _ _ _ _ b1]; exact bH,by rw[cb _ _ _ _ b1]; exact bZ⟩
  ·rintro bi s0 (bH | ⟨n,nK,bH,aK⟩)
   ·have b1:bi≠b:=fun aG=>by rw[aG,ag] at bH; cases bH
    exact .inl (by simp only[dI,eL,cb _ _ _ _ b1]; exact bH)
   ·by_cases b1:bi=b
    ·subst b1;rw[ag] at bH; cases bH;exact .inr ⟨sz',cs',by simp[dI,eL],by omega⟩
    ·exact .inr ⟨n,nK,by simp only[dI,eL,cb _ _ _ _ b1]; exact bH,aK⟩
  ·intro bi k cn bH bZ;have b1:bi≠b:=fun aG=>by rw[aG,ag] at bH; cases bH
   exact⟨by simp only[dI,eL,cb _ _ _ _ b1]; exact bH,by rw[cb _ _ _ _ b1]; exact bZ⟩
  ·intro bi _ bZ;have b1:bi≠b:=fun aG=>by rw[aG,hm] at bZ; cases bZ
   rw[cb _ _ _ _ b1]; exact bZ
 refine⟨e,rel.uT e.toExt0 b ?_ ?_ ?_ ?_ ?_ ?_⟩
 ·intro bi b1 c1;simp only[dI,eL,cb _ _ _ _ b1] at c1 ⊢;exact⟨trivial,trivial,fun cn bZ=>by rw[jN,Array.getElem?_push,if_neg (by have:=rel.lt c1 bZ; omega)]⟩
 ·intro cn bZ;simp at bZ; subst bZ;simp only[dI,eL,jK];refine⟨ak,by simpa using dX,arr,t,(0,0),by simp[jN],rfl,.inl rfl,fun j c ai=>?_⟩;obtain⟨v,h1,ad,aj⟩:=aq j c ai;exact⟨v,by simpa using h1,ad,aj.ext e⟩
 ·intro bi cn ahx b1 c1 _ bZ CF;simp only[dI,eL,cb _ _ _ _ b1] at c1;simp at CF; subst CF;have:=rel.lt c1 bZ;simp only[ne_eq]; omega
 ·intro cn _ bZ;simp at bZ; subst bZ;exact rel.size
 ·intro bi bH;simp only[dI,eL] at bH ⊢;have b1:bi≠b:=fun aG=>by
   have:=rel.fresh bi bH;rw[aG,ag] at this; cases this
  rw[cb _ _ _ _ b1];exact rel.fresh bi bH
 ·intro bi bH;simp only[dI,eL] at bH;have b1:bi≠b:=fun aG=>by
   have:=rel.r0 hm;omega
  rw[cb _ _ _ _ b1];exact rel.kM bi bH
section
variable {P:Program} {w:World} {R:Nat->Prop} {B:Nat} {h:aN} {μ:cH}
def Good (R:Nat->Prop) (B:Nat) (w:World) (h:aN) (μ:cH) (r:Result Next) (c:U) (h' : aN) :Prop:=
 ∃ v w' μ',(r=.ok (.value v) w'\/(r=.ok .skip w'/\v=undef))/\dx w h μ w' h' μ'/\b3 R B w' h' μ'/\aO w' R h' μ' c v
theorem Good.pure (rel:b3 R B w h μ) {r:Result Next} {c:U} {v:Value} (ax:r=.ok (.value v) w) (aq:aO w R h μ c v) :Good R B w h μ r c h:=
 ⟨v,w,μ,.inl ax,.refl _ _ _,rel,aq⟩
theorem cu {t:TypeId} {d:TypeDesc} (bq:P.underlying t=some d) :(underlying t).run P w=.ok d w:=by
 simp[underlying,bq]
theorem Hw {t:TypeId} {b:Bool} (ag:dW P t=some b) :(isAgg t).run P w=.ok b w:=by
 unfold dW at ag;cases bq:P.underlying t with
 | none=>rw[bq] at ag; cases ag
 | some d=>
  rw[bq] at ag;simp only[Option.map_some,Option.some.injEq] at ag;unfold isAgg;simp only[Sem.run_bind,cu bq,Result.andThen_ok];cases d<;>simp_all
theorem af9 {t:TypeId} {n:Nat} (aC:cv P t=some n) :∃ i,P.info? t=some i/\i.size=n:=by
 unfold cv at aC;cases av:P.info? t with
 | none=>rw[av] at aC; cases aC
 | some i=>rw[av] at aC; exact⟨i,rfl,by simpa using aC⟩
theorem fm {t:TypeId} {n:Nat} (aC:cv P t=some n) :(sizeOf t).run P w=.ok n w:=by
 obtain⟨i,av,al⟩:=af9 aC;simp[sizeOf,typeInfo,av,al]
theorem amL {t:TypeId} {z:List U} (aw:hs P t=some z) :∃ i v,P.info? t=some i/\i.zero=some v/\v.cells.toList.all Value.oneCell'=true/\z=v.cells.toList.map o4:=by
 unfold hs at aw;cases av:P.info? t with
 | none=>rw[av] at aw; cases aw
 | some i=>
  rw[av] at aw;simp only[Option.bind_some] at aw;cases aq:i.zero with
  | none=>rw[aq] at aw; cases aw
  | some v=>
   rw[aq] at aw;simp only[Option.bind_some] at aw;split at aw
   ·rename_i h1;exact⟨i,v,rfl,aq,h1,by simpa using aw.symm⟩
   ·cases aw
theorem Xl {t:TypeId} {i:TypeInfo} {v:Value} (av:P.info? t=some i) (aq:i.zero=some v) :(zeroValue t).run P w=.ok v w:=by
 simp[zeroValue,typeInfo,av,aq]
theorem aO.o4 (v:Value) :aO w R h μ (o4 v) v:=by
 cases v with
 | bool b=>exact .bool _
 | int k n=>exact .int _ _
 | string s=>exact .str _
 | pointer a=>cases a<;>first | exact .i8 | exact .bad _
 | slice a l c=>
  simp only[b2.o4];split
  ·exact .a1
  ·exact .bad _
 | map r=>cases r<;>first | exact .hA | exact .bad _
 | nilFunc=>exact .i6
 | nilIface=>exact .i7
 | func fn first fI=>
  simp only[b2.o4];split
  ·rename_i f h1 ad;have aQ:first=#[] :=by simpa using h1
   have bF:fI=#[] :=by simpa using ad
   subst aQ bF;exact .fn _ [] [] #[] #[] rfl rfl (fun _ _ _ aG=>by simp at aG) (fun _ _ _ aG=>by simp at aG)
  ·exact .bad _
 | _=>exact .bad _
theorem aO.wr (v:Value) :aO w R h μ (wr v) v:=by
 unfold b2.wr;split
 ·rename_i cs;split
  ·rename_i ce;refine .aM _ _ (by simp) (fun j v ai=>?_) (fun j c v ah lb=>?_)
   ·rw[List.all_eq_true] at ce;exact ce v (by have:=Array.mem_of_getElem? ai; simpa using this)
   ·rw[List.getElem?_map] at ah;simp only[Array.getElem?_toList,lb,Option.map_some,Option.some.injEq] at ah;subst ah;exact aO.o4 v
  ·exact .bad _
 ·rename_i vs;refine .bG _ _ (by simp) (fun j c v ah lb=>?_);rw[List.getElem?_map] at ah;simp only[Array.getElem?_toList,lb,Option.map_some,Option.some.injEq] at ah;subst ah;exact aO.o4 v
 ·exact aO.o4 v
theorem aO.one {c:U} {v:Value} (aq:aO w R h μ c v) (h1:c.one=true) :v.oneCell'=true:=by
 cases aq<;>first | rfl | (simp[U.one] at h1)
theorem EB {c:U} {v:Value} {cs:List U} (aq:aO w R h μ c v) (ah:c.cells=some cs) :
  v.cells.size=cs.length/\∀ (j:Nat) (x:U),cs[j]? = some x->∃ u:Value,v.cells[j]? = some u/\u.oneCell'=true/\aO w R h μ x u:=by
 have jS:∀ (c:U) (v:Value),aO w R h μ c v->v.cells=#[v]->v.oneCell'=true->∀ cs,cs=[c]->
   v.cells.size=cs.length/\∀ (j:Nat) (x:U),cs[j]? = some x->∃ u:Value,v.cells[j]? = some u/\u.oneCell'=true/\aO w R h μ x u:=by
  intro c v aq jM h1 cs ce;subst ce;rw[jM];refine⟨rfl,fun j x af=>?_⟩;cases j with
  | zero=>simp at af; subst af; exact⟨v,rfl,h1,aq⟩
  | succ j=>simp at af
 cases aq with
 | aM cs' vs ak h1 aq=>
  simp only[U.cells,Option.some.injEq] at ah; subst ah;refine⟨ak,fun j x af=>?_⟩;have ai:j<vs.size:=by rw[ak]; exact (List.getElem?_eq_some_iff.1 af).1
  exact⟨vs[j],by simp[Value.cells,ai],h1 j _ (by simp[ai]),aq j x _ af (by simp[ai])⟩
 | bG cs' vs ak aq=>simp[U.cells] at ah
 | bad v=>simp[U.cells] at ah
 | bool b=>exact jS _ _ (.bool b) rfl rfl _ (by simpa [U.cells] using ah.symm)
 | int k n=>exact jS _ _ (.int k n) rfl rfl _ (by simpa [U.cells] using ah.symm)
 | str bs=>exact jS _ _ (.str bs) rfl rfl _ (by simpa [U.cells] using ah.symm)
 | i8=>exact jS _ _ .i8 rfl rfl _ (by simpa [U.cells] using ah.symm)
 | a1=>exact jS _ _ .a1 rfl rfl _ (by simpa [U.cells] using ah.symm)
 | hA=>exact jS _ _ .hA rfl rfl _ (by simpa [U.cells] using ah.symm)
 | i6=>exact jS _ _ .i6 rfl rfl _ (by simpa [U.cells] using ah.symm)
 | i7=>exact jS _ _ .i7 rfl rfl _ (by simpa [U.cells] using ah.symm)
 | ptr b off sz cs' m ag hm=>exact jS _ _ (.ptr b off sz cs' m ag hm) rfl rfl _ (by simpa [U.cells] using ah.symm)
 | mz b off sz a ar=>exact jS _ _ (.mz b off sz a ar) rfl rfl _ (by simpa [U.cells] using ah.symm)
 | b6 cs' off blk o ed e3 aq=>exact jS _ _ (.b6 cs' off blk o ed e3 aq) rfl rfl _ (by simpa [U.cells] using ah.symm)
 | au z b off len cap sz cap' cs' m ag hm ak ap e3=>exact jS _ _ (.au z b off len cap sz cap' cs' m ag hm ak ap e3) rfl rfl _ (by simpa [U.cells] using ah.symm)
 | go z b off len cap sz cap' a ak e3 ar=>exact jS _ _ (.go z b off len cap sz cap' a ak e3 ar) rfl rfl _ (by simpa [U.cells] using ah.symm)
 | hF z b off sz a cs' m ag hm=>exact jS _ _ (.hF z b off sz a cs' m ag hm) rfl rfl _ (by simpa [U.cells] using ah.symm)
 | bD z es blk off cap ed ak aw e3 aq=>exact jS _ _ (.bD z es blk off cap ed ak aw e3 aq) rfl rfl _ (by simpa [U.cells] using ah.symm)
 | fw z a cap=>exact jS _ _ (.fw z a cap) rfl rfl _ (by simpa [U.cells] using ah.symm)
 | fn f abL zd fs cs' aD e3 h1 ad=>exact jS _ _ (.fn f abL zd fs cs' aD e3 h1 ad) rfl rfl _ (by simpa [U.cells] using ah.symm)
 | mp b m ag hm=>exact jS _ _ (.mp b m ag hm) rfl rfl _ (by simpa [U.cells] using ah.symm)
 | it b m ag hm=>exact jS _ _ (.it b m ag hm) rfl rfl _ (by simpa [U.cells] using ah.symm)
 | gA t c v aq=>exact jS _ _ (.gA t c v aq) rfl rfl _ (by simpa [U.cells] using ah.symm)
 | lW l=>exact jS _ _ (.lW l) rfl rfl _ (by simpa [U.cells] using ah.symm)
theorem Addr.l3 (b o n:Nat) :(⟨b,o,none⟩:Addr).add n=⟨b,o+n,none⟩:=by unfold Addr.add; split<;>simp_all
theorem MD (rel:b3 R B w h μ) {p:U} {ww:Value} {cs:List U} {off:Nat} (ax:reach h p=some (cs,off)) (ay:aO w R h μ p ww) :
  ∃ blk o,ww=.pointer (some ⟨blk,o+off,none⟩)/\∀ (j:Nat) (c:U),cs[j]? = some c->∃ v:Value,w.cell? ⟨blk,o+j,none⟩=some v/\v.oneCell'=true/\aO w R h μ c v:=by
 cases ay with
 | ptr b G3 sz cs' m ag hm=>
  simp only[reach,ag,ite_true,Option.some.injEq,Prod.mk.injEq] at ax;obtain⟨rfl,rfl⟩:=ax;have eD:=rel.blk b m hm;rw[ag] at eD;obtain⟨h1,ad,arr,t,fV,aj,aF,aW,bt⟩:=eD;refine⟨m.r,m.s,rfl,fun j c ai=>?_⟩;obtain⟨v,aS,aX,a3⟩:=bt j c ai;exact⟨v,by simp[World.cell?,aj,aS],aX,a3⟩
 | mz b G3 sz a ar=>
  unfold reach at ax;rcases ar with ar | ⟨n,cs',ar,aK⟩
  ·simp[ar] at ax
  ·simp only[ar] at ax;split at ax
   ·omega
   ·cases ax
 | b6 cs' G3 blk o ed ah aq=>
  simp only[reach,Option.some.injEq,Prod.mk.injEq] at ax;obtain⟨rfl,rfl⟩:=ax;exact⟨blk,o,rfl,fun j c ai=>⟨ed j,(ah j (List.getElem?_eq_some_iff.1 ai).1).here,(ah j (List.getElem?_eq_some_iff.1 ai).1).one,aq j c ai⟩⟩
 | _=>simp[reach] at ax
theorem ajZ {t:TypeId} {cs:List U} {off:Nat} {c:U} (ay:hC P t cs off=some c) {blk o:Nat}
  (ah:∀ (j:Nat) (x:U),cs[j]? = some x->∃ v:Value,w.cell? ⟨blk,o+j,none⟩=some v/\v.oneCell'=true/\aO w R h μ x v) :
  ∃ v,(loadVar t ⟨blk,o+off,none⟩).run P w=.ok v w/\aO w R h μ c v:=by
 unfold hC at ay;cases oC:dW P t with
 | none=>rw[oC] at ay; cases ay
 | some b=>
  rw[oC] at ay;cases b with
  | false=>
   simp only at ay;obtain⟨v,h1,_,aj⟩:=ah off c ay;exact⟨v,by simp[loadVar,Hw oC,h1],aj⟩
  | true=>
   cases aC:cv P t with
   | none=>rw[aC] at ay; cases ay
   | some n=>
    rw[aC] at ay;simp only at ay;split at ay
    ·rename_i dO;simp only[Option.some.injEq] at ay;subst ay;have pR:∀ j,j<n->∃ v,w.cell? ⟨blk,o+(off+j),none⟩=some v/\v.oneCell'=true/\aO w R h μ (cs.getD (off+j) .bad) v:=by
      intro j ai;have aK:off+j<cs.length:=by omega
      have:=ah (off+j) cs[off+j] (by simp[aK]);simpa [List.getD,aK] using this
     have aq:∃ f:Nat->Value,∀ j,j<n->w.cell? ⟨blk,o+(off+j),none⟩=some (f j)/\(f j).oneCell'=true/\aO w R h μ (cs.getD (off+j) .bad) (f j) :=by
      refine⟨fun j=>if ai:j<n then Classical.choose (pR j ai) else undef,fun j ai=>?_⟩;simp only[ai,dif_pos];exact Classical.choose_spec (pR j ai)
     obtain⟨f,aD⟩:=aq;have ak:(loadCells ⟨blk,o+off,none⟩ n).run P w=.ok ((List.range n).map f).toArray w:=by
      have:=run_loadCells_list (P:=P) w ⟨blk,o+off,none⟩ ((List.range n).map f) (fun j v ai=>by
       rw[List.getElem?_map] at ai;have j6:j<n:=by
        rcases Nat.lt_or_ge j n with h1 | h1
        ·exact h1
        ·rw[List.getElem?_eq_none (by simpa using h1)] at ai; cases ai
       rw[List.getElem?_range j6] at ai;simp only[Option.map_some,Option.some.injEq] at ai;rw[Addr.l3,<-ai,Nat.add_assoc];exact (aD j j6).1)
      simpa using this
     refine⟨.agg ((List.range n).map f).toArray,by simp[loadVar,Hw oC,fm aC,ak],.aM _ _ (by simp; omega) (fun j v ai=>?_) (fun j c v e3 ai=>?_)⟩
     ·simp only[List.getElem?_toArray,List.getElem?_map] at ai;have j6:j<n:=by
       rcases Nat.lt_or_ge j n with h1 | h1
       ·exact h1
       ·rw[List.getElem?_eq_none (by simpa using h1)] at ai; cases ai
      rw[List.getElem?_range j6] at ai;simp only[Option.map_some,Option.some.injEq] at ai;rw[<-ai]; exact (aD j j6).2.1
     ·simp only[List.getElem?_toArray,List.getElem?_map] at ai;have j6:j<n:=by
       rcases Nat.lt_or_ge j n with h1 | h1
       ·exact h1
       ·rw[List.getElem?_eq_none (by simpa using h1)] at ai; cases ai
      rw[List.getElem?_range j6] at ai;simp only[Option.map_some,Option.some.injEq] at ai;rw[List.getElem?_take_of_lt j6,List.getElem?_drop] at e3;have:=(aD j j6).2.2;rw[List.getD,e3] at this;rw[<-ai]; simpa using this
    ·cases ay
theorem Vv (rel:b3 R B w h μ) {t:TypeId} {p:U} {ww:Value} {c:U} (ak:sK P h t p=some c) (ay:aO w R h μ p ww) :
  ∃ v,(Instr.loadAt t ww).run P w=.ok v w/\aO w R h μ c v:=by
 unfold sK at ak;cases ax:reach h p with
 | none=>rw[ax] at ak; cases ak
 | some x=>
  obtain⟨cs,off⟩:=x;rw[ax] at ak;obtain⟨blk,o,rfl,ah⟩:=MD rel ax ay;obtain⟨v,h1,ad⟩:=ajZ ak ah;exact⟨v,by simp[Instr.loadAt,Instr.sureAddr,h1],ad⟩
end

section
variable {P:Program} {w:World} {R:Nat->Prop} {B:Nat} {h:aN} {μ:cH}
theorem Xk (P:Program) (g o:Nat) (t:TypeId) (fV:Nat × Nat) :∀ (vs:List Value) (i:Nat) (hM:Array Value) (w:World),w.heap[g]? = some (.cells hM t fV)->(fV=(0,0)\/hM.size<=fV.1)->
  o+i+vs.length<=hM.size->(∀ v∈vs,v.oneCell'=true)->
  (storeCells ⟨g,o,none⟩ vs i).run P w=.ok () (w.setRow g (hM.toList.take (o+i)++vs++hM.toList.drop (o+i+vs.length)).toArray)
 | [],i,hM,w,ar,_,_,_=>by
  simp only[storeCells,List.append_nil,List.length_nil,Nat.add_zero,List.take_append_drop,Array.toArray_toList];rw[setRow_self w g hM t fV ar];rfl
 | v::rest,i,hM,w,ar,lG,ak,h1=>by
  have av:o+i<hM.size:=by simp at ak; omega
  have Ft:(⟨g,o,none⟩:Addr).add i=⟨g,o+i,none⟩:=Addr.l3 _ _ _;have md:w.cell? ⟨g,o+i,none⟩=some hM[o+i] :=by simp[World.cell?,ar,av]
  have aee:w.frozen? ⟨g,o+i,none⟩=false:=by
   obtain⟨cN,fC⟩:=fV;rcases lG with lG | lG
   ·cases lG; simp[World.frozen?,ar]
   ·have:¬ cN<=o+i:=by simp at lG; omega
    simp[World.frozen?,ar,this]
  have cw:(store ((⟨g,o,none⟩:Addr).add i) v).run P w=.ok () (w.setRow g (hM.setIfInBounds (o+i) v)) :=by
   rw[Ft,run_store P w _ v _ (h1 v (by simp)),md];simp[aee,setCell_eq_setRow w g (o+i) hM t fV v ar]
  have aH:=Xk P g o t fV rest (i+1) (hM.setIfInBounds (o+i) v) (w.setRow g (hM.setIfInBounds (o+i) v)) (setRow_heap w g hM _ t _ ar) (by simpa using lG) (by simp at ak ⊢; omega) (fun x af=>h1 x (by simp[af]));simp only[storeCells,Sem.run_bind,cw,Result.andThen_ok,aH,setRow_setRow];congr 3;have:=list_seg_step hM.toList (o+i) v rest (by simp at ak ⊢; omega);simpa [Nat.add_assoc,Nat.add_comm 1] using this
theorem rG {cs vs:List U} {k:Nat} (hk:k<=cs.length) :(bz cs k vs).length=max cs.length (k+vs.length) :=by
 unfold bz;simp only[List.length_append,List.length_take,List.length_drop];omega
theorem M9 {cs vs:List U} {k j:Nat} (hk:k<=cs.length) :(bz cs k vs)[j]? = if j<k then cs[j]? else if j<k+vs.length then vs[j - k]? else cs[j]?:=by
 unfold bz;rw[List.append_assoc];by_cases h1:j<k
 ·rw[List.getElem?_append_left (by simp; omega),List.getElem?_take_of_lt h1,if_pos h1]
 ·rw[List.getElem?_append_right (by simp; omega),if_neg h1];simp only[List.length_take,Nat.min_eq_left hk];by_cases ad:j<k+vs.length
  ·rw[List.getElem?_append_left (by omega),if_pos ad]
  ·rw[List.getElem?_append_right (by omega),if_neg ad,List.getElem?_drop];congr 1; omega
theorem yT (rel:b3 R B w h μ) {b sz k:Nat} {cs cvs:List U} {m:M} {vs:List Value} (ag:h.f b=.cells sz cs) (hm:μ b=some m) (hk:k<=sz)
  (ak:vs.length=cvs.length) (dX:m.s+max sz (k+cvs.length)<=m.T)
  (aq:∀ (j:Nat) (c:U),cvs[j]? = some c->∃ v:Value,vs[j]? = some v/\v.oneCell'=true/\aO w R h μ c v) :
  ∃ w',(storeCells ⟨m.r,m.s+k,none⟩ vs).run P w=.ok () w'/\dx w h μ w' (h.set b (.cells (max sz (k+cvs.length)) (bz cs k cvs))) μ ∧
   b3 R B w' (h.set b (.cells (max sz (k+cvs.length)) (bz cs k cvs))) μ:=by
 have eD:=rel.blk b m hm;rw[ag] at eD;obtain⟨bh,ci,arr,t,fV,ax,aB,lG,ah⟩:=eD;have h1:∀ v∈vs,v.oneCell'=true:=by
  intro v kG;obtain⟨j,ai,rfl⟩:=List.getElem_of_mem kG;obtain⟨v,aS,aX,_⟩:=aq j (cvs[j]'(by omega)) (by simp);rw[List.getElem?_eq_getElem ai] at aS;cases aS;exact aX
 have g7:=Xk P m.r (m.s+k) t fV vs 0 arr w ax (by rw[aB]; exact lG.imp id Nat.le_of_lt) (by omega) h1;simp only[Nat.add_zero] at g7;have p4:(arr.toList.take (m.s+k)++vs++arr.toList.drop (m.s+k+vs.length)).toArray.size=arr.size:=by
  simp only[List.size_toArray,List.length_append,List.length_take,List.length_drop,Array.length_toList];omega
 have dE:=rel.write (w':=w.setRow m.r (arr.toList.take (m.s+k)++vs++arr.toList.drop (m.s+k+vs.length)).toArray) (cs':=bz cs k cvs) (sz':=max sz (k+cvs.length)) ag hm ax aB lG
  rfl rfl rfl (by simp[World.setRow]) (setRow_heap w m.r arr _ t fV ax) (fun k' eK=>setRow_other w m.r k' _ eK) p4
  (by rw[rG (by omega),bh]) (by omega) (by omega) (fun j c ai=>?_)
 ·exact⟨_,g7,dE.1,dE.2⟩
 ·rw[M9 (by omega)] at ai;simp only[List.getElem?_toArray];rw[List.append_assoc];split at ai
  ·rename_i aK;obtain⟨v,aS,aX,a3⟩:=ah j c ai;refine⟨v,?_,aX,a3⟩;rw[List.getElem?_append_left (by simp; omega),List.getElem?_take_of_lt (by omega)];simpa using aS
  ·rename_i zT;split at ai
   ·rename_i aK;obtain⟨v,aS,aX,a3⟩:=aq _ c ai;refine⟨v,?_,aX,a3⟩;have CG:min (m.s+k) arr.size=m.s+k:=by omega
    rw[List.getElem?_append_right (by simp; omega)];simp only[List.length_take,Array.length_toList,CG];rw[List.getElem?_append_left (by omega),<-aS];congr 1; omega
   ·rename_i apt;obtain⟨v,aS,aX,a3⟩:=ah j c ai;refine⟨v,?_,aX,a3⟩;have CG:min (m.s+k) arr.size=m.s+k:=by omega
    rw[List.getElem?_append_right (by simp; omega)];simp only[List.length_take,Array.length_toList,CG];rw[List.getElem?_append_right (by omega),List.getElem?_drop];have:(m.s+k+vs.length+(m.s+j - (m.s+k) - vs.length))=m.s+j:=by omega
    rw[this];simpa using aS
theorem akW (rel:b3 R B w h μ) {t:TypeId} {p v:U} {ww pg:Value} {h' : aN} (al:AR P h t p v=some h') (ay:aO w R h μ p ww) (aq:aO w R h μ v pg) :
  ∃ w',(Instr.storeAt t ww pg).run P w=.ok () w'/\dx w h μ w' h' μ/\b3 R B w' h' μ:=by
 unfold AR at al;split at al
 ·rename_i b off sz vs n iV aC;obtain⟨hq,mn⟩:=EB aq iV;cases ag:h.f b with
  | cells m cs=>
   rw[ag] at al;simp only at al;split at al
   ·rename_i jh;obtain⟨rfl,bh,dX⟩:=jh;simp only[Option.some.injEq] at al;subst al;cases ay with
    | ptr bi G3 sz' cs' cg bH hm=>
     have eD:=rel.blk b cg hm;rw[ag] at eD;have ci:=eD.2.1;obtain⟨w',h1,ad,aj⟩:=yT (P:=P) rel (cvs:=vs) (vs:=pg.cells.toList) (k:=off) ag hm (by omega) (by simpa using hq) (by omega)
      (fun j c ai=>by obtain⟨u,aS,aX,a3⟩:=mn j c ai; exact⟨u,by simpa using aS,aX,a3⟩)
     have mg:max m (off+vs.length)=m:=by omega
     rw[mg] at ad aj;refine⟨w',?_,ad,aj⟩;have bx:¬ (pg.cells.size≠n) :=by omega
     simp[Instr.storeAt,Instr.sureAddr,storeVar,fm aC,bx,h1]
    | mz bi G3 sz' a ar=>
     rcases ar with ar | ⟨gY,cs',ar,aK⟩
     ·rw[ar] at ag; cases ag
     ·rw[ar] at ag; cases ag; omega
   ·cases al
  | _=>rw[ag] at al; cases al
 ·cases al
theorem Ek (rel:b3 R B w h μ) {cs:List U} {vs:Array Value} (t:TypeId) (ak:vs.size=cs.length)
  (aq:∀ (j:Nat) (c:U),cs[j]? = some c->∃ v:Value,vs[j]? = some v/\v.oneCell'=true/\aO w R h μ c v) :
  let h':=h.push (.cells cs.length cs)
  let μ':=bL μ h.n (some ⟨w.heap.size,0,vs.size⟩)
  let w':=w.alloc (.cells vs t)
  dx w h μ w' h' μ'/\b3 R B w' h' μ'/\∀ off,aO w' R h' μ' (.ptr h.n off cs.length) (.pointer (some ⟨w.heap.size,off,none⟩)) :=by
 intro h' μ' w';have:=rel.push (w':=w') cs vs t rfl rfl rfl rfl (by omega) aq;refine⟨this.1,this.2,fun off=>?_⟩;have ay:=aO.ptr (w:=w') (R:=R) (h:=h') (μ:=μ') h.n off cs.length cs ⟨w.heap.size,0,vs.size⟩ (by simp[h',eb,ff]) (by simp[μ']);simpa using ay
theorem YG {t:TypeId} {z:List U} (aw:hs P t=some z) :∃ i v,P.info? t=some i/\i.zero=some v/\v.cells.size=z.length ∧
  ∀ (j:Nat) (c:U),z[j]? = some c->∃ u:Value,v.cells[j]? = some u/\u.oneCell'=true/\aO w R h μ c u:=by
 obtain⟨i,v,av,aq,h1,rfl⟩:=amL aw;refine⟨i,v,av,aq,by simp,fun j c ai=>?_⟩;rw[List.getElem?_map] at ai;cases aJ:v.cells[j]? with
 | none=>simp[aJ] at ai
 | some u=>
  simp[aJ] at ai;subst ai;rw[List.all_eq_true] at h1;exact⟨u,rfl,h1 u (by have:=Array.mem_of_getElem? aJ; simpa using this),aO.o4 u⟩
theorem Q4 {x:U} {bE:Value} {k:Nat} {c:U} (ah:mT x k=some c) (af:aO w R h μ x bE) :
  ∃ a,bE=.pointer (some a)/\aO w R h μ c (.pointer (some (a.add k))) :=by
 cases af with
 | ptr b off sz cs m ag hm=>
  simp only[mT,Option.some.injEq] at ah; subst ah;refine⟨_,rfl,?_⟩;rw[Addr.l3,Nat.add_assoc];exact .ptr b _ sz cs m ag hm
 | mz b off sz a ar=>
  simp only[mT,Option.some.injEq] at ah; subst ah;exact⟨a,rfl,.mz _ _ _ _ ar⟩
 | b6 cs off blk o ed e3 aq=>
  simp only[mT,Option.some.injEq] at ah; subst ah;refine⟨_,rfl,?_⟩;rw[Addr.l3,Nat.add_assoc];exact .b6 cs _ blk o ed e3 aq
 | _=>simp[mT] at ah
theorem RO {s:TypeId} {f:Nat} {fd:Field} (aD:xm P s f=some fd) :∃ fs,P.underlying s=some (.struct fs)/\fs[f]? = some fd:=by
 unfold xm at aD;split at aD
 ·rename_i fs aJ; exact⟨fs,aJ,aD⟩
 ·cases aD
theorem abM {s:TypeId} {x c:U} {bE:Value} {f:Nat} (ah:EU P s x f=some c) (af:aO w R h μ x bE) :
  ∃ v,(Instr.fieldAt s bE f).run P w=.ok v w/\aO w R h μ c v:=by
 unfold EU at ah;split at ah
 ·rename_i fd aD;obtain⟨fs,aJ,qX⟩:=RO aD;split at ah
  ·rename_i n aC;obtain⟨a,rfl,aq⟩:=Q4 ah af;refine⟨_,?_,aq⟩;simp[Instr.fieldAt,cu aJ,qX,Instr.sureAddr,fieldPlace,fm aC]
  ·cases ah
 ·cases ah
theorem rZ {x:U} {bE:Value} {n:Int} (av:asInt x=some n) (af:aO w R h μ x bE) :∃ k,bE=.int k n:=by
 cases af<;>simp[asInt] at av;subst av;exact⟨_,rfl⟩
theorem af7 {t:TypeId} {x gd c:U} {bE C6:Value} (ah:C2 P t x gd=some c) (af:aO w R h μ x bE) (av:aO w R h μ gd C6) :
  ∃ v,(Instr.indexAt t bE C6).run P w=.ok v w/\aO w R h μ c v:=by
 unfold C2 at ah;split at ah
 ·rename_i len e i aJ fa;obtain⟨k,rfl⟩:=rZ fa av;cases aw:cv P e with
  | none=>rw[aw] at ah; cases ah
  | some z=>
   rw[aw] at ah;simp only at ah;split at ah
   ·rename_i ag;obtain⟨a,rfl,aq⟩:=Q4 ah af;refine⟨_,?_,aq⟩;simp[Instr.indexAt,asIntOf,cu aJ,Instr.sureAddr,ag,fm aw]
   ·cases ah
 ·rename_i e i aJ fa;obtain⟨k,rfl⟩:=rZ fa av;split at ah
  ·rename_i z dm b off len cap sz aw;split at ah
   ·rename_i ag;obtain⟨rfl,ag⟩:=ag;simp only[Option.some.injEq] at ah; subst ah;cases af with
    | au _ _ _ _ _ _ cap' cs m bH hm ak ap de=>
     refine⟨_,?_,aO.ptr b (off+i.toNat*z) sz cs m bH hm⟩;simp[Instr.indexAt,asIntOf,cu aJ,ag,fm aw,Addr.l3,Nat.add_assoc]
    | hF=>simp at ag; omega
    | go _ _ _ _ _ _ cap' a ak de ar=>
     refine⟨_,?_,aO.mz b _ sz (a.add (i.toNat*z)) ar⟩;simp[Instr.indexAt,asIntOf,cu aJ,ag,fm aw]
   ·cases ah
  ·rename_i z dm es aw;split at ah
   ·rename_i ag;obtain⟨rfl,ag⟩:=ag;cases ao:es[i.toNat]? with
    | none=>rw[ao] at ah; cases ah
    | some fb=>
     rw[ao] at ah;simp only[Option.map_some,Option.some.injEq] at ah; subst ah;have aK:i.toNat<es.length:=(List.getElem?_eq_some_iff.1 ao).1;have eG:(0<=i/\i<(es.length:Int)) :=by omega
     cases af with
     | bD _ _ blk off cap ed ak p8 md aq=>
      have ad7:fb.length=z:=p8 _ (List.mem_of_getElem? ao);refine⟨_,?_,aO.b6 fb 0 blk (off+i.toNat*z) (ed i.toNat) (fun j ai=>?_) (aq _ _ ao)⟩
      ·simp[Instr.indexAt,asIntOf,cu aJ,eG,fm aw,Addr.l3]
      ·have:=md i.toNat j aK (by omega)
       rwa [Nat.add_assoc]
     | fw=>simp at aK
   ·cases ah
  ·cases ah
 ·cases ah
end

end Go.b2

/-
  The canonical machine, part A: its values, blocks, heap, and what one operation does.
-/
import Derived.WalkKit
import Derived.Below
import Derived.Laws.AppendOwn
import Derived.Laws.CopyRow
import Derived.Laws.IdiomCopy
import Derived.Laws.StructEq
set_option linter.unusedVariables false
set_option linter.unusedSimpArgs false
set_option linter.unnecessarySimpa false
namespace Go.cb
abbrev atT:=@List.take_of_length_le
abbrev atU:=@List.getElem?_eq_some_iff
abbrev atV:=@List.getElem?_append_left
abbrev atW:=@Nat.le_refl
abbrev atX:=@List.getElem?_eq_getElem
abbrev atY:=@Bool.and_eq_true
abbrev atZ:=@List.mem_iff_getElem?
abbrev at0:=@List.getElem?_map
abbrev at1:=@Option.map_some
abbrev at2:=@Nat.mul_le_mul_right
abbrev at3:=@List.mem_of_getElem?
abbrev at4:=@List.length_append
abbrev at5:=@List.getElem?_set_ne
abbrev at6:=@List.getElem?_eq_none
abbrev at7:=@Nat.mod_eq_of_lt
abbrev at8:=@List.getElem?_append_right
abbrev at9:=@List.getElem?_set_self
abbrev aua:=@BitVec.eq_of_toNat_eq
abbrev aub:=@BitVec.toNat_setWidth
abbrev auc:=@BitVec.toNat_ofNat
abbrev aud:=@List.take_add_one
abbrev aue:=@List.length_take
abbrev auf:=@List.length_cons
abbrev aug:=@List.getD_eq_getElem?_getD
abbrev auh:=@List.length_map
abbrev aui:=@List.mem_singleton
abbrev auj:=@List.take_append_of_le_length
abbrev auk:=@Nat.shiftRight_eq_div_pow
abbrev aul:=@List.getElem?_cons_zero
abbrev aum:=@List.getElem?_take_of_lt
abbrev aun:=@List.take_length
abbrev auo:=@List.mem_map
abbrev aup:=@List.mem_append
abbrev auq:=@List.map_append
abbrev aur:=@List.mem_of_mem_take
abbrev aus:=@List.map_cons
abbrev aut:=@List.append_assoc
abbrev auu:=@List.append_nil
abbrev auv:=@Array.getElem?_eq_some_iff
abbrev auw:=@List.getElem?_range
abbrev aux:=@List.mem_range
abbrev auy:=@List.length_nil
abbrev auz:=@List.take_append_drop
abbrev auA:=@List.set_append_right
abbrev auB:=@List.drop_eq_nil_of_le
abbrev auC:=@List.getElem?_drop
abbrev auD:=@List.ext_getElem?
abbrev auE:=@List.length_eq_zero_iff
abbrev auF:=@List.getElem?_cons_succ
abbrev auG:=@List.mem_cons
abbrev auH:=@List.drop_append_of_le_length
abbrev auI:=@Nat.succ_mul
abbrev auJ:=@Option.getD_some
abbrev auK:=@List.all_eq_true
abbrev auL:=@BitVec.toNat_ushiftRight
abbrev auM:=@List.flatten_append
abbrev auN:=@Nat.add_mul
abbrev auO:=@List.pairwise_iff_getElem
abbrev auP:=@Nat.eq_of_beq_eq_true
abbrev auQ:=@Bool.true_and
abbrev auR:=@Array.getD_eq_getD_getElem?
abbrev auS:=@List.mem_filter
abbrev auT:=@List.nil_append
abbrev auU:=@List.drop_eq_getElem_cons
abbrev auV:=@Bool.false_and
abbrev auW:=@List.flatten_cons
abbrev auX:=@Nat.le_of_ble_eq_true
abbrev auY:=@List.replicate_succ
abbrev auZ:=@Array.getElem?_append_left
abbrev au0:=@Int.toNat_natCast
abbrev au1:=@List.nodup_append
abbrev au2:=@List.drop_of_length_le
abbrev au3:=@List.drop_zero
abbrev au4:=@List.length_drop
abbrev au5:=@List.cons_append
abbrev au6:=@List.map_eq_nil_iff
abbrev au7:=@Nat.zero_le
abbrev au8:=@Nat.lt_trichotomy
abbrev au9:=@Nat.lt_or_ge
abbrev ava:=@Nat.min_eq_left
abbrev avb:=@Bool.not_eq_true'
abbrev avc:=@BitVec.toNat_umod
abbrev avd:=@List.take_zero
abbrev ave:=@Array.getElem?_setIfInBounds
abbrev avf:=@List.eq_of_mem_replicate
abbrev avg:=@Bool.false_eq_true
abbrev avh:=@BitVec.ofInt_natCast
abbrev avi:=@Nat.zero_add
abbrev avj:=@List.take_take
abbrev avk:=@Array.getElem?_eq_getElem
abbrev avl:=@List.mem_or_eq_of_mem_set
abbrev avm:=@List.length_filter_le
abbrev avn:=@Nat.le_trans
abbrev avo:=@Nat.mul_one
abbrev avp:=@Int.eq_ofNat_of_zero_le
abbrev avq:=@BitVec.toNat_udiv
abbrev avr:=@List.range_succ
abbrev avs:=@List.map_congr_left
abbrev avt:=@List.mem_map_of_mem
abbrev avu:=@List.takeWhile_cons
abbrev avv:=@Array.getElem?_eq_none
abbrev avw:=@List.set_eq_take_append_cons_drop
abbrev avx:=@Nat.add_assoc
abbrev avy:=@Option.bind_some
abbrev avz:=@Nat.shiftLeft_eq
abbrev avA:=@List.mapM_cons
abbrev avB:=@Nat.add_sub_cancel
abbrev avC:=@List.mem_of_mem_drop
abbrev avD:=@List.flatMap_append
abbrev avE:=@List.filter_sublist
abbrev avF:=@List.map_map
abbrev avG:=@List.filter_append
abbrev avH:=@Array.getElem?_toList
abbrev avI:=@Option.pure_def
abbrev avJ:=@List.getElem?_set
abbrev avK:=@List.getElem?_of_mem
abbrev avL:=@Nat.mod_lt
abbrev avM:=@BitVec.toNat_mul
abbrev avN:=@List.take_append
abbrev avO:=@Array.length_toList
abbrev avP:=@Bool.and_self
abbrev avQ:=@List.sum_cons
abbrev avR:=@Option.isSome_none
abbrev avS:=@Array.eq_empty_of_size_eq_zero
abbrev avT:=@Bool.or_eq_true
abbrev avU:=@List.set_cons_zero
abbrev avV:=@List.pairwise_cons
abbrev avW:=@BitVec.toNat_shiftLeft
abbrev avX:=@List.count_append
abbrev avY:=@Nat.sub_self
abbrev avZ:=@Array.getElem?_modify
abbrev av0:=@Nat.le_of_lt
abbrev av1:=@Array.getElem?_append_right
abbrev av2:=@List.getElem?_concat_length
abbrev av3:=@Nat.max_eq_right
abbrev av4:=@List.pairwise_append
abbrev av5:=@List.count_singleton
abbrev av6:=@List.mem_append_left
abbrev av7:=@Bool.false_or
abbrev av8:=@Nat.add_eq_zero_iff
abbrev av9:=@List.getElem?_eq_none_iff
abbrev awa:=@List.length_set
abbrev awb:=@List.nodup_cons
abbrev awc:=@Nat.zero_mul
abbrev awd:=@Array.append_assoc
abbrev awe:=@Array.getElem?_map
abbrev awf:=@Nat.lt_of_lt_of_le
abbrev awg:=@List.map_nil
abbrev awh:=@Nat.lt_of_le_of_ne
abbrev awi:=@List.drop_take
abbrev awj:=@List.foldl_append
abbrev awk:=@List.take_sublist
abbrev awl:=@Option.map_eq_some_iff
abbrev awm:=@Nat.one_mul
abbrev awn:=@Nat.mul_mod
abbrev awo:=@List.getElem_mem
abbrev awp:=@BitVec.toNat_and
abbrev awq:=@Bool.not_eq_true
abbrev awr:=@List.getElem?_toArray
abbrev aws:=@List.takeWhile_prefix
abbrev awt:=@Nat.add_zero
abbrev awu:=@List.find?_cons
abbrev awv:=@List.mem_cons_of_mem
abbrev aww:=@Nat.sub_zero
abbrev awx:=@Nat.and_two_pow_sub_one_eq_mod
abbrev awy:=@Nat.one_ne_zero
abbrev awz:=@Bool.eq_iff_iff
abbrev awA:=@Nat.shiftLeft_add_eq_or_of_lt
abbrev awB:=@List.drop_succ_cons
abbrev awC:=@List.mergeSort_perm
abbrev awD:=@List.drop_drop
abbrev awE:=@Nat.pow_add
abbrev awF:=@Nat.pow_mod
abbrev awG:=@List.count_pos_iff
abbrev awH:=@Nat.eq_or_lt_of_le
abbrev awI:=@List.mem_cons_self
abbrev awJ:=@List.set_cons_succ
abbrev awK:=@Bool.true_eq_false
abbrev awL:=@List.map_replicate
abbrev awM:=@Array.size_append
abbrev awN:=@List.size_toArray
abbrev awO:=@List.mem_of_find?_eq_some
abbrev awP:=@Option.isNone_iff_eq_none
abbrev awQ:=@Nat.beq_refl
abbrev awR:=@Option.isSome_iff_exists
abbrev awS:=@List.mem_flatMap
abbrev awT:=@Nat.mul_comm
abbrev awU:=@BitVec.toNat_add
abbrev awV:=@Nat.div_eq_of_lt
abbrev awW:=@BitVec.toNat_not
abbrev awX:=@List.length_erase_of_mem
abbrev awY:=@List.nodup_range
abbrev awZ:=@List.isEmpty_iff
abbrev aw0:=@Nat.le_of_not_lt
abbrev aw1:=@List.le_antisymm
abbrev aw2:=@List.any_eq_true
abbrev aw3:=@List.prefix_iff_eq_take
abbrev aw4:=@List.pairwise_mergeSort
abbrev aw5:=@List.foldl_cons
abbrev aw6:=@Nat.max_eq_left
abbrev aw7:=@Nat.min_def
abbrev aw8:=@List.not_lt
abbrev aw9:=@List.nodup_nil
abbrev axa:=@List.lt_irrefl
abbrev axb:=@Nat.blt_eq
abbrev axc:=@List.all_cons
abbrev axd:=@List.map_take
open Go
inductive U where
 | bool (b:Bool)
 | int (k:IntKind) (n:Int)
 | str (s:List UInt8)
 | jE | aW | hS | jC | jD
 | aJ (cs:List U)
 | bE (vs:List U)
 | ptr (b off sz:Nat)
 | b3 (cs:List U) (off:Nat)
 | au (z b off len cap sz:Nat)
 | bR (z:Nat) (es:List (List U))
 | fn (f:FuncId) (first fY:List U)
 | mp (b:Nat)
 | it (b:Nat)
 | gQ (t:TypeId) (v:U)
 | mD (l:Nat)
 | bad
 deriving Inhabited
inductive a2 where
 | none
 | dead
 | cells (sz:Nat) (cs:List U)
 | map (es:List (U × U × Nat)) (aoT:Nat)
 | iter (s:List UInt8) (pos:Nat)
 deriving Inhabited
inductive cG (α:Type) where
 | nil
 | node (l:cG α) (v:Option α) (r:cG α)
def cG.get {α:Type}:cG α->Nat->Option α
 | .nil,_=>none
 | .node l v r,n=>match Nat.beq n 0 with
  | true=>v
  | false=>match Nat.beq (n % 2) 1 with
   | true=>l.get (n / 2)
   | false=>r.get (n / 2 - 1)
def cG.kP {α:Type}:Nat->cG α->Nat->α->cG α
 | 0,t,_,_=>t
 | k+1,.nil,n,x=>match Nat.beq n 0 with
  | true=>.node .nil (some x) .nil
  | false=>match Nat.beq (n % 2) 1 with
   | true=>.node (cG.kP k .nil (n / 2) x) none .nil
   | false=>.node .nil none (cG.kP k .nil (n / 2 - 1) x)
 | k+1,.node l v r,n,x=>match Nat.beq n 0 with
  | true=>.node l (some x) r
  | false=>match Nat.beq (n % 2) 1 with
   | true=>.node (cG.kP k l (n / 2) x) v r
   | false=>.node l v (cG.kP k r (n / 2 - 1) x)
def cG.set {α:Type} (t:cG α) (n:Nat) (x:α) :cG α:=t.kP (n+1) n x
theorem jU {a b:Nat} (h:¬ a=b) :Nat.beq a b=false:=by
 cases ag:Nat.beq a b with
 | false=>rfl
 | true=>exact absurd (auP ag) h
theorem tb {a b:Nat} (h:a=b) :Nat.beq a b=true:=by subst h; exact awQ a
theorem cG.CA {α:Type}:∀ (k:Nat) (t:cG α) (n:Nat) (x:α) (m:Nat),n<k->(t.kP k n x).get m=if m=n then some x else t.get m
 | 0,_,_,_,_,h=>by omega
 | k+1,.nil,n,x,m,h=>by
  unfold cG.kP;by_cases aE:n=0
  ·subst aE;simp only;unfold cG.get;by_cases hm:m=0
   ·subst hm; simp
   ·have:Nat.beq m 0=false:=jU hm;simp only[this,if_neg hm];split<;>rfl
  ·have ag:Nat.beq n 0=false:=jU aE;simp only[ag];by_cases h1:n % 2=1
   ·have gM:Nat.beq (n % 2) 1=true:=tb h1;simp only[gM];unfold cG.get;by_cases hm:m=0
    ·subst hm; simp; omega
    ·have:Nat.beq m 0=false:=jU hm;simp only[this];by_cases gb:m % 2=1
     ·have:Nat.beq (m % 2) 1=true:=tb gb;simp only[this];rw[cG.CA k .nil (n / 2) x (m / 2) (by omega)];by_cases am:m=n
      ·subst am; simp
      ·rw[if_neg am,if_neg (by omega)]; rfl
     ·have:Nat.beq (m % 2) 1=false:=jU gb;simp only[this];rw[if_neg (by intro aG; subst aG; exact gb h1)];rfl
   ·have gM:Nat.beq (n % 2) 1=false:=jU h1;simp only[gM];unfold cG.get;by_cases hm:m=0
    ·subst hm; simp; omega
    ·have:Nat.beq m 0=false:=jU hm;simp only[this];by_cases gb:m % 2=1
     ·have:Nat.beq (m % 2) 1=true:=tb gb;simp only[this];rw[if_neg (by intro aG; subst aG; exact h1 gb)];rfl
     ·have:Nat.beq (m % 2) 1=false:=jU gb;simp only[this];rw[cG.CA k .nil (n / 2 - 1) x (m / 2 - 1) (by omega)];by_cases am:m=n
      ·subst am; simp
      ·rw[if_neg am,if_neg (by omega)]; rfl
 | k+1,.node l v r,n,x,m,h=>by
  unfold cG.kP;by_cases aE:n=0
  ·subst aE;simp only;unfold cG.get;by_cases hm:m=0
   ·subst hm; simp
   ·have:Nat.beq m 0=false:=jU hm;simp only[this,if_neg hm]
  ·have ag:Nat.beq n 0=false:=jU aE;simp only[ag];by_cases h1:n % 2=1
   ·have gM:Nat.beq (n % 2) 1=true:=tb h1;simp only[gM];unfold cG.get;by_cases hm:m=0
    ·subst hm; simp; omega
    ·have:Nat.beq m 0=false:=jU hm;simp only[this];by_cases gb:m % 2=1
     ·have:Nat.beq (m % 2) 1=true:=tb gb;simp only[this];rw[cG.CA k l (n / 2) x (m / 2) (by omega)];by_cases am:m=n
      ·subst am; simp
      ·rw[if_neg am,if_neg (by omega)]
     ·have:Nat.beq (m % 2) 1=false:=jU gb;simp only[this];rw[if_neg (by intro aG; subst aG; exact gb h1)]
   ·have gM:Nat.beq (n % 2) 1=false:=jU h1;simp only[gM];unfold cG.get;by_cases hm:m=0
    ·subst hm; simp; omega
    ·have:Nat.beq m 0=false:=jU hm;simp only[this];by_cases gb:m % 2=1
     ·have:Nat.beq (m % 2) 1=true:=tb gb;simp only[this];rw[if_neg (by intro aG; subst aG; exact h1 gb)]
     ·have:Nat.beq (m % 2) 1=false:=jU gb;simp only[this];rw[cG.CA k r (n / 2 - 1) x (m / 2 - 1) (by omega)];by_cases am:m=n
      ·subst am; simp
      ·rw[if_neg am,if_neg (by omega)]
theorem cG.FG {α:Type} (t:cG α) (n:Nat) (x:α) (m:Nat) :(t.set n x).get m=if m=n then some x else t.get m:=cG.CA _ _ _ _ _ (by omega)
structure aO where
 n:Nat
 t:cG a2
def aO.f (h:aO) (b:Nat) :a2:=match h.t.get b with | some c=>c | none=>.none
def aO.empty:aO:=⟨0,.nil⟩
def bO {α:Type} (f:Nat->α) (i:Nat) (v:α) :Nat->α:=fun j=>if j=i then v else f j
def aO.push (h:aO) (c:a2) :aO:=⟨h.n+1,h.t.set h.n c⟩
def aO.set (h:aO) (b:Nat) (c:a2) :aO:=⟨h.n,h.t.set b c⟩
theorem fB (h:aO) (c:a2) :(h.push c).n=h.n+1:=rfl
theorem e3 (h:aO) (b:Nat) (c:a2) :(h.set b c).n=h.n:=rfl
theorem ev (h:aO) (c:a2) :(h.push c).f=bO h.f h.n c:=by
 funext b;simp only[aO.f,aO.push,bO,cG.FG];by_cases ag:b=h.n
 ·simp[ag]
 ·simp[ag]
theorem dV (h:aO) (b:Nat) (c:a2) :(h.set b c).f=bO h.f b c:=by
 funext br;simp only[aO.f,aO.set,bO,cG.FG];by_cases ag:br=b
 ·simp[ag]
 ·simp[ag]
theorem Fu (b:Nat) :aO.empty.f b=.none:=rfl
@[simp] theorem j7 {α:Type} (f:Nat->α) (i:Nat) (v:α) :bO f i v i=v:=by simp[bO]
theorem cf {α:Type} (f:Nat->α) (i j:Nat) (v:α) (h:j≠i) :bO f i v j=f j:=by simp[bO,h]
def U.one:U->Bool
 | .aJ _ | .bE _ | .bad=>false
 | _=>true
def U.cells:U->Option (List U)
 | .aJ cs=>some cs
 | .bE _ | .bad=>none
 | v=>some [v]
def pr:Value->U
 | .bool b=>.bool b
 | .int k n=>.int k n
 | .string s=>.str s.data.toList
 | .pointer a=>match a with | none=>.jE | some _=>.bad
 | .slice a l c=>match a,l,c with | none,0,0=>.aW | _,_,_=>.bad
 | .map r=>match r with | none=>.hS | some _=>.bad
 | .nilFunc=>.jC
 | .nilIface=>.jD
 | .func fn first fY=>match fn,first.toList,fY.toList with | .func f,[],[]=>.fn f [] [] | _,_,_=>.bad
 | _=>.bad
def wU:Value->U
 | .agg cs=>if cs.toList.all Value.oneCell' then .aJ (cs.toList.map pr) else .bad
 | .tuple vs=>.bE (vs.toList.map pr)
 | v=>pr v
def c2 (G:Nat->U) (ae:Nat->U) :Operand->U
 | .tmp t=>ae t
 | .const v=>wU v
 | .func f=>.fn f [] []
 | .global g=>G g
def eo (P:Program) (t:TypeId) :Option Bool:=(P.underlying t).map fun d=>match d with | .struct _ | .array _ _=>true | _=>false
def cB (P:Program) (t:TypeId) :Option Nat:=(P.info? t).map (·.size)
def iQ (P:Program) (t:TypeId) :Option Nat:=(P.info? t).map (·.bytes)
def hJ (P:Program) (t:TypeId) :Option (List U) :=((P.info? t).bind (·.zero)).bind fun v=>if v.cells.toList.all Value.oneCell' then some (v.cells.toList.map pr) else none
def iD (P:Program) (t:TypeId) :Option TypeId:=match P.underlying t with | some (.slice e)=>some e | _=>none
def hU (P:Program) (t:TypeId) (cs:List U) (off:Nat) :Option U:=
 match eo P t,cB P t with
 | some true,some n=>if off+n<=cs.length then some (.aJ ((cs.drop off).take n)) else none
 | some false,_=>cs[off]?
 | _,_=>none
def reach (h:aO) :U->Option (List U × Nat)
 | .ptr b off sz=>match h.f b with
  | .cells n cs=>if n=sz then some (cs,off) else none
  | _=>none
 | .b3 cs off=>some (cs,off)
 | _=>none
def s7 (P:Program) (h:aO) (t:TypeId) (p:U) :Option U:=
 match reach h p with
 | some (cs,off)=>hU P t cs off
 | none=>none
def bu (cs:List U) (off:Nat) (vs:List U) :List U:=cs.take off++vs++cs.drop (off+vs.length)
def Bk (P:Program) (h:aO) (t:TypeId) (p v:U) :Option aO:=
 match p,v.cells,cB P t with
 | .ptr b off sz,some vs,some n=>match h.f b with
  | .cells m cs=>if m=sz/\vs.length=n/\off+n<=m then some (h.set b (.cells m (bu cs off vs))) else none
  | _=>none
 | _,_,_=>none
def asInt:U->Option Int
 | .int _ n=>some n
 | _=>none
def xS (P:Program) (s:TypeId) (f:Nat) :Option Field:=match P.underlying s with | some (.struct fs)=>fs[f]? | _=>none
def nq:U->Nat->Option U
 | .ptr b off sz,k=>some (.ptr b (off+k) sz)
 | .b3 cs off,k=>some (.b3 cs (off+k))
 | _,_=>none
def FA (P:Program) (s:TypeId) (x:U) (f:Nat) :Option U:=
 match xS P s f with
 | some fd=>match cB P fd.type with
  | some (_+1)=>nq x fd.offset
  | _=>none
 | none=>none
def Du (P:Program) (t:TypeId) (x io:U) :Option U:=
 match P.underlying t,asInt io with
 | some (.array len e),some i=>match cB P e with
  | some z=>if 0<=i/\i<len then nq x (i.toNat*z) else none
  | none=>none
 | some (.slice e),some i=>match cB P e,x with
  | some z,.au dz b off len _ sz=>if z=dz/\0<=i/\i<len then some (.ptr b (off+i.toNat*z) sz) else none
  | some z,.bR dz es=>if z=dz/\0<=i then (es[i.toNat]?).map fun cs=>.b3 cs 0 else none
  | _,_=>none
 | _,_=>none
def hD (lc:Nat->Option (Nat × Nat)) (cells:List U) :List (Nat × U)->Option (List U)
 | []=>some cells
 | (i,v) ::rest=>match lc i,v.cells with
  | some (off,size),some vs=>if vs.length=size/\off+size<=cells.length then hD lc (bu cells off vs) rest else none
  | _,_=>none
def D4 (P:Program) (fs:Array Field) (i:Nat) :Option (Nat × Nat) :=(fs[i]?).bind fun f=>(cB P f.type).map fun n=>(f.offset,n)
def BZ (P:Program) (t:TypeId) (parts:List (Nat × U)) :Option U:=
 match hJ P t,P.underlying t with
 | some zero,some (.struct fs)=>if !(fs.toList.all fun f=>(cB P f.type).isSome) then none else (hD (D4 P fs) zero parts).map .aJ
 | some zero,some (.array _ e)=>match cB P e with
  | some n=>(hD (fun i=>some (i*n,n)) zero parts).map .aJ
  | none=>none
 | _,_=>none
def dy (zero:List U) :Nat->List U
 | 0=>[]
 | n+1=>zero++dy zero n
def E7 (P:Program) (h:aO) (t:TypeId) (len:Nat) (parts:List (Nat × U)) :Option (U × aO) :=
 match iD P t with
 | some e=>match cB P e,hJ P e with
  | some z,some zero=>if zero.length=z/\len*z<=16777216 then
    (hD (fun i=>some (i*z,z)) (dy zero len) parts).map fun cs=>(.au z h.n 0 len len (len*z),h.push (.cells (len*z) cs))
   else none
  | _,_=>none
 | none=>none
def cu (op:BinOp) (k:IntKind) (a:Int) (k' : IntKind) (b:Int) :Option U:=
 match op with
 | .shl=>if b<0 then none else some (.int k (k.wrap (a*2 ^ min b.toNat k.bits)))
 | .shr=>if b<0 then none else some (.int k (a.fdiv (2 ^ min b.toNat k.bits)))
 | .add=>if k=k' then some (.int k (k.wrap (a+b))) else none
 | .sub=>if k=k' then some (.int k (k.wrap (a - b))) else none
 | .mul=>if k=k' then some (.int k (k.wrap (a*b))) else none
 | .quo=>if k=k'/\b≠0 then some (.int k (k.wrap (a.tdiv b))) else none
 | .rem=>if k=k'/\b≠0 then some (.int k (a.tmod b)) else none
 | .and=>if k=k' then some (.int k (k.wrap (BitVec.ofInt k.bits a &&& BitVec.ofInt k.bits b).toNat)) else none
 | .or=>if k=k' then some (.int k (k.wrap (BitVec.ofInt k.bits a ||| BitVec.ofInt k.bits b).toNat)) else none
 | .xor=>if k=k' then some (.int k (k.wrap (BitVec.ofInt k.bits a ^^^ BitVec.ofInt k.bits b).toNat)) else none
 | .andNot=>if k=k' then some (.int k (k.wrap (BitVec.ofInt k.bits a &&& ~~~BitVec.ofInt k.bits b).toNat)) else none
 | .eql=>if k=k' then some (.bool (a == b)) else none
 | .neq=>if k=k' then some (.bool (a != b)) else none
 | .lss=>if k=k' then some (.bool (decide (a<b))) else none
 | .leq=>if k=k' then some (.bool (decide (a<=b))) else none
 | .gtr=>if k=k' then some (.bool (decide (a > b))) else none
 | .geq=>if k=k' then some (.bool (decide (a ≥ b))) else none
def oR (op:BinOp) (a b:List UInt8) :Option U:=
 match op with
 | .eql=>some (.bool (a == b))
 | .neq=>some (.bool (!(a == b)))
 | .lss=>some (.bool (Op.bytesLess a b))
 | .leq=>some (.bool (Op.bytesLess a b||a == b))
 | .gtr=>some (.bool (!(Op.bytesLess a b||a == b)))
 | .geq=>some (.bool (!Op.bytesLess a b))
 | .add=>if a.length+b.length<=9223372036854775807 then some (.str (a++b)) else none
 | _=>none
def eP (P:Program) :Nat->TypeId->U->U->Option Bool
 | 0,_,_,_=>none
 | d+1,t,x,y=>
  match P.underlying t,x,y with
  | some .bool,.bool a,.bool b=>some (a == b)
  | some (.int _),.int k a,.int k' b=>if k=k' then some (a == b) else none
  | some .string,.str a,.str b=>some (a == b)
  | some (.struct fs),.aJ xs,.aJ bc=>if P.stoodInHeld t then none else eqFields P (eP P d) xs bc fs.toList
  | some (.array n e),.aJ xs,.aJ bc=>match cB P e with
   | some z=>sw P (eP P d) e z xs bc n 0
   | none=>none
  | some (.slice _),.aW,.aW=>some true
  | some (.slice _),.aW,.au .. | some (.slice _),.aW,.bR .. | some (.slice _),.au ..,.aW | some (.slice _),.bR ..,.aW=>some false
  | _,_,_=>none
where
 eqFields (P:Program) (eq:TypeId->U->U->Option Bool) (xs bc:List U) :List Field->Option Bool
  | []=>some true
  | f::fs=>if f.name= "_" then eqFields P eq xs bc fs else
   match hU P f.type xs f.offset,hU P f.type bc f.offset with
   | some a,some b=>match eq f.type a b with
    | some true=>eqFields P eq xs bc fs
    | some false=>some false
    | none=>none
   | _,_=>none
 sw (P:Program) (eq:TypeId->U->U->Option Bool) (e:TypeId) (z:Nat) (xs bc:List U) :Nat->Nat->Option Bool
  | 0,_=>some true
  | n+1,i=>match hU P e xs (i*z),hU P e bc (i*z) with
   | some a,some b=>match eq e a b with
    | some true=>sw P eq e z xs bc n (i+1)
    | some false=>some false
    | none=>none
   | _,_=>none
def xO (P:Program) (t:TypeId) :U->U->Bool
 | .aJ _,.aJ _=>!P.eqGuardType P.depth t
 | _,_=>true
def gv (P:Program) (op:BinOp) (t:TypeId) (x y:U) :Option U:=
 match x,y with
 | .int k a,.int k' b=>cu op k a k' b
 | .str a,.str b=>oR op a b
 | x,y=>match op with
  | .eql=>if xO P t x y then (eP P 10000 t x y).map .bool else none
  | .neq=>if xO P t x y then (eP P 10000 t x y).map fun b=>.bool (!b) else none
  | _=>none
def qO (op:UnOp) (x:U) :Option U:=
 match op,x with
 | .not,.bool b=>some (.bool (!b))
 | .neg,.int k n=>some (.int k (k.wrap (0 - n)))
 | .xor,.int k n=>some (.int k (k.wrap (BitVec.ofInt k.bits (if k.signed then -1 else k.max) ^^^ BitVec.ofInt k.bits n).toNat))
 | _,_=>none
def l5 (z:Nat) :Nat->List U->List (List U)
 | 0,_=>[]
 | n+1,cs=>cs.take z::l5 z n (cs.drop z)
def jf (b:UInt8) :U:=.int .u8 b.toNat
def contents (h:aO) (z:Nat) :U->Option (List U × Nat)
 | .aW=>some ([],0)
 | .bR dz es=>if z=dz then some (es.flatten,es.length) else none
 | .au dz b off len _ sz=>match h.f b with
  | .cells n cs=>if n=sz/\z=dz then some ((cs.drop off).take (len*z),len) else none
  | _=>none
 | .str s=>if z=1 then some (s.map jf,s.length) else none
 | _=>none
def cK:Nat:=140737488355328
def tD (P:Program) (t:TypeId) :Option Nat:=((P.info? t).bind (·.zero)).map (·.cells.size)
def vy (P:Program) (h:aO) (e:TypeId) (z by_:Nat) (s:U) (xs:List U) (n:Nat) :Option (U × aO) :=
 if n=0 then (match s with | .aW | .bR .. | .au ..=>some (s,h) | _=>none)
 else if z=0\/by_=0\/tD P e≠some z then none else match s with
  | .aW=>if n*by_<=cK then some (.au z h.n 0 n n (n*z),h.push (.cells (n*z) xs)) else none
  | .au dz b off len cap sz=>match h.f b with
   | .cells m cs=>
    if m=sz/\z=dz/\(len+n)*by_<=cK then
     if len+n<=cap then some (.au z b off (len+n) cap sz,h.set b (.cells m (bu cs (off+len*z) xs)))
     else if off+cap*z<sz then some (.au z h.n 0 (len+n) (len+n) ((len+n)*z),h.push (.cells ((len+n)*z) ((cs.drop off).take (len*z)++xs)))
     else if off=0 then some (.au z b 0 (len+n) (len+n) ((len+n)*z),h.set b (.cells ((len+n)*z) (cs.take (len*z)++xs)))
     else some (.au z h.n 0 (len+n) (len+n) ((len+n)*z),(h.set b .dead).push (.cells ((len+n)*z) ((cs.drop off).take (len*z)++xs)))
    else none
   | _=>none
  | _=>none
def sm (P:Program) (h:aO) (t:TypeId) (s x:U) :Option (U × aO) :=
 match iD P t with
 | none=>none
 | some e=>match cB P e,iQ P e with
  | some z,some by_=>match contents h z x with
   | none=>none
   | some (xs,n)=>vy P h e z by_ s xs n
  | _,_=>none
def jJ (x:U) (y:Nat) :Option Nat:=match x with | .int _ i=>if 0<=i/\i<=y then some i.toNat else none | _=>none
def gK (len cap:Nat) (cV av cO:Option U) :Option (Nat × Nat × Nat) :=
 match (match cO with | some v=>jJ v cap | none=>some cap) with
 | none=>none
 | some m=>match (match av,cO with | some v,_=>jJ v m | none,none=>some len | none,some _=>none) with
  | none=>none
  | some h=>match (match cV with | some v=>jJ v h | none=>some 0) with
   | none=>none
   | some l=>some (l,h,m)
def En (P:Program) (t:TypeId) (x:U) (cV av cO:Option U) :Option U:=
 match P.underlying t,x with
 | some (.array n e),x=>match cB P e,gK n n cV av cO with
  | some z,some (l,aG,m)=>match x with
   | .ptr b off sz=>if off+m*z<=sz then (if m=l then some (.bR z []) else some (.au z b (off+l*z) (aG - l) (m - l) sz)) else none
   | .b3 cs off=>if off+n*z<=cs.length then some (.bR z (l5 z (aG - l) (cs.drop (off+l*z)))) else none
   | _=>none
  | _,_=>none
 | some (.slice e),x=>match cB P e,x with
  | some z,.au dz b off len cap sz=>if z=dz then (gK len cap cV av cO).map fun (l,aG,m)=>if m=l then .au z b (off+l*z) 0 0 sz else .au z b (off+l*z) (aG - l) (m - l) sz else none
  | some z,.bR dz es=>if z=dz then (gK es.length es.length cV av cO).map fun (l,aG,_)=>.bR z ((es.drop l).take (aG - l)) else none
  | some _,.aW=>(gK 0 0 cV av cO).map fun _=>.aW
  | _,_=>none
 | some .string,.str s=>match cO with
  | none=>(gK s.length s.length cV av none).map fun (l,aG,_)=>.str ((s.drop l).take (aG - l))
  | some _=>none
 | _,_=>none
def yP (P:Program) (t:TypeId) (x:U) :Option U:=
 match P.underlying t,x with
 | some .string,.str s=>some (.int .i64 s.length)
 | some (.array n _),_=>some (.int .i64 n)
 | some (.slice _),.aW=>some (.int .i64 0)
 | some (.slice _),.au _ _ _ len _ _=>some (.int .i64 len)
 | some (.slice _),.bR _ es=>some (.int .i64 es.length)
 | some (.map _ _),.hS=>some (.int .i64 0)
 | _,_=>none
def Hm (P:Program) (h:aO) (t:TypeId) (l c:U) :Option (U × aO) :=
 match iD P t,asInt l,asInt c with
 | some e,some l,some c=>match cB P e,iQ P e,hJ P e with
  | some z,some by_,some zero=>
   if zero.length=z/\0<=l/\l<=c/\c<9223372036854775808/\by_*c<=cK then
    some (.au z h.n 0 l.toNat c.toNat (c.toNat*z),h.push (.cells (c.toNat*z) (dy zero c.toNat)))
   else none
  | _,_,_=>none
 | _,_,_=>none
def zN (P:Program) (h:aO) (t:TypeId) (d x:U) :Option (U × aO) :=
 match iD P t with
 | none=>none
 | some e=>match cB P e with
  | none=>none
  | some z=>match contents h z x with
   | none=>none
   | some (xs,n)=>match d with
    | .aW=>some (.int .i64 0,h)
    | .au dz b off len _ sz=>match h.f b with
     | .cells m cs=>if m=sz/\z=dz then some (.int .i64 ((min n len:Nat) :Int),h.set b (.cells m (bu cs off (xs.take (min n len*z))))) else none
     | _=>none
    | _=>none
def nl:List U->Option (List UInt8)
 | []=>some []
 | .int .u8 n::r=>(nl r).map (UInt8.ofNat n.toNat::·)
 | _::_=>none
def xJ (P:Program) (h:aO) (src dst:TypeId) (x:U) :Option U:=
 match P.underlying src,P.underlying dst,x with
 | some _,some (.int k),.int _ n=>some (.int k (k.wrap n))
 | some _,some .string,.str s=>some (.str s)
 | some (.slice e),some .string,x=>match P.underlying e,x with
  | some (.int .u8),.aW=>some (.str [])
  | some (.int .u8),x=>match contents h 1 x,x with
   | some _,.str _=>none
   | some (cs,_),_=>(nl cs).map .str
   | none,_=>none
  | _,_=>none
 | _,_,_=>none
def zF (P:Program) (src dst:TypeId) (x:U) :Option U:=
 match P.underlying src,P.underlying dst,x with
 | some _,some (.slice e),.str s=>match P.underlying e with
  | some (.int .u8)=>some (.bR 1 (s.map fun b=>[jf b]))
  | _=>none
 | _,_,_=>none
def zH (P:Program) (t:TypeId) (x:U) :Option U:=
 match P.underlying t,x with
 | some (.array n _),_=>some (.int .i64 n)
 | some (.slice _),.aW=>some (.int .i64 0)
 | _,_=>none
def zK (P:Program) (h:aO) (t:TypeId) (x:U) :Option aO:=
 match P.underlying t,x with
 | some (.slice _),.aW=>some h
 | some (.slice _),.bR _ []=>some h
 | some (.slice e),.au z b off len _ sz=>if len=0 then some h else match hJ P e,h.f b with
  | some zero,.cells m cs=>if m=sz/\zero.length=z then some (h.set b (.cells m (bu cs off (dy zero len)))) else none
  | _,_=>none
 | _,_=>none
def AN (P:Program) (t:TypeId) (x io:U) :Option U:=
 match P.underlying t,x,asInt io with
 | some (.array n e),.aJ cs,some i=>match cB P e with
  | some z=>if 0<=i/\i<n then hU P e cs (i.toNat*z) else none
  | none=>none
 | some .string,.str s,some i=>if 0<=i then (s[i.toNat]?).map jf else none
 | _,_,_=>none
mutual
def U.beq:U->U->Bool
 | .bool a,y=>match y with | .bool b=>(match a,b with | true,true=>true | false,false=>true | _,_=>false) | _=>false
 | .int k n,y=>match y with | .int k' g6=>decide (k=k')&&decide (n=g6) | _=>false
 | .str a,y=>match y with | .str b=>decide (a=b) | _=>false
 | .jE,y=>match y with | .jE=>true | _=>false
 | .aW,y=>match y with | .aW=>true | _=>false
 | .hS,y=>match y with | .hS=>true | _=>false
 | .jC,y=>match y with | .jC=>true | _=>false
 | .jD,y=>match y with | .jD=>true | _=>false
 | .aJ a,y=>match y with | .aJ b=>fu a b | _=>false
 | .bE a,y=>match y with | .bE b=>fu a b | _=>false
 | .ptr a b c,y=>match y with | .ptr e9 br c'=>Nat.beq a e9&&Nat.beq b br&&Nat.beq c c' | _=>false
 | .b3 a n,y=>match y with | .b3 e9 g6=>fu a e9&&Nat.beq n g6 | _=>false
 | .au a b c d e f,y=>match y with | .au e9 br c' q7 fw acs=>Nat.beq a e9&&Nat.beq b br&&Nat.beq c c'&&Nat.beq d q7&&Nat.beq e fw&&Nat.beq f acs | _=>false
 | .bR a b,y=>match y with | .bR e9 br=>Nat.beq a e9&&BU b br | _=>false
 | .fn a b c,y=>match y with | .fn e9 br c'=>Nat.beq a e9&&fu b br&&fu c c' | _=>false
 | .mp a,y=>match y with | .mp e9=>Nat.beq a e9 | _=>false
 | .it a,y=>match y with | .it e9=>Nat.beq a e9 | _=>false
 | .gQ a b,y=>match y with | .gQ e9 br=>Nat.beq a e9&&U.beq b br | _=>false
 | .mD a,y=>match y with | .mD e9=>Nat.beq a e9 | _=>false
 | .bad,y=>match y with | .bad=>true | _=>false
def fu:List U->List U->Bool
 | [],y=>match y with | []=>true | _=>false
 | a::as,y=>match y with | b::bs=>U.beq a b&&fu as bs | _=>false
def BU:List (List U)->List (List U)->Bool
 | [],y=>match y with | []=>true | _=>false
 | a::as,y=>match y with | b::bs=>fu a b&&BU as bs | _=>false
end
theorem kM {a b:Nat} (h:Nat.beq a b=true) :a=b:=Nat.eq_of_beq_eq_true h
mutual
theorem U.beq_eq:∀ {a b:U},U.beq a b=true->a=b
 | .bool a,b,h=>by cases b<;>simp only[U.beq] at h<;>first | cases h | (rename_i b; cases a<;>cases b<;>first | rfl | cases h)
 | .int k n,b,h=>by cases b<;>simp only[U.beq] at h<;>first | cases h | (simp only[Bool.and_eq_true,decide_eq_true_eq] at h; rw[h.1,h.2])
 | .str a,b,h=>by cases b<;>simp only[U.beq] at h<;>first | cases h | (simp only[decide_eq_true_eq] at h; rw[h])
 | .jE,b,h=>by cases b<;>simp only[U.beq] at h<;>first | rfl | cases h
 | .aW,b,h=>by cases b<;>simp only[U.beq] at h<;>first | rfl | cases h
 | .hS,b,h=>by cases b<;>simp only[U.beq] at h<;>first | rfl | cases h
 | .jC,b,h=>by cases b<;>simp only[U.beq] at h<;>first | rfl | cases h
 | .jD,b,h=>by cases b<;>simp only[U.beq] at h<;>first | rfl | cases h
 | .bad,b,h=>by cases b<;>simp only[U.beq] at h<;>first | rfl | cases h
 | .aJ a,b,h=>by cases b<;>simp only[U.beq] at h<;>first | cases h | rw[tT h]
 | .bE a,b,h=>by cases b<;>simp only[U.beq] at h<;>first | cases h | rw[tT h]
 | .ptr ..,b,h=>by cases b<;>simp only[U.beq] at h<;>first | cases h | (simp only[Bool.and_eq_true] at h; rw[kM h.1.1,kM h.1.2,kM h.2])
 | .b3 a n,b,h=>by cases b<;>simp only[U.beq] at h<;>first | cases h | (simp only[Bool.and_eq_true] at h; rw[tT h.1,kM h.2])
 | .au ..,b,h=>by cases b<;>simp only[U.beq] at h<;>first | cases h | (simp only[Bool.and_eq_true] at h; rw[kM h.1.1.1.1.1,kM h.1.1.1.1.2,kM h.1.1.1.2,kM h.1.1.2,kM h.1.2,kM h.2])
 | .bR a n,b,h=>by cases b<;>simp only[U.beq] at h<;>first | cases h | (simp only[Bool.and_eq_true] at h; rw[kM h.1,Pn h.2])
 | .fn a n m,b,h=>by cases b<;>simp only[U.beq] at h<;>first | cases h | (simp only[Bool.and_eq_true] at h; rw[kM h.1.1,tT h.1.2,tT h.2])
 | .mp a,b,h=>by cases b<;>simp only[U.beq] at h<;>first | cases h | rw[kM h]
 | .it a,b,h=>by cases b<;>simp only[U.beq] at h<;>first | cases h | rw[kM h]
 | .mD a,b,h=>by cases b<;>simp only[U.beq] at h<;>first | cases h | rw[kM h]
 | .gQ a n,b,h=>by cases b<;>simp only[U.beq] at h<;>first | cases h | (simp only[Bool.and_eq_true] at h; rw[kM h.1,U.beq_eq h.2])
theorem tT:∀ {a b:List U},fu a b=true->a=b
 | [],b,h=>by cases b<;>simp only[fu] at h<;>first | rfl | cases h
 | x::a,b,h=>by cases b<;>simp only[fu] at h<;>first | cases h | (simp only[Bool.and_eq_true] at h; rw[U.beq_eq h.1,tT h.2])
theorem Pn:∀ {a b:List (List U)},BU a b=true->a=b
 | [],b,h=>by cases b<;>simp only[BU] at h<;>first | rfl | cases h
 | x::a,b,h=>by cases b<;>simp only[BU] at h<;>first | cases h | (simp only[Bool.and_eq_true] at h; rw[tT h.1,Pn h.2])
end
def tl:U->Bool | .int .. | .str _ | .bool _=>true | _=>false
def rK (P:Program) :Nat->TypeId->Bool
 | 0,_=>false
 | d+1,t=>match P.underlying t,cB P t with
  | some (.int _),_=>true
  | some .string,_=>true
  | some .bool,_=>true
  | some (.array n e),some m=>rK P d e&&(match cB P e,eo P e with | some z,some _=>Nat.ble (n*z) m&&Nat.ble 1 z | _,_=>false)
  | some (.struct fs),some m=>fs.toList.all fun f=>rK P d f.type&&(match cB P f.type,eo P f.type with | some z,some _=>Nat.ble (f.offset+z) m&&Nat.ble 1 z | _,_=>false)
  | _,_=>false
def k8 (P:Program) (t:TypeId) (c:U) :Bool:=
 match c with
 | .aJ cs=>rK P 8 t&&(match eo P t,cB P t with | some true,some m=>Nat.beq cs.length m | _,_=>false)&&cs.all tl
 | _=>false
def jK (P:Program) (cU:TypeId) (k:U) :List (U × U × Nat)->Nat->Option (Option (Nat × U))
 | [],_=>some none
 | (k',v,_) ::es,i=>match k8 P cU k' with
  | false=>none
  | true=>match eP P 10000 cU k k' with
   | some true=>match U.beq k k' with | true=>some (some (i,v)) | false=>none
   | some false=>jK P cU k es (i+1)
   | none=>none
def mapOf (h:aO) :U->Option (List (U × U × Nat))
 | .hS=>some []
 | .mp b=>match h.f b with | .map es _=>some es | _=>none
 | _=>none
def zo (P:Program) (t:TypeId) :Option U:=((P.info? t).bind (·.zero)).map wU
def Hg (P:Program) (h:aO) (t:TypeId) (m k:U) (ok:Bool) :Option U:=
 match P.underlying t,mapOf h m with
 | some (.map cU mI),some es=>match k8 P cU k with
  | false=>none
  | true=>match jK P cU k es 0 with
   | some (some (_,v))=>some (if ok then .bE [v,.bool true] else v)
   | some none=>(zo P mI).map fun z=>if ok then .bE [z,.bool false] else z
   | none=>none
 | _,_=>none
def yU (P:Program) (h:aO) (t:TypeId) (m k v:U) :Option aO:=
 match P.underlying t,m with
 | some (.map cU _),.mp b=>match h.f b with
  | .map es eN=>match k8 P cU k with
   | false=>none
   | true=>match jK P cU k es 0 with
    | some (some (i,_))=>some (h.set b (.map (es.modify i fun e=>(k,v,e.2.2)) eN))
    | some none=>some (h.set b (.map (es++[(k,v,eN)]) (eN+1)))
    | none=>none
  | _=>none
 | _,_=>none
def yQ (P:Program) (h:aO) (t:TypeId) (x:U) :Option U:=
 match P.underlying t,x with
 | some (.map _ _),.mp b=>match h.f b with | .map es _=>some (.int .i64 es.length) | _=>none
 | _,_=>none
def HR (P:Program) (h:aO) (t:TypeId) (x:U) :Option (U × aO) :=
 match P.underlying t,x with
 | some .string,.str s=>some (.it h.n,h.push (.iter s 0))
 | _,_=>none
def AY (h:aO) (x:U) :Option (U × aO) :=
 match x with
 | .it b=>match h.f b with
  | .iter s pos=>match Nat.blt pos s.length with
   | true=>some (.bE [.bool true,.int .i64 pos,.int .i32 (Utf8.decode ⟨s.toArray⟩ pos).1],h.set b (.iter s (pos+(Utf8.decode ⟨s.toArray⟩ pos).2)))
   | false=>some (.bE [.bool false],h)
  | _=>none
 | _=>none
def n5:List UInt8->List UInt8->Int
 | [],[]=>0
 | [],_::_=>-1
 | _::_,[]=>1
 | a::as,b::bs=>if a=b then n5 as bs else if a<b then -1 else 1
def sp (h:aO) (x:U) :Option (List UInt8) :=match x with
 | .str s=>some s
 | x=>match contents h 1 x with
  | some (cs,_)=>nl cs
  | none=>none
def Cc (h:aO) :List U->Option U
 | [x,y]=>match sp h x,sp h y with
  | some a,some b=>some (.int .i64 (n5 a b))
  | _,_=>none
 | _=>none
def Dw (fn:Func) :Bool:=fn.body.isNone&&fn.name == "internal/bytealg.Compare"&&(fn.origin == ""||fn.origin == "internal/bytealg.Compare")
inductive pO where
 | val (v:U) (h:aO)
 | call (f:FuncId) (args:List U) (h:aO)
def AW:U->U->Option U
 | .int k x,.int k' y=>if k=k' then some (.int k (if y<x then y else x)) else none
 | _,_=>none
def uU:U->U->Option U
 | .int k x,.int k' y=>if k=k' then some (.int k (if x<y then y else x)) else none
 | _,_=>none
def hv:U:=.bE []
def BR (P:Program) (h:aO) (t:TypeId) (s x:U) :Option (U × aO) :=
 match iD P t,asInt x with
 | some e,some n=>match cB P e,iQ P e,hJ P e with
  | some z,some by_,some zero=>
   if zero.length=z/\0<=n/\n<9223372036854775808/\n.toNat*by_<=cK then vy P h e z by_ s (dy zero n.toNat) n.toNat else none
  | _,_,_=>none
 | _,_=>none
def pU (P:Program) (h:aO) (b:Builtin) (ts:List TypeId) (args:List U) :Option pO:=
 match b,ts,args with
 | .len,[t],[x]=>match yQ P h t x with
  | some v=>some (.val v h)
  | none=>(yP P t x).map fun v=>.val v h
 | .append,[t,u],[s,x]=>match P.underlying u with
  | some (.int _)=>(BR P h t s x).map fun (v,h')=>.val v h'
  | none=>none
  | _=>(sm P h t s x).map fun (v,h')=>.val v h'
 | .copy,[t,_],[d,x]=>(zN P h t d x).map fun (v,h')=>.val v h'
 | .cap,[t],[x]=>(zH P t x).map fun v=>.val v h
 | .clear,[t],[x]=>(zK P h t x).map fun h'=>.val (.bE []) h'
 | .min,_,[x,y]=>(AW x y).map fun v=>.val v h
 | .max,_,[x,y]=>(uU x y).map fun v=>.val v h
 | _,_,_=>none
def yV (P:Program) (t:TypeId) (name:String) :Option FuncId:=
 match P.underlying t with
 | some (.pointer _) | none=>none
 | _=>match P.info? t with
  | some i=>match i.methods.find? (·.name == name) with
   | some m=>match m.path.toList,m.func with
    | [],some (f,false)=>some f
    | _,_=>none
   | none=>none
  | none=>none
def Bm (t:TypeId) (z:U) (ok:Bool) :U->Option U
 | .gQ gu v=>match Nat.beq gu t with
  | true=>match ok with | true=>some (.bE [v,.bool true]) | false=>some v
  | false=>match ok with | true=>some (.bE [z,.bool false]) | false=>none
 | .jD=>match ok with | true=>some (.bE [z,.bool false]) | false=>none
 | _=>none
def Ie (P:Program) (t:TypeId) :Option U:=match P.underlying t with
 | some (.interface _) | none=>none
 | _=>zo P t
def vC (P:Program) (h:aO) (aB:Operand->U) (c:Call) :Option pO:=
 match c.callee with
 | .builtin b=>pU P h b c.argTypes.toList (c.args.toList.map aB)
 | .value f=>match aB f with
  | .fn g first fY=>match P.funcs[g]? with
   | some fn=>if fn.body.isSome/\fn.name≠ "runtime.NumGoroutine" then some (.call g (first++c.args.toList.map aB++fY) h)
    else if Dw fn then (Cc h (first++c.args.toList.map aB++fY)).map fun v=>.val v h else none
   | none=>none
  | _=>none
 | .invoke x name=>match aB x with
  | .gQ t v=>match yV P t name with
   | some g=>match P.funcs[g]? with
    | some fn=>if fn.body.isSome/\fn.name≠ "runtime.NumGoroutine" then some (.call g (v::c.args.toList.map aB) h) else none
    | none=>none
   | none=>none
  | _=>none
def c5 (P:Program) (h:aO) (aB:Operand->U) (op:Op) :Option pO:=
 let v (x:Option U) :Option pO:=x.map fun y=>.val y h
 let w (x:Option (U × aO)) :Option pO:=x.map fun y=>.val y.1 y.2
 match op with
 | .move x | .assign x=>some (.val (aB x) h)
 | .pick c a b=>match aB c with | .bool t=>some (.val (if t then aB a else aB b) h) | _=>none
 | .alloc t=>(hJ P t).map fun z=>.val (.ptr h.n 0 z.length) (h.push (.cells z.length z))
 | .box _ x=>(aB x).cells.map fun cs=>.val (.ptr h.n 0 cs.length) (h.push (.cells cs.length cs))
 | .build t parts=>v (BZ P t (parts.toList.map fun p=>(p.1,aB p.2)))
 | .buildSlice t len parts=>w (E7 P h t len (parts.toList.map fun p=>(p.1,aB p.2)))
 | .load t a=>v (s7 P h t (aB a))
 | .store t a x=>(Bk P h t (aB a) (aB x)).map fun h'=>.val hv h'
 | .nilCheck x=>match aB x with | .ptr b o s=>some (.val (.ptr b o s) h) | .b3 c o=>some (.val (.b3 c o) h) | .fn f a b=>some (.val (.fn f a b) h) | _=>none
 | .binOp op t x y _=>v (gv P op t (aB x) (aB y))
 | .unOp op _ x=>v (qO op (aB x))
 | .convert s d x=>match zF P s d (aB x) with
  | some c=>some (.val c h)
  | none=>v (xJ P h s d (aB x))
 | .makeInterface t x=>match P.underlying t with
  | some (.interface _) | none=>none
  | _=>some (.val (.gQ t (aB x)) h)
 | .makeFunc (.func f) first fY=>some (.val (.fn f (first.toList.map aB) (fY.toList.map aB)) h)
 | .makeSlice t l c=>w (Hm P h t (aB l) (aB c))
 | .slice t x cV av cO=>v (En P t (aB x) (cV.map aB) (av.map aB) (cO.map aB))
 | .fieldAddr s x f=>v (FA P s (aB x) f)
 | .field t x f=>match aB x,xS P t f with
  | .aJ cs,some fd=>v (hU P fd.type cs fd.offset)
  | _,_=>none
 | .indexAddr t x i=>v (Du P t (aB x) (aB i))
 | .index t x i=>v (AN P t (aB x) (aB i))
 | .extract x i=>match aB x with | .bE vs=>v vs[i]? | _=>none
 | .call c=>vC P h aB c
 | .makeMap t r=>match P.underlying t,(match r with | none=>true | some x=>(asInt (aB x)).isSome) with | some (.map _ _),true=>some (.val (.mp h.n) (h.push (.map [] 0))) | _,_=>none
 | .lookup t m k ok=>v (Hg P h t (aB m) (aB k) ok)
 | .mapUpdate t m k x | .insert t m k x=>(yU P h t (aB m) (aB k) (aB x)).map fun h'=>.val hv h'
 | .range t x=>w (HR P h t (aB x))
 | .next it true=>w (AY h (aB it))
 | .typeAssert x _ t ok=>match Ie P t with | some z=>v (Bm t z ok (aB x)) | none=>none
 | _=>none
structure M where
 r:Nat
 s:Nat
 T:Nat
abbrev cP:=Nat->Option M
def live:a2->Bool
 | .cells .. | .map .. | .iter ..=>true
 | _=>false
def ou:a2->Nat
 | .map ..=>1
 | .iter ..=>2
 | _=>0
def l0 (h:aO) (μ:cP) (k:Nat) :Prop:=∃ b m,live (h.f b)=true/\μ b=some m/\m.r=k
def vj (h:aO) (b sz:Nat) :Prop:=h.f b=.dead\/∃ n cs,h.f b=.cells n cs/\sz<n
structure Cell (w:World) (R:Nat->Prop) (h:aO) (μ:cP) (b o:Nat) (v:Value) :Prop where
 here:w.cell? ⟨b,o,none⟩=some v
 one:v.oneCell'=true
 ro:R b
 free:¬ l0 h μ b
inductive aP (w:World) (R:Nat->Prop) (h:aO) (μ:cP) :U->Value->Prop where
 | bool (b:Bool) :aP w R h μ (.bool b) (.bool b)
 | int (k:IntKind) (n:Int) :aP w R h μ (.int k n) (.int k n)
 | str (bs:ByteArray) :aP w R h μ (.str bs.data.toList) (.string bs)
 | jE:aP w R h μ .jE (.pointer none)
 | aW:aP w R h μ .aW (.slice none 0 0)
 | hS:aP w R h μ .hS (.map none)
 | jC:aP w R h μ .jC .nilFunc
 | jD:aP w R h μ .jD .nilIface
 | aJ (cs:List U) (vs:Array Value) (al:vs.size=cs.length) (h1:∀ (j:Nat) (v:Value),vs[j]? = some v->v.oneCell'=true)
   (aq:∀ (j:Nat) (c:U) (v:Value),cs[j]? = some c->vs[j]? = some v->aP w R h μ c v) :aP w R h μ (.aJ cs) (.agg vs)
 | bE (cs:List U) (vs:Array Value) (al:vs.size=cs.length)
   (aq:∀ (j:Nat) (c:U) (v:Value),cs[j]? = some c->vs[j]? = some v->aP w R h μ c v) :aP w R h μ (.bE cs) (.tuple vs)
 | ptr (b off sz:Nat) (cs:List U) (m:M) (ag:h.f b=.cells sz cs) (hm:μ b=some m) :
   aP w R h μ (.ptr b off sz) (.pointer (some ⟨m.r,m.s+off,none⟩))
 | m2 (b off sz:Nat) (a:Addr) (ar:vj h b sz) :aP w R h μ (.ptr b off sz) (.pointer (some a))
 | b3 (cs:List U) (off blk o:Nat) (ey:Nat->Value) (ah:∀ j,j<cs.length->Cell w R h μ blk (o+j) (ey j))
   (aq:∀ (j:Nat) (c:U),cs[j]? = some c->aP w R h μ c (ey j)) :aP w R h μ (.b3 cs off) (.pointer (some ⟨blk,o+off,none⟩))
 | au (z b off len cap sz cap' : Nat) (cs:List U) (m:M) (ag:h.f b=.cells sz cs) (hm:μ b=some m) (al:len<=cap) (ap:off+cap*z<=sz)
   (ah:(off+cap*z<sz/\cap'=cap)\/(off+cap*z=sz/\cap<=cap'/\m.s+off+cap'*z<=m.T)) :
   aP w R h μ (.au z b off len cap sz) (.slice (some ⟨m.r,m.s+off,none⟩) len cap')
 | gH (z b off len cap sz cap' : Nat) (a:Addr) (al:len<=cap) (ah:cap<=cap') (ar:vj h b sz) :aP w R h μ (.au z b off len cap sz) (.slice (some a) len cap')
 | hV (z b off sz:Nat) (a:Addr) (cs:List U) (m:M) (ag:h.f b=.cells sz cs) (hm:μ b=some m) :aP w R h μ (.au z b off 0 0 sz) (.slice (some a) 0 0)
 | bR (z:Nat) (es:List (List U)) (blk off cap:Nat) (ey:Nat->Nat->Value) (al:es.length<=cap) (aw:∀ e,e∈es->e.length=z)
   (ah:∀ i j,i<es.length->j<z->Cell w R h μ blk (off+(i*z+j)) (ey i j))
   (aq:∀ (i:Nat) (e:List U),es[i]? = some e->∀ (j:Nat) (c:U),e[j]? = some c->aP w R h μ c (ey i j)) :
   aP w R h μ (.bR z es) (.slice (some ⟨blk,off,none⟩) es.length cap)
 | fO (z:Nat) (a:Addr) (cap:Nat) :aP w R h μ (.bR z []) (.slice (some a) 0 cap)
 | fn (f:FuncId) (first fY:List U) (fs cs:Array Value) (aD:fs.size=first.length) (ah:cs.size=fY.length)
   (h1:∀ (j:Nat) (c:U) (v:Value),first[j]? = some c->fs[j]? = some v->aP w R h μ c v) (ad:∀ (j:Nat) (c:U) (v:Value),fY[j]? = some c->cs[j]? = some v->aP w R h μ c v) :
   aP w R h μ (.fn f first fY) (.func (.func f) fs cs)
 | mp (b:Nat) (m:M) (ag:ou (h.f b)=1) (hm:μ b=some m) :aP w R h μ (.mp b) (.map (some m.r))
 | it (b:Nat) (m:M) (ag:ou (h.f b)=2) (hm:μ b=some m) :aP w R h μ (.it b) (.pointer (some ⟨m.r,0,none⟩))
 | gQ (t:TypeId) (c:U) (v:Value) (aq:aP w R h μ c v) :aP w R h μ (.gQ t c) (.iface t v)
 | mD (l:Nat) :aP w R h μ (.mD l) (.func (.yield l) #[] #[])
 | bad (v:Value) :aP w R h μ .bad v
structure Ext0 (w:World) (h:aO) (μ:cP) (w' : World) (h' : aO) (μ' : cP) :Prop where
 os:w'.os=w.os
 tape:w'.tape=w.tape
 output:w'.output=w.output
 size:w.heap.size<=w'.heap.size
 cy:∀ k,k<w.heap.size->¬ l0 h μ k->w'.heap[k]? = w.heap[k]?
 own:∀ k,l0 h' μ' k->l0 h μ k\/w.heap.size<=k
 cells:∀ b sz cs m,h.f b=.cells sz cs->μ b=some m->(∃ cs',h'.f b=.cells sz cs'/\μ' b=some m)\/vj h' b sz
 gone:∀ b sz,vj h b sz->vj h' b sz
 Hw:∀ b k m,ou (h.f b)=k+1->μ b=some m->ou (h'.f b)=k+1/\μ' b=some m
 n:h.n<=h'.n
 drawn:w.drawn<=w'.drawn:=by first | exact Nat.le_refl _ | exact Nat.le_succ _ | assumption
structure dL (w:World) (h:aO) (μ:cP) (w' : World) (h' : aO) (μ' : cP) :Prop extends Ext0 w h μ w' h' μ' where
 qP:∀ b,b<h.n->μ b=none->μ' b=none
theorem Ext0.refl (w:World) (h:aO) (μ:cP) :Ext0 w h μ w h μ:=
 ⟨rfl,rfl,rfl,Nat.le_refl _,fun _ _ _=>rfl,fun _ h=>.inl h,fun b sz cs m h1 ad=>.inl ⟨cs,h1,ad⟩,fun _ _ h=>h,fun _ _ _ h1 ad=>⟨h1,ad⟩,Nat.le_refl _,Nat.le_refl _⟩
theorem dL.refl (w:World) (h:aO) (μ:cP) :dL w h μ w h μ:=⟨.refl w h μ,fun _ _ h=>h⟩
theorem Ext0.trans {w b1 w2:World} {h h1 ad:aO} {μ hc sa:cP} (a:Ext0 w h μ b1 h1 hc) (b:Ext0 b1 h1 hc w2 ad sa) :Ext0 w h μ w2 ad sa:=by
 refine⟨b.os.trans a.os,b.tape.trans a.tape,b.output.trans a.output,Nat.le_trans a.size b.size,?_,?_,?_,fun _ _ ar=>b.gone _ _ (a.gone _ _ ar),?_,Nat.le_trans a.n b.n,Nat.le_trans a.drawn b.drawn⟩
 ·intro k hk aC;rw[b.cy k (Nat.lt_of_lt_of_le hk a.size) (fun ap=>(a.own k ap).elim aC (by omega)),a.cy k hk aC]
 ·intro k hk;rcases b.own k hk with h | h
  ·exact a.own k h
  ·exact .inr (Nat.le_trans a.size h)
 ·intro blk sz cs m ag hm;rcases a.cells blk sz cs m ag hm with ⟨cs',aj,aF⟩ | aj
  ·exact b.cells blk sz cs' m aj aF
  ·exact .inr (b.gone _ _ aj)
 ·intro blk k m ag hm;obtain⟨aj,aF⟩:=a.Hw blk k m ag hm;exact b.Hw blk k m aj aF
theorem dL.trans {w b1 w2:World} {h h1 ad:aO} {μ hc sa:cP} (a:dL w h μ b1 h1 hc) (b:dL b1 h1 hc w2 ad sa) :dL w h μ w2 ad sa:=
 ⟨a.toExt0.trans b.toExt0,fun blk ag hm=>b.qP blk (Nat.lt_of_lt_of_le ag a.n) (a.qP blk ag hm)⟩
theorem Cell.ext {w w' : World} {h h' : aO} {μ μ' : cP} {R:Nat->Prop} {b o:Nat} {v:Value} (e:Ext0 w h μ w' h' μ') (c:Cell w R h μ b o v) :Cell w' R h' μ' b o v:=by
 have ag:b<w.heap.size:=World.block_lt_of_cell? _ _ c.here;refine⟨?_,c.one,c.ro,fun ap=>?_⟩
 ·rw[World.cell?_of_block (w:=w) (a:=⟨b,o,none⟩) (e.cy b ag c.free)]; exact c.here
 ·rcases e.own b ap with h1 | h1
  ·exact c.free h1
  ·omega
theorem aP.nv {w w' : World} {h h' : aO} {μ μ' : cP} {R:Nat->Prop} {c:U} {v:Value} (e:Ext0 w h μ w' h' μ') (aq:aP w R h μ c v) :aP w' R h' μ' c v:=by
 induction aq with
 | bool b=>exact .bool b
 | int k n=>exact .int k n
 | str bs=>exact .str bs
 | jE=>exact .jE
 | aW=>exact .aW
 | hS=>exact .hS
 | jC=>exact .jC
 | jD=>exact .jD
 | aJ cs vs al h1 aq aI=>exact .aJ cs vs al h1 aI
 | bE cs vs al aq aI=>exact .bE cs vs al aI
 | ptr b off sz cs m ag hm=>
  rcases e.cells b sz cs m ag hm with ⟨cs',h1,ad⟩ | h1
  ·exact .ptr b off sz cs' m h1 ad
  ·exact .m2 b off sz _ h1
 | m2 b off sz a ar=>exact .m2 b off sz a (e.gone _ _ ar)
 | b3 cs off blk o ey ah aq aI=>exact .b3 cs off blk o ey (fun j ai=>(ah j ai).ext e) aI
 | au z b off len cap sz cap' cs m ag hm al ap ah=>
  rcases e.cells b sz cs m ag hm with ⟨cs',h1,ad⟩ | h1
  ·exact .au z b off len cap sz cap' cs' m h1 ad al ap ah
  ·exact .gH z b off len cap sz cap' _ al (by omega) h1
 | gH z b off len cap sz cap' a al ah ar=>exact .gH z b off len cap sz cap' a al ah (e.gone _ _ ar)
 | hV z b off sz a cs m ag hm=>
  rcases e.cells b sz cs m ag hm with ⟨cs',h1,ad⟩ | h1
  ·exact .hV z b off sz a cs' m h1 ad
  ·exact .gH z b off 0 0 sz 0 a (Nat.le_refl _) (Nat.le_refl _) h1
 | bR z es blk off cap ey al aw ah aq aI=>exact .bR z es blk off cap ey al aw (fun i j av ai=>(ah i j av ai).ext e) aI
 | fO z a cap=>exact .fO z a cap
 | fn f first fY fs cs aD ah h1 ad dd hQ=>exact .fn f first fY fs cs aD ah dd hQ
 | mp b m ag hm=>
  obtain⟨h1,ad⟩:=e.Hw b 0 m ag hm;exact .mp b m h1 ad
 | it b m ag hm=>
  obtain⟨h1,ad⟩:=e.Hw b 1 m ag hm;exact .it b m h1 ad
 | gQ t c v aq aI=>exact .gQ t c v aI
 | mD l=>exact .mD l
 | bad v=>exact .bad v
theorem aP.ext {w w' : World} {h h' : aO} {μ μ' : cP} {R:Nat->Prop} {c:U} {v:Value} (e:dL w h μ w' h' μ') (aq:aP w R h μ c v) :aP w' R h' μ' c v:=aq.nv e.toExt0
def vi (w:World) (R:Nat->Prop) (h:aO) (μ:cP) (m:M) :a2->Prop
 | .cells sz cs=>cs.length=sz/\m.s+sz<=m.T/\∃ arr e gh,w.heap[m.r]? = some (.cells arr e gh)/\arr.size=m.T/\(gh=(0,0)\/m.T<gh.1) ∧
   ∀ (j:Nat) (c:U),cs[j]? = some c->∃ v:Value,arr[m.s+j]? = some v/\v.oneCell'=true/\aP w R h μ c v
 | .map es eN=>∃ du,w.heap[m.r]? = some (.map du eN)/\du.size=es.length ∧
   ∀ (j:Nat) (k v:U) (b:Nat),es[j]? = some (k,v,b)->∃ x:MapEntry,du[j]? = some x/\aP w R h μ k x.key/\aP w R h μ v x.val/\x.born=b
 | .iter s pos=>∃ bs:ByteArray,bs.data.toList=s/\w.heap[m.r]? = some (.stringIter bs pos)
 | _=>True
theorem vi.ext {w w' : World} {h h' : aO} {μ μ' : cP} {R:Nat->Prop} {m:M} (e:Ext0 w h μ w' h' μ') (hw:w'.heap[m.r]? = w.heap[m.r]?) :
  ∀ {c:a2},vi w R h μ m c->vi w' R h' μ' m c
 | .cells sz cs,⟨h1,ad,arr,t,gh,aj,aF,aU,bt⟩=>⟨h1,ad,arr,t,gh,hw.trans aj,aF,aU,fun j c ai=>let ⟨v,a,b,d⟩:=bt j c ai; ⟨v,a,b,d.nv e⟩⟩
 | .map es eN,⟨du,h1,ad,aj⟩=>⟨du,hw.trans h1,ad,fun j k v b ai=>let ⟨x,a,dW,d,f⟩:=aj j k v b ai; ⟨x,a,dW.nv e,d.nv e,f⟩⟩
 | .iter s pos,⟨bs,h1,ad⟩=>⟨bs,h1,hw.trans ad⟩
 | .none,_=>trivial
 | .dead,_=>trivial
structure b9 (R:Nat->Prop) (B:Nat) (w:World) (h:aO) (μ:cP) :Prop where
 blk:∀ b m,μ b=some m->vi w R h μ m (h.f b)
 inj:∀ b br m cv,live (h.f b)=true->live (h.f br)=true->μ b=some m->μ br=some cv->m.r=cv.r->b=br
 base:∀ b m,live (h.f b)=true->μ b=some m->B<=m.r
 fresh:∀ b,h.n<=b->h.f b=.none
 up:∀ k,B<=k->R k
 size:B<=w.heap.size
 la:∀ b,h.n<=b->μ b=none
theorem b9.so {R:Nat->Prop} {B:Nat} {w:World} {h:aO} {μ:cP} (rel:b9 R B w h μ) {b:Nat} {m:M} (hm:μ b=some m) :b<h.n:=by
 rcases Nat.lt_or_ge b h.n with h1 | h1
 ·exact h1
 ·rw[rel.la b h1] at hm; cases hm
theorem b9.lt {R:Nat->Prop} {B:Nat} {w:World} {h:aO} {μ:cP} (rel:b9 R B w h μ) {b:Nat} {m:M} (al:live (h.f b)=true) (hm:μ b=some m) :m.r<w.heap.size:=by
 have ag:=rel.blk b m hm;cases ah:h.f b with
 | none=>rw[ah] at al; cases al
 | dead=>rw[ah] at al; cases al
 | cells sz cs=>
  rw[ah] at ag;obtain⟨_,_,arr,t,gh,aj,_⟩:=ag;rcases Nat.lt_or_ge m.r w.heap.size with h | h
  ·exact h
  ·rw[Array.getElem?_eq_none h] at aj; cases aj
 | map es eN=>
  rw[ah] at ag;obtain⟨du,aj,_⟩:=ag;rcases Nat.lt_or_ge m.r w.heap.size with h | h
  ·exact h
  ·rw[Array.getElem?_eq_none h] at aj; cases aj
 | iter s pos=>
  rw[ah] at ag;obtain⟨bs,_,aj⟩:=ag;rcases Nat.lt_or_ge m.r w.heap.size with h | h
  ·exact h
  ·rw[Array.getElem?_eq_none h] at aj; cases aj
theorem b9.vf {R:Nat->Prop} {B:Nat} {w w' : World} {h h' : aO} {μ μ' : cP} (rel:b9 R B w h μ) (e:Ext0 w h μ w' h' μ') (hf:Nat)
  (qq:∀ b,b≠hf->live (h'.f b)=true->h'.f b=h.f b/\μ' b=μ b/\∀ m,μ b=some m->w'.heap[m.r]? = w.heap[m.r]?)
  (k1:∀ m,μ' hf=some m->vi w' R h' μ' m (h'.f hf))
  (et:∀ b m cv,b≠hf->live (h'.f b)=true->live (h'.f hf)=true->μ b=some m->μ' hf=some cv->m.r≠cv.r)
  (F4:∀ m,live (h'.f hf)=true->μ' hf=some m->B<=m.r)
  (aeX:∀ b,h'.n<=b->h'.f b=.none) (afI:∀ b,h'.n<=b->μ' b=none) :b9 R B w' h' μ':=by
 refine⟨?_,?_,?_,aeX,rel.up,Nat.le_trans rel.size e.size,afI⟩
 ·intro b m hm;by_cases ag:b=hf
  ·subst ag; exact k1 m hm
  ·cases al:live (h'.f b) with
   | false=>cases ah:h'.f b<;>first | trivial | (rw[ah] at al; cases al)
   | true=>
    obtain⟨h1,ad,aj⟩:=qq b ag al;rw[ad] at hm;rw[h1];exact (rel.blk b m hm).ext e (aj m hm)
 ·intro b br m cv al db hm b5 az;by_cases ag:b=hf<;>by_cases bL:br=hf
  ·rw[ag,bL]
  ·subst ag;obtain⟨h1,ad,aj⟩:=qq br bL db;rw[ad] at b5;exact absurd az.symm (et br cv m bL db al b5 hm)
  ·subst bL;obtain⟨h1,ad,aj⟩:=qq b ag al;rw[ad] at hm;exact absurd az (et b m cv ag al db hm b5)
  ·obtain⟨h1,ad,_⟩:=qq b ag al;obtain⟨aj,aF,_⟩:=qq br bL db;rw[h1] at al; rw[ad] at hm; rw[aj] at db; rw[aF] at b5;exact rel.inj b br m cv al db hm b5 az
 ·intro b m al hm;by_cases ag:b=hf
  ·subst ag; exact F4 m al hm
  ·obtain⟨h1,ad,_⟩:=qq b ag al;rw[h1] at al; rw[ad] at hm;exact rel.base b m al hm
theorem b9.push {R:Nat->Prop} {B:Nat} {w w' : World} {h:aO} {μ:cP} (rel:b9 R B w h μ) (cs:List U) (arr:Array Value) (t:TypeId)
  (qp:w'.os=w.os) (uF:w'.tape=w.tape) (lF:w'.output=w.output) (ke:w'.heap=w.heap.push (.cells arr t (0,0)))
  (g5:cs.length<=arr.size) (aq:∀ (j:Nat) (c:U),cs[j]? = some c->∃ v:Value,arr[j]? = some v/\v.oneCell'=true/\aP w R h μ c v) (rq:w.drawn<=w'.drawn:=by first | exact Nat.le_refl _ | exact Nat.le_succ _ | assumption) :
  dL w h μ w' (h.push (.cells cs.length cs)) (bO μ h.n (some ⟨w.heap.size,0,arr.size⟩)) ∧
  b9 R B w' (h.push (.cells cs.length cs)) (bO μ h.n (some ⟨w.heap.size,0,arr.size⟩)) :=by
 have aC:h.f h.n=.none:=rel.fresh _ (Nat.le_refl _);have e:dL w h μ w' (h.push (.cells cs.length cs)) (bO μ h.n (some ⟨w.heap.size,0,arr.size⟩)) :=by
  refine⟨⟨qp,uF,lF,by simp[ke],?_,?_,?_,?_,?_,?_,rq⟩,?_⟩
  ·intro k hk _;rw[ke,Array.getElem?_push,if_neg (by omega)]
  ·rintro k ⟨b,m,al,hm,rfl⟩;by_cases ag:b=h.n
   ·subst ag; simp at hm; subst hm; exact .inr (Nat.le_refl _)
   ·rw[cf _ _ _ _ ag] at hm;simp only[ev,fB,cf _ _ _ _ ag] at al;exact .inl ⟨b,m,al,hm,rfl⟩
  ·intro b sz cs' m ag hm;have:b≠h.n:=fun aG=>by rw[aG,aC] at ag; cases ag
   exact .inl ⟨cs',by simp only[ev,fB,cf _ _ _ _ this]; exact ag,by rw[cf _ _ _ _ this]; exact hm⟩
  ·rintro b sz (ag | ⟨n,cs',ag,aN⟩)
   ·have:b≠h.n:=fun aG=>by rw[aG,aC] at ag; cases ag
    exact .inl (by simp only[ev,fB,cf _ _ _ _ this]; exact ag)
   ·have:b≠h.n:=fun aG=>by rw[aG,aC] at ag; cases ag
    exact .inr ⟨n,cs',by simp only[ev,fB,cf _ _ _ _ this]; exact ag,aN⟩
  ·intro b k m ag hm;have:b≠h.n:=fun aG=>by rw[aG,aC] at ag; cases ag
   exact⟨by simp only[ev,fB,cf _ _ _ _ this]; exact ag,by rw[cf _ _ _ _ this]; exact hm⟩
  ·simp[ev,fB]
  ·intro b ag hm;rw[cf _ _ _ _ (by omega)]; exact hm
 refine⟨e,rel.vf e.toExt0 h.n ?_ ?_ ?_ ?_ ?_ ?_⟩
 ·intro b ag al;simp only[ev,fB,cf _ _ _ _ ag] at al ⊢;exact⟨trivial,trivial,fun m hm=>by rw[ke,Array.getElem?_push,if_neg (by have:=rel.lt al hm; omega)]⟩
 ·intro m hm;simp at hm; subst hm;simp only[ev,fB,j7];refine⟨rfl,by simpa using g5,arr,t,(0,0),by simp[ke],rfl,.inl rfl,fun j c ai=>?_⟩;obtain⟨v,h1,ad,aj⟩:=aq j c ai;exact⟨v,by simpa using h1,ad,aj.ext e⟩
 ·intro b m cv ag al _ hm b5;simp only[ev,fB,cf _ _ _ _ ag] at al;simp at b5; subst b5;have:=rel.lt al hm;simp only[ne_eq]; omega
 ·intro m _ hm;simp at hm; subst hm;exact rel.size
 ·intro b ag;simp only[ev,fB] at ag ⊢;rw[cf _ _ _ _ (by omega)];exact rel.fresh b (by omega)
 ·intro b ag;simp only[ev,fB] at ag;rw[cf _ _ _ _ (by omega)];exact rel.la b (by omega)
theorem b9.same {R:Nat->Prop} {B:Nat} {w:World} {h h' : aO} {μ:cP} (rel:b9 R B w h μ) (aD:h'.f=h.f) (aC:h'.n=h.n) :dL w h μ w h' μ/\b9 R B w h' μ:=by
 have e:dL w h μ w h' μ:=by
  refine⟨⟨rfl,rfl,rfl,Nat.le_refl _,fun _ _ _=>rfl,?_,?_,?_,?_,by omega,Nat.le_refl _⟩,fun _ _ hm=>hm⟩
  ·rintro k ⟨br,cv,db,b5,rfl⟩;rw[aD] at db; exact .inl ⟨br,cv,db,b5,rfl⟩
  ·intro br sz' cs' cv bL b5;exact .inl ⟨cs',by rw[aD]; exact bL,b5⟩
  ·intro br sz' ar;unfold vj at ar ⊢; rw[aD]; exact ar
  ·intro br k' cv bL b5;exact⟨by rw[aD]; exact bL,b5⟩
 refine⟨e,rel.vf e.toExt0 h.n (fun b _ _=>⟨by rw[aD],rfl,fun _ _=>rfl⟩) (fun m hm=>?_) (fun b m cv _ _ _ _ hm=>?_) (fun m _ hm=>?_) (fun b ag=>by rw[aD]; exact rel.fresh b (by omega)) (by rw[aC]; exact rel.la)⟩
 all_goals (rw[rel.la h.n (Nat.le_refl _)] at hm; cases hm)
theorem b9.kill {R:Nat->Prop} {B:Nat} {w:World} {h h' : aO} {μ:cP} (rel:b9 R B w h μ) {b sz:Nat} {cs:List U} (ag:h.f b=.cells sz cs) (o4:b<h.n)
  (aD:h'.f=bO h.f b .dead) (aC:h'.n=h.n) :dL w h μ w h' μ/\b9 R B w h' μ:=by
 have e:dL w h μ w h' μ:=by
  refine⟨⟨rfl,rfl,rfl,Nat.le_refl _,fun _ _ _=>rfl,?_,?_,?_,?_,by omega,Nat.le_refl _⟩,fun _ _ hm=>hm⟩
  ·rintro k ⟨br,cv,db,b5,rfl⟩;rw[aD] at db;by_cases b7:br=b
   ·subst b7; simp[live] at db
   ·rw[cf _ _ _ _ b7] at db; exact .inl ⟨br,cv,db,b5,rfl⟩
  ·intro br sz' cs' cv bL b5;by_cases b7:br=b
   ·subst b7; exact .inr (.inl (by rw[aD]; simp))
   ·exact .inl ⟨cs',by rw[aD,cf _ _ _ _ b7]; exact bL,b5⟩
  ·rintro br sz' ar;by_cases b7:br=b
   ·subst b7; exact .inl (by rw[aD]; simp)
   ·rcases ar with ar | ⟨n,cs',ar,aN⟩
    ·exact .inl (by rw[aD,cf _ _ _ _ b7]; exact ar)
    ·exact .inr ⟨n,cs',by rw[aD,cf _ _ _ _ b7]; exact ar,aN⟩
  ·intro br k' cv bL b5;by_cases b7:br=b
   ·subst b7; rw[ag] at bL; cases bL
   ·exact⟨by rw[aD,cf _ _ _ _ b7]; exact bL,b5⟩
 refine⟨e,rel.vf e.toExt0 b ?_ ?_ ?_ ?_ ?_ (by rw[aC]; exact rel.la)⟩
 ·intro br b7 al;rw[aD,cf _ _ _ _ b7];exact⟨rfl,rfl,fun _ _=>rfl⟩
 ·intro m _;rw[aD]; simp[vi]
 ·intro br m cv _ _ al;rw[aD] at al; simp[live] at al
 ·intro m al;rw[aD] at al; simp[live] at al
 ·intro br bL;rw[aD,cf _ _ _ _ (by omega)];exact rel.fresh br (by omega)
theorem b9.XM {R:Nat->Prop} {B:Nat} {w:World} {h h' : aO} {μ:cP} (rel:b9 R B w h μ) {b sz off:Nat} {cs:List U} {m:M} (ag:h.f b=.cells sz cs) (hm:μ b=some m) (ap:off<=sz)
  (aD:h'.f=bO (bO h.f b .dead) h.n (.cells (sz - off) (cs.drop off))) (aC:h'.n=h.n+1) :
  dL w h μ w h' (bO μ h.n (some ⟨m.r,m.s+off,m.T⟩))/\b9 R B w h' (bO μ h.n (some ⟨m.r,m.s+off,m.T⟩)) :=by
 have o4:=rel.so hm;have yt:h.f h.n=.none:=rel.fresh _ (Nat.le_refl _);have k2:live (h.f b)=true:=by rw[ag]; rfl
 have e:dL w h μ w h' (bO μ h.n (some ⟨m.r,m.s+off,m.T⟩)) :=by
  refine⟨⟨rfl,rfl,rfl,Nat.le_refl _,fun _ _ _=>rfl,?_,?_,?_,?_,by omega,Nat.le_refl _⟩,fun br bL b5=>by rw[cf _ _ _ _ (by omega)]; exact b5⟩
  ·rintro k ⟨br,cv,db,b5,rfl⟩;rw[aD] at db;by_cases kx:br=h.n
   ·subst kx; simp at b5; subst b5; exact .inl ⟨b,m,k2,hm,rfl⟩
   ·rw[cf _ _ _ _ kx] at db b5;by_cases b7:br=b
    ·subst b7; simp[live] at db
    ·rw[cf _ _ _ _ b7] at db; exact .inl ⟨br,cv,db,b5,rfl⟩
  ·intro br sz' cs' cv bL b5;have kx:br≠h.n:=fun aG=>by rw[aG,yt] at bL; cases bL
   by_cases b7:br=b
   ·subst b7; exact .inr (.inl (by rw[aD,cf _ _ _ _ kx]; simp))
   ·exact .inl ⟨cs',by rw[aD,cf _ _ _ _ kx,cf _ _ _ _ b7]; exact bL,by rw[cf _ _ _ _ kx]; exact b5⟩
  ·rintro br sz' ar;have kx:br≠h.n:=fun aG=>by
    subst aG;rcases ar with ar | ⟨n,cs',ar,_⟩
    ·rw[yt] at ar; cases ar
    ·rw[yt] at ar; cases ar
   by_cases b7:br=b
   ·subst b7; exact .inl (by rw[aD,cf _ _ _ _ kx]; simp)
   ·rcases ar with ar | ⟨n,cs',ar,aN⟩
    ·exact .inl (by rw[aD,cf _ _ _ _ kx,cf _ _ _ _ b7]; exact ar)
    ·exact .inr ⟨n,cs',by rw[aD,cf _ _ _ _ kx,cf _ _ _ _ b7]; exact ar,aN⟩
  ·intro br k' cv bL b5;have kx:br≠h.n:=fun aG=>by rw[aG,yt] at bL; cases bL
   by_cases b7:br=b
   ·subst b7; rw[ag] at bL; cases bL
   ·exact⟨by rw[aD,cf _ _ _ _ kx,cf _ _ _ _ b7]; exact bL,by rw[cf _ _ _ _ kx]; exact b5⟩
 have qq:∀ br,br≠h.n->live (h'.f br)=true->br≠b/\h'.f br=h.f br:=fun br kx al=>by
  rw[aD,cf _ _ _ _ kx] at al ⊢;by_cases b7:br=b
  ·subst b7; simp[live] at al
  ·exact⟨b7,by rw[cf _ _ _ _ b7]⟩
 refine⟨e,rel.vf e.toExt0 h.n ?_ ?_ ?_ ?_ ?_ ?_⟩
 ·intro br kx al;exact⟨(qq br kx al).2,by rw[cf _ _ _ _ kx],fun _ _=>rfl⟩
 ·intro cv b5;simp at b5; subst b5;rw[aD,j7];have eR:=rel.blk b m hm;rw[ag] at eR;obtain⟨h1,ad,arr,t,gh,aj,aF,aU,bt⟩:=eR;refine⟨by simp; omega,by simp only; omega,arr,t,gh,aj,aF,aU,fun j c ai=>?_⟩;rw[List.getElem?_drop] at ai;obtain⟨v,aX,a6,a3⟩:=bt (off+j) c ai;exact⟨v,by simp only; rw[Nat.add_assoc]; exact aX,a6,a3.ext e⟩
 ·intro br kL ki kx al _ h1 ad aG;simp at ad; subst ad;obtain⟨b7,g0⟩:=qq br kx al;rw[g0] at al;exact b7 (rel.inj br b kL m al k2 h1 hm aG)
 ·intro cv _ b5;simp at b5; subst b5;exact rel.base b m k2 hm
 ·intro br bL;rw[aD,cf _ _ _ _ (by omega),cf _ _ _ _ (by omega)];exact rel.fresh br (by omega)
 ·intro br bL;rw[cf _ _ _ _ (by omega)];exact rel.la br (by omega)
theorem b9.W9 {R:Nat->Prop} {B:Nat} {w w' : World} {h:aO} {μ:cP} (rel:b9 R B w h μ) (c:a2) (o:Obj) {k:Nat} (hk:ou c=k+1)
  (qp:w'.os=w.os) (uF:w'.tape=w.tape) (lF:w'.output=w.output) (ke:w'.heap=w.heap.push o)
  (df:vi w' R (h.push c) (bO μ h.n (some ⟨w.heap.size,0,0⟩)) ⟨w.heap.size,0,0⟩ c) (rq:w.drawn<=w'.drawn:=by first | exact Nat.le_refl _ | exact Nat.le_succ _ | assumption) :
  dL w h μ w' (h.push c) (bO μ h.n (some ⟨w.heap.size,0,0⟩))/\b9 R B w' (h.push c) (bO μ h.n (some ⟨w.heap.size,0,0⟩)) :=by
 have aC:h.f h.n=.none:=rel.fresh _ (Nat.le_refl _);have ap4:ou a2.none=0:=rfl;have e:dL w h μ w' (h.push c) (bO μ h.n (some ⟨w.heap.size,0,0⟩)) :=by
  refine⟨⟨qp,uF,lF,by simp[ke],?_,?_,?_,?_,?_,?_,rq⟩,?_⟩
  ·intro k hk _;rw[ke,Array.getElem?_push,if_neg (by omega)]
  ·rintro k ⟨b,m,al,hm,rfl⟩;by_cases ag:b=h.n
   ·subst ag; simp at hm; subst hm; exact .inr (Nat.le_refl _)
   ·rw[cf _ _ _ _ ag] at hm;simp only[ev,fB,cf _ _ _ _ ag] at al;exact .inl ⟨b,m,al,hm,rfl⟩
  ·intro b sz cs' m ag hm;have:b≠h.n:=fun aG=>by rw[aG,aC] at ag; cases ag
   exact .inl ⟨cs',by simp only[ev,fB,cf _ _ _ _ this]; exact ag,by rw[cf _ _ _ _ this]; exact hm⟩
  ·rintro b sz (ag | ⟨n,cs',ag,aN⟩)
   ·have:b≠h.n:=fun aG=>by rw[aG,aC] at ag; cases ag
    exact .inl (by simp only[ev,fB,cf _ _ _ _ this]; exact ag)
   ·have:b≠h.n:=fun aG=>by rw[aG,aC] at ag; cases ag
    exact .inr ⟨n,cs',by simp only[ev,fB,cf _ _ _ _ this]; exact ag,aN⟩
  ·intro b k m ag hm;have:b≠h.n:=fun aG=>by rw[aG,aC] at ag; cases ag
   exact⟨by simp only[ev,fB,cf _ _ _ _ this]; exact ag,by rw[cf _ _ _ _ this]; exact hm⟩
  ·simp[ev,fB]
  ·intro b ag hm;rw[cf _ _ _ _ (by omega)]; exact hm
 refine⟨e,rel.vf e.toExt0 h.n ?_ ?_ ?_ ?_ ?_ ?_⟩
 ·intro b ag al;simp only[ev,fB,cf _ _ _ _ ag] at al ⊢;exact⟨trivial,trivial,fun m hm=>by rw[ke,Array.getElem?_push,if_neg (by have:=rel.lt al hm; omega)]⟩
 ·intro m hm;simp at hm; subst hm;simp only[ev,fB,j7];exact df
 ·intro b m cv ag al _ hm b5;simp only[ev,fB,cf _ _ _ _ ag] at al;simp at b5; subst b5;have:=rel.lt al hm;simp only[ne_eq]; omega
 ·intro m _ hm;simp at hm; subst hm;exact rel.size
 ·intro b ag;simp only[ev,fB] at ag ⊢;rw[cf _ _ _ _ (by omega)];exact rel.fresh b (by omega)
 ·intro b ag;simp only[ev,fB] at ag ⊢;rw[cf _ _ _ _ (by omega)];exact rel.la b (by omega)
theorem b9.eL {R:Nat->Prop} {B:Nat} {w w' : World} {h:aO} {μ:cP} (rel:b9 R B w h μ) {b k:Nat} {c c' : a2} {m:M}
  (ag:h.f b=c) (hk:ou c=k+1) (e2:ou c'=k+1) (hm:μ b=some m)
  (qp:w'.os=w.os) (uF:w'.tape=w.tape) (lF:w'.output=w.output) (yG:w'.heap.size=w.heap.size) (Dm:∀ k,k≠m.r->w'.heap[k]? = w.heap[k]?)
  (df:Ext0 w h μ w' (h.set b c') μ->vi w' R (h.set b c') μ m c') (rq:w.drawn<=w'.drawn:=by first | exact Nat.le_refl _ | exact Nat.le_succ _ | assumption) :
  dL w h μ w' (h.set b c') μ/\b9 R B w' (h.set b c') μ:=by
 have k2:live (h.f b)=true:=by rw[ag]; cases c<;>simp[ou] at hk<;>rfl
 have ap8:live c'=true:=by cases c'<;>simp[ou] at e2<;>rfl
 have Gx:∀ sz cs,h.f b≠.cells sz cs:=fun sz cs aG=>by rw[ag] at aG; subst aG; simp[ou] at hk
 have qm:h.f b≠.dead:=fun aG=>by rw[ag] at aG; subst aG; simp[ou] at hk
 have e:dL w h μ w' (h.set b c') μ:=by
  refine⟨⟨qp,uF,lF,Nat.le_of_eq yG.symm,?_,?_,?_,?_,?_,Nat.le_refl _,rq⟩,fun _ _ hm=>hm⟩
  ·intro k hk aC;exact Dm k (fun aG=>aC ⟨b,m,k2,hm,aG.symm⟩)
  ·rintro k ⟨br,cv,db,b5,rfl⟩;by_cases b7:br=b
   ·subst b7; exact .inl ⟨br,cv,k2,b5,rfl⟩
   ·simp only[dV,cf _ _ _ _ b7] at db;exact .inl ⟨br,cv,db,b5,rfl⟩
  ·intro br sz cs cv bL b5;have b7:br≠b:=fun aG=>by subst aG; exact Gx _ _ bL
   exact .inl ⟨cs,by simp only[dV,cf _ _ _ _ b7]; exact bL,b5⟩
  ·rintro br sz (ar | ⟨n,cs',ar,aN⟩)
   ·have b7:br≠b:=fun aG=>by subst aG; exact qm ar
    exact .inl (by simp only[dV,cf _ _ _ _ b7]; exact ar)
   ·have b7:br≠b:=fun aG=>by subst aG; exact Gx _ _ ar
    exact .inr ⟨n,cs',by simp only[dV,cf _ _ _ _ b7]; exact ar,aN⟩
  ·intro br k' cv bL b5;by_cases b7:br=b
   ·subst b7;refine⟨?_,b5⟩;simp only[dV,j7];rw[ag,hk] at bL;rw[e2]; exact bL
   ·exact⟨by simp only[dV,cf _ _ _ _ b7]; exact bL,b5⟩
 refine⟨e,rel.vf e.toExt0 b ?_ ?_ ?_ ?_ ?_ rel.la⟩
 ·intro br b7 al;simp only[dV,cf _ _ _ _ b7] at al ⊢;exact⟨trivial,trivial,fun cv b5=>Dm _ (fun aG=>b7 (rel.inj br b cv m al k2 b5 hm aG))⟩
 ·intro cv b5;rw[hm] at b5; cases b5;simp only[dV,j7];exact df e.toExt0
 ·intro br kL ki b7 al _ h1 ad aG;rw[hm] at ad; cases ad;simp only[dV,cf _ _ _ _ b7] at al;exact b7 (rel.inj br b kL m al k2 h1 hm aG)
 ·intro cv _ b5;rw[hm] at b5; cases b5;exact rel.base b m k2 hm
 ·intro br bL;by_cases b7:br=b
  ·subst b7;have:=rel.so hm;simp only[e3] at bL; omega
  ·simp only[dV,cf _ _ _ _ b7]; exact rel.fresh br bL
theorem b9.write {R:Nat->Prop} {B:Nat} {w w' : World} {h:aO} {μ:cP} (rel:b9 R B w h μ) {b sz sz' : Nat} {cs cs' : List U} {m:M} {arr arr' : Array Value} {t:TypeId} {gh:Nat × Nat}
  (ag:h.f b=.cells sz cs) (hm:μ b=some m) (az:w.heap[m.r]? = some (.cells arr t gh)) (ce:arr.size=m.T) (mg:gh=(0,0)\/m.T<gh.1)
  (qp:w'.os=w.os) (uF:w'.tape=w.tape) (lF:w'.output=w.output) (yG:w'.heap.size=w.heap.size)
  (Dn:w'.heap[m.r]? = some (.cells arr' t gh)) (Dm:∀ k,k≠m.r->w'.heap[k]? = w.heap[k]?) (ax:arr'.size=arr.size)
  (al:cs'.length=sz') (qi:sz<=sz') (er:m.s+sz'<=m.T)
  (aq:∀ (j:Nat) (c:U),cs'[j]? = some c->∃ v:Value,arr'[m.s+j]? = some v/\v.oneCell'=true/\aP w R h μ c v) (rq:w.drawn<=w'.drawn:=by first | exact Nat.le_refl _ | exact Nat.le_succ _ | assumption) :
  dL w h μ w' (h.set b (.cells sz' cs')) μ/\b9 R B w' (h.set b (.cells sz' cs')) μ:=by
 have k2:live (h.f b)=true:=by rw[ag]; rfl
 have e:dL w h μ w' (h.set b (.cells sz' cs')) μ:=by
  refine⟨⟨qp,uF,lF,Nat.le_of_eq yG.symm,?_,?_,?_,?_,?_,Nat.le_refl _,rq⟩,fun _ _ hm=>hm⟩
  ·intro k hk aC;exact Dm k (fun aG=>aC ⟨b,m,k2,hm,aG.symm⟩)
  ·rintro k ⟨br,cv,db,b5,rfl⟩;by_cases b7:br=b
   ·subst b7; exact .inl ⟨br,cv,k2,b5,rfl⟩
   ·simp only[dV,e3,cf _ _ _ _ b7] at db;exact .inl ⟨br,cv,db,b5,rfl⟩
  ·intro br alN n9 cv bL b5;by_cases b7:br=b
   ·subst b7;rw[ag] at bL; cases bL;by_cases ak:sz'=sz
    ·exact .inl ⟨cs',by simp[dV,e3,ak],b5⟩
    ·exact .inr (.inr ⟨sz',cs',by simp[dV,e3],by omega⟩)
   ·exact .inl ⟨n9,by simp only[dV,e3,cf _ _ _ _ b7]; exact bL,b5⟩
  ·rintro br s0 (bL | ⟨n,n9,bL,aN⟩)
   ·have b7:br≠b:=fun aG=>by rw[aG,ag] at bL; cases bL
    exact .inl (by simp only[dV,e3,cf _ _ _ _ b7]; exact bL)
   ·by_cases b7:br=b
    ·subst b7;rw[ag] at bL; cases bL;exact .inr ⟨sz',cs',by simp[dV,e3],by omega⟩
    ·exact .inr ⟨n,n9,by simp only[dV,e3,cf _ _ _ _ b7]; exact bL,aN⟩
  ·intro br k cv bL b5;have b7:br≠b:=fun aG=>by rw[aG,ag] at bL; cases bL
   exact⟨by simp only[dV,e3,cf _ _ _ _ b7]; exact bL,b5⟩
 refine⟨e,rel.vf e.toExt0 b ?_ ?_ ?_ ?_ ?_ ?_⟩
 ·intro br b7 db;simp only[dV,e3,cf _ _ _ _ b7] at db ⊢;exact⟨trivial,trivial,fun cv b5=>Dm _ (fun aG=>b7 (rel.inj br b cv m db k2 b5 hm aG))⟩
 ·intro cv b5;rw[hm] at b5; cases b5;simp only[dV,e3,j7];refine⟨al,er,arr',t,gh,Dn,ax.trans ce,mg,fun j c ai=>?_⟩;obtain⟨v,h1,ad,aj⟩:=aq j c ai;exact⟨v,h1,ad,aj.ext e⟩
 ·intro br cv aij b7 db _ b5 C6 aG;rw[hm] at C6; cases C6;simp only[dV,e3,cf _ _ _ _ b7] at db;exact b7 (rel.inj br b cv m db k2 b5 hm aG)
 ·intro cv _ b5;exact rel.base b cv k2 b5
 ·intro br bL;simp only[dV,e3] at bL ⊢;have b7:br≠b:=fun aG=>by
   have:=rel.fresh br bL;rw[aG,ag] at this; cases this
  rw[cf _ _ _ _ b7];exact rel.fresh br bL
 ·intro br bL;exact rel.la br bL
theorem b9.move {R:Nat->Prop} {B:Nat} {w w' : World} {h:aO} {μ:cP} (rel:b9 R B w h μ) {b sz sz' : Nat} {cs cs' : List U} {m:M} {arr:Array Value} {t:TypeId}
  (ag:h.f b=.cells sz cs) (hm:μ b=some m)
  (qp:w'.os=w.os) (uF:w'.tape=w.tape) (lF:w'.output=w.output) (ke:w'.heap=w.heap.push (.cells arr t (0,0)))
  (al:cs'.length=sz') (qi:sz<sz') (er:sz'<=arr.size)
  (aq:∀ (j:Nat) (c:U),cs'[j]? = some c->∃ v:Value,arr[j]? = some v/\v.oneCell'=true/\aP w R h μ c v) (rq:w.drawn<=w'.drawn:=by first | exact Nat.le_refl _ | exact Nat.le_succ _ | assumption) :
  dL w h μ w' (h.set b (.cells sz' cs')) (bO μ b (some ⟨w.heap.size,0,arr.size⟩))/\b9 R B w' (h.set b (.cells sz' cs')) (bO μ b (some ⟨w.heap.size,0,arr.size⟩)) :=by
 have k2:live (h.f b)=true:=by rw[ag]; rfl
 have e:dL w h μ w' (h.set b (.cells sz' cs')) (bO μ b (some ⟨w.heap.size,0,arr.size⟩)) :=by
  refine⟨⟨qp,uF,lF,by simp[ke],?_,?_,?_,?_,?_,Nat.le_refl _,rq⟩,?_⟩
  ·intro k hk aC;rw[ke,Array.getElem?_push,if_neg (by omega)]
  ·rintro k ⟨br,cv,db,b5,rfl⟩;by_cases b7:br=b
   ·subst b7; simp at b5; subst b5; exact .inr (Nat.le_refl _)
   ·rw[cf _ _ _ _ b7] at b5;simp only[dV,e3,cf _ _ _ _ b7] at db;exact .inl ⟨br,cv,db,b5,rfl⟩
  ·intro br alN n9 cv bL b5;by_cases b7:br=b
   ·subst b7;rw[ag] at bL; cases bL;exact .inr (.inr ⟨sz',cs',by simp[dV,e3],by omega⟩)
   ·exact .inl ⟨n9,by simp only[dV,e3,cf _ _ _ _ b7]; exact bL,by rw[cf _ _ _ _ b7]; exact b5⟩
  ·rintro br s0 (bL | ⟨n,n9,bL,aN⟩)
   ·have b7:br≠b:=fun aG=>by rw[aG,ag] at bL; cases bL
    exact .inl (by simp only[dV,e3,cf _ _ _ _ b7]; exact bL)
   ·by_cases b7:br=b
    ·subst b7;rw[ag] at bL; cases bL;exact .inr ⟨sz',cs',by simp[dV,e3],by omega⟩
    ·exact .inr ⟨n,n9,by simp only[dV,e3,cf _ _ _ _ b7]; exact bL,aN⟩
  ·intro br k cv bL b5;have b7:br≠b:=fun aG=>by rw[aG,ag] at bL; cases bL
   exact⟨by simp only[dV,e3,cf _ _ _ _ b7]; exact bL,by rw[cf _ _ _ _ b7]; exact b5⟩
  ·intro br _ b5;have b7:br≠b:=fun aG=>by rw[aG,hm] at b5; cases b5
   rw[cf _ _ _ _ b7]; exact b5
 refine⟨e,rel.vf e.toExt0 b ?_ ?_ ?_ ?_ ?_ ?_⟩
 ·intro br b7 db;simp only[dV,e3,cf _ _ _ _ b7] at db ⊢;exact⟨trivial,trivial,fun cv b5=>by rw[ke,Array.getElem?_push,if_neg (by have:=rel.lt db b5; omega)]⟩
 ·intro cv b5;simp at b5; subst b5;simp only[dV,e3,j7];refine⟨al,by simpa using er,arr,t,(0,0),by simp[ke],rfl,.inl rfl,fun j c ai=>?_⟩;obtain⟨v,h1,ad,aj⟩:=aq j c ai;exact⟨v,by simpa using h1,ad,aj.ext e⟩
 ·intro br cv aij b7 db _ b5 C6;simp only[dV,e3,cf _ _ _ _ b7] at db;simp at C6; subst C6;have:=rel.lt db b5;simp only[ne_eq]; omega
 ·intro cv _ b5;simp at b5; subst b5;exact rel.size
 ·intro br bL;simp only[dV,e3] at bL ⊢;have b7:br≠b:=fun aG=>by
   have:=rel.fresh br bL;rw[aG,ag] at this; cases this
  rw[cf _ _ _ _ b7];exact rel.fresh br bL
 ·intro br bL;simp only[dV,e3] at bL;have b7:br≠b:=fun aG=>by
   have:=rel.so hm;omega
  rw[cf _ _ _ _ b7];exact rel.la br bL
section
variable {P:Program} {w:World} {R:Nat->Prop} {B:Nat} {h:aO} {μ:cP}
def Good (R:Nat->Prop) (B:Nat) (w:World) (h:aO) (μ:cP) (r:Result Next) (c:U) (h' : aO) :Prop:=
 ∃ v w' μ',(r=.ok (.value v) w'\/(r=.ok .skip w'/\v=undef))/\dL w h μ w' h' μ'/\b9 R B w' h' μ'/\aP w' R h' μ' c v
theorem Good.pure (rel:b9 R B w h μ) {r:Result Next} {c:U} {v:Value} (az:r=.ok (.value v) w) (aq:aP w R h μ c v) :Good R B w h μ r c h:=
 ⟨v,w,μ,.inl az,.refl _ _ _,rel,aq⟩
theorem cA {t:TypeId} {d:TypeDesc} (bH:P.underlying t=some d) :(underlying t).run P w=.ok d w:=by
 simp[underlying,bH]
theorem H3 {t:TypeId} {b:Bool} (ag:eo P t=some b) :(isAgg t).run P w=.ok b w:=by
 unfold eo at ag;cases bH:P.underlying t with
 | none=>rw[bH] at ag; cases ag
 | some d=>
  rw[bH] at ag;simp only[Option.map_some,Option.some.injEq] at ag;unfold isAgg;simp only[Sem.run_bind,cA bH,Result.andThen_ok];cases d<;>simp_all
theorem ag1 {t:TypeId} {n:Nat} (aC:cB P t=some n) :∃ i,P.info? t=some i/\i.size=n:=by
 unfold cB at aC;cases av:P.info? t with
 | none=>rw[av] at aC; cases aC
 | some i=>rw[av] at aC; exact⟨i,rfl,by simpa using aC⟩
theorem fG {t:TypeId} {n:Nat} (aC:cB P t=some n) :(sizeOf t).run P w=.ok n w:=by
 obtain⟨i,av,ak⟩:=ag1 aC;simp[sizeOf,typeInfo,av,ak]
theorem anr {t:TypeId} {z:List U} (aw:hJ P t=some z) :∃ i v,P.info? t=some i/\i.zero=some v/\v.cells.toList.all Value.oneCell'=true/\z=v.cells.toList.map pr:=by
 unfold hJ at aw;cases av:P.info? t with
 | none=>rw[av] at aw; cases aw
 | some i=>
  rw[av] at aw;simp only[Option.bind_some] at aw;cases aq:i.zero with
  | none=>rw[aq] at aw; cases aw
  | some v=>
   rw[aq] at aw;simp only[Option.bind_some] at aw;split at aw
   ·rename_i h1;exact⟨i,v,rfl,aq,h1,by simpa using aw.symm⟩
   ·cases aw
theorem X0 {t:TypeId} {i:TypeInfo} {v:Value} (av:P.info? t=some i) (aq:i.zero=some v) :(zeroValue t).run P w=.ok v w:=by
 simp[zeroValue,typeInfo,av,aq]
theorem aP.pr (v:Value) :aP w R h μ (pr v) v:=by
 cases v with
 | bool b=>exact .bool _
 | int k n=>exact .int _ _
 | string s=>exact .str _
 | pointer a=>cases a<;>first | exact .jE | exact .bad _
 | slice a l c=>
  simp only[cb.pr];split
  ·exact .aW
  ·exact .bad _
 | map r=>cases r<;>first | exact .hS | exact .bad _
 | nilFunc=>exact .jC
 | nilIface=>exact .jD
 | func fn first fY=>
  simp only[cb.pr];split
  ·rename_i f h1 ad;have aQ:first=#[] :=by simpa using h1
   have bF:fY=#[] :=by simpa using ad
   subst aQ bF;exact .fn _ [] [] #[] #[] rfl rfl (fun _ _ _ aG=>by simp at aG) (fun _ _ _ aG=>by simp at aG)
  ·exact .bad _
 | _=>exact .bad _
theorem aP.wU (v:Value) :aP w R h μ (wU v) v:=by
 unfold cb.wU;split
 ·rename_i cs;split
  ·rename_i ci;refine .aJ _ _ (by simp) (fun j v ai=>?_) (fun j c v ah lM=>?_)
   ·rw[List.all_eq_true] at ci;exact ci v (by have:=Array.mem_of_getElem? ai; simpa using this)
   ·rw[List.getElem?_map] at ah;simp only[Array.getElem?_toList,lM,Option.map_some,Option.some.injEq] at ah;subst ah;exact aP.pr v
  ·exact .bad _
 ·rename_i vs;refine .bE _ _ (by simp) (fun j c v ah lM=>?_);rw[List.getElem?_map] at ah;simp only[Array.getElem?_toList,lM,Option.map_some,Option.some.injEq] at ah;subst ah;exact aP.pr v
 ·exact aP.pr v
theorem aP.one {c:U} {v:Value} (aq:aP w R h μ c v) (h1:c.one=true) :v.oneCell'=true:=by
 cases aq<;>first | rfl | (simp[U.one] at h1)
theorem Fg {c:U} {v:Value} {cs:List U} (aq:aP w R h μ c v) (ah:c.cells=some cs) :
  v.cells.size=cs.length/\∀ (j:Nat) (x:U),cs[j]? = some x->∃ u:Value,v.cells[j]? = some u/\u.oneCell'=true/\aP w R h μ x u:=by
 have kk:∀ (c:U) (v:Value),aP w R h μ c v->v.cells=#[v]->v.oneCell'=true->∀ cs,cs=[c]->
   v.cells.size=cs.length/\∀ (j:Nat) (x:U),cs[j]? = some x->∃ u:Value,v.cells[j]? = some u/\u.oneCell'=true/\aP w R h μ x u:=by
  intro c v aq iW h1 cs ci;subst ci;rw[iW];refine⟨rfl,fun j x af=>?_⟩;cases j with
  | zero=>simp at af; subst af; exact⟨v,rfl,h1,aq⟩
  | succ j=>simp at af
 cases aq with
 | aJ cs' vs al h1 aq=>
  simp only[U.cells,Option.some.injEq] at ah; subst ah;refine⟨al,fun j x af=>?_⟩;have ai:j<vs.size:=by rw[al]; exact (List.getElem?_eq_some_iff.1 af).1
  exact⟨vs[j],by simp[Value.cells,ai],h1 j _ (by simp[ai]),aq j x _ af (by simp[ai])⟩
 | bE cs' vs al aq=>simp[U.cells] at ah
 | bad v=>simp[U.cells] at ah
 | bool b=>exact kk _ _ (.bool b) rfl rfl _ (by simpa [U.cells] using ah.symm)
 | int k n=>exact kk _ _ (.int k n) rfl rfl _ (by simpa [U.cells] using ah.symm)
 | str bs=>exact kk _ _ (.str bs) rfl rfl _ (by simpa [U.cells] using ah.symm)
 | jE=>exact kk _ _ .jE rfl rfl _ (by simpa [U.cells] using ah.symm)
 | aW=>exact kk _ _ .aW rfl rfl _ (by simpa [U.cells] using ah.symm)
 | hS=>exact kk _ _ .hS rfl rfl _ (by simpa [U.cells] using ah.symm)
 | jC=>exact kk _ _ .jC rfl rfl _ (by simpa [U.cells] using ah.symm)
 | jD=>exact kk _ _ .jD rfl rfl _ (by simpa [U.cells] using ah.symm)
 | ptr b off sz cs' m ag hm=>exact kk _ _ (.ptr b off sz cs' m ag hm) rfl rfl _ (by simpa [U.cells] using ah.symm)
 | m2 b off sz a ar=>exact kk _ _ (.m2 b off sz a ar) rfl rfl _ (by simpa [U.cells] using ah.symm)
 | b3 cs' off blk o ey eW aq=>exact kk _ _ (.b3 cs' off blk o ey eW aq) rfl rfl _ (by simpa [U.cells] using ah.symm)
 | au z b off len cap sz cap' cs' m ag hm al ap eW=>exact kk _ _ (.au z b off len cap sz cap' cs' m ag hm al ap eW) rfl rfl _ (by simpa [U.cells] using ah.symm)
 | gH z b off len cap sz cap' a al eW ar=>exact kk _ _ (.gH z b off len cap sz cap' a al eW ar) rfl rfl _ (by simpa [U.cells] using ah.symm)
 | hV z b off sz a cs' m ag hm=>exact kk _ _ (.hV z b off sz a cs' m ag hm) rfl rfl _ (by simpa [U.cells] using ah.symm)
 | bR z es blk off cap ey al aw eW aq=>exact kk _ _ (.bR z es blk off cap ey al aw eW aq) rfl rfl _ (by simpa [U.cells] using ah.symm)
 | fO z a cap=>exact kk _ _ (.fO z a cap) rfl rfl _ (by simpa [U.cells] using ah.symm)
 | fn f acB zG fs cs' aD eW h1 ad=>exact kk _ _ (.fn f acB zG fs cs' aD eW h1 ad) rfl rfl _ (by simpa [U.cells] using ah.symm)
 | mp b m ag hm=>exact kk _ _ (.mp b m ag hm) rfl rfl _ (by simpa [U.cells] using ah.symm)
 | it b m ag hm=>exact kk _ _ (.it b m ag hm) rfl rfl _ (by simpa [U.cells] using ah.symm)
 | gQ t c v aq=>exact kk _ _ (.gQ t c v aq) rfl rfl _ (by simpa [U.cells] using ah.symm)
 | mD l=>exact kk _ _ (.mD l) rfl rfl _ (by simpa [U.cells] using ah.symm)
theorem Addr.mF (b o n:Nat) :(⟨b,o,none⟩:Addr).add n=⟨b,o+n,none⟩:=by unfold Addr.add; split<;>simp_all
theorem Ng (rel:b9 R B w h μ) {p:U} {w0:Value} {cs:List U} {off:Nat} (az:reach h p=some (cs,off)) (ay:aP w R h μ p w0) :
  ∃ blk o,w0=.pointer (some ⟨blk,o+off,none⟩)/\∀ (j:Nat) (c:U),cs[j]? = some c->∃ v:Value,w.cell? ⟨blk,o+j,none⟩=some v/\v.oneCell'=true/\aP w R h μ c v:=by
 cases ay with
 | ptr b Hz sz cs' m ag hm=>
  simp only[reach,ag,ite_true,Option.some.injEq,Prod.mk.injEq] at az;obtain⟨rfl,rfl⟩:=az;have eR:=rel.blk b m hm;rw[ag] at eR;obtain⟨h1,ad,arr,t,gh,aj,aF,aU,bt⟩:=eR;refine⟨m.r,m.s,rfl,fun j c ai=>?_⟩;obtain⟨v,aX,a6,a3⟩:=bt j c ai;exact⟨v,by simp[World.cell?,aj,aX],a6,a3⟩
 | m2 b Hz sz a ar=>
  unfold reach at az;rcases ar with ar | ⟨n,cs',ar,aN⟩
  ·simp[ar] at az
  ·simp only[ar] at az;split at az
   ·omega
   ·cases az
 | b3 cs' Hz blk o ey ah aq=>
  simp only[reach,Option.some.injEq,Prod.mk.injEq] at az;obtain⟨rfl,rfl⟩:=az;exact⟨blk,o,rfl,fun j c ai=>⟨ey j,(ah j (List.getElem?_eq_some_iff.1 ai).1).here,(ah j (List.getElem?_eq_some_iff.1 ai).1).one,aq j c ai⟩⟩
 | _=>simp[reach] at az
theorem akC {t:TypeId} {cs:List U} {off:Nat} {c:U} (ay:hU P t cs off=some c) {blk o:Nat}
  (ah:∀ (j:Nat) (x:U),cs[j]? = some x->∃ v:Value,w.cell? ⟨blk,o+j,none⟩=some v/\v.oneCell'=true/\aP w R h μ x v) :
  ∃ v,(loadVar t ⟨blk,o+off,none⟩).run P w=.ok v w/\aP w R h μ c v:=by
 unfold hU at ay;cases o2:eo P t with
 | none=>rw[o2] at ay; cases ay
 | some b=>
  rw[o2] at ay;cases b with
  | false=>
   simp only at ay;obtain⟨v,h1,_,aj⟩:=ah off c ay;exact⟨v,by simp[loadVar,H3 o2,h1],aj⟩
  | true=>
   cases aC:cB P t with
   | none=>rw[aC] at ay; cases ay
   | some n=>
    rw[aC] at ay;simp only at ay;split at ay
    ·rename_i dR;simp only[Option.some.injEq] at ay;subst ay;have qf:∀ j,j<n->∃ v,w.cell? ⟨blk,o+(off+j),none⟩=some v/\v.oneCell'=true/\aP w R h μ (cs.getD (off+j) .bad) v:=by
      intro j ai;have aN:off+j<cs.length:=by omega
      have:=ah (off+j) cs[off+j] (by simp[aN]);simpa [List.getD,aN] using this
     have aq:∃ f:Nat->Value,∀ j,j<n->w.cell? ⟨blk,o+(off+j),none⟩=some (f j)/\(f j).oneCell'=true/\aP w R h μ (cs.getD (off+j) .bad) (f j) :=by
      refine⟨fun j=>if ai:j<n then Classical.choose (qf j ai) else undef,fun j ai=>?_⟩;simp only[ai,dif_pos];exact Classical.choose_spec (qf j ai)
     obtain⟨f,aD⟩:=aq;have al:(loadCells ⟨blk,o+off,none⟩ n).run P w=.ok ((List.range n).map f).toArray w:=by
      have:=run_loadCells_list (P:=P) w ⟨blk,o+off,none⟩ ((List.range n).map f) (fun j v ai=>by
       rw[List.getElem?_map] at ai;have kA:j<n:=by
        rcases Nat.lt_or_ge j n with h1 | h1
        ·exact h1
        ·rw[List.getElem?_eq_none (by simpa using h1)] at ai; cases ai
       rw[List.getElem?_range kA] at ai;simp only[Option.map_some,Option.some.injEq] at ai;rw[Addr.mF,<-ai,Nat.add_assoc];exact (aD j kA).1)
      simpa using this
     refine⟨.agg ((List.range n).map f).toArray,by simp[loadVar,H3 o2,fG aC,al],.aJ _ _ (by simp; omega) (fun j v ai=>?_) (fun j c v eW ai=>?_)⟩
     ·simp only[List.getElem?_toArray,List.getElem?_map] at ai;have kA:j<n:=by
       rcases Nat.lt_or_ge j n with h1 | h1
       ·exact h1
       ·rw[List.getElem?_eq_none (by simpa using h1)] at ai; cases ai
      rw[List.getElem?_range kA] at ai;simp only[Option.map_some,Option.some.injEq] at ai;rw[<-ai]; exact (aD j kA).2.1
     ·simp only[List.getElem?_toArray,List.getElem?_map] at ai;have kA:j<n:=by
       rcases Nat.lt_or_ge j n with h1 | h1
       ·exact h1
       ·rw[List.getElem?_eq_none (by simpa using h1)] at ai; cases ai
      rw[List.getElem?_range kA] at ai;simp only[Option.map_some,Option.some.injEq] at ai;rw[List.getElem?_take_of_lt kA,List.getElem?_drop] at eW;have:=(aD j kA).2.2;rw[List.getD,eW] at this;rw[<-ai]; simpa using this
    ·cases ay
theorem V0 (rel:b9 R B w h μ) {t:TypeId} {p:U} {w0:Value} {c:U} (al:s7 P h t p=some c) (ay:aP w R h μ p w0) :
  ∃ v,(Instr.loadAt t w0).run P w=.ok v w/\aP w R h μ c v:=by
 unfold s7 at al;cases az:reach h p with
 | none=>rw[az] at al; cases al
 | some x=>
  obtain⟨cs,off⟩:=x;rw[az] at al;obtain⟨blk,o,rfl,ah⟩:=Ng rel az ay;obtain⟨v,h1,ad⟩:=akC al ah;exact⟨v,by simp[Instr.loadAt,Instr.sureAddr,h1],ad⟩
end

section
variable {P:Program} {w:World} {R:Nat->Prop} {B:Nat} {h:aO} {μ:cP}
theorem XZ (P:Program) (g o:Nat) (t:TypeId) (gh:Nat × Nat) :∀ (vs:List Value) (i:Nat) (hZ:Array Value) (w:World),w.heap[g]? = some (.cells hZ t gh)->(gh=(0,0)\/hZ.size<=gh.1)->
  o+i+vs.length<=hZ.size->(∀ v∈vs,v.oneCell'=true)->
  (storeCells ⟨g,o,none⟩ vs i).run P w=.ok () (w.setRow g (hZ.toList.take (o+i)++vs++hZ.toList.drop (o+i+vs.length)).toArray)
 | [],i,hZ,w,ar,_,_,_=>by
  simp only[storeCells,List.append_nil,List.length_nil,Nat.add_zero,List.take_append_drop,Array.toArray_toList];rw[setRow_self w g hZ t gh ar];rfl
 | v::rest,i,hZ,w,ar,mg,al,h1=>by
  have av:o+i<hZ.size:=by simp at al; omega
  have FZ:(⟨g,o,none⟩:Addr).add i=⟨g,o+i,none⟩:=Addr.mF _ _ _;have mM:w.cell? ⟨g,o+i,none⟩=some hZ[o+i] :=by simp[World.cell?,ar,av]
  have aeY:w.frozen? ⟨g,o+i,none⟩=false:=by
   obtain⟨cV,gw⟩:=gh;rcases mg with mg | mg
   ·cases mg; simp[World.frozen?,ar]
   ·have:¬ cV<=o+i:=by simp at mg; omega
    simp[World.frozen?,ar,this]
  have ch:(store ((⟨g,o,none⟩:Addr).add i) v).run P w=.ok () (w.setRow g (hZ.setIfInBounds (o+i) v)) :=by
   rw[FZ,run_store P w _ v _ (h1 v (by simp)),mM];simp[aeY,setCell_eq_setRow w g (o+i) hZ t gh v ar]
  have aI:=XZ P g o t gh rest (i+1) (hZ.setIfInBounds (o+i) v) (w.setRow g (hZ.setIfInBounds (o+i) v)) (setRow_heap w g hZ _ t _ ar) (by simpa using mg) (by simp at al ⊢; omega) (fun x af=>h1 x (by simp[af]));simp only[storeCells,Sem.run_bind,ch,Result.andThen_ok,aI,setRow_setRow];congr 3;have:=list_seg_step hZ.toList (o+i) v rest (by simp at al ⊢; omega);simpa [Nat.add_assoc,Nat.add_comm 1] using this
theorem r3 {cs vs:List U} {k:Nat} (hk:k<=cs.length) :(bu cs k vs).length=max cs.length (k+vs.length) :=by
 unfold bu;simp only[List.length_append,List.length_take,List.length_drop];omega
theorem NT {cs vs:List U} {k j:Nat} (hk:k<=cs.length) :(bu cs k vs)[j]? = if j<k then cs[j]? else if j<k+vs.length then vs[j - k]? else cs[j]?:=by
 unfold bu;rw[List.append_assoc];by_cases h1:j<k
 ·rw[List.getElem?_append_left (by simp; omega),List.getElem?_take_of_lt h1,if_pos h1]
 ·rw[List.getElem?_append_right (by simp; omega),if_neg h1];simp only[List.length_take,Nat.min_eq_left hk];by_cases ad:j<k+vs.length
  ·rw[List.getElem?_append_left (by omega),if_pos ad]
  ·rw[List.getElem?_append_right (by omega),if_neg ad,List.getElem?_drop];congr 1; omega
theorem zk (rel:b9 R B w h μ) {b sz k:Nat} {cs cvs:List U} {m:M} {vs:List Value} (ag:h.f b=.cells sz cs) (hm:μ b=some m) (hk:k<=sz)
  (al:vs.length=cvs.length) (er:m.s+max sz (k+cvs.length)<=m.T)
  (aq:∀ (j:Nat) (c:U),cvs[j]? = some c->∃ v:Value,vs[j]? = some v/\v.oneCell'=true/\aP w R h μ c v) :
  ∃ w',(storeCells ⟨m.r,m.s+k,none⟩ vs).run P w=.ok () w'/\dL w h μ w' (h.set b (.cells (max sz (k+cvs.length)) (bu cs k cvs))) μ ∧
   b9 R B w' (h.set b (.cells (max sz (k+cvs.length)) (bu cs k cvs))) μ:=by
 have eR:=rel.blk b m hm;rw[ag] at eR;obtain⟨bl,ce,arr,t,gh,az,ax,mg,ah⟩:=eR;have h1:∀ v∈vs,v.oneCell'=true:=by
  intro v k3;obtain⟨j,ai,rfl⟩:=List.getElem_of_mem k3;obtain⟨v,aX,a6,_⟩:=aq j (cvs[j]'(by omega)) (by simp);rw[List.getElem?_eq_getElem ai] at aX;cases aX;exact a6
 have ho:=XZ P m.r (m.s+k) t gh vs 0 arr w az (by rw[ax]; exact mg.imp id Nat.le_of_lt) (by omega) h1;simp only[Nat.add_zero] at ho;have qv:(arr.toList.take (m.s+k)++vs++arr.toList.drop (m.s+k+vs.length)).toArray.size=arr.size:=by
  simp only[List.size_toArray,List.length_append,List.length_take,List.length_drop,Array.length_toList];omega
 have eb:=rel.write (w':=w.setRow m.r (arr.toList.take (m.s+k)++vs++arr.toList.drop (m.s+k+vs.length)).toArray) (cs':=bu cs k cvs) (sz':=max sz (k+cvs.length)) ag hm az ax mg
  rfl rfl rfl (by simp[World.setRow]) (setRow_heap w m.r arr _ t gh az) (fun k' e2=>setRow_other w m.r k' _ e2) qv
  (by rw[r3 (by omega),bl]) (by omega) (by omega) (fun j c ai=>?_)
 ·exact⟨_,ho,eb.1,eb.2⟩
 ·rw[NT (by omega)] at ai;simp only[List.getElem?_toArray];rw[List.append_assoc];split at ai
  ·rename_i aN;obtain⟨v,aX,a6,a3⟩:=ah j c ai;refine⟨v,?_,a6,a3⟩;rw[List.getElem?_append_left (by simp; omega),List.getElem?_take_of_lt (by omega)];simpa using aX
  ·rename_i qh;split at ai
   ·rename_i aN;obtain⟨v,aX,a6,a3⟩:=aq _ c ai;refine⟨v,?_,a6,a3⟩;have C7:min (m.s+k) arr.size=m.s+k:=by omega
    rw[List.getElem?_append_right (by simp; omega)];simp only[List.length_take,Array.length_toList,C7];rw[List.getElem?_append_left (by omega),<-aX];congr 1; omega
   ·rename_i apY;obtain⟨v,aX,a6,a3⟩:=ah j c ai;refine⟨v,?_,a6,a3⟩;have C7:min (m.s+k) arr.size=m.s+k:=by omega
    rw[List.getElem?_append_right (by simp; omega)];simp only[List.length_take,Array.length_toList,C7];rw[List.getElem?_append_right (by omega),List.getElem?_drop];have:(m.s+k+vs.length+(m.s+j - (m.s+k) - vs.length))=m.s+j:=by omega
    rw[this];simpa using aX
theorem alG (rel:b9 R B w h μ) {t:TypeId} {p v:U} {w0 pF:Value} {h' : aO} (ak:Bk P h t p v=some h') (ay:aP w R h μ p w0) (aq:aP w R h μ v pF) :
  ∃ w',(Instr.storeAt t w0 pF).run P w=.ok () w'/\dL w h μ w' h' μ/\b9 R B w' h' μ:=by
 unfold Bk at ak;split at ak
 ·rename_i b off sz vs n jl aC;obtain⟨g5,mT⟩:=Fg aq jl;cases ag:h.f b with
  | cells m cs=>
   rw[ag] at ak;simp only at ak;split at ak
   ·rename_i jM;obtain⟨rfl,bl,er⟩:=jM;simp only[Option.some.injEq] at ak;subst ak;cases ay with
    | ptr br Hz sz' cs' cj bL hm=>
     have eR:=rel.blk b cj hm;rw[ag] at eR;have ce:=eR.2.1;obtain⟨w',h1,ad,aj⟩:=zk (P:=P) rel (cvs:=vs) (vs:=pF.cells.toList) (k:=off) ag hm (by omega) (by simpa using g5) (by omega)
      (fun j c ai=>by obtain⟨u,aX,a6,a3⟩:=mT j c ai; exact⟨u,by simpa using aX,a6,a3⟩)
     have mS:max m (off+vs.length)=m:=by omega
     rw[mS] at ad aj;refine⟨w',?_,ad,aj⟩;have bz:¬ (pF.cells.size≠n) :=by omega
     simp[Instr.storeAt,Instr.sureAddr,storeVar,fG aC,bz,h1]
    | m2 br Hz sz' a ar=>
     rcases ar with ar | ⟨g6,cs',ar,aN⟩
     ·rw[ar] at ag; cases ag
     ·rw[ar] at ag; cases ag; omega
   ·cases ak
  | _=>rw[ag] at ak; cases ak
 ·cases ak
theorem EV (rel:b9 R B w h μ) {cs:List U} {vs:Array Value} (t:TypeId) (al:vs.size=cs.length)
  (aq:∀ (j:Nat) (c:U),cs[j]? = some c->∃ v:Value,vs[j]? = some v/\v.oneCell'=true/\aP w R h μ c v) :
  let h':=h.push (.cells cs.length cs)
  let μ':=bO μ h.n (some ⟨w.heap.size,0,vs.size⟩)
  let w':=w.alloc (.cells vs t)
  dL w h μ w' h' μ'/\b9 R B w' h' μ'/\∀ off,aP w' R h' μ' (.ptr h.n off cs.length) (.pointer (some ⟨w.heap.size,off,none⟩)) :=by
 intro h' μ' w';have:=rel.push (w':=w') cs vs t rfl rfl rfl rfl (by omega) aq;refine⟨this.1,this.2,fun off=>?_⟩;have ay:=aP.ptr (w:=w') (R:=R) (h:=h') (μ:=μ') h.n off cs.length cs ⟨w.heap.size,0,vs.size⟩ (by simp[h',ev,fB]) (by simp[μ']);simpa using ay
theorem Zm {t:TypeId} {z:List U} (aw:hJ P t=some z) :∃ i v,P.info? t=some i/\i.zero=some v/\v.cells.size=z.length ∧
  ∀ (j:Nat) (c:U),z[j]? = some c->∃ u:Value,v.cells[j]? = some u/\u.oneCell'=true/\aP w R h μ c u:=by
 obtain⟨i,v,av,aq,h1,rfl⟩:=anr aw;refine⟨i,v,av,aq,by simp,fun j c ai=>?_⟩;rw[List.getElem?_map] at ai;cases aL:v.cells[j]? with
 | none=>simp[aL] at ai
 | some u=>
  simp[aL] at ai;subst ai;rw[List.all_eq_true] at h1;exact⟨u,rfl,h1 u (by have:=Array.mem_of_getElem? aL; simpa using this),aP.pr u⟩
theorem RE {x:U} {bI:Value} {k:Nat} {c:U} (ah:nq x k=some c) (af:aP w R h μ x bI) :
  ∃ a,bI=.pointer (some a)/\aP w R h μ c (.pointer (some (a.add k))) :=by
 cases af with
 | ptr b off sz cs m ag hm=>
  simp only[nq,Option.some.injEq] at ah; subst ah;refine⟨_,rfl,?_⟩;rw[Addr.mF,Nat.add_assoc];exact .ptr b _ sz cs m ag hm
 | m2 b off sz a ar=>
  simp only[nq,Option.some.injEq] at ah; subst ah;exact⟨a,rfl,.m2 _ _ _ _ ar⟩
 | b3 cs off blk o ey eW aq=>
  simp only[nq,Option.some.injEq] at ah; subst ah;refine⟨_,rfl,?_⟩;rw[Addr.mF,Nat.add_assoc];exact .b3 cs _ blk o ey eW aq
 | _=>simp[nq] at ah
theorem Sq {s:TypeId} {f:Nat} {fd:Field} (aD:xS P s f=some fd) :∃ fs,P.underlying s=some (.struct fs)/\fs[f]? = some fd:=by
 unfold xS at aD;split at aD
 ·rename_i fs aL; exact⟨fs,aL,aD⟩
 ·cases aD
theorem acC {s:TypeId} {x c:U} {bI:Value} {f:Nat} (ah:FA P s x f=some c) (af:aP w R h μ x bI) :
  ∃ v,(Instr.fieldAt s bI f).run P w=.ok v w/\aP w R h μ c v:=by
 unfold FA at ah;split at ah
 ·rename_i fd aD;obtain⟨fs,aL,mP⟩:=Sq aD;split at ah
  ·rename_i n aC;obtain⟨a,rfl,aq⟩:=RE ah af;refine⟨_,?_,aq⟩;simp[Instr.fieldAt,cA aL,mP,Instr.sureAddr,fieldPlace,fG aC]
  ·cases ah
 ·cases ah
theorem sn {x:U} {bI:Value} {n:Int} (av:asInt x=some n) (af:aP w R h μ x bI) :∃ k,bI=.int k n:=by
 cases af<;>simp[asInt] at av;subst av;exact⟨_,rfl⟩
theorem agX {t:TypeId} {x io c:U} {bI Dy:Value} (ah:Du P t x io=some c) (af:aP w R h μ x bI) (av:aP w R h μ io Dy) :
  ∃ v,(Instr.indexAt t bI Dy).run P w=.ok v w/\aP w R h μ c v:=by
 unfold Du at ah;split at ah
 ·rename_i len e i aL fJ;obtain⟨k,rfl⟩:=sn fJ av;cases aw:cB P e with
  | none=>rw[aw] at ah; cases ah
  | some z=>
   rw[aw] at ah;simp only at ah;split at ah
   ·rename_i ag;obtain⟨a,rfl,aq⟩:=RE ah af;refine⟨_,?_,aq⟩;simp[Instr.indexAt,asIntOf,cA aL,Instr.sureAddr,ag,fG aw]
   ·cases ah
 ·rename_i e i aL fJ;obtain⟨k,rfl⟩:=sn fJ av;split at ah
  ·rename_i z dz b off len cap sz aw;split at ah
   ·rename_i ag;obtain⟨rfl,ag⟩:=ag;simp only[Option.some.injEq] at ah; subst ah;cases af with
    | au _ _ _ _ _ _ cap' cs m bL hm al ap dp=>
     refine⟨_,?_,aP.ptr b (off+i.toNat*z) sz cs m bL hm⟩;simp[Instr.indexAt,asIntOf,cA aL,ag,fG aw,Addr.mF,Nat.add_assoc]
    | hV=>simp at ag; omega
    | gH _ _ _ _ _ _ cap' a al dp ar=>
     refine⟨_,?_,aP.m2 b _ sz (a.add (i.toNat*z)) ar⟩;simp[Instr.indexAt,asIntOf,cA aL,ag,fG aw]
   ·cases ah
  ·rename_i z dz es aw;split at ah
   ·rename_i ag;obtain⟨rfl,ag⟩:=ag;cases am:es[i.toNat]? with
    | none=>rw[am] at ah; cases ah
    | some fw=>
     rw[am] at ah;simp only[Option.map_some,Option.some.injEq] at ah; subst ah;have aN:i.toNat<es.length:=(List.getElem?_eq_some_iff.1 am).1;have dQ:(0<=i/\i<(es.length:Int)) :=by omega
     cases af with
     | bR _ _ blk off cap ey al wB mM aq=>
      have aeR:fw.length=z:=wB _ (List.mem_of_getElem? am);refine⟨_,?_,aP.b3 fw 0 blk (off+i.toNat*z) (ey i.toNat) (fun j ai=>?_) (aq _ _ am)⟩
      ·simp[Instr.indexAt,asIntOf,cA aL,dQ,fG aw,Addr.mF]
      ·have:=mM i.toNat j aN (by omega)
       rwa [Nat.add_assoc]
     | fO=>simp at aN
   ·cases ah
  ·cases ah
 ·cases ah
end

end Go.cb

/-
  The canonical machine, part A: its values, blocks, heap, and what one operation does.
-/
import Derived.WalkKit
import Derived.Below
import Derived.Laws.AppendOwn
import Derived.Laws.CopyRow
import Derived.Laws.IdiomCopy
import Derived.Laws.StructEq
set_option linter.unusedVariables false
set_option linter.unusedSimpArgs false
set_option linter.unnecessarySimpa false
namespace Go.b0
abbrev auk:=@List.getElem?_eq_some_iff
abbrev aul:=@List.take_of_length_le
abbrev aum:=@List.getElem?_append_left
abbrev aun:=@Nat.le_refl
abbrev auo:=@List.getElem?_eq_getElem
abbrev aup:=@Nat.mul_le_mul_right
abbrev auq:=@List.getElem?_map
abbrev aur:=@List.mem_iff_getElem?
abbrev aus:=@Bool.and_eq_true
abbrev aut:=@List.mem_of_getElem?
abbrev auu:=@List.length_append
abbrev auv:=@Option.map_some
abbrev auw:=@List.length_map
abbrev aux:=@Nat.mod_eq_of_lt
abbrev auy:=@List.getElem?_set_ne
abbrev auz:=@List.getElem?_set_self
abbrev auA:=@List.length_take
abbrev auB:=@List.getD_eq_getElem?_getD
abbrev auC:=@List.getElem?_eq_none
abbrev auD:=@BitVec.eq_of_toNat_eq
abbrev auE:=@BitVec.toNat_setWidth
abbrev auF:=@List.length_cons
abbrev auG:=@List.mem_of_mem_take
abbrev auH:=@List.map_append
abbrev auI:=@List.getElem?_take_of_lt
abbrev auJ:=@List.getElem?_append_right
abbrev auK:=@BitVec.toNat_ofNat
abbrev auL:=@List.map_cons
abbrev auM:=@Array.getD_eq_getD_getElem?
abbrev auN:=@List.getElem?_cons_zero
abbrev auO:=@Array.getElem?_eq_some_iff
abbrev auP:=@List.take_add_one
abbrev auQ:=@Nat.shiftRight_eq_div_pow
abbrev auR:=@List.mem_map
abbrev auS:=@Int.toNat_natCast
abbrev auT:=@List.take_append_of_le_length
abbrev auU:=@List.take_length
abbrev auV:=@List.append_nil
abbrev auW:=@Nat.eq_of_beq_eq_true
abbrev auX:=@List.getElem?_range
abbrev auY:=@List.getElem?_drop
abbrev auZ:=@List.mem_range
abbrev au0:=@List.drop_eq_nil_of_le
abbrev au1:=@List.length_nil
abbrev au2:=@Nat.succ_mul
abbrev au3:=@List.append_assoc
abbrev au4:=@List.length_eq_zero_iff
abbrev au5:=@List.getElem?_cons_succ
abbrev au6:=@Option.getD_some
abbrev au7:=@Nat.le_trans
abbrev au8:=@Nat.add_mul
abbrev au9:=@List.flatten_cons
abbrev ava:=@List.all_eq_true
abbrev avb:=@List.flatten_append
abbrev avc:=@List.replicate_succ
abbrev avd:=@BitVec.toNat_ushiftRight
abbrev ave:=@List.mem_filter
abbrev avf:=@List.ext_getElem?
abbrev avg:=@List.drop_eq_getElem_cons
abbrev avh:=@List.length_drop
abbrev avi:=@List.mem_append
abbrev avj:=@List.cons_append
abbrev avk:=@List.mem_singleton
abbrev avl:=@List.drop_append_of_le_length
abbrev avm:=@List.take_append_drop
abbrev avn:=@List.mem_cons
abbrev avo:=@List.getElem?_concat_length
abbrev avp:=@List.nil_append
abbrev avq:=@Nat.le_of_ble_eq_true
abbrev avr:=@Int.eq_ofNat_of_zero_le
abbrev avs:=@Array.getElem?_eq_getElem
abbrev avt:=@List.set_append_right
abbrev avu:=@Nat.zero_le
abbrev avv:=@List.getElem?_set
abbrev avw:=@Array.getElem?_append_left
abbrev avx:=@List.drop_zero
abbrev avy:=@Nat.lt_or_ge
abbrev avz:=@Nat.zero_add
abbrev avA:=@Nat.min_eq_left
abbrev avB:=@List.getElem?_zip_eq_some
abbrev avC:=@BitVec.toNat_umod
abbrev avD:=@Array.getElem?_setIfInBounds
abbrev avE:=@List.length_filter_le
abbrev avF:=@Bool.false_eq_true
abbrev avG:=@List.take_zero
abbrev avH:=@List.take_take
abbrev avI:=@Nat.lt_trichotomy
abbrev avJ:=@Array.getElem?_toList
abbrev avK:=@List.eq_of_mem_replicate
abbrev avL:=@List.mem_of_mem_drop
abbrev avM:=@BitVec.toNat_udiv
abbrev avN:=@Array.getElem?_append_right
abbrev avO:=@List.map_congr_left
abbrev avP:=@List.map_nil
abbrev avQ:=@List.set_eq_take_append_cons_drop
abbrev avR:=@Bool.true_and
abbrev avS:=@Nat.shiftLeft_eq
abbrev avT:=@List.mapM_cons
abbrev avU:=@Nat.lt_of_lt_of_le
abbrev avV:=@List.filter_append
abbrev avW:=@List.pairwise_iff_getElem
abbrev avX:=@Nat.mul_one
abbrev avY:=@Nat.le_of_lt
abbrev avZ:=@BitVec.ofInt_natCast
abbrev av0:=@List.pairwise_map
abbrev av1:=@Nat.add_assoc
abbrev av2:=@List.mem_map_of_mem
abbrev av3:=@Option.pure_def
abbrev av4:=@Bool.not_eq_true'
abbrev av5:=@Bool.eq_false_iff
abbrev av6:=@List.getElem?_of_mem
abbrev av7:=@Nat.zero_mul
abbrev av8:=@Option.bind_some
abbrev av9:=@List.map_map
abbrev awa:=@List.take_append
abbrev awb:=@BitVec.toNat_mul
abbrev awc:=@List.any_eq_true
abbrev awd:=@Array.length_toList
abbrev awe:=@List.map_eq_nil_iff
abbrev awf:=@Bool.and_self
abbrev awg:=@List.sum_cons
abbrev awh:=@Bool.or_eq_true
abbrev awi:=@List.set_cons_zero
abbrev awj:=@Nat.mod_lt
abbrev awk:=@List.range_succ
abbrev awl:=@Array.getElem?_eq_none
abbrev awm:=@BitVec.toNat_shiftLeft
abbrev awn:=@List.drop_of_length_le
abbrev awo:=@List.count_append
abbrev awp:=@List.drop_take
abbrev awq:=@Nat.sub_self
abbrev awr:=@List.mem_cons_of_mem
abbrev aws:=@Nat.le_of_not_lt
abbrev awt:=@Bool.not_eq_true
abbrev awu:=@List.count_singleton
abbrev awv:=@List.takeWhile_cons
abbrev aww:=@List.getElem?_eq_none_iff
abbrev awx:=@List.mem_or_eq_of_mem_set
abbrev awy:=@Array.append_assoc
abbrev awz:=@Option.isSome_none
abbrev awA:=@Nat.add_zero
abbrev awB:=@Array.getElem?_map
abbrev awC:=@Array.getElem?_replicate
abbrev awD:=@Nat.sub_zero
abbrev awE:=@List.map_replicate
abbrev awF:=@Bool.false_and
abbrev awG:=@List.foldl_append
abbrev awH:=@List.take_sublist
abbrev awI:=@Nat.one_mul
abbrev awJ:=@Nat.mul_mod
abbrev awK:=@List.map_take
abbrev awL:=@BitVec.toNat_and
abbrev awM:=@Array.getElem?_setIfInBounds_ne
abbrev awN:=@Nat.beq_refl
abbrev awO:=@Array.eq_empty_of_size_eq_zero
abbrev awP:=@List.find?_cons
abbrev awQ:=@Nat.and_two_pow_sub_one_eq_mod
abbrev awR:=@List.nodup_cons
abbrev awS:=@Bool.eq_iff_iff
abbrev awT:=@List.pairwise_append
abbrev awU:=@Nat.shiftLeft_add_eq_or_of_lt
abbrev awV:=@List.flatMap_append
abbrev awW:=@List.filter_sublist
abbrev awX:=@List.drop_drop
abbrev awY:=@Nat.pow_add
abbrev awZ:=@Nat.pow_mod
abbrev aw0:=@Nat.eq_or_lt_of_le
abbrev aw1:=@List.mem_cons_self
abbrev aw2:=@List.set_cons_succ
abbrev aw3:=@Bool.true_eq_false
abbrev aw4:=@List.pairwise_cons
abbrev aw5:=@Array.size_append
abbrev aw6:=@List.size_toArray
abbrev aw7:=@List.mem_of_find?_eq_some
abbrev aw8:=@Option.isNone_iff_eq_none
abbrev aw9:=@Nat.add_comm
abbrev axa:=@Option.isSome_iff_exists
abbrev axb:=@Nat.mul_comm
abbrev axc:=@Nat.max_eq_right
abbrev axd:=@BitVec.toNat_add
abbrev axe:=@Nat.div_eq_of_lt
abbrev axf:=@BitVec.toNat_not
abbrev axg:=@List.length_erase_of_mem
abbrev axh:=@List.find?_range_eq_some
abbrev axi:=@List.nodup_range
abbrev axj:=@List.map_fst_zip
abbrev axk:=@List.getElem?_replicate
abbrev axl:=@List.pairwise_singleton
abbrev axm:=@List.foldl_cons
abbrev axn:=@Nat.max_eq_left
abbrev axo:=@List.length_zip
abbrev axp:=@Nat.min_def
abbrev axq:=@Nat.blt_eq
abbrev axr:=@List.all_cons
open Go
inductive U where
 | bool (b:Bool)
 | int (k:IntKind) (n:Int)
 | str (s:List UInt8)
 | kC | aH | iQ | kA | kB
 | aF (cs:List U)
 | bt (vs:List U)
 | ptr (b off sz:Nat)
 | bM (cs:List U) (off:Nat)
 | aq (z b off len cap sz:Nat)
 | aZ (z:Nat) (es:List (List U))
 | fn (f:FuncId) (first gB:List U)
 | mp (b:Nat)
 | it (b:Nat)
 | hF (t:TypeId) (v:U)
 | hz (l:Nat)
 | bad
 deriving Inhabited
inductive aV where
 | none
 | dead
 | cells (sz:Nat) (cs:List U)
 | map (es:List (U × U × Nat)) (apf:Nat)
 | iter (s:List UInt8) (pos:Nat)
 deriving Inhabited
inductive cC (α:Type) where
 | nil
 | node (l:cC α) (v:Option α) (r:cC α)
def cC.get {α:Type}:cC α->Nat->Option α
 | .nil,_=>none
 | .node l v r,n=>match Nat.beq n 0 with
  | true=>v
  | false=>match Nat.beq (n % 2) 1 with
   | true=>l.get (n / 2)
   | false=>r.get (n / 2 - 1)
def cC.k5 {α:Type}:Nat->cC α->Nat->α->cC α
 | 0,t,_,_=>t
 | k+1,.nil,n,x=>match Nat.beq n 0 with
  | true=>.node .nil (some x) .nil
  | false=>match Nat.beq (n % 2) 1 with
   | true=>.node (cC.k5 k .nil (n / 2) x) none .nil
   | false=>.node .nil none (cC.k5 k .nil (n / 2 - 1) x)
 | k+1,.node l v r,n,x=>match Nat.beq n 0 with
  | true=>.node l (some x) r
  | false=>match Nat.beq (n % 2) 1 with
   | true=>.node (cC.k5 k l (n / 2) x) v r
   | false=>.node l v (cC.k5 k r (n / 2 - 1) x)
def cC.set {α:Type} (t:cC α) (n:Nat) (x:α) :cC α:=t.k5 (n+1) n x
theorem ka {a b:Nat} (h:¬ a=b) :Nat.beq a b=false:=by
 cases ag:Nat.beq a b with
 | false=>rfl
 | true=>exact absurd (auW ag) h
theorem s8 {a b:Nat} (h:a=b) :Nat.beq a b=true:=by subst h; exact awN a
theorem cC.CT {α:Type}:∀ (k:Nat) (t:cC α) (n:Nat) (x:α) (m:Nat),n<k->(t.k5 k n x).get m=if m=n then some x else t.get m
 | 0,_,_,_,_,h=>by omega
 | k+1,.nil,n,x,m,h=>by
  unfold cC.k5;by_cases aI:n=0
  ·subst aI;simp only;unfold cC.get;by_cases hm:m=0
   ·subst hm; simp
   ·have:Nat.beq m 0=false:=ka hm;simp only[this,if_neg hm];split<;>rfl
  ·have ag:Nat.beq n 0=false:=ka aI;simp only[ag];by_cases ad:n % 2=1
   ·have fZ:Nat.beq (n % 2) 1=true:=s8 ad;simp only[fZ];unfold cC.get;by_cases hm:m=0
    ·subst hm; simp; omega
    ·have:Nat.beq m 0=false:=ka hm;simp only[this];by_cases hC:m % 2=1
     ·have:Nat.beq (m % 2) 1=true:=s8 hC;simp only[this];rw[cC.CT k .nil (n / 2) x (m / 2) (by omega)];by_cases am:m=n
      ·subst am; simp
      ·rw[if_neg am,if_neg (by omega)]; rfl
     ·have:Nat.beq (m % 2) 1=false:=ka hC;simp only[this];rw[if_neg (by intro aS; subst aS; exact hC ad)];rfl
   ·have fZ:Nat.beq (n % 2) 1=false:=ka ad;simp only[fZ];unfold cC.get;by_cases hm:m=0
    ·subst hm; simp; omega
    ·have:Nat.beq m 0=false:=ka hm;simp only[this];by_cases hC:m % 2=1
     ·have:Nat.beq (m % 2) 1=true:=s8 hC;simp only[this];rw[if_neg (by intro aS; subst aS; exact ad hC)];rfl
     ·have:Nat.beq (m % 2) 1=false:=ka hC;simp only[this];rw[cC.CT k .nil (n / 2 - 1) x (m / 2 - 1) (by omega)];by_cases am:m=n
      ·subst am; simp
      ·rw[if_neg am,if_neg (by omega)]; rfl
 | k+1,.node l v r,n,x,m,h=>by
  unfold cC.k5;by_cases aI:n=0
  ·subst aI;simp only;unfold cC.get;by_cases hm:m=0
   ·subst hm; simp
   ·have:Nat.beq m 0=false:=ka hm;simp only[this,if_neg hm]
  ·have ag:Nat.beq n 0=false:=ka aI;simp only[ag];by_cases ad:n % 2=1
   ·have fZ:Nat.beq (n % 2) 1=true:=s8 ad;simp only[fZ];unfold cC.get;by_cases hm:m=0
    ·subst hm; simp; omega
    ·have:Nat.beq m 0=false:=ka hm;simp only[this];by_cases hC:m % 2=1
     ·have:Nat.beq (m % 2) 1=true:=s8 hC;simp only[this];rw[cC.CT k l (n / 2) x (m / 2) (by omega)];by_cases am:m=n
      ·subst am; simp
      ·rw[if_neg am,if_neg (by omega)]
     ·have:Nat.beq (m % 2) 1=false:=ka hC;simp only[this];rw[if_neg (by intro aS; subst aS; exact hC ad)]
   ·have fZ:Nat.beq (n % 2) 1=false:=ka ad;simp only[fZ];unfold cC.get;by_cases hm:m=0
    ·subst hm; simp; omega
    ·have:Nat.beq m 0=false:=ka hm;simp only[this];by_cases hC:m % 2=1
     ·have:Nat.beq (m % 2) 1=true:=s8 hC;simp only[this];rw[if_neg (by intro aS; subst aS; exact ad hC)]
     ·have:Nat.beq (m % 2) 1=false:=ka hC;simp only[this];rw[cC.CT k r (n / 2 - 1) x (m / 2 - 1) (by omega)];by_cases am:m=n
      ·subst am; simp
      ·rw[if_neg am,if_neg (by omega)]
theorem cC.Gf {α:Type} (t:cC α) (n:Nat) (x:α) (m:Nat) :(t.set n x).get m=if m=n then some x else t.get m:=cC.CT _ _ _ _ _ (by omega)
structure aN where
 n:Nat
 t:cC aV
def aN.f (h:aN) (b:Nat) :aV:=match h.t.get b with | some c=>c | none=>.none
def aN.empty:aN:=⟨0,.nil⟩
def bB {α:Type} (f:Nat->α) (i:Nat) (v:α) :Nat->α:=fun j=>if j=i then v else f j
def aN.push (h:aN) (c:aV) :aN:=⟨h.n+1,h.t.set h.n c⟩
def aN.set (h:aN) (b:Nat) (c:aV) :aN:=⟨h.n,h.t.set b c⟩
theorem fx (h:aN) (c:aV) :(h.push c).n=h.n+1:=rfl
theorem e7 (h:aN) (b:Nat) (c:aV) :(h.set b c).n=h.n:=rfl
theorem er (h:aN) (c:aV) :(h.push c).f=bB h.f h.n c:=by
 funext b;simp only[aN.f,aN.push,bB,cC.Gf];by_cases ag:b=h.n
 ·simp[ag]
 ·simp[ag]
theorem dZ (h:aN) (b:Nat) (c:aV) :(h.set b c).f=bB h.f b c:=by
 funext bg;simp only[aN.f,aN.set,bB,cC.Gf];by_cases ag:bg=b
 ·simp[ag]
 ·simp[ag]
theorem F7 (b:Nat) :aN.empty.f b=.none:=rfl
@[simp] theorem hP {α:Type} (f:Nat->α) (i:Nat) (v:α) :bB f i v i=v:=by simp[bB]
theorem b2 {α:Type} (f:Nat->α) (i j:Nat) (v:α) (h:j≠i) :bB f i v j=f j:=by simp[bB,h]
def U.one:U->Bool
 | .aF _ | .bt _ | .bad=>false
 | _=>true
def U.cells:U->Option (List U)
 | .aF cs=>some cs
 | .bt _ | .bad=>none
 | v=>some [v]
def pr:Value->U
 | .bool b=>.bool b
 | .int k n=>.int k n
 | .string s=>.str s.data.toList
 | .pointer a=>match a with | none=>.kC | some _=>.bad
 | .slice a l c=>match a,l,c with | none,0,0=>.aH | _,_,_=>.bad
 | .map r=>match r with | none=>.iQ | some _=>.bad
 | .nilFunc=>.kA
 | .nilIface=>.kB
 | .func fn first gB=>match fn,first.toList,gB.toList with | .func f,[],[]=>.fn f [] [] | _,_,_=>.bad
 | _=>.bad
def wR:Value->U
 | .agg cs=>if cs.toList.all Value.oneCell' then .aF (cs.toList.map pr) else .bad
 | .tuple vs=>.bt (vs.toList.map pr)
 | v=>pr v
def c3 (G:Nat->U) (σ:Nat->U) :Operand->U
 | .tmp t=>σ t
 | .const v=>wR v
 | .func f=>.fn f [] []
 | .global g=>G g
def eJ (P:Program) (t:TypeId) :Option Bool:=(P.underlying t).map fun d=>match d with | .struct _ | .array _ _=>true | _=>false
def cz (P:Program) (t:TypeId) :Option Nat:=(P.info? t).map (·.size)
def kL (P:Program) (t:TypeId) :Option Nat:=(P.info? t).map (·.bytes)
def ic (P:Program) (t:TypeId) :Option (List U) :=((P.info? t).bind (·.zero)).bind fun v=>if v.cells.toList.all Value.oneCell' then some (v.cells.toList.map pr) else none
def i3 (P:Program) (t:TypeId) :Option TypeId:=match P.underlying t with | some (.slice e)=>some e | _=>none
def iq (P:Program) (t:TypeId) (cs:List U) (off:Nat) :Option U:=
 match eJ P t,cz P t with
 | some true,some n=>if off+n<=cs.length then some (.aF ((cs.drop off).take n)) else none
 | some false,_=>cs[off]?
 | _,_=>none
def reach (h:aN) :U->Option (List U × Nat)
 | .ptr b off sz=>match h.f b with
  | .cells n cs=>if n=sz then some (cs,off) else none
  | _=>none
 | .bM cs off=>some (cs,off)
 | _=>none
def s6 (P:Program) (h:aN) (t:TypeId) (p:U) :Option U:=
 match reach h p with
 | some (cs,off)=>iq P t cs off
 | none=>none
def a8 (cs:List U) (off:Nat) (vs:List U) :List U:=cs.take off++vs++cs.drop (off+vs.length)
def xf (P:Program) (h:aN) (t:TypeId) (p v:U) :Option aN:=
 match p,v.cells,cz P t with
 | .ptr b off sz,some vs,some n=>match h.f b with
  | .cells m cs=>if m=sz/\vs.length=n/\off+n<=m then some (h.set b (.cells m (a8 cs off vs))) else none
  | _=>none
 | _,_,_=>none
def asInt:U->Option Int
 | .int _ n=>some n
 | _=>none
def x1 (P:Program) (s:TypeId) (f:Nat) :Option Field:=match P.underlying s with | some (.struct fs)=>fs[f]? | _=>none
def nx:U->Nat->Option U
 | .ptr b off sz,k=>some (.ptr b (off+k) sz)
 | .bM cs off,k=>some (.bM cs (off+k))
 | _,_=>none
def Gb (P:Program) (s:TypeId) (x:U) (f:Nat) :Option U:=
 match x1 P s f with
 | some fd=>match cz P fd.type with
  | some (_+1)=>nx x fd.offset
  | _=>none
 | none=>none
def D5 (P:Program) (t:TypeId) (x e6:U) :Option U:=
 match P.underlying t,asInt e6 with
 | some (.array len e),some i=>match cz P e with
  | some z=>if 0<=i/\i<len then nx x (i.toNat*z) else none
  | none=>none
 | some (.slice e),some i=>match cz P e,x with
  | some z,.aq dF b off len _ sz=>if z=dF/\0<=i/\i<len then some (.ptr b (off+i.toNat*z) sz) else none
  | some z,.aZ dF es=>if z=dF/\0<=i then (es[i.toNat]?).map fun cs=>.bM cs 0 else none
  | _,_=>none
 | _,_=>none
def h4 (ly:Nat->Option (Nat × Nat)) (cells:List U) :List (Nat × U)->Option (List U)
 | []=>some cells
 | (i,v) ::rest=>match ly i,v.cells with
  | some (off,size),some vs=>if vs.length=size/\off+size<=cells.length then h4 ly (a8 cells off vs) rest else none
  | _,_=>none
def EN (P:Program) (fs:Array Field) (i:Nat) :Option (Nat × Nat) :=(fs[i]?).bind fun f=>(cz P f.type).map fun n=>(f.offset,n)
def Ce (P:Program) (t:TypeId) (parts:List (Nat × U)) :Option U:=
 match ic P t,P.underlying t with
 | some zero,some (.struct fs)=>if !(fs.toList.all fun f=>(cz P f.type).isSome) then none else (h4 (EN P fs) zero parts).map .aF
 | some zero,some (.array _ e)=>match cz P e with
  | some n=>(h4 (fun i=>some (i*n,n)) zero parts).map .aF
  | none=>none
 | _,_=>none
def dC (zero:List U) :Nat->List U
 | 0=>[]
 | n+1=>zero++dC zero n
def FN (P:Program) (h:aN) (t:TypeId) (len:Nat) (parts:List (Nat × U)) :Option (U × aN) :=
 match i3 P t with
 | some e=>match cz P e,ic P e with
  | some z,some zero=>if zero.length=z/\len*z<=16777216 then
    (h4 (fun i=>some (i*z,z)) (dC zero len) parts).map fun cs=>(.aq z h.n 0 len len (len*z),h.push (.cells (len*z) cs))
   else none
  | _,_=>none
 | none=>none
def ct (op:BinOp) (k:IntKind) (a:Int) (k' : IntKind) (b:Int) :Option U:=
 match op with
 | .shl=>if b<0 then none else some (.int k (k.wrap (a*2 ^ min b.toNat k.bits)))
 | .shr=>if b<0 then none else some (.int k (a.fdiv (2 ^ min b.toNat k.bits)))
 | .add=>if k=k' then some (.int k (k.wrap (a+b))) else none
 | .sub=>if k=k' then some (.int k (k.wrap (a - b))) else none
 | .mul=>if k=k' then some (.int k (k.wrap (a*b))) else none
 | .quo=>if k=k'/\b≠0 then some (.int k (k.wrap (a.tdiv b))) else none
 | .rem=>if k=k'/\b≠0 then some (.int k (a.tmod b)) else none
 | .and=>if k=k' then some (.int k (k.wrap (BitVec.ofInt k.bits a &&& BitVec.ofInt k.bits b).toNat)) else none
 | .or=>if k=k' then some (.int k (k.wrap (BitVec.ofInt k.bits a ||| BitVec.ofInt k.bits b).toNat)) else none
 | .xor=>if k=k' then some (.int k (k.wrap (BitVec.ofInt k.bits a ^^^ BitVec.ofInt k.bits b).toNat)) else none
 | .andNot=>if k=k' then some (.int k (k.wrap (BitVec.ofInt k.bits a &&& ~~~BitVec.ofInt k.bits b).toNat)) else none
 | .eql=>if k=k' then some (.bool (a == b)) else none
 | .neq=>if k=k' then some (.bool (a != b)) else none
 | .lss=>if k=k' then some (.bool (decide (a<b))) else none
 | .leq=>if k=k' then some (.bool (decide (a<=b))) else none
 | .gtr=>if k=k' then some (.bool (decide (a > b))) else none
 | .geq=>if k=k' then some (.bool (decide (a ≥ b))) else none
def vB (op:BinOp) (a b:List UInt8) :Option U:=
 match op with
 | .eql=>some (.bool (a == b))
 | .neq=>some (.bool (!(a == b)))
 | .lss=>some (.bool (Op.bytesLess a b))
 | .leq=>some (.bool (Op.bytesLess a b||a == b))
 | .gtr=>some (.bool (!(Op.bytesLess a b||a == b)))
 | .geq=>some (.bool (!Op.bytesLess a b))
 | .add=>if a.length+b.length<=9223372036854775807 then some (.str (a++b)) else none
 | _=>none
def eU (P:Program) :Nat->TypeId->U->U->Option Bool
 | 0,_,_,_=>none
 | d+1,t,x,y=>
  match P.underlying t,x,y with
  | some .bool,.bool a,.bool b=>some (a == b)
  | some (.int _),.int k a,.int k' b=>if k=k' then some (a == b) else none
  | some .string,.str a,.str b=>some (a == b)
  | some (.struct fs),.aF xs,.aF bJ=>if P.stoodInHeld t then none else eqFields P (eU P d) xs bJ fs.toList
  | some (.array n e),.aF xs,.aF bJ=>match cz P e with
   | some z=>sy P (eU P d) e z xs bJ n 0
   | none=>none
  | some (.slice _),.aH,.aH=>some true
  | some (.slice _),.aH,.aq .. | some (.slice _),.aH,.aZ .. | some (.slice _),.aq ..,.aH | some (.slice _),.aZ ..,.aH=>some false
  | _,_,_=>none
where
 eqFields (P:Program) (eq:TypeId->U->U->Option Bool) (xs bJ:List U) :List Field->Option Bool
  | []=>some true
  | f::fs=>if f.name= "_" then eqFields P eq xs bJ fs else
   match iq P f.type xs f.offset,iq P f.type bJ f.offset with
   | some a,some b=>match eq f.type a b with
    | some true=>eqFields P eq xs bJ fs
    | some false=>some false
    | none=>none
   | _,_=>none
 sy (P:Program) (eq:TypeId->U->U->Option Bool) (e:TypeId) (z:Nat) (xs bJ:List U) :Nat->Nat->Option Bool
  | 0,_=>some true
  | n+1,i=>match iq P e xs (i*z),iq P e bJ (i*z) with
   | some a,some b=>match eq e a b with
    | some true=>sy P eq e z xs bJ n (i+1)
    | some false=>some false
    | none=>none
   | _,_=>none
def xZ (P:Program) (t:TypeId) :U->U->Bool
 | .aF _,.aF _=>!P.eqGuardType P.depth t
 | _,_=>true
def gN (P:Program) (op:BinOp) (t:TypeId) (x y:U) :Option U:=
 match x,y with
 | .int k a,.int k' b=>ct op k a k' b
 | .str a,.str b=>vB op a b
 | x,y=>match op with
  | .eql=>if xZ P t x y then (eU P 10000 t x y).map .bool else none
  | .neq=>if xZ P t x y then (eU P 10000 t x y).map fun b=>.bool (!b) else none
  | _=>none
def qM (op:UnOp) (x:U) :Option U:=
 match op,x with
 | .not,.bool b=>some (.bool (!b))
 | .neg,.int k n=>some (.int k (k.wrap (0 - n)))
 | .xor,.int k n=>some (.int k (k.wrap (BitVec.ofInt k.bits (if k.signed then -1 else k.max) ^^^ BitVec.ofInt k.bits n).toNat))
 | _,_=>none
def me (z:Nat) :Nat->List U->List (List U)
 | 0,_=>[]
 | n+1,cs=>cs.take z::me z n (cs.drop z)
def jD (b:UInt8) :U:=.int .u8 b.toNat
def contents (h:aN) (z:Nat) :U->Option (List U × Nat)
 | .aH=>some ([],0)
 | .aZ dF es=>if z=dF then some (es.flatten,es.length) else none
 | .aq dF b off len _ sz=>match h.f b with
  | .cells n cs=>if n=sz/\z=dF then some ((cs.drop off).take (len*z),len) else none
  | _=>none
 | .str s=>if z=1 then some (s.map jD,s.length) else none
 | _=>none
def cw:Nat:=140737488355328
def tx (P:Program) (t:TypeId) :Option Nat:=((P.info? t).bind (·.zero)).map (·.cells.size)
def vy (P:Program) (h:aN) (e:TypeId) (z by_:Nat) (s:U) (xs:List U) (n:Nat) :Option (U × aN) :=
 if n=0 then (match s with | .aH | .aZ .. | .aq ..=>some (s,h) | _=>none)
 else if z=0\/by_=0\/tx P e≠some z then none else match s with
  | .aH=>if n*by_<=cw then some (.aq z h.n 0 n n (n*z),h.push (.cells (n*z) xs)) else none
  | .aq dF b off len cap sz=>match h.f b with
   | .cells m cs=>
    if m=sz/\z=dF/\(len+n)*by_<=cw then
     if len+n<=cap then some (.aq z b off (len+n) cap sz,h.set b (.cells m (a8 cs (off+len*z) xs)))
     else if off+cap*z<sz then some (.aq z h.n 0 (len+n) (len+n) ((len+n)*z),h.push (.cells ((len+n)*z) ((cs.drop off).take (len*z)++xs)))
     else if off=0 then some (.aq z b 0 (len+n) (len+n) ((len+n)*z),h.set b (.cells ((len+n)*z) (cs.take (len*z)++xs)))
     else some (.aq z h.n 0 (len+n) (len+n) ((len+n)*z),(h.set b .dead).push (.cells ((len+n)*z) ((cs.drop off).take (len*z)++xs)))
    else none
   | _=>none
  | _=>none
def so (P:Program) (h:aN) (t:TypeId) (s x:U) :Option (U × aN) :=
 match i3 P t with
 | none=>none
 | some e=>match cz P e,kL P e with
  | some z,some by_=>match contents h z x with
   | none=>none
   | some (xs,n)=>vy P h e z by_ s xs n
  | _,_=>none
def jd (x:U) (y:Nat) :Option Nat:=match x with | .int _ i=>if 0<=i/\i<=y then some i.toNat else none | _=>none
def gO (len cap:Nat) (cJ ay cK:Option U) :Option (Nat × Nat × Nat) :=
 match (match cK with | some v=>jd v cap | none=>some cap) with
 | none=>none
 | some m=>match (match ay,cK with | some v,_=>jd v m | none,none=>some len | none,some _=>none) with
  | none=>none
  | some h=>match (match cJ with | some v=>jd v h | none=>some 0) with
   | none=>none
   | some l=>some (l,h,m)
def E4 (P:Program) (t:TypeId) (x:U) (cJ ay cK:Option U) :Option U:=
 match P.underlying t,x with
 | some (.array n e),x=>match cz P e,gO n n cJ ay cK with
  | some z,some (l,aS,m)=>match x with
   | .ptr b off sz=>if off+m*z<=sz then (if m=l then some (.aZ z []) else some (.aq z b (off+l*z) (aS - l) (m - l) sz)) else none
   | .bM cs off=>if off+n*z<=cs.length then some (.aZ z (me z (aS - l) (cs.drop (off+l*z)))) else none
   | _=>none
  | _,_=>none
 | some (.slice e),x=>match cz P e,x with
  | some z,.aq dF b off len cap sz=>if z=dF then (gO len cap cJ ay cK).map fun (l,aS,m)=>if m=l then .aq z b (off+l*z) 0 0 sz else .aq z b (off+l*z) (aS - l) (m - l) sz else none
  | some z,.aZ dF es=>if z=dF then (gO es.length es.length cJ ay cK).map fun (l,aS,_)=>.aZ z ((es.drop l).take (aS - l)) else none
  | some _,.aH=>(gO 0 0 cJ ay cK).map fun _=>.aH
  | _,_=>none
 | some .string,.str s=>match cK with
  | none=>(gO s.length s.length cJ ay none).map fun (l,aS,_)=>.str ((s.drop l).take (aS - l))
  | some _=>none
 | _,_=>none
def yS (P:Program) (t:TypeId) (x:U) :Option U:=
 match P.underlying t,x with
 | some .string,.str s=>some (.int .i64 s.length)
 | some (.array n _),_=>some (.int .i64 n)
 | some (.slice _),.aH=>some (.int .i64 0)
 | some (.slice _),.aq _ _ _ len _ _=>some (.int .i64 len)
 | some (.slice _),.aZ _ es=>some (.int .i64 es.length)
 | some (.map _ _),.iQ=>some (.int .i64 0)
 | _,_=>none
def H4 (P:Program) (h:aN) (t:TypeId) (l c:U) :Option (U × aN) :=
 match i3 P t,asInt l,asInt c with
 | some e,some l,some c=>match cz P e,kL P e,ic P e with
  | some z,some by_,some zero=>
   if zero.length=z/\0<=l/\l<=c/\c<9223372036854775808/\by_*c<=cw then
    some (.aq z h.n 0 l.toNat c.toNat (c.toNat*z),h.push (.cells (c.toNat*z) (dC zero c.toNat)))
   else none
  | _,_,_=>none
 | _,_,_=>none
def zZ (P:Program) (h:aN) (t:TypeId) (d x:U) :Option (U × aN) :=
 match i3 P t with
 | none=>none
 | some e=>match cz P e with
  | none=>none
  | some z=>match contents h z x with
   | none=>none
   | some (xs,n)=>match d with
    | .aH=>some (.int .i64 0,h)
    | .aq dF b off len _ sz=>match h.f b with
     | .cells m cs=>if m=sz/\z=dF then some (.int .i64 ((min n len:Nat) :Int),h.set b (.cells m (a8 cs off (xs.take (min n len*z))))) else none
     | _=>none
    | _=>none
def nv:List U->Option (List UInt8)
 | []=>some []
 | .int .u8 n::r=>(nv r).map (UInt8.ofNat n.toNat::·)
 | _::_=>none
def xT (P:Program) (h:aN) (src dst:TypeId) (x:U) :Option U:=
 match P.underlying src,P.underlying dst,x with
 | some _,some (.int k),.int _ n=>some (.int k (k.wrap n))
 | some _,some .string,.str s=>some (.str s)
 | some (.slice e),some .string,x=>match P.underlying e,x with
  | some (.int .u8),.aH=>some (.str [])
  | some (.int .u8),x=>match contents h 1 x,x with
   | some _,.str _=>none
   | some (cs,_),_=>(nv cs).map .str
   | none,_=>none
  | _,_=>none
 | _,_,_=>none
def zN (P:Program) (src dst:TypeId) (x:U) :Option U:=
 match P.underlying src,P.underlying dst,x with
 | some _,some (.slice e),.str s=>match P.underlying e with
  | some (.int .u8)=>some (.aZ 1 (s.map fun b=>[jD b]))
  | _=>none
 | _,_,_=>none
def zP (P:Program) (t:TypeId) (x:U) :Option U:=
 match P.underlying t,x with
 | some (.array n _),_=>some (.int .i64 n)
 | some (.slice _),.aH=>some (.int .i64 0)
 | _,_=>none
def zT (P:Program) (h:aN) (t:TypeId) (x:U) :Option aN:=
 match P.underlying t,x with
 | some (.slice _),.aH=>some h
 | some (.slice _),.aZ _ []=>some h
 | some (.slice e),.aq z b off len _ sz=>if len=0 then some h else match ic P e,h.f b with
  | some zero,.cells m cs=>if m=sz/\zero.length=z then some (h.set b (.cells m (a8 cs off (dC zero len)))) else none
  | _,_=>none
 | _,_=>none
def A2 (P:Program) (t:TypeId) (x e6:U) :Option U:=
 match P.underlying t,x,asInt e6 with
 | some (.array n e),.aF cs,some i=>match cz P e with
  | some z=>if 0<=i/\i<n then iq P e cs (i.toNat*z) else none
  | none=>none
 | some .string,.str s,some i=>if 0<=i then (s[i.toNat]?).map jD else none
 | _,_,_=>none
mutual
def U.beq:U->U->Bool
 | .bool a,y=>match y with | .bool b=>(match a,b with | true,true=>true | false,false=>true | _,_=>false) | _=>false
 | .int k n,y=>match y with | .int k' hH=>decide (k=k')&&decide (n=hH) | _=>false
 | .str a,y=>match y with | .str b=>decide (a=b) | _=>false
 | .kC,y=>match y with | .kC=>true | _=>false
 | .aH,y=>match y with | .aH=>true | _=>false
 | .iQ,y=>match y with | .iQ=>true | _=>false
 | .kA,y=>match y with | .kA=>true | _=>false
 | .kB,y=>match y with | .kB=>true | _=>false
 | .aF a,y=>match y with | .aF b=>fC a b | _=>false
 | .bt a,y=>match y with | .bt b=>fC a b | _=>false
 | .ptr a b c,y=>match y with | .ptr dj bg c'=>Nat.beq a dj&&Nat.beq b bg&&Nat.beq c c' | _=>false
 | .bM a n,y=>match y with | .bM dj hH=>fC a dj&&Nat.beq n hH | _=>false
 | .aq a b c d e f,y=>match y with | .aq dj bg c' J8 fF Su=>Nat.beq a dj&&Nat.beq b bg&&Nat.beq c c'&&Nat.beq d J8&&Nat.beq e fF&&Nat.beq f Su | _=>false
 | .aZ a b,y=>match y with | .aZ dj bg=>Nat.beq a dj&&Cb b bg | _=>false
 | .fn a b c,y=>match y with | .fn dj bg c'=>Nat.beq a dj&&fC b bg&&fC c c' | _=>false
 | .mp a,y=>match y with | .mp dj=>Nat.beq a dj | _=>false
 | .it a,y=>match y with | .it dj=>Nat.beq a dj | _=>false
 | .hF a b,y=>match y with | .hF dj bg=>Nat.beq a dj&&U.beq b bg | _=>false
 | .hz a,y=>match y with | .hz dj=>Nat.beq a dj | _=>false
 | .bad,y=>match y with | .bad=>true | _=>false
def fC:List U->List U->Bool
 | [],y=>match y with | []=>true | _=>false
 | a::as,y=>match y with | b::bs=>U.beq a b&&fC as bs | _=>false
def Cb:List (List U)->List (List U)->Bool
 | [],y=>match y with | []=>true | _=>false
 | a::as,y=>match y with | b::bs=>fC a b&&Cb as bs | _=>false
end
theorem k0 {a b:Nat} (h:Nat.beq a b=true) :a=b:=Nat.eq_of_beq_eq_true h
mutual
theorem U.beq_eq:∀ {a b:U},U.beq a b=true->a=b
 | .bool a,b,h=>by cases b<;>simp only[U.beq] at h<;>first | cases h | (rename_i b; cases a<;>cases b<;>first | rfl | cases h)
 | .int k n,b,h=>by cases b<;>simp only[U.beq] at h<;>first | cases h | (simp only[Bool.and_eq_true,decide_eq_true_eq] at h; rw[h.1,h.2])
 | .str a,b,h=>by cases b<;>simp only[U.beq] at h<;>first | cases h | (simp only[decide_eq_true_eq] at h; rw[h])
 | .kC,b,h=>by cases b<;>simp only[U.beq] at h<;>first | rfl | cases h
 | .aH,b,h=>by cases b<;>simp only[U.beq] at h<;>first | rfl | cases h
 | .iQ,b,h=>by cases b<;>simp only[U.beq] at h<;>first | rfl | cases h
 | .kA,b,h=>by cases b<;>simp only[U.beq] at h<;>first | rfl | cases h
 | .kB,b,h=>by cases b<;>simp only[U.beq] at h<;>first | rfl | cases h
 | .bad,b,h=>by cases b<;>simp only[U.beq] at h<;>first | rfl | cases h
 | .aF a,b,h=>by cases b<;>simp only[U.beq] at h<;>first | cases h | rw[tQ h]
 | .bt a,b,h=>by cases b<;>simp only[U.beq] at h<;>first | cases h | rw[tQ h]
 | .ptr ..,b,h=>by cases b<;>simp only[U.beq] at h<;>first | cases h | (simp only[Bool.and_eq_true] at h; rw[k0 h.1.1,k0 h.1.2,k0 h.2])
 | .bM a n,b,h=>by cases b<;>simp only[U.beq] at h<;>first | cases h | (simp only[Bool.and_eq_true] at h; rw[tQ h.1,k0 h.2])
 | .aq ..,b,h=>by cases b<;>simp only[U.beq] at h<;>first | cases h | (simp only[Bool.and_eq_true] at h; rw[k0 h.1.1.1.1.1,k0 h.1.1.1.1.2,k0 h.1.1.1.2,k0 h.1.1.2,k0 h.1.2,k0 h.2])
 | .aZ a n,b,h=>by cases b<;>simp only[U.beq] at h<;>first | cases h | (simp only[Bool.and_eq_true] at h; rw[k0 h.1,PU h.2])
 | .fn a n m,b,h=>by cases b<;>simp only[U.beq] at h<;>first | cases h | (simp only[Bool.and_eq_true] at h; rw[k0 h.1.1,tQ h.1.2,tQ h.2])
 | .mp a,b,h=>by cases b<;>simp only[U.beq] at h<;>first | cases h | rw[k0 h]
 | .it a,b,h=>by cases b<;>simp only[U.beq] at h<;>first | cases h | rw[k0 h]
 | .hz a,b,h=>by cases b<;>simp only[U.beq] at h<;>first | cases h | rw[k0 h]
 | .hF a n,b,h=>by cases b<;>simp only[U.beq] at h<;>first | cases h | (simp only[Bool.and_eq_true] at h; rw[k0 h.1,U.beq_eq h.2])
theorem tQ:∀ {a b:List U},fC a b=true->a=b
 | [],b,h=>by cases b<;>simp only[fC] at h<;>first | rfl | cases h
 | x::a,b,h=>by cases b<;>simp only[fC] at h<;>first | cases h | (simp only[Bool.and_eq_true] at h; rw[U.beq_eq h.1,tQ h.2])
theorem PU:∀ {a b:List (List U)},Cb a b=true->a=b
 | [],b,h=>by cases b<;>simp only[Cb] at h<;>first | rfl | cases h
 | x::a,b,h=>by cases b<;>simp only[Cb] at h<;>first | cases h | (simp only[Bool.and_eq_true] at h; rw[tQ h.1,PU h.2])
end
def wV:U->Bool | .int .. | .str _ | .bool _=>true | _=>false
def uO (P:Program) :Nat->TypeId->Bool
 | 0,_=>false
 | d+1,t=>match P.underlying t,cz P t with
  | some (.int _),_=>true
  | some .string,_=>true
  | some .bool,_=>true
  | some (.array n e),some m=>uO P d e&&(match cz P e,eJ P e with | some z,some _=>Nat.ble (n*z) m&&Nat.ble 1 z | _,_=>false)
  | some (.struct fs),some m=>fs.toList.all fun f=>uO P d f.type&&(match cz P f.type,eJ P f.type with | some z,some _=>Nat.ble (f.offset+z) m&&Nat.ble 1 z | _,_=>false)
  | _,_=>false
def l4 (P:Program) (t:TypeId) (c:U) :Bool:=
 match c with
 | .aF cs=>uO P 8 t&&(match eJ P t,cz P t with | some true,some m=>Nat.beq cs.length m | _,_=>false)&&cs.all wV
 | _=>false
def lf (P:Program) (cP:TypeId) (k:U) :List (U × U × Nat)->Nat->Option (Option (Nat × U))
 | [],_=>some none
 | (k',v,_) ::es,i=>match l4 P cP k' with
  | false=>none
  | true=>match eU P 10000 cP k k' with
   | some true=>match U.beq k k' with | true=>some (some (i,v)) | false=>none
   | some false=>lf P cP k es (i+1)
   | none=>none
def mapOf (h:aN) :U->Option (List (U × U × Nat))
 | .iQ=>some []
 | .mp b=>match h.f b with | .map es _=>some es | _=>none
 | _=>none
def zx (P:Program) (t:TypeId) :Option U:=((P.info? t).bind (·.zero)).map wR
def H0 (P:Program) (h:aN) (t:TypeId) (m k:U) (ok:Bool) :Option U:=
 match P.underlying t,mapOf h m with
 | some (.map cP mV),some es=>match l4 P cP k with
  | false=>none
  | true=>match lf P cP k es 0 with
   | some (some (_,v))=>some (if ok then .bt [v,.bool true] else v)
   | some none=>(zx P mV).map fun z=>if ok then .bt [z,.bool false] else z
   | none=>none
 | _,_=>none
def yY (P:Program) (h:aN) (t:TypeId) (m k v:U) :Option aN:=
 match P.underlying t,m with
 | some (.map cP _),.mp b=>match h.f b with
  | .map es eh=>match l4 P cP k with
   | false=>none
   | true=>match lf P cP k es 0 with
    | some (some (i,_))=>some (h.set b (.map (es.modify i fun e=>(k,v,e.2.2)) eh))
    | some none=>some (h.set b (.map (es++[(k,v,eh)]) (eh+1)))
    | none=>none
  | _=>none
 | _,_=>none
def yT (P:Program) (h:aN) (t:TypeId) (x:U) :Option U:=
 match P.underlying t,x with
 | some (.map _ _),.mp b=>match h.f b with | .map es _=>some (.int .i64 es.length) | _=>none
 | _,_=>none
def Iw (P:Program) (h:aN) (t:TypeId) (x:U) :Option (U × aN) :=
 match P.underlying t,x with
 | some .string,.str s=>some (.it h.n,h.push (.iter s 0))
 | _,_=>none
def Be (h:aN) (x:U) :Option (U × aN) :=
 match x with
 | .it b=>match h.f b with
  | .iter s pos=>match Nat.blt pos s.length with
   | true=>some (.bt [.bool true,.int .i64 pos,.int .i32 (Utf8.decode ⟨s.toArray⟩ pos).1],h.set b (.iter s (pos+(Utf8.decode ⟨s.toArray⟩ pos).2)))
   | false=>some (.bt [.bool false],h)
  | _=>none
 | _=>none
def ol:List UInt8->List UInt8->Int
 | [],[]=>0
 | [],_::_=>-1
 | _::_,[]=>1
 | a::as,b::bs=>if a=b then ol as bs else if a<b then -1 else 1
def sr (h:aN) (x:U) :Option (List UInt8) :=match x with
 | .str s=>some s
 | x=>match contents h 1 x with
  | some (cs,_)=>nv cs
  | none=>none
def Cq (h:aN) :List U->Option U
 | [x,y]=>match sr h x,sr h y with
  | some a,some b=>some (.int .i64 (ol a b))
  | _,_=>none
 | _=>none
def D7 (fn:Func) :Bool:=fn.body.isNone&&fn.name == "internal/bytealg.Compare"&&(fn.origin == ""||fn.origin == "internal/bytealg.Compare")
inductive pQ where
 | val (v:U) (h:aN)
 | call (f:FuncId) (args:List U) (h:aN)
def wL:U->U->Option U
 | .int k x,.int k' y=>if k=k' then some (.int k (if y<x then y else x)) else none
 | _,_=>none
def uT:U->U->Option U
 | .int k x,.int k' y=>if k=k' then some (.int k (if x<y then y else x)) else none
 | _,_=>none
def gL:U:=.bt []
def B9 (P:Program) (h:aN) (t:TypeId) (s x:U) :Option (U × aN) :=
 match i3 P t,asInt x with
 | some e,some n=>match cz P e,kL P e,ic P e with
  | some z,some by_,some zero=>
   if zero.length=z/\0<=n/\n<9223372036854775808/\n.toNat*by_<=cw then vy P h e z by_ s (dC zero n.toNat) n.toNat else none
  | _,_,_=>none
 | _,_=>none
def pV (P:Program) (h:aN) (b:Builtin) (ts:List TypeId) (args:List U) :Option pQ:=
 match b,ts,args with
 | .len,[t],[x]=>match yT P h t x with
  | some v=>some (.val v h)
  | none=>(yS P t x).map fun v=>.val v h
 | .append,[t,u],[s,x]=>match P.underlying u with
  | some (.int _)=>(B9 P h t s x).map fun (v,h')=>.val v h'
  | none=>none
  | _=>(so P h t s x).map fun (v,h')=>.val v h'
 | .copy,[t,_],[d,x]=>(zZ P h t d x).map fun (v,h')=>.val v h'
 | .cap,[t],[x]=>(zP P t x).map fun v=>.val v h
 | .clear,[t],[x]=>(zT P h t x).map fun h'=>.val (.bt []) h'
 | .min,_,[x,y]=>(wL x y).map fun v=>.val v h
 | .max,_,[x,y]=>(uT x y).map fun v=>.val v h
 | _,_,_=>none
def yZ (P:Program) (t:TypeId) (name:String) :Option FuncId:=
 match P.underlying t with
 | some (.pointer _) | none=>none
 | _=>match P.info? t with
  | some i=>match i.methods.find? (·.name == name) with
   | some m=>match m.path.toList,m.func with
    | [],some (f,false)=>some f
    | _,_=>none
   | none=>none
  | none=>none
def BG (t:TypeId) (z:U) (ok:Bool) :U->Option U
 | .hF gK v=>match Nat.beq gK t with
  | true=>match ok with | true=>some (.bt [v,.bool true]) | false=>some v
  | false=>match ok with | true=>some (.bt [z,.bool false]) | false=>none
 | .kB=>match ok with | true=>some (.bt [z,.bool false]) | false=>none
 | _=>none
def I0 (P:Program) (t:TypeId) :Option U:=match P.underlying t with
 | some (.interface _) | none=>none
 | _=>zx P t
def vF (P:Program) (h:aN) (aA:Operand->U) (c:Call) :Option pQ:=
 match c.callee with
 | .builtin b=>pV P h b c.argTypes.toList (c.args.toList.map aA)
 | .value f=>match aA f with
  | .fn g first gB=>match P.funcs[g]? with
   | some fn=>if fn.body.isSome/\fn.name≠ "runtime.NumGoroutine" then some (.call g (first++c.args.toList.map aA++gB) h)
    else if D7 fn then (Cq h (first++c.args.toList.map aA++gB)).map fun v=>.val v h else none
   | none=>none
  | _=>none
 | .invoke x name=>match aA x with
  | .hF t v=>match yZ P t name with
   | some g=>match P.funcs[g]? with
    | some fn=>if fn.body.isSome/\fn.name≠ "runtime.NumGoroutine" then some (.call g (v::c.args.toList.map aA) h) else none
    | none=>none
   | none=>none
  | _=>none
def c6 (P:Program) (h:aN) (aA:Operand->U) (op:Op) :Option pQ:=
 let v (x:Option U) :Option pQ:=x.map fun y=>.val y h
 let w (x:Option (U × aN)) :Option pQ:=x.map fun y=>.val y.1 y.2
 match op with
 | .move x | .assign x=>some (.val (aA x) h)
 | .pick c a b=>match aA c with | .bool t=>some (.val (if t then aA a else aA b) h) | _=>none
 | .alloc t=>(ic P t).map fun z=>.val (.ptr h.n 0 z.length) (h.push (.cells z.length z))
 | .box _ x=>(aA x).cells.map fun cs=>.val (.ptr h.n 0 cs.length) (h.push (.cells cs.length cs))
 | .build t parts=>v (Ce P t (parts.toList.map fun p=>(p.1,aA p.2)))
 | .buildSlice t len parts=>w (FN P h t len (parts.toList.map fun p=>(p.1,aA p.2)))
 | .load t a=>v (s6 P h t (aA a))
 | .store t a x=>(xf P h t (aA a) (aA x)).map fun h'=>.val gL h'
 | .nilCheck x=>match aA x with | .ptr b o s=>some (.val (.ptr b o s) h) | .bM c o=>some (.val (.bM c o) h) | .fn f a b=>some (.val (.fn f a b) h) | _=>none
 | .binOp op t x y _=>v (gN P op t (aA x) (aA y))
 | .unOp op _ x=>v (qM op (aA x))
 | .convert s d x=>match zN P s d (aA x) with
  | some c=>some (.val c h)
  | none=>v (xT P h s d (aA x))
 | .makeInterface t x=>match P.underlying t with
  | some (.interface _) | none=>none
  | _=>some (.val (.hF t (aA x)) h)
 | .makeFunc (.func f) first gB=>some (.val (.fn f (first.toList.map aA) (gB.toList.map aA)) h)
 | .makeSlice t l c=>w (H4 P h t (aA l) (aA c))
 | .slice t x cJ ay cK=>v (E4 P t (aA x) (cJ.map aA) (ay.map aA) (cK.map aA))
 | .fieldAddr s x f=>v (Gb P s (aA x) f)
 | .field t x f=>match aA x,x1 P t f with
  | .aF cs,some fd=>v (iq P fd.type cs fd.offset)
  | _,_=>none
 | .indexAddr t x i=>v (D5 P t (aA x) (aA i))
 | .index t x i=>v (A2 P t (aA x) (aA i))
 | .extract x i=>match aA x with | .bt vs=>v vs[i]? | _=>none
 | .call c=>vF P h aA c
 | .makeMap t r=>match P.underlying t,(match r with | none=>true | some x=>(asInt (aA x)).isSome) with | some (.map _ _),true=>some (.val (.mp h.n) (h.push (.map [] 0))) | _,_=>none
 | .lookup t m k ok=>v (H0 P h t (aA m) (aA k) ok)
 | .mapUpdate t m k x | .insert t m k x=>(yY P h t (aA m) (aA k) (aA x)).map fun h'=>.val gL h'
 | .range t x=>w (Iw P h t (aA x))
 | .next it true=>w (Be h (aA it))
 | .typeAssert x _ t ok=>match I0 P t with | some z=>v (BG t z ok (aA x)) | none=>none
 | _=>none
structure M where
 r:Nat
 s:Nat
 T:Nat
abbrev ck:=Nat->Option M
def live:aV->Bool
 | .cells .. | .map .. | .iter ..=>true
 | _=>false
def oM:aV->Nat
 | .map ..=>1
 | .iter ..=>2
 | _=>0
def Own (h:aN) (μ:ck) (k:Nat) :Prop:=∃ b m,live (h.f b)=true/\μ b=some m/\m.r=k
def xE (h:aN) (b sz:Nat) :Prop:=h.f b=.dead\/∃ n cs,h.f b=.cells n cs/\sz<n
structure Cell (w:World) (R:Nat->Prop) (h:aN) (μ:ck) (b o:Nat) (v:Value) :Prop where
 here:w.cell? ⟨b,o,none⟩=some v
 one:v.oneCell'=true
 ro:R b
 free:¬ Own h μ b
inductive aO (w:World) (R:Nat->Prop) (h:aN) (μ:ck) :U->Value->Prop where
 | bool (b:Bool) :aO w R h μ (.bool b) (.bool b)
 | int (k:IntKind) (n:Int) :aO w R h μ (.int k n) (.int k n)
 | str (bs:ByteArray) :aO w R h μ (.str bs.data.toList) (.string bs)
 | kC:aO w R h μ .kC (.pointer none)
 | aH:aO w R h μ .aH (.slice none 0 0)
 | iQ:aO w R h μ .iQ (.map none)
 | kA:aO w R h μ .kA .nilFunc
 | kB:aO w R h μ .kB .nilIface
 | aF (cs:List U) (vs:Array Value) (al:vs.size=cs.length) (ad:∀ (j:Nat) (v:Value),vs[j]? = some v->v.oneCell'=true)
   (ap:∀ (j:Nat) (c:U) (v:Value),cs[j]? = some c->vs[j]? = some v->aO w R h μ c v) :aO w R h μ (.aF cs) (.agg vs)
 | bt (cs:List U) (vs:Array Value) (al:vs.size=cs.length)
   (ap:∀ (j:Nat) (c:U) (v:Value),cs[j]? = some c->vs[j]? = some v->aO w R h μ c v) :aO w R h μ (.bt cs) (.tuple vs)
 | ptr (b off sz:Nat) (cs:List U) (m:M) (ag:h.f b=.cells sz cs) (hm:μ b=some m) :
   aO w R h μ (.ptr b off sz) (.pointer (some ⟨m.r,m.s+off,none⟩))
 | nf (b off sz:Nat) (a:Addr) (aw:xE h b sz) :aO w R h μ (.ptr b off sz) (.pointer (some a))
 | bM (cs:List U) (off blk o:Nat) (eR:Nat->Value) (ah:∀ j,j<cs.length->Cell w R h μ blk (o+j) (eR j))
   (ap:∀ (j:Nat) (c:U),cs[j]? = some c->aO w R h μ c (eR j)) :aO w R h μ (.bM cs off) (.pointer (some ⟨blk,o+off,none⟩))
 | aq (z b off len cap sz cap' : Nat) (cs:List U) (m:M) (ag:h.f b=.cells sz cs) (hm:μ b=some m) (al:len<=cap) (au:off+cap*z<=sz)
   (ah:(off+cap*z<sz/\cap'=cap)\/(off+cap*z=sz/\cap<=cap'/\m.s+off+cap'*z<=m.T)) :
   aO w R h μ (.aq z b off len cap sz) (.slice (some ⟨m.r,m.s+off,none⟩) len cap')
 | hI (z b off len cap sz cap' : Nat) (a:Addr) (al:len<=cap) (ah:cap<=cap') (aw:xE h b sz) :aO w R h μ (.aq z b off len cap sz) (.slice (some a) len cap')
 | iV (z b off sz:Nat) (a:Addr) (cs:List U) (m:M) (ag:h.f b=.cells sz cs) (hm:μ b=some m) :aO w R h μ (.aq z b off 0 0 sz) (.slice (some a) 0 0)
 | aZ (z:Nat) (es:List (List U)) (blk off cap:Nat) (eR:Nat->Nat->Value) (al:es.length<=cap) (ax:∀ e,e∈es->e.length=z)
   (ah:∀ i j,i<es.length->j<z->Cell w R h μ blk (off+(i*z+j)) (eR i j))
   (ap:∀ (i:Nat) (e:List U),es[i]? = some e->∀ (j:Nat) (c:U),e[j]? = some c->aO w R h μ c (eR i j)) :
   aO w R h μ (.aZ z es) (.slice (some ⟨blk,off,none⟩) es.length cap)
 | gk (z:Nat) (a:Addr) (cap:Nat) :aO w R h μ (.aZ z []) (.slice (some a) 0 cap)
 | fn (f:FuncId) (first gB:List U) (fs cs:Array Value) (aE:fs.size=first.length) (ah:cs.size=gB.length)
   (ad:∀ (j:Nat) (c:U) (v:Value),first[j]? = some c->fs[j]? = some v->aO w R h μ c v) (ae:∀ (j:Nat) (c:U) (v:Value),gB[j]? = some c->cs[j]? = some v->aO w R h μ c v) :
   aO w R h μ (.fn f first gB) (.func (.func f) fs cs)
 | mp (b:Nat) (m:M) (ag:oM (h.f b)=1) (hm:μ b=some m) :aO w R h μ (.mp b) (.map (some m.r))
 | it (b:Nat) (m:M) (ag:oM (h.f b)=2) (hm:μ b=some m) :aO w R h μ (.it b) (.pointer (some ⟨m.r,0,none⟩))
 | hF (t:TypeId) (c:U) (v:Value) (ap:aO w R h μ c v) :aO w R h μ (.hF t c) (.iface t v)
 | hz (l:Nat) :aO w R h μ (.hz l) (.func (.yield l) #[] #[])
 | bad (v:Value) :aO w R h μ .bad v
structure Ext0 (w:World) (h:aN) (μ:ck) (w' : World) (h' : aN) (μ' : ck) :Prop where
 os:w'.os=w.os
 tape:w'.tape=w.tape
 output:w'.output=w.output
 size:w.heap.size<=w'.heap.size
 cd:∀ k,k<w.heap.size->¬ Own h μ k->w'.heap[k]? = w.heap[k]?
 own:∀ k,Own h' μ' k->Own h μ k\/w.heap.size<=k
 cells:∀ b sz cs m,h.f b=.cells sz cs->μ b=some m->(∃ cs',h'.f b=.cells sz cs'/\μ' b=some m)\/xE h' b sz
 gone:∀ b sz,xE h b sz->xE h' b sz
 EC:∀ b k m,oM (h.f b)=k+1->μ b=some m->oM (h'.f b)=k+1/\μ' b=some m
 n:h.n<=h'.n
 drawn:w.drawn<=w'.drawn:=by first | exact Nat.le_refl _ | exact Nat.le_succ _ | assumption
structure df (w:World) (h:aN) (μ:ck) (w' : World) (h' : aN) (μ' : ck) :Prop extends Ext0 w h μ w' h' μ' where
 qN:∀ b,b<h.n->μ b=none->μ' b=none
theorem Ext0.refl (w:World) (h:aN) (μ:ck) :Ext0 w h μ w h μ:=
 ⟨rfl,rfl,rfl,Nat.le_refl _,fun _ _ _=>rfl,fun _ h=>.inl h,fun b sz cs m ad ae=>.inl ⟨cs,ad,ae⟩,fun _ _ h=>h,fun _ _ _ ad ae=>⟨ad,ae⟩,Nat.le_refl _,Nat.le_refl _⟩
theorem df.refl (w:World) (h:aN) (μ:ck) :df w h μ w h μ:=⟨.refl w h μ,fun _ _ h=>h⟩
theorem Ext0.trans {w bL w2:World} {h ad ae:aN} {μ g5 oT:ck} (a:Ext0 w h μ bL ad g5) (b:Ext0 bL ad g5 w2 ae oT) :Ext0 w h μ w2 ae oT:=by
 refine⟨b.os.trans a.os,b.tape.trans a.tape,b.output.trans a.output,Nat.le_trans a.size b.size,?_,?_,?_,fun _ _ aw=>b.gone _ _ (a.gone _ _ aw),?_,Nat.le_trans a.n b.n,Nat.le_trans a.drawn b.drawn⟩
 ·intro k ar aD;rw[b.cd k (Nat.lt_of_lt_of_le ar a.size) (fun au=>(a.own k au).elim aD (by omega)),a.cd k ar aD]
 ·intro k ar;rcases b.own k ar with h | h
  ·exact a.own k h
  ·exact .inr (Nat.le_trans a.size h)
 ·intro blk sz cs m ag hm;rcases a.cells blk sz cs m ag hm with ⟨cs',aj,aG⟩ | aj
  ·exact b.cells blk sz cs' m aj aG
  ·exact .inr (b.gone _ _ aj)
 ·intro blk k m ag hm;obtain⟨aj,aG⟩:=a.EC blk k m ag hm;exact b.EC blk k m aj aG
theorem df.trans {w bL w2:World} {h ad ae:aN} {μ g5 oT:ck} (a:df w h μ bL ad g5) (b:df bL ad g5 w2 ae oT) :df w h μ w2 ae oT:=
 ⟨a.toExt0.trans b.toExt0,fun blk ag hm=>b.qN blk (Nat.lt_of_lt_of_le ag a.n) (a.qN blk ag hm)⟩
theorem Cell.ext {w w' : World} {h h' : aN} {μ μ' : ck} {R:Nat->Prop} {b o:Nat} {v:Value} (e:Ext0 w h μ w' h' μ') (c:Cell w R h μ b o v) :Cell w' R h' μ' b o v:=by
 have ag:b<w.heap.size:=World.block_lt_of_cell? _ _ c.here;refine⟨?_,c.one,c.ro,fun au=>?_⟩
 ·rw[World.cell?_of_block (w:=w) (a:=⟨b,o,none⟩) (e.cd b ag c.free)]; exact c.here
 ·rcases e.own b au with ad | ad
  ·exact c.free ad
  ·omega
theorem aO.mW {w w' : World} {h h' : aN} {μ μ' : ck} {R:Nat->Prop} {c:U} {v:Value} (e:Ext0 w h μ w' h' μ') (ap:aO w R h μ c v) :aO w' R h' μ' c v:=by
 induction ap with
 | bool b=>exact .bool b
 | int k n=>exact .int k n
 | str bs=>exact .str bs
 | kC=>exact .kC
 | aH=>exact .aH
 | iQ=>exact .iQ
 | kA=>exact .kA
 | kB=>exact .kB
 | aF cs vs al ad ap aR=>exact .aF cs vs al ad aR
 | bt cs vs al ap aR=>exact .bt cs vs al aR
 | ptr b off sz cs m ag hm=>
  rcases e.cells b sz cs m ag hm with ⟨cs',ad,ae⟩ | ad
  ·exact .ptr b off sz cs' m ad ae
  ·exact .nf b off sz _ ad
 | nf b off sz a aw=>exact .nf b off sz a (e.gone _ _ aw)
 | bM cs off blk o eR ah ap aR=>exact .bM cs off blk o eR (fun j ai=>(ah j ai).ext e) aR
 | aq z b off len cap sz cap' cs m ag hm al au ah=>
  rcases e.cells b sz cs m ag hm with ⟨cs',ad,ae⟩ | ad
  ·exact .aq z b off len cap sz cap' cs' m ad ae al au ah
  ·exact .hI z b off len cap sz cap' _ al (by omega) ad
 | hI z b off len cap sz cap' a al ah aw=>exact .hI z b off len cap sz cap' a al ah (e.gone _ _ aw)
 | iV z b off sz a cs m ag hm=>
  rcases e.cells b sz cs m ag hm with ⟨cs',ad,ae⟩ | ad
  ·exact .iV z b off sz a cs' m ad ae
  ·exact .hI z b off 0 0 sz 0 a (Nat.le_refl _) (Nat.le_refl _) ad
 | aZ z es blk off cap eR al ax ah ap aR=>exact .aZ z es blk off cap eR al ax (fun i j ay ai=>(ah i j ay ai).ext e) aR
 | gk z a cap=>exact .gk z a cap
 | fn f first gB fs cs aE ah ad ae eM nP=>exact .fn f first gB fs cs aE ah eM nP
 | mp b m ag hm=>
  obtain⟨ad,ae⟩:=e.EC b 0 m ag hm;exact .mp b m ad ae
 | it b m ag hm=>
  obtain⟨ad,ae⟩:=e.EC b 1 m ag hm;exact .it b m ad ae
 | hF t c v ap aR=>exact .hF t c v aR
 | hz l=>exact .hz l
 | bad v=>exact .bad v
theorem aO.ext {w w' : World} {h h' : aN} {μ μ' : ck} {R:Nat->Prop} {c:U} {v:Value} (e:df w h μ w' h' μ') (ap:aO w R h μ c v) :aO w' R h' μ' c v:=ap.mW e.toExt0
def vk (w:World) (R:Nat->Prop) (h:aN) (μ:ck) (m:M) :aV->Prop
 | .cells sz cs=>cs.length=sz/\m.s+sz<=m.T/\∃ arr e fa,w.heap[m.r]? = some (.cells arr e fa)/\arr.size=m.T/\(fa=(0,0)\/m.T<fa.1) ∧
   ∀ (j:Nat) (c:U),cs[j]? = some c->∃ v:Value,arr[m.s+j]? = some v/\v.oneCell'=true/\aO w R h μ c v
 | .map es eh=>∃ dT,w.heap[m.r]? = some (.map dT eh)/\dT.size=es.length ∧
   ∀ (j:Nat) (k v:U) (b:Nat),es[j]? = some (k,v,b)->∃ x:MapEntry,dT[j]? = some x/\aO w R h μ k x.key/\aO w R h μ v x.val/\x.born=b
 | .iter s pos=>∃ bs:ByteArray,bs.data.toList=s/\w.heap[m.r]? = some (.stringIter bs pos)
 | _=>True
theorem vk.ext {w w' : World} {h h' : aN} {μ μ' : ck} {R:Nat->Prop} {m:M} (e:Ext0 w h μ w' h' μ') (aX:w'.heap[m.r]? = w.heap[m.r]?) :
  ∀ {c:aV},vk w R h μ m c->vk w' R h' μ' m c
 | .cells sz cs,⟨ad,ae,arr,t,fa,aj,aG,bh,bF⟩=>⟨ad,ae,arr,t,fa,aX.trans aj,aG,bh,fun j c ai=>let ⟨v,a,b,d⟩:=bF j c ai; ⟨v,a,b,d.mW e⟩⟩
 | .map es eh,⟨dT,ad,ae,aj⟩=>⟨dT,aX.trans ad,ae,fun j k v b ai=>let ⟨x,a,c1,d,f⟩:=aj j k v b ai; ⟨x,a,c1.mW e,d.mW e,f⟩⟩
 | .iter s pos,⟨bs,ad,ae⟩=>⟨bs,ad,aX.trans ae⟩
 | .none,_=>trivial
 | .dead,_=>trivial
structure bN (R:Nat->Prop) (B:Nat) (w:World) (h:aN) (μ:ck) :Prop where
 blk:∀ b m,μ b=some m->vk w R h μ m (h.f b)
 inj:∀ b bg m cm,live (h.f b)=true->live (h.f bg)=true->μ b=some m->μ bg=some cm->m.r=cm.r->b=bg
 base:∀ b m,live (h.f b)=true->μ b=some m->B<=m.r
 fresh:∀ b,h.n<=b->h.f b=.none
 up:∀ k,B<=k->R k
 size:B<=w.heap.size
 lw:∀ b,h.n<=b->μ b=none
theorem bN.nu {R:Nat->Prop} {B:Nat} {w:World} {h:aN} {μ:ck} (rel:bN R B w h μ) {b:Nat} {m:M} (hm:μ b=some m) :b<h.n:=by
 rcases Nat.lt_or_ge b h.n with ad | ad
 ·exact ad
 ·rw[rel.lw b ad] at hm; cases hm
theorem bN.lt {R:Nat->Prop} {B:Nat} {w:World} {h:aN} {μ:ck} (rel:bN R B w h μ) {b:Nat} {m:M} (al:live (h.f b)=true) (hm:μ b=some m) :m.r<w.heap.size:=by
 have ag:=rel.blk b m hm;cases ah:h.f b with
 | none=>rw[ah] at al; cases al
 | dead=>rw[ah] at al; cases al
 | cells sz cs=>
  rw[ah] at ag;obtain⟨_,_,arr,t,fa,aj,_⟩:=ag;rcases Nat.lt_or_ge m.r w.heap.size with h | h
  ·exact h
  ·rw[Array.getElem?_eq_none h] at aj; cases aj
 | map es eh=>
  rw[ah] at ag;obtain⟨dT,aj,_⟩:=ag;rcases Nat.lt_or_ge m.r w.heap.size with h | h
  ·exact h
  ·rw[Array.getElem?_eq_none h] at aj; cases aj
 | iter s pos=>
  rw[ah] at ag;obtain⟨bs,_,aj⟩:=ag;rcases Nat.lt_or_ge m.r w.heap.size with h | h
  ·exact h
  ·rw[Array.getElem?_eq_none h] at aj; cases aj
theorem bN.vd {R:Nat->Prop} {B:Nat} {w w' : World} {h h' : aN} {μ μ' : ck} (rel:bN R B w h μ) (e:Ext0 w h μ w' h' μ') (hL:Nat)
  (ql:∀ b,b≠hL->live (h'.f b)=true->h'.f b=h.f b/\μ' b=μ b/\∀ m,μ b=some m->w'.heap[m.r]? = w.heap[m.r]?)
  (ow:∀ m,μ' hL=some m->vk w' R h' μ' m (h'.f hL))
  (nH:∀ b m cm,b≠hL->live (h'.f b)=true->live (h'.f hL)=true->μ b=some m->μ' hL=some cm->m.r≠cm.r)
  (GG:∀ m,live (h'.f hL)=true->μ' hL=some m->B<=m.r)
  (aeY:∀ b,h'.n<=b->h'.f b=.none) (afP:∀ b,h'.n<=b->μ' b=none) :bN R B w' h' μ':=by
 refine⟨?_,?_,?_,aeY,rel.up,Nat.le_trans rel.size e.size,afP⟩
 ·intro b m hm;by_cases ag:b=hL
  ·subst ag; exact ow m hm
  ·cases al:live (h'.f b) with
   | false=>cases ah:h'.f b<;>first | trivial | (rw[ah] at al; cases al)
   | true=>
    obtain⟨ad,ae,aj⟩:=ql b ag al;rw[ae] at hm;rw[ad];exact (rel.blk b m hm).ext e (aj m hm)
 ·intro b bg m cm al dt hm bW az;by_cases ag:b=hL<;>by_cases bO:bg=hL
  ·rw[ag,bO]
  ·subst ag;obtain⟨ad,ae,aj⟩:=ql bg bO dt;rw[ae] at bW;exact absurd az.symm (nH bg cm m bO dt al bW hm)
  ·subst bO;obtain⟨ad,ae,aj⟩:=ql b ag al;rw[ae] at hm;exact absurd az (nH b m cm ag al dt hm bW)
  ·obtain⟨ad,ae,_⟩:=ql b ag al;obtain⟨aj,aG,_⟩:=ql bg bO dt;rw[ad] at al; rw[ae] at hm; rw[aj] at dt; rw[aG] at bW;exact rel.inj b bg m cm al dt hm bW az
 ·intro b m al hm;by_cases ag:b=hL
  ·subst ag; exact GG m al hm
  ·obtain⟨ad,ae,_⟩:=ql b ag al;rw[ad] at al; rw[ae] at hm;exact rel.base b m al hm
theorem bN.push {R:Nat->Prop} {B:Nat} {w w' : World} {h:aN} {μ:ck} (rel:bN R B w h μ) (cs:List U) (arr:Array Value) (t:TypeId)
  (qk:w'.os=w.os) (uE:w'.tape=w.tape) (kw:w'.output=w.output) (mn:w'.heap=w.heap.push (.cells arr t (0,0)))
  (h9:cs.length<=arr.size) (ap:∀ (j:Nat) (c:U),cs[j]? = some c->∃ v:Value,arr[j]? = some v/\v.oneCell'=true/\aO w R h μ c v) (rm:w.drawn<=w'.drawn:=by first | exact Nat.le_refl _ | exact Nat.le_succ _ | assumption) :
  df w h μ w' (h.push (.cells cs.length cs)) (bB μ h.n (some ⟨w.heap.size,0,arr.size⟩)) ∧
  bN R B w' (h.push (.cells cs.length cs)) (bB μ h.n (some ⟨w.heap.size,0,arr.size⟩)) :=by
 have aD:h.f h.n=.none:=rel.fresh _ (Nat.le_refl _);have e:df w h μ w' (h.push (.cells cs.length cs)) (bB μ h.n (some ⟨w.heap.size,0,arr.size⟩)) :=by
  refine⟨⟨qk,uE,kw,by simp[mn],?_,?_,?_,?_,?_,?_,rm⟩,?_⟩
  ·intro k ar _;rw[mn,Array.getElem?_push,if_neg (by omega)]
  ·rintro k ⟨b,m,al,hm,rfl⟩;by_cases ag:b=h.n
   ·subst ag; simp at hm; subst hm; exact .inr (Nat.le_refl _)
   ·rw[b2 _ _ _ _ ag] at hm;simp only[er,fx,b2 _ _ _ _ ag] at al;exact .inl ⟨b,m,al,hm,rfl⟩
  ·intro b sz cs' m ag hm;have:b≠h.n:=fun aS=>by rw[aS,aD] at ag; cases ag
   exact .inl ⟨cs',by simp only[er,fx,b2 _ _ _ _ this]; exact ag,by rw[b2 _ _ _ _ this]; exact hm⟩
  ·rintro b sz (ag | ⟨n,cs',ag,aL⟩)
   ·have:b≠h.n:=fun aS=>by rw[aS,aD] at ag; cases ag
    exact .inl (by simp only[er,fx,b2 _ _ _ _ this]; exact ag)
   ·have:b≠h.n:=fun aS=>by rw[aS,aD] at ag; cases ag
    exact .inr ⟨n,cs',by simp only[er,fx,b2 _ _ _ _ this]; exact ag,aL⟩
  ·intro b k m ag hm;have:b≠h.n:=fun aS=>by rw[aS,aD] at ag; cases ag
   exact⟨by simp only[er,fx,b2 _ _ _ _ this]; exact ag,by rw[b2 _ _ _ _ this]; exact hm⟩
  ·simp[er,fx]
  ·intro b ag hm;rw[b2 _ _ _ _ (by omega)]; exact hm
 refine⟨e,rel.vd e.toExt0 h.n ?_ ?_ ?_ ?_ ?_ ?_⟩
 ·intro b ag al;simp only[er,fx,b2 _ _ _ _ ag] at al ⊢;exact⟨trivial,trivial,fun m hm=>by rw[mn,Array.getElem?_push,if_neg (by have:=rel.lt al hm; omega)]⟩
 ·intro m hm;simp at hm; subst hm;simp only[er,fx,hP];refine⟨rfl,by simpa using h9,arr,t,(0,0),by simp[mn],rfl,.inl rfl,fun j c ai=>?_⟩;obtain⟨v,ad,ae,aj⟩:=ap j c ai;exact⟨v,by simpa using ad,ae,aj.ext e⟩
 ·intro b m cm ag al _ hm bW;simp only[er,fx,b2 _ _ _ _ ag] at al;simp at bW; subst bW;have:=rel.lt al hm;simp only[ne_eq]; omega
 ·intro m _ hm;simp at hm; subst hm;exact rel.size
 ·intro b ag;simp only[er,fx] at ag ⊢;rw[b2 _ _ _ _ (by omega)];exact rel.fresh b (by omega)
 ·intro b ag;simp only[er,fx] at ag;rw[b2 _ _ _ _ (by omega)];exact rel.lw b (by omega)
theorem bN.same {R:Nat->Prop} {B:Nat} {w:World} {h h' : aN} {μ:ck} (rel:bN R B w h μ) (aE:h'.f=h.f) (aD:h'.n=h.n) :df w h μ w h' μ/\bN R B w h' μ:=by
 have e:df w h μ w h' μ:=by
  refine⟨⟨rfl,rfl,rfl,Nat.le_refl _,fun _ _ _=>rfl,?_,?_,?_,?_,by omega,Nat.le_refl _⟩,fun _ _ hm=>hm⟩
  ·rintro k ⟨bg,cm,dt,bW,rfl⟩;rw[aE] at dt; exact .inl ⟨bg,cm,dt,bW,rfl⟩
  ·intro bg sz' cs' cm bO bW;exact .inl ⟨cs',by rw[aE]; exact bO,bW⟩
  ·intro bg sz' aw;unfold xE at aw ⊢; rw[aE]; exact aw
  ·intro bg k' cm bO bW;exact⟨by rw[aE]; exact bO,bW⟩
 refine⟨e,rel.vd e.toExt0 h.n (fun b _ _=>⟨by rw[aE],rfl,fun _ _=>rfl⟩) (fun m hm=>?_) (fun b m cm _ _ _ _ hm=>?_) (fun m _ hm=>?_) (fun b ag=>by rw[aE]; exact rel.fresh b (by omega)) (by rw[aD]; exact rel.lw)⟩
 all_goals (rw[rel.lw h.n (Nat.le_refl _)] at hm; cases hm)
theorem bN.kill {R:Nat->Prop} {B:Nat} {w:World} {h h' : aN} {μ:ck} (rel:bN R B w h μ) {b sz:Nat} {cs:List U} (ag:h.f b=.cells sz cs) (pe:b<h.n)
  (aE:h'.f=bB h.f b .dead) (aD:h'.n=h.n) :df w h μ w h' μ/\bN R B w h' μ:=by
 have e:df w h μ w h' μ:=by
  refine⟨⟨rfl,rfl,rfl,Nat.le_refl _,fun _ _ _=>rfl,?_,?_,?_,?_,by omega,Nat.le_refl _⟩,fun _ _ hm=>hm⟩
  ·rintro k ⟨bg,cm,dt,bW,rfl⟩;rw[aE] at dt;by_cases b4:bg=b
   ·subst b4; simp[live] at dt
   ·rw[b2 _ _ _ _ b4] at dt; exact .inl ⟨bg,cm,dt,bW,rfl⟩
  ·intro bg sz' cs' cm bO bW;by_cases b4:bg=b
   ·subst b4; exact .inr (.inl (by rw[aE]; simp))
   ·exact .inl ⟨cs',by rw[aE,b2 _ _ _ _ b4]; exact bO,bW⟩
  ·rintro bg sz' aw;by_cases b4:bg=b
   ·subst b4; exact .inl (by rw[aE]; simp)
   ·rcases aw with aw | ⟨n,cs',aw,aL⟩
    ·exact .inl (by rw[aE,b2 _ _ _ _ b4]; exact aw)
    ·exact .inr ⟨n,cs',by rw[aE,b2 _ _ _ _ b4]; exact aw,aL⟩
  ·intro bg k' cm bO bW;by_cases b4:bg=b
   ·subst b4; rw[ag] at bO; cases bO
   ·exact⟨by rw[aE,b2 _ _ _ _ b4]; exact bO,bW⟩
 refine⟨e,rel.vd e.toExt0 b ?_ ?_ ?_ ?_ ?_ (by rw[aD]; exact rel.lw)⟩
 ·intro bg b4 al;rw[aE,b2 _ _ _ _ b4];exact⟨rfl,rfl,fun _ _=>rfl⟩
 ·intro m _;rw[aE]; simp[vk]
 ·intro bg m cm _ _ al;rw[aE] at al; simp[live] at al
 ·intro m al;rw[aE] at al; simp[live] at al
 ·intro bg bO;rw[aE,b2 _ _ _ _ (by omega)];exact rel.fresh bg (by omega)
theorem bN.XQ {R:Nat->Prop} {B:Nat} {w:World} {h h' : aN} {μ:ck} (rel:bN R B w h μ) {b sz off:Nat} {cs:List U} {m:M} (ag:h.f b=.cells sz cs) (hm:μ b=some m) (au:off<=sz)
  (aE:h'.f=bB (bB h.f b .dead) h.n (.cells (sz - off) (cs.drop off))) (aD:h'.n=h.n+1) :
  df w h μ w h' (bB μ h.n (some ⟨m.r,m.s+off,m.T⟩))/\bN R B w h' (bB μ h.n (some ⟨m.r,m.s+off,m.T⟩)) :=by
 have pe:=rel.nu hm;have yD:h.f h.n=.none:=rel.fresh _ (Nat.le_refl _);have m4:live (h.f b)=true:=by rw[ag]; rfl
 have e:df w h μ w h' (bB μ h.n (some ⟨m.r,m.s+off,m.T⟩)) :=by
  refine⟨⟨rfl,rfl,rfl,Nat.le_refl _,fun _ _ _=>rfl,?_,?_,?_,?_,by omega,Nat.le_refl _⟩,fun bg bO bW=>by rw[b2 _ _ _ _ (by omega)]; exact bW⟩
  ·rintro k ⟨bg,cm,dt,bW,rfl⟩;rw[aE] at dt;by_cases kP:bg=h.n
   ·subst kP; simp at bW; subst bW; exact .inl ⟨b,m,m4,hm,rfl⟩
   ·rw[b2 _ _ _ _ kP] at dt bW;by_cases b4:bg=b
    ·subst b4; simp[live] at dt
    ·rw[b2 _ _ _ _ b4] at dt; exact .inl ⟨bg,cm,dt,bW,rfl⟩
  ·intro bg sz' cs' cm bO bW;have kP:bg≠h.n:=fun aS=>by rw[aS,yD] at bO; cases bO
   by_cases b4:bg=b
   ·subst b4; exact .inr (.inl (by rw[aE,b2 _ _ _ _ kP]; simp))
   ·exact .inl ⟨cs',by rw[aE,b2 _ _ _ _ kP,b2 _ _ _ _ b4]; exact bO,by rw[b2 _ _ _ _ kP]; exact bW⟩
  ·rintro bg sz' aw;have kP:bg≠h.n:=fun aS=>by
    subst aS;rcases aw with aw | ⟨n,cs',aw,_⟩
    ·rw[yD] at aw; cases aw
    ·rw[yD] at aw; cases aw
   by_cases b4:bg=b
   ·subst b4; exact .inl (by rw[aE,b2 _ _ _ _ kP]; simp)
   ·rcases aw with aw | ⟨n,cs',aw,aL⟩
    ·exact .inl (by rw[aE,b2 _ _ _ _ kP,b2 _ _ _ _ b4]; exact aw)
    ·exact .inr ⟨n,cs',by rw[aE,b2 _ _ _ _ kP,b2 _ _ _ _ b4]; exact aw,aL⟩
  ·intro bg k' cm bO bW;have kP:bg≠h.n:=fun aS=>by rw[aS,yD] at bO; cases bO
   by_cases b4:bg=b
   ·subst b4; rw[ag] at bO; cases bO
   ·exact⟨by rw[aE,b2 _ _ _ _ kP,b2 _ _ _ _ b4]; exact bO,by rw[b2 _ _ _ _ kP]; exact bW⟩
 have ql:∀ bg,bg≠h.n->live (h'.f bg)=true->bg≠b/\h'.f bg=h.f bg:=fun bg kP al=>by
  rw[aE,b2 _ _ _ _ kP] at al ⊢;by_cases b4:bg=b
  ·subst b4; simp[live] at al
  ·exact⟨b4,by rw[b2 _ _ _ _ b4]⟩
 refine⟨e,rel.vd e.toExt0 h.n ?_ ?_ ?_ ?_ ?_ ?_⟩
 ·intro bg kP al;exact⟨(ql bg kP al).2,by rw[b2 _ _ _ _ kP],fun _ _=>rfl⟩
 ·intro cm bW;simp at bW; subst bW;rw[aE,hP];have eA:=rel.blk b m hm;rw[ag] at eA;obtain⟨ad,ae,arr,t,fa,aj,aG,bh,bF⟩:=eA;refine⟨by simp; omega,by simp only; omega,arr,t,fa,aj,aG,bh,fun j c ai=>?_⟩;rw[List.getElem?_drop] at ai;obtain⟨v,a2,a9,bV⟩:=bF (off+j) c ai;exact⟨v,by simp only; rw[Nat.add_assoc]; exact a2,a9,bV.ext e⟩
 ·intro bg eo ej kP al _ ad ae aS;simp at ae; subst ae;obtain⟨b4,i7⟩:=ql bg kP al;rw[i7] at al;exact b4 (rel.inj bg b eo m al m4 ad hm aS)
 ·intro cm _ bW;simp at bW; subst bW;exact rel.base b m m4 hm
 ·intro bg bO;rw[aE,b2 _ _ _ _ (by omega),b2 _ _ _ _ (by omega)];exact rel.fresh bg (by omega)
 ·intro bg bO;rw[b2 _ _ _ _ (by omega)];exact rel.lw bg (by omega)
theorem bN.Xh {R:Nat->Prop} {B:Nat} {w w' : World} {h:aN} {μ:ck} (rel:bN R B w h μ) (c:aV) (o:Obj) {k:Nat} (ar:oM c=k+1)
  (qk:w'.os=w.os) (uE:w'.tape=w.tape) (kw:w'.output=w.output) (mn:w'.heap=w.heap.push o)
  (c4:vk w' R (h.push c) (bB μ h.n (some ⟨w.heap.size,0,0⟩)) ⟨w.heap.size,0,0⟩ c) (rm:w.drawn<=w'.drawn:=by first | exact Nat.le_refl _ | exact Nat.le_succ _ | assumption) :
  df w h μ w' (h.push c) (bB μ h.n (some ⟨w.heap.size,0,0⟩))/\bN R B w' (h.push c) (bB μ h.n (some ⟨w.heap.size,0,0⟩)) :=by
 have aD:h.f h.n=.none:=rel.fresh _ (Nat.le_refl _);have aqt:oM aV.none=0:=rfl;have e:df w h μ w' (h.push c) (bB μ h.n (some ⟨w.heap.size,0,0⟩)) :=by
  refine⟨⟨qk,uE,kw,by simp[mn],?_,?_,?_,?_,?_,?_,rm⟩,?_⟩
  ·intro k ar _;rw[mn,Array.getElem?_push,if_neg (by omega)]
  ·rintro k ⟨b,m,al,hm,rfl⟩;by_cases ag:b=h.n
   ·subst ag; simp at hm; subst hm; exact .inr (Nat.le_refl _)
   ·rw[b2 _ _ _ _ ag] at hm;simp only[er,fx,b2 _ _ _ _ ag] at al;exact .inl ⟨b,m,al,hm,rfl⟩
  ·intro b sz cs' m ag hm;have:b≠h.n:=fun aS=>by rw[aS,aD] at ag; cases ag
   exact .inl ⟨cs',by simp only[er,fx,b2 _ _ _ _ this]; exact ag,by rw[b2 _ _ _ _ this]; exact hm⟩
  ·rintro b sz (ag | ⟨n,cs',ag,aL⟩)
   ·have:b≠h.n:=fun aS=>by rw[aS,aD] at ag; cases ag
    exact .inl (by simp only[er,fx,b2 _ _ _ _ this]; exact ag)
   ·have:b≠h.n:=fun aS=>by rw[aS,aD] at ag; cases ag
    exact .inr ⟨n,cs',by simp only[er,fx,b2 _ _ _ _ this]; exact ag,aL⟩
  ·intro b k m ag hm;have:b≠h.n:=fun aS=>by rw[aS,aD] at ag; cases ag
   exact⟨by simp only[er,fx,b2 _ _ _ _ this]; exact ag,by rw[b2 _ _ _ _ this]; exact hm⟩
  ·simp[er,fx]
  ·intro b ag hm;rw[b2 _ _ _ _ (by omega)]; exact hm
 refine⟨e,rel.vd e.toExt0 h.n ?_ ?_ ?_ ?_ ?_ ?_⟩
 ·intro b ag al;simp only[er,fx,b2 _ _ _ _ ag] at al ⊢;exact⟨trivial,trivial,fun m hm=>by rw[mn,Array.getElem?_push,if_neg (by have:=rel.lt al hm; omega)]⟩
 ·intro m hm;simp at hm; subst hm;simp only[er,fx,hP];exact c4
 ·intro b m cm ag al _ hm bW;simp only[er,fx,b2 _ _ _ _ ag] at al;simp at bW; subst bW;have:=rel.lt al hm;simp only[ne_eq]; omega
 ·intro m _ hm;simp at hm; subst hm;exact rel.size
 ·intro b ag;simp only[er,fx] at ag ⊢;rw[b2 _ _ _ _ (by omega)];exact rel.fresh b (by omega)
 ·intro b ag;simp only[er,fx] at ag ⊢;rw[b2 _ _ _ _ (by omega)];exact rel.lw b (by omega)
theorem bN.Xl {R:Nat->Prop} {B:Nat} {w w' : World} {h:aN} {μ:ck} (rel:bN R B w h μ) {b k:Nat} {c c' : aV} {m:M}
  (ag:h.f b=c) (ar:oM c=k+1) (ff:oM c'=k+1) (hm:μ b=some m)
  (qk:w'.os=w.os) (uE:w'.tape=w.tape) (kw:w'.output=w.output) (yN:w'.heap.size=w.heap.size) (DX:∀ k,k≠m.r->w'.heap[k]? = w.heap[k]?)
  (c4:Ext0 w h μ w' (h.set b c') μ->vk w' R (h.set b c') μ m c') (rm:w.drawn<=w'.drawn:=by first | exact Nat.le_refl _ | exact Nat.le_succ _ | assumption) :
  df w h μ w' (h.set b c') μ/\bN R B w' (h.set b c') μ:=by
 have m4:live (h.f b)=true:=by rw[ag]; cases c<;>simp[oM] at ar<;>rfl
 have aqy:live c'=true:=by cases c'<;>simp[oM] at ff<;>rfl
 have Hn:∀ sz cs,h.f b≠.cells sz cs:=fun sz cs aS=>by rw[ag] at aS; subst aS; simp[oM] at ar
 have yA:h.f b≠.dead:=fun aS=>by rw[ag] at aS; subst aS; simp[oM] at ar
 have e:df w h μ w' (h.set b c') μ:=by
  refine⟨⟨qk,uE,kw,Nat.le_of_eq yN.symm,?_,?_,?_,?_,?_,Nat.le_refl _,rm⟩,fun _ _ hm=>hm⟩
  ·intro k ar aD;exact DX k (fun aS=>aD ⟨b,m,m4,hm,aS.symm⟩)
  ·rintro k ⟨bg,cm,dt,bW,rfl⟩;by_cases b4:bg=b
   ·subst b4; exact .inl ⟨bg,cm,m4,bW,rfl⟩
   ·simp only[dZ,b2 _ _ _ _ b4] at dt;exact .inl ⟨bg,cm,dt,bW,rfl⟩
  ·intro bg sz cs cm bO bW;have b4:bg≠b:=fun aS=>by subst aS; exact Hn _ _ bO
   exact .inl ⟨cs,by simp only[dZ,b2 _ _ _ _ b4]; exact bO,bW⟩
  ·rintro bg sz (aw | ⟨n,cs',aw,aL⟩)
   ·have b4:bg≠b:=fun aS=>by subst aS; exact yA aw
    exact .inl (by simp only[dZ,b2 _ _ _ _ b4]; exact aw)
   ·have b4:bg≠b:=fun aS=>by subst aS; exact Hn _ _ aw
    exact .inr ⟨n,cs',by simp only[dZ,b2 _ _ _ _ b4]; exact aw,aL⟩
  ·intro bg k' cm bO bW;by_cases b4:bg=b
   ·subst b4;refine⟨?_,bW⟩;simp only[dZ,hP];rw[ag,ar] at bO;rw[ff]; exact bO
   ·exact⟨by simp only[dZ,b2 _ _ _ _ b4]; exact bO,bW⟩
 refine⟨e,rel.vd e.toExt0 b ?_ ?_ ?_ ?_ ?_ rel.lw⟩
 ·intro bg b4 al;simp only[dZ,b2 _ _ _ _ b4] at al ⊢;exact⟨trivial,trivial,fun cm bW=>DX _ (fun aS=>b4 (rel.inj bg b cm m al m4 bW hm aS))⟩
 ·intro cm bW;rw[hm] at bW; cases bW;simp only[dZ,hP];exact c4 e.toExt0
 ·intro bg eo ej b4 al _ ad ae aS;rw[hm] at ae; cases ae;simp only[dZ,b2 _ _ _ _ b4] at al;exact b4 (rel.inj bg b eo m al m4 ad hm aS)
 ·intro cm _ bW;rw[hm] at bW; cases bW;exact rel.base b m m4 hm
 ·intro bg bO;by_cases b4:bg=b
  ·subst b4;have:=rel.nu hm;simp only[e7] at bO; omega
  ·simp only[dZ,b2 _ _ _ _ b4]; exact rel.fresh bg bO
theorem bN.write {R:Nat->Prop} {B:Nat} {w w' : World} {h:aN} {μ:ck} (rel:bN R B w h μ) {b sz sz' : Nat} {cs cs' : List U} {m:M} {arr lH:Array Value} {t:TypeId} {fa:Nat × Nat}
  (ag:h.f b=.cells sz cs) (hm:μ b=some m) (az:w.heap[m.r]? = some (.cells arr t fa)) (dI:arr.size=m.T) (oA:fa=(0,0)\/m.T<fa.1)
  (qk:w'.os=w.os) (uE:w'.tape=w.tape) (kw:w'.output=w.output) (yN:w'.heap.size=w.heap.size)
  (nO:w'.heap[m.r]? = some (.cells lH t fa)) (DX:∀ k,k≠m.r->w'.heap[k]? = w.heap[k]?) (aC:lH.size=arr.size)
  (al:cs'.length=sz') (qe:sz<=sz') (eC:m.s+sz'<=m.T)
  (ap:∀ (j:Nat) (c:U),cs'[j]? = some c->∃ v:Value,lH[m.s+j]? = some v/\v.oneCell'=true/\aO w R h μ c v) (rm:w.drawn<=w'.drawn:=by first | exact Nat.le_refl _ | exact Nat.le_succ _ | assumption) :
  df w h μ w' (h.set b (.cells sz' cs')) μ/\bN R B w' (h.set b (.cells sz' cs')) μ:=by
 have m4:live (h.f b)=true:=by rw[ag]; rfl
 have e:df w h μ w' (h.set b (.cells sz' cs')) μ:=by
  refine⟨⟨qk,uE,kw,Nat.le_of_eq yN.symm,?_,?_,?_,?_,?_,Nat.le_refl _,rm⟩,fun _ _ hm=>hm⟩
  ·intro k ar aD;exact DX k (fun aS=>aD ⟨b,m,m4,hm,aS.symm⟩)
  ·rintro k ⟨bg,cm,dt,bW,rfl⟩;by_cases b4:bg=b
   ·subst b4; exact .inl ⟨bg,cm,m4,bW,rfl⟩
   ·simp only[dZ,e7,b2 _ _ _ _ b4] at dt;exact .inl ⟨bg,cm,dt,bW,rfl⟩
  ·intro bg amv pY cm bO bW;by_cases b4:bg=b
   ·subst b4;rw[ag] at bO; cases bO;by_cases ak:sz'=sz
    ·exact .inl ⟨cs',by simp[dZ,e7,ak],bW⟩
    ·exact .inr (.inr ⟨sz',cs',by simp[dZ,e7],by omega⟩)
   ·exact .inl ⟨pY,by simp only[dZ,e7,b2 _ _ _ _ b4]; exact bO,bW⟩
  ·rintro bg s0 (bO | ⟨n,pY,bO,aL⟩)
   ·have b4:bg≠b:=fun aS=>by rw[aS,ag] at bO; cases bO
    exact .inl (by simp only[dZ,e7,b2 _ _ _ _ b4]; exact bO)
   ·by_cases b4:bg=b
    ·subst b4;rw[ag] at bO; cases bO;exact .inr ⟨sz',cs',by simp[dZ,e7],by omega⟩
    ·exact .inr ⟨n,pY,by simp only[dZ,e7,b2 _ _ _ _ b4]; exact bO,aL⟩
  ·intro bg k cm bO bW;have b4:bg≠b:=fun aS=>by rw[aS,ag] at bO; cases bO
   exact⟨by simp only[dZ,e7,b2 _ _ _ _ b4]; exact bO,bW⟩
 refine⟨e,rel.vd e.toExt0 b ?_ ?_ ?_ ?_ ?_ ?_⟩
 ·intro bg b4 dt;simp only[dZ,e7,b2 _ _ _ _ b4] at dt ⊢;exact⟨trivial,trivial,fun cm bW=>DX _ (fun aS=>b4 (rel.inj bg b cm m dt m4 bW hm aS))⟩
 ·intro cm bW;rw[hm] at bW; cases bW;simp only[dZ,e7,hP];refine⟨al,eC,lH,t,fa,nO,aC.trans dI,oA,fun j c ai=>?_⟩;obtain⟨v,ad,ae,aj⟩:=ap j c ai;exact⟨v,ad,ae,aj.ext e⟩
 ·intro bg cm aiM b4 dt _ bW DF aS;rw[hm] at DF; cases DF;simp only[dZ,e7,b2 _ _ _ _ b4] at dt;exact b4 (rel.inj bg b cm m dt m4 bW hm aS)
 ·intro cm _ bW;exact rel.base b cm m4 bW
 ·intro bg bO;simp only[dZ,e7] at bO ⊢;have b4:bg≠b:=fun aS=>by
   have:=rel.fresh bg bO;rw[aS,ag] at this; cases this
  rw[b2 _ _ _ _ b4];exact rel.fresh bg bO
 ·intro bg bO;exact rel.lw bg bO
theorem bN.move {R:Nat->Prop} {B:Nat} {w w' : World} {h:aN} {μ:ck} (rel:bN R B w h μ) {b sz sz' : Nat} {cs cs' : List U} {m:M} {arr:Array Value} {t:TypeId}
  (ag:h.f b=.cells sz cs) (hm:μ b=some m)
  (qk:w'.os=w.os) (uE:w'.tape=w.tape) (kw:w'.output=w.output) (mn:w'.heap=w.heap.push (.cells arr t (0,0)))
  (al:cs'.length=sz') (qe:sz<sz') (eC:sz'<=arr.size)
  (ap:∀ (j:Nat) (c:U),cs'[j]? = some c->∃ v:Value,arr[j]? = some v/\v.oneCell'=true/\aO w R h μ c v) (rm:w.drawn<=w'.drawn:=by first | exact Nat.le_refl _ | exact Nat.le_succ _ | assumption) :
  df w h μ w' (h.set b (.cells sz' cs')) (bB μ b (some ⟨w.heap.size,0,arr.size⟩))/\bN R B w' (h.set b (.cells sz' cs')) (bB μ b (some ⟨w.heap.size,0,arr.size⟩)) :=by
 have m4:live (h.f b)=true:=by rw[ag]; rfl
 have e:df w h μ w' (h.set b (.cells sz' cs')) (bB μ b (some ⟨w.heap.size,0,arr.size⟩)) :=by
  refine⟨⟨qk,uE,kw,by simp[mn],?_,?_,?_,?_,?_,Nat.le_refl _,rm⟩,?_⟩
  ·intro k ar aD;rw[mn,Array.getElem?_push,if_neg (by omega)]
  ·rintro k ⟨bg,cm,dt,bW,rfl⟩;by_cases b4:bg=b
   ·subst b4; simp at bW; subst bW; exact .inr (Nat.le_refl _)
   ·rw[b2 _ _ _ _ b4] at bW;simp only[dZ,e7,b2 _ _ _ _ b4] at dt;exact .inl ⟨bg,cm,dt,bW,rfl⟩
  ·intro bg amv pY cm bO bW;by_cases b4:bg=b
   ·subst b4;rw[ag] at bO; cases bO;exact .inr (.inr ⟨sz',cs',by simp[dZ,e7],by omega⟩)
   ·exact .inl ⟨pY,by simp only[dZ,e7,b2 _ _ _ _ b4]; exact bO,by rw[b2 _ _ _ _ b4]; exact bW⟩
  ·rintro bg s0 (bO | ⟨n,pY,bO,aL⟩)
   ·have b4:bg≠b:=fun aS=>by rw[aS,ag] at bO; cases bO
    exact .inl (by simp only[dZ,e7,b2 _ _ _ _ b4]; exact bO)
   ·by_cases b4:bg=b
    ·subst b4;rw[ag] at bO; cases bO;exact .inr ⟨sz',cs',by simp[dZ,e7],by omega⟩
    ·exact .inr ⟨n,pY,by simp only[dZ,e7,b2 _ _ _ _ b4]; exact bO,aL⟩
  ·intro bg k cm bO bW;have b4:bg≠b:=fun aS=>by rw[aS,ag] at bO; cases bO
   exact⟨by simp only[dZ,e7,b2 _ _ _ _ b4]; exact bO,by rw[b2 _ _ _ _ b4]; exact bW⟩
  ·intro bg _ bW;have b4:bg≠b:=fun aS=>by rw[aS,hm] at bW; cases bW
   rw[b2 _ _ _ _ b4]; exact bW
 refine⟨e,rel.vd e.toExt0 b ?_ ?_ ?_ ?_ ?_ ?_⟩
 ·intro bg b4 dt;simp only[dZ,e7,b2 _ _ _ _ b4] at dt ⊢;exact⟨trivial,trivial,fun cm bW=>by rw[mn,Array.getElem?_push,if_neg (by have:=rel.lt dt bW; omega)]⟩
 ·intro cm bW;simp at bW; subst bW;simp only[dZ,e7,hP];refine⟨al,by simpa using eC,arr,t,(0,0),by simp[mn],rfl,.inl rfl,fun j c ai=>?_⟩;obtain⟨v,ad,ae,aj⟩:=ap j c ai;exact⟨v,by simpa using ad,ae,aj.ext e⟩
 ·intro bg cm aiM b4 dt _ bW DF;simp only[dZ,e7,b2 _ _ _ _ b4] at dt;simp at DF; subst DF;have:=rel.lt dt bW;simp only[ne_eq]; omega
 ·intro cm _ bW;simp at bW; subst bW;exact rel.size
 ·intro bg bO;simp only[dZ,e7] at bO ⊢;have b4:bg≠b:=fun aS=>by
   have:=rel.fresh bg bO;rw[aS,ag] at this; cases this
  rw[b2 _ _ _ _ b4];exact rel.fresh bg bO
 ·intro bg bO;simp only[dZ,e7] at bO;have b4:bg≠b:=fun aS=>by
   have:=rel.nu hm;omega
  rw[b2 _ _ _ _ b4];exact rel.lw bg bO
section
variable {P:Program} {w:World} {R:Nat->Prop} {B:Nat} {h:aN} {μ:ck}
def Good (R:Nat->Prop) (B:Nat) (w:World) (h:aN) (μ:ck) (r:Result Next) (c:U) (h' : aN) :Prop:=
 ∃ v w' μ',(r=.ok (.value v) w'\/(r=.ok .skip w'/\v=undef))/\df w h μ w' h' μ'/\bN R B w' h' μ'/\aO w' R h' μ' c v
theorem Good.pure (rel:bN R B w h μ) {r:Result Next} {c:U} {v:Value} (az:r=.ok (.value v) w) (ap:aO w R h μ c v) :Good R B w h μ r c h:=
 ⟨v,w,μ,.inl az,.refl _ _ _,rel,ap⟩
theorem cx {t:TypeId} {d:TypeDesc} (bf:P.underlying t=some d) :(underlying t).run P w=.ok d w:=by
 simp[underlying,bf]
theorem IJ {t:TypeId} {b:Bool} (ag:eJ P t=some b) :(isAgg t).run P w=.ok b w:=by
 unfold eJ at ag;cases bf:P.underlying t with
 | none=>rw[bf] at ag; cases ag
 | some d=>
  rw[bf] at ag;simp only[Option.map_some,Option.some.injEq] at ag;unfold isAgg;simp only[Sem.run_bind,cx bf,Result.andThen_ok];cases d<;>simp_all
theorem ahj {t:TypeId} {n:Nat} (aD:cz P t=some n) :∃ i,P.info? t=some i/\i.size=n:=by
 unfold cz at aD;cases ay:P.info? t with
 | none=>rw[ay] at aD; cases aD
 | some i=>rw[ay] at aD; exact⟨i,rfl,by simpa using aD⟩
theorem fK {t:TypeId} {n:Nat} (aD:cz P t=some n) :(sizeOf t).run P w=.ok n w:=by
 obtain⟨i,ay,ak⟩:=ahj aD;simp[sizeOf,typeInfo,ay,ak]
theorem an6 {t:TypeId} {z:List U} (ax:ic P t=some z) :∃ i v,P.info? t=some i/\i.zero=some v/\v.cells.toList.all Value.oneCell'=true/\z=v.cells.toList.map pr:=by
 unfold ic at ax;cases ay:P.info? t with
 | none=>rw[ay] at ax; cases ax
 | some i=>
  rw[ay] at ax;simp only[Option.bind_some] at ax;cases ap:i.zero with
  | none=>rw[ap] at ax; cases ax
  | some v=>
   rw[ap] at ax;simp only[Option.bind_some] at ax;split at ax
   ·rename_i ad;exact⟨i,v,rfl,ap,ad,by simpa using ax.symm⟩
   ·cases ax
theorem X5 {t:TypeId} {i:TypeInfo} {v:Value} (ay:P.info? t=some i) (ap:i.zero=some v) :(zeroValue t).run P w=.ok v w:=by
 simp[zeroValue,typeInfo,ay,ap]
theorem aO.pr (v:Value) :aO w R h μ (pr v) v:=by
 cases v with
 | bool b=>exact .bool _
 | int k n=>exact .int _ _
 | string s=>exact .str _
 | pointer a=>cases a<;>first | exact .kC | exact .bad _
 | slice a l c=>
  simp only[b0.pr];split
  ·exact .aH
  ·exact .bad _
 | map r=>cases r<;>first | exact .iQ | exact .bad _
 | nilFunc=>exact .kA
 | nilIface=>exact .kB
 | func fn first gB=>
  simp only[b0.pr];split
  ·rename_i f ad ae;have aP:first=#[] :=by simpa using ad
   have bw:gB=#[] :=by simpa using ae
   subst aP bw;exact .fn _ [] [] #[] #[] rfl rfl (fun _ _ _ aS=>by simp at aS) (fun _ _ _ aS=>by simp at aS)
  ·exact .bad _
 | _=>exact .bad _
theorem aO.wR (v:Value) :aO w R h μ (wR v) v:=by
 unfold b0.wR;split
 ·rename_i cs;split
  ·rename_i cW;refine .aF _ _ (by simp) (fun j v ai=>?_) (fun j c v ah lZ=>?_)
   ·rw[List.all_eq_true] at cW;exact cW v (by have:=Array.mem_of_getElem? ai; simpa using this)
   ·rw[List.getElem?_map] at ah;simp only[Array.getElem?_toList,lZ,Option.map_some,Option.some.injEq] at ah;subst ah;exact aO.pr v
  ·exact .bad _
 ·rename_i vs;refine .bt _ _ (by simp) (fun j c v ah lZ=>?_);rw[List.getElem?_map] at ah;simp only[Array.getElem?_toList,lZ,Option.map_some,Option.some.injEq] at ah;subst ah;exact aO.pr v
 ·exact aO.pr v
theorem aO.one {c:U} {v:Value} (ap:aO w R h μ c v) (ad:c.one=true) :v.oneCell'=true:=by
 cases ap<;>first | rfl | (simp[U.one] at ad)
theorem FV {c:U} {v:Value} {cs:List U} (ap:aO w R h μ c v) (ah:c.cells=some cs) :
  v.cells.size=cs.length/\∀ (j:Nat) (x:U),cs[j]? = some x->∃ u:Value,v.cells[j]? = some u/\u.oneCell'=true/\aO w R h μ x u:=by
 have kE:∀ (c:U) (v:Value),aO w R h μ c v->v.cells=#[v]->v.oneCell'=true->∀ cs,cs=[c]->
   v.cells.size=cs.length/\∀ (j:Nat) (x:U),cs[j]? = some x->∃ u:Value,v.cells[j]? = some u/\u.oneCell'=true/\aO w R h μ x u:=by
  intro c v ap jK ad cs cW;subst cW;rw[jK];refine⟨rfl,fun j x af=>?_⟩;cases j with
  | zero=>simp at af; subst af; exact⟨v,rfl,ad,ap⟩
  | succ j=>simp at af
 cases ap with
 | aF cs' vs al ad ap=>
  simp only[U.cells,Option.some.injEq] at ah; subst ah;refine⟨al,fun j x af=>?_⟩;have ai:j<vs.size:=by rw[al]; exact (List.getElem?_eq_some_iff.1 af).1
  exact⟨vs[j],by simp[Value.cells,ai],ad j _ (by simp[ai]),ap j x _ af (by simp[ai])⟩
 | bt cs' vs al ap=>simp[U.cells] at ah
 | bad v=>simp[U.cells] at ah
 | bool b=>exact kE _ _ (.bool b) rfl rfl _ (by simpa [U.cells] using ah.symm)
 | int k n=>exact kE _ _ (.int k n) rfl rfl _ (by simpa [U.cells] using ah.symm)
 | str bs=>exact kE _ _ (.str bs) rfl rfl _ (by simpa [U.cells] using ah.symm)
 | kC=>exact kE _ _ .kC rfl rfl _ (by simpa [U.cells] using ah.symm)
 | aH=>exact kE _ _ .aH rfl rfl _ (by simpa [U.cells] using ah.symm)
 | iQ=>exact kE _ _ .iQ rfl rfl _ (by simpa [U.cells] using ah.symm)
 | kA=>exact kE _ _ .kA rfl rfl _ (by simpa [U.cells] using ah.symm)
 | kB=>exact kE _ _ .kB rfl rfl _ (by simpa [U.cells] using ah.symm)
 | ptr b off sz cs' m ag hm=>exact kE _ _ (.ptr b off sz cs' m ag hm) rfl rfl _ (by simpa [U.cells] using ah.symm)
 | nf b off sz a aw=>exact kE _ _ (.nf b off sz a aw) rfl rfl _ (by simpa [U.cells] using ah.symm)
 | bM cs' off blk o eR eB ap=>exact kE _ _ (.bM cs' off blk o eR eB ap) rfl rfl _ (by simpa [U.cells] using ah.symm)
 | aq z b off len cap sz cap' cs' m ag hm al au eB=>exact kE _ _ (.aq z b off len cap sz cap' cs' m ag hm al au eB) rfl rfl _ (by simpa [U.cells] using ah.symm)
 | hI z b off len cap sz cap' a al eB aw=>exact kE _ _ (.hI z b off len cap sz cap' a al eB aw) rfl rfl _ (by simpa [U.cells] using ah.symm)
 | iV z b off sz a cs' m ag hm=>exact kE _ _ (.iV z b off sz a cs' m ag hm) rfl rfl _ (by simpa [U.cells] using ah.symm)
 | aZ z es blk off cap eR al ax eB ap=>exact kE _ _ (.aZ z es blk off cap eR al ax eB ap) rfl rfl _ (by simpa [U.cells] using ah.symm)
 | gk z a cap=>exact kE _ _ (.gk z a cap) rfl rfl _ (by simpa [U.cells] using ah.symm)
 | fn f acI zO fs cs' aE eB ad ae=>exact kE _ _ (.fn f acI zO fs cs' aE eB ad ae) rfl rfl _ (by simpa [U.cells] using ah.symm)
 | mp b m ag hm=>exact kE _ _ (.mp b m ag hm) rfl rfl _ (by simpa [U.cells] using ah.symm)
 | it b m ag hm=>exact kE _ _ (.it b m ag hm) rfl rfl _ (by simpa [U.cells] using ah.symm)
 | hF t c v ap=>exact kE _ _ (.hF t c v ap) rfl rfl _ (by simpa [U.cells] using ah.symm)
 | hz l=>exact kE _ _ (.hz l) rfl rfl _ (by simpa [U.cells] using ah.symm)
theorem Addr.mN (b o n:Nat) :(⟨b,o,none⟩:Addr).add n=⟨b,o+n,none⟩:=by unfold Addr.add; split<;>simp_all
theorem ale (rel:bN R B w h μ) {p:U} {u2:Value} {cs:List U} {off:Nat} (az:reach h p=some (cs,off)) (av:aO w R h μ p u2) :
  ∃ blk o,u2=.pointer (some ⟨blk,o+off,none⟩)/\∀ (j:Nat) (c:U),cs[j]? = some c->∃ v:Value,w.cell? ⟨blk,o+j,none⟩=some v/\v.oneCell'=true/\aO w R h μ c v:=by
 cases av with
 | ptr b Ih sz cs' m ag hm=>
  simp only[reach,ag,ite_true,Option.some.injEq,Prod.mk.injEq] at az;obtain⟨rfl,rfl⟩:=az;have eA:=rel.blk b m hm;rw[ag] at eA;obtain⟨ad,ae,arr,t,fa,aj,aG,bh,bF⟩:=eA;refine⟨m.r,m.s,rfl,fun j c ai=>?_⟩;obtain⟨v,a2,a9,bV⟩:=bF j c ai;exact⟨v,by simp[World.cell?,aj,a2],a9,bV⟩
 | nf b Ih sz a aw=>
  unfold reach at az;rcases aw with aw | ⟨n,cs',aw,aL⟩
  ·simp[aw] at az
  ·simp only[aw] at az;split at az
   ·omega
   ·cases az
 | bM cs' Ih blk o eR ah ap=>
  simp only[reach,Option.some.injEq,Prod.mk.injEq] at az;obtain⟨rfl,rfl⟩:=az;exact⟨blk,o,rfl,fun j c ai=>⟨eR j,(ah j (List.getElem?_eq_some_iff.1 ai).1).here,(ah j (List.getElem?_eq_some_iff.1 ai).1).one,ap j c ai⟩⟩
 | _=>simp[reach] at az
theorem alF {t:TypeId} {cs:List U} {off:Nat} {c:U} (av:iq P t cs off=some c) {blk o:Nat}
  (ah:∀ (j:Nat) (x:U),cs[j]? = some x->∃ v:Value,w.cell? ⟨blk,o+j,none⟩=some v/\v.oneCell'=true/\aO w R h μ x v) :
  ∃ v,(loadVar t ⟨blk,o+off,none⟩).run P w=.ok v w/\aO w R h μ c v:=by
 unfold iq at av;cases pc:eJ P t with
 | none=>rw[pc] at av; cases av
 | some b=>
  rw[pc] at av;cases b with
  | false=>
   simp only at av;obtain⟨v,ad,_,aj⟩:=ah off c av;exact⟨v,by simp[loadVar,IJ pc,ad],aj⟩
  | true=>
   cases aD:cz P t with
   | none=>rw[aD] at av; cases av
   | some n=>
    rw[aD] at av;simp only at av;split at av
    ·rename_i dO;simp only[Option.some.injEq] at av;subst av;have yj:∀ j,j<n->∃ v,w.cell? ⟨blk,o+(off+j),none⟩=some v/\v.oneCell'=true/\aO w R h μ (cs.getD (off+j) .bad) v:=by
      intro j ai;have aL:off+j<cs.length:=by omega
      have:=ah (off+j) cs[off+j] (by simp[aL]);simpa [List.getD,aL] using this
     have ap:∃ f:Nat->Value,∀ j,j<n->w.cell? ⟨blk,o+(off+j),none⟩=some (f j)/\(f j).oneCell'=true/\aO w R h μ (cs.getD (off+j) .bad) (f j) :=by
      refine⟨fun j=>if ai:j<n then Classical.choose (yj j ai) else undef,fun j ai=>?_⟩;simp only[ai,dif_pos];exact Classical.choose_spec (yj j ai)
     obtain⟨f,aE⟩:=ap;have al:(loadCells ⟨blk,o+off,none⟩ n).run P w=.ok ((List.range n).map f).toArray w:=by
      have:=run_loadCells_list (P:=P) w ⟨blk,o+off,none⟩ ((List.range n).map f) (fun j v ai=>by
       rw[List.getElem?_map] at ai;have j4:j<n:=by
        rcases Nat.lt_or_ge j n with ad | ad
        ·exact ad
        ·rw[List.getElem?_eq_none (by simpa using ad)] at ai; cases ai
       rw[List.getElem?_range j4] at ai;simp only[Option.map_some,Option.some.injEq] at ai;rw[Addr.mN,<-ai,Nat.add_assoc];exact (aE j j4).1)
      simpa using this
     refine⟨.agg ((List.range n).map f).toArray,by simp[loadVar,IJ pc,fK aD,al],.aF _ _ (by simp; omega) (fun j v ai=>?_) (fun j c v eB ai=>?_)⟩
     ·simp only[List.getElem?_toArray,List.getElem?_map] at ai;have j4:j<n:=by
       rcases Nat.lt_or_ge j n with ad | ad
       ·exact ad
       ·rw[List.getElem?_eq_none (by simpa using ad)] at ai; cases ai
      rw[List.getElem?_range j4] at ai;simp only[Option.map_some,Option.some.injEq] at ai;rw[<-ai]; exact (aE j j4).2.1
     ·simp only[List.getElem?_toArray,List.getElem?_map] at ai;have j4:j<n:=by
       rcases Nat.lt_or_ge j n with ad | ad
       ·exact ad
       ·rw[List.getElem?_eq_none (by simpa using ad)] at ai; cases ai
      rw[List.getElem?_range j4] at ai;simp only[Option.map_some,Option.some.injEq] at ai;rw[List.getElem?_take_of_lt j4,List.getElem?_drop] at eB;have:=(aE j j4).2.2;rw[List.getD,eB] at this;rw[<-ai]; simpa using this
    ·cases av
theorem V4 (rel:bN R B w h μ) {t:TypeId} {p:U} {u2:Value} {c:U} (al:s6 P h t p=some c) (av:aO w R h μ p u2) :
  ∃ v,(Instr.loadAt t u2).run P w=.ok v w/\aO w R h μ c v:=by
 unfold s6 at al;cases az:reach h p with
 | none=>rw[az] at al; cases al
 | some x=>
  obtain⟨cs,off⟩:=x;rw[az] at al;obtain⟨blk,o,rfl,ah⟩:=ale rel az av;obtain⟨v,ad,ae⟩:=alF al ah;exact⟨v,by simp[Instr.loadAt,Instr.sureAddr,ad],ae⟩
end

section
variable {P:Program} {w:World} {R:Nat->Prop} {B:Nat} {h:aN} {μ:ck}
theorem X4 (P:Program) (g o:Nat) (t:TypeId) (fa:Nat × Nat) :∀ (vs:List Value) (i:Nat) (iw:Array Value) (w:World),w.heap[g]? = some (.cells iw t fa)->(fa=(0,0)\/iw.size<=fa.1)->
  o+i+vs.length<=iw.size->(∀ v∈vs,v.oneCell'=true)->
  (storeCells ⟨g,o,none⟩ vs i).run P w=.ok () (w.setRow g (iw.toList.take (o+i)++vs++iw.toList.drop (o+i+vs.length)).toArray)
 | [],i,iw,w,aw,_,_,_=>by
  simp only[storeCells,List.append_nil,List.length_nil,Nat.add_zero,List.take_append_drop,Array.toArray_toList];rw[setRow_self w g iw t fa aw];rfl
 | v::rest,i,iw,w,aw,oA,al,ad=>by
  have ay:o+i<iw.size:=by simp at al; omega
  have ad9:(⟨g,o,none⟩:Addr).add i=⟨g,o+i,none⟩:=Addr.mN _ _ _;have m0:w.cell? ⟨g,o+i,none⟩=some iw[o+i] :=by simp[World.cell?,aw,ay]
  have aeZ:w.frozen? ⟨g,o+i,none⟩=false:=by
   obtain⟨cJ,gQ⟩:=fa;rcases oA with oA | oA
   ·cases oA; simp[World.frozen?,aw]
   ·have:¬ cJ<=o+i:=by simp at oA; omega
    simp[World.frozen?,aw,this]
  have b5:(store ((⟨g,o,none⟩:Addr).add i) v).run P w=.ok () (w.setRow g (iw.setIfInBounds (o+i) v)) :=by
   rw[ad9,run_store P w _ v _ (ad v (by simp)),m0];simp[aeZ,setCell_eq_setRow w g (o+i) iw t fa v aw]
  have aR:=X4 P g o t fa rest (i+1) (iw.setIfInBounds (o+i) v) (w.setRow g (iw.setIfInBounds (o+i) v)) (setRow_heap w g iw _ t _ aw) (by simpa using oA) (by simp at al ⊢; omega) (fun x af=>ad x (by simp[af]));simp only[storeCells,Sem.run_bind,b5,Result.andThen_ok,aR,setRow_setRow];congr 3;have:=list_seg_step iw.toList (o+i) v rest (by simp at al ⊢; omega);simpa [Nat.add_assoc,Nat.add_comm 1] using this
theorem xd {cs vs:List U} {k:Nat} (ar:k<=cs.length) :(a8 cs k vs).length=max cs.length (k+vs.length) :=by
 unfold a8;simp only[List.length_append,List.length_take,List.length_drop];omega
theorem Yr {cs vs:List U} {k j:Nat} (ar:k<=cs.length) :(a8 cs k vs)[j]? = if j<k then cs[j]? else if j<k+vs.length then vs[j - k]? else cs[j]?:=by
 unfold a8;rw[List.append_assoc];by_cases ad:j<k
 ·rw[List.getElem?_append_left (by simp; omega),List.getElem?_take_of_lt ad,if_pos ad]
 ·rw[List.getElem?_append_right (by simp; omega),if_neg ad];simp only[List.length_take,Nat.min_eq_left ar];by_cases ae:j<k+vs.length
  ·rw[List.getElem?_append_left (by omega),if_pos ae]
  ·rw[List.getElem?_append_right (by omega),if_neg ae,List.getElem?_drop];congr 1; omega
theorem zt (rel:bN R B w h μ) {b sz k:Nat} {cs cvs:List U} {m:M} {vs:List Value} (ag:h.f b=.cells sz cs) (hm:μ b=some m) (ar:k<=sz)
  (al:vs.length=cvs.length) (eC:m.s+max sz (k+cvs.length)<=m.T)
  (ap:∀ (j:Nat) (c:U),cvs[j]? = some c->∃ v:Value,vs[j]? = some v/\v.oneCell'=true/\aO w R h μ c v) :
  ∃ w',(storeCells ⟨m.r,m.s+k,none⟩ vs).run P w=.ok () w'/\df w h μ w' (h.set b (.cells (max sz (k+cvs.length)) (a8 cs k cvs))) μ ∧
   bN R B w' (h.set b (.cells (max sz (k+cvs.length)) (a8 cs k cvs))) μ:=by
 have eA:=rel.blk b m hm;rw[ag] at eA;obtain⟨bC,dI,arr,t,fa,az,aC,oA,ah⟩:=eA;have ad:∀ v∈vs,v.oneCell'=true:=by
  intro v hc;obtain⟨j,ai,rfl⟩:=List.getElem_of_mem hc;obtain⟨v,a2,a9,_⟩:=ap j (cvs[j]'(by omega)) (by simp);rw[List.getElem?_eq_getElem ai] at a2;cases a2;exact a9
 have fQ:=X4 P m.r (m.s+k) t fa vs 0 arr w az (by rw[aC]; exact oA.imp id Nat.le_of_lt) (by omega) ad;simp only[Nat.add_zero] at fQ;have rE:(arr.toList.take (m.s+k)++vs++arr.toList.drop (m.s+k+vs.length)).toArray.size=arr.size:=by
  simp only[List.size_toArray,List.length_append,List.length_take,List.length_drop,Array.length_toList];omega
 have ea:=rel.write (w':=w.setRow m.r (arr.toList.take (m.s+k)++vs++arr.toList.drop (m.s+k+vs.length)).toArray) (cs':=a8 cs k cvs) (sz':=max sz (k+cvs.length)) ag hm az aC oA
  rfl rfl rfl (by simp[World.setRow]) (setRow_heap w m.r arr _ t fa az) (fun k' ff=>setRow_other w m.r k' _ ff) rE
  (by rw[xd (by omega),bC]) (by omega) (by omega) (fun j c ai=>?_)
 ·exact⟨_,fQ,ea.1,ea.2⟩
 ·rw[Yr (by omega)] at ai;simp only[List.getElem?_toArray];rw[List.append_assoc];split at ai
  ·rename_i aL;obtain⟨v,a2,a9,bV⟩:=ah j c ai;refine⟨v,?_,a9,bV⟩;rw[List.getElem?_append_left (by simp; omega),List.getElem?_take_of_lt (by omega)];simpa using a2
  ·rename_i m2;split at ai
   ·rename_i aL;obtain⟨v,a2,a9,bV⟩:=ap _ c ai;refine⟨v,?_,a9,bV⟩;have yx:min (m.s+k) arr.size=m.s+k:=by omega
    rw[List.getElem?_append_right (by simp; omega)];simp only[List.length_take,Array.length_toList,yx];rw[List.getElem?_append_left (by omega),<-a2];congr 1; omega
   ·rename_i aqo;obtain⟨v,a2,a9,bV⟩:=ah j c ai;refine⟨v,?_,a9,bV⟩;have yx:min (m.s+k) arr.size=m.s+k:=by omega
    rw[List.getElem?_append_right (by simp; omega)];simp only[List.length_take,Array.length_toList,yx];rw[List.getElem?_append_right (by omega),List.getElem?_drop];have:(m.s+k+vs.length+(m.s+j - (m.s+k) - vs.length))=m.s+j:=by omega
    rw[this];simpa using a2
theorem Yx (rel:bN R B w h μ) {t:TypeId} {p v:U} {u2 pI:Value} {h' : aN} (ak:xf P h t p v=some h') (av:aO w R h μ p u2) (ap:aO w R h μ v pI) :
  ∃ w',(Instr.storeAt t u2 pI).run P w=.ok () w'/\df w h μ w' h' μ/\bN R B w' h' μ:=by
 unfold xf at ak;split at ak
 ·rename_i b off sz vs n lO aD;obtain⟨h9,jm⟩:=FV ap lO;cases ag:h.f b with
  | cells m cs=>
   rw[ag] at ak;simp only at ak;split at ak
   ·rename_i j2;obtain⟨rfl,bC,eC⟩:=j2;simp only[Option.some.injEq] at ak;subst ak;cases av with
    | ptr bg Ih sz' cs' cf bO hm=>
     have eA:=rel.blk b cf hm;rw[ag] at eA;have dI:=eA.2.1;obtain⟨w',ad,ae,aj⟩:=zt (P:=P) rel (cvs:=vs) (vs:=pI.cells.toList) (k:=off) ag hm (by omega) (by simpa using h9) (by omega)
      (fun j c ai=>by obtain⟨u,a2,a9,bV⟩:=jm j c ai; exact⟨u,by simpa using a2,a9,bV⟩)
     have m5:max m (off+vs.length)=m:=by omega
     rw[m5] at ae aj;refine⟨w',?_,ae,aj⟩;have bP:¬ (pI.cells.size≠n) :=by omega
     simp[Instr.storeAt,Instr.sureAddr,storeVar,fK aD,bP,ad]
    | nf bg Ih sz' a aw=>
     rcases aw with aw | ⟨hH,cs',aw,aL⟩
     ·rw[aw] at ag; cases ag
     ·rw[aw] at ag; cases ag; omega
   ·cases ak
  | _=>rw[ag] at ak; cases ak
 ·cases ak
theorem FD (rel:bN R B w h μ) {cs:List U} {vs:Array Value} (t:TypeId) (al:vs.size=cs.length)
  (ap:∀ (j:Nat) (c:U),cs[j]? = some c->∃ v:Value,vs[j]? = some v/\v.oneCell'=true/\aO w R h μ c v) :
  let h':=h.push (.cells cs.length cs)
  let μ':=bB μ h.n (some ⟨w.heap.size,0,vs.size⟩)
  let w':=w.alloc (.cells vs t)
  df w h μ w' h' μ'/\bN R B w' h' μ'/\∀ off,aO w' R h' μ' (.ptr h.n off cs.length) (.pointer (some ⟨w.heap.size,off,none⟩)) :=by
 intro h' μ' w';have:=rel.push (w':=w') cs vs t rfl rfl rfl rfl (by omega) ap;refine⟨this.1,this.2,fun off=>?_⟩;have av:=aO.ptr (w:=w') (R:=R) (h:=h') (μ:=μ') h.n off cs.length cs ⟨w.heap.size,0,vs.size⟩ (by simp[h',er,fx]) (by simp[μ']);simpa using av
theorem ZL {t:TypeId} {z:List U} (ax:ic P t=some z) :∃ i v,P.info? t=some i/\i.zero=some v/\v.cells.size=z.length ∧
  ∀ (j:Nat) (c:U),z[j]? = some c->∃ u:Value,v.cells[j]? = some u/\u.oneCell'=true/\aO w R h μ c u:=by
 obtain⟨i,v,ay,ap,ad,rfl⟩:=an6 ax;refine⟨i,v,ay,ap,by simp,fun j c ai=>?_⟩;rw[List.getElem?_map] at ai;cases aM:v.cells[j]? with
 | none=>simp[aM] at ai
 | some u=>
  simp[aM] at ai;subst ai;rw[List.all_eq_true] at ad;exact⟨u,rfl,ad u (by have:=Array.mem_of_getElem? aM; simpa using this),aO.pr u⟩
theorem RN {x:U} {bE:Value} {k:Nat} {c:U} (ah:nx x k=some c) (af:aO w R h μ x bE) :
  ∃ a,bE=.pointer (some a)/\aO w R h μ c (.pointer (some (a.add k))) :=by
 cases af with
 | ptr b off sz cs m ag hm=>
  simp only[nx,Option.some.injEq] at ah; subst ah;refine⟨_,rfl,?_⟩;rw[Addr.mN,Nat.add_assoc];exact .ptr b _ sz cs m ag hm
 | nf b off sz a aw=>
  simp only[nx,Option.some.injEq] at ah; subst ah;exact⟨a,rfl,.nf _ _ _ _ aw⟩
 | bM cs off blk o eR eB ap=>
  simp only[nx,Option.some.injEq] at ah; subst ah;refine⟨_,rfl,?_⟩;rw[Addr.mN,Nat.add_assoc];exact .bM cs _ blk o eR eB ap
 | _=>simp[nx] at ah
theorem Sw {s:TypeId} {f:Nat} {fd:Field} (aE:x1 P s f=some fd) :∃ fs,P.underlying s=some (.struct fs)/\fs[f]? = some fd:=by
 unfold x1 at aE;split at aE
 ·rename_i fs aM; exact⟨fs,aM,aE⟩
 ·cases aE
theorem acJ {s:TypeId} {x c:U} {bE:Value} {f:Nat} (ah:Gb P s x f=some c) (af:aO w R h μ x bE) :
  ∃ v,(Instr.fieldAt s bE f).run P w=.ok v w/\aO w R h μ c v:=by
 unfold Gb at ah;split at ah
 ·rename_i fd aE;obtain⟨fs,aM,ut⟩:=Sw aE;split at ah
  ·rename_i n aD;obtain⟨a,rfl,ap⟩:=RN ah af;refine⟨_,?_,ap⟩;simp[Instr.fieldAt,cx aM,ut,Instr.sureAddr,fieldPlace,fK aD]
  ·cases ah
 ·cases ah
theorem sp {x:U} {bE:Value} {n:Int} (ay:asInt x=some n) (af:aO w R h μ x bE) :∃ k,bE=.int k n:=by
 cases af<;>simp[asInt] at ay;subst ay;exact⟨_,rfl⟩
theorem ahg {t:TypeId} {x e6 c:U} {bE D9:Value} (ah:D5 P t x e6=some c) (af:aO w R h μ x bE) (ay:aO w R h μ e6 D9) :
  ∃ v,(Instr.indexAt t bE D9).run P w=.ok v w/\aO w R h μ c v:=by
 unfold D5 at ah;split at ah
 ·rename_i len e i aM ds;obtain⟨k,rfl⟩:=sp ds ay;cases ax:cz P e with
  | none=>rw[ax] at ah; cases ah
  | some z=>
   rw[ax] at ah;simp only at ah;split at ah
   ·rename_i ag;obtain⟨a,rfl,ap⟩:=RN ah af;refine⟨_,?_,ap⟩;simp[Instr.indexAt,asIntOf,cx aM,Instr.sureAddr,ag,fK ax]
   ·cases ah
 ·rename_i e i aM ds;obtain⟨k,rfl⟩:=sp ds ay;split at ah
  ·rename_i z dF b off len cap sz ax;split at ah
   ·rename_i ag;obtain⟨rfl,ag⟩:=ag;simp only[Option.some.injEq] at ah; subst ah;cases af with
    | aq _ _ _ _ _ _ cap' cs m bO hm al au de=>
     refine⟨_,?_,aO.ptr b (off+i.toNat*z) sz cs m bO hm⟩;simp[Instr.indexAt,asIntOf,cx aM,ag,fK ax,Addr.mN,Nat.add_assoc]
    | iV=>simp at ag; omega
    | hI _ _ _ _ _ _ cap' a al de aw=>
     refine⟨_,?_,aO.nf b _ sz (a.add (i.toNat*z)) aw⟩;simp[Instr.indexAt,asIntOf,cx aM,ag,fK ax]
   ·cases ah
  ·rename_i z dF es ax;split at ah
   ·rename_i ag;obtain⟨rfl,ag⟩:=ag;cases am:es[i.toNat]? with
    | none=>rw[am] at ah; cases ah
    | some fF=>
     rw[am] at ah;simp only[Option.map_some,Option.some.injEq] at ah; subst ah;have aL:i.toNat<es.length:=(List.getElem?_eq_some_iff.1 am).1;have cQ:(0<=i/\i<(es.length:Int)) :=by omega
     cases af with
     | aZ _ _ blk off cap eR al D1 m0 ap=>
      have aeR:fF.length=z:=D1 _ (List.mem_of_getElem? am);refine⟨_,?_,aO.bM fF 0 blk (off+i.toNat*z) (eR i.toNat) (fun j ai=>?_) (ap _ _ am)⟩
      ·simp[Instr.indexAt,asIntOf,cx aM,cQ,fK ax,Addr.mN]
      ·have:=m0 i.toNat j aL (by omega)
       rwa [Nat.add_assoc]
     | gk=>simp at aL
   ·cases ah
  ·cases ah
 ·cases ah
end

end Go.b0

/-
  The canonical machine, part A: its values, blocks, heap, and what one operation does.
-/
import Derived.WalkKit
import Derived.Below
import Derived.Laws.AppendOwn
import Derived.Laws.CopyRow
import Derived.Laws.IdiomCopy
import Derived.Laws.StructEq
set_option linter.unusedVariables false
set_option linter.unusedSimpArgs false
set_option linter.unnecessarySimpa false
namespace Go.cf
abbrev arX:=@List.take_of_length_le
abbrev arY:=@List.getElem?_eq_some_iff
abbrev arZ:=@List.getElem?_append_left
abbrev ar0:=@Nat.le_refl
abbrev ar1:=@List.getElem?_eq_getElem
abbrev ar2:=@Nat.mul_le_mul_right
abbrev ar3:=@Bool.and_eq_true
abbrev ar4:=@List.mem_of_getElem?
abbrev ar5:=@List.getElem?_map
abbrev ar6:=@List.mem_iff_getElem?
abbrev ar7:=@List.getElem?_set_ne
abbrev ar8:=@List.getElem?_append_right
abbrev ar9:=@List.getElem?_set_self
abbrev asa:=@List.length_append
abbrev asb:=@Option.map_some
abbrev asc:=@List.length_take
abbrev asd:=@BitVec.eq_of_toNat_eq
abbrev ase:=@List.getElem?_eq_none
abbrev asf:=@List.getElem?_take_of_lt
abbrev asg:=@Nat.mod_eq_of_lt
abbrev ash:=@List.take_add_one
abbrev asi:=@List.length_map
abbrev asj:=@BitVec.toNat_setWidth
abbrev asl:=@List.mem_singleton
abbrev asm:=@List.take_append_of_le_length
abbrev asn:=@BitVec.toNat_ofNat
abbrev aso:=@Nat.shiftRight_eq_div_pow
abbrev asp:=@List.length_cons
abbrev asq:=@List.getD_eq_getElem?_getD
abbrev asr:=@List.mem_map
abbrev ass:=@List.append_assoc
abbrev ast:=@List.map_cons
abbrev asu:=@List.mem_append
abbrev asv:=@List.map_append
abbrev asw:=@List.getElem?_cons_zero
abbrev asx:=@List.take_length
abbrev asy:=@List.set_append_right
abbrev asz:=@List.mem_of_mem_take
abbrev asA:=@Nat.add_mul
abbrev asB:=@Nat.succ_mul
abbrev asC:=@Int.toNat_natCast
abbrev asD:=@List.append_nil
abbrev asE:=@List.getElem?_drop
abbrev asF:=@List.length_eq_zero_iff
abbrev asG:=@Array.getElem?_eq_some_iff
abbrev asH:=@BitVec.toNat_ushiftRight
abbrev asI:=@List.getElem?_range
abbrev asJ:=@List.mem_range
abbrev asK:=@List.take_append_drop
abbrev asL:=@List.drop_append_of_le_length
abbrev asM:=@Bool.true_and
abbrev asN:=@Bool.false_and
abbrev asO:=@List.nil_append
abbrev asP:=@List.getElem?_cons_succ
abbrev asQ:=@Int.eq_ofNat_of_zero_le
abbrev asR:=@Nat.min_eq_left
abbrev asS:=@List.drop_eq_getElem_cons
abbrev asT:=@Option.getD_some
abbrev asU:=@List.length_nil
abbrev asV:=@List.drop_eq_nil_of_le
abbrev asW:=@List.drop_of_length_le
abbrev asX:=@List.flatten_append
abbrev asY:=@List.ext_getElem?
abbrev asZ:=@List.all_eq_true
abbrev as0:=@List.mem_cons
abbrev as1:=@List.drop_zero
abbrev as2:=@BitVec.ofInt_natCast
abbrev as3:=@Nat.lt_or_ge
abbrev as4:=@List.flatten_cons
abbrev as5:=@List.cons_append
abbrev as6:=@List.mem_filter
abbrev as7:=@Nat.eq_of_beq_eq_true
abbrev as8:=@Nat.zero_add
abbrev as9:=@Array.getD_eq_getD_getElem?
abbrev ata:=@BitVec.toNat_umod
abbrev atb:=@Bool.false_eq_true
abbrev atc:=@List.length_filter_le
abbrev atd:=@List.replicate_succ
abbrev ate:=@List.map_eq_nil_iff
abbrev atf:=@List.mem_or_eq_of_mem_set
abbrev atg:=@List.length_drop
abbrev ath:=@List.nodup_append
abbrev ati:=@Nat.le_trans
abbrev atj:=@Array.getElem?_append_left
abbrev atk:=@List.pairwise_iff_getElem
abbrev atl:=@List.filter_append
abbrev atm:=@List.take_zero
abbrev atn:=@Nat.shiftLeft_eq
abbrev ato:=@Nat.zero_le
abbrev atp:=@Bool.not_eq_true'
abbrev atq:=@Nat.lt_trichotomy
abbrev atr:=@Nat.le_of_lt
abbrev ats:=@BitVec.toNat_shiftLeft
abbrev att:=@Nat.div_eq_of_lt
abbrev atu:=@Array.getElem?_setIfInBounds
abbrev atv:=@List.eq_of_mem_replicate
abbrev atw:=@List.set_eq_take_append_cons_drop
abbrev atx:=@List.mem_of_mem_drop
abbrev aty:=@List.take_take
abbrev atz:=@Array.getElem?_eq_getElem
abbrev atA:=@List.range_succ
abbrev atB:=@Nat.lt_of_lt_of_le
abbrev atC:=@Nat.mul_one
abbrev atD:=@List.getElem?_set
abbrev atE:=@BitVec.toNat_udiv
abbrev atF:=@List.map_congr_left
abbrev atG:=@List.mem_map_of_mem
abbrev atH:=@List.takeWhile_cons
abbrev atI:=@Array.getElem?_eq_none
abbrev atJ:=@Nat.add_assoc
abbrev atK:=@Bool.and_self
abbrev atL:=@Int.fdiv_eq_ediv_of_nonneg
abbrev atM:=@Option.bind_some
abbrev atN:=@Nat.min_eq_right
abbrev atO:=@List.mapM_cons
abbrev atP:=@Nat.add_sub_cancel
abbrev atQ:=@List.map_nil
abbrev atR:=@Int.natCast_pow
abbrev atS:=@List.flatMap_append
abbrev atT:=@List.filter_sublist
abbrev atU:=@Option.isSome_none
abbrev atV:=@List.map_map
abbrev atW:=@Nat.lt_of_le_of_ne
abbrev atX:=@Array.getElem?_toList
abbrev atY:=@Nat.le_of_ble_eq_true
abbrev atZ:=@Bool.or_eq_true
abbrev at0:=@Option.pure_def
abbrev at1:=@List.getElem?_of_mem
abbrev at2:=@Nat.pow_add
abbrev at3:=@BitVec.toNat_mul
abbrev at4:=@List.take_append
abbrev at5:=@Array.length_toList
abbrev at6:=@Nat.exists_eq_add_of_le
abbrev at7:=@List.sum_cons
abbrev at8:=@Array.eq_empty_of_size_eq_zero
abbrev at9:=@List.set_cons_zero
abbrev aua:=@Int.natCast_nonneg
abbrev aub:=@BitVec.toNat_ofInt
abbrev auc:=@Bool.eq_iff_iff
abbrev aud:=@Nat.mod_lt
abbrev aue:=@List.pairwise_cons
abbrev auf:=@List.count_append
abbrev aug:=@Nat.zero_mul
abbrev auh:=@List.drop_take
abbrev aui:=@Nat.sub_self
abbrev auj:=@Array.getElem?_modify
abbrev auk:=@Array.getElem?_append_right
abbrev aul:=@List.getElem?_concat_length
abbrev aum:=@Nat.pow_le_pow_right
abbrev aun:=@Nat.max_eq_right
abbrev auo:=@List.pairwise_append
abbrev aup:=@List.count_singleton
abbrev auq:=@List.mem_append_left
abbrev aur:=@Bool.false_or
abbrev aus:=@Nat.add_eq_zero_iff
abbrev aut:=@List.getElem?_eq_none_iff
abbrev auu:=@List.length_set
abbrev auv:=@List.nodup_cons
abbrev auw:=@Array.append_assoc
abbrev aux:=@Array.getElem?_map
abbrev auy:=@List.set_cons_succ
abbrev auz:=@BitVec.allOnes_xor
abbrev auA:=@List.drop_drop
abbrev auB:=@List.foldl_append
abbrev auC:=@Nat.mul_left_comm
abbrev auD:=@Nat.mul_mod_right
abbrev auE:=@List.take_sublist
abbrev auF:=@Option.map_eq_some_iff
abbrev auG:=@Nat.one_mul
abbrev auH:=@Nat.mul_mod
abbrev auI:=@List.getElem_mem
abbrev auJ:=@Nat.mul_mod_left
abbrev auK:=@Int.natCast_ediv
abbrev auL:=@List.isEmpty_iff
abbrev auM:=@BitVec.toNat_and
abbrev auN:=@Bool.not_eq_true
abbrev auO:=@List.getElem?_toArray
abbrev auP:=@List.takeWhile_prefix
abbrev auQ:=@Nat.add_zero
abbrev auR:=@List.find?_cons
abbrev auS:=@List.mem_cons_of_mem
abbrev auT:=@Nat.sub_zero
abbrev auU:=@Nat.and_two_pow_sub_one_eq_mod
abbrev auV:=@Nat.one_ne_zero
abbrev auW:=@Nat.shiftLeft_add_eq_or_of_lt
abbrev auX:=@List.drop_succ_cons
abbrev auY:=@List.mergeSort_perm
abbrev auZ:=@Bool.not_false
abbrev au0:=@Nat.pow_mod
abbrev au1:=@List.count_pos_iff
abbrev au2:=@Nat.eq_or_lt_of_le
abbrev au3:=@List.mem_cons_self
abbrev au4:=@Bool.true_eq_false
abbrev au5:=@BitVec.ofNat_toNat
abbrev au6:=@List.map_replicate
abbrev au7:=@Array.size_append
abbrev au8:=@List.size_toArray
abbrev au9:=@Bool.eq_false_iff
abbrev ava:=@List.mem_of_find?_eq_some
abbrev avb:=@Option.isNone_iff_eq_none
abbrev avc:=@Nat.beq_refl
abbrev avd:=@Nat.add_comm
abbrev ave:=@Option.isSome_iff_exists
abbrev avf:=@List.mem_flatMap
abbrev avg:=@List.drop_length
abbrev avh:=@Nat.mul_comm
abbrev avi:=@BitVec.toNat_add
abbrev avj:=@BitVec.toNat_not
abbrev avk:=@List.length_erase_of_mem
abbrev avl:=@List.nodup_range
abbrev avm:=@Nat.le_of_not_lt
abbrev avn:=@List.le_antisymm
abbrev avo:=@List.any_eq_true
abbrev avp:=@List.prefix_iff_eq_take
abbrev avq:=@List.pairwise_mergeSort
abbrev avr:=@List.foldl_cons
abbrev avs:=@Nat.div_le_self
abbrev avt:=@Nat.max_eq_left
abbrev avu:=@Nat.min_def
abbrev avv:=@List.not_lt
abbrev avw:=@List.drop_left
abbrev avx:=@List.nodup_nil
abbrev avy:=@List.lt_irrefl
abbrev avz:=@Nat.blt_eq
abbrev avA:=@List.all_cons
abbrev avB:=@List.map_take
open Go
inductive ad where
 | bool (b:Bool)
 | int (k:IntKind) (n:Int)
 | str (s:List UInt8)
 | ka | aV | iE | j8 | j9
 | aI (cs:List ad)
 | bJ (vs:List ad)
 | ptr (b off sz:Nat)
 | b0 (cs:List ad) (off:Nat)
 | au (z b off len cap sz:Nat)
 | cq (z:Nat) (es:List (List ad))
 | fn (f:FuncId) (first gJ:List ad)
 | mp (b:Nat)
 | it (b:Nat)
 | hu (t:TypeId) (v:ad)
 | nf (l:Nat)
 | bad
 deriving Inhabited
inductive aY where
 | none
 | dead
 | cells (sz:Nat) (cs:List ad)
 | map (es:List (ad × ad × Nat)) (amN:Nat)
 | iter (s:List UInt8) (pos:Nat)
 deriving Inhabited
inductive c2 (α:Type) where
 | nil
 | node (l:c2 α) (v:Option α) (r:c2 α)
def c2.get {α:Type}:c2 α->Nat->Option α
 | .nil,_=>none
 | .node l v r,n=>match Nat.beq n 0 with
  | true=>v
  | false=>match Nat.beq (n % 2) 1 with
   | true=>l.get (n / 2)
   | false=>r.get (n / 2 - 1)
def c2.lq {α:Type}:Nat->c2 α->Nat->α->c2 α
 | 0,t,_,_=>t
 | k+1,.nil,n,x=>match Nat.beq n 0 with
  | true=>.node .nil (some x) .nil
  | false=>match Nat.beq (n % 2) 1 with
   | true=>.node (c2.lq k .nil (n / 2) x) none .nil
   | false=>.node .nil none (c2.lq k .nil (n / 2 - 1) x)
 | k+1,.node l v r,n,x=>match Nat.beq n 0 with
  | true=>.node l (some x) r
  | false=>match Nat.beq (n % 2) 1 with
   | true=>.node (c2.lq k l (n / 2) x) v r
   | false=>.node l v (c2.lq k r (n / 2 - 1) x)
def c2.set {α:Type} (t:c2 α) (n:Nat) (x:α) :c2 α:=t.lq (n+1) n x
theorem lm {a b:Nat} (h:¬ a=b) :Nat.beq a b=false:=by
 cases ag:Nat.beq a b with
 | false=>rfl
 | true=>exact absurd (as7 ag) h
theorem u6 {a b:Nat} (h:a=b) :Nat.beq a b=true:=by subst h; exact avc a
theorem c2.CM {α:Type}:∀ (k:Nat) (t:c2 α) (n:Nat) (x:α) (m:Nat),n<k->(t.lq k n x).get m=if m=n then some x else t.get m
 | 0,_,_,_,_,h=>by omega
 | k+1,.nil,n,x,m,h=>by
  unfold c2.lq;by_cases aB:n=0
  ·subst aB;simp only;unfold c2.get;by_cases hm:m=0
   ·subst hm; simp
   ·have:Nat.beq m 0=false:=lm hm;simp only[this,if_neg hm];split<;>rfl
  ·have ag:Nat.beq n 0=false:=lm aB;simp only[ag];by_cases h1:n % 2=1
   ·have g3:Nat.beq (n % 2) 1=true:=u6 h1;simp only[g3];unfold c2.get;by_cases hm:m=0
    ·subst hm; simp; omega
    ·have:Nat.beq m 0=false:=lm hm;simp only[this];by_cases gw:m % 2=1
     ·have:Nat.beq (m % 2) 1=true:=u6 gw;simp only[this];rw[c2.CM k .nil (n / 2) x (m / 2) (by omega)];by_cases ao:m=n
      ·subst ao; simp
      ·rw[if_neg ao,if_neg (by omega)]; rfl
     ·have:Nat.beq (m % 2) 1=false:=lm gw;simp only[this];rw[if_neg (by intro aH; subst aH; exact gw h1)];rfl
   ·have g3:Nat.beq (n % 2) 1=false:=lm h1;simp only[g3];unfold c2.get;by_cases hm:m=0
    ·subst hm; simp; omega
    ·have:Nat.beq m 0=false:=lm hm;simp only[this];by_cases gw:m % 2=1
     ·have:Nat.beq (m % 2) 1=true:=u6 gw;simp only[this];rw[if_neg (by intro aH; subst aH; exact h1 gw)];rfl
     ·have:Nat.beq (m % 2) 1=false:=lm gw;simp only[this];rw[c2.CM k .nil (n / 2 - 1) x (m / 2 - 1) (by omega)];by_cases ao:m=n
      ·subst ao; simp
      ·rw[if_neg ao,if_neg (by omega)]; rfl
 | k+1,.node l v r,n,x,m,h=>by
  unfold c2.lq;by_cases aB:n=0
  ·subst aB;simp only;unfold c2.get;by_cases hm:m=0
   ·subst hm; simp
   ·have:Nat.beq m 0=false:=lm hm;simp only[this,if_neg hm]
  ·have ag:Nat.beq n 0=false:=lm aB;simp only[ag];by_cases h1:n % 2=1
   ·have g3:Nat.beq (n % 2) 1=true:=u6 h1;simp only[g3];unfold c2.get;by_cases hm:m=0
    ·subst hm; simp; omega
    ·have:Nat.beq m 0=false:=lm hm;simp only[this];by_cases gw:m % 2=1
     ·have:Nat.beq (m % 2) 1=true:=u6 gw;simp only[this];rw[c2.CM k l (n / 2) x (m / 2) (by omega)];by_cases ao:m=n
      ·subst ao; simp
      ·rw[if_neg ao,if_neg (by omega)]
     ·have:Nat.beq (m % 2) 1=false:=lm gw;simp only[this];rw[if_neg (by intro aH; subst aH; exact gw h1)]
   ·have g3:Nat.beq (n % 2) 1=false:=lm h1;simp only[g3];unfold c2.get;by_cases hm:m=0
    ·subst hm; simp; omega
    ·have:Nat.beq m 0=false:=lm hm;simp only[this];by_cases gw:m % 2=1
     ·have:Nat.beq (m % 2) 1=true:=u6 gw;simp only[this];rw[if_neg (by intro aH; subst aH; exact h1 gw)]
     ·have:Nat.beq (m % 2) 1=false:=lm gw;simp only[this];rw[c2.CM k r (n / 2 - 1) x (m / 2 - 1) (by omega)];by_cases ao:m=n
      ·subst ao; simp
      ·rw[if_neg ao,if_neg (by omega)]
theorem c2.Ko {α:Type} (t:c2 α) (n:Nat) (x:α) (m:Nat) :(t.set n x).get m=if m=n then some x else t.get m:=c2.CM _ _ _ _ _ (by omega)
structure a6 where
 n:Nat
 t:c2 aY
def a6.f (h:a6) (b:Nat) :aY:=match h.t.get b with | some c=>c | none=>.none
def a6.empty:a6:=⟨0,.nil⟩
def bY {α:Type} (f:Nat->α) (i:Nat) (v:α) :Nat->α:=fun j=>if j=i then v else f j
def a6.push (h:a6) (c:aY) :a6:=⟨h.n+1,h.t.set h.n c⟩
def a6.set (h:a6) (b:Nat) (c:aY) :a6:=⟨h.n,h.t.set b c⟩
theorem fL (h:a6) (c:aY) :(h.push c).n=h.n+1:=rfl
theorem fa (h:a6) (b:Nat) (c:aY) :(h.set b c).n=h.n:=rfl
theorem eH (h:a6) (c:aY) :(h.push c).f=bY h.f h.n c:=by
 funext b;simp only[a6.f,a6.push,bY,c2.Ko];by_cases ag:b=h.n
 ·simp[ag]
 ·simp[ag]
theorem ed (h:a6) (b:Nat) (c:aY) :(h.set b c).f=bY h.f b c:=by
 funext bw;simp only[a6.f,a6.set,bY,c2.Ko];by_cases ag:bw=b
 ·simp[ag]
 ·simp[ag]
theorem FC (b:Nat) :a6.empty.f b=.none:=rfl
@[simp] theorem kL {α:Type} (f:Nat->α) (i:Nat) (v:α) :bY f i v i=v:=by simp[bY]
theorem cp {α:Type} (f:Nat->α) (i j:Nat) (v:α) (h:j≠i) :bY f i v j=f j:=by simp[bY,h]
def ad.one:ad->Bool
 | .aI _ | .bJ _ | .bad=>false
 | _=>true
def ad.cells:ad->Option (List ad)
 | .aI cs=>some cs
 | .bJ _ | .bad=>none
 | v=>some [v]
def pJ:Value->ad
 | .bool b=>.bool b
 | .int k n=>.int k n
 | .string s=>.str s.data.toList
 | .pointer a=>match a with | none=>.ka | some _=>.bad
 | .slice a l c=>match a,l,c with | none,0,0=>.aV | _,_,_=>.bad
 | .map r=>match r with | none=>.iE | some _=>.bad
 | .nilFunc=>.j8
 | .nilIface=>.j9
 | .func fn first gJ=>match fn,first.toList,gJ.toList with | .func f,[],[]=>.fn f [] [] | _,_,_=>.bad
 | _=>.bad
def xb:Value->ad
 | .agg cs=>if cs.toList.all Value.oneCell' then .aI (cs.toList.map pJ) else .bad
 | .tuple vs=>.bJ (vs.toList.map pJ)
 | v=>pJ v
def dR (G:Nat->ad) (af:Nat->ad) :Operand->ad
 | .tmp t=>af t
 | .const v=>xb v
 | .func f=>.fn f [] []
 | .global g=>G g
def eA (P:Program) (t:TypeId) :Option Bool:=(P.underlying t).map fun d=>match d with | .struct _ | .array _ _=>true | _=>false
def cG (P:Program) (t:TypeId) :Option Nat:=(P.info? t).map (·.size)
def jn (P:Program) (t:TypeId) :Option Nat:=(P.info? t).map (·.bytes)
def h5 (P:Program) (t:TypeId) :Option (List ad) :=((P.info? t).bind (·.zero)).bind fun v=>if v.cells.toList.all Value.oneCell' then some (v.cells.toList.map pJ) else none
def i2 (P:Program) (t:TypeId) :Option TypeId:=match P.underlying t with | some (.slice e)=>some e | _=>none
def ij (P:Program) (t:TypeId) (cs:List ad) (off:Nat) :Option ad:=
 match eA P t,cG P t with
 | some true,some n=>if off+n<=cs.length then some (.aI ((cs.drop off).take n)) else none
 | some false,_=>cs[off]?
 | _,_=>none
def reach (h:a6) :ad->Option (List ad × Nat)
 | .ptr b off sz=>match h.f b with
  | .cells n cs=>if n=sz then some (cs,off) else none
  | _=>none
 | .b0 cs off=>some (cs,off)
 | _=>none
def tu (P:Program) (h:a6) (t:TypeId) (p:ad) :Option ad:=
 match reach h p with
 | some (cs,off)=>ij P t cs off
 | none=>none
def bt (cs:List ad) (off:Nat) (vs:List ad) :List ad:=cs.take off++vs++cs.drop (off+vs.length)
def BJ (P:Program) (h:a6) (t:TypeId) (p v:ad) :Option a6:=
 match p,v.cells,cG P t with
 | .ptr b off sz,some vs,some n=>match h.f b with
  | .cells m cs=>if m=sz/\vs.length=n/\off+n<=m then some (h.set b (.cells m (bt cs off vs))) else none
  | _=>none
 | _,_,_=>none
def asInt:ad->Option Int
 | .int _ n=>some n
 | _=>none
def x8 (P:Program) (s:TypeId) (f:Nat) :Option Field:=match P.underlying s with | some (.struct fs)=>fs[f]? | _=>none
def oy:ad->Nat->Option ad
 | .ptr b off sz,k=>some (.ptr b (off+k) sz)
 | .b0 cs off,k=>some (.b0 cs (off+k))
 | _,_=>none
def FL (P:Program) (s:TypeId) (x:ad) (f:Nat) :Option ad:=
 match x8 P s f with
 | some fd=>match cG P fd.type with
  | some (_+1)=>oy x fd.offset
  | _=>none
 | none=>none
def DJ (P:Program) (t:TypeId) (x iT:ad) :Option ad:=
 match P.underlying t,asInt iT with
 | some (.array len e),some i=>match cG P e with
  | some z=>if 0<=i/\i<len then oy x (i.toNat*z) else none
  | none=>none
 | some (.slice e),some i=>match cG P e,x with
  | some z,.au en b off len _ sz=>if z=en/\0<=i/\i<len then some (.ptr b (off+i.toNat*z) sz) else none
  | some z,.cq en es=>if z=en/\0<=i then (es[i.toNat]?).map fun cs=>.b0 cs 0 else none
  | _,_=>none
 | _,_=>none
def h9 (lW:Nat->Option (Nat × Nat)) (cells:List ad) :List (Nat × ad)->Option (List ad)
 | []=>some cells
 | (i,v) ::rest=>match lW i,v.cells with
  | some (off,size),some vs=>if vs.length=size/\off+size<=cells.length then h9 lW (bt cells off vs) rest else none
  | _,_=>none
def Ef (P:Program) (fs:Array Field) (i:Nat) :Option (Nat × Nat) :=(fs[i]?).bind fun f=>(cG P f.type).map fun n=>(f.offset,n)
def Cg (P:Program) (t:TypeId) (parts:List (Nat × ad)) :Option ad:=
 match h5 P t,P.underlying t with
 | some zero,some (.struct fs)=>if !(fs.toList.all fun f=>(cG P f.type).isSome) then none else (h9 (Ef P fs) zero parts).map .aI
 | some zero,some (.array _ e)=>match cG P e with
  | some n=>(h9 (fun i=>some (i*n,n)) zero parts).map .aI
  | none=>none
 | _,_=>none
def dZ (zero:List ad) :Nat->List ad
 | 0=>[]
 | n+1=>zero++dZ zero n
def Fj (P:Program) (h:a6) (t:TypeId) (len:Nat) (parts:List (Nat × ad)) :Option (ad × a6) :=
 match i2 P t with
 | some e=>match cG P e,h5 P e with
  | some z,some zero=>if zero.length=z/\len*z<=16777216 then
    (h9 (fun i=>some (i*z,z)) (dZ zero len) parts).map fun cs=>(.au z h.n 0 len len (len*z),h.push (.cells (len*z) cs))
   else none
  | _,_=>none
 | none=>none
def cB (op:BinOp) (k:IntKind) (a:Int) (k' : IntKind) (b:Int) :Option ad:=
 match op with
 | .shl=>if b<0 then none else some (.int k (k.wrap (a*2 ^ min b.toNat k.bits)))
 | .shr=>if b<0 then none else some (.int k (a.fdiv (2 ^ min b.toNat k.bits)))
 | .add=>if k=k' then some (.int k (k.wrap (a+b))) else none
 | .sub=>if k=k' then some (.int k (k.wrap (a - b))) else none
 | .mul=>if k=k' then some (.int k (k.wrap (a*b))) else none
 | .quo=>if k=k'/\b≠0 then some (.int k (k.wrap (a.tdiv b))) else none
 | .rem=>if k=k'/\b≠0 then some (.int k (a.tmod b)) else none
 | .and=>if k=k' then some (.int k (k.wrap (BitVec.ofInt k.bits a &&& BitVec.ofInt k.bits b).toNat)) else none
 | .or=>if k=k' then some (.int k (k.wrap (BitVec.ofInt k.bits a ||| BitVec.ofInt k.bits b).toNat)) else none
 | .xor=>if k=k' then some (.int k (k.wrap (BitVec.ofInt k.bits a ^^^ BitVec.ofInt k.bits b).toNat)) else none
 | .andNot=>if k=k' then some (.int k (k.wrap (BitVec.ofInt k.bits a &&& ~~~BitVec.ofInt k.bits b).toNat)) else none
 | .eql=>if k=k' then some (.bool (a == b)) else none
 | .neq=>if k=k' then some (.bool (a != b)) else none
 | .lss=>if k=k' then some (.bool (decide (a<b))) else none
 | .leq=>if k=k' then some (.bool (decide (a<=b))) else none
 | .gtr=>if k=k' then some (.bool (decide (a > b))) else none
 | .geq=>if k=k' then some (.bool (decide (a ≥ b))) else none
def ov (op:BinOp) (a b:List UInt8) :Option ad:=
 match op with
 | .eql=>some (.bool (a == b))
 | .neq=>some (.bool (!(a == b)))
 | .lss=>some (.bool (Op.bytesLess a b))
 | .leq=>some (.bool (Op.bytesLess a b||a == b))
 | .gtr=>some (.bool (!(Op.bytesLess a b||a == b)))
 | .geq=>some (.bool (!Op.bytesLess a b))
 | .add=>if a.length+b.length<=9223372036854775807 then some (.str (a++b)) else none
 | _=>none
def eW (P:Program) :Nat->TypeId->ad->ad->Option Bool
 | 0,_,_,_=>none
 | d+1,t,x,y=>
  match P.underlying t,x,y with
  | some .bool,.bool a,.bool b=>some (a == b)
  | some (.int _),.int k a,.int k' b=>if k=k' then some (a == b) else none
  | some .string,.str a,.str b=>some (a == b)
  | some (.struct fs),.aI xs,.aI bh=>if P.stoodInHeld t then none else eqFields P (eW P d) xs bh fs.toList
  | some (.array n e),.aI xs,.aI bh=>match cG P e with
   | some z=>sO P (eW P d) e z xs bh n 0
   | none=>none
  | some (.slice _),.aV,.aV=>some true
  | some (.slice _),.aV,.au .. | some (.slice _),.aV,.cq .. | some (.slice _),.au ..,.aV | some (.slice _),.cq ..,.aV=>some false
  | _,_,_=>none
where
 eqFields (P:Program) (eq:TypeId->ad->ad->Option Bool) (xs bh:List ad) :List Field->Option Bool
  | []=>some true
  | f::fs=>if f.name= "_" then eqFields P eq xs bh fs else
   match ij P f.type xs f.offset,ij P f.type bh f.offset with
   | some a,some b=>match eq f.type a b with
    | some true=>eqFields P eq xs bh fs
    | some false=>some false
    | none=>none
   | _,_=>none
 sO (P:Program) (eq:TypeId->ad->ad->Option Bool) (e:TypeId) (z:Nat) (xs bh:List ad) :Nat->Nat->Option Bool
  | 0,_=>some true
  | n+1,i=>match ij P e xs (i*z),ij P e bh (i*z) with
   | some a,some b=>match eq e a b with
    | some true=>sO P eq e z xs bh n (i+1)
    | some false=>some false
    | none=>none
   | _,_=>none
def x4 (P:Program) (t:TypeId) :ad->ad->Bool
 | .aI _,.aI _=>!P.eqGuardType P.depth t
 | _,_=>true
def gq (P:Program) (op:BinOp) (t:TypeId) (x y:ad) :Option ad:=
 match x,y with
 | .int k a,.int k' b=>cB op k a k' b
 | .str a,.str b=>ov op a b
 | x,y=>match op with
  | .eql=>if x4 P t x y then (eW P 10000 t x y).map .bool else none
  | .neq=>if x4 P t x y then (eW P 10000 t x y).map fun b=>.bool (!b) else none
  | _=>none
def so (op:UnOp) (x:ad) :Option ad:=
 match op,x with
 | .not,.bool b=>some (.bool (!b))
 | .neg,.int k n=>some (.int k (k.wrap (0 - n)))
 | .xor,.int k n=>some (.int k (k.wrap (BitVec.ofInt k.bits (if k.signed then -1 else k.max) ^^^ BitVec.ofInt k.bits n).toNat))
 | _,_=>none
def pe (z:Nat) :Nat->List ad->List (List ad)
 | 0,_=>[]
 | n+1,cs=>cs.take z::pe z n (cs.drop z)
def jS (b:UInt8) :ad:=.int .u8 b.toNat
def contents (h:a6) (z:Nat) :ad->Option (List ad × Nat)
 | .aV=>some ([],0)
 | .cq en es=>if z=en then some (es.flatten,es.length) else none
 | .au en b off len _ sz=>match h.f b with
  | .cells n cs=>if n=sz/\z=en then some ((cs.drop off).take (len*z),len) else none
  | _=>none
 | .str s=>if z=1 then some (s.map jS,s.length) else none
 | _=>none
def cK:Nat:=140737488355328
def tS (P:Program) (t:TypeId) :Option Nat:=((P.info? t).bind (·.zero)).map (·.cells.size)
def vG (P:Program) (h:a6) (e:TypeId) (z by_:Nat) (s:ad) (xs:List ad) (n:Nat) :Option (ad × a6) :=
 if n=0 then (match s with | .aV | .cq .. | .au ..=>some (s,h) | _=>none)
 else if z=0\/by_=0\/tS P e≠some z then none else match s with
  | .aV=>if n*by_<=cK then some (.au z h.n 0 n n (n*z),h.push (.cells (n*z) xs)) else none
  | .au en b off len cap sz=>match h.f b with
   | .cells m cs=>
    if m=sz/\z=en/\(len+n)*by_<=cK then
     if len+n<=cap then some (.au z b off (len+n) cap sz,h.set b (.cells m (bt cs (off+len*z) xs)))
     else if off+cap*z<sz then some (.au z h.n 0 (len+n) (len+n) ((len+n)*z),h.push (.cells ((len+n)*z) ((cs.drop off).take (len*z)++xs)))
     else if off=0 then some (.au z b 0 (len+n) (len+n) ((len+n)*z),h.set b (.cells ((len+n)*z) (cs.take (len*z)++xs)))
     else some (.au z h.n 0 (len+n) (len+n) ((len+n)*z),(h.set b .dead).push (.cells ((len+n)*z) ((cs.drop off).take (len*z)++xs)))
    else none
   | _=>none
  | _=>none
def sI (P:Program) (h:a6) (t:TypeId) (s x:ad) :Option (ad × a6) :=
 match i2 P t with
 | none=>none
 | some e=>match cG P e,jn P e with
  | some z,some by_=>match contents h z x with
   | none=>none
   | some (xs,n)=>vG P h e z by_ s xs n
  | _,_=>none
def kh (x:ad) (y:Nat) :Option Nat:=match x with | .int _ i=>if 0<=i/\i<=y then some i.toNat else none | _=>none
def g1 (len cap:Nat) (c0 ax cX:Option ad) :Option (Nat × Nat × Nat) :=
 match (match cX with | some v=>kh v cap | none=>some cap) with
 | none=>none
 | some m=>match (match ax,cX with | some v,_=>kh v m | none,none=>some len | none,some _=>none) with
  | none=>none
  | some h=>match (match c0 with | some v=>kh v h | none=>some 0) with
   | none=>none
   | some l=>some (l,h,m)
def Ey (P:Program) (t:TypeId) (x:ad) (c0 ax cX:Option ad) :Option ad:=
 match P.underlying t,x with
 | some (.array n e),x=>match cG P e,g1 n n c0 ax cX with
  | some z,some (l,aH,m)=>match x with
   | .ptr b off sz=>if off+m*z<=sz then (if m=l then some (.cq z []) else some (.au z b (off+l*z) (aH - l) (m - l) sz)) else none
   | .b0 cs off=>if off+n*z<=cs.length then some (.cq z (pe z (aH - l) (cs.drop (off+l*z)))) else none
   | _=>none
  | _,_=>none
 | some (.slice e),x=>match cG P e,x with
  | some z,.au en b off len cap sz=>if z=en then (g1 len cap c0 ax cX).map fun (l,aH,m)=>if m=l then .au z b (off+l*z) 0 0 sz else .au z b (off+l*z) (aH - l) (m - l) sz else none
  | some z,.cq en es=>if z=en then (g1 es.length es.length c0 ax cX).map fun (l,aH,_)=>.cq z ((es.drop l).take (aH - l)) else none
  | some _,.aV=>(g1 0 0 c0 ax cX).map fun _=>.aV
  | _,_=>none
 | some .string,.str s=>match cX with
  | none=>(g1 s.length s.length c0 ax none).map fun (l,aH,_)=>.str ((s.drop l).take (aH - l))
  | some _=>none
 | _,_=>none
def y6 (P:Program) (t:TypeId) (x:ad) :Option ad:=
 match P.underlying t,x with
 | some .string,.str s=>some (.int .i64 s.length)
 | some (.array n _),_=>some (.int .i64 n)
 | some (.slice _),.aV=>some (.int .i64 0)
 | some (.slice _),.au _ _ _ len _ _=>some (.int .i64 len)
 | some (.slice _),.cq _ es=>some (.int .i64 es.length)
 | some (.map _ _),.iE=>some (.int .i64 0)
 | _,_=>none
def HQ (P:Program) (h:a6) (t:TypeId) (l c:ad) :Option (ad × a6) :=
 match i2 P t,asInt l,asInt c with
 | some e,some l,some c=>match cG P e,jn P e,h5 P e with
  | some z,some by_,some zero=>
   if zero.length=z/\0<=l/\l<=c/\c<9223372036854775808/\by_*c<=cK then
    some (.au z h.n 0 l.toNat c.toNat (c.toNat*z),h.push (.cells (c.toNat*z) (dZ zero c.toNat)))
   else none
  | _,_,_=>none
 | _,_,_=>none
def z8 (P:Program) (h:a6) (t:TypeId) (d x:ad) :Option (ad × a6) :=
 match i2 P t with
 | none=>none
 | some e=>match cG P e with
  | none=>none
  | some z=>match contents h z x with
   | none=>none
   | some (xs,n)=>match d with
    | .aV=>some (.int .i64 0,h)
    | .au en b off len _ sz=>match h.f b with
     | .cells m cs=>if m=sz/\z=en then some (.int .i64 ((min n len:Nat) :Int),h.set b (.cells m (bt cs off (xs.take (min n len*z))))) else none
     | _=>none
    | _=>none
def ow:List ad->Option (List UInt8)
 | []=>some []
 | .int .u8 n::r=>(ow r).map (UInt8.ofNat n.toNat::·)
 | _::_=>none
def xZ (P:Program) (h:a6) (src dst:TypeId) (x:ad) :Option ad:=
 match P.underlying src,P.underlying dst,x with
 | some _,some (.int k),.int _ n=>some (.int k (k.wrap n))
 | some _,some .string,.str s=>some (.str s)
 | some (.slice e),some .string,x=>match P.underlying e,x with
  | some (.int .u8),.aV=>some (.str [])
  | some (.int .u8),x=>match contents h 1 x,x with
   | some _,.str _=>none
   | some (cs,_),_=>(ow cs).map .str
   | none,_=>none
  | _,_=>none
 | _,_,_=>none
def zU (P:Program) (src dst:TypeId) (x:ad) :Option ad:=
 match P.underlying src,P.underlying dst,x with
 | some _,some (.slice e),.str s=>match P.underlying e with
  | some (.int .u8)=>some (.cq 1 (s.map fun b=>[jS b]))
  | _=>none
 | _,_,_=>none
def zY (P:Program) (t:TypeId) (x:ad) :Option ad:=
 match P.underlying t,x with
 | some (.array n _),_=>some (.int .i64 n)
 | some (.slice _),.aV=>some (.int .i64 0)
 | _,_=>none
def z2 (P:Program) (h:a6) (t:TypeId) (x:ad) :Option a6:=
 match P.underlying t,x with
 | some (.slice _),.aV=>some h
 | some (.slice _),.cq _ []=>some h
 | some (.slice e),.au z b off len _ sz=>if len=0 then some h else match h5 P e,h.f b with
  | some zero,.cells m cs=>if m=sz/\zero.length=z then some (h.set b (.cells m (bt cs off (dZ zero len)))) else none
  | _,_=>none
 | _,_=>none
def Bd (P:Program) (t:TypeId) (x iT:ad) :Option ad:=
 match P.underlying t,x,asInt iT with
 | some (.array n e),.aI cs,some i=>match cG P e with
  | some z=>if 0<=i/\i<n then ij P e cs (i.toNat*z) else none
  | none=>none
 | some .string,.str s,some i=>if 0<=i then (s[i.toNat]?).map jS else none
 | _,_,_=>none
mutual
def ad.beq:ad->ad->Bool
 | .bool a,y=>match y with | .bool b=>(match a,b with | true,true=>true | false,false=>true | _,_=>false) | _=>false
 | .int k n,y=>match y with | .int k' hy=>decide (k=k')&&decide (n=hy) | _=>false
 | .str a,y=>match y with | .str b=>decide (a=b) | _=>false
 | .ka,y=>match y with | .ka=>true | _=>false
 | .aV,y=>match y with | .aV=>true | _=>false
 | .iE,y=>match y with | .iE=>true | _=>false
 | .j8,y=>match y with | .j8=>true | _=>false
 | .j9,y=>match y with | .j9=>true | _=>false
 | .aI a,y=>match y with | .aI b=>fk a b | _=>false
 | .bJ a,y=>match y with | .bJ b=>fk a b | _=>false
 | .ptr a b c,y=>match y with | .ptr fc bw c'=>Nat.beq a fc&&Nat.beq b bw&&Nat.beq c c' | _=>false
 | .b0 a n,y=>match y with | .b0 fc hy=>fk a fc&&Nat.beq n hy | _=>false
 | .au a b c d e f,y=>match y with | .au fc bw c' uo fE aaE=>Nat.beq a fc&&Nat.beq b bw&&Nat.beq c c'&&Nat.beq d uo&&Nat.beq e fE&&Nat.beq f aaE | _=>false
 | .cq a b,y=>match y with | .cq fc bw=>Nat.beq a fc&&Ce b bw | _=>false
 | .fn a b c,y=>match y with | .fn fc bw c'=>Nat.beq a fc&&fk b bw&&fk c c' | _=>false
 | .mp a,y=>match y with | .mp fc=>Nat.beq a fc | _=>false
 | .it a,y=>match y with | .it fc=>Nat.beq a fc | _=>false
 | .hu a b,y=>match y with | .hu fc bw=>Nat.beq a fc&&ad.beq b bw | _=>false
 | .nf a,y=>match y with | .nf fc=>Nat.beq a fc | _=>false
 | .bad,y=>match y with | .bad=>true | _=>false
def fk:List ad->List ad->Bool
 | [],y=>match y with | []=>true | _=>false
 | a::as,y=>match y with | b::bs=>ad.beq a b&&fk as bs | _=>false
def Ce:List (List ad)->List (List ad)->Bool
 | [],y=>match y with | []=>true | _=>false
 | a::as,y=>match y with | b::bs=>fk a b&&Ce as bs | _=>false
end
theorem ll {a b:Nat} (h:Nat.beq a b=true) :a=b:=Nat.eq_of_beq_eq_true h
mutual
theorem ad.beq_eq:∀ {a b:ad},ad.beq a b=true->a=b
 | .bool a,b,h=>by cases b<;>simp only[ad.beq] at h<;>first | cases h | (rename_i b; cases a<;>cases b<;>first | rfl | cases h)
 | .int k n,b,h=>by cases b<;>simp only[ad.beq] at h<;>first | cases h | (simp only[Bool.and_eq_true,decide_eq_true_eq] at h; rw[h.1,h.2])
 | .str a,b,h=>by cases b<;>simp only[ad.beq] at h<;>first | cases h | (simp only[decide_eq_true_eq] at h; rw[h])
 | .ka,b,h=>by cases b<;>simp only[ad.beq] at h<;>first | rfl | cases h
 | .aV,b,h=>by cases b<;>simp only[ad.beq] at h<;>first | rfl | cases h
 | .iE,b,h=>by cases b<;>simp only[ad.beq] at h<;>first | rfl | cases h
 | .j8,b,h=>by cases b<;>simp only[ad.beq] at h<;>first | rfl | cases h
 | .j9,b,h=>by cases b<;>simp only[ad.beq] at h<;>first | rfl | cases h
 | .bad,b,h=>by cases b<;>simp only[ad.beq] at h<;>first | rfl | cases h
 | .aI a,b,h=>by cases b<;>simp only[ad.beq] at h<;>first | cases h | rw[vI h]
 | .bJ a,b,h=>by cases b<;>simp only[ad.beq] at h<;>first | cases h | rw[vI h]
 | .ptr ..,b,h=>by cases b<;>simp only[ad.beq] at h<;>first | cases h | (simp only[Bool.and_eq_true] at h; rw[ll h.1.1,ll h.1.2,ll h.2])
 | .b0 a n,b,h=>by cases b<;>simp only[ad.beq] at h<;>first | cases h | (simp only[Bool.and_eq_true] at h; rw[vI h.1,ll h.2])
 | .au ..,b,h=>by cases b<;>simp only[ad.beq] at h<;>first | cases h | (simp only[Bool.and_eq_true] at h; rw[ll h.1.1.1.1.1,ll h.1.1.1.1.2,ll h.1.1.1.2,ll h.1.1.2,ll h.1.2,ll h.2])
 | .cq a n,b,h=>by cases b<;>simp only[ad.beq] at h<;>first | cases h | (simp only[Bool.and_eq_true] at h; rw[ll h.1,PG h.2])
 | .fn a n m,b,h=>by cases b<;>simp only[ad.beq] at h<;>first | cases h | (simp only[Bool.and_eq_true] at h; rw[ll h.1.1,vI h.1.2,vI h.2])
 | .mp a,b,h=>by cases b<;>simp only[ad.beq] at h<;>first | cases h | rw[ll h]
 | .it a,b,h=>by cases b<;>simp only[ad.beq] at h<;>first | cases h | rw[ll h]
 | .nf a,b,h=>by cases b<;>simp only[ad.beq] at h<;>first | cases h | rw[ll h]
 | .hu a n,b,h=>by cases b<;>simp only[ad.beq] at h<;>first | cases h | (simp only[Bool.and_eq_true] at h; rw[ll h.1,ad.beq_eq h.2])
theorem vI:∀ {a b:List ad},fk a b=true->a=b
 | [],b,h=>by cases b<;>simp only[fk] at h<;>first | rfl | cases h
 | x::a,b,h=>by cases b<;>simp only[fk] at h<;>first | cases h | (simp only[Bool.and_eq_true] at h; rw[ad.beq_eq h.1,vI h.2])
theorem PG:∀ {a b:List (List ad)},Ce a b=true->a=b
 | [],b,h=>by cases b<;>simp only[Ce] at h<;>first | rfl | cases h
 | x::a,b,h=>by cases b<;>simp only[Ce] at h<;>first | cases h | (simp only[Bool.and_eq_true] at h; rw[vI h.1,PG h.2])
end
def tD:ad->Bool | .int .. | .str _ | .bool _=>true | _=>false
def r3 (P:Program) :Nat->TypeId->Bool
 | 0,_=>false
 | d+1,t=>match P.underlying t,cG P t with
  | some (.int _),_=>true
  | some .string,_=>true
  | some .bool,_=>true
  | some (.array n e),some m=>r3 P d e&&(match cG P e,eA P e with | some z,some _=>Nat.ble (n*z) m&&Nat.ble 1 z | _,_=>false)
  | some (.struct fs),some m=>fs.toList.all fun f=>r3 P d f.type&&(match cG P f.type,eA P f.type with | some z,some _=>Nat.ble (f.offset+z) m&&Nat.ble 1 z | _,_=>false)
  | _,_=>false
def nx (P:Program) (t:TypeId) (c:ad) :Bool:=
 match c with
 | .aI cs=>r3 P 8 t&&(match eA P t,cG P t with | some true,some m=>Nat.beq cs.length m | _,_=>false)&&cs.all tD
 | _=>false
def lF (P:Program) (dD:TypeId) (k:ad) :List (ad × ad × Nat)->Nat->Option (Option (Nat × ad))
 | [],_=>some none
 | (k',v,_) ::es,i=>match nx P dD k' with
  | false=>none
  | true=>match eW P 10000 dD k k' with
   | some true=>match ad.beq k k' with | true=>some (some (i,v)) | false=>none
   | some false=>lF P dD k es (i+1)
   | none=>none
def mapOf (h:a6) :ad->Option (List (ad × ad × Nat))
 | .iE=>some []
 | .mp b=>match h.f b with | .map es _=>some es | _=>none
 | _=>none
def zF (P:Program) (t:TypeId) :Option ad:=((P.info? t).bind (·.zero)).map xb
def HM (P:Program) (h:a6) (t:TypeId) (m k:ad) (ok:Bool) :Option ad:=
 match P.underlying t,mapOf h m with
 | some (.map dD nk),some es=>match nx P dD k with
  | false=>none
  | true=>match lF P dD k es 0 with
   | some (some (_,v))=>some (if ok then .bJ [v,.bool true] else v)
   | some none=>(zF P nk).map fun z=>if ok then .bJ [z,.bool false] else z
   | none=>none
 | _,_=>none
def zc (P:Program) (h:a6) (t:TypeId) (m k v:ad) :Option a6:=
 match P.underlying t,m with
 | some (.map dD _),.mp b=>match h.f b with
  | .map es fl=>match nx P dD k with
   | false=>none
   | true=>match lF P dD k es 0 with
    | some (some (i,_))=>some (h.set b (.map (es.modify i fun e=>(k,v,e.2.2)) fl))
    | some none=>some (h.set b (.map (es++[(k,v,fl)]) (fl+1)))
    | none=>none
  | _=>none
 | _,_=>none
def y7 (P:Program) (h:a6) (t:TypeId) (x:ad) :Option ad:=
 match P.underlying t,x with
 | some (.map _ _),.mp b=>match h.f b with | .map es _=>some (.int .i64 es.length) | _=>none
 | _,_=>none
def Io (P:Program) (h:a6) (t:TypeId) (x:ad) :Option (ad × a6) :=
 match P.underlying t,x with
 | some .string,.str s=>some (.it h.n,h.push (.iter s 0))
 | _,_=>none
def HY (h:a6) (x:ad) :Option (ad × a6) :=
 match x with
 | .it b=>match h.f b with
  | .iter s pos=>match Nat.blt pos s.length with
   | true=>some (.bJ [.bool true,.int .i64 pos,.int .i32 (Utf8.decode ⟨s.toArray⟩ pos).1],h.set b (.iter s (pos+(Utf8.decode ⟨s.toArray⟩ pos).2)))
   | false=>some (.bJ [.bool false],h)
  | _=>none
 | _=>none
def pg:List UInt8->List UInt8->Int
 | [],[]=>0
 | [],_::_=>-1
 | _::_,[]=>1
 | a::as,b::bs=>if a=b then pg as bs else if a<b then -1 else 1
def vM (h:a6) (x:ad) :Option (List UInt8) :=match x with
 | .str s=>some s
 | x=>match contents h 1 x with
  | some (cs,_)=>ow cs
  | none=>none
def Cs (h:a6) :List ad->Option ad
 | [x,y]=>match vM h x,vM h y with
  | some a,some b=>some (.int .i64 (pg a b))
  | _,_=>none
 | _=>none
def DM (fn:Func) :Bool:=fn.body.isNone&&fn.name == "internal/bytealg.Compare"&&(fn.origin == ""||fn.origin == "internal/bytealg.Compare")
inductive p2 where
 | val (v:ad) (h:a6)
 | call (f:FuncId) (args:List ad) (h:a6)
def DY:ad->ad->Option ad
 | .int k x,.int k' y=>if k=k' then some (.int k (if y<x then y else x)) else none
 | _,_=>none
def w5:ad->ad->Option ad
 | .int k x,.int k' y=>if k=k' then some (.int k (if x<y then y else x)) else none
 | _,_=>none
def jg:ad:=.bJ []
def Cb (P:Program) (h:a6) (t:TypeId) (s x:ad) :Option (ad × a6) :=
 match i2 P t,asInt x with
 | some e,some n=>match cG P e,jn P e,h5 P e with
  | some z,some by_,some zero=>
   if zero.length=z/\0<=n/\n<9223372036854775808/\n.toNat*by_<=cK then vG P h e z by_ s (dZ zero n.toNat) n.toNat else none
  | _,_,_=>none
 | _,_=>none
def p7 (P:Program) (h:a6) (b:Builtin) (ts:List TypeId) (args:List ad) :Option p2:=
 match b,ts,args with
 | .len,[t],[x]=>match y7 P h t x with
  | some v=>some (.val v h)
  | none=>(y6 P t x).map fun v=>.val v h
 | .append,[t,u],[s,x]=>match P.underlying u with
  | some (.int _)=>(Cb P h t s x).map fun (v,h')=>.val v h'
  | none=>none
  | _=>(sI P h t s x).map fun (v,h')=>.val v h'
 | .copy,[t,_],[d,x]=>(z8 P h t d x).map fun (v,h')=>.val v h'
 | .cap,[t],[x]=>(zY P t x).map fun v=>.val v h
 | .clear,[t],[x]=>(z2 P h t x).map fun h'=>.val (.bJ []) h'
 | .min,_,[x,y]=>(DY x y).map fun v=>.val v h
 | .max,_,[x,y]=>(w5 x y).map fun v=>.val v h
 | _,_,_=>none
def Bm (P:Program) (t:TypeId) (name:String) :Option FuncId:=
 match P.underlying t with
 | some (.pointer _) | none=>none
 | _=>match P.info? t with
  | some i=>match i.methods.find? (·.name == name) with
   | some m=>match m.path.toList,m.func with
    | [],some (f,false)=>some f
    | _,_=>none
   | none=>none
  | none=>none
def EE (t:TypeId) (z:ad) (ok:Bool) :ad->Option ad
 | .hu gH v=>match Nat.beq gH t with
  | true=>match ok with | true=>some (.bJ [v,.bool true]) | false=>some v
  | false=>match ok with | true=>some (.bJ [z,.bool false]) | false=>none
 | .j9=>match ok with | true=>some (.bJ [z,.bool false]) | false=>none
 | _=>none
def II (P:Program) (t:TypeId) :Option ad:=match P.underlying t with
 | some (.interface _) | none=>none
 | _=>zF P t
def vN (P:Program) (h:a6) (aG:Operand->ad) (c:Call) :Option p2:=
 match c.callee with
 | .builtin b=>p7 P h b c.argTypes.toList (c.args.toList.map aG)
 | .value f=>match aG f with
  | .fn g first gJ=>match P.funcs[g]? with
   | some fn=>if fn.body.isSome/\fn.name≠ "runtime.NumGoroutine" then some (.call g (first++c.args.toList.map aG++gJ) h)
    else if DM fn then (Cs h (first++c.args.toList.map aG++gJ)).map fun v=>.val v h else none
   | none=>none
  | _=>none
 | .invoke x name=>match aG x with
  | .hu t v=>match Bm P t name with
   | some g=>match P.funcs[g]? with
    | some fn=>if fn.body.isSome/\fn.name≠ "runtime.NumGoroutine" then some (.call g (v::c.args.toList.map aG) h) else none
    | none=>none
   | none=>none
  | _=>none
def df (P:Program) (h:a6) (aG:Operand->ad) (op:Op) :Option p2:=
 let v (x:Option ad) :Option p2:=x.map fun y=>.val y h
 let w (x:Option (ad × a6)) :Option p2:=x.map fun y=>.val y.1 y.2
 match op with
 | .move x | .assign x=>some (.val (aG x) h)
 | .pick c a b=>match aG c with | .bool t=>some (.val (if t then aG a else aG b) h) | _=>none
 | .alloc t=>(h5 P t).map fun z=>.val (.ptr h.n 0 z.length) (h.push (.cells z.length z))
 | .box _ x=>(aG x).cells.map fun cs=>.val (.ptr h.n 0 cs.length) (h.push (.cells cs.length cs))
 | .build t parts=>v (Cg P t (parts.toList.map fun p=>(p.1,aG p.2)))
 | .buildSlice t len parts=>w (Fj P h t len (parts.toList.map fun p=>(p.1,aG p.2)))
 | .load t a=>v (tu P h t (aG a))
 | .store t a x=>(BJ P h t (aG a) (aG x)).map fun h'=>.val jg h'
 | .nilCheck x=>match aG x with | .ptr b o s=>some (.val (.ptr b o s) h) | .b0 c o=>some (.val (.b0 c o) h) | .fn f a b=>some (.val (.fn f a b) h) | _=>none
 | .binOp op t x y _=>v (gq P op t (aG x) (aG y))
 | .unOp op _ x=>v (so op (aG x))
 | .convert s d x=>match zU P s d (aG x) with
  | some c=>some (.val c h)
  | none=>v (xZ P h s d (aG x))
 | .makeInterface t x=>match P.underlying t with
  | some (.interface _) | none=>none
  | _=>some (.val (.hu t (aG x)) h)
 | .makeFunc (.func f) first gJ=>some (.val (.fn f (first.toList.map aG) (gJ.toList.map aG)) h)
 | .makeSlice t l c=>w (HQ P h t (aG l) (aG c))
 | .slice t x c0 ax cX=>v (Ey P t (aG x) (c0.map aG) (ax.map aG) (cX.map aG))
 | .fieldAddr s x f=>v (FL P s (aG x) f)
 | .field t x f=>match aG x,x8 P t f with
  | .aI cs,some fd=>v (ij P fd.type cs fd.offset)
  | _,_=>none
 | .indexAddr t x i=>v (DJ P t (aG x) (aG i))
 | .index t x i=>v (Bd P t (aG x) (aG i))
 | .extract x i=>match aG x with | .bJ vs=>v vs[i]? | _=>none
 | .call c=>vN P h aG c
 | .makeMap t r=>match P.underlying t,(match r with | none=>true | some x=>(asInt (aG x)).isSome) with | some (.map _ _),true=>some (.val (.mp h.n) (h.push (.map [] 0))) | _,_=>none
 | .lookup t m k ok=>v (HM P h t (aG m) (aG k) ok)
 | .mapUpdate t m k x | .insert t m k x=>(zc P h t (aG m) (aG k) (aG x)).map fun h'=>.val jg h'
 | .range t x=>w (Io P h t (aG x))
 | .next it true=>w (HY h (aG it))
 | .typeAssert x _ t ok=>match II P t with | some z=>v (EE t z ok (aG x)) | none=>none
 | _=>none
structure M where
 r:Nat
 s:Nat
 T:Nat
abbrev cR:=Nat->Option M
def live:aY->Bool
 | .cells .. | .map .. | .iter ..=>true
 | _=>false
def oQ:aY->Nat
 | .map ..=>1
 | .iter ..=>2
 | _=>0
def mF (h:a6) (μ:cR) (k:Nat) :Prop:=∃ b m,live (h.f b)=true/\μ b=some m/\m.r=k
def vv (h:a6) (b sz:Nat) :Prop:=h.f b=.dead\/∃ n cs,h.f b=.cells n cs/\sz<n
structure Cell (w:World) (R:Nat->Prop) (h:a6) (μ:cR) (b o:Nat) (v:Value) :Prop where
 here:w.cell? ⟨b,o,none⟩=some v
 one:v.oneCell'=true
 ro:R b
 free:¬ mF h μ b
inductive aS (w:World) (R:Nat->Prop) (h:a6) (μ:cR) :ad->Value->Prop where
 | bool (b:Bool) :aS w R h μ (.bool b) (.bool b)
 | int (k:IntKind) (n:Int) :aS w R h μ (.int k n) (.int k n)
 | str (bs:ByteArray) :aS w R h μ (.str bs.data.toList) (.string bs)
 | ka:aS w R h μ .ka (.pointer none)
 | aV:aS w R h μ .aV (.slice none 0 0)
 | iE:aS w R h μ .iE (.map none)
 | j8:aS w R h μ .j8 .nilFunc
 | j9:aS w R h μ .j9 .nilIface
 | aI (cs:List ad) (vs:Array Value) (am:vs.size=cs.length) (h1:∀ (j:Nat) (v:Value),vs[j]? = some v->v.oneCell'=true)
   (aw:∀ (j:Nat) (c:ad) (v:Value),cs[j]? = some c->vs[j]? = some v->aS w R h μ c v) :aS w R h μ (.aI cs) (.agg vs)
 | bJ (cs:List ad) (vs:Array Value) (am:vs.size=cs.length)
   (aw:∀ (j:Nat) (c:ad) (v:Value),cs[j]? = some c->vs[j]? = some v->aS w R h μ c v) :aS w R h μ (.bJ cs) (.tuple vs)
 | ptr (b off sz:Nat) (cs:List ad) (m:M) (ag:h.f b=.cells sz cs) (hm:μ b=some m) :
   aS w R h μ (.ptr b off sz) (.pointer (some ⟨m.r,m.s+off,none⟩))
 | nz (b off sz:Nat) (a:Addr) (ar:vv h b sz) :aS w R h μ (.ptr b off sz) (.pointer (some a))
 | b0 (cs:List ad) (off blk o:Nat) (eI:Nat->Value) (ah:∀ j,j<cs.length->Cell w R h μ blk (o+j) (eI j))
   (aw:∀ (j:Nat) (c:ad),cs[j]? = some c->aS w R h μ c (eI j)) :aS w R h μ (.b0 cs off) (.pointer (some ⟨blk,o+off,none⟩))
 | au (z b off len cap sz cap' : Nat) (cs:List ad) (m:M) (ag:h.f b=.cells sz cs) (hm:μ b=some m) (am:len<=cap) (aq:off+cap*z<=sz)
   (ah:(off+cap*z<sz/\cap'=cap)\/(off+cap*z=sz/\cap<=cap'/\m.s+off+cap'*z<=m.T)) :
   aS w R h μ (.au z b off len cap sz) (.slice (some ⟨m.r,m.s+off,none⟩) len cap')
 | gX (z b off len cap sz cap' : Nat) (a:Addr) (am:len<=cap) (ah:cap<=cap') (ar:vv h b sz) :aS w R h μ (.au z b off len cap sz) (.slice (some a) len cap')
 | ik (z b off sz:Nat) (a:Addr) (cs:List ad) (m:M) (ag:h.f b=.cells sz cs) (hm:μ b=some m) :aS w R h μ (.au z b off 0 0 sz) (.slice (some a) 0 0)
 | cq (z:Nat) (es:List (List ad)) (blk off cap:Nat) (eI:Nat->Nat->Value) (am:es.length<=cap) (av:∀ e,e∈es->e.length=z)
   (ah:∀ i j,i<es.length->j<z->Cell w R h μ blk (off+(i*z+j)) (eI i j))
   (aw:∀ (i:Nat) (e:List ad),es[i]? = some e->∀ (j:Nat) (c:ad),e[j]? = some c->aS w R h μ c (eI i j)) :
   aS w R h μ (.cq z es) (.slice (some ⟨blk,off,none⟩) es.length cap)
 | fY (z:Nat) (a:Addr) (cap:Nat) :aS w R h μ (.cq z []) (.slice (some a) 0 cap)
 | fn (f:FuncId) (first gJ:List ad) (fs cs:Array Value) (aD:fs.size=first.length) (ah:cs.size=gJ.length)
   (h1:∀ (j:Nat) (c:ad) (v:Value),first[j]? = some c->fs[j]? = some v->aS w R h μ c v) (ae:∀ (j:Nat) (c:ad) (v:Value),gJ[j]? = some c->cs[j]? = some v->aS w R h μ c v) :
   aS w R h μ (.fn f first gJ) (.func (.func f) fs cs)
 | mp (b:Nat) (m:M) (ag:oQ (h.f b)=1) (hm:μ b=some m) :aS w R h μ (.mp b) (.map (some m.r))
 | it (b:Nat) (m:M) (ag:oQ (h.f b)=2) (hm:μ b=some m) :aS w R h μ (.it b) (.pointer (some ⟨m.r,0,none⟩))
 | hu (t:TypeId) (c:ad) (v:Value) (aw:aS w R h μ c v) :aS w R h μ (.hu t c) (.iface t v)
 | nf (l:Nat) :aS w R h μ (.nf l) (.func (.yield l) #[] #[])
 | bad (v:Value) :aS w R h μ .bad v
structure Ext0 (w:World) (h:a6) (μ:cR) (w' : World) (h' : a6) (μ' : cR) :Prop where
 os:w'.os=w.os
 tape:w'.tape=w.tape
 output:w'.output=w.output
 size:w.heap.size<=w'.heap.size
 cy:∀ k,k<w.heap.size->¬ mF h μ k->w'.heap[k]? = w.heap[k]?
 own:∀ k,mF h' μ' k->mF h μ k\/w.heap.size<=k
 cells:∀ b sz cs m,h.f b=.cells sz cs->μ b=some m->(∃ cs',h'.f b=.cells sz cs'/\μ' b=some m)\/vv h' b sz
 gone:∀ b sz,vv h b sz->vv h' b sz
 H3:∀ b k m,oQ (h.f b)=k+1->μ b=some m->oQ (h'.f b)=k+1/\μ' b=some m
 n:h.n<=h'.n
 drawn:w.drawn<=w'.drawn:=by first | exact Nat.le_refl _ | exact Nat.le_succ _ | assumption
structure dQ (w:World) (h:a6) (μ:cR) (w' : World) (h' : a6) (μ' : cR) :Prop extends Ext0 w h μ w' h' μ' where
 re:∀ b,b<h.n->μ b=none->μ' b=none
theorem Ext0.refl (w:World) (h:a6) (μ:cR) :Ext0 w h μ w h μ:=
 ⟨rfl,rfl,rfl,Nat.le_refl _,fun _ _ _=>rfl,fun _ h=>.inl h,fun b sz cs m h1 ae=>.inl ⟨cs,h1,ae⟩,fun _ _ h=>h,fun _ _ _ h1 ae=>⟨h1,ae⟩,Nat.le_refl _,Nat.le_refl _⟩
theorem dQ.refl (w:World) (h:a6) (μ:cR) :dQ w h μ w h μ:=⟨.refl w h μ,fun _ _ h=>h⟩
theorem Ext0.trans {w bX w2:World} {h h1 ae:a6} {μ hE su:cR} (a:Ext0 w h μ bX h1 hE) (b:Ext0 bX h1 hE w2 ae su) :Ext0 w h μ w2 ae su:=by
 refine⟨b.os.trans a.os,b.tape.trans a.tape,b.output.trans a.output,Nat.le_trans a.size b.size,?_,?_,?_,fun _ _ ar=>b.gone _ _ (a.gone _ _ ar),?_,Nat.le_trans a.n b.n,Nat.le_trans a.drawn b.drawn⟩
 ·intro k hk aF;rw[b.cy k (Nat.lt_of_lt_of_le hk a.size) (fun aq=>(a.own k aq).elim aF (by omega)),a.cy k hk aF]
 ·intro k hk;rcases b.own k hk with h | h
  ·exact a.own k h
  ·exact .inr (Nat.le_trans a.size h)
 ·intro blk sz cs m ag hm;rcases a.cells blk sz cs m ag hm with ⟨cs',al,aE⟩ | al
  ·exact b.cells blk sz cs' m al aE
  ·exact .inr (b.gone _ _ al)
 ·intro blk k m ag hm;obtain⟨al,aE⟩:=a.H3 blk k m ag hm;exact b.H3 blk k m al aE
theorem dQ.trans {w bX w2:World} {h h1 ae:a6} {μ hE su:cR} (a:dQ w h μ bX h1 hE) (b:dQ bX h1 hE w2 ae su) :dQ w h μ w2 ae su:=
 ⟨a.toExt0.trans b.toExt0,fun blk ag hm=>b.re blk (Nat.lt_of_lt_of_le ag a.n) (a.re blk ag hm)⟩
theorem Cell.ext {w w' : World} {h h' : a6} {μ μ' : cR} {R:Nat->Prop} {b o:Nat} {v:Value} (e:Ext0 w h μ w' h' μ') (c:Cell w R h μ b o v) :Cell w' R h' μ' b o v:=by
 have ag:b<w.heap.size:=World.block_lt_of_cell? _ _ c.here;refine⟨?_,c.one,c.ro,fun aq=>?_⟩
 ·rw[World.cell?_of_block (w:=w) (a:=⟨b,o,none⟩) (e.cy b ag c.free)]; exact c.here
 ·rcases e.own b aq with h1 | h1
  ·exact c.free h1
  ·omega
theorem aS.nR {w w' : World} {h h' : a6} {μ μ' : cR} {R:Nat->Prop} {c:ad} {v:Value} (e:Ext0 w h μ w' h' μ') (aw:aS w R h μ c v) :aS w' R h' μ' c v:=by
 induction aw with
 | bool b=>exact .bool b
 | int k n=>exact .int k n
 | str bs=>exact .str bs
 | ka=>exact .ka
 | aV=>exact .aV
 | iE=>exact .iE
 | j8=>exact .j8
 | j9=>exact .j9
 | aI cs vs am h1 aw aO=>exact .aI cs vs am h1 aO
 | bJ cs vs am aw aO=>exact .bJ cs vs am aO
 | ptr b off sz cs m ag hm=>
  rcases e.cells b sz cs m ag hm with ⟨cs',h1,ae⟩ | h1
  ·exact .ptr b off sz cs' m h1 ae
  ·exact .nz b off sz _ h1
 | nz b off sz a ar=>exact .nz b off sz a (e.gone _ _ ar)
 | b0 cs off blk o eI ah aw aO=>exact .b0 cs off blk o eI (fun j aj=>(ah j aj).ext e) aO
 | au z b off len cap sz cap' cs m ag hm am aq ah=>
  rcases e.cells b sz cs m ag hm with ⟨cs',h1,ae⟩ | h1
  ·exact .au z b off len cap sz cap' cs' m h1 ae am aq ah
  ·exact .gX z b off len cap sz cap' _ am (by omega) h1
 | gX z b off len cap sz cap' a am ah ar=>exact .gX z b off len cap sz cap' a am ah (e.gone _ _ ar)
 | ik z b off sz a cs m ag hm=>
  rcases e.cells b sz cs m ag hm with ⟨cs',h1,ae⟩ | h1
  ·exact .ik z b off sz a cs' m h1 ae
  ·exact .gX z b off 0 0 sz 0 a (Nat.le_refl _) (Nat.le_refl _) h1
 | cq z es blk off cap eI am av ah aw aO=>exact .cq z es blk off cap eI am av (fun i j ax aj=>(ah i j ax aj).ext e) aO
 | fY z a cap=>exact .fY z a cap
 | fn f first gJ fs cs aD ah h1 ae dq ic=>exact .fn f first gJ fs cs aD ah dq ic
 | mp b m ag hm=>
  obtain⟨h1,ae⟩:=e.H3 b 0 m ag hm;exact .mp b m h1 ae
 | it b m ag hm=>
  obtain⟨h1,ae⟩:=e.H3 b 1 m ag hm;exact .it b m h1 ae
 | hu t c v aw aO=>exact .hu t c v aO
 | nf l=>exact .nf l
 | bad v=>exact .bad v
theorem aS.ext {w w' : World} {h h' : a6} {μ μ' : cR} {R:Nat->Prop} {c:ad} {v:Value} (e:dQ w h μ w' h' μ') (aw:aS w R h μ c v) :aS w' R h' μ' c v:=aw.nR e.toExt0
def vt (w:World) (R:Nat->Prop) (h:a6) (μ:cR) (m:M) :aY->Prop
 | .cells sz cs=>cs.length=sz/\m.s+sz<=m.T/\∃ arr e gB,w.heap[m.r]? = some (.cells arr e gB)/\arr.size=m.T/\(gB=(0,0)\/m.T<gB.1) ∧
   ∀ (j:Nat) (c:ad),cs[j]? = some c->∃ v:Value,arr[m.s+j]? = some v/\v.oneCell'=true/\aS w R h μ c v
 | .map es fl=>∃ dH,w.heap[m.r]? = some (.map dH fl)/\dH.size=es.length ∧
   ∀ (j:Nat) (k v:ad) (b:Nat),es[j]? = some (k,v,b)->∃ x:MapEntry,dH[j]? = some x/\aS w R h μ k x.key/\aS w R h μ v x.val/\x.born=b
 | .iter s pos=>∃ bs:ByteArray,bs.data.toList=s/\w.heap[m.r]? = some (.stringIter bs pos)
 | _=>True
theorem vt.ext {w w' : World} {h h' : a6} {μ μ' : cR} {R:Nat->Prop} {m:M} (e:Ext0 w h μ w' h' μ') (hw:w'.heap[m.r]? = w.heap[m.r]?) :
  ∀ {c:aY},vt w R h μ m c->vt w' R h' μ' m c
 | .cells sz cs,⟨h1,ae,arr,t,gB,al,aE,aU,bz⟩=>⟨h1,ae,arr,t,gB,hw.trans al,aE,aU,fun j c aj=>let ⟨v,a,b,d⟩:=bz j c aj; ⟨v,a,b,d.nR e⟩⟩
 | .map es fl,⟨dH,h1,ae,al⟩=>⟨dH,hw.trans h1,ae,fun j k v b aj=>let ⟨x,a,dx,d,f⟩:=al j k v b aj; ⟨x,a,dx.nR e,d.nR e,f⟩⟩
 | .iter s pos,⟨bs,h1,ae⟩=>⟨bs,h1,hw.trans ae⟩
 | .none,_=>trivial
 | .dead,_=>trivial
structure cc (R:Nat->Prop) (B:Nat) (w:World) (h:a6) (μ:cR) :Prop where
 blk:∀ b m,μ b=some m->vt w R h μ m (h.f b)
 inj:∀ b bw m cD,live (h.f b)=true->live (h.f bw)=true->μ b=some m->μ bw=some cD->m.r=cD.r->b=bw
 base:∀ b m,live (h.f b)=true->μ b=some m->B<=m.r
 fresh:∀ b,h.n<=b->h.f b=.none
 up:∀ k,B<=k->R k
 size:B<=w.heap.size
 lT:∀ b,h.n<=b->μ b=none
theorem cc.sK {R:Nat->Prop} {B:Nat} {w:World} {h:a6} {μ:cR} (rel:cc R B w h μ) {b:Nat} {m:M} (hm:μ b=some m) :b<h.n:=by
 rcases Nat.lt_or_ge b h.n with h1 | h1
 ·exact h1
 ·rw[rel.lT b h1] at hm; cases hm
theorem cc.lt {R:Nat->Prop} {B:Nat} {w:World} {h:a6} {μ:cR} (rel:cc R B w h μ) {b:Nat} {m:M} (am:live (h.f b)=true) (hm:μ b=some m) :m.r<w.heap.size:=by
 have ag:=rel.blk b m hm;cases ah:h.f b with
 | none=>rw[ah] at am; cases am
 | dead=>rw[ah] at am; cases am
 | cells sz cs=>
  rw[ah] at ag;obtain⟨_,_,arr,t,gB,al,_⟩:=ag;rcases Nat.lt_or_ge m.r w.heap.size with h | h
  ·exact h
  ·rw[Array.getElem?_eq_none h] at al; cases al
 | map es fl=>
  rw[ah] at ag;obtain⟨dH,al,_⟩:=ag;rcases Nat.lt_or_ge m.r w.heap.size with h | h
  ·exact h
  ·rw[Array.getElem?_eq_none h] at al; cases al
 | iter s pos=>
  rw[ah] at ag;obtain⟨bs,_,al⟩:=ag;rcases Nat.lt_or_ge m.r w.heap.size with h | h
  ·exact h
  ·rw[Array.getElem?_eq_none h] at al; cases al
theorem cc.vo {R:Nat->Prop} {B:Nat} {w w' : World} {h h' : a6} {μ μ' : cR} (rel:cc R B w h μ) (e:Ext0 w h μ w' h' μ') (hF:Nat)
  (qI:∀ b,b≠hF->live (h'.f b)=true->h'.f b=h.f b/\μ' b=μ b/\∀ m,μ b=some m->w'.heap[m.r]? = w.heap[m.r]?)
  (lJ:∀ m,μ' hF=some m->vt w' R h' μ' m (h'.f hF))
  (e2:∀ b m cD,b≠hF->live (h'.f b)=true->live (h'.f hF)=true->μ b=some m->μ' hF=some cD->m.r≠cD.r)
  (Gr:∀ m,live (h'.f hF)=true->μ' hF=some m->B<=m.r)
  (ac4:∀ b,h'.n<=b->h'.f b=.none) (adO:∀ b,h'.n<=b->μ' b=none) :cc R B w' h' μ':=by
 refine⟨?_,?_,?_,ac4,rel.up,Nat.le_trans rel.size e.size,adO⟩
 ·intro b m hm;by_cases ag:b=hF
  ·subst ag; exact lJ m hm
  ·cases am:live (h'.f b) with
   | false=>cases ah:h'.f b<;>first | trivial | (rw[ah] at am; cases am)
   | true=>
    obtain⟨h1,ae,al⟩:=qI b ag am;rw[ae] at hm;rw[h1];exact (rel.blk b m hm).ext e (al m hm)
 ·intro b bw m cD am dp hm b9 aA;by_cases ag:b=hF<;>by_cases bS:bw=hF
  ·rw[ag,bS]
  ·subst ag;obtain⟨h1,ae,al⟩:=qI bw bS dp;rw[ae] at b9;exact absurd aA.symm (e2 bw cD m bS dp am b9 hm)
  ·subst bS;obtain⟨h1,ae,al⟩:=qI b ag am;rw[ae] at hm;exact absurd aA (e2 b m cD ag am dp hm b9)
  ·obtain⟨h1,ae,_⟩:=qI b ag am;obtain⟨al,aE,_⟩:=qI bw bS dp;rw[h1] at am; rw[ae] at hm; rw[al] at dp; rw[aE] at b9;exact rel.inj b bw m cD am dp hm b9 aA
 ·intro b m am hm;by_cases ag:b=hF
  ·subst ag; exact Gr m am hm
  ·obtain⟨h1,ae,_⟩:=qI b ag am;rw[h1] at am; rw[ae] at hm;exact rel.base b m am hm
theorem cc.push {R:Nat->Prop} {B:Nat} {w w' : World} {h:a6} {μ:cR} (rel:cc R B w h μ) (cs:List ad) (arr:Array Value) (t:TypeId)
  (qH:w'.os=w.os) (uR:w'.tape=w.tape) (i8:w'.output=w.output) (kN:w'.heap=w.heap.push (.cells arr t (0,0)))
  (ht:cs.length<=arr.size) (aw:∀ (j:Nat) (c:ad),cs[j]? = some c->∃ v:Value,arr[j]? = some v/\v.oneCell'=true/\aS w R h μ c v) (rN:w.drawn<=w'.drawn:=by first | exact Nat.le_refl _ | exact Nat.le_succ _ | assumption) :
  dQ w h μ w' (h.push (.cells cs.length cs)) (bY μ h.n (some ⟨w.heap.size,0,arr.size⟩)) ∧
  cc R B w' (h.push (.cells cs.length cs)) (bY μ h.n (some ⟨w.heap.size,0,arr.size⟩)) :=by
 have aF:h.f h.n=.none:=rel.fresh _ (Nat.le_refl _);have e:dQ w h μ w' (h.push (.cells cs.length cs)) (bY μ h.n (some ⟨w.heap.size,0,arr.size⟩)) :=by
  refine⟨⟨qH,uR,i8,by simp[kN],?_,?_,?_,?_,?_,?_,rN⟩,?_⟩
  ·intro k hk _;rw[kN,Array.getElem?_push,if_neg (by omega)]
  ·rintro k ⟨b,m,am,hm,rfl⟩;by_cases ag:b=h.n
   ·subst ag; simp at hm; subst hm; exact .inr (Nat.le_refl _)
   ·rw[cp _ _ _ _ ag] at hm;simp only[eH,fL,cp _ _ _ _ ag] at am;exact .inl ⟨b,m,am,hm,rfl⟩
  ·intro b sz cs' m ag hm;have:b≠h.n:=fun aH=>by rw[aH,aF] at ag; cases ag
   exact .inl ⟨cs',by simp only[eH,fL,cp _ _ _ _ this]; exact ag,by rw[cp _ _ _ _ this]; exact hm⟩
  ·rintro b sz (ag | ⟨n,cs',ag,aM⟩)
   ·have:b≠h.n:=fun aH=>by rw[aH,aF] at ag; cases ag
    exact .inl (by simp only[eH,fL,cp _ _ _ _ this]; exact ag)
   ·have:b≠h.n:=fun aH=>by rw[aH,aF] at ag; cases ag
    exact .inr ⟨n,cs',by simp only[eH,fL,cp _ _ _ _ this]; exact ag,aM⟩
  ·intro b k m ag hm;have:b≠h.n:=fun aH=>by rw[aH,aF] at ag; cases ag
   exact⟨by simp only[eH,fL,cp _ _ _ _ this]; exact ag,by rw[cp _ _ _ _ this]; exact hm⟩
  ·simp[eH,fL]
  ·intro b ag hm;rw[cp _ _ _ _ (by omega)]; exact hm
 refine⟨e,rel.vo e.toExt0 h.n ?_ ?_ ?_ ?_ ?_ ?_⟩
 ·intro b ag am;simp only[eH,fL,cp _ _ _ _ ag] at am ⊢;exact⟨trivial,trivial,fun m hm=>by rw[kN,Array.getElem?_push,if_neg (by have:=rel.lt am hm; omega)]⟩
 ·intro m hm;simp at hm; subst hm;simp only[eH,fL,kL];refine⟨rfl,by simpa using ht,arr,t,(0,0),by simp[kN],rfl,.inl rfl,fun j c aj=>?_⟩;obtain⟨v,h1,ae,al⟩:=aw j c aj;exact⟨v,by simpa using h1,ae,al.ext e⟩
 ·intro b m cD ag am _ hm b9;simp only[eH,fL,cp _ _ _ _ ag] at am;simp at b9; subst b9;have:=rel.lt am hm;simp only[ne_eq]; omega
 ·intro m _ hm;simp at hm; subst hm;exact rel.size
 ·intro b ag;simp only[eH,fL] at ag ⊢;rw[cp _ _ _ _ (by omega)];exact rel.fresh b (by omega)
 ·intro b ag;simp only[eH,fL] at ag;rw[cp _ _ _ _ (by omega)];exact rel.lT b (by omega)
theorem cc.same {R:Nat->Prop} {B:Nat} {w:World} {h h' : a6} {μ:cR} (rel:cc R B w h μ) (aD:h'.f=h.f) (aF:h'.n=h.n) :dQ w h μ w h' μ/\cc R B w h' μ:=by
 have e:dQ w h μ w h' μ:=by
  refine⟨⟨rfl,rfl,rfl,Nat.le_refl _,fun _ _ _=>rfl,?_,?_,?_,?_,by omega,Nat.le_refl _⟩,fun _ _ hm=>hm⟩
  ·rintro k ⟨bw,cD,dp,b9,rfl⟩;rw[aD] at dp; exact .inl ⟨bw,cD,dp,b9,rfl⟩
  ·intro bw sz' cs' cD bS b9;exact .inl ⟨cs',by rw[aD]; exact bS,b9⟩
  ·intro bw sz' ar;unfold vv at ar ⊢; rw[aD]; exact ar
  ·intro bw k' cD bS b9;exact⟨by rw[aD]; exact bS,b9⟩
 refine⟨e,rel.vo e.toExt0 h.n (fun b _ _=>⟨by rw[aD],rfl,fun _ _=>rfl⟩) (fun m hm=>?_) (fun b m cD _ _ _ _ hm=>?_) (fun m _ hm=>?_) (fun b ag=>by rw[aD]; exact rel.fresh b (by omega)) (by rw[aF]; exact rel.lT)⟩
 all_goals (rw[rel.lT h.n (Nat.le_refl _)] at hm; cases hm)
theorem cc.kill {R:Nat->Prop} {B:Nat} {w:World} {h h' : a6} {μ:cR} (rel:cc R B w h μ) {b sz:Nat} {cs:List ad} (ag:h.f b=.cells sz cs) (po:b<h.n)
  (aD:h'.f=bY h.f b .dead) (aF:h'.n=h.n) :dQ w h μ w h' μ/\cc R B w h' μ:=by
 have e:dQ w h μ w h' μ:=by
  refine⟨⟨rfl,rfl,rfl,Nat.le_refl _,fun _ _ _=>rfl,?_,?_,?_,?_,by omega,Nat.le_refl _⟩,fun _ _ hm=>hm⟩
  ·rintro k ⟨bw,cD,dp,b9,rfl⟩;rw[aD] at dp;by_cases ca:bw=b
   ·subst ca; simp[live] at dp
   ·rw[cp _ _ _ _ ca] at dp; exact .inl ⟨bw,cD,dp,b9,rfl⟩
  ·intro bw sz' cs' cD bS b9;by_cases ca:bw=b
   ·subst ca; exact .inr (.inl (by rw[aD]; simp))
   ·exact .inl ⟨cs',by rw[aD,cp _ _ _ _ ca]; exact bS,b9⟩
  ·rintro bw sz' ar;by_cases ca:bw=b
   ·subst ca; exact .inl (by rw[aD]; simp)
   ·rcases ar with ar | ⟨n,cs',ar,aM⟩
    ·exact .inl (by rw[aD,cp _ _ _ _ ca]; exact ar)
    ·exact .inr ⟨n,cs',by rw[aD,cp _ _ _ _ ca]; exact ar,aM⟩
  ·intro bw k' cD bS b9;by_cases ca:bw=b
   ·subst ca; rw[ag] at bS; cases bS
   ·exact⟨by rw[aD,cp _ _ _ _ ca]; exact bS,b9⟩
 refine⟨e,rel.vo e.toExt0 b ?_ ?_ ?_ ?_ ?_ (by rw[aF]; exact rel.lT)⟩
 ·intro bw ca am;rw[aD,cp _ _ _ _ ca];exact⟨rfl,rfl,fun _ _=>rfl⟩
 ·intro m _;rw[aD]; simp[vt]
 ·intro bw m cD _ _ am;rw[aD] at am; simp[live] at am
 ·intro m am;rw[aD] at am; simp[live] at am
 ·intro bw bS;rw[aD,cp _ _ _ _ (by omega)];exact rel.fresh bw (by omega)
theorem cc.V1 {R:Nat->Prop} {B:Nat} {w:World} {h h' : a6} {μ:cR} (rel:cc R B w h μ) {b sz off:Nat} {cs:List ad} {m:M} (ag:h.f b=.cells sz cs) (hm:μ b=some m) (aq:off<=sz)
  (aD:h'.f=bY (bY h.f b .dead) h.n (.cells (sz - off) (cs.drop off))) (aF:h'.n=h.n+1) :
  dQ w h μ w h' (bY μ h.n (some ⟨m.r,m.s+off,m.T⟩))/\cc R B w h' (bY μ h.n (some ⟨m.r,m.s+off,m.T⟩)) :=by
 have po:=rel.sK hm;have yK:h.f h.n=.none:=rel.fresh _ (Nat.le_refl _);have lO:live (h.f b)=true:=by rw[ag]; rfl
 have e:dQ w h μ w h' (bY μ h.n (some ⟨m.r,m.s+off,m.T⟩)) :=by
  refine⟨⟨rfl,rfl,rfl,Nat.le_refl _,fun _ _ _=>rfl,?_,?_,?_,?_,by omega,Nat.le_refl _⟩,fun bw bS b9=>by rw[cp _ _ _ _ (by omega)]; exact b9⟩
  ·rintro k ⟨bw,cD,dp,b9,rfl⟩;rw[aD] at dp;by_cases k7:bw=h.n
   ·subst k7; simp at b9; subst b9; exact .inl ⟨b,m,lO,hm,rfl⟩
   ·rw[cp _ _ _ _ k7] at dp b9;by_cases ca:bw=b
    ·subst ca; simp[live] at dp
    ·rw[cp _ _ _ _ ca] at dp; exact .inl ⟨bw,cD,dp,b9,rfl⟩
  ·intro bw sz' cs' cD bS b9;have k7:bw≠h.n:=fun aH=>by rw[aH,yK] at bS; cases bS
   by_cases ca:bw=b
   ·subst ca; exact .inr (.inl (by rw[aD,cp _ _ _ _ k7]; simp))
   ·exact .inl ⟨cs',by rw[aD,cp _ _ _ _ k7,cp _ _ _ _ ca]; exact bS,by rw[cp _ _ _ _ k7]; exact b9⟩
  ·rintro bw sz' ar;have k7:bw≠h.n:=fun aH=>by
    subst aH;rcases ar with ar | ⟨n,cs',ar,_⟩
    ·rw[yK] at ar; cases ar
    ·rw[yK] at ar; cases ar
   by_cases ca:bw=b
   ·subst ca; exact .inl (by rw[aD,cp _ _ _ _ k7]; simp)
   ·rcases ar with ar | ⟨n,cs',ar,aM⟩
    ·exact .inl (by rw[aD,cp _ _ _ _ k7,cp _ _ _ _ ca]; exact ar)
    ·exact .inr ⟨n,cs',by rw[aD,cp _ _ _ _ k7,cp _ _ _ _ ca]; exact ar,aM⟩
  ·intro bw k' cD bS b9;have k7:bw≠h.n:=fun aH=>by rw[aH,yK] at bS; cases bS
   by_cases ca:bw=b
   ·subst ca; rw[ag] at bS; cases bS
   ·exact⟨by rw[aD,cp _ _ _ _ k7,cp _ _ _ _ ca]; exact bS,by rw[cp _ _ _ _ k7]; exact b9⟩
 have qI:∀ bw,bw≠h.n->live (h'.f bw)=true->bw≠b/\h'.f bw=h.f bw:=fun bw k7 am=>by
  rw[aD,cp _ _ _ _ k7] at am ⊢;by_cases ca:bw=b
  ·subst ca; simp[live] at am
  ·exact⟨ca,by rw[cp _ _ _ _ ca]⟩
 refine⟨e,rel.vo e.toExt0 h.n ?_ ?_ ?_ ?_ ?_ ?_⟩
 ·intro bw k7 am;exact⟨(qI bw k7 am).2,by rw[cp _ _ _ _ k7],fun _ _=>rfl⟩
 ·intro cD b9;simp at b9; subst b9;rw[aD,kL];have eX:=rel.blk b m hm;rw[ag] at eX;obtain⟨h1,ae,arr,t,gB,al,aE,aU,bz⟩:=eX;refine⟨by simp; omega,by simp only; omega,arr,t,gB,al,aE,aU,fun j c aj=>?_⟩;rw[List.getElem?_drop] at aj;obtain⟨v,aX,bg,a3⟩:=bz (off+j) c aj;exact⟨v,by simp only; rw[Nat.add_assoc]; exact aX,bg,a3.ext e⟩
 ·intro bw g9 lk k7 am _ h1 ae aH;simp at ae; subst ae;obtain⟨ca,gk⟩:=qI bw k7 am;rw[gk] at am;exact ca (rel.inj bw b g9 m am lO h1 hm aH)
 ·intro cD _ b9;simp at b9; subst b9;exact rel.base b m lO hm
 ·intro bw bS;rw[aD,cp _ _ _ _ (by omega),cp _ _ _ _ (by omega)];exact rel.fresh bw (by omega)
 ·intro bw bS;rw[cp _ _ _ _ (by omega)];exact rel.lT bw (by omega)
theorem cc.Vp {R:Nat->Prop} {B:Nat} {w w' : World} {h:a6} {μ:cR} (rel:cc R B w h μ) (c:aY) (o:Obj) {k:Nat} (hk:oQ c=k+1)
  (qH:w'.os=w.os) (uR:w'.tape=w.tape) (i8:w'.output=w.output) (kN:w'.heap=w.heap.push o)
  (da:vt w' R (h.push c) (bY μ h.n (some ⟨w.heap.size,0,0⟩)) ⟨w.heap.size,0,0⟩ c) (rN:w.drawn<=w'.drawn:=by first | exact Nat.le_refl _ | exact Nat.le_succ _ | assumption) :
  dQ w h μ w' (h.push c) (bY μ h.n (some ⟨w.heap.size,0,0⟩))/\cc R B w' (h.push c) (bY μ h.n (some ⟨w.heap.size,0,0⟩)) :=by
 have aF:h.f h.n=.none:=rel.fresh _ (Nat.le_refl _);have an5:oQ aY.none=0:=rfl;have e:dQ w h μ w' (h.push c) (bY μ h.n (some ⟨w.heap.size,0,0⟩)) :=by
  refine⟨⟨qH,uR,i8,by simp[kN],?_,?_,?_,?_,?_,?_,rN⟩,?_⟩
  ·intro k hk _;rw[kN,Array.getElem?_push,if_neg (by omega)]
  ·rintro k ⟨b,m,am,hm,rfl⟩;by_cases ag:b=h.n
   ·subst ag; simp at hm; subst hm; exact .inr (Nat.le_refl _)
   ·rw[cp _ _ _ _ ag] at hm;simp only[eH,fL,cp _ _ _ _ ag] at am;exact .inl ⟨b,m,am,hm,rfl⟩
  ·intro b sz cs' m ag hm;have:b≠h.n:=fun aH=>by rw[aH,aF] at ag; cases ag
   exact .inl ⟨cs',by simp only[eH,fL,cp _ _ _ _ this]; exact ag,by rw[cp _ _ _ _ this]; exact hm⟩
  ·rintro b sz (ag | ⟨n,cs',ag,aM⟩)
   ·have:b≠h.n:=fun aH=>by rw[aH,aF] at ag; cases ag
    exact .inl (by simp only[eH,fL,cp _ _ _ _ this]; exact ag)
   ·have:b≠h.n:=fun aH=>by rw[aH,aF] at ag; cases ag
    exact .inr ⟨n,cs',by simp only[eH,fL,cp _ _ _ _ this]; exact ag,aM⟩
  ·intro b k m ag hm;have:b≠h.n:=fun aH=>by rw[aH,aF] at ag; cases ag
   exact⟨by simp only[eH,fL,cp _ _ _ _ this]; exact ag,by rw[cp _ _ _ _ this]; exact hm⟩
  ·simp[eH,fL]
  ·intro b ag hm;rw[cp _ _ _ _ (by omega)]; exact hm
 refine⟨e,rel.vo e.toExt0 h.n ?_ ?_ ?_ ?_ ?_ ?_⟩
 ·intro b ag am;simp only[eH,fL,cp _ _ _ _ ag] at am ⊢;exact⟨trivial,trivial,fun m hm=>by rw[kN,Array.getElem?_push,if_neg (by have:=rel.lt am hm; omega)]⟩
 ·intro m hm;simp at hm; subst hm;simp only[eH,fL,kL];exact da
 ·intro b m cD ag am _ hm b9;simp only[eH,fL,cp _ _ _ _ ag] at am;simp at b9; subst b9;have:=rel.lt am hm;simp only[ne_eq]; omega
 ·intro m _ hm;simp at hm; subst hm;exact rel.size
 ·intro b ag;simp only[eH,fL] at ag ⊢;rw[cp _ _ _ _ (by omega)];exact rel.fresh b (by omega)
 ·intro b ag;simp only[eH,fL] at ag ⊢;rw[cp _ _ _ _ (by omega)];exact rel.lT b (by omega)
theorem cc.eS {R:Nat->Prop} {B:Nat} {w w' : World} {h:a6} {μ:cR} (rel:cc R B w h μ) {b k:Nat} {c c' : aY} {m:M}
  (ag:h.f b=c) (hk:oQ c=k+1) (e9:oQ c'=k+1) (hm:μ b=some m)
  (qH:w'.os=w.os) (uR:w'.tape=w.tape) (i8:w'.output=w.output) (y0:w'.heap.size=w.heap.size) (DB:∀ k,k≠m.r->w'.heap[k]? = w.heap[k]?)
  (da:Ext0 w h μ w' (h.set b c') μ->vt w' R (h.set b c') μ m c') (rN:w.drawn<=w'.drawn:=by first | exact Nat.le_refl _ | exact Nat.le_succ _ | assumption) :
  dQ w h μ w' (h.set b c') μ/\cc R B w' (h.set b c') μ:=by
 have lO:live (h.f b)=true:=by rw[ag]; cases c<;>simp[oQ] at hk<;>rfl
 have aoa:live c'=true:=by cases c'<;>simp[oQ] at e9<;>rfl
 have GZ:∀ sz cs,h.f b≠.cells sz cs:=fun sz cs aH=>by rw[ag] at aH; subst aH; simp[oQ] at hk
 have yI:h.f b≠.dead:=fun aH=>by rw[ag] at aH; subst aH; simp[oQ] at hk
 have e:dQ w h μ w' (h.set b c') μ:=by
  refine⟨⟨qH,uR,i8,Nat.le_of_eq y0.symm,?_,?_,?_,?_,?_,Nat.le_refl _,rN⟩,fun _ _ hm=>hm⟩
  ·intro k hk aF;exact DB k (fun aH=>aF ⟨b,m,lO,hm,aH.symm⟩)
  ·rintro k ⟨bw,cD,dp,b9,rfl⟩;by_cases ca:bw=b
   ·subst ca; exact .inl ⟨bw,cD,lO,b9,rfl⟩
   ·simp only[ed,cp _ _ _ _ ca] at dp;exact .inl ⟨bw,cD,dp,b9,rfl⟩
  ·intro bw sz cs cD bS b9;have ca:bw≠b:=fun aH=>by subst aH; exact GZ _ _ bS
   exact .inl ⟨cs,by simp only[ed,cp _ _ _ _ ca]; exact bS,b9⟩
  ·rintro bw sz (ar | ⟨n,cs',ar,aM⟩)
   ·have ca:bw≠b:=fun aH=>by subst aH; exact yI ar
    exact .inl (by simp only[ed,cp _ _ _ _ ca]; exact ar)
   ·have ca:bw≠b:=fun aH=>by subst aH; exact GZ _ _ ar
    exact .inr ⟨n,cs',by simp only[ed,cp _ _ _ _ ca]; exact ar,aM⟩
  ·intro bw k' cD bS b9;by_cases ca:bw=b
   ·subst ca;refine⟨?_,b9⟩;simp only[ed,kL];rw[ag,hk] at bS;rw[e9]; exact bS
   ·exact⟨by simp only[ed,cp _ _ _ _ ca]; exact bS,b9⟩
 refine⟨e,rel.vo e.toExt0 b ?_ ?_ ?_ ?_ ?_ rel.lT⟩
 ·intro bw ca am;simp only[ed,cp _ _ _ _ ca] at am ⊢;exact⟨trivial,trivial,fun cD b9=>DB _ (fun aH=>ca (rel.inj bw b cD m am lO b9 hm aH))⟩
 ·intro cD b9;rw[hm] at b9; cases b9;simp only[ed,kL];exact da e.toExt0
 ·intro bw g9 lk ca am _ h1 ae aH;rw[hm] at ae; cases ae;simp only[ed,cp _ _ _ _ ca] at am;exact ca (rel.inj bw b g9 m am lO h1 hm aH)
 ·intro cD _ b9;rw[hm] at b9; cases b9;exact rel.base b m lO hm
 ·intro bw bS;by_cases ca:bw=b
  ·subst ca;have:=rel.sK hm;simp only[fa] at bS; omega
  ·simp only[ed,cp _ _ _ _ ca]; exact rel.fresh bw bS
theorem cc.write {R:Nat->Prop} {B:Nat} {w w' : World} {h:a6} {μ:cR} (rel:cc R B w h μ) {b sz sz' : Nat} {cs cs' : List ad} {m:M} {arr arr' : Array Value} {t:TypeId} {gB:Nat × Nat}
  (ag:h.f b=.cells sz cs) (hm:μ b=some m) (aA:w.heap[m.r]? = some (.cells arr t gB)) (cM:arr.size=m.T) (mW:gB=(0,0)\/m.T<gB.1)
  (qH:w'.os=w.os) (uR:w'.tape=w.tape) (i8:w'.output=w.output) (y0:w'.heap.size=w.heap.size)
  (DC:w'.heap[m.r]? = some (.cells arr' t gB)) (DB:∀ k,k≠m.r->w'.heap[k]? = w.heap[k]?) (az:arr'.size=arr.size)
  (am:cs'.length=sz') (qy:sz<=sz') (e8:m.s+sz'<=m.T)
  (aw:∀ (j:Nat) (c:ad),cs'[j]? = some c->∃ v:Value,arr'[m.s+j]? = some v/\v.oneCell'=true/\aS w R h μ c v) (rN:w.drawn<=w'.drawn:=by first | exact Nat.le_refl _ | exact Nat.le_succ _ | assumption) :
  dQ w h μ w' (h.set b (.cells sz' cs')) μ/\cc R B w' (h.set b (.cells sz' cs')) μ:=by
 have lO:live (h.f b)=true:=by rw[ag]; rfl
 have e:dQ w h μ w' (h.set b (.cells sz' cs')) μ:=by
  refine⟨⟨qH,uR,i8,Nat.le_of_eq y0.symm,?_,?_,?_,?_,?_,Nat.le_refl _,rN⟩,fun _ _ hm=>hm⟩
  ·intro k hk aF;exact DB k (fun aH=>aF ⟨b,m,lO,hm,aH.symm⟩)
  ·rintro k ⟨bw,cD,dp,b9,rfl⟩;by_cases ca:bw=b
   ·subst ca; exact .inl ⟨bw,cD,lO,b9,rfl⟩
   ·simp only[ed,fa,cp _ _ _ _ ca] at dp;exact .inl ⟨bw,cD,dp,b9,rfl⟩
  ·intro bw ajN oA cD bS b9;by_cases ca:bw=b
   ·subst ca;rw[ag] at bS; cases bS;by_cases ak:sz'=sz
    ·exact .inl ⟨cs',by simp[ed,fa,ak],b9⟩
    ·exact .inr (.inr ⟨sz',cs',by simp[ed,fa],by omega⟩)
   ·exact .inl ⟨oA,by simp only[ed,fa,cp _ _ _ _ ca]; exact bS,b9⟩
  ·rintro bw s0 (bS | ⟨n,oA,bS,aM⟩)
   ·have ca:bw≠b:=fun aH=>by rw[aH,ag] at bS; cases bS
    exact .inl (by simp only[ed,fa,cp _ _ _ _ ca]; exact bS)
   ·by_cases ca:bw=b
    ·subst ca;rw[ag] at bS; cases bS;exact .inr ⟨sz',cs',by simp[ed,fa],by omega⟩
    ·exact .inr ⟨n,oA,by simp only[ed,fa,cp _ _ _ _ ca]; exact bS,aM⟩
  ·intro bw k cD bS b9;have ca:bw≠b:=fun aH=>by rw[aH,ag] at bS; cases bS
   exact⟨by simp only[ed,fa,cp _ _ _ _ ca]; exact bS,b9⟩
 refine⟨e,rel.vo e.toExt0 b ?_ ?_ ?_ ?_ ?_ ?_⟩
 ·intro bw ca dp;simp only[ed,fa,cp _ _ _ _ ca] at dp ⊢;exact⟨trivial,trivial,fun cD b9=>DB _ (fun aH=>ca (rel.inj bw b cD m dp lO b9 hm aH))⟩
 ·intro cD b9;rw[hm] at b9; cases b9;simp only[ed,fa,kL];refine⟨am,e8,arr',t,gB,DC,az.trans cM,mW,fun j c aj=>?_⟩;obtain⟨v,h1,ae,al⟩:=aw j c aj;exact⟨v,h1,ae,al.ext e⟩
 ·intro bw cD agc ca dp _ b9 Dk aH;rw[hm] at Dk; cases Dk;simp only[ed,fa,cp _ _ _ _ ca] at dp;exact ca (rel.inj bw b cD m dp lO b9 hm aH)
 ·intro cD _ b9;exact rel.base b cD lO b9
 ·intro bw bS;simp only[ed,fa] at bS ⊢;have ca:bw≠b:=fun aH=>by
   have:=rel.fresh bw bS;rw[aH,ag] at this; cases this
  rw[cp _ _ _ _ ca];exact rel.fresh bw bS
 ·intro bw bS;exact rel.lT bw bS
theorem cc.move {R:Nat->Prop} {B:Nat} {w w' : World} {h:a6} {μ:cR} (rel:cc R B w h μ) {b sz sz' : Nat} {cs cs' : List ad} {m:M} {arr:Array Value} {t:TypeId}
  (ag:h.f b=.cells sz cs) (hm:μ b=some m)
  (qH:w'.os=w.os) (uR:w'.tape=w.tape) (i8:w'.output=w.output) (kN:w'.heap=w.heap.push (.cells arr t (0,0)))
  (am:cs'.length=sz') (qy:sz<sz') (e8:sz'<=arr.size)
  (aw:∀ (j:Nat) (c:ad),cs'[j]? = some c->∃ v:Value,arr[j]? = some v/\v.oneCell'=true/\aS w R h μ c v) (rN:w.drawn<=w'.drawn:=by first | exact Nat.le_refl _ | exact Nat.le_succ _ | assumption) :
  dQ w h μ w' (h.set b (.cells sz' cs')) (bY μ b (some ⟨w.heap.size,0,arr.size⟩))/\cc R B w' (h.set b (.cells sz' cs')) (bY μ b (some ⟨w.heap.size,0,arr.size⟩)) :=by
 have lO:live (h.f b)=true:=by rw[ag]; rfl
 have e:dQ w h μ w' (h.set b (.cells sz' cs')) (bY μ b (some ⟨w.heap.size,0,arr.size⟩)) :=by
  refine⟨⟨qH,uR,i8,by simp[kN],?_,?_,?_,?_,?_,Nat.le_refl _,rN⟩,?_⟩
  ·intro k hk aF;rw[kN,Array.getElem?_push,if_neg (by omega)]
  ·rintro k ⟨bw,cD,dp,b9,rfl⟩;by_cases ca:bw=b
   ·subst ca; simp at b9; subst b9; exact .inr (Nat.le_refl _)
   ·rw[cp _ _ _ _ ca] at b9;simp only[ed,fa,cp _ _ _ _ ca] at dp;exact .inl ⟨bw,cD,dp,b9,rfl⟩
  ·intro bw ajN oA cD bS b9;by_cases ca:bw=b
   ·subst ca;rw[ag] at bS; cases bS;exact .inr (.inr ⟨sz',cs',by simp[ed,fa],by omega⟩)
   ·exact .inl ⟨oA,by simp only[ed,fa,cp _ _ _ _ ca]; exact bS,by rw[cp _ _ _ _ ca]; exact b9⟩
  ·rintro bw s0 (bS | ⟨n,oA,bS,aM⟩)
   ·have ca:bw≠b:=fun aH=>by rw[aH,ag] at bS; cases bS
    exact .inl (by simp only[ed,fa,cp _ _ _ _ ca]; exact bS)
   ·by_cases ca:bw=b
    ·subst ca;rw[ag] at bS; cases bS;exact .inr ⟨sz',cs',by simp[ed,fa],by omega⟩
    ·exact .inr ⟨n,oA,by simp only[ed,fa,cp _ _ _ _ ca]; exact bS,aM⟩
  ·intro bw k cD bS b9;have ca:bw≠b:=fun aH=>by rw[aH,ag] at bS; cases bS
   exact⟨by simp only[ed,fa,cp _ _ _ _ ca]; exact bS,by rw[cp _ _ _ _ ca]; exact b9⟩
  ·intro bw _ b9;have ca:bw≠b:=fun aH=>by rw[aH,hm] at b9; cases b9
   rw[cp _ _ _ _ ca]; exact b9
 refine⟨e,rel.vo e.toExt0 b ?_ ?_ ?_ ?_ ?_ ?_⟩
 ·intro bw ca dp;simp only[ed,fa,cp _ _ _ _ ca] at dp ⊢;exact⟨trivial,trivial,fun cD b9=>by rw[kN,Array.getElem?_push,if_neg (by have:=rel.lt dp b9; omega)]⟩
 ·intro cD b9;simp at b9; subst b9;simp only[ed,fa,kL];refine⟨am,by simpa using e8,arr,t,(0,0),by simp[kN],rfl,.inl rfl,fun j c aj=>?_⟩;obtain⟨v,h1,ae,al⟩:=aw j c aj;exact⟨v,by simpa using h1,ae,al.ext e⟩
 ·intro bw cD agc ca dp _ b9 Dk;simp only[ed,fa,cp _ _ _ _ ca] at dp;simp at Dk; subst Dk;have:=rel.lt dp b9;simp only[ne_eq]; omega
 ·intro cD _ b9;simp at b9; subst b9;exact rel.size
 ·intro bw bS;simp only[ed,fa] at bS ⊢;have ca:bw≠b:=fun aH=>by
   have:=rel.fresh bw bS;rw[aH,ag] at this; cases this
  rw[cp _ _ _ _ ca];exact rel.fresh bw bS
 ·intro bw bS;simp only[ed,fa] at bS;have ca:bw≠b:=fun aH=>by
   have:=rel.sK hm;omega
  rw[cp _ _ _ _ ca];exact rel.lT bw bS
section
variable {P:Program} {w:World} {R:Nat->Prop} {B:Nat} {h:a6} {μ:cR}
def Good (R:Nat->Prop) (B:Nat) (w:World) (h:a6) (μ:cR) (r:Result Next) (c:ad) (h' : a6) :Prop:=
 ∃ v w' μ',(r=.ok (.value v) w'\/(r=.ok .skip w'/\v=undef))/\dQ w h μ w' h' μ'/\cc R B w' h' μ'/\aS w' R h' μ' c v
theorem Good.pure (rel:cc R B w h μ) {r:Result Next} {c:ad} {v:Value} (aA:r=.ok (.value v) w) (aw:aS w R h μ c v) :Good R B w h μ r c h:=
 ⟨v,w,μ,.inl aA,.refl _ _ _,rel,aw⟩
theorem cF {t:TypeId} {d:TypeDesc} (bN:P.underlying t=some d) :(underlying t).run P w=.ok d w:=by
 simp[underlying,bN]
theorem Ix {t:TypeId} {b:Bool} (ag:eA P t=some b) :(isAgg t).run P w=.ok b w:=by
 unfold eA at ag;cases bN:P.underlying t with
 | none=>rw[bN] at ag; cases ag
 | some d=>
  rw[bN] at ag;simp only[Option.map_some,Option.some.injEq] at ag;unfold isAgg;simp only[Sem.run_bind,cF bN,Result.andThen_ok];cases d<;>simp_all
theorem ae3 {t:TypeId} {n:Nat} (aF:cG P t=some n) :∃ i,P.info? t=some i/\i.size=n:=by
 unfold cG at aF;cases ax:P.info? t with
 | none=>rw[ax] at aF; cases aF
 | some i=>rw[ax] at aF; exact⟨i,rfl,by simpa using aF⟩
theorem fT {t:TypeId} {n:Nat} (aF:cG P t=some n) :(sizeOf t).run P w=.ok n w:=by
 obtain⟨i,ax,ak⟩:=ae3 aF;simp[sizeOf,typeInfo,ax,ak]
theorem alu {t:TypeId} {z:List ad} (av:h5 P t=some z) :∃ i v,P.info? t=some i/\i.zero=some v/\v.cells.toList.all Value.oneCell'=true/\z=v.cells.toList.map pJ:=by
 unfold h5 at av;cases ax:P.info? t with
 | none=>rw[ax] at av; cases av
 | some i=>
  rw[ax] at av;simp only[Option.bind_some] at av;cases aw:i.zero with
  | none=>rw[aw] at av; cases av
  | some v=>
   rw[aw] at av;simp only[Option.bind_some] at av;split at av
   ·rename_i h1;exact⟨i,v,rfl,aw,h1,by simpa using av.symm⟩
   ·cases av
theorem Wj {t:TypeId} {i:TypeInfo} {v:Value} (ax:P.info? t=some i) (aw:i.zero=some v) :(zeroValue t).run P w=.ok v w:=by
 simp[zeroValue,typeInfo,ax,aw]
theorem aS.pJ (v:Value) :aS w R h μ (pJ v) v:=by
 cases v with
 | bool b=>exact .bool _
 | int k n=>exact .int _ _
 | string s=>exact .str _
 | pointer a=>cases a<;>first | exact .ka | exact .bad _
 | slice a l c=>
  simp only[cf.pJ];split
  ·exact .aV
  ·exact .bad _
 | map r=>cases r<;>first | exact .iE | exact .bad _
 | nilFunc=>exact .j8
 | nilIface=>exact .j9
 | func fn first gJ=>
  simp only[cf.pJ];split
  ·rename_i f h1 ae;have aR:first=#[] :=by simpa using h1
   have bE:gJ=#[] :=by simpa using ae
   subst aR bE;exact .fn _ [] [] #[] #[] rfl rfl (fun _ _ _ aH=>by simp at aH) (fun _ _ _ aH=>by simp at aH)
  ·exact .bad _
 | _=>exact .bad _
theorem aS.xb (v:Value) :aS w R h μ (xb v) v:=by
 unfold cf.xb;split
 ·rename_i cs;split
  ·rename_i cb;refine .aI _ _ (by simp) (fun j v aj=>?_) (fun j c v ah j1=>?_)
   ·rw[List.all_eq_true] at cb;exact cb v (by have:=Array.mem_of_getElem? aj; simpa using this)
   ·rw[List.getElem?_map] at ah;simp only[Array.getElem?_toList,j1,Option.map_some,Option.some.injEq] at ah;subst ah;exact aS.pJ v
  ·exact .bad _
 ·rename_i vs;refine .bJ _ _ (by simp) (fun j c v ah j1=>?_);rw[List.getElem?_map] at ah;simp only[Array.getElem?_toList,j1,Option.map_some,Option.some.injEq] at ah;subst ah;exact aS.pJ v
 ·exact aS.pJ v
theorem aS.one {c:ad} {v:Value} (aw:aS w R h μ c v) (h1:c.one=true) :v.oneCell'=true:=by
 cases aw<;>first | rfl | (simp[ad.one] at h1)
theorem Fo {c:ad} {v:Value} {cs:List ad} (aw:aS w R h μ c v) (ah:c.cells=some cs) :
  v.cells.size=cs.length/\∀ (j:Nat) (x:ad),cs[j]? = some x->∃ u:Value,v.cells[j]? = some u/\u.oneCell'=true/\aS w R h μ x u:=by
 have kZ:∀ (c:ad) (v:Value),aS w R h μ c v->v.cells=#[v]->v.oneCell'=true->∀ cs,cs=[c]->
   v.cells.size=cs.length/\∀ (j:Nat) (x:ad),cs[j]? = some x->∃ u:Value,v.cells[j]? = some u/\u.oneCell'=true/\aS w R h μ x u:=by
  intro c v aw kk h1 cs cb;subst cb;rw[kk];refine⟨rfl,fun j x ai=>?_⟩;cases j with
  | zero=>simp at ai; subst ai; exact⟨v,rfl,h1,aw⟩
  | succ j=>simp at ai
 cases aw with
 | aI cs' vs am h1 aw=>
  simp only[ad.cells,Option.some.injEq] at ah; subst ah;refine⟨am,fun j x ai=>?_⟩;have aj:j<vs.size:=by rw[am]; exact (List.getElem?_eq_some_iff.1 ai).1
  exact⟨vs[j],by simp[Value.cells,aj],h1 j _ (by simp[aj]),aw j x _ ai (by simp[aj])⟩
 | bJ cs' vs am aw=>simp[ad.cells] at ah
 | bad v=>simp[ad.cells] at ah
 | bool b=>exact kZ _ _ (.bool b) rfl rfl _ (by simpa [ad.cells] using ah.symm)
 | int k n=>exact kZ _ _ (.int k n) rfl rfl _ (by simpa [ad.cells] using ah.symm)
 | str bs=>exact kZ _ _ (.str bs) rfl rfl _ (by simpa [ad.cells] using ah.symm)
 | ka=>exact kZ _ _ .ka rfl rfl _ (by simpa [ad.cells] using ah.symm)
 | aV=>exact kZ _ _ .aV rfl rfl _ (by simpa [ad.cells] using ah.symm)
 | iE=>exact kZ _ _ .iE rfl rfl _ (by simpa [ad.cells] using ah.symm)
 | j8=>exact kZ _ _ .j8 rfl rfl _ (by simpa [ad.cells] using ah.symm)
 | j9=>exact kZ _ _ .j9 rfl rfl _ (by simpa [ad.cells] using ah.symm)
 | ptr b off sz cs' m ag hm=>exact kZ _ _ (.ptr b off sz cs' m ag hm) rfl rfl _ (by simpa [ad.cells] using ah.symm)
 | nz b off sz a ar=>exact kZ _ _ (.nz b off sz a ar) rfl rfl _ (by simpa [ad.cells] using ah.symm)
 | b0 cs' off blk o eI gv aw=>exact kZ _ _ (.b0 cs' off blk o eI gv aw) rfl rfl _ (by simpa [ad.cells] using ah.symm)
 | au z b off len cap sz cap' cs' m ag hm am aq gv=>exact kZ _ _ (.au z b off len cap sz cap' cs' m ag hm am aq gv) rfl rfl _ (by simpa [ad.cells] using ah.symm)
 | gX z b off len cap sz cap' a am gv ar=>exact kZ _ _ (.gX z b off len cap sz cap' a am gv ar) rfl rfl _ (by simpa [ad.cells] using ah.symm)
 | ik z b off sz a cs' m ag hm=>exact kZ _ _ (.ik z b off sz a cs' m ag hm) rfl rfl _ (by simpa [ad.cells] using ah.symm)
 | cq z es blk off cap eI am av gv aw=>exact kZ _ _ (.cq z es blk off cap eI am av gv aw) rfl rfl _ (by simpa [ad.cells] using ah.symm)
 | fY z a cap=>exact kZ _ _ (.fY z a cap) rfl rfl _ (by simpa [ad.cells] using ah.symm)
 | fn f aaM zV fs cs' aD gv h1 ae=>exact kZ _ _ (.fn f aaM zV fs cs' aD gv h1 ae) rfl rfl _ (by simpa [ad.cells] using ah.symm)
 | mp b m ag hm=>exact kZ _ _ (.mp b m ag hm) rfl rfl _ (by simpa [ad.cells] using ah.symm)
 | it b m ag hm=>exact kZ _ _ (.it b m ag hm) rfl rfl _ (by simpa [ad.cells] using ah.symm)
 | hu t c v aw=>exact kZ _ _ (.hu t c v aw) rfl rfl _ (by simpa [ad.cells] using ah.symm)
 | nf l=>exact kZ _ _ (.nf l) rfl rfl _ (by simpa [ad.cells] using ah.symm)
theorem Addr.ni (b o n:Nat) :(⟨b,o,none⟩:Addr).add n=⟨b,o+n,none⟩:=by unfold Addr.add; split<;>simp_all
theorem ND (rel:cc R B w h μ) {p:ad} {xh:Value} {cs:List ad} {off:Nat} (aA:reach h p=some (cs,off)) (aC:aS w R h μ p xh) :
  ∃ blk o,xh=.pointer (some ⟨blk,o+off,none⟩)/\∀ (j:Nat) (c:ad),cs[j]? = some c->∃ v:Value,w.cell? ⟨blk,o+j,none⟩=some v/\v.oneCell'=true/\aS w R h μ c v:=by
 cases aC with
 | ptr b H5 sz cs' m ag hm=>
  simp only[reach,ag,ite_true,Option.some.injEq,Prod.mk.injEq] at aA;obtain⟨rfl,rfl⟩:=aA;have eX:=rel.blk b m hm;rw[ag] at eX;obtain⟨h1,ae,arr,t,gB,al,aE,aU,bz⟩:=eX;refine⟨m.r,m.s,rfl,fun j c aj=>?_⟩;obtain⟨v,aX,bg,a3⟩:=bz j c aj;exact⟨v,by simp[World.cell?,al,aX],bg,a3⟩
 | nz b H5 sz a ar=>
  unfold reach at aA;rcases ar with ar | ⟨n,cs',ar,aM⟩
  ·simp[ar] at aA
  ·simp only[ar] at aA;split at aA
   ·omega
   ·cases aA
 | b0 cs' H5 blk o eI ah aw=>
  simp only[reach,Option.some.injEq,Prod.mk.injEq] at aA;obtain⟨rfl,rfl⟩:=aA;exact⟨blk,o,rfl,fun j c aj=>⟨eI j,(ah j (List.getElem?_eq_some_iff.1 aj).1).here,(ah j (List.getElem?_eq_some_iff.1 aj).1).one,aw j c aj⟩⟩
 | _=>simp[reach] at aA
theorem aiF {t:TypeId} {cs:List ad} {off:Nat} {c:ad} (aC:ij P t cs off=some c) {blk o:Nat}
  (ah:∀ (j:Nat) (x:ad),cs[j]? = some x->∃ v:Value,w.cell? ⟨blk,o+j,none⟩=some v/\v.oneCell'=true/\aS w R h μ x v) :
  ∃ v,(loadVar t ⟨blk,o+off,none⟩).run P w=.ok v w/\aS w R h μ c v:=by
 unfold ij at aC;cases pm:eA P t with
 | none=>rw[pm] at aC; cases aC
 | some b=>
  rw[pm] at aC;cases b with
  | false=>
   simp only at aC;obtain⟨v,h1,_,al⟩:=ah off c aC;exact⟨v,by simp[loadVar,Ix pm,h1],al⟩
  | true=>
   cases aF:cG P t with
   | none=>rw[aF] at aC; cases aC
   | some n=>
    rw[aF] at aC;simp only at aC;split at aC
    ·rename_i dT;simp only[Option.some.injEq] at aC;subst aC;have qw:∀ j,j<n->∃ v,w.cell? ⟨blk,o+(off+j),none⟩=some v/\v.oneCell'=true/\aS w R h μ (cs.getD (off+j) .bad) v:=by
      intro j aj;have aM:off+j<cs.length:=by omega
      have:=ah (off+j) cs[off+j] (by simp[aM]);simpa [List.getD,aM] using this
     have aw:∃ f:Nat->Value,∀ j,j<n->w.cell? ⟨blk,o+(off+j),none⟩=some (f j)/\(f j).oneCell'=true/\aS w R h μ (cs.getD (off+j) .bad) (f j) :=by
      refine⟨fun j=>if aj:j<n then Classical.choose (qw j aj) else undef,fun j aj=>?_⟩;simp only[aj,dif_pos];exact Classical.choose_spec (qw j aj)
     obtain⟨f,aD⟩:=aw;have am:(loadCells ⟨blk,o+off,none⟩ n).run P w=.ok ((List.range n).map f).toArray w:=by
      have:=run_loadCells_list (P:=P) w ⟨blk,o+off,none⟩ ((List.range n).map f) (fun j v aj=>by
       rw[List.getElem?_map] at aj;have k9:j<n:=by
        rcases Nat.lt_or_ge j n with h1 | h1
        ·exact h1
        ·rw[List.getElem?_eq_none (by simpa using h1)] at aj; cases aj
       rw[List.getElem?_range k9] at aj;simp only[Option.map_some,Option.some.injEq] at aj;rw[Addr.ni,<-aj,Nat.add_assoc];exact (aD j k9).1)
      simpa using this
     refine⟨.agg ((List.range n).map f).toArray,by simp[loadVar,Ix pm,fT aF,am],.aI _ _ (by simp; omega) (fun j v aj=>?_) (fun j c v gv aj=>?_)⟩
     ·simp only[List.getElem?_toArray,List.getElem?_map] at aj;have k9:j<n:=by
       rcases Nat.lt_or_ge j n with h1 | h1
       ·exact h1
       ·rw[List.getElem?_eq_none (by simpa using h1)] at aj; cases aj
      rw[List.getElem?_range k9] at aj;simp only[Option.map_some,Option.some.injEq] at aj;rw[<-aj]; exact (aD j k9).2.1
     ·simp only[List.getElem?_toArray,List.getElem?_map] at aj;have k9:j<n:=by
       rcases Nat.lt_or_ge j n with h1 | h1
       ·exact h1
       ·rw[List.getElem?_eq_none (by simpa using h1)] at aj; cases aj
      rw[List.getElem?_range k9] at aj;simp only[Option.map_some,Option.some.injEq] at aj;rw[List.getElem?_take_of_lt k9,List.getElem?_drop] at gv;have:=(aD j k9).2.2;rw[List.getD,gv] at this;rw[<-aj]; simpa using this
    ·cases aC
theorem Uf (rel:cc R B w h μ) {t:TypeId} {p:ad} {xh:Value} {c:ad} (am:tu P h t p=some c) (aC:aS w R h μ p xh) :
  ∃ v,(Instr.loadAt t xh).run P w=.ok v w/\aS w R h μ c v:=by
 unfold tu at am;cases aA:reach h p with
 | none=>rw[aA] at am; cases am
 | some x=>
  obtain⟨cs,off⟩:=x;rw[aA] at am;obtain⟨blk,o,rfl,ah⟩:=ND rel aA aC;obtain⟨v,h1,ae⟩:=aiF am ah;exact⟨v,by simp[Instr.loadAt,Instr.sureAddr,h1],ae⟩
end

section
variable {P:Program} {w:World} {R:Nat->Prop} {B:Nat} {h:a6} {μ:cR}
theorem Wi (P:Program) (g o:Nat) (t:TypeId) (gB:Nat × Nat) :∀ (vs:List Value) (i:Nat) (iq:Array Value) (w:World),w.heap[g]? = some (.cells iq t gB)->(gB=(0,0)\/iq.size<=gB.1)->
  o+i+vs.length<=iq.size->(∀ v∈vs,v.oneCell'=true)->
  (storeCells ⟨g,o,none⟩ vs i).run P w=.ok () (w.setRow g (iq.toList.take (o+i)++vs++iq.toList.drop (o+i+vs.length)).toArray)
 | [],i,iq,w,ar,_,_,_=>by
  simp only[storeCells,List.append_nil,List.length_nil,Nat.add_zero,List.take_append_drop,Array.toArray_toList];rw[setRow_self w g iq t gB ar];rfl
 | v::rest,i,iq,w,ar,mW,am,h1=>by
  have ax:o+i<iq.size:=by simp at am; omega
  have Gl:(⟨g,o,none⟩:Addr).add i=⟨g,o+i,none⟩:=Addr.ni _ _ _;have np:w.cell? ⟨g,o+i,none⟩=some iq[o+i] :=by simp[World.cell?,ar,ax]
  have ac5:w.frozen? ⟨g,o+i,none⟩=false:=by
   obtain⟨c0,gi⟩:=gB;rcases mW with mW | mW
   ·cases mW; simp[World.frozen?,ar]
   ·have:¬ c0<=o+i:=by simp at mW; omega
    simp[World.frozen?,ar,this]
  have b1:(store ((⟨g,o,none⟩:Addr).add i) v).run P w=.ok () (w.setRow g (iq.setIfInBounds (o+i) v)) :=by
   rw[Gl,run_store P w _ v _ (h1 v (by simp)),np];simp[ac5,setCell_eq_setRow w g (o+i) iq t gB v ar]
  have aO:=Wi P g o t gB rest (i+1) (iq.setIfInBounds (o+i) v) (w.setRow g (iq.setIfInBounds (o+i) v)) (setRow_heap w g iq _ t _ ar) (by simpa using mW) (by simp at am ⊢; omega) (fun x ai=>h1 x (by simp[ai]));simp only[storeCells,Sem.run_bind,b1,Result.andThen_ok,aO,setRow_setRow];congr 3;have:=list_seg_step iq.toList (o+i) v rest (by simp at am ⊢; omega);simpa [Nat.add_assoc,Nat.add_comm 1] using this
theorem sm {cs vs:List ad} {k:Nat} (hk:k<=cs.length) :(bt cs k vs).length=max cs.length (k+vs.length) :=by
 unfold bt;simp only[List.length_append,List.length_take,List.length_drop];omega
theorem Ob {cs vs:List ad} {k j:Nat} (hk:k<=cs.length) :(bt cs k vs)[j]? = if j<k then cs[j]? else if j<k+vs.length then vs[j - k]? else cs[j]?:=by
 unfold bt;rw[List.append_assoc];by_cases h1:j<k
 ·rw[List.getElem?_append_left (by simp; omega),List.getElem?_take_of_lt h1,if_pos h1]
 ·rw[List.getElem?_append_right (by simp; omega),if_neg h1];simp only[List.length_take,Nat.min_eq_left hk];by_cases ae:j<k+vs.length
  ·rw[List.getElem?_append_left (by omega),if_pos ae]
  ·rw[List.getElem?_append_right (by omega),if_neg ae,List.getElem?_drop];congr 1; omega
theorem zC (rel:cc R B w h μ) {b sz k:Nat} {cs cvs:List ad} {m:M} {vs:List Value} (ag:h.f b=.cells sz cs) (hm:μ b=some m) (hk:k<=sz)
  (am:vs.length=cvs.length) (e8:m.s+max sz (k+cvs.length)<=m.T)
  (aw:∀ (j:Nat) (c:ad),cvs[j]? = some c->∃ v:Value,vs[j]? = some v/\v.oneCell'=true/\aS w R h μ c v) :
  ∃ w',(storeCells ⟨m.r,m.s+k,none⟩ vs).run P w=.ok () w'/\dQ w h μ w' (h.set b (.cells (max sz (k+cvs.length)) (bt cs k cvs))) μ ∧
   cc R B w' (h.set b (.cells (max sz (k+cvs.length)) (bt cs k cvs))) μ:=by
 have eX:=rel.blk b m hm;rw[ag] at eX;obtain⟨bn,cM,arr,t,gB,aA,az,mW,ah⟩:=eX;have h1:∀ v∈vs,v.oneCell'=true:=by
  intro v kO;obtain⟨j,aj,rfl⟩:=List.getElem_of_mem kO;obtain⟨v,aX,bg,_⟩:=aw j (cvs[j]'(by omega)) (by simp);rw[List.getElem?_eq_getElem aj] at aX;cases aX;exact bg
 have iO:=Wi P m.r (m.s+k) t gB vs 0 arr w aA (by rw[az]; exact mW.imp id Nat.le_of_lt) (by omega) h1;simp only[Nat.add_zero] at iO;have qN:(arr.toList.take (m.s+k)++vs++arr.toList.drop (m.s+k+vs.length)).toArray.size=arr.size:=by
  simp only[List.size_toArray,List.length_append,List.length_take,List.length_drop,Array.length_toList];omega
 have eE:=rel.write (w':=w.setRow m.r (arr.toList.take (m.s+k)++vs++arr.toList.drop (m.s+k+vs.length)).toArray) (cs':=bt cs k cvs) (sz':=max sz (k+cvs.length)) ag hm aA az mW
  rfl rfl rfl (by simp[World.setRow]) (setRow_heap w m.r arr _ t gB aA) (fun k' e9=>setRow_other w m.r k' _ e9) qN
  (by rw[sm (by omega),bn]) (by omega) (by omega) (fun j c aj=>?_)
 ·exact⟨_,iO,eE.1,eE.2⟩
 ·rw[Ob (by omega)] at aj;simp only[List.getElem?_toArray];rw[List.append_assoc];split at aj
  ·rename_i aM;obtain⟨v,aX,bg,a3⟩:=ah j c aj;refine⟨v,?_,bg,a3⟩;rw[List.getElem?_append_left (by simp; omega),List.getElem?_take_of_lt (by omega)];simpa using aX
  ·rename_i qx;split at aj
   ·rename_i aM;obtain⟨v,aX,bg,a3⟩:=aw _ c aj;refine⟨v,?_,bg,a3⟩;have yE:min (m.s+k) arr.size=m.s+k:=by omega
    rw[List.getElem?_append_right (by simp; omega)];simp only[List.length_take,Array.length_toList,yE];rw[List.getElem?_append_left (by omega),<-aX];congr 1; omega
   ·rename_i anZ;obtain⟨v,aX,bg,a3⟩:=ah j c aj;refine⟨v,?_,bg,a3⟩;have yE:min (m.s+k) arr.size=m.s+k:=by omega
    rw[List.getElem?_append_right (by simp; omega)];simp only[List.length_take,Array.length_toList,yE];rw[List.getElem?_append_right (by omega),List.getElem?_drop];have:(m.s+k+vs.length+(m.s+j - (m.s+k) - vs.length))=m.s+j:=by omega
    rw[this];simpa using aX
theorem ajF (rel:cc R B w h μ) {t:TypeId} {p v:ad} {xh pV:Value} {h' : a6} (ak:BJ P h t p v=some h') (aC:aS w R h μ p xh) (aw:aS w R h μ v pV) :
  ∃ w',(Instr.storeAt t xh pV).run P w=.ok () w'/\dQ w h μ w' h' μ/\cc R B w' h' μ:=by
 unfold BJ at ak;split at ak
 ·rename_i b off sz vs n jX aF;obtain⟨ht,nv⟩:=Fo aw jX;cases ag:h.f b with
  | cells m cs=>
   rw[ag] at ak;simp only at ak;split at ak
   ·rename_i kj;obtain⟨rfl,bn,e8⟩:=kj;simp only[Option.some.injEq] at ak;subst ak;cases aC with
    | ptr bw H5 sz' cs' cr bS hm=>
     have eX:=rel.blk b cr hm;rw[ag] at eX;have cM:=eX.2.1;obtain⟨w',h1,ae,al⟩:=zC (P:=P) rel (cvs:=vs) (vs:=pV.cells.toList) (k:=off) ag hm (by omega) (by simpa using ht) (by omega)
      (fun j c aj=>by obtain⟨u,aX,bg,a3⟩:=nv j c aj; exact⟨u,by simpa using aX,bg,a3⟩)
     have nu:max m (off+vs.length)=m:=by omega
     rw[nu] at ae al;refine⟨w',?_,ae,al⟩;have bU:¬ (pV.cells.size≠n) :=by omega
     simp[Instr.storeAt,Instr.sureAddr,storeVar,fT aF,bU,h1]
    | nz bw H5 sz' a ar=>
     rcases ar with ar | ⟨hy,cs',ar,aM⟩
     ·rw[ar] at ag; cases ag
     ·rw[ar] at ag; cases ag; omega
   ·cases ak
  | _=>rw[ag] at ak; cases ak
 ·cases ak
theorem E6 (rel:cc R B w h μ) {cs:List ad} {vs:Array Value} (t:TypeId) (am:vs.size=cs.length)
  (aw:∀ (j:Nat) (c:ad),cs[j]? = some c->∃ v:Value,vs[j]? = some v/\v.oneCell'=true/\aS w R h μ c v) :
  let h':=h.push (.cells cs.length cs)
  let μ':=bY μ h.n (some ⟨w.heap.size,0,vs.size⟩)
  let w':=w.alloc (.cells vs t)
  dQ w h μ w' h' μ'/\cc R B w' h' μ'/\∀ off,aS w' R h' μ' (.ptr h.n off cs.length) (.pointer (some ⟨w.heap.size,off,none⟩)) :=by
 intro h' μ' w';have:=rel.push (w':=w') cs vs t rfl rfl rfl rfl (by omega) aw;refine⟨this.1,this.2,fun off=>?_⟩;have aC:=aS.ptr (w:=w') (R:=R) (h:=h') (μ:=μ') h.n off cs.length cs ⟨w.heap.size,0,vs.size⟩ (by simp[h',eH,fL]) (by simp[μ']);simpa using aC
theorem Xx {t:TypeId} {z:List ad} (av:h5 P t=some z) :∃ i v,P.info? t=some i/\i.zero=some v/\v.cells.size=z.length ∧
  ∀ (j:Nat) (c:ad),z[j]? = some c->∃ u:Value,v.cells[j]? = some u/\u.oneCell'=true/\aS w R h μ c u:=by
 obtain⟨i,v,ax,aw,h1,rfl⟩:=alu av;refine⟨i,v,ax,aw,by simp,fun j c aj=>?_⟩;rw[List.getElem?_map] at aj;cases aP:v.cells[j]? with
 | none=>simp[aP] at aj
 | some u=>
  simp[aP] at aj;subst aj;rw[List.all_eq_true] at h1;exact⟨u,rfl,h1 u (by have:=Array.mem_of_getElem? aP; simpa using this),aS.pJ u⟩
theorem PV {x:ad} {bL:Value} {k:Nat} {c:ad} (ah:oy x k=some c) (ai:aS w R h μ x bL) :
  ∃ a,bL=.pointer (some a)/\aS w R h μ c (.pointer (some (a.add k))) :=by
 cases ai with
 | ptr b off sz cs m ag hm=>
  simp only[oy,Option.some.injEq] at ah; subst ah;refine⟨_,rfl,?_⟩;rw[Addr.ni,Nat.add_assoc];exact .ptr b _ sz cs m ag hm
 | nz b off sz a ar=>
  simp only[oy,Option.some.injEq] at ah; subst ah;exact⟨a,rfl,.nz _ _ _ _ ar⟩
 | b0 cs off blk o eI gv aw=>
  simp only[oy,Option.some.injEq] at ah; subst ah;refine⟨_,rfl,?_⟩;rw[Addr.ni,Nat.add_assoc];exact .b0 cs _ blk o eI gv aw
 | _=>simp[oy] at ah
theorem QF {s:TypeId} {f:Nat} {fd:Field} (aD:x8 P s f=some fd) :∃ fs,P.underlying s=some (.struct fs)/\fs[f]? = some fd:=by
 unfold x8 at aD;split at aD
 ·rename_i fs aP; exact⟨fs,aP,aD⟩
 ·cases aD
theorem aaN {s:TypeId} {x c:ad} {bL:Value} {f:Nat} (ah:FL P s x f=some c) (ai:aS w R h μ x bL) :
  ∃ v,(Instr.fieldAt s bL f).run P w=.ok v w/\aS w R h μ c v:=by
 unfold FL at ah;split at ah
 ·rename_i fd aD;obtain⟨fs,aP,km⟩:=QF aD;split at ah
  ·rename_i n aF;obtain⟨a,rfl,aw⟩:=PV ah ai;refine⟨_,?_,aw⟩;simp[Instr.fieldAt,cF aP,km,Instr.sureAddr,fieldPlace,fT aF]
  ·cases ah
 ·cases ah
theorem sJ {x:ad} {bL:Value} {n:Int} (ax:asInt x=some n) (ai:aS w R h μ x bL) :∃ k,bL=.int k n:=by
 cases ai<;>simp[asInt] at ax;subst ax;exact⟨_,rfl⟩
theorem aeZ {t:TypeId} {x iT c:ad} {bL DN:Value} (ah:DJ P t x iT=some c) (ai:aS w R h μ x bL) (ax:aS w R h μ iT DN) :
  ∃ v,(Instr.indexAt t bL DN).run P w=.ok v w/\aS w R h μ c v:=by
 unfold DJ at ah;split at ah
 ·rename_i len e i aP fF;obtain⟨k,rfl⟩:=sJ fF ax;cases av:cG P e with
  | none=>rw[av] at ah; cases ah
  | some z=>
   rw[av] at ah;simp only at ah;split at ah
   ·rename_i ag;obtain⟨a,rfl,aw⟩:=PV ah ai;refine⟨_,?_,aw⟩;simp[Instr.indexAt,asIntOf,cF aP,Instr.sureAddr,ag,fT av]
   ·cases ah
 ·rename_i e i aP fF;obtain⟨k,rfl⟩:=sJ fF ax;split at ah
  ·rename_i z en b off len cap sz av;split at ah
   ·rename_i ag;obtain⟨rfl,ag⟩:=ag;simp only[Option.some.injEq] at ah; subst ah;cases ai with
    | au _ _ _ _ _ _ cap' cs m bS hm am aq du=>
     refine⟨_,?_,aS.ptr b (off+i.toNat*z) sz cs m bS hm⟩;simp[Instr.indexAt,asIntOf,cF aP,ag,fT av,Addr.ni,Nat.add_assoc]
    | ik=>simp at ag; omega
    | gX _ _ _ _ _ _ cap' a am du ar=>
     refine⟨_,?_,aS.nz b _ sz (a.add (i.toNat*z)) ar⟩;simp[Instr.indexAt,asIntOf,cF aP,ag,fT av]
   ·cases ah
  ·rename_i z en es av;split at ah
   ·rename_i ag;obtain⟨rfl,ag⟩:=ag;cases ao:es[i.toNat]? with
    | none=>rw[ao] at ah; cases ah
    | some fE=>
     rw[ao] at ah;simp only[Option.map_some,Option.some.injEq] at ah; subst ah;have aM:i.toNat<es.length:=(List.getElem?_eq_some_iff.1 ao).1;have cZ:(0<=i/\i<(es.length:Int)) :=by omega
     cases ai with
     | cq _ _ blk off cap eI am qR np aw=>
      have acY:fE.length=z:=qR _ (List.mem_of_getElem? ao);refine⟨_,?_,aS.b0 fE 0 blk (off+i.toNat*z) (eI i.toNat) (fun j aj=>?_) (aw _ _ ao)⟩
      ·simp[Instr.indexAt,asIntOf,cF aP,cZ,fT av,Addr.ni]
      ·have:=np i.toNat j aM (by omega)
       rwa [Nat.add_assoc]
     | fY=>simp at aM
   ·cases ah
  ·cases ah
 ·cases ah
end

end Go.cf

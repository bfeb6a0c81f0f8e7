/-
  The canonical machine, part A: its values, blocks, heap, and what one operation does.
-/
import Derived.WalkKit
import Derived.Below
import Derived.Laws.AppendOwn
import Derived.Laws.CopyRow
import Derived.Laws.IdiomCopy
import Derived.Laws.StructEq
set_option linter.unusedVariables false
set_option linter.unusedSimpArgs false
set_option linter.unnecessarySimpa false
namespace Go.ct
abbrev aCI:=@List.take_of_length_le
abbrev aCJ:=@List.getElem?_eq_some_iff
abbrev aCK:=@List.getElem?_append_left
abbrev aCL:=@Nat.le_refl
abbrev aCM:=@List.getElem?_eq_getElem
abbrev aCN:=@Nat.mul_le_mul_right
abbrev aCO:=@List.getElem?_map
abbrev aCP:=@List.mem_of_getElem?
abbrev aCQ:=@Bool.and_eq_true
abbrev aCR:=@Option.map_some
abbrev aCS:=@List.length_append
abbrev aCT:=@List.getElem?_append_right
abbrev aCU:=@List.getElem?_set_ne
abbrev aCV:=@BitVec.eq_of_toNat_eq
abbrev aCW:=@List.getElem?_take_of_lt
abbrev aCX:=@List.length_take
abbrev aCY:=@List.mem_iff_getElem?
abbrev aCZ:=@List.length_map
abbrev aC0:=@List.getElem?_eq_none
abbrev aC1:=@Nat.mod_eq_of_lt
abbrev aC2:=@List.getD_eq_getElem?_getD
abbrev aC3:=@List.getElem?_set_self
abbrev aC4:=@List.take_add_one
abbrev aC5:=@BitVec.toNat_setWidth
abbrev aC6:=@List.length_cons
abbrev aC7:=@BitVec.toNat_ofNat
abbrev aC8:=@Nat.shiftRight_eq_div_pow
abbrev aC9:=@List.mem_map
abbrev aDa:=@List.append_assoc
abbrev aDb:=@List.take_append_of_le_length
abbrev aDc:=@List.map_cons
abbrev aDd:=@List.getElem?_cons_zero
abbrev aDe:=@List.map_append
abbrev aDf:=@Int.toNat_natCast
abbrev aDg:=@Nat.add_mul
abbrev aDh:=@List.getElem?_drop
abbrev aDi:=@List.take_length
abbrev aDj:=@Nat.succ_mul
abbrev aDk:=@List.length_eq_zero_iff
abbrev aDl:=@List.append_nil
abbrev aDm:=@List.mem_singleton
abbrev aDn:=@Array.getElem?_eq_some_iff
abbrev aDo:=@BitVec.toNat_ushiftRight
abbrev aDp:=@List.drop_append_of_le_length
abbrev aDq:=@List.nil_append
abbrev aDr:=@List.mem_append
abbrev aDs:=@List.mem_of_mem_take
abbrev aDt:=@List.take_append_drop
abbrev aDu:=@List.set_append_right
abbrev aDv:=@Int.eq_ofNat_of_zero_le
abbrev aDw:=@List.mem_range
abbrev aDx:=@List.length_nil
abbrev aDy:=@List.drop_eq_getElem_cons
abbrev aDz:=@List.getElem?_cons_succ
abbrev aDA:=@Option.getD_some
abbrev aDB:=@List.drop_eq_nil_of_le
abbrev aDC:=@List.drop_of_length_le
abbrev aDD:=@List.flatten_append
abbrev aDE:=@Nat.min_eq_left
abbrev aDF:=@List.ext_getElem?
abbrev aDG:=@List.cons_append
abbrev aDH:=@List.drop_zero
abbrev aDI:=@BitVec.ofInt_natCast
abbrev aDJ:=@Bool.false_and
abbrev aDK:=@Nat.lt_or_ge
abbrev aDL:=@Bool.true_and
abbrev aDM:=@List.flatten_cons
abbrev aDN:=@List.getElem?_range
abbrev aDO:=@List.all_eq_true
abbrev aDP:=@Nat.eq_of_beq_eq_true
abbrev aDQ:=@List.map_eq_nil_iff
abbrev aDR:=@Array.getD_eq_getD_getElem?
abbrev aDS:=@List.length_drop
abbrev aDT:=@Nat.zero_add
abbrev aDU:=@BitVec.toNat_umod
abbrev aDV:=@Bool.false_eq_true
abbrev aDW:=@List.replicate_succ
abbrev aDX:=@List.mem_or_eq_of_mem_set
abbrev aDY:=@List.mem_cons
abbrev aDZ:=@Array.getElem?_append_left
abbrev aD0:=@List.set_eq_take_append_cons_drop
abbrev aD1:=@List.take_zero
abbrev aD2:=@Nat.le_trans
abbrev aD3:=@Nat.shiftLeft_eq
abbrev aD4:=@Nat.le_of_lt
abbrev aD5:=@Nat.zero_le
abbrev aD6:=@BitVec.toNat_shiftLeft
abbrev aD7:=@Nat.div_eq_of_lt
abbrev aD8:=@Array.getElem?_setIfInBounds
abbrev aD9:=@List.eq_of_mem_replicate
abbrev aEa:=@List.length_filter_le
abbrev aEb:=@Nat.lt_trichotomy
abbrev aEc:=@Array.getElem?_eq_getElem
abbrev aEd:=@List.mem_filter
abbrev aEe:=@List.filter_append
abbrev aEf:=@List.mem_of_mem_drop
abbrev aEg:=@List.getElem?_set
abbrev aEh:=@BitVec.toNat_udiv
abbrev aEi:=@List.mem_map_of_mem
abbrev aEj:=@List.takeWhile_cons
abbrev aEk:=@Nat.mul_one
abbrev aEl:=@Array.getElem?_eq_none
abbrev aEm:=@Nat.add_assoc
abbrev aEn:=@Bool.and_self
abbrev aEo:=@Int.fdiv_eq_ediv_of_nonneg
abbrev aEp:=@Option.bind_some
abbrev aEq:=@Nat.min_eq_right
abbrev aEr:=@List.mapM_cons
abbrev aEs:=@Nat.lt_of_lt_of_le
abbrev aEt:=@List.take_take
abbrev aEu:=@Nat.add_sub_cancel
abbrev aEv:=@Int.natCast_pow
abbrev aEw:=@List.range_succ
abbrev aEx:=@List.nodup_append
abbrev aEy:=@List.map_congr_left
abbrev aEz:=@List.take_append
abbrev aEA:=@Option.isSome_none
abbrev aEB:=@List.map_nil
abbrev aEC:=@Array.getElem?_toList
abbrev aED:=@Nat.le_of_ble_eq_true
abbrev aEE:=@Option.pure_def
abbrev aEF:=@Bool.false_or
abbrev aEG:=@List.getElem?_of_mem
abbrev aEH:=@Bool.or_eq_false_iff
abbrev aEI:=@Nat.pow_add
abbrev aEJ:=@BitVec.toNat_mul
abbrev aEK:=@Array.length_toList
abbrev aEL:=@List.flatMap_append
abbrev aEM:=@Nat.exists_eq_add_of_le
abbrev aEN:=@List.sum_cons
abbrev aEO:=@Array.eq_empty_of_size_eq_zero
abbrev aEP:=@List.set_cons_zero
abbrev aEQ:=@Int.natCast_nonneg
abbrev aER:=@BitVec.toNat_ofInt
abbrev aES:=@Nat.mod_lt
abbrev aET:=@Bool.not_eq_true'
abbrev aEU:=@List.count_append
abbrev aEV:=@Nat.zero_mul
abbrev aEW:=@List.drop_take
abbrev aEX:=@Nat.sub_self
abbrev aEY:=@Array.getElem?_modify
abbrev aEZ:=@List.map_map
abbrev aE0:=@Array.getElem?_append_right
abbrev aE1:=@Nat.pow_le_pow_right
abbrev aE2:=@Nat.max_eq_right
abbrev aE3:=@Bool.not_eq_true
abbrev aE4:=@List.count_singleton
abbrev aE5:=@Nat.add_eq_zero_iff
abbrev aE6:=@List.getElem?_eq_none_iff
abbrev aE7:=@Bool.or_eq_true
abbrev aE8:=@List.nodup_cons
abbrev aE9:=@Array.append_assoc
abbrev aFa:=@Array.getElem?_map
abbrev aFb:=@BitVec.allOnes_xor
abbrev aFc:=@List.getElem?_take
abbrev aFd:=@List.pairwise_cons
abbrev aFe:=@List.drop_drop
abbrev aFf:=@List.foldl_append
abbrev aFg:=@Nat.mul_left_comm
abbrev aFh:=@Nat.mul_mod_right
abbrev aFi:=@Option.map_eq_some_iff
abbrev aFj:=@Nat.one_mul
abbrev aFk:=@Nat.mul_mod
abbrev aFl:=@Nat.mul_mod_left
abbrev aFm:=@Int.natCast_ediv
abbrev aFn:=@BitVec.toNat_and
abbrev aFo:=@Nat.le_of_not_lt
abbrev aFp:=@List.getElem?_toArray
abbrev aFq:=@Nat.add_zero
abbrev aFr:=@List.find?_cons
abbrev aFs:=@List.mem_cons_of_mem
abbrev aFt:=@Nat.sub_zero
abbrev aFu:=@Nat.and_two_pow_sub_one_eq_mod
abbrev aFv:=@List.pairwise_append
abbrev aFw:=@Nat.one_ne_zero
abbrev aFx:=@Nat.shiftLeft_add_eq_or_of_lt
abbrev aFy:=@List.drop_succ_cons
abbrev aFz:=@List.filter_sublist
abbrev aFA:=@Bool.not_false
abbrev aFB:=@Nat.pow_mod
abbrev aFC:=@List.count_pos_iff
abbrev aFD:=@Nat.eq_or_lt_of_le
abbrev aFE:=@List.mem_cons_self
abbrev aFF:=@List.set_cons_succ
abbrev aFG:=@Bool.true_eq_false
abbrev aFH:=@BitVec.ofNat_toNat
abbrev aFI:=@List.map_take
abbrev aFJ:=@Array.size_append
abbrev aFK:=@List.size_toArray
abbrev aFL:=@List.take_sublist
abbrev aFM:=@List.mem_of_find?_eq_some
abbrev aFN:=@Option.isNone_iff_eq_none
abbrev aFO:=@List.pairwise_iff_getElem
abbrev aFP:=@Nat.beq_refl
abbrev aFQ:=@Nat.add_comm
abbrev aFR:=@Option.isSome_iff_exists
abbrev aFS:=@List.drop_length
abbrev aFT:=@List.getElem_mem
abbrev aFU:=@List.isEmpty_iff
abbrev aFV:=@Nat.mul_comm
abbrev aFW:=@BitVec.toNat_add
abbrev aFX:=@BitVec.toNat_not
abbrev aFY:=@List.length_erase_of_mem
abbrev aFZ:=@List.nodup_range
abbrev aF0:=@List.foldl_cons
abbrev aF1:=@Nat.div_le_self
abbrev aF2:=@Nat.max_eq_left
abbrev aF3:=@Nat.min_def
abbrev aF4:=@List.not_lt
abbrev aF5:=@List.drop_left
abbrev aF6:=@Bool.and_false
abbrev aF7:=@List.lt_irrefl
abbrev aF8:=@Nat.blt_eq
abbrev aF9:=@List.all_cons
open Go
inductive ad where
 | bool (b:Bool)
 | int (k:IntKind) (n:Int)
 | str (s:List UInt8)
 | j5 | aK | iq | jD | j4
 | aM (cs:List ad)
 | b5 (vs:List ad)
 | ptr (b off sz:Nat)
 | cm (cs:List ad) (off:Nat)
 | av (z b off len cap sz:Nat)
 | cr (z:Nat) (es:List (List ad))
 | fn (f:FuncId) (first gQ:List ad)
 | mp (b:Nat)
 | it (b:Nat)
 | hD (t:TypeId) (v:ad)
 | mT (l:Nat)
 | bad
 deriving Inhabited
inductive bp where
 | none
 | dead
 | cells (sz:Nat) (cs:List ad)
 | map (es:List (ad × ad × Nat)) (axJ:Nat)
 | iter (s:List UInt8) (pos:Nat)
 deriving Inhabited
inductive dk (α:Type) where
 | nil
 | node (l:dk α) (v:Option α) (r:dk α)
def dk.get {α:Type}:dk α->Nat->Option α
 | .nil,_=>none
 | .node l v r,n=>match Nat.beq n 0 with
  | true=>v
  | false=>match Nat.beq (n % 2) 1 with
   | true=>l.get (n / 2)
   | false=>r.get (n / 2 - 1)
def dk.lj {α:Type}:Nat->dk α->Nat->α->dk α
 | 0,t,_,_=>t
 | k+1,.nil,n,x=>match Nat.beq n 0 with
  | true=>.node .nil (some x) .nil
  | false=>match Nat.beq (n % 2) 1 with
   | true=>.node (dk.lj k .nil (n / 2) x) none .nil
   | false=>.node .nil none (dk.lj k .nil (n / 2 - 1) x)
 | k+1,.node l v r,n,x=>match Nat.beq n 0 with
  | true=>.node l (some x) r
  | false=>match Nat.beq (n % 2) 1 with
   | true=>.node (dk.lj k l (n / 2) x) v r
   | false=>.node l v (dk.lj k r (n / 2 - 1) x)
def dk.set {α:Type} (t:dk α) (n:Nat) (x:α) :dk α:=t.lj (n+1) n x
theorem lb {a b:Nat} (h:¬ a=b) :Nat.beq a b=false:=by
 cases ai:Nat.beq a b with
 | false=>rfl
 | true=>exact absurd (aDP ai) h
theorem ut {a b:Nat} (h:a=b) :Nat.beq a b=true:=by subst h; exact aFP a
theorem dk.BX {α:Type}:∀ (k:Nat) (t:dk α) (n:Nat) (x:α) (m:Nat),n<k->(t.lj k n x).get m=if m=n then some x else t.get m
 | 0,_,_,_,_,h=>by omega
 | k+1,.nil,n,x,m,h=>by
  unfold dk.lj;by_cases aG:n=0
  ·subst aG;simp only;unfold dk.get;by_cases hm:m=0
   ·subst hm; simp
   ·have:Nat.beq m 0=false:=lb hm;simp only[this,if_neg hm];split<;>rfl
  ·have ai:Nat.beq n 0=false:=lb aG;simp only[ai];by_cases h1:n % 2=1
   ·have hd:Nat.beq (n % 2) 1=true:=ut h1;simp only[hd];unfold dk.get;by_cases hm:m=0
    ·subst hm; simp; omega
    ·have:Nat.beq m 0=false:=lb hm;simp only[this];by_cases g2:m % 2=1
     ·have:Nat.beq (m % 2) 1=true:=ut g2;simp only[this];rw[dk.BX k .nil (n / 2) x (m / 2) (by omega)];by_cases au:m=n
      ·subst au; simp
      ·rw[if_neg au,if_neg (by omega)]; rfl
     ·have:Nat.beq (m % 2) 1=false:=lb g2;simp only[this];rw[if_neg (by intro aR; subst aR; exact g2 h1)];rfl
   ·have hd:Nat.beq (n % 2) 1=false:=lb h1;simp only[hd];unfold dk.get;by_cases hm:m=0
    ·subst hm; simp; omega
    ·have:Nat.beq m 0=false:=lb hm;simp only[this];by_cases g2:m % 2=1
     ·have:Nat.beq (m % 2) 1=true:=ut g2;simp only[this];rw[if_neg (by intro aR; subst aR; exact h1 g2)];rfl
     ·have:Nat.beq (m % 2) 1=false:=lb g2;simp only[this];rw[dk.BX k .nil (n / 2 - 1) x (m / 2 - 1) (by omega)];by_cases au:m=n
      ·subst au; simp
      ·rw[if_neg au,if_neg (by omega)]; rfl
 | k+1,.node l v r,n,x,m,h=>by
  unfold dk.lj;by_cases aG:n=0
  ·subst aG;simp only;unfold dk.get;by_cases hm:m=0
   ·subst hm; simp
   ·have:Nat.beq m 0=false:=lb hm;simp only[this,if_neg hm]
  ·have ai:Nat.beq n 0=false:=lb aG;simp only[ai];by_cases h1:n % 2=1
   ·have hd:Nat.beq (n % 2) 1=true:=ut h1;simp only[hd];unfold dk.get;by_cases hm:m=0
    ·subst hm; simp; omega
    ·have:Nat.beq m 0=false:=lb hm;simp only[this];by_cases g2:m % 2=1
     ·have:Nat.beq (m % 2) 1=true:=ut g2;simp only[this];rw[dk.BX k l (n / 2) x (m / 2) (by omega)];by_cases au:m=n
      ·subst au; simp
      ·rw[if_neg au,if_neg (by omega)]
     ·have:Nat.beq (m % 2) 1=false:=lb g2;simp only[this];rw[if_neg (by intro aR; subst aR; exact g2 h1)]
   ·have hd:Nat.beq (n % 2) 1=false:=lb h1;simp only[hd];unfold dk.get;by_cases hm:m=0
    ·subst hm; simp; omega
    ·have:Nat.beq m 0=false:=lb hm;simp only[this];by_cases g2:m % 2=1
     ·have:Nat.beq (m % 2) 1=true:=ut g2;simp only[this];rw[if_neg (by intro aR; subst aR; exact h1 g2)]
     ·have:Nat.beq (m % 2) 1=false:=lb g2;simp only[this];rw[dk.BX k r (n / 2 - 1) x (m / 2 - 1) (by omega)];by_cases au:m=n
      ·subst au; simp
      ·rw[if_neg au,if_neg (by omega)]
theorem dk.I8 {α:Type} (t:dk α) (n:Nat) (x:α) (m:Nat) :(t.set n x).get m=if m=n then some x else t.get m:=dk.BX _ _ _ _ _ (by omega)
structure bh where
 n:Nat
 t:dk bp
def bh.f (h:bh) (b:Nat) :bp:=match h.t.get b with | some c=>c | none=>.none
def bh.empty:bh:=⟨0,.nil⟩
def ck {α:Type} (f:Nat->α) (i:Nat) (v:α) :Nat->α:=fun j=>if j=i then v else f j
def bh.push (h:bh) (c:bp) :bh:=⟨h.n+1,h.t.set h.n c⟩
def bh.set (h:bh) (b:Nat) (c:bp) :bh:=⟨h.n,h.t.set b c⟩
theorem ga (h:bh) (c:bp) :(h.push c).n=h.n+1:=rfl
theorem fw (h:bh) (b:Nat) (c:bp) :(h.set b c).n=h.n:=rfl
theorem eS (h:bh) (c:bp) :(h.push c).f=ck h.f h.n c:=by
 funext b;simp only[bh.f,bh.push,ck,dk.I8];by_cases ai:b=h.n
 ·simp[ai]
 ·simp[ai]
theorem ez (h:bh) (b:Nat) (c:bp) :(h.set b c).f=ck h.f b c:=by
 funext bK;simp only[bh.f,bh.set,ck,dk.I8];by_cases ai:bK=b
 ·simp[ai]
 ·simp[ai]
theorem EN (b:Nat) :bh.empty.f b=.none:=rfl
@[simp] theorem kz {α:Type} (f:Nat->α) (i:Nat) (v:α) :ck f i v i=v:=by simp[ck]
theorem cB {α:Type} (f:Nat->α) (i j:Nat) (v:α) (h:j≠i) :ck f i v j=f j:=by simp[ck,h]
def ad.one:ad->Bool
 | .aM _ | .b5 _ | .bad=>false
 | _=>true
def ad.cells:ad->Option (List ad)
 | .aM cs=>some cs
 | .b5 _ | .bad=>none
 | v=>some [v]
def pr:Value->ad
 | .bool b=>.bool b
 | .int k n=>.int k n
 | .string s=>.str s.data.toList
 | .pointer a=>match a with | none=>.j5 | some _=>.bad
 | .slice a l c=>match a,l,c with | none,0,0=>.aK | _,_,_=>.bad
 | .map r=>match r with | none=>.iq | some _=>.bad
 | .nilFunc=>.jD
 | .nilIface=>.j4
 | .func fn first gQ=>match fn,first.toList,gQ.toList with | .func f,[],[]=>.fn f [] [] | _,_,_=>.bad
 | _=>.bad
def wb:Value->ad
 | .agg cs=>if cs.toList.all Value.oneCell' then .aM (cs.toList.map pr) else .bad
 | .tuple vs=>.b5 (vs.toList.map pr)
 | v=>pr v
def ek (G:Nat->ad) (ah:Nat->ad) :Operand->ad
 | .tmp t=>ah t
 | .const v=>wb v
 | .func f=>.fn f [] []
 | .global g=>G g
def e8 (P:Program) (t:TypeId) :Option Bool:=(P.underlying t).map fun d=>match d with | .struct _ | .array _ _=>true | _=>false
def c5 (P:Program) (t:TypeId) :Option Nat:=(P.info? t).map (·.size)
def jp (P:Program) (t:TypeId) :Option Nat:=(P.info? t).map (·.bytes)
def ia (P:Program) (t:TypeId) :Option (List ad) :=((P.info? t).bind (·.zero)).bind fun v=>if v.cells.toList.all Value.oneCell' then some (v.cells.toList.map pr) else none
def i7 (P:Program) (t:TypeId) :Option TypeId:=match P.underlying t with | some (.slice e)=>some e | _=>none
def iv (P:Program) (t:TypeId) (cs:List ad) (off:Nat) :Option ad:=
 match e8 P t,c5 P t with
 | some true,some n=>if off+n<=cs.length then some (.aM ((cs.drop off).take n)) else none
 | some false,_=>cs[off]?
 | _,_=>none
def reach (h:bh) :ad->Option (List ad × Nat)
 | .ptr b off sz=>match h.f b with
  | .cells n cs=>if n=sz then some (cs,off) else none
  | _=>none
 | .cm cs off=>some (cs,off)
 | _=>none
def sQ (P:Program) (h:bh) (t:TypeId) (p:ad) :Option ad:=
 match reach h p with
 | some (cs,off)=>iv P t cs off
 | none=>none
def bO (cs:List ad) (off:Nat) (vs:List ad) :List ad:=cs.take off++vs++cs.drop (off+vs.length)
def A2 (P:Program) (h:bh) (t:TypeId) (p v:ad) :Option bh:=
 match p,v.cells,c5 P t with
 | .ptr b off sz,some vs,some n=>match h.f b with
  | .cells m cs=>if m=sz/\vs.length=n/\off+n<=m then some (h.set b (.cells m (bO cs off vs))) else none
  | _=>none
 | _,_,_=>none
def asInt:ad->Option Int
 | .int _ n=>some n
 | _=>none
def xe (P:Program) (s:TypeId) (f:Nat) :Option Field:=match P.underlying s with | some (.struct fs)=>fs[f]? | _=>none
def od:ad->Nat->Option ad
 | .ptr b off sz,k=>some (.ptr b (off+k) sz)
 | .cm cs off,k=>some (.cm cs (off+k))
 | _,_=>none
def ET (P:Program) (s:TypeId) (x:ad) (f:Nat) :Option ad:=
 match xe P s f with
 | some fd=>match c5 P fd.type with
  | some (_+1)=>od x fd.offset
  | _=>none
 | none=>none
def Da (P:Program) (t:TypeId) (x h7:ad) :Option ad:=
 match P.underlying t,asInt h7 with
 | some (.array len e),some i=>match c5 P e with
  | some z=>if 0<=i/\i<len then od x (i.toNat*z) else none
  | none=>none
 | some (.slice e),some i=>match c5 P e,x with
  | some z,.av eG b off len _ sz=>if z=eG/\0<=i/\i<len then some (.ptr b (off+i.toNat*z) sz) else none
  | some z,.cr eG es=>if z=eG/\0<=i then (es[i.toNat]?).map fun cs=>.cm cs 0 else none
  | _,_=>none
 | _,_=>none
def ii (lO:Nat->Option (Nat × Nat)) (cells:List ad) :List (Nat × ad)->Option (List ad)
 | []=>some cells
 | (i,v) ::rest=>match lO i,v.cells with
  | some (off,size),some vs=>if vs.length=size/\off+size<=cells.length then ii lO (bO cells off vs) rest else none
  | _,_=>none
def DB (P:Program) (fs:Array Field) (i:Nat) :Option (Nat × Nat) :=(fs[i]?).bind fun f=>(c5 P f.type).map fun n=>(f.offset,n)
def Bs (P:Program) (t:TypeId) (parts:List (Nat × ad)) :Option ad:=
 match ia P t,P.underlying t with
 | some zero,some (.struct fs)=>if !(fs.toList.all fun f=>(c5 P f.type).isSome) then none else (ii (DB P fs) zero parts).map .aM
 | some zero,some (.array _ e)=>match c5 P e with
  | some n=>(ii (fun i=>some (i*n,n)) zero parts).map .aM
  | none=>none
 | _,_=>none
def ey (zero:List ad) :Nat->List ad
 | 0=>[]
 | n+1=>zero++ey zero n
def Ex (P:Program) (h:bh) (t:TypeId) (len:Nat) (parts:List (Nat × ad)) :Option (ad × bh) :=
 match i7 P t with
 | some e=>match c5 P e,ia P e with
  | some z,some zero=>if zero.length=z/\len*z<=16777216 then
    (ii (fun i=>some (i*z,z)) (ey zero len) parts).map fun cs=>(.av z h.n 0 len len (len*z),h.push (.cells (len*z) cs))
   else none
  | _,_=>none
 | none=>none
def cP (op:BinOp) (k:IntKind) (a:Int) (k' : IntKind) (b:Int) :Option ad:=
 match op with
 | .shl=>if b<0 then none else some (.int k (k.wrap (a*2 ^ min b.toNat k.bits)))
 | .shr=>if b<0 then none else some (.int k (a.fdiv (2 ^ min b.toNat k.bits)))
 | .add=>if k=k' then some (.int k (k.wrap (a+b))) else none
 | .sub=>if k=k' then some (.int k (k.wrap (a - b))) else none
 | .mul=>if k=k' then some (.int k (k.wrap (a*b))) else none
 | .quo=>if k=k'/\b≠0 then some (.int k (k.wrap (a.tdiv b))) else none
 | .rem=>if k=k'/\b≠0 then some (.int k (a.tmod b)) else none
 | .and=>if k=k' then some (.int k (k.wrap (BitVec.ofInt k.bits a &&& BitVec.ofInt k.bits b).toNat)) else none
 | .or=>if k=k' then some (.int k (k.wrap (BitVec.ofInt k.bits a ||| BitVec.ofInt k.bits b).toNat)) else none
 | .xor=>if k=k' then some (.int k (k.wrap (BitVec.ofInt k.bits a ^^^ BitVec.ofInt k.bits b).toNat)) else none
 | .andNot=>if k=k' then some (.int k (k.wrap (BitVec.ofInt k.bits a &&& ~~~BitVec.ofInt k.bits b).toNat)) else none
 | .eql=>if k=k' then some (.bool (a == b)) else none
 | .neq=>if k=k' then some (.bool (a != b)) else none
 | .lss=>if k=k' then some (.bool (decide (a<b))) else none
 | .leq=>if k=k' then some (.bool (decide (a<=b))) else none
 | .gtr=>if k=k' then some (.bool (decide (a > b))) else none
 | .geq=>if k=k' then some (.bool (decide (a ≥ b))) else none
def ob (op:BinOp) (a b:List UInt8) :Option ad:=
 match op with
 | .eql=>some (.bool (a == b))
 | .neq=>some (.bool (!(a == b)))
 | .lss=>some (.bool (Op.bytesLess a b))
 | .leq=>some (.bool (Op.bytesLess a b||a == b))
 | .gtr=>some (.bool (!(Op.bytesLess a b||a == b)))
 | .geq=>some (.bool (!Op.bytesLess a b))
 | .add=>if a.length+b.length<=9223372036854775807 then some (.str (a++b)) else none
 | _=>none
def fk (P:Program) :Nat->TypeId->ad->ad->Option Bool
 | 0,_,_,_=>none
 | d+1,t,x,y=>
  match P.underlying t,x,y with
  | some .bool,.bool a,.bool b=>some (a == b)
  | some (.int _),.int k a,.int k' b=>if k=k' then some (a == b) else none
  | some .string,.str a,.str b=>some (a == b)
  | some (.struct fs),.aM xs,.aM bt=>if P.stoodInHeld t then none else eqFields P (fk P d) xs bt fs.toList
  | some (.array n e),.aM xs,.aM bt=>match c5 P e with
   | some z=>sd P (fk P d) e z xs bt n 0
   | none=>none
  | some (.slice _),.aK,.aK=>some true
  | some (.slice _),.aK,.av .. | some (.slice _),.aK,.cr .. | some (.slice _),.av ..,.aK | some (.slice _),.cr ..,.aK=>some false
  | _,_,_=>none
where
 eqFields (P:Program) (eq:TypeId->ad->ad->Option Bool) (xs bt:List ad) :List Field->Option Bool
  | []=>some true
  | f::fs=>if f.name= "_" then eqFields P eq xs bt fs else
   match iv P f.type xs f.offset,iv P f.type bt f.offset with
   | some a,some b=>match eq f.type a b with
    | some true=>eqFields P eq xs bt fs
    | some false=>some false
    | none=>none
   | _,_=>none
 sd (P:Program) (eq:TypeId->ad->ad->Option Bool) (e:TypeId) (z:Nat) (xs bt:List ad) :Nat->Nat->Option Bool
  | 0,_=>some true
  | n+1,i=>match iv P e xs (i*z),iv P e bt (i*z) with
   | some a,some b=>match eq e a b with
    | some true=>sd P eq e z xs bt n (i+1)
    | some false=>some false
    | none=>none
   | _,_=>none
def xc (P:Program) (t:TypeId) :ad->ad->Bool
 | .aM _,.aM _=>!P.eqGuardType P.depth t
 | _,_=>true
def gu (P:Program) (op:BinOp) (t:TypeId) (x y:ad) :Option ad:=
 match x,y with
 | .int k a,.int k' b=>cP op k a k' b
 | .str a,.str b=>ob op a b
 | x,y=>match op with
  | .eql=>if xc P t x y then (fk P 10000 t x y).map .bool else none
  | .neq=>if xc P t x y then (fk P 10000 t x y).map fun b=>.bool (!b) else none
  | _=>none
def rL (op:UnOp) (x:ad) :Option ad:=
 match op,x with
 | .not,.bool b=>some (.bool (!b))
 | .neg,.int k n=>some (.int k (k.wrap (0 - n)))
 | .xor,.int k n=>some (.int k (k.wrap (BitVec.ofInt k.bits (if k.signed then -1 else k.max) ^^^ BitVec.ofInt k.bits n).toNat))
 | _,_=>none
def oT (z:Nat) :Nat->List ad->List (List ad)
 | 0,_=>[]
 | n+1,cs=>cs.take z::oT z n (cs.drop z)
def jR (b:UInt8) :ad:=.int .u8 b.toNat
def contents (h:bh) (z:Nat) :ad->Option (List ad × Nat)
 | .aK=>some ([],0)
 | .cr eG es=>if z=eG then some (es.flatten,es.length) else none
 | .av eG b off len _ sz=>match h.f b with
  | .cells n cs=>if n=sz/\z=eG then some ((cs.drop off).take (len*z),len) else none
  | _=>none
 | .str s=>if z=1 then some (s.map jR,s.length) else none
 | _=>none
def c4:Nat:=140737488355328
def td (P:Program) (t:TypeId) :Option Nat:=((P.info? t).bind (·.zero)).map (·.cells.size)
def u2 (P:Program) (h:bh) (e:TypeId) (z by_:Nat) (s:ad) (xs:List ad) (n:Nat) :Option (ad × bh) :=
 if n=0 then (match s with | .aK | .cr .. | .av ..=>some (s,h) | _=>none)
 else if z=0\/by_=0\/td P e≠some z then none else match s with
  | .aK=>if n*by_<=c4 then some (.av z h.n 0 n n (n*z),h.push (.cells (n*z) xs)) else none
  | .av eG b off len cap sz=>match h.f b with
   | .cells m cs=>
    if m=sz/\z=eG/\(len+n)*by_<=c4 then
     if len+n<=cap then some (.av z b off (len+n) cap sz,h.set b (.cells m (bO cs (off+len*z) xs)))
     else if off+cap*z<sz then some (.av z h.n 0 (len+n) (len+n) ((len+n)*z),h.push (.cells ((len+n)*z) ((cs.drop off).take (len*z)++xs)))
     else if off=0 then some (.av z b 0 (len+n) (len+n) ((len+n)*z),h.set b (.cells ((len+n)*z) (cs.take (len*z)++xs)))
     else some (.av z h.n 0 (len+n) (len+n) ((len+n)*z),(h.set b .dead).push (.cells ((len+n)*z) ((cs.drop off).take (len*z)++xs)))
    else none
   | _=>none
  | _=>none
def r2 (P:Program) (h:bh) (t:TypeId) (s x:ad) :Option (ad × bh) :=
 match i7 P t with
 | none=>none
 | some e=>match c5 P e,jp P e with
  | some z,some by_=>match contents h z x with
   | none=>none
   | some (xs,n)=>u2 P h e z by_ s xs n
  | _,_=>none
def j7 (x:ad) (y:Nat) :Option Nat:=match x with | .int _ i=>if 0<=i/\i<=y then some i.toNat else none | _=>none
def hb (len cap:Nat) (dn aB dg:Option ad) :Option (Nat × Nat × Nat) :=
 match (match dg with | some v=>j7 v cap | none=>some cap) with
 | none=>none
 | some m=>match (match aB,dg with | some v,_=>j7 v m | none,none=>some len | none,some _=>none) with
  | none=>none
  | some h=>match (match dn with | some v=>j7 v h | none=>some 0) with
   | none=>none
   | some l=>some (l,h,m)
def DW (P:Program) (t:TypeId) (x:ad) (dn aB dg:Option ad) :Option ad:=
 match P.underlying t,x with
 | some (.array n e),x=>match c5 P e,hb n n dn aB dg with
  | some z,some (l,aR,m)=>match x with
   | .ptr b off sz=>if off+m*z<=sz then (if m=l then some (.cr z []) else some (.av z b (off+l*z) (aR - l) (m - l) sz)) else none
   | .cm cs off=>if off+n*z<=cs.length then some (.cr z (oT z (aR - l) (cs.drop (off+l*z)))) else none
   | _=>none
  | _,_=>none
 | some (.slice e),x=>match c5 P e,x with
  | some z,.av eG b off len cap sz=>if z=eG then (hb len cap dn aB dg).map fun (l,aR,m)=>if m=l then .av z b (off+l*z) 0 0 sz else .av z b (off+l*z) (aR - l) (m - l) sz else none
  | some z,.cr eG es=>if z=eG then (hb es.length es.length dn aB dg).map fun (l,aR,_)=>.cr z ((es.drop l).take (aR - l)) else none
  | some _,.aK=>(hb 0 0 dn aB dg).map fun _=>.aK
  | _,_=>none
 | some .string,.str s=>match dg with
  | none=>(hb s.length s.length dn aB none).map fun (l,aR,_)=>.str ((s.drop l).take (aR - l))
  | some _=>none
 | _,_=>none
def ye (P:Program) (t:TypeId) (x:ad) :Option ad:=
 match P.underlying t,x with
 | some .string,.str s=>some (.int .i64 s.length)
 | some (.array n _),_=>some (.int .i64 n)
 | some (.slice _),.aK=>some (.int .i64 0)
 | some (.slice _),.av _ _ _ len _ _=>some (.int .i64 len)
 | some (.slice _),.cr _ es=>some (.int .i64 es.length)
 | some (.map _ _),.iq=>some (.int .i64 0)
 | _,_=>none
def GF (P:Program) (h:bh) (t:TypeId) (l c:ad) :Option (ad × bh) :=
 match i7 P t,asInt l,asInt c with
 | some e,some l,some c=>match c5 P e,jp P e,ia P e with
  | some z,some by_,some zero=>
   if zero.length=z/\0<=l/\l<=c/\c<9223372036854775808/\by_*c<=c4 then
    some (.av z h.n 0 l.toNat c.toNat (c.toNat*z),h.push (.cells (c.toNat*z) (ey zero c.toNat)))
   else none
  | _,_,_=>none
 | _,_,_=>none
def za (P:Program) (h:bh) (t:TypeId) (d x:ad) :Option (ad × bh) :=
 match i7 P t with
 | none=>none
 | some e=>match c5 P e with
  | none=>none
  | some z=>match contents h z x with
   | none=>none
   | some (xs,n)=>match d with
    | .aK=>some (.int .i64 0,h)
    | .av eG b off len _ sz=>match h.f b with
     | .cells m cs=>if m=sz/\z=eG then some (.int .i64 ((min n len:Nat) :Int),h.set b (.cells m (bO cs off (xs.take (min n len*z))))) else none
     | _=>none
    | _=>none
def oc:List ad->Option (List UInt8)
 | []=>some []
 | .int .u8 n::r=>(oc r).map (UInt8.ofNat n.toNat::·)
 | _::_=>none
def w5 (P:Program) (h:bh) (src dst:TypeId) (x:ad) :Option ad:=
 match P.underlying src,P.underlying dst,x with
 | some _,some (.int k),.int _ n=>some (.int k (k.wrap n))
 | some _,some .string,.str s=>some (.str s)
 | some (.slice e),some .string,x=>match P.underlying e,x with
  | some (.int .u8),.aK=>some (.str [])
  | some (.int .u8),x=>match contents h 1 x,x with
   | some _,.str _=>none
   | some (cs,_),_=>(oc cs).map .str
   | none,_=>none
  | _,_=>none
 | _,_,_=>none
def y1 (P:Program) (src dst:TypeId) (x:ad) :Option ad:=
 match P.underlying src,P.underlying dst,x with
 | some _,some (.slice e),.str s=>match P.underlying e with
  | some (.int .u8)=>some (.cr 1 (s.map fun b=>[jR b]))
  | _=>none
 | _,_,_=>none
def y6 (P:Program) (t:TypeId) (x:ad) :Option ad:=
 match P.underlying t,x with
 | some (.array n _),_=>some (.int .i64 n)
 | some (.slice _),.aK=>some (.int .i64 0)
 | _,_=>none
def y8 (P:Program) (h:bh) (t:TypeId) (x:ad) :Option bh:=
 match P.underlying t,x with
 | some (.slice _),.aK=>some h
 | some (.slice _),.cr _ []=>some h
 | some (.slice e),.av z b off len _ sz=>if len=0 then some h else match ia P e,h.f b with
  | some zero,.cells m cs=>if m=sz/\zero.length=z then some (h.set b (.cells m (bO cs off (ey zero len)))) else none
  | _,_=>none
 | _,_=>none
def Au (P:Program) (t:TypeId) (x h7:ad) :Option ad:=
 match P.underlying t,x,asInt h7 with
 | some (.array n e),.aM cs,some i=>match c5 P e with
  | some z=>if 0<=i/\i<n then iv P e cs (i.toNat*z) else none
  | none=>none
 | some .string,.str s,some i=>if 0<=i then (s[i.toNat]?).map jR else none
 | _,_,_=>none
mutual
def ad.beq:ad->ad->Bool
 | .bool a,y=>match y with | .bool b=>(match a,b with | true,true=>true | false,false=>true | _,_=>false) | _=>false
 | .int k n,y=>match y with | .int k' hE=>decide (k=k')&&decide (n=hE) | _=>false
 | .str a,y=>match y with | .str b=>decide (a=b) | _=>false
 | .j5,y=>match y with | .j5=>true | _=>false
 | .aK,y=>match y with | .aK=>true | _=>false
 | .iq,y=>match y with | .iq=>true | _=>false
 | .jD,y=>match y with | .jD=>true | _=>false
 | .j4,y=>match y with | .j4=>true | _=>false
 | .aM a,y=>match y with | .aM b=>fJ a b | _=>false
 | .b5 a,y=>match y with | .b5 b=>fJ a b | _=>false
 | .ptr a b c,y=>match y with | .ptr fA bK c'=>Nat.beq a fA&&Nat.beq b bK&&Nat.beq c c' | _=>false
 | .cm a n,y=>match y with | .cm fA hE=>fJ a fA&&Nat.beq n hE | _=>false
 | .av a b c d e f,y=>match y with | .av fA bK c' tz fV ajr=>Nat.beq a fA&&Nat.beq b bK&&Nat.beq c c'&&Nat.beq d tz&&Nat.beq e fV&&Nat.beq f ajr | _=>false
 | .cr a b,y=>match y with | .cr fA bK=>Nat.beq a fA&&Bq b bK | _=>false
 | .fn a b c,y=>match y with | .fn fA bK c'=>Nat.beq a fA&&fJ b bK&&fJ c c' | _=>false
 | .mp a,y=>match y with | .mp fA=>Nat.beq a fA | _=>false
 | .it a,y=>match y with | .it fA=>Nat.beq a fA | _=>false
 | .hD a b,y=>match y with | .hD fA bK=>Nat.beq a fA&&ad.beq b bK | _=>false
 | .mT a,y=>match y with | .mT fA=>Nat.beq a fA | _=>false
 | .bad,y=>match y with | .bad=>true | _=>false
def fJ:List ad->List ad->Bool
 | [],y=>match y with | []=>true | _=>false
 | a::as,y=>match y with | b::bs=>ad.beq a b&&fJ as bs | _=>false
def Bq:List (List ad)->List (List ad)->Bool
 | [],y=>match y with | []=>true | _=>false
 | a::as,y=>match y with | b::bs=>fJ a b&&Bq as bs | _=>false
end
theorem la {a b:Nat} (h:Nat.beq a b=true) :a=b:=Nat.eq_of_beq_eq_true h
mutual
theorem ad.beq_eq:∀ {a b:ad},ad.beq a b=true->a=b
 | .bool a,b,h=>by cases b<;>simp only[ad.beq] at h<;>first | cases h | (rename_i b; cases a<;>cases b<;>first | rfl | cases h)
 | .int k n,b,h=>by cases b<;>simp only[ad.beq] at h<;>first | cases h | (simp only[Bool.and_eq_true,decide_eq_true_eq] at h; rw[h.1,h.2])
 | .str a,b,h=>by cases b<;>simp only[ad.beq] at h<;>first | cases h | (simp only[decide_eq_true_eq] at h; rw[h])
 | .j5,b,h=>by cases b<;>simp only[ad.beq] at h<;>first | rfl | cases h
 | .aK,b,h=>by cases b<;>simp only[ad.beq] at h<;>first | rfl | cases h
 | .iq,b,h=>by cases b<;>simp only[ad.beq] at h<;>first | rfl | cases h
 | .jD,b,h=>by cases b<;>simp only[ad.beq] at h<;>first | rfl | cases h
 | .j4,b,h=>by cases b<;>simp only[ad.beq] at h<;>first | rfl | cases h
 | .bad,b,h=>by cases b<;>simp only[ad.beq] at h<;>first | rfl | cases h
 | .aM a,b,h=>by cases b<;>simp only[ad.beq] at h<;>first | cases h | rw[u4 h]
 | .b5 a,b,h=>by cases b<;>simp only[ad.beq] at h<;>first | cases h | rw[u4 h]
 | .ptr ..,b,h=>by cases b<;>simp only[ad.beq] at h<;>first | cases h | (simp only[Bool.and_eq_true] at h; rw[la h.1.1,la h.1.2,la h.2])
 | .cm a n,b,h=>by cases b<;>simp only[ad.beq] at h<;>first | cases h | (simp only[Bool.and_eq_true] at h; rw[u4 h.1,la h.2])
 | .av ..,b,h=>by cases b<;>simp only[ad.beq] at h<;>first | cases h | (simp only[Bool.and_eq_true] at h; rw[la h.1.1.1.1.1,la h.1.1.1.1.2,la h.1.1.1.2,la h.1.1.2,la h.1.2,la h.2])
 | .cr a n,b,h=>by cases b<;>simp only[ad.beq] at h<;>first | cases h | (simp only[Bool.and_eq_true] at h; rw[la h.1,Ol h.2])
 | .fn a n m,b,h=>by cases b<;>simp only[ad.beq] at h<;>first | cases h | (simp only[Bool.and_eq_true] at h; rw[la h.1.1,u4 h.1.2,u4 h.2])
 | .mp a,b,h=>by cases b<;>simp only[ad.beq] at h<;>first | cases h | rw[la h]
 | .it a,b,h=>by cases b<;>simp only[ad.beq] at h<;>first | cases h | rw[la h]
 | .mT a,b,h=>by cases b<;>simp only[ad.beq] at h<;>first | cases h | rw[la h]
 | .hD a n,b,h=>by cases b<;>simp only[ad.beq] at h<;>first | cases h | (simp only[Bool.and_eq_true] at h; rw[la h.1,ad.beq_eq h.2])
theorem u4:∀ {a b:List ad},fJ a b=true->a=b
 | [],b,h=>by cases b<;>simp only[fJ] at h<;>first | rfl | cases h
 | x::a,b,h=>by cases b<;>simp only[fJ] at h<;>first | cases h | (simp only[Bool.and_eq_true] at h; rw[ad.beq_eq h.1,u4 h.2])
theorem Ol:∀ {a b:List (List ad)},Bq a b=true->a=b
 | [],b,h=>by cases b<;>simp only[Bq] at h<;>first | rfl | cases h
 | x::a,b,h=>by cases b<;>simp only[Bq] at h<;>first | cases h | (simp only[Bool.and_eq_true] at h; rw[u4 h.1,Ol h.2])
end
def wh:ad->Bool | .int .. | .str _ | .bool _=>true | _=>false
def ul (P:Program) :Nat->TypeId->Bool
 | 0,_=>false
 | d+1,t=>match P.underlying t,c5 P t with
  | some (.int _),_=>true
  | some .string,_=>true
  | some .bool,_=>true
  | some (.array n e),some m=>ul P d e&&(match c5 P e,e8 P e with | some z,some _=>Nat.ble (n*z) m&&Nat.ble 1 z | _,_=>false)
  | some (.struct fs),some m=>fs.toList.all fun f=>ul P d f.type&&(match c5 P f.type,e8 P f.type with | some z,some _=>Nat.ble (f.offset+z) m&&Nat.ble 1 z | _,_=>false)
  | _,_=>false
def nU (P:Program) (t:TypeId) (c:ad) :Bool:=
 match c with
 | .aM cs=>ul P 8 t&&(match e8 P t,c5 P t with | some true,some m=>Nat.beq cs.length m | _,_=>false)&&cs.all wh
 | _=>false
def m0 (P:Program) (dQ:TypeId) (k:ad) :List (ad × ad × Nat)->Nat->Option (Option (Nat × ad))
 | [],_=>some none
 | (k',v,_) ::es,i=>match nU P dQ k' with
  | false=>none
  | true=>match fk P 10000 dQ k k' with
   | some true=>match ad.beq k k' with | true=>some (some (i,v)) | false=>none
   | some false=>m0 P dQ k es (i+1)
   | none=>none
def mapOf (h:bh) :ad->Option (List (ad × ad × Nat))
 | .iq=>some []
 | .mp b=>match h.f b with | .map es _=>some es | _=>none
 | _=>none
def yR (P:Program) (t:TypeId) :Option ad:=((P.info? t).bind (·.zero)).map wb
def Gz (P:Program) (h:bh) (t:TypeId) (m k:ad) (ok:Bool) :Option ad:=
 match P.underlying t,mapOf h m with
 | some (.map dQ mZ),some es=>match nU P dQ k with
  | false=>none
  | true=>match m0 P dQ k es 0 with
   | some (some (_,v))=>some (if ok then .b5 [v,.bool true] else v)
   | some none=>(yR P mZ).map fun z=>if ok then .b5 [z,.bool false] else z
   | none=>none
 | _,_=>none
def yi (P:Program) (h:bh) (t:TypeId) (m k v:ad) :Option bh:=
 match P.underlying t,m with
 | some (.map dQ _),.mp b=>match h.f b with
  | .map es gS=>match nU P dQ k with
   | false=>none
   | true=>match m0 P dQ k es 0 with
    | some (some (i,_))=>some (h.set b (.map (es.modify i fun e=>(k,v,e.2.2)) gS))
    | some none=>some (h.set b (.map (es++[(k,v,gS)]) (gS+1)))
    | none=>none
  | _=>none
 | _,_=>none
def yf (P:Program) (h:bh) (t:TypeId) (x:ad) :Option ad:=
 match P.underlying t,x with
 | some (.map _ _),.mp b=>match h.f b with | .map es _=>some (.int .i64 es.length) | _=>none
 | _,_=>none
def He (P:Program) (h:bh) (t:TypeId) (x:ad) :Option (ad × bh) :=
 match P.underlying t,x with
 | some .string,.str s=>some (.it h.n,h.push (.iter s 0))
 | _,_=>none
def GM (h:bh) (x:ad) :Option (ad × bh) :=
 match x with
 | .it b=>match h.f b with
  | .iter s pos=>match Nat.blt pos s.length with
   | true=>some (.b5 [.bool true,.int .i64 pos,.int .i32 (Utf8.decode ⟨s.toArray⟩ pos).1],h.set b (.iter s (pos+(Utf8.decode ⟨s.toArray⟩ pos).2)))
   | false=>some (.b5 [.bool false],h)
  | _=>none
 | _=>none
def oV:List UInt8->List UInt8->Int
 | [],[]=>0
 | [],_::_=>-1
 | _::_,[]=>1
 | a::as,b::bs=>if a=b then oV as bs else if a<b then -1 else 1
def u7 (h:bh) (x:ad) :Option (List UInt8) :=match x with
 | .str s=>some s
 | x=>match contents h 1 x with
  | some (cs,_)=>oc cs
  | none=>none
def BA (h:bh) :List ad->Option ad
 | [x,y]=>match u7 h x,u7 h y with
  | some a,some b=>some (.int .i64 (oV a b))
  | _,_=>none
 | _=>none
def Db (fn:Func) :Bool:=fn.body.isNone&&fn.name == "internal/bytealg.Compare"&&(fn.origin == ""||fn.origin == "internal/bytealg.Compare")
inductive pH where
 | val (v:ad) (h:bh)
 | call (f:FuncId) (args:List ad) (h:bh)
def Dl:ad->ad->Option ad
 | .int k x,.int k' y=>if k=k' then some (.int k (if y<x then y else x)) else none
 | _,_=>none
def v2:ad->ad->Option ad
 | .int k x,.int k' y=>if k=k' then some (.int k (if x<y then y else x)) else none
 | _,_=>none
def jk:ad:=.b5 []
def Bn (P:Program) (h:bh) (t:TypeId) (s x:ad) :Option (ad × bh) :=
 match i7 P t,asInt x with
 | some e,some n=>match c5 P e,jp P e,ia P e with
  | some z,some by_,some zero=>
   if zero.length=z/\0<=n/\n<9223372036854775808/\n.toNat*by_<=c4 then u2 P h e z by_ s (ey zero n.toNat) n.toNat else none
  | _,_,_=>none
 | _,_=>none
def pL (P:Program) (h:bh) (b:Builtin) (ts:List TypeId) (args:List ad) :Option pH:=
 match b,ts,args with
 | .len,[t],[x]=>match yf P h t x with
  | some v=>some (.val v h)
  | none=>(ye P t x).map fun v=>.val v h
 | .append,[t,u],[s,x]=>match P.underlying u with
  | some (.int _)=>(Bn P h t s x).map fun (v,h')=>.val v h'
  | none=>none
  | _=>(r2 P h t s x).map fun (v,h')=>.val v h'
 | .copy,[t,_],[d,x]=>(za P h t d x).map fun (v,h')=>.val v h'
 | .cap,[t],[x]=>(y6 P t x).map fun v=>.val v h
 | .clear,[t],[x]=>(y8 P h t x).map fun h'=>.val (.b5 []) h'
 | .min,_,[x,y]=>(Dl x y).map fun v=>.val v h
 | .max,_,[x,y]=>(v2 x y).map fun v=>.val v h
 | _,_,_=>none
def AE (P:Program) (t:TypeId) (name:String) :Option FuncId:=
 match P.underlying t with
 | some (.pointer _) | none=>none
 | _=>match P.info? t with
  | some i=>match i.methods.find? (·.name == name) with
   | some m=>match m.path.toList,m.func with
    | [],some (f,false)=>some f
    | _,_=>none
   | none=>none
  | none=>none
def D4 (t:TypeId) (z:ad) (ok:Bool) :ad->Option ad
 | .hD gP v=>match Nat.beq gP t with
  | true=>match ok with | true=>some (.b5 [v,.bool true]) | false=>some v
  | false=>match ok with | true=>some (.b5 [z,.bool false]) | false=>none
 | .j4=>match ok with | true=>some (.b5 [z,.bool false]) | false=>none
 | _=>none
def Hy (P:Program) (t:TypeId) :Option ad:=match P.underlying t with
 | some (.interface _) | none=>none
 | _=>yR P t
def va (P:Program) (h:bh) (aN:Operand->ad) (c:Call) :Option pH:=
 match c.callee with
 | .builtin b=>pL P h b c.argTypes.toList (c.args.toList.map aN)
 | .value f=>match aN f with
  | .fn g first gQ=>match P.funcs[g]? with
   | some fn=>if fn.body.isSome/\fn.name≠ "runtime.NumGoroutine" then some (.call g (first++c.args.toList.map aN++gQ) h)
    else if Db fn then (BA h (first++c.args.toList.map aN++gQ)).map fun v=>.val v h else none
   | none=>none
  | _=>none
 | .invoke x name=>match aN x with
  | .hD t v=>match AE P t name with
   | some g=>match P.funcs[g]? with
    | some fn=>if fn.body.isSome/\fn.name≠ "runtime.NumGoroutine" then some (.call g (v::c.args.toList.map aN) h) else none
    | none=>none
   | none=>none
  | _=>none
def dw (P:Program) (h:bh) (aN:Operand->ad) (op:Op) :Option pH:=
 let v (x:Option ad) :Option pH:=x.map fun y=>.val y h
 let w (x:Option (ad × bh)) :Option pH:=x.map fun y=>.val y.1 y.2
 match op with
 | .move x | .assign x=>some (.val (aN x) h)
 | .pick c a b=>match aN c with | .bool t=>some (.val (if t then aN a else aN b) h) | _=>none
 | .alloc t=>(ia P t).map fun z=>.val (.ptr h.n 0 z.length) (h.push (.cells z.length z))
 | .box _ x=>(aN x).cells.map fun cs=>.val (.ptr h.n 0 cs.length) (h.push (.cells cs.length cs))
 | .build t parts=>v (Bs P t (parts.toList.map fun p=>(p.1,aN p.2)))
 | .buildSlice t len parts=>w (Ex P h t len (parts.toList.map fun p=>(p.1,aN p.2)))
 | .load t a=>v (sQ P h t (aN a))
 | .store t a x=>(A2 P h t (aN a) (aN x)).map fun h'=>.val jk h'
 | .nilCheck x=>match aN x with | .ptr b o s=>some (.val (.ptr b o s) h) | .cm c o=>some (.val (.cm c o) h) | .fn f a b=>some (.val (.fn f a b) h) | _=>none
 | .binOp op t x y _=>v (gu P op t (aN x) (aN y))
 | .unOp op _ x=>v (rL op (aN x))
 | .convert s d x=>match y1 P s d (aN x) with
  | some c=>some (.val c h)
  | none=>v (w5 P h s d (aN x))
 | .makeInterface t x=>match P.underlying t with
  | some (.interface _) | none=>none
  | _=>some (.val (.hD t (aN x)) h)
 | .makeFunc (.func f) first gQ=>some (.val (.fn f (first.toList.map aN) (gQ.toList.map aN)) h)
 | .makeSlice t l c=>w (GF P h t (aN l) (aN c))
 | .slice t x dn aB dg=>v (DW P t (aN x) (dn.map aN) (aB.map aN) (dg.map aN))
 | .fieldAddr s x f=>v (ET P s (aN x) f)
 | .field t x f=>match aN x,xe P t f with
  | .aM cs,some fd=>v (iv P fd.type cs fd.offset)
  | _,_=>none
 | .indexAddr t x i=>v (Da P t (aN x) (aN i))
 | .index t x i=>v (Au P t (aN x) (aN i))
 | .extract x i=>match aN x with | .b5 vs=>v vs[i]? | _=>none
 | .call c=>va P h aN c
 | .makeMap t r=>match P.underlying t,(match r with | none=>true | some x=>(asInt (aN x)).isSome) with | some (.map _ _),true=>some (.val (.mp h.n) (h.push (.map [] 0))) | _,_=>none
 | .lookup t m k ok=>v (Gz P h t (aN m) (aN k) ok)
 | .mapUpdate t m k x | .insert t m k x=>(yi P h t (aN m) (aN k) (aN x)).map fun h'=>.val jk h'
 | .range t x=>w (He P h t (aN x))
 | .next it true=>w (GM h (aN it))
 | .typeAssert x _ t ok=>match Hy P t with | some z=>v (D4 t z ok (aN x)) | none=>none
 | _=>none
structure M where
 r:Nat
 s:Nat
 T:Nat
abbrev dd:=Nat->Option M
def live:bp->Bool
 | .cells .. | .map .. | .iter ..=>true
 | _=>false
def oC:bp->Nat
 | .map ..=>1
 | .iter ..=>2
 | _=>0
def mh (h:bh) (μ:dd) (k:Nat) :Prop:=∃ b m,live (h.f b)=true/\μ b=some m/\m.r=k
def uS (h:bh) (b sz:Nat) :Prop:=h.f b=.dead\/∃ n cs,h.f b=.cells n cs/\sz<n
structure Cell (w:World) (R:Nat->Prop) (h:bh) (μ:dd) (b o:Nat) (v:Value) :Prop where
 here:w.cell? ⟨b,o,none⟩=some v
 one:v.oneCell'=true
 ro:R b
 free:¬ mh h μ b
inductive aZ (w:World) (R:Nat->Prop) (h:bh) (μ:dd) :ad->Value->Prop where
 | bool (b:Bool) :aZ w R h μ (.bool b) (.bool b)
 | int (k:IntKind) (n:Int) :aZ w R h μ (.int k n) (.int k n)
 | str (bs:ByteArray) :aZ w R h μ (.str bs.data.toList) (.string bs)
 | j5:aZ w R h μ .j5 (.pointer none)
 | aK:aZ w R h μ .aK (.slice none 0 0)
 | iq:aZ w R h μ .iq (.map none)
 | jD:aZ w R h μ .jD .nilFunc
 | j4:aZ w R h μ .j4 .nilIface
 | aM (cs:List ad) (vs:Array Value) (ar:vs.size=cs.length) (h1:∀ (j:Nat) (v:Value),vs[j]? = some v->v.oneCell'=true)
   (ay:∀ (j:Nat) (c:ad) (v:Value),cs[j]? = some c->vs[j]? = some v->aZ w R h μ c v) :aZ w R h μ (.aM cs) (.agg vs)
 | b5 (cs:List ad) (vs:Array Value) (ar:vs.size=cs.length)
   (ay:∀ (j:Nat) (c:ad) (v:Value),cs[j]? = some c->vs[j]? = some v->aZ w R h μ c v) :aZ w R h μ (.b5 cs) (.tuple vs)
 | ptr (b off sz:Nat) (cs:List ad) (m:M) (ai:h.f b=.cells sz cs) (hm:μ b=some m) :
   aZ w R h μ (.ptr b off sz) (.pointer (some ⟨m.r,m.s+off,none⟩))
 | nn (b off sz:Nat) (a:Addr) (aA:uS h b sz) :aZ w R h μ (.ptr b off sz) (.pointer (some a))
 | cm (cs:List ad) (off blk o:Nat) (eT:Nat->Value) (ak:∀ j,j<cs.length->Cell w R h μ blk (o+j) (eT j))
   (ay:∀ (j:Nat) (c:ad),cs[j]? = some c->aZ w R h μ c (eT j)) :aZ w R h μ (.cm cs off) (.pointer (some ⟨blk,o+off,none⟩))
 | av (z b off len cap sz cap' : Nat) (cs:List ad) (m:M) (ai:h.f b=.cells sz cs) (hm:μ b=some m) (ar:len<=cap) (ax:off+cap*z<=sz)
   (ak:(off+cap*z<sz/\cap'=cap)\/(off+cap*z=sz/\cap<=cap'/\m.s+off+cap'*z<=m.T)) :
   aZ w R h μ (.av z b off len cap sz) (.slice (some ⟨m.r,m.s+off,none⟩) len cap')
 | g4 (z b off len cap sz cap' : Nat) (a:Addr) (ar:len<=cap) (ak:cap<=cap') (aA:uS h b sz) :aZ w R h μ (.av z b off len cap sz) (.slice (some a) len cap')
 | iy (z b off sz:Nat) (a:Addr) (cs:List ad) (m:M) (ai:h.f b=.cells sz cs) (hm:μ b=some m) :aZ w R h μ (.av z b off 0 0 sz) (.slice (some a) 0 0)
 | cr (z:Nat) (es:List (List ad)) (blk off cap:Nat) (eT:Nat->Nat->Value) (ar:es.length<=cap) (az:∀ e,e∈es->e.length=z)
   (ak:∀ i j,i<es.length->j<z->Cell w R h μ blk (off+(i*z+j)) (eT i j))
   (ay:∀ (i:Nat) (e:List ad),es[i]? = some e->∀ (j:Nat) (c:ad),e[j]? = some c->aZ w R h μ c (eT i j)) :
   aZ w R h μ (.cr z es) (.slice (some ⟨blk,off,none⟩) es.length cap)
 | go (z:Nat) (a:Addr) (cap:Nat) :aZ w R h μ (.cr z []) (.slice (some a) 0 cap)
 | fn (f:FuncId) (first gQ:List ad) (fs cs:Array Value) (aL:fs.size=first.length) (ak:cs.size=gQ.length)
   (h1:∀ (j:Nat) (c:ad) (v:Value),first[j]? = some c->fs[j]? = some v->aZ w R h μ c v) (ag:∀ (j:Nat) (c:ad) (v:Value),gQ[j]? = some c->cs[j]? = some v->aZ w R h μ c v) :
   aZ w R h μ (.fn f first gQ) (.func (.func f) fs cs)
 | mp (b:Nat) (m:M) (ai:oC (h.f b)=1) (hm:μ b=some m) :aZ w R h μ (.mp b) (.map (some m.r))
 | it (b:Nat) (m:M) (ai:oC (h.f b)=2) (hm:μ b=some m) :aZ w R h μ (.it b) (.pointer (some ⟨m.r,0,none⟩))
 | hD (t:TypeId) (c:ad) (v:Value) (ay:aZ w R h μ c v) :aZ w R h μ (.hD t c) (.iface t v)
 | mT (l:Nat) :aZ w R h μ (.mT l) (.func (.yield l) #[] #[])
 | bad (v:Value) :aZ w R h μ .bad v
structure Ext0 (w:World) (h:bh) (μ:dd) (w' : World) (h' : bh) (μ' : dd) :Prop where
 os:w'.os=w.os
 tape:w'.tape=w.tape
 output:w'.output=w.output
 size:w.heap.size<=w'.heap.size
 c6:∀ k,k<w.heap.size->¬ mh h μ k->w'.heap[k]? = w.heap[k]?
 own:∀ k,mh h' μ' k->mh h μ k\/w.heap.size<=k
 cells:∀ b sz cs m,h.f b=.cells sz cs->μ b=some m->(∃ cs',h'.f b=.cells sz cs'/\μ' b=some m)\/uS h' b sz
 gone:∀ b sz,uS h b sz->uS h' b sz
 GR:∀ b k m,oC (h.f b)=k+1->μ b=some m->oC (h'.f b)=k+1/\μ' b=some m
 n:h.n<=h'.n
 drawn:w.drawn<=w'.drawn:=by first | exact Nat.le_refl _ | exact Nat.le_succ _ | assumption
structure ej (w:World) (h:bh) (μ:dd) (w' : World) (h' : bh) (μ' : dd) :Prop extends Ext0 w h μ w' h' μ' where
 qJ:∀ b,b<h.n->μ b=none->μ' b=none
theorem Ext0.refl (w:World) (h:bh) (μ:dd) :Ext0 w h μ w h μ:=
 ⟨rfl,rfl,rfl,Nat.le_refl _,fun _ _ _=>rfl,fun _ h=>.inl h,fun b sz cs m h1 ag=>.inl ⟨cs,h1,ag⟩,fun _ _ h=>h,fun _ _ _ h1 ag=>⟨h1,ag⟩,Nat.le_refl _,Nat.le_refl _⟩
theorem ej.refl (w:World) (h:bh) (μ:dd) :ej w h μ w h μ:=⟨.refl w h μ,fun _ _ h=>h⟩
theorem Ext0.trans {w cb w2:World} {h h1 ag:bh} {μ hJ rS:dd} (a:Ext0 w h μ cb h1 hJ) (b:Ext0 cb h1 hJ w2 ag rS) :Ext0 w h μ w2 ag rS:=by
 refine⟨b.os.trans a.os,b.tape.trans a.tape,b.output.trans a.output,Nat.le_trans a.size b.size,?_,?_,?_,fun _ _ aA=>b.gone _ _ (a.gone _ _ aA),?_,Nat.le_trans a.n b.n,Nat.le_trans a.drawn b.drawn⟩
 ·intro k hk aI;rw[b.c6 k (Nat.lt_of_lt_of_le hk a.size) (fun ax=>(a.own k ax).elim aI (by omega)),a.c6 k hk aI]
 ·intro k hk;rcases b.own k hk with h | h
  ·exact a.own k h
  ·exact .inr (Nat.le_trans a.size h)
 ·intro blk sz cs m ai hm;rcases a.cells blk sz cs m ai hm with ⟨cs',aq,aH⟩ | aq
  ·exact b.cells blk sz cs' m aq aH
  ·exact .inr (b.gone _ _ aq)
 ·intro blk k m ai hm;obtain⟨aq,aH⟩:=a.GR blk k m ai hm;exact b.GR blk k m aq aH
theorem ej.trans {w cb w2:World} {h h1 ag:bh} {μ hJ rS:dd} (a:ej w h μ cb h1 hJ) (b:ej cb h1 hJ w2 ag rS) :ej w h μ w2 ag rS:=
 ⟨a.toExt0.trans b.toExt0,fun blk ai hm=>b.qJ blk (Nat.lt_of_lt_of_le ai a.n) (a.qJ blk ai hm)⟩
theorem Cell.ext {w w' : World} {h h' : bh} {μ μ' : dd} {R:Nat->Prop} {b o:Nat} {v:Value} (e:Ext0 w h μ w' h' μ') (c:Cell w R h μ b o v) :Cell w' R h' μ' b o v:=by
 have ai:b<w.heap.size:=World.block_lt_of_cell? _ _ c.here;refine⟨?_,c.one,c.ro,fun ax=>?_⟩
 ·rw[World.cell?_of_block (w:=w) (a:=⟨b,o,none⟩) (e.c6 b ai c.free)]; exact c.here
 ·rcases e.own b ax with h1 | h1
  ·exact c.free h1
  ·omega
theorem aZ.nE {w w' : World} {h h' : bh} {μ μ' : dd} {R:Nat->Prop} {c:ad} {v:Value} (e:Ext0 w h μ w' h' μ') (ay:aZ w R h μ c v) :aZ w' R h' μ' c v:=by
 induction ay with
 | bool b=>exact .bool b
 | int k n=>exact .int k n
 | str bs=>exact .str bs
 | j5=>exact .j5
 | aK=>exact .aK
 | iq=>exact .iq
 | jD=>exact .jD
 | j4=>exact .j4
 | aM cs vs ar h1 ay aY=>exact .aM cs vs ar h1 aY
 | b5 cs vs ar ay aY=>exact .b5 cs vs ar aY
 | ptr b off sz cs m ai hm=>
  rcases e.cells b sz cs m ai hm with ⟨cs',h1,ag⟩ | h1
  ·exact .ptr b off sz cs' m h1 ag
  ·exact .nn b off sz _ h1
 | nn b off sz a aA=>exact .nn b off sz a (e.gone _ _ aA)
 | cm cs off blk o eT ak ay aY=>exact .cm cs off blk o eT (fun j am=>(ak j am).ext e) aY
 | av z b off len cap sz cap' cs m ai hm ar ax ak=>
  rcases e.cells b sz cs m ai hm with ⟨cs',h1,ag⟩ | h1
  ·exact .av z b off len cap sz cap' cs' m h1 ag ar ax ak
  ·exact .g4 z b off len cap sz cap' _ ar (by omega) h1
 | g4 z b off len cap sz cap' a ar ak aA=>exact .g4 z b off len cap sz cap' a ar ak (e.gone _ _ aA)
 | iy z b off sz a cs m ai hm=>
  rcases e.cells b sz cs m ai hm with ⟨cs',h1,ag⟩ | h1
  ·exact .iy z b off sz a cs' m h1 ag
  ·exact .g4 z b off 0 0 sz 0 a (Nat.le_refl _) (Nat.le_refl _) h1
 | cr z es blk off cap eT ar az ak ay aY=>exact .cr z es blk off cap eT ar az (fun i j aB am=>(ak i j aB am).ext e) aY
 | go z a cap=>exact .go z a cap
 | fn f first gQ fs cs aL ak h1 ag eX mG=>exact .fn f first gQ fs cs aL ak eX mG
 | mp b m ai hm=>
  obtain⟨h1,ag⟩:=e.GR b 0 m ai hm;exact .mp b m h1 ag
 | it b m ai hm=>
  obtain⟨h1,ag⟩:=e.GR b 1 m ai hm;exact .it b m h1 ag
 | hD t c v ay aY=>exact .hD t c v aY
 | mT l=>exact .mT l
 | bad v=>exact .bad v
theorem aZ.ext {w w' : World} {h h' : bh} {μ μ' : dd} {R:Nat->Prop} {c:ad} {v:Value} (e:ej w h μ w' h' μ') (ay:aZ w R h μ c v) :aZ w' R h' μ' c v:=ay.nE e.toExt0
def uQ (w:World) (R:Nat->Prop) (h:bh) (μ:dd) (m:M) :bp->Prop
 | .cells sz cs=>cs.length=sz/\m.s+sz<=m.T/\∃ arr e gL,w.heap[m.r]? = some (.cells arr e gL)/\arr.size=m.T/\(gL=(0,0)\/m.T<gL.1) ∧
   ∀ (j:Nat) (c:ad),cs[j]? = some c->∃ v:Value,arr[m.s+j]? = some v/\v.oneCell'=true/\aZ w R h μ c v
 | .map es gS=>∃ ef,w.heap[m.r]? = some (.map ef gS)/\ef.size=es.length ∧
   ∀ (j:Nat) (k v:ad) (b:Nat),es[j]? = some (k,v,b)->∃ x:MapEntry,ef[j]? = some x/\aZ w R h μ k x.key/\aZ w R h μ v x.val/\x.born=b
 | .iter s pos=>∃ bs:ByteArray,bs.data.toList=s/\w.heap[m.r]? = some (.stringIter bs pos)
 | _=>True
theorem uQ.ext {w w' : World} {h h' : bh} {μ μ' : dd} {R:Nat->Prop} {m:M} (e:Ext0 w h μ w' h' μ') (hw:w'.heap[m.r]? = w.heap[m.r]?) :
  ∀ {c:bp},uQ w R h μ m c->uQ w' R h' μ' m c
 | .cells sz cs,⟨h1,ag,arr,t,gL,aq,aH,bd,bM⟩=>⟨h1,ag,arr,t,gL,hw.trans aq,aH,bd,fun j c am=>let ⟨v,a,b,d⟩:=bM j c am; ⟨v,a,b,d.nE e⟩⟩
 | .map es gS,⟨ef,h1,ag,aq⟩=>⟨ef,hw.trans h1,ag,fun j k v b am=>let ⟨x,a,dE,d,f⟩:=aq j k v b am; ⟨x,a,dE.nE e,d.nE e,f⟩⟩
 | .iter s pos,⟨bs,h1,ag⟩=>⟨bs,h1,hw.trans ag⟩
 | .none,_=>trivial
 | .dead,_=>trivial
structure cp (R:Nat->Prop) (B:Nat) (w:World) (h:bh) (μ:dd) :Prop where
 blk:∀ b m,μ b=some m->uQ w R h μ m (h.f b)
 inj:∀ b bK m cV,live (h.f b)=true->live (h.f bK)=true->μ b=some m->μ bK=some cV->m.r=cV.r->b=bK
 base:∀ b m,live (h.f b)=true->μ b=some m->B<=m.r
 fresh:∀ b,h.n<=b->h.f b=.none
 up:∀ k,B<=k->R k
 size:B<=w.heap.size
 lL:∀ b,h.n<=b->μ b=none
theorem cp.r4 {R:Nat->Prop} {B:Nat} {w:World} {h:bh} {μ:dd} (rel:cp R B w h μ) {b:Nat} {m:M} (hm:μ b=some m) :b<h.n:=by
 rcases Nat.lt_or_ge b h.n with h1 | h1
 ·exact h1
 ·rw[rel.lL b h1] at hm; cases hm
theorem cp.lt {R:Nat->Prop} {B:Nat} {w:World} {h:bh} {μ:dd} (rel:cp R B w h μ) {b:Nat} {m:M} (ar:live (h.f b)=true) (hm:μ b=some m) :m.r<w.heap.size:=by
 have ai:=rel.blk b m hm;cases ak:h.f b with
 | none=>rw[ak] at ar; cases ar
 | dead=>rw[ak] at ar; cases ar
 | cells sz cs=>
  rw[ak] at ai;obtain⟨_,_,arr,t,gL,aq,_⟩:=ai;rcases Nat.lt_or_ge m.r w.heap.size with h | h
  ·exact h
  ·rw[Array.getElem?_eq_none h] at aq; cases aq
 | map es gS=>
  rw[ak] at ai;obtain⟨ef,aq,_⟩:=ai;rcases Nat.lt_or_ge m.r w.heap.size with h | h
  ·exact h
  ·rw[Array.getElem?_eq_none h] at aq; cases aq
 | iter s pos=>
  rw[ak] at ai;obtain⟨bs,_,aq⟩:=ai;rcases Nat.lt_or_ge m.r w.heap.size with h | h
  ·exact h
  ·rw[Array.getElem?_eq_none h] at aq; cases aq
theorem cp.uM {R:Nat->Prop} {B:Nat} {w w' : World} {h h' : bh} {μ μ' : dd} (rel:cp R B w h μ) (e:Ext0 w h μ w' h' μ') (hL:Nat)
  (qh:∀ b,b≠hL->live (h'.f b)=true->h'.f b=h.f b/\μ' b=μ b/\∀ m,μ b=some m->w'.heap[m.r]? = w.heap[m.r]?)
  (mx:∀ m,μ' hL=some m->uQ w' R h' μ' m (h'.f hL))
  (hO:∀ b m cV,b≠hL->live (h'.f b)=true->live (h'.f hL)=true->μ b=some m->μ' hL=some cV->m.r≠cV.r)
  (Ft:∀ m,live (h'.f hL)=true->μ' hL=some m->B<=m.r)
  (alt:∀ b,h'.n<=b->h'.f b=.none) (al7:∀ b,h'.n<=b->μ' b=none) :cp R B w' h' μ':=by
 refine⟨?_,?_,?_,alt,rel.up,Nat.le_trans rel.size e.size,al7⟩
 ·intro b m hm;by_cases ai:b=hL
  ·subst ai; exact mx m hm
  ·cases ar:live (h'.f b) with
   | false=>cases ak:h'.f b<;>first | trivial | (rw[ak] at ar; cases ar)
   | true=>
    obtain⟨h1,ag,aq⟩:=qh b ai ar;rw[ag] at hm;rw[h1];exact (rel.blk b m hm).ext e (aq m hm)
 ·intro b bK m cV ar dN hm cl aC;by_cases ai:b=hL<;>by_cases ca:bK=hL
  ·rw[ai,ca]
  ·subst ai;obtain⟨h1,ag,aq⟩:=qh bK ca dN;rw[ag] at cl;exact absurd aC.symm (hO bK cV m ca dN ar cl hm)
  ·subst ca;obtain⟨h1,ag,aq⟩:=qh b ai ar;rw[ag] at hm;exact absurd aC (hO b m cV ai ar dN hm cl)
  ·obtain⟨h1,ag,_⟩:=qh b ai ar;obtain⟨aq,aH,_⟩:=qh bK ca dN;rw[h1] at ar; rw[ag] at hm; rw[aq] at dN; rw[aH] at cl;exact rel.inj b bK m cV ar dN hm cl aC
 ·intro b m ar hm;by_cases ai:b=hL
  ·subst ai; exact Ft m ar hm
  ·obtain⟨h1,ag,_⟩:=qh b ai ar;rw[h1] at ar; rw[ag] at hm;exact rel.base b m ar hm
theorem cp.push {R:Nat->Prop} {B:Nat} {w w' : World} {h:bh} {μ:dd} (rel:cp R B w h μ) (cs:List ad) (arr:Array Value) (t:TypeId)
  (qg:w'.os=w.os) (ud:w'.tape=w.tape) (l0:w'.output=w.output) (kB:w'.heap=w.heap.push (.cells arr t (0,0)))
  (h6:cs.length<=arr.size) (ay:∀ (j:Nat) (c:ad),cs[j]? = some c->∃ v:Value,arr[j]? = some v/\v.oneCell'=true/\aZ w R h μ c v) (ra:w.drawn<=w'.drawn:=by first | exact Nat.le_refl _ | exact Nat.le_succ _ | assumption) :
  ej w h μ w' (h.push (.cells cs.length cs)) (ck μ h.n (some ⟨w.heap.size,0,arr.size⟩)) ∧
  cp R B w' (h.push (.cells cs.length cs)) (ck μ h.n (some ⟨w.heap.size,0,arr.size⟩)) :=by
 have aI:h.f h.n=.none:=rel.fresh _ (Nat.le_refl _);have e:ej w h μ w' (h.push (.cells cs.length cs)) (ck μ h.n (some ⟨w.heap.size,0,arr.size⟩)) :=by
  refine⟨⟨qg,ud,l0,by simp[kB],?_,?_,?_,?_,?_,?_,ra⟩,?_⟩
  ·intro k hk _;rw[kB,Array.getElem?_push,if_neg (by omega)]
  ·rintro k ⟨b,m,ar,hm,rfl⟩;by_cases ai:b=h.n
   ·subst ai; simp at hm; subst hm; exact .inr (Nat.le_refl _)
   ·rw[cB _ _ _ _ ai] at hm;simp only[eS,ga,cB _ _ _ _ ai] at ar;exact .inl ⟨b,m,ar,hm,rfl⟩
  ·intro b sz cs' m ai hm;have:b≠h.n:=fun aR=>by rw[aR,aI] at ai; cases ai
   exact .inl ⟨cs',by simp only[eS,ga,cB _ _ _ _ this]; exact ai,by rw[cB _ _ _ _ this]; exact hm⟩
  ·rintro b sz (ai | ⟨n,cs',ai,aP⟩)
   ·have:b≠h.n:=fun aR=>by rw[aR,aI] at ai; cases ai
    exact .inl (by simp only[eS,ga,cB _ _ _ _ this]; exact ai)
   ·have:b≠h.n:=fun aR=>by rw[aR,aI] at ai; cases ai
    exact .inr ⟨n,cs',by simp only[eS,ga,cB _ _ _ _ this]; exact ai,aP⟩
  ·intro b k m ai hm;have:b≠h.n:=fun aR=>by rw[aR,aI] at ai; cases ai
   exact⟨by simp only[eS,ga,cB _ _ _ _ this]; exact ai,by rw[cB _ _ _ _ this]; exact hm⟩
  ·simp[eS,ga]
  ·intro b ai hm;rw[cB _ _ _ _ (by omega)]; exact hm
 refine⟨e,rel.uM e.toExt0 h.n ?_ ?_ ?_ ?_ ?_ ?_⟩
 ·intro b ai ar;simp only[eS,ga,cB _ _ _ _ ai] at ar ⊢;exact⟨trivial,trivial,fun m hm=>by rw[kB,Array.getElem?_push,if_neg (by have:=rel.lt ar hm; omega)]⟩
 ·intro m hm;simp at hm; subst hm;simp only[eS,ga,kz];refine⟨rfl,by simpa using h6,arr,t,(0,0),by simp[kB],rfl,.inl rfl,fun j c am=>?_⟩;obtain⟨v,h1,ag,aq⟩:=ay j c am;exact⟨v,by simpa using h1,ag,aq.ext e⟩
 ·intro b m cV ai ar _ hm cl;simp only[eS,ga,cB _ _ _ _ ai] at ar;simp at cl; subst cl;have:=rel.lt ar hm;simp only[ne_eq]; omega
 ·intro m _ hm;simp at hm; subst hm;exact rel.size
 ·intro b ai;simp only[eS,ga] at ai ⊢;rw[cB _ _ _ _ (by omega)];exact rel.fresh b (by omega)
 ·intro b ai;simp only[eS,ga] at ai;rw[cB _ _ _ _ (by omega)];exact rel.lL b (by omega)
theorem cp.same {R:Nat->Prop} {B:Nat} {w:World} {h h' : bh} {μ:dd} (rel:cp R B w h μ) (aL:h'.f=h.f) (aI:h'.n=h.n) :ej w h μ w h' μ/\cp R B w h' μ:=by
 have e:ej w h μ w h' μ:=by
  refine⟨⟨rfl,rfl,rfl,Nat.le_refl _,fun _ _ _=>rfl,?_,?_,?_,?_,by omega,Nat.le_refl _⟩,fun _ _ hm=>hm⟩
  ·rintro k ⟨bK,cV,dN,cl,rfl⟩;rw[aL] at dN; exact .inl ⟨bK,cV,dN,cl,rfl⟩
  ·intro bK sz' cs' cV ca cl;exact .inl ⟨cs',by rw[aL]; exact ca,cl⟩
  ·intro bK sz' aA;unfold uS at aA ⊢; rw[aL]; exact aA
  ·intro bK k' cV ca cl;exact⟨by rw[aL]; exact ca,cl⟩
 refine⟨e,rel.uM e.toExt0 h.n (fun b _ _=>⟨by rw[aL],rfl,fun _ _=>rfl⟩) (fun m hm=>?_) (fun b m cV _ _ _ _ hm=>?_) (fun m _ hm=>?_) (fun b ai=>by rw[aL]; exact rel.fresh b (by omega)) (by rw[aI]; exact rel.lL)⟩
 all_goals (rw[rel.lL h.n (Nat.le_refl _)] at hm; cases hm)
theorem cp.kill {R:Nat->Prop} {B:Nat} {w:World} {h h' : bh} {μ:dd} (rel:cp R B w h μ) {b sz:Nat} {cs:List ad} (ai:h.f b=.cells sz cs) (o4:b<h.n)
  (aL:h'.f=ck h.f b .dead) (aI:h'.n=h.n) :ej w h μ w h' μ/\cp R B w h' μ:=by
 have e:ej w h μ w h' μ:=by
  refine⟨⟨rfl,rfl,rfl,Nat.le_refl _,fun _ _ _=>rfl,?_,?_,?_,?_,by omega,Nat.le_refl _⟩,fun _ _ hm=>hm⟩
  ·rintro k ⟨bK,cV,dN,cl,rfl⟩;rw[aL] at dN;by_cases cy:bK=b
   ·subst cy; simp[live] at dN
   ·rw[cB _ _ _ _ cy] at dN; exact .inl ⟨bK,cV,dN,cl,rfl⟩
  ·intro bK sz' cs' cV ca cl;by_cases cy:bK=b
   ·subst cy; exact .inr (.inl (by rw[aL]; simp))
   ·exact .inl ⟨cs',by rw[aL,cB _ _ _ _ cy]; exact ca,cl⟩
  ·rintro bK sz' aA;by_cases cy:bK=b
   ·subst cy; exact .inl (by rw[aL]; simp)
   ·rcases aA with aA | ⟨n,cs',aA,aP⟩
    ·exact .inl (by rw[aL,cB _ _ _ _ cy]; exact aA)
    ·exact .inr ⟨n,cs',by rw[aL,cB _ _ _ _ cy]; exact aA,aP⟩
  ·intro bK k' cV ca cl;by_cases cy:bK=b
   ·subst cy; rw[ai] at ca; cases ca
   ·exact⟨by rw[aL,cB _ _ _ _ cy]; exact ca,cl⟩
 refine⟨e,rel.uM e.toExt0 b ?_ ?_ ?_ ?_ ?_ (by rw[aI]; exact rel.lL)⟩
 ·intro bK cy ar;rw[aL,cB _ _ _ _ cy];exact⟨rfl,rfl,fun _ _=>rfl⟩
 ·intro m _;rw[aL]; simp[uQ]
 ·intro bK m cV _ _ ar;rw[aL] at ar; simp[live] at ar
 ·intro m ar;rw[aL] at ar; simp[live] at ar
 ·intro bK ca;rw[aL,cB _ _ _ _ (by omega)];exact rel.fresh bK (by omega)
theorem cp.ab6 {R:Nat->Prop} {B:Nat} {w:World} {h h' : bh} {μ:dd} (rel:cp R B w h μ) {b sz off:Nat} {cs:List ad} {m:M} (ai:h.f b=.cells sz cs) (hm:μ b=some m) (ax:off<=sz)
  (aL:h'.f=ck (ck h.f b .dead) h.n (.cells (sz - off) (cs.drop off))) (aI:h'.n=h.n+1) :
  ej w h μ w h' (ck μ h.n (some ⟨m.r,m.s+off,m.T⟩))/\cp R B w h' (ck μ h.n (some ⟨m.r,m.s+off,m.T⟩)) :=by
 have o4:=rel.r4 hm;have xZ:h.f h.n=.none:=rel.fresh _ (Nat.le_refl _);have lF:live (h.f b)=true:=by rw[ai]; rfl
 have e:ej w h μ w h' (ck μ h.n (some ⟨m.r,m.s+off,m.T⟩)) :=by
  refine⟨⟨rfl,rfl,rfl,Nat.le_refl _,fun _ _ _=>rfl,?_,?_,?_,?_,by omega,Nat.le_refl _⟩,fun bK ca cl=>by rw[cB _ _ _ _ (by omega)]; exact cl⟩
  ·rintro k ⟨bK,cV,dN,cl,rfl⟩;rw[aL] at dN;by_cases kX:bK=h.n
   ·subst kX; simp at cl; subst cl; exact .inl ⟨b,m,lF,hm,rfl⟩
   ·rw[cB _ _ _ _ kX] at dN cl;by_cases cy:bK=b
    ·subst cy; simp[live] at dN
    ·rw[cB _ _ _ _ cy] at dN; exact .inl ⟨bK,cV,dN,cl,rfl⟩
  ·intro bK sz' cs' cV ca cl;have kX:bK≠h.n:=fun aR=>by rw[aR,xZ] at ca; cases ca
   by_cases cy:bK=b
   ·subst cy; exact .inr (.inl (by rw[aL,cB _ _ _ _ kX]; simp))
   ·exact .inl ⟨cs',by rw[aL,cB _ _ _ _ kX,cB _ _ _ _ cy]; exact ca,by rw[cB _ _ _ _ kX]; exact cl⟩
  ·rintro bK sz' aA;have kX:bK≠h.n:=fun aR=>by
    subst aR;rcases aA with aA | ⟨n,cs',aA,_⟩
    ·rw[xZ] at aA; cases aA
    ·rw[xZ] at aA; cases aA
   by_cases cy:bK=b
   ·subst cy; exact .inl (by rw[aL,cB _ _ _ _ kX]; simp)
   ·rcases aA with aA | ⟨n,cs',aA,aP⟩
    ·exact .inl (by rw[aL,cB _ _ _ _ kX,cB _ _ _ _ cy]; exact aA)
    ·exact .inr ⟨n,cs',by rw[aL,cB _ _ _ _ kX,cB _ _ _ _ cy]; exact aA,aP⟩
  ·intro bK k' cV ca cl;have kX:bK≠h.n:=fun aR=>by rw[aR,xZ] at ca; cases ca
   by_cases cy:bK=b
   ·subst cy; rw[ai] at ca; cases ca
   ·exact⟨by rw[aL,cB _ _ _ _ kX,cB _ _ _ _ cy]; exact ca,by rw[cB _ _ _ _ kX]; exact cl⟩
 have qh:∀ bK,bK≠h.n->live (h'.f bK)=true->bK≠b/\h'.f bK=h.f bK:=fun bK kX ar=>by
  rw[aL,cB _ _ _ _ kX] at ar ⊢;by_cases cy:bK=b
  ·subst cy; simp[live] at ar
  ·exact⟨cy,by rw[cB _ _ _ _ cy]⟩
 refine⟨e,rel.uM e.toExt0 h.n ?_ ?_ ?_ ?_ ?_ ?_⟩
 ·intro bK kX ar;exact⟨(qh bK kX ar).2,by rw[cB _ _ _ _ kX],fun _ _=>rfl⟩
 ·intro cV cl;simp at cl; subst cl;rw[aL,kz];have fe:=rel.blk b m hm;rw[ai] at fe;obtain⟨h1,ag,arr,t,gL,aq,aH,bd,bM⟩:=fe;refine⟨by simp; omega,by simp only; omega,arr,t,gL,aq,aH,bd,fun j c am=>?_⟩;rw[List.getElem?_drop] at am;obtain⟨v,br,bI,a3⟩:=bM (off+j) c am;exact⟨v,by simp only; rw[Nat.add_assoc]; exact br,bI,a3.ext e⟩
 ·intro bK kn ko kX ar _ h1 ag aR;simp at ag; subst ag;obtain⟨cy,gk⟩:=qh bK kX ar;rw[gk] at ar;exact cy (rel.inj bK b kn m ar lF h1 hm aR)
 ·intro cV _ cl;simp at cl; subst cl;exact rel.base b m lF hm
 ·intro bK ca;rw[aL,cB _ _ _ _ (by omega),cB _ _ _ _ (by omega)];exact rel.fresh bK (by omega)
 ·intro bK ca;rw[cB _ _ _ _ (by omega)];exact rel.lL bK (by omega)
theorem cp.Yv {R:Nat->Prop} {B:Nat} {w w' : World} {h:bh} {μ:dd} (rel:cp R B w h μ) (c:bp) (o:Obj) {k:Nat} (hk:oC c=k+1)
  (qg:w'.os=w.os) (ud:w'.tape=w.tape) (l0:w'.output=w.output) (kB:w'.heap=w.heap.push o)
  (fa:uQ w' R (h.push c) (ck μ h.n (some ⟨w.heap.size,0,0⟩)) ⟨w.heap.size,0,0⟩ c) (ra:w.drawn<=w'.drawn:=by first | exact Nat.le_refl _ | exact Nat.le_succ _ | assumption) :
  ej w h μ w' (h.push c) (ck μ h.n (some ⟨w.heap.size,0,0⟩))/\cp R B w' (h.push c) (ck μ h.n (some ⟨w.heap.size,0,0⟩)) :=by
 have aI:h.f h.n=.none:=rel.fresh _ (Nat.le_refl _);have Uu:oC bp.none=0:=rfl;have e:ej w h μ w' (h.push c) (ck μ h.n (some ⟨w.heap.size,0,0⟩)) :=by
  refine⟨⟨qg,ud,l0,by simp[kB],?_,?_,?_,?_,?_,?_,ra⟩,?_⟩
  ·intro k hk _;rw[kB,Array.getElem?_push,if_neg (by omega)]
  ·rintro k ⟨b,m,ar,hm,rfl⟩;by_cases ai:b=h.n
   ·subst ai; simp at hm; subst hm; exact .inr (Nat.le_refl _)
   ·rw[cB _ _ _ _ ai] at hm;simp only[eS,ga,cB _ _ _ _ ai] at ar;exact .inl ⟨b,m,ar,hm,rfl⟩
  ·intro b sz cs' m ai hm;have:b≠h.n:=fun aR=>by rw[aR,aI] at ai; cases ai
   exact .inl ⟨cs',by simp only[eS,ga,cB _ _ _ _ this]; exact ai,by rw[cB _ _ _ _ this]; exact hm⟩
  ·rintro b sz (ai | ⟨n,cs',ai,aP⟩)
   ·have:b≠h.n:=fun aR=>by rw[aR,aI] at ai; cases ai
    exact .inl (by simp only[eS,ga,cB _ _ _ _ this]; exact ai)
   ·have:b≠h.n:=fun aR=>by rw[aR,aI] at ai; cases ai
    exact .inr ⟨n,cs',by simp only[eS,ga,cB _ _ _ _ this]; exact ai,aP⟩
  ·intro b k m ai hm;have:b≠h.n:=fun aR=>by rw[aR,aI] at ai; cases ai
   exact⟨by simp only[eS,ga,cB _ _ _ _ this]; exact ai,by rw[cB _ _ _ _ this]; exact hm⟩
  ·simp[eS,ga]
  ·intro b ai hm;rw[cB _ _ _ _ (by omega)]; exact hm
 refine⟨e,rel.uM e.toExt0 h.n ?_ ?_ ?_ ?_ ?_ ?_⟩
 ·intro b ai ar;simp only[eS,ga,cB _ _ _ _ ai] at ar ⊢;exact⟨trivial,trivial,fun m hm=>by rw[kB,Array.getElem?_push,if_neg (by have:=rel.lt ar hm; omega)]⟩
 ·intro m hm;simp at hm; subst hm;simp only[eS,ga,kz];exact fa
 ·intro b m cV ai ar _ hm cl;simp only[eS,ga,cB _ _ _ _ ai] at ar;simp at cl; subst cl;have:=rel.lt ar hm;simp only[ne_eq]; omega
 ·intro m _ hm;simp at hm; subst hm;exact rel.size
 ·intro b ai;simp only[eS,ga] at ai ⊢;rw[cB _ _ _ _ (by omega)];exact rel.fresh b (by omega)
 ·intro b ai;simp only[eS,ga] at ai ⊢;rw[cB _ _ _ _ (by omega)];exact rel.lL b (by omega)
theorem cp.hT {R:Nat->Prop} {B:Nat} {w w' : World} {h:bh} {μ:dd} (rel:cp R B w h μ) {b k:Nat} {c c' : bp} {m:M}
  (ai:h.f b=c) (hk:oC c=k+1) (fE:oC c'=k+1) (hm:μ b=some m)
  (qg:w'.os=w.os) (ud:w'.tape=w.tape) (l0:w'.output=w.output) (rn:w'.heap.size=w.heap.size) (C0:∀ k,k≠m.r->w'.heap[k]? = w.heap[k]?)
  (fa:Ext0 w h μ w' (h.set b c') μ->uQ w' R (h.set b c') μ m c') (ra:w.drawn<=w'.drawn:=by first | exact Nat.le_refl _ | exact Nat.le_succ _ | assumption) :
  ej w h μ w' (h.set b c') μ/\cp R B w' (h.set b c') μ:=by
 have lF:live (h.f b)=true:=by rw[ai]; cases c<;>simp[oC] at hk<;>rfl
 have ayZ:live c'=true:=by cases c'<;>simp[oC] at fE<;>rfl
 have FV:∀ sz cs,h.f b≠.cells sz cs:=fun sz cs aR=>by rw[ai] at aR; subst aR; simp[oC] at hk
 have xY:h.f b≠.dead:=fun aR=>by rw[ai] at aR; subst aR; simp[oC] at hk
 have e:ej w h μ w' (h.set b c') μ:=by
  refine⟨⟨qg,ud,l0,Nat.le_of_eq rn.symm,?_,?_,?_,?_,?_,Nat.le_refl _,ra⟩,fun _ _ hm=>hm⟩
  ·intro k hk aI;exact C0 k (fun aR=>aI ⟨b,m,lF,hm,aR.symm⟩)
  ·rintro k ⟨bK,cV,dN,cl,rfl⟩;by_cases cy:bK=b
   ·subst cy; exact .inl ⟨bK,cV,lF,cl,rfl⟩
   ·simp only[ez,cB _ _ _ _ cy] at dN;exact .inl ⟨bK,cV,dN,cl,rfl⟩
  ·intro bK sz cs cV ca cl;have cy:bK≠b:=fun aR=>by subst aR; exact FV _ _ ca
   exact .inl ⟨cs,by simp only[ez,cB _ _ _ _ cy]; exact ca,cl⟩
  ·rintro bK sz (aA | ⟨n,cs',aA,aP⟩)
   ·have cy:bK≠b:=fun aR=>by subst aR; exact xY aA
    exact .inl (by simp only[ez,cB _ _ _ _ cy]; exact aA)
   ·have cy:bK≠b:=fun aR=>by subst aR; exact FV _ _ aA
    exact .inr ⟨n,cs',by simp only[ez,cB _ _ _ _ cy]; exact aA,aP⟩
  ·intro bK k' cV ca cl;by_cases cy:bK=b
   ·subst cy;refine⟨?_,cl⟩;simp only[ez,kz];rw[ai,hk] at ca;rw[fE]; exact ca
   ·exact⟨by simp only[ez,cB _ _ _ _ cy]; exact ca,cl⟩
 refine⟨e,rel.uM e.toExt0 b ?_ ?_ ?_ ?_ ?_ rel.lL⟩
 ·intro bK cy ar;simp only[ez,cB _ _ _ _ cy] at ar ⊢;exact⟨trivial,trivial,fun cV cl=>C0 _ (fun aR=>cy (rel.inj bK b cV m ar lF cl hm aR))⟩
 ·intro cV cl;rw[hm] at cl; cases cl;simp only[ez,kz];exact fa e.toExt0
 ·intro bK kn ko cy ar _ h1 ag aR;rw[hm] at ag; cases ag;simp only[ez,cB _ _ _ _ cy] at ar;exact cy (rel.inj bK b kn m ar lF h1 hm aR)
 ·intro cV _ cl;rw[hm] at cl; cases cl;exact rel.base b m lF hm
 ·intro bK ca;by_cases cy:bK=b
  ·subst cy;have:=rel.r4 hm;simp only[fw] at ca; omega
  ·simp only[ez,cB _ _ _ _ cy]; exact rel.fresh bK ca
theorem cp.write {R:Nat->Prop} {B:Nat} {w w' : World} {h:bh} {μ:dd} (rel:cp R B w h μ) {b sz sz' : Nat} {cs cs' : List ad} {m:M} {arr arr' : Array Value} {t:TypeId} {gL:Nat × Nat}
  (ai:h.f b=.cells sz cs) (hm:μ b=some m) (aC:w.heap[m.r]? = some (.cells arr t gL)) (dH:arr.size=m.T) (mz:gL=(0,0)\/m.T<gL.1)
  (qg:w'.os=w.os) (ud:w'.tape=w.tape) (l0:w'.output=w.output) (rn:w'.heap.size=w.heap.size)
  (C1:w'.heap[m.r]? = some (.cells arr' t gL)) (C0:∀ k,k≠m.r->w'.heap[k]? = w.heap[k]?) (aD:arr'.size=arr.size)
  (ar:cs'.length=sz') (p7:sz<=sz') (fv:m.s+sz'<=m.T)
  (ay:∀ (j:Nat) (c:ad),cs'[j]? = some c->∃ v:Value,arr'[m.s+j]? = some v/\v.oneCell'=true/\aZ w R h μ c v) (ra:w.drawn<=w'.drawn:=by first | exact Nat.le_refl _ | exact Nat.le_succ _ | assumption) :
  ej w h μ w' (h.set b (.cells sz' cs')) μ/\cp R B w' (h.set b (.cells sz' cs')) μ:=by
 have lF:live (h.f b)=true:=by rw[ai]; rfl
 have e:ej w h μ w' (h.set b (.cells sz' cs')) μ:=by
  refine⟨⟨qg,ud,l0,Nat.le_of_eq rn.symm,?_,?_,?_,?_,?_,Nat.le_refl _,ra⟩,fun _ _ hm=>hm⟩
  ·intro k hk aI;exact C0 k (fun aR=>aI ⟨b,m,lF,hm,aR.symm⟩)
  ·rintro k ⟨bK,cV,dN,cl,rfl⟩;by_cases cy:bK=b
   ·subst cy; exact .inl ⟨bK,cV,lF,cl,rfl⟩
   ·simp only[ez,fw,cB _ _ _ _ cy] at dN;exact .inl ⟨bK,cV,dN,cl,rfl⟩
  ·intro bK au0 og cV ca cl;by_cases cy:bK=b
   ·subst cy;rw[ai] at ca; cases ca;by_cases ap:sz'=sz
    ·exact .inl ⟨cs',by simp[ez,fw,ap],cl⟩
    ·exact .inr (.inr ⟨sz',cs',by simp[ez,fw],by omega⟩)
   ·exact .inl ⟨og,by simp only[ez,fw,cB _ _ _ _ cy]; exact ca,cl⟩
  ·rintro bK s0 (ca | ⟨n,og,ca,aP⟩)
   ·have cy:bK≠b:=fun aR=>by rw[aR,ai] at ca; cases ca
    exact .inl (by simp only[ez,fw,cB _ _ _ _ cy]; exact ca)
   ·by_cases cy:bK=b
    ·subst cy;rw[ai] at ca; cases ca;exact .inr ⟨sz',cs',by simp[ez,fw],by omega⟩
    ·exact .inr ⟨n,og,by simp only[ez,fw,cB _ _ _ _ cy]; exact ca,aP⟩
  ·intro bK k cV ca cl;have cy:bK≠b:=fun aR=>by rw[aR,ai] at ca; cases ca
   exact⟨by simp only[ez,fw,cB _ _ _ _ cy]; exact ca,cl⟩
 refine⟨e,rel.uM e.toExt0 b ?_ ?_ ?_ ?_ ?_ ?_⟩
 ·intro bK cy dN;simp only[ez,fw,cB _ _ _ _ cy] at dN ⊢;exact⟨trivial,trivial,fun cV cl=>C0 _ (fun aR=>cy (rel.inj bK b cV m dN lF cl hm aR))⟩
 ·intro cV cl;rw[hm] at cl; cases cl;simp only[ez,fw,kz];refine⟨ar,fv,arr',t,gL,C1,aD.trans dH,mz,fun j c am=>?_⟩;obtain⟨v,h1,ag,aq⟩:=ay j c am;exact⟨v,h1,ag,aq.ext e⟩
 ·intro bK cV aoy cy dN _ cl CD aR;rw[hm] at CD; cases CD;simp only[ez,fw,cB _ _ _ _ cy] at dN;exact cy (rel.inj bK b cV m dN lF cl hm aR)
 ·intro cV _ cl;exact rel.base b cV lF cl
 ·intro bK ca;simp only[ez,fw] at ca ⊢;have cy:bK≠b:=fun aR=>by
   have:=rel.fresh bK ca;rw[aR,ai] at this; cases this
  rw[cB _ _ _ _ cy];exact rel.fresh bK ca
 ·intro bK ca;exact rel.lL bK ca
theorem cp.move {R:Nat->Prop} {B:Nat} {w w' : World} {h:bh} {μ:dd} (rel:cp R B w h μ) {b sz sz' : Nat} {cs cs' : List ad} {m:M} {arr:Array Value} {t:TypeId}
  (ai:h.f b=.cells sz cs) (hm:μ b=some m)
  (qg:w'.os=w.os) (ud:w'.tape=w.tape) (l0:w'.output=w.output) (kB:w'.heap=w.heap.push (.cells arr t (0,0)))
  (ar:cs'.length=sz') (p7:sz<sz') (fv:sz'<=arr.size)
  (ay:∀ (j:Nat) (c:ad),cs'[j]? = some c->∃ v:Value,arr[j]? = some v/\v.oneCell'=true/\aZ w R h μ c v) (ra:w.drawn<=w'.drawn:=by first | exact Nat.le_refl _ | exact Nat.le_succ _ | assumption) :
  ej w h μ w' (h.set b (.cells sz' cs')) (ck μ b (some ⟨w.heap.size,0,arr.size⟩))/\cp R B w' (h.set b (.cells sz' cs')) (ck μ b (some ⟨w.heap.size,0,arr.size⟩)) :=by
 have lF:live (h.f b)=true:=by rw[ai]; rfl
 have e:ej w h μ w' (h.set b (.cells sz' cs')) (ck μ b (some ⟨w.heap.size,0,arr.size⟩)) :=by
  refine⟨⟨qg,ud,l0,by simp[kB],?_,?_,?_,?_,?_,Nat.le_refl _,ra⟩,?_⟩
  ·intro k hk aI;rw[kB,Array.getElem?_push,if_neg (by omega)]
  ·rintro k ⟨bK,cV,dN,cl,rfl⟩;by_cases cy:bK=b
   ·subst cy; simp at cl; subst cl; exact .inr (Nat.le_refl _)
   ·rw[cB _ _ _ _ cy] at cl;simp only[ez,fw,cB _ _ _ _ cy] at dN;exact .inl ⟨bK,cV,dN,cl,rfl⟩
  ·intro bK au0 og cV ca cl;by_cases cy:bK=b
   ·subst cy;rw[ai] at ca; cases ca;exact .inr (.inr ⟨sz',cs',by simp[ez,fw],by omega⟩)
   ·exact .inl ⟨og,by simp only[ez,fw,cB _ _ _ _ cy]; exact ca,by rw[cB _ _ _ _ cy]; exact cl⟩
  ·rintro bK s0 (ca | ⟨n,og,ca,aP⟩)
   ·have cy:bK≠b:=fun aR=>by rw[aR,ai] at ca; cases ca
    exact .inl (by simp only[ez,fw,cB _ _ _ _ cy]; exact ca)
   ·by_cases cy:bK=b
    ·subst cy;rw[ai] at ca; cases ca;exact .inr ⟨sz',cs',by simp[ez,fw],by omega⟩
    ·exact .inr ⟨n,og,by simp only[ez,fw,cB _ _ _ _ cy]; exact ca,aP⟩
  ·intro bK k cV ca cl;have cy:bK≠b:=fun aR=>by rw[aR,ai] at ca; cases ca
   exact⟨by simp only[ez,fw,cB _ _ _ _ cy]; exact ca,by rw[cB _ _ _ _ cy]; exact cl⟩
  ·intro bK _ cl;have cy:bK≠b:=fun aR=>by rw[aR,hm] at cl; cases cl
   rw[cB _ _ _ _ cy]; exact cl
 refine⟨e,rel.uM e.toExt0 b ?_ ?_ ?_ ?_ ?_ ?_⟩
 ·intro bK cy dN;simp only[ez,fw,cB _ _ _ _ cy] at dN ⊢;exact⟨trivial,trivial,fun cV cl=>by rw[kB,Array.getElem?_push,if_neg (by have:=rel.lt dN cl; omega)]⟩
 ·intro cV cl;simp at cl; subst cl;simp only[ez,fw,kz];refine⟨ar,by simpa using fv,arr,t,(0,0),by simp[kB],rfl,.inl rfl,fun j c am=>?_⟩;obtain⟨v,h1,ag,aq⟩:=ay j c am;exact⟨v,by simpa using h1,ag,aq.ext e⟩
 ·intro bK cV aoy cy dN _ cl CD;simp only[ez,fw,cB _ _ _ _ cy] at dN;simp at CD; subst CD;have:=rel.lt dN cl;simp only[ne_eq]; omega
 ·intro cV _ cl;simp at cl; subst cl;exact rel.size
 ·intro bK ca;simp only[ez,fw] at ca ⊢;have cy:bK≠b:=fun aR=>by
   have:=rel.fresh bK ca;rw[aR,ai] at this; cases this
  rw[cB _ _ _ _ cy];exact rel.fresh bK ca
 ·intro bK ca;simp only[ez,fw] at ca;have cy:bK≠b:=fun aR=>by
   have:=rel.r4 hm;omega
  rw[cB _ _ _ _ cy];exact rel.lL bK ca
section
variable {P:Program} {w:World} {R:Nat->Prop} {B:Nat} {h:bh} {μ:dd}
def Good (R:Nat->Prop) (B:Nat) (w:World) (h:bh) (μ:dd) (r:Result Next) (c:ad) (h' : bh) :Prop:=
 ∃ v w' μ',(r=.ok (.value v) w'\/(r=.ok .skip w'/\v=undef))/\ej w h μ w' h' μ'/\cp R B w' h' μ'/\aZ w' R h' μ' c v
theorem Good.pure (rel:cp R B w h μ) {r:Result Next} {c:ad} {v:Value} (aC:r=.ok (.value v) w) (ay:aZ w R h μ c v) :Good R B w h μ r c h:=
 ⟨v,w,μ,.inl aC,.refl _ _ _,rel,ay⟩
theorem cZ {t:TypeId} {d:TypeDesc} (bX:P.underlying t=some d) :(underlying t).run P w=.ok d w:=by
 simp[underlying,bX]
theorem Hm {t:TypeId} {b:Bool} (ai:e8 P t=some b) :(isAgg t).run P w=.ok b w:=by
 unfold e8 at ai;cases bX:P.underlying t with
 | none=>rw[bX] at ai; cases ai
 | some d=>
  rw[bX] at ai;simp only[Option.map_some,Option.some.injEq] at ai;unfold isAgg;simp only[Sem.run_bind,cZ bX,Result.andThen_ok];cases d<;>simp_all
theorem ani {t:TypeId} {n:Nat} (aI:c5 P t=some n) :∃ i,P.info? t=some i/\i.size=n:=by
 unfold c5 at aI;cases aB:P.info? t with
 | none=>rw[aB] at aI; cases aI
 | some i=>rw[aB] at aI; exact⟨i,rfl,by simpa using aI⟩
theorem gh {t:TypeId} {n:Nat} (aI:c5 P t=some n) :(sizeOf t).run P w=.ok n w:=by
 obtain⟨i,aB,ap⟩:=ani aI;simp[sizeOf,typeInfo,aB,ap]
theorem awx {t:TypeId} {z:List ad} (az:ia P t=some z) :∃ i v,P.info? t=some i/\i.zero=some v/\v.cells.toList.all Value.oneCell'=true/\z=v.cells.toList.map pr:=by
 unfold ia at az;cases aB:P.info? t with
 | none=>rw[aB] at az; cases az
 | some i=>
  rw[aB] at az;simp only[Option.bind_some] at az;cases ay:i.zero with
  | none=>rw[ay] at az; cases az
  | some v=>
   rw[ay] at az;simp only[Option.bind_some] at az;split at az
   ·rename_i h1;exact⟨i,v,rfl,ay,h1,by simpa using az.symm⟩
   ·cases az
theorem acl {t:TypeId} {i:TypeInfo} {v:Value} (aB:P.info? t=some i) (ay:i.zero=some v) :(zeroValue t).run P w=.ok v w:=by
 simp[zeroValue,typeInfo,aB,ay]
theorem aZ.pr (v:Value) :aZ w R h μ (pr v) v:=by
 cases v with
 | bool b=>exact .bool _
 | int k n=>exact .int _ _
 | string s=>exact .str _
 | pointer a=>cases a<;>first | exact .j5 | exact .bad _
 | slice a l c=>
  simp only[ct.pr];split
  ·exact .aK
  ·exact .bad _
 | map r=>cases r<;>first | exact .iq | exact .bad _
 | nilFunc=>exact .jD
 | nilIface=>exact .j4
 | func fn first gQ=>
  simp only[ct.pr];split
  ·rename_i f h1 ag;have a2:first=#[] :=by simpa using h1
   have b7:gQ=#[] :=by simpa using ag
   subst a2 b7;exact .fn _ [] [] #[] #[] rfl rfl (fun _ _ _ aR=>by simp at aR) (fun _ _ _ aR=>by simp at aR)
  ·exact .bad _
 | _=>exact .bad _
theorem aZ.wb (v:Value) :aZ w R h μ (wb v) v:=by
 unfold ct.wb;split
 ·rename_i cs;split
  ·rename_i bT;refine .aM _ _ (by simp) (fun j v am=>?_) (fun j c v ak j0=>?_)
   ·rw[List.all_eq_true] at bT;exact bT v (by have:=Array.mem_of_getElem? am; simpa using this)
   ·rw[List.getElem?_map] at ak;simp only[Array.getElem?_toList,j0,Option.map_some,Option.some.injEq] at ak;subst ak;exact aZ.pr v
  ·exact .bad _
 ·rename_i vs;refine .b5 _ _ (by simp) (fun j c v ak j0=>?_);rw[List.getElem?_map] at ak;simp only[Array.getElem?_toList,j0,Option.map_some,Option.some.injEq] at ak;subst ak;exact aZ.pr v
 ·exact aZ.pr v
theorem aZ.one {c:ad} {v:Value} (ay:aZ w R h μ c v) (h1:c.one=true) :v.oneCell'=true:=by
 cases ay<;>first | rfl | (simp[ad.one] at h1)
theorem ED {c:ad} {v:Value} {cs:List ad} (ay:aZ w R h μ c v) (ak:c.cells=some cs) :
  v.cells.size=cs.length/\∀ (j:Nat) (x:ad),cs[j]? = some x->∃ u:Value,v.cells[j]? = some u/\u.oneCell'=true/\aZ w R h μ x u:=by
 have kH:∀ (c:ad) (v:Value),aZ w R h μ c v->v.cells=#[v]->v.oneCell'=true->∀ cs,cs=[c]->
   v.cells.size=cs.length/\∀ (j:Nat) (x:ad),cs[j]? = some x->∃ u:Value,v.cells[j]? = some u/\u.oneCell'=true/\aZ w R h μ x u:=by
  intro c v ay kY h1 cs bT;subst bT;rw[kY];refine⟨rfl,fun j x al=>?_⟩;cases j with
  | zero=>simp at al; subst al; exact⟨v,rfl,h1,ay⟩
  | succ j=>simp at al
 cases ay with
 | aM cs' vs ar h1 ay=>
  simp only[ad.cells,Option.some.injEq] at ak; subst ak;refine⟨ar,fun j x al=>?_⟩;have am:j<vs.size:=by rw[ar]; exact (List.getElem?_eq_some_iff.1 al).1
  exact⟨vs[j],by simp[Value.cells,am],h1 j _ (by simp[am]),ay j x _ al (by simp[am])⟩
 | b5 cs' vs ar ay=>simp[ad.cells] at ak
 | bad v=>simp[ad.cells] at ak
 | bool b=>exact kH _ _ (.bool b) rfl rfl _ (by simpa [ad.cells] using ak.symm)
 | int k n=>exact kH _ _ (.int k n) rfl rfl _ (by simpa [ad.cells] using ak.symm)
 | str bs=>exact kH _ _ (.str bs) rfl rfl _ (by simpa [ad.cells] using ak.symm)
 | j5=>exact kH _ _ .j5 rfl rfl _ (by simpa [ad.cells] using ak.symm)
 | aK=>exact kH _ _ .aK rfl rfl _ (by simpa [ad.cells] using ak.symm)
 | iq=>exact kH _ _ .iq rfl rfl _ (by simpa [ad.cells] using ak.symm)
 | jD=>exact kH _ _ .jD rfl rfl _ (by simpa [ad.cells] using ak.symm)
 | j4=>exact kH _ _ .j4 rfl rfl _ (by simpa [ad.cells] using ak.symm)
 | ptr b off sz cs' m ai hm=>exact kH _ _ (.ptr b off sz cs' m ai hm) rfl rfl _ (by simpa [ad.cells] using ak.symm)
 | nn b off sz a aA=>exact kH _ _ (.nn b off sz a aA) rfl rfl _ (by simpa [ad.cells] using ak.symm)
 | cm cs' off blk o eT fD ay=>exact kH _ _ (.cm cs' off blk o eT fD ay) rfl rfl _ (by simpa [ad.cells] using ak.symm)
 | av z b off len cap sz cap' cs' m ai hm ar ax fD=>exact kH _ _ (.av z b off len cap sz cap' cs' m ai hm ar ax fD) rfl rfl _ (by simpa [ad.cells] using ak.symm)
 | g4 z b off len cap sz cap' a ar fD aA=>exact kH _ _ (.g4 z b off len cap sz cap' a ar fD aA) rfl rfl _ (by simpa [ad.cells] using ak.symm)
 | iy z b off sz a cs' m ai hm=>exact kH _ _ (.iy z b off sz a cs' m ai hm) rfl rfl _ (by simpa [ad.cells] using ak.symm)
 | cr z es blk off cap eT ar az fD ay=>exact kH _ _ (.cr z es blk off cap eT ar az fD ay) rfl rfl _ (by simpa [ad.cells] using ak.symm)
 | go z a cap=>exact kH _ _ (.go z a cap) rfl rfl _ (by simpa [ad.cells] using ak.symm)
 | fn f ajw y3 fs cs' aL fD h1 ag=>exact kH _ _ (.fn f ajw y3 fs cs' aL fD h1 ag) rfl rfl _ (by simpa [ad.cells] using ak.symm)
 | mp b m ai hm=>exact kH _ _ (.mp b m ai hm) rfl rfl _ (by simpa [ad.cells] using ak.symm)
 | it b m ai hm=>exact kH _ _ (.it b m ai hm) rfl rfl _ (by simpa [ad.cells] using ak.symm)
 | hD t c v ay=>exact kH _ _ (.hD t c v ay) rfl rfl _ (by simpa [ad.cells] using ak.symm)
 | mT l=>exact kH _ _ (.mT l) rfl rfl _ (by simpa [ad.cells] using ak.symm)
theorem Addr.mW (b o n:Nat) :(⟨b,o,none⟩:Addr).add n=⟨b,o+n,none⟩:=by unfold Addr.add; split<;>simp_all
theorem Mo (rel:cp R B w h μ) {p:ad} {wj:Value} {cs:List ad} {off:Nat} (aC:reach h p=some (cs,off)) (aF:aZ w R h μ p wj) :
  ∃ blk o,wj=.pointer (some ⟨blk,o+off,none⟩)/\∀ (j:Nat) (c:ad),cs[j]? = some c->∃ v:Value,w.cell? ⟨blk,o+j,none⟩=some v/\v.oneCell'=true/\aZ w R h μ c v:=by
 cases aF with
 | ptr b GV sz cs' m ai hm=>
  simp only[reach,ai,ite_true,Option.some.injEq,Prod.mk.injEq] at aC;obtain⟨rfl,rfl⟩:=aC;have fe:=rel.blk b m hm;rw[ai] at fe;obtain⟨h1,ag,arr,t,gL,aq,aH,bd,bM⟩:=fe;refine⟨m.r,m.s,rfl,fun j c am=>?_⟩;obtain⟨v,br,bI,a3⟩:=bM j c am;exact⟨v,by simp[World.cell?,aq,br],bI,a3⟩
 | nn b GV sz a aA=>
  unfold reach at aC;rcases aA with aA | ⟨n,cs',aA,aP⟩
  ·simp[aA] at aC
  ·simp only[aA] at aC;split at aC
   ·omega
   ·cases aC
 | cm cs' GV blk o eT ak ay=>
  simp only[reach,Option.some.injEq,Prod.mk.injEq] at aC;obtain⟨rfl,rfl⟩:=aC;exact⟨blk,o,rfl,fun j c am=>⟨eT j,(ak j (List.getElem?_eq_some_iff.1 am).1).here,(ak j (List.getElem?_eq_some_iff.1 am).1).one,ay j c am⟩⟩
 | _=>simp[reach] at aC
theorem atY {t:TypeId} {cs:List ad} {off:Nat} {c:ad} (aF:iv P t cs off=some c) {blk o:Nat}
  (ak:∀ (j:Nat) (x:ad),cs[j]? = some x->∃ v:Value,w.cell? ⟨blk,o+j,none⟩=some v/\v.oneCell'=true/\aZ w R h μ x v) :
  ∃ v,(loadVar t ⟨blk,o+off,none⟩).run P w=.ok v w/\aZ w R h μ c v:=by
 unfold iv at aF;cases o1:e8 P t with
 | none=>rw[o1] at aF; cases aF
 | some b=>
  rw[o1] at aF;cases b with
  | false=>
   simp only at aF;obtain⟨v,h1,_,aq⟩:=ak off c aF;exact⟨v,by simp[loadVar,Hm o1,h1],aq⟩
  | true=>
   cases aI:c5 P t with
   | none=>rw[aI] at aF; cases aF
   | some n=>
    rw[aI] at aF;simp only at aF;split at aF
    ·rename_i eD;simp only[Option.some.injEq] at aF;subst aF;have zN:∀ j,j<n->∃ v,w.cell? ⟨blk,o+(off+j),none⟩=some v/\v.oneCell'=true/\aZ w R h μ (cs.getD (off+j) .bad) v:=by
      intro j am;have aP:off+j<cs.length:=by omega
      have:=ak (off+j) cs[off+j] (by simp[aP]);simpa [List.getD,aP] using this
     have ay:∃ f:Nat->Value,∀ j,j<n->w.cell? ⟨blk,o+(off+j),none⟩=some (f j)/\(f j).oneCell'=true/\aZ w R h μ (cs.getD (off+j) .bad) (f j) :=by
      refine⟨fun j=>if am:j<n then Classical.choose (zN j am) else undef,fun j am=>?_⟩;simp only[am,dif_pos];exact Classical.choose_spec (zN j am)
     obtain⟨f,aL⟩:=ay;have ar:(loadCells ⟨blk,o+off,none⟩ n).run P w=.ok ((List.range n).map f).toArray w:=by
      have:=run_loadCells_list (P:=P) w ⟨blk,o+off,none⟩ ((List.range n).map f) (fun j v am=>by
       rw[List.getElem?_map] at am;have m9:j<n:=by
        rcases Nat.lt_or_ge j n with h1 | h1
        ·exact h1
        ·rw[List.getElem?_eq_none (by simpa using h1)] at am; cases am
       rw[List.getElem?_range m9] at am;simp only[Option.map_some,Option.some.injEq] at am;rw[Addr.mW,<-am,Nat.add_assoc];exact (aL j m9).1)
      simpa using this
     refine⟨.agg ((List.range n).map f).toArray,by simp[loadVar,Hm o1,gh aI,ar],.aM _ _ (by simp; omega) (fun j v am=>?_) (fun j c v fD am=>?_)⟩
     ·simp only[List.getElem?_toArray,List.getElem?_map] at am;have m9:j<n:=by
       rcases Nat.lt_or_ge j n with h1 | h1
       ·exact h1
       ·rw[List.getElem?_eq_none (by simpa using h1)] at am; cases am
      rw[List.getElem?_range m9] at am;simp only[Option.map_some,Option.some.injEq] at am;rw[<-am]; exact (aL j m9).2.1
     ·simp only[List.getElem?_toArray,List.getElem?_map] at am;have m9:j<n:=by
       rcases Nat.lt_or_ge j n with h1 | h1
       ·exact h1
       ·rw[List.getElem?_eq_none (by simpa using h1)] at am; cases am
      rw[List.getElem?_range m9] at am;simp only[Option.map_some,Option.some.injEq] at am;rw[List.getElem?_take_of_lt m9,List.getElem?_drop] at fD;have:=(aL j m9).2.2;rw[List.getD,fD] at this;rw[<-am]; simpa using this
    ·cases aF
theorem Xr (rel:cp R B w h μ) {t:TypeId} {p:ad} {wj:Value} {c:ad} (ar:sQ P h t p=some c) (aF:aZ w R h μ p wj) :
  ∃ v,(Instr.loadAt t wj).run P w=.ok v w/\aZ w R h μ c v:=by
 unfold sQ at ar;cases aC:reach h p with
 | none=>rw[aC] at ar; cases ar
 | some x=>
  obtain⟨cs,off⟩:=x;rw[aC] at ar;obtain⟨blk,o,rfl,ak⟩:=Mo rel aC aF;obtain⟨v,h1,ag⟩:=atY ar ak;exact⟨v,by simp[Instr.loadAt,Instr.sureAddr,h1],ag⟩
end

section
variable {P:Program} {w:World} {R:Nat->Prop} {B:Nat} {h:bh} {μ:dd}
theorem ack (P:Program) (g o:Nat) (t:TypeId) (gL:Nat × Nat) :∀ (vs:List Value) (i:Nat) (iG:Array Value) (w:World),w.heap[g]? = some (.cells iG t gL)->(gL=(0,0)\/iG.size<=gL.1)->
  o+i+vs.length<=iG.size->(∀ v∈vs,v.oneCell'=true)->
  (storeCells ⟨g,o,none⟩ vs i).run P w=.ok () (w.setRow g (iG.toList.take (o+i)++vs++iG.toList.drop (o+i+vs.length)).toArray)
 | [],i,iG,w,aA,_,_,_=>by
  simp only[storeCells,List.append_nil,List.length_nil,Nat.add_zero,List.take_append_drop,Array.toArray_toList];rw[setRow_self w g iG t gL aA];rfl
 | v::rest,i,iG,w,aA,mz,ar,h1=>by
  have aB:o+i<iG.size:=by simp at ar; omega
  have akH:(⟨g,o,none⟩:Addr).add i=⟨g,o+i,none⟩:=Addr.mW _ _ _;have m5:w.cell? ⟨g,o+i,none⟩=some iG[o+i] :=by simp[World.cell?,aA,aB]
  have alu:w.frozen? ⟨g,o+i,none⟩=false:=by
   obtain⟨dn,gj⟩:=gL;rcases mz with mz | mz
   ·cases mz; simp[World.frozen?,aA]
   ·have:¬ dn<=o+i:=by simp at mz; omega
    simp[World.frozen?,aA,this]
  have cL:(store ((⟨g,o,none⟩:Addr).add i) v).run P w=.ok () (w.setRow g (iG.setIfInBounds (o+i) v)) :=by
   rw[akH,run_store P w _ v _ (h1 v (by simp)),m5];simp[alu,setCell_eq_setRow w g (o+i) iG t gL v aA]
  have aY:=ack P g o t gL rest (i+1) (iG.setIfInBounds (o+i) v) (w.setRow g (iG.setIfInBounds (o+i) v)) (setRow_heap w g iG _ t _ aA) (by simpa using mz) (by simp at ar ⊢; omega) (fun x al=>h1 x (by simp[al]));simp only[storeCells,Sem.run_bind,cL,Result.andThen_ok,aY,setRow_setRow];congr 3;have:=list_seg_step iG.toList (o+i) v rest (by simp at ar ⊢; omega);simpa [Nat.add_assoc,Nat.add_comm 1] using this
theorem rJ {cs vs:List ad} {k:Nat} (hk:k<=cs.length) :(bO cs k vs).length=max cs.length (k+vs.length) :=by
 unfold bO;simp only[List.length_append,List.length_take,List.length_drop];omega
theorem MM {cs vs:List ad} {k j:Nat} (hk:k<=cs.length) :(bO cs k vs)[j]? = if j<k then cs[j]? else if j<k+vs.length then vs[j - k]? else cs[j]?:=by
 unfold bO;rw[List.append_assoc];by_cases h1:j<k
 ·rw[List.getElem?_append_left (by simp; omega),List.getElem?_take_of_lt h1,if_pos h1]
 ·rw[List.getElem?_append_right (by simp; omega),if_neg h1];simp only[List.length_take,Nat.min_eq_left hk];by_cases ag:j<k+vs.length
  ·rw[List.getElem?_append_left (by omega),if_pos ag]
  ·rw[List.getElem?_append_right (by omega),if_neg ag,List.getElem?_drop];congr 1; omega
theorem yO (rel:cp R B w h μ) {b sz k:Nat} {cs cvs:List ad} {m:M} {vs:List Value} (ai:h.f b=.cells sz cs) (hm:μ b=some m) (hk:k<=sz)
  (ar:vs.length=cvs.length) (fv:m.s+max sz (k+cvs.length)<=m.T)
  (ay:∀ (j:Nat) (c:ad),cvs[j]? = some c->∃ v:Value,vs[j]? = some v/\v.oneCell'=true/\aZ w R h μ c v) :
  ∃ w',(storeCells ⟨m.r,m.s+k,none⟩ vs).run P w=.ok () w'/\ej w h μ w' (h.set b (.cells (max sz (k+cvs.length)) (bO cs k cvs))) μ ∧
   cp R B w' (h.set b (.cells (max sz (k+cvs.length)) (bO cs k cvs))) μ:=by
 have fe:=rel.blk b m hm;rw[ai] at fe;obtain⟨bu,dH,arr,t,gL,aC,aD,mz,ak⟩:=fe;have h1:∀ v∈vs,v.oneCell'=true:=by
  intro v kC;obtain⟨j,am,rfl⟩:=List.getElem_of_mem kC;obtain⟨v,br,bI,_⟩:=ay j (cvs[j]'(by omega)) (by simp);rw[List.getElem?_eq_getElem am] at br;cases br;exact bI
 have iY:=ack P m.r (m.s+k) t gL vs 0 arr w aC (by rw[aD]; exact mz.imp id Nat.le_of_lt) (by omega) h1;simp only[Nat.add_zero] at iY;have qn:(arr.toList.take (m.s+k)++vs++arr.toList.drop (m.s+k+vs.length)).toArray.size=arr.size:=by
  simp only[List.size_toArray,List.length_append,List.length_take,List.length_drop,Array.length_toList];omega
 have eB:=rel.write (w':=w.setRow m.r (arr.toList.take (m.s+k)++vs++arr.toList.drop (m.s+k+vs.length)).toArray) (cs':=bO cs k cvs) (sz':=max sz (k+cvs.length)) ai hm aC aD mz
  rfl rfl rfl (by simp[World.setRow]) (setRow_heap w m.r arr _ t gL aC) (fun k' fE=>setRow_other w m.r k' _ fE) qn
  (by rw[rJ (by omega),bu]) (by omega) (by omega) (fun j c am=>?_)
 ·exact⟨_,iY,eB.1,eB.2⟩
 ·rw[MM (by omega)] at am;simp only[List.getElem?_toArray];rw[List.append_assoc];split at am
  ·rename_i aP;obtain⟨v,br,bI,a3⟩:=ak j c am;refine⟨v,?_,bI,a3⟩;rw[List.getElem?_append_left (by simp; omega),List.getElem?_take_of_lt (by omega)];simpa using br
  ·rename_i sv;split at am
   ·rename_i aP;obtain⟨v,br,bI,a3⟩:=ay _ c am;refine⟨v,?_,bI,a3⟩;have CE:min (m.s+k) arr.size=m.s+k:=by omega
    rw[List.getElem?_append_right (by simp; omega)];simp only[List.length_take,Array.length_toList,CE];rw[List.getElem?_append_left (by omega),<-br];congr 1; omega
   ·rename_i ayQ;obtain⟨v,br,bI,a3⟩:=ak j c am;refine⟨v,?_,bI,a3⟩;have CE:min (m.s+k) arr.size=m.s+k:=by omega
    rw[List.getElem?_append_right (by simp; omega)];simp only[List.length_take,Array.length_toList,CE];rw[List.getElem?_append_right (by omega),List.getElem?_drop];have:(m.s+k+vs.length+(m.s+j - (m.s+k) - vs.length))=m.s+j:=by omega
    rw[this];simpa using br
theorem auR (rel:cp R B w h μ) {t:TypeId} {p v:ad} {wj pC:Value} {h' : bh} (ap:A2 P h t p v=some h') (aF:aZ w R h μ p wj) (ay:aZ w R h μ v pC) :
  ∃ w',(Instr.storeAt t wj pC).run P w=.ok () w'/\ej w h μ w' h' μ/\cp R B w' h' μ:=by
 unfold A2 at ap;split at ap
 ·rename_i b off sz vs n jV aI;obtain⟨h6,nh⟩:=ED ay jV;cases ai:h.f b with
  | cells m cs=>
   rw[ai] at ap;simp only at ap;split at ap
   ·rename_i kf;obtain⟨rfl,bu,fv⟩:=kf;simp only[Option.some.injEq] at ap;subst ap;cases aF with
    | ptr bK GV sz' cs' cF ca hm=>
     have fe:=rel.blk b cF hm;rw[ai] at fe;have dH:=fe.2.1;obtain⟨w',h1,ag,aq⟩:=yO (P:=P) rel (cvs:=vs) (vs:=pC.cells.toList) (k:=off) ai hm (by omega) (by simpa using h6) (by omega)
      (fun j c am=>by obtain⟨u,br,bI,a3⟩:=nh j c am; exact⟨u,by simpa using br,bI,a3⟩)
     have na:max m (off+vs.length)=m:=by omega
     rw[na] at ag aq;refine⟨w',?_,ag,aq⟩;have b2:¬ (pC.cells.size≠n) :=by omega
     simp[Instr.storeAt,Instr.sureAddr,storeVar,gh aI,b2,h1]
    | nn bK GV sz' a aA=>
     rcases aA with aA | ⟨hE,cs',aA,aP⟩
     ·rw[aA] at ai; cases ai
     ·rw[aA] at ai; cases ai; omega
   ·cases ap
  | _=>rw[ai] at ap; cases ap
 ·cases ap
theorem Eo (rel:cp R B w h μ) {cs:List ad} {vs:Array Value} (t:TypeId) (ar:vs.size=cs.length)
  (ay:∀ (j:Nat) (c:ad),cs[j]? = some c->∃ v:Value,vs[j]? = some v/\v.oneCell'=true/\aZ w R h μ c v) :
  let h':=h.push (.cells cs.length cs)
  let μ':=ck μ h.n (some ⟨w.heap.size,0,vs.size⟩)
  let w':=w.alloc (.cells vs t)
  ej w h μ w' h' μ'/\cp R B w' h' μ'/\∀ off,aZ w' R h' μ' (.ptr h.n off cs.length) (.pointer (some ⟨w.heap.size,off,none⟩)) :=by
 intro h' μ' w';have:=rel.push (w':=w') cs vs t rfl rfl rfl rfl (by omega) ay;refine⟨this.1,this.2,fun off=>?_⟩;have aF:=aZ.ptr (w:=w') (R:=R) (h:=h') (μ:=μ') h.n off cs.length cs ⟨w.heap.size,0,vs.size⟩ (by simp[h',eS,ga]) (by simp[μ']);simpa using aF
theorem adq {t:TypeId} {z:List ad} (az:ia P t=some z) :∃ i v,P.info? t=some i/\i.zero=some v/\v.cells.size=z.length ∧
  ∀ (j:Nat) (c:ad),z[j]? = some c->∃ u:Value,v.cells[j]? = some u/\u.oneCell'=true/\aZ w R h μ c u:=by
 obtain⟨i,v,aB,ay,h1,rfl⟩:=awx az;refine⟨i,v,aB,ay,by simp,fun j c am=>?_⟩;rw[List.getElem?_map] at am;cases aS:v.cells[j]? with
 | none=>simp[aS] at am
 | some u=>
  simp[aS] at am;subst am;rw[List.all_eq_true] at h1;exact⟨u,rfl,h1 u (by have:=Array.mem_of_getElem? aS; simpa using this),aZ.pr u⟩
theorem RO {x:ad} {bY:Value} {k:Nat} {c:ad} (ak:od x k=some c) (al:aZ w R h μ x bY) :
  ∃ a,bY=.pointer (some a)/\aZ w R h μ c (.pointer (some (a.add k))) :=by
 cases al with
 | ptr b off sz cs m ai hm=>
  simp only[od,Option.some.injEq] at ak; subst ak;refine⟨_,rfl,?_⟩;rw[Addr.mW,Nat.add_assoc];exact .ptr b _ sz cs m ai hm
 | nn b off sz a aA=>
  simp only[od,Option.some.injEq] at ak; subst ak;exact⟨a,rfl,.nn _ _ _ _ aA⟩
 | cm cs off blk o eT fD ay=>
  simp only[od,Option.some.injEq] at ak; subst ak;refine⟨_,rfl,?_⟩;rw[Addr.mW,Nat.add_assoc];exact .cm cs _ blk o eT fD ay
 | _=>simp[od] at ak
theorem SA {s:TypeId} {f:Nat} {fd:Field} (aL:xe P s f=some fd) :∃ fs,P.underlying s=some (.struct fs)/\fs[f]? = some fd:=by
 unfold xe at aL;split at aL
 ·rename_i fs aS; exact⟨fs,aS,aL⟩
 ·cases aL
theorem ajx {s:TypeId} {x c:ad} {bY:Value} {f:Nat} (ak:ET P s x f=some c) (al:aZ w R h μ x bY) :
  ∃ v,(Instr.fieldAt s bY f).run P w=.ok v w/\aZ w R h μ c v:=by
 unfold ET at ak;split at ak
 ·rename_i fd aL;obtain⟨fs,aS,m7⟩:=SA aL;split at ak
  ·rename_i n aI;obtain⟨a,rfl,ay⟩:=RO ak al;refine⟨_,?_,ay⟩;simp[Instr.fieldAt,cZ aS,m7,Instr.sureAddr,fieldPlace,gh aI]
  ·cases ak
 ·cases ak
theorem r3 {x:ad} {bY:Value} {n:Int} (aB:asInt x=some n) (al:aZ w R h μ x bY) :∃ k,bY=.int k n:=by
 cases al<;>simp[asInt] at aB;subst aB;exact⟨_,rfl⟩
theorem anf {t:TypeId} {x h7 c:ad} {bY Dc:Value} (ak:Da P t x h7=some c) (al:aZ w R h μ x bY) (aB:aZ w R h μ h7 Dc) :
  ∃ v,(Instr.indexAt t bY Dc).run P w=.ok v w/\aZ w R h μ c v:=by
 unfold Da at ak;split at ak
 ·rename_i len e i aS fO;obtain⟨k,rfl⟩:=r3 fO aB;cases az:c5 P e with
  | none=>rw[az] at ak; cases ak
  | some z=>
   rw[az] at ak;simp only at ak;split at ak
   ·rename_i ai;obtain⟨a,rfl,ay⟩:=RO ak al;refine⟨_,?_,ay⟩;simp[Instr.indexAt,asIntOf,cZ aS,Instr.sureAddr,ai,gh az]
   ·cases ak
 ·rename_i e i aS fO;obtain⟨k,rfl⟩:=r3 fO aB;split at ak
  ·rename_i z eG b off len cap sz az;split at ak
   ·rename_i ai;obtain⟨rfl,ai⟩:=ai;simp only[Option.some.injEq] at ak; subst ak;cases al with
    | av _ _ _ _ _ _ cap' cs m ca hm ar ax dM=>
     refine⟨_,?_,aZ.ptr b (off+i.toNat*z) sz cs m ca hm⟩;simp[Instr.indexAt,asIntOf,cZ aS,ai,gh az,Addr.mW,Nat.add_assoc]
    | iy=>simp at ai; omega
    | g4 _ _ _ _ _ _ cap' a ar dM aA=>
     refine⟨_,?_,aZ.nn b _ sz (a.add (i.toNat*z)) aA⟩;simp[Instr.indexAt,asIntOf,cZ aS,ai,gh az]
   ·cases ak
  ·rename_i z eG es az;split at ak
   ·rename_i ai;obtain⟨rfl,ai⟩:=ai;cases au:es[i.toNat]? with
    | none=>rw[au] at ak; cases ak
    | some fV=>
     rw[au] at ak;simp only[Option.map_some,Option.some.injEq] at ak; subst ak;have aP:i.toNat<es.length:=(List.getElem?_eq_some_iff.1 au).1;have ea:(0<=i/\i<(es.length:Int)) :=by omega
     cases al with
     | cr _ _ blk off cap eT ar uh m5 ay=>
      have aln:fV.length=z:=uh _ (List.mem_of_getElem? au);refine⟨_,?_,aZ.cm fV 0 blk (off+i.toNat*z) (eT i.toNat) (fun j am=>?_) (ay _ _ au)⟩
      ·simp[Instr.indexAt,asIntOf,cZ aS,ea,gh az,Addr.mW]
      ·have:=m5 i.toNat j aP (by omega)
       rwa [Nat.add_assoc]
     | go=>simp at aP
   ·cases ak
  ·cases ak
 ·cases ak
end

end Go.ct

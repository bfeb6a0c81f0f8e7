/-
  The canonical machine, part A: its values, blocks, heap, and what one operation does.
-/
import Derived.WalkKit
import Derived.Below
import Derived.Laws.AppendOwn
import Derived.Laws.CopyRow
import Derived.Laws.IdiomCopy
import Derived.Laws.StructEq
set_option linter.unusedVariables false
set_option linter.unusedSimpArgs false
set_option linter.unnecessarySimpa false
namespace Go.cb
abbrev avO:=@List.take_of_length_le
abbrev avP:=@List.getElem?_eq_some_iff
abbrev avQ:=@List.getElem?_append_left
abbrev avR:=@Nat.le_refl
abbrev avS:=@List.getElem?_eq_getElem
abbrev avT:=@List.mem_iff_getElem?
abbrev avU:=@Bool.and_eq_true
abbrev avV:=@List.getElem?_map
abbrev avW:=@List.length_append
abbrev avX:=@Nat.mul_le_mul_right
abbrev avY:=@List.mem_of_getElem?
abbrev avZ:=@Option.map_some
abbrev av0:=@List.getElem?_set_ne
abbrev av1:=@List.length_take
abbrev av2:=@List.getElem?_append_right
abbrev av3:=@List.getElem?_set_self
abbrev av4:=@Nat.mod_eq_of_lt
abbrev av5:=@List.getElem?_eq_none
abbrev av6:=@BitVec.eq_of_toNat_eq
abbrev av7:=@List.take_add_one
abbrev av8:=@List.length_map
abbrev av9:=@BitVec.toNat_setWidth
abbrev awa:=@List.length_cons
abbrev awb:=@List.getElem?_take_of_lt
abbrev awc:=@BitVec.toNat_ofNat
abbrev awd:=@List.mem_singleton
abbrev awe:=@List.getD_eq_getElem?_getD
abbrev awf:=@List.mem_map
abbrev awg:=@List.take_append_of_le_length
abbrev awh:=@List.mem_of_mem_take
abbrev awi:=@List.take_length
abbrev awj:=@Nat.shiftRight_eq_div_pow
abbrev awk:=@List.getElem?_cons_zero
abbrev awl:=@List.mem_append
abbrev awm:=@List.map_append
abbrev awn:=@List.map_cons
abbrev awo:=@List.append_assoc
abbrev awp:=@List.append_nil
abbrev awq:=@Array.getElem?_eq_some_iff
abbrev awr:=@List.getElem?_range
abbrev aws:=@List.mem_range
abbrev awt:=@List.length_eq_zero_iff
abbrev awu:=@List.length_nil
abbrev awv:=@List.getElem?_drop
abbrev aww:=@List.pairwise_iff_getElem
abbrev awx:=@List.getElem?_cons_succ
abbrev awy:=@List.take_append_drop
abbrev awz:=@List.set_append_right
abbrev awA:=@List.mem_cons
abbrev awB:=@List.drop_eq_nil_of_le
abbrev awC:=@List.flatten_append
abbrev awD:=@Nat.succ_mul
abbrev awE:=@List.drop_append_of_le_length
abbrev awF:=@Option.getD_some
abbrev awG:=@List.all_eq_true
abbrev awH:=@BitVec.toNat_ushiftRight
abbrev awI:=@List.nil_append
abbrev awJ:=@Nat.add_mul
abbrev awK:=@Nat.eq_of_beq_eq_true
abbrev awL:=@Bool.true_and
abbrev awM:=@List.ext_getElem?
abbrev awN:=@List.cons_append
abbrev awO:=@Array.getD_eq_getD_getElem?
abbrev awP:=@List.mem_filter
abbrev awQ:=@Nat.min_eq_left
abbrev awR:=@Bool.false_and
abbrev awS:=@List.drop_eq_getElem_cons
abbrev awT:=@List.flatten_cons
abbrev awU:=@Nat.le_of_ble_eq_true
abbrev awV:=@List.replicate_succ
abbrev awW:=@List.length_drop
abbrev awX:=@Array.getElem?_append_left
abbrev awY:=@Nat.lt_trichotomy
abbrev awZ:=@Int.toNat_natCast
abbrev aw0:=@List.nodup_append
abbrev aw1:=@List.drop_of_length_le
abbrev aw2:=@List.drop_zero
abbrev aw3:=@List.map_eq_nil_iff
abbrev aw4:=@Nat.zero_le
abbrev aw5:=@Bool.not_eq_true'
abbrev aw6:=@Nat.lt_or_ge
abbrev aw7:=@List.takeWhile_cons
abbrev aw8:=@BitVec.toNat_umod
abbrev aw9:=@List.take_zero
abbrev axa:=@Nat.zero_add
abbrev axb:=@Array.getElem?_setIfInBounds
abbrev axc:=@Nat.le_trans
abbrev axd:=@List.take_take
abbrev axe:=@List.eq_of_mem_replicate
abbrev axf:=@Bool.false_eq_true
abbrev axg:=@Int.eq_ofNat_of_zero_le
abbrev axh:=@BitVec.ofInt_natCast
abbrev axi:=@List.getElem?_set
abbrev axj:=@List.mem_map_of_mem
abbrev axk:=@Array.getElem?_eq_getElem
abbrev axl:=@List.mem_or_eq_of_mem_set
abbrev axm:=@List.length_filter_le
abbrev axn:=@Nat.mul_one
abbrev axo:=@List.mem_of_mem_drop
abbrev axp:=@BitVec.toNat_udiv
abbrev axq:=@List.range_succ
abbrev axr:=@List.map_congr_left
abbrev axs:=@Array.getElem?_eq_none
abbrev axt:=@List.set_eq_take_append_cons_drop
abbrev axu:=@Nat.add_assoc
abbrev axv:=@Option.bind_some
abbrev axw:=@Nat.shiftLeft_eq
abbrev axx:=@List.mapM_cons
abbrev axy:=@List.set_cons_zero
abbrev axz:=@Nat.add_sub_cancel
abbrev axA:=@List.mem_append_left
abbrev axB:=@List.flatMap_append
abbrev axC:=@List.filter_sublist
abbrev axD:=@List.map_map
abbrev axE:=@List.pairwise_cons
abbrev axF:=@List.filter_append
abbrev axG:=@Array.getElem?_toList
abbrev axH:=@Option.pure_def
abbrev axI:=@List.take_sublist
abbrev axJ:=@List.getElem?_of_mem
abbrev axK:=@Nat.mod_lt
abbrev axL:=@List.pairwise_append
abbrev axM:=@BitVec.toNat_mul
abbrev axN:=@List.take_append
abbrev axO:=@Array.length_toList
abbrev axP:=@Bool.and_self
abbrev axQ:=@List.sum_cons
abbrev axR:=@Option.isSome_none
abbrev axS:=@Array.eq_empty_of_size_eq_zero
abbrev axT:=@Bool.or_eq_true
abbrev axU:=@List.set_cons_succ
abbrev axV:=@BitVec.toNat_shiftLeft
abbrev axW:=@List.count_append
abbrev axX:=@Nat.sub_self
abbrev axY:=@Array.getElem?_modify
abbrev axZ:=@Nat.le_of_lt
abbrev ax0:=@List.map_nil
abbrev ax1:=@Array.getElem?_append_right
abbrev ax2:=@List.getElem?_concat_length
abbrev ax3:=@Nat.max_eq_right
abbrev ax4:=@List.count_singleton
abbrev ax5:=@Bool.false_or
abbrev ax6:=@List.map_take
abbrev ax7:=@Nat.add_eq_zero_iff
abbrev ax8:=@List.getElem?_eq_none_iff
abbrev ax9:=@List.length_set
abbrev aya:=@List.nodup_cons
abbrev ayb:=@Nat.zero_mul
abbrev ayc:=@Array.append_assoc
abbrev ayd:=@Nat.add_zero
abbrev aye:=@Array.getElem?_map
abbrev ayf:=@Nat.lt_of_lt_of_le
abbrev ayg:=@Nat.lt_of_le_of_ne
abbrev ayh:=@List.drop_take
abbrev ayi:=@List.foldl_append
abbrev ayj:=@Option.map_eq_some_iff
abbrev ayk:=@Nat.one_mul
abbrev ayl:=@Nat.mul_mod
abbrev aym:=@List.getElem_mem
abbrev ayn:=@BitVec.toNat_and
abbrev ayo:=@Bool.not_eq_true
abbrev ayp:=@List.getElem?_toArray
abbrev ayq:=@List.takeWhile_prefix
abbrev ayr:=@List.find?_cons
abbrev ays:=@List.mem_cons_of_mem
abbrev ayt:=@Nat.sub_zero
abbrev ayu:=@Nat.and_two_pow_sub_one_eq_mod
abbrev ayv:=@Nat.one_ne_zero
abbrev ayw:=@Bool.eq_iff_iff
abbrev ayx:=@Nat.shiftLeft_add_eq_or_of_lt
abbrev ayy:=@List.drop_succ_cons
abbrev ayz:=@List.mergeSort_perm
abbrev ayA:=@List.drop_drop
abbrev ayB:=@Nat.pow_add
abbrev ayC:=@Nat.pow_mod
abbrev ayD:=@List.count_pos_iff
abbrev ayE:=@Nat.eq_or_lt_of_le
abbrev ayF:=@List.mem_cons_self
abbrev ayG:=@Bool.true_eq_false
abbrev ayH:=@List.map_replicate
abbrev ayI:=@Array.size_append
abbrev ayJ:=@List.size_toArray
abbrev ayK:=@List.mem_of_find?_eq_some
abbrev ayL:=@Option.isNone_iff_eq_none
abbrev ayM:=@Nat.beq_refl
abbrev ayN:=@Option.isSome_iff_exists
abbrev ayO:=@List.mem_flatMap
abbrev ayP:=@Nat.mul_comm
abbrev ayQ:=@BitVec.toNat_add
abbrev ayR:=@Nat.div_eq_of_lt
abbrev ayS:=@BitVec.toNat_not
abbrev ayT:=@List.length_erase_of_mem
abbrev ayU:=@List.nodup_range
abbrev ayV:=@List.isEmpty_iff
abbrev ayW:=@Nat.le_of_not_lt
abbrev ayX:=@List.le_antisymm
abbrev ayY:=@List.any_eq_true
abbrev ayZ:=@List.prefix_iff_eq_take
abbrev ay0:=@List.pairwise_mergeSort
abbrev ay1:=@List.foldl_cons
abbrev ay2:=@Nat.max_eq_left
abbrev ay3:=@Nat.min_def
abbrev ay4:=@List.not_lt
abbrev ay5:=@Bool.and_false
abbrev ay6:=@List.nodup_nil
abbrev ay7:=@List.lt_irrefl
abbrev ay8:=@Nat.blt_eq
abbrev ay9:=@List.all_cons
open Go
inductive U where
 | bool (b:Bool)
 | int (k:IntKind) (n:Int)
 | str (s:List UInt8)
 | jU | aT | ia | jS | jT
 | aH (cs:List U)
 | bG (vs:List U)
 | ptr (b off sz:Nat)
 | b3 (cs:List U) (off:Nat)
 | ar (z b off len cap sz:Nat)
 | bQ (z:Nat) (es:List (List U))
 | fn (f:FuncId) (first gi:List U)
 | mp (b:Nat)
 | it (b:Nat)
 | g0 (t:TypeId) (v:U)
 | m5 (l:Nat)
 | bad
 deriving Inhabited
inductive a7 where
 | none
 | dead
 | cells (sz:Nat) (cs:List U)
 | map (es:List (U × U × Nat)) (aqN:Nat)
 | iter (s:List UInt8) (pos:Nat)
 deriving Inhabited
inductive cR (α:Type) where
 | nil
 | node (l:cR α) (v:Option α) (r:cR α)
def cR.get {α:Type}:cR α->Nat->Option α
 | .nil,_=>none
 | .node l v r,n=>match Nat.beq n 0 with
  | true=>v
  | false=>match Nat.beq (n % 2) 1 with
   | true=>l.get (n / 2)
   | false=>r.get (n / 2 - 1)
def cR.lh {α:Type}:Nat->cR α->Nat->α->cR α
 | 0,t,_,_=>t
 | k+1,.nil,n,x=>match Nat.beq n 0 with
  | true=>.node .nil (some x) .nil
  | false=>match Nat.beq (n % 2) 1 with
   | true=>.node (cR.lh k .nil (n / 2) x) none .nil
   | false=>.node .nil none (cR.lh k .nil (n / 2 - 1) x)
 | k+1,.node l v r,n,x=>match Nat.beq n 0 with
  | true=>.node l (some x) r
  | false=>match Nat.beq (n % 2) 1 with
   | true=>.node (cR.lh k l (n / 2) x) v r
   | false=>.node l v (cR.lh k r (n / 2 - 1) x)
def cR.set {α:Type} (t:cR α) (n:Nat) (x:α) :cR α:=t.lh (n+1) n x
theorem kh {a b:Nat} (h:¬ a=b) :Nat.beq a b=false:=by
 cases ag:Nat.beq a b with
 | false=>rfl
 | true=>exact absurd (awK ag) h
theorem tF {a b:Nat} (h:a=b) :Nat.beq a b=true:=by subst h; exact ayM a
theorem cR.De {α:Type}:∀ (k:Nat) (t:cR α) (n:Nat) (x:α) (m:Nat),n<k->(t.lh k n x).get m=if m=n then some x else t.get m
 | 0,_,_,_,_,h=>by omega
 | k+1,.nil,n,x,m,h=>by
  unfold cR.lh;by_cases aD:n=0
  ·subst aD;simp only;unfold cR.get;by_cases hm:m=0
   ·subst hm; simp
   ·have:Nat.beq m 0=false:=kh hm;simp only[this,if_neg hm];split<;>rfl
  ·have ag:Nat.beq n 0=false:=kh aD;simp only[ag];by_cases h1:n % 2=1
   ·have gY:Nat.beq (n % 2) 1=true:=tF h1;simp only[gY];unfold cR.get;by_cases hm:m=0
    ·subst hm; simp; omega
    ·have:Nat.beq m 0=false:=kh hm;simp only[this];by_cases go:m % 2=1
     ·have:Nat.beq (m % 2) 1=true:=tF go;simp only[this];rw[cR.De k .nil (n / 2) x (m / 2) (by omega)];by_cases ao:m=n
      ·subst ao; simp
      ·rw[if_neg ao,if_neg (by omega)]; rfl
     ·have:Nat.beq (m % 2) 1=false:=kh go;simp only[this];rw[if_neg (by intro aG; subst aG; exact go h1)];rfl
   ·have gY:Nat.beq (n % 2) 1=false:=kh h1;simp only[gY];unfold cR.get;by_cases hm:m=0
    ·subst hm; simp; omega
    ·have:Nat.beq m 0=false:=kh hm;simp only[this];by_cases go:m % 2=1
     ·have:Nat.beq (m % 2) 1=true:=tF go;simp only[this];rw[if_neg (by intro aG; subst aG; exact h1 go)];rfl
     ·have:Nat.beq (m % 2) 1=false:=kh go;simp only[this];rw[cR.De k .nil (n / 2 - 1) x (m / 2 - 1) (by omega)];by_cases ao:m=n
      ·subst ao; simp
      ·rw[if_neg ao,if_neg (by omega)]; rfl
 | k+1,.node l v r,n,x,m,h=>by
  unfold cR.lh;by_cases aD:n=0
  ·subst aD;simp only;unfold cR.get;by_cases hm:m=0
   ·subst hm; simp
   ·have:Nat.beq m 0=false:=kh hm;simp only[this,if_neg hm]
  ·have ag:Nat.beq n 0=false:=kh aD;simp only[ag];by_cases h1:n % 2=1
   ·have gY:Nat.beq (n % 2) 1=true:=tF h1;simp only[gY];unfold cR.get;by_cases hm:m=0
    ·subst hm; simp; omega
    ·have:Nat.beq m 0=false:=kh hm;simp only[this];by_cases go:m % 2=1
     ·have:Nat.beq (m % 2) 1=true:=tF go;simp only[this];rw[cR.De k l (n / 2) x (m / 2) (by omega)];by_cases ao:m=n
      ·subst ao; simp
      ·rw[if_neg ao,if_neg (by omega)]
     ·have:Nat.beq (m % 2) 1=false:=kh go;simp only[this];rw[if_neg (by intro aG; subst aG; exact go h1)]
   ·have gY:Nat.beq (n % 2) 1=false:=kh h1;simp only[gY];unfold cR.get;by_cases hm:m=0
    ·subst hm; simp; omega
    ·have:Nat.beq m 0=false:=kh hm;simp only[this];by_cases go:m % 2=1
     ·have:Nat.beq (m % 2) 1=true:=tF go;simp only[this];rw[if_neg (by intro aG; subst aG; exact h1 go)]
     ·have:Nat.beq (m % 2) 1=false:=kh go;simp only[this];rw[cR.De k r (n / 2 - 1) x (m / 2 - 1) (by omega)];by_cases ao:m=n
      ·subst ao; simp
      ·rw[if_neg ao,if_neg (by omega)]
theorem cR.Gu {α:Type} (t:cR α) (n:Nat) (x:α) (m:Nat) :(t.set n x).get m=if m=n then some x else t.get m:=cR.De _ _ _ _ _ (by omega)
structure aQ where
 n:Nat
 t:cR a7
def aQ.f (h:aQ) (b:Nat) :a7:=match h.t.get b with | some c=>c | none=>.none
def aQ.empty:aQ:=⟨0,.nil⟩
def bS {α:Type} (f:Nat->α) (i:Nat) (v:α) :Nat->α:=fun j=>if j=i then v else f j
def aQ.push (h:aQ) (c:a7) :aQ:=⟨h.n+1,h.t.set h.n c⟩
def aQ.set (h:aQ) (b:Nat) (c:a7) :aQ:=⟨h.n,h.t.set b c⟩
theorem fN (h:aQ) (c:a7) :(h.push c).n=h.n+1:=rfl
theorem ff (h:aQ) (b:Nat) (c:a7) :(h.set b c).n=h.n:=rfl
theorem eG (h:aQ) (c:a7) :(h.push c).f=bS h.f h.n c:=by
 funext b;simp only[aQ.f,aQ.push,bS,cR.Gu];by_cases ag:b=h.n
 ·simp[ag]
 ·simp[ag]
theorem eg (h:aQ) (b:Nat) (c:a7) :(h.set b c).f=bS h.f b c:=by
 funext bu;simp only[aQ.f,aQ.set,bS,cR.Gu];by_cases ag:bu=b
 ·simp[ag]
 ·simp[ag]
theorem Gg (b:Nat) :aQ.empty.f b=.none:=rfl
@[simp] theorem kw {α:Type} (f:Nat->α) (i:Nat) (v:α) :bS f i v i=v:=by simp[bS]
theorem cm {α:Type} (f:Nat->α) (i j:Nat) (v:α) (h:j≠i) :bS f i v j=f j:=by simp[bS,h]
def U.one:U->Bool
 | .aH _ | .bG _ | .bad=>false
 | _=>true
def U.cells:U->Option (List U)
 | .aH cs=>some cs
 | .bG _ | .bad=>none
 | v=>some [v]
def pP:Value->U
 | .bool b=>.bool b
 | .int k n=>.int k n
 | .string s=>.str s.data.toList
 | .pointer a=>match a with | none=>.jU | some _=>.bad
 | .slice a l c=>match a,l,c with | none,0,0=>.aT | _,_,_=>.bad
 | .map r=>match r with | none=>.ia | some _=>.bad
 | .nilFunc=>.jS
 | .nilIface=>.jT
 | .func fn first gi=>match fn,first.toList,gi.toList with | .func f,[],[]=>.fn f [] [] | _,_,_=>.bad
 | _=>.bad
def xu:Value->U
 | .agg cs=>if cs.toList.all Value.oneCell' then .aH (cs.toList.map pP) else .bad
 | .tuple vs=>.bG (vs.toList.map pP)
 | v=>pP v
def da (G:Nat->U) (ae:Nat->U) :Operand->U
 | .tmp t=>ae t
 | .const v=>xu v
 | .func f=>.fn f [] []
 | .global g=>G g
def eB (P:Program) (t:TypeId) :Option Bool:=(P.underlying t).map fun d=>match d with | .struct _ | .array _ _=>true | _=>false
def cM (P:Program) (t:TypeId) :Option Nat:=(P.info? t).map (·.size)
def i5 (P:Program) (t:TypeId) :Option Nat:=(P.info? t).map (·.bytes)
def hV (P:Program) (t:TypeId) :Option (List U) :=((P.info? t).bind (·.zero)).bind fun v=>if v.cells.toList.all Value.oneCell' then some (v.cells.toList.map pP) else none
def iR (P:Program) (t:TypeId) :Option TypeId:=match P.underlying t with | some (.slice e)=>some e | _=>none
def ic (P:Program) (t:TypeId) (cs:List U) (off:Nat) :Option U:=
 match eB P t,cM P t with
 | some true,some n=>if off+n<=cs.length then some (.aH ((cs.drop off).take n)) else none
 | some false,_=>cs[off]?
 | _,_=>none
def reach (h:aQ) :U->Option (List U × Nat)
 | .ptr b off sz=>match h.f b with
  | .cells n cs=>if n=sz then some (cs,off) else none
  | _=>none
 | .b3 cs off=>some (cs,off)
 | _=>none
def tB (P:Program) (h:aQ) (t:TypeId) (p:U) :Option U:=
 match reach h p with
 | some (cs,off)=>ic P t cs off
 | none=>none
def bt (cs:List U) (off:Nat) (vs:List U) :List U:=cs.take off++vs++cs.drop (off+vs.length)
def BZ (P:Program) (h:aQ) (t:TypeId) (p v:U) :Option aQ:=
 match p,v.cells,cM P t with
 | .ptr b off sz,some vs,some n=>match h.f b with
  | .cells m cs=>if m=sz/\vs.length=n/\off+n<=m then some (h.set b (.cells m (bt cs off vs))) else none
  | _=>none
 | _,_,_=>none
def asInt:U->Option Int
 | .int _ n=>some n
 | _=>none
def yp (P:Program) (s:TypeId) (f:Nat) :Option Field:=match P.underlying s with | some (.struct fs)=>fs[f]? | _=>none
def nU:U->Nat->Option U
 | .ptr b off sz,k=>some (.ptr b (off+k) sz)
 | .b3 cs off,k=>some (.b3 cs (off+k))
 | _,_=>none
def Gm (P:Program) (s:TypeId) (x:U) (f:Nat) :Option U:=
 match yp P s f with
 | some fd=>match cM P fd.type with
  | some (_+1)=>nU x fd.offset
  | _=>none
 | none=>none
def Ef (P:Program) (t:TypeId) (x hc:U) :Option U:=
 match P.underlying t,asInt hc with
 | some (.array len e),some i=>match cM P e with
  | some z=>if 0<=i/\i<len then nU x (i.toNat*z) else none
  | none=>none
 | some (.slice e),some i=>match cM P e,x with
  | some z,.ar dO b off len _ sz=>if z=dO/\0<=i/\i<len then some (.ptr b (off+i.toNat*z) sz) else none
  | some z,.bQ dO es=>if z=dO/\0<=i then (es[i.toNat]?).map fun cs=>.b3 cs 0 else none
  | _,_=>none
 | _,_=>none
def hP (lH:Nat->Option (Nat × Nat)) (cells:List U) :List (Nat × U)->Option (List U)
 | []=>some cells
 | (i,v) ::rest=>match lH i,v.cells with
  | some (off,size),some vs=>if vs.length=size/\off+size<=cells.length then hP lH (bt cells off vs) rest else none
  | _,_=>none
def ES (P:Program) (fs:Array Field) (i:Nat) :Option (Nat × Nat) :=(fs[i]?).bind fun f=>(cM P f.type).map fun n=>(f.offset,n)
def CB (P:Program) (t:TypeId) (parts:List (Nat × U)) :Option U:=
 match hV P t,P.underlying t with
 | some zero,some (.struct fs)=>if !(fs.toList.all fun f=>(cM P f.type).isSome) then none else (hP (ES P fs) zero parts).map .aH
 | some zero,some (.array _ e)=>match cM P e with
  | some n=>(hP (fun i=>some (i*n,n)) zero parts).map .aH
  | none=>none
 | _,_=>none
def dN (zero:List U) :Nat->List U
 | 0=>[]
 | n+1=>zero++dN zero n
def FW (P:Program) (h:aQ) (t:TypeId) (len:Nat) (parts:List (Nat × U)) :Option (U × aQ) :=
 match iR P t with
 | some e=>match cM P e,hV P e with
  | some z,some zero=>if zero.length=z/\len*z<=16777216 then
    (hP (fun i=>some (i*z,z)) (dN zero len) parts).map fun cs=>(.ar z h.n 0 len len (len*z),h.push (.cells (len*z) cs))
   else none
  | _,_=>none
 | none=>none
def cD (op:BinOp) (k:IntKind) (a:Int) (k' : IntKind) (b:Int) :Option U:=
 match op with
 | .shl=>if b<0 then none else some (.int k (k.wrap (a*2 ^ min b.toNat k.bits)))
 | .shr=>if b<0 then none else some (.int k (a.fdiv (2 ^ min b.toNat k.bits)))
 | .add=>if k=k' then some (.int k (k.wrap (a+b))) else none
 | .sub=>if k=k' then some (.int k (k.wrap (a - b))) else none
 | .mul=>if k=k' then some (.int k (k.wrap (a*b))) else none
 | .quo=>if k=k'/\b≠0 then some (.int k (k.wrap (a.tdiv b))) else none
 | .rem=>if k=k'/\b≠0 then some (.int k (a.tmod b)) else none
 | .and=>if k=k' then some (.int k (k.wrap (BitVec.ofInt k.bits a &&& BitVec.ofInt k.bits b).toNat)) else none
 | .or=>if k=k' then some (.int k (k.wrap (BitVec.ofInt k.bits a ||| BitVec.ofInt k.bits b).toNat)) else none
 | .xor=>if k=k' then some (.int k (k.wrap (BitVec.ofInt k.bits a ^^^ BitVec.ofInt k.bits b).toNat)) else none
 | .andNot=>if k=k' then some (.int k (k.wrap (BitVec.ofInt k.bits a &&& ~~~BitVec.ofInt k.bits b).toNat)) else none
 | .eql=>if k=k' then some (.bool (a == b)) else none
 | .neq=>if k=k' then some (.bool (a != b)) else none
 | .lss=>if k=k' then some (.bool (decide (a<b))) else none
 | .leq=>if k=k' then some (.bool (decide (a<=b))) else none
 | .gtr=>if k=k' then some (.bool (decide (a > b))) else none
 | .geq=>if k=k' then some (.bool (decide (a ≥ b))) else none
def pn (op:BinOp) (a b:List UInt8) :Option U:=
 match op with
 | .eql=>some (.bool (a == b))
 | .neq=>some (.bool (!(a == b)))
 | .lss=>some (.bool (Op.bytesLess a b))
 | .leq=>some (.bool (Op.bytesLess a b||a == b))
 | .gtr=>some (.bool (!(Op.bytesLess a b||a == b)))
 | .geq=>some (.bool (!Op.bytesLess a b))
 | .add=>if a.length+b.length<=9223372036854775807 then some (.str (a++b)) else none
 | _=>none
def eZ (P:Program) :Nat->TypeId->U->U->Option Bool
 | 0,_,_,_=>none
 | d+1,t,x,y=>
  match P.underlying t,x,y with
  | some .bool,.bool a,.bool b=>some (a == b)
  | some (.int _),.int k a,.int k' b=>if k=k' then some (a == b) else none
  | some .string,.str a,.str b=>some (a == b)
  | some (.struct fs),.aH xs,.aH bh=>if P.stoodInHeld t then none else eqFields P (eZ P d) xs bh fs.toList
  | some (.array n e),.aH xs,.aH bh=>match cM P e with
   | some z=>s1 P (eZ P d) e z xs bh n 0
   | none=>none
  | some (.slice _),.aT,.aT=>some true
  | some (.slice _),.aT,.ar .. | some (.slice _),.aT,.bQ .. | some (.slice _),.ar ..,.aT | some (.slice _),.bQ ..,.aT=>some false
  | _,_,_=>none
where
 eqFields (P:Program) (eq:TypeId->U->U->Option Bool) (xs bh:List U) :List Field->Option Bool
  | []=>some true
  | f::fs=>if f.name= "_" then eqFields P eq xs bh fs else
   match ic P f.type xs f.offset,ic P f.type bh f.offset with
   | some a,some b=>match eq f.type a b with
    | some true=>eqFields P eq xs bh fs
    | some false=>some false
    | none=>none
   | _,_=>none
 s1 (P:Program) (eq:TypeId->U->U->Option Bool) (e:TypeId) (z:Nat) (xs bh:List U) :Nat->Nat->Option Bool
  | 0,_=>some true
  | n+1,i=>match ic P e xs (i*z),ic P e bh (i*z) with
   | some a,some b=>match eq e a b with
    | some true=>s1 P eq e z xs bh n (i+1)
    | some false=>some false
    | none=>none
   | _,_=>none
def yl (P:Program) (t:TypeId) :U->U->Bool
 | .aH _,.aH _=>!P.eqGuardType P.depth t
 | _,_=>true
def gH (P:Program) (op:BinOp) (t:TypeId) (x y:U) :Option U:=
 match x,y with
 | .int k a,.int k' b=>cD op k a k' b
 | .str a,.str b=>pn op a b
 | x,y=>match op with
  | .eql=>if yl P t x y then (eZ P 10000 t x y).map .bool else none
  | .neq=>if yl P t x y then (eZ P 10000 t x y).map fun b=>.bool (!b) else none
  | _=>none
def rg (op:UnOp) (x:U) :Option U:=
 match op,x with
 | .not,.bool b=>some (.bool (!b))
 | .neg,.int k n=>some (.int k (k.wrap (0 - n)))
 | .xor,.int k n=>some (.int k (k.wrap (BitVec.ofInt k.bits (if k.signed then -1 else k.max) ^^^ BitVec.ofInt k.bits n).toNat))
 | _,_=>none
def mz (z:Nat) :Nat->List U->List (List U)
 | 0,_=>[]
 | n+1,cs=>cs.take z::mz z n (cs.drop z)
def jx (b:UInt8) :U:=.int .u8 b.toNat
def contents (h:aQ) (z:Nat) :U->Option (List U × Nat)
 | .aT=>some ([],0)
 | .bQ dO es=>if z=dO then some (es.flatten,es.length) else none
 | .ar dO b off len _ sz=>match h.f b with
  | .cells n cs=>if n=sz/\z=dO then some ((cs.drop off).take (len*z),len) else none
  | _=>none
 | .str s=>if z=1 then some (s.map jx,s.length) else none
 | _=>none
def cy:Nat:=140737488355328
def ug (P:Program) (t:TypeId) :Option Nat:=((P.info? t).bind (·.zero)).map (·.cells.size)
def wc (P:Program) (h:aQ) (e:TypeId) (z by_:Nat) (s:U) (xs:List U) (n:Nat) :Option (U × aQ) :=
 if n=0 then (match s with | .aT | .bQ .. | .ar ..=>some (s,h) | _=>none)
 else if z=0\/by_=0\/ug P e≠some z then none else match s with
  | .aT=>if n*by_<=cy then some (.ar z h.n 0 n n (n*z),h.push (.cells (n*z) xs)) else none
  | .ar dO b off len cap sz=>match h.f b with
   | .cells m cs=>
    if m=sz/\z=dO/\(len+n)*by_<=cy then
     if len+n<=cap then some (.ar z b off (len+n) cap sz,h.set b (.cells m (bt cs (off+len*z) xs)))
     else if off+cap*z<sz then some (.ar z h.n 0 (len+n) (len+n) ((len+n)*z),h.push (.cells ((len+n)*z) ((cs.drop off).take (len*z)++xs)))
     else if off=0 then some (.ar z b 0 (len+n) (len+n) ((len+n)*z),h.set b (.cells ((len+n)*z) (cs.take (len*z)++xs)))
     else some (.ar z h.n 0 (len+n) (len+n) ((len+n)*z),(h.set b .dead).push (.cells ((len+n)*z) ((cs.drop off).take (len*z)++xs)))
    else none
   | _=>none
  | _=>none
def sP (P:Program) (h:aQ) (t:TypeId) (s x:U) :Option (U × aQ) :=
 match iR P t with
 | none=>none
 | some e=>match cM P e,i5 P e with
  | some z,some by_=>match contents h z x with
   | none=>none
   | some (xs,n)=>wc P h e z by_ s xs n
  | _,_=>none
def j0 (x:U) (y:Nat) :Option Nat:=match x with | .int _ i=>if 0<=i/\i<=y then some i.toNat else none | _=>none
def gW (len cap:Nat) (cV av cW:Option U) :Option (Nat × Nat × Nat) :=
 match (match cW with | some v=>j0 v cap | none=>some cap) with
 | none=>none
 | some m=>match (match av,cW with | some v,_=>j0 v m | none,none=>some len | none,some _=>none) with
  | none=>none
  | some h=>match (match cV with | some v=>j0 v h | none=>some 0) with
   | none=>none
   | some l=>some (l,h,m)
def Fc (P:Program) (t:TypeId) (x:U) (cV av cW:Option U) :Option U:=
 match P.underlying t,x with
 | some (.array n e),x=>match cM P e,gW n n cV av cW with
  | some z,some (l,aG,m)=>match x with
   | .ptr b off sz=>if off+m*z<=sz then (if m=l then some (.bQ z []) else some (.ar z b (off+l*z) (aG - l) (m - l) sz)) else none
   | .b3 cs off=>if off+n*z<=cs.length then some (.bQ z (mz z (aG - l) (cs.drop (off+l*z)))) else none
   | _=>none
  | _,_=>none
 | some (.slice e),x=>match cM P e,x with
  | some z,.ar dO b off len cap sz=>if z=dO then (gW len cap cV av cW).map fun (l,aG,m)=>if m=l then .ar z b (off+l*z) 0 0 sz else .ar z b (off+l*z) (aG - l) (m - l) sz else none
  | some z,.bQ dO es=>if z=dO then (gW es.length es.length cV av cW).map fun (l,aG,_)=>.bQ z ((es.drop l).take (aG - l)) else none
  | some _,.aT=>(gW 0 0 cV av cW).map fun _=>.aT
  | _,_=>none
 | some .string,.str s=>match cW with
  | none=>(gW s.length s.length cV av none).map fun (l,aG,_)=>.str ((s.drop l).take (aG - l))
  | some _=>none
 | _,_=>none
def zk (P:Program) (t:TypeId) (x:U) :Option U:=
 match P.underlying t,x with
 | some .string,.str s=>some (.int .i64 s.length)
 | some (.array n _),_=>some (.int .i64 n)
 | some (.slice _),.aT=>some (.int .i64 0)
 | some (.slice _),.ar _ _ _ len _ _=>some (.int .i64 len)
 | some (.slice _),.bQ _ es=>some (.int .i64 es.length)
 | some (.map _ _),.ia=>some (.int .i64 0)
 | _,_=>none
def Ig (P:Program) (h:aQ) (t:TypeId) (l c:U) :Option (U × aQ) :=
 match iR P t,asInt l,asInt c with
 | some e,some l,some c=>match cM P e,i5 P e,hV P e with
  | some z,some by_,some zero=>
   if zero.length=z/\0<=l/\l<=c/\c<9223372036854775808/\by_*c<=cy then
    some (.ar z h.n 0 l.toNat c.toNat (c.toNat*z),h.push (.cells (c.toNat*z) (dN zero c.toNat)))
   else none
  | _,_,_=>none
 | _,_,_=>none
def Ar (P:Program) (h:aQ) (t:TypeId) (d x:U) :Option (U × aQ) :=
 match iR P t with
 | none=>none
 | some e=>match cM P e with
  | none=>none
  | some z=>match contents h z x with
   | none=>none
   | some (xs,n)=>match d with
    | .aT=>some (.int .i64 0,h)
    | .ar dO b off len _ sz=>match h.f b with
     | .cells m cs=>if m=sz/\z=dO then some (.int .i64 ((min n len:Nat) :Int),h.set b (.cells m (bt cs off (xs.take (min n len*z))))) else none
     | _=>none
    | _=>none
def nQ:List U->Option (List UInt8)
 | []=>some []
 | .int .u8 n::r=>(nQ r).map (UInt8.ofNat n.toNat::·)
 | _::_=>none
def yh (P:Program) (h:aQ) (src dst:TypeId) (x:U) :Option U:=
 match P.underlying src,P.underlying dst,x with
 | some _,some (.int k),.int _ n=>some (.int k (k.wrap n))
 | some _,some .string,.str s=>some (.str s)
 | some (.slice e),some .string,x=>match P.underlying e,x with
  | some (.int .u8),.aT=>some (.str [])
  | some (.int .u8),x=>match contents h 1 x,x with
   | some _,.str _=>none
   | some (cs,_),_=>(nQ cs).map .str
   | none,_=>none
  | _,_=>none
 | _,_,_=>none
def Aj (P:Program) (src dst:TypeId) (x:U) :Option U:=
 match P.underlying src,P.underlying dst,x with
 | some _,some (.slice e),.str s=>match P.underlying e with
  | some (.int .u8)=>some (.bQ 1 (s.map fun b=>[jx b]))
  | _=>none
 | _,_,_=>none
def Al (P:Program) (t:TypeId) (x:U) :Option U:=
 match P.underlying t,x with
 | some (.array n _),_=>some (.int .i64 n)
 | some (.slice _),.aT=>some (.int .i64 0)
 | _,_=>none
def Ap (P:Program) (h:aQ) (t:TypeId) (x:U) :Option aQ:=
 match P.underlying t,x with
 | some (.slice _),.aT=>some h
 | some (.slice _),.bQ _ []=>some h
 | some (.slice e),.ar z b off len _ sz=>if len=0 then some h else match hV P e,h.f b with
  | some zero,.cells m cs=>if m=sz/\zero.length=z then some (h.set b (.cells m (bt cs off (dN zero len)))) else none
  | _,_=>none
 | _,_=>none
def Bt (P:Program) (t:TypeId) (x hc:U) :Option U:=
 match P.underlying t,x,asInt hc with
 | some (.array n e),.aH cs,some i=>match cM P e with
  | some z=>if 0<=i/\i<n then ic P e cs (i.toNat*z) else none
  | none=>none
 | some .string,.str s,some i=>if 0<=i then (s[i.toNat]?).map jx else none
 | _,_,_=>none
mutual
def U.beq:U->U->Bool
 | .bool a,y=>match y with | .bool b=>(match a,b with | true,true=>true | false,false=>true | _,_=>false) | _=>false
 | .int k n,y=>match y with | .int k' hi=>decide (k=k')&&decide (n=hi) | _=>false
 | .str a,y=>match y with | .str b=>decide (a=b) | _=>false
 | .jU,y=>match y with | .jU=>true | _=>false
 | .aT,y=>match y with | .aT=>true | _=>false
 | .ia,y=>match y with | .ia=>true | _=>false
 | .jS,y=>match y with | .jS=>true | _=>false
 | .jT,y=>match y with | .jT=>true | _=>false
 | .aH a,y=>match y with | .aH b=>fD a b | _=>false
 | .bG a,y=>match y with | .bG b=>fD a b | _=>false
 | .ptr a b c,y=>match y with | .ptr fl bu c'=>Nat.beq a fl&&Nat.beq b bu&&Nat.beq c c' | _=>false
 | .b3 a n,y=>match y with | .b3 fl hi=>fD a fl&&Nat.beq n hi | _=>false
 | .ar a b c d e f,y=>match y with | .ar fl bu c' rB fH adW=>Nat.beq a fl&&Nat.beq b bu&&Nat.beq c c'&&Nat.beq d rB&&Nat.beq e fH&&Nat.beq f adW | _=>false
 | .bQ a b,y=>match y with | .bQ fl bu=>Nat.beq a fl&&Cx b bu | _=>false
 | .fn a b c,y=>match y with | .fn fl bu c'=>Nat.beq a fl&&fD b bu&&fD c c' | _=>false
 | .mp a,y=>match y with | .mp fl=>Nat.beq a fl | _=>false
 | .it a,y=>match y with | .it fl=>Nat.beq a fl | _=>false
 | .g0 a b,y=>match y with | .g0 fl bu=>Nat.beq a fl&&U.beq b bu | _=>false
 | .m5 a,y=>match y with | .m5 fl=>Nat.beq a fl | _=>false
 | .bad,y=>match y with | .bad=>true | _=>false
def fD:List U->List U->Bool
 | [],y=>match y with | []=>true | _=>false
 | a::as,y=>match y with | b::bs=>U.beq a b&&fD as bs | _=>false
def Cx:List (List U)->List (List U)->Bool
 | [],y=>match y with | []=>true | _=>false
 | a::as,y=>match y with | b::bs=>fD a b&&Cx as bs | _=>false
end
theorem lb {a b:Nat} (h:Nat.beq a b=true) :a=b:=Nat.eq_of_beq_eq_true h
mutual
theorem U.beq_eq:∀ {a b:U},U.beq a b=true->a=b
 | .bool a,b,h=>by cases b<;>simp only[U.beq] at h<;>first | cases h | (rename_i b; cases a<;>cases b<;>first | rfl | cases h)
 | .int k n,b,h=>by cases b<;>simp only[U.beq] at h<;>first | cases h | (simp only[Bool.and_eq_true,decide_eq_true_eq] at h; rw[h.1,h.2])
 | .str a,b,h=>by cases b<;>simp only[U.beq] at h<;>first | cases h | (simp only[decide_eq_true_eq] at h; rw[h])
 | .jU,b,h=>by cases b<;>simp only[U.beq] at h<;>first | rfl | cases h
 | .aT,b,h=>by cases b<;>simp only[U.beq] at h<;>first | rfl | cases h
 | .ia,b,h=>by cases b<;>simp only[U.beq] at h<;>first | rfl | cases h
 | .jS,b,h=>by cases b<;>simp only[U.beq] at h<;>first | rfl | cases h
 | .jT,b,h=>by cases b<;>simp only[U.beq] at h<;>first | rfl | cases h
 | .bad,b,h=>by cases b<;>simp only[U.beq] at h<;>first | rfl | cases h
 | .aH a,b,h=>by cases b<;>simp only[U.beq] at h<;>first | cases h | rw[uz h]
 | .bG a,b,h=>by cases b<;>simp only[U.beq] at h<;>first | cases h | rw[uz h]
 | .ptr ..,b,h=>by cases b<;>simp only[U.beq] at h<;>first | cases h | (simp only[Bool.and_eq_true] at h; rw[lb h.1.1,lb h.1.2,lb h.2])
 | .b3 a n,b,h=>by cases b<;>simp only[U.beq] at h<;>first | cases h | (simp only[Bool.and_eq_true] at h; rw[uz h.1,lb h.2])
 | .ar ..,b,h=>by cases b<;>simp only[U.beq] at h<;>first | cases h | (simp only[Bool.and_eq_true] at h; rw[lb h.1.1.1.1.1,lb h.1.1.1.1.2,lb h.1.1.1.2,lb h.1.1.2,lb h.1.2,lb h.2])
 | .bQ a n,b,h=>by cases b<;>simp only[U.beq] at h<;>first | cases h | (simp only[Bool.and_eq_true] at h; rw[lb h.1,Qw h.2])
 | .fn a n m,b,h=>by cases b<;>simp only[U.beq] at h<;>first | cases h | (simp only[Bool.and_eq_true] at h; rw[lb h.1.1,uz h.1.2,uz h.2])
 | .mp a,b,h=>by cases b<;>simp only[U.beq] at h<;>first | cases h | rw[lb h]
 | .it a,b,h=>by cases b<;>simp only[U.beq] at h<;>first | cases h | rw[lb h]
 | .m5 a,b,h=>by cases b<;>simp only[U.beq] at h<;>first | cases h | rw[lb h]
 | .g0 a n,b,h=>by cases b<;>simp only[U.beq] at h<;>first | cases h | (simp only[Bool.and_eq_true] at h; rw[lb h.1,U.beq_eq h.2])
theorem uz:∀ {a b:List U},fD a b=true->a=b
 | [],b,h=>by cases b<;>simp only[fD] at h<;>first | rfl | cases h
 | x::a,b,h=>by cases b<;>simp only[fD] at h<;>first | cases h | (simp only[Bool.and_eq_true] at h; rw[U.beq_eq h.1,uz h.2])
theorem Qw:∀ {a b:List (List U)},Cx a b=true->a=b
 | [],b,h=>by cases b<;>simp only[Cx] at h<;>first | rfl | cases h
 | x::a,b,h=>by cases b<;>simp only[Cx] at h<;>first | cases h | (simp only[Bool.and_eq_true] at h; rw[uz h.1,Qw h.2])
end
def tP:U->Bool | .int .. | .str _ | .bool _=>true | _=>false
def r6 (P:Program) :Nat->TypeId->Bool
 | 0,_=>false
 | d+1,t=>match P.underlying t,cM P t with
  | some (.int _),_=>true
  | some .string,_=>true
  | some .bool,_=>true
  | some (.array n e),some m=>r6 P d e&&(match cM P e,eB P e with | some z,some _=>Nat.ble (n*z) m&&Nat.ble 1 z | _,_=>false)
  | some (.struct fs),some m=>fs.toList.all fun f=>r6 P d f.type&&(match cM P f.type,eB P f.type with | some z,some _=>Nat.ble (f.offset+z) m&&Nat.ble 1 z | _,_=>false)
  | _,_=>false
def lB (P:Program) (t:TypeId) (c:U) :Bool:=
 match c with
 | .aH cs=>r6 P 8 t&&(match eB P t,cM P t with | some true,some m=>Nat.beq cs.length m | _,_=>false)&&cs.all tP
 | _=>false
def j1 (P:Program) (c2:TypeId) (k:U) :List (U × U × Nat)->Nat->Option (Option (Nat × U))
 | [],_=>some none
 | (k',v,_) ::es,i=>match lB P c2 k' with
  | false=>none
  | true=>match eZ P 10000 c2 k k' with
   | some true=>match U.beq k k' with | true=>some (some (i,v)) | false=>none
   | some false=>j1 P c2 k es (i+1)
   | none=>none
def mapOf (h:aQ) :U->Option (List (U × U × Nat))
 | .ia=>some []
 | .mp b=>match h.f b with | .map es _=>some es | _=>none
 | _=>none
def zY (P:Program) (t:TypeId) :Option U:=((P.info? t).bind (·.zero)).map xu
def H9 (P:Program) (h:aQ) (t:TypeId) (m k:U) (ok:Bool) :Option U:=
 match P.underlying t,mapOf h m with
 | some (.map c2 nb),some es=>match lB P c2 k with
  | false=>none
  | true=>match j1 P c2 k es 0 with
   | some (some (_,v))=>some (if ok then .bG [v,.bool true] else v)
   | some none=>(zY P nb).map fun z=>if ok then .bG [z,.bool false] else z
   | none=>none
 | _,_=>none
def zp (P:Program) (h:aQ) (t:TypeId) (m k v:U) :Option aQ:=
 match P.underlying t,m with
 | some (.map c2 _),.mp b=>match h.f b with
  | .map es eX=>match lB P c2 k with
   | false=>none
   | true=>match j1 P c2 k es 0 with
    | some (some (i,_))=>some (h.set b (.map (es.modify i fun e=>(k,v,e.2.2)) eX))
    | some none=>some (h.set b (.map (es++[(k,v,eX)]) (eX+1)))
    | none=>none
  | _=>none
 | _,_=>none
def zl (P:Program) (h:aQ) (t:TypeId) (x:U) :Option U:=
 match P.underlying t,x with
 | some (.map _ _),.mp b=>match h.f b with | .map es _=>some (.int .i64 es.length) | _=>none
 | _,_=>none
def IL (P:Program) (h:aQ) (t:TypeId) (x:U) :Option (U × aQ) :=
 match P.underlying t,x with
 | some .string,.str s=>some (.it h.n,h.push (.iter s 0))
 | _,_=>none
def BA (h:aQ) (x:U) :Option (U × aQ) :=
 match x with
 | .it b=>match h.f b with
  | .iter s pos=>match Nat.blt pos s.length with
   | true=>some (.bG [.bool true,.int .i64 pos,.int .i32 (Utf8.decode ⟨s.toArray⟩ pos).1],h.set b (.iter s (pos+(Utf8.decode ⟨s.toArray⟩ pos).2)))
   | false=>some (.bG [.bool false],h)
  | _=>none
 | _=>none
def oN:List UInt8->List UInt8->Int
 | [],[]=>0
 | [],_::_=>-1
 | _::_,[]=>1
 | a::as,b::bs=>if a=b then oN as bs else if a<b then -1 else 1
def sT (h:aQ) (x:U) :Option (List UInt8) :=match x with
 | .str s=>some s
 | x=>match contents h 1 x with
  | some (cs,_)=>nQ cs
  | none=>none
def CO (h:aQ) :List U->Option U
 | [x,y]=>match sT h x,sT h y with
  | some a,some b=>some (.int .i64 (oN a b))
  | _,_=>none
 | _=>none
def Eh (fn:Func) :Bool:=fn.body.isNone&&fn.name == "internal/bytealg.Compare"&&(fn.origin == ""||fn.origin == "internal/bytealg.Compare")
inductive qa where
 | val (v:U) (h:aQ)
 | call (f:FuncId) (args:List U) (h:aQ)
def By:U->U->Option U
 | .int k x,.int k' y=>if k=k' then some (.int k (if y<x then y else x)) else none
 | _,_=>none
def vu:U->U->Option U
 | .int k x,.int k' y=>if k=k' then some (.int k (if x<y then y else x)) else none
 | _,_=>none
def hF:U:=.bG []
def Cu (P:Program) (h:aQ) (t:TypeId) (s x:U) :Option (U × aQ) :=
 match iR P t,asInt x with
 | some e,some n=>match cM P e,i5 P e,hV P e with
  | some z,some by_,some zero=>
   if zero.length=z/\0<=n/\n<9223372036854775808/\n.toNat*by_<=cy then wc P h e z by_ s (dN zero n.toNat) n.toNat else none
  | _,_,_=>none
 | _,_=>none
def qg (P:Program) (h:aQ) (b:Builtin) (ts:List TypeId) (args:List U) :Option qa:=
 match b,ts,args with
 | .len,[t],[x]=>match zl P h t x with
  | some v=>some (.val v h)
  | none=>(zk P t x).map fun v=>.val v h
 | .append,[t,u],[s,x]=>match P.underlying u with
  | some (.int _)=>(Cu P h t s x).map fun (v,h')=>.val v h'
  | none=>none
  | _=>(sP P h t s x).map fun (v,h')=>.val v h'
 | .copy,[t,_],[d,x]=>(Ar P h t d x).map fun (v,h')=>.val v h'
 | .cap,[t],[x]=>(Al P t x).map fun v=>.val v h
 | .clear,[t],[x]=>(Ap P h t x).map fun h'=>.val (.bG []) h'
 | .min,_,[x,y]=>(By x y).map fun v=>.val v h
 | .max,_,[x,y]=>(vu x y).map fun v=>.val v h
 | _,_,_=>none
def zq (P:Program) (t:TypeId) (name:String) :Option FuncId:=
 match P.underlying t with
 | some (.pointer _) | none=>none
 | _=>match P.info? t with
  | some i=>match i.methods.find? (·.name == name) with
   | some m=>match m.path.toList,m.func with
    | [],some (f,false)=>some f
    | _,_=>none
   | none=>none
  | none=>none
def B2 (t:TypeId) (z:U) (ok:Bool) :U->Option U
 | .g0 gf v=>match Nat.beq gf t with
  | true=>match ok with | true=>some (.bG [v,.bool true]) | false=>some v
  | false=>match ok with | true=>some (.bG [z,.bool false]) | false=>none
 | .jT=>match ok with | true=>some (.bG [z,.bool false]) | false=>none
 | _=>none
def Jd (P:Program) (t:TypeId) :Option U:=match P.underlying t with
 | some (.interface _) | none=>none
 | _=>zY P t
def wh (P:Program) (h:aQ) (aB:Operand->U) (c:Call) :Option qa:=
 match c.callee with
 | .builtin b=>qg P h b c.argTypes.toList (c.args.toList.map aB)
 | .value f=>match aB f with
  | .fn g first gi=>match P.funcs[g]? with
   | some fn=>if fn.body.isSome/\fn.name≠ "runtime.NumGoroutine" then some (.call g (first++c.args.toList.map aB++gi) h)
    else if Eh fn then (CO h (first++c.args.toList.map aB++gi)).map fun v=>.val v h else none
   | none=>none
  | _=>none
 | .invoke x name=>match aB x with
  | .g0 t v=>match zq P t name with
   | some g=>match P.funcs[g]? with
    | some fn=>if fn.body.isSome/\fn.name≠ "runtime.NumGoroutine" then some (.call g (v::c.args.toList.map aB) h) else none
    | none=>none
   | none=>none
  | _=>none
def di (P:Program) (h:aQ) (aB:Operand->U) (op:Op) :Option qa:=
 let v (x:Option U) :Option qa:=x.map fun y=>.val y h
 let w (x:Option (U × aQ)) :Option qa:=x.map fun y=>.val y.1 y.2
 match op with
 | .move x | .assign x=>some (.val (aB x) h)
 | .pick c a b=>match aB c with | .bool t=>some (.val (if t then aB a else aB b) h) | _=>none
 | .alloc t=>(hV P t).map fun z=>.val (.ptr h.n 0 z.length) (h.push (.cells z.length z))
 | .box _ x=>(aB x).cells.map fun cs=>.val (.ptr h.n 0 cs.length) (h.push (.cells cs.length cs))
 | .build t parts=>v (CB P t (parts.toList.map fun p=>(p.1,aB p.2)))
 | .buildSlice t len parts=>w (FW P h t len (parts.toList.map fun p=>(p.1,aB p.2)))
 | .load t a=>v (tB P h t (aB a))
 | .store t a x=>(BZ P h t (aB a) (aB x)).map fun h'=>.val hF h'
 | .nilCheck x=>match aB x with | .ptr b o s=>some (.val (.ptr b o s) h) | .b3 c o=>some (.val (.b3 c o) h) | .fn f a b=>some (.val (.fn f a b) h) | _=>none
 | .binOp op t x y _=>v (gH P op t (aB x) (aB y))
 | .unOp op _ x=>v (rg op (aB x))
 | .convert s d x=>match Aj P s d (aB x) with
  | some c=>some (.val c h)
  | none=>v (yh P h s d (aB x))
 | .makeInterface t x=>match P.underlying t with
  | some (.interface _) | none=>none
  | _=>some (.val (.g0 t (aB x)) h)
 | .makeFunc (.func f) first gi=>some (.val (.fn f (first.toList.map aB) (gi.toList.map aB)) h)
 | .makeSlice t l c=>w (Ig P h t (aB l) (aB c))
 | .slice t x cV av cW=>v (Fc P t (aB x) (cV.map aB) (av.map aB) (cW.map aB))
 | .fieldAddr s x f=>v (Gm P s (aB x) f)
 | .field t x f=>match aB x,yp P t f with
  | .aH cs,some fd=>v (ic P fd.type cs fd.offset)
  | _,_=>none
 | .indexAddr t x i=>v (Ef P t (aB x) (aB i))
 | .index t x i=>v (Bt P t (aB x) (aB i))
 | .extract x i=>match aB x with | .bG vs=>v vs[i]? | _=>none
 | .call c=>wh P h aB c
 | .makeMap t r=>match P.underlying t,(match r with | none=>true | some x=>(asInt (aB x)).isSome) with | some (.map _ _),true=>some (.val (.mp h.n) (h.push (.map [] 0))) | _,_=>none
 | .lookup t m k ok=>v (H9 P h t (aB m) (aB k) ok)
 | .mapUpdate t m k x | .insert t m k x=>(zp P h t (aB m) (aB k) (aB x)).map fun h'=>.val hF h'
 | .range t x=>w (IL P h t (aB x))
 | .next it true=>w (BA h (aB it))
 | .typeAssert x _ t ok=>match Jd P t with | some z=>v (B2 t z ok (aB x)) | none=>none
 | _=>none
structure M where
 r:Nat
 s:Nat
 T:Nat
abbrev cX:=Nat->Option M
def live:a7->Bool
 | .cells .. | .map .. | .iter ..=>true
 | _=>false
def o3:a7->Nat
 | .map ..=>1
 | .iter ..=>2
 | _=>0
def mw (h:aQ) (μ:cX) (k:Nat) :Prop:=∃ b m,live (h.f b)=true/\μ b=some m/\m.r=k
def vT (h:aQ) (b sz:Nat) :Prop:=h.f b=.dead\/∃ n cs,h.f b=.cells n cs/\sz<n
structure Cell (w:World) (R:Nat->Prop) (h:aQ) (μ:cX) (b o:Nat) (v:Value) :Prop where
 here:w.cell? ⟨b,o,none⟩=some v
 one:v.oneCell'=true
 ro:R b
 free:¬ mw h μ b
inductive aS (w:World) (R:Nat->Prop) (h:aQ) (μ:cX) :U->Value->Prop where
 | bool (b:Bool) :aS w R h μ (.bool b) (.bool b)
 | int (k:IntKind) (n:Int) :aS w R h μ (.int k n) (.int k n)
 | str (bs:ByteArray) :aS w R h μ (.str bs.data.toList) (.string bs)
 | jU:aS w R h μ .jU (.pointer none)
 | aT:aS w R h μ .aT (.slice none 0 0)
 | ia:aS w R h μ .ia (.map none)
 | jS:aS w R h μ .jS .nilFunc
 | jT:aS w R h μ .jT .nilIface
 | aH (cs:List U) (vs:Array Value) (al:vs.size=cs.length) (h1:∀ (j:Nat) (v:Value),vs[j]? = some v->v.oneCell'=true)
   (au:∀ (j:Nat) (c:U) (v:Value),cs[j]? = some c->vs[j]? = some v->aS w R h μ c v) :aS w R h μ (.aH cs) (.agg vs)
 | bG (cs:List U) (vs:Array Value) (al:vs.size=cs.length)
   (au:∀ (j:Nat) (c:U) (v:Value),cs[j]? = some c->vs[j]? = some v->aS w R h μ c v) :aS w R h μ (.bG cs) (.tuple vs)
 | ptr (b off sz:Nat) (cs:List U) (m:M) (ag:h.f b=.cells sz cs) (hm:μ b=some m) :
   aS w R h μ (.ptr b off sz) (.pointer (some ⟨m.r,m.s+off,none⟩))
 | nw (b off sz:Nat) (a:Addr) (aq:vT h b sz) :aS w R h μ (.ptr b off sz) (.pointer (some a))
 | b3 (cs:List U) (off blk o:Nat) (eI:Nat->Value) (ah:∀ j,j<cs.length->Cell w R h μ blk (o+j) (eI j))
   (au:∀ (j:Nat) (c:U),cs[j]? = some c->aS w R h μ c (eI j)) :aS w R h μ (.b3 cs off) (.pointer (some ⟨blk,o+off,none⟩))
 | ar (z b off len cap sz cap' : Nat) (cs:List U) (m:M) (ag:h.f b=.cells sz cs) (hm:μ b=some m) (al:len<=cap) (ap:off+cap*z<=sz)
   (ah:(off+cap*z<sz/\cap'=cap)\/(off+cap*z=sz/\cap<=cap'/\m.s+off+cap'*z<=m.T)) :
   aS w R h μ (.ar z b off len cap sz) (.slice (some ⟨m.r,m.s+off,none⟩) len cap')
 | gR (z b off len cap sz cap' : Nat) (a:Addr) (al:len<=cap) (ah:cap<=cap') (aq:vT h b sz) :aS w R h μ (.ar z b off len cap sz) (.slice (some a) len cap')
 | ig (z b off sz:Nat) (a:Addr) (cs:List U) (m:M) (ag:h.f b=.cells sz cs) (hm:μ b=some m) :aS w R h μ (.ar z b off 0 0 sz) (.slice (some a) 0 0)
 | bQ (z:Nat) (es:List (List U)) (blk off cap:Nat) (eI:Nat->Nat->Value) (al:es.length<=cap) (aw:∀ e,e∈es->e.length=z)
   (ah:∀ i j,i<es.length->j<z->Cell w R h μ blk (off+(i*z+j)) (eI i j))
   (au:∀ (i:Nat) (e:List U),es[i]? = some e->∀ (j:Nat) (c:U),e[j]? = some c->aS w R h μ c (eI i j)) :
   aS w R h μ (.bQ z es) (.slice (some ⟨blk,off,none⟩) es.length cap)
 | fY (z:Nat) (a:Addr) (cap:Nat) :aS w R h μ (.bQ z []) (.slice (some a) 0 cap)
 | fn (f:FuncId) (first gi:List U) (fs cs:Array Value) (aF:fs.size=first.length) (ah:cs.size=gi.length)
   (h1:∀ (j:Nat) (c:U) (v:Value),first[j]? = some c->fs[j]? = some v->aS w R h μ c v) (ad:∀ (j:Nat) (c:U) (v:Value),gi[j]? = some c->cs[j]? = some v->aS w R h μ c v) :
   aS w R h μ (.fn f first gi) (.func (.func f) fs cs)
 | mp (b:Nat) (m:M) (ag:o3 (h.f b)=1) (hm:μ b=some m) :aS w R h μ (.mp b) (.map (some m.r))
 | it (b:Nat) (m:M) (ag:o3 (h.f b)=2) (hm:μ b=some m) :aS w R h μ (.it b) (.pointer (some ⟨m.r,0,none⟩))
 | g0 (t:TypeId) (c:U) (v:Value) (au:aS w R h μ c v) :aS w R h μ (.g0 t c) (.iface t v)
 | m5 (l:Nat) :aS w R h μ (.m5 l) (.func (.yield l) #[] #[])
 | bad (v:Value) :aS w R h μ .bad v
structure Ext0 (w:World) (h:aQ) (μ:cX) (w' : World) (h' : aQ) (μ' : cX) :Prop where
 os:w'.os=w.os
 tape:w'.tape=w.tape
 output:w'.output=w.output
 size:w.heap.size<=w'.heap.size
 cx:∀ k,k<w.heap.size->¬ mw h μ k->w'.heap[k]? = w.heap[k]?
 own:∀ k,mw h' μ' k->mw h μ k\/w.heap.size<=k
 cells:∀ b sz cs m,h.f b=.cells sz cs->μ b=some m->(∃ cs',h'.f b=.cells sz cs'/\μ' b=some m)\/vT h' b sz
 gone:∀ b sz,vT h b sz->vT h' b sz
 Iq:∀ b k m,o3 (h.f b)=k+1->μ b=some m->o3 (h'.f b)=k+1/\μ' b=some m
 n:h.n<=h'.n
 drawn:w.drawn<=w'.drawn:=by first | exact Nat.le_refl _ | exact Nat.le_succ _ | assumption
structure dY (w:World) (h:aQ) (μ:cX) (w' : World) (h' : aQ) (μ' : cX) :Prop extends Ext0 w h μ w' h' μ' where
 rh:∀ b,b<h.n->μ b=none->μ' b=none
theorem Ext0.refl (w:World) (h:aQ) (μ:cX) :Ext0 w h μ w h μ:=
 ⟨rfl,rfl,rfl,Nat.le_refl _,fun _ _ _=>rfl,fun _ h=>.inl h,fun b sz cs m h1 ad=>.inl ⟨cs,h1,ad⟩,fun _ _ h=>h,fun _ _ _ h1 ad=>⟨h1,ad⟩,Nat.le_refl _,Nat.le_refl _⟩
theorem dY.refl (w:World) (h:aQ) (μ:cX) :dY w h μ w h μ:=⟨.refl w h μ,fun _ _ h=>h⟩
theorem Ext0.trans {w b2 w2:World} {h h1 ad:aQ} {μ hp sE:cX} (a:Ext0 w h μ b2 h1 hp) (b:Ext0 b2 h1 hp w2 ad sE) :Ext0 w h μ w2 ad sE:=by
 refine⟨b.os.trans a.os,b.tape.trans a.tape,b.output.trans a.output,Nat.le_trans a.size b.size,?_,?_,?_,fun _ _ aq=>b.gone _ _ (a.gone _ _ aq),?_,Nat.le_trans a.n b.n,Nat.le_trans a.drawn b.drawn⟩
 ·intro k hk aC;rw[b.cx k (Nat.lt_of_lt_of_le hk a.size) (fun ap=>(a.own k ap).elim aC (by omega)),a.cx k hk aC]
 ·intro k hk;rcases b.own k hk with h | h
  ·exact a.own k h
  ·exact .inr (Nat.le_trans a.size h)
 ·intro blk sz cs m ag hm;rcases a.cells blk sz cs m ag hm with ⟨cs',aj,aE⟩ | aj
  ·exact b.cells blk sz cs' m aj aE
  ·exact .inr (b.gone _ _ aj)
 ·intro blk k m ag hm;obtain⟨aj,aE⟩:=a.Iq blk k m ag hm;exact b.Iq blk k m aj aE
theorem dY.trans {w b2 w2:World} {h h1 ad:aQ} {μ hp sE:cX} (a:dY w h μ b2 h1 hp) (b:dY b2 h1 hp w2 ad sE) :dY w h μ w2 ad sE:=
 ⟨a.toExt0.trans b.toExt0,fun blk ag hm=>b.rh blk (Nat.lt_of_lt_of_le ag a.n) (a.rh blk ag hm)⟩
theorem Cell.ext {w w' : World} {h h' : aQ} {μ μ' : cX} {R:Nat->Prop} {b o:Nat} {v:Value} (e:Ext0 w h μ w' h' μ') (c:Cell w R h μ b o v) :Cell w' R h' μ' b o v:=by
 have ag:b<w.heap.size:=World.block_lt_of_cell? _ _ c.here;refine⟨?_,c.one,c.ro,fun ap=>?_⟩
 ·rw[World.cell?_of_block (w:=w) (a:=⟨b,o,none⟩) (e.cx b ag c.free)]; exact c.here
 ·rcases e.own b ap with h1 | h1
  ·exact c.free h1
  ·omega
theorem aS.nY {w w' : World} {h h' : aQ} {μ μ' : cX} {R:Nat->Prop} {c:U} {v:Value} (e:Ext0 w h μ w' h' μ') (au:aS w R h μ c v) :aS w' R h' μ' c v:=by
 induction au with
 | bool b=>exact .bool b
 | int k n=>exact .int k n
 | str bs=>exact .str bs
 | jU=>exact .jU
 | aT=>exact .aT
 | ia=>exact .ia
 | jS=>exact .jS
 | jT=>exact .jT
 | aH cs vs al h1 au aJ=>exact .aH cs vs al h1 aJ
 | bG cs vs al au aJ=>exact .bG cs vs al aJ
 | ptr b off sz cs m ag hm=>
  rcases e.cells b sz cs m ag hm with ⟨cs',h1,ad⟩ | h1
  ·exact .ptr b off sz cs' m h1 ad
  ·exact .nw b off sz _ h1
 | nw b off sz a aq=>exact .nw b off sz a (e.gone _ _ aq)
 | b3 cs off blk o eI ah au aJ=>exact .b3 cs off blk o eI (fun j ai=>(ah j ai).ext e) aJ
 | ar z b off len cap sz cap' cs m ag hm al ap ah=>
  rcases e.cells b sz cs m ag hm with ⟨cs',h1,ad⟩ | h1
  ·exact .ar z b off len cap sz cap' cs' m h1 ad al ap ah
  ·exact .gR z b off len cap sz cap' _ al (by omega) h1
 | gR z b off len cap sz cap' a al ah aq=>exact .gR z b off len cap sz cap' a al ah (e.gone _ _ aq)
 | ig z b off sz a cs m ag hm=>
  rcases e.cells b sz cs m ag hm with ⟨cs',h1,ad⟩ | h1
  ·exact .ig z b off sz a cs' m h1 ad
  ·exact .gR z b off 0 0 sz 0 a (Nat.le_refl _) (Nat.le_refl _) h1
 | bQ z es blk off cap eI al aw ah au aJ=>exact .bQ z es blk off cap eI al aw (fun i j av ai=>(ah i j av ai).ext e) aJ
 | fY z a cap=>exact .fY z a cap
 | fn f first gi fs cs aF ah h1 ad ds h8=>exact .fn f first gi fs cs aF ah ds h8
 | mp b m ag hm=>
  obtain⟨h1,ad⟩:=e.Iq b 0 m ag hm;exact .mp b m h1 ad
 | it b m ag hm=>
  obtain⟨h1,ad⟩:=e.Iq b 1 m ag hm;exact .it b m h1 ad
 | g0 t c v au aJ=>exact .g0 t c v aJ
 | m5 l=>exact .m5 l
 | bad v=>exact .bad v
theorem aS.ext {w w' : World} {h h' : aQ} {μ μ' : cX} {R:Nat->Prop} {c:U} {v:Value} (e:dY w h μ w' h' μ') (au:aS w R h μ c v) :aS w' R h' μ' c v:=au.nY e.toExt0
def vS (w:World) (R:Nat->Prop) (h:aQ) (μ:cX) (m:M) :a7->Prop
 | .cells sz cs=>cs.length=sz/\m.s+sz<=m.T/\∃ arr e gy,w.heap[m.r]? = some (.cells arr e gy)/\arr.size=m.T/\(gy=(0,0)\/m.T<gy.1) ∧
   ∀ (j:Nat) (c:U),cs[j]? = some c->∃ v:Value,arr[m.s+j]? = some v/\v.oneCell'=true/\aS w R h μ c v
 | .map es eX=>∃ dK,w.heap[m.r]? = some (.map dK eX)/\dK.size=es.length ∧
   ∀ (j:Nat) (k v:U) (b:Nat),es[j]? = some (k,v,b)->∃ x:MapEntry,dK[j]? = some x/\aS w R h μ k x.key/\aS w R h μ v x.val/\x.born=b
 | .iter s pos=>∃ bs:ByteArray,bs.data.toList=s/\w.heap[m.r]? = some (.stringIter bs pos)
 | _=>True
theorem vS.ext {w w' : World} {h h' : aQ} {μ μ' : cX} {R:Nat->Prop} {m:M} (e:Ext0 w h μ w' h' μ') (hw:w'.heap[m.r]? = w.heap[m.r]?) :
  ∀ {c:a7},vS w R h μ m c->vS w' R h' μ' m c
 | .cells sz cs,⟨h1,ad,arr,t,gy,aj,aE,aX,bw⟩=>⟨h1,ad,arr,t,gy,hw.trans aj,aE,aX,fun j c ai=>let ⟨v,a,b,d⟩:=bw j c ai; ⟨v,a,b,d.nY e⟩⟩
 | .map es eX,⟨dK,h1,ad,aj⟩=>⟨dK,hw.trans h1,ad,fun j k v b ai=>let ⟨x,a,de,d,f⟩:=aj j k v b ai; ⟨x,a,de.nY e,d.nY e,f⟩⟩
 | .iter s pos,⟨bs,h1,ad⟩=>⟨bs,h1,hw.trans ad⟩
 | .none,_=>trivial
 | .dead,_=>trivial
structure cc (R:Nat->Prop) (B:Nat) (w:World) (h:aQ) (μ:cX) :Prop where
 blk:∀ b m,μ b=some m->vS w R h μ m (h.f b)
 inj:∀ b bu m cF,live (h.f b)=true->live (h.f bu)=true->μ b=some m->μ bu=some cF->m.r=cF.r->b=bu
 base:∀ b m,live (h.f b)=true->μ b=some m->B<=m.r
 fresh:∀ b,h.n<=b->h.f b=.none
 up:∀ k,B<=k->R k
 size:B<=w.heap.size
 lD:∀ b,h.n<=b->μ b=none
theorem cc.sS {R:Nat->Prop} {B:Nat} {w:World} {h:aQ} {μ:cX} (rel:cc R B w h μ) {b:Nat} {m:M} (hm:μ b=some m) :b<h.n:=by
 rcases Nat.lt_or_ge b h.n with h1 | h1
 ·exact h1
 ·rw[rel.lD b h1] at hm; cases hm
theorem cc.lt {R:Nat->Prop} {B:Nat} {w:World} {h:aQ} {μ:cX} (rel:cc R B w h μ) {b:Nat} {m:M} (al:live (h.f b)=true) (hm:μ b=some m) :m.r<w.heap.size:=by
 have ag:=rel.blk b m hm;cases ah:h.f b with
 | none=>rw[ah] at al; cases al
 | dead=>rw[ah] at al; cases al
 | cells sz cs=>
  rw[ah] at ag;obtain⟨_,_,arr,t,gy,aj,_⟩:=ag;rcases Nat.lt_or_ge m.r w.heap.size with h | h
  ·exact h
  ·rw[Array.getElem?_eq_none h] at aj; cases aj
 | map es eX=>
  rw[ah] at ag;obtain⟨dK,aj,_⟩:=ag;rcases Nat.lt_or_ge m.r w.heap.size with h | h
  ·exact h
  ·rw[Array.getElem?_eq_none h] at aj; cases aj
 | iter s pos=>
  rw[ah] at ag;obtain⟨bs,_,aj⟩:=ag;rcases Nat.lt_or_ge m.r w.heap.size with h | h
  ·exact h
  ·rw[Array.getElem?_eq_none h] at aj; cases aj
theorem cc.vO {R:Nat->Prop} {B:Nat} {w w' : World} {h h' : aQ} {μ μ' : cX} (rel:cc R B w h μ) (e:Ext0 w h μ w' h' μ') (hr:Nat)
  (qM:∀ b,b≠hr->live (h'.f b)=true->h'.f b=h.f b/\μ' b=μ b/\∀ m,μ b=some m->w'.heap[m.r]? = w.heap[m.r]?)
  (j5:∀ m,μ' hr=some m->vS w' R h' μ' m (h'.f hr))
  (dz:∀ b m cF,b≠hr->live (h'.f b)=true->live (h'.f hr)=true->μ b=some m->μ' hr=some cF->m.r≠cF.r)
  (G4:∀ m,live (h'.f hr)=true->μ' hr=some m->B<=m.r)
  (agB:∀ b,h'.n<=b->h'.f b=.none) (ahn:∀ b,h'.n<=b->μ' b=none) :cc R B w' h' μ':=by
 refine⟨?_,?_,?_,agB,rel.up,Nat.le_trans rel.size e.size,ahn⟩
 ·intro b m hm;by_cases ag:b=hr
  ·subst ag; exact j5 m hm
  ·cases al:live (h'.f b) with
   | false=>cases ah:h'.f b<;>first | trivial | (rw[ah] at al; cases al)
   | true=>
    obtain⟨h1,ad,aj⟩:=qM b ag al;rw[ad] at hm;rw[h1];exact (rel.blk b m hm).ext e (aj m hm)
 ·intro b bu m cF al dr hm b7 az;by_cases ag:b=hr<;>by_cases bO:bu=hr
  ·rw[ag,bO]
  ·subst ag;obtain⟨h1,ad,aj⟩:=qM bu bO dr;rw[ad] at b7;exact absurd az.symm (dz bu cF m bO dr al b7 hm)
  ·subst bO;obtain⟨h1,ad,aj⟩:=qM b ag al;rw[ad] at hm;exact absurd az (dz b m cF ag al dr hm b7)
  ·obtain⟨h1,ad,_⟩:=qM b ag al;obtain⟨aj,aE,_⟩:=qM bu bO dr;rw[h1] at al; rw[ad] at hm; rw[aj] at dr; rw[aE] at b7;exact rel.inj b bu m cF al dr hm b7 az
 ·intro b m al hm;by_cases ag:b=hr
  ·subst ag; exact G4 m al hm
  ·obtain⟨h1,ad,_⟩:=qM b ag al;rw[h1] at al; rw[ad] at hm;exact rel.base b m al hm
theorem cc.push {R:Nat->Prop} {B:Nat} {w w' : World} {h:aQ} {μ:cX} (rel:cc R B w h μ) (cs:List U) (arr:Array Value) (t:TypeId)
  (qL:w'.os=w.os) (vf:w'.tape=w.tape) (l7:w'.output=w.output) (kA:w'.heap=w.heap.push (.cells arr t (0,0)))
  (hh:cs.length<=arr.size) (au:∀ (j:Nat) (c:U),cs[j]? = some c->∃ v:Value,arr[j]? = some v/\v.oneCell'=true/\aS w R h μ c v) (rQ:w.drawn<=w'.drawn:=by first | exact Nat.le_refl _ | exact Nat.le_succ _ | assumption) :
  dY w h μ w' (h.push (.cells cs.length cs)) (bS μ h.n (some ⟨w.heap.size,0,arr.size⟩)) ∧
  cc R B w' (h.push (.cells cs.length cs)) (bS μ h.n (some ⟨w.heap.size,0,arr.size⟩)) :=by
 have aC:h.f h.n=.none:=rel.fresh _ (Nat.le_refl _);have e:dY w h μ w' (h.push (.cells cs.length cs)) (bS μ h.n (some ⟨w.heap.size,0,arr.size⟩)) :=by
  refine⟨⟨qL,vf,l7,by simp[kA],?_,?_,?_,?_,?_,?_,rQ⟩,?_⟩
  ·intro k hk _;rw[kA,Array.getElem?_push,if_neg (by omega)]
  ·rintro k ⟨b,m,al,hm,rfl⟩;by_cases ag:b=h.n
   ·subst ag; simp at hm; subst hm; exact .inr (Nat.le_refl _)
   ·rw[cm _ _ _ _ ag] at hm;simp only[eG,fN,cm _ _ _ _ ag] at al;exact .inl ⟨b,m,al,hm,rfl⟩
  ·intro b sz cs' m ag hm;have:b≠h.n:=fun aG=>by rw[aG,aC] at ag; cases ag
   exact .inl ⟨cs',by simp only[eG,fN,cm _ _ _ _ this]; exact ag,by rw[cm _ _ _ _ this]; exact hm⟩
  ·rintro b sz (ag | ⟨n,cs',ag,aM⟩)
   ·have:b≠h.n:=fun aG=>by rw[aG,aC] at ag; cases ag
    exact .inl (by simp only[eG,fN,cm _ _ _ _ this]; exact ag)
   ·have:b≠h.n:=fun aG=>by rw[aG,aC] at ag; cases ag
    exact .inr ⟨n,cs',by simp only[eG,fN,cm _ _ _ _ this]; exact ag,aM⟩
  ·intro b k m ag hm;have:b≠h.n:=fun aG=>by rw[aG,aC] at ag; cases ag
   exact⟨by simp only[eG,fN,cm _ _ _ _ this]; exact ag,by rw[cm _ _ _ _ this]; exact hm⟩
  ·simp[eG,fN]
  ·intro b ag hm;rw[cm _ _ _ _ (by omega)]; exact hm
 refine⟨e,rel.vO e.toExt0 h.n ?_ ?_ ?_ ?_ ?_ ?_⟩
 ·intro b ag al;simp only[eG,fN,cm _ _ _ _ ag] at al ⊢;exact⟨trivial,trivial,fun m hm=>by rw[kA,Array.getElem?_push,if_neg (by have:=rel.lt al hm; omega)]⟩
 ·intro m hm;simp at hm; subst hm;simp only[eG,fN,kw];refine⟨rfl,by simpa using hh,arr,t,(0,0),by simp[kA],rfl,.inl rfl,fun j c ai=>?_⟩;obtain⟨v,h1,ad,aj⟩:=au j c ai;exact⟨v,by simpa using h1,ad,aj.ext e⟩
 ·intro b m cF ag al _ hm b7;simp only[eG,fN,cm _ _ _ _ ag] at al;simp at b7; subst b7;have:=rel.lt al hm;simp only[ne_eq]; omega
 ·intro m _ hm;simp at hm; subst hm;exact rel.size
 ·intro b ag;simp only[eG,fN] at ag ⊢;rw[cm _ _ _ _ (by omega)];exact rel.fresh b (by omega)
 ·intro b ag;simp only[eG,fN] at ag;rw[cm _ _ _ _ (by omega)];exact rel.lD b (by omega)
theorem cc.same {R:Nat->Prop} {B:Nat} {w:World} {h h' : aQ} {μ:cX} (rel:cc R B w h μ) (aF:h'.f=h.f) (aC:h'.n=h.n) :dY w h μ w h' μ/\cc R B w h' μ:=by
 have e:dY w h μ w h' μ:=by
  refine⟨⟨rfl,rfl,rfl,Nat.le_refl _,fun _ _ _=>rfl,?_,?_,?_,?_,by omega,Nat.le_refl _⟩,fun _ _ hm=>hm⟩
  ·rintro k ⟨bu,cF,dr,b7,rfl⟩;rw[aF] at dr; exact .inl ⟨bu,cF,dr,b7,rfl⟩
  ·intro bu sz' cs' cF bO b7;exact .inl ⟨cs',by rw[aF]; exact bO,b7⟩
  ·intro bu sz' aq;unfold vT at aq ⊢; rw[aF]; exact aq
  ·intro bu k' cF bO b7;exact⟨by rw[aF]; exact bO,b7⟩
 refine⟨e,rel.vO e.toExt0 h.n (fun b _ _=>⟨by rw[aF],rfl,fun _ _=>rfl⟩) (fun m hm=>?_) (fun b m cF _ _ _ _ hm=>?_) (fun m _ hm=>?_) (fun b ag=>by rw[aF]; exact rel.fresh b (by omega)) (by rw[aC]; exact rel.lD)⟩
 all_goals (rw[rel.lD h.n (Nat.le_refl _)] at hm; cases hm)
theorem cc.kill {R:Nat->Prop} {B:Nat} {w:World} {h h' : aQ} {μ:cX} (rel:cc R B w h μ) {b sz:Nat} {cs:List U} (ag:h.f b=.cells sz cs) (pw:b<h.n)
  (aF:h'.f=bS h.f b .dead) (aC:h'.n=h.n) :dY w h μ w h' μ/\cc R B w h' μ:=by
 have e:dY w h μ w h' μ:=by
  refine⟨⟨rfl,rfl,rfl,Nat.le_refl _,fun _ _ _=>rfl,?_,?_,?_,?_,by omega,Nat.le_refl _⟩,fun _ _ hm=>hm⟩
  ·rintro k ⟨bu,cF,dr,b7,rfl⟩;rw[aF] at dr;by_cases b9:bu=b
   ·subst b9; simp[live] at dr
   ·rw[cm _ _ _ _ b9] at dr; exact .inl ⟨bu,cF,dr,b7,rfl⟩
  ·intro bu sz' cs' cF bO b7;by_cases b9:bu=b
   ·subst b9; exact .inr (.inl (by rw[aF]; simp))
   ·exact .inl ⟨cs',by rw[aF,cm _ _ _ _ b9]; exact bO,b7⟩
  ·rintro bu sz' aq;by_cases b9:bu=b
   ·subst b9; exact .inl (by rw[aF]; simp)
   ·rcases aq with aq | ⟨n,cs',aq,aM⟩
    ·exact .inl (by rw[aF,cm _ _ _ _ b9]; exact aq)
    ·exact .inr ⟨n,cs',by rw[aF,cm _ _ _ _ b9]; exact aq,aM⟩
  ·intro bu k' cF bO b7;by_cases b9:bu=b
   ·subst b9; rw[ag] at bO; cases bO
   ·exact⟨by rw[aF,cm _ _ _ _ b9]; exact bO,b7⟩
 refine⟨e,rel.vO e.toExt0 b ?_ ?_ ?_ ?_ ?_ (by rw[aC]; exact rel.lD)⟩
 ·intro bu b9 al;rw[aF,cm _ _ _ _ b9];exact⟨rfl,rfl,fun _ _=>rfl⟩
 ·intro m _;rw[aF]; simp[vS]
 ·intro bu m cF _ _ al;rw[aF] at al; simp[live] at al
 ·intro m al;rw[aF] at al; simp[live] at al
 ·intro bu bO;rw[aF,cm _ _ _ _ (by omega)];exact rel.fresh bu (by omega)
theorem cc.Y6 {R:Nat->Prop} {B:Nat} {w:World} {h h' : aQ} {μ:cX} (rel:cc R B w h μ) {b sz off:Nat} {cs:List U} {m:M} (ag:h.f b=.cells sz cs) (hm:μ b=some m) (ap:off<=sz)
  (aF:h'.f=bS (bS h.f b .dead) h.n (.cells (sz - off) (cs.drop off))) (aC:h'.n=h.n+1) :
  dY w h μ w h' (bS μ h.n (some ⟨m.r,m.s+off,m.T⟩))/\cc R B w h' (bS μ h.n (some ⟨m.r,m.s+off,m.T⟩)) :=by
 have pw:=rel.sS hm;have yY:h.f h.n=.none:=rel.fresh _ (Nat.le_refl _);have lx:live (h.f b)=true:=by rw[ag]; rfl
 have e:dY w h μ w h' (bS μ h.n (some ⟨m.r,m.s+off,m.T⟩)) :=by
  refine⟨⟨rfl,rfl,rfl,Nat.le_refl _,fun _ _ _=>rfl,?_,?_,?_,?_,by omega,Nat.le_refl _⟩,fun bu bO b7=>by rw[cm _ _ _ _ (by omega)]; exact b7⟩
  ·rintro k ⟨bu,cF,dr,b7,rfl⟩;rw[aF] at dr;by_cases kU:bu=h.n
   ·subst kU; simp at b7; subst b7; exact .inl ⟨b,m,lx,hm,rfl⟩
   ·rw[cm _ _ _ _ kU] at dr b7;by_cases b9:bu=b
    ·subst b9; simp[live] at dr
    ·rw[cm _ _ _ _ b9] at dr; exact .inl ⟨bu,cF,dr,b7,rfl⟩
  ·intro bu sz' cs' cF bO b7;have kU:bu≠h.n:=fun aG=>by rw[aG,yY] at bO; cases bO
   by_cases b9:bu=b
   ·subst b9; exact .inr (.inl (by rw[aF,cm _ _ _ _ kU]; simp))
   ·exact .inl ⟨cs',by rw[aF,cm _ _ _ _ kU,cm _ _ _ _ b9]; exact bO,by rw[cm _ _ _ _ kU]; exact b7⟩
  ·rintro bu sz' aq;have kU:bu≠h.n:=fun aG=>by
    subst aG;rcases aq with aq | ⟨n,cs',aq,_⟩
    ·rw[yY] at aq; cases aq
    ·rw[yY] at aq; cases aq
   by_cases b9:bu=b
   ·subst b9; exact .inl (by rw[aF,cm _ _ _ _ kU]; simp)
   ·rcases aq with aq | ⟨n,cs',aq,aM⟩
    ·exact .inl (by rw[aF,cm _ _ _ _ kU,cm _ _ _ _ b9]; exact aq)
    ·exact .inr ⟨n,cs',by rw[aF,cm _ _ _ _ kU,cm _ _ _ _ b9]; exact aq,aM⟩
  ·intro bu k' cF bO b7;have kU:bu≠h.n:=fun aG=>by rw[aG,yY] at bO; cases bO
   by_cases b9:bu=b
   ·subst b9; rw[ag] at bO; cases bO
   ·exact⟨by rw[aF,cm _ _ _ _ kU,cm _ _ _ _ b9]; exact bO,by rw[cm _ _ _ _ kU]; exact b7⟩
 have qM:∀ bu,bu≠h.n->live (h'.f bu)=true->bu≠b/\h'.f bu=h.f bu:=fun bu kU al=>by
  rw[aF,cm _ _ _ _ kU] at al ⊢;by_cases b9:bu=b
  ·subst b9; simp[live] at al
  ·exact⟨b9,by rw[cm _ _ _ _ b9]⟩
 refine⟨e,rel.vO e.toExt0 h.n ?_ ?_ ?_ ?_ ?_ ?_⟩
 ·intro bu kU al;exact⟨(qM bu kU al).2,by rw[cm _ _ _ _ kU],fun _ _=>rfl⟩
 ·intro cF b7;simp at b7; subst b7;rw[aF,kw];have e0:=rel.blk b m hm;rw[ag] at e0;obtain⟨h1,ad,arr,t,gy,aj,aE,aX,bw⟩:=e0;refine⟨by simp; omega,by simp only; omega,arr,t,gy,aj,aE,aX,fun j c ai=>?_⟩;rw[List.getElem?_drop] at ai;obtain⟨v,aV,a1,a3⟩:=bw (off+j) c ai;exact⟨v,by simp only; rw[Nat.add_assoc]; exact aV,a1,a3.ext e⟩
 ·intro bu kE kf kU al _ h1 ad aG;simp at ad; subst ad;obtain⟨b9,hR⟩:=qM bu kU al;rw[hR] at al;exact b9 (rel.inj bu b kE m al lx h1 hm aG)
 ·intro cF _ b7;simp at b7; subst b7;exact rel.base b m lx hm
 ·intro bu bO;rw[aF,cm _ _ _ _ (by omega),cm _ _ _ _ (by omega)];exact rel.fresh bu (by omega)
 ·intro bu bO;rw[cm _ _ _ _ (by omega)];exact rel.lD bu (by omega)
theorem cc.Yr {R:Nat->Prop} {B:Nat} {w w' : World} {h:aQ} {μ:cX} (rel:cc R B w h μ) (c:a7) (o:Obj) {k:Nat} (hk:o3 c=k+1)
  (qL:w'.os=w.os) (vf:w'.tape=w.tape) (l7:w'.output=w.output) (kA:w'.heap=w.heap.push o)
  (c1:vS w' R (h.push c) (bS μ h.n (some ⟨w.heap.size,0,0⟩)) ⟨w.heap.size,0,0⟩ c) (rQ:w.drawn<=w'.drawn:=by first | exact Nat.le_refl _ | exact Nat.le_succ _ | assumption) :
  dY w h μ w' (h.push c) (bS μ h.n (some ⟨w.heap.size,0,0⟩))/\cc R B w' (h.push c) (bS μ h.n (some ⟨w.heap.size,0,0⟩)) :=by
 have aC:h.f h.n=.none:=rel.fresh _ (Nat.le_refl _);have L7:o3 a7.none=0:=rfl;have e:dY w h μ w' (h.push c) (bS μ h.n (some ⟨w.heap.size,0,0⟩)) :=by
  refine⟨⟨qL,vf,l7,by simp[kA],?_,?_,?_,?_,?_,?_,rQ⟩,?_⟩
  ·intro k hk _;rw[kA,Array.getElem?_push,if_neg (by omega)]
  ·rintro k ⟨b,m,al,hm,rfl⟩;by_cases ag:b=h.n
   ·subst ag; simp at hm; subst hm; exact .inr (Nat.le_refl _)
   ·rw[cm _ _ _ _ ag] at hm;simp only[eG,fN,cm _ _ _ _ ag] at al;exact .inl ⟨b,m,al,hm,rfl⟩
  ·intro b sz cs' m ag hm;have:b≠h.n:=fun aG=>by rw[aG,aC] at ag; cases ag
   exact .inl ⟨cs',by simp only[eG,fN,cm _ _ _ _ this]; exact ag,by rw[cm _ _ _ _ this]; exact hm⟩
  ·rintro b sz (ag | ⟨n,cs',ag,aM⟩)
   ·have:b≠h.n:=fun aG=>by rw[aG,aC] at ag; cases ag
    exact .inl (by simp only[eG,fN,cm _ _ _ _ this]; exact ag)
   ·have:b≠h.n:=fun aG=>by rw[aG,aC] at ag; cases ag
    exact .inr ⟨n,cs',by simp only[eG,fN,cm _ _ _ _ this]; exact ag,aM⟩
  ·intro b k m ag hm;have:b≠h.n:=fun aG=>by rw[aG,aC] at ag; cases ag
   exact⟨by simp only[eG,fN,cm _ _ _ _ this]; exact ag,by rw[cm _ _ _ _ this]; exact hm⟩
  ·simp[eG,fN]
  ·intro b ag hm;rw[cm _ _ _ _ (by omega)]; exact hm
 refine⟨e,rel.vO e.toExt0 h.n ?_ ?_ ?_ ?_ ?_ ?_⟩
 ·intro b ag al;simp only[eG,fN,cm _ _ _ _ ag] at al ⊢;exact⟨trivial,trivial,fun m hm=>by rw[kA,Array.getElem?_push,if_neg (by have:=rel.lt al hm; omega)]⟩
 ·intro m hm;simp at hm; subst hm;simp only[eG,fN,kw];exact c1
 ·intro b m cF ag al _ hm b7;simp only[eG,fN,cm _ _ _ _ ag] at al;simp at b7; subst b7;have:=rel.lt al hm;simp only[ne_eq]; omega
 ·intro m _ hm;simp at hm; subst hm;exact rel.size
 ·intro b ag;simp only[eG,fN] at ag ⊢;rw[cm _ _ _ _ (by omega)];exact rel.fresh b (by omega)
 ·intro b ag;simp only[eG,fN] at ag ⊢;rw[cm _ _ _ _ (by omega)];exact rel.lD b (by omega)
theorem cc.eV {R:Nat->Prop} {B:Nat} {w w' : World} {h:aQ} {μ:cX} (rel:cc R B w h μ) {b k:Nat} {c c' : a7} {m:M}
  (ag:h.f b=c) (hk:o3 c=k+1) (fe:o3 c'=k+1) (hm:μ b=some m)
  (qL:w'.os=w.os) (vf:w'.tape=w.tape) (l7:w'.output=w.output) (zc:w'.heap.size=w.heap.size) (D7:∀ k,k≠m.r->w'.heap[k]? = w.heap[k]?)
  (c1:Ext0 w h μ w' (h.set b c') μ->vS w' R (h.set b c') μ m c') (rQ:w.drawn<=w'.drawn:=by first | exact Nat.le_refl _ | exact Nat.le_succ _ | assumption) :
  dY w h μ w' (h.set b c') μ/\cc R B w' (h.set b c') μ:=by
 have lx:live (h.f b)=true:=by rw[ag]; cases c<;>simp[o3] at hk<;>rfl
 have ar6:live c'=true:=by cases c'<;>simp[o3] at fe<;>rfl
 have Hy:∀ sz cs,h.f b≠.cells sz cs:=fun sz cs aG=>by rw[ag] at aG; subst aG; simp[o3] at hk
 have qJ:h.f b≠.dead:=fun aG=>by rw[ag] at aG; subst aG; simp[o3] at hk
 have e:dY w h μ w' (h.set b c') μ:=by
  refine⟨⟨qL,vf,l7,Nat.le_of_eq zc.symm,?_,?_,?_,?_,?_,Nat.le_refl _,rQ⟩,fun _ _ hm=>hm⟩
  ·intro k hk aC;exact D7 k (fun aG=>aC ⟨b,m,lx,hm,aG.symm⟩)
  ·rintro k ⟨bu,cF,dr,b7,rfl⟩;by_cases b9:bu=b
   ·subst b9; exact .inl ⟨bu,cF,lx,b7,rfl⟩
   ·simp only[eg,cm _ _ _ _ b9] at dr;exact .inl ⟨bu,cF,dr,b7,rfl⟩
  ·intro bu sz cs cF bO b7;have b9:bu≠b:=fun aG=>by subst aG; exact Hy _ _ bO
   exact .inl ⟨cs,by simp only[eg,cm _ _ _ _ b9]; exact bO,b7⟩
  ·rintro bu sz (aq | ⟨n,cs',aq,aM⟩)
   ·have b9:bu≠b:=fun aG=>by subst aG; exact qJ aq
    exact .inl (by simp only[eg,cm _ _ _ _ b9]; exact aq)
   ·have b9:bu≠b:=fun aG=>by subst aG; exact Hy _ _ aq
    exact .inr ⟨n,cs',by simp only[eg,cm _ _ _ _ b9]; exact aq,aM⟩
  ·intro bu k' cF bO b7;by_cases b9:bu=b
   ·subst b9;refine⟨?_,b7⟩;simp only[eg,kw];rw[ag,hk] at bO;rw[fe]; exact bO
   ·exact⟨by simp only[eg,cm _ _ _ _ b9]; exact bO,b7⟩
 refine⟨e,rel.vO e.toExt0 b ?_ ?_ ?_ ?_ ?_ rel.lD⟩
 ·intro bu b9 al;simp only[eg,cm _ _ _ _ b9] at al ⊢;exact⟨trivial,trivial,fun cF b7=>D7 _ (fun aG=>b9 (rel.inj bu b cF m al lx b7 hm aG))⟩
 ·intro cF b7;rw[hm] at b7; cases b7;simp only[eg,kw];exact c1 e.toExt0
 ·intro bu kE kf b9 al _ h1 ad aG;rw[hm] at ad; cases ad;simp only[eg,cm _ _ _ _ b9] at al;exact b9 (rel.inj bu b kE m al lx h1 hm aG)
 ·intro cF _ b7;rw[hm] at b7; cases b7;exact rel.base b m lx hm
 ·intro bu bO;by_cases b9:bu=b
  ·subst b9;have:=rel.sS hm;simp only[ff] at bO; omega
  ·simp only[eg,cm _ _ _ _ b9]; exact rel.fresh bu bO
theorem cc.write {R:Nat->Prop} {B:Nat} {w w' : World} {h:aQ} {μ:cX} (rel:cc R B w h μ) {b sz sz' : Nat} {cs cs' : List U} {m:M} {arr arr' : Array Value} {t:TypeId} {gy:Nat × Nat}
  (ag:h.f b=.cells sz cs) (hm:μ b=some m) (az:w.heap[m.r]? = some (.cells arr t gy)) (bM:arr.size=m.T) (mM:gy=(0,0)\/m.T<gy.1)
  (qL:w'.os=w.os) (vf:w'.tape=w.tape) (l7:w'.output=w.output) (zc:w'.heap.size=w.heap.size)
  (D8:w'.heap[m.r]? = some (.cells arr' t gy)) (D7:∀ k,k≠m.r->w'.heap[k]? = w.heap[k]?) (aA:arr'.size=arr.size)
  (al:cs'.length=sz') (qF:sz<=sz') (eE:m.s+sz'<=m.T)
  (au:∀ (j:Nat) (c:U),cs'[j]? = some c->∃ v:Value,arr'[m.s+j]? = some v/\v.oneCell'=true/\aS w R h μ c v) (rQ:w.drawn<=w'.drawn:=by first | exact Nat.le_refl _ | exact Nat.le_succ _ | assumption) :
  dY w h μ w' (h.set b (.cells sz' cs')) μ/\cc R B w' (h.set b (.cells sz' cs')) μ:=by
 have lx:live (h.f b)=true:=by rw[ag]; rfl
 have e:dY w h μ w' (h.set b (.cells sz' cs')) μ:=by
  refine⟨⟨qL,vf,l7,Nat.le_of_eq zc.symm,?_,?_,?_,?_,?_,Nat.le_refl _,rQ⟩,fun _ _ hm=>hm⟩
  ·intro k hk aC;exact D7 k (fun aG=>aC ⟨b,m,lx,hm,aG.symm⟩)
  ·rintro k ⟨bu,cF,dr,b7,rfl⟩;by_cases b9:bu=b
   ·subst b9; exact .inl ⟨bu,cF,lx,b7,rfl⟩
   ·simp only[eg,ff,cm _ _ _ _ b9] at dr;exact .inl ⟨bu,cF,dr,b7,rfl⟩
  ·intro bu anH oO cF bO b7;by_cases b9:bu=b
   ·subst b9;rw[ag] at bO; cases bO;by_cases ak:sz'=sz
    ·exact .inl ⟨cs',by simp[eg,ff,ak],b7⟩
    ·exact .inr (.inr ⟨sz',cs',by simp[eg,ff],by omega⟩)
   ·exact .inl ⟨oO,by simp only[eg,ff,cm _ _ _ _ b9]; exact bO,b7⟩
  ·rintro bu s0 (bO | ⟨n,oO,bO,aM⟩)
   ·have b9:bu≠b:=fun aG=>by rw[aG,ag] at bO; cases bO
    exact .inl (by simp only[eg,ff,cm _ _ _ _ b9]; exact bO)
   ·by_cases b9:bu=b
    ·subst b9;rw[ag] at bO; cases bO;exact .inr ⟨sz',cs',by simp[eg,ff],by omega⟩
    ·exact .inr ⟨n,oO,by simp only[eg,ff,cm _ _ _ _ b9]; exact bO,aM⟩
  ·intro bu k cF bO b7;have b9:bu≠b:=fun aG=>by rw[aG,ag] at bO; cases bO
   exact⟨by simp only[eg,ff,cm _ _ _ _ b9]; exact bO,b7⟩
 refine⟨e,rel.vO e.toExt0 b ?_ ?_ ?_ ?_ ?_ ?_⟩
 ·intro bu b9 dr;simp only[eg,ff,cm _ _ _ _ b9] at dr ⊢;exact⟨trivial,trivial,fun cF b7=>D7 _ (fun aG=>b9 (rel.inj bu b cF m dr lx b7 hm aG))⟩
 ·intro cF b7;rw[hm] at b7; cases b7;simp only[eg,ff,kw];refine⟨al,eE,arr',t,gy,D8,aA.trans bM,mM,fun j c ai=>?_⟩;obtain⟨v,h1,ad,aj⟩:=au j c ai;exact⟨v,h1,ad,aj.ext e⟩
 ·intro bu cF aj1 b9 dr _ b7 DP aG;rw[hm] at DP; cases DP;simp only[eg,ff,cm _ _ _ _ b9] at dr;exact b9 (rel.inj bu b cF m dr lx b7 hm aG)
 ·intro cF _ b7;exact rel.base b cF lx b7
 ·intro bu bO;simp only[eg,ff] at bO ⊢;have b9:bu≠b:=fun aG=>by
   have:=rel.fresh bu bO;rw[aG,ag] at this; cases this
  rw[cm _ _ _ _ b9];exact rel.fresh bu bO
 ·intro bu bO;exact rel.lD bu bO
theorem cc.move {R:Nat->Prop} {B:Nat} {w w' : World} {h:aQ} {μ:cX} (rel:cc R B w h μ) {b sz sz' : Nat} {cs cs' : List U} {m:M} {arr:Array Value} {t:TypeId}
  (ag:h.f b=.cells sz cs) (hm:μ b=some m)
  (qL:w'.os=w.os) (vf:w'.tape=w.tape) (l7:w'.output=w.output) (kA:w'.heap=w.heap.push (.cells arr t (0,0)))
  (al:cs'.length=sz') (qF:sz<sz') (eE:sz'<=arr.size)
  (au:∀ (j:Nat) (c:U),cs'[j]? = some c->∃ v:Value,arr[j]? = some v/\v.oneCell'=true/\aS w R h μ c v) (rQ:w.drawn<=w'.drawn:=by first | exact Nat.le_refl _ | exact Nat.le_succ _ | assumption) :
  dY w h μ w' (h.set b (.cells sz' cs')) (bS μ b (some ⟨w.heap.size,0,arr.size⟩))/\cc R B w' (h.set b (.cells sz' cs')) (bS μ b (some ⟨w.heap.size,0,arr.size⟩)) :=by
 have lx:live (h.f b)=true:=by rw[ag]; rfl
 have e:dY w h μ w' (h.set b (.cells sz' cs')) (bS μ b (some ⟨w.heap.size,0,arr.size⟩)) :=by
  refine⟨⟨qL,vf,l7,by simp[kA],?_,?_,?_,?_,?_,Nat.le_refl _,rQ⟩,?_⟩
  ·intro k hk aC;rw[kA,Array.getElem?_push,if_neg (by omega)]
  ·rintro k ⟨bu,cF,dr,b7,rfl⟩;by_cases b9:bu=b
   ·subst b9; simp at b7; subst b7; exact .inr (Nat.le_refl _)
   ·rw[cm _ _ _ _ b9] at b7;simp only[eg,ff,cm _ _ _ _ b9] at dr;exact .inl ⟨bu,cF,dr,b7,rfl⟩
  ·intro bu anH oO cF bO b7;by_cases b9:bu=b
   ·subst b9;rw[ag] at bO; cases bO;exact .inr (.inr ⟨sz',cs',by simp[eg,ff],by omega⟩)
   ·exact .inl ⟨oO,by simp only[eg,ff,cm _ _ _ _ b9]; exact bO,by rw[cm _ _ _ _ b9]; exact b7⟩
  ·rintro bu s0 (bO | ⟨n,oO,bO,aM⟩)
   ·have b9:bu≠b:=fun aG=>by rw[aG,ag] at bO; cases bO
    exact .inl (by simp only[eg,ff,cm _ _ _ _ b9]; exact bO)
   ·by_cases b9:bu=b
    ·subst b9;rw[ag] at bO; cases bO;exact .inr ⟨sz',cs',by simp[eg,ff],by omega⟩
    ·exact .inr ⟨n,oO,by simp only[eg,ff,cm _ _ _ _ b9]; exact bO,aM⟩
  ·intro bu k cF bO b7;have b9:bu≠b:=fun aG=>by rw[aG,ag] at bO; cases bO
   exact⟨by simp only[eg,ff,cm _ _ _ _ b9]; exact bO,by rw[cm _ _ _ _ b9]; exact b7⟩
  ·intro bu _ b7;have b9:bu≠b:=fun aG=>by rw[aG,hm] at b7; cases b7
   rw[cm _ _ _ _ b9]; exact b7
 refine⟨e,rel.vO e.toExt0 b ?_ ?_ ?_ ?_ ?_ ?_⟩
 ·intro bu b9 dr;simp only[eg,ff,cm _ _ _ _ b9] at dr ⊢;exact⟨trivial,trivial,fun cF b7=>by rw[kA,Array.getElem?_push,if_neg (by have:=rel.lt dr b7; omega)]⟩
 ·intro cF b7;simp at b7; subst b7;simp only[eg,ff,kw];refine⟨al,by simpa using eE,arr,t,(0,0),by simp[kA],rfl,.inl rfl,fun j c ai=>?_⟩;obtain⟨v,h1,ad,aj⟩:=au j c ai;exact⟨v,by simpa using h1,ad,aj.ext e⟩
 ·intro bu cF aj1 b9 dr _ b7 DP;simp only[eg,ff,cm _ _ _ _ b9] at dr;simp at DP; subst DP;have:=rel.lt dr b7;simp only[ne_eq]; omega
 ·intro cF _ b7;simp at b7; subst b7;exact rel.size
 ·intro bu bO;simp only[eg,ff] at bO ⊢;have b9:bu≠b:=fun aG=>by
   have:=rel.fresh bu bO;rw[aG,ag] at this; cases this
  rw[cm _ _ _ _ b9];exact rel.fresh bu bO
 ·intro bu bO;simp only[eg,ff] at bO;have b9:bu≠b:=fun aG=>by
   have:=rel.sS hm;omega
  rw[cm _ _ _ _ b9];exact rel.lD bu bO
section
variable {P:Program} {w:World} {R:Nat->Prop} {B:Nat} {h:aQ} {μ:cX}
def Good (R:Nat->Prop) (B:Nat) (w:World) (h:aQ) (μ:cX) (r:Result Next) (c:U) (h' : aQ) :Prop:=
 ∃ v w' μ',(r=.ok (.value v) w'\/(r=.ok .skip w'/\v=undef))/\dY w h μ w' h' μ'/\cc R B w' h' μ'/\aS w' R h' μ' c v
theorem Good.pure (rel:cc R B w h μ) {r:Result Next} {c:U} {v:Value} (az:r=.ok (.value v) w) (au:aS w R h μ c v) :Good R B w h μ r c h:=
 ⟨v,w,μ,.inl az,.refl _ _ _,rel,au⟩
theorem cL {t:TypeId} {d:TypeDesc} (bC:P.underlying t=some d) :(underlying t).run P w=.ok d w:=by
 simp[underlying,bC]
theorem I3 {t:TypeId} {b:Bool} (ag:eB P t=some b) :(isAgg t).run P w=.ok b w:=by
 unfold eB at ag;cases bC:P.underlying t with
 | none=>rw[bC] at ag; cases ag
 | some d=>
  rw[bC] at ag;simp only[Option.map_some,Option.some.injEq] at ag;unfold isAgg;simp only[Sem.run_bind,cL bC,Result.andThen_ok];cases d<;>simp_all
theorem aiJ {t:TypeId} {n:Nat} (aC:cM P t=some n) :∃ i,P.info? t=some i/\i.size=n:=by
 unfold cM at aC;cases av:P.info? t with
 | none=>rw[av] at aC; cases aC
 | some i=>rw[av] at aC; exact⟨i,rfl,by simpa using aC⟩
theorem fS {t:TypeId} {n:Nat} (aC:cM P t=some n) :(sizeOf t).run P w=.ok n w:=by
 obtain⟨i,av,ak⟩:=aiJ aC;simp[sizeOf,typeInfo,av,ak]
theorem apm {t:TypeId} {z:List U} (aw:hV P t=some z) :∃ i v,P.info? t=some i/\i.zero=some v/\v.cells.toList.all Value.oneCell'=true/\z=v.cells.toList.map pP:=by
 unfold hV at aw;cases av:P.info? t with
 | none=>rw[av] at aw; cases aw
 | some i=>
  rw[av] at aw;simp only[Option.bind_some] at aw;cases au:i.zero with
  | none=>rw[au] at aw; cases aw
  | some v=>
   rw[au] at aw;simp only[Option.bind_some] at aw;split at aw
   ·rename_i h1;exact⟨i,v,rfl,au,h1,by simpa using aw.symm⟩
   ·cases aw
theorem Zl {t:TypeId} {i:TypeInfo} {v:Value} (av:P.info? t=some i) (au:i.zero=some v) :(zeroValue t).run P w=.ok v w:=by
 simp[zeroValue,typeInfo,av,au]
theorem aS.pP (v:Value) :aS w R h μ (pP v) v:=by
 cases v with
 | bool b=>exact .bool _
 | int k n=>exact .int _ _
 | string s=>exact .str _
 | pointer a=>cases a<;>first | exact .jU | exact .bad _
 | slice a l c=>
  simp only[cb.pP];split
  ·exact .aT
  ·exact .bad _
 | map r=>cases r<;>first | exact .ia | exact .bad _
 | nilFunc=>exact .jS
 | nilIface=>exact .jT
 | func fn first gi=>
  simp only[cb.pP];split
  ·rename_i f h1 ad;have aR:first=#[] :=by simpa using h1
   have bJ:gi=#[] :=by simpa using ad
   subst aR bJ;exact .fn _ [] [] #[] #[] rfl rfl (fun _ _ _ aG=>by simp at aG) (fun _ _ _ aG=>by simp at aG)
  ·exact .bad _
 | _=>exact .bad _
theorem aS.xu (v:Value) :aS w R h μ (xu v) v:=by
 unfold cb.xu;split
 ·rename_i cs;split
  ·rename_i cd;refine .aH _ _ (by simp) (fun j v ai=>?_) (fun j c v ah me=>?_)
   ·rw[List.all_eq_true] at cd;exact cd v (by have:=Array.mem_of_getElem? ai; simpa using this)
   ·rw[List.getElem?_map] at ah;simp only[Array.getElem?_toList,me,Option.map_some,Option.some.injEq] at ah;subst ah;exact aS.pP v
  ·exact .bad _
 ·rename_i vs;refine .bG _ _ (by simp) (fun j c v ah me=>?_);rw[List.getElem?_map] at ah;simp only[Array.getElem?_toList,me,Option.map_some,Option.some.injEq] at ah;subst ah;exact aS.pP v
 ·exact aS.pP v
theorem aS.one {c:U} {v:Value} (au:aS w R h μ c v) (h1:c.one=true) :v.oneCell'=true:=by
 cases au<;>first | rfl | (simp[U.one] at h1)
theorem F3 {c:U} {v:Value} {cs:List U} (au:aS w R h μ c v) (ah:c.cells=some cs) :
  v.cells.size=cs.length/\∀ (j:Nat) (x:U),cs[j]? = some x->∃ u:Value,v.cells[j]? = some u/\u.oneCell'=true/\aS w R h μ x u:=by
 have kG:∀ (c:U) (v:Value),aS w R h μ c v->v.cells=#[v]->v.oneCell'=true->∀ cs,cs=[c]->
   v.cells.size=cs.length/\∀ (j:Nat) (x:U),cs[j]? = some x->∃ u:Value,v.cells[j]? = some u/\u.oneCell'=true/\aS w R h μ x u:=by
  intro c v au jc h1 cs cd;subst cd;rw[jc];refine⟨rfl,fun j x af=>?_⟩;cases j with
  | zero=>simp at af; subst af; exact⟨v,rfl,h1,au⟩
  | succ j=>simp at af
 cases au with
 | aH cs' vs al h1 au=>
  simp only[U.cells,Option.some.injEq] at ah; subst ah;refine⟨al,fun j x af=>?_⟩;have ai:j<vs.size:=by rw[al]; exact (List.getElem?_eq_some_iff.1 af).1
  exact⟨vs[j],by simp[Value.cells,ai],h1 j _ (by simp[ai]),au j x _ af (by simp[ai])⟩
 | bG cs' vs al au=>simp[U.cells] at ah
 | bad v=>simp[U.cells] at ah
 | bool b=>exact kG _ _ (.bool b) rfl rfl _ (by simpa [U.cells] using ah.symm)
 | int k n=>exact kG _ _ (.int k n) rfl rfl _ (by simpa [U.cells] using ah.symm)
 | str bs=>exact kG _ _ (.str bs) rfl rfl _ (by simpa [U.cells] using ah.symm)
 | jU=>exact kG _ _ .jU rfl rfl _ (by simpa [U.cells] using ah.symm)
 | aT=>exact kG _ _ .aT rfl rfl _ (by simpa [U.cells] using ah.symm)
 | ia=>exact kG _ _ .ia rfl rfl _ (by simpa [U.cells] using ah.symm)
 | jS=>exact kG _ _ .jS rfl rfl _ (by simpa [U.cells] using ah.symm)
 | jT=>exact kG _ _ .jT rfl rfl _ (by simpa [U.cells] using ah.symm)
 | ptr b off sz cs' m ag hm=>exact kG _ _ (.ptr b off sz cs' m ag hm) rfl rfl _ (by simpa [U.cells] using ah.symm)
 | nw b off sz a aq=>exact kG _ _ (.nw b off sz a aq) rfl rfl _ (by simpa [U.cells] using ah.symm)
 | b3 cs' off blk o eI ei au=>exact kG _ _ (.b3 cs' off blk o eI ei au) rfl rfl _ (by simpa [U.cells] using ah.symm)
 | ar z b off len cap sz cap' cs' m ag hm al ap ei=>exact kG _ _ (.ar z b off len cap sz cap' cs' m ag hm al ap ei) rfl rfl _ (by simpa [U.cells] using ah.symm)
 | gR z b off len cap sz cap' a al ei aq=>exact kG _ _ (.gR z b off len cap sz cap' a al ei aq) rfl rfl _ (by simpa [U.cells] using ah.symm)
 | ig z b off sz a cs' m ag hm=>exact kG _ _ (.ig z b off sz a cs' m ag hm) rfl rfl _ (by simpa [U.cells] using ah.symm)
 | bQ z es blk off cap eI al aw ei au=>exact kG _ _ (.bQ z es blk off cap eI al aw ei au) rfl rfl _ (by simpa [U.cells] using ah.symm)
 | fY z a cap=>exact kG _ _ (.fY z a cap) rfl rfl _ (by simpa [U.cells] using ah.symm)
 | fn f ad2 Ak fs cs' aF ei h1 ad=>exact kG _ _ (.fn f ad2 Ak fs cs' aF ei h1 ad) rfl rfl _ (by simpa [U.cells] using ah.symm)
 | mp b m ag hm=>exact kG _ _ (.mp b m ag hm) rfl rfl _ (by simpa [U.cells] using ah.symm)
 | it b m ag hm=>exact kG _ _ (.it b m ag hm) rfl rfl _ (by simpa [U.cells] using ah.symm)
 | g0 t c v au=>exact kG _ _ (.g0 t c v au) rfl rfl _ (by simpa [U.cells] using ah.symm)
 | m5 l=>exact kG _ _ (.m5 l) rfl rfl _ (by simpa [U.cells] using ah.symm)
theorem Addr.m6 (b o n:Nat) :(⟨b,o,none⟩:Addr).add n=⟨b,o+n,none⟩:=by unfold Addr.add; split<;>simp_all
theorem On (rel:cc R B w h μ) {p:U} {xA:Value} {cs:List U} {off:Nat} (az:reach h p=some (cs,off)) (ay:aS w R h μ p xA) :
  ∃ blk o,xA=.pointer (some ⟨blk,o+off,none⟩)/\∀ (j:Nat) (c:U),cs[j]? = some c->∃ v:Value,w.cell? ⟨blk,o+j,none⟩=some v/\v.oneCell'=true/\aS w R h μ c v:=by
 cases ay with
 | ptr b Is sz cs' m ag hm=>
  simp only[reach,ag,ite_true,Option.some.injEq,Prod.mk.injEq] at az;obtain⟨rfl,rfl⟩:=az;have e0:=rel.blk b m hm;rw[ag] at e0;obtain⟨h1,ad,arr,t,gy,aj,aE,aX,bw⟩:=e0;refine⟨m.r,m.s,rfl,fun j c ai=>?_⟩;obtain⟨v,aV,a1,a3⟩:=bw j c ai;exact⟨v,by simp[World.cell?,aj,aV],a1,a3⟩
 | nw b Is sz a aq=>
  unfold reach at az;rcases aq with aq | ⟨n,cs',aq,aM⟩
  ·simp[aq] at az
  ·simp only[aq] at az;split at az
   ·omega
   ·cases az
 | b3 cs' Is blk o eI ah au=>
  simp only[reach,Option.some.injEq,Prod.mk.injEq] at az;obtain⟨rfl,rfl⟩:=az;exact⟨blk,o,rfl,fun j c ai=>⟨eI j,(ah j (List.getElem?_eq_some_iff.1 ai).1).here,(ah j (List.getElem?_eq_some_iff.1 ai).1).one,au j c ai⟩⟩
 | _=>simp[reach] at az
theorem amv {t:TypeId} {cs:List U} {off:Nat} {c:U} (ay:ic P t cs off=some c) {blk o:Nat}
  (ah:∀ (j:Nat) (x:U),cs[j]? = some x->∃ v:Value,w.cell? ⟨blk,o+j,none⟩=some v/\v.oneCell'=true/\aS w R h μ x v) :
  ∃ v,(loadVar t ⟨blk,o+off,none⟩).run P w=.ok v w/\aS w R h μ c v:=by
 unfold ic at ay;cases pv:eB P t with
 | none=>rw[pv] at ay; cases ay
 | some b=>
  rw[pv] at ay;cases b with
  | false=>
   simp only at ay;obtain⟨v,h1,_,aj⟩:=ah off c ay;exact⟨v,by simp[loadVar,I3 pv,h1],aj⟩
  | true=>
   cases aC:cM P t with
   | none=>rw[aC] at ay; cases ay
   | some n=>
    rw[aC] at ay;simp only at ay;split at ay
    ·rename_i dw;simp only[Option.some.injEq] at ay;subst ay;have qC:∀ j,j<n->∃ v,w.cell? ⟨blk,o+(off+j),none⟩=some v/\v.oneCell'=true/\aS w R h μ (cs.getD (off+j) .bad) v:=by
      intro j ai;have aM:off+j<cs.length:=by omega
      have:=ah (off+j) cs[off+j] (by simp[aM]);simpa [List.getD,aM] using this
     have au:∃ f:Nat->Value,∀ j,j<n->w.cell? ⟨blk,o+(off+j),none⟩=some (f j)/\(f j).oneCell'=true/\aS w R h μ (cs.getD (off+j) .bad) (f j) :=by
      refine⟨fun j=>if ai:j<n then Classical.choose (qC j ai) else undef,fun j ai=>?_⟩;simp only[ai,dif_pos];exact Classical.choose_spec (qC j ai)
     obtain⟨f,aF⟩:=au;have al:(loadCells ⟨blk,o+off,none⟩ n).run P w=.ok ((List.range n).map f).toArray w:=by
      have:=run_loadCells_list (P:=P) w ⟨blk,o+off,none⟩ ((List.range n).map f) (fun j v ai=>by
       rw[List.getElem?_map] at ai;have kX:j<n:=by
        rcases Nat.lt_or_ge j n with h1 | h1
        ·exact h1
        ·rw[List.getElem?_eq_none (by simpa using h1)] at ai; cases ai
       rw[List.getElem?_range kX] at ai;simp only[Option.map_some,Option.some.injEq] at ai;rw[Addr.m6,<-ai,Nat.add_assoc];exact (aF j kX).1)
      simpa using this
     refine⟨.agg ((List.range n).map f).toArray,by simp[loadVar,I3 pv,fS aC,al],.aH _ _ (by simp; omega) (fun j v ai=>?_) (fun j c v ei ai=>?_)⟩
     ·simp only[List.getElem?_toArray,List.getElem?_map] at ai;have kX:j<n:=by
       rcases Nat.lt_or_ge j n with h1 | h1
       ·exact h1
       ·rw[List.getElem?_eq_none (by simpa using h1)] at ai; cases ai
      rw[List.getElem?_range kX] at ai;simp only[Option.map_some,Option.some.injEq] at ai;rw[<-ai]; exact (aF j kX).2.1
     ·simp only[List.getElem?_toArray,List.getElem?_map] at ai;have kX:j<n:=by
       rcases Nat.lt_or_ge j n with h1 | h1
       ·exact h1
       ·rw[List.getElem?_eq_none (by simpa using h1)] at ai; cases ai
      rw[List.getElem?_range kX] at ai;simp only[Option.map_some,Option.some.injEq] at ai;rw[List.getElem?_take_of_lt kX,List.getElem?_drop] at ei;have:=(aF j kX).2.2;rw[List.getD,ei] at this;rw[<-ai]; simpa using this
    ·cases ay
theorem Xj (rel:cc R B w h μ) {t:TypeId} {p:U} {xA:Value} {c:U} (al:tB P h t p=some c) (ay:aS w R h μ p xA) :
  ∃ v,(Instr.loadAt t xA).run P w=.ok v w/\aS w R h μ c v:=by
 unfold tB at al;cases az:reach h p with
 | none=>rw[az] at al; cases al
 | some x=>
  obtain⟨cs,off⟩:=x;rw[az] at al;obtain⟨blk,o,rfl,ah⟩:=On rel az ay;obtain⟨v,h1,ad⟩:=amv al ah;exact⟨v,by simp[Instr.loadAt,Instr.sureAddr,h1],ad⟩
end

section
variable {P:Program} {w:World} {R:Nat->Prop} {B:Nat} {h:aQ} {μ:cX}
theorem Zk (P:Program) (g o:Nat) (t:TypeId) (gy:Nat × Nat) :∀ (vs:List Value) (i:Nat) (im:Array Value) (w:World),w.heap[g]? = some (.cells im t gy)->(gy=(0,0)\/im.size<=gy.1)->
  o+i+vs.length<=im.size->(∀ v∈vs,v.oneCell'=true)->
  (storeCells ⟨g,o,none⟩ vs i).run P w=.ok () (w.setRow g (im.toList.take (o+i)++vs++im.toList.drop (o+i+vs.length)).toArray)
 | [],i,im,w,aq,_,_,_=>by
  simp only[storeCells,List.append_nil,List.length_nil,Nat.add_zero,List.take_append_drop,Array.toArray_toList];rw[setRow_self w g im t gy aq];rfl
 | v::rest,i,im,w,aq,mM,al,h1=>by
  have av:o+i<im.size:=by simp at al; omega
  have AM:(⟨g,o,none⟩:Addr).add i=⟨g,o+i,none⟩:=Addr.m6 _ _ _;have nh:w.cell? ⟨g,o+i,none⟩=some im[o+i] :=by simp[World.cell?,aq,av]
  have agC:w.frozen? ⟨g,o+i,none⟩=false:=by
   obtain⟨cV,fq⟩:=gy;rcases mM with mM | mM
   ·cases mM; simp[World.frozen?,aq]
   ·have:¬ cV<=o+i:=by simp at mM; omega
    simp[World.frozen?,aq,this]
  have ci:(store ((⟨g,o,none⟩:Addr).add i) v).run P w=.ok () (w.setRow g (im.setIfInBounds (o+i) v)) :=by
   rw[AM,run_store P w _ v _ (h1 v (by simp)),nh];simp[agC,setCell_eq_setRow w g (o+i) im t gy v aq]
  have aJ:=Zk P g o t gy rest (i+1) (im.setIfInBounds (o+i) v) (w.setRow g (im.setIfInBounds (o+i) v)) (setRow_heap w g im _ t _ aq) (by simpa using mM) (by simp at al ⊢; omega) (fun x af=>h1 x (by simp[af]));simp only[storeCells,Sem.run_bind,ci,Result.andThen_ok,aJ,setRow_setRow];congr 3;have:=list_seg_step im.toList (o+i) v rest (by simp at al ⊢; omega);simpa [Nat.add_assoc,Nat.add_comm 1] using this
theorem sv {cs vs:List U} {k:Nat} (hk:k<=cs.length) :(bt cs k vs).length=max cs.length (k+vs.length) :=by
 unfold bt;simp only[List.length_append,List.length_take,List.length_drop];omega
theorem O1 {cs vs:List U} {k j:Nat} (hk:k<=cs.length) :(bt cs k vs)[j]? = if j<k then cs[j]? else if j<k+vs.length then vs[j - k]? else cs[j]?:=by
 unfold bt;rw[List.append_assoc];by_cases h1:j<k
 ·rw[List.getElem?_append_left (by simp; omega),List.getElem?_take_of_lt h1,if_pos h1]
 ·rw[List.getElem?_append_right (by simp; omega),if_neg h1];simp only[List.length_take,Nat.min_eq_left hk];by_cases ad:j<k+vs.length
  ·rw[List.getElem?_append_left (by omega),if_pos ad]
  ·rw[List.getElem?_append_right (by omega),if_neg ad,List.getElem?_drop];congr 1; omega
theorem zV (rel:cc R B w h μ) {b sz k:Nat} {cs cvs:List U} {m:M} {vs:List Value} (ag:h.f b=.cells sz cs) (hm:μ b=some m) (hk:k<=sz)
  (al:vs.length=cvs.length) (eE:m.s+max sz (k+cvs.length)<=m.T)
  (au:∀ (j:Nat) (c:U),cvs[j]? = some c->∃ v:Value,vs[j]? = some v/\v.oneCell'=true/\aS w R h μ c v) :
  ∃ w',(storeCells ⟨m.r,m.s+k,none⟩ vs).run P w=.ok () w'/\dY w h μ w' (h.set b (.cells (max sz (k+cvs.length)) (bt cs k cvs))) μ ∧
   cc R B w' (h.set b (.cells (max sz (k+cvs.length)) (bt cs k cvs))) μ:=by
 have e0:=rel.blk b m hm;rw[ag] at e0;obtain⟨bn,bM,arr,t,gy,az,aA,mM,ah⟩:=e0;have h1:∀ v∈vs,v.oneCell'=true:=by
  intro v ly;obtain⟨j,ai,rfl⟩:=List.getElem_of_mem ly;obtain⟨v,aV,a1,_⟩:=au j (cvs[j]'(by omega)) (by simp);rw[List.getElem?_eq_getElem ai] at aV;cases aV;exact a1
 have hv:=Zk P m.r (m.s+k) t gy vs 0 arr w az (by rw[aA]; exact mM.imp id Nat.le_of_lt) (by omega) h1;simp only[Nat.add_zero] at hv;have qR:(arr.toList.take (m.s+k)++vs++arr.toList.drop (m.s+k+vs.length)).toArray.size=arr.size:=by
  simp only[List.size_toArray,List.length_append,List.length_take,List.length_drop,Array.length_toList];omega
 have ej:=rel.write (w':=w.setRow m.r (arr.toList.take (m.s+k)++vs++arr.toList.drop (m.s+k+vs.length)).toArray) (cs':=bt cs k cvs) (sz':=max sz (k+cvs.length)) ag hm az aA mM
  rfl rfl rfl (by simp[World.setRow]) (setRow_heap w m.r arr _ t gy az) (fun k' fe=>setRow_other w m.r k' _ fe) qR
  (by rw[sv (by omega),bn]) (by omega) (by omega) (fun j c ai=>?_)
 ·exact⟨_,hv,ej.1,ej.2⟩
 ·rw[O1 (by omega)] at ai;simp only[List.getElem?_toArray];rw[List.append_assoc];split at ai
  ·rename_i aM;obtain⟨v,aV,a1,a3⟩:=ah j c ai;refine⟨v,?_,a1,a3⟩;rw[List.getElem?_append_left (by simp; omega),List.getElem?_take_of_lt (by omega)];simpa using aV
  ·rename_i qE;split at ai
   ·rename_i aM;obtain⟨v,aV,a1,a3⟩:=au _ c ai;refine⟨v,?_,a1,a3⟩;have DQ:min (m.s+k) arr.size=m.s+k:=by omega
    rw[List.getElem?_append_right (by simp; omega)];simp only[List.length_take,Array.length_toList,DQ];rw[List.getElem?_append_left (by omega),<-aV];congr 1; omega
   ·rename_i arW;obtain⟨v,aV,a1,a3⟩:=ah j c ai;refine⟨v,?_,a1,a3⟩;have DQ:min (m.s+k) arr.size=m.s+k:=by omega
    rw[List.getElem?_append_right (by simp; omega)];simp only[List.length_take,Array.length_toList,DQ];rw[List.getElem?_append_right (by omega),List.getElem?_drop];have:(m.s+k+vs.length+(m.s+j - (m.s+k) - vs.length))=m.s+j:=by omega
    rw[this];simpa using aV
theorem anz (rel:cc R B w h μ) {t:TypeId} {p v:U} {xA p3:Value} {h' : aQ} (ak:BZ P h t p v=some h') (ay:aS w R h μ p xA) (au:aS w R h μ v p3) :
  ∃ w',(Instr.storeAt t xA p3).run P w=.ok () w'/\dY w h μ w' h' μ/\cc R B w' h' μ:=by
 unfold BZ at ak;split at ak
 ·rename_i b off sz vs n jE aC;obtain⟨hh,np⟩:=F3 au jE;cases ag:h.f b with
  | cells m cs=>
   rw[ag] at ak;simp only at ak;split at ak
   ·rename_i j7;obtain⟨rfl,bn,eE⟩:=j7;simp only[Option.some.injEq] at ak;subst ak;cases ay with
    | ptr bu Is sz' cs' cn bO hm=>
     have e0:=rel.blk b cn hm;rw[ag] at e0;have bM:=e0.2.1;obtain⟨w',h1,ad,aj⟩:=zV (P:=P) rel (cvs:=vs) (vs:=p3.cells.toList) (k:=off) ag hm (by omega) (by simpa using hh) (by omega)
      (fun j c ai=>by obtain⟨u,aV,a1,a3⟩:=np j c ai; exact⟨u,by simpa using aV,a1,a3⟩)
     have nm:max m (off+vs.length)=m:=by omega
     rw[nm] at ad aj;refine⟨w',?_,ad,aj⟩;have bI:¬ (p3.cells.size≠n) :=by omega
     simp[Instr.storeAt,Instr.sureAddr,storeVar,fS aC,bI,h1]
    | nw bu Is sz' a aq=>
     rcases aq with aq | ⟨hi,cs',aq,aM⟩
     ·rw[aq] at ag; cases ag
     ·rw[aq] at ag; cases ag; omega
   ·cases ak
  | _=>rw[ag] at ak; cases ak
 ·cases ak
theorem FK (rel:cc R B w h μ) {cs:List U} {vs:Array Value} (t:TypeId) (al:vs.size=cs.length)
  (au:∀ (j:Nat) (c:U),cs[j]? = some c->∃ v:Value,vs[j]? = some v/\v.oneCell'=true/\aS w R h μ c v) :
  let h':=h.push (.cells cs.length cs)
  let μ':=bS μ h.n (some ⟨w.heap.size,0,vs.size⟩)
  let w':=w.alloc (.cells vs t)
  dY w h μ w' h' μ'/\cc R B w' h' μ'/\∀ off,aS w' R h' μ' (.ptr h.n off cs.length) (.pointer (some ⟨w.heap.size,off,none⟩)) :=by
 intro h' μ' w';have:=rel.push (w':=w') cs vs t rfl rfl rfl rfl (by omega) au;refine⟨this.1,this.2,fun off=>?_⟩;have ay:=aS.ptr (w:=w') (R:=R) (h:=h') (μ:=μ') h.n off cs.length cs ⟨w.heap.size,0,vs.size⟩ (by simp[h',eG,fN]) (by simp[μ']);simpa using ay
theorem aaM {t:TypeId} {z:List U} (aw:hV P t=some z) :∃ i v,P.info? t=some i/\i.zero=some v/\v.cells.size=z.length ∧
  ∀ (j:Nat) (c:U),z[j]? = some c->∃ u:Value,v.cells[j]? = some u/\u.oneCell'=true/\aS w R h μ c u:=by
 obtain⟨i,v,av,au,h1,rfl⟩:=apm aw;refine⟨i,v,av,au,by simp,fun j c ai=>?_⟩;rw[List.getElem?_map] at ai;cases aN:v.cells[j]? with
 | none=>simp[aN] at ai
 | some u=>
  simp[aN] at ai;subst ai;rw[List.all_eq_true] at h1;exact⟨u,rfl,h1 u (by have:=Array.mem_of_getElem? aN; simpa using this),aS.pP u⟩
theorem SP {x:U} {bK:Value} {k:Nat} {c:U} (ah:nU x k=some c) (af:aS w R h μ x bK) :
  ∃ a,bK=.pointer (some a)/\aS w R h μ c (.pointer (some (a.add k))) :=by
 cases af with
 | ptr b off sz cs m ag hm=>
  simp only[nU,Option.some.injEq] at ah; subst ah;refine⟨_,rfl,?_⟩;rw[Addr.m6,Nat.add_assoc];exact .ptr b _ sz cs m ag hm
 | nw b off sz a aq=>
  simp only[nU,Option.some.injEq] at ah; subst ah;exact⟨a,rfl,.nw _ _ _ _ aq⟩
 | b3 cs off blk o eI ei au=>
  simp only[nU,Option.some.injEq] at ah; subst ah;refine⟨_,rfl,?_⟩;rw[Addr.m6,Nat.add_assoc];exact .b3 cs _ blk o eI ei au
 | _=>simp[nU] at ah
theorem TD {s:TypeId} {f:Nat} {fd:Field} (aF:yp P s f=some fd) :∃ fs,P.underlying s=some (.struct fs)/\fs[f]? = some fd:=by
 unfold yp at aF;split at aF
 ·rename_i fs aN; exact⟨fs,aN,aF⟩
 ·cases aF
theorem ad3 {s:TypeId} {x c:U} {bK:Value} {f:Nat} (ah:Gm P s x f=some c) (af:aS w R h μ x bK) :
  ∃ v,(Instr.fieldAt s bK f).run P w=.ok v w/\aS w R h μ c v:=by
 unfold Gm at ah;split at ah
 ·rename_i fd aF;obtain⟨fs,aN,nj⟩:=TD aF;split at ah
  ·rename_i n aC;obtain⟨a,rfl,au⟩:=SP ah af;refine⟨_,?_,au⟩;simp[Instr.fieldAt,cL aN,nj,Instr.sureAddr,fieldPlace,fS aC]
  ·cases ah
 ·cases ah
theorem sQ {x:U} {bK:Value} {n:Int} (av:asInt x=some n) (af:aS w R h μ x bK) :∃ k,bK=.int k n:=by
 cases af<;>simp[asInt] at av;subst av;exact⟨_,rfl⟩
theorem aiF {t:TypeId} {x hc c:U} {bK Ej:Value} (ah:Ef P t x hc=some c) (af:aS w R h μ x bK) (av:aS w R h μ hc Ej) :
  ∃ v,(Instr.indexAt t bK Ej).run P w=.ok v w/\aS w R h μ c v:=by
 unfold Ef at ah;split at ah
 ·rename_i len e i aN fJ;obtain⟨k,rfl⟩:=sQ fJ av;cases aw:cM P e with
  | none=>rw[aw] at ah; cases ah
  | some z=>
   rw[aw] at ah;simp only at ah;split at ah
   ·rename_i ag;obtain⟨a,rfl,au⟩:=SP ah af;refine⟨_,?_,au⟩;simp[Instr.indexAt,asIntOf,cL aN,Instr.sureAddr,ag,fS aw]
   ·cases ah
 ·rename_i e i aN fJ;obtain⟨k,rfl⟩:=sQ fJ av;split at ah
  ·rename_i z dO b off len cap sz aw;split at ah
   ·rename_i ag;obtain⟨rfl,ag⟩:=ag;simp only[Option.some.injEq] at ah; subst ah;cases af with
    | ar _ _ _ _ _ _ cap' cs m bO hm al ap dC=>
     refine⟨_,?_,aS.ptr b (off+i.toNat*z) sz cs m bO hm⟩;simp[Instr.indexAt,asIntOf,cL aN,ag,fS aw,Addr.m6,Nat.add_assoc]
    | ig=>simp at ag; omega
    | gR _ _ _ _ _ _ cap' a al dC aq=>
     refine⟨_,?_,aS.nw b _ sz (a.add (i.toNat*z)) aq⟩;simp[Instr.indexAt,asIntOf,cL aN,ag,fS aw]
   ·cases ah
  ·rename_i z dO es aw;split at ah
   ·rename_i ag;obtain⟨rfl,ag⟩:=ag;cases ao:es[i.toNat]? with
    | none=>rw[ao] at ah; cases ah
    | some fH=>
     rw[ao] at ah;simp only[Option.map_some,Option.some.injEq] at ah; subst ah;have aM:i.toNat<es.length:=(List.getElem?_eq_some_iff.1 ao).1;have ec:(0<=i/\i<(es.length:Int)) :=by omega
     cases af with
     | bQ _ _ blk off cap eI al w9 nh au=>
      have agv:fH.length=z:=w9 _ (List.mem_of_getElem? ao);refine⟨_,?_,aS.b3 fH 0 blk (off+i.toNat*z) (eI i.toNat) (fun j ai=>?_) (au _ _ ao)⟩
      ·simp[Instr.indexAt,asIntOf,cL aN,ec,fS aw,Addr.m6]
      ·have:=nh i.toNat j aM (by omega)
       rwa [Nat.add_assoc]
     | fY=>simp at aM
   ·cases ah
  ·cases ah
 ·cases ah
end

end Go.cb

/-
  The canonical machine, part A: its values, blocks, heap, and what one operation does.
-/
import Derived.WalkKit
import Derived.Below
import Derived.Laws.AppendOwn
import Derived.Laws.CopyRow
import Derived.Laws.IdiomCopy
import Derived.Laws.StructEq
set_option linter.unusedVariables false
set_option linter.unusedSimpArgs false
set_option linter.unnecessarySimpa false
namespace Go.ca
abbrev aj7:=@List.getElem?_eq_some_iff
abbrev aj8:=@List.getElem?_append_left
abbrev aj9:=@List.take_of_length_le
abbrev aka:=@List.getElem?_eq_getElem
abbrev akb:=@Nat.le_refl
abbrev akc:=@Nat.mul_le_mul_right
abbrev akd:=@List.getElem?_map
abbrev ake:=@List.mem_of_getElem?
abbrev akf:=@List.length_append
abbrev akg:=@Option.map_some
abbrev akh:=@Bool.and_eq_true
abbrev aki:=@List.length_map
abbrev akj:=@List.mem_iff_getElem?
abbrev akk:=@BitVec.eq_of_toNat_eq
abbrev akl:=@List.getElem?_set_ne
abbrev akm:=@List.getElem?_set_self
abbrev akn:=@Nat.mod_eq_of_lt
abbrev ako:=@List.getD_eq_getElem?_getD
abbrev akp:=@List.getElem?_eq_none
abbrev akq:=@BitVec.toNat_setWidth
abbrev akr:=@Int.toNat_natCast
abbrev aks:=@List.map_append
abbrev akt:=@List.getElem?_append_right
abbrev aku:=@List.getElem?_take_of_lt
abbrev akv:=@List.length_cons
abbrev akw:=@Nat.shiftRight_eq_div_pow
abbrev akx:=@List.map_cons
abbrev aky:=@BitVec.toNat_ofNat
abbrev akz:=@List.mem_map
abbrev akA:=@List.getElem?_cons_zero
abbrev akB:=@List.length_take
abbrev akC:=@List.take_add_one
abbrev akD:=@List.mem_of_mem_take
abbrev akE:=@List.take_length
abbrev akF:=@Int.eq_ofNat_of_zero_le
abbrev akG:=@List.getElem?_drop
abbrev akH:=@List.length_eq_zero_iff
abbrev akI:=@Array.getElem?_eq_some_iff
abbrev akJ:=@BitVec.toNat_ushiftRight
abbrev akK:=@Nat.succ_mul
abbrev akL:=@List.getElem?_range
abbrev akM:=@List.mem_range
abbrev akN:=@List.getElem?_cons_succ
abbrev akO:=@Option.getD_some
abbrev akP:=@List.take_append_of_le_length
abbrev akQ:=@List.append_nil
abbrev akR:=@List.length_nil
abbrev akS:=@Nat.add_mul
abbrev akT:=@List.flatten_cons
abbrev akU:=@List.append_assoc
abbrev akV:=@Nat.le_trans
abbrev akW:=@List.replicate_succ
abbrev akX:=@Nat.lt_or_ge
abbrev akY:=@List.ext_getElem?
abbrev akZ:=@List.flatten_append
abbrev ak0:=@List.mem_filter
abbrev ak1:=@List.take_append_drop
abbrev ak2:=@Array.getD_eq_getD_getElem?
abbrev ak3:=@List.drop_eq_nil_of_le
abbrev ak4:=@List.all_eq_true
abbrev ak5:=@List.mem_append
abbrev ak6:=@List.cons_append
abbrev ak7:=@Nat.min_eq_left
abbrev ak8:=@BitVec.ofInt_natCast
abbrev ak9:=@BitVec.toNat_umod
abbrev ala:=@Bool.false_eq_true
abbrev alb:=@List.drop_append_of_le_length
abbrev alc:=@List.set_append_right
abbrev ald:=@List.nil_append
abbrev ale:=@List.drop_eq_getElem_cons
abbrev alf:=@Nat.zero_add
abbrev alg:=@List.mem_singleton
abbrev alh:=@Nat.eq_of_beq_eq_true
abbrev ali:=@Nat.le_of_lt
abbrev alj:=@Nat.zero_le
abbrev alk:=@List.length_drop
abbrev alm:=@Nat.shiftLeft_eq
abbrev aln:=@List.length_filter_le
abbrev alo:=@List.getElem?_set
abbrev alp:=@BitVec.toNat_shiftLeft
abbrev alq:=@Nat.div_eq_of_lt
abbrev alr:=@List.mem_cons
abbrev als:=@List.take_zero
abbrev alt:=@Array.getElem?_setIfInBounds
abbrev alu:=@List.set_eq_take_append_cons_drop
abbrev alv:=@Nat.lt_of_lt_of_le
abbrev alw:=@List.mem_of_mem_drop
abbrev alx:=@Bool.true_and
abbrev aly:=@Nat.lt_trichotomy
abbrev alz:=@Array.getElem?_eq_getElem
abbrev alA:=@List.map_nil
abbrev alB:=@List.eq_of_mem_replicate
abbrev alC:=@BitVec.toNat_udiv
abbrev alD:=@List.map_congr_left
abbrev alE:=@Array.getElem?_append_left
abbrev alF:=@Int.fdiv_eq_ediv_of_nonneg
abbrev alG:=@Nat.min_eq_right
abbrev alH:=@List.drop_zero
abbrev alI:=@List.mapM_cons
abbrev alJ:=@Bool.false_and
abbrev alK:=@List.filter_append
abbrev alL:=@List.getElem?_zip_eq_some
abbrev alM:=@Nat.mul_one
abbrev alN:=@List.map_map
abbrev alO:=@Int.natCast_pow
abbrev alP:=@Bool.and_self
abbrev alQ:=@List.mem_map_of_mem
abbrev alR:=@List.drop_of_length_le
abbrev alS:=@List.getElem?_concat_length
abbrev alT:=@Array.getElem?_toList
abbrev alU:=@Nat.le_of_ble_eq_true
abbrev alV:=@Option.pure_def
abbrev alW:=@Nat.add_assoc
abbrev alX:=@Bool.not_eq_true'
abbrev alY:=@Bool.eq_false_iff
abbrev alZ:=@List.getElem?_of_mem
abbrev al0:=@Nat.pow_add
abbrev al1:=@Option.bind_some
abbrev al2:=@List.take_append
abbrev al3:=@BitVec.toNat_mul
abbrev al4:=@List.any_eq_true
abbrev al5:=@Array.length_toList
abbrev al6:=@Nat.exists_eq_add_of_le
abbrev al7:=@List.sum_cons
abbrev al8:=@Bool.or_eq_true
abbrev al9:=@List.set_cons_zero
abbrev ama:=@Int.natCast_nonneg
abbrev amb:=@BitVec.toNat_ofInt
abbrev amc:=@Nat.mod_lt
abbrev amd:=@List.range_succ
abbrev ame:=@Array.getElem?_eq_none
abbrev amf:=@List.count_append
abbrev amg:=@List.pairwise_map
abbrev amh:=@Nat.zero_mul
abbrev ami:=@List.drop_take
abbrev amj:=@Nat.sub_self
abbrev amk:=@List.take_take
abbrev aml:=@Array.getElem?_append_right
abbrev amm:=@Nat.pow_le_pow_right
abbrev amn:=@Bool.not_eq_true
abbrev amo:=@List.count_singleton
abbrev amp:=@List.map_eq_nil_iff
abbrev amq:=@List.takeWhile_cons
abbrev amr:=@List.getElem?_eq_none_iff
abbrev ams:=@List.pairwise_iff_getElem
abbrev amt:=@Bool.eq_iff_iff
abbrev amu:=@List.mem_or_eq_of_mem_set
abbrev amv:=@Option.isSome_none
abbrev amw:=@Nat.add_zero
abbrev amx:=@Array.getElem?_map
abbrev amy:=@BitVec.allOnes_xor
abbrev amz:=@List.map_replicate
abbrev amA:=@List.drop_drop
abbrev amB:=@List.foldl_append
abbrev amC:=@Nat.mul_left_comm
abbrev amD:=@Nat.mul_mod_right
abbrev amE:=@Nat.mul_mod
abbrev amF:=@List.map_take
abbrev amG:=@Nat.mul_mod_left
abbrev amH:=@Int.natCast_ediv
abbrev amI:=@BitVec.toNat_and
abbrev amJ:=@List.find?_cons
abbrev amK:=@List.mem_cons_of_mem
abbrev amL:=@Nat.sub_zero
abbrev amM:=@Nat.and_two_pow_sub_one_eq_mod
abbrev amN:=@List.pairwise_append
abbrev amO:=@Bool.or_eq_false_iff
abbrev amP:=@Nat.shiftLeft_add_eq_or_of_lt
abbrev amQ:=@List.flatMap_append
abbrev amR:=@Bool.not_false
abbrev amS:=@Nat.pow_mod
abbrev amT:=@Array.append_assoc
abbrev amU:=@Nat.eq_or_lt_of_le
abbrev amV:=@List.mem_cons_self
abbrev amW:=@List.set_cons_succ
abbrev amX:=@Bool.true_eq_false
abbrev amY:=@BitVec.ofNat_toNat
abbrev amZ:=@List.pairwise_cons
abbrev am0:=@List.take_sublist
abbrev am1:=@List.mem_of_find?_eq_some
abbrev am2:=@Option.isNone_iff_eq_none
abbrev am3:=@Nat.beq_refl
abbrev am4:=@Nat.add_comm
abbrev am5:=@Option.isSome_iff_exists
abbrev am6:=@List.isEmpty_iff
abbrev am7:=@Nat.mul_comm
abbrev am8:=@BitVec.toNat_add
abbrev am9:=@BitVec.toNat_not
abbrev ana:=@List.find?_range_eq_some
abbrev anb:=@List.nodup_range
abbrev anc:=@Nat.le_of_not_lt
abbrev ane:=@List.getElem?_replicate
abbrev anf:=@List.pairwise_singleton
abbrev ang:=@List.foldl_cons
abbrev anh:=@Nat.div_le_self
abbrev ani:=@List.nodup_cons
abbrev anj:=@List.length_zip
abbrev ank:=@Nat.blt_eq
abbrev anl:=@List.all_cons
open Go
inductive U where
 | bool (b:Bool)
 | int (k:IntKind) (n:Int)
 | str (s:List UInt8)
 | jm | aK | ia | jk | jl
 | aH (cs:List U)
 | bu (vs:List U)
 | ptr (b off sz:Nat)
 | cg (cs:List U) (off:Nat)
 | ar (z b off len cap sz:Nat)
 | b1 (z:Nat) (es:List (List U))
 | fn (f:FuncId) (first gq:List U)
 | mp (b:Nat)
 | it (b:Nat)
 | hi (t:TypeId) (v:U)
 | mF (l:Nat)
 | bad
 deriving Inhabited
inductive aU where
 | none
 | dead
 | cells (sz:Nat) (cs:List U)
 | map (es:List (U × U × Nat)) (afk:Nat)
 | iter (s:List UInt8) (pos:Nat)
 deriving Inhabited
inductive cJ (α:Type) where
 | nil
 | node (l:cJ α) (v:Option α) (r:cJ α)
def cJ.get {α:Type}:cJ α->Nat->Option α
 | .nil,_=>none
 | .node l v r,n=>match Nat.beq n 0 with
  | true=>v
  | false=>match Nat.beq (n % 2) 1 with
   | true=>l.get (n / 2)
   | false=>r.get (n / 2 - 1)
def cJ.jS {α:Type}:Nat->cJ α->Nat->α->cJ α
 | 0,t,_,_=>t
 | k+1,.nil,n,x=>match Nat.beq n 0 with
  | true=>.node .nil (some x) .nil
  | false=>match Nat.beq (n % 2) 1 with
   | true=>.node (cJ.jS k .nil (n / 2) x) none .nil
   | false=>.node .nil none (cJ.jS k .nil (n / 2 - 1) x)
 | k+1,.node l v r,n,x=>match Nat.beq n 0 with
  | true=>.node l (some x) r
  | false=>match Nat.beq (n % 2) 1 with
   | true=>.node (cJ.jS k l (n / 2) x) v r
   | false=>.node l v (cJ.jS k r (n / 2 - 1) x)
def cJ.set {α:Type} (t:cJ α) (n:Nat) (x:α) :cJ α:=t.jS (n+1) n x
theorem jN {a b:Nat} (h:¬ a=b) :Nat.beq a b=false:=by
 cases ag:Nat.beq a b with
 | false=>rfl
 | true=>exact absurd (alh ag) h
theorem sd {a b:Nat} (h:a=b) :Nat.beq a b=true:=by subst h; exact am3 a
theorem cJ.zu {α:Type}:∀ (k:Nat) (t:cJ α) (n:Nat) (x:α) (m:Nat),n<k->(t.jS k n x).get m=if m=n then some x else t.get m
 | 0,_,_,_,_,h=>by omega
 | k+1,.nil,n,x,m,h=>by
  unfold cJ.jS;by_cases aF:n=0
  ·subst aF;simp only;unfold cJ.get;by_cases hm:m=0
   ·subst hm; simp
   ·have:Nat.beq m 0=false:=jN hm;simp only[this,if_neg hm];split<;>rfl
  ·have ag:Nat.beq n 0=false:=jN aF;simp only[ag];by_cases ad:n % 2=1
   ·have hF:Nat.beq (n % 2) 1=true:=sd ad;simp only[hF];unfold cJ.get;by_cases hm:m=0
    ·subst hm; simp; omega
    ·have:Nat.beq m 0=false:=jN hm;simp only[this];by_cases hh:m % 2=1
     ·have:Nat.beq (m % 2) 1=true:=sd hh;simp only[this];rw[cJ.zu k .nil (n / 2) x (m / 2) (by omega)];by_cases ao:m=n
      ·subst ao; simp
      ·rw[if_neg ao,if_neg (by omega)]; rfl
     ·have:Nat.beq (m % 2) 1=false:=jN hh;simp only[this];rw[if_neg (by intro aR; subst aR; exact hh ad)];rfl
   ·have hF:Nat.beq (n % 2) 1=false:=jN ad;simp only[hF];unfold cJ.get;by_cases hm:m=0
    ·subst hm; simp; omega
    ·have:Nat.beq m 0=false:=jN hm;simp only[this];by_cases hh:m % 2=1
     ·have:Nat.beq (m % 2) 1=true:=sd hh;simp only[this];rw[if_neg (by intro aR; subst aR; exact ad hh)];rfl
     ·have:Nat.beq (m % 2) 1=false:=jN hh;simp only[this];rw[cJ.zu k .nil (n / 2 - 1) x (m / 2 - 1) (by omega)];by_cases ao:m=n
      ·subst ao; simp
      ·rw[if_neg ao,if_neg (by omega)]; rfl
 | k+1,.node l v r,n,x,m,h=>by
  unfold cJ.jS;by_cases aF:n=0
  ·subst aF;simp only;unfold cJ.get;by_cases hm:m=0
   ·subst hm; simp
   ·have:Nat.beq m 0=false:=jN hm;simp only[this,if_neg hm]
  ·have ag:Nat.beq n 0=false:=jN aF;simp only[ag];by_cases ad:n % 2=1
   ·have hF:Nat.beq (n % 2) 1=true:=sd ad;simp only[hF];unfold cJ.get;by_cases hm:m=0
    ·subst hm; simp; omega
    ·have:Nat.beq m 0=false:=jN hm;simp only[this];by_cases hh:m % 2=1
     ·have:Nat.beq (m % 2) 1=true:=sd hh;simp only[this];rw[cJ.zu k l (n / 2) x (m / 2) (by omega)];by_cases ao:m=n
      ·subst ao; simp
      ·rw[if_neg ao,if_neg (by omega)]
     ·have:Nat.beq (m % 2) 1=false:=jN hh;simp only[this];rw[if_neg (by intro aR; subst aR; exact hh ad)]
   ·have hF:Nat.beq (n % 2) 1=false:=jN ad;simp only[hF];unfold cJ.get;by_cases hm:m=0
    ·subst hm; simp; omega
    ·have:Nat.beq m 0=false:=jN hm;simp only[this];by_cases hh:m % 2=1
     ·have:Nat.beq (m % 2) 1=true:=sd hh;simp only[this];rw[if_neg (by intro aR; subst aR; exact ad hh)]
     ·have:Nat.beq (m % 2) 1=false:=jN hh;simp only[this];rw[cJ.zu k r (n / 2 - 1) x (m / 2 - 1) (by omega)];by_cases ao:m=n
      ·subst ao; simp
      ·rw[if_neg ao,if_neg (by omega)]
theorem cJ.FY {α:Type} (t:cJ α) (n:Nat) (x:α) (m:Nat) :(t.set n x).get m=if m=n then some x else t.get m:=cJ.zu _ _ _ _ _ (by omega)
structure aW where
 n:Nat
 t:cJ aU
def aW.f (h:aW) (b:Nat) :aU:=match h.t.get b with | some c=>c | none=>.none
def aW.empty:aW:=⟨0,.nil⟩
def bH {α:Type} (f:Nat->α) (i:Nat) (v:α) :Nat->α:=fun j=>if j=i then v else f j
def aW.push (h:aW) (c:aU) :aW:=⟨h.n+1,h.t.set h.n c⟩
def aW.set (h:aW) (b:Nat) (c:aU) :aW:=⟨h.n,h.t.set b c⟩
theorem fv (h:aW) (c:aU) :(h.push c).n=h.n+1:=rfl
theorem fx (h:aW) (b:Nat) (c:aU) :(h.set b c).n=h.n:=rfl
theorem eH (h:aW) (c:aU) :(h.push c).f=bH h.f h.n c:=by
 funext b;simp only[aW.f,aW.push,bH,cJ.FY];by_cases ag:b=h.n
 ·simp[ag]
 ·simp[ag]
theorem eI (h:aW) (b:Nat) (c:aU) :(h.set b c).f=bH h.f b c:=by
 funext bc;simp only[aW.f,aW.set,bH,cJ.FY];by_cases ag:bc=b
 ·simp[ag]
 ·simp[ag]
theorem B8 (b:Nat) :aW.empty.f b=.none:=rfl
@[simp] theorem nr {α:Type} (f:Nat->α) (i:Nat) (v:α) :bH f i v i=v:=by simp[bH]
theorem b8 {α:Type} (f:Nat->α) (i j:Nat) (v:α) (h:j≠i) :bH f i v j=f j:=by simp[bH,h]
def U.one:U->Bool
 | .aH _ | .bu _ | .bad=>false
 | _=>true
def U.cells:U->Option (List U)
 | .aH cs=>some cs
 | .bu _ | .bad=>none
 | v=>some [v]
def nH:Value->U
 | .bool b=>.bool b
 | .int k n=>.int k n
 | .string s=>.str s.data.toList
 | .pointer a=>match a with | none=>.jm | some _=>.bad
 | .slice a l c=>match a,l,c with | none,0,0=>.aK | _,_,_=>.bad
 | .map r=>match r with | none=>.ia | some _=>.bad
 | .nilFunc=>.jk
 | .nilIface=>.jl
 | .func fn first gq=>match fn,first.toList,gq.toList with | .func f,[],[]=>.fn f [] [] | _,_,_=>.bad
 | _=>.bad
def tW:Value->U
 | .agg cs=>if cs.toList.all Value.oneCell' then .aH (cs.toList.map nH) else .bad
 | .tuple vs=>.bu (vs.toList.map nH)
 | v=>nH v
def dv (G:Nat->U) (ae:Nat->U) :Operand->U
 | .tmp t=>ae t
 | .const v=>tW v
 | .func f=>.fn f [] []
 | .global g=>G g
def dZ (P:Program) (t:TypeId) :Option Bool:=(P.underlying t).map fun d=>match d with | .struct _ | .array _ _=>true | _=>false
def cC (P:Program) (t:TypeId) :Option Nat:=(P.info? t).map (·.size)
def lV (P:Program) (t:TypeId) :Option Nat:=(P.info? t).map (·.bytes)
def ho (P:Program) (t:TypeId) :Option (List U) :=((P.info? t).bind (·.zero)).bind fun v=>if v.cells.toList.all Value.oneCell' then some (v.cells.toList.map nH) else none
def jc (P:Program) (t:TypeId) :Option TypeId:=match P.underlying t with | some (.slice e)=>some e | _=>none
def hz (P:Program) (t:TypeId) (cs:List U) (off:Nat) :Option U:=
 match dZ P t,cC P t with
 | some true,some n=>if off+n<=cs.length then some (.aH ((cs.drop off).take n)) else none
 | some false,_=>cs[off]?
 | _,_=>none
def reach (h:aW) :U->Option (List U × Nat)
 | .ptr b off sz=>match h.f b with
  | .cells n cs=>if n=sz then some (cs,off) else none
  | _=>none
 | .cg cs off=>some (cs,off)
 | _=>none
def qT (P:Program) (h:aW) (t:TypeId) (p:U) :Option U:=
 match reach h p with
 | some (cs,off)=>hz P t cs off
 | none=>none
def bi (cs:List U) (off:Nat) (vs:List U) :List U:=cs.take off++vs++cs.drop (off+vs.length)
def yp (P:Program) (h:aW) (t:TypeId) (p v:U) :Option aW:=
 match p,v.cells,cC P t with
 | .ptr b off sz,some vs,some n=>match h.f b with
  | .cells m cs=>if m=sz/\vs.length=n/\off+n<=m then some (h.set b (.cells m (bi cs off vs))) else none
  | _=>none
 | _,_,_=>none
def asInt:U->Option Int
 | .int _ n=>some n
 | _=>none
def vl (P:Program) (s:TypeId) (f:Nat) :Option Field:=match P.underlying s with | some (.struct fs)=>fs[f]? | _=>none
def mO:U->Nat->Option U
 | .ptr b off sz,k=>some (.ptr b (off+k) sz)
 | .cg cs off,k=>some (.cg cs (off+k))
 | _,_=>none
def Cd (P:Program) (s:TypeId) (x:U) (f:Nat) :Option U:=
 match vl P s f with
 | some fd=>match cC P fd.type with
  | some (_+1)=>mO x fd.offset
  | _=>none
 | none=>none
def Au (P:Program) (t:TypeId) (x ew:U) :Option U:=
 match P.underlying t,asInt ew with
 | some (.array len e),some i=>match cC P e with
  | some z=>if 0<=i/\i<len then mO x (i.toNat*z) else none
  | none=>none
 | some (.slice e),some i=>match cC P e,x with
  | some z,.ar dG b off len _ sz=>if z=dG/\0<=i/\i<len then some (.ptr b (off+i.toNat*z) sz) else none
  | some z,.b1 dG es=>if z=dG/\0<=i then (es[i.toNat]?).map fun cs=>.cg cs 0 else none
  | _,_=>none
 | _,_=>none
def ht (ko:Nat->Option (Nat × Nat)) (cells:List U) :List (Nat × U)->Option (List U)
 | []=>some cells
 | (i,v) ::rest=>match ko i,v.cells with
  | some (off,size),some vs=>if vs.length=size/\off+size<=cells.length then ht ko (bi cells off vs) rest else none
  | _,_=>none
def A1 (P:Program) (fs:Array Field) (i:Nat) :Option (Nat × Nat) :=(fs[i]?).bind fun f=>(cC P f.type).map fun n=>(f.offset,n)
def yT (P:Program) (t:TypeId) (parts:List (Nat × U)) :Option U:=
 match ho P t,P.underlying t with
 | some zero,some (.struct fs)=>if !(fs.toList.all fun f=>(cC P f.type).isSome) then none else (ht (A1 P fs) zero parts).map .aH
 | some zero,some (.array _ e)=>match cC P e with
  | some n=>(ht (fun i=>some (i*n,n)) zero parts).map .aH
  | none=>none
 | _,_=>none
def dz (zero:List U) :Nat->List U
 | 0=>[]
 | n+1=>zero++dz zero n
def BT (P:Program) (h:aW) (t:TypeId) (len:Nat) (parts:List (Nat × U)) :Option (U × aW) :=
 match jc P t with
 | some e=>match cC P e,ho P e with
  | some z,some zero=>if zero.length=z/\len*z<=16777216 then
    (ht (fun i=>some (i*z,z)) (dz zero len) parts).map fun cs=>(.ar z h.n 0 len len (len*z),h.push (.cells (len*z) cs))
   else none
  | _,_=>none
 | none=>none
def cj (op:BinOp) (k:IntKind) (a:Int) (k' : IntKind) (b:Int) :Option U:=
 match op with
 | .shl=>if b<0 then none else some (.int k (k.wrap (a*2 ^ min b.toNat k.bits)))
 | .shr=>if b<0 then none else some (.int k (a.fdiv (2 ^ min b.toNat k.bits)))
 | .add=>if k=k' then some (.int k (k.wrap (a+b))) else none
 | .sub=>if k=k' then some (.int k (k.wrap (a - b))) else none
 | .mul=>if k=k' then some (.int k (k.wrap (a*b))) else none
 | .quo=>if k=k'/\b≠0 then some (.int k (k.wrap (a.tdiv b))) else none
 | .rem=>if k=k'/\b≠0 then some (.int k (a.tmod b)) else none
 | .and=>if k=k' then some (.int k (k.wrap (BitVec.ofInt k.bits a &&& BitVec.ofInt k.bits b).toNat)) else none
 | .or=>if k=k' then some (.int k (k.wrap (BitVec.ofInt k.bits a ||| BitVec.ofInt k.bits b).toNat)) else none
 | .xor=>if k=k' then some (.int k (k.wrap (BitVec.ofInt k.bits a ^^^ BitVec.ofInt k.bits b).toNat)) else none
 | .andNot=>if k=k' then some (.int k (k.wrap (BitVec.ofInt k.bits a &&& ~~~BitVec.ofInt k.bits b).toNat)) else none
 | .eql=>if k=k' then some (.bool (a == b)) else none
 | .neq=>if k=k' then some (.bool (a != b)) else none
 | .lss=>if k=k' then some (.bool (decide (a<b))) else none
 | .leq=>if k=k' then some (.bool (decide (a<=b))) else none
 | .gtr=>if k=k' then some (.bool (decide (a > b))) else none
 | .geq=>if k=k' then some (.bool (decide (a ≥ b))) else none
def sM (op:BinOp) (a b:List UInt8) :Option U:=
 match op with
 | .eql=>some (.bool (a == b))
 | .neq=>some (.bool (!(a == b)))
 | .lss=>some (.bool (Op.bytesLess a b))
 | .leq=>some (.bool (Op.bytesLess a b||a == b))
 | .gtr=>some (.bool (!(Op.bytesLess a b||a == b)))
 | .geq=>some (.bool (!Op.bytesLess a b))
 | .add=>if a.length+b.length<=9223372036854775807 then some (.str (a++b)) else none
 | _=>none
def ek (P:Program) :Nat->TypeId->U->U->Option Bool
 | 0,_,_,_=>none
 | d+1,t,x,y=>
  match P.underlying t,x,y with
  | some .bool,.bool a,.bool b=>some (a == b)
  | some (.int _),.int k a,.int k' b=>if k=k' then some (a == b) else none
  | some .string,.str a,.str b=>some (a == b)
  | some (.struct fs),.aH xs,.aH bL=>if P.stoodInHeld t then none else eqFields P (ek P d) xs bL fs.toList
  | some (.array n e),.aH xs,.aH bL=>match cC P e with
   | some z=>qq P (ek P d) e z xs bL n 0
   | none=>none
  | some (.slice _),.aK,.aK=>some true
  | some (.slice _),.aK,.ar .. | some (.slice _),.aK,.b1 .. | some (.slice _),.ar ..,.aK | some (.slice _),.b1 ..,.aK=>some false
  | _,_,_=>none
where
 eqFields (P:Program) (eq:TypeId->U->U->Option Bool) (xs bL:List U) :List Field->Option Bool
  | []=>some true
  | f::fs=>if f.name= "_" then eqFields P eq xs bL fs else
   match hz P f.type xs f.offset,hz P f.type bL f.offset with
   | some a,some b=>match eq f.type a b with
    | some true=>eqFields P eq xs bL fs
    | some false=>some false
    | none=>none
   | _,_=>none
 qq (P:Program) (eq:TypeId->U->U->Option Bool) (e:TypeId) (z:Nat) (xs bL:List U) :Nat->Nat->Option Bool
  | 0,_=>some true
  | n+1,i=>match hz P e xs (i*z),hz P e bL (i*z) with
   | some a,some b=>match eq e a b with
    | some true=>qq P eq e z xs bL n (i+1)
    | some false=>some false
    | none=>none
   | _,_=>none
def vj (P:Program) (t:TypeId) :U->U->Bool
 | .aH _,.aH _=>!P.eqGuardType P.depth t
 | _,_=>true
def fT (P:Program) (op:BinOp) (t:TypeId) (x y:U) :Option U:=
 match x,y with
 | .int k a,.int k' b=>cj op k a k' b
 | .str a,.str b=>sM op a b
 | x,y=>match op with
  | .eql=>if vj P t x y then (ek P 10000 t x y).map .bool else none
  | .neq=>if vj P t x y then (ek P 10000 t x y).map fun b=>.bool (!b) else none
  | _=>none
def p4 (op:UnOp) (x:U) :Option U:=
 match op,x with
 | .not,.bool b=>some (.bool (!b))
 | .neg,.int k n=>some (.int k (k.wrap (0 - n)))
 | .xor,.int k n=>some (.int k (k.wrap (BitVec.ofInt k.bits (if k.signed then -1 else k.max) ^^^ BitVec.ofInt k.bits n).toNat))
 | _,_=>none
def nm (z:Nat) :Nat->List U->List (List U)
 | 0,_=>[]
 | n+1,cs=>cs.take z::nm z n (cs.drop z)
def iK (b:UInt8) :U:=.int .u8 b.toNat
def contents (h:aW) (z:Nat) :U->Option (List U × Nat)
 | .aK=>some ([],0)
 | .b1 dG es=>if z=dG then some (es.flatten,es.length) else none
 | .ar dG b off len _ sz=>match h.f b with
  | .cells n cs=>if n=sz/\z=dG then some ((cs.drop off).take (len*z),len) else none
  | _=>none
 | .str s=>if z=1 then some (s.map iK,s.length) else none
 | _=>none
def cF:Nat:=140737488355328
def yE (P:Program) (t:TypeId) :Option Nat:=((P.info? t).bind (·.zero)).map (·.cells.size)
def wC (P:Program) (h:aW) (e:TypeId) (z by_:Nat) (s:U) (xs:List U) (n:Nat) :Option (U × aW) :=
 if n=0 then (match s with | .aK | .b1 .. | .ar ..=>some (s,h) | _=>none)
 else if z=0\/by_=0\/yE P e≠some z then none else match s with
  | .aK=>if n*by_<=cF then some (.ar z h.n 0 n n (n*z),h.push (.cells (n*z) xs)) else none
  | .ar dG b off len cap sz=>match h.f b with
   | .cells m cs=>
    if m=sz/\z=dG/\(len+n)*by_<=cF then
     if len+n<=cap then some (.ar z b off (len+n) cap sz,h.set b (.cells m (bi cs (off+len*z) xs)))
     else if off+cap*z<sz then some (.ar z h.n 0 (len+n) (len+n) ((len+n)*z),h.push (.cells ((len+n)*z) ((cs.drop off).take (len*z)++xs)))
     else if off=0 then some (.ar z b 0 (len+n) (len+n) ((len+n)*z),h.set b (.cells ((len+n)*z) (cs.take (len*z)++xs)))
     else some (.ar z h.n 0 (len+n) (len+n) ((len+n)*z),(h.set b .dead).push (.cells ((len+n)*z) ((cs.drop off).take (len*z)++xs)))
    else none
   | _=>none
  | _=>none
def wB (P:Program) (h:aW) (t:TypeId) (s x:U) :Option (U × aW) :=
 match jc P t with
 | none=>none
 | some e=>match cC P e,lV P e with
  | some z,some by_=>match contents h z x with
   | none=>none
   | some (xs,n)=>wC P h e z by_ s xs n
  | _,_=>none
def jr (x:U) (y:Nat) :Option Nat:=match x with | .int _ i=>if 0<=i/\i<=y then some i.toNat else none | _=>none
def gp (len cap:Nat) (cE aB cB:Option U) :Option (Nat × Nat × Nat) :=
 match (match cB with | some v=>jr v cap | none=>some cap) with
 | none=>none
 | some m=>match (match aB,cB with | some v,_=>jr v m | none,none=>some len | none,some _=>none) with
  | none=>none
  | some h=>match (match cE with | some v=>jr v h | none=>some 0) with
   | none=>none
   | some l=>some (l,h,m)
def Bf (P:Program) (t:TypeId) (x:U) (cE aB cB:Option U) :Option U:=
 match P.underlying t,x with
 | some (.array n e),x=>match cC P e,gp n n cE aB cB with
  | some z,some (l,aR,m)=>match x with
   | .ptr b off sz=>if off+m*z<=sz then (if m=l then some (.b1 z []) else some (.ar z b (off+l*z) (aR - l) (m - l) sz)) else none
   | .cg cs off=>if off+n*z<=cs.length then some (.b1 z (nm z (aR - l) (cs.drop (off+l*z)))) else none
   | _=>none
  | _,_=>none
 | some (.slice e),x=>match cC P e,x with
  | some z,.ar dG b off len cap sz=>if z=dG then (gp len cap cE aB cB).map fun (l,aR,m)=>if m=l then .ar z b (off+l*z) 0 0 sz else .ar z b (off+l*z) (aR - l) (m - l) sz else none
  | some z,.b1 dG es=>if z=dG then (gp es.length es.length cE aB cB).map fun (l,aR,_)=>.b1 z ((es.drop l).take (aR - l)) else none
  | some _,.aK=>(gp 0 0 cE aB cB).map fun _=>.aK
  | _,_=>none
 | some .string,.str s=>match cB with
  | none=>(gp s.length s.length cE aB none).map fun (l,aR,_)=>.str ((s.drop l).take (aR - l))
  | some _=>none
 | _,_=>none
def v5 (P:Program) (t:TypeId) (x:U) :Option U:=
 match P.underlying t,x with
 | some .string,.str s=>some (.int .i64 s.length)
 | some (.array n _),_=>some (.int .i64 n)
 | some (.slice _),.aK=>some (.int .i64 0)
 | some (.slice _),.ar _ _ _ len _ _=>some (.int .i64 len)
 | some (.slice _),.b1 _ es=>some (.int .i64 es.length)
 | some (.map _ _),.ia=>some (.int .i64 0)
 | _,_=>none
def DL (P:Program) (h:aW) (t:TypeId) (l c:U) :Option (U × aW) :=
 match jc P t,asInt l,asInt c with
 | some e,some l,some c=>match cC P e,lV P e,ho P e with
  | some z,some by_,some zero=>
   if zero.length=z/\0<=l/\l<=c/\c<9223372036854775808/\by_*c<=cF then
    some (.ar z h.n 0 l.toNat c.toNat (c.toNat*z),h.push (.cells (c.toNat*z) (dz zero c.toNat)))
   else none
  | _,_,_=>none
 | _,_,_=>none
def wT (P:Program) (h:aW) (t:TypeId) (d x:U) :Option (U × aW) :=
 match jc P t with
 | none=>none
 | some e=>match cC P e with
  | none=>none
  | some z=>match contents h z x with
   | none=>none
   | some (xs,n)=>match d with
    | .aK=>some (.int .i64 0,h)
    | .ar dG b off len _ sz=>match h.f b with
     | .cells m cs=>if m=sz/\z=dG then some (.int .i64 ((min n len:Nat) :Int),h.set b (.cells m (bi cs off (xs.take (min n len*z))))) else none
     | _=>none
    | _=>none
def mN:List U->Option (List UInt8)
 | []=>some []
 | .int .u8 n::r=>(mN r).map (UInt8.ofNat n.toNat::·)
 | _::_=>none
def ve (P:Program) (h:aW) (src dst:TypeId) (x:U) :Option U:=
 match P.underlying src,P.underlying dst,x with
 | some _,some (.int k),.int _ n=>some (.int k (k.wrap n))
 | some _,some .string,.str s=>some (.str s)
 | some (.slice e),some .string,x=>match P.underlying e,x with
  | some (.int .u8),.aK=>some (.str [])
  | some (.int .u8),x=>match contents h 1 x,x with
   | some _,.str _=>none
   | some (cs,_),_=>(mN cs).map .str
   | none,_=>none
  | _,_=>none
 | _,_,_=>none
def wH (P:Program) (src dst:TypeId) (x:U) :Option U:=
 match P.underlying src,P.underlying dst,x with
 | some _,some (.slice e),.str s=>match P.underlying e with
  | some (.int .u8)=>some (.b1 1 (s.map fun b=>[iK b]))
  | _=>none
 | _,_,_=>none
def wL (P:Program) (t:TypeId) (x:U) :Option U:=
 match P.underlying t,x with
 | some (.array n _),_=>some (.int .i64 n)
 | some (.slice _),.aK=>some (.int .i64 0)
 | _,_=>none
def wN (P:Program) (h:aW) (t:TypeId) (x:U) :Option aW:=
 match P.underlying t,x with
 | some (.slice _),.aK=>some h
 | some (.slice _),.b1 _ []=>some h
 | some (.slice e),.ar z b off len _ sz=>if len=0 then some h else match ho P e,h.f b with
  | some zero,.cells m cs=>if m=sz/\zero.length=z then some (h.set b (.cells m (bi cs off (dz zero len)))) else none
  | _,_=>none
 | _,_=>none
def xW (P:Program) (t:TypeId) (x ew:U) :Option U:=
 match P.underlying t,x,asInt ew with
 | some (.array n e),.aH cs,some i=>match cC P e with
  | some z=>if 0<=i/\i<n then hz P e cs (i.toNat*z) else none
  | none=>none
 | some .string,.str s,some i=>if 0<=i then (s[i.toNat]?).map iK else none
 | _,_,_=>none
mutual
def U.beq:U->U->Bool
 | .bool a,y=>match y with | .bool b=>(match a,b with | true,true=>true | false,false=>true | _,_=>false) | _=>false
 | .int k n,y=>match y with | .int k' hX=>decide (k=k')&&decide (n=hX) | _=>false
 | .str a,y=>match y with | .str b=>decide (a=b) | _=>false
 | .jm,y=>match y with | .jm=>true | _=>false
 | .aK,y=>match y with | .aK=>true | _=>false
 | .ia,y=>match y with | .ia=>true | _=>false
 | .jk,y=>match y with | .jk=>true | _=>false
 | .jl,y=>match y with | .jl=>true | _=>false
 | .aH a,y=>match y with | .aH b=>e0 a b | _=>false
 | .bu a,y=>match y with | .bu b=>e0 a b | _=>false
 | .ptr a b c,y=>match y with | .ptr ey bc c'=>Nat.beq a ey&&Nat.beq b bc&&Nat.beq c c' | _=>false
 | .cg a n,y=>match y with | .cg ey hX=>e0 a ey&&Nat.beq n hX | _=>false
 | .ar a b c d e f,y=>match y with | .ar ey bc c' Lg e6 Uw=>Nat.beq a ey&&Nat.beq b bc&&Nat.beq c c'&&Nat.beq d Lg&&Nat.beq e e6&&Nat.beq f Uw | _=>false
 | .b1 a b,y=>match y with | .b1 ey bc=>Nat.beq a ey&&yR b bc | _=>false
 | .fn a b c,y=>match y with | .fn ey bc c'=>Nat.beq a ey&&e0 b bc&&e0 c c' | _=>false
 | .mp a,y=>match y with | .mp ey=>Nat.beq a ey | _=>false
 | .it a,y=>match y with | .it ey=>Nat.beq a ey | _=>false
 | .hi a b,y=>match y with | .hi ey bc=>Nat.beq a ey&&U.beq b bc | _=>false
 | .mF a,y=>match y with | .mF ey=>Nat.beq a ey | _=>false
 | .bad,y=>match y with | .bad=>true | _=>false
def e0:List U->List U->Bool
 | [],y=>match y with | []=>true | _=>false
 | a::as,y=>match y with | b::bs=>U.beq a b&&e0 as bs | _=>false
def yR:List (List U)->List (List U)->Bool
 | [],y=>match y with | []=>true | _=>false
 | a::as,y=>match y with | b::bs=>e0 a b&&yR as bs | _=>false
end
theorem jM {a b:Nat} (h:Nat.beq a b=true) :a=b:=Nat.eq_of_beq_eq_true h
mutual
theorem U.beq_eq:∀ {a b:U},U.beq a b=true->a=b
 | .bool a,b,h=>by cases b<;>simp only[U.beq] at h<;>first | cases h | (rename_i b; cases a<;>cases b<;>first | rfl | cases h)
 | .int k n,b,h=>by cases b<;>simp only[U.beq] at h<;>first | cases h | (simp only[Bool.and_eq_true,decide_eq_true_eq] at h; rw[h.1,h.2])
 | .str a,b,h=>by cases b<;>simp only[U.beq] at h<;>first | cases h | (simp only[decide_eq_true_eq] at h; rw[h])
 | .jm,b,h=>by cases b<;>simp only[U.beq] at h<;>first | rfl | cases h
 | .aK,b,h=>by cases b<;>simp only[U.beq] at h<;>first | rfl | cases h
 | .ia,b,h=>by cases b<;>simp only[U.beq] at h<;>first | rfl | cases h
 | .jk,b,h=>by cases b<;>simp only[U.beq] at h<;>first | rfl | cases h
 | .jl,b,h=>by cases b<;>simp only[U.beq] at h<;>first | rfl | cases h
 | .bad,b,h=>by cases b<;>simp only[U.beq] at h<;>first | rfl | cases h
 | .aH a,b,h=>by cases b<;>simp only[U.beq] at h<;>first | cases h | rw[sK h]
 | .bu a,b,h=>by cases b<;>simp only[U.beq] at h<;>first | cases h | rw[sK h]
 | .ptr ..,b,h=>by cases b<;>simp only[U.beq] at h<;>first | cases h | (simp only[Bool.and_eq_true] at h; rw[jM h.1.1,jM h.1.2,jM h.2])
 | .cg a n,b,h=>by cases b<;>simp only[U.beq] at h<;>first | cases h | (simp only[Bool.and_eq_true] at h; rw[sK h.1,jM h.2])
 | .ar ..,b,h=>by cases b<;>simp only[U.beq] at h<;>first | cases h | (simp only[Bool.and_eq_true] at h; rw[jM h.1.1.1.1.1,jM h.1.1.1.1.2,jM h.1.1.1.2,jM h.1.1.2,jM h.1.2,jM h.2])
 | .b1 a n,b,h=>by cases b<;>simp only[U.beq] at h<;>first | cases h | (simp only[Bool.and_eq_true] at h; rw[jM h.1,KF h.2])
 | .fn a n m,b,h=>by cases b<;>simp only[U.beq] at h<;>first | cases h | (simp only[Bool.and_eq_true] at h; rw[jM h.1.1,sK h.1.2,sK h.2])
 | .mp a,b,h=>by cases b<;>simp only[U.beq] at h<;>first | cases h | rw[jM h]
 | .it a,b,h=>by cases b<;>simp only[U.beq] at h<;>first | cases h | rw[jM h]
 | .mF a,b,h=>by cases b<;>simp only[U.beq] at h<;>first | cases h | rw[jM h]
 | .hi a n,b,h=>by cases b<;>simp only[U.beq] at h<;>first | cases h | (simp only[Bool.and_eq_true] at h; rw[jM h.1,U.beq_eq h.2])
theorem sK:∀ {a b:List U},e0 a b=true->a=b
 | [],b,h=>by cases b<;>simp only[e0] at h<;>first | rfl | cases h
 | x::a,b,h=>by cases b<;>simp only[e0] at h<;>first | cases h | (simp only[Bool.and_eq_true] at h; rw[U.beq_eq h.1,sK h.2])
theorem KF:∀ {a b:List (List U)},yR a b=true->a=b
 | [],b,h=>by cases b<;>simp only[yR] at h<;>first | rfl | cases h
 | x::a,b,h=>by cases b<;>simp only[yR] at h<;>first | cases h | (simp only[Bool.and_eq_true] at h; rw[sK h.1,KF h.2])
end
def ua:U->Bool | .int .. | .str _ | .bool _=>true | _=>false
def r5 (P:Program) :Nat->TypeId->Bool
 | 0,_=>false
 | d+1,t=>match P.underlying t,cC P t with
  | some (.int _),_=>true
  | some .string,_=>true
  | some .bool,_=>true
  | some (.array n e),some m=>r5 P d e&&(match cC P e,dZ P e with | some z,some _=>Nat.ble (n*z) m&&Nat.ble 1 z | _,_=>false)
  | some (.struct fs),some m=>fs.toList.all fun f=>r5 P d f.type&&(match cC P f.type,dZ P f.type with | some z,some _=>Nat.ble (f.offset+z) m&&Nat.ble 1 z | _,_=>false)
  | _,_=>false
def ml (P:Program) (t:TypeId) (c:U) :Bool:=
 match c with
 | .aH cs=>r5 P 8 t&&(match dZ P t,cC P t with | some true,some m=>Nat.beq cs.length m | _,_=>false)&&cs.all ua
 | _=>false
def lr (P:Program) (c8:TypeId) (k:U) :List (U × U × Nat)->Nat->Option (Option (Nat × U))
 | [],_=>some none
 | (k',v,_) ::es,i=>match ml P c8 k' with
  | false=>none
  | true=>match ek P 10000 c8 k k' with
   | some true=>match U.beq k k' with | true=>some (some (i,v)) | false=>none
   | some false=>lr P c8 k es (i+1)
   | none=>none
def mapOf (h:aW) :U->Option (List (U × U × Nat))
 | .ia=>some []
 | .mp b=>match h.f b with | .map es _=>some es | _=>none
 | _=>none
def ww (P:Program) (t:TypeId) :Option U:=((P.info? t).bind (·.zero)).map tW
def DJ (P:Program) (h:aW) (t:TypeId) (m k:U) (ok:Bool) :Option U:=
 match P.underlying t,mapOf h m with
 | some (.map c8 lq),some es=>match ml P c8 k with
  | false=>none
  | true=>match lr P c8 k es 0 with
   | some (some (_,v))=>some (if ok then .bu [v,.bool true] else v)
   | some none=>(ww P lq).map fun z=>if ok then .bu [z,.bool false] else z
   | none=>none
 | _,_=>none
def v7 (P:Program) (h:aW) (t:TypeId) (m k v:U) :Option aW:=
 match P.underlying t,m with
 | some (.map c8 _),.mp b=>match h.f b with
  | .map es e5=>match ml P c8 k with
   | false=>none
   | true=>match lr P c8 k es 0 with
    | some (some (i,_))=>some (h.set b (.map (es.modify i fun e=>(k,v,e.2.2)) e5))
    | some none=>some (h.set b (.map (es++[(k,v,e5)]) (e5+1)))
    | none=>none
  | _=>none
 | _,_=>none
def v6 (P:Program) (h:aW) (t:TypeId) (x:U) :Option U:=
 match P.underlying t,x with
 | some (.map _ _),.mp b=>match h.f b with | .map es _=>some (.int .i64 es.length) | _=>none
 | _,_=>none
def Ee (P:Program) (h:aW) (t:TypeId) (x:U) :Option (U × aW) :=
 match P.underlying t,x with
 | some .string,.str s=>some (.it h.n,h.push (.iter s 0))
 | _,_=>none
def DS (h:aW) (x:U) :Option (U × aW) :=
 match x with
 | .it b=>match h.f b with
  | .iter s pos=>match Nat.blt pos s.length with
   | true=>some (.bu [.bool true,.int .i64 pos,.int .i32 (Utf8.decode ⟨s.toArray⟩ pos).1],h.set b (.iter s (pos+(Utf8.decode ⟨s.toArray⟩ pos).2)))
   | false=>some (.bu [.bool false],h)
  | _=>none
 | _=>none
def np:List UInt8->List UInt8->Int
 | [],[]=>0
 | [],_::_=>-1
 | _::_,[]=>1
 | a::as,b::bs=>if a=b then np as bs else if a<b then -1 else 1
def sQ (h:aW) (x:U) :Option (List UInt8) :=match x with
 | .str s=>some s
 | x=>match contents h 1 x with
  | some (cs,_)=>mN cs
  | none=>none
def y5 (h:aW) :List U->Option U
 | [x,y]=>match sQ h x,sQ h y with
  | some a,some b=>some (.int .i64 (np a b))
  | _,_=>none
 | _=>none
def Av (fn:Func) :Bool:=fn.body.isNone&&fn.name == "internal/bytealg.Compare"&&(fn.origin == ""||fn.origin == "internal/bytealg.Compare")
inductive n4 where
 | val (v:U) (h:aW)
 | call (f:FuncId) (args:List U) (h:aW)
def wa:U->U->Option U
 | .int k x,.int k' y=>if k=k' then some (.int k (if y<x then y else x)) else none
 | _,_=>none
def tP:U->U->Option U
 | .int k x,.int k' y=>if k=k' then some (.int k (if x<y then y else x)) else none
 | _,_=>none
def ie:U:=.bu []
def yQ (P:Program) (h:aW) (t:TypeId) (s x:U) :Option (U × aW) :=
 match jc P t,asInt x with
 | some e,some n=>match cC P e,lV P e,ho P e with
  | some z,some by_,some zero=>
   if zero.length=z/\0<=n/\n<9223372036854775808/\n.toNat*by_<=cF then wC P h e z by_ s (dz zero n.toNat) n.toNat else none
  | _,_,_=>none
 | _,_=>none
def ob (P:Program) (h:aW) (b:Builtin) (ts:List TypeId) (args:List U) :Option n4:=
 match b,ts,args with
 | .len,[t],[x]=>match v6 P h t x with
  | some v=>some (.val v h)
  | none=>(v5 P t x).map fun v=>.val v h
 | .append,[t,u],[s,x]=>match P.underlying u with
  | some (.int _)=>(yQ P h t s x).map fun (v,h')=>.val v h'
  | none=>none
  | _=>(wB P h t s x).map fun (v,h')=>.val v h'
 | .copy,[t,_],[d,x]=>(wT P h t d x).map fun (v,h')=>.val v h'
 | .cap,[t],[x]=>(wL P t x).map fun v=>.val v h
 | .clear,[t],[x]=>(wN P h t x).map fun h'=>.val (.bu []) h'
 | .min,_,[x,y]=>(wa x y).map fun v=>.val v h
 | .max,_,[x,y]=>(tP x y).map fun v=>.val v h
 | _,_,_=>none
def x2 (P:Program) (t:TypeId) (name:String) :Option FuncId:=
 match P.underlying t with
 | some (.pointer _) | none=>none
 | _=>match P.info? t with
  | some i=>match i.methods.find? (·.name == name) with
   | some m=>match m.path.toList,m.func with
    | [],some (f,false)=>some f
    | _,_=>none
   | none=>none
  | none=>none
def Bk (t:TypeId) (z:U) (ok:Bool) :U->Option U
 | .hi fQ v=>match Nat.beq fQ t with
  | true=>match ok with | true=>some (.bu [v,.bool true]) | false=>some v
  | false=>match ok with | true=>some (.bu [z,.bool false]) | false=>none
 | .jl=>match ok with | true=>some (.bu [z,.bool false]) | false=>none
 | _=>none
def EA (P:Program) (t:TypeId) :Option U:=match P.underlying t with
 | some (.interface _) | none=>none
 | _=>ww P t
def sR (P:Program) (h:aW) (aE:Operand->U) (c:Call) :Option n4:=
 match c.callee with
 | .builtin b=>ob P h b c.argTypes.toList (c.args.toList.map aE)
 | .value f=>match aE f with
  | .fn g first gq=>match P.funcs[g]? with
   | some fn=>if fn.body.isSome/\fn.name≠ "runtime.NumGoroutine" then some (.call g (first++c.args.toList.map aE++gq) h)
    else if Av fn then (y5 h (first++c.args.toList.map aE++gq)).map fun v=>.val v h else none
   | none=>none
  | _=>none
 | .invoke x name=>match aE x with
  | .hi t v=>match x2 P t name with
   | some g=>match P.funcs[g]? with
    | some fn=>if fn.body.isSome/\fn.name≠ "runtime.NumGoroutine" then some (.call g (v::c.args.toList.map aE) h) else none
    | none=>none
   | none=>none
  | _=>none
def cQ (P:Program) (h:aW) (aE:Operand->U) (op:Op) :Option n4:=
 let v (x:Option U) :Option n4:=x.map fun y=>.val y h
 let w (x:Option (U × aW)) :Option n4:=x.map fun y=>.val y.1 y.2
 match op with
 | .move x | .assign x=>some (.val (aE x) h)
 | .pick c a b=>match aE c with | .bool t=>some (.val (if t then aE a else aE b) h) | _=>none
 | .alloc t=>(ho P t).map fun z=>.val (.ptr h.n 0 z.length) (h.push (.cells z.length z))
 | .box _ x=>(aE x).cells.map fun cs=>.val (.ptr h.n 0 cs.length) (h.push (.cells cs.length cs))
 | .build t parts=>v (yT P t (parts.toList.map fun p=>(p.1,aE p.2)))
 | .buildSlice t len parts=>w (BT P h t len (parts.toList.map fun p=>(p.1,aE p.2)))
 | .load t a=>v (qT P h t (aE a))
 | .store t a x=>(yp P h t (aE a) (aE x)).map fun h'=>.val ie h'
 | .nilCheck x=>match aE x with | .ptr b o s=>some (.val (.ptr b o s) h) | .cg c o=>some (.val (.cg c o) h) | .fn f a b=>some (.val (.fn f a b) h) | _=>none
 | .binOp op t x y _=>v (fT P op t (aE x) (aE y))
 | .unOp op _ x=>v (p4 op (aE x))
 | .convert s d x=>match wH P s d (aE x) with
  | some c=>some (.val c h)
  | none=>v (ve P h s d (aE x))
 | .makeInterface t x=>match P.underlying t with
  | some (.interface _) | none=>none
  | _=>some (.val (.hi t (aE x)) h)
 | .makeFunc (.func f) first gq=>some (.val (.fn f (first.toList.map aE) (gq.toList.map aE)) h)
 | .makeSlice t l c=>w (DL P h t (aE l) (aE c))
 | .slice t x cE aB cB=>v (Bf P t (aE x) (cE.map aE) (aB.map aE) (cB.map aE))
 | .fieldAddr s x f=>v (Cd P s (aE x) f)
 | .field t x f=>match aE x,vl P t f with
  | .aH cs,some fd=>v (hz P fd.type cs fd.offset)
  | _,_=>none
 | .indexAddr t x i=>v (Au P t (aE x) (aE i))
 | .index t x i=>v (xW P t (aE x) (aE i))
 | .extract x i=>match aE x with | .bu vs=>v vs[i]? | _=>none
 | .call c=>sR P h aE c
 | .makeMap t r=>match P.underlying t,(match r with | none=>true | some x=>(asInt (aE x)).isSome) with | some (.map _ _),true=>some (.val (.mp h.n) (h.push (.map [] 0))) | _,_=>none
 | .lookup t m k ok=>v (DJ P h t (aE m) (aE k) ok)
 | .mapUpdate t m k x | .insert t m k x=>(v7 P h t (aE m) (aE k) (aE x)).map fun h'=>.val ie h'
 | .range t x=>w (Ee P h t (aE x))
 | .next it true=>w (DS h (aE it))
 | .typeAssert x _ t ok=>match EA P t with | some z=>v (Bk t z ok (aE x)) | none=>none
 | _=>none
structure M where
 r:Nat
 s:Nat
 T:Nat
abbrev cI:=Nat->Option M
def live:aU->Bool
 | .cells .. | .map .. | .iter ..=>true
 | _=>false
def m6:aU->Nat
 | .map ..=>1
 | .iter ..=>2
 | _=>0
def nc (h:aW) (μ:cI) (k:Nat) :Prop:=∃ b m,live (h.f b)=true/\μ b=some m/\m.r=k
def uS (h:aW) (b sz:Nat) :Prop:=h.f b=.dead\/∃ n cs,h.f b=.cells n cs/\sz<n
structure Cell (w:World) (R:Nat->Prop) (h:aW) (μ:cI) (b o:Nat) (v:Value) :Prop where
 here:w.cell? ⟨b,o,none⟩=some v
 one:v.oneCell'=true
 ro:R b
 free:¬ nc h μ b
inductive aP (w:World) (R:Nat->Prop) (h:aW) (μ:cI) :U->Value->Prop where
 | bool (b:Bool) :aP w R h μ (.bool b) (.bool b)
 | int (k:IntKind) (n:Int) :aP w R h μ (.int k n) (.int k n)
 | str (bs:ByteArray) :aP w R h μ (.str bs.data.toList) (.string bs)
 | jm:aP w R h μ .jm (.pointer none)
 | aK:aP w R h μ .aK (.slice none 0 0)
 | ia:aP w R h μ .ia (.map none)
 | jk:aP w R h μ .jk .nilFunc
 | jl:aP w R h μ .jl .nilIface
 | aH (cs:List U) (vs:Array Value) (am:vs.size=cs.length) (ad:∀ (j:Nat) (v:Value),vs[j]? = some v->v.oneCell'=true)
   (aq:∀ (j:Nat) (c:U) (v:Value),cs[j]? = some c->vs[j]? = some v->aP w R h μ c v) :aP w R h μ (.aH cs) (.agg vs)
 | bu (cs:List U) (vs:Array Value) (am:vs.size=cs.length)
   (aq:∀ (j:Nat) (c:U) (v:Value),cs[j]? = some c->vs[j]? = some v->aP w R h μ c v) :aP w R h μ (.bu cs) (.tuple vs)
 | ptr (b off sz:Nat) (cs:List U) (m:M) (ag:h.f b=.cells sz cs) (hm:μ b=some m) :
   aP w R h μ (.ptr b off sz) (.pointer (some ⟨m.r,m.s+off,none⟩))
 | m9 (b off sz:Nat) (a:Addr) (aA:uS h b sz) :aP w R h μ (.ptr b off sz) (.pointer (some a))
 | cg (cs:List U) (off blk o:Nat) (eL:Nat->Value) (ah:∀ j,j<cs.length->Cell w R h μ blk (o+j) (eL j))
   (aq:∀ (j:Nat) (c:U),cs[j]? = some c->aP w R h μ c (eL j)) :aP w R h μ (.cg cs off) (.pointer (some ⟨blk,o+off,none⟩))
 | ar (z b off len cap sz cap' : Nat) (cs:List U) (m:M) (ag:h.f b=.cells sz cs) (hm:μ b=some m) (am:len<=cap) (au:off+cap*z<=sz)
   (ah:(off+cap*z<sz/\cap'=cap)\/(off+cap*z=sz/\cap<=cap'/\m.s+off+cap'*z<=m.T)) :
   aP w R h μ (.ar z b off len cap sz) (.slice (some ⟨m.r,m.s+off,none⟩) len cap')
 | hZ (z b off len cap sz cap' : Nat) (a:Addr) (am:len<=cap) (ah:cap<=cap') (aA:uS h b sz) :aP w R h μ (.ar z b off len cap sz) (.slice (some a) len cap')
 | iT (z b off sz:Nat) (a:Addr) (cs:List U) (m:M) (ag:h.f b=.cells sz cs) (hm:μ b=some m) :aP w R h μ (.ar z b off 0 0 sz) (.slice (some a) 0 0)
 | b1 (z:Nat) (es:List (List U)) (blk off cap:Nat) (eL:Nat->Nat->Value) (am:es.length<=cap) (aw:∀ e,e∈es->e.length=z)
   (ah:∀ i j,i<es.length->j<z->Cell w R h μ blk (off+(i*z+j)) (eL i j))
   (aq:∀ (i:Nat) (e:List U),es[i]? = some e->∀ (j:Nat) (c:U),e[j]? = some c->aP w R h μ c (eL i j)) :
   aP w R h μ (.b1 z es) (.slice (some ⟨blk,off,none⟩) es.length cap)
 | fw (z:Nat) (a:Addr) (cap:Nat) :aP w R h μ (.b1 z []) (.slice (some a) 0 cap)
 | fn (f:FuncId) (first gq:List U) (fs cs:Array Value) (aI:fs.size=first.length) (ah:cs.size=gq.length)
   (ad:∀ (j:Nat) (c:U) (v:Value),first[j]? = some c->fs[j]? = some v->aP w R h μ c v) (af:∀ (j:Nat) (c:U) (v:Value),gq[j]? = some c->cs[j]? = some v->aP w R h μ c v) :
   aP w R h μ (.fn f first gq) (.func (.func f) fs cs)
 | mp (b:Nat) (m:M) (ag:m6 (h.f b)=1) (hm:μ b=some m) :aP w R h μ (.mp b) (.map (some m.r))
 | it (b:Nat) (m:M) (ag:m6 (h.f b)=2) (hm:μ b=some m) :aP w R h μ (.it b) (.pointer (some ⟨m.r,0,none⟩))
 | hi (t:TypeId) (c:U) (v:Value) (aq:aP w R h μ c v) :aP w R h μ (.hi t c) (.iface t v)
 | mF (l:Nat) :aP w R h μ (.mF l) (.func (.yield l) #[] #[])
 | bad (v:Value) :aP w R h μ .bad v
structure Ext0 (w:World) (h:aW) (μ:cI) (w' : World) (h' : aW) (μ' : cI) :Prop where
 os:w'.os=w.os
 tape:w'.tape=w.tape
 output:w'.output=w.output
 size:w.heap.size<=w'.heap.size
 cc:∀ k,k<w.heap.size->¬ nc h μ k->w'.heap[k]? = w.heap[k]?
 own:∀ k,nc h' μ' k->nc h μ k\/w.heap.size<=k
 cells:∀ b sz cs m,h.f b=.cells sz cs->μ b=some m->(∃ cs',h'.f b=.cells sz cs'/\μ' b=some m)\/uS h' b sz
 gone:∀ b sz,uS h b sz->uS h' b sz
 DY:∀ b k m,m6 (h.f b)=k+1->μ b=some m->m6 (h'.f b)=k+1/\μ' b=some m
 n:h.n<=h'.n
 drawn:w.drawn<=w'.drawn:=by first | exact Nat.le_refl _ | exact Nat.le_succ _ | assumption
structure dB (w:World) (h:aW) (μ:cI) (w' : World) (h' : aW) (μ' : cI) :Prop extends Ext0 w h μ w' h' μ' where
 o5:∀ b,b<h.n->μ b=none->μ' b=none
theorem Ext0.refl (w:World) (h:aW) (μ:cI) :Ext0 w h μ w h μ:=
 ⟨rfl,rfl,rfl,Nat.le_refl _,fun _ _ _=>rfl,fun _ h=>.inl h,fun b sz cs m ad af=>.inl ⟨cs,ad,af⟩,fun _ _ h=>h,fun _ _ _ ad af=>⟨ad,af⟩,Nat.le_refl _,Nat.le_refl _⟩
theorem dB.refl (w:World) (h:aW) (μ:cI) :dB w h μ w h μ:=⟨.refl w h μ,fun _ _ h=>h⟩
theorem Ext0.trans {w bV w2:World} {h ad af:aW} {μ iG qa:cI} (a:Ext0 w h μ bV ad iG) (b:Ext0 bV ad iG w2 af qa) :Ext0 w h μ w2 af qa:=by
 refine⟨b.os.trans a.os,b.tape.trans a.tape,b.output.trans a.output,Nat.le_trans a.size b.size,?_,?_,?_,fun _ _ aA=>b.gone _ _ (a.gone _ _ aA),?_,Nat.le_trans a.n b.n,Nat.le_trans a.drawn b.drawn⟩
 ·intro k ax aD;rw[b.cc k (Nat.lt_of_lt_of_le ax a.size) (fun au=>(a.own k au).elim aD (by omega)),a.cc k ax aD]
 ·intro k ax;rcases b.own k ax with h | h
  ·exact a.own k h
  ·exact .inr (Nat.le_trans a.size h)
 ·intro blk sz cs m ag hm;rcases a.cells blk sz cs m ag hm with ⟨cs',al,aG⟩ | al
  ·exact b.cells blk sz cs' m al aG
  ·exact .inr (b.gone _ _ al)
 ·intro blk k m ag hm;obtain⟨al,aG⟩:=a.DY blk k m ag hm;exact b.DY blk k m al aG
theorem dB.trans {w bV w2:World} {h ad af:aW} {μ iG qa:cI} (a:dB w h μ bV ad iG) (b:dB bV ad iG w2 af qa) :dB w h μ w2 af qa:=
 ⟨a.toExt0.trans b.toExt0,fun blk ag hm=>b.o5 blk (Nat.lt_of_lt_of_le ag a.n) (a.o5 blk ag hm)⟩
theorem Cell.ext {w w' : World} {h h' : aW} {μ μ' : cI} {R:Nat->Prop} {b o:Nat} {v:Value} (e:Ext0 w h μ w' h' μ') (c:Cell w R h μ b o v) :Cell w' R h' μ' b o v:=by
 have ag:b<w.heap.size:=World.block_lt_of_cell? _ _ c.here;refine⟨?_,c.one,c.ro,fun au=>?_⟩
 ·rw[World.cell?_of_block (w:=w) (a:=⟨b,o,none⟩) (e.cc b ag c.free)]; exact c.here
 ·rcases e.own b au with ad | ad
  ·exact c.free ad
  ·omega
theorem aP.l2 {w w' : World} {h h' : aW} {μ μ' : cI} {R:Nat->Prop} {c:U} {v:Value} (e:Ext0 w h μ w' h' μ') (aq:aP w R h μ c v) :aP w' R h' μ' c v:=by
 induction aq with
 | bool b=>exact .bool b
 | int k n=>exact .int k n
 | str bs=>exact .str bs
 | jm=>exact .jm
 | aK=>exact .aK
 | ia=>exact .ia
 | jk=>exact .jk
 | jl=>exact .jl
 | aH cs vs am ad aq aQ=>exact .aH cs vs am ad aQ
 | bu cs vs am aq aQ=>exact .bu cs vs am aQ
 | ptr b off sz cs m ag hm=>
  rcases e.cells b sz cs m ag hm with ⟨cs',ad,af⟩ | ad
  ·exact .ptr b off sz cs' m ad af
  ·exact .m9 b off sz _ ad
 | m9 b off sz a aA=>exact .m9 b off sz a (e.gone _ _ aA)
 | cg cs off blk o eL ah aq aQ=>exact .cg cs off blk o eL (fun j aj=>(ah j aj).ext e) aQ
 | ar z b off len cap sz cap' cs m ag hm am au ah=>
  rcases e.cells b sz cs m ag hm with ⟨cs',ad,af⟩ | ad
  ·exact .ar z b off len cap sz cap' cs' m ad af am au ah
  ·exact .hZ z b off len cap sz cap' _ am (by omega) ad
 | hZ z b off len cap sz cap' a am ah aA=>exact .hZ z b off len cap sz cap' a am ah (e.gone _ _ aA)
 | iT z b off sz a cs m ag hm=>
  rcases e.cells b sz cs m ag hm with ⟨cs',ad,af⟩ | ad
  ·exact .iT z b off sz a cs' m ad af
  ·exact .hZ z b off 0 0 sz 0 a (Nat.le_refl _) (Nat.le_refl _) ad
 | b1 z es blk off cap eL am aw ah aq aQ=>exact .b1 z es blk off cap eL am aw (fun i j aB aj=>(ah i j aB aj).ext e) aQ
 | fw z a cap=>exact .fw z a cap
 | fn f first gq fs cs aI ah ad af dV mh=>exact .fn f first gq fs cs aI ah dV mh
 | mp b m ag hm=>
  obtain⟨ad,af⟩:=e.DY b 0 m ag hm;exact .mp b m ad af
 | it b m ag hm=>
  obtain⟨ad,af⟩:=e.DY b 1 m ag hm;exact .it b m ad af
 | hi t c v aq aQ=>exact .hi t c v aQ
 | mF l=>exact .mF l
 | bad v=>exact .bad v
theorem aP.ext {w w' : World} {h h' : aW} {μ μ' : cI} {R:Nat->Prop} {c:U} {v:Value} (e:dB w h μ w' h' μ') (aq:aP w R h μ c v) :aP w' R h' μ' c v:=aq.l2 e.toExt0
def sC (w:World) (R:Nat->Prop) (h:aW) (μ:cI) (m:M) :aU->Prop
 | .cells sz cs=>cs.length=sz/\m.s+sz<=m.T/\∃ arr e gu,w.heap[m.r]? = some (.cells arr e gu)/\arr.size=m.T/\(gu=(0,0)\/m.T<gu.1) ∧
   ∀ (j:Nat) (c:U),cs[j]? = some c->∃ v:Value,arr[m.s+j]? = some v/\v.oneCell'=true/\aP w R h μ c v
 | .map es e5=>∃ du,w.heap[m.r]? = some (.map du e5)/\du.size=es.length ∧
   ∀ (j:Nat) (k v:U) (b:Nat),es[j]? = some (k,v,b)->∃ x:MapEntry,du[j]? = some x/\aP w R h μ k x.key/\aP w R h μ v x.val/\x.born=b
 | .iter s pos=>∃ bs:ByteArray,bs.data.toList=s/\w.heap[m.r]? = some (.stringIter bs pos)
 | _=>True
theorem sC.ext {w w' : World} {h h' : aW} {μ μ' : cI} {R:Nat->Prop} {m:M} (e:Ext0 w h μ w' h' μ') (aV:w'.heap[m.r]? = w.heap[m.r]?) :
  ∀ {c:aU},sC w R h μ m c->sC w' R h' μ' m c
 | .cells sz cs,⟨ad,af,arr,t,gu,al,aG,a6,bK⟩=>⟨ad,af,arr,t,gu,aV.trans al,aG,a6,fun j c aj=>let ⟨v,a,b,d⟩:=bK j c aj; ⟨v,a,b,d.l2 e⟩⟩
 | .map es e5,⟨du,ad,af,al⟩=>⟨du,aV.trans ad,af,fun j k v b aj=>let ⟨x,a,dn,d,f⟩:=al j k v b aj; ⟨x,a,dn.l2 e,d.l2 e,f⟩⟩
 | .iter s pos,⟨bs,ad,af⟩=>⟨bs,ad,aV.trans af⟩
 | .none,_=>trivial
 | .dead,_=>trivial
structure bZ (R:Nat->Prop) (B:Nat) (w:World) (h:aW) (μ:cI) :Prop where
 blk:∀ b m,μ b=some m->sC w R h μ m (h.f b)
 inj:∀ b bc m ck,live (h.f b)=true->live (h.f bc)=true->μ b=some m->μ bc=some ck->m.r=ck.r->b=bc
 base:∀ b m,live (h.f b)=true->μ b=some m->B<=m.r
 fresh:∀ b,h.n<=b->h.f b=.none
 up:∀ k,B<=k->R k
 size:B<=w.heap.size
 km:∀ b,h.n<=b->μ b=none
theorem bZ.pd {R:Nat->Prop} {B:Nat} {w:World} {h:aW} {μ:cI} (rel:bZ R B w h μ) {b:Nat} {m:M} (hm:μ b=some m) :b<h.n:=by
 rcases Nat.lt_or_ge b h.n with ad | ad
 ·exact ad
 ·rw[rel.km b ad] at hm; cases hm
theorem bZ.lt {R:Nat->Prop} {B:Nat} {w:World} {h:aW} {μ:cI} (rel:bZ R B w h μ) {b:Nat} {m:M} (am:live (h.f b)=true) (hm:μ b=some m) :m.r<w.heap.size:=by
 have ag:=rel.blk b m hm;cases ah:h.f b with
 | none=>rw[ah] at am; cases am
 | dead=>rw[ah] at am; cases am
 | cells sz cs=>
  rw[ah] at ag;obtain⟨_,_,arr,t,gu,al,_⟩:=ag;rcases Nat.lt_or_ge m.r w.heap.size with h | h
  ·exact h
  ·rw[Array.getElem?_eq_none h] at al; cases al
 | map es e5=>
  rw[ah] at ag;obtain⟨du,al,_⟩:=ag;rcases Nat.lt_or_ge m.r w.heap.size with h | h
  ·exact h
  ·rw[Array.getElem?_eq_none h] at al; cases al
 | iter s pos=>
  rw[ah] at ag;obtain⟨bs,_,al⟩:=ag;rcases Nat.lt_or_ge m.r w.heap.size with h | h
  ·exact h
  ·rw[Array.getElem?_eq_none h] at al; cases al
theorem bZ.su {R:Nat->Prop} {B:Nat} {w w' : World} {h h' : aW} {μ μ' : cI} (rel:bZ R B w h μ) (e:Ext0 w h μ w' h' μ') (gZ:Nat)
  (oK:∀ b,b≠gZ->live (h'.f b)=true->h'.f b=h.f b/\μ' b=μ b/\∀ m,μ b=some m->w'.heap[m.r]? = w.heap[m.r]?)
  (qt:∀ m,μ' gZ=some m->sC w' R h' μ' m (h'.f gZ))
  (py:∀ b m ck,b≠gZ->live (h'.f b)=true->live (h'.f gZ)=true->μ b=some m->μ' gZ=some ck->m.r≠ck.r)
  (CD:∀ m,live (h'.f gZ)=true->μ' gZ=some m->B<=m.r)
  (Wn:∀ b,h'.n<=b->h'.f b=.none) (W7:∀ b,h'.n<=b->μ' b=none) :bZ R B w' h' μ':=by
 refine⟨?_,?_,?_,Wn,rel.up,Nat.le_trans rel.size e.size,W7⟩
 ·intro b m hm;by_cases ag:b=gZ
  ·subst ag; exact qt m hm
  ·cases am:live (h'.f b) with
   | false=>cases ah:h'.f b<;>first | trivial | (rw[ah] at am; cases am)
   | true=>
    obtain⟨ad,af,al⟩:=oK b ag am;rw[af] at hm;rw[ad];exact (rel.blk b m hm).ext e (al m hm)
 ·intro b bc m ck am c4 hm bT ay;by_cases ag:b=gZ<;>by_cases bN:bc=gZ
  ·rw[ag,bN]
  ·subst ag;obtain⟨ad,af,al⟩:=oK bc bN c4;rw[af] at bT;exact absurd ay.symm (py bc ck m bN c4 am bT hm)
  ·subst bN;obtain⟨ad,af,al⟩:=oK b ag am;rw[af] at hm;exact absurd ay (py b m ck ag am c4 hm bT)
  ·obtain⟨ad,af,_⟩:=oK b ag am;obtain⟨al,aG,_⟩:=oK bc bN c4;rw[ad] at am; rw[af] at hm; rw[al] at c4; rw[aG] at bT;exact rel.inj b bc m ck am c4 hm bT ay
 ·intro b m am hm;by_cases ag:b=gZ
  ·subst ag; exact CD m am hm
  ·obtain⟨ad,af,_⟩:=oK b ag am;rw[ad] at am; rw[af] at hm;exact rel.base b m am hm
theorem bZ.push {R:Nat->Prop} {B:Nat} {w w' : World} {h:aW} {μ:cI} (rel:bZ R B w h μ) (cs:List U) (arr:Array Value) (t:TypeId)
  (oJ:w'.os=w.os) (rY:w'.tape=w.tape) (jh:w'.output=w.output) (k2:w'.heap=w.heap.push (.cells arr t (0,0)))
  (hv:cs.length<=arr.size) (aq:∀ (j:Nat) (c:U),cs[j]? = some c->∃ v:Value,arr[j]? = some v/\v.oneCell'=true/\aP w R h μ c v) (pw:w.drawn<=w'.drawn:=by first | exact Nat.le_refl _ | exact Nat.le_succ _ | assumption) :
  dB w h μ w' (h.push (.cells cs.length cs)) (bH μ h.n (some ⟨w.heap.size,0,arr.size⟩)) ∧
  bZ R B w' (h.push (.cells cs.length cs)) (bH μ h.n (some ⟨w.heap.size,0,arr.size⟩)) :=by
 have aD:h.f h.n=.none:=rel.fresh _ (Nat.le_refl _);have e:dB w h μ w' (h.push (.cells cs.length cs)) (bH μ h.n (some ⟨w.heap.size,0,arr.size⟩)) :=by
  refine⟨⟨oJ,rY,jh,by simp[k2],?_,?_,?_,?_,?_,?_,pw⟩,?_⟩
  ·intro k ax _;rw[k2,Array.getElem?_push,if_neg (by omega)]
  ·rintro k ⟨b,m,am,hm,rfl⟩;by_cases ag:b=h.n
   ·subst ag; simp at hm; subst hm; exact .inr (Nat.le_refl _)
   ·rw[b8 _ _ _ _ ag] at hm;simp only[eH,fv,b8 _ _ _ _ ag] at am;exact .inl ⟨b,m,am,hm,rfl⟩
  ·intro b sz cs' m ag hm;have:b≠h.n:=fun aR=>by rw[aR,aD] at ag; cases ag
   exact .inl ⟨cs',by simp only[eH,fv,b8 _ _ _ _ this]; exact ag,by rw[b8 _ _ _ _ this]; exact hm⟩
  ·rintro b sz (ag | ⟨n,cs',ag,aO⟩)
   ·have:b≠h.n:=fun aR=>by rw[aR,aD] at ag; cases ag
    exact .inl (by simp only[eH,fv,b8 _ _ _ _ this]; exact ag)
   ·have:b≠h.n:=fun aR=>by rw[aR,aD] at ag; cases ag
    exact .inr ⟨n,cs',by simp only[eH,fv,b8 _ _ _ _ this]; exact ag,aO⟩
  ·intro b k m ag hm;have:b≠h.n:=fun aR=>by rw[aR,aD] at ag; cases ag
   exact⟨by simp only[eH,fv,b8 _ _ _ _ this]; exact ag,by rw[b8 _ _ _ _ this]; exact hm⟩
  ·simp[eH,fv]
  ·intro b ag hm;rw[b8 _ _ _ _ (by omega)]; exact hm
 refine⟨e,rel.su e.toExt0 h.n ?_ ?_ ?_ ?_ ?_ ?_⟩
 ·intro b ag am;simp only[eH,fv,b8 _ _ _ _ ag] at am ⊢;exact⟨trivial,trivial,fun m hm=>by rw[k2,Array.getElem?_push,if_neg (by have:=rel.lt am hm; omega)]⟩
 ·intro m hm;simp at hm; subst hm;simp only[eH,fv,nr];refine⟨rfl,by simpa using hv,arr,t,(0,0),by simp[k2],rfl,.inl rfl,fun j c aj=>?_⟩;obtain⟨v,ad,af,al⟩:=aq j c aj;exact⟨v,by simpa using ad,af,al.ext e⟩
 ·intro b m ck ag am _ hm bT;simp only[eH,fv,b8 _ _ _ _ ag] at am;simp at bT; subst bT;have:=rel.lt am hm;simp only[ne_eq]; omega
 ·intro m _ hm;simp at hm; subst hm;exact rel.size
 ·intro b ag;simp only[eH,fv] at ag ⊢;rw[b8 _ _ _ _ (by omega)];exact rel.fresh b (by omega)
 ·intro b ag;simp only[eH,fv] at ag;rw[b8 _ _ _ _ (by omega)];exact rel.km b (by omega)
theorem bZ.same {R:Nat->Prop} {B:Nat} {w:World} {h h' : aW} {μ:cI} (rel:bZ R B w h μ) (aI:h'.f=h.f) (aD:h'.n=h.n) :dB w h μ w h' μ/\bZ R B w h' μ:=by
 have e:dB w h μ w h' μ:=by
  refine⟨⟨rfl,rfl,rfl,Nat.le_refl _,fun _ _ _=>rfl,?_,?_,?_,?_,by omega,Nat.le_refl _⟩,fun _ _ hm=>hm⟩
  ·rintro k ⟨bc,ck,c4,bT,rfl⟩;rw[aI] at c4; exact .inl ⟨bc,ck,c4,bT,rfl⟩
  ·intro bc sz' cs' ck bN bT;exact .inl ⟨cs',by rw[aI]; exact bN,bT⟩
  ·intro bc sz' aA;unfold uS at aA ⊢; rw[aI]; exact aA
  ·intro bc k' ck bN bT;exact⟨by rw[aI]; exact bN,bT⟩
 refine⟨e,rel.su e.toExt0 h.n (fun b _ _=>⟨by rw[aI],rfl,fun _ _=>rfl⟩) (fun m hm=>?_) (fun b m ck _ _ _ _ hm=>?_) (fun m _ hm=>?_) (fun b ag=>by rw[aI]; exact rel.fresh b (by omega)) (by rw[aD]; exact rel.km)⟩
 all_goals (rw[rel.km h.n (Nat.le_refl _)] at hm; cases hm)
theorem bZ.kill {R:Nat->Prop} {B:Nat} {w:World} {h h' : aW} {μ:cI} (rel:bZ R B w h μ) {b sz:Nat} {cs:List U} (ag:h.f b=.cells sz cs) (td:b<h.n)
  (aI:h'.f=bH h.f b .dead) (aD:h'.n=h.n) :dB w h μ w h' μ/\bZ R B w h' μ:=by
 have e:dB w h μ w h' μ:=by
  refine⟨⟨rfl,rfl,rfl,Nat.le_refl _,fun _ _ _=>rfl,?_,?_,?_,?_,by omega,Nat.le_refl _⟩,fun _ _ hm=>hm⟩
  ·rintro k ⟨bc,ck,c4,bT,rfl⟩;rw[aI] at c4;by_cases bX:bc=b
   ·subst bX; simp[live] at c4
   ·rw[b8 _ _ _ _ bX] at c4; exact .inl ⟨bc,ck,c4,bT,rfl⟩
  ·intro bc sz' cs' ck bN bT;by_cases bX:bc=b
   ·subst bX; exact .inr (.inl (by rw[aI]; simp))
   ·exact .inl ⟨cs',by rw[aI,b8 _ _ _ _ bX]; exact bN,bT⟩
  ·rintro bc sz' aA;by_cases bX:bc=b
   ·subst bX; exact .inl (by rw[aI]; simp)
   ·rcases aA with aA | ⟨n,cs',aA,aO⟩
    ·exact .inl (by rw[aI,b8 _ _ _ _ bX]; exact aA)
    ·exact .inr ⟨n,cs',by rw[aI,b8 _ _ _ _ bX]; exact aA,aO⟩
  ·intro bc k' ck bN bT;by_cases bX:bc=b
   ·subst bX; rw[ag] at bN; cases bN
   ·exact⟨by rw[aI,b8 _ _ _ _ bX]; exact bN,bT⟩
 refine⟨e,rel.su e.toExt0 b ?_ ?_ ?_ ?_ ?_ (by rw[aD]; exact rel.km)⟩
 ·intro bc bX am;rw[aI,b8 _ _ _ _ bX];exact⟨rfl,rfl,fun _ _=>rfl⟩
 ·intro m _;rw[aI]; simp[sC]
 ·intro bc m ck _ _ am;rw[aI] at am; simp[live] at am
 ·intro m am;rw[aI] at am; simp[live] at am
 ·intro bc bN;rw[aI,b8 _ _ _ _ (by omega)];exact rel.fresh bc (by omega)
theorem bZ.abD {R:Nat->Prop} {B:Nat} {w:World} {h h' : aW} {μ:cI} (rel:bZ R B w h μ) {b sz off:Nat} {cs:List U} {m:M} (ag:h.f b=.cells sz cs) (hm:μ b=some m) (au:off<=sz)
  (aI:h'.f=bH (bH h.f b .dead) h.n (.cells (sz - off) (cs.drop off))) (aD:h'.n=h.n+1) :
  dB w h μ w h' (bH μ h.n (some ⟨m.r,m.s+off,m.T⟩))/\bZ R B w h' (bH μ h.n (some ⟨m.r,m.s+off,m.T⟩)) :=by
 have td:=rel.pd hm;have vR:h.f h.n=.none:=rel.fresh _ (Nat.le_refl _);have ly:live (h.f b)=true:=by rw[ag]; rfl
 have e:dB w h μ w h' (bH μ h.n (some ⟨m.r,m.s+off,m.T⟩)) :=by
  refine⟨⟨rfl,rfl,rfl,Nat.le_refl _,fun _ _ _=>rfl,?_,?_,?_,?_,by omega,Nat.le_refl _⟩,fun bc bN bT=>by rw[b8 _ _ _ _ (by omega)]; exact bT⟩
  ·rintro k ⟨bc,ck,c4,bT,rfl⟩;rw[aI] at c4;by_cases jv:bc=h.n
   ·subst jv; simp at bT; subst bT; exact .inl ⟨b,m,ly,hm,rfl⟩
   ·rw[b8 _ _ _ _ jv] at c4 bT;by_cases bX:bc=b
    ·subst bX; simp[live] at c4
    ·rw[b8 _ _ _ _ bX] at c4; exact .inl ⟨bc,ck,c4,bT,rfl⟩
  ·intro bc sz' cs' ck bN bT;have jv:bc≠h.n:=fun aR=>by rw[aR,vR] at bN; cases bN
   by_cases bX:bc=b
   ·subst bX; exact .inr (.inl (by rw[aI,b8 _ _ _ _ jv]; simp))
   ·exact .inl ⟨cs',by rw[aI,b8 _ _ _ _ jv,b8 _ _ _ _ bX]; exact bN,by rw[b8 _ _ _ _ jv]; exact bT⟩
  ·rintro bc sz' aA;have jv:bc≠h.n:=fun aR=>by
    subst aR;rcases aA with aA | ⟨n,cs',aA,_⟩
    ·rw[vR] at aA; cases aA
    ·rw[vR] at aA; cases aA
   by_cases bX:bc=b
   ·subst bX; exact .inl (by rw[aI,b8 _ _ _ _ jv]; simp)
   ·rcases aA with aA | ⟨n,cs',aA,aO⟩
    ·exact .inl (by rw[aI,b8 _ _ _ _ jv,b8 _ _ _ _ bX]; exact aA)
    ·exact .inr ⟨n,cs',by rw[aI,b8 _ _ _ _ jv,b8 _ _ _ _ bX]; exact aA,aO⟩
  ·intro bc k' ck bN bT;have jv:bc≠h.n:=fun aR=>by rw[aR,vR] at bN; cases bN
   by_cases bX:bc=b
   ·subst bX; rw[ag] at bN; cases bN
   ·exact⟨by rw[aI,b8 _ _ _ _ jv,b8 _ _ _ _ bX]; exact bN,by rw[b8 _ _ _ _ jv]; exact bT⟩
 have oK:∀ bc,bc≠h.n->live (h'.f bc)=true->bc≠b/\h'.f bc=h.f bc:=fun bc jv am=>by
  rw[aI,b8 _ _ _ _ jv] at am ⊢;by_cases bX:bc=b
  ·subst bX; simp[live] at am
  ·exact⟨bX,by rw[b8 _ _ _ _ bX]⟩
 refine⟨e,rel.su e.toExt0 h.n ?_ ?_ ?_ ?_ ?_ ?_⟩
 ·intro bc jv am;exact⟨(oK bc jv am).2,by rw[b8 _ _ _ _ jv],fun _ _=>rfl⟩
 ·intro ck bT;simp at bT; subst bT;rw[aI,nr];have gj:=rel.blk b m hm;rw[ag] at gj;obtain⟨ad,af,arr,t,gu,al,aG,a6,bK⟩:=gj;refine⟨by simp; omega,by simp only; omega,arr,t,gu,al,aG,a6,fun j c aj=>?_⟩;rw[List.getElem?_drop] at aj;obtain⟨v,a2,bb,cr⟩:=bK (off+j) c aj;exact⟨v,by simp only; rw[Nat.add_assoc]; exact a2,bb,cr.ext e⟩
 ·intro bc dJ dy jv am _ ad af aR;simp at af; subst af;obtain⟨bX,jy⟩:=oK bc jv am;rw[jy] at am;exact bX (rel.inj bc b dJ m am ly ad hm aR)
 ·intro ck _ bT;simp at bT; subst bT;exact rel.base b m ly hm
 ·intro bc bN;rw[aI,b8 _ _ _ _ (by omega),b8 _ _ _ _ (by omega)];exact rel.fresh bc (by omega)
 ·intro bc bN;rw[b8 _ _ _ _ (by omega)];exact rel.km bc (by omega)
theorem bZ.PJ {R:Nat->Prop} {B:Nat} {w w' : World} {h:aW} {μ:cI} (rel:bZ R B w h μ) (c:aU) (o:Obj) {k:Nat} (ax:m6 c=k+1)
  (oJ:w'.os=w.os) (rY:w'.tape=w.tape) (jh:w'.output=w.output) (k2:w'.heap=w.heap.push o)
  (c0:sC w' R (h.push c) (bH μ h.n (some ⟨w.heap.size,0,0⟩)) ⟨w.heap.size,0,0⟩ c) (pw:w.drawn<=w'.drawn:=by first | exact Nat.le_refl _ | exact Nat.le_succ _ | assumption) :
  dB w h μ w' (h.push c) (bH μ h.n (some ⟨w.heap.size,0,0⟩))/\bZ R B w' (h.push c) (bH μ h.n (some ⟨w.heap.size,0,0⟩)) :=by
 have aD:h.f h.n=.none:=rel.fresh _ (Nat.le_refl _);have agj:m6 aU.none=0:=rfl;have e:dB w h μ w' (h.push c) (bH μ h.n (some ⟨w.heap.size,0,0⟩)) :=by
  refine⟨⟨oJ,rY,jh,by simp[k2],?_,?_,?_,?_,?_,?_,pw⟩,?_⟩
  ·intro k ax _;rw[k2,Array.getElem?_push,if_neg (by omega)]
  ·rintro k ⟨b,m,am,hm,rfl⟩;by_cases ag:b=h.n
   ·subst ag; simp at hm; subst hm; exact .inr (Nat.le_refl _)
   ·rw[b8 _ _ _ _ ag] at hm;simp only[eH,fv,b8 _ _ _ _ ag] at am;exact .inl ⟨b,m,am,hm,rfl⟩
  ·intro b sz cs' m ag hm;have:b≠h.n:=fun aR=>by rw[aR,aD] at ag; cases ag
   exact .inl ⟨cs',by simp only[eH,fv,b8 _ _ _ _ this]; exact ag,by rw[b8 _ _ _ _ this]; exact hm⟩
  ·rintro b sz (ag | ⟨n,cs',ag,aO⟩)
   ·have:b≠h.n:=fun aR=>by rw[aR,aD] at ag; cases ag
    exact .inl (by simp only[eH,fv,b8 _ _ _ _ this]; exact ag)
   ·have:b≠h.n:=fun aR=>by rw[aR,aD] at ag; cases ag
    exact .inr ⟨n,cs',by simp only[eH,fv,b8 _ _ _ _ this]; exact ag,aO⟩
  ·intro b k m ag hm;have:b≠h.n:=fun aR=>by rw[aR,aD] at ag; cases ag
   exact⟨by simp only[eH,fv,b8 _ _ _ _ this]; exact ag,by rw[b8 _ _ _ _ this]; exact hm⟩
  ·simp[eH,fv]
  ·intro b ag hm;rw[b8 _ _ _ _ (by omega)]; exact hm
 refine⟨e,rel.su e.toExt0 h.n ?_ ?_ ?_ ?_ ?_ ?_⟩
 ·intro b ag am;simp only[eH,fv,b8 _ _ _ _ ag] at am ⊢;exact⟨trivial,trivial,fun m hm=>by rw[k2,Array.getElem?_push,if_neg (by have:=rel.lt am hm; omega)]⟩
 ·intro m hm;simp at hm; subst hm;simp only[eH,fv,nr];exact c0
 ·intro b m ck ag am _ hm bT;simp only[eH,fv,b8 _ _ _ _ ag] at am;simp at bT; subst bT;have:=rel.lt am hm;simp only[ne_eq]; omega
 ·intro m _ hm;simp at hm; subst hm;exact rel.size
 ·intro b ag;simp only[eH,fv] at ag ⊢;rw[b8 _ _ _ _ (by omega)];exact rel.fresh b (by omega)
 ·intro b ag;simp only[eH,fv] at ag ⊢;rw[b8 _ _ _ _ (by omega)];exact rel.km b (by omega)
theorem bZ.PN {R:Nat->Prop} {B:Nat} {w w' : World} {h:aW} {μ:cI} (rel:bZ R B w h μ) {b k:Nat} {c c' : aU} {m:M}
  (ag:h.f b=c) (ax:m6 c=k+1) (eG:m6 c'=k+1) (hm:μ b=some m)
  (oJ:w'.os=w.os) (rY:w'.tape=w.tape) (jh:w'.output=w.output) (vY:w'.heap.size=w.heap.size) (Am:∀ k,k≠m.r->w'.heap[k]? = w.heap[k]?)
  (c0:Ext0 w h μ w' (h.set b c') μ->sC w' R (h.set b c') μ m c') (pw:w.drawn<=w'.drawn:=by first | exact Nat.le_refl _ | exact Nat.le_succ _ | assumption) :
  dB w h μ w' (h.set b c') μ/\bZ R B w' (h.set b c') μ:=by
 have ly:live (h.f b)=true:=by rw[ag]; cases c<;>simp[m6] at ax<;>rfl
 have agm:live c'=true:=by cases c'<;>simp[m6] at eG<;>rfl
 have Ns:∀ sz cs,h.f b≠.cells sz cs:=fun sz cs aR=>by rw[ag] at aR; subst aR; simp[m6] at ax
 have z5:h.f b≠.dead:=fun aR=>by rw[ag] at aR; subst aR; simp[m6] at ax
 have e:dB w h μ w' (h.set b c') μ:=by
  refine⟨⟨oJ,rY,jh,Nat.le_of_eq vY.symm,?_,?_,?_,?_,?_,Nat.le_refl _,pw⟩,fun _ _ hm=>hm⟩
  ·intro k ax aD;exact Am k (fun aR=>aD ⟨b,m,ly,hm,aR.symm⟩)
  ·rintro k ⟨bc,ck,c4,bT,rfl⟩;by_cases bX:bc=b
   ·subst bX; exact .inl ⟨bc,ck,ly,bT,rfl⟩
   ·simp only[eI,b8 _ _ _ _ bX] at c4;exact .inl ⟨bc,ck,c4,bT,rfl⟩
  ·intro bc sz cs ck bN bT;have bX:bc≠b:=fun aR=>by subst aR; exact Ns _ _ bN
   exact .inl ⟨cs,by simp only[eI,b8 _ _ _ _ bX]; exact bN,bT⟩
  ·rintro bc sz (aA | ⟨n,cs',aA,aO⟩)
   ·have bX:bc≠b:=fun aR=>by subst aR; exact z5 aA
    exact .inl (by simp only[eI,b8 _ _ _ _ bX]; exact aA)
   ·have bX:bc≠b:=fun aR=>by subst aR; exact Ns _ _ aA
    exact .inr ⟨n,cs',by simp only[eI,b8 _ _ _ _ bX]; exact aA,aO⟩
  ·intro bc k' ck bN bT;by_cases bX:bc=b
   ·subst bX;refine⟨?_,bT⟩;simp only[eI,nr];rw[ag,ax] at bN;rw[eG]; exact bN
   ·exact⟨by simp only[eI,b8 _ _ _ _ bX]; exact bN,bT⟩
 refine⟨e,rel.su e.toExt0 b ?_ ?_ ?_ ?_ ?_ rel.km⟩
 ·intro bc bX am;simp only[eI,b8 _ _ _ _ bX] at am ⊢;exact⟨trivial,trivial,fun ck bT=>Am _ (fun aR=>bX (rel.inj bc b ck m am ly bT hm aR))⟩
 ·intro ck bT;rw[hm] at bT; cases bT;simp only[eI,nr];exact c0 e.toExt0
 ·intro bc dJ dy bX am _ ad af aR;rw[hm] at af; cases af;simp only[eI,b8 _ _ _ _ bX] at am;exact bX (rel.inj bc b dJ m am ly ad hm aR)
 ·intro ck _ bT;rw[hm] at bT; cases bT;exact rel.base b m ly hm
 ·intro bc bN;by_cases bX:bc=b
  ·subst bX;have:=rel.pd hm;simp only[fx] at bN; omega
  ·simp only[eI,b8 _ _ _ _ bX]; exact rel.fresh bc bN
theorem bZ.write {R:Nat->Prop} {B:Nat} {w w' : World} {h:aW} {μ:cI} (rel:bZ R B w h μ) {b sz sz' : Nat} {cs cs' : List U} {m:M} {arr kt:Array Value} {t:TypeId} {gu:Nat × Nat}
  (ag:h.f b=.cells sz cs) (hm:μ b=some m) (ay:w.heap[m.r]? = some (.cells arr t gu)) (gH:arr.size=m.T) (oB:gu=(0,0)\/m.T<gu.1)
  (oJ:w'.os=w.os) (rY:w'.tape=w.tape) (jh:w'.output=w.output) (vY:w'.heap.size=w.heap.size)
  (kM:w'.heap[m.r]? = some (.cells kt t gu)) (Am:∀ k,k≠m.r->w'.heap[k]? = w.heap[k]?) (aC:kt.size=arr.size)
  (am:cs'.length=sz') (oC:sz<=sz') (fg:m.s+sz'<=m.T)
  (aq:∀ (j:Nat) (c:U),cs'[j]? = some c->∃ v:Value,kt[m.s+j]? = some v/\v.oneCell'=true/\aP w R h μ c v) (pw:w.drawn<=w'.drawn:=by first | exact Nat.le_refl _ | exact Nat.le_succ _ | assumption) :
  dB w h μ w' (h.set b (.cells sz' cs')) μ/\bZ R B w' (h.set b (.cells sz' cs')) μ:=by
 have ly:live (h.f b)=true:=by rw[ag]; rfl
 have e:dB w h μ w' (h.set b (.cells sz' cs')) μ:=by
  refine⟨⟨oJ,rY,jh,Nat.le_of_eq vY.symm,?_,?_,?_,?_,?_,Nat.le_refl _,pw⟩,fun _ _ hm=>hm⟩
  ·intro k ax aD;exact Am k (fun aR=>aD ⟨b,m,ly,hm,aR.symm⟩)
  ·rintro k ⟨bc,ck,c4,bT,rfl⟩;by_cases bX:bc=b
   ·subst bX; exact .inl ⟨bc,ck,ly,bT,rfl⟩
   ·simp only[eI,fx,b8 _ _ _ _ bX] at c4;exact .inl ⟨bc,ck,c4,bT,rfl⟩
  ·intro bc acS s2 ck bN bT;by_cases bX:bc=b
   ·subst bX;rw[ag] at bN; cases bN;by_cases ak:sz'=sz
    ·exact .inl ⟨cs',by simp[eI,fx,ak],bT⟩
    ·exact .inr (.inr ⟨sz',cs',by simp[eI,fx],by omega⟩)
   ·exact .inl ⟨s2,by simp only[eI,fx,b8 _ _ _ _ bX]; exact bN,bT⟩
  ·rintro bc s0 (bN | ⟨n,s2,bN,aO⟩)
   ·have bX:bc≠b:=fun aR=>by rw[aR,ag] at bN; cases bN
    exact .inl (by simp only[eI,fx,b8 _ _ _ _ bX]; exact bN)
   ·by_cases bX:bc=b
    ·subst bX;rw[ag] at bN; cases bN;exact .inr ⟨sz',cs',by simp[eI,fx],by omega⟩
    ·exact .inr ⟨n,s2,by simp only[eI,fx,b8 _ _ _ _ bX]; exact bN,aO⟩
  ·intro bc k ck bN bT;have bX:bc≠b:=fun aR=>by rw[aR,ag] at bN; cases bN
   exact⟨by simp only[eI,fx,b8 _ _ _ _ bX]; exact bN,bT⟩
 refine⟨e,rel.su e.toExt0 b ?_ ?_ ?_ ?_ ?_ ?_⟩
 ·intro bc bX c4;simp only[eI,fx,b8 _ _ _ _ bX] at c4 ⊢;exact⟨trivial,trivial,fun ck bT=>Am _ (fun aR=>bX (rel.inj bc b ck m c4 ly bT hm aR))⟩
 ·intro ck bT;rw[hm] at bT; cases bT;simp only[eI,fx,nr];refine⟨am,fg,kt,t,gu,kM,aC.trans gH,oB,fun j c aj=>?_⟩;obtain⟨v,ad,af,al⟩:=aq j c aj;exact⟨v,ad,af,al.ext e⟩
 ·intro bc ck Zl bX c4 _ bT z3 aR;rw[hm] at z3; cases z3;simp only[eI,fx,b8 _ _ _ _ bX] at c4;exact bX (rel.inj bc b ck m c4 ly bT hm aR)
 ·intro ck _ bT;exact rel.base b ck ly bT
 ·intro bc bN;simp only[eI,fx] at bN ⊢;have bX:bc≠b:=fun aR=>by
   have:=rel.fresh bc bN;rw[aR,ag] at this; cases this
  rw[b8 _ _ _ _ bX];exact rel.fresh bc bN
 ·intro bc bN;exact rel.km bc bN
theorem bZ.move {R:Nat->Prop} {B:Nat} {w w' : World} {h:aW} {μ:cI} (rel:bZ R B w h μ) {b sz sz' : Nat} {cs cs' : List U} {m:M} {arr:Array Value} {t:TypeId}
  (ag:h.f b=.cells sz cs) (hm:μ b=some m)
  (oJ:w'.os=w.os) (rY:w'.tape=w.tape) (jh:w'.output=w.output) (k2:w'.heap=w.heap.push (.cells arr t (0,0)))
  (am:cs'.length=sz') (oC:sz<sz') (fg:sz'<=arr.size)
  (aq:∀ (j:Nat) (c:U),cs'[j]? = some c->∃ v:Value,arr[j]? = some v/\v.oneCell'=true/\aP w R h μ c v) (pw:w.drawn<=w'.drawn:=by first | exact Nat.le_refl _ | exact Nat.le_succ _ | assumption) :
  dB w h μ w' (h.set b (.cells sz' cs')) (bH μ b (some ⟨w.heap.size,0,arr.size⟩))/\bZ R B w' (h.set b (.cells sz' cs')) (bH μ b (some ⟨w.heap.size,0,arr.size⟩)) :=by
 have ly:live (h.f b)=true:=by rw[ag]; rfl
 have e:dB w h μ w' (h.set b (.cells sz' cs')) (bH μ b (some ⟨w.heap.size,0,arr.size⟩)) :=by
  refine⟨⟨oJ,rY,jh,by simp[k2],?_,?_,?_,?_,?_,Nat.le_refl _,pw⟩,?_⟩
  ·intro k ax aD;rw[k2,Array.getElem?_push,if_neg (by omega)]
  ·rintro k ⟨bc,ck,c4,bT,rfl⟩;by_cases bX:bc=b
   ·subst bX; simp at bT; subst bT; exact .inr (Nat.le_refl _)
   ·rw[b8 _ _ _ _ bX] at bT;simp only[eI,fx,b8 _ _ _ _ bX] at c4;exact .inl ⟨bc,ck,c4,bT,rfl⟩
  ·intro bc acS s2 ck bN bT;by_cases bX:bc=b
   ·subst bX;rw[ag] at bN; cases bN;exact .inr (.inr ⟨sz',cs',by simp[eI,fx],by omega⟩)
   ·exact .inl ⟨s2,by simp only[eI,fx,b8 _ _ _ _ bX]; exact bN,by rw[b8 _ _ _ _ bX]; exact bT⟩
  ·rintro bc s0 (bN | ⟨n,s2,bN,aO⟩)
   ·have bX:bc≠b:=fun aR=>by rw[aR,ag] at bN; cases bN
    exact .inl (by simp only[eI,fx,b8 _ _ _ _ bX]; exact bN)
   ·by_cases bX:bc=b
    ·subst bX;rw[ag] at bN; cases bN;exact .inr ⟨sz',cs',by simp[eI,fx],by omega⟩
    ·exact .inr ⟨n,s2,by simp only[eI,fx,b8 _ _ _ _ bX]; exact bN,aO⟩
  ·intro bc k ck bN bT;have bX:bc≠b:=fun aR=>by rw[aR,ag] at bN; cases bN
   exact⟨by simp only[eI,fx,b8 _ _ _ _ bX]; exact bN,by rw[b8 _ _ _ _ bX]; exact bT⟩
  ·intro bc _ bT;have bX:bc≠b:=fun aR=>by rw[aR,hm] at bT; cases bT
   rw[b8 _ _ _ _ bX]; exact bT
 refine⟨e,rel.su e.toExt0 b ?_ ?_ ?_ ?_ ?_ ?_⟩
 ·intro bc bX c4;simp only[eI,fx,b8 _ _ _ _ bX] at c4 ⊢;exact⟨trivial,trivial,fun ck bT=>by rw[k2,Array.getElem?_push,if_neg (by have:=rel.lt c4 bT; omega)]⟩
 ·intro ck bT;simp at bT; subst bT;simp only[eI,fx,nr];refine⟨am,by simpa using fg,arr,t,(0,0),by simp[k2],rfl,.inl rfl,fun j c aj=>?_⟩;obtain⟨v,ad,af,al⟩:=aq j c aj;exact⟨v,by simpa using ad,af,al.ext e⟩
 ·intro bc ck Zl bX c4 _ bT z3;simp only[eI,fx,b8 _ _ _ _ bX] at c4;simp at z3; subst z3;have:=rel.lt c4 bT;simp only[ne_eq]; omega
 ·intro ck _ bT;simp at bT; subst bT;exact rel.size
 ·intro bc bN;simp only[eI,fx] at bN ⊢;have bX:bc≠b:=fun aR=>by
   have:=rel.fresh bc bN;rw[aR,ag] at this; cases this
  rw[b8 _ _ _ _ bX];exact rel.fresh bc bN
 ·intro bc bN;simp only[eI,fx] at bN;have bX:bc≠b:=fun aR=>by
   have:=rel.pd hm;omega
  rw[b8 _ _ _ _ bX];exact rel.km bc bN
section
variable {P:Program} {w:World} {R:Nat->Prop} {B:Nat} {h:aW} {μ:cI}
def Good (R:Nat->Prop) (B:Nat) (w:World) (h:aW) (μ:cI) (r:Result Next) (c:U) (h' : aW) :Prop:=
 ∃ v w' μ',(r=.ok (.value v) w'\/(r=.ok .skip w'/\v=undef))/\dB w h μ w' h' μ'/\bZ R B w' h' μ'/\aP w' R h' μ' c v
theorem Good.pure (rel:bZ R B w h μ) {r:Result Next} {c:U} {v:Value} (ay:r=.ok (.value v) w) (aq:aP w R h μ c v) :Good R B w h μ r c h:=
 ⟨v,w,μ,.inl ay,.refl _ _ _,rel,aq⟩
theorem cn {t:TypeId} {d:TypeDesc} (bh:P.underlying t=some d) :(underlying t).run P w=.ok d w:=by
 simp[underlying,bh]
theorem En {t:TypeId} {b:Bool} (ag:dZ P t=some b) :(isAgg t).run P w=.ok b w:=by
 unfold dZ at ag;cases bh:P.underlying t with
 | none=>rw[bh] at ag; cases ag
 | some d=>
  rw[bh] at ag;simp only[Option.map_some,Option.some.injEq] at ag;unfold isAgg;simp only[Sem.run_bind,cn bh,Result.andThen_ok];cases d<;>simp_all
theorem Yn {t:TypeId} {n:Nat} (aD:cC P t=some n) :∃ i,P.info? t=some i/\i.size=n:=by
 unfold cC at aD;cases aB:P.info? t with
 | none=>rw[aB] at aD; cases aD
 | some i=>rw[aB] at aD; exact⟨i,rfl,by simpa using aD⟩
theorem fO {t:TypeId} {n:Nat} (aD:cC P t=some n) :(sizeOf t).run P w=.ok n w:=by
 obtain⟨i,aB,ak⟩:=Yn aD;simp[sizeOf,typeInfo,aB,ak]
theorem aec {t:TypeId} {z:List U} (aw:ho P t=some z) :∃ i v,P.info? t=some i/\i.zero=some v/\v.cells.toList.all Value.oneCell'=true/\z=v.cells.toList.map nH:=by
 unfold ho at aw;cases aB:P.info? t with
 | none=>rw[aB] at aw; cases aw
 | some i=>
  rw[aB] at aw;simp only[Option.bind_some] at aw;cases aq:i.zero with
  | none=>rw[aq] at aw; cases aw
  | some v=>
   rw[aq] at aw;simp only[Option.bind_some] at aw;split at aw
   ·rename_i ad;exact⟨i,v,rfl,aq,ad,by simpa using aw.symm⟩
   ·cases aw
theorem Qw {t:TypeId} {i:TypeInfo} {v:Value} (aB:P.info? t=some i) (aq:i.zero=some v) :(zeroValue t).run P w=.ok v w:=by
 simp[zeroValue,typeInfo,aB,aq]
theorem aP.nH (v:Value) :aP w R h μ (nH v) v:=by
 cases v with
 | bool b=>exact .bool _
 | int k n=>exact .int _ _
 | string s=>exact .str _
 | pointer a=>cases a<;>first | exact .jm | exact .bad _
 | slice a l c=>
  simp only[ca.nH];split
  ·exact .aK
  ·exact .bad _
 | map r=>cases r<;>first | exact .ia | exact .bad _
 | nilFunc=>exact .jk
 | nilIface=>exact .jl
 | func fn first gq=>
  simp only[ca.nH];split
  ·rename_i f ad af;have aS:first=#[] :=by simpa using ad
   have bv:gq=#[] :=by simpa using af
   subst aS bv;exact .fn _ [] [] #[] #[] rfl rfl (fun _ _ _ aR=>by simp at aR) (fun _ _ _ aR=>by simp at aR)
  ·exact .bad _
 | _=>exact .bad _
theorem aP.tW (v:Value) :aP w R h μ (tW v) v:=by
 unfold ca.tW;split
 ·rename_i cs;split
  ·rename_i cR;refine .aH _ _ (by simp) (fun j v aj=>?_) (fun j c v ah kJ=>?_)
   ·rw[List.all_eq_true] at cR;exact cR v (by have:=Array.mem_of_getElem? aj; simpa using this)
   ·rw[List.getElem?_map] at ah;simp only[Array.getElem?_toList,kJ,Option.map_some,Option.some.injEq] at ah;subst ah;exact aP.nH v
  ·exact .bad _
 ·rename_i vs;refine .bu _ _ (by simp) (fun j c v ah kJ=>?_);rw[List.getElem?_map] at ah;simp only[Array.getElem?_toList,kJ,Option.map_some,Option.some.injEq] at ah;subst ah;exact aP.nH v
 ·exact aP.nH v
theorem aP.one {c:U} {v:Value} (aq:aP w R h μ c v) (ad:c.one=true) :v.oneCell'=true:=by
 cases aq<;>first | rfl | (simp[U.one] at ad)
theorem B1 {c:U} {v:Value} {cs:List U} (aq:aP w R h μ c v) (ah:c.cells=some cs) :
  v.cells.size=cs.length/\∀ (j:Nat) (x:U),cs[j]? = some x->∃ u:Value,v.cells[j]? = some u/\u.oneCell'=true/\aP w R h μ x u:=by
 have jn:∀ (c:U) (v:Value),aP w R h μ c v->v.cells=#[v]->v.oneCell'=true->∀ cs,cs=[c]->
   v.cells.size=cs.length/\∀ (j:Nat) (x:U),cs[j]? = some x->∃ u:Value,v.cells[j]? = some u/\u.oneCell'=true/\aP w R h μ x u:=by
  intro c v aq k1 ad cs cR;subst cR;rw[k1];refine⟨rfl,fun j x ai=>?_⟩;cases j with
  | zero=>simp at ai; subst ai; exact⟨v,rfl,ad,aq⟩
  | succ j=>simp at ai
 cases aq with
 | aH cs' vs am ad aq=>
  simp only[U.cells,Option.some.injEq] at ah; subst ah;refine⟨am,fun j x ai=>?_⟩;have aj:j<vs.size:=by rw[am]; exact (List.getElem?_eq_some_iff.1 ai).1
  exact⟨vs[j],by simp[Value.cells,aj],ad j _ (by simp[aj]),aq j x _ ai (by simp[aj])⟩
 | bu cs' vs am aq=>simp[U.cells] at ah
 | bad v=>simp[U.cells] at ah
 | bool b=>exact jn _ _ (.bool b) rfl rfl _ (by simpa [U.cells] using ah.symm)
 | int k n=>exact jn _ _ (.int k n) rfl rfl _ (by simpa [U.cells] using ah.symm)
 | str bs=>exact jn _ _ (.str bs) rfl rfl _ (by simpa [U.cells] using ah.symm)
 | jm=>exact jn _ _ .jm rfl rfl _ (by simpa [U.cells] using ah.symm)
 | aK=>exact jn _ _ .aK rfl rfl _ (by simpa [U.cells] using ah.symm)
 | ia=>exact jn _ _ .ia rfl rfl _ (by simpa [U.cells] using ah.symm)
 | jk=>exact jn _ _ .jk rfl rfl _ (by simpa [U.cells] using ah.symm)
 | jl=>exact jn _ _ .jl rfl rfl _ (by simpa [U.cells] using ah.symm)
 | ptr b off sz cs' m ag hm=>exact jn _ _ (.ptr b off sz cs' m ag hm) rfl rfl _ (by simpa [U.cells] using ah.symm)
 | m9 b off sz a aA=>exact jn _ _ (.m9 b off sz a aA) rfl rfl _ (by simpa [U.cells] using ah.symm)
 | cg cs' off blk o eL eP aq=>exact jn _ _ (.cg cs' off blk o eL eP aq) rfl rfl _ (by simpa [U.cells] using ah.symm)
 | ar z b off len cap sz cap' cs' m ag hm am au eP=>exact jn _ _ (.ar z b off len cap sz cap' cs' m ag hm am au eP) rfl rfl _ (by simpa [U.cells] using ah.symm)
 | hZ z b off len cap sz cap' a am eP aA=>exact jn _ _ (.hZ z b off len cap sz cap' a am eP aA) rfl rfl _ (by simpa [U.cells] using ah.symm)
 | iT z b off sz a cs' m ag hm=>exact jn _ _ (.iT z b off sz a cs' m ag hm) rfl rfl _ (by simpa [U.cells] using ah.symm)
 | b1 z es blk off cap eL am aw eP aq=>exact jn _ _ (.b1 z es blk off cap eL am aw eP aq) rfl rfl _ (by simpa [U.cells] using ah.symm)
 | fw z a cap=>exact jn _ _ (.fw z a cap) rfl rfl _ (by simpa [U.cells] using ah.symm)
 | fn f Ux wI fs cs' aI eP ad af=>exact jn _ _ (.fn f Ux wI fs cs' aI eP ad af) rfl rfl _ (by simpa [U.cells] using ah.symm)
 | mp b m ag hm=>exact jn _ _ (.mp b m ag hm) rfl rfl _ (by simpa [U.cells] using ah.symm)
 | it b m ag hm=>exact jn _ _ (.it b m ag hm) rfl rfl _ (by simpa [U.cells] using ah.symm)
 | hi t c v aq=>exact jn _ _ (.hi t c v aq) rfl rfl _ (by simpa [U.cells] using ah.symm)
 | mF l=>exact jn _ _ (.mF l) rfl rfl _ (by simpa [U.cells] using ah.symm)
theorem Addr.lk (b o n:Nat) :(⟨b,o,none⟩:Addr).add n=⟨b,o+n,none⟩:=by unfold Addr.add; split<;>simp_all
theorem abo (rel:bZ R B w h μ) {p:U} {uc:Value} {cs:List U} {off:Nat} (ay:reach h p=some (cs,off)) (av:aP w R h μ p uc) :
  ∃ blk o,uc=.pointer (some ⟨blk,o+off,none⟩)/\∀ (j:Nat) (c:U),cs[j]? = some c->∃ v:Value,w.cell? ⟨blk,o+j,none⟩=some v/\v.oneCell'=true/\aP w R h μ c v:=by
 cases av with
 | ptr b D0 sz cs' m ag hm=>
  simp only[reach,ag,ite_true,Option.some.injEq,Prod.mk.injEq] at ay;obtain⟨rfl,rfl⟩:=ay;have gj:=rel.blk b m hm;rw[ag] at gj;obtain⟨ad,af,arr,t,gu,al,aG,a6,bK⟩:=gj;refine⟨m.r,m.s,rfl,fun j c aj=>?_⟩;obtain⟨v,a2,bb,cr⟩:=bK j c aj;exact⟨v,by simp[World.cell?,al,a2],bb,cr⟩
 | m9 b D0 sz a aA=>
  unfold reach at ay;rcases aA with aA | ⟨n,cs',aA,aO⟩
  ·simp[aA] at ay
  ·simp only[aA] at ay;split at ay
   ·omega
   ·cases ay
 | cg cs' D0 blk o eL ah aq=>
  simp only[reach,Option.some.injEq,Prod.mk.injEq] at ay;obtain⟨rfl,rfl⟩:=ay;exact⟨blk,o,rfl,fun j c aj=>⟨eL j,(ah j (List.getElem?_eq_some_iff.1 aj).1).here,(ah j (List.getElem?_eq_some_iff.1 aj).1).one,aq j c aj⟩⟩
 | _=>simp[reach] at ay
theorem abT {t:TypeId} {cs:List U} {off:Nat} {c:U} (av:hz P t cs off=some c) {blk o:Nat}
  (ah:∀ (j:Nat) (x:U),cs[j]? = some x->∃ v:Value,w.cell? ⟨blk,o+j,none⟩=some v/\v.oneCell'=true/\aP w R h μ x v) :
  ∃ v,(loadVar t ⟨blk,o+off,none⟩).run P w=.ok v w/\aP w R h μ c v:=by
 unfold hz at av;cases nv:dZ P t with
 | none=>rw[nv] at av; cases av
 | some b=>
  rw[nv] at av;cases b with
  | false=>
   simp only at av;obtain⟨v,ad,_,al⟩:=ah off c av;exact⟨v,by simp[loadVar,En nv,ad],al⟩
  | true=>
   cases aD:cC P t with
   | none=>rw[aD] at av; cases av
   | some n=>
    rw[aD] at av;simp only at av;split at av
    ·rename_i er;simp only[Option.some.injEq] at av;subst av;have GF:∀ j,j<n->∃ v,w.cell? ⟨blk,o+(off+j),none⟩=some v/\v.oneCell'=true/\aP w R h μ (cs.getD (off+j) .bad) v:=by
      intro j aj;have aO:off+j<cs.length:=by omega
      have:=ah (off+j) cs[off+j] (by simp[aO]);simpa [List.getD,aO] using this
     have aq:∃ f:Nat->Value,∀ j,j<n->w.cell? ⟨blk,o+(off+j),none⟩=some (f j)/\(f j).oneCell'=true/\aP w R h μ (cs.getD (off+j) .bad) (f j) :=by
      refine⟨fun j=>if aj:j<n then Classical.choose (GF j aj) else undef,fun j aj=>?_⟩;simp only[aj,dif_pos];exact Classical.choose_spec (GF j aj)
     obtain⟨f,aI⟩:=aq;have am:(loadCells ⟨blk,o+off,none⟩ n).run P w=.ok ((List.range n).map f).toArray w:=by
      have:=run_loadCells_list (P:=P) w ⟨blk,o+off,none⟩ ((List.range n).map f) (fun j v aj=>by
       rw[List.getElem?_map] at aj;have iY:j<n:=by
        rcases Nat.lt_or_ge j n with ad | ad
        ·exact ad
        ·rw[List.getElem?_eq_none (by simpa using ad)] at aj; cases aj
       rw[List.getElem?_range iY] at aj;simp only[Option.map_some,Option.some.injEq] at aj;rw[Addr.lk,<-aj,Nat.add_assoc];exact (aI j iY).1)
      simpa using this
     refine⟨.agg ((List.range n).map f).toArray,by simp[loadVar,En nv,fO aD,am],.aH _ _ (by simp; omega) (fun j v aj=>?_) (fun j c v eP aj=>?_)⟩
     ·simp only[List.getElem?_toArray,List.getElem?_map] at aj;have iY:j<n:=by
       rcases Nat.lt_or_ge j n with ad | ad
       ·exact ad
       ·rw[List.getElem?_eq_none (by simpa using ad)] at aj; cases aj
      rw[List.getElem?_range iY] at aj;simp only[Option.map_some,Option.some.injEq] at aj;rw[<-aj]; exact (aI j iY).2.1
     ·simp only[List.getElem?_toArray,List.getElem?_map] at aj;have iY:j<n:=by
       rcases Nat.lt_or_ge j n with ad | ad
       ·exact ad
       ·rw[List.getElem?_eq_none (by simpa using ad)] at aj; cases aj
      rw[List.getElem?_range iY] at aj;simp only[Option.map_some,Option.some.injEq] at aj;rw[List.getElem?_take_of_lt iY,List.getElem?_drop] at eP;have:=(aI j iY).2.2;rw[List.getD,eP] at this;rw[<-aj]; simpa using this
    ·cases av
theorem OC (rel:bZ R B w h μ) {t:TypeId} {p:U} {uc:Value} {c:U} (am:qT P h t p=some c) (av:aP w R h μ p uc) :
  ∃ v,(Instr.loadAt t uc).run P w=.ok v w/\aP w R h μ c v:=by
 unfold qT at am;cases ay:reach h p with
 | none=>rw[ay] at am; cases am
 | some x=>
  obtain⟨cs,off⟩:=x;rw[ay] at am;obtain⟨blk,o,rfl,ah⟩:=abo rel ay av;obtain⟨v,ad,af⟩:=abT am ah;exact⟨v,by simp[Instr.loadAt,Instr.sureAddr,ad],af⟩
end

section
variable {P:Program} {w:World} {R:Nat->Prop} {B:Nat} {h:aW} {μ:cI}
theorem Qv (P:Program) (g o:Nat) (t:TypeId) (gu:Nat × Nat) :∀ (vs:List Value) (i:Nat) (hD:Array Value) (w:World),w.heap[g]? = some (.cells hD t gu)->(gu=(0,0)\/hD.size<=gu.1)->
  o+i+vs.length<=hD.size->(∀ v∈vs,v.oneCell'=true)->
  (storeCells ⟨g,o,none⟩ vs i).run P w=.ok () (w.setRow g (hD.toList.take (o+i)++vs++hD.toList.drop (o+i+vs.length)).toArray)
 | [],i,hD,w,aA,_,_,_=>by
  simp only[storeCells,List.append_nil,List.length_nil,Nat.add_zero,List.take_append_drop,Array.toArray_toList];rw[setRow_self w g hD t gu aA];rfl
 | v::rest,i,hD,w,aA,oB,am,ad=>by
  have aB:o+i<hD.size:=by simp at am; omega
  have VF:(⟨g,o,none⟩:Addr).add i=⟨g,o+i,none⟩:=Addr.lk _ _ _;have lw:w.cell? ⟨g,o+i,none⟩=some hD[o+i] :=by simp[World.cell?,aA,aB]
  have Wo:w.frozen? ⟨g,o+i,none⟩=false:=by
   obtain⟨cE,fW⟩:=gu;rcases oB with oB | oB
   ·cases oB; simp[World.frozen?,aA]
   ·have:¬ cE<=o+i:=by simp at oB; omega
    simp[World.frozen?,aA,this]
  have bY:(store ((⟨g,o,none⟩:Addr).add i) v).run P w=.ok () (w.setRow g (hD.setIfInBounds (o+i) v)) :=by
   rw[VF,run_store P w _ v _ (ad v (by simp)),lw];simp[Wo,setCell_eq_setRow w g (o+i) hD t gu v aA]
  have aQ:=Qv P g o t gu rest (i+1) (hD.setIfInBounds (o+i) v) (w.setRow g (hD.setIfInBounds (o+i) v)) (setRow_heap w g hD _ t _ aA) (by simpa using oB) (by simp at am ⊢; omega) (fun x ai=>ad x (by simp[ai]));simp only[storeCells,Sem.run_bind,bY,Result.andThen_ok,aQ,setRow_setRow];congr 3;have:=list_seg_step hD.toList (o+i) v rest (by simp at am ⊢; omega);simpa [Nat.add_assoc,Nat.add_comm 1] using this
theorem wm {cs vs:List U} {k:Nat} (ax:k<=cs.length) :(bi cs k vs).length=max cs.length (k+vs.length) :=by
 unfold bi;simp only[List.length_append,List.length_take,List.length_drop];omega
theorem QP {cs vs:List U} {k j:Nat} (ax:k<=cs.length) :(bi cs k vs)[j]? = if j<k then cs[j]? else if j<k+vs.length then vs[j - k]? else cs[j]?:=by
 unfold bi;rw[List.append_assoc];by_cases ad:j<k
 ·rw[List.getElem?_append_left (by simp; omega),List.getElem?_take_of_lt ad,if_pos ad]
 ·rw[List.getElem?_append_right (by simp; omega),if_neg ad];simp only[List.length_take,Nat.min_eq_left ax];by_cases af:j<k+vs.length
  ·rw[List.getElem?_append_left (by omega),if_pos af]
  ·rw[List.getElem?_append_right (by omega),if_neg af,List.getElem?_drop];congr 1; omega
theorem yB (rel:bZ R B w h μ) {b sz k:Nat} {cs cvs:List U} {m:M} {vs:List Value} (ag:h.f b=.cells sz cs) (hm:μ b=some m) (ax:k<=sz)
  (am:vs.length=cvs.length) (fg:m.s+max sz (k+cvs.length)<=m.T)
  (aq:∀ (j:Nat) (c:U),cvs[j]? = some c->∃ v:Value,vs[j]? = some v/\v.oneCell'=true/\aP w R h μ c v) :
  ∃ w',(storeCells ⟨m.r,m.s+k,none⟩ vs).run P w=.ok () w'/\dB w h μ w' (h.set b (.cells (max sz (k+cvs.length)) (bi cs k cvs))) μ ∧
   bZ R B w' (h.set b (.cells (max sz (k+cvs.length)) (bi cs k cvs))) μ:=by
 have gj:=rel.blk b m hm;rw[ag] at gj;obtain⟨bC,gH,arr,t,gu,ay,aC,oB,ah⟩:=gj;have ad:∀ v∈vs,v.oneCell'=true:=by
  intro v lB;obtain⟨j,aj,rfl⟩:=List.getElem_of_mem lB;obtain⟨v,a2,bb,_⟩:=aq j (cvs[j]'(by omega)) (by simp);rw[List.getElem?_eq_getElem aj] at a2;cases a2;exact bb
 have lD:=Qv P m.r (m.s+k) t gu vs 0 arr w ay (by rw[aC]; exact oB.imp id Nat.le_of_lt) (by omega) ad;simp only[Nat.add_zero] at lD;have rX:(arr.toList.take (m.s+k)++vs++arr.toList.drop (m.s+k+vs.length)).toArray.size=arr.size:=by
  simp only[List.size_toArray,List.length_append,List.length_take,List.length_drop,Array.length_toList];omega
 have eQ:=rel.write (w':=w.setRow m.r (arr.toList.take (m.s+k)++vs++arr.toList.drop (m.s+k+vs.length)).toArray) (cs':=bi cs k cvs) (sz':=max sz (k+cvs.length)) ag hm ay aC oB
  rfl rfl rfl (by simp[World.setRow]) (setRow_heap w m.r arr _ t gu ay) (fun k' eG=>setRow_other w m.r k' _ eG) rX
  (by rw[wm (by omega),bC]) (by omega) (by omega) (fun j c aj=>?_)
 ·exact⟨_,lD,eQ.1,eQ.2⟩
 ·rw[QP (by omega)] at aj;simp only[List.getElem?_toArray];rw[List.append_assoc];split at aj
  ·rename_i aO;obtain⟨v,a2,bb,cr⟩:=ah j c aj;refine⟨v,?_,bb,cr⟩;rw[List.getElem?_append_left (by simp; omega),List.getElem?_take_of_lt (by omega)];simpa using a2
  ·rename_i tf;split at aj
   ·rename_i aO;obtain⟨v,a2,bb,cr⟩:=aq _ c aj;refine⟨v,?_,bb,cr⟩;have vO:min (m.s+k) arr.size=m.s+k:=by omega
    rw[List.getElem?_append_right (by simp; omega)];simp only[List.length_take,Array.length_toList,vO];rw[List.getElem?_append_left (by omega),<-a2];congr 1; omega
   ·rename_i agd;obtain⟨v,a2,bb,cr⟩:=ah j c aj;refine⟨v,?_,bb,cr⟩;have vO:min (m.s+k) arr.size=m.s+k:=by omega
    rw[List.getElem?_append_right (by simp; omega)];simp only[List.length_take,Array.length_toList,vO];rw[List.getElem?_append_right (by omega),List.getElem?_drop];have:(m.s+k+vs.length+(m.s+j - (m.s+k) - vs.length))=m.s+j:=by omega
    rw[this];simpa using a2
theorem acJ (rel:bZ R B w h μ) {t:TypeId} {p v:U} {uc nW:Value} {h' : aW} (ak:yp P h t p v=some h') (av:aP w R h μ p uc) (aq:aP w R h μ v nW) :
  ∃ w',(Instr.storeAt t uc nW).run P w=.ok () w'/\dB w h μ w' h' μ/\bZ R B w' h' μ:=by
 unfold yp at ak;split at ak
 ·rename_i b off sz vs n l8 aD;obtain⟨hv,kL⟩:=B1 aq l8;cases ag:h.f b with
  | cells m cs=>
   rw[ag] at ak;simp only at ak;split at ak
   ·rename_i iX;obtain⟨rfl,bC,fg⟩:=iX;simp only[Option.some.injEq] at ak;subst ak;cases av with
    | ptr bc D0 sz' cs' b2 bN hm=>
     have gj:=rel.blk b b2 hm;rw[ag] at gj;have gH:=gj.2.1;obtain⟨w',ad,af,al⟩:=yB (P:=P) rel (cvs:=vs) (vs:=nW.cells.toList) (k:=off) ag hm (by omega) (by simpa using hv) (by omega)
      (fun j c aj=>by obtain⟨u,a2,bb,cr⟩:=kL j c aj; exact⟨u,by simpa using a2,bb,cr⟩)
     have lA:max m (off+vs.length)=m:=by omega
     rw[lA] at af al;refine⟨w',?_,af,al⟩;have bW:¬ (nW.cells.size≠n) :=by omega
     simp[Instr.storeAt,Instr.sureAddr,storeVar,fO aD,bW,ad]
    | m9 bc D0 sz' a aA=>
     rcases aA with aA | ⟨hX,cs',aA,aO⟩
     ·rw[aA] at ag; cases ag
     ·rw[aA] at ag; cases ag; omega
   ·cases ak
  | _=>rw[ag] at ak; cases ak
 ·cases ak
theorem BJ (rel:bZ R B w h μ) {cs:List U} {vs:Array Value} (t:TypeId) (am:vs.size=cs.length)
  (aq:∀ (j:Nat) (c:U),cs[j]? = some c->∃ v:Value,vs[j]? = some v/\v.oneCell'=true/\aP w R h μ c v) :
  let h':=h.push (.cells cs.length cs)
  let μ':=bH μ h.n (some ⟨w.heap.size,0,vs.size⟩)
  let w':=w.alloc (.cells vs t)
  dB w h μ w' h' μ'/\bZ R B w' h' μ'/\∀ off,aP w' R h' μ' (.ptr h.n off cs.length) (.pointer (some ⟨w.heap.size,off,none⟩)) :=by
 intro h' μ' w';have:=rel.push (w':=w') cs vs t rfl rfl rfl rfl (by omega) aq;refine⟨this.1,this.2,fun off=>?_⟩;have av:=aP.ptr (w:=w') (R:=R) (h:=h') (μ:=μ') h.n off cs.length cs ⟨w.heap.size,0,vs.size⟩ (by simp[h',eH,fv]) (by simp[μ']);simpa using av
theorem RV {t:TypeId} {z:List U} (aw:ho P t=some z) :∃ i v,P.info? t=some i/\i.zero=some v/\v.cells.size=z.length ∧
  ∀ (j:Nat) (c:U),z[j]? = some c->∃ u:Value,v.cells[j]? = some u/\u.oneCell'=true/\aP w R h μ c u:=by
 obtain⟨i,v,aB,aq,ad,rfl⟩:=aec aw;refine⟨i,v,aB,aq,by simp,fun j c aj=>?_⟩;rw[List.getElem?_map] at aj;cases aM:v.cells[j]? with
 | none=>simp[aM] at aj
 | some u=>
  simp[aM] at aj;subst aj;rw[List.all_eq_true] at ad;exact⟨u,rfl,ad u (by have:=Array.mem_of_getElem? aM; simpa using this),aP.nH u⟩
theorem KY {x:U} {bA:Value} {k:Nat} {c:U} (ah:mO x k=some c) (ai:aP w R h μ x bA) :
  ∃ a,bA=.pointer (some a)/\aP w R h μ c (.pointer (some (a.add k))) :=by
 cases ai with
 | ptr b off sz cs m ag hm=>
  simp only[mO,Option.some.injEq] at ah; subst ah;refine⟨_,rfl,?_⟩;rw[Addr.lk,Nat.add_assoc];exact .ptr b _ sz cs m ag hm
 | m9 b off sz a aA=>
  simp only[mO,Option.some.injEq] at ah; subst ah;exact⟨a,rfl,.m9 _ _ _ _ aA⟩
 | cg cs off blk o eL eP aq=>
  simp only[mO,Option.some.injEq] at ah; subst ah;refine⟨_,rfl,?_⟩;rw[Addr.lk,Nat.add_assoc];exact .cg cs _ blk o eL eP aq
 | _=>simp[mO] at ah
theorem Lz {s:TypeId} {f:Nat} {fd:Field} (aI:vl P s f=some fd) :∃ fs,P.underlying s=some (.struct fs)/\fs[f]? = some fd:=by
 unfold vl at aI;split at aI
 ·rename_i fs aM; exact⟨fs,aM,aI⟩
 ·cases aI
theorem Uy {s:TypeId} {x c:U} {bA:Value} {f:Nat} (ah:Cd P s x f=some c) (ai:aP w R h μ x bA) :
  ∃ v,(Instr.fieldAt s bA f).run P w=.ok v w/\aP w R h μ c v:=by
 unfold Cd at ah;split at ah
 ·rename_i fd aI;obtain⟨fs,aM,rJ⟩:=Lz aI;split at ah
  ·rename_i n aD;obtain⟨a,rfl,aq⟩:=KY ah ai;refine⟨_,?_,aq⟩;simp[Instr.fieldAt,cn aM,rJ,Instr.sureAddr,fieldPlace,fO aD]
  ·cases ah
 ·cases ah
theorem qk {x:U} {bA:Value} {n:Int} (aB:asInt x=some n) (ai:aP w R h μ x bA) :∃ k,bA=.int k n:=by
 cases ai<;>simp[asInt] at aB;subst aB;exact⟨_,rfl⟩
theorem Yk {t:TypeId} {x ew c:U} {bA Aw:Value} (ah:Au P t x ew=some c) (ai:aP w R h μ x bA) (aB:aP w R h μ ew Aw) :
  ∃ v,(Instr.indexAt t bA Aw).run P w=.ok v w/\aP w R h μ c v:=by
 unfold Au at ah;split at ah
 ·rename_i len e i aM de;obtain⟨k,rfl⟩:=qk de aB;cases aw:cC P e with
  | none=>rw[aw] at ah; cases ah
  | some z=>
   rw[aw] at ah;simp only at ah;split at ah
   ·rename_i ag;obtain⟨a,rfl,aq⟩:=KY ah ai;refine⟨_,?_,aq⟩;simp[Instr.indexAt,asIntOf,cn aM,Instr.sureAddr,ag,fO aw]
   ·cases ah
 ·rename_i e i aM de;obtain⟨k,rfl⟩:=qk de aB;split at ah
  ·rename_i z dG b off len cap sz aw;split at ah
   ·rename_i ag;obtain⟨rfl,ag⟩:=ag;simp only[Option.some.injEq] at ah; subst ah;cases ai with
    | ar _ _ _ _ _ _ cap' cs m bN hm am au da=>
     refine⟨_,?_,aP.ptr b (off+i.toNat*z) sz cs m bN hm⟩;simp[Instr.indexAt,asIntOf,cn aM,ag,fO aw,Addr.lk,Nat.add_assoc]
    | iT=>simp at ag; omega
    | hZ _ _ _ _ _ _ cap' a am da aA=>
     refine⟨_,?_,aP.m9 b _ sz (a.add (i.toNat*z)) aA⟩;simp[Instr.indexAt,asIntOf,cn aM,ag,fO aw]
   ·cases ah
  ·rename_i z dG es aw;split at ah
   ·rename_i ag;obtain⟨rfl,ag⟩:=ag;cases ao:es[i.toNat]? with
    | none=>rw[ao] at ah; cases ah
    | some e6=>
     rw[ao] at ah;simp only[Option.map_some,Option.some.injEq] at ah; subst ah;have aO:i.toNat<es.length:=(List.getElem?_eq_some_iff.1 ao).1;have dj:(0<=i/\i<(es.length:Int)) :=by omega
     cases ai with
     | b1 _ _ blk off cap eL am Ar lw aq=>
      have We:e6.length=z:=Ar _ (List.mem_of_getElem? ao);refine⟨_,?_,aP.cg e6 0 blk (off+i.toNat*z) (eL i.toNat) (fun j aj=>?_) (aq _ _ ao)⟩
      ·simp[Instr.indexAt,asIntOf,cn aM,dj,fO aw,Addr.lk]
      ·have:=lw i.toNat j aO (by omega)
       rwa [Nat.add_assoc]
     | fw=>simp at aO
   ·cases ah
  ·cases ah
 ·cases ah
end

end Go.ca

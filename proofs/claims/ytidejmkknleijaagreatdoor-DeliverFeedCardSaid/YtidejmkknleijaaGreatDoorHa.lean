/-
  The canonical machine, part A: its values, blocks, heap, and what one operation does.
-/
import Derived.WalkKit
import Derived.Below
import Derived.Laws.AppendOwn
import Derived.Laws.CopyRow
import Derived.Laws.IdiomCopy
import Derived.Laws.StructEq
set_option linter.unusedVariables false
set_option linter.unusedSimpArgs false
set_option linter.unnecessarySimpa false
namespace Go.bV
abbrev awQ:=@List.getElem?_eq_some_iff
abbrev awR:=@List.take_of_length_le
abbrev awS:=@List.getElem?_append_left
abbrev awT:=@List.getElem?_eq_getElem
abbrev awU:=@Nat.le_refl
abbrev awV:=@List.getElem?_map
abbrev awW:=@List.length_append
abbrev awX:=@Nat.mul_le_mul_right
abbrev awY:=@List.mem_of_getElem?
abbrev awZ:=@Bool.and_eq_true
abbrev aw0:=@Option.map_some
abbrev aw1:=@List.length_map
abbrev aw2:=@Nat.mod_eq_of_lt
abbrev aw3:=@List.mem_iff_getElem?
abbrev aw4:=@List.getElem?_set
abbrev aw5:=@List.getElem?_eq_none
abbrev aw6:=@List.getElem?_append_right
abbrev aw7:=@List.getD_eq_getElem?_getD
abbrev aw8:=@BitVec.eq_of_toNat_eq
abbrev aw9:=@BitVec.toNat_setWidth
abbrev axa:=@List.length_cons
abbrev axb:=@List.getElem?_set_self
abbrev axc:=@List.map_append
abbrev axd:=@List.length_take
abbrev axe:=@List.take_add_one
abbrev axf:=@BitVec.toNat_ofNat
abbrev axg:=@List.getElem?_set_ne
abbrev axh:=@List.getElem?_cons_zero
abbrev axi:=@List.mem_map
abbrev axj:=@Array.getD_eq_getD_getElem?
abbrev axk:=@List.map_cons
abbrev axl:=@Array.getElem?_eq_some_iff
abbrev axm:=@List.getElem?_take_of_lt
abbrev axn:=@Nat.shiftRight_eq_div_pow
abbrev axo:=@List.take_length
abbrev axp:=@List.mem_of_mem_take
abbrev axq:=@Int.toNat_natCast
abbrev axr:=@List.append_nil
abbrev axs:=@List.take_append_of_le_length
abbrev axt:=@Nat.eq_of_beq_eq_true
abbrev axu:=@List.getElem?_range
abbrev axv:=@List.getElem?_drop
abbrev axw:=@Nat.succ_mul
abbrev axx:=@List.all_eq_true
abbrev axy:=@Nat.le_trans
abbrev axz:=@List.mem_range
abbrev axA:=@List.drop_eq_nil_of_le
abbrev axB:=@List.length_nil
abbrev axC:=@List.drop_eq_getElem_cons
abbrev axD:=@List.flatten_cons
abbrev axE:=@List.ext_getElem?
abbrev axF:=@List.length_eq_zero_iff
abbrev axG:=@List.getElem?_cons_succ
abbrev axH:=@List.append_assoc
abbrev axI:=@Option.getD_some
abbrev axJ:=@List.replicate_succ
abbrev axK:=@List.cons_append
abbrev axL:=@Nat.add_mul
abbrev axM:=@BitVec.toNat_ushiftRight
abbrev axN:=@List.mem_append
abbrev axO:=@List.flatten_append
abbrev axP:=@List.length_drop
abbrev axQ:=@List.mem_singleton
abbrev axR:=@List.drop_append_of_le_length
abbrev axS:=@List.set_append_right
abbrev axT:=@List.nil_append
abbrev axU:=@List.mem_cons
abbrev axV:=@Nat.zero_add
abbrev axW:=@Nat.le_of_ble_eq_true
abbrev axX:=@List.take_append_drop
abbrev axY:=@Int.eq_ofNat_of_zero_le
abbrev axZ:=@Array.getElem?_eq_getElem
abbrev ax0:=@List.mem_filter
abbrev ax1:=@Nat.lt_or_ge
abbrev ax2:=@Nat.zero_le
abbrev ax3:=@Array.getElem?_append_left
abbrev ax4:=@BitVec.toNat_umod
abbrev ax5:=@List.drop_zero
abbrev ax6:=@Array.getElem?_setIfInBounds
abbrev ax7:=@List.length_filter_le
abbrev ax8:=@Bool.false_eq_true
abbrev ax9:=@List.filter_append
abbrev aya:=@List.getElem?_of_mem
abbrev ayb:=@List.take_zero
abbrev ayc:=@Nat.lt_trichotomy
abbrev ayd:=@Array.getElem?_toList
abbrev aye:=@List.eq_of_mem_replicate
abbrev ayf:=@BitVec.toNat_udiv
abbrev ayg:=@Array.getElem?_append_right
abbrev ayh:=@Nat.min_eq_left
abbrev ayi:=@List.map_congr_left
abbrev ayj:=@List.map_nil
abbrev ayk:=@List.set_eq_take_append_cons_drop
abbrev ayl:=@List.drop_of_length_le
abbrev aym:=@Nat.add_assoc
abbrev ayn:=@Bool.true_and
abbrev ayo:=@Nat.shiftLeft_eq
abbrev ayp:=@List.mapM_cons
abbrev ayq:=@List.getElem?_eq_none_iff
abbrev ayr:=@List.getElem?_zip_eq_some
abbrev ays:=@List.mem_or_eq_of_mem_set
abbrev ayt:=@Nat.mul_one
abbrev ayu:=@List.mem_of_mem_drop
abbrev ayv:=@List.map_map
abbrev ayw:=@BitVec.ofInt_natCast
abbrev ayx:=@List.take_take
abbrev ayy:=@Nat.lt_of_lt_of_le
abbrev ayz:=@Nat.le_of_lt
abbrev ayA:=@List.set_cons_zero
abbrev ayB:=@List.getElem?_concat_length
abbrev ayC:=@Option.pure_def
abbrev ayD:=@Bool.not_eq_true'
abbrev ayE:=@List.foldl_append
abbrev ayF:=@Bool.eq_false_iff
abbrev ayG:=@Option.bind_some
abbrev ayH:=@List.take_append
abbrev ayI:=@BitVec.toNat_mul
abbrev ayJ:=@List.any_eq_true
abbrev ayK:=@Array.length_toList
abbrev ayL:=@Bool.and_self
abbrev ayM:=@List.sum_cons
abbrev ayN:=@Bool.or_eq_true
abbrev ayO:=@Nat.mod_lt
abbrev ayP:=@List.range_succ
abbrev ayQ:=@Array.getElem?_eq_none
abbrev ayR:=@BitVec.toNat_shiftLeft
abbrev ayS:=@List.count_append
abbrev ayT:=@List.pairwise_map
abbrev ayU:=@Nat.zero_mul
abbrev ayV:=@Nat.sub_self
abbrev ayW:=@Nat.add_zero
abbrev ayX:=@List.getElem?_zipWith
abbrev ayY:=@Nat.le_of_not_lt
abbrev ayZ:=@Bool.not_eq_true
abbrev ay0:=@List.count_singleton
abbrev ay1:=@List.map_take
abbrev ay2:=@List.map_eq_nil_iff
abbrev ay3:=@List.mem_map_of_mem
abbrev ay4:=@List.takeWhile_cons
abbrev ay5:=@List.pairwise_iff_getElem
abbrev ay6:=@Nat.add_comm
abbrev ay7:=@Array.append_assoc
abbrev ay8:=@Option.isSome_none
abbrev ay9:=@Array.getElem?_map
abbrev aza:=@Array.getElem?_replicate
abbrev azb:=@List.set_cons_succ
abbrev azc:=@Nat.sub_zero
abbrev azd:=@List.map_replicate
abbrev aze:=@List.drop_take
abbrev azf:=@Bool.false_and
abbrev azg:=@Nat.one_mul
abbrev azh:=@Nat.mul_mod
abbrev azi:=@BitVec.toNat_and
abbrev azj:=@Array.getElem?_setIfInBounds_ne
abbrev azk:=@Nat.beq_refl
abbrev azl:=@Array.eq_empty_of_size_eq_zero
abbrev azm:=@List.find?_cons
abbrev azn:=@List.mem_cons_of_mem
abbrev azo:=@Nat.and_two_pow_sub_one_eq_mod
abbrev azp:=@Bool.eq_iff_iff
abbrev azq:=@List.pairwise_append
abbrev azr:=@Nat.shiftLeft_add_eq_or_of_lt
abbrev azs:=@List.flatMap_append
abbrev azt:=@List.drop_drop
abbrev azu:=@Nat.pow_add
abbrev azv:=@Nat.pow_mod
abbrev azw:=@Nat.eq_or_lt_of_le
abbrev azx:=@List.mem_cons_self
abbrev azy:=@Bool.true_eq_false
abbrev azz:=@List.pairwise_cons
abbrev azA:=@Array.size_append
abbrev azB:=@List.size_toArray
abbrev azC:=@List.take_sublist
abbrev azD:=@List.mem_of_find?_eq_some
abbrev azE:=@Option.isNone_iff_eq_none
abbrev azF:=@Option.isSome_iff_exists
abbrev azG:=@Nat.mul_comm
abbrev azH:=@Nat.max_eq_right
abbrev azI:=@BitVec.toNat_add
abbrev azJ:=@Nat.div_eq_of_lt
abbrev azK:=@BitVec.toNat_not
abbrev azL:=@List.find?_range_eq_some
abbrev azM:=@List.nodup_range
abbrev azN:=@List.set_set
abbrev azO:=@List.getElem?_replicate
abbrev azP:=@List.pairwise_singleton
abbrev azQ:=@List.foldl_cons
abbrev azR:=@List.length_set
abbrev azS:=@Nat.max_eq_left
abbrev azT:=@List.nodup_cons
abbrev azU:=@Nat.min_def
abbrev azV:=@Bool.not_false
abbrev azW:=@Nat.blt_eq
abbrev azX:=@List.all_cons
open Go
inductive U where
 | bool (b:Bool)
 | int (k:IntKind) (n:Int)
 | str (s:List UInt8)
 | kV | aG | iY | kT | kU
 | aH (cs:List U)
 | bq (vs:List U)
 | ptr (b off sz:Nat)
 | bM (cs:List U) (off:Nat)
 | aq (z b off len cap sz:Nat)
 | a1 (z:Nat) (es:List (List U))
 | fn (f:FuncId) (first gL:List U)
 | mp (b:Nat)
 | it (b:Nat)
 | hM (t:TypeId) (v:U)
 | hE (l:Nat)
 | bad
 deriving Inhabited
inductive aV where
 | none
 | dead
 | cells (sz:Nat) (cs:List U)
 | map (es:List (U × U × Nat)) (arQ:Nat)
 | iter (s:List UInt8) (pos:Nat)
 deriving Inhabited
inductive cE (α:Type) where
 | nil
 | node (l:cE α) (v:Option α) (r:cE α)
def cE.get {α:Type}:cE α->Nat->Option α
 | .nil,_=>none
 | .node l v r,n=>match Nat.beq n 0 with
  | true=>v
  | false=>match Nat.beq (n % 2) 1 with
   | true=>l.get (n / 2)
   | false=>r.get (n / 2 - 1)
def cE.lB {α:Type}:Nat->cE α->Nat->α->cE α
 | 0,t,_,_=>t
 | k+1,.nil,n,x=>match Nat.beq n 0 with
  | true=>.node .nil (some x) .nil
  | false=>match Nat.beq (n % 2) 1 with
   | true=>.node (cE.lB k .nil (n / 2) x) none .nil
   | false=>.node .nil none (cE.lB k .nil (n / 2 - 1) x)
 | k+1,.node l v r,n,x=>match Nat.beq n 0 with
  | true=>.node l (some x) r
  | false=>match Nat.beq (n % 2) 1 with
   | true=>.node (cE.lB k l (n / 2) x) v r
   | false=>.node l v (cE.lB k r (n / 2 - 1) x)
def cE.set {α:Type} (t:cE α) (n:Nat) (x:α) :cE α:=t.lB (n+1) n x
theorem kt {a b:Nat} (h:¬ a=b) :Nat.beq a b=false:=by
 cases af:Nat.beq a b with
 | false=>rfl
 | true=>exact absurd (axt af) h
theorem ua {a b:Nat} (h:a=b) :Nat.beq a b=true:=by subst h; exact azk a
theorem cE.D3 {α:Type}:∀ (k:Nat) (t:cE α) (n:Nat) (x:α) (m:Nat),n<k->(t.lB k n x).get m=if m=n then some x else t.get m
 | 0,_,_,_,_,h=>by omega
 | k+1,.nil,n,x,m,h=>by
  unfold cE.lB;by_cases aJ:n=0
  ·subst aJ;simp only;unfold cE.get;by_cases hm:m=0
   ·subst hm; simp
   ·have:Nat.beq m 0=false:=kt hm;simp only[this,if_neg hm];split<;>rfl
  ·have af:Nat.beq n 0=false:=kt aJ;simp only[af];by_cases ad:n % 2=1
   ·have gB:Nat.beq (n % 2) 1=true:=ua ad;simp only[gB];unfold cE.get;by_cases hm:m=0
    ·subst hm; simp; omega
    ·have:Nat.beq m 0=false:=kt hm;simp only[this];by_cases ih:m % 2=1
     ·have:Nat.beq (m % 2) 1=true:=ua ih;simp only[this];rw[cE.D3 k .nil (n / 2) x (m / 2) (by omega)];by_cases am:m=n
      ·subst am; simp
      ·rw[if_neg am,if_neg (by omega)]; rfl
     ·have:Nat.beq (m % 2) 1=false:=kt ih;simp only[this];rw[if_neg (by intro aT; subst aT; exact ih ad)];rfl
   ·have gB:Nat.beq (n % 2) 1=false:=kt ad;simp only[gB];unfold cE.get;by_cases hm:m=0
    ·subst hm; simp; omega
    ·have:Nat.beq m 0=false:=kt hm;simp only[this];by_cases ih:m % 2=1
     ·have:Nat.beq (m % 2) 1=true:=ua ih;simp only[this];rw[if_neg (by intro aT; subst aT; exact ad ih)];rfl
     ·have:Nat.beq (m % 2) 1=false:=kt ih;simp only[this];rw[cE.D3 k .nil (n / 2 - 1) x (m / 2 - 1) (by omega)];by_cases am:m=n
      ·subst am; simp
      ·rw[if_neg am,if_neg (by omega)]; rfl
 | k+1,.node l v r,n,x,m,h=>by
  unfold cE.lB;by_cases aJ:n=0
  ·subst aJ;simp only;unfold cE.get;by_cases hm:m=0
   ·subst hm; simp
   ·have:Nat.beq m 0=false:=kt hm;simp only[this,if_neg hm]
  ·have af:Nat.beq n 0=false:=kt aJ;simp only[af];by_cases ad:n % 2=1
   ·have gB:Nat.beq (n % 2) 1=true:=ua ad;simp only[gB];unfold cE.get;by_cases hm:m=0
    ·subst hm; simp; omega
    ·have:Nat.beq m 0=false:=kt hm;simp only[this];by_cases ih:m % 2=1
     ·have:Nat.beq (m % 2) 1=true:=ua ih;simp only[this];rw[cE.D3 k l (n / 2) x (m / 2) (by omega)];by_cases am:m=n
      ·subst am; simp
      ·rw[if_neg am,if_neg (by omega)]
     ·have:Nat.beq (m % 2) 1=false:=kt ih;simp only[this];rw[if_neg (by intro aT; subst aT; exact ih ad)]
   ·have gB:Nat.beq (n % 2) 1=false:=kt ad;simp only[gB];unfold cE.get;by_cases hm:m=0
    ·subst hm; simp; omega
    ·have:Nat.beq m 0=false:=kt hm;simp only[this];by_cases ih:m % 2=1
     ·have:Nat.beq (m % 2) 1=true:=ua ih;simp only[this];rw[if_neg (by intro aT; subst aT; exact ad ih)]
     ·have:Nat.beq (m % 2) 1=false:=kt ih;simp only[this];rw[cE.D3 k r (n / 2 - 1) x (m / 2 - 1) (by omega)];by_cases am:m=n
      ·subst am; simp
      ·rw[if_neg am,if_neg (by omega)]
theorem cE.w6 {α:Type} (t:cE α) (n:Nat) (x:α) (m:Nat) :(t.set n x).get m=if m=n then some x else t.get m:=cE.D3 _ _ _ _ _ (by omega)
structure aO where
 n:Nat
 t:cE aV
def aO.f (h:aO) (b:Nat) :aV:=match h.t.get b with | some c=>c | none=>.none
def aO.empty:aO:=⟨0,.nil⟩
def bB {α:Type} (f:Nat->α) (i:Nat) (v:α) :Nat->α:=fun j=>if j=i then v else f j
def aO.push (h:aO) (c:aV) :aO:=⟨h.n+1,h.t.set h.n c⟩
def aO.set (h:aO) (b:Nat) (c:aV) :aO:=⟨h.n,h.t.set b c⟩
theorem fJ (h:aO) (c:aV) :(h.push c).n=h.n+1:=rfl
theorem e2 (h:aO) (b:Nat) (c:aV) :(h.set b c).n=h.n:=rfl
theorem ep (h:aO) (c:aV) :(h.push c).f=bB h.f h.n c:=by
 funext b;simp only[aO.f,aO.push,bB,cE.w6];by_cases af:b=h.n
 ·simp[af]
 ·simp[af]
theorem dZ (h:aO) (b:Nat) (c:aV) :(h.set b c).f=bB h.f b c:=by
 funext aZ;simp only[aO.f,aO.set,bB,cE.w6];by_cases af:aZ=b
 ·simp[af]
 ·simp[af]
theorem HG (b:Nat) :aO.empty.f b=.none:=rfl
@[simp] theorem hV {α:Type} (f:Nat->α) (i:Nat) (v:α) :bB f i v i=v:=by simp[bB]
theorem b5 {α:Type} (f:Nat->α) (i j:Nat) (v:α) (h:j≠i) :bB f i v j=f j:=by simp[bB,h]
def U.one:U->Bool
 | .aH _ | .bq _ | .bad=>false
 | _=>true
def U.cells:U->Option (List U)
 | .aH cs=>some cs
 | .bq _ | .bad=>none
 | v=>some [v]
def p7:Value->U
 | .bool b=>.bool b
 | .int k n=>.int k n
 | .string s=>.str s.data.toList
 | .pointer a=>match a with | none=>.kV | some _=>.bad
 | .slice a l c=>match a,l,c with | none,0,0=>.aG | _,_,_=>.bad
 | .map r=>match r with | none=>.iY | some _=>.bad
 | .nilFunc=>.kT
 | .nilIface=>.kU
 | .func fn first gL=>match fn,first.toList,gL.toList with | .func f,[],[]=>.fn f [] [] | _,_,_=>.bad
 | _=>.bad
def xV:Value->U
 | .agg cs=>if cs.toList.all Value.oneCell' then .aH (cs.toList.map p7) else .bad
 | .tuple vs=>.bq (vs.toList.map p7)
 | v=>p7 v
def c2 (G:Nat->U) (σ:Nat->U) :Operand->U
 | .tmp t=>σ t
 | .const v=>xV v
 | .func f=>.fn f [] []
 | .global g=>G g
def ev (P:Program) (t:TypeId) :Option Bool:=(P.underlying t).map fun d=>match d with | .struct _ | .array _ _=>true | _=>false
def cC (P:Program) (t:TypeId) :Option Nat:=(P.info? t).map (·.size)
def k7 (P:Program) (t:TypeId) :Option Nat:=(P.info? t).map (·.bytes)
def ik (P:Program) (t:TypeId) :Option (List U) :=((P.info? t).bind (·.zero)).bind fun v=>if v.cells.toList.all Value.oneCell' then some (v.cells.toList.map p7) else none
def jc (P:Program) (t:TypeId) :Option TypeId:=match P.underlying t with | some (.slice e)=>some e | _=>none
def iB (P:Program) (t:TypeId) (cs:List U) (off:Nat) :Option U:=
 match ev P t,cC P t with
 | some true,some n=>if off+n<=cs.length then some (.aH ((cs.drop off).take n)) else none
 | some false,_=>cs[off]?
 | _,_=>none
def reach (h:aO) :U->Option (List U × Nat)
 | .ptr b off sz=>match h.f b with
  | .cells n cs=>if n=sz then some (cs,off) else none
  | _=>none
 | .bM cs off=>some (cs,off)
 | _=>none
def tZ (P:Program) (h:aO) (t:TypeId) (p:U) :Option U:=
 match reach h p with
 | some (cs,off)=>iB P t cs off
 | none=>none
def bf (cs:List U) (off:Nat) (vs:List U) :List U:=cs.take off++vs++cs.drop (off+vs.length)
def yh (P:Program) (h:aO) (t:TypeId) (p v:U) :Option aO:=
 match p,v.cells,cC P t with
 | .ptr b off sz,some vs,some n=>match h.f b with
  | .cells m cs=>if m=sz/\vs.length=n/\off+n<=m then some (h.set b (.cells m (bf cs off vs))) else none
  | _=>none
 | _,_,_=>none
def asInt:U->Option Int
 | .int _ n=>some n
 | _=>none
def y1 (P:Program) (s:TypeId) (f:Nat) :Option Field:=match P.underlying s with | some (.struct fs)=>fs[f]? | _=>none
def nX:U->Nat->Option U
 | .ptr b off sz,k=>some (.ptr b (off+k) sz)
 | .bM cs off,k=>some (.bM cs (off+k))
 | _,_=>none
def HK (P:Program) (s:TypeId) (x:U) (f:Nat) :Option U:=
 match y1 P s f with
 | some fd=>match cC P fd.type with
  | some (_+1)=>nX x fd.offset
  | _=>none
 | none=>none
def Fl (P:Program) (t:TypeId) (x eZ:U) :Option U:=
 match P.underlying t,asInt eZ with
 | some (.array len e),some i=>match cC P e with
  | some z=>if 0<=i/\i<len then nX x (i.toNat*z) else none
  | none=>none
 | some (.slice e),some i=>match cC P e,x with
  | some z,.aq dI b off len _ sz=>if z=dI/\0<=i/\i<len then some (.ptr b (off+i.toNat*z) sz) else none
  | some z,.a1 dI es=>if z=dI/\0<=i then (es[i.toNat]?).map fun cs=>.bM cs 0 else none
  | _,_=>none
 | _,_=>none
def hU (lZ:Nat->Option (Nat × Nat)) (cells:List U) :List (Nat × U)->Option (List U)
 | []=>some cells
 | (i,v) ::rest=>match lZ i,v.cells with
  | some (off,size),some vs=>if vs.length=size/\off+size<=cells.length then hU lZ (bf cells off vs) rest else none
  | _,_=>none
def F5 (P:Program) (fs:Array Field) (i:Nat) :Option (Nat × Nat) :=(fs[i]?).bind fun f=>(cC P f.type).map fun n=>(f.offset,n)
def Dr (P:Program) (t:TypeId) (parts:List (Nat × U)) :Option U:=
 match ik P t,P.underlying t with
 | some zero,some (.struct fs)=>if !(fs.toList.all fun f=>(cC P f.type).isSome) then none else (hU (F5 P fs) zero parts).map .aH
 | some zero,some (.array _ e)=>match cC P e with
  | some n=>(hU (fun i=>some (i*n,n)) zero parts).map .aH
  | none=>none
 | _,_=>none
def dH (zero:List U) :Nat->List U
 | 0=>[]
 | n+1=>zero++dH zero n
def Hm (P:Program) (h:aO) (t:TypeId) (len:Nat) (parts:List (Nat × U)) :Option (U × aO) :=
 match jc P t with
 | some e=>match cC P e,ik P e with
  | some z,some zero=>if zero.length=z/\len*z<=16777216 then
    (hU (fun i=>some (i*z,z)) (dH zero len) parts).map fun cs=>(.aq z h.n 0 len len (len*z),h.push (.cells (len*z) cs))
   else none
  | _,_=>none
 | none=>none
def cy (op:BinOp) (k:IntKind) (a:Int) (k' : IntKind) (b:Int) :Option U:=
 match op with
 | .shl=>if b<0 then none else some (.int k (k.wrap (a*2 ^ min b.toNat k.bits)))
 | .shr=>if b<0 then none else some (.int k (a.fdiv (2 ^ min b.toNat k.bits)))
 | .add=>if k=k' then some (.int k (k.wrap (a+b))) else none
 | .sub=>if k=k' then some (.int k (k.wrap (a - b))) else none
 | .mul=>if k=k' then some (.int k (k.wrap (a*b))) else none
 | .quo=>if k=k'/\b≠0 then some (.int k (k.wrap (a.tdiv b))) else none
 | .rem=>if k=k'/\b≠0 then some (.int k (a.tmod b)) else none
 | .and=>if k=k' then some (.int k (k.wrap (BitVec.ofInt k.bits a &&& BitVec.ofInt k.bits b).toNat)) else none
 | .or=>if k=k' then some (.int k (k.wrap (BitVec.ofInt k.bits a ||| BitVec.ofInt k.bits b).toNat)) else none
 | .xor=>if k=k' then some (.int k (k.wrap (BitVec.ofInt k.bits a ^^^ BitVec.ofInt k.bits b).toNat)) else none
 | .andNot=>if k=k' then some (.int k (k.wrap (BitVec.ofInt k.bits a &&& ~~~BitVec.ofInt k.bits b).toNat)) else none
 | .eql=>if k=k' then some (.bool (a == b)) else none
 | .neq=>if k=k' then some (.bool (a != b)) else none
 | .lss=>if k=k' then some (.bool (decide (a<b))) else none
 | .leq=>if k=k' then some (.bool (decide (a<=b))) else none
 | .gtr=>if k=k' then some (.bool (decide (a > b))) else none
 | .geq=>if k=k' then some (.bool (decide (a ≥ b))) else none
def wD (op:BinOp) (a b:List UInt8) :Option U:=
 match op with
 | .eql=>some (.bool (a == b))
 | .neq=>some (.bool (!(a == b)))
 | .lss=>some (.bool (Op.bytesLess a b))
 | .leq=>some (.bool (Op.bytesLess a b||a == b))
 | .gtr=>some (.bool (!(Op.bytesLess a b||a == b)))
 | .geq=>some (.bool (!Op.bytesLess a b))
 | .add=>if a.length+b.length<=9223372036854775807 then some (.str (a++b)) else none
 | _=>none
def eH (P:Program) :Nat->TypeId->U->U->Option Bool
 | 0,_,_,_=>none
 | d+1,t,x,y=>
  match P.underlying t,x,y with
  | some .bool,.bool a,.bool b=>some (a == b)
  | some (.int _),.int k a,.int k' b=>if k=k' then some (a == b) else none
  | some .string,.str a,.str b=>some (a == b)
  | some (.struct fs),.aH xs,.aH bK=>if P.stoodInHeld t then none else eqFields P (eH P d) xs bK fs.toList
  | some (.array n e),.aH xs,.aH bK=>match cC P e with
   | some z=>tq P (eH P d) e z xs bK n 0
   | none=>none
  | some (.slice _),.aG,.aG=>some true
  | some (.slice _),.aG,.aq .. | some (.slice _),.aG,.a1 .. | some (.slice _),.aq ..,.aG | some (.slice _),.a1 ..,.aG=>some false
  | _,_,_=>none
where
 eqFields (P:Program) (eq:TypeId->U->U->Option Bool) (xs bK:List U) :List Field->Option Bool
  | []=>some true
  | f::fs=>if f.name= "_" then eqFields P eq xs bK fs else
   match iB P f.type xs f.offset,iB P f.type bK f.offset with
   | some a,some b=>match eq f.type a b with
    | some true=>eqFields P eq xs bK fs
    | some false=>some false
    | none=>none
   | _,_=>none
 tq (P:Program) (eq:TypeId->U->U->Option Bool) (e:TypeId) (z:Nat) (xs bK:List U) :Nat->Nat->Option Bool
  | 0,_=>some true
  | n+1,i=>match iB P e xs (i*z),iB P e bK (i*z) with
   | some a,some b=>match eq e a b with
    | some true=>tq P eq e z xs bK n (i+1)
    | some false=>some false
    | none=>none
   | _,_=>none
def uV (P:Program) (t:TypeId) :U->U->Bool
 | .aH _,.aH _=>!P.eqGuardType P.depth t
 | _,_=>true
def fz (P:Program) (op:BinOp) (t:TypeId) (x y:U) :Option U:=
 match x,y with
 | .int k a,.int k' b=>cy op k a k' b
 | .str a,.str b=>wD op a b
 | x,y=>match op with
  | .eql=>if uV P t x y then (eH P 10000 t x y).map .bool else none
  | .neq=>if uV P t x y then (eH P 10000 t x y).map fun b=>.bool (!b) else none
  | _=>none
def rB (op:UnOp) (x:U) :Option U:=
 match op,x with
 | .not,.bool b=>some (.bool (!b))
 | .neg,.int k n=>some (.int k (k.wrap (0 - n)))
 | .xor,.int k n=>some (.int k (k.wrap (BitVec.ofInt k.bits (if k.signed then -1 else k.max) ^^^ BitVec.ofInt k.bits n).toNat))
 | _,_=>none
def mJ (z:Nat) :Nat->List U->List (List U)
 | 0,_=>[]
 | n+1,cs=>cs.take z::mJ z n (cs.drop z)
def jP (b:UInt8) :U:=.int .u8 b.toNat
def contents (h:aO) (z:Nat) :U->Option (List U × Nat)
 | .aG=>some ([],0)
 | .a1 dI es=>if z=dI then some (es.flatten,es.length) else none
 | .aq dI b off len _ sz=>match h.f b with
  | .cells n cs=>if n=sz/\z=dI then some ((cs.drop off).take (len*z),len) else none
  | _=>none
 | .str s=>if z=1 then some (s.map jP,s.length) else none
 | _=>none
def ci:Nat:=140737488355328
def ux (P:Program) (t:TypeId) :Option Nat:=((P.info? t).bind (·.zero)).map (·.cells.size)
def wA (P:Program) (h:aO) (e:TypeId) (z by_:Nat) (s:U) (xs:List U) (n:Nat) :Option (U × aO) :=
 if n=0 then (match s with | .aG | .a1 .. | .aq ..=>some (s,h) | _=>none)
 else if z=0\/by_=0\/ux P e≠some z then none else match s with
  | .aG=>if n*by_<=ci then some (.aq z h.n 0 n n (n*z),h.push (.cells (n*z) xs)) else none
  | .aq dI b off len cap sz=>match h.f b with
   | .cells m cs=>
    if m=sz/\z=dI/\(len+n)*by_<=ci then
     if len+n<=cap then some (.aq z b off (len+n) cap sz,h.set b (.cells m (bf cs (off+len*z) xs)))
     else if off+cap*z<sz then some (.aq z h.n 0 (len+n) (len+n) ((len+n)*z),h.push (.cells ((len+n)*z) ((cs.drop off).take (len*z)++xs)))
     else if off=0 then some (.aq z b 0 (len+n) (len+n) ((len+n)*z),h.set b (.cells ((len+n)*z) (cs.take (len*z)++xs)))
     else some (.aq z h.n 0 (len+n) (len+n) ((len+n)*z),(h.set b .dead).push (.cells ((len+n)*z) ((cs.drop off).take (len*z)++xs)))
    else none
   | _=>none
  | _=>none
def tf (P:Program) (h:aO) (t:TypeId) (s x:U) :Option (U × aO) :=
 match jc P t with
 | none=>none
 | some e=>match cC P e,k7 P e with
  | some z,some by_=>match contents h z x with
   | none=>none
   | some (xs,n)=>wA P h e z by_ s xs n
  | _,_=>none
def k6 (x:U) (y:Nat) :Option Nat:=match x with | .int _ i=>if 0<=i/\i<=y then some i.toNat else none | _=>none
def hc (len cap:Nat) (cK ay cL:Option U) :Option (Nat × Nat × Nat) :=
 match (match cL with | some v=>k6 v cap | none=>some cap) with
 | none=>none
 | some m=>match (match ay,cL with | some v,_=>k6 v m | none,none=>some len | none,some _=>none) with
  | none=>none
  | some h=>match (match cK with | some v=>k6 v h | none=>some 0) with
   | none=>none
   | some l=>some (l,h,m)
def Gp (P:Program) (t:TypeId) (x:U) (cK ay cL:Option U) :Option U:=
 match P.underlying t,x with
 | some (.array n e),x=>match cC P e,hc n n cK ay cL with
  | some z,some (l,aT,m)=>match x with
   | .ptr b off sz=>if off+m*z<=sz then (if m=l then some (.a1 z []) else some (.aq z b (off+l*z) (aT - l) (m - l) sz)) else none
   | .bM cs off=>if off+n*z<=cs.length then some (.a1 z (mJ z (aT - l) (cs.drop (off+l*z)))) else none
   | _=>none
  | _,_=>none
 | some (.slice e),x=>match cC P e,x with
  | some z,.aq dI b off len cap sz=>if z=dI then (hc len cap cK ay cL).map fun (l,aT,m)=>if m=l then .aq z b (off+l*z) 0 0 sz else .aq z b (off+l*z) (aT - l) (m - l) sz else none
  | some z,.a1 dI es=>if z=dI then (hc es.length es.length cK ay cL).map fun (l,aT,_)=>.a1 z ((es.drop l).take (aT - l)) else none
  | some _,.aG=>(hc 0 0 cK ay cL).map fun _=>.aG
  | _,_=>none
 | some .string,.str s=>match cL with
  | none=>(hc s.length s.length cK ay none).map fun (l,aT,_)=>.str ((s.drop l).take (aT - l))
  | some _=>none
 | _,_=>none
def zS (P:Program) (t:TypeId) (x:U) :Option U:=
 match P.underlying t,x with
 | some .string,.str s=>some (.int .i64 s.length)
 | some (.array n _),_=>some (.int .i64 n)
 | some (.slice _),.aG=>some (.int .i64 0)
 | some (.slice _),.aq _ _ _ len _ _=>some (.int .i64 len)
 | some (.slice _),.a1 _ es=>some (.int .i64 es.length)
 | some (.map _ _),.iY=>some (.int .i64 0)
 | _,_=>none
def JB (P:Program) (h:aO) (t:TypeId) (l c:U) :Option (U × aO) :=
 match jc P t,asInt l,asInt c with
 | some e,some l,some c=>match cC P e,k7 P e,ik P e with
  | some z,some by_,some zero=>
   if zero.length=z/\0<=l/\l<=c/\c<9223372036854775808/\by_*c<=ci then
    some (.aq z h.n 0 l.toNat c.toNat (c.toNat*z),h.push (.cells (c.toNat*z) (dH zero c.toNat)))
   else none
  | _,_,_=>none
 | _,_,_=>none
def A4 (P:Program) (h:aO) (t:TypeId) (d x:U) :Option (U × aO) :=
 match jc P t with
 | none=>none
 | some e=>match cC P e with
  | none=>none
  | some z=>match contents h z x with
   | none=>none
   | some (xs,n)=>match d with
    | .aG=>some (.int .i64 0,h)
    | .aq dI b off len _ sz=>match h.f b with
     | .cells m cs=>if m=sz/\z=dI then some (.int .i64 ((min n len:Nat) :Int),h.set b (.cells m (bf cs off (xs.take (min n len*z))))) else none
     | _=>none
    | _=>none
def nV:List U->Option (List UInt8)
 | []=>some []
 | .int .u8 n::r=>(nV r).map (UInt8.ofNat n.toNat::·)
 | _::_=>none
def yU (P:Program) (h:aO) (src dst:TypeId) (x:U) :Option U:=
 match P.underlying src,P.underlying dst,x with
 | some _,some (.int k),.int _ n=>some (.int k (k.wrap n))
 | some _,some .string,.str s=>some (.str s)
 | some (.slice e),some .string,x=>match P.underlying e,x with
  | some (.int .u8),.aG=>some (.str [])
  | some (.int .u8),x=>match contents h 1 x,x with
   | some _,.str _=>none
   | some (cs,_),_=>(nV cs).map .str
   | none,_=>none
  | _,_=>none
 | _,_,_=>none
def AR (P:Program) (src dst:TypeId) (x:U) :Option U:=
 match P.underlying src,P.underlying dst,x with
 | some _,some (.slice e),.str s=>match P.underlying e with
  | some (.int .u8)=>some (.a1 1 (s.map fun b=>[jP b]))
  | _=>none
 | _,_,_=>none
def AV (P:Program) (t:TypeId) (x:U) :Option U:=
 match P.underlying t,x with
 | some (.array n _),_=>some (.int .i64 n)
 | some (.slice _),.aG=>some (.int .i64 0)
 | _,_=>none
def AZ (P:Program) (h:aO) (t:TypeId) (x:U) :Option aO:=
 match P.underlying t,x with
 | some (.slice _),.aG=>some h
 | some (.slice _),.a1 _ []=>some h
 | some (.slice e),.aq z b off len _ sz=>if len=0 then some h else match ik P e,h.f b with
  | some zero,.cells m cs=>if m=sz/\zero.length=z then some (h.set b (.cells m (bf cs off (dH zero len)))) else none
  | _,_=>none
 | _,_=>none
def Cd (P:Program) (t:TypeId) (x eZ:U) :Option U:=
 match P.underlying t,x,asInt eZ with
 | some (.array n e),.aH cs,some i=>match cC P e with
  | some z=>if 0<=i/\i<n then iB P e cs (i.toNat*z) else none
  | none=>none
 | some .string,.str s,some i=>if 0<=i then (s[i.toNat]?).map jP else none
 | _,_,_=>none
mutual
def U.beq:U->U->Bool
 | .bool a,y=>match y with | .bool b=>(match a,b with | true,true=>true | false,false=>true | _,_=>false) | _=>false
 | .int k n,y=>match y with | .int k' fY=>decide (k=k')&&decide (n=fY) | _=>false
 | .str a,y=>match y with | .str b=>decide (a=b) | _=>false
 | .kV,y=>match y with | .kV=>true | _=>false
 | .aG,y=>match y with | .aG=>true | _=>false
 | .iY,y=>match y with | .iY=>true | _=>false
 | .kT,y=>match y with | .kT=>true | _=>false
 | .kU,y=>match y with | .kU=>true | _=>false
 | .aH a,y=>match y with | .aH b=>fN a b | _=>false
 | .bq a,y=>match y with | .bq b=>fN a b | _=>false
 | .ptr a b c,y=>match y with | .ptr cV aZ c'=>Nat.beq a cV&&Nat.beq b aZ&&Nat.beq c c' | _=>false
 | .bM a n,y=>match y with | .bM cV fY=>fN a cV&&Nat.beq n fY | _=>false
 | .aq a b c d e f,y=>match y with | .aq cV aZ c' A8 fr y0=>Nat.beq a cV&&Nat.beq b aZ&&Nat.beq c c'&&Nat.beq d A8&&Nat.beq e fr&&Nat.beq f y0 | _=>false
 | .a1 a b,y=>match y with | .a1 cV aZ=>Nat.beq a cV&&Dn b aZ | _=>false
 | .fn a b c,y=>match y with | .fn cV aZ c'=>Nat.beq a cV&&fN b aZ&&fN c c' | _=>false
 | .mp a,y=>match y with | .mp cV=>Nat.beq a cV | _=>false
 | .it a,y=>match y with | .it cV=>Nat.beq a cV | _=>false
 | .hM a b,y=>match y with | .hM cV aZ=>Nat.beq a cV&&U.beq b aZ | _=>false
 | .hE a,y=>match y with | .hE cV=>Nat.beq a cV | _=>false
 | .bad,y=>match y with | .bad=>true | _=>false
def fN:List U->List U->Bool
 | [],y=>match y with | []=>true | _=>false
 | a::as,y=>match y with | b::bs=>U.beq a b&&fN as bs | _=>false
def Dn:List (List U)->List (List U)->Bool
 | [],y=>match y with | []=>true | _=>false
 | a::as,y=>match y with | b::bs=>fN a b&&Dn as bs | _=>false
end
theorem lv {a b:Nat} (h:Nat.beq a b=true) :a=b:=Nat.eq_of_beq_eq_true h
mutual
theorem U.beq_eq:∀ {a b:U},U.beq a b=true->a=b
 | .bool a,b,h=>by cases b<;>simp only[U.beq] at h<;>first | cases h | (rename_i b; cases a<;>cases b<;>first | rfl | cases h)
 | .int k n,b,h=>by cases b<;>simp only[U.beq] at h<;>first | cases h | (simp only[Bool.and_eq_true,decide_eq_true_eq] at h; rw[h.1,h.2])
 | .str a,b,h=>by cases b<;>simp only[U.beq] at h<;>first | cases h | (simp only[decide_eq_true_eq] at h; rw[h])
 | .kV,b,h=>by cases b<;>simp only[U.beq] at h<;>first | rfl | cases h
 | .aG,b,h=>by cases b<;>simp only[U.beq] at h<;>first | rfl | cases h
 | .iY,b,h=>by cases b<;>simp only[U.beq] at h<;>first | rfl | cases h
 | .kT,b,h=>by cases b<;>simp only[U.beq] at h<;>first | rfl | cases h
 | .kU,b,h=>by cases b<;>simp only[U.beq] at h<;>first | rfl | cases h
 | .bad,b,h=>by cases b<;>simp only[U.beq] at h<;>first | rfl | cases h
 | .aH a,b,h=>by cases b<;>simp only[U.beq] at h<;>first | cases h | rw[uN h]
 | .bq a,b,h=>by cases b<;>simp only[U.beq] at h<;>first | cases h | rw[uN h]
 | .ptr ..,b,h=>by cases b<;>simp only[U.beq] at h<;>first | cases h | (simp only[Bool.and_eq_true] at h; rw[lv h.1.1,lv h.1.2,lv h.2])
 | .bM a n,b,h=>by cases b<;>simp only[U.beq] at h<;>first | cases h | (simp only[Bool.and_eq_true] at h; rw[uN h.1,lv h.2])
 | .aq ..,b,h=>by cases b<;>simp only[U.beq] at h<;>first | cases h | (simp only[Bool.and_eq_true] at h; rw[lv h.1.1.1.1.1,lv h.1.1.1.1.2,lv h.1.1.1.2,lv h.1.1.2,lv h.1.2,lv h.2])
 | .a1 a n,b,h=>by cases b<;>simp only[U.beq] at h<;>first | cases h | (simp only[Bool.and_eq_true] at h; rw[lv h.1,Rw h.2])
 | .fn a n m,b,h=>by cases b<;>simp only[U.beq] at h<;>first | cases h | (simp only[Bool.and_eq_true] at h; rw[lv h.1.1,uN h.1.2,uN h.2])
 | .mp a,b,h=>by cases b<;>simp only[U.beq] at h<;>first | cases h | rw[lv h]
 | .it a,b,h=>by cases b<;>simp only[U.beq] at h<;>first | cases h | rw[lv h]
 | .hE a,b,h=>by cases b<;>simp only[U.beq] at h<;>first | cases h | rw[lv h]
 | .hM a n,b,h=>by cases b<;>simp only[U.beq] at h<;>first | cases h | (simp only[Bool.and_eq_true] at h; rw[lv h.1,U.beq_eq h.2])
theorem uN:∀ {a b:List U},fN a b=true->a=b
 | [],b,h=>by cases b<;>simp only[fN] at h<;>first | rfl | cases h
 | x::a,b,h=>by cases b<;>simp only[fN] at h<;>first | cases h | (simp only[Bool.and_eq_true] at h; rw[U.beq_eq h.1,uN h.2])
theorem Rw:∀ {a b:List (List U)},Dn a b=true->a=b
 | [],b,h=>by cases b<;>simp only[Dn] at h<;>first | rfl | cases h
 | x::a,b,h=>by cases b<;>simp only[Dn] at h<;>first | cases h | (simp only[Bool.and_eq_true] at h; rw[uN h.1,Rw h.2])
end
def x0:U->Bool | .int .. | .str _ | .bool _=>true | _=>false
def vN (P:Program) :Nat->TypeId->Bool
 | 0,_=>false
 | d+1,t=>match P.underlying t,cC P t with
  | some (.int _),_=>true
  | some .string,_=>true
  | some .bool,_=>true
  | some (.array n e),some m=>vN P d e&&(match cC P e,ev P e with | some z,some _=>Nat.ble (n*z) m&&Nat.ble 1 z | _,_=>false)
  | some (.struct fs),some m=>fs.toList.all fun f=>vN P d f.type&&(match cC P f.type,ev P f.type with | some z,some _=>Nat.ble (f.offset+z) m&&Nat.ble 1 z | _,_=>false)
  | _,_=>false
def mx (P:Program) (t:TypeId) (c:U) :Bool:=
 match c with
 | .aH cs=>vN P 8 t&&(match ev P t,cC P t with | some true,some m=>Nat.beq cs.length m | _,_=>false)&&cs.all x0
 | _=>false
def lJ (P:Program) (cS:TypeId) (k:U) :List (U × U × Nat)->Nat->Option (Option (Nat × U))
 | [],_=>some none
 | (k',v,_) ::es,i=>match mx P cS k' with
  | false=>none
  | true=>match eH P 10000 cS k k' with
   | some true=>match U.beq k k' with | true=>some (some (i,v)) | false=>none
   | some false=>lJ P cS k es (i+1)
   | none=>none
def mapOf (h:aO) :U->Option (List (U × U × Nat))
 | .iY=>some []
 | .mp b=>match h.f b with | .map es _=>some es | _=>none
 | _=>none
def AD (P:Program) (t:TypeId) :Option U:=((P.info? t).bind (·.zero)).map xV
def Jx (P:Program) (h:aO) (t:TypeId) (m k:U) (ok:Bool) :Option U:=
 match P.underlying t,mapOf h m with
 | some (.map cS nj),some es=>match mx P cS k with
  | false=>none
  | true=>match lJ P cS k es 0 with
   | some (some (_,v))=>some (if ok then .bq [v,.bool true] else v)
   | some none=>(AD P nj).map fun z=>if ok then .bq [z,.bool false] else z
   | none=>none
 | _,_=>none
def zX (P:Program) (h:aO) (t:TypeId) (m k v:U) :Option aO:=
 match P.underlying t,m with
 | some (.map cS _),.mp b=>match h.f b with
  | .map es fq=>match mx P cS k with
   | false=>none
   | true=>match lJ P cS k es 0 with
    | some (some (i,_))=>some (h.set b (.map (es.modify i fun e=>(k,v,e.2.2)) fq))
    | some none=>some (h.set b (.map (es++[(k,v,fq)]) (fq+1)))
    | none=>none
  | _=>none
 | _,_=>none
def zT (P:Program) (h:aO) (t:TypeId) (x:U) :Option U:=
 match P.underlying t,x with
 | some (.map _ _),.mp b=>match h.f b with | .map es _=>some (.int .i64 es.length) | _=>none
 | _,_=>none
def J4 (P:Program) (h:aO) (t:TypeId) (x:U) :Option (U × aO) :=
 match P.underlying t,x with
 | some .string,.str s=>some (.it h.n,h.push (.iter s 0))
 | _,_=>none
def Co (h:aO) (x:U) :Option (U × aO) :=
 match x with
 | .it b=>match h.f b with
  | .iter s pos=>match Nat.blt pos s.length with
   | true=>some (.bq [.bool true,.int .i64 pos,.int .i32 (Utf8.decode ⟨s.toArray⟩ pos).1],h.set b (.iter s (pos+(Utf8.decode ⟨s.toArray⟩ pos).2)))
   | false=>some (.bq [.bool false],h)
  | _=>none
 | _=>none
def oW:List UInt8->List UInt8->Int
 | [],[]=>0
 | [],_::_=>-1
 | _::_,[]=>1
 | a::as,b::bs=>if a=b then oW as bs else if a<b then -1 else 1
def tk (h:aO) (x:U) :Option (List UInt8) :=match x with
 | .str s=>some s
 | x=>match contents h 1 x with
  | some (cs,_)=>nV cs
  | none=>none
def DD (h:aO) :List U->Option U
 | [x,y]=>match tk h x,tk h y with
  | some a,some b=>some (.int .i64 (oW a b))
  | _,_=>none
 | _=>none
def Fo (fn:Func) :Bool:=fn.body.isNone&&fn.name == "internal/bytealg.Compare"&&(fn.origin == ""||fn.origin == "internal/bytealg.Compare")
inductive qw where
 | val (v:U) (h:aO)
 | call (f:FuncId) (args:List U) (h:aO)
def xO:U->U->Option U
 | .int k x,.int k' y=>if k=k' then some (.int k (if y<x then y else x)) else none
 | _,_=>none
def vS:U->U->Option U
 | .int k x,.int k' y=>if k=k' then some (.int k (if x<y then y else x)) else none
 | _,_=>none
def gU:U:=.bq []
def Dl (P:Program) (h:aO) (t:TypeId) (s x:U) :Option (U × aO) :=
 match jc P t,asInt x with
 | some e,some n=>match cC P e,k7 P e,ik P e with
  | some z,some by_,some zero=>
   if zero.length=z/\0<=n/\n<9223372036854775808/\n.toNat*by_<=ci then wA P h e z by_ s (dH zero n.toNat) n.toNat else none
  | _,_,_=>none
 | _,_=>none
def qE (P:Program) (h:aO) (b:Builtin) (ts:List TypeId) (args:List U) :Option qw:=
 match b,ts,args with
 | .len,[t],[x]=>match zT P h t x with
  | some v=>some (.val v h)
  | none=>(zS P t x).map fun v=>.val v h
 | .append,[t,u],[s,x]=>match P.underlying u with
  | some (.int _)=>(Dl P h t s x).map fun (v,h')=>.val v h'
  | none=>none
  | _=>(tf P h t s x).map fun (v,h')=>.val v h'
 | .copy,[t,_],[d,x]=>(A4 P h t d x).map fun (v,h')=>.val v h'
 | .cap,[t],[x]=>(AV P t x).map fun v=>.val v h
 | .clear,[t],[x]=>(AZ P h t x).map fun h'=>.val (.bq []) h'
 | .min,_,[x,y]=>(xO x y).map fun v=>.val v h
 | .max,_,[x,y]=>(vS x y).map fun v=>.val v h
 | _,_,_=>none
def zY (P:Program) (t:TypeId) (name:String) :Option FuncId:=
 match P.underlying t with
 | some (.pointer _) | none=>none
 | _=>match P.info? t with
  | some i=>match i.methods.find? (·.name == name) with
   | some m=>match m.path.toList,m.func with
    | [],some (f,false)=>some f
    | _,_=>none
   | none=>none
  | none=>none
def CT (t:TypeId) (z:U) (ok:Bool) :U->Option U
 | .hM gT v=>match Nat.beq gT t with
  | true=>match ok with | true=>some (.bq [v,.bool true]) | false=>some v
  | false=>match ok with | true=>some (.bq [z,.bool false]) | false=>none
 | .kU=>match ok with | true=>some (.bq [z,.bool false]) | false=>none
 | _=>none
def Kw (P:Program) (t:TypeId) :Option U:=match P.underlying t with
 | some (.interface _) | none=>none
 | _=>AD P t
def wG (P:Program) (h:aO) (aB:Operand->U) (c:Call) :Option qw:=
 match c.callee with
 | .builtin b=>qE P h b c.argTypes.toList (c.args.toList.map aB)
 | .value f=>match aB f with
  | .fn g first gL=>match P.funcs[g]? with
   | some fn=>if fn.body.isSome/\fn.name≠ "runtime.NumGoroutine" then some (.call g (first++c.args.toList.map aB++gL) h)
    else if Fo fn then (DD h (first++c.args.toList.map aB++gL)).map fun v=>.val v h else none
   | none=>none
  | _=>none
 | .invoke x name=>match aB x with
  | .hM t v=>match zY P t name with
   | some g=>match P.funcs[g]? with
    | some fn=>if fn.body.isSome/\fn.name≠ "runtime.NumGoroutine" then some (.call g (v::c.args.toList.map aB) h) else none
    | none=>none
   | none=>none
  | _=>none
def c4 (P:Program) (h:aO) (aB:Operand->U) (op:Op) :Option qw:=
 let v (x:Option U) :Option qw:=x.map fun y=>.val y h
 let w (x:Option (U × aO)) :Option qw:=x.map fun y=>.val y.1 y.2
 match op with
 | .move x | .assign x=>some (.val (aB x) h)
 | .pick c a b=>match aB c with | .bool t=>some (.val (if t then aB a else aB b) h) | _=>none
 | .alloc t=>(ik P t).map fun z=>.val (.ptr h.n 0 z.length) (h.push (.cells z.length z))
 | .box _ x=>(aB x).cells.map fun cs=>.val (.ptr h.n 0 cs.length) (h.push (.cells cs.length cs))
 | .build t parts=>v (Dr P t (parts.toList.map fun p=>(p.1,aB p.2)))
 | .buildSlice t len parts=>w (Hm P h t len (parts.toList.map fun p=>(p.1,aB p.2)))
 | .load t a=>v (tZ P h t (aB a))
 | .store t a x=>(yh P h t (aB a) (aB x)).map fun h'=>.val gU h'
 | .nilCheck x=>match aB x with | .ptr b o s=>some (.val (.ptr b o s) h) | .bM c o=>some (.val (.bM c o) h) | .fn f a b=>some (.val (.fn f a b) h) | _=>none
 | .binOp op t x y _=>v (fz P op t (aB x) (aB y))
 | .unOp op _ x=>v (rB op (aB x))
 | .convert s d x=>match AR P s d (aB x) with
  | some c=>some (.val c h)
  | none=>v (yU P h s d (aB x))
 | .makeInterface t x=>match P.underlying t with
  | some (.interface _) | none=>none
  | _=>some (.val (.hM t (aB x)) h)
 | .makeFunc (.func f) first gL=>some (.val (.fn f (first.toList.map aB) (gL.toList.map aB)) h)
 | .makeSlice t l c=>w (JB P h t (aB l) (aB c))
 | .slice t x cK ay cL=>v (Gp P t (aB x) (cK.map aB) (ay.map aB) (cL.map aB))
 | .fieldAddr s x f=>v (HK P s (aB x) f)
 | .field t x f=>match aB x,y1 P t f with
  | .aH cs,some fd=>v (iB P fd.type cs fd.offset)
  | _,_=>none
 | .indexAddr t x i=>v (Fl P t (aB x) (aB i))
 | .index t x i=>v (Cd P t (aB x) (aB i))
 | .extract x i=>match aB x with | .bq vs=>v vs[i]? | _=>none
 | .call c=>wG P h aB c
 | .makeMap t r=>match P.underlying t,(match r with | none=>true | some x=>(asInt (aB x)).isSome) with | some (.map _ _),true=>some (.val (.mp h.n) (h.push (.map [] 0))) | _,_=>none
 | .lookup t m k ok=>v (Jx P h t (aB m) (aB k) ok)
 | .mapUpdate t m k x | .insert t m k x=>(zX P h t (aB m) (aB k) (aB x)).map fun h'=>.val gU h'
 | .range t x=>w (J4 P h t (aB x))
 | .next it true=>w (Co h (aB it))
 | .typeAssert x _ t ok=>match Kw P t with | some z=>v (CT t z ok (aB x)) | none=>none
 | _=>none
structure M where
 r:Nat
 s:Nat
 T:Nat
abbrev cr:=Nat->Option M
def live:aV->Bool
 | .cells .. | .map .. | .iter ..=>true
 | _=>false
def pl:aV->Nat
 | .map ..=>1
 | .iter ..=>2
 | _=>0
def Own (h:aO) (μ:cr) (k:Nat) :Prop:=∃ b m,live (h.f b)=true/\μ b=some m/\m.r=k
def yE (h:aO) (b sz:Nat) :Prop:=h.f b=.dead\/∃ n cs,h.f b=.cells n cs/\sz<n
structure Cell (w:World) (R:Nat->Prop) (h:aO) (μ:cr) (b o:Nat) (v:Value) :Prop where
 here:w.cell? ⟨b,o,none⟩=some v
 one:v.oneCell'=true
 ro:R b
 free:¬ Own h μ b
inductive aQ (w:World) (R:Nat->Prop) (h:aO) (μ:cr) :U->Value->Prop where
 | bool (b:Bool) :aQ w R h μ (.bool b) (.bool b)
 | int (k:IntKind) (n:Int) :aQ w R h μ (.int k n) (.int k n)
 | str (bs:ByteArray) :aQ w R h μ (.str bs.data.toList) (.string bs)
 | kV:aQ w R h μ .kV (.pointer none)
 | aG:aQ w R h μ .aG (.slice none 0 0)
 | iY:aQ w R h μ .iY (.map none)
 | kT:aQ w R h μ .kT .nilFunc
 | kU:aQ w R h μ .kU .nilIface
 | aH (cs:List U) (vs:Array Value) (al:vs.size=cs.length) (ad:∀ (j:Nat) (v:Value),vs[j]? = some v->v.oneCell'=true)
   (ao:∀ (j:Nat) (c:U) (v:Value),cs[j]? = some c->vs[j]? = some v->aQ w R h μ c v) :aQ w R h μ (.aH cs) (.agg vs)
 | bq (cs:List U) (vs:Array Value) (al:vs.size=cs.length)
   (ao:∀ (j:Nat) (c:U) (v:Value),cs[j]? = some c->vs[j]? = some v->aQ w R h μ c v) :aQ w R h μ (.bq cs) (.tuple vs)
 | ptr (b off sz:Nat) (cs:List U) (m:M) (af:h.f b=.cells sz cs) (hm:μ b=some m) :
   aQ w R h μ (.ptr b off sz) (.pointer (some ⟨m.r,m.s+off,none⟩))
 | nI (b off sz:Nat) (a:Addr) (ax:yE h b sz) :aQ w R h μ (.ptr b off sz) (.pointer (some a))
 | bM (cs:List U) (off blk o:Nat) (eJ:Nat->Value) (ah:∀ j,j<cs.length->Cell w R h μ blk (o+j) (eJ j))
   (ao:∀ (j:Nat) (c:U),cs[j]? = some c->aQ w R h μ c (eJ j)) :aQ w R h μ (.bM cs off) (.pointer (some ⟨blk,o+off,none⟩))
 | aq (z b off len cap sz cap' : Nat) (cs:List U) (m:M) (af:h.f b=.cells sz cs) (hm:μ b=some m) (al:len<=cap) (av:off+cap*z<=sz)
   (ah:(off+cap*z<sz/\cap'=cap)\/(off+cap*z=sz/\cap<=cap'/\m.s+off+cap'*z<=m.T)) :
   aQ w R h μ (.aq z b off len cap sz) (.slice (some ⟨m.r,m.s+off,none⟩) len cap')
 | hO (z b off len cap sz cap' : Nat) (a:Addr) (al:len<=cap) (ah:cap<=cap') (ax:yE h b sz) :aQ w R h μ (.aq z b off len cap sz) (.slice (some a) len cap')
 | i3 (z b off sz:Nat) (a:Addr) (cs:List U) (m:M) (af:h.f b=.cells sz cs) (hm:μ b=some m) :aQ w R h μ (.aq z b off 0 0 sz) (.slice (some a) 0 0)
 | a1 (z:Nat) (es:List (List U)) (blk off cap:Nat) (eJ:Nat->Nat->Value) (al:es.length<=cap) (aw:∀ e,e∈es->e.length=z)
   (ah:∀ i j,i<es.length->j<z->Cell w R h μ blk (off+(i*z+j)) (eJ i j))
   (ao:∀ (i:Nat) (e:List U),es[i]? = some e->∀ (j:Nat) (c:U),e[j]? = some c->aQ w R h μ c (eJ i j)) :
   aQ w R h μ (.a1 z es) (.slice (some ⟨blk,off,none⟩) es.length cap)
 | gv (z:Nat) (a:Addr) (cap:Nat) :aQ w R h μ (.a1 z []) (.slice (some a) 0 cap)
 | fn (f:FuncId) (first gL:List U) (fs cs:Array Value) (aF:fs.size=first.length) (ah:cs.size=gL.length)
   (ad:∀ (j:Nat) (c:U) (v:Value),first[j]? = some c->fs[j]? = some v->aQ w R h μ c v) (ae:∀ (j:Nat) (c:U) (v:Value),gL[j]? = some c->cs[j]? = some v->aQ w R h μ c v) :
   aQ w R h μ (.fn f first gL) (.func (.func f) fs cs)
 | mp (b:Nat) (m:M) (af:pl (h.f b)=1) (hm:μ b=some m) :aQ w R h μ (.mp b) (.map (some m.r))
 | it (b:Nat) (m:M) (af:pl (h.f b)=2) (hm:μ b=some m) :aQ w R h μ (.it b) (.pointer (some ⟨m.r,0,none⟩))
 | hM (t:TypeId) (c:U) (v:Value) (ao:aQ w R h μ c v) :aQ w R h μ (.hM t c) (.iface t v)
 | hE (l:Nat) :aQ w R h μ (.hE l) (.func (.yield l) #[] #[])
 | bad (v:Value) :aQ w R h μ .bad v
structure Ext0 (w:World) (h:aO) (μ:cr) (w' : World) (h' : aO) (μ' : cr) :Prop where
 os:w'.os=w.os
 tape:w'.tape=w.tape
 output:w'.output=w.output
 size:w.heap.size<=w'.heap.size
 b1:∀ k,k<w.heap.size->¬ Own h μ k->w'.heap[k]? = w.heap[k]?
 own:∀ k,Own h' μ' k->Own h μ k\/w.heap.size<=k
 cells:∀ b sz cs m,h.f b=.cells sz cs->μ b=some m->(∃ cs',h'.f b=.cells sz cs'/\μ' b=some m)\/yE h' b sz
 gone:∀ b sz,yE h b sz->yE h' b sz
 FR:∀ b k m,pl (h.f b)=k+1->μ b=some m->pl (h'.f b)=k+1/\μ' b=some m
 n:h.n<=h'.n
 drawn:w.drawn<=w'.drawn:=by first | exact Nat.le_refl _ | exact Nat.le_succ _ | assumption
structure dg (w:World) (h:aO) (μ:cr) (w' : World) (h' : aO) (μ' : cr) :Prop extends Ext0 w h μ w' h' μ' where
 rC:∀ b,b<h.n->μ b=none->μ' b=none
theorem Ext0.refl (w:World) (h:aO) (μ:cr) :Ext0 w h μ w h μ:=
 ⟨rfl,rfl,rfl,Nat.le_refl _,fun _ _ _=>rfl,fun _ h=>.inl h,fun b sz cs m ad ae=>.inl ⟨cs,ad,ae⟩,fun _ _ h=>h,fun _ _ _ ad ae=>⟨ad,ae⟩,Nat.le_refl _,Nat.le_refl _⟩
theorem dg.refl (w:World) (h:aO) (μ:cr) :dg w h μ w h μ:=⟨.refl w h μ,fun _ _ h=>h⟩
theorem Ext0.trans {w bO w2:World} {h ad ae:aO} {μ ha pv:cr} (a:Ext0 w h μ bO ad ha) (b:Ext0 bO ad ha w2 ae pv) :Ext0 w h μ w2 ae pv:=by
 refine⟨b.os.trans a.os,b.tape.trans a.tape,b.output.trans a.output,Nat.le_trans a.size b.size,?_,?_,?_,fun _ _ ax=>b.gone _ _ (a.gone _ _ ax),?_,Nat.le_trans a.n b.n,Nat.le_trans a.drawn b.drawn⟩
 ·intro k ar aC;rw[b.b1 k (Nat.lt_of_lt_of_le ar a.size) (fun av=>(a.own k av).elim aC (by omega)),a.b1 k ar aC]
 ·intro k ar;rcases b.own k ar with h | h
  ·exact a.own k h
  ·exact .inr (Nat.le_trans a.size h)
 ·intro blk sz cs m af hm;rcases a.cells blk sz cs m af hm with ⟨cs',aj,aD⟩ | aj
  ·exact b.cells blk sz cs' m aj aD
  ·exact .inr (b.gone _ _ aj)
 ·intro blk k m af hm;obtain⟨aj,aD⟩:=a.FR blk k m af hm;exact b.FR blk k m aj aD
theorem dg.trans {w bO w2:World} {h ad ae:aO} {μ ha pv:cr} (a:dg w h μ bO ad ha) (b:dg bO ad ha w2 ae pv) :dg w h μ w2 ae pv:=
 ⟨a.toExt0.trans b.toExt0,fun blk af hm=>b.rC blk (Nat.lt_of_lt_of_le af a.n) (a.rC blk af hm)⟩
theorem Cell.ext {w w' : World} {h h' : aO} {μ μ' : cr} {R:Nat->Prop} {b o:Nat} {v:Value} (e:Ext0 w h μ w' h' μ') (c:Cell w R h μ b o v) :Cell w' R h' μ' b o v:=by
 have af:b<w.heap.size:=World.block_lt_of_cell? _ _ c.here;refine⟨?_,c.one,c.ro,fun av=>?_⟩
 ·rw[World.cell?_of_block (w:=w) (a:=⟨b,o,none⟩) (e.b1 b af c.free)]; exact c.here
 ·rcases e.own b av with ad | ad
  ·exact c.free ad
  ·omega
theorem aQ.nk {w w' : World} {h h' : aO} {μ μ' : cr} {R:Nat->Prop} {c:U} {v:Value} (e:Ext0 w h μ w' h' μ') (ao:aQ w R h μ c v) :aQ w' R h' μ' c v:=by
 induction ao with
 | bool b=>exact .bool b
 | int k n=>exact .int k n
 | str bs=>exact .str bs
 | kV=>exact .kV
 | aG=>exact .aG
 | iY=>exact .iY
 | kT=>exact .kT
 | kU=>exact .kU
 | aH cs vs al ad ao aR=>exact .aH cs vs al ad aR
 | bq cs vs al ao aR=>exact .bq cs vs al aR
 | ptr b off sz cs m af hm=>
  rcases e.cells b sz cs m af hm with ⟨cs',ad,ae⟩ | ad
  ·exact .ptr b off sz cs' m ad ae
  ·exact .nI b off sz _ ad
 | nI b off sz a ax=>exact .nI b off sz a (e.gone _ _ ax)
 | bM cs off blk o eJ ah ao aR=>exact .bM cs off blk o eJ (fun j ai=>(ah j ai).ext e) aR
 | aq z b off len cap sz cap' cs m af hm al av ah=>
  rcases e.cells b sz cs m af hm with ⟨cs',ad,ae⟩ | ad
  ·exact .aq z b off len cap sz cap' cs' m ad ae al av ah
  ·exact .hO z b off len cap sz cap' _ al (by omega) ad
 | hO z b off len cap sz cap' a al ah ax=>exact .hO z b off len cap sz cap' a al ah (e.gone _ _ ax)
 | i3 z b off sz a cs m af hm=>
  rcases e.cells b sz cs m af hm with ⟨cs',ad,ae⟩ | ad
  ·exact .i3 z b off sz a cs' m ad ae
  ·exact .hO z b off 0 0 sz 0 a (Nat.le_refl _) (Nat.le_refl _) ad
 | a1 z es blk off cap eJ al aw ah ao aR=>exact .a1 z es blk off cap eJ al aw (fun i j ay ai=>(ah i j ay ai).ext e) aR
 | gv z a cap=>exact .gv z a cap
 | fn f first gL fs cs aF ah ad ae eF oo=>exact .fn f first gL fs cs aF ah eF oo
 | mp b m af hm=>
  obtain⟨ad,ae⟩:=e.FR b 0 m af hm;exact .mp b m ad ae
 | it b m af hm=>
  obtain⟨ad,ae⟩:=e.FR b 1 m af hm;exact .it b m ad ae
 | hM t c v ao aR=>exact .hM t c v aR
 | hE l=>exact .hE l
 | bad v=>exact .bad v
theorem aQ.ext {w w' : World} {h h' : aO} {μ μ' : cr} {R:Nat->Prop} {c:U} {v:Value} (e:dg w h μ w' h' μ') (ao:aQ w R h μ c v) :aQ w' R h' μ' c v:=ao.nk e.toExt0
def wk (w:World) (R:Nat->Prop) (h:aO) (μ:cr) (m:M) :aV->Prop
 | .cells sz cs=>cs.length=sz/\m.s+sz<=m.T/\∃ arr e e4,w.heap[m.r]? = some (.cells arr e e4)/\arr.size=m.T/\(e4=(0,0)\/m.T<e4.1) ∧
   ∀ (j:Nat) (c:U),cs[j]? = some c->∃ v:Value,arr[m.s+j]? = some v/\v.oneCell'=true/\aQ w R h μ c v
 | .map es fq=>∃ dW,w.heap[m.r]? = some (.map dW fq)/\dW.size=es.length ∧
   ∀ (j:Nat) (k v:U) (b:Nat),es[j]? = some (k,v,b)->∃ x:MapEntry,dW[j]? = some x/\aQ w R h μ k x.key/\aQ w R h μ v x.val/\x.born=b
 | .iter s pos=>∃ bs:ByteArray,bs.data.toList=s/\w.heap[m.r]? = some (.stringIter bs pos)
 | _=>True
theorem wk.ext {w w' : World} {h h' : aO} {μ μ' : cr} {R:Nat->Prop} {m:M} (e:Ext0 w h μ w' h' μ') (aP:w'.heap[m.r]? = w.heap[m.r]?) :
  ∀ {c:aV},wk w R h μ m c->wk w' R h' μ' m c
 | .cells sz cs,⟨ad,ae,arr,t,e4,aj,aD,a2,bv⟩=>⟨ad,ae,arr,t,e4,aP.trans aj,aD,a2,fun j c ai=>let ⟨v,a,b,d⟩:=bv j c ai; ⟨v,a,b,d.nk e⟩⟩
 | .map es fq,⟨dW,ad,ae,aj⟩=>⟨dW,aP.trans ad,ae,fun j k v b ai=>let ⟨x,a,cT,d,f⟩:=aj j k v b ai; ⟨x,a,cT.nk e,d.nk e,f⟩⟩
 | .iter s pos,⟨bs,ad,ae⟩=>⟨bs,ad,aP.trans ae⟩
 | .none,_=>trivial
 | .dead,_=>trivial
structure bP (R:Nat->Prop) (B:Nat) (w:World) (h:aO) (μ:cr) :Prop where
 blk:∀ b m,μ b=some m->wk w R h μ m (h.f b)
 inj:∀ b aZ m ct,live (h.f b)=true->live (h.f aZ)=true->μ b=some m->μ aZ=some ct->m.r=ct.r->b=aZ
 base:∀ b m,live (h.f b)=true->μ b=some m->B<=m.r
 fresh:∀ b,h.n<=b->h.f b=.none
 up:∀ k,B<=k->R k
 size:B<=w.heap.size
 lX:∀ b,h.n<=b->μ b=none
theorem bP.nU {R:Nat->Prop} {B:Nat} {w:World} {h:aO} {μ:cr} (rel:bP R B w h μ) {b:Nat} {m:M} (hm:μ b=some m) :b<h.n:=by
 rcases Nat.lt_or_ge b h.n with ad | ad
 ·exact ad
 ·rw[rel.lX b ad] at hm; cases hm
theorem bP.lt {R:Nat->Prop} {B:Nat} {w:World} {h:aO} {μ:cr} (rel:bP R B w h μ) {b:Nat} {m:M} (al:live (h.f b)=true) (hm:μ b=some m) :m.r<w.heap.size:=by
 have af:=rel.blk b m hm;cases ah:h.f b with
 | none=>rw[ah] at al; cases al
 | dead=>rw[ah] at al; cases al
 | cells sz cs=>
  rw[ah] at af;obtain⟨_,_,arr,t,e4,aj,_⟩:=af;rcases Nat.lt_or_ge m.r w.heap.size with h | h
  ·exact h
  ·rw[Array.getElem?_eq_none h] at aj; cases aj
 | map es fq=>
  rw[ah] at af;obtain⟨dW,aj,_⟩:=af;rcases Nat.lt_or_ge m.r w.heap.size with h | h
  ·exact h
  ·rw[Array.getElem?_eq_none h] at aj; cases aj
 | iter s pos=>
  rw[ah] at af;obtain⟨bs,_,aj⟩:=af;rcases Nat.lt_or_ge m.r w.heap.size with h | h
  ·exact h
  ·rw[Array.getElem?_eq_none h] at aj; cases aj
theorem bP.oL {R:Nat->Prop} {B:Nat} {w w' : World} {h h' : aO} {μ μ' : cr} (rel:bP R B w h μ) (e:Ext0 w h μ w' h' μ') (hr:Nat)
  (q8:∀ b,b≠hr->live (h'.f b)=true->h'.f b=h.f b/\μ' b=μ b/\∀ m,μ b=some m->w'.heap[m.r]? = w.heap[m.r]?)
  (me:∀ m,μ' hr=some m->wk w' R h' μ' m (h'.f hr))
  (sd:∀ b m ct,b≠hr->live (h'.f b)=true->live (h'.f hr)=true->μ b=some m->μ' hr=some ct->m.r≠ct.r)
  (Ib:∀ m,live (h'.f hr)=true->μ' hr=some m->B<=m.r)
  (agW:∀ b,h'.n<=b->h'.f b=.none) (ahI:∀ b,h'.n<=b->μ' b=none) :bP R B w' h' μ':=by
 refine⟨?_,?_,?_,agW,rel.up,Nat.le_trans rel.size e.size,ahI⟩
 ·intro b m hm;by_cases af:b=hr
  ·subst af; exact me m hm
  ·cases al:live (h'.f b) with
   | false=>cases ah:h'.f b<;>first | trivial | (rw[ah] at al; cases al)
   | true=>
    obtain⟨ad,ae,aj⟩:=q8 b af al;rw[ae] at hm;rw[ad];exact (rel.blk b m hm).ext e (aj m hm)
 ·intro b aZ m ct al dx hm bX az;by_cases af:b=hr<;>by_cases bN:aZ=hr
  ·rw[af,bN]
  ·subst af;obtain⟨ad,ae,aj⟩:=q8 aZ bN dx;rw[ae] at bX;exact absurd az.symm (sd aZ ct m bN dx al bX hm)
  ·subst bN;obtain⟨ad,ae,aj⟩:=q8 b af al;rw[ae] at hm;exact absurd az (sd b m ct af al dx hm bX)
  ·obtain⟨ad,ae,_⟩:=q8 b af al;obtain⟨aj,aD,_⟩:=q8 aZ bN dx;rw[ad] at al; rw[ae] at hm; rw[aj] at dx; rw[aD] at bX;exact rel.inj b aZ m ct al dx hm bX az
 ·intro b m al hm;by_cases af:b=hr
  ·subst af; exact Ib m al hm
  ·obtain⟨ad,ae,_⟩:=q8 b af al;rw[ad] at al; rw[ae] at hm;exact rel.base b m al hm
theorem bP.push {R:Nat->Prop} {B:Nat} {w w' : World} {h:aO} {μ:cr} (rel:bP R B w h μ) (cs:List U) (arr:Array Value) (t:TypeId)
  (jX:w'.os=w.os) (vD:w'.tape=w.tape) (jY:w'.output=w.output) (mQ:w'.heap=w.heap.push (.cells arr t (0,0)))
  (hL:cs.length<=arr.size) (ao:∀ (j:Nat) (c:U),cs[j]? = some c->∃ v:Value,arr[j]? = some v/\v.oneCell'=true/\aQ w R h μ c v) (sa:w.drawn<=w'.drawn:=by first | exact Nat.le_refl _ | exact Nat.le_succ _ | assumption) :
  dg w h μ w' (h.push (.cells cs.length cs)) (bB μ h.n (some ⟨w.heap.size,0,arr.size⟩)) ∧
  bP R B w' (h.push (.cells cs.length cs)) (bB μ h.n (some ⟨w.heap.size,0,arr.size⟩)) :=by
 have aC:h.f h.n=.none:=rel.fresh _ (Nat.le_refl _);have e:dg w h μ w' (h.push (.cells cs.length cs)) (bB μ h.n (some ⟨w.heap.size,0,arr.size⟩)) :=by
  refine⟨⟨jX,vD,jY,by simp[mQ],?_,?_,?_,?_,?_,?_,sa⟩,?_⟩
  ·intro k ar _;rw[mQ,Array.getElem?_push,if_neg (by omega)]
  ·rintro k ⟨b,m,al,hm,rfl⟩;by_cases af:b=h.n
   ·subst af; simp at hm; subst hm; exact .inr (Nat.le_refl _)
   ·rw[b5 _ _ _ _ af] at hm;simp only[ep,fJ,b5 _ _ _ _ af] at al;exact .inl ⟨b,m,al,hm,rfl⟩
  ·intro b sz cs' m af hm;have:b≠h.n:=fun aT=>by rw[aT,aC] at af; cases af
   exact .inl ⟨cs',by simp only[ep,fJ,b5 _ _ _ _ this]; exact af,by rw[b5 _ _ _ _ this]; exact hm⟩
  ·rintro b sz (af | ⟨n,cs',af,aL⟩)
   ·have:b≠h.n:=fun aT=>by rw[aT,aC] at af; cases af
    exact .inl (by simp only[ep,fJ,b5 _ _ _ _ this]; exact af)
   ·have:b≠h.n:=fun aT=>by rw[aT,aC] at af; cases af
    exact .inr ⟨n,cs',by simp only[ep,fJ,b5 _ _ _ _ this]; exact af,aL⟩
  ·intro b k m af hm;have:b≠h.n:=fun aT=>by rw[aT,aC] at af; cases af
   exact⟨by simp only[ep,fJ,b5 _ _ _ _ this]; exact af,by rw[b5 _ _ _ _ this]; exact hm⟩
  ·simp[ep,fJ]
  ·intro b af hm;rw[b5 _ _ _ _ (by omega)]; exact hm
 refine⟨e,rel.oL e.toExt0 h.n ?_ ?_ ?_ ?_ ?_ ?_⟩
 ·intro b af al;simp only[ep,fJ,b5 _ _ _ _ af] at al ⊢;exact⟨trivial,trivial,fun m hm=>by rw[mQ,Array.getElem?_push,if_neg (by have:=rel.lt al hm; omega)]⟩
 ·intro m hm;simp at hm; subst hm;simp only[ep,fJ,hV];refine⟨rfl,by simpa using hL,arr,t,(0,0),by simp[mQ],rfl,.inl rfl,fun j c ai=>?_⟩;obtain⟨v,ad,ae,aj⟩:=ao j c ai;exact⟨v,by simpa using ad,ae,aj.ext e⟩
 ·intro b m ct af al _ hm bX;simp only[ep,fJ,b5 _ _ _ _ af] at al;simp at bX; subst bX;have:=rel.lt al hm;simp only[ne_eq]; omega
 ·intro m _ hm;simp at hm; subst hm;exact rel.size
 ·intro b af;simp only[ep,fJ] at af ⊢;rw[b5 _ _ _ _ (by omega)];exact rel.fresh b (by omega)
 ·intro b af;simp only[ep,fJ] at af;rw[b5 _ _ _ _ (by omega)];exact rel.lX b (by omega)
theorem bP.same {R:Nat->Prop} {B:Nat} {w:World} {h h' : aO} {μ:cr} (rel:bP R B w h μ) (aF:h'.f=h.f) (aC:h'.n=h.n) :dg w h μ w h' μ/\bP R B w h' μ:=by
 have e:dg w h μ w h' μ:=by
  refine⟨⟨rfl,rfl,rfl,Nat.le_refl _,fun _ _ _=>rfl,?_,?_,?_,?_,by omega,Nat.le_refl _⟩,fun _ _ hm=>hm⟩
  ·rintro k ⟨aZ,ct,dx,bX,rfl⟩;rw[aF] at dx; exact .inl ⟨aZ,ct,dx,bX,rfl⟩
  ·intro aZ sz' cs' ct bN bX;exact .inl ⟨cs',by rw[aF]; exact bN,bX⟩
  ·intro aZ sz' ax;unfold yE at ax ⊢; rw[aF]; exact ax
  ·intro aZ k' ct bN bX;exact⟨by rw[aF]; exact bN,bX⟩
 refine⟨e,rel.oL e.toExt0 h.n (fun b _ _=>⟨by rw[aF],rfl,fun _ _=>rfl⟩) (fun m hm=>?_) (fun b m ct _ _ _ _ hm=>?_) (fun m _ hm=>?_) (fun b af=>by rw[aF]; exact rel.fresh b (by omega)) (by rw[aC]; exact rel.lX)⟩
 all_goals (rw[rel.lX h.n (Nat.le_refl _)] at hm; cases hm)
theorem bP.kill {R:Nat->Prop} {B:Nat} {w:World} {h h' : aO} {μ:cr} (rel:bP R B w h μ) {b sz:Nat} {cs:List U} (af:h.f b=.cells sz cs) (pQ:b<h.n)
  (aF:h'.f=bB h.f b .dead) (aC:h'.n=h.n) :dg w h μ w h' μ/\bP R B w h' μ:=by
 have e:dg w h μ w h' μ:=by
  refine⟨⟨rfl,rfl,rfl,Nat.le_refl _,fun _ _ _=>rfl,?_,?_,?_,?_,by omega,Nat.le_refl _⟩,fun _ _ hm=>hm⟩
  ·rintro k ⟨aZ,ct,dx,bX,rfl⟩;rw[aF] at dx;by_cases ca:aZ=b
   ·subst ca; simp[live] at dx
   ·rw[b5 _ _ _ _ ca] at dx; exact .inl ⟨aZ,ct,dx,bX,rfl⟩
  ·intro aZ sz' cs' ct bN bX;by_cases ca:aZ=b
   ·subst ca; exact .inr (.inl (by rw[aF]; simp))
   ·exact .inl ⟨cs',by rw[aF,b5 _ _ _ _ ca]; exact bN,bX⟩
  ·rintro aZ sz' ax;by_cases ca:aZ=b
   ·subst ca; exact .inl (by rw[aF]; simp)
   ·rcases ax with ax | ⟨n,cs',ax,aL⟩
    ·exact .inl (by rw[aF,b5 _ _ _ _ ca]; exact ax)
    ·exact .inr ⟨n,cs',by rw[aF,b5 _ _ _ _ ca]; exact ax,aL⟩
  ·intro aZ k' ct bN bX;by_cases ca:aZ=b
   ·subst ca; rw[af] at bN; cases bN
   ·exact⟨by rw[aF,b5 _ _ _ _ ca]; exact bN,bX⟩
 refine⟨e,rel.oL e.toExt0 b ?_ ?_ ?_ ?_ ?_ (by rw[aC]; exact rel.lX)⟩
 ·intro aZ ca al;rw[aF,b5 _ _ _ _ ca];exact⟨rfl,rfl,fun _ _=>rfl⟩
 ·intro m _;rw[aF]; simp[wk]
 ·intro aZ m ct _ _ al;rw[aF] at al; simp[live] at al
 ·intro m al;rw[aF] at al; simp[live] at al
 ·intro aZ bN;rw[aF,b5 _ _ _ _ (by omega)];exact rel.fresh aZ (by omega)
theorem bP.ZI {R:Nat->Prop} {B:Nat} {w:World} {h h' : aO} {μ:cr} (rel:bP R B w h μ) {b sz off:Nat} {cs:List U} {m:M} (af:h.f b=.cells sz cs) (hm:μ b=some m) (av:off<=sz)
  (aF:h'.f=bB (bB h.f b .dead) h.n (.cells (sz - off) (cs.drop off))) (aC:h'.n=h.n+1) :
  dg w h μ w h' (bB μ h.n (some ⟨m.r,m.s+off,m.T⟩))/\bP R B w h' (bB μ h.n (some ⟨m.r,m.s+off,m.T⟩)) :=by
 have pQ:=rel.nU hm;have zw:h.f h.n=.none:=rel.fresh _ (Nat.le_refl _);have nv:live (h.f b)=true:=by rw[af]; rfl
 have e:dg w h μ w h' (bB μ h.n (some ⟨m.r,m.s+off,m.T⟩)) :=by
  refine⟨⟨rfl,rfl,rfl,Nat.le_refl _,fun _ _ _=>rfl,?_,?_,?_,?_,by omega,Nat.le_refl _⟩,fun aZ bN bX=>by rw[b5 _ _ _ _ (by omega)]; exact bX⟩
  ·rintro k ⟨aZ,ct,dx,bX,rfl⟩;rw[aF] at dx;by_cases lc:aZ=h.n
   ·subst lc; simp at bX; subst bX; exact .inl ⟨b,m,nv,hm,rfl⟩
   ·rw[b5 _ _ _ _ lc] at dx bX;by_cases ca:aZ=b
    ·subst ca; simp[live] at dx
    ·rw[b5 _ _ _ _ ca] at dx; exact .inl ⟨aZ,ct,dx,bX,rfl⟩
  ·intro aZ sz' cs' ct bN bX;have lc:aZ≠h.n:=fun aT=>by rw[aT,zw] at bN; cases bN
   by_cases ca:aZ=b
   ·subst ca; exact .inr (.inl (by rw[aF,b5 _ _ _ _ lc]; simp))
   ·exact .inl ⟨cs',by rw[aF,b5 _ _ _ _ lc,b5 _ _ _ _ ca]; exact bN,by rw[b5 _ _ _ _ lc]; exact bX⟩
  ·rintro aZ sz' ax;have lc:aZ≠h.n:=fun aT=>by
    subst aT;rcases ax with ax | ⟨n,cs',ax,_⟩
    ·rw[zw] at ax; cases ax
    ·rw[zw] at ax; cases ax
   by_cases ca:aZ=b
   ·subst ca; exact .inl (by rw[aF,b5 _ _ _ _ lc]; simp)
   ·rcases ax with ax | ⟨n,cs',ax,aL⟩
    ·exact .inl (by rw[aF,b5 _ _ _ _ lc,b5 _ _ _ _ ca]; exact ax)
    ·exact .inr ⟨n,cs',by rw[aF,b5 _ _ _ _ lc,b5 _ _ _ _ ca]; exact ax,aL⟩
  ·intro aZ k' ct bN bX;have lc:aZ≠h.n:=fun aT=>by rw[aT,zw] at bN; cases bN
   by_cases ca:aZ=b
   ·subst ca; rw[af] at bN; cases bN
   ·exact⟨by rw[aF,b5 _ _ _ _ lc,b5 _ _ _ _ ca]; exact bN,by rw[b5 _ _ _ _ lc]; exact bX⟩
 have q8:∀ aZ,aZ≠h.n->live (h'.f aZ)=true->aZ≠b/\h'.f aZ=h.f aZ:=fun aZ lc al=>by
  rw[aF,b5 _ _ _ _ lc] at al ⊢;by_cases ca:aZ=b
  ·subst ca; simp[live] at al
  ·exact⟨ca,by rw[b5 _ _ _ _ ca]⟩
 refine⟨e,rel.oL e.toExt0 h.n ?_ ?_ ?_ ?_ ?_ ?_⟩
 ·intro aZ lc al;exact⟨(q8 aZ lc al).2,by rw[b5 _ _ _ _ lc],fun _ _=>rfl⟩
 ·intro ct bX;simp at bX; subst bX;rw[aF,hV];have ey:=rel.blk b m hm;rw[af] at ey;obtain⟨ad,ae,arr,t,e4,aj,aD,a2,bv⟩:=ey;refine⟨by simp; omega,by simp only; omega,arr,t,e4,aj,aD,a2,fun j c ai=>?_⟩;rw[List.getElem?_drop] at ai;obtain⟨v,a8,bh,b6⟩:=bv (off+j) c ai;exact⟨v,by simp only; rw[Nat.add_assoc]; exact a8,bh,b6.ext e⟩
 ·intro aZ e0 eR lc al _ ad ae aT;simp at ae; subst ae;obtain⟨ca,jk⟩:=q8 aZ lc al;rw[jk] at al;exact ca (rel.inj aZ b e0 m al nv ad hm aT)
 ·intro ct _ bX;simp at bX; subst bX;exact rel.base b m nv hm
 ·intro aZ bN;rw[aF,b5 _ _ _ _ (by omega),b5 _ _ _ _ (by omega)];exact rel.fresh aZ (by omega)
 ·intro aZ bN;rw[b5 _ _ _ _ (by omega)];exact rel.lX aZ (by omega)
theorem bP.Za {R:Nat->Prop} {B:Nat} {w w' : World} {h:aO} {μ:cr} (rel:bP R B w h μ) (c:aV) (o:Obj) {k:Nat} (ar:pl c=k+1)
  (jX:w'.os=w.os) (vD:w'.tape=w.tape) (jY:w'.output=w.output) (mQ:w'.heap=w.heap.push o)
  (cM:wk w' R (h.push c) (bB μ h.n (some ⟨w.heap.size,0,0⟩)) ⟨w.heap.size,0,0⟩ c) (sa:w.drawn<=w'.drawn:=by first | exact Nat.le_refl _ | exact Nat.le_succ _ | assumption) :
  dg w h μ w' (h.push c) (bB μ h.n (some ⟨w.heap.size,0,0⟩))/\bP R B w' (h.push c) (bB μ h.n (some ⟨w.heap.size,0,0⟩)) :=by
 have aC:h.f h.n=.none:=rel.fresh _ (Nat.le_refl _);have as3:pl aV.none=0:=rfl;have e:dg w h μ w' (h.push c) (bB μ h.n (some ⟨w.heap.size,0,0⟩)) :=by
  refine⟨⟨jX,vD,jY,by simp[mQ],?_,?_,?_,?_,?_,?_,sa⟩,?_⟩
  ·intro k ar _;rw[mQ,Array.getElem?_push,if_neg (by omega)]
  ·rintro k ⟨b,m,al,hm,rfl⟩;by_cases af:b=h.n
   ·subst af; simp at hm; subst hm; exact .inr (Nat.le_refl _)
   ·rw[b5 _ _ _ _ af] at hm;simp only[ep,fJ,b5 _ _ _ _ af] at al;exact .inl ⟨b,m,al,hm,rfl⟩
  ·intro b sz cs' m af hm;have:b≠h.n:=fun aT=>by rw[aT,aC] at af; cases af
   exact .inl ⟨cs',by simp only[ep,fJ,b5 _ _ _ _ this]; exact af,by rw[b5 _ _ _ _ this]; exact hm⟩
  ·rintro b sz (af | ⟨n,cs',af,aL⟩)
   ·have:b≠h.n:=fun aT=>by rw[aT,aC] at af; cases af
    exact .inl (by simp only[ep,fJ,b5 _ _ _ _ this]; exact af)
   ·have:b≠h.n:=fun aT=>by rw[aT,aC] at af; cases af
    exact .inr ⟨n,cs',by simp only[ep,fJ,b5 _ _ _ _ this]; exact af,aL⟩
  ·intro b k m af hm;have:b≠h.n:=fun aT=>by rw[aT,aC] at af; cases af
   exact⟨by simp only[ep,fJ,b5 _ _ _ _ this]; exact af,by rw[b5 _ _ _ _ this]; exact hm⟩
  ·simp[ep,fJ]
  ·intro b af hm;rw[b5 _ _ _ _ (by omega)]; exact hm
 refine⟨e,rel.oL e.toExt0 h.n ?_ ?_ ?_ ?_ ?_ ?_⟩
 ·intro b af al;simp only[ep,fJ,b5 _ _ _ _ af] at al ⊢;exact⟨trivial,trivial,fun m hm=>by rw[mQ,Array.getElem?_push,if_neg (by have:=rel.lt al hm; omega)]⟩
 ·intro m hm;simp at hm; subst hm;simp only[ep,fJ,hV];exact cM
 ·intro b m ct af al _ hm bX;simp only[ep,fJ,b5 _ _ _ _ af] at al;simp at bX; subst bX;have:=rel.lt al hm;simp only[ne_eq]; omega
 ·intro m _ hm;simp at hm; subst hm;exact rel.size
 ·intro b af;simp only[ep,fJ] at af ⊢;rw[b5 _ _ _ _ (by omega)];exact rel.fresh b (by omega)
 ·intro b af;simp only[ep,fJ] at af ⊢;rw[b5 _ _ _ _ (by omega)];exact rel.lX b (by omega)
theorem bP.Ze {R:Nat->Prop} {B:Nat} {w w' : World} {h:aO} {μ:cr} (rel:bP R B w h μ) {b k:Nat} {c c' : aV} {m:M}
  (af:h.f b=c) (ar:pl c=k+1) (fe:pl c'=k+1) (hm:μ b=some m)
  (jX:w'.os=w.os) (vD:w'.tape=w.tape) (jY:w'.output=w.output) (zH:w'.heap.size=w.heap.size) (Fe:∀ k,k≠m.r->w'.heap[k]? = w.heap[k]?)
  (cM:Ext0 w h μ w' (h.set b c') μ->wk w' R (h.set b c') μ m c') (sa:w.drawn<=w'.drawn:=by first | exact Nat.le_refl _ | exact Nat.le_succ _ | assumption) :
  dg w h μ w' (h.set b c') μ/\bP R B w' (h.set b c') μ:=by
 have nv:live (h.f b)=true:=by rw[af]; cases c<;>simp[pl] at ar<;>rfl
 have as6:live c'=true:=by cases c'<;>simp[pl] at fe<;>rfl
 have IW:∀ sz cs,h.f b≠.cells sz cs:=fun sz cs aT=>by rw[af] at aT; subst aT; simp[pl] at ar
 have EW:h.f b≠.dead:=fun aT=>by rw[af] at aT; subst aT; simp[pl] at ar
 have e:dg w h μ w' (h.set b c') μ:=by
  refine⟨⟨jX,vD,jY,Nat.le_of_eq zH.symm,?_,?_,?_,?_,?_,Nat.le_refl _,sa⟩,fun _ _ hm=>hm⟩
  ·intro k ar aC;exact Fe k (fun aT=>aC ⟨b,m,nv,hm,aT.symm⟩)
  ·rintro k ⟨aZ,ct,dx,bX,rfl⟩;by_cases ca:aZ=b
   ·subst ca; exact .inl ⟨aZ,ct,nv,bX,rfl⟩
   ·simp only[dZ,b5 _ _ _ _ ca] at dx;exact .inl ⟨aZ,ct,dx,bX,rfl⟩
  ·intro aZ sz cs ct bN bX;have ca:aZ≠b:=fun aT=>by subst aT; exact IW _ _ bN
   exact .inl ⟨cs,by simp only[dZ,b5 _ _ _ _ ca]; exact bN,bX⟩
  ·rintro aZ sz (ax | ⟨n,cs',ax,aL⟩)
   ·have ca:aZ≠b:=fun aT=>by subst aT; exact EW ax
    exact .inl (by simp only[dZ,b5 _ _ _ _ ca]; exact ax)
   ·have ca:aZ≠b:=fun aT=>by subst aT; exact IW _ _ ax
    exact .inr ⟨n,cs',by simp only[dZ,b5 _ _ _ _ ca]; exact ax,aL⟩
  ·intro aZ k' ct bN bX;by_cases ca:aZ=b
   ·subst ca;refine⟨?_,bX⟩;simp only[dZ,hV];rw[af,ar] at bN;rw[fe]; exact bN
   ·exact⟨by simp only[dZ,b5 _ _ _ _ ca]; exact bN,bX⟩
 refine⟨e,rel.oL e.toExt0 b ?_ ?_ ?_ ?_ ?_ rel.lX⟩
 ·intro aZ ca al;simp only[dZ,b5 _ _ _ _ ca] at al ⊢;exact⟨trivial,trivial,fun ct bX=>Fe _ (fun aT=>ca (rel.inj aZ b ct m al nv bX hm aT))⟩
 ·intro ct bX;rw[hm] at bX; cases bX;simp only[dZ,hV];exact cM e.toExt0
 ·intro aZ e0 eR ca al _ ad ae aT;rw[hm] at ae; cases ae;simp only[dZ,b5 _ _ _ _ ca] at al;exact ca (rel.inj aZ b e0 m al nv ad hm aT)
 ·intro ct _ bX;rw[hm] at bX; cases bX;exact rel.base b m nv hm
 ·intro aZ bN;by_cases ca:aZ=b
  ·subst ca;have:=rel.nU hm;simp only[e2] at bN; omega
  ·simp only[dZ,b5 _ _ _ _ ca]; exact rel.fresh aZ bN
theorem bP.write {R:Nat->Prop} {B:Nat} {w w' : World} {h:aO} {μ:cr} (rel:bP R B w h μ) {b sz sz' : Nat} {cs cs' : List U} {m:M} {arr l9:Array Value} {t:TypeId} {e4:Nat × Nat}
  (af:h.f b=.cells sz cs) (hm:μ b=some m) (az:w.heap[m.r]? = some (.cells arr t e4)) (ew:arr.size=m.T) (o7:e4=(0,0)\/m.T<e4.1)
  (jX:w'.os=w.os) (vD:w'.tape=w.tape) (jY:w'.output=w.output) (zH:w'.heap.size=w.heap.size)
  (lT:w'.heap[m.r]? = some (.cells l9 t e4)) (Fe:∀ k,k≠m.r->w'.heap[k]? = w.heap[k]?) (aE:l9.size=arr.size)
  (al:cs'.length=sz') (q2:sz<=sz') (eA:m.s+sz'<=m.T)
  (ao:∀ (j:Nat) (c:U),cs'[j]? = some c->∃ v:Value,l9[m.s+j]? = some v/\v.oneCell'=true/\aQ w R h μ c v) (sa:w.drawn<=w'.drawn:=by first | exact Nat.le_refl _ | exact Nat.le_succ _ | assumption) :
  dg w h μ w' (h.set b (.cells sz' cs')) μ/\bP R B w' (h.set b (.cells sz' cs')) μ:=by
 have nv:live (h.f b)=true:=by rw[af]; rfl
 have e:dg w h μ w' (h.set b (.cells sz' cs')) μ:=by
  refine⟨⟨jX,vD,jY,Nat.le_of_eq zH.symm,?_,?_,?_,?_,?_,Nat.le_refl _,sa⟩,fun _ _ hm=>hm⟩
  ·intro k ar aC;exact Fe k (fun aT=>aC ⟨b,m,nv,hm,aT.symm⟩)
  ·rintro k ⟨aZ,ct,dx,bX,rfl⟩;by_cases ca:aZ=b
   ·subst ca; exact .inl ⟨aZ,ct,nv,bX,rfl⟩
   ·simp only[dZ,e2,b5 _ _ _ _ ca] at dx;exact .inl ⟨aZ,ct,dx,bX,rfl⟩
  ·intro aZ ao0 qH ct bN bX;by_cases ca:aZ=b
   ·subst ca;rw[af] at bN; cases bN;by_cases ak:sz'=sz
    ·exact .inl ⟨cs',by simp[dZ,e2,ak],bX⟩
    ·exact .inr (.inr ⟨sz',cs',by simp[dZ,e2],by omega⟩)
   ·exact .inl ⟨qH,by simp only[dZ,e2,b5 _ _ _ _ ca]; exact bN,bX⟩
  ·rintro aZ s0 (bN | ⟨n,qH,bN,aL⟩)
   ·have ca:aZ≠b:=fun aT=>by rw[aT,af] at bN; cases bN
    exact .inl (by simp only[dZ,e2,b5 _ _ _ _ ca]; exact bN)
   ·by_cases ca:aZ=b
    ·subst ca;rw[af] at bN; cases bN;exact .inr ⟨sz',cs',by simp[dZ,e2],by omega⟩
    ·exact .inr ⟨n,qH,by simp only[dZ,e2,b5 _ _ _ _ ca]; exact bN,aL⟩
  ·intro aZ k ct bN bX;have ca:aZ≠b:=fun aT=>by rw[aT,af] at bN; cases bN
   exact⟨by simp only[dZ,e2,b5 _ _ _ _ ca]; exact bN,bX⟩
 refine⟨e,rel.oL e.toExt0 b ?_ ?_ ?_ ?_ ?_ ?_⟩
 ·intro aZ ca dx;simp only[dZ,e2,b5 _ _ _ _ ca] at dx ⊢;exact⟨trivial,trivial,fun ct bX=>Fe _ (fun aT=>ca (rel.inj aZ b ct m dx nv bX hm aT))⟩
 ·intro ct bX;rw[hm] at bX; cases bX;simp only[dZ,e2,hV];refine⟨al,eA,l9,t,e4,lT,aE.trans ew,o7,fun j c ai=>?_⟩;obtain⟨v,ad,ae,aj⟩:=ao j c ai;exact⟨v,ad,ae,aj.ext e⟩
 ·intro aZ ct akB ca dx _ bX ES aT;rw[hm] at ES; cases ES;simp only[dZ,e2,b5 _ _ _ _ ca] at dx;exact ca (rel.inj aZ b ct m dx nv bX hm aT)
 ·intro ct _ bX;exact rel.base b ct nv bX
 ·intro aZ bN;simp only[dZ,e2] at bN ⊢;have ca:aZ≠b:=fun aT=>by
   have:=rel.fresh aZ bN;rw[aT,af] at this; cases this
  rw[b5 _ _ _ _ ca];exact rel.fresh aZ bN
 ·intro aZ bN;exact rel.lX aZ bN
theorem bP.move {R:Nat->Prop} {B:Nat} {w w' : World} {h:aO} {μ:cr} (rel:bP R B w h μ) {b sz sz' : Nat} {cs cs' : List U} {m:M} {arr:Array Value} {t:TypeId}
  (af:h.f b=.cells sz cs) (hm:μ b=some m)
  (jX:w'.os=w.os) (vD:w'.tape=w.tape) (jY:w'.output=w.output) (mQ:w'.heap=w.heap.push (.cells arr t (0,0)))
  (al:cs'.length=sz') (q2:sz<sz') (eA:sz'<=arr.size)
  (ao:∀ (j:Nat) (c:U),cs'[j]? = some c->∃ v:Value,arr[j]? = some v/\v.oneCell'=true/\aQ w R h μ c v) (sa:w.drawn<=w'.drawn:=by first | exact Nat.le_refl _ | exact Nat.le_succ _ | assumption) :
  dg w h μ w' (h.set b (.cells sz' cs')) (bB μ b (some ⟨w.heap.size,0,arr.size⟩))/\bP R B w' (h.set b (.cells sz' cs')) (bB μ b (some ⟨w.heap.size,0,arr.size⟩)) :=by
 have nv:live (h.f b)=true:=by rw[af]; rfl
 have e:dg w h μ w' (h.set b (.cells sz' cs')) (bB μ b (some ⟨w.heap.size,0,arr.size⟩)) :=by
  refine⟨⟨jX,vD,jY,by simp[mQ],?_,?_,?_,?_,?_,Nat.le_refl _,sa⟩,?_⟩
  ·intro k ar aC;rw[mQ,Array.getElem?_push,if_neg (by omega)]
  ·rintro k ⟨aZ,ct,dx,bX,rfl⟩;by_cases ca:aZ=b
   ·subst ca; simp at bX; subst bX; exact .inr (Nat.le_refl _)
   ·rw[b5 _ _ _ _ ca] at bX;simp only[dZ,e2,b5 _ _ _ _ ca] at dx;exact .inl ⟨aZ,ct,dx,bX,rfl⟩
  ·intro aZ ao0 qH ct bN bX;by_cases ca:aZ=b
   ·subst ca;rw[af] at bN; cases bN;exact .inr (.inr ⟨sz',cs',by simp[dZ,e2],by omega⟩)
   ·exact .inl ⟨qH,by simp only[dZ,e2,b5 _ _ _ _ ca]; exact bN,by rw[b5 _ _ _ _ ca]; exact bX⟩
  ·rintro aZ s0 (bN | ⟨n,qH,bN,aL⟩)
   ·have ca:aZ≠b:=fun aT=>by rw[aT,af] at bN; cases bN
    exact .inl (by simp only[dZ,e2,b5 _ _ _ _ ca]; exact bN)
   ·by_cases ca:aZ=b
    ·subst ca;rw[af] at bN; cases bN;exact .inr ⟨sz',cs',by simp[dZ,e2],by omega⟩
    ·exact .inr ⟨n,qH,by simp only[dZ,e2,b5 _ _ _ _ ca]; exact bN,aL⟩
  ·intro aZ k ct bN bX;have ca:aZ≠b:=fun aT=>by rw[aT,af] at bN; cases bN
   exact⟨by simp only[dZ,e2,b5 _ _ _ _ ca]; exact bN,by rw[b5 _ _ _ _ ca]; exact bX⟩
  ·intro aZ _ bX;have ca:aZ≠b:=fun aT=>by rw[aT,hm] at bX; cases bX
   rw[b5 _ _ _ _ ca]; exact bX
 refine⟨e,rel.oL e.toExt0 b ?_ ?_ ?_ ?_ ?_ ?_⟩
 ·intro aZ ca dx;simp only[dZ,e2,b5 _ _ _ _ ca] at dx ⊢;exact⟨trivial,trivial,fun ct bX=>by rw[mQ,Array.getElem?_push,if_neg (by have:=rel.lt dx bX; omega)]⟩
 ·intro ct bX;simp at bX; subst bX;simp only[dZ,e2,hV];refine⟨al,by simpa using eA,arr,t,(0,0),by simp[mQ],rfl,.inl rfl,fun j c ai=>?_⟩;obtain⟨v,ad,ae,aj⟩:=ao j c ai;exact⟨v,by simpa using ad,ae,aj.ext e⟩
 ·intro aZ ct akB ca dx _ bX ES;simp only[dZ,e2,b5 _ _ _ _ ca] at dx;simp at ES; subst ES;have:=rel.lt dx bX;simp only[ne_eq]; omega
 ·intro ct _ bX;simp at bX; subst bX;exact rel.size
 ·intro aZ bN;simp only[dZ,e2] at bN ⊢;have ca:aZ≠b:=fun aT=>by
   have:=rel.fresh aZ bN;rw[aT,af] at this; cases this
  rw[b5 _ _ _ _ ca];exact rel.fresh aZ bN
 ·intro aZ bN;simp only[dZ,e2] at bN;have ca:aZ≠b:=fun aT=>by
   have:=rel.nU hm;omega
  rw[b5 _ _ _ _ ca];exact rel.lX aZ bN
section
variable {P:Program} {w:World} {R:Nat->Prop} {B:Nat} {h:aO} {μ:cr}
def Good (R:Nat->Prop) (B:Nat) (w:World) (h:aO) (μ:cr) (r:Result Next) (c:U) (h' : aO) :Prop:=
 ∃ v w' μ',(r=.ok (.value v) w'\/(r=.ok .skip w'/\v=undef))/\dg w h μ w' h' μ'/\bP R B w' h' μ'/\aQ w' R h' μ' c v
theorem Good.pure (rel:bP R B w h μ) {r:Result Next} {c:U} {v:Value} (az:r=.ok (.value v) w) (ao:aQ w R h μ c v) :Good R B w h μ r c h:=
 ⟨v,w,μ,.inl az,.refl _ _ _,rel,ao⟩
theorem cB {t:TypeId} {d:TypeDesc} (bg:P.underlying t=some d) :(underlying t).run P w=.ok d w:=by
 simp[underlying,bg]
theorem Ki {t:TypeId} {b:Bool} (af:ev P t=some b) :(isAgg t).run P w=.ok b w:=by
 unfold ev at af;cases bg:P.underlying t with
 | none=>rw[bg] at af; cases af
 | some d=>
  rw[bg] at af;simp only[Option.map_some,Option.some.injEq] at af;unfold isAgg;simp only[Sem.run_bind,cB bg,Result.andThen_ok];cases d<;>simp_all
theorem ai5 {t:TypeId} {n:Nat} (aC:cC P t=some n) :∃ i,P.info? t=some i/\i.size=n:=by
 unfold cC at aC;cases ay:P.info? t with
 | none=>rw[ay] at aC; cases aC
 | some i=>rw[ay] at aC; exact⟨i,rfl,by simpa using aC⟩
theorem fQ {t:TypeId} {n:Nat} (aC:cC P t=some n) :(sizeOf t).run P w=.ok n w:=by
 obtain⟨i,ay,ak⟩:=ai5 aC;simp[sizeOf,typeInfo,ay,ak]
theorem aqE {t:TypeId} {z:List U} (aw:ik P t=some z) :∃ i v,P.info? t=some i/\i.zero=some v/\v.cells.toList.all Value.oneCell'=true/\z=v.cells.toList.map p7:=by
 unfold ik at aw;cases ay:P.info? t with
 | none=>rw[ay] at aw; cases aw
 | some i=>
  rw[ay] at aw;simp only[Option.bind_some] at aw;cases ao:i.zero with
  | none=>rw[ao] at aw; cases aw
  | some v=>
   rw[ao] at aw;simp only[Option.bind_some] at aw;split at aw
   ·rename_i ad;exact⟨i,v,rfl,ao,ad,by simpa using aw.symm⟩
   ·cases aw
theorem ZY {t:TypeId} {i:TypeInfo} {v:Value} (ay:P.info? t=some i) (ao:i.zero=some v) :(zeroValue t).run P w=.ok v w:=by
 simp[zeroValue,typeInfo,ay,ao]
theorem aQ.p7 (v:Value) :aQ w R h μ (p7 v) v:=by
 cases v with
 | bool b=>exact .bool _
 | int k n=>exact .int _ _
 | string s=>exact .str _
 | pointer a=>cases a<;>first | exact .kV | exact .bad _
 | slice a l c=>
  simp only[bV.p7];split
  ·exact .aG
  ·exact .bad _
 | map r=>cases r<;>first | exact .iY | exact .bad _
 | nilFunc=>exact .kT
 | nilIface=>exact .kU
 | func fn first gL=>
  simp only[bV.p7];split
  ·rename_i f ad ae;have aS:first=#[] :=by simpa using ad
   have bt:gL=#[] :=by simpa using ae
   subst aS bt;exact .fn _ [] [] #[] #[] rfl rfl (fun _ _ _ aT=>by simp at aT) (fun _ _ _ aT=>by simp at aT)
  ·exact .bad _
 | _=>exact .bad _
theorem aQ.xV (v:Value) :aQ w R h μ (xV v) v:=by
 unfold bV.xV;split
 ·rename_i cs;split
  ·rename_i c6;refine .aH _ _ (by simp) (fun j v ai=>?_) (fun j c v ah mq=>?_)
   ·rw[List.all_eq_true] at c6;exact c6 v (by have:=Array.mem_of_getElem? ai; simpa using this)
   ·rw[List.getElem?_map] at ah;simp only[Array.getElem?_toList,mq,Option.map_some,Option.some.injEq] at ah;subst ah;exact aQ.p7 v
  ·exact .bad _
 ·rename_i vs;refine .bq _ _ (by simp) (fun j c v ah mq=>?_);rw[List.getElem?_map] at ah;simp only[Array.getElem?_toList,mq,Option.map_some,Option.some.injEq] at ah;subst ah;exact aQ.p7 v
 ·exact aQ.p7 v
theorem aQ.one {c:U} {v:Value} (ao:aQ w R h μ c v) (ad:c.one=true) :v.oneCell'=true:=by
 cases ao<;>first | rfl | (simp[U.one] at ad)
theorem Hv {c:U} {v:Value} {cs:List U} (ao:aQ w R h μ c v) (ah:c.cells=some cs) :
  v.cells.size=cs.length/\∀ (j:Nat) (x:U),cs[j]? = some x->∃ u:Value,v.cells[j]? = some u/\u.oneCell'=true/\aQ w R h μ x u:=by
 have kY:∀ (c:U) (v:Value),aQ w R h μ c v->v.cells=#[v]->v.oneCell'=true->∀ cs,cs=[c]->
   v.cells.size=cs.length/\∀ (j:Nat) (x:U),cs[j]? = some x->∃ u:Value,v.cells[j]? = some u/\u.oneCell'=true/\aQ w R h μ x u:=by
  intro c v ao lf ad cs c6;subst c6;rw[lf];refine⟨rfl,fun j x ag=>?_⟩;cases j with
  | zero=>simp at ag; subst ag; exact⟨v,rfl,ad,ao⟩
  | succ j=>simp at ag
 cases ao with
 | aH cs' vs al ad ao=>
  simp only[U.cells,Option.some.injEq] at ah; subst ah;refine⟨al,fun j x ag=>?_⟩;have ai:j<vs.size:=by rw[al]; exact (List.getElem?_eq_some_iff.1 ag).1
  exact⟨vs[j],by simp[Value.cells,ai],ad j _ (by simp[ai]),ao j x _ ag (by simp[ai])⟩
 | bq cs' vs al ao=>simp[U.cells] at ah
 | bad v=>simp[U.cells] at ah
 | bool b=>exact kY _ _ (.bool b) rfl rfl _ (by simpa [U.cells] using ah.symm)
 | int k n=>exact kY _ _ (.int k n) rfl rfl _ (by simpa [U.cells] using ah.symm)
 | str bs=>exact kY _ _ (.str bs) rfl rfl _ (by simpa [U.cells] using ah.symm)
 | kV=>exact kY _ _ .kV rfl rfl _ (by simpa [U.cells] using ah.symm)
 | aG=>exact kY _ _ .aG rfl rfl _ (by simpa [U.cells] using ah.symm)
 | iY=>exact kY _ _ .iY rfl rfl _ (by simpa [U.cells] using ah.symm)
 | kT=>exact kY _ _ .kT rfl rfl _ (by simpa [U.cells] using ah.symm)
 | kU=>exact kY _ _ .kU rfl rfl _ (by simpa [U.cells] using ah.symm)
 | ptr b off sz cs' m af hm=>exact kY _ _ (.ptr b off sz cs' m af hm) rfl rfl _ (by simpa [U.cells] using ah.symm)
 | nI b off sz a ax=>exact kY _ _ (.nI b off sz a ax) rfl rfl _ (by simpa [U.cells] using ah.symm)
 | bM cs' off blk o eJ cP ao=>exact kY _ _ (.bM cs' off blk o eJ cP ao) rfl rfl _ (by simpa [U.cells] using ah.symm)
 | aq z b off len cap sz cap' cs' m af hm al av cP=>exact kY _ _ (.aq z b off len cap sz cap' cs' m af hm al av cP) rfl rfl _ (by simpa [U.cells] using ah.symm)
 | hO z b off len cap sz cap' a al cP ax=>exact kY _ _ (.hO z b off len cap sz cap' a al cP ax) rfl rfl _ (by simpa [U.cells] using ah.symm)
 | i3 z b off sz a cs' m af hm=>exact kY _ _ (.i3 z b off sz a cs' m af hm) rfl rfl _ (by simpa [U.cells] using ah.symm)
 | a1 z es blk off cap eJ al aw cP ao=>exact kY _ _ (.a1 z es blk off cap eJ al aw cP ao) rfl rfl _ (by simpa [U.cells] using ah.symm)
 | gv z a cap=>exact kY _ _ (.gv z a cap) rfl rfl _ (by simpa [U.cells] using ah.symm)
 | fn f aeK AU fs cs' aF cP ad ae=>exact kY _ _ (.fn f aeK AU fs cs' aF cP ad ae) rfl rfl _ (by simpa [U.cells] using ah.symm)
 | mp b m af hm=>exact kY _ _ (.mp b m af hm) rfl rfl _ (by simpa [U.cells] using ah.symm)
 | it b m af hm=>exact kY _ _ (.it b m af hm) rfl rfl _ (by simpa [U.cells] using ah.symm)
 | hM t c v ao=>exact kY _ _ (.hM t c v ao) rfl rfl _ (by simpa [U.cells] using ah.symm)
 | hE l=>exact kY _ _ (.hE l) rfl rfl _ (by simpa [U.cells] using ah.symm)
theorem Addr.m9 (b o n:Nat) :(⟨b,o,none⟩:Addr).add n=⟨b,o+n,none⟩:=by unfold Addr.add; split<;>simp_all
theorem anw (rel:bP R B w h μ) {p:U} {v1:Value} {cs:List U} {off:Nat} (az:reach h p=some (cs,off)) (au:aQ w R h μ p v1) :
  ∃ blk o,v1=.pointer (some ⟨blk,o+off,none⟩)/\∀ (j:Nat) (c:U),cs[j]? = some c->∃ v:Value,w.cell? ⟨blk,o+j,none⟩=some v/\v.oneCell'=true/\aQ w R h μ c v:=by
 cases au with
 | ptr b JL sz cs' m af hm=>
  simp only[reach,af,ite_true,Option.some.injEq,Prod.mk.injEq] at az;obtain⟨rfl,rfl⟩:=az;have ey:=rel.blk b m hm;rw[af] at ey;obtain⟨ad,ae,arr,t,e4,aj,aD,a2,bv⟩:=ey;refine⟨m.r,m.s,rfl,fun j c ai=>?_⟩;obtain⟨v,a8,bh,b6⟩:=bv j c ai;exact⟨v,by simp[World.cell?,aj,a8],bh,b6⟩
 | nI b JL sz a ax=>
  unfold reach at az;rcases ax with ax | ⟨n,cs',ax,aL⟩
  ·simp[ax] at az
  ·simp only[ax] at az;split at az
   ·omega
   ·cases az
 | bM cs' JL blk o eJ ah ao=>
  simp only[reach,Option.some.injEq,Prod.mk.injEq] at az;obtain⟨rfl,rfl⟩:=az;exact⟨blk,o,rfl,fun j c ai=>⟨eJ j,(ah j (List.getElem?_eq_some_iff.1 ai).1).here,(ah j (List.getElem?_eq_some_iff.1 ai).1).one,ao j c ai⟩⟩
 | _=>simp[reach] at az
theorem an1 {t:TypeId} {cs:List U} {off:Nat} {c:U} (au:iB P t cs off=some c) {blk o:Nat}
  (ah:∀ (j:Nat) (x:U),cs[j]? = some x->∃ v:Value,w.cell? ⟨blk,o+j,none⟩=some v/\v.oneCell'=true/\aQ w R h μ x v) :
  ∃ v,(loadVar t ⟨blk,o+off,none⟩).run P w=.ok v w/\aQ w R h μ c v:=by
 unfold iB at au;cases pP:ev P t with
 | none=>rw[pP] at au; cases au
 | some b=>
  rw[pP] at au;cases b with
  | false=>
   simp only at au;obtain⟨v,ad,_,aj⟩:=ah off c au;exact⟨v,by simp[loadVar,Ki pP,ad],aj⟩
  | true=>
   cases aC:cC P t with
   | none=>rw[aC] at au; cases au
   | some n=>
    rw[aC] at au;simp only at au;split at au
    ·rename_i dN;simp only[Option.some.injEq] at au;subst au;have tz:∀ j,j<n->∃ v,w.cell? ⟨blk,o+(off+j),none⟩=some v/\v.oneCell'=true/\aQ w R h μ (cs.getD (off+j) .bad) v:=by
      intro j ai;have aL:off+j<cs.length:=by omega
      have:=ah (off+j) cs[off+j] (by simp[aL]);simpa [List.getD,aL] using this
     have ao:∃ f:Nat->Value,∀ j,j<n->w.cell? ⟨blk,o+(off+j),none⟩=some (f j)/\(f j).oneCell'=true/\aQ w R h μ (cs.getD (off+j) .bad) (f j) :=by
      refine⟨fun j=>if ai:j<n then Classical.choose (tz j ai) else undef,fun j ai=>?_⟩;simp only[ai,dif_pos];exact Classical.choose_spec (tz j ai)
     obtain⟨f,aF⟩:=ao;have al:(loadCells ⟨blk,o+off,none⟩ n).run P w=.ok ((List.range n).map f).toArray w:=by
      have:=run_loadCells_list (P:=P) w ⟨blk,o+off,none⟩ ((List.range n).map f) (fun j v ai=>by
       rw[List.getElem?_map] at ai;have ki:j<n:=by
        rcases Nat.lt_or_ge j n with ad | ad
        ·exact ad
        ·rw[List.getElem?_eq_none (by simpa using ad)] at ai; cases ai
       rw[List.getElem?_range ki] at ai;simp only[Option.map_some,Option.some.injEq] at ai;rw[Addr.m9,<-ai,Nat.add_assoc];exact (aF j ki).1)
      simpa using this
     refine⟨.agg ((List.range n).map f).toArray,by simp[loadVar,Ki pP,fQ aC,al],.aH _ _ (by simp; omega) (fun j v ai=>?_) (fun j c v cP ai=>?_)⟩
     ·simp only[List.getElem?_toArray,List.getElem?_map] at ai;have ki:j<n:=by
       rcases Nat.lt_or_ge j n with ad | ad
       ·exact ad
       ·rw[List.getElem?_eq_none (by simpa using ad)] at ai; cases ai
      rw[List.getElem?_range ki] at ai;simp only[Option.map_some,Option.some.injEq] at ai;rw[<-ai]; exact (aF j ki).2.1
     ·simp only[List.getElem?_toArray,List.getElem?_map] at ai;have ki:j<n:=by
       rcases Nat.lt_or_ge j n with ad | ad
       ·exact ad
       ·rw[List.getElem?_eq_none (by simpa using ad)] at ai; cases ai
      rw[List.getElem?_range ki] at ai;simp only[Option.map_some,Option.some.injEq] at ai;rw[List.getElem?_take_of_lt ki,List.getElem?_drop] at cP;have:=(aF j ki).2.2;rw[List.getD,cP] at this;rw[<-ai]; simpa using this
    ·cases au
theorem XV (rel:bP R B w h μ) {t:TypeId} {p:U} {v1:Value} {c:U} (al:tZ P h t p=some c) (au:aQ w R h μ p v1) :
  ∃ v,(Instr.loadAt t v1).run P w=.ok v w/\aQ w R h μ c v:=by
 unfold tZ at al;cases az:reach h p with
 | none=>rw[az] at al; cases al
 | some x=>
  obtain⟨cs,off⟩:=x;rw[az] at al;obtain⟨blk,o,rfl,ah⟩:=anw rel az au;obtain⟨v,ad,ae⟩:=an1 al ah;exact⟨v,by simp[Instr.loadAt,Instr.sureAddr,ad],ae⟩
end

section
variable {P:Program} {w:World} {R:Nat->Prop} {B:Nat} {h:aO} {μ:cr}
theorem ZX (P:Program) (g o:Nat) (t:TypeId) (e4:Nat × Nat) :∀ (vs:List Value) (i:Nat) (iG:Array Value) (w:World),w.heap[g]? = some (.cells iG t e4)->(e4=(0,0)\/iG.size<=e4.1)->
  o+i+vs.length<=iG.size->(∀ v∈vs,v.oneCell'=true)->
  (storeCells ⟨g,o,none⟩ vs i).run P w=.ok () (w.setRow g (iG.toList.take (o+i)++vs++iG.toList.drop (o+i+vs.length)).toArray)
 | [],i,iG,w,ax,_,_,_=>by
  simp only[storeCells,List.append_nil,List.length_nil,Nat.add_zero,List.take_append_drop,Array.toArray_toList];rw[setRow_self w g iG t e4 ax];rfl
 | v::rest,i,iG,w,ax,o7,al,ad=>by
  have ay:o+i<iG.size:=by simp at al; omega
  have af5:(⟨g,o,none⟩:Addr).add i=⟨g,o+i,none⟩:=Addr.m9 _ _ _;have np:w.cell? ⟨g,o+i,none⟩=some iG[o+i] :=by simp[World.cell?,ax,ay]
  have agX:w.frozen? ⟨g,o+i,none⟩=false:=by
   obtain⟨cK,gX⟩:=e4;rcases o7 with o7 | o7
   ·cases o7; simp[World.frozen?,ax]
   ·have:¬ cK<=o+i:=by simp at o7; omega
    simp[World.frozen?,ax,this]
  have bE:(store ((⟨g,o,none⟩:Addr).add i) v).run P w=.ok () (w.setRow g (iG.setIfInBounds (o+i) v)) :=by
   rw[af5,run_store P w _ v _ (ad v (by simp)),np];simp[agX,setCell_eq_setRow w g (o+i) iG t e4 v ax]
  have aR:=ZX P g o t e4 rest (i+1) (iG.setIfInBounds (o+i) v) (w.setRow g (iG.setIfInBounds (o+i) v)) (setRow_heap w g iG _ t _ ax) (by simpa using o7) (by simp at al ⊢; omega) (fun x ag=>ad x (by simp[ag]));simp only[storeCells,Sem.run_bind,bE,Result.andThen_ok,aR,setRow_setRow];congr 3;have:=list_seg_step iG.toList (o+i) v rest (by simp at al ⊢; omega);simpa [Nat.add_assoc,Nat.add_comm 1] using this
theorem Al {cs vs:List U} {k:Nat} (ar:k<=cs.length) :(bf cs k vs).length=max cs.length (k+vs.length) :=by
 unfold bf;simp only[List.length_append,List.length_take,List.length_drop];omega
theorem aaj {cs vs:List U} {k j:Nat} (ar:k<=cs.length) :(bf cs k vs)[j]? = if j<k then cs[j]? else if j<k+vs.length then vs[j - k]? else cs[j]?:=by
 unfold bf;rw[List.append_assoc];by_cases ad:j<k
 ·rw[List.getElem?_append_left (by simp; omega),List.getElem?_take_of_lt ad,if_pos ad]
 ·rw[List.getElem?_append_right (by simp; omega),if_neg ad];simp only[List.length_take,Nat.min_eq_left ar];by_cases ae:j<k+vs.length
  ·rw[List.getElem?_append_left (by omega),if_pos ae]
  ·rw[List.getElem?_append_right (by omega),if_neg ae,List.getElem?_drop];congr 1; omega
theorem AA (rel:bP R B w h μ) {b sz k:Nat} {cs cvs:List U} {m:M} {vs:List Value} (af:h.f b=.cells sz cs) (hm:μ b=some m) (ar:k<=sz)
  (al:vs.length=cvs.length) (eA:m.s+max sz (k+cvs.length)<=m.T)
  (ao:∀ (j:Nat) (c:U),cvs[j]? = some c->∃ v:Value,vs[j]? = some v/\v.oneCell'=true/\aQ w R h μ c v) :
  ∃ w',(storeCells ⟨m.r,m.s+k,none⟩ vs).run P w=.ok () w'/\dg w h μ w' (h.set b (.cells (max sz (k+cvs.length)) (bf cs k cvs))) μ ∧
   bP R B w' (h.set b (.cells (max sz (k+cvs.length)) (bf cs k cvs))) μ:=by
 have ey:=rel.blk b m hm;rw[af] at ey;obtain⟨bA,ew,arr,t,e4,az,aE,o7,ah⟩:=ey;have ad:∀ v∈vs,v.oneCell'=true:=by
  intro v iv;obtain⟨j,ai,rfl⟩:=List.getElem_of_mem iv;obtain⟨v,a8,bh,_⟩:=ao j (cvs[j]'(by omega)) (by simp);rw[List.getElem?_eq_getElem ai] at a8;cases a8;exact bh
 have fV:=ZX P m.r (m.s+k) t e4 vs 0 arr w az (by rw[aE]; exact o7.imp id Nat.le_of_lt) (by omega) ad;simp only[Nat.add_zero] at fV;have sn:(arr.toList.take (m.s+k)++vs++arr.toList.drop (m.s+k+vs.length)).toArray.size=arr.size:=by
  simp only[List.size_toArray,List.length_append,List.length_take,List.length_drop,Array.length_toList];omega
 have eb:=rel.write (w':=w.setRow m.r (arr.toList.take (m.s+k)++vs++arr.toList.drop (m.s+k+vs.length)).toArray) (cs':=bf cs k cvs) (sz':=max sz (k+cvs.length)) af hm az aE o7
  rfl rfl rfl (by simp[World.setRow]) (setRow_heap w m.r arr _ t e4 az) (fun k' fe=>setRow_other w m.r k' _ fe) sn
  (by rw[Al (by omega),bA]) (by omega) (by omega) (fun j c ai=>?_)
 ·exact⟨_,fV,eb.1,eb.2⟩
 ·rw[aaj (by omega)] at ai;simp only[List.getElem?_toArray];rw[List.append_assoc];split at ai
  ·rename_i aL;obtain⟨v,a8,bh,b6⟩:=ah j c ai;refine⟨v,?_,bh,b6⟩;rw[List.getElem?_append_left (by simp; omega),List.getElem?_take_of_lt (by omega)];simpa using a8
  ·rename_i vk;split at ai
   ·rename_i aL;obtain⟨v,a8,bh,b6⟩:=ao _ c ai;refine⟨v,?_,bh,b6⟩;have zs:min (m.s+k) arr.size=m.s+k:=by omega
    rw[List.getElem?_append_right (by simp; omega)];simp only[List.length_take,Array.length_toList,zs];rw[List.getElem?_append_left (by omega),<-a8];congr 1; omega
   ·rename_i asY;obtain⟨v,a8,bh,b6⟩:=ah j c ai;refine⟨v,?_,bh,b6⟩;have zs:min (m.s+k) arr.size=m.s+k:=by omega
    rw[List.getElem?_append_right (by simp; omega)];simp only[List.length_take,Array.length_toList,zs];rw[List.getElem?_append_right (by omega),List.getElem?_drop];have:(m.s+k+vs.length+(m.s+j - (m.s+k) - vs.length))=m.s+j:=by omega
    rw[this];simpa using a8
theorem aas (rel:bP R B w h μ) {t:TypeId} {p v:U} {v1 qo:Value} {h' : aO} (ak:yh P h t p v=some h') (au:aQ w R h μ p v1) (ao:aQ w R h μ v qo) :
  ∃ w',(Instr.storeAt t v1 qo).run P w=.ok () w'/\dg w h μ w' h' μ/\bP R B w' h' μ:=by
 unfold yh at ak;split at ak
 ·rename_i b off sz vs n mg aC;obtain⟨hL,ix⟩:=Hv ao mg;cases af:h.f b with
  | cells m cs=>
   rw[af] at ak;simp only at ak;split at ak
   ·rename_i kh;obtain⟨rfl,bA,eA⟩:=kh;simp only[Option.some.injEq] at ak;subst ak;cases au with
    | ptr aZ JL sz' cs' ch bN hm=>
     have ey:=rel.blk b ch hm;rw[af] at ey;have ew:=ey.2.1;obtain⟨w',ad,ae,aj⟩:=AA (P:=P) rel (cvs:=vs) (vs:=qo.cells.toList) (k:=off) af hm (by omega) (by simpa using hL) (by omega)
      (fun j c ai=>by obtain⟨u,a8,bh,b6⟩:=ix j c ai; exact⟨u,by simpa using a8,bh,b6⟩)
     have nw:max m (off+vs.length)=m:=by omega
     rw[nw] at ae aj;refine⟨w',?_,ae,aj⟩;have bY:¬ (qo.cells.size≠n) :=by omega
     simp[Instr.storeAt,Instr.sureAddr,storeVar,fQ aC,bY,ad]
    | nI aZ JL sz' a ax=>
     rcases ax with ax | ⟨fY,cs',ax,aL⟩
     ·rw[ax] at af; cases af
     ·rw[ax] at af; cases af; omega
   ·cases ak
  | _=>rw[af] at ak; cases ak
 ·cases ak
theorem He (rel:bP R B w h μ) {cs:List U} {vs:Array Value} (t:TypeId) (al:vs.size=cs.length)
  (ao:∀ (j:Nat) (c:U),cs[j]? = some c->∃ v:Value,vs[j]? = some v/\v.oneCell'=true/\aQ w R h μ c v) :
  let h':=h.push (.cells cs.length cs)
  let μ':=bB μ h.n (some ⟨w.heap.size,0,vs.size⟩)
  let w':=w.alloc (.cells vs t)
  dg w h μ w' h' μ'/\bP R B w' h' μ'/\∀ off,aQ w' R h' μ' (.ptr h.n off cs.length) (.pointer (some ⟨w.heap.size,off,none⟩)) :=by
 intro h' μ' w';have:=rel.push (w':=w') cs vs t rfl rfl rfl rfl (by omega) ao;refine⟨this.1,this.2,fun off=>?_⟩;have au:=aQ.ptr (w:=w') (R:=R) (h:=h') (μ:=μ') h.n off cs.length cs ⟨w.heap.size,0,vs.size⟩ (by simp[h',ep,fJ]) (by simp[μ']);simpa using au
theorem abH {t:TypeId} {z:List U} (aw:ik P t=some z) :∃ i v,P.info? t=some i/\i.zero=some v/\v.cells.size=z.length ∧
  ∀ (j:Nat) (c:U),z[j]? = some c->∃ u:Value,v.cells[j]? = some u/\u.oneCell'=true/\aQ w R h μ c u:=by
 obtain⟨i,v,ay,ao,ad,rfl⟩:=aqE aw;refine⟨i,v,ay,ao,by simp,fun j c ai=>?_⟩;rw[List.getElem?_map] at ai;cases aM:v.cells[j]? with
 | none=>simp[aM] at ai
 | some u=>
  simp[aM] at ai;subst ai;rw[List.all_eq_true] at ad;exact⟨u,rfl,ad u (by have:=Array.mem_of_getElem? aM; simpa using this),aQ.p7 u⟩
theorem To {x:U} {bH:Value} {k:Nat} {c:U} (ah:nX x k=some c) (ag:aQ w R h μ x bH) :
  ∃ a,bH=.pointer (some a)/\aQ w R h μ c (.pointer (some (a.add k))) :=by
 cases ag with
 | ptr b off sz cs m af hm=>
  simp only[nX,Option.some.injEq] at ah; subst ah;refine⟨_,rfl,?_⟩;rw[Addr.m9,Nat.add_assoc];exact .ptr b _ sz cs m af hm
 | nI b off sz a ax=>
  simp only[nX,Option.some.injEq] at ah; subst ah;exact⟨a,rfl,.nI _ _ _ _ ax⟩
 | bM cs off blk o eJ cP ao=>
  simp only[nX,Option.some.injEq] at ah; subst ah;refine⟨_,rfl,?_⟩;rw[Addr.m9,Nat.add_assoc];exact .bM cs _ blk o eJ cP ao
 | _=>simp[nX] at ah
theorem Ud {s:TypeId} {f:Nat} {fd:Field} (aF:y1 P s f=some fd) :∃ fs,P.underlying s=some (.struct fs)/\fs[f]? = some fd:=by
 unfold y1 at aF;split at aF
 ·rename_i fs aM; exact⟨fs,aM,aF⟩
 ·cases aF
theorem aeL {s:TypeId} {x c:U} {bH:Value} {f:Nat} (ah:HK P s x f=some c) (ag:aQ w R h μ x bH) :
  ∃ v,(Instr.fieldAt s bH f).run P w=.ok v w/\aQ w R h μ c v:=by
 unfold HK at ah;split at ah
 ·rename_i fd aF;obtain⟨fs,aM,q0⟩:=Ud aF;split at ah
  ·rename_i n aC;obtain⟨a,rfl,ao⟩:=To ah ag;refine⟨_,?_,ao⟩;simp[Instr.fieldAt,cB aM,q0,Instr.sureAddr,fieldPlace,fQ aC]
  ·cases ah
 ·cases ah
theorem tg {x:U} {bH:Value} {n:Int} (ay:asInt x=some n) (ag:aQ w R h μ x bH) :∃ k,bH=.int k n:=by
 cases ag<;>simp[asInt] at ay;subst ay;exact⟨_,rfl⟩
theorem ai2 {t:TypeId} {x eZ c:U} {bH Fq:Value} (ah:Fl P t x eZ=some c) (ag:aQ w R h μ x bH) (ay:aQ w R h μ eZ Fq) :
  ∃ v,(Instr.indexAt t bH Fq).run P w=.ok v w/\aQ w R h μ c v:=by
 unfold Fl at ah;split at ah
 ·rename_i len e i aM ed;obtain⟨k,rfl⟩:=tg ed ay;cases aw:cC P e with
  | none=>rw[aw] at ah; cases ah
  | some z=>
   rw[aw] at ah;simp only at ah;split at ah
   ·rename_i af;obtain⟨a,rfl,ao⟩:=To ah ag;refine⟨_,?_,ao⟩;simp[Instr.indexAt,asIntOf,cB aM,Instr.sureAddr,af,fQ aw]
   ·cases ah
 ·rename_i e i aM ed;obtain⟨k,rfl⟩:=tg ed ay;split at ah
  ·rename_i z dI b off len cap sz aw;split at ah
   ·rename_i af;obtain⟨rfl,af⟩:=af;simp only[Option.some.injEq] at ah; subst ah;cases ag with
    | aq _ _ _ _ _ _ cap' cs m bN hm al av c8=>
     refine⟨_,?_,aQ.ptr b (off+i.toNat*z) sz cs m bN hm⟩;simp[Instr.indexAt,asIntOf,cB aM,af,fQ aw,Addr.m9,Nat.add_assoc]
    | i3=>simp at af; omega
    | hO _ _ _ _ _ _ cap' a al c8 ax=>
     refine⟨_,?_,aQ.nI b _ sz (a.add (i.toNat*z)) ax⟩;simp[Instr.indexAt,asIntOf,cB aM,af,fQ aw]
   ·cases ah
  ·rename_i z dI es aw;split at ah
   ·rename_i af;obtain⟨rfl,af⟩:=af;cases am:es[i.toNat]? with
    | none=>rw[am] at ah; cases ah
    | some fr=>
     rw[am] at ah;simp only[Option.map_some,Option.some.injEq] at ah; subst ah;have aL:i.toNat<es.length:=(List.getElem?_eq_some_iff.1 am).1;have c7:(0<=i/\i<(es.length:Int)) :=by omega
     cases ag with
     | a1 _ _ blk off cap eJ al Fh np ao=>
      have agP:fr.length=z:=Fh _ (List.mem_of_getElem? am);refine⟨_,?_,aQ.bM fr 0 blk (off+i.toNat*z) (eJ i.toNat) (fun j ai=>?_) (ao _ _ am)⟩
      ·simp[Instr.indexAt,asIntOf,cB aM,c7,fQ aw,Addr.m9]
      ·have:=np i.toNat j aL (by omega)
       rwa [Nat.add_assoc]
     | gv=>simp at aL
   ·cases ah
  ·cases ah
 ·cases ah
end

end Go.bV

/-
  The canonical machine, part A: its values, blocks, heap, and what one operation does.
-/
import Derived.WalkKit
import Derived.Below
import Derived.Laws.AppendOwn
import Derived.Laws.CopyRow
import Derived.Laws.IdiomCopy
import Derived.Laws.StructEq
set_option linter.unusedVariables false
set_option linter.unusedSimpArgs false
set_option linter.unnecessarySimpa false
namespace Go.bJ
abbrev aqr:=@List.getElem?_eq_some_iff
abbrev aqs:=@List.take_of_length_le
abbrev aqt:=@List.getElem?_append_left
abbrev aqu:=@List.getElem?_eq_getElem
abbrev aqv:=@Nat.le_refl
abbrev aqw:=@Bool.and_eq_true
abbrev aqx:=@List.getElem?_map
abbrev aqy:=@Option.map_some
abbrev aqz:=@Nat.mul_le_mul_right
abbrev aqA:=@List.length_append
abbrev aqB:=@List.getElem?_append_right
abbrev aqC:=@Nat.mod_eq_of_lt
abbrev aqD:=@List.getD_eq_getElem?_getD
abbrev aqE:=@BitVec.eq_of_toNat_eq
abbrev aqF:=@BitVec.toNat_setWidth
abbrev aqG:=@List.getElem?_set_ne
abbrev aqH:=@List.length_cons
abbrev aqI:=@List.mem_of_getElem?
abbrev aqJ:=@List.getElem?_eq_none
abbrev aqK:=@BitVec.toNat_ofNat
abbrev aqL:=@List.getElem?_set_self
abbrev aqM:=@List.length_take
abbrev aqN:=@List.take_add_one
abbrev aqO:=@Nat.shiftRight_eq_div_pow
abbrev aqP:=@List.map_cons
abbrev aqQ:=@List.getElem?_cons_zero
abbrev aqR:=@List.mem_map
abbrev aqS:=@List.length_map
abbrev aqT:=@List.take_append_of_le_length
abbrev aqU:=@List.mem_iff_getElem?
abbrev aqV:=@List.map_append
abbrev aqW:=@List.append_nil
abbrev aqX:=@Array.getElem?_eq_some_iff
abbrev aqY:=@List.getElem?_take_of_lt
abbrev aqZ:=@List.mem_range
abbrev aq0:=@List.take_length
abbrev aq1:=@List.getElem?_range
abbrev aq2:=@List.getElem?_cons_succ
abbrev aq3:=@List.getElem?_drop
abbrev aq4:=@List.append_assoc
abbrev aq5:=@List.length_nil
abbrev aq6:=@List.mem_singleton
abbrev aq7:=@List.drop_eq_nil_of_le
abbrev aq8:=@List.take_append_drop
abbrev aq9:=@List.set_append_right
abbrev ara:=@Nat.succ_mul
abbrev arb:=@Option.getD_some
abbrev arc:=@BitVec.toNat_ushiftRight
abbrev ard:=@List.mem_of_mem_take
abbrev arf:=@List.length_eq_zero_iff
abbrev arh:=@Nat.add_mul
abbrev ari:=@List.all_eq_true
abbrev arj:=@List.flatten_append
abbrev ark:=@List.drop_append_of_le_length
abbrev arl:=@Nat.eq_of_beq_eq_true
abbrev arm:=@List.drop_eq_getElem_cons
abbrev arn:=@Array.getD_eq_getD_getElem?
abbrev aro:=@List.flatten_cons
abbrev arp:=@List.ext_getElem?
abbrev arq:=@List.replicate_succ
abbrev ars:=@List.pairwise_iff_getElem
abbrev art:=@Bool.true_and
abbrev aru:=@List.nil_append
abbrev arv:=@Array.getElem?_append_left
abbrev arw:=@List.cons_append
abbrev arx:=@List.drop_of_length_le
abbrev ary:=@List.drop_zero
abbrev arz:=@List.mem_append
abbrev arA:=@List.length_drop
abbrev arB:=@List.map_eq_nil_iff
abbrev arC:=@Nat.lt_or_ge
abbrev arD:=@Nat.zero_add
abbrev arE:=@Nat.zero_le
abbrev arF:=@Option.bind_some
abbrev arG:=@Int.toNat_natCast
abbrev arH:=@BitVec.toNat_umod
abbrev arI:=@List.mem_cons
abbrev arJ:=@List.take_zero
abbrev arK:=@Array.getElem?_setIfInBounds
abbrev arL:=@List.eq_of_mem_replicate
abbrev arM:=@Bool.false_eq_true
abbrev arN:=@Nat.lt_trichotomy
abbrev arO:=@List.getElem?_set
abbrev arP:=@Array.getElem?_eq_getElem
abbrev arQ:=@List.range_succ
abbrev arR:=@List.mem_or_eq_of_mem_set
abbrev arS:=@Nat.mul_one
abbrev arT:=@BitVec.ofInt_natCast
abbrev arU:=@BitVec.toNat_udiv
abbrev arV:=@Nat.min_eq_left
abbrev arW:=@List.map_congr_left
abbrev arX:=@List.flatMap_append
abbrev arY:=@Array.getElem?_eq_none
abbrev arZ:=@List.set_eq_take_append_cons_drop
abbrev ar0:=@Nat.add_assoc
abbrev ar1:=@Nat.shiftLeft_eq
abbrev ar2:=@List.mapM_cons
abbrev ar3:=@List.take_take
abbrev ar4:=@Bool.false_and
abbrev ar5:=@Bool.and_self
abbrev ar6:=@Int.eq_ofNat_of_zero_le
abbrev ar7:=@List.mem_map_of_mem
abbrev ar8:=@Nat.le_trans
abbrev ar9:=@Array.getElem?_toList
abbrev asa:=@Nat.le_of_ble_eq_true
abbrev asb:=@Option.pure_def
abbrev asc:=@List.getElem?_of_mem
abbrev asd:=@BitVec.toNat_mul
abbrev ase:=@List.take_append
abbrev asf:=@Array.length_toList
abbrev asg:=@List.takeWhile_cons
abbrev ash:=@List.sum_cons
abbrev asi:=@Option.isSome_none
abbrev asj:=@Array.eq_empty_of_size_eq_zero
abbrev asl:=@List.mem_filter
abbrev asm:=@List.set_cons_zero
abbrev asn:=@Nat.mod_lt
abbrev aso:=@Nat.add_sub_cancel
abbrev asp:=@BitVec.toNat_shiftLeft
abbrev asq:=@Bool.not_eq_true'
abbrev asr:=@List.count_append
abbrev ass:=@Nat.sub_self
abbrev ast:=@Array.getElem?_modify
abbrev asu:=@Nat.le_of_lt
abbrev asv:=@List.map_map
abbrev asw:=@List.length_filter_le
abbrev asx:=@Array.getElem?_append_right
abbrev asy:=@List.getElem_mem
abbrev asz:=@List.count_singleton
abbrev asA:=@List.drop_succ_cons
abbrev asB:=@List.getElem?_eq_none_iff
abbrev asC:=@Bool.or_eq_true
abbrev asD:=@List.length_set
abbrev asE:=@Nat.zero_mul
abbrev asF:=@Array.append_assoc
abbrev asG:=@Array.getElem?_map
abbrev asH:=@List.getElem?_take
abbrev asI:=@List.filter_append
abbrev asJ:=@List.drop_take
abbrev asK:=@List.foldl_append
abbrev asL:=@Option.map_eq_some_iff
abbrev asM:=@Nat.one_mul
abbrev asN:=@Nat.mul_mod
abbrev asO:=@Nat.max_eq_right
abbrev asP:=@BitVec.toNat_and
abbrev asQ:=@Bool.not_eq_true
abbrev asR:=@List.getElem?_toArray
abbrev asS:=@List.singleton_append
abbrev asT:=@List.mem_of_mem_drop
abbrev asU:=@Nat.add_zero
abbrev asV:=@List.find?_cons
abbrev asW:=@List.mem_cons_of_mem
abbrev asX:=@Nat.sub_zero
abbrev asY:=@List.map_nil
abbrev asZ:=@Nat.and_two_pow_sub_one_eq_mod
abbrev as0:=@List.pairwise_append
abbrev as1:=@Nat.shiftLeft_add_eq_or_of_lt
abbrev as2:=@List.drop_drop
abbrev as3:=@Bool.and_assoc
abbrev as4:=@Nat.pow_add
abbrev as5:=@Nat.pow_mod
abbrev as6:=@List.count_pos_iff
abbrev as7:=@Nat.lt_of_lt_of_le
abbrev as8:=@Nat.eq_or_lt_of_le
abbrev as9:=@List.mem_cons_self
abbrev ata:=@List.set_cons_succ
abbrev atb:=@Bool.true_eq_false
abbrev atc:=@UInt8.toNat_ofNat'
abbrev atd:=@List.map_replicate
abbrev ate:=@List.getElem?_concat_length
abbrev atf:=@Bool.false_or
abbrev atg:=@Array.size_append
abbrev ath:=@List.size_toArray
abbrev ati:=@List.nodup_append
abbrev atj:=@List.mem_of_find?_eq_some
abbrev atk:=@Option.isNone_iff_eq_none
abbrev atl:=@Nat.beq_refl
abbrev atm:=@Option.isSome_iff_exists
abbrev atn:=@List.mem_flatMap
abbrev ato:=@Nat.mul_comm
abbrev atp:=@BitVec.toNat_add
abbrev atq:=@Nat.div_eq_of_lt
abbrev atr:=@BitVec.toNat_not
abbrev ats:=@List.nodup_range
abbrev att:=@List.isEmpty_iff
abbrev atu:=@Nat.le_of_not_lt
abbrev atv:=@List.le_antisymm
abbrev atw:=@List.foldl_cons
abbrev atx:=@Nat.max_eq_left
abbrev aty:=@List.nodup_cons
abbrev atz:=@Nat.min_def
abbrev atA:=@List.not_lt
abbrev atB:=@List.lt_irrefl
abbrev atC:=@Nat.blt_eq
abbrev atD:=@List.all_cons
abbrev atE:=@List.map_take
open Go
inductive U where
 | bool (b:Bool)
 | int (k:IntKind) (n:Int)
 | str (s:List UInt8)
 | iN | aX | hh | iL | iM
 | aI (cs:List U)
 | bu (vs:List U)
 | ptr (b off sz:Nat)
 | b5 (cs:List U) (off:Nat)
 | ar (z b off len cap sz:Nat)
 | b0 (z:Nat) (es:List (List U))
 | fn (f:FuncId) (first fu:List U)
 | mp (b:Nat)
 | it (b:Nat)
 | fD (t:TypeId) (v:U)
 | lD (l:Nat)
 | bad
 deriving Inhabited
inductive bg where
 | none
 | dead
 | cells (sz:Nat) (cs:List U)
 | map (es:List (U × U × Nat)) (ali:Nat)
 | iter (s:List UInt8) (pos:Nat)
 deriving Inhabited
inductive ch (α:Type) where
 | nil
 | node (l:ch α) (v:Option α) (r:ch α)
def ch.get {α:Type}:ch α->Nat->Option α
 | .nil,_=>none
 | .node l v r,n=>match Nat.beq n 0 with
  | true=>v
  | false=>match Nat.beq (n % 2) 1 with
   | true=>l.get (n / 2)
   | false=>r.get (n / 2 - 1)
def ch.jS {α:Type}:Nat->ch α->Nat->α->ch α
 | 0,t,_,_=>t
 | k+1,.nil,n,x=>match Nat.beq n 0 with
  | true=>.node .nil (some x) .nil
  | false=>match Nat.beq (n % 2) 1 with
   | true=>.node (ch.jS k .nil (n / 2) x) none .nil
   | false=>.node .nil none (ch.jS k .nil (n / 2 - 1) x)
 | k+1,.node l v r,n,x=>match Nat.beq n 0 with
  | true=>.node l (some x) r
  | false=>match Nat.beq (n % 2) 1 with
   | true=>.node (ch.jS k l (n / 2) x) v r
   | false=>.node l v (ch.jS k r (n / 2 - 1) x)
def ch.set {α:Type} (t:ch α) (n:Nat) (x:α) :ch α:=t.jS (n+1) n x
theorem i6 {a b:Nat} (h:¬ a=b) :Nat.beq a b=false:=by
 cases af:Nat.beq a b with
 | false=>rfl
 | true=>exact absurd (arl af) h
theorem rJ {a b:Nat} (h:a=b) :Nat.beq a b=true:=by subst h; exact atl a
theorem ch.Bg {α:Type}:∀ (k:Nat) (t:ch α) (n:Nat) (x:α) (m:Nat),n<k->(t.jS k n x).get m=if m=n then some x else t.get m
 | 0,_,_,_,_,h=>by omega
 | k+1,.nil,n,x,m,h=>by
  unfold ch.jS;by_cases aE:n=0
  ·subst aE;simp only;unfold ch.get;by_cases hm:m=0
   ·subst hm; simp
   ·have:Nat.beq m 0=false:=i6 hm;simp only[this,if_neg hm];split<;>rfl
  ·have af:Nat.beq n 0=false:=i6 aE;simp only[af];by_cases h1:n % 2=1
   ·have gE:Nat.beq (n % 2) 1=true:=rJ h1;simp only[gE];unfold ch.get;by_cases hm:m=0
    ·subst hm; simp; omega
    ·have:Nat.beq m 0=false:=i6 hm;simp only[this];by_cases fQ:m % 2=1
     ·have:Nat.beq (m % 2) 1=true:=rJ fQ;simp only[this];rw[ch.Bg k .nil (n / 2) x (m / 2) (by omega)];by_cases ap:m=n
      ·subst ap; simp
      ·rw[if_neg ap,if_neg (by omega)]; rfl
     ·have:Nat.beq (m % 2) 1=false:=i6 fQ;simp only[this];rw[if_neg (by intro aM; subst aM; exact fQ h1)];rfl
   ·have gE:Nat.beq (n % 2) 1=false:=i6 h1;simp only[gE];unfold ch.get;by_cases hm:m=0
    ·subst hm; simp; omega
    ·have:Nat.beq m 0=false:=i6 hm;simp only[this];by_cases fQ:m % 2=1
     ·have:Nat.beq (m % 2) 1=true:=rJ fQ;simp only[this];rw[if_neg (by intro aM; subst aM; exact h1 fQ)];rfl
     ·have:Nat.beq (m % 2) 1=false:=i6 fQ;simp only[this];rw[ch.Bg k .nil (n / 2 - 1) x (m / 2 - 1) (by omega)];by_cases ap:m=n
      ·subst ap; simp
      ·rw[if_neg ap,if_neg (by omega)]; rfl
 | k+1,.node l v r,n,x,m,h=>by
  unfold ch.jS;by_cases aE:n=0
  ·subst aE;simp only;unfold ch.get;by_cases hm:m=0
   ·subst hm; simp
   ·have:Nat.beq m 0=false:=i6 hm;simp only[this,if_neg hm]
  ·have af:Nat.beq n 0=false:=i6 aE;simp only[af];by_cases h1:n % 2=1
   ·have gE:Nat.beq (n % 2) 1=true:=rJ h1;simp only[gE];unfold ch.get;by_cases hm:m=0
    ·subst hm; simp; omega
    ·have:Nat.beq m 0=false:=i6 hm;simp only[this];by_cases fQ:m % 2=1
     ·have:Nat.beq (m % 2) 1=true:=rJ fQ;simp only[this];rw[ch.Bg k l (n / 2) x (m / 2) (by omega)];by_cases ap:m=n
      ·subst ap; simp
      ·rw[if_neg ap,if_neg (by omega)]
     ·have:Nat.beq (m % 2) 1=false:=i6 fQ;simp only[this];rw[if_neg (by intro aM; subst aM; exact fQ h1)]
   ·have gE:Nat.beq (n % 2) 1=false:=i6 h1;simp only[gE];unfold ch.get;by_cases hm:m=0
    ·subst hm; simp; omega
    ·have:Nat.beq m 0=false:=i6 hm;simp only[this];by_cases fQ:m % 2=1
     ·have:Nat.beq (m % 2) 1=true:=rJ fQ;simp only[this];rw[if_neg (by intro aM; subst aM; exact h1 fQ)]
     ·have:Nat.beq (m % 2) 1=false:=i6 fQ;simp only[this];rw[ch.Bg k r (n / 2 - 1) x (m / 2 - 1) (by omega)];by_cases ap:m=n
      ·subst ap; simp
      ·rw[if_neg ap,if_neg (by omega)]
theorem ch.Ep {α:Type} (t:ch α) (n:Nat) (x:α) (m:Nat) :(t.set n x).get m=if m=n then some x else t.get m:=ch.Bg _ _ _ _ _ (by omega)
structure aN where
 n:Nat
 t:ch bg
def aN.f (h:aN) (b:Nat) :bg:=match h.t.get b with | some c=>c | none=>.none
def aN.empty:aN:=⟨0,.nil⟩
def bD {α:Type} (f:Nat->α) (i:Nat) (v:α) :Nat->α:=fun j=>if j=i then v else f j
def aN.push (h:aN) (c:bg) :aN:=⟨h.n+1,h.t.set h.n c⟩
def aN.set (h:aN) (b:Nat) (c:bg) :aN:=⟨h.n,h.t.set b c⟩
theorem e0 (h:aN) (c:bg) :(h.push c).n=h.n+1:=rfl
theorem ew (h:aN) (b:Nat) (c:bg) :(h.set b c).n=h.n:=rfl
theorem dG (h:aN) (c:bg) :(h.push c).f=bD h.f h.n c:=by
 funext b;simp only[aN.f,aN.push,bD,ch.Ep];by_cases af:b=h.n
 ·simp[af]
 ·simp[af]
theorem dp (h:aN) (b:Nat) (c:bg) :(h.set b c).f=bD h.f b c:=by
 funext bf;simp only[aN.f,aN.set,bD,ch.Ep];by_cases af:bf=b
 ·simp[af]
 ·simp[af]
theorem Ea (b:Nat) :aN.empty.f b=.none:=rfl
@[simp] theorem jj {α:Type} (f:Nat->α) (i:Nat) (v:α) :bD f i v i=v:=by simp[bD]
theorem b2 {α:Type} (f:Nat->α) (i j:Nat) (v:α) (h:j≠i) :bD f i v j=f j:=by simp[bD,h]
def U.one:U->Bool
 | .aI _ | .bu _ | .bad=>false
 | _=>true
def U.cells:U->Option (List U)
 | .aI cs=>some cs
 | .bu _ | .bad=>none
 | v=>some [v]
def om:Value->U
 | .bool b=>.bool b
 | .int k n=>.int k n
 | .string s=>.str s.data.toList
 | .pointer a=>match a with | none=>.iN | some _=>.bad
 | .slice a l c=>match a,l,c with | none,0,0=>.aX | _,_,_=>.bad
 | .map r=>match r with | none=>.hh | some _=>.bad
 | .nilFunc=>.iL
 | .nilIface=>.iM
 | .func fn first fu=>match fn,first.toList,fu.toList with | .func f,[],[]=>.fn f [] [] | _,_,_=>.bad
 | _=>.bad
def vq:Value->U
 | .agg cs=>if cs.toList.all Value.oneCell' then .aI (cs.toList.map om) else .bad
 | .tuple vs=>.bu (vs.toList.map om)
 | v=>om v
def cH (G:Nat->U) (ae:Nat->U) :Operand->U
 | .tmp t=>ae t
 | .const v=>vq v
 | .func f=>.fn f [] []
 | .global g=>G g
def dE (P:Program) (t:TypeId) :Option Bool:=(P.underlying t).map fun d=>match d with | .struct _ | .array _ _=>true | _=>false
def cf (P:Program) (t:TypeId) :Option Nat:=(P.info? t).map (·.size)
def iT (P:Program) (t:TypeId) :Option Nat:=(P.info? t).map (·.bytes)
def g9 (P:Program) (t:TypeId) :Option (List U) :=((P.info? t).bind (·.zero)).bind fun v=>if v.cells.toList.all Value.oneCell' then some (v.cells.toList.map om) else none
def hY (P:Program) (t:TypeId) :Option TypeId:=match P.underlying t with | some (.slice e)=>some e | _=>none
def hj (P:Program) (t:TypeId) (cs:List U) (off:Nat) :Option U:=
 match dE P t,cf P t with
 | some true,some n=>if off+n<=cs.length then some (.aI ((cs.drop off).take n)) else none
 | some false,_=>cs[off]?
 | _,_=>none
def reach (h:aN) :U->Option (List U × Nat)
 | .ptr b off sz=>match h.f b with
  | .cells n cs=>if n=sz then some (cs,off) else none
  | _=>none
 | .b5 cs off=>some (cs,off)
 | _=>none
def rF (P:Program) (h:aN) (t:TypeId) (p:U) :Option U:=
 match reach h p with
 | some (cs,off)=>hj P t cs off
 | none=>none
def bn (cs:List U) (off:Nat) (vs:List U) :List U:=cs.take off++vs++cs.drop (off+vs.length)
def z7 (P:Program) (h:aN) (t:TypeId) (p v:U) :Option aN:=
 match p,v.cells,cf P t with
 | .ptr b off sz,some vs,some n=>match h.f b with
  | .cells m cs=>if m=sz/\vs.length=n/\off+n<=m then some (h.set b (.cells m (bn cs off vs))) else none
  | _=>none
 | _,_,_=>none
def asInt:U->Option Int
 | .int _ n=>some n
 | _=>none
def ws (P:Program) (s:TypeId) (f:Nat) :Option Field:=match P.underlying s with | some (.struct fs)=>fs[f]? | _=>none
def mo:U->Nat->Option U
 | .ptr b off sz,k=>some (.ptr b (off+k) sz)
 | .b5 cs off,k=>some (.b5 cs (off+k))
 | _,_=>none
def Ef (P:Program) (s:TypeId) (x:U) (f:Nat) :Option U:=
 match ws P s f with
 | some fd=>match cf P fd.type with
  | some (_+1)=>mo x fd.offset
  | _=>none
 | none=>none
def Ch (P:Program) (t:TypeId) (x fR:U) :Option U:=
 match P.underlying t,asInt fR with
 | some (.array len e),some i=>match cf P e with
  | some z=>if 0<=i/\i<len then mo x (i.toNat*z) else none
  | none=>none
 | some (.slice e),some i=>match cf P e,x with
  | some z,.ar c5 b off len _ sz=>if z=c5/\0<=i/\i<len then some (.ptr b (off+i.toNat*z) sz) else none
  | some z,.b0 c5 es=>if z=c5/\0<=i then (es[i.toNat]?).map fun cs=>.b5 cs 0 else none
  | _,_=>none
 | _,_=>none
def g4 (ks:Nat->Option (Nat × Nat)) (cells:List U) :List (Nat × U)->Option (List U)
 | []=>some cells
 | (i,v) ::rest=>match ks i,v.cells with
  | some (off,size),some vs=>if vs.length=size/\off+size<=cells.length then g4 ks (bn cells off vs) rest else none
  | _,_=>none
def CO (P:Program) (fs:Array Field) (i:Nat) :Option (Nat × Nat) :=(fs[i]?).bind fun f=>(cf P f.type).map fun n=>(f.offset,n)
def AE (P:Program) (t:TypeId) (parts:List (Nat × U)) :Option U:=
 match g9 P t,P.underlying t with
 | some zero,some (.struct fs)=>if !(fs.toList.all fun f=>(cf P f.type).isSome) then none else (g4 (CO P fs) zero parts).map .aI
 | some zero,some (.array _ e)=>match cf P e with
  | some n=>(g4 (fun i=>some (i*n,n)) zero parts).map .aI
  | none=>none
 | _,_=>none
def c4 (zero:List U) :Nat->List U
 | 0=>[]
 | n+1=>zero++c4 zero n
def DO (P:Program) (h:aN) (t:TypeId) (len:Nat) (parts:List (Nat × U)) :Option (U × aN) :=
 match hY P t with
 | some e=>match cf P e,g9 P e with
  | some z,some zero=>if zero.length=z/\len*z<=16777216 then
    (g4 (fun i=>some (i*z,z)) (c4 zero len) parts).map fun cs=>(.ar z h.n 0 len len (len*z),h.push (.cells (len*z) cs))
   else none
  | _,_=>none
 | none=>none
def b8 (op:BinOp) (k:IntKind) (a:Int) (k' : IntKind) (b:Int) :Option U:=
 match op with
 | .shl=>if b<0 then none else some (.int k (k.wrap (a*2 ^ min b.toNat k.bits)))
 | .shr=>if b<0 then none else some (.int k (a.fdiv (2 ^ min b.toNat k.bits)))
 | .add=>if k=k' then some (.int k (k.wrap (a+b))) else none
 | .sub=>if k=k' then some (.int k (k.wrap (a - b))) else none
 | .mul=>if k=k' then some (.int k (k.wrap (a*b))) else none
 | .quo=>if k=k'/\b≠0 then some (.int k (k.wrap (a.tdiv b))) else none
 | .rem=>if k=k'/\b≠0 then some (.int k (a.tmod b)) else none
 | .and=>if k=k' then some (.int k (k.wrap (BitVec.ofInt k.bits a &&& BitVec.ofInt k.bits b).toNat)) else none
 | .or=>if k=k' then some (.int k (k.wrap (BitVec.ofInt k.bits a ||| BitVec.ofInt k.bits b).toNat)) else none
 | .xor=>if k=k' then some (.int k (k.wrap (BitVec.ofInt k.bits a ^^^ BitVec.ofInt k.bits b).toNat)) else none
 | .andNot=>if k=k' then some (.int k (k.wrap (BitVec.ofInt k.bits a &&& ~~~BitVec.ofInt k.bits b).toNat)) else none
 | .eql=>if k=k' then some (.bool (a == b)) else none
 | .neq=>if k=k' then some (.bool (a != b)) else none
 | .lss=>if k=k' then some (.bool (decide (a<b))) else none
 | .leq=>if k=k' then some (.bool (decide (a<=b))) else none
 | .gtr=>if k=k' then some (.bool (decide (a > b))) else none
 | .geq=>if k=k' then some (.bool (decide (a ≥ b))) else none
def oR (op:BinOp) (a b:List UInt8) :Option U:=
 match op with
 | .eql=>some (.bool (a == b))
 | .neq=>some (.bool (!(a == b)))
 | .lss=>some (.bool (Op.bytesLess a b))
 | .leq=>some (.bool (Op.bytesLess a b||a == b))
 | .gtr=>some (.bool (!(Op.bytesLess a b||a == b)))
 | .geq=>some (.bool (!Op.bytesLess a b))
 | .add=>if a.length+b.length<=9223372036854775807 then some (.str (a++b)) else none
 | _=>none
def ea (P:Program) :Nat->TypeId->U->U->Option Bool
 | 0,_,_,_=>none
 | d+1,t,x,y=>
  match P.underlying t,x,y with
  | some .bool,.bool a,.bool b=>some (a == b)
  | some (.int _),.int k a,.int k' b=>if k=k' then some (a == b) else none
  | some .string,.str a,.str b=>some (a == b)
  | some (.struct fs),.aI xs,.aI a1=>if P.stoodInHeld t then none else eqFields P (ea P d) xs a1 fs.toList
  | some (.array n e),.aI xs,.aI a1=>match cf P e with
   | some z=>q8 P (ea P d) e z xs a1 n 0
   | none=>none
  | some (.slice _),.aX,.aX=>some true
  | some (.slice _),.aX,.ar .. | some (.slice _),.aX,.b0 .. | some (.slice _),.ar ..,.aX | some (.slice _),.b0 ..,.aX=>some false
  | _,_,_=>none
where
 eqFields (P:Program) (eq:TypeId->U->U->Option Bool) (xs a1:List U) :List Field->Option Bool
  | []=>some true
  | f::fs=>if f.name= "_" then eqFields P eq xs a1 fs else
   match hj P f.type xs f.offset,hj P f.type a1 f.offset with
   | some a,some b=>match eq f.type a b with
    | some true=>eqFields P eq xs a1 fs
    | some false=>some false
    | none=>none
   | _,_=>none
 q8 (P:Program) (eq:TypeId->U->U->Option Bool) (e:TypeId) (z:Nat) (xs a1:List U) :Nat->Nat->Option Bool
  | 0,_=>some true
  | n+1,i=>match hj P e xs (i*z),hj P e a1 (i*z) with
   | some a,some b=>match eq e a b with
    | some true=>q8 P eq e z xs a1 n (i+1)
    | some false=>some false
    | none=>none
   | _,_=>none
def wq (P:Program) (t:TypeId) :U->U->Bool
 | .aI _,.aI _=>!P.eqGuardType P.depth t
 | _,_=>true
def fG (P:Program) (op:BinOp) (t:TypeId) (x y:U) :Option U:=
 match x,y with
 | .int k a,.int k' b=>b8 op k a k' b
 | .str a,.str b=>oR op a b
 | x,y=>match op with
  | .eql=>if wq P t x y then (ea P 10000 t x y).map .bool else none
  | .neq=>if wq P t x y then (ea P 10000 t x y).map fun b=>.bool (!b) else none
  | _=>none
def pB (op:UnOp) (x:U) :Option U:=
 match op,x with
 | .not,.bool b=>some (.bool (!b))
 | .neg,.int k n=>some (.int k (k.wrap (0 - n)))
 | .xor,.int k n=>some (.int k (k.wrap (BitVec.ofInt k.bits (if k.signed then -1 else k.max) ^^^ BitVec.ofInt k.bits n).toNat))
 | _,_=>none
def mq (z:Nat) :Nat->List U->List (List U)
 | 0,_=>[]
 | n+1,cs=>cs.take z::mq z n (cs.drop z)
def iw (b:UInt8) :U:=.int .u8 b.toNat
def contents (h:aN) (z:Nat) :U->Option (List U × Nat)
 | .aX=>some ([],0)
 | .b0 c5 es=>if z=c5 then some (es.flatten,es.length) else none
 | .ar c5 b off len _ sz=>match h.f b with
  | .cells n cs=>if n=sz/\z=c5 then some ((cs.drop off).take (len*z),len) else none
  | _=>none
 | .str s=>if z=1 then some (s.map iw,s.length) else none
 | _=>none
def cx:Nat:=140737488355328
def r7 (P:Program) (t:TypeId) :Option Nat:=((P.info? t).bind (·.zero)).map (·.cells.size)
def tZ (P:Program) (h:aN) (e:TypeId) (z by_:Nat) (s:U) (xs:List U) (n:Nat) :Option (U × aN) :=
 if n=0 then (match s with | .aX | .b0 .. | .ar ..=>some (s,h) | _=>none)
 else if z=0\/by_=0\/r7 P e≠some z then none else match s with
  | .aX=>if n*by_<=cx then some (.ar z h.n 0 n n (n*z),h.push (.cells (n*z) xs)) else none
  | .ar c5 b off len cap sz=>match h.f b with
   | .cells m cs=>
    if m=sz/\z=c5/\(len+n)*by_<=cx then
     if len+n<=cap then some (.ar z b off (len+n) cap sz,h.set b (.cells m (bn cs (off+len*z) xs)))
     else if off+cap*z<sz then some (.ar z h.n 0 (len+n) (len+n) ((len+n)*z),h.push (.cells ((len+n)*z) ((cs.drop off).take (len*z)++xs)))
     else if off=0 then some (.ar z b 0 (len+n) (len+n) ((len+n)*z),h.set b (.cells ((len+n)*z) (cs.take (len*z)++xs)))
     else some (.ar z h.n 0 (len+n) (len+n) ((len+n)*z),(h.set b .dead).push (.cells ((len+n)*z) ((cs.drop off).take (len*z)++xs)))
    else none
   | _=>none
  | _=>none
def qZ (P:Program) (h:aN) (t:TypeId) (s x:U) :Option (U × aN) :=
 match hY P t with
 | none=>none
 | some e=>match cf P e,iT P e with
  | some z,some by_=>match contents h z x with
   | none=>none
   | some (xs,n)=>tZ P h e z by_ s xs n
  | _,_=>none
def iS (x:U) (y:Nat) :Option Nat:=match x with | .int _ i=>if 0<=i/\i<=y then some i.toNat else none | _=>none
def gh (len cap:Nat) (cB ax ct:Option U) :Option (Nat × Nat × Nat) :=
 match (match ct with | some v=>iS v cap | none=>some cap) with
 | none=>none
 | some m=>match (match ax,ct with | some v,_=>iS v m | none,none=>some len | none,some _=>none) with
  | none=>none
  | some h=>match (match cB with | some v=>iS v h | none=>some 0) with
   | none=>none
   | some l=>some (l,h,m)
def C9 (P:Program) (t:TypeId) (x:U) (cB ax ct:Option U) :Option U:=
 match P.underlying t,x with
 | some (.array n e),x=>match cf P e,gh n n cB ax ct with
  | some z,some (l,aM,m)=>match x with
   | .ptr b off sz=>if off+m*z<=sz then (if m=l then some (.b0 z []) else some (.ar z b (off+l*z) (aM - l) (m - l) sz)) else none
   | .b5 cs off=>if off+n*z<=cs.length then some (.b0 z (mq z (aM - l) (cs.drop (off+l*z)))) else none
   | _=>none
  | _,_=>none
 | some (.slice e),x=>match cf P e,x with
  | some z,.ar c5 b off len cap sz=>if z=c5 then (gh len cap cB ax ct).map fun (l,aM,m)=>if m=l then .ar z b (off+l*z) 0 0 sz else .ar z b (off+l*z) (aM - l) (m - l) sz else none
  | some z,.b0 c5 es=>if z=c5 then (gh es.length es.length cB ax ct).map fun (l,aM,_)=>.b0 z ((es.drop l).take (aM - l)) else none
  | some _,.aX=>(gh 0 0 cB ax ct).map fun _=>.aX
  | _,_=>none
 | some .string,.str s=>match ct with
  | none=>(gh s.length s.length cB ax none).map fun (l,aM,_)=>.str ((s.drop l).take (aM - l))
  | some _=>none
 | _,_=>none
def xl (P:Program) (t:TypeId) (x:U) :Option U:=
 match P.underlying t,x with
 | some .string,.str s=>some (.int .i64 s.length)
 | some (.array n _),_=>some (.int .i64 n)
 | some (.slice _),.aX=>some (.int .i64 0)
 | some (.slice _),.ar _ _ _ len _ _=>some (.int .i64 len)
 | some (.slice _),.b0 _ es=>some (.int .i64 es.length)
 | some (.map _ _),.hh=>some (.int .i64 0)
 | _,_=>none
def FV (P:Program) (h:aN) (t:TypeId) (l c:U) :Option (U × aN) :=
 match hY P t,asInt l,asInt c with
 | some e,some l,some c=>match cf P e,iT P e,g9 P e with
  | some z,some by_,some zero=>
   if zero.length=z/\0<=l/\l<=c/\c<9223372036854775808/\by_*c<=cx then
    some (.ar z h.n 0 l.toNat c.toNat (c.toNat*z),h.push (.cells (c.toNat*z) (c4 zero c.toNat)))
   else none
  | _,_,_=>none
 | _,_,_=>none
def yz (P:Program) (h:aN) (t:TypeId) (d x:U) :Option (U × aN) :=
 match hY P t with
 | none=>none
 | some e=>match cf P e with
  | none=>none
  | some z=>match contents h z x with
   | none=>none
   | some (xs,n)=>match d with
    | .aX=>some (.int .i64 0,h)
    | .ar c5 b off len _ sz=>match h.f b with
     | .cells m cs=>if m=sz/\z=c5 then some (.int .i64 ((min n len:Nat) :Int),h.set b (.cells m (bn cs off (xs.take (min n len*z))))) else none
     | _=>none
    | _=>none
def kY:List U->Option (List UInt8)
 | []=>some []
 | .int .u8 n::r=>(kY r).map (UInt8.ofNat n.toNat::·)
 | _::_=>none
def wj (P:Program) (h:aN) (src dst:TypeId) (x:U) :Option U:=
 match P.underlying src,P.underlying dst,x with
 | some _,some (.int k),.int _ n=>some (.int k (k.wrap n))
 | some _,some .string,.str s=>some (.str s)
 | some (.slice e),some .string,x=>match P.underlying e,x with
  | some (.int .u8),.aX=>some (.str [])
  | some (.int .u8),x=>match contents h 1 x,x with
   | some _,.str _=>none
   | some (cs,_),_=>(kY cs).map .str
   | none,_=>none
  | _,_=>none
 | _,_,_=>none
def yp (P:Program) (src dst:TypeId) (x:U) :Option U:=
 match P.underlying src,P.underlying dst,x with
 | some _,some (.slice e),.str s=>match P.underlying e with
  | some (.int .u8)=>some (.b0 1 (s.map fun b=>[iw b]))
  | _=>none
 | _,_,_=>none
def ys (P:Program) (t:TypeId) (x:U) :Option U:=
 match P.underlying t,x with
 | some (.array n _),_=>some (.int .i64 n)
 | some (.slice _),.aX=>some (.int .i64 0)
 | _,_=>none
def yv (P:Program) (h:aN) (t:TypeId) (x:U) :Option aN:=
 match P.underlying t,x with
 | some (.slice _),.aX=>some h
 | some (.slice _),.b0 _ []=>some h
 | some (.slice e),.ar z b off len _ sz=>if len=0 then some h else match g9 P e,h.f b with
  | some zero,.cells m cs=>if m=sz/\zero.length=z then some (h.set b (.cells m (bn cs off (c4 zero len)))) else none
  | _,_=>none
 | _,_=>none
def zy (P:Program) (t:TypeId) (x fR:U) :Option U:=
 match P.underlying t,x,asInt fR with
 | some (.array n e),.aI cs,some i=>match cf P e with
  | some z=>if 0<=i/\i<n then hj P e cs (i.toNat*z) else none
  | none=>none
 | some .string,.str s,some i=>if 0<=i then (s[i.toNat]?).map iw else none
 | _,_,_=>none
mutual
def U.beq:U->U->Bool
 | .bool a,y=>match y with | .bool b=>(match a,b with | true,true=>true | false,false=>true | _,_=>false) | _=>false
 | .int k n,y=>match y with | .int k' gH=>decide (k=k')&&decide (n=gH) | _=>false
 | .str a,y=>match y with | .str b=>decide (a=b) | _=>false
 | .iN,y=>match y with | .iN=>true | _=>false
 | .aX,y=>match y with | .aX=>true | _=>false
 | .hh,y=>match y with | .hh=>true | _=>false
 | .iL,y=>match y with | .iL=>true | _=>false
 | .iM,y=>match y with | .iM=>true | _=>false
 | .aI a,y=>match y with | .aI b=>eo a b | _=>false
 | .bu a,y=>match y with | .bu b=>eo a b | _=>false
 | .ptr a b c,y=>match y with | .ptr eD bf c'=>Nat.beq a eD&&Nat.beq b bf&&Nat.beq c c' | _=>false
 | .b5 a n,y=>match y with | .b5 eD gH=>eo a eD&&Nat.beq n gH | _=>false
 | .ar a b c d e f,y=>match y with | .ar eD bf c' pS eY Ze=>Nat.beq a eD&&Nat.beq b bf&&Nat.beq c c'&&Nat.beq d pS&&Nat.beq e eY&&Nat.beq f Ze | _=>false
 | .b0 a b,y=>match y with | .b0 eD bf=>Nat.beq a eD&&AA b bf | _=>false
 | .fn a b c,y=>match y with | .fn eD bf c'=>Nat.beq a eD&&eo b bf&&eo c c' | _=>false
 | .mp a,y=>match y with | .mp eD=>Nat.beq a eD | _=>false
 | .it a,y=>match y with | .it eD=>Nat.beq a eD | _=>false
 | .fD a b,y=>match y with | .fD eD bf=>Nat.beq a eD&&U.beq b bf | _=>false
 | .lD a,y=>match y with | .lD eD=>Nat.beq a eD | _=>false
 | .bad,y=>match y with | .bad=>true | _=>false
def eo:List U->List U->Bool
 | [],y=>match y with | []=>true | _=>false
 | a::as,y=>match y with | b::bs=>U.beq a b&&eo as bs | _=>false
def AA:List (List U)->List (List U)->Bool
 | [],y=>match y with | []=>true | _=>false
 | a::as,y=>match y with | b::bs=>eo a b&&AA as bs | _=>false
end
theorem jM {a b:Nat} (h:Nat.beq a b=true) :a=b:=Nat.eq_of_beq_eq_true h
mutual
theorem U.beq_eq:∀ {a b:U},U.beq a b=true->a=b
 | .bool a,b,h=>by cases b<;>simp only[U.beq] at h<;>first | cases h | (rename_i b; cases a<;>cases b<;>first | rfl | cases h)
 | .int k n,b,h=>by cases b<;>simp only[U.beq] at h<;>first | cases h | (simp only[Bool.and_eq_true,decide_eq_true_eq] at h; rw[h.1,h.2])
 | .str a,b,h=>by cases b<;>simp only[U.beq] at h<;>first | cases h | (simp only[decide_eq_true_eq] at h; rw[h])
 | .iN,b,h=>by cases b<;>simp only[U.beq] at h<;>first | rfl | cases h
 | .aX,b,h=>by cases b<;>simp only[U.beq] at h<;>first | rfl | cases h
 | .hh,b,h=>by cases b<;>simp only[U.beq] at h<;>first | rfl | cases h
 | .iL,b,h=>by cases b<;>simp only[U.beq] at h<;>first | rfl | cases h
 | .iM,b,h=>by cases b<;>simp only[U.beq] at h<;>first | rfl | cases h
 | .bad,b,h=>by cases b<;>simp only[U.beq] at h<;>first | rfl | cases h
 | .aI a,b,h=>by cases b<;>simp only[U.beq] at h<;>first | cases h | rw[uc h]
 | .bu a,b,h=>by cases b<;>simp only[U.beq] at h<;>first | cases h | rw[uc h]
 | .ptr ..,b,h=>by cases b<;>simp only[U.beq] at h<;>first | cases h | (simp only[Bool.and_eq_true] at h; rw[jM h.1.1,jM h.1.2,jM h.2])
 | .b5 a n,b,h=>by cases b<;>simp only[U.beq] at h<;>first | cases h | (simp only[Bool.and_eq_true] at h; rw[uc h.1,jM h.2])
 | .ar ..,b,h=>by cases b<;>simp only[U.beq] at h<;>first | cases h | (simp only[Bool.and_eq_true] at h; rw[jM h.1.1.1.1.1,jM h.1.1.1.1.2,jM h.1.1.1.2,jM h.1.1.2,jM h.1.2,jM h.2])
 | .b0 a n,b,h=>by cases b<;>simp only[U.beq] at h<;>first | cases h | (simp only[Bool.and_eq_true] at h; rw[jM h.1,NF h.2])
 | .fn a n m,b,h=>by cases b<;>simp only[U.beq] at h<;>first | cases h | (simp only[Bool.and_eq_true] at h; rw[jM h.1.1,uc h.1.2,uc h.2])
 | .mp a,b,h=>by cases b<;>simp only[U.beq] at h<;>first | cases h | rw[jM h]
 | .it a,b,h=>by cases b<;>simp only[U.beq] at h<;>first | cases h | rw[jM h]
 | .lD a,b,h=>by cases b<;>simp only[U.beq] at h<;>first | cases h | rw[jM h]
 | .fD a n,b,h=>by cases b<;>simp only[U.beq] at h<;>first | cases h | (simp only[Bool.and_eq_true] at h; rw[jM h.1,U.beq_eq h.2])
theorem uc:∀ {a b:List U},eo a b=true->a=b
 | [],b,h=>by cases b<;>simp only[eo] at h<;>first | rfl | cases h
 | x::a,b,h=>by cases b<;>simp only[eo] at h<;>first | cases h | (simp only[Bool.and_eq_true] at h; rw[U.beq_eq h.1,uc h.2])
theorem NF:∀ {a b:List (List U)},AA a b=true->a=b
 | [],b,h=>by cases b<;>simp only[AA] at h<;>first | rfl | cases h
 | x::a,b,h=>by cases b<;>simp only[AA] at h<;>first | cases h | (simp only[Bool.and_eq_true] at h; rw[uc h.1,NF h.2])
end
def rQ:U->Bool | .int .. | .str _ | .bool _=>true | _=>false
def qv (P:Program) :Nat->TypeId->Bool
 | 0,_=>false
 | d+1,t=>match P.underlying t,cf P t with
  | some (.int _),_=>true
  | some .string,_=>true
  | some .bool,_=>true
  | some (.array n e),some m=>qv P d e&&(match cf P e,dE P e with | some z,some _=>Nat.ble (n*z) m&&Nat.ble 1 z | _,_=>false)
  | some (.struct fs),some m=>fs.toList.all fun f=>qv P d f.type&&(match cf P f.type,dE P f.type with | some z,some _=>Nat.ble (f.offset+z) m&&Nat.ble 1 z | _,_=>false)
  | _,_=>false
def kn (P:Program) (t:TypeId) (c:U) :Bool:=
 match c with
 | .aI cs=>qv P 8 t&&(match dE P t,cf P t with | some true,some m=>Nat.beq cs.length m | _,_=>false)&&cs.all rQ
 | _=>false
def iW (P:Program) (cA:TypeId) (k:U) :List (U × U × Nat)->Nat->Option (Option (Nat × U))
 | [],_=>some none
 | (k',v,_) ::es,i=>match kn P cA k' with
  | false=>none
  | true=>match ea P 10000 cA k k' with
   | some true=>match U.beq k k' with | true=>some (some (i,v)) | false=>none
   | some false=>iW P cA k es (i+1)
   | none=>none
def mapOf (h:aN) :U->Option (List (U × U × Nat))
 | .hh=>some []
 | .mp b=>match h.f b with | .map es _=>some es | _=>none
 | _=>none
def x8 (P:Program) (t:TypeId) :Option U:=((P.info? t).bind (·.zero)).map vq
def FR (P:Program) (h:aN) (t:TypeId) (m k:U) (ok:Bool) :Option U:=
 match P.underlying t,mapOf h m with
 | some (.map cA lM),some es=>match kn P cA k with
  | false=>none
  | true=>match iW P cA k es 0 with
   | some (some (_,v))=>some (if ok then .bu [v,.bool true] else v)
   | some none=>(x8 P lM).map fun z=>if ok then .bu [z,.bool false] else z
   | none=>none
 | _,_=>none
def xq (P:Program) (h:aN) (t:TypeId) (m k v:U) :Option aN:=
 match P.underlying t,m with
 | some (.map cA _),.mp b=>match h.f b with
  | .map es dZ=>match kn P cA k with
   | false=>none
   | true=>match iW P cA k es 0 with
    | some (some (i,_))=>some (h.set b (.map (es.modify i fun e=>(k,v,e.2.2)) dZ))
    | some none=>some (h.set b (.map (es++[(k,v,dZ)]) (dZ+1)))
    | none=>none
  | _=>none
 | _,_=>none
def xm (P:Program) (h:aN) (t:TypeId) (x:U) :Option U:=
 match P.underlying t,x with
 | some (.map _ _),.mp b=>match h.f b with | .map es _=>some (.int .i64 es.length) | _=>none
 | _,_=>none
def Gp (P:Program) (h:aN) (t:TypeId) (x:U) :Option (U × aN) :=
 match P.underlying t,x with
 | some .string,.str s=>some (.it h.n,h.push (.iter s 0))
 | _,_=>none
def zK (h:aN) (x:U) :Option (U × aN) :=
 match x with
 | .it b=>match h.f b with
  | .iter s pos=>match Nat.blt pos s.length with
   | true=>some (.bu [.bool true,.int .i64 pos,.int .i32 (Utf8.decode ⟨s.toArray⟩ pos).1],h.set b (.iter s (pos+(Utf8.decode ⟨s.toArray⟩ pos).2)))
   | false=>some (.bu [.bool false],h)
  | _=>none
 | _=>none
def m4:List UInt8->List UInt8->Int
 | [],[]=>0
 | [],_::_=>-1
 | _::_,[]=>1
 | a::as,b::bs=>if a=b then m4 as bs else if a<b then -1 else 1
def q3 (h:aN) (x:U) :Option (List UInt8) :=match x with
 | .str s=>some s
 | x=>match contents h 1 x with
  | some (cs,_)=>kY cs
  | none=>none
def AX (h:aN) :List U->Option U
 | [x,y]=>match q3 h x,q3 h y with
  | some a,some b=>some (.int .i64 (m4 a b))
  | _,_=>none
 | _=>none
def Cj (fn:Func) :Bool:=fn.body.isNone&&fn.name == "internal/bytealg.Compare"&&(fn.origin == ""||fn.origin == "internal/bytealg.Compare")
inductive oN where
 | val (v:U) (h:aN)
 | call (f:FuncId) (args:List U) (h:aN)
def zH:U->U->Option U
 | .int k x,.int k' y=>if k=k' then some (.int k (if y<x then y else x)) else none
 | _,_=>none
def tl:U->U->Option U
 | .int k x,.int k' y=>if k=k' then some (.int k (if x<y then y else x)) else none
 | _,_=>none
def gX:U:=.bu []
def Ay (P:Program) (h:aN) (t:TypeId) (s x:U) :Option (U × aN) :=
 match hY P t,asInt x with
 | some e,some n=>match cf P e,iT P e,g9 P e with
  | some z,some by_,some zero=>
   if zero.length=z/\0<=n/\n<9223372036854775808/\n.toNat*by_<=cx then tZ P h e z by_ s (c4 zero n.toNat) n.toNat else none
  | _,_,_=>none
 | _,_=>none
def oS (P:Program) (h:aN) (b:Builtin) (ts:List TypeId) (args:List U) :Option oN:=
 match b,ts,args with
 | .len,[t],[x]=>match xm P h t x with
  | some v=>some (.val v h)
  | none=>(xl P t x).map fun v=>.val v h
 | .append,[t,u],[s,x]=>match P.underlying u with
  | some (.int _)=>(Ay P h t s x).map fun (v,h')=>.val v h'
  | none=>none
  | _=>(qZ P h t s x).map fun (v,h')=>.val v h'
 | .copy,[t,_],[d,x]=>(yz P h t d x).map fun (v,h')=>.val v h'
 | .cap,[t],[x]=>(ys P t x).map fun v=>.val v h
 | .clear,[t],[x]=>(yv P h t x).map fun h'=>.val (.bu []) h'
 | .min,_,[x,y]=>(zH x y).map fun v=>.val v h
 | .max,_,[x,y]=>(tl x y).map fun v=>.val v h
 | _,_,_=>none
def qA (P:Program) (t:TypeId) (name:String) :Option FuncId:=
 match P.underlying t with
 | some (.pointer _) | none=>none
 | _=>match P.info? t with
  | some i=>match i.methods.find? (·.name == name) with
   | some m=>match m.path.toList,m.func with
    | [],some (f,false)=>some f
    | _,_=>none
   | none=>none
  | none=>none
def oB (t:TypeId) (z:U) (ok:Bool) :U->Option U
 | .fD fN v=>match Nat.beq fN t with
  | true=>match ok with | true=>some (.bu [v,.bool true]) | false=>some v
  | false=>match ok with | true=>some (.bu [z,.bool false]) | false=>none
 | .iM=>match ok with | true=>some (.bu [z,.bool false]) | false=>none
 | _=>none
def GO (P:Program) (t:TypeId) :Option U:=match P.underlying t with
 | some (.interface _) | none=>none
 | _=>x8 P t
def ug (P:Program) (h:aN) (aw:Operand->U) (c:Call) :Option oN:=
 match c.callee with
 | .builtin b=>oS P h b c.argTypes.toList (c.args.toList.map aw)
 | .value f=>match aw f with
  | .fn g first fu=>match P.funcs[g]? with
   | some fn=>if fn.body.isSome/\fn.name≠ "runtime.NumGoroutine" then some (.call g (first++c.args.toList.map aw++fu) h)
    else if Cj fn then (AX h (first++c.args.toList.map aw++fu)).map fun v=>.val v h else none
   | none=>none
  | _=>none
 | .invoke x name=>match aw x with
  | .fD t v=>match qA P t name with
   | some g=>match P.funcs[g]? with
    | some fn=>if fn.body.isSome/\fn.name≠ "runtime.NumGoroutine" then some (.call g (v::c.args.toList.map aw) h) else none
    | none=>none
   | none=>none
  | _=>none
def cJ (P:Program) (h:aN) (aw:Operand->U) (op:Op) :Option oN:=
 let v (x:Option U) :Option oN:=x.map fun y=>.val y h
 let w (x:Option (U × aN)) :Option oN:=x.map fun y=>.val y.1 y.2
 match op with
 | .move x | .assign x=>some (.val (aw x) h)
 | .pick c a b=>match aw c with | .bool t=>some (.val (if t then aw a else aw b) h) | _=>none
 | .alloc t=>(g9 P t).map fun z=>.val (.ptr h.n 0 z.length) (h.push (.cells z.length z))
 | .box _ x=>(aw x).cells.map fun cs=>.val (.ptr h.n 0 cs.length) (h.push (.cells cs.length cs))
 | .build t parts=>v (AE P t (parts.toList.map fun p=>(p.1,aw p.2)))
 | .buildSlice t len parts=>w (DO P h t len (parts.toList.map fun p=>(p.1,aw p.2)))
 | .load t a=>v (rF P h t (aw a))
 | .store t a x=>(z7 P h t (aw a) (aw x)).map fun h'=>.val gX h'
 | .nilCheck x=>match aw x with | .ptr b o s=>some (.val (.ptr b o s) h) | .b5 c o=>some (.val (.b5 c o) h) | .fn f a b=>some (.val (.fn f a b) h) | _=>none
 | .binOp op t x y _=>v (fG P op t (aw x) (aw y))
 | .unOp op _ x=>v (pB op (aw x))
 | .convert s d x=>match yp P s d (aw x) with
  | some c=>some (.val c h)
  | none=>v (wj P h s d (aw x))
 | .makeInterface t x=>match P.underlying t with
  | some (.interface _) | none=>none
  | _=>some (.val (.fD t (aw x)) h)
 | .makeFunc (.func f) first fu=>some (.val (.fn f (first.toList.map aw) (fu.toList.map aw)) h)
 | .makeSlice t l c=>w (FV P h t (aw l) (aw c))
 | .slice t x cB ax ct=>v (C9 P t (aw x) (cB.map aw) (ax.map aw) (ct.map aw))
 | .fieldAddr s x f=>v (Ef P s (aw x) f)
 | .field t x f=>match aw x,ws P t f with
  | .aI cs,some fd=>v (hj P fd.type cs fd.offset)
  | _,_=>none
 | .indexAddr t x i=>v (Ch P t (aw x) (aw i))
 | .index t x i=>v (zy P t (aw x) (aw i))
 | .extract x i=>match aw x with | .bu vs=>v vs[i]? | _=>none
 | .call c=>ug P h aw c
 | .makeMap t r=>match P.underlying t,(match r with | none=>true | some x=>(asInt (aw x)).isSome) with | some (.map _ _),true=>some (.val (.mp h.n) (h.push (.map [] 0))) | _,_=>none
 | .lookup t m k ok=>v (FR P h t (aw m) (aw k) ok)
 | .mapUpdate t m k x | .insert t m k x=>(xq P h t (aw m) (aw k) (aw x)).map fun h'=>.val gX h'
 | .range t x=>w (Gp P h t (aw x))
 | .next it true=>w (zK h (aw it))
 | .typeAssert x _ t ok=>match GO P t with | some z=>v (oB t z ok (aw x)) | none=>none
 | _=>none
structure M where
 r:Nat
 s:Nat
 T:Nat
abbrev cu:=Nat->Option M
def live:bg->Bool
 | .cells .. | .map .. | .iter ..=>true
 | _=>false
def nr:bg->Nat
 | .map ..=>1
 | .iter ..=>2
 | _=>0
def kS (h:aN) (μ:cu) (k:Nat) :Prop:=∃ b m,live (h.f b)=true/\μ b=some m/\m.r=k
def tS (h:aN) (b sz:Nat) :Prop:=h.f b=.dead\/∃ n cs,h.f b=.cells n cs/\sz<n
structure Cell (w:World) (R:Nat->Prop) (h:aN) (μ:cu) (b o:Nat) (v:Value) :Prop where
 here:w.cell? ⟨b,o,none⟩=some v
 one:v.oneCell'=true
 ro:R b
 free:¬ kS h μ b
inductive aO (w:World) (R:Nat->Prop) (h:aN) (μ:cu) :U->Value->Prop where
 | bool (b:Bool) :aO w R h μ (.bool b) (.bool b)
 | int (k:IntKind) (n:Int) :aO w R h μ (.int k n) (.int k n)
 | str (bs:ByteArray) :aO w R h μ (.str bs.data.toList) (.string bs)
 | iN:aO w R h μ .iN (.pointer none)
 | aX:aO w R h μ .aX (.slice none 0 0)
 | hh:aO w R h μ .hh (.map none)
 | iL:aO w R h μ .iL .nilFunc
 | iM:aO w R h μ .iM .nilIface
 | aI (cs:List U) (vs:Array Value) (ak:vs.size=cs.length) (h1:∀ (j:Nat) (v:Value),vs[j]? = some v->v.oneCell'=true)
   (ao:∀ (j:Nat) (c:U) (v:Value),cs[j]? = some c->vs[j]? = some v->aO w R h μ c v) :aO w R h μ (.aI cs) (.agg vs)
 | bu (cs:List U) (vs:Array Value) (ak:vs.size=cs.length)
   (ao:∀ (j:Nat) (c:U) (v:Value),cs[j]? = some c->vs[j]? = some v->aO w R h μ c v) :aO w R h μ (.bu cs) (.tuple vs)
 | ptr (b off sz:Nat) (cs:List U) (m:M) (af:h.f b=.cells sz cs) (hm:μ b=some m) :
   aO w R h μ (.ptr b off sz) (.pointer (some ⟨m.r,m.s+off,none⟩))
 | l2 (b off sz:Nat) (a:Addr) (au:tS h b sz) :aO w R h μ (.ptr b off sz) (.pointer (some a))
 | b5 (cs:List U) (off blk o:Nat) (dH:Nat->Value) (ah:∀ j,j<cs.length->Cell w R h μ blk (o+j) (dH j))
   (ao:∀ (j:Nat) (c:U),cs[j]? = some c->aO w R h μ c (dH j)) :aO w R h μ (.b5 cs off) (.pointer (some ⟨blk,o+off,none⟩))
 | ar (z b off len cap sz cap' : Nat) (cs:List U) (m:M) (af:h.f b=.cells sz cs) (hm:μ b=some m) (ak:len<=cap) (aq:off+cap*z<=sz)
   (ah:(off+cap*z<sz/\cap'=cap)\/(off+cap*z=sz/\cap<=cap'/\m.s+off+cap'*z<=m.T)) :
   aO w R h μ (.ar z b off len cap sz) (.slice (some ⟨m.r,m.s+off,none⟩) len cap')
 | ga (z b off len cap sz cap' : Nat) (a:Addr) (ak:len<=cap) (ah:cap<=cap') (au:tS h b sz) :aO w R h μ (.ar z b off len cap sz) (.slice (some a) len cap')
 | hl (z b off sz:Nat) (a:Addr) (cs:List U) (m:M) (af:h.f b=.cells sz cs) (hm:μ b=some m) :aO w R h μ (.ar z b off 0 0 sz) (.slice (some a) 0 0)
 | b0 (z:Nat) (es:List (List U)) (blk off cap:Nat) (dH:Nat->Nat->Value) (ak:es.length<=cap) (av:∀ e,e∈es->e.length=z)
   (ah:∀ i j,i<es.length->j<z->Cell w R h μ blk (off+(i*z+j)) (dH i j))
   (ao:∀ (i:Nat) (e:List U),es[i]? = some e->∀ (j:Nat) (c:U),e[j]? = some c->aO w R h μ c (dH i j)) :
   aO w R h μ (.b0 z es) (.slice (some ⟨blk,off,none⟩) es.length cap)
 | fe (z:Nat) (a:Addr) (cap:Nat) :aO w R h μ (.b0 z []) (.slice (some a) 0 cap)
 | fn (f:FuncId) (first fu:List U) (fs cs:Array Value) (aA:fs.size=first.length) (ah:cs.size=fu.length)
   (h1:∀ (j:Nat) (c:U) (v:Value),first[j]? = some c->fs[j]? = some v->aO w R h μ c v) (ad:∀ (j:Nat) (c:U) (v:Value),fu[j]? = some c->cs[j]? = some v->aO w R h μ c v) :
   aO w R h μ (.fn f first fu) (.func (.func f) fs cs)
 | mp (b:Nat) (m:M) (af:nr (h.f b)=1) (hm:μ b=some m) :aO w R h μ (.mp b) (.map (some m.r))
 | it (b:Nat) (m:M) (af:nr (h.f b)=2) (hm:μ b=some m) :aO w R h μ (.it b) (.pointer (some ⟨m.r,0,none⟩))
 | fD (t:TypeId) (c:U) (v:Value) (ao:aO w R h μ c v) :aO w R h μ (.fD t c) (.iface t v)
 | lD (l:Nat) :aO w R h μ (.lD l) (.func (.yield l) #[] #[])
 | bad (v:Value) :aO w R h μ .bad v
structure Ext0 (w:World) (h:aN) (μ:cu) (w' : World) (h' : aN) (μ' : cu) :Prop where
 os:w'.os=w.os
 tape:w'.tape=w.tape
 output:w'.output=w.output
 size:w.heap.size<=w'.heap.size
 cr:∀ k,k<w.heap.size->¬ kS h μ k->w'.heap[k]? = w.heap[k]?
 own:∀ k,kS h' μ' k->kS h μ k\/w.heap.size<=k
 cells:∀ b sz cs m,h.f b=.cells sz cs->μ b=some m->(∃ cs',h'.f b=.cells sz cs'/\μ' b=some m)\/tS h' b sz
 gone:∀ b sz,tS h b sz->tS h' b sz
 F6:∀ b k m,nr (h.f b)=k+1->μ b=some m->nr (h'.f b)=k+1/\μ' b=some m
 n:h.n<=h'.n
 drawn:w.drawn<=w'.drawn:=by first | exact Nat.le_refl _ | exact Nat.le_succ _ | assumption
structure db (w:World) (h:aN) (μ:cu) (w' : World) (h' : aN) (μ' : cu) :Prop extends Ext0 w h μ w' h' μ' where
 pC:∀ b,b<h.n->μ b=none->μ' b=none
theorem Ext0.refl (w:World) (h:aN) (μ:cu) :Ext0 w h μ w h μ:=
 ⟨rfl,rfl,rfl,Nat.le_refl _,fun _ _ _=>rfl,fun _ h=>.inl h,fun b sz cs m h1 ad=>.inl ⟨cs,h1,ad⟩,fun _ _ h=>h,fun _ _ _ h1 ad=>⟨h1,ad⟩,Nat.le_refl _,Nat.le_refl _⟩
theorem db.refl (w:World) (h:aN) (μ:cu) :db w h μ w h μ:=⟨.refl w h μ,fun _ _ h=>h⟩
theorem Ext0.trans {w bS w2:World} {h h1 ad:aN} {μ gK qR:cu} (a:Ext0 w h μ bS h1 gK) (b:Ext0 bS h1 gK w2 ad qR) :Ext0 w h μ w2 ad qR:=by
 refine⟨b.os.trans a.os,b.tape.trans a.tape,b.output.trans a.output,Nat.le_trans a.size b.size,?_,?_,?_,fun _ _ au=>b.gone _ _ (a.gone _ _ au),?_,Nat.le_trans a.n b.n,Nat.le_trans a.drawn b.drawn⟩
 ·intro k hk aD;rw[b.cr k (Nat.lt_of_lt_of_le hk a.size) (fun aq=>(a.own k aq).elim aD (by omega)),a.cr k hk aD]
 ·intro k hk;rcases b.own k hk with h | h
  ·exact a.own k h
  ·exact .inr (Nat.le_trans a.size h)
 ·intro blk sz cs m af hm;rcases a.cells blk sz cs m af hm with ⟨cs',aj,aC⟩ | aj
  ·exact b.cells blk sz cs' m aj aC
  ·exact .inr (b.gone _ _ aj)
 ·intro blk k m af hm;obtain⟨aj,aC⟩:=a.F6 blk k m af hm;exact b.F6 blk k m aj aC
theorem db.trans {w bS w2:World} {h h1 ad:aN} {μ gK qR:cu} (a:db w h μ bS h1 gK) (b:db bS h1 gK w2 ad qR) :db w h μ w2 ad qR:=
 ⟨a.toExt0.trans b.toExt0,fun blk af hm=>b.pC blk (Nat.lt_of_lt_of_le af a.n) (a.pC blk af hm)⟩
theorem Cell.ext {w w' : World} {h h' : aN} {μ μ' : cu} {R:Nat->Prop} {b o:Nat} {v:Value} (e:Ext0 w h μ w' h' μ') (c:Cell w R h μ b o v) :Cell w' R h' μ' b o v:=by
 have af:b<w.heap.size:=World.block_lt_of_cell? _ _ c.here;refine⟨?_,c.one,c.ro,fun aq=>?_⟩
 ·rw[World.cell?_of_block (w:=w) (a:=⟨b,o,none⟩) (e.cr b af c.free)]; exact c.here
 ·rcases e.own b aq with h1 | h1
  ·exact c.free h1
  ·omega
theorem aO.my {w w' : World} {h h' : aN} {μ μ' : cu} {R:Nat->Prop} {c:U} {v:Value} (e:Ext0 w h μ w' h' μ') (ao:aO w R h μ c v) :aO w' R h' μ' c v:=by
 induction ao with
 | bool b=>exact .bool b
 | int k n=>exact .int k n
 | str bs=>exact .str bs
 | iN=>exact .iN
 | aX=>exact .aX
 | hh=>exact .hh
 | iL=>exact .iL
 | iM=>exact .iM
 | aI cs vs ak h1 ao aJ=>exact .aI cs vs ak h1 aJ
 | bu cs vs ak ao aJ=>exact .bu cs vs ak aJ
 | ptr b off sz cs m af hm=>
  rcases e.cells b sz cs m af hm with ⟨cs',h1,ad⟩ | h1
  ·exact .ptr b off sz cs' m h1 ad
  ·exact .l2 b off sz _ h1
 | l2 b off sz a au=>exact .l2 b off sz a (e.gone _ _ au)
 | b5 cs off blk o dH ah ao aJ=>exact .b5 cs off blk o dH (fun j ai=>(ah j ai).ext e) aJ
 | ar z b off len cap sz cap' cs m af hm ak aq ah=>
  rcases e.cells b sz cs m af hm with ⟨cs',h1,ad⟩ | h1
  ·exact .ar z b off len cap sz cap' cs' m h1 ad ak aq ah
  ·exact .ga z b off len cap sz cap' _ ak (by omega) h1
 | ga z b off len cap sz cap' a ak ah au=>exact .ga z b off len cap sz cap' a ak ah (e.gone _ _ au)
 | hl z b off sz a cs m af hm=>
  rcases e.cells b sz cs m af hm with ⟨cs',h1,ad⟩ | h1
  ·exact .hl z b off sz a cs' m h1 ad
  ·exact .ga z b off 0 0 sz 0 a (Nat.le_refl _) (Nat.le_refl _) h1
 | b0 z es blk off cap dH ak av ah ao aJ=>exact .b0 z es blk off cap dH ak av (fun i j ax ai=>(ah i j ax ai).ext e) aJ
 | fe z a cap=>exact .fe z a cap
 | fn f first fu fs cs aA ah h1 ad dO ln=>exact .fn f first fu fs cs aA ah dO ln
 | mp b m af hm=>
  obtain⟨h1,ad⟩:=e.F6 b 0 m af hm;exact .mp b m h1 ad
 | it b m af hm=>
  obtain⟨h1,ad⟩:=e.F6 b 1 m af hm;exact .it b m h1 ad
 | fD t c v ao aJ=>exact .fD t c v aJ
 | lD l=>exact .lD l
 | bad v=>exact .bad v
theorem aO.ext {w w' : World} {h h' : aN} {μ μ' : cu} {R:Nat->Prop} {c:U} {v:Value} (e:db w h μ w' h' μ') (ao:aO w R h μ c v) :aO w' R h' μ' c v:=ao.my e.toExt0
def tQ (w:World) (R:Nat->Prop) (h:aN) (μ:cu) (m:M) :bg->Prop
 | .cells sz cs=>cs.length=sz/\m.s+sz<=m.T/\∃ arr e fH,w.heap[m.r]? = some (.cells arr e fH)/\arr.size=m.T/\(fH=(0,0)\/m.T<fH.1) ∧
   ∀ (j:Nat) (c:U),cs[j]? = some c->∃ v:Value,arr[m.s+j]? = some v/\v.oneCell'=true/\aO w R h μ c v
 | .map es dZ=>∃ c9,w.heap[m.r]? = some (.map c9 dZ)/\c9.size=es.length ∧
   ∀ (j:Nat) (k v:U) (b:Nat),es[j]? = some (k,v,b)->∃ x:MapEntry,c9[j]? = some x/\aO w R h μ k x.key/\aO w R h μ v x.val/\x.born=b
 | .iter s pos=>∃ bs:ByteArray,bs.data.toList=s/\w.heap[m.r]? = some (.stringIter bs pos)
 | _=>True
theorem tQ.ext {w w' : World} {h h' : aN} {μ μ' : cu} {R:Nat->Prop} {m:M} (e:Ext0 w h μ w' h' μ') (hw:w'.heap[m.r]? = w.heap[m.r]?) :
  ∀ {c:bg},tQ w R h μ m c->tQ w' R h' μ' m c
 | .cells sz cs,⟨h1,ad,arr,t,fH,aj,aC,aZ,bx⟩=>⟨h1,ad,arr,t,fH,hw.trans aj,aC,aZ,fun j c ai=>let ⟨v,a,b,d⟩:=bx j c ai; ⟨v,a,b,d.my e⟩⟩
 | .map es dZ,⟨c9,h1,ad,aj⟩=>⟨c9,hw.trans h1,ad,fun j k v b ai=>let ⟨x,a,dU,d,f⟩:=aj j k v b ai; ⟨x,a,dU.my e,d.my e,f⟩⟩
 | .iter s pos,⟨bs,h1,ad⟩=>⟨bs,h1,hw.trans ad⟩
 | .none,_=>trivial
 | .dead,_=>trivial
structure bV (R:Nat->Prop) (B:Nat) (w:World) (h:aN) (μ:cu) :Prop where
 blk:∀ b m,μ b=some m->tQ w R h μ m (h.f b)
 inj:∀ b bf m ca,live (h.f b)=true->live (h.f bf)=true->μ b=some m->μ bf=some ca->m.r=ca.r->b=bf
 base:∀ b m,live (h.f b)=true->μ b=some m->B<=m.r
 fresh:∀ b,h.n<=b->h.f b=.none
 up:∀ k,B<=k->R k
 size:B<=w.heap.size
 kp:∀ b,h.n<=b->μ b=none
theorem bV.q2 {R:Nat->Prop} {B:Nat} {w:World} {h:aN} {μ:cu} (rel:bV R B w h μ) {b:Nat} {m:M} (hm:μ b=some m) :b<h.n:=by
 rcases Nat.lt_or_ge b h.n with h1 | h1
 ·exact h1
 ·rw[rel.kp b h1] at hm; cases hm
theorem bV.lt {R:Nat->Prop} {B:Nat} {w:World} {h:aN} {μ:cu} (rel:bV R B w h μ) {b:Nat} {m:M} (ak:live (h.f b)=true) (hm:μ b=some m) :m.r<w.heap.size:=by
 have af:=rel.blk b m hm;cases ah:h.f b with
 | none=>rw[ah] at ak; cases ak
 | dead=>rw[ah] at ak; cases ak
 | cells sz cs=>
  rw[ah] at af;obtain⟨_,_,arr,t,fH,aj,_⟩:=af;rcases Nat.lt_or_ge m.r w.heap.size with h | h
  ·exact h
  ·rw[Array.getElem?_eq_none h] at aj; cases aj
 | map es dZ=>
  rw[ah] at af;obtain⟨c9,aj,_⟩:=af;rcases Nat.lt_or_ge m.r w.heap.size with h | h
  ·exact h
  ·rw[Array.getElem?_eq_none h] at aj; cases aj
 | iter s pos=>
  rw[ah] at af;obtain⟨bs,_,aj⟩:=af;rcases Nat.lt_or_ge m.r w.heap.size with h | h
  ·exact h
  ·rw[Array.getElem?_eq_none h] at aj; cases aj
theorem bV.tN {R:Nat->Prop} {B:Nat} {w w' : World} {h h' : aN} {μ μ' : cu} (rel:bV R B w h μ) (e:Ext0 w h μ w' h' μ') (gN:Nat)
  (pd:∀ b,b≠gN->live (h'.f b)=true->h'.f b=h.f b/\μ' b=μ b/\∀ m,μ b=some m->w'.heap[m.r]? = w.heap[m.r]?)
  (ka:∀ m,μ' gN=some m->tQ w' R h' μ' m (h'.f gN))
  (jm:∀ b m ca,b≠gN->live (h'.f b)=true->live (h'.f gN)=true->μ b=some m->μ' gN=some ca->m.r≠ca.r)
  (ES:∀ m,live (h'.f gN)=true->μ' gN=some m->B<=m.r)
  (abw:∀ b,h'.n<=b->h'.f b=.none) (ace:∀ b,h'.n<=b->μ' b=none) :bV R B w' h' μ':=by
 refine⟨?_,?_,?_,abw,rel.up,Nat.le_trans rel.size e.size,ace⟩
 ·intro b m hm;by_cases af:b=gN
  ·subst af; exact ka m hm
  ·cases ak:live (h'.f b) with
   | false=>cases ah:h'.f b<;>first | trivial | (rw[ah] at ak; cases ak)
   | true=>
    obtain⟨h1,ad,aj⟩:=pd b af ak;rw[ad] at hm;rw[h1];exact (rel.blk b m hm).ext e (aj m hm)
 ·intro b bf m ca ak cN hm bR ay;by_cases af:b=gN<;>by_cases bH:bf=gN
  ·rw[af,bH]
  ·subst af;obtain⟨h1,ad,aj⟩:=pd bf bH cN;rw[ad] at bR;exact absurd ay.symm (jm bf ca m bH cN ak bR hm)
  ·subst bH;obtain⟨h1,ad,aj⟩:=pd b af ak;rw[ad] at hm;exact absurd ay (jm b m ca af ak cN hm bR)
  ·obtain⟨h1,ad,_⟩:=pd b af ak;obtain⟨aj,aC,_⟩:=pd bf bH cN;rw[h1] at ak; rw[ad] at hm; rw[aj] at cN; rw[aC] at bR;exact rel.inj b bf m ca ak cN hm bR ay
 ·intro b m ak hm;by_cases af:b=gN
  ·subst af; exact ES m ak hm
  ·obtain⟨h1,ad,_⟩:=pd b af ak;rw[h1] at ak; rw[ad] at hm;exact rel.base b m ak hm
theorem bV.push {R:Nat->Prop} {B:Nat} {w w' : World} {h:aN} {μ:cu} (rel:bV R B w h μ) (cs:List U) (arr:Array Value) (t:TypeId)
  (pc:w'.os=w.os) (s8:w'.tape=w.tape) (kJ:w'.output=w.output) (jl:w'.heap=w.heap.push (.cells arr t (0,0)))
  (gF:cs.length<=arr.size) (ao:∀ (j:Nat) (c:U),cs[j]? = some c->∃ v:Value,arr[j]? = some v/\v.oneCell'=true/\aO w R h μ c v) (p7:w.drawn<=w'.drawn:=by first | exact Nat.le_refl _ | exact Nat.le_succ _ | assumption) :
  db w h μ w' (h.push (.cells cs.length cs)) (bD μ h.n (some ⟨w.heap.size,0,arr.size⟩)) ∧
  bV R B w' (h.push (.cells cs.length cs)) (bD μ h.n (some ⟨w.heap.size,0,arr.size⟩)) :=by
 have aD:h.f h.n=.none:=rel.fresh _ (Nat.le_refl _);have e:db w h μ w' (h.push (.cells cs.length cs)) (bD μ h.n (some ⟨w.heap.size,0,arr.size⟩)) :=by
  refine⟨⟨pc,s8,kJ,by simp[jl],?_,?_,?_,?_,?_,?_,p7⟩,?_⟩
  ·intro k hk _;rw[jl,Array.getElem?_push,if_neg (by omega)]
  ·rintro k ⟨b,m,ak,hm,rfl⟩;by_cases af:b=h.n
   ·subst af; simp at hm; subst hm; exact .inr (Nat.le_refl _)
   ·rw[b2 _ _ _ _ af] at hm;simp only[dG,e0,b2 _ _ _ _ af] at ak;exact .inl ⟨b,m,ak,hm,rfl⟩
  ·intro b sz cs' m af hm;have:b≠h.n:=fun aM=>by rw[aM,aD] at af; cases af
   exact .inl ⟨cs',by simp only[dG,e0,b2 _ _ _ _ this]; exact af,by rw[b2 _ _ _ _ this]; exact hm⟩
  ·rintro b sz (af | ⟨n,cs',af,aL⟩)
   ·have:b≠h.n:=fun aM=>by rw[aM,aD] at af; cases af
    exact .inl (by simp only[dG,e0,b2 _ _ _ _ this]; exact af)
   ·have:b≠h.n:=fun aM=>by rw[aM,aD] at af; cases af
    exact .inr ⟨n,cs',by simp only[dG,e0,b2 _ _ _ _ this]; exact af,aL⟩
  ·intro b k m af hm;have:b≠h.n:=fun aM=>by rw[aM,aD] at af; cases af
   exact⟨by simp only[dG,e0,b2 _ _ _ _ this]; exact af,by rw[b2 _ _ _ _ this]; exact hm⟩
  ·simp[dG,e0]
  ·intro b af hm;rw[b2 _ _ _ _ (by omega)]; exact hm
 refine⟨e,rel.tN e.toExt0 h.n ?_ ?_ ?_ ?_ ?_ ?_⟩
 ·intro b af ak;simp only[dG,e0,b2 _ _ _ _ af] at ak ⊢;exact⟨trivial,trivial,fun m hm=>by rw[jl,Array.getElem?_push,if_neg (by have:=rel.lt ak hm; omega)]⟩
 ·intro m hm;simp at hm; subst hm;simp only[dG,e0,jj];refine⟨rfl,by simpa using gF,arr,t,(0,0),by simp[jl],rfl,.inl rfl,fun j c ai=>?_⟩;obtain⟨v,h1,ad,aj⟩:=ao j c ai;exact⟨v,by simpa using h1,ad,aj.ext e⟩
 ·intro b m ca af ak _ hm bR;simp only[dG,e0,b2 _ _ _ _ af] at ak;simp at bR; subst bR;have:=rel.lt ak hm;simp only[ne_eq]; omega
 ·intro m _ hm;simp at hm; subst hm;exact rel.size
 ·intro b af;simp only[dG,e0] at af ⊢;rw[b2 _ _ _ _ (by omega)];exact rel.fresh b (by omega)
 ·intro b af;simp only[dG,e0] at af;rw[b2 _ _ _ _ (by omega)];exact rel.kp b (by omega)
theorem bV.same {R:Nat->Prop} {B:Nat} {w:World} {h h' : aN} {μ:cu} (rel:bV R B w h μ) (aA:h'.f=h.f) (aD:h'.n=h.n) :db w h μ w h' μ/\bV R B w h' μ:=by
 have e:db w h μ w h' μ:=by
  refine⟨⟨rfl,rfl,rfl,Nat.le_refl _,fun _ _ _=>rfl,?_,?_,?_,?_,by omega,Nat.le_refl _⟩,fun _ _ hm=>hm⟩
  ·rintro k ⟨bf,ca,cN,bR,rfl⟩;rw[aA] at cN; exact .inl ⟨bf,ca,cN,bR,rfl⟩
  ·intro bf sz' cs' ca bH bR;exact .inl ⟨cs',by rw[aA]; exact bH,bR⟩
  ·intro bf sz' au;unfold tS at au ⊢; rw[aA]; exact au
  ·intro bf k' ca bH bR;exact⟨by rw[aA]; exact bH,bR⟩
 refine⟨e,rel.tN e.toExt0 h.n (fun b _ _=>⟨by rw[aA],rfl,fun _ _=>rfl⟩) (fun m hm=>?_) (fun b m ca _ _ _ _ hm=>?_) (fun m _ hm=>?_) (fun b af=>by rw[aA]; exact rel.fresh b (by omega)) (by rw[aD]; exact rel.kp)⟩
 all_goals (rw[rel.kp h.n (Nat.le_refl _)] at hm; cases hm)
theorem bV.kill {R:Nat->Prop} {B:Nat} {w:World} {h h' : aN} {μ:cu} (rel:bV R B w h μ) {b sz:Nat} {cs:List U} (af:h.f b=.cells sz cs) (kC:b<h.n)
  (aA:h'.f=bD h.f b .dead) (aD:h'.n=h.n) :db w h μ w h' μ/\bV R B w h' μ:=by
 have e:db w h μ w h' μ:=by
  refine⟨⟨rfl,rfl,rfl,Nat.le_refl _,fun _ _ _=>rfl,?_,?_,?_,?_,by omega,Nat.le_refl _⟩,fun _ _ hm=>hm⟩
  ·rintro k ⟨bf,ca,cN,bR,rfl⟩;rw[aA] at cN;by_cases bO:bf=b
   ·subst bO; simp[live] at cN
   ·rw[b2 _ _ _ _ bO] at cN; exact .inl ⟨bf,ca,cN,bR,rfl⟩
  ·intro bf sz' cs' ca bH bR;by_cases bO:bf=b
   ·subst bO; exact .inr (.inl (by rw[aA]; simp))
   ·exact .inl ⟨cs',by rw[aA,b2 _ _ _ _ bO]; exact bH,bR⟩
  ·rintro bf sz' au;by_cases bO:bf=b
   ·subst bO; exact .inl (by rw[aA]; simp)
   ·rcases au with au | ⟨n,cs',au,aL⟩
    ·exact .inl (by rw[aA,b2 _ _ _ _ bO]; exact au)
    ·exact .inr ⟨n,cs',by rw[aA,b2 _ _ _ _ bO]; exact au,aL⟩
  ·intro bf k' ca bH bR;by_cases bO:bf=b
   ·subst bO; rw[af] at bH; cases bH
   ·exact⟨by rw[aA,b2 _ _ _ _ bO]; exact bH,bR⟩
 refine⟨e,rel.tN e.toExt0 b ?_ ?_ ?_ ?_ ?_ (by rw[aD]; exact rel.kp)⟩
 ·intro bf bO ak;rw[aA,b2 _ _ _ _ bO];exact⟨rfl,rfl,fun _ _=>rfl⟩
 ·intro m _;rw[aA]; simp[tQ]
 ·intro bf m ca _ _ ak;rw[aA] at ak; simp[live] at ak
 ·intro m ak;rw[aA] at ak; simp[live] at ak
 ·intro bf bH;rw[aA,b2 _ _ _ _ (by omega)];exact rel.fresh bf (by omega)
theorem bV.UI {R:Nat->Prop} {B:Nat} {w:World} {h h' : aN} {μ:cu} (rel:bV R B w h μ) {b sz off:Nat} {cs:List U} {m:M} (af:h.f b=.cells sz cs) (hm:μ b=some m) (aq:off<=sz)
  (aA:h'.f=bD (bD h.f b .dead) h.n (.cells (sz - off) (cs.drop off))) (aD:h'.n=h.n+1) :
  db w h μ w h' (bD μ h.n (some ⟨m.r,m.s+off,m.T⟩))/\bV R B w h' (bD μ h.n (some ⟨m.r,m.s+off,m.T⟩)) :=by
 have kC:=rel.q2 hm;have w3:h.f h.n=.none:=rel.fresh _ (Nat.le_refl _);have kb:live (h.f b)=true:=by rw[af]; rfl
 have e:db w h μ w h' (bD μ h.n (some ⟨m.r,m.s+off,m.T⟩)) :=by
  refine⟨⟨rfl,rfl,rfl,Nat.le_refl _,fun _ _ _=>rfl,?_,?_,?_,?_,by omega,Nat.le_refl _⟩,fun bf bH bR=>by rw[b2 _ _ _ _ (by omega)]; exact bR⟩
  ·rintro k ⟨bf,ca,cN,bR,rfl⟩;rw[aA] at cN;by_cases jD:bf=h.n
   ·subst jD; simp at bR; subst bR; exact .inl ⟨b,m,kb,hm,rfl⟩
   ·rw[b2 _ _ _ _ jD] at cN bR;by_cases bO:bf=b
    ·subst bO; simp[live] at cN
    ·rw[b2 _ _ _ _ bO] at cN; exact .inl ⟨bf,ca,cN,bR,rfl⟩
  ·intro bf sz' cs' ca bH bR;have jD:bf≠h.n:=fun aM=>by rw[aM,w3] at bH; cases bH
   by_cases bO:bf=b
   ·subst bO; exact .inr (.inl (by rw[aA,b2 _ _ _ _ jD]; simp))
   ·exact .inl ⟨cs',by rw[aA,b2 _ _ _ _ jD,b2 _ _ _ _ bO]; exact bH,by rw[b2 _ _ _ _ jD]; exact bR⟩
  ·rintro bf sz' au;have jD:bf≠h.n:=fun aM=>by
    subst aM;rcases au with au | ⟨n,cs',au,_⟩
    ·rw[w3] at au; cases au
    ·rw[w3] at au; cases au
   by_cases bO:bf=b
   ·subst bO; exact .inl (by rw[aA,b2 _ _ _ _ jD]; simp)
   ·rcases au with au | ⟨n,cs',au,aL⟩
    ·exact .inl (by rw[aA,b2 _ _ _ _ jD,b2 _ _ _ _ bO]; exact au)
    ·exact .inr ⟨n,cs',by rw[aA,b2 _ _ _ _ jD,b2 _ _ _ _ bO]; exact au,aL⟩
  ·intro bf k' ca bH bR;have jD:bf≠h.n:=fun aM=>by rw[aM,w3] at bH; cases bH
   by_cases bO:bf=b
   ·subst bO; rw[af] at bH; cases bH
   ·exact⟨by rw[aA,b2 _ _ _ _ jD,b2 _ _ _ _ bO]; exact bH,by rw[b2 _ _ _ _ jD]; exact bR⟩
 have pd:∀ bf,bf≠h.n->live (h'.f bf)=true->bf≠b/\h'.f bf=h.f bf:=fun bf jD ak=>by
  rw[aA,b2 _ _ _ _ jD] at ak ⊢;by_cases bO:bf=b
  ·subst bO; simp[live] at ak
  ·exact⟨bO,by rw[b2 _ _ _ _ bO]⟩
 refine⟨e,rel.tN e.toExt0 h.n ?_ ?_ ?_ ?_ ?_ ?_⟩
 ·intro bf jD ak;exact⟨(pd bf jD ak).2,by rw[b2 _ _ _ _ jD],fun _ _=>rfl⟩
 ·intro ca bR;simp at bR; subst bR;rw[aA,jj];have eG:=rel.blk b m hm;rw[af] at eG;obtain⟨h1,ad,arr,t,fH,aj,aC,aZ,bx⟩:=eG;refine⟨by simp; omega,by simp only; omega,arr,t,fH,aj,aC,aZ,fun j c ai=>?_⟩;rw[List.getElem?_drop] at ai;obtain⟨v,a7,bl,a3⟩:=bx (off+j) c ai;exact⟨v,by simp only; rw[Nat.add_assoc]; exact a7,bl,a3.ext e⟩
 ·intro bf lq ko jD ak _ h1 ad aM;simp at ad; subst ad;obtain⟨bO,fC⟩:=pd bf jD ak;rw[fC] at ak;exact bO (rel.inj bf b lq m ak kb h1 hm aM)
 ·intro ca _ bR;simp at bR; subst bR;exact rel.base b m kb hm
 ·intro bf bH;rw[aA,b2 _ _ _ _ (by omega),b2 _ _ _ _ (by omega)];exact rel.fresh bf (by omega)
 ·intro bf bH;rw[b2 _ _ _ _ (by omega)];exact rel.kp bf (by omega)
theorem bV.Ua {R:Nat->Prop} {B:Nat} {w w' : World} {h:aN} {μ:cu} (rel:bV R B w h μ) (c:bg) (o:Obj) {k:Nat} (hk:nr c=k+1)
  (pc:w'.os=w.os) (s8:w'.tape=w.tape) (kJ:w'.output=w.output) (jl:w'.heap=w.heap.push o)
  (dN:tQ w' R (h.push c) (bD μ h.n (some ⟨w.heap.size,0,0⟩)) ⟨w.heap.size,0,0⟩ c) (p7:w.drawn<=w'.drawn:=by first | exact Nat.le_refl _ | exact Nat.le_succ _ | assumption) :
  db w h μ w' (h.push c) (bD μ h.n (some ⟨w.heap.size,0,0⟩))/\bV R B w' (h.push c) (bD μ h.n (some ⟨w.heap.size,0,0⟩)) :=by
 have aD:h.f h.n=.none:=rel.fresh _ (Nat.le_refl _);have RH:nr bg.none=0:=rfl;have e:db w h μ w' (h.push c) (bD μ h.n (some ⟨w.heap.size,0,0⟩)) :=by
  refine⟨⟨pc,s8,kJ,by simp[jl],?_,?_,?_,?_,?_,?_,p7⟩,?_⟩
  ·intro k hk _;rw[jl,Array.getElem?_push,if_neg (by omega)]
  ·rintro k ⟨b,m,ak,hm,rfl⟩;by_cases af:b=h.n
   ·subst af; simp at hm; subst hm; exact .inr (Nat.le_refl _)
   ·rw[b2 _ _ _ _ af] at hm;simp only[dG,e0,b2 _ _ _ _ af] at ak;exact .inl ⟨b,m,ak,hm,rfl⟩
  ·intro b sz cs' m af hm;have:b≠h.n:=fun aM=>by rw[aM,aD] at af; cases af
   exact .inl ⟨cs',by simp only[dG,e0,b2 _ _ _ _ this]; exact af,by rw[b2 _ _ _ _ this]; exact hm⟩
  ·rintro b sz (af | ⟨n,cs',af,aL⟩)
   ·have:b≠h.n:=fun aM=>by rw[aM,aD] at af; cases af
    exact .inl (by simp only[dG,e0,b2 _ _ _ _ this]; exact af)
   ·have:b≠h.n:=fun aM=>by rw[aM,aD] at af; cases af
    exact .inr ⟨n,cs',by simp only[dG,e0,b2 _ _ _ _ this]; exact af,aL⟩
  ·intro b k m af hm;have:b≠h.n:=fun aM=>by rw[aM,aD] at af; cases af
   exact⟨by simp only[dG,e0,b2 _ _ _ _ this]; exact af,by rw[b2 _ _ _ _ this]; exact hm⟩
  ·simp[dG,e0]
  ·intro b af hm;rw[b2 _ _ _ _ (by omega)]; exact hm
 refine⟨e,rel.tN e.toExt0 h.n ?_ ?_ ?_ ?_ ?_ ?_⟩
 ·intro b af ak;simp only[dG,e0,b2 _ _ _ _ af] at ak ⊢;exact⟨trivial,trivial,fun m hm=>by rw[jl,Array.getElem?_push,if_neg (by have:=rel.lt ak hm; omega)]⟩
 ·intro m hm;simp at hm; subst hm;simp only[dG,e0,jj];exact dN
 ·intro b m ca af ak _ hm bR;simp only[dG,e0,b2 _ _ _ _ af] at ak;simp at bR; subst bR;have:=rel.lt ak hm;simp only[ne_eq]; omega
 ·intro m _ hm;simp at hm; subst hm;exact rel.size
 ·intro b af;simp only[dG,e0] at af ⊢;rw[b2 _ _ _ _ (by omega)];exact rel.fresh b (by omega)
 ·intro b af;simp only[dG,e0] at af ⊢;rw[b2 _ _ _ _ (by omega)];exact rel.kp b (by omega)
theorem bV.kt {R:Nat->Prop} {B:Nat} {w w' : World} {h:aN} {μ:cu} (rel:bV R B w h μ) {b k:Nat} {c c' : bg} {m:M}
  (af:h.f b=c) (hk:nr c=k+1) (et:nr c'=k+1) (hm:μ b=some m)
  (pc:w'.os=w.os) (s8:w'.tape=w.tape) (kJ:w'.output=w.output) (xe:w'.heap.size=w.heap.size) (B8:∀ k,k≠m.r->w'.heap[k]? = w.heap[k]?)
  (dN:Ext0 w h μ w' (h.set b c') μ->tQ w' R (h.set b c') μ m c') (p7:w.drawn<=w'.drawn:=by first | exact Nat.le_refl _ | exact Nat.le_succ _ | assumption) :
  db w h μ w' (h.set b c') μ/\bV R B w' (h.set b c') μ:=by
 have kb:live (h.f b)=true:=by rw[af]; cases c<;>simp[nr] at hk<;>rfl
 have amE:live c'=true:=by cases c'<;>simp[nr] at et<;>rfl
 have w1:∀ sz cs,h.f b≠.cells sz cs:=fun sz cs aM=>by rw[af] at aM; subst aM; simp[nr] at hk
 have BT:h.f b≠.dead:=fun aM=>by rw[af] at aM; subst aM; simp[nr] at hk
 have e:db w h μ w' (h.set b c') μ:=by
  refine⟨⟨pc,s8,kJ,Nat.le_of_eq xe.symm,?_,?_,?_,?_,?_,Nat.le_refl _,p7⟩,fun _ _ hm=>hm⟩
  ·intro k hk aD;exact B8 k (fun aM=>aD ⟨b,m,kb,hm,aM.symm⟩)
  ·rintro k ⟨bf,ca,cN,bR,rfl⟩;by_cases bO:bf=b
   ·subst bO; exact .inl ⟨bf,ca,kb,bR,rfl⟩
   ·simp only[dp,b2 _ _ _ _ bO] at cN;exact .inl ⟨bf,ca,cN,bR,rfl⟩
  ·intro bf sz cs ca bH bR;have bO:bf≠b:=fun aM=>by subst aM; exact w1 _ _ bH
   exact .inl ⟨cs,by simp only[dp,b2 _ _ _ _ bO]; exact bH,bR⟩
  ·rintro bf sz (au | ⟨n,cs',au,aL⟩)
   ·have bO:bf≠b:=fun aM=>by subst aM; exact BT au
    exact .inl (by simp only[dp,b2 _ _ _ _ bO]; exact au)
   ·have bO:bf≠b:=fun aM=>by subst aM; exact w1 _ _ au
    exact .inr ⟨n,cs',by simp only[dp,b2 _ _ _ _ bO]; exact au,aL⟩
  ·intro bf k' ca bH bR;by_cases bO:bf=b
   ·subst bO;refine⟨?_,bR⟩;simp only[dp,jj];rw[af,hk] at bH;rw[et]; exact bH
   ·exact⟨by simp only[dp,b2 _ _ _ _ bO]; exact bH,bR⟩
 refine⟨e,rel.tN e.toExt0 b ?_ ?_ ?_ ?_ ?_ rel.kp⟩
 ·intro bf bO ak;simp only[dp,b2 _ _ _ _ bO] at ak ⊢;exact⟨trivial,trivial,fun ca bR=>B8 _ (fun aM=>bO (rel.inj bf b ca m ak kb bR hm aM))⟩
 ·intro ca bR;rw[hm] at bR; cases bR;simp only[dp,jj];exact dN e.toExt0
 ·intro bf lq ko bO ak _ h1 ad aM;rw[hm] at ad; cases ad;simp only[dp,b2 _ _ _ _ bO] at ak;exact bO (rel.inj bf b lq m ak kb h1 hm aM)
 ·intro ca _ bR;rw[hm] at bR; cases bR;exact rel.base b m kb hm
 ·intro bf bH;by_cases bO:bf=b
  ·subst bO;have:=rel.q2 hm;simp only[ew] at bH; omega
  ·simp only[dp,b2 _ _ _ _ bO]; exact rel.fresh bf bH
theorem bV.write {R:Nat->Prop} {B:Nat} {w w' : World} {h:aN} {μ:cu} (rel:bV R B w h μ) {b sz sz' : Nat} {cs cs' : List U} {m:M} {arr arr' : Array Value} {t:TypeId} {fH:Nat × Nat}
  (af:h.f b=.cells sz cs) (hm:μ b=some m) (ay:w.heap[m.r]? = some (.cells arr t fH)) (dt:arr.size=m.T) (lc:fH=(0,0)\/m.T<fH.1)
  (pc:w'.os=w.os) (s8:w'.tape=w.tape) (kJ:w'.output=w.output) (xe:w'.heap.size=w.heap.size)
  (B9:w'.heap[m.r]? = some (.cells arr' t fH)) (B8:∀ k,k≠m.r->w'.heap[k]? = w.heap[k]?) (az:arr'.size=arr.size)
  (ak:cs'.length=sz') (o8:sz<=sz') (dW:m.s+sz'<=m.T)
  (ao:∀ (j:Nat) (c:U),cs'[j]? = some c->∃ v:Value,arr'[m.s+j]? = some v/\v.oneCell'=true/\aO w R h μ c v) (p7:w.drawn<=w'.drawn:=by first | exact Nat.le_refl _ | exact Nat.le_succ _ | assumption) :
  db w h μ w' (h.set b (.cells sz' cs')) μ/\bV R B w' (h.set b (.cells sz' cs')) μ:=by
 have kb:live (h.f b)=true:=by rw[af]; rfl
 have e:db w h μ w' (h.set b (.cells sz' cs')) μ:=by
  refine⟨⟨pc,s8,kJ,Nat.le_of_eq xe.symm,?_,?_,?_,?_,?_,Nat.le_refl _,p7⟩,fun _ _ hm=>hm⟩
  ·intro k hk aD;exact B8 k (fun aM=>aD ⟨b,m,kb,hm,aM.symm⟩)
  ·rintro k ⟨bf,ca,cN,bR,rfl⟩;by_cases bO:bf=b
   ·subst bO; exact .inl ⟨bf,ca,kb,bR,rfl⟩
   ·simp only[dp,ew,b2 _ _ _ _ bO] at cN;exact .inl ⟨bf,ca,cN,bR,rfl⟩
  ·intro bf ail m5 ca bH bR;by_cases bO:bf=b
   ·subst bO;rw[af] at bH; cases bH;by_cases al:sz'=sz
    ·exact .inl ⟨cs',by simp[dp,ew,al],bR⟩
    ·exact .inr (.inr ⟨sz',cs',by simp[dp,ew],by omega⟩)
   ·exact .inl ⟨m5,by simp only[dp,ew,b2 _ _ _ _ bO]; exact bH,bR⟩
  ·rintro bf s0 (bH | ⟨n,m5,bH,aL⟩)
   ·have bO:bf≠b:=fun aM=>by rw[aM,af] at bH; cases bH
    exact .inl (by simp only[dp,ew,b2 _ _ _ _ bO]; exact bH)
   ·by_cases bO:bf=b
    ·subst bO;rw[af] at bH; cases bH;exact .inr ⟨sz',cs',by simp[dp,ew],by omega⟩
    ·exact .inr ⟨n,m5,by simp only[dp,ew,b2 _ _ _ _ bO]; exact bH,aL⟩
  ·intro bf k ca bH bR;have bO:bf≠b:=fun aM=>by rw[aM,af] at bH; cases bH
   exact⟨by simp only[dp,ew,b2 _ _ _ _ bO]; exact bH,bR⟩
 refine⟨e,rel.tN e.toExt0 b ?_ ?_ ?_ ?_ ?_ ?_⟩
 ·intro bf bO cN;simp only[dp,ew,b2 _ _ _ _ bO] at cN ⊢;exact⟨trivial,trivial,fun ca bR=>B8 _ (fun aM=>bO (rel.inj bf b ca m cN kb bR hm aM))⟩
 ·intro ca bR;rw[hm] at bR; cases bR;simp only[dp,ew,jj];refine⟨ak,dW,arr',t,fH,B9,az.trans dt,lc,fun j c ai=>?_⟩;obtain⟨v,h1,ad,aj⟩:=ao j c ai;exact⟨v,h1,ad,aj.ext e⟩
 ·intro bf ca aeJ bO cN _ bR BQ aM;rw[hm] at BQ; cases BQ;simp only[dp,ew,b2 _ _ _ _ bO] at cN;exact bO (rel.inj bf b ca m cN kb bR hm aM)
 ·intro ca _ bR;exact rel.base b ca kb bR
 ·intro bf bH;simp only[dp,ew] at bH ⊢;have bO:bf≠b:=fun aM=>by
   have:=rel.fresh bf bH;rw[aM,af] at this; cases this
  rw[b2 _ _ _ _ bO];exact rel.fresh bf bH
 ·intro bf bH;exact rel.kp bf bH
theorem bV.move {R:Nat->Prop} {B:Nat} {w w' : World} {h:aN} {μ:cu} (rel:bV R B w h μ) {b sz sz' : Nat} {cs cs' : List U} {m:M} {arr:Array Value} {t:TypeId}
  (af:h.f b=.cells sz cs) (hm:μ b=some m)
  (pc:w'.os=w.os) (s8:w'.tape=w.tape) (kJ:w'.output=w.output) (jl:w'.heap=w.heap.push (.cells arr t (0,0)))
  (ak:cs'.length=sz') (o8:sz<sz') (dW:sz'<=arr.size)
  (ao:∀ (j:Nat) (c:U),cs'[j]? = some c->∃ v:Value,arr[j]? = some v/\v.oneCell'=true/\aO w R h μ c v) (p7:w.drawn<=w'.drawn:=by first | exact Nat.le_refl _ | exact Nat.le_succ _ | assumption) :
  db w h μ w' (h.set b (.cells sz' cs')) (bD μ b (some ⟨w.heap.size,0,arr.size⟩))/\bV R B w' (h.set b (.cells sz' cs')) (bD μ b (some ⟨w.heap.size,0,arr.size⟩)) :=by
 have kb:live (h.f b)=true:=by rw[af]; rfl
 have e:db w h μ w' (h.set b (.cells sz' cs')) (bD μ b (some ⟨w.heap.size,0,arr.size⟩)) :=by
  refine⟨⟨pc,s8,kJ,by simp[jl],?_,?_,?_,?_,?_,Nat.le_refl _,p7⟩,?_⟩
  ·intro k hk aD;rw[jl,Array.getElem?_push,if_neg (by omega)]
  ·rintro k ⟨bf,ca,cN,bR,rfl⟩;by_cases bO:bf=b
   ·subst bO; simp at bR; subst bR; exact .inr (Nat.le_refl _)
   ·rw[b2 _ _ _ _ bO] at bR;simp only[dp,ew,b2 _ _ _ _ bO] at cN;exact .inl ⟨bf,ca,cN,bR,rfl⟩
  ·intro bf ail m5 ca bH bR;by_cases bO:bf=b
   ·subst bO;rw[af] at bH; cases bH;exact .inr (.inr ⟨sz',cs',by simp[dp,ew],by omega⟩)
   ·exact .inl ⟨m5,by simp only[dp,ew,b2 _ _ _ _ bO]; exact bH,by rw[b2 _ _ _ _ bO]; exact bR⟩
  ·rintro bf s0 (bH | ⟨n,m5,bH,aL⟩)
   ·have bO:bf≠b:=fun aM=>by rw[aM,af] at bH; cases bH
    exact .inl (by simp only[dp,ew,b2 _ _ _ _ bO]; exact bH)
   ·by_cases bO:bf=b
    ·subst bO;rw[af] at bH; cases bH;exact .inr ⟨sz',cs',by simp[dp,ew],by omega⟩
    ·exact .inr ⟨n,m5,by simp only[dp,ew,b2 _ _ _ _ bO]; exact bH,aL⟩
  ·intro bf k ca bH bR;have bO:bf≠b:=fun aM=>by rw[aM,af] at bH; cases bH
   exact⟨by simp only[dp,ew,b2 _ _ _ _ bO]; exact bH,by rw[b2 _ _ _ _ bO]; exact bR⟩
  ·intro bf _ bR;have bO:bf≠b:=fun aM=>by rw[aM,hm] at bR; cases bR
   rw[b2 _ _ _ _ bO]; exact bR
 refine⟨e,rel.tN e.toExt0 b ?_ ?_ ?_ ?_ ?_ ?_⟩
 ·intro bf bO cN;simp only[dp,ew,b2 _ _ _ _ bO] at cN ⊢;exact⟨trivial,trivial,fun ca bR=>by rw[jl,Array.getElem?_push,if_neg (by have:=rel.lt cN bR; omega)]⟩
 ·intro ca bR;simp at bR; subst bR;simp only[dp,ew,jj];refine⟨ak,by simpa using dW,arr,t,(0,0),by simp[jl],rfl,.inl rfl,fun j c ai=>?_⟩;obtain⟨v,h1,ad,aj⟩:=ao j c ai;exact⟨v,by simpa using h1,ad,aj.ext e⟩
 ·intro bf ca aeJ bO cN _ bR BQ;simp only[dp,ew,b2 _ _ _ _ bO] at cN;simp at BQ; subst BQ;have:=rel.lt cN bR;simp only[ne_eq]; omega
 ·intro ca _ bR;simp at bR; subst bR;exact rel.size
 ·intro bf bH;simp only[dp,ew] at bH ⊢;have bO:bf≠b:=fun aM=>by
   have:=rel.fresh bf bH;rw[aM,af] at this; cases this
  rw[b2 _ _ _ _ bO];exact rel.fresh bf bH
 ·intro bf bH;simp only[dp,ew] at bH;have bO:bf≠b:=fun aM=>by
   have:=rel.q2 hm;omega
  rw[b2 _ _ _ _ bO];exact rel.kp bf bH
section
variable {P:Program} {w:World} {R:Nat->Prop} {B:Nat} {h:aN} {μ:cu}
def Good (R:Nat->Prop) (B:Nat) (w:World) (h:aN) (μ:cu) (r:Result Next) (c:U) (h' : aN) :Prop:=
 ∃ v w' μ',(r=.ok (.value v) w'\/(r=.ok .skip w'/\v=undef))/\db w h μ w' h' μ'/\bV R B w' h' μ'/\aO w' R h' μ' c v
theorem Good.pure (rel:bV R B w h μ) {r:Result Next} {c:U} {v:Value} (ay:r=.ok (.value v) w) (ao:aO w R h μ c v) :Good R B w h μ r c h:=
 ⟨v,w,μ,.inl ay,.refl _ _ _,rel,ao⟩
theorem ce {t:TypeId} {d:TypeDesc} (br:P.underlying t=some d) :(underlying t).run P w=.ok d w:=by
 simp[underlying,br]
theorem Gx {t:TypeId} {b:Bool} (af:dE P t=some b) :(isAgg t).run P w=.ok b w:=by
 unfold dE at af;cases br:P.underlying t with
 | none=>rw[br] at af; cases af
 | some d=>
  rw[br] at af;simp only[Option.map_some,Option.some.injEq] at af;unfold isAgg;simp only[Sem.run_bind,ce br,Result.andThen_ok];cases d<;>simp_all
theorem adw {t:TypeId} {n:Nat} (aD:cf P t=some n) :∃ i,P.info? t=some i/\i.size=n:=by
 unfold cf at aD;cases ax:P.info? t with
 | none=>rw[ax] at aD; cases aD
 | some i=>rw[ax] at aD; exact⟨i,rfl,by simpa using aD⟩
theorem fp {t:TypeId} {n:Nat} (aD:cf P t=some n) :(sizeOf t).run P w=.ok n w:=by
 obtain⟨i,ax,al⟩:=adw aD;simp[sizeOf,typeInfo,ax,al]
theorem ajO {t:TypeId} {z:List U} (av:g9 P t=some z) :∃ i v,P.info? t=some i/\i.zero=some v/\v.cells.toList.all Value.oneCell'=true/\z=v.cells.toList.map om:=by
 unfold g9 at av;cases ax:P.info? t with
 | none=>rw[ax] at av; cases av
 | some i=>
  rw[ax] at av;simp only[Option.bind_some] at av;cases ao:i.zero with
  | none=>rw[ao] at av; cases av
  | some v=>
   rw[ao] at av;simp only[Option.bind_some] at av;split at av
   ·rename_i h1;exact⟨i,v,rfl,ao,h1,by simpa using av.symm⟩
   ·cases av
theorem UW {t:TypeId} {i:TypeInfo} {v:Value} (ax:P.info? t=some i) (ao:i.zero=some v) :(zeroValue t).run P w=.ok v w:=by
 simp[zeroValue,typeInfo,ax,ao]
theorem aO.om (v:Value) :aO w R h μ (om v) v:=by
 cases v with
 | bool b=>exact .bool _
 | int k n=>exact .int _ _
 | string s=>exact .str _
 | pointer a=>cases a<;>first | exact .iN | exact .bad _
 | slice a l c=>
  simp only[bJ.om];split
  ·exact .aX
  ·exact .bad _
 | map r=>cases r<;>first | exact .hh | exact .bad _
 | nilFunc=>exact .iL
 | nilIface=>exact .iM
 | func fn first fu=>
  simp only[bJ.om];split
  ·rename_i f h1 ad;have aR:first=#[] :=by simpa using h1
   have bI:fu=#[] :=by simpa using ad
   subst aR bI;exact .fn _ [] [] #[] #[] rfl rfl (fun _ _ _ aM=>by simp at aM) (fun _ _ _ aM=>by simp at aM)
  ·exact .bad _
 | _=>exact .bad _
theorem aO.vq (v:Value) :aO w R h μ (vq v) v:=by
 unfold bJ.vq;split
 ·rename_i cs;split
  ·rename_i cp;refine .aI _ _ (by simp) (fun j v ai=>?_) (fun j c v ah kL=>?_)
   ·rw[List.all_eq_true] at cp;exact cp v (by have:=Array.mem_of_getElem? ai; simpa using this)
   ·rw[List.getElem?_map] at ah;simp only[Array.getElem?_toList,kL,Option.map_some,Option.some.injEq] at ah;subst ah;exact aO.om v
  ·exact .bad _
 ·rename_i vs;refine .bu _ _ (by simp) (fun j c v ah kL=>?_);rw[List.getElem?_map] at ah;simp only[Array.getElem?_toList,kL,Option.map_some,Option.some.injEq] at ah;subst ah;exact aO.om v
 ·exact aO.om v
theorem aO.one {c:U} {v:Value} (ao:aO w R h μ c v) (h1:c.one=true) :v.oneCell'=true:=by
 cases ao<;>first | rfl | (simp[U.one] at h1)
theorem DW {c:U} {v:Value} {cs:List U} (ao:aO w R h μ c v) (ah:c.cells=some cs) :
  v.cells.size=cs.length/\∀ (j:Nat) (x:U),cs[j]? = some x->∃ u:Value,v.cells[j]? = some u/\u.oneCell'=true/\aO w R h μ x u:=by
 have ju:∀ (c:U) (v:Value),aO w R h μ c v->v.cells=#[v]->v.oneCell'=true->∀ cs,cs=[c]->
   v.cells.size=cs.length/\∀ (j:Nat) (x:U),cs[j]? = some x->∃ u:Value,v.cells[j]? = some u/\u.oneCell'=true/\aO w R h μ x u:=by
  intro c v ao jk h1 cs cp;subst cp;rw[jk];refine⟨rfl,fun j x ag=>?_⟩;cases j with
  | zero=>simp at ag; subst ag; exact⟨v,rfl,h1,ao⟩
  | succ j=>simp at ag
 cases ao with
 | aI cs' vs ak h1 ao=>
  simp only[U.cells,Option.some.injEq] at ah; subst ah;refine⟨ak,fun j x ag=>?_⟩;have ai:j<vs.size:=by rw[ak]; exact (List.getElem?_eq_some_iff.1 ag).1
  exact⟨vs[j],by simp[Value.cells,ai],h1 j _ (by simp[ai]),ao j x _ ag (by simp[ai])⟩
 | bu cs' vs ak ao=>simp[U.cells] at ah
 | bad v=>simp[U.cells] at ah
 | bool b=>exact ju _ _ (.bool b) rfl rfl _ (by simpa [U.cells] using ah.symm)
 | int k n=>exact ju _ _ (.int k n) rfl rfl _ (by simpa [U.cells] using ah.symm)
 | str bs=>exact ju _ _ (.str bs) rfl rfl _ (by simpa [U.cells] using ah.symm)
 | iN=>exact ju _ _ .iN rfl rfl _ (by simpa [U.cells] using ah.symm)
 | aX=>exact ju _ _ .aX rfl rfl _ (by simpa [U.cells] using ah.symm)
 | hh=>exact ju _ _ .hh rfl rfl _ (by simpa [U.cells] using ah.symm)
 | iL=>exact ju _ _ .iL rfl rfl _ (by simpa [U.cells] using ah.symm)
 | iM=>exact ju _ _ .iM rfl rfl _ (by simpa [U.cells] using ah.symm)
 | ptr b off sz cs' m af hm=>exact ju _ _ (.ptr b off sz cs' m af hm) rfl rfl _ (by simpa [U.cells] using ah.symm)
 | l2 b off sz a au=>exact ju _ _ (.l2 b off sz a au) rfl rfl _ (by simpa [U.cells] using ah.symm)
 | b5 cs' off blk o dH e8 ao=>exact ju _ _ (.b5 cs' off blk o dH e8 ao) rfl rfl _ (by simpa [U.cells] using ah.symm)
 | ar z b off len cap sz cap' cs' m af hm ak aq e8=>exact ju _ _ (.ar z b off len cap sz cap' cs' m af hm ak aq e8) rfl rfl _ (by simpa [U.cells] using ah.symm)
 | ga z b off len cap sz cap' a ak e8 au=>exact ju _ _ (.ga z b off len cap sz cap' a ak e8 au) rfl rfl _ (by simpa [U.cells] using ah.symm)
 | hl z b off sz a cs' m af hm=>exact ju _ _ (.hl z b off sz a cs' m af hm) rfl rfl _ (by simpa [U.cells] using ah.symm)
 | b0 z es blk off cap dH ak av e8 ao=>exact ju _ _ (.b0 z es blk off cap dH ak av e8 ao) rfl rfl _ (by simpa [U.cells] using ah.symm)
 | fe z a cap=>exact ju _ _ (.fe z a cap) rfl rfl _ (by simpa [U.cells] using ah.symm)
 | fn f Zk yr fs cs' aA e8 h1 ad=>exact ju _ _ (.fn f Zk yr fs cs' aA e8 h1 ad) rfl rfl _ (by simpa [U.cells] using ah.symm)
 | mp b m af hm=>exact ju _ _ (.mp b m af hm) rfl rfl _ (by simpa [U.cells] using ah.symm)
 | it b m af hm=>exact ju _ _ (.it b m af hm) rfl rfl _ (by simpa [U.cells] using ah.symm)
 | fD t c v ao=>exact ju _ _ (.fD t c v ao) rfl rfl _ (by simpa [U.cells] using ah.symm)
 | lD l=>exact ju _ _ (.lD l) rfl rfl _ (by simpa [U.cells] using ah.symm)
theorem Addr.lK (b o n:Nat) :(⟨b,o,none⟩:Addr).add n=⟨b,o+n,none⟩:=by unfold Addr.add; split<;>simp_all
theorem Lw (rel:bV R B w h μ) {p:U} {vv:Value} {cs:List U} {off:Nat} (ay:reach h p=some (cs,off)) (aB:aO w R h μ p vv) :
  ∃ blk o,vv=.pointer (some ⟨blk,o+off,none⟩)/\∀ (j:Nat) (c:U),cs[j]? = some c->∃ v:Value,w.cell? ⟨blk,o+j,none⟩=some v/\v.oneCell'=true/\aO w R h μ c v:=by
 cases aB with
 | ptr b F8 sz cs' m af hm=>
  simp only[reach,af,ite_true,Option.some.injEq,Prod.mk.injEq] at ay;obtain⟨rfl,rfl⟩:=ay;have eG:=rel.blk b m hm;rw[af] at eG;obtain⟨h1,ad,arr,t,fH,aj,aC,aZ,bx⟩:=eG;refine⟨m.r,m.s,rfl,fun j c ai=>?_⟩;obtain⟨v,a7,bl,a3⟩:=bx j c ai;exact⟨v,by simp[World.cell?,aj,a7],bl,a3⟩
 | l2 b F8 sz a au=>
  unfold reach at ay;rcases au with au | ⟨n,cs',au,aL⟩
  ·simp[au] at ay
  ·simp only[au] at ay;split at ay
   ·omega
   ·cases ay
 | b5 cs' F8 blk o dH ah ao=>
  simp only[reach,Option.some.injEq,Prod.mk.injEq] at ay;obtain⟨rfl,rfl⟩:=ay;exact⟨blk,o,rfl,fun j c ai=>⟨dH j,(ah j (List.getElem?_eq_some_iff.1 ai).1).here,(ah j (List.getElem?_eq_some_iff.1 ai).1).one,ao j c ai⟩⟩
 | _=>simp[reach] at ay
theorem ahb {t:TypeId} {cs:List U} {off:Nat} {c:U} (aB:hj P t cs off=some c) {blk o:Nat}
  (ah:∀ (j:Nat) (x:U),cs[j]? = some x->∃ v:Value,w.cell? ⟨blk,o+j,none⟩=some v/\v.oneCell'=true/\aO w R h μ x v) :
  ∃ v,(loadVar t ⟨blk,o+off,none⟩).run P w=.ok v w/\aO w R h μ c v:=by
 unfold hj at aB;cases nW:dE P t with
 | none=>rw[nW] at aB; cases aB
 | some b=>
  rw[nW] at aB;cases b with
  | false=>
   simp only at aB;obtain⟨v,h1,_,aj⟩:=ah off c aB;exact⟨v,by simp[loadVar,Gx nW,h1],aj⟩
  | true=>
   cases aD:cf P t with
   | none=>rw[aD] at aB; cases aB
   | some n=>
    rw[aD] at aB;simp only at aB;split at aB
    ·rename_i eu;simp only[Option.some.injEq] at aB;subst aB;have y2:∀ j,j<n->∃ v,w.cell? ⟨blk,o+(off+j),none⟩=some v/\v.oneCell'=true/\aO w R h μ (cs.getD (off+j) .bad) v:=by
      intro j ai;have aL:off+j<cs.length:=by omega
      have:=ah (off+j) cs[off+j] (by simp[aL]);simpa [List.getD,aL] using this
     have ao:∃ f:Nat->Value,∀ j,j<n->w.cell? ⟨blk,o+(off+j),none⟩=some (f j)/\(f j).oneCell'=true/\aO w R h μ (cs.getD (off+j) .bad) (f j) :=by
      refine⟨fun j=>if ai:j<n then Classical.choose (y2 j ai) else undef,fun j ai=>?_⟩;simp only[ai,dif_pos];exact Classical.choose_spec (y2 j ai)
     obtain⟨f,aA⟩:=ao;have ak:(loadCells ⟨blk,o+off,none⟩ n).run P w=.ok ((List.range n).map f).toArray w:=by
      have:=run_loadCells_list (P:=P) w ⟨blk,o+off,none⟩ ((List.range n).map f) (fun j v ai=>by
       rw[List.getElem?_map] at ai;have jF:j<n:=by
        rcases Nat.lt_or_ge j n with h1 | h1
        ·exact h1
        ·rw[List.getElem?_eq_none (by simpa using h1)] at ai; cases ai
       rw[List.getElem?_range jF] at ai;simp only[Option.map_some,Option.some.injEq] at ai;rw[Addr.lK,<-ai,Nat.add_assoc];exact (aA j jF).1)
      simpa using this
     refine⟨.agg ((List.range n).map f).toArray,by simp[loadVar,Gx nW,fp aD,ak],.aI _ _ (by simp; omega) (fun j v ai=>?_) (fun j c v e8 ai=>?_)⟩
     ·simp only[List.getElem?_toArray,List.getElem?_map] at ai;have jF:j<n:=by
       rcases Nat.lt_or_ge j n with h1 | h1
       ·exact h1
       ·rw[List.getElem?_eq_none (by simpa using h1)] at ai; cases ai
      rw[List.getElem?_range jF] at ai;simp only[Option.map_some,Option.some.injEq] at ai;rw[<-ai]; exact (aA j jF).2.1
     ·simp only[List.getElem?_toArray,List.getElem?_map] at ai;have jF:j<n:=by
       rcases Nat.lt_or_ge j n with h1 | h1
       ·exact h1
       ·rw[List.getElem?_eq_none (by simpa using h1)] at ai; cases ai
      rw[List.getElem?_range jF] at ai;simp only[Option.map_some,Option.some.injEq] at ai;rw[List.getElem?_take_of_lt jF,List.getElem?_drop] at e8;have:=(aA j jF).2.2;rw[List.getD,e8] at this;rw[<-ai]; simpa using this
    ·cases aB
theorem FN (rel:bV R B w h μ) {t:TypeId} {p:U} {vv:Value} {c:U} (ak:rF P h t p=some c) (aB:aO w R h μ p vv) :
  ∃ v,(Instr.loadAt t vv).run P w=.ok v w/\aO w R h μ c v:=by
 unfold rF at ak;cases ay:reach h p with
 | none=>rw[ay] at ak; cases ak
 | some x=>
  obtain⟨cs,off⟩:=x;rw[ay] at ak;obtain⟨blk,o,rfl,ah⟩:=Lw rel ay aB;obtain⟨v,h1,ad⟩:=ahb ak ah;exact⟨v,by simp[Instr.loadAt,Instr.sureAddr,h1],ad⟩
end

section
variable {P:Program} {w:World} {R:Nat->Prop} {B:Nat} {h:aN} {μ:cu}
theorem UV (P:Program) (g o:Nat) (t:TypeId) (fH:Nat × Nat) :∀ (vs:List Value) (i:Nat) (hr:Array Value) (w:World),w.heap[g]? = some (.cells hr t fH)->(fH=(0,0)\/hr.size<=fH.1)->
  o+i+vs.length<=hr.size->(∀ v∈vs,v.oneCell'=true)->
  (storeCells ⟨g,o,none⟩ vs i).run P w=.ok () (w.setRow g (hr.toList.take (o+i)++vs++hr.toList.drop (o+i+vs.length)).toArray)
 | [],i,hr,w,au,_,_,_=>by
  simp only[storeCells,List.append_nil,List.length_nil,Nat.add_zero,List.take_append_drop,Array.toArray_toList];rw[setRow_self w g hr t fH au];rfl
 | v::rest,i,hr,w,au,lc,ak,h1=>by
  have ax:o+i<hr.size:=by simp at ak; omega
  have aaI:(⟨g,o,none⟩:Addr).add i=⟨g,o+i,none⟩:=Addr.lK _ _ _;have lO:w.cell? ⟨g,o+i,none⟩=some hr[o+i] :=by simp[World.cell?,au,ax]
  have abx:w.frozen? ⟨g,o+i,none⟩=false:=by
   obtain⟨cB,fP⟩:=fH;rcases lc with lc | lc
   ·cases lc; simp[World.frozen?,au]
   ·have:¬ cB<=o+i:=by simp at lc; omega
    simp[World.frozen?,au,this]
  have b4:(store ((⟨g,o,none⟩:Addr).add i) v).run P w=.ok () (w.setRow g (hr.setIfInBounds (o+i) v)) :=by
   rw[aaI,run_store P w _ v _ (h1 v (by simp)),lO];simp[abx,setCell_eq_setRow w g (o+i) hr t fH v au]
  have aJ:=UV P g o t fH rest (i+1) (hr.setIfInBounds (o+i) v) (w.setRow g (hr.setIfInBounds (o+i) v)) (setRow_heap w g hr _ t _ au) (by simpa using lc) (by simp at ak ⊢; omega) (fun x ag=>h1 x (by simp[ag]));simp only[storeCells,Sem.run_bind,b4,Result.andThen_ok,aJ,setRow_setRow];congr 3;have:=list_seg_step hr.toList (o+i) v rest (by simp at ak ⊢; omega);simpa [Nat.add_assoc,Nat.add_comm 1] using this
theorem r1 {cs vs:List U} {k:Nat} (hk:k<=cs.length) :(bn cs k vs).length=max cs.length (k+vs.length) :=by
 unfold bn;simp only[List.length_append,List.length_take,List.length_drop];omega
theorem L5 {cs vs:List U} {k j:Nat} (hk:k<=cs.length) :(bn cs k vs)[j]? = if j<k then cs[j]? else if j<k+vs.length then vs[j - k]? else cs[j]?:=by
 unfold bn;rw[List.append_assoc];by_cases h1:j<k
 ·rw[List.getElem?_append_left (by simp; omega),List.getElem?_take_of_lt h1,if_pos h1]
 ·rw[List.getElem?_append_right (by simp; omega),if_neg h1];simp only[List.length_take,Nat.min_eq_left hk];by_cases ad:j<k+vs.length
  ·rw[List.getElem?_append_left (by omega),if_pos ad]
  ·rw[List.getElem?_append_right (by omega),if_neg ad,List.getElem?_drop];congr 1; omega
theorem x4 (rel:bV R B w h μ) {b sz k:Nat} {cs cvs:List U} {m:M} {vs:List Value} (af:h.f b=.cells sz cs) (hm:μ b=some m) (hk:k<=sz)
  (ak:vs.length=cvs.length) (dW:m.s+max sz (k+cvs.length)<=m.T)
  (ao:∀ (j:Nat) (c:U),cvs[j]? = some c->∃ v:Value,vs[j]? = some v/\v.oneCell'=true/\aO w R h μ c v) :
  ∃ w',(storeCells ⟨m.r,m.s+k,none⟩ vs).run P w=.ok () w'/\db w h μ w' (h.set b (.cells (max sz (k+cvs.length)) (bn cs k cvs))) μ ∧
   bV R B w' (h.set b (.cells (max sz (k+cvs.length)) (bn cs k cvs))) μ:=by
 have eG:=rel.blk b m hm;rw[af] at eG;obtain⟨bc,dt,arr,t,fH,ay,az,lc,ah⟩:=eG;have h1:∀ v∈vs,v.oneCell'=true:=by
  intro v kI;obtain⟨j,ai,rfl⟩:=List.getElem_of_mem kI;obtain⟨v,a7,bl,_⟩:=ao j (cvs[j]'(by omega)) (by simp);rw[List.getElem?_eq_getElem ai] at a7;cases a7;exact bl
 have hB:=UV P m.r (m.s+k) t fH vs 0 arr w ay (by rw[az]; exact lc.imp id Nat.le_of_lt) (by omega) h1;simp only[Nat.add_zero] at hB;have pi:(arr.toList.take (m.s+k)++vs++arr.toList.drop (m.s+k+vs.length)).toArray.size=arr.size:=by
  simp only[List.size_toArray,List.length_append,List.length_take,List.length_drop,Array.length_toList];omega
 have di:=rel.write (w':=w.setRow m.r (arr.toList.take (m.s+k)++vs++arr.toList.drop (m.s+k+vs.length)).toArray) (cs':=bn cs k cvs) (sz':=max sz (k+cvs.length)) af hm ay az lc
  rfl rfl rfl (by simp[World.setRow]) (setRow_heap w m.r arr _ t fH ay) (fun k' et=>setRow_other w m.r k' _ et) pi
  (by rw[r1 (by omega),bc]) (by omega) (by omega) (fun j c ai=>?_)
 ·exact⟨_,hB,di.1,di.2⟩
 ·rw[L5 (by omega)] at ai;simp only[List.getElem?_toArray];rw[List.append_assoc];split at ai
  ·rename_i aL;obtain⟨v,a7,bl,a3⟩:=ah j c ai;refine⟨v,?_,bl,a3⟩;rw[List.getElem?_append_left (by simp; omega),List.getElem?_take_of_lt (by omega)];simpa using a7
  ·rename_i y5;split at ai
   ·rename_i aL;obtain⟨v,a7,bl,a3⟩:=ao _ c ai;refine⟨v,?_,bl,a3⟩;have BR:min (m.s+k) arr.size=m.s+k:=by omega
    rw[List.getElem?_append_right (by simp; omega)];simp only[List.length_take,Array.length_toList,BR];rw[List.getElem?_append_left (by omega),<-a7];congr 1; omega
   ·rename_i amu;obtain⟨v,a7,bl,a3⟩:=ah j c ai;refine⟨v,?_,bl,a3⟩;have BR:min (m.s+k) arr.size=m.s+k:=by omega
    rw[List.getElem?_append_right (by simp; omega)];simp only[List.length_take,Array.length_toList,BR];rw[List.getElem?_append_right (by omega),List.getElem?_drop];have:(m.s+k+vs.length+(m.s+j - (m.s+k) - vs.length))=m.s+j:=by omega
    rw[this];simpa using a7
theorem aia (rel:bV R B w h μ) {t:TypeId} {p v:U} {vv oF:Value} {h' : aN} (al:z7 P h t p v=some h') (aB:aO w R h μ p vv) (ao:aO w R h μ v oF) :
  ∃ w',(Instr.storeAt t vv oF).run P w=.ok () w'/\db w h μ w' h' μ/\bV R B w' h' μ:=by
 unfold z7 at al;split at al
 ·rename_i b off sz vs n iB aD;obtain⟨gF,lW⟩:=DW ao iB;cases af:h.f b with
  | cells m cs=>
   rw[af] at al;simp only at al;split at al
   ·rename_i iZ;obtain⟨rfl,bc,dW⟩:=iZ;simp only[Option.some.injEq] at al;subst al;cases aB with
    | ptr bf F8 sz' cs' b3 bH hm=>
     have eG:=rel.blk b b3 hm;rw[af] at eG;have dt:=eG.2.1;obtain⟨w',h1,ad,aj⟩:=x4 (P:=P) rel (cvs:=vs) (vs:=oF.cells.toList) (k:=off) af hm (by omega) (by simpa using gF) (by omega)
      (fun j c ai=>by obtain⟨u,a7,bl,a3⟩:=lW j c ai; exact⟨u,by simpa using a7,bl,a3⟩)
     have lQ:max m (off+vs.length)=m:=by omega
     rw[lQ] at ad aj;refine⟨w',?_,ad,aj⟩;have bY:¬ (oF.cells.size≠n) :=by omega
     simp[Instr.storeAt,Instr.sureAddr,storeVar,fp aD,bY,h1]
    | l2 bf F8 sz' a au=>
     rcases au with au | ⟨gH,cs',au,aL⟩
     ·rw[au] at af; cases af
     ·rw[au] at af; cases af; omega
   ·cases al
  | _=>rw[af] at al; cases al
 ·cases al
theorem DD (rel:bV R B w h μ) {cs:List U} {vs:Array Value} (t:TypeId) (ak:vs.size=cs.length)
  (ao:∀ (j:Nat) (c:U),cs[j]? = some c->∃ v:Value,vs[j]? = some v/\v.oneCell'=true/\aO w R h μ c v) :
  let h':=h.push (.cells cs.length cs)
  let μ':=bD μ h.n (some ⟨w.heap.size,0,vs.size⟩)
  let w':=w.alloc (.cells vs t)
  db w h μ w' h' μ'/\bV R B w' h' μ'/\∀ off,aO w' R h' μ' (.ptr h.n off cs.length) (.pointer (some ⟨w.heap.size,off,none⟩)) :=by
 intro h' μ' w';have:=rel.push (w':=w') cs vs t rfl rfl rfl rfl (by omega) ao;refine⟨this.1,this.2,fun off=>?_⟩;have aB:=aO.ptr (w:=w') (R:=R) (h:=h') (μ:=μ') h.n off cs.length cs ⟨w.heap.size,0,vs.size⟩ (by simp[h',dG,e0]) (by simp[μ']);simpa using aB
theorem V3 {t:TypeId} {z:List U} (av:g9 P t=some z) :∃ i v,P.info? t=some i/\i.zero=some v/\v.cells.size=z.length ∧
  ∀ (j:Nat) (c:U),z[j]? = some c->∃ u:Value,v.cells[j]? = some u/\u.oneCell'=true/\aO w R h μ c u:=by
 obtain⟨i,v,ax,ao,h1,rfl⟩:=ajO av;refine⟨i,v,ax,ao,by simp,fun j c ai=>?_⟩;rw[List.getElem?_map] at ai;cases aK:v.cells[j]? with
 | none=>simp[aK] at ai
 | some u=>
  simp[aK] at ai;subst ai;rw[List.all_eq_true] at h1;exact⟨u,rfl,h1 u (by have:=Array.mem_of_getElem? aK; simpa using this),aO.om u⟩
theorem OS {x:U} {bw:Value} {k:Nat} {c:U} (ah:mo x k=some c) (ag:aO w R h μ x bw) :
  ∃ a,bw=.pointer (some a)/\aO w R h μ c (.pointer (some (a.add k))) :=by
 cases ag with
 | ptr b off sz cs m af hm=>
  simp only[mo,Option.some.injEq] at ah; subst ah;refine⟨_,rfl,?_⟩;rw[Addr.lK,Nat.add_assoc];exact .ptr b _ sz cs m af hm
 | l2 b off sz a au=>
  simp only[mo,Option.some.injEq] at ah; subst ah;exact⟨a,rfl,.l2 _ _ _ _ au⟩
 | b5 cs off blk o dH e8 ao=>
  simp only[mo,Option.some.injEq] at ah; subst ah;refine⟨_,rfl,?_⟩;rw[Addr.lK,Nat.add_assoc];exact .b5 cs _ blk o dH e8 ao
 | _=>simp[mo] at ah
theorem PF {s:TypeId} {f:Nat} {fd:Field} (aA:ws P s f=some fd) :∃ fs,P.underlying s=some (.struct fs)/\fs[f]? = some fd:=by
 unfold ws at aA;split at aA
 ·rename_i fs aK; exact⟨fs,aK,aA⟩
 ·cases aA
theorem Zl {s:TypeId} {x c:U} {bw:Value} {f:Nat} (ah:Ef P s x f=some c) (ag:aO w R h μ x bw) :
  ∃ v,(Instr.fieldAt s bw f).run P w=.ok v w/\aO w R h μ c v:=by
 unfold Ef at ah;split at ah
 ·rename_i fd aA;obtain⟨fs,aK,p8⟩:=PF aA;split at ah
  ·rename_i n aD;obtain⟨a,rfl,ao⟩:=OS ah ag;refine⟨_,?_,ao⟩;simp[Instr.fieldAt,ce aK,p8,Instr.sureAddr,fieldPlace,fp aD]
  ·cases ah
 ·cases ah
theorem q0 {x:U} {bw:Value} {n:Int} (ax:asInt x=some n) (ag:aO w R h μ x bw) :∃ k,bw=.int k n:=by
 cases ag<;>simp[asInt] at ax;subst ax;exact⟨_,rfl⟩
theorem adu {t:TypeId} {x fR c:U} {bw Cl:Value} (ah:Ch P t x fR=some c) (ag:aO w R h μ x bw) (ax:aO w R h μ fR Cl) :
  ∃ v,(Instr.indexAt t bw Cl).run P w=.ok v w/\aO w R h μ c v:=by
 unfold Ch at ah;split at ah
 ·rename_i len e i aK fm;obtain⟨k,rfl⟩:=q0 fm ax;cases av:cf P e with
  | none=>rw[av] at ah; cases ah
  | some z=>
   rw[av] at ah;simp only at ah;split at ah
   ·rename_i af;obtain⟨a,rfl,ao⟩:=OS ah ag;refine⟨_,?_,ao⟩;simp[Instr.indexAt,asIntOf,ce aK,Instr.sureAddr,af,fp av]
   ·cases ah
 ·rename_i e i aK fm;obtain⟨k,rfl⟩:=q0 fm ax;split at ah
  ·rename_i z c5 b off len cap sz av;split at ah
   ·rename_i af;obtain⟨rfl,af⟩:=af;simp only[Option.some.injEq] at ah; subst ah;cases ag with
    | ar _ _ _ _ _ _ cap' cs m bH hm ak aq cF=>
     refine⟨_,?_,aO.ptr b (off+i.toNat*z) sz cs m bH hm⟩;simp[Instr.indexAt,asIntOf,ce aK,af,fp av,Addr.lK,Nat.add_assoc]
    | hl=>simp at af; omega
    | ga _ _ _ _ _ _ cap' a ak cF au=>
     refine⟨_,?_,aO.l2 b _ sz (a.add (i.toNat*z)) au⟩;simp[Instr.indexAt,asIntOf,ce aK,af,fp av]
   ·cases ah
  ·rename_i z c5 es av;split at ah
   ·rename_i af;obtain⟨rfl,af⟩:=af;cases ap:es[i.toNat]? with
    | none=>rw[ap] at ah; cases ah
    | some eY=>
     rw[ap] at ah;simp only[Option.map_some,Option.some.injEq] at ah; subst ah;have aL:i.toNat<es.length:=(List.getElem?_eq_some_iff.1 ap).1;have fl:(0<=i/\i<(es.length:Int)) :=by omega
     cases ag with
     | b0 _ _ blk off cap dH ak uZ lO ao=>
      have abp:eY.length=z:=uZ _ (List.mem_of_getElem? ap);refine⟨_,?_,aO.b5 eY 0 blk (off+i.toNat*z) (dH i.toNat) (fun j ai=>?_) (ao _ _ ap)⟩
      ·simp[Instr.indexAt,asIntOf,ce aK,fl,fp av,Addr.lK]
      ·have:=lO i.toNat j aL (by omega)
       rwa [Nat.add_assoc]
     | fe=>simp at aL
   ·cases ah
  ·cases ah
 ·cases ah
end

end Go.bJ

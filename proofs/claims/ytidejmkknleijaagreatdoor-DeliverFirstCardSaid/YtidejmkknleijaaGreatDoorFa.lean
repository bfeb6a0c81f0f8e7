/-
  The canonical machine, part A: its values, blocks, heap, and what one operation does.
-/
import Derived.WalkKit
import Derived.Below
import Derived.Laws.AppendOwn
import Derived.Laws.CopyRow
import Derived.Laws.IdiomCopy
import Derived.Laws.StructEq
set_option linter.unusedVariables false
set_option linter.unusedSimpArgs false
set_option linter.unnecessarySimpa false
namespace Go.bY
abbrev as0:=@List.getElem?_eq_some_iff
abbrev as1:=@List.take_of_length_le
abbrev as2:=@List.getElem?_append_left
abbrev as3:=@Nat.le_refl
abbrev as4:=@List.getElem?_eq_getElem
abbrev as5:=@List.getElem?_map
abbrev as6:=@Nat.mul_le_mul_right
abbrev as7:=@Bool.and_eq_true
abbrev as8:=@List.length_append
abbrev as9:=@Option.map_some
abbrev ata:=@List.mem_of_getElem?
abbrev atb:=@Nat.mod_eq_of_lt
abbrev atc:=@List.mem_iff_getElem?
abbrev atd:=@List.getElem?_eq_none
abbrev ate:=@List.length_map
abbrev atf:=@List.getD_eq_getElem?_getD
abbrev atg:=@BitVec.eq_of_toNat_eq
abbrev ath:=@BitVec.toNat_setWidth
abbrev ati:=@List.length_take
abbrev atj:=@List.getElem?_set_self
abbrev atk:=@List.length_cons
abbrev atl:=@List.getElem?_append_right
abbrev atm:=@BitVec.toNat_ofNat
abbrev atn:=@List.map_append
abbrev ato:=@List.getElem?_set_ne
abbrev atp:=@List.getElem?_take_of_lt
abbrev atq:=@Array.getD_eq_getD_getElem?
abbrev atr:=@List.map_cons
abbrev ats:=@List.getElem?_cons_zero
abbrev att:=@Array.getElem?_eq_some_iff
abbrev atu:=@List.take_add_one
abbrev atv:=@Nat.shiftRight_eq_div_pow
abbrev atw:=@List.mem_of_mem_take
abbrev atx:=@List.mem_map
abbrev aty:=@List.take_length
abbrev atz:=@Nat.eq_of_beq_eq_true
abbrev atA:=@List.mem_range
abbrev atB:=@List.append_nil
abbrev atC:=@List.getElem?_range
abbrev atD:=@Int.toNat_natCast
abbrev atE:=@List.drop_eq_nil_of_le
abbrev atF:=@List.length_nil
abbrev atG:=@List.take_append_of_le_length
abbrev atH:=@List.getElem?_drop
abbrev atI:=@List.length_eq_zero_iff
abbrev atJ:=@List.getElem?_cons_succ
abbrev atK:=@List.append_assoc
abbrev atL:=@Nat.succ_mul
abbrev atM:=@Option.getD_some
abbrev atN:=@List.all_eq_true
abbrev atO:=@List.ext_getElem?
abbrev atP:=@List.replicate_succ
abbrev atQ:=@Nat.add_mul
abbrev atR:=@Nat.le_trans
abbrev atS:=@BitVec.toNat_ushiftRight
abbrev atT:=@List.flatten_append
abbrev atU:=@List.mem_append
abbrev atV:=@List.cons_append
abbrev atW:=@List.flatten_cons
abbrev atX:=@List.mem_singleton
abbrev atY:=@List.drop_append_of_le_length
abbrev atZ:=@List.drop_eq_getElem_cons
abbrev at0:=@List.mem_cons
abbrev at1:=@List.nil_append
abbrev at2:=@Nat.le_of_ble_eq_true
abbrev at3:=@List.take_append_drop
abbrev at4:=@Int.eq_ofNat_of_zero_le
abbrev at5:=@Array.getElem?_eq_getElem
abbrev at6:=@List.mem_filter
abbrev at7:=@List.length_drop
abbrev at8:=@List.set_append_right
abbrev at9:=@List.getElem?_set
abbrev aua:=@Array.getElem?_append_left
abbrev aub:=@Nat.lt_or_ge
abbrev auc:=@Nat.zero_le
abbrev aud:=@BitVec.toNat_umod
abbrev aue:=@Nat.zero_add
abbrev auf:=@List.drop_zero
abbrev aug:=@Array.getElem?_setIfInBounds
abbrev auh:=@Bool.false_eq_true
abbrev aui:=@List.take_zero
abbrev auj:=@Nat.lt_trichotomy
abbrev auk:=@Array.getElem?_toList
abbrev aul:=@List.length_filter_le
abbrev aum:=@List.eq_of_mem_replicate
abbrev aun:=@BitVec.toNat_udiv
abbrev auo:=@Array.getElem?_append_right
abbrev aup:=@List.map_congr_left
abbrev auq:=@List.map_nil
abbrev aur:=@List.set_eq_take_append_cons_drop
abbrev aus:=@Bool.true_and
abbrev aut:=@Nat.shiftLeft_eq
abbrev auu:=@List.mapM_cons
abbrev auv:=@List.filter_append
abbrev auw:=@List.getElem?_zip_eq_some
abbrev aux:=@Nat.mul_one
abbrev auy:=@Nat.min_eq_left
abbrev auz:=@BitVec.ofInt_natCast
abbrev auA:=@Nat.add_assoc
abbrev auB:=@Nat.lt_of_lt_of_le
abbrev auC:=@Nat.le_of_lt
abbrev auD:=@Option.pure_def
abbrev auE:=@Bool.not_eq_true'
abbrev auF:=@Bool.eq_false_iff
abbrev auG:=@List.getElem?_of_mem
abbrev auH:=@List.take_take
abbrev auI:=@Option.bind_some
abbrev auJ:=@List.map_map
abbrev auK:=@List.take_append
abbrev auL:=@BitVec.toNat_mul
abbrev auM:=@List.any_eq_true
abbrev auN:=@Array.length_toList
abbrev auO:=@Bool.and_self
abbrev auP:=@List.sum_cons
abbrev auQ:=@Bool.or_eq_true
abbrev auR:=@List.set_cons_zero
abbrev auS:=@Nat.mod_lt
abbrev auT:=@List.range_succ
abbrev auU:=@Array.getElem?_eq_none
abbrev auV:=@BitVec.toNat_shiftLeft
abbrev auW:=@List.drop_of_length_le
abbrev auX:=@List.count_append
abbrev auY:=@List.pairwise_map
abbrev auZ:=@Nat.sub_self
abbrev au0:=@List.getElem?_concat_length
abbrev au1:=@List.mem_of_mem_drop
abbrev au2:=@Nat.le_of_not_lt
abbrev au3:=@Bool.not_eq_true
abbrev au4:=@List.count_singleton
abbrev au5:=@List.map_eq_nil_iff
abbrev au6:=@List.mem_map_of_mem
abbrev au7:=@List.takeWhile_cons
abbrev au8:=@List.getElem?_eq_none_iff
abbrev au9:=@List.pairwise_iff_getElem
abbrev ava:=@List.mem_or_eq_of_mem_set
abbrev avb:=@Nat.zero_mul
abbrev avc:=@Array.append_assoc
abbrev avd:=@Option.isSome_none
abbrev ave:=@Nat.add_zero
abbrev avf:=@Array.getElem?_map
abbrev avg:=@Array.getElem?_replicate
abbrev avh:=@Nat.sub_zero
abbrev avi:=@List.find?_range_eq_some
abbrev avj:=@List.map_replicate
abbrev avk:=@List.drop_take
abbrev avl:=@Bool.false_and
abbrev avm:=@List.foldl_append
abbrev avn:=@Nat.one_mul
abbrev avo:=@Nat.mul_mod
abbrev avp:=@List.map_take
abbrev avq:=@BitVec.toNat_and
abbrev avr:=@Array.getElem?_setIfInBounds_ne
abbrev avs:=@Nat.beq_refl
abbrev avt:=@Array.eq_empty_of_size_eq_zero
abbrev avu:=@List.find?_cons
abbrev avv:=@List.mem_cons_of_mem
abbrev avw:=@Nat.and_two_pow_sub_one_eq_mod
abbrev avx:=@Bool.eq_iff_iff
abbrev avy:=@List.pairwise_append
abbrev avz:=@Bool.or_eq_false_iff
abbrev avA:=@Nat.shiftLeft_add_eq_or_of_lt
abbrev avB:=@List.flatMap_append
abbrev avC:=@List.drop_drop
abbrev avD:=@Nat.pow_add
abbrev avE:=@Nat.pow_mod
abbrev avF:=@Nat.eq_or_lt_of_le
abbrev avG:=@List.mem_cons_self
abbrev avH:=@List.set_cons_succ
abbrev avI:=@Bool.true_eq_false
abbrev avJ:=@List.pairwise_cons
abbrev avK:=@Array.size_append
abbrev avL:=@List.size_toArray
abbrev avM:=@List.take_sublist
abbrev avN:=@List.mem_of_find?_eq_some
abbrev avO:=@Option.isNone_iff_eq_none
abbrev avP:=@Option.isSome_iff_exists
abbrev avQ:=@Nat.mul_comm
abbrev avR:=@Nat.max_eq_right
abbrev avS:=@BitVec.toNat_add
abbrev avT:=@Nat.div_eq_of_lt
abbrev avU:=@BitVec.toNat_not
abbrev avV:=@List.nodup_range
abbrev avW:=@List.find?_range_eq_none
abbrev avX:=@List.getElem?_replicate
abbrev avY:=@List.pairwise_singleton
abbrev avZ:=@List.foldl_cons
abbrev av0:=@Nat.max_eq_left
abbrev av1:=@List.nodup_cons
abbrev av2:=@Nat.min_def
abbrev av3:=@Nat.blt_eq
abbrev av4:=@List.all_cons
open Go
inductive U where
 | bool (b:Bool)
 | int (k:IntKind) (n:Int)
 | str (s:List UInt8)
 | kk | aH | iI | ki | kj
 | aG (cs:List U)
 | bv (vs:List U)
 | ptr (b off sz:Nat)
 | bK (cs:List U) (off:Nat)
 | aq (z b off len cap sz:Nat)
 | aX (z:Nat) (es:List (List U))
 | fn (f:FuncId) (first gn:List U)
 | mp (b:Nat)
 | it (b:Nat)
 | hq (t:TypeId) (v:U)
 | hj (l:Nat)
 | bad
 deriving Inhabited
inductive aY where
 | none
 | dead
 | cells (sz:Nat) (cs:List U)
 | map (es:List (U × U × Nat)) (an0:Nat)
 | iter (s:List UInt8) (pos:Nat)
 deriving Inhabited
inductive cy (α:Type) where
 | nil
 | node (l:cy α) (v:Option α) (r:cy α)
def cy.get {α:Type}:cy α->Nat->Option α
 | .nil,_=>none
 | .node l v r,n=>match Nat.beq n 0 with
  | true=>v
  | false=>match Nat.beq (n % 2) 1 with
   | true=>l.get (n / 2)
   | false=>r.get (n / 2 - 1)
def cy.kR {α:Type}:Nat->cy α->Nat->α->cy α
 | 0,t,_,_=>t
 | k+1,.nil,n,x=>match Nat.beq n 0 with
  | true=>.node .nil (some x) .nil
  | false=>match Nat.beq (n % 2) 1 with
   | true=>.node (cy.kR k .nil (n / 2) x) none .nil
   | false=>.node .nil none (cy.kR k .nil (n / 2 - 1) x)
 | k+1,.node l v r,n,x=>match Nat.beq n 0 with
  | true=>.node l (some x) r
  | false=>match Nat.beq (n % 2) 1 with
   | true=>.node (cy.kR k l (n / 2) x) v r
   | false=>.node l v (cy.kR k r (n / 2 - 1) x)
def cy.set {α:Type} (t:cy α) (n:Nat) (x:α) :cy α:=t.kR (n+1) n x
theorem jT {a b:Nat} (h:¬ a=b) :Nat.beq a b=false:=by
 cases af:Nat.beq a b with
 | false=>rfl
 | true=>exact absurd (atz af) h
theorem sB {a b:Nat} (h:a=b) :Nat.beq a b=true:=by subst h; exact avs a
theorem cy.Ck {α:Type}:∀ (k:Nat) (t:cy α) (n:Nat) (x:α) (m:Nat),n<k->(t.kR k n x).get m=if m=n then some x else t.get m
 | 0,_,_,_,_,h=>by omega
 | k+1,.nil,n,x,m,h=>by
  unfold cy.kR;by_cases aI:n=0
  ·subst aI;simp only;unfold cy.get;by_cases hm:m=0
   ·subst hm; simp
   ·have:Nat.beq m 0=false:=jT hm;simp only[this,if_neg hm];split<;>rfl
  ·have af:Nat.beq n 0=false:=jT aI;simp only[af];by_cases ad:n % 2=1
   ·have gd:Nat.beq (n % 2) 1=true:=sB ad;simp only[gd];unfold cy.get;by_cases hm:m=0
    ·subst hm; simp; omega
    ·have:Nat.beq m 0=false:=jT hm;simp only[this];by_cases hW:m % 2=1
     ·have:Nat.beq (m % 2) 1=true:=sB hW;simp only[this];rw[cy.Ck k .nil (n / 2) x (m / 2) (by omega)];by_cases am:m=n
      ·subst am; simp
      ·rw[if_neg am,if_neg (by omega)]; rfl
     ·have:Nat.beq (m % 2) 1=false:=jT hW;simp only[this];rw[if_neg (by intro aR; subst aR; exact hW ad)];rfl
   ·have gd:Nat.beq (n % 2) 1=false:=jT ad;simp only[gd];unfold cy.get;by_cases hm:m=0
    ·subst hm; simp; omega
    ·have:Nat.beq m 0=false:=jT hm;simp only[this];by_cases hW:m % 2=1
     ·have:Nat.beq (m % 2) 1=true:=sB hW;simp only[this];rw[if_neg (by intro aR; subst aR; exact ad hW)];rfl
     ·have:Nat.beq (m % 2) 1=false:=jT hW;simp only[this];rw[cy.Ck k .nil (n / 2 - 1) x (m / 2 - 1) (by omega)];by_cases am:m=n
      ·subst am; simp
      ·rw[if_neg am,if_neg (by omega)]; rfl
 | k+1,.node l v r,n,x,m,h=>by
  unfold cy.kR;by_cases aI:n=0
  ·subst aI;simp only;unfold cy.get;by_cases hm:m=0
   ·subst hm; simp
   ·have:Nat.beq m 0=false:=jT hm;simp only[this,if_neg hm]
  ·have af:Nat.beq n 0=false:=jT aI;simp only[af];by_cases ad:n % 2=1
   ·have gd:Nat.beq (n % 2) 1=true:=sB ad;simp only[gd];unfold cy.get;by_cases hm:m=0
    ·subst hm; simp; omega
    ·have:Nat.beq m 0=false:=jT hm;simp only[this];by_cases hW:m % 2=1
     ·have:Nat.beq (m % 2) 1=true:=sB hW;simp only[this];rw[cy.Ck k l (n / 2) x (m / 2) (by omega)];by_cases am:m=n
      ·subst am; simp
      ·rw[if_neg am,if_neg (by omega)]
     ·have:Nat.beq (m % 2) 1=false:=jT hW;simp only[this];rw[if_neg (by intro aR; subst aR; exact hW ad)]
   ·have gd:Nat.beq (n % 2) 1=false:=jT ad;simp only[gd];unfold cy.get;by_cases hm:m=0
    ·subst hm; simp; omega
    ·have:Nat.beq m 0=false:=jT hm;simp only[this];by_cases hW:m % 2=1
     ·have:Nat.beq (m % 2) 1=true:=sB hW;simp only[this];rw[if_neg (by intro aR; subst aR; exact ad hW)]
     ·have:Nat.beq (m % 2) 1=false:=jT hW;simp only[this];rw[cy.Ck k r (n / 2 - 1) x (m / 2 - 1) (by omega)];by_cases am:m=n
      ·subst am; simp
      ·rw[if_neg am,if_neg (by omega)]
theorem cy.FJ {α:Type} (t:cy α) (n:Nat) (x:α) (m:Nat) :(t.set n x).get m=if m=n then some x else t.get m:=cy.Ck _ _ _ _ _ (by omega)
structure aM where
 n:Nat
 t:cy aY
def aM.f (h:aM) (b:Nat) :aY:=match h.t.get b with | some c=>c | none=>.none
def aM.empty:aM:=⟨0,.nil⟩
def bw {α:Type} (f:Nat->α) (i:Nat) (v:α) :Nat->α:=fun j=>if j=i then v else f j
def aM.push (h:aM) (c:aY) :aM:=⟨h.n+1,h.t.set h.n c⟩
def aM.set (h:aM) (b:Nat) (c:aY) :aM:=⟨h.n,h.t.set b c⟩
theorem ft (h:aM) (c:aY) :(h.push c).n=h.n+1:=rfl
theorem eS (h:aM) (b:Nat) (c:aY) :(h.set b c).n=h.n:=rfl
theorem eb (h:aM) (c:aY) :(h.push c).f=bw h.f h.n c:=by
 funext b;simp only[aM.f,aM.push,bw,cy.FJ];by_cases af:b=h.n
 ·simp[af]
 ·simp[af]
theorem dM (h:aM) (b:Nat) (c:aY) :(h.set b c).f=bw h.f b c:=by
 funext bc;simp only[aM.f,aM.set,bw,cy.FJ];by_cases af:bc=b
 ·simp[af]
 ·simp[af]
theorem FB (b:Nat) :aM.empty.f b=.none:=rfl
@[simp] theorem hB {α:Type} (f:Nat->α) (i:Nat) (v:α) :bw f i v i=v:=by simp[bw]
theorem b1 {α:Type} (f:Nat->α) (i j:Nat) (v:α) (h:j≠i) :bw f i v j=f j:=by simp[bw,h]
def U.one:U->Bool
 | .aG _ | .bv _ | .bad=>false
 | _=>true
def U.cells:U->Option (List U)
 | .aG cs=>some cs
 | .bv _ | .bad=>none
 | v=>some [v]
def o2:Value->U
 | .bool b=>.bool b
 | .int k n=>.int k n
 | .string s=>.str s.data.toList
 | .pointer a=>match a with | none=>.kk | some _=>.bad
 | .slice a l c=>match a,l,c with | none,0,0=>.aH | _,_,_=>.bad
 | .map r=>match r with | none=>.iI | some _=>.bad
 | .nilFunc=>.ki
 | .nilIface=>.kj
 | .func fn first gn=>match fn,first.toList,gn.toList with | .func f,[],[]=>.fn f [] [] | _,_,_=>.bad
 | _=>.bad
def we:Value->U
 | .agg cs=>if cs.toList.all Value.oneCell' then .aG (cs.toList.map o2) else .bad
 | .tuple vs=>.bv (vs.toList.map o2)
 | v=>o2 v
def cS (G:Nat->U) (σ:Nat->U) :Operand->U
 | .tmp t=>σ t
 | .const v=>we v
 | .func f=>.fn f [] []
 | .global g=>G g
def eo (P:Program) (t:TypeId) :Option Bool:=(P.underlying t).map fun d=>match d with | .struct _ | .array _ _=>true | _=>false
def cu (P:Program) (t:TypeId) :Option Nat:=(P.info? t).map (·.size)
def kv (P:Program) (t:TypeId) :Option Nat:=(P.info? t).map (·.bytes)
def hY (P:Program) (t:TypeId) :Option (List U) :=((P.info? t).bind (·.zero)).bind fun v=>if v.cells.toList.all Value.oneCell' then some (v.cells.toList.map o2) else none
def iT (P:Program) (t:TypeId) :Option TypeId:=match P.underlying t with | some (.slice e)=>some e | _=>none
def ic (P:Program) (t:TypeId) (cs:List U) (off:Nat) :Option U:=
 match eo P t,cu P t with
 | some true,some n=>if off+n<=cs.length then some (.aG ((cs.drop off).take n)) else none
 | some false,_=>cs[off]?
 | _,_=>none
def reach (h:aM) :U->Option (List U × Nat)
 | .ptr b off sz=>match h.f b with
  | .cells n cs=>if n=sz then some (cs,off) else none
  | _=>none
 | .bK cs off=>some (cs,off)
 | _=>none
def sy (P:Program) (h:aM) (t:TypeId) (p:U) :Option U:=
 match reach h p with
 | some (cs,off)=>ic P t cs off
 | none=>none
def bg (cs:List U) (off:Nat) (vs:List U) :List U:=cs.take off++vs++cs.drop (off+vs.length)
def wE (P:Program) (h:aM) (t:TypeId) (p v:U) :Option aM:=
 match p,v.cells,cu P t with
 | .ptr b off sz,some vs,some n=>match h.f b with
  | .cells m cs=>if m=sz/\vs.length=n/\off+n<=m then some (h.set b (.cells m (bg cs off vs))) else none
  | _=>none
 | _,_,_=>none
def asInt:U->Option Int
 | .int _ n=>some n
 | _=>none
def xr (P:Program) (s:TypeId) (f:Nat) :Option Field:=match P.underlying s with | some (.struct fs)=>fs[f]? | _=>none
def m7:U->Nat->Option U
 | .ptr b off sz,k=>some (.ptr b (off+k) sz)
 | .bK cs off,k=>some (.bK cs (off+k))
 | _,_=>none
def FF (P:Program) (s:TypeId) (x:U) (f:Nat) :Option U:=
 match xr P s f with
 | some fd=>match cu P fd.type with
  | some (_+1)=>m7 x fd.offset
  | _=>none
 | none=>none
def Dx (P:Program) (t:TypeId) (x eP:U) :Option U:=
 match P.underlying t,asInt eP with
 | some (.array len e),some i=>match cu P e with
  | some z=>if 0<=i/\i<len then m7 x (i.toNat*z) else none
  | none=>none
 | some (.slice e),some i=>match cu P e,x with
  | some z,.aq du b off len _ sz=>if z=du/\0<=i/\i<len then some (.ptr b (off+i.toNat*z) sz) else none
  | some z,.aX du es=>if z=du/\0<=i then (es[i.toNat]?).map fun cs=>.bK cs 0 else none
  | _,_=>none
 | _,_=>none
def hQ (lh:Nat->Option (Nat × Nat)) (cells:List U) :List (Nat × U)->Option (List U)
 | []=>some cells
 | (i,v) ::rest=>match lh i,v.cells with
  | some (off,size),some vs=>if vs.length=size/\off+size<=cells.length then hQ lh (bg cells off vs) rest else none
  | _,_=>none
def Ee (P:Program) (fs:Array Field) (i:Nat) :Option (Nat × Nat) :=(fs[i]?).bind fun f=>(cu P f.type).map fun n=>(f.offset,n)
def BH (P:Program) (t:TypeId) (parts:List (Nat × U)) :Option U:=
 match hY P t,P.underlying t with
 | some zero,some (.struct fs)=>if !(fs.toList.all fun f=>(cu P f.type).isSome) then none else (hQ (Ee P fs) zero parts).map .aG
 | some zero,some (.array _ e)=>match cu P e with
  | some n=>(hQ (fun i=>some (i*n,n)) zero parts).map .aG
  | none=>none
 | _,_=>none
def dx (zero:List U) :Nat->List U
 | 0=>[]
 | n+1=>zero++dx zero n
def Fi (P:Program) (h:aM) (t:TypeId) (len:Nat) (parts:List (Nat × U)) :Option (U × aM) :=
 match iT P t with
 | some e=>match cu P e,hY P e with
  | some z,some zero=>if zero.length=z/\len*z<=16777216 then
    (hQ (fun i=>some (i*z,z)) (dx zero len) parts).map fun cs=>(.aq z h.n 0 len len (len*z),h.push (.cells (len*z) cs))
   else none
  | _,_=>none
 | none=>none
def cm (op:BinOp) (k:IntKind) (a:Int) (k' : IntKind) (b:Int) :Option U:=
 match op with
 | .shl=>if b<0 then none else some (.int k (k.wrap (a*2 ^ min b.toNat k.bits)))
 | .shr=>if b<0 then none else some (.int k (a.fdiv (2 ^ min b.toNat k.bits)))
 | .add=>if k=k' then some (.int k (k.wrap (a+b))) else none
 | .sub=>if k=k' then some (.int k (k.wrap (a - b))) else none
 | .mul=>if k=k' then some (.int k (k.wrap (a*b))) else none
 | .quo=>if k=k'/\b≠0 then some (.int k (k.wrap (a.tdiv b))) else none
 | .rem=>if k=k'/\b≠0 then some (.int k (a.tmod b)) else none
 | .and=>if k=k' then some (.int k (k.wrap (BitVec.ofInt k.bits a &&& BitVec.ofInt k.bits b).toNat)) else none
 | .or=>if k=k' then some (.int k (k.wrap (BitVec.ofInt k.bits a ||| BitVec.ofInt k.bits b).toNat)) else none
 | .xor=>if k=k' then some (.int k (k.wrap (BitVec.ofInt k.bits a ^^^ BitVec.ofInt k.bits b).toNat)) else none
 | .andNot=>if k=k' then some (.int k (k.wrap (BitVec.ofInt k.bits a &&& ~~~BitVec.ofInt k.bits b).toNat)) else none
 | .eql=>if k=k' then some (.bool (a == b)) else none
 | .neq=>if k=k' then some (.bool (a != b)) else none
 | .lss=>if k=k' then some (.bool (decide (a<b))) else none
 | .leq=>if k=k' then some (.bool (decide (a<=b))) else none
 | .gtr=>if k=k' then some (.bool (decide (a > b))) else none
 | .geq=>if k=k' then some (.bool (decide (a ≥ b))) else none
def uY (op:BinOp) (a b:List UInt8) :Option U:=
 match op with
 | .eql=>some (.bool (a == b))
 | .neq=>some (.bool (!(a == b)))
 | .lss=>some (.bool (Op.bytesLess a b))
 | .leq=>some (.bool (Op.bytesLess a b||a == b))
 | .gtr=>some (.bool (!(Op.bytesLess a b||a == b)))
 | .geq=>some (.bool (!Op.bytesLess a b))
 | .add=>if a.length+b.length<=9223372036854775807 then some (.str (a++b)) else none
 | _=>none
def eC (P:Program) :Nat->TypeId->U->U->Option Bool
 | 0,_,_,_=>none
 | d+1,t,x,y=>
  match P.underlying t,x,y with
  | some .bool,.bool a,.bool b=>some (a == b)
  | some (.int _),.int k a,.int k' b=>if k=k' then some (a == b) else none
  | some .string,.str a,.str b=>some (a == b)
  | some (.struct fs),.aG xs,.aG bQ=>if P.stoodInHeld t then none else eqFields P (eC P d) xs bQ fs.toList
  | some (.array n e),.aG xs,.aG bQ=>match cu P e with
   | some z=>r1 P (eC P d) e z xs bQ n 0
   | none=>none
  | some (.slice _),.aH,.aH=>some true
  | some (.slice _),.aH,.aq .. | some (.slice _),.aH,.aX .. | some (.slice _),.aq ..,.aH | some (.slice _),.aX ..,.aH=>some false
  | _,_,_=>none
where
 eqFields (P:Program) (eq:TypeId->U->U->Option Bool) (xs bQ:List U) :List Field->Option Bool
  | []=>some true
  | f::fs=>if f.name= "_" then eqFields P eq xs bQ fs else
   match ic P f.type xs f.offset,ic P f.type bQ f.offset with
   | some a,some b=>match eq f.type a b with
    | some true=>eqFields P eq xs bQ fs
    | some false=>some false
    | none=>none
   | _,_=>none
 r1 (P:Program) (eq:TypeId->U->U->Option Bool) (e:TypeId) (z:Nat) (xs bQ:List U) :Nat->Nat->Option Bool
  | 0,_=>some true
  | n+1,i=>match ic P e xs (i*z),ic P e bQ (i*z) with
   | some a,some b=>match eq e a b with
    | some true=>r1 P eq e z xs bQ n (i+1)
    | some false=>some false
    | none=>none
   | _,_=>none
def xp (P:Program) (t:TypeId) :U->U->Bool
 | .aG _,.aG _=>!P.eqGuardType P.depth t
 | _,_=>true
def gD (P:Program) (op:BinOp) (t:TypeId) (x y:U) :Option U:=
 match x,y with
 | .int k a,.int k' b=>cm op k a k' b
 | .str a,.str b=>uY op a b
 | x,y=>match op with
  | .eql=>if xp P t x y then (eC P 10000 t x y).map .bool else none
  | .neq=>if xp P t x y then (eC P 10000 t x y).map fun b=>.bool (!b) else none
  | _=>none
def qk (op:UnOp) (x:U) :Option U:=
 match op,x with
 | .not,.bool b=>some (.bool (!b))
 | .neg,.int k n=>some (.int k (k.wrap (0 - n)))
 | .xor,.int k n=>some (.int k (k.wrap (BitVec.ofInt k.bits (if k.signed then -1 else k.max) ^^^ BitVec.ofInt k.bits n).toNat))
 | _,_=>none
def l2 (z:Nat) :Nat->List U->List (List U)
 | 0,_=>[]
 | n+1,cs=>cs.take z::l2 z n (cs.drop z)
def jr (b:UInt8) :U:=.int .u8 b.toNat
def contents (h:aM) (z:Nat) :U->Option (List U × Nat)
 | .aH=>some ([],0)
 | .aX du es=>if z=du then some (es.flatten,es.length) else none
 | .aq du b off len _ sz=>match h.f b with
  | .cells n cs=>if n=sz/\z=du then some ((cs.drop off).take (len*z),len) else none
  | _=>none
 | .str s=>if z=1 then some (s.map jr,s.length) else none
 | _=>none
def ct:Nat:=140737488355328
def sU (P:Program) (t:TypeId) :Option Nat:=((P.info? t).bind (·.zero)).map (·.cells.size)
def uV (P:Program) (h:aM) (e:TypeId) (z by_:Nat) (s:U) (xs:List U) (n:Nat) :Option (U × aM) :=
 if n=0 then (match s with | .aH | .aX .. | .aq ..=>some (s,h) | _=>none)
 else if z=0\/by_=0\/sU P e≠some z then none else match s with
  | .aH=>if n*by_<=ct then some (.aq z h.n 0 n n (n*z),h.push (.cells (n*z) xs)) else none
  | .aq du b off len cap sz=>match h.f b with
   | .cells m cs=>
    if m=sz/\z=du/\(len+n)*by_<=ct then
     if len+n<=cap then some (.aq z b off (len+n) cap sz,h.set b (.cells m (bg cs (off+len*z) xs)))
     else if off+cap*z<sz then some (.aq z h.n 0 (len+n) (len+n) ((len+n)*z),h.push (.cells ((len+n)*z) ((cs.drop off).take (len*z)++xs)))
     else if off=0 then some (.aq z b 0 (len+n) (len+n) ((len+n)*z),h.set b (.cells ((len+n)*z) (cs.take (len*z)++xs)))
     else some (.aq z h.n 0 (len+n) (len+n) ((len+n)*z),(h.set b .dead).push (.cells ((len+n)*z) ((cs.drop off).take (len*z)++xs)))
    else none
   | _=>none
  | _=>none
def rV (P:Program) (h:aM) (t:TypeId) (s x:U) :Option (U × aM) :=
 match iT P t with
 | none=>none
 | some e=>match cu P e,kv P e with
  | some z,some by_=>match contents h z x with
   | none=>none
   | some (xs,n)=>uV P h e z by_ s xs n
  | _,_=>none
def ku (x:U) (y:Nat) :Option Nat:=match x with | .int _ i=>if 0<=i/\i<=y then some i.toNat else none | _=>none
def gV (len cap:Nat) (cG az cH:Option U) :Option (Nat × Nat × Nat) :=
 match (match cH with | some v=>ku v cap | none=>some cap) with
 | none=>none
 | some m=>match (match az,cH with | some v,_=>ku v m | none,none=>some len | none,some _=>none) with
  | none=>none
  | some h=>match (match cG with | some v=>ku v h | none=>some 0) with
   | none=>none
   | some l=>some (l,h,m)
def Ew (P:Program) (t:TypeId) (x:U) (cG az cH:Option U) :Option U:=
 match P.underlying t,x with
 | some (.array n e),x=>match cu P e,gV n n cG az cH with
  | some z,some (l,aR,m)=>match x with
   | .ptr b off sz=>if off+m*z<=sz then (if m=l then some (.aX z []) else some (.aq z b (off+l*z) (aR - l) (m - l) sz)) else none
   | .bK cs off=>if off+n*z<=cs.length then some (.aX z (l2 z (aR - l) (cs.drop (off+l*z)))) else none
   | _=>none
  | _,_=>none
 | some (.slice e),x=>match cu P e,x with
  | some z,.aq du b off len cap sz=>if z=du then (gV len cap cG az cH).map fun (l,aR,m)=>if m=l then .aq z b (off+l*z) 0 0 sz else .aq z b (off+l*z) (aR - l) (m - l) sz else none
  | some z,.aX du es=>if z=du then (gV es.length es.length cG az cH).map fun (l,aR,_)=>.aX z ((es.drop l).take (aR - l)) else none
  | some _,.aH=>(gV 0 0 cG az cH).map fun _=>.aH
  | _,_=>none
 | some .string,.str s=>match cH with
  | none=>(gV s.length s.length cG az none).map fun (l,aR,_)=>.str ((s.drop l).take (aR - l))
  | some _=>none
 | _,_=>none
def yh (P:Program) (t:TypeId) (x:U) :Option U:=
 match P.underlying t,x with
 | some .string,.str s=>some (.int .i64 s.length)
 | some (.array n _),_=>some (.int .i64 n)
 | some (.slice _),.aH=>some (.int .i64 0)
 | some (.slice _),.aq _ _ _ len _ _=>some (.int .i64 len)
 | some (.slice _),.aX _ es=>some (.int .i64 es.length)
 | some (.map _ _),.iI=>some (.int .i64 0)
 | _,_=>none
def Hv (P:Program) (h:aM) (t:TypeId) (l c:U) :Option (U × aM) :=
 match iT P t,asInt l,asInt c with
 | some e,some l,some c=>match cu P e,kv P e,hY P e with
  | some z,some by_,some zero=>
   if zero.length=z/\0<=l/\l<=c/\c<9223372036854775808/\by_*c<=ct then
    some (.aq z h.n 0 l.toNat c.toNat (c.toNat*z),h.push (.cells (c.toNat*z) (dx zero c.toNat)))
   else none
  | _,_,_=>none
 | _,_,_=>none
def zn (P:Program) (h:aM) (t:TypeId) (d x:U) :Option (U × aM) :=
 match iT P t with
 | none=>none
 | some e=>match cu P e with
  | none=>none
  | some z=>match contents h z x with
   | none=>none
   | some (xs,n)=>match d with
    | .aH=>some (.int .i64 0,h)
    | .aq du b off len _ sz=>match h.f b with
     | .cells m cs=>if m=sz/\z=du then some (.int .i64 ((min n len:Nat) :Int),h.set b (.cells m (bg cs off (xs.take (min n len*z))))) else none
     | _=>none
    | _=>none
def m5:List U->Option (List UInt8)
 | []=>some []
 | .int .u8 n::r=>(m5 r).map (UInt8.ofNat n.toNat::·)
 | _::_=>none
def xj (P:Program) (h:aM) (src dst:TypeId) (x:U) :Option U:=
 match P.underlying src,P.underlying dst,x with
 | some _,some (.int k),.int _ n=>some (.int k (k.wrap n))
 | some _,some .string,.str s=>some (.str s)
 | some (.slice e),some .string,x=>match P.underlying e,x with
  | some (.int .u8),.aH=>some (.str [])
  | some (.int .u8),x=>match contents h 1 x,x with
   | some _,.str _=>none
   | some (cs,_),_=>(m5 cs).map .str
   | none,_=>none
  | _,_=>none
 | _,_,_=>none
def za (P:Program) (src dst:TypeId) (x:U) :Option U:=
 match P.underlying src,P.underlying dst,x with
 | some _,some (.slice e),.str s=>match P.underlying e with
  | some (.int .u8)=>some (.aX 1 (s.map fun b=>[jr b]))
  | _=>none
 | _,_,_=>none
def zc (P:Program) (t:TypeId) (x:U) :Option U:=
 match P.underlying t,x with
 | some (.array n _),_=>some (.int .i64 n)
 | some (.slice _),.aH=>some (.int .i64 0)
 | _,_=>none
def zg (P:Program) (h:aM) (t:TypeId) (x:U) :Option aM:=
 match P.underlying t,x with
 | some (.slice _),.aH=>some h
 | some (.slice _),.aX _ []=>some h
 | some (.slice e),.aq z b off len _ sz=>if len=0 then some h else match hY P e,h.f b with
  | some zero,.cells m cs=>if m=sz/\zero.length=z then some (h.set b (.cells m (bg cs off (dx zero len)))) else none
  | _,_=>none
 | _,_=>none
def At (P:Program) (t:TypeId) (x eP:U) :Option U:=
 match P.underlying t,x,asInt eP with
 | some (.array n e),.aG cs,some i=>match cu P e with
  | some z=>if 0<=i/\i<n then ic P e cs (i.toNat*z) else none
  | none=>none
 | some .string,.str s,some i=>if 0<=i then (s[i.toNat]?).map jr else none
 | _,_,_=>none
mutual
def U.beq:U->U->Bool
 | .bool a,y=>match y with | .bool b=>(match a,b with | true,true=>true | false,false=>true | _,_=>false) | _=>false
 | .int k n,y=>match y with | .int k' hs=>decide (k=k')&&decide (n=hs) | _=>false
 | .str a,y=>match y with | .str b=>decide (a=b) | _=>false
 | .kk,y=>match y with | .kk=>true | _=>false
 | .aH,y=>match y with | .aH=>true | _=>false
 | .iI,y=>match y with | .iI=>true | _=>false
 | .ki,y=>match y with | .ki=>true | _=>false
 | .kj,y=>match y with | .kj=>true | _=>false
 | .aG a,y=>match y with | .aG b=>fx a b | _=>false
 | .bv a,y=>match y with | .bv b=>fx a b | _=>false
 | .ptr a b c,y=>match y with | .ptr c9 bc c'=>Nat.beq a c9&&Nat.beq b bc&&Nat.beq c c' | _=>false
 | .bK a n,y=>match y with | .bK c9 hs=>fx a c9&&Nat.beq n hs | _=>false
 | .aq a b c d e f,y=>match y with | .aq c9 bc c' JA fy RJ=>Nat.beq a c9&&Nat.beq b bc&&Nat.beq c c'&&Nat.beq d JA&&Nat.beq e fy&&Nat.beq f RJ | _=>false
 | .aX a b,y=>match y with | .aX c9 bc=>Nat.beq a c9&&BE b bc | _=>false
 | .fn a b c,y=>match y with | .fn c9 bc c'=>Nat.beq a c9&&fx b bc&&fx c c' | _=>false
 | .mp a,y=>match y with | .mp c9=>Nat.beq a c9 | _=>false
 | .it a,y=>match y with | .it c9=>Nat.beq a c9 | _=>false
 | .hq a b,y=>match y with | .hq c9 bc=>Nat.beq a c9&&U.beq b bc | _=>false
 | .hj a,y=>match y with | .hj c9=>Nat.beq a c9 | _=>false
 | .bad,y=>match y with | .bad=>true | _=>false
def fx:List U->List U->Bool
 | [],y=>match y with | []=>true | _=>false
 | a::as,y=>match y with | b::bs=>U.beq a b&&fx as bs | _=>false
def BE:List (List U)->List (List U)->Bool
 | [],y=>match y with | []=>true | _=>false
 | a::as,y=>match y with | b::bs=>fx a b&&BE as bs | _=>false
end
theorem kM {a b:Nat} (h:Nat.beq a b=true) :a=b:=Nat.eq_of_beq_eq_true h
mutual
theorem U.beq_eq:∀ {a b:U},U.beq a b=true->a=b
 | .bool a,b,h=>by cases b<;>simp only[U.beq] at h<;>first | cases h | (rename_i b; cases a<;>cases b<;>first | rfl | cases h)
 | .int k n,b,h=>by cases b<;>simp only[U.beq] at h<;>first | cases h | (simp only[Bool.and_eq_true,decide_eq_true_eq] at h; rw[h.1,h.2])
 | .str a,b,h=>by cases b<;>simp only[U.beq] at h<;>first | cases h | (simp only[decide_eq_true_eq] at h; rw[h])
 | .kk,b,h=>by cases b<;>simp only[U.beq] at h<;>first | rfl | cases h
 | .aH,b,h=>by cases b<;>simp only[U.beq] at h<;>first | rfl | cases h
 | .iI,b,h=>by cases b<;>simp only[U.beq] at h<;>first | rfl | cases h
 | .ki,b,h=>by cases b<;>simp only[U.beq] at h<;>first | rfl | cases h
 | .kj,b,h=>by cases b<;>simp only[U.beq] at h<;>first | rfl | cases h
 | .bad,b,h=>by cases b<;>simp only[U.beq] at h<;>first | rfl | cases h
 | .aG a,b,h=>by cases b<;>simp only[U.beq] at h<;>first | cases h | rw[ta h]
 | .bv a,b,h=>by cases b<;>simp only[U.beq] at h<;>first | cases h | rw[ta h]
 | .ptr ..,b,h=>by cases b<;>simp only[U.beq] at h<;>first | cases h | (simp only[Bool.and_eq_true] at h; rw[kM h.1.1,kM h.1.2,kM h.2])
 | .bK a n,b,h=>by cases b<;>simp only[U.beq] at h<;>first | cases h | (simp only[Bool.and_eq_true] at h; rw[ta h.1,kM h.2])
 | .aq ..,b,h=>by cases b<;>simp only[U.beq] at h<;>first | cases h | (simp only[Bool.and_eq_true] at h; rw[kM h.1.1.1.1.1,kM h.1.1.1.1.2,kM h.1.1.1.2,kM h.1.1.2,kM h.1.2,kM h.2])
 | .aX a n,b,h=>by cases b<;>simp only[U.beq] at h<;>first | cases h | (simp only[Bool.and_eq_true] at h; rw[kM h.1,Pb h.2])
 | .fn a n m,b,h=>by cases b<;>simp only[U.beq] at h<;>first | cases h | (simp only[Bool.and_eq_true] at h; rw[kM h.1.1,ta h.1.2,ta h.2])
 | .mp a,b,h=>by cases b<;>simp only[U.beq] at h<;>first | cases h | rw[kM h]
 | .it a,b,h=>by cases b<;>simp only[U.beq] at h<;>first | cases h | rw[kM h]
 | .hj a,b,h=>by cases b<;>simp only[U.beq] at h<;>first | cases h | rw[kM h]
 | .hq a n,b,h=>by cases b<;>simp only[U.beq] at h<;>first | cases h | (simp only[Bool.and_eq_true] at h; rw[kM h.1,U.beq_eq h.2])
theorem ta:∀ {a b:List U},fx a b=true->a=b
 | [],b,h=>by cases b<;>simp only[fx] at h<;>first | rfl | cases h
 | x::a,b,h=>by cases b<;>simp only[fx] at h<;>first | cases h | (simp only[Bool.and_eq_true] at h; rw[U.beq_eq h.1,ta h.2])
theorem Pb:∀ {a b:List (List U)},BE a b=true->a=b
 | [],b,h=>by cases b<;>simp only[BE] at h<;>first | rfl | cases h
 | x::a,b,h=>by cases b<;>simp only[BE] at h<;>first | cases h | (simp only[Bool.and_eq_true] at h; rw[ta h.1,Pb h.2])
end
def wk:U->Bool | .int .. | .str _ | .bool _=>true | _=>false
def ua (P:Program) :Nat->TypeId->Bool
 | 0,_=>false
 | d+1,t=>match P.underlying t,cu P t with
  | some (.int _),_=>true
  | some .string,_=>true
  | some .bool,_=>true
  | some (.array n e),some m=>ua P d e&&(match cu P e,eo P e with | some z,some _=>Nat.ble (n*z) m&&Nat.ble 1 z | _,_=>false)
  | some (.struct fs),some m=>fs.toList.all fun f=>ua P d f.type&&(match cu P f.type,eo P f.type with | some z,some _=>Nat.ble (f.offset+z) m&&Nat.ble 1 z | _,_=>false)
  | _,_=>false
def lS (P:Program) (t:TypeId) (c:U) :Bool:=
 match c with
 | .aG cs=>ua P 8 t&&(match eo P t,cu P t with | some true,some m=>Nat.beq cs.length m | _,_=>false)&&cs.all wk
 | _=>false
def kY (P:Program) (cK:TypeId) (k:U) :List (U × U × Nat)->Nat->Option (Option (Nat × U))
 | [],_=>some none
 | (k',v,_) ::es,i=>match lS P cK k' with
  | false=>none
  | true=>match eC P 10000 cK k k' with
   | some true=>match U.beq k k' with | true=>some (some (i,v)) | false=>none
   | some false=>kY P cK k es (i+1)
   | none=>none
def mapOf (h:aM) :U->Option (List (U × U × Nat))
 | .iI=>some []
 | .mp b=>match h.f b with | .map es _=>some es | _=>none
 | _=>none
def yU (P:Program) (t:TypeId) :Option U:=((P.info? t).bind (·.zero)).map we
def Hr (P:Program) (h:aM) (t:TypeId) (m k:U) (ok:Bool) :Option U:=
 match P.underlying t,mapOf h m with
 | some (.map cK mz),some es=>match lS P cK k with
  | false=>none
  | true=>match kY P cK k es 0 with
   | some (some (_,v))=>some (if ok then .bv [v,.bool true] else v)
   | some none=>(yU P mz).map fun z=>if ok then .bv [z,.bool false] else z
   | none=>none
 | _,_=>none
def ym (P:Program) (h:aM) (t:TypeId) (m k v:U) :Option aM:=
 match P.underlying t,m with
 | some (.map cK _),.mp b=>match h.f b with
  | .map es fb=>match lS P cK k with
   | false=>none
   | true=>match kY P cK k es 0 with
    | some (some (i,_))=>some (h.set b (.map (es.modify i fun e=>(k,v,e.2.2)) fb))
    | some none=>some (h.set b (.map (es++[(k,v,fb)]) (fb+1)))
    | none=>none
  | _=>none
 | _,_=>none
def yi (P:Program) (h:aM) (t:TypeId) (x:U) :Option U:=
 match P.underlying t,x with
 | some (.map _ _),.mp b=>match h.f b with | .map es _=>some (.int .i64 es.length) | _=>none
 | _,_=>none
def HV (P:Program) (h:aM) (t:TypeId) (x:U) :Option (U × aM) :=
 match P.underlying t,x with
 | some .string,.str s=>some (.it h.n,h.push (.iter s 0))
 | _,_=>none
def AG (h:aM) (x:U) :Option (U × aM) :=
 match x with
 | .it b=>match h.f b with
  | .iter s pos=>match Nat.blt pos s.length with
   | true=>some (.bv [.bool true,.int .i64 pos,.int .i32 (Utf8.decode ⟨s.toArray⟩ pos).1],h.set b (.iter s (pos+(Utf8.decode ⟨s.toArray⟩ pos).2)))
   | false=>some (.bv [.bool false],h)
  | _=>none
 | _=>none
def nV:List UInt8->List UInt8->Int
 | [],[]=>0
 | [],_::_=>-1
 | _::_,[]=>1
 | a::as,b::bs=>if a=b then nV as bs else if a<b then -1 else 1
def rY (h:aM) (x:U) :Option (List UInt8) :=match x with
 | .str s=>some s
 | x=>match contents h 1 x with
  | some (cs,_)=>m5 cs
  | none=>none
def BT (h:aM) :List U->Option U
 | [x,y]=>match rY h x,rY h y with
  | some a,some b=>some (.int .i64 (nV a b))
  | _,_=>none
 | _=>none
def Dz (fn:Func) :Bool:=fn.body.isNone&&fn.name == "internal/bytealg.Compare"&&(fn.origin == ""||fn.origin == "internal/bytealg.Compare")
inductive pn where
 | val (v:U) (h:aM)
 | call (f:FuncId) (args:List U) (h:aM)
def sA:U->U->Option U
 | .int k x,.int k' y=>if k=k' then some (.int k (if y<x then y else x)) else none
 | _,_=>none
def ug:U->U->Option U
 | .int k x,.int k' y=>if k=k' then some (.int k (if x<y then y else x)) else none
 | _,_=>none
def gy:U:=.bv []
def BC (P:Program) (h:aM) (t:TypeId) (s x:U) :Option (U × aM) :=
 match iT P t,asInt x with
 | some e,some n=>match cu P e,kv P e,hY P e with
  | some z,some by_,some zero=>
   if zero.length=z/\0<=n/\n<9223372036854775808/\n.toNat*by_<=ct then uV P h e z by_ s (dx zero n.toNat) n.toNat else none
  | _,_,_=>none
 | _,_=>none
def pu (P:Program) (h:aM) (b:Builtin) (ts:List TypeId) (args:List U) :Option pn:=
 match b,ts,args with
 | .len,[t],[x]=>match yi P h t x with
  | some v=>some (.val v h)
  | none=>(yh P t x).map fun v=>.val v h
 | .append,[t,u],[s,x]=>match P.underlying u with
  | some (.int _)=>(BC P h t s x).map fun (v,h')=>.val v h'
  | none=>none
  | _=>(rV P h t s x).map fun (v,h')=>.val v h'
 | .copy,[t,_],[d,x]=>(zn P h t d x).map fun (v,h')=>.val v h'
 | .cap,[t],[x]=>(zc P t x).map fun v=>.val v h
 | .clear,[t],[x]=>(zg P h t x).map fun h'=>.val (.bv []) h'
 | .min,_,[x,y]=>(sA x y).map fun v=>.val v h
 | .max,_,[x,y]=>(ug x y).map fun v=>.val v h
 | _,_,_=>none
def yn (P:Program) (t:TypeId) (name:String) :Option FuncId:=
 match P.underlying t with
 | some (.pointer _) | none=>none
 | _=>match P.info? t with
  | some i=>match i.methods.find? (·.name == name) with
   | some m=>match m.path.toList,m.func with
    | [],some (f,false)=>some f
    | _,_=>none
   | none=>none
  | none=>none
def Bb (t:TypeId) (z:U) (ok:Bool) :U->Option U
 | .hq gx v=>match Nat.beq gx t with
  | true=>match ok with | true=>some (.bv [v,.bool true]) | false=>some v
  | false=>match ok with | true=>some (.bv [z,.bool false]) | false=>none
 | .kj=>match ok with | true=>some (.bv [z,.bool false]) | false=>none
 | _=>none
def Im (P:Program) (t:TypeId) :Option U:=match P.underlying t with
 | some (.interface _) | none=>none
 | _=>yU P t
def u1 (P:Program) (h:aM) (aA:Operand->U) (c:Call) :Option pn:=
 match c.callee with
 | .builtin b=>pu P h b c.argTypes.toList (c.args.toList.map aA)
 | .value f=>match aA f with
  | .fn g first gn=>match P.funcs[g]? with
   | some fn=>if fn.body.isSome/\fn.name≠ "runtime.NumGoroutine" then some (.call g (first++c.args.toList.map aA++gn) h)
    else if Dz fn then (BT h (first++c.args.toList.map aA++gn)).map fun v=>.val v h else none
   | none=>none
  | _=>none
 | .invoke x name=>match aA x with
  | .hq t v=>match yn P t name with
   | some g=>match P.funcs[g]? with
    | some fn=>if fn.body.isSome/\fn.name≠ "runtime.NumGoroutine" then some (.call g (v::c.args.toList.map aA) h) else none
    | none=>none
   | none=>none
  | _=>none
def cW (P:Program) (h:aM) (aA:Operand->U) (op:Op) :Option pn:=
 let v (x:Option U) :Option pn:=x.map fun y=>.val y h
 let w (x:Option (U × aM)) :Option pn:=x.map fun y=>.val y.1 y.2
 match op with
 | .move x | .assign x=>some (.val (aA x) h)
 | .pick c a b=>match aA c with | .bool t=>some (.val (if t then aA a else aA b) h) | _=>none
 | .alloc t=>(hY P t).map fun z=>.val (.ptr h.n 0 z.length) (h.push (.cells z.length z))
 | .box _ x=>(aA x).cells.map fun cs=>.val (.ptr h.n 0 cs.length) (h.push (.cells cs.length cs))
 | .build t parts=>v (BH P t (parts.toList.map fun p=>(p.1,aA p.2)))
 | .buildSlice t len parts=>w (Fi P h t len (parts.toList.map fun p=>(p.1,aA p.2)))
 | .load t a=>v (sy P h t (aA a))
 | .store t a x=>(wE P h t (aA a) (aA x)).map fun h'=>.val gy h'
 | .nilCheck x=>match aA x with | .ptr b o s=>some (.val (.ptr b o s) h) | .bK c o=>some (.val (.bK c o) h) | .fn f a b=>some (.val (.fn f a b) h) | _=>none
 | .binOp op t x y _=>v (gD P op t (aA x) (aA y))
 | .unOp op _ x=>v (qk op (aA x))
 | .convert s d x=>match za P s d (aA x) with
  | some c=>some (.val c h)
  | none=>v (xj P h s d (aA x))
 | .makeInterface t x=>match P.underlying t with
  | some (.interface _) | none=>none
  | _=>some (.val (.hq t (aA x)) h)
 | .makeFunc (.func f) first gn=>some (.val (.fn f (first.toList.map aA) (gn.toList.map aA)) h)
 | .makeSlice t l c=>w (Hv P h t (aA l) (aA c))
 | .slice t x cG az cH=>v (Ew P t (aA x) (cG.map aA) (az.map aA) (cH.map aA))
 | .fieldAddr s x f=>v (FF P s (aA x) f)
 | .field t x f=>match aA x,xr P t f with
  | .aG cs,some fd=>v (ic P fd.type cs fd.offset)
  | _,_=>none
 | .indexAddr t x i=>v (Dx P t (aA x) (aA i))
 | .index t x i=>v (At P t (aA x) (aA i))
 | .extract x i=>match aA x with | .bv vs=>v vs[i]? | _=>none
 | .call c=>u1 P h aA c
 | .makeMap t r=>match P.underlying t,(match r with | none=>true | some x=>(asInt (aA x)).isSome) with | some (.map _ _),true=>some (.val (.mp h.n) (h.push (.map [] 0))) | _,_=>none
 | .lookup t m k ok=>v (Hr P h t (aA m) (aA k) ok)
 | .mapUpdate t m k x | .insert t m k x=>(ym P h t (aA m) (aA k) (aA x)).map fun h'=>.val gy h'
 | .range t x=>w (HV P h t (aA x))
 | .next it true=>w (AG h (aA it))
 | .typeAssert x _ t ok=>match Im P t with | some z=>v (Bb t z ok (aA x)) | none=>none
 | _=>none
structure M where
 r:Nat
 s:Nat
 T:Nat
abbrev cg:=Nat->Option M
def live:aY->Bool
 | .cells .. | .map .. | .iter ..=>true
 | _=>false
def oq:aY->Nat
 | .map ..=>1
 | .iter ..=>2
 | _=>0
def Own (h:aM) (μ:cg) (k:Nat) :Prop:=∃ b m,live (h.f b)=true/\μ b=some m/\m.r=k
def w1 (h:aM) (b sz:Nat) :Prop:=h.f b=.dead\/∃ n cs,h.f b=.cells n cs/\sz<n
structure Cell (w:World) (R:Nat->Prop) (h:aM) (μ:cg) (b o:Nat) (v:Value) :Prop where
 here:w.cell? ⟨b,o,none⟩=some v
 one:v.oneCell'=true
 ro:R b
 free:¬ Own h μ b
inductive aN (w:World) (R:Nat->Prop) (h:aM) (μ:cg) :U->Value->Prop where
 | bool (b:Bool) :aN w R h μ (.bool b) (.bool b)
 | int (k:IntKind) (n:Int) :aN w R h μ (.int k n) (.int k n)
 | str (bs:ByteArray) :aN w R h μ (.str bs.data.toList) (.string bs)
 | kk:aN w R h μ .kk (.pointer none)
 | aH:aN w R h μ .aH (.slice none 0 0)
 | iI:aN w R h μ .iI (.map none)
 | ki:aN w R h μ .ki .nilFunc
 | kj:aN w R h μ .kj .nilIface
 | aG (cs:List U) (vs:Array Value) (al:vs.size=cs.length) (ad:∀ (j:Nat) (v:Value),vs[j]? = some v->v.oneCell'=true)
   (ap:∀ (j:Nat) (c:U) (v:Value),cs[j]? = some c->vs[j]? = some v->aN w R h μ c v) :aN w R h μ (.aG cs) (.agg vs)
 | bv (cs:List U) (vs:Array Value) (al:vs.size=cs.length)
   (ap:∀ (j:Nat) (c:U) (v:Value),cs[j]? = some c->vs[j]? = some v->aN w R h μ c v) :aN w R h μ (.bv cs) (.tuple vs)
 | ptr (b off sz:Nat) (cs:List U) (m:M) (af:h.f b=.cells sz cs) (hm:μ b=some m) :
   aN w R h μ (.ptr b off sz) (.pointer (some ⟨m.r,m.s+off,none⟩))
 | mT (b off sz:Nat) (a:Addr) (aw:w1 h b sz) :aN w R h μ (.ptr b off sz) (.pointer (some a))
 | bK (cs:List U) (off blk o:Nat) (ez:Nat->Value) (ah:∀ j,j<cs.length->Cell w R h μ blk (o+j) (ez j))
   (ap:∀ (j:Nat) (c:U),cs[j]? = some c->aN w R h μ c (ez j)) :aN w R h μ (.bK cs off) (.pointer (some ⟨blk,o+off,none⟩))
 | aq (z b off len cap sz cap' : Nat) (cs:List U) (m:M) (af:h.f b=.cells sz cs) (hm:μ b=some m) (al:len<=cap) (au:off+cap*z<=sz)
   (ah:(off+cap*z<sz/\cap'=cap)\/(off+cap*z=sz/\cap<=cap'/\m.s+off+cap'*z<=m.T)) :
   aN w R h μ (.aq z b off len cap sz) (.slice (some ⟨m.r,m.s+off,none⟩) len cap')
 | ht (z b off len cap sz cap' : Nat) (a:Addr) (al:len<=cap) (ah:cap<=cap') (aw:w1 h b sz) :aN w R h μ (.aq z b off len cap sz) (.slice (some a) len cap')
 | iN (z b off sz:Nat) (a:Addr) (cs:List U) (m:M) (af:h.f b=.cells sz cs) (hm:μ b=some m) :aN w R h μ (.aq z b off 0 0 sz) (.slice (some a) 0 0)
 | aX (z:Nat) (es:List (List U)) (blk off cap:Nat) (ez:Nat->Nat->Value) (al:es.length<=cap) (ax:∀ e,e∈es->e.length=z)
   (ah:∀ i j,i<es.length->j<z->Cell w R h μ blk (off+(i*z+j)) (ez i j))
   (ap:∀ (i:Nat) (e:List U),es[i]? = some e->∀ (j:Nat) (c:U),e[j]? = some c->aN w R h μ c (ez i j)) :
   aN w R h μ (.aX z es) (.slice (some ⟨blk,off,none⟩) es.length cap)
 | fZ (z:Nat) (a:Addr) (cap:Nat) :aN w R h μ (.aX z []) (.slice (some a) 0 cap)
 | fn (f:FuncId) (first gn:List U) (fs cs:Array Value) (aE:fs.size=first.length) (ah:cs.size=gn.length)
   (ad:∀ (j:Nat) (c:U) (v:Value),first[j]? = some c->fs[j]? = some v->aN w R h μ c v) (ae:∀ (j:Nat) (c:U) (v:Value),gn[j]? = some c->cs[j]? = some v->aN w R h μ c v) :
   aN w R h μ (.fn f first gn) (.func (.func f) fs cs)
 | mp (b:Nat) (m:M) (af:oq (h.f b)=1) (hm:μ b=some m) :aN w R h μ (.mp b) (.map (some m.r))
 | it (b:Nat) (m:M) (af:oq (h.f b)=2) (hm:μ b=some m) :aN w R h μ (.it b) (.pointer (some ⟨m.r,0,none⟩))
 | hq (t:TypeId) (c:U) (v:Value) (ap:aN w R h μ c v) :aN w R h μ (.hq t c) (.iface t v)
 | hj (l:Nat) :aN w R h μ (.hj l) (.func (.yield l) #[] #[])
 | bad (v:Value) :aN w R h μ .bad v
structure Ext0 (w:World) (h:aM) (μ:cg) (w' : World) (h' : aM) (μ' : cg) :Prop where
 os:w'.os=w.os
 tape:w'.tape=w.tape
 output:w'.output=w.output
 size:w.heap.size<=w'.heap.size
 cb:∀ k,k<w.heap.size->¬ Own h μ k->w'.heap[k]? = w.heap[k]?
 own:∀ k,Own h' μ' k->Own h μ k\/w.heap.size<=k
 cells:∀ b sz cs m,h.f b=.cells sz cs->μ b=some m->(∃ cs',h'.f b=.cells sz cs'/\μ' b=some m)\/w1 h' b sz
 gone:∀ b sz,w1 h b sz->w1 h' b sz
 D2:∀ b k m,oq (h.f b)=k+1->μ b=some m->oq (h'.f b)=k+1/\μ' b=some m
 n:h.n<=h'.n
 drawn:w.drawn<=w'.drawn:=by first | exact Nat.le_refl _ | exact Nat.le_succ _ | assumption
structure c5 (w:World) (h:aM) (μ:cg) (w' : World) (h' : aM) (μ' : cg) :Prop extends Ext0 w h μ w' h' μ' where
 ql:∀ b,b<h.n->μ b=none->μ' b=none
theorem Ext0.refl (w:World) (h:aM) (μ:cg) :Ext0 w h μ w h μ:=
 ⟨rfl,rfl,rfl,Nat.le_refl _,fun _ _ _=>rfl,fun _ h=>.inl h,fun b sz cs m ad ae=>.inl ⟨cs,ad,ae⟩,fun _ _ h=>h,fun _ _ _ ad ae=>⟨ad,ae⟩,Nat.le_refl _,Nat.le_refl _⟩
theorem c5.refl (w:World) (h:aM) (μ:cg) :c5 w h μ w h μ:=⟨.refl w h μ,fun _ _ h=>h⟩
theorem Ext0.trans {w bL w2:World} {h ad ae:aM} {μ gR oy:cg} (a:Ext0 w h μ bL ad gR) (b:Ext0 bL ad gR w2 ae oy) :Ext0 w h μ w2 ae oy:=by
 refine⟨b.os.trans a.os,b.tape.trans a.tape,b.output.trans a.output,Nat.le_trans a.size b.size,?_,?_,?_,fun _ _ aw=>b.gone _ _ (a.gone _ _ aw),?_,Nat.le_trans a.n b.n,Nat.le_trans a.drawn b.drawn⟩
 ·intro k ar aC;rw[b.cb k (Nat.lt_of_lt_of_le ar a.size) (fun au=>(a.own k au).elim aC (by omega)),a.cb k ar aC]
 ·intro k ar;rcases b.own k ar with h | h
  ·exact a.own k h
  ·exact .inr (Nat.le_trans a.size h)
 ·intro blk sz cs m af hm;rcases a.cells blk sz cs m af hm with ⟨cs',aj,aF⟩ | aj
  ·exact b.cells blk sz cs' m aj aF
  ·exact .inr (b.gone _ _ aj)
 ·intro blk k m af hm;obtain⟨aj,aF⟩:=a.D2 blk k m af hm;exact b.D2 blk k m aj aF
theorem c5.trans {w bL w2:World} {h ad ae:aM} {μ gR oy:cg} (a:c5 w h μ bL ad gR) (b:c5 bL ad gR w2 ae oy) :c5 w h μ w2 ae oy:=
 ⟨a.toExt0.trans b.toExt0,fun blk af hm=>b.ql blk (Nat.lt_of_lt_of_le af a.n) (a.ql blk af hm)⟩
theorem Cell.ext {w w' : World} {h h' : aM} {μ μ' : cg} {R:Nat->Prop} {b o:Nat} {v:Value} (e:Ext0 w h μ w' h' μ') (c:Cell w R h μ b o v) :Cell w' R h' μ' b o v:=by
 have af:b<w.heap.size:=World.block_lt_of_cell? _ _ c.here;refine⟨?_,c.one,c.ro,fun au=>?_⟩
 ·rw[World.cell?_of_block (w:=w) (a:=⟨b,o,none⟩) (e.cb b af c.free)]; exact c.here
 ·rcases e.own b au with ad | ad
  ·exact c.free ad
  ·omega
theorem aN.mA {w w' : World} {h h' : aM} {μ μ' : cg} {R:Nat->Prop} {c:U} {v:Value} (e:Ext0 w h μ w' h' μ') (ap:aN w R h μ c v) :aN w' R h' μ' c v:=by
 induction ap with
 | bool b=>exact .bool b
 | int k n=>exact .int k n
 | str bs=>exact .str bs
 | kk=>exact .kk
 | aH=>exact .aH
 | iI=>exact .iI
 | ki=>exact .ki
 | kj=>exact .kj
 | aG cs vs al ad ap aS=>exact .aG cs vs al ad aS
 | bv cs vs al ap aS=>exact .bv cs vs al aS
 | ptr b off sz cs m af hm=>
  rcases e.cells b sz cs m af hm with ⟨cs',ad,ae⟩ | ad
  ·exact .ptr b off sz cs' m ad ae
  ·exact .mT b off sz _ ad
 | mT b off sz a aw=>exact .mT b off sz a (e.gone _ _ aw)
 | bK cs off blk o ez ah ap aS=>exact .bK cs off blk o ez (fun j ai=>(ah j ai).ext e) aS
 | aq z b off len cap sz cap' cs m af hm al au ah=>
  rcases e.cells b sz cs m af hm with ⟨cs',ad,ae⟩ | ad
  ·exact .aq z b off len cap sz cap' cs' m ad ae al au ah
  ·exact .ht z b off len cap sz cap' _ al (by omega) ad
 | ht z b off len cap sz cap' a al ah aw=>exact .ht z b off len cap sz cap' a al ah (e.gone _ _ aw)
 | iN z b off sz a cs m af hm=>
  rcases e.cells b sz cs m af hm with ⟨cs',ad,ae⟩ | ad
  ·exact .iN z b off sz a cs' m ad ae
  ·exact .ht z b off 0 0 sz 0 a (Nat.le_refl _) (Nat.le_refl _) ad
 | aX z es blk off cap ez al ax ah ap aS=>exact .aX z es blk off cap ez al ax (fun i j az ai=>(ah i j az ai).ext e) aS
 | fZ z a cap=>exact .fZ z a cap
 | fn f first gn fs cs aE ah ad ae et nv=>exact .fn f first gn fs cs aE ah et nv
 | mp b m af hm=>
  obtain⟨ad,ae⟩:=e.D2 b 0 m af hm;exact .mp b m ad ae
 | it b m af hm=>
  obtain⟨ad,ae⟩:=e.D2 b 1 m af hm;exact .it b m ad ae
 | hq t c v ap aS=>exact .hq t c v aS
 | hj l=>exact .hj l
 | bad v=>exact .bad v
theorem aN.ext {w w' : World} {h h' : aM} {μ μ' : cg} {R:Nat->Prop} {c:U} {v:Value} (e:c5 w h μ w' h' μ') (ap:aN w R h μ c v) :aN w' R h' μ' c v:=ap.mA e.toExt0
def uI (w:World) (R:Nat->Prop) (h:aM) (μ:cg) (m:M) :aY->Prop
 | .cells sz cs=>cs.length=sz/\m.s+sz<=m.T/\∃ arr e eU,w.heap[m.r]? = some (.cells arr e eU)/\arr.size=m.T/\(eU=(0,0)\/m.T<eU.1) ∧
   ∀ (j:Nat) (c:U),cs[j]? = some c->∃ v:Value,arr[m.s+j]? = some v/\v.oneCell'=true/\aN w R h μ c v
 | .map es fb=>∃ dK,w.heap[m.r]? = some (.map dK fb)/\dK.size=es.length ∧
   ∀ (j:Nat) (k v:U) (b:Nat),es[j]? = some (k,v,b)->∃ x:MapEntry,dK[j]? = some x/\aN w R h μ k x.key/\aN w R h μ v x.val/\x.born=b
 | .iter s pos=>∃ bs:ByteArray,bs.data.toList=s/\w.heap[m.r]? = some (.stringIter bs pos)
 | _=>True
theorem uI.ext {w w' : World} {h h' : aM} {μ μ' : cg} {R:Nat->Prop} {m:M} (e:Ext0 w h μ w' h' μ') (aW:w'.heap[m.r]? = w.heap[m.r]?) :
  ∀ {c:aY},uI w R h μ m c->uI w' R h' μ' m c
 | .cells sz cs,⟨ad,ae,arr,t,eU,aj,aF,a6,bu⟩=>⟨ad,ae,arr,t,eU,aW.trans aj,aF,a6,fun j c ai=>let ⟨v,a,b,d⟩:=bu j c ai; ⟨v,a,b,d.mA e⟩⟩
 | .map es fb,⟨dK,ad,ae,aj⟩=>⟨dK,aW.trans ad,ae,fun j k v b ai=>let ⟨x,a,cX,d,f⟩:=aj j k v b ai; ⟨x,a,cX.mA e,d.mA e,f⟩⟩
 | .iter s pos,⟨bs,ad,ae⟩=>⟨bs,ad,aW.trans ae⟩
 | .none,_=>trivial
 | .dead,_=>trivial
structure bI (R:Nat->Prop) (B:Nat) (w:World) (h:aM) (μ:cg) :Prop where
 blk:∀ b m,μ b=some m->uI w R h μ m (h.f b)
 inj:∀ b bc m ch,live (h.f b)=true->live (h.f bc)=true->μ b=some m->μ bc=some ch->m.r=ch.r->b=bc
 base:∀ b m,live (h.f b)=true->μ b=some m->B<=m.r
 fresh:∀ b,h.n<=b->h.f b=.none
 up:∀ k,B<=k->R k
 size:B<=w.heap.size
 lf:∀ b,h.n<=b->μ b=none
theorem bI.m4 {R:Nat->Prop} {B:Nat} {w:World} {h:aM} {μ:cg} (rel:bI R B w h μ) {b:Nat} {m:M} (hm:μ b=some m) :b<h.n:=by
 rcases Nat.lt_or_ge b h.n with ad | ad
 ·exact ad
 ·rw[rel.lf b ad] at hm; cases hm
theorem bI.lt {R:Nat->Prop} {B:Nat} {w:World} {h:aM} {μ:cg} (rel:bI R B w h μ) {b:Nat} {m:M} (al:live (h.f b)=true) (hm:μ b=some m) :m.r<w.heap.size:=by
 have af:=rel.blk b m hm;cases ah:h.f b with
 | none=>rw[ah] at al; cases al
 | dead=>rw[ah] at al; cases al
 | cells sz cs=>
  rw[ah] at af;obtain⟨_,_,arr,t,eU,aj,_⟩:=af;rcases Nat.lt_or_ge m.r w.heap.size with h | h
  ·exact h
  ·rw[Array.getElem?_eq_none h] at aj; cases aj
 | map es fb=>
  rw[ah] at af;obtain⟨dK,aj,_⟩:=af;rcases Nat.lt_or_ge m.r w.heap.size with h | h
  ·exact h
  ·rw[Array.getElem?_eq_none h] at aj; cases aj
 | iter s pos=>
  rw[ah] at af;obtain⟨bs,_,aj⟩:=af;rcases Nat.lt_or_ge m.r w.heap.size with h | h
  ·exact h
  ·rw[Array.getElem?_eq_none h] at aj; cases aj
theorem bI.uC {R:Nat->Prop} {B:Nat} {w w' : World} {h h' : aM} {μ μ' : cg} (rel:bI R B w h μ) (e:Ext0 w h μ w' h' μ') (hx:Nat)
  (pW:∀ b,b≠hx->live (h'.f b)=true->h'.f b=h.f b/\μ' b=μ b/\∀ m,μ b=some m->w'.heap[m.r]? = w.heap[m.r]?)
  (n4:∀ m,μ' hx=some m->uI w' R h' μ' m (h'.f hx))
  (qU:∀ b m ch,b≠hx->live (h'.f b)=true->live (h'.f hx)=true->μ b=some m->μ' hx=some ch->m.r≠ch.r)
  (F6:∀ m,live (h'.f hx)=true->μ' hx=some m->B<=m.r)
  (adS:∀ b,h'.n<=b->h'.f b=.none) (aeG:∀ b,h'.n<=b->μ' b=none) :bI R B w' h' μ':=by
 refine⟨?_,?_,?_,adS,rel.up,Nat.le_trans rel.size e.size,aeG⟩
 ·intro b m hm;by_cases af:b=hx
  ·subst af; exact n4 m hm
  ·cases al:live (h'.f b) with
   | false=>cases ah:h'.f b<;>first | trivial | (rw[ah] at al; cases al)
   | true=>
    obtain⟨ad,ae,aj⟩:=pW b af al;rw[ae] at hm;rw[ad];exact (rel.blk b m hm).ext e (aj m hm)
 ·intro b bc m ch al dj hm bR ay;by_cases af:b=hx<;>by_cases bJ:bc=hx
  ·rw[af,bJ]
  ·subst af;obtain⟨ad,ae,aj⟩:=pW bc bJ dj;rw[ae] at bR;exact absurd ay.symm (qU bc ch m bJ dj al bR hm)
  ·subst bJ;obtain⟨ad,ae,aj⟩:=pW b af al;rw[ae] at hm;exact absurd ay (qU b m ch af al dj hm bR)
  ·obtain⟨ad,ae,_⟩:=pW b af al;obtain⟨aj,aF,_⟩:=pW bc bJ dj;rw[ad] at al; rw[ae] at hm; rw[aj] at dj; rw[aF] at bR;exact rel.inj b bc m ch al dj hm bR ay
 ·intro b m al hm;by_cases af:b=hx
  ·subst af; exact F6 m al hm
  ·obtain⟨ad,ae,_⟩:=pW b af al;rw[ad] at al; rw[ae] at hm;exact rel.base b m al hm
theorem bI.push {R:Nat->Prop} {B:Nat} {w w' : World} {h:aM} {μ:cg} (rel:bI R B w h μ) (cs:List U) (arr:Array Value) (t:TypeId)
  (pV:w'.os=w.os) (tS:w'.tape=w.tape) (kb:w'.output=w.output) (ma:w'.heap=w.heap.push (.cells arr t (0,0)))
  (hX:cs.length<=arr.size) (ap:∀ (j:Nat) (c:U),cs[j]? = some c->∃ v:Value,arr[j]? = some v/\v.oneCell'=true/\aN w R h μ c v) (qS:w.drawn<=w'.drawn:=by first | exact Nat.le_refl _ | exact Nat.le_succ _ | assumption) :
  c5 w h μ w' (h.push (.cells cs.length cs)) (bw μ h.n (some ⟨w.heap.size,0,arr.size⟩)) ∧
  bI R B w' (h.push (.cells cs.length cs)) (bw μ h.n (some ⟨w.heap.size,0,arr.size⟩)) :=by
 have aC:h.f h.n=.none:=rel.fresh _ (Nat.le_refl _);have e:c5 w h μ w' (h.push (.cells cs.length cs)) (bw μ h.n (some ⟨w.heap.size,0,arr.size⟩)) :=by
  refine⟨⟨pV,tS,kb,by simp[ma],?_,?_,?_,?_,?_,?_,qS⟩,?_⟩
  ·intro k ar _;rw[ma,Array.getElem?_push,if_neg (by omega)]
  ·rintro k ⟨b,m,al,hm,rfl⟩;by_cases af:b=h.n
   ·subst af; simp at hm; subst hm; exact .inr (Nat.le_refl _)
   ·rw[b1 _ _ _ _ af] at hm;simp only[eb,ft,b1 _ _ _ _ af] at al;exact .inl ⟨b,m,al,hm,rfl⟩
  ·intro b sz cs' m af hm;have:b≠h.n:=fun aR=>by rw[aR,aC] at af; cases af
   exact .inl ⟨cs',by simp only[eb,ft,b1 _ _ _ _ this]; exact af,by rw[b1 _ _ _ _ this]; exact hm⟩
  ·rintro b sz (af | ⟨n,cs',af,aK⟩)
   ·have:b≠h.n:=fun aR=>by rw[aR,aC] at af; cases af
    exact .inl (by simp only[eb,ft,b1 _ _ _ _ this]; exact af)
   ·have:b≠h.n:=fun aR=>by rw[aR,aC] at af; cases af
    exact .inr ⟨n,cs',by simp only[eb,ft,b1 _ _ _ _ this]; exact af,aK⟩
  ·intro b k m af hm;have:b≠h.n:=fun aR=>by rw[aR,aC] at af; cases af
   exact⟨by simp only[eb,ft,b1 _ _ _ _ this]; exact af,by rw[b1 _ _ _ _ this]; exact hm⟩
  ·simp[eb,ft]
  ·intro b af hm;rw[b1 _ _ _ _ (by omega)]; exact hm
 refine⟨e,rel.uC e.toExt0 h.n ?_ ?_ ?_ ?_ ?_ ?_⟩
 ·intro b af al;simp only[eb,ft,b1 _ _ _ _ af] at al ⊢;exact⟨trivial,trivial,fun m hm=>by rw[ma,Array.getElem?_push,if_neg (by have:=rel.lt al hm; omega)]⟩
 ·intro m hm;simp at hm; subst hm;simp only[eb,ft,hB];refine⟨rfl,by simpa using hX,arr,t,(0,0),by simp[ma],rfl,.inl rfl,fun j c ai=>?_⟩;obtain⟨v,ad,ae,aj⟩:=ap j c ai;exact⟨v,by simpa using ad,ae,aj.ext e⟩
 ·intro b m ch af al _ hm bR;simp only[eb,ft,b1 _ _ _ _ af] at al;simp at bR; subst bR;have:=rel.lt al hm;simp only[ne_eq]; omega
 ·intro m _ hm;simp at hm; subst hm;exact rel.size
 ·intro b af;simp only[eb,ft] at af ⊢;rw[b1 _ _ _ _ (by omega)];exact rel.fresh b (by omega)
 ·intro b af;simp only[eb,ft] at af;rw[b1 _ _ _ _ (by omega)];exact rel.lf b (by omega)
theorem bI.same {R:Nat->Prop} {B:Nat} {w:World} {h h' : aM} {μ:cg} (rel:bI R B w h μ) (aE:h'.f=h.f) (aC:h'.n=h.n) :c5 w h μ w h' μ/\bI R B w h' μ:=by
 have e:c5 w h μ w h' μ:=by
  refine⟨⟨rfl,rfl,rfl,Nat.le_refl _,fun _ _ _=>rfl,?_,?_,?_,?_,by omega,Nat.le_refl _⟩,fun _ _ hm=>hm⟩
  ·rintro k ⟨bc,ch,dj,bR,rfl⟩;rw[aE] at dj; exact .inl ⟨bc,ch,dj,bR,rfl⟩
  ·intro bc sz' cs' ch bJ bR;exact .inl ⟨cs',by rw[aE]; exact bJ,bR⟩
  ·intro bc sz' aw;unfold w1 at aw ⊢; rw[aE]; exact aw
  ·intro bc k' ch bJ bR;exact⟨by rw[aE]; exact bJ,bR⟩
 refine⟨e,rel.uC e.toExt0 h.n (fun b _ _=>⟨by rw[aE],rfl,fun _ _=>rfl⟩) (fun m hm=>?_) (fun b m ch _ _ _ _ hm=>?_) (fun m _ hm=>?_) (fun b af=>by rw[aE]; exact rel.fresh b (by omega)) (by rw[aC]; exact rel.lf)⟩
 all_goals (rw[rel.lf h.n (Nat.le_refl _)] at hm; cases hm)
theorem bI.kill {R:Nat->Prop} {B:Nat} {w:World} {h h' : aM} {μ:cg} (rel:bI R B w h μ) {b sz:Nat} {cs:List U} (af:h.f b=.cells sz cs) (oR:b<h.n)
  (aE:h'.f=bw h.f b .dead) (aC:h'.n=h.n) :c5 w h μ w h' μ/\bI R B w h' μ:=by
 have e:c5 w h μ w h' μ:=by
  refine⟨⟨rfl,rfl,rfl,Nat.le_refl _,fun _ _ _=>rfl,?_,?_,?_,?_,by omega,Nat.le_refl _⟩,fun _ _ hm=>hm⟩
  ·rintro k ⟨bc,ch,dj,bR,rfl⟩;rw[aE] at dj;by_cases b6:bc=b
   ·subst b6; simp[live] at dj
   ·rw[b1 _ _ _ _ b6] at dj; exact .inl ⟨bc,ch,dj,bR,rfl⟩
  ·intro bc sz' cs' ch bJ bR;by_cases b6:bc=b
   ·subst b6; exact .inr (.inl (by rw[aE]; simp))
   ·exact .inl ⟨cs',by rw[aE,b1 _ _ _ _ b6]; exact bJ,bR⟩
  ·rintro bc sz' aw;by_cases b6:bc=b
   ·subst b6; exact .inl (by rw[aE]; simp)
   ·rcases aw with aw | ⟨n,cs',aw,aK⟩
    ·exact .inl (by rw[aE,b1 _ _ _ _ b6]; exact aw)
    ·exact .inr ⟨n,cs',by rw[aE,b1 _ _ _ _ b6]; exact aw,aK⟩
  ·intro bc k' ch bJ bR;by_cases b6:bc=b
   ·subst b6; rw[af] at bJ; cases bJ
   ·exact⟨by rw[aE,b1 _ _ _ _ b6]; exact bJ,bR⟩
 refine⟨e,rel.uC e.toExt0 b ?_ ?_ ?_ ?_ ?_ (by rw[aC]; exact rel.lf)⟩
 ·intro bc b6 al;rw[aE,b1 _ _ _ _ b6];exact⟨rfl,rfl,fun _ _=>rfl⟩
 ·intro m _;rw[aE]; simp[uI]
 ·intro bc m ch _ _ al;rw[aE] at al; simp[live] at al
 ·intro m al;rw[aE] at al; simp[live] at al
 ·intro bc bJ;rw[aE,b1 _ _ _ _ (by omega)];exact rel.fresh bc (by omega)
theorem bI.W5 {R:Nat->Prop} {B:Nat} {w:World} {h h' : aM} {μ:cg} (rel:bI R B w h μ) {b sz off:Nat} {cs:List U} {m:M} (af:h.f b=.cells sz cs) (hm:μ b=some m) (au:off<=sz)
  (aE:h'.f=bw (bw h.f b .dead) h.n (.cells (sz - off) (cs.drop off))) (aC:h'.n=h.n+1) :
  c5 w h μ w h' (bw μ h.n (some ⟨m.r,m.s+off,m.T⟩))/\bI R B w h' (bw μ h.n (some ⟨m.r,m.s+off,m.T⟩)) :=by
 have oR:=rel.m4 hm;have x0:h.f h.n=.none:=rel.fresh _ (Nat.le_refl _);have mJ:live (h.f b)=true:=by rw[af]; rfl
 have e:c5 w h μ w h' (bw μ h.n (some ⟨m.r,m.s+off,m.T⟩)) :=by
  refine⟨⟨rfl,rfl,rfl,Nat.le_refl _,fun _ _ _=>rfl,?_,?_,?_,?_,by omega,Nat.le_refl _⟩,fun bc bJ bR=>by rw[b1 _ _ _ _ (by omega)]; exact bR⟩
  ·rintro k ⟨bc,ch,dj,bR,rfl⟩;rw[aE] at dj;by_cases ky:bc=h.n
   ·subst ky; simp at bR; subst bR; exact .inl ⟨b,m,mJ,hm,rfl⟩
   ·rw[b1 _ _ _ _ ky] at dj bR;by_cases b6:bc=b
    ·subst b6; simp[live] at dj
    ·rw[b1 _ _ _ _ b6] at dj; exact .inl ⟨bc,ch,dj,bR,rfl⟩
  ·intro bc sz' cs' ch bJ bR;have ky:bc≠h.n:=fun aR=>by rw[aR,x0] at bJ; cases bJ
   by_cases b6:bc=b
   ·subst b6; exact .inr (.inl (by rw[aE,b1 _ _ _ _ ky]; simp))
   ·exact .inl ⟨cs',by rw[aE,b1 _ _ _ _ ky,b1 _ _ _ _ b6]; exact bJ,by rw[b1 _ _ _ _ ky]; exact bR⟩
  ·rintro bc sz' aw;have ky:bc≠h.n:=fun aR=>by
    subst aR;rcases aw with aw | ⟨n,cs',aw,_⟩
    ·rw[x0] at aw; cases aw
    ·rw[x0] at aw; cases aw
   by_cases b6:bc=b
   ·subst b6; exact .inl (by rw[aE,b1 _ _ _ _ ky]; simp)
   ·rcases aw with aw | ⟨n,cs',aw,aK⟩
    ·exact .inl (by rw[aE,b1 _ _ _ _ ky,b1 _ _ _ _ b6]; exact aw)
    ·exact .inr ⟨n,cs',by rw[aE,b1 _ _ _ _ ky,b1 _ _ _ _ b6]; exact aw,aK⟩
  ·intro bc k' ch bJ bR;have ky:bc≠h.n:=fun aR=>by rw[aR,x0] at bJ; cases bJ
   by_cases b6:bc=b
   ·subst b6; rw[af] at bJ; cases bJ
   ·exact⟨by rw[aE,b1 _ _ _ _ ky,b1 _ _ _ _ b6]; exact bJ,by rw[b1 _ _ _ _ ky]; exact bR⟩
 have pW:∀ bc,bc≠h.n->live (h'.f bc)=true->bc≠b/\h'.f bc=h.f bc:=fun bc ky al=>by
  rw[aE,b1 _ _ _ _ ky] at al ⊢;by_cases b6:bc=b
  ·subst b6; simp[live] at al
  ·exact⟨b6,by rw[b1 _ _ _ _ b6]⟩
 refine⟨e,rel.uC e.toExt0 h.n ?_ ?_ ?_ ?_ ?_ ?_⟩
 ·intro bc ky al;exact⟨(pW bc ky al).2,by rw[b1 _ _ _ _ ky],fun _ _=>rfl⟩
 ·intro ch bR;simp at bR; subst bR;rw[aE,hB];have ed:=rel.blk b m hm;rw[af] at ed;obtain⟨ad,ae,arr,t,eU,aj,aF,a6,bu⟩:=ed;refine⟨by simp; omega,by simp only; omega,arr,t,eU,aj,aF,a6,fun j c ai=>?_⟩;rw[List.getElem?_drop] at ai;obtain⟨v,a2,bd,b4⟩:=bu (off+j) c ai;exact⟨v,by simp only; rw[Nat.add_assoc]; exact a2,bd,b4.ext e⟩
 ·intro bc eQ eG ky al _ ad ae aR;simp at ae; subst ae;obtain⟨b6,iX⟩:=pW bc ky al;rw[iX] at al;exact b6 (rel.inj bc b eQ m al mJ ad hm aR)
 ·intro ch _ bR;simp at bR; subst bR;exact rel.base b m mJ hm
 ·intro bc bJ;rw[aE,b1 _ _ _ _ (by omega),b1 _ _ _ _ (by omega)];exact rel.fresh bc (by omega)
 ·intro bc bJ;rw[b1 _ _ _ _ (by omega)];exact rel.lf bc (by omega)
theorem bI.Wv {R:Nat->Prop} {B:Nat} {w w' : World} {h:aM} {μ:cg} (rel:bI R B w h μ) (c:aY) (o:Obj) {k:Nat} (ar:oq c=k+1)
  (pV:w'.os=w.os) (tS:w'.tape=w.tape) (kb:w'.output=w.output) (ma:w'.heap=w.heap.push o)
  (c0:uI w' R (h.push c) (bw μ h.n (some ⟨w.heap.size,0,0⟩)) ⟨w.heap.size,0,0⟩ c) (qS:w.drawn<=w'.drawn:=by first | exact Nat.le_refl _ | exact Nat.le_succ _ | assumption) :
  c5 w h μ w' (h.push c) (bw μ h.n (some ⟨w.heap.size,0,0⟩))/\bI R B w' (h.push c) (bw μ h.n (some ⟨w.heap.size,0,0⟩)) :=by
 have aC:h.f h.n=.none:=rel.fresh _ (Nat.le_refl _);have apb:oq aY.none=0:=rfl;have e:c5 w h μ w' (h.push c) (bw μ h.n (some ⟨w.heap.size,0,0⟩)) :=by
  refine⟨⟨pV,tS,kb,by simp[ma],?_,?_,?_,?_,?_,?_,qS⟩,?_⟩
  ·intro k ar _;rw[ma,Array.getElem?_push,if_neg (by omega)]
  ·rintro k ⟨b,m,al,hm,rfl⟩;by_cases af:b=h.n
   ·subst af; simp at hm; subst hm; exact .inr (Nat.le_refl _)
   ·rw[b1 _ _ _ _ af] at hm;simp only[eb,ft,b1 _ _ _ _ af] at al;exact .inl ⟨b,m,al,hm,rfl⟩
  ·intro b sz cs' m af hm;have:b≠h.n:=fun aR=>by rw[aR,aC] at af; cases af
   exact .inl ⟨cs',by simp only[eb,ft,b1 _ _ _ _ this]; exact af,by rw[b1 _ _ _ _ this]; exact hm⟩
  ·rintro b sz (af | ⟨n,cs',af,aK⟩)
   ·have:b≠h.n:=fun aR=>by rw[aR,aC] at af; cases af
    exact .inl (by simp only[eb,ft,b1 _ _ _ _ this]; exact af)
   ·have:b≠h.n:=fun aR=>by rw[aR,aC] at af; cases af
    exact .inr ⟨n,cs',by simp only[eb,ft,b1 _ _ _ _ this]; exact af,aK⟩
  ·intro b k m af hm;have:b≠h.n:=fun aR=>by rw[aR,aC] at af; cases af
   exact⟨by simp only[eb,ft,b1 _ _ _ _ this]; exact af,by rw[b1 _ _ _ _ this]; exact hm⟩
  ·simp[eb,ft]
  ·intro b af hm;rw[b1 _ _ _ _ (by omega)]; exact hm
 refine⟨e,rel.uC e.toExt0 h.n ?_ ?_ ?_ ?_ ?_ ?_⟩
 ·intro b af al;simp only[eb,ft,b1 _ _ _ _ af] at al ⊢;exact⟨trivial,trivial,fun m hm=>by rw[ma,Array.getElem?_push,if_neg (by have:=rel.lt al hm; omega)]⟩
 ·intro m hm;simp at hm; subst hm;simp only[eb,ft,hB];exact c0
 ·intro b m ch af al _ hm bR;simp only[eb,ft,b1 _ _ _ _ af] at al;simp at bR; subst bR;have:=rel.lt al hm;simp only[ne_eq]; omega
 ·intro m _ hm;simp at hm; subst hm;exact rel.size
 ·intro b af;simp only[eb,ft] at af ⊢;rw[b1 _ _ _ _ (by omega)];exact rel.fresh b (by omega)
 ·intro b af;simp only[eb,ft] at af ⊢;rw[b1 _ _ _ _ (by omega)];exact rel.lf b (by omega)
theorem bI.Wz {R:Nat->Prop} {B:Nat} {w w' : World} {h:aM} {μ:cg} (rel:bI R B w h μ) {b k:Nat} {c c' : aY} {m:M}
  (af:h.f b=c) (ar:oq c=k+1) (e4:oq c'=k+1) (hm:μ b=some m)
  (pV:w'.os=w.os) (tS:w'.tape=w.tape) (kb:w'.output=w.output) (x9:w'.heap.size=w.heap.size) (Dp:∀ k,k≠m.r->w'.heap[k]? = w.heap[k]?)
  (c0:Ext0 w h μ w' (h.set b c') μ->uI w' R (h.set b c') μ m c') (qS:w.drawn<=w'.drawn:=by first | exact Nat.le_refl _ | exact Nat.le_succ _ | assumption) :
  c5 w h μ w' (h.set b c') μ/\bI R B w' (h.set b c') μ:=by
 have mJ:live (h.f b)=true:=by rw[af]; cases c<;>simp[oq] at ar<;>rfl
 have ape:live c'=true:=by cases c'<;>simp[oq] at e4<;>rfl
 have GK:∀ sz cs,h.f b≠.cells sz cs:=fun sz cs aR=>by rw[af] at aR; subst aR; simp[oq] at ar
 have C8:h.f b≠.dead:=fun aR=>by rw[af] at aR; subst aR; simp[oq] at ar
 have e:c5 w h μ w' (h.set b c') μ:=by
  refine⟨⟨pV,tS,kb,Nat.le_of_eq x9.symm,?_,?_,?_,?_,?_,Nat.le_refl _,qS⟩,fun _ _ hm=>hm⟩
  ·intro k ar aC;exact Dp k (fun aR=>aC ⟨b,m,mJ,hm,aR.symm⟩)
  ·rintro k ⟨bc,ch,dj,bR,rfl⟩;by_cases b6:bc=b
   ·subst b6; exact .inl ⟨bc,ch,mJ,bR,rfl⟩
   ·simp only[dM,b1 _ _ _ _ b6] at dj;exact .inl ⟨bc,ch,dj,bR,rfl⟩
  ·intro bc sz cs ch bJ bR;have b6:bc≠b:=fun aR=>by subst aR; exact GK _ _ bJ
   exact .inl ⟨cs,by simp only[dM,b1 _ _ _ _ b6]; exact bJ,bR⟩
  ·rintro bc sz (aw | ⟨n,cs',aw,aK⟩)
   ·have b6:bc≠b:=fun aR=>by subst aR; exact C8 aw
    exact .inl (by simp only[dM,b1 _ _ _ _ b6]; exact aw)
   ·have b6:bc≠b:=fun aR=>by subst aR; exact GK _ _ aw
    exact .inr ⟨n,cs',by simp only[dM,b1 _ _ _ _ b6]; exact aw,aK⟩
  ·intro bc k' ch bJ bR;by_cases b6:bc=b
   ·subst b6;refine⟨?_,bR⟩;simp only[dM,hB];rw[af,ar] at bJ;rw[e4]; exact bJ
   ·exact⟨by simp only[dM,b1 _ _ _ _ b6]; exact bJ,bR⟩
 refine⟨e,rel.uC e.toExt0 b ?_ ?_ ?_ ?_ ?_ rel.lf⟩
 ·intro bc b6 al;simp only[dM,b1 _ _ _ _ b6] at al ⊢;exact⟨trivial,trivial,fun ch bR=>Dp _ (fun aR=>b6 (rel.inj bc b ch m al mJ bR hm aR))⟩
 ·intro ch bR;rw[hm] at bR; cases bR;simp only[dM,hB];exact c0 e.toExt0
 ·intro bc eQ eG b6 al _ ad ae aR;rw[hm] at ae; cases ae;simp only[dM,b1 _ _ _ _ b6] at al;exact b6 (rel.inj bc b eQ m al mJ ad hm aR)
 ·intro ch _ bR;rw[hm] at bR; cases bR;exact rel.base b m mJ hm
 ·intro bc bJ;by_cases b6:bc=b
  ·subst b6;have:=rel.m4 hm;simp only[eS] at bJ; omega
  ·simp only[dM,b1 _ _ _ _ b6]; exact rel.fresh bc bJ
theorem bI.write {R:Nat->Prop} {B:Nat} {w w' : World} {h:aM} {μ:cg} (rel:bI R B w h μ) {b sz sz' : Nat} {cs cs' : List U} {m:M} {arr lw:Array Value} {t:TypeId} {eU:Nat × Nat}
  (af:h.f b=.cells sz cs) (hm:μ b=some m) (ay:w.heap[m.r]? = some (.cells arr t eU)) (eM:arr.size=m.T) (oa:eU=(0,0)\/m.T<eU.1)
  (pV:w'.os=w.os) (tS:w'.tape=w.tape) (kb:w'.output=w.output) (x9:w'.heap.size=w.heap.size)
  (jc:w'.heap[m.r]? = some (.cells lw t eU)) (Dp:∀ k,k≠m.r->w'.heap[k]? = w.heap[k]?) (aB:lw.size=arr.size)
  (al:cs'.length=sz') (pP:sz<=sz') (eh:m.s+sz'<=m.T)
  (ap:∀ (j:Nat) (c:U),cs'[j]? = some c->∃ v:Value,lw[m.s+j]? = some v/\v.oneCell'=true/\aN w R h μ c v) (qS:w.drawn<=w'.drawn:=by first | exact Nat.le_refl _ | exact Nat.le_succ _ | assumption) :
  c5 w h μ w' (h.set b (.cells sz' cs')) μ/\bI R B w' (h.set b (.cells sz' cs')) μ:=by
 have mJ:live (h.f b)=true:=by rw[af]; rfl
 have e:c5 w h μ w' (h.set b (.cells sz' cs')) μ:=by
  refine⟨⟨pV,tS,kb,Nat.le_of_eq x9.symm,?_,?_,?_,?_,?_,Nat.le_refl _,qS⟩,fun _ _ hm=>hm⟩
  ·intro k ar aC;exact Dp k (fun aR=>aC ⟨b,m,mJ,hm,aR.symm⟩)
  ·rintro k ⟨bc,ch,dj,bR,rfl⟩;by_cases b6:bc=b
   ·subst b6; exact .inl ⟨bc,ch,mJ,bR,rfl⟩
   ·simp only[dM,eS,b1 _ _ _ _ b6] at dj;exact .inl ⟨bc,ch,dj,bR,rfl⟩
  ·intro bc ald px ch bJ bR;by_cases b6:bc=b
   ·subst b6;rw[af] at bJ; cases bJ;by_cases ak:sz'=sz
    ·exact .inl ⟨cs',by simp[dM,eS,ak],bR⟩
    ·exact .inr (.inr ⟨sz',cs',by simp[dM,eS],by omega⟩)
   ·exact .inl ⟨px,by simp only[dM,eS,b1 _ _ _ _ b6]; exact bJ,bR⟩
  ·rintro bc s0 (bJ | ⟨n,px,bJ,aK⟩)
   ·have b6:bc≠b:=fun aR=>by rw[aR,af] at bJ; cases bJ
    exact .inl (by simp only[dM,eS,b1 _ _ _ _ b6]; exact bJ)
   ·by_cases b6:bc=b
    ·subst b6;rw[af] at bJ; cases bJ;exact .inr ⟨sz',cs',by simp[dM,eS],by omega⟩
    ·exact .inr ⟨n,px,by simp only[dM,eS,b1 _ _ _ _ b6]; exact bJ,aK⟩
  ·intro bc k ch bJ bR;have b6:bc≠b:=fun aR=>by rw[aR,af] at bJ; cases bJ
   exact⟨by simp only[dM,eS,b1 _ _ _ _ b6]; exact bJ,bR⟩
 refine⟨e,rel.uC e.toExt0 b ?_ ?_ ?_ ?_ ?_ ?_⟩
 ·intro bc b6 dj;simp only[dM,eS,b1 _ _ _ _ b6] at dj ⊢;exact⟨trivial,trivial,fun ch bR=>Dp _ (fun aR=>b6 (rel.inj bc b ch m dj mJ bR hm aR))⟩
 ·intro ch bR;rw[hm] at bR; cases bR;simp only[dM,eS,hB];refine⟨al,eh,lw,t,eU,jc,aB.trans eM,oa,fun j c ai=>?_⟩;obtain⟨v,ad,ae,aj⟩:=ap j c ai;exact⟨v,ad,ae,aj.ext e⟩
 ·intro bc ch ahu b6 dj _ bR C5 aR;rw[hm] at C5; cases C5;simp only[dM,eS,b1 _ _ _ _ b6] at dj;exact b6 (rel.inj bc b ch m dj mJ bR hm aR)
 ·intro ch _ bR;exact rel.base b ch mJ bR
 ·intro bc bJ;simp only[dM,eS] at bJ ⊢;have b6:bc≠b:=fun aR=>by
   have:=rel.fresh bc bJ;rw[aR,af] at this; cases this
  rw[b1 _ _ _ _ b6];exact rel.fresh bc bJ
 ·intro bc bJ;exact rel.lf bc bJ
theorem bI.move {R:Nat->Prop} {B:Nat} {w w' : World} {h:aM} {μ:cg} (rel:bI R B w h μ) {b sz sz' : Nat} {cs cs' : List U} {m:M} {arr:Array Value} {t:TypeId}
  (af:h.f b=.cells sz cs) (hm:μ b=some m)
  (pV:w'.os=w.os) (tS:w'.tape=w.tape) (kb:w'.output=w.output) (ma:w'.heap=w.heap.push (.cells arr t (0,0)))
  (al:cs'.length=sz') (pP:sz<sz') (eh:sz'<=arr.size)
  (ap:∀ (j:Nat) (c:U),cs'[j]? = some c->∃ v:Value,arr[j]? = some v/\v.oneCell'=true/\aN w R h μ c v) (qS:w.drawn<=w'.drawn:=by first | exact Nat.le_refl _ | exact Nat.le_succ _ | assumption) :
  c5 w h μ w' (h.set b (.cells sz' cs')) (bw μ b (some ⟨w.heap.size,0,arr.size⟩))/\bI R B w' (h.set b (.cells sz' cs')) (bw μ b (some ⟨w.heap.size,0,arr.size⟩)) :=by
 have mJ:live (h.f b)=true:=by rw[af]; rfl
 have e:c5 w h μ w' (h.set b (.cells sz' cs')) (bw μ b (some ⟨w.heap.size,0,arr.size⟩)) :=by
  refine⟨⟨pV,tS,kb,by simp[ma],?_,?_,?_,?_,?_,Nat.le_refl _,qS⟩,?_⟩
  ·intro k ar aC;rw[ma,Array.getElem?_push,if_neg (by omega)]
  ·rintro k ⟨bc,ch,dj,bR,rfl⟩;by_cases b6:bc=b
   ·subst b6; simp at bR; subst bR; exact .inr (Nat.le_refl _)
   ·rw[b1 _ _ _ _ b6] at bR;simp only[dM,eS,b1 _ _ _ _ b6] at dj;exact .inl ⟨bc,ch,dj,bR,rfl⟩
  ·intro bc ald px ch bJ bR;by_cases b6:bc=b
   ·subst b6;rw[af] at bJ; cases bJ;exact .inr (.inr ⟨sz',cs',by simp[dM,eS],by omega⟩)
   ·exact .inl ⟨px,by simp only[dM,eS,b1 _ _ _ _ b6]; exact bJ,by rw[b1 _ _ _ _ b6]; exact bR⟩
  ·rintro bc s0 (bJ | ⟨n,px,bJ,aK⟩)
   ·have b6:bc≠b:=fun aR=>by rw[aR,af] at bJ; cases bJ
    exact .inl (by simp only[dM,eS,b1 _ _ _ _ b6]; exact bJ)
   ·by_cases b6:bc=b
    ·subst b6;rw[af] at bJ; cases bJ;exact .inr ⟨sz',cs',by simp[dM,eS],by omega⟩
    ·exact .inr ⟨n,px,by simp only[dM,eS,b1 _ _ _ _ b6]; exact bJ,aK⟩
  ·intro bc k ch bJ bR;have b6:bc≠b:=fun aR=>by rw[aR,af] at bJ; cases bJ
   exact⟨by simp only[dM,eS,b1 _ _ _ _ b6]; exact bJ,by rw[b1 _ _ _ _ b6]; exact bR⟩
  ·intro bc _ bR;have b6:bc≠b:=fun aR=>by rw[aR,hm] at bR; cases bR
   rw[b1 _ _ _ _ b6]; exact bR
 refine⟨e,rel.uC e.toExt0 b ?_ ?_ ?_ ?_ ?_ ?_⟩
 ·intro bc b6 dj;simp only[dM,eS,b1 _ _ _ _ b6] at dj ⊢;exact⟨trivial,trivial,fun ch bR=>by rw[ma,Array.getElem?_push,if_neg (by have:=rel.lt dj bR; omega)]⟩
 ·intro ch bR;simp at bR; subst bR;simp only[dM,eS,hB];refine⟨al,by simpa using eh,arr,t,(0,0),by simp[ma],rfl,.inl rfl,fun j c ai=>?_⟩;obtain⟨v,ad,ae,aj⟩:=ap j c ai;exact⟨v,by simpa using ad,ae,aj.ext e⟩
 ·intro bc ch ahu b6 dj _ bR C5;simp only[dM,eS,b1 _ _ _ _ b6] at dj;simp at C5; subst C5;have:=rel.lt dj bR;simp only[ne_eq]; omega
 ·intro ch _ bR;simp at bR; subst bR;exact rel.size
 ·intro bc bJ;simp only[dM,eS] at bJ ⊢;have b6:bc≠b:=fun aR=>by
   have:=rel.fresh bc bJ;rw[aR,af] at this; cases this
  rw[b1 _ _ _ _ b6];exact rel.fresh bc bJ
 ·intro bc bJ;simp only[dM,eS] at bJ;have b6:bc≠b:=fun aR=>by
   have:=rel.m4 hm;omega
  rw[b1 _ _ _ _ b6];exact rel.lf bc bJ
section
variable {P:Program} {w:World} {R:Nat->Prop} {B:Nat} {h:aM} {μ:cg}
def Good (R:Nat->Prop) (B:Nat) (w:World) (h:aM) (μ:cg) (r:Result Next) (c:U) (h' : aM) :Prop:=
 ∃ v w' μ',(r=.ok (.value v) w'\/(r=.ok .skip w'/\v=undef))/\c5 w h μ w' h' μ'/\bI R B w' h' μ'/\aN w' R h' μ' c v
theorem Good.pure (rel:bI R B w h μ) {r:Result Next} {c:U} {v:Value} (ay:r=.ok (.value v) w) (ap:aN w R h μ c v) :Good R B w h μ r c h:=
 ⟨v,w,μ,.inl ay,.refl _ _ _,rel,ap⟩
theorem cr {t:TypeId} {d:TypeDesc} (bb:P.underlying t=some d) :(underlying t).run P w=.ok d w:=by
 simp[underlying,bb]
theorem H8 {t:TypeId} {b:Bool} (af:eo P t=some b) :(isAgg t).run P w=.ok b w:=by
 unfold eo at af;cases bb:P.underlying t with
 | none=>rw[bb] at af; cases af
 | some d=>
  rw[bb] at af;simp only[Option.map_some,Option.some.injEq] at af;unfold isAgg;simp only[Sem.run_bind,cr bb,Result.andThen_ok];cases d<;>simp_all
theorem af2 {t:TypeId} {n:Nat} (aC:cu P t=some n) :∃ i,P.info? t=some i/\i.size=n:=by
 unfold cu at aC;cases az:P.info? t with
 | none=>rw[az] at aC; cases aC
 | some i=>rw[az] at aC; exact⟨i,rfl,by simpa using aC⟩
theorem fD {t:TypeId} {n:Nat} (aC:cu P t=some n) :(sizeOf t).run P w=.ok n w:=by
 obtain⟨i,az,ak⟩:=af2 aC;simp[sizeOf,typeInfo,az,ak]
theorem amP {t:TypeId} {z:List U} (ax:hY P t=some z) :∃ i v,P.info? t=some i/\i.zero=some v/\v.cells.toList.all Value.oneCell'=true/\z=v.cells.toList.map o2:=by
 unfold hY at ax;cases az:P.info? t with
 | none=>rw[az] at ax; cases ax
 | some i=>
  rw[az] at ax;simp only[Option.bind_some] at ax;cases ap:i.zero with
  | none=>rw[ap] at ax; cases ax
  | some v=>
   rw[ap] at ax;simp only[Option.bind_some] at ax;split at ax
   ·rename_i ad;exact⟨i,v,rfl,ap,ad,by simpa using ax.symm⟩
   ·cases ax
theorem Xk {t:TypeId} {i:TypeInfo} {v:Value} (az:P.info? t=some i) (ap:i.zero=some v) :(zeroValue t).run P w=.ok v w:=by
 simp[zeroValue,typeInfo,az,ap]
theorem aN.o2 (v:Value) :aN w R h μ (o2 v) v:=by
 cases v with
 | bool b=>exact .bool _
 | int k n=>exact .int _ _
 | string s=>exact .str _
 | pointer a=>cases a<;>first | exact .kk | exact .bad _
 | slice a l c=>
  simp only[bY.o2];split
  ·exact .aH
  ·exact .bad _
 | map r=>cases r<;>first | exact .iI | exact .bad _
 | nilFunc=>exact .ki
 | nilIface=>exact .kj
 | func fn first gn=>
  simp only[bY.o2];split
  ·rename_i f ad ae;have aQ:first=#[] :=by simpa using ad
   have bx:gn=#[] :=by simpa using ae
   subst aQ bx;exact .fn _ [] [] #[] #[] rfl rfl (fun _ _ _ aR=>by simp at aR) (fun _ _ _ aR=>by simp at aR)
  ·exact .bad _
 | _=>exact .bad _
theorem aN.we (v:Value) :aN w R h μ (we v) v:=by
 unfold bY.we;split
 ·rename_i cs;split
  ·rename_i cY;refine .aG _ _ (by simp) (fun j v ai=>?_) (fun j c v ah lN=>?_)
   ·rw[List.all_eq_true] at cY;exact cY v (by have:=Array.mem_of_getElem? ai; simpa using this)
   ·rw[List.getElem?_map] at ah;simp only[Array.getElem?_toList,lN,Option.map_some,Option.some.injEq] at ah;subst ah;exact aN.o2 v
  ·exact .bad _
 ·rename_i vs;refine .bv _ _ (by simp) (fun j c v ah lN=>?_);rw[List.getElem?_map] at ah;simp only[Array.getElem?_toList,lN,Option.map_some,Option.some.injEq] at ah;subst ah;exact aN.o2 v
 ·exact aN.o2 v
theorem aN.one {c:U} {v:Value} (ap:aN w R h μ c v) (ad:c.one=true) :v.oneCell'=true:=by
 cases ap<;>first | rfl | (simp[U.one] at ad)
theorem Fs {c:U} {v:Value} {cs:List U} (ap:aN w R h μ c v) (ah:c.cells=some cs) :
  v.cells.size=cs.length/\∀ (j:Nat) (x:U),cs[j]? = some x->∃ u:Value,v.cells[j]? = some u/\u.oneCell'=true/\aN w R h μ x u:=by
 have ko:∀ (c:U) (v:Value),aN w R h μ c v->v.cells=#[v]->v.oneCell'=true->∀ cs,cs=[c]->
   v.cells.size=cs.length/\∀ (j:Nat) (x:U),cs[j]? = some x->∃ u:Value,v.cells[j]? = some u/\u.oneCell'=true/\aN w R h μ x u:=by
  intro c v ap kz ad cs cY;subst cY;rw[kz];refine⟨rfl,fun j x ag=>?_⟩;cases j with
  | zero=>simp at ag; subst ag; exact⟨v,rfl,ad,ap⟩
  | succ j=>simp at ag
 cases ap with
 | aG cs' vs al ad ap=>
  simp only[U.cells,Option.some.injEq] at ah; subst ah;refine⟨al,fun j x ag=>?_⟩;have ai:j<vs.size:=by rw[al]; exact (List.getElem?_eq_some_iff.1 ag).1
  exact⟨vs[j],by simp[Value.cells,ai],ad j _ (by simp[ai]),ap j x _ ag (by simp[ai])⟩
 | bv cs' vs al ap=>simp[U.cells] at ah
 | bad v=>simp[U.cells] at ah
 | bool b=>exact ko _ _ (.bool b) rfl rfl _ (by simpa [U.cells] using ah.symm)
 | int k n=>exact ko _ _ (.int k n) rfl rfl _ (by simpa [U.cells] using ah.symm)
 | str bs=>exact ko _ _ (.str bs) rfl rfl _ (by simpa [U.cells] using ah.symm)
 | kk=>exact ko _ _ .kk rfl rfl _ (by simpa [U.cells] using ah.symm)
 | aH=>exact ko _ _ .aH rfl rfl _ (by simpa [U.cells] using ah.symm)
 | iI=>exact ko _ _ .iI rfl rfl _ (by simpa [U.cells] using ah.symm)
 | ki=>exact ko _ _ .ki rfl rfl _ (by simpa [U.cells] using ah.symm)
 | kj=>exact ko _ _ .kj rfl rfl _ (by simpa [U.cells] using ah.symm)
 | ptr b off sz cs' m af hm=>exact ko _ _ (.ptr b off sz cs' m af hm) rfl rfl _ (by simpa [U.cells] using ah.symm)
 | mT b off sz a aw=>exact ko _ _ (.mT b off sz a aw) rfl rfl _ (by simpa [U.cells] using ah.symm)
 | bK cs' off blk o ez ef ap=>exact ko _ _ (.bK cs' off blk o ez ef ap) rfl rfl _ (by simpa [U.cells] using ah.symm)
 | aq z b off len cap sz cap' cs' m af hm al au ef=>exact ko _ _ (.aq z b off len cap sz cap' cs' m af hm al au ef) rfl rfl _ (by simpa [U.cells] using ah.symm)
 | ht z b off len cap sz cap' a al ef aw=>exact ko _ _ (.ht z b off len cap sz cap' a al ef aw) rfl rfl _ (by simpa [U.cells] using ah.symm)
 | iN z b off sz a cs' m af hm=>exact ko _ _ (.iN z b off sz a cs' m af hm) rfl rfl _ (by simpa [U.cells] using ah.symm)
 | aX z es blk off cap ez al ax ef ap=>exact ko _ _ (.aX z es blk off cap ez al ax ef ap) rfl rfl _ (by simpa [U.cells] using ah.symm)
 | fZ z a cap=>exact ko _ _ (.fZ z a cap) rfl rfl _ (by simpa [U.cells] using ah.symm)
 | fn f abI zb fs cs' aE ef ad ae=>exact ko _ _ (.fn f abI zb fs cs' aE ef ad ae) rfl rfl _ (by simpa [U.cells] using ah.symm)
 | mp b m af hm=>exact ko _ _ (.mp b m af hm) rfl rfl _ (by simpa [U.cells] using ah.symm)
 | it b m af hm=>exact ko _ _ (.it b m af hm) rfl rfl _ (by simpa [U.cells] using ah.symm)
 | hq t c v ap=>exact ko _ _ (.hq t c v ap) rfl rfl _ (by simpa [U.cells] using ah.symm)
 | hj l=>exact ko _ _ (.hj l) rfl rfl _ (by simpa [U.cells] using ah.symm)
theorem Addr.mq (b o n:Nat) :(⟨b,o,none⟩:Addr).add n=⟨b,o+n,none⟩:=by unfold Addr.add; split<;>simp_all
theorem ajV (rel:bI R B w h μ) {p:U} {uq:Value} {cs:List U} {off:Nat} (ay:reach h p=some (cs,off)) (av:aN w R h μ p uq) :
  ∃ blk o,uq=.pointer (some ⟨blk,o+off,none⟩)/\∀ (j:Nat) (c:U),cs[j]? = some c->∃ v:Value,w.cell? ⟨blk,o+j,none⟩=some v/\v.oneCell'=true/\aN w R h μ c v:=by
 cases av with
 | ptr b HG sz cs' m af hm=>
  simp only[reach,af,ite_true,Option.some.injEq,Prod.mk.injEq] at ay;obtain⟨rfl,rfl⟩:=ay;have ed:=rel.blk b m hm;rw[af] at ed;obtain⟨ad,ae,arr,t,eU,aj,aF,a6,bu⟩:=ed;refine⟨m.r,m.s,rfl,fun j c ai=>?_⟩;obtain⟨v,a2,bd,b4⟩:=bu j c ai;exact⟨v,by simp[World.cell?,aj,a2],bd,b4⟩
 | mT b HG sz a aw=>
  unfold reach at ay;rcases aw with aw | ⟨n,cs',aw,aK⟩
  ·simp[aw] at ay
  ·simp only[aw] at ay;split at ay
   ·omega
   ·cases ay
 | bK cs' HG blk o ez ah ap=>
  simp only[reach,Option.some.injEq,Prod.mk.injEq] at ay;obtain⟨rfl,rfl⟩:=ay;exact⟨blk,o,rfl,fun j c ai=>⟨ez j,(ah j (List.getElem?_eq_some_iff.1 ai).1).here,(ah j (List.getElem?_eq_some_iff.1 ai).1).one,ap j c ai⟩⟩
 | _=>simp[reach] at ay
theorem akl {t:TypeId} {cs:List U} {off:Nat} {c:U} (av:ic P t cs off=some c) {blk o:Nat}
  (ah:∀ (j:Nat) (x:U),cs[j]? = some x->∃ v:Value,w.cell? ⟨blk,o+j,none⟩=some v/\v.oneCell'=true/\aN w R h μ x v) :
  ∃ v,(loadVar t ⟨blk,o+off,none⟩).run P w=.ok v w/\aN w R h μ c v:=by
 unfold ic at av;cases oQ:eo P t with
 | none=>rw[oQ] at av; cases av
 | some b=>
  rw[oQ] at av;cases b with
  | false=>
   simp only at av;obtain⟨v,ad,_,aj⟩:=ah off c av;exact⟨v,by simp[loadVar,H8 oQ,ad],aj⟩
  | true=>
   cases aC:cu P t with
   | none=>rw[aC] at av; cases av
   | some n=>
    rw[aC] at av;simp only at av;split at av
    ·rename_i dY;simp only[Option.some.injEq] at av;subst av;have xK:∀ j,j<n->∃ v,w.cell? ⟨blk,o+(off+j),none⟩=some v/\v.oneCell'=true/\aN w R h μ (cs.getD (off+j) .bad) v:=by
      intro j ai;have aK:off+j<cs.length:=by omega
      have:=ah (off+j) cs[off+j] (by simp[aK]);simpa [List.getD,aK] using this
     have ap:∃ f:Nat->Value,∀ j,j<n->w.cell? ⟨blk,o+(off+j),none⟩=some (f j)/\(f j).oneCell'=true/\aN w R h μ (cs.getD (off+j) .bad) (f j) :=by
      refine⟨fun j=>if ai:j<n then Classical.choose (xK j ai) else undef,fun j ai=>?_⟩;simp only[ai,dif_pos];exact Classical.choose_spec (xK j ai)
     obtain⟨f,aE⟩:=ap;have al:(loadCells ⟨blk,o+off,none⟩ n).run P w=.ok ((List.range n).map f).toArray w:=by
      have:=run_loadCells_list (P:=P) w ⟨blk,o+off,none⟩ ((List.range n).map f) (fun j v ai=>by
       rw[List.getElem?_map] at ai;have jM:j<n:=by
        rcases Nat.lt_or_ge j n with ad | ad
        ·exact ad
        ·rw[List.getElem?_eq_none (by simpa using ad)] at ai; cases ai
       rw[List.getElem?_range jM] at ai;simp only[Option.map_some,Option.some.injEq] at ai;rw[Addr.mq,<-ai,Nat.add_assoc];exact (aE j jM).1)
      simpa using this
     refine⟨.agg ((List.range n).map f).toArray,by simp[loadVar,H8 oQ,fD aC,al],.aG _ _ (by simp; omega) (fun j v ai=>?_) (fun j c v ef ai=>?_)⟩
     ·simp only[List.getElem?_toArray,List.getElem?_map] at ai;have jM:j<n:=by
       rcases Nat.lt_or_ge j n with ad | ad
       ·exact ad
       ·rw[List.getElem?_eq_none (by simpa using ad)] at ai; cases ai
      rw[List.getElem?_range jM] at ai;simp only[Option.map_some,Option.some.injEq] at ai;rw[<-ai]; exact (aE j jM).2.1
     ·simp only[List.getElem?_toArray,List.getElem?_map] at ai;have jM:j<n:=by
       rcases Nat.lt_or_ge j n with ad | ad
       ·exact ad
       ·rw[List.getElem?_eq_none (by simpa using ad)] at ai; cases ai
      rw[List.getElem?_range jM] at ai;simp only[Option.map_some,Option.some.injEq] at ai;rw[List.getElem?_take_of_lt jM,List.getElem?_drop] at ef;have:=(aE j jM).2.2;rw[List.getD,ef] at this;rw[<-ai]; simpa using this
    ·cases av
theorem Vm (rel:bI R B w h μ) {t:TypeId} {p:U} {uq:Value} {c:U} (al:sy P h t p=some c) (av:aN w R h μ p uq) :
  ∃ v,(Instr.loadAt t uq).run P w=.ok v w/\aN w R h μ c v:=by
 unfold sy at al;cases ay:reach h p with
 | none=>rw[ay] at al; cases al
 | some x=>
  obtain⟨cs,off⟩:=x;rw[ay] at al;obtain⟨blk,o,rfl,ah⟩:=ajV rel ay av;obtain⟨v,ad,ae⟩:=akl al ah;exact⟨v,by simp[Instr.loadAt,Instr.sureAddr,ad],ae⟩
end

section
variable {P:Program} {w:World} {R:Nat->Prop} {B:Nat} {h:aM} {μ:cg}
theorem Xj (P:Program) (g o:Nat) (t:TypeId) (eU:Nat × Nat) :∀ (vs:List Value) (i:Nat) (il:Array Value) (w:World),w.heap[g]? = some (.cells il t eU)->(eU=(0,0)\/il.size<=eU.1)->
  o+i+vs.length<=il.size->(∀ v∈vs,v.oneCell'=true)->
  (storeCells ⟨g,o,none⟩ vs i).run P w=.ok () (w.setRow g (il.toList.take (o+i)++vs++il.toList.drop (o+i+vs.length)).toArray)
 | [],i,il,w,aw,_,_,_=>by
  simp only[storeCells,List.append_nil,List.length_nil,Nat.add_zero,List.take_append_drop,Array.toArray_toList];rw[setRow_self w g il t eU aw];rfl
 | v::rest,i,il,w,aw,oa,al,ad=>by
  have az:o+i<il.size:=by simp at al; omega
  have ac2:(⟨g,o,none⟩:Addr).add i=⟨g,o+i,none⟩:=Addr.mq _ _ _;have mE:w.cell? ⟨g,o+i,none⟩=some il[o+i] :=by simp[World.cell?,aw,az]
  have adT:w.frozen? ⟨g,o+i,none⟩=false:=by
   obtain⟨cG,gF⟩:=eU;rcases oa with oa | oa
   ·cases oa; simp[World.frozen?,aw]
   ·have:¬ cG<=o+i:=by simp at oa; omega
    simp[World.frozen?,aw,this]
  have b3:(store ((⟨g,o,none⟩:Addr).add i) v).run P w=.ok () (w.setRow g (il.setIfInBounds (o+i) v)) :=by
   rw[ac2,run_store P w _ v _ (ad v (by simp)),mE];simp[adT,setCell_eq_setRow w g (o+i) il t eU v aw]
  have aS:=Xj P g o t eU rest (i+1) (il.setIfInBounds (o+i) v) (w.setRow g (il.setIfInBounds (o+i) v)) (setRow_heap w g il _ t _ aw) (by simpa using oa) (by simp at al ⊢; omega) (fun x ag=>ad x (by simp[ag]));simp only[storeCells,Sem.run_bind,b3,Result.andThen_ok,aS,setRow_setRow];congr 3;have:=list_seg_step il.toList (o+i) v rest (by simp at al ⊢; omega);simpa [Nat.add_assoc,Nat.add_comm 1] using this
theorem yH {cs vs:List U} {k:Nat} (ar:k<=cs.length) :(bg cs k vs).length=max cs.length (k+vs.length) :=by
 unfold bg;simp only[List.length_append,List.length_take,List.length_drop];omega
theorem XB {cs vs:List U} {k j:Nat} (ar:k<=cs.length) :(bg cs k vs)[j]? = if j<k then cs[j]? else if j<k+vs.length then vs[j - k]? else cs[j]?:=by
 unfold bg;rw[List.append_assoc];by_cases ad:j<k
 ·rw[List.getElem?_append_left (by simp; omega),List.getElem?_take_of_lt ad,if_pos ad]
 ·rw[List.getElem?_append_right (by simp; omega),if_neg ad];simp only[List.length_take,Nat.min_eq_left ar];by_cases ae:j<k+vs.length
  ·rw[List.getElem?_append_left (by omega),if_pos ae]
  ·rw[List.getElem?_append_right (by omega),if_neg ae,List.getElem?_drop];congr 1; omega
theorem yR (rel:bI R B w h μ) {b sz k:Nat} {cs cvs:List U} {m:M} {vs:List Value} (af:h.f b=.cells sz cs) (hm:μ b=some m) (ar:k<=sz)
  (al:vs.length=cvs.length) (eh:m.s+max sz (k+cvs.length)<=m.T)
  (ap:∀ (j:Nat) (c:U),cvs[j]? = some c->∃ v:Value,vs[j]? = some v/\v.oneCell'=true/\aN w R h μ c v) :
  ∃ w',(storeCells ⟨m.r,m.s+k,none⟩ vs).run P w=.ok () w'/\c5 w h μ w' (h.set b (.cells (max sz (k+cvs.length)) (bg cs k cvs))) μ ∧
   bI R B w' (h.set b (.cells (max sz (k+cvs.length)) (bg cs k cvs))) μ:=by
 have ed:=rel.blk b m hm;rw[af] at ed;obtain⟨bD,eM,arr,t,eU,ay,aB,oa,ah⟩:=ed;have ad:∀ v∈vs,v.oneCell'=true:=by
  intro v h7;obtain⟨j,ai,rfl⟩:=List.getElem_of_mem h7;obtain⟨v,a2,bd,_⟩:=ap j (cvs[j]'(by omega)) (by simp);rw[List.getElem?_eq_getElem ai] at a2;cases a2;exact bd
 have fJ:=Xj P m.r (m.s+k) t eU vs 0 arr w ay (by rw[aB]; exact oa.imp id Nat.le_of_lt) (by omega) ad;simp only[Nat.add_zero] at fJ;have q7:(arr.toList.take (m.s+k)++vs++arr.toList.drop (m.s+k+vs.length)).toArray.size=arr.size:=by
  simp only[List.size_toArray,List.length_append,List.length_take,List.length_drop,Array.length_toList];omega
 have ew:=rel.write (w':=w.setRow m.r (arr.toList.take (m.s+k)++vs++arr.toList.drop (m.s+k+vs.length)).toArray) (cs':=bg cs k cvs) (sz':=max sz (k+cvs.length)) af hm ay aB oa
  rfl rfl rfl (by simp[World.setRow]) (setRow_heap w m.r arr _ t eU ay) (fun k' e4=>setRow_other w m.r k' _ e4) q7
  (by rw[yH (by omega),bD]) (by omega) (by omega) (fun j c ai=>?_)
 ·exact⟨_,fJ,ew.1,ew.2⟩
 ·rw[XB (by omega)] at ai;simp only[List.getElem?_toArray];rw[List.append_assoc];split at ai
  ·rename_i aK;obtain⟨v,a2,bd,b4⟩:=ah j c ai;refine⟨v,?_,bd,b4⟩;rw[List.getElem?_append_left (by simp; omega),List.getElem?_take_of_lt (by omega)];simpa using a2
  ·rename_i vz;split at ai
   ·rename_i aK;obtain⟨v,a2,bd,b4⟩:=ap _ c ai;refine⟨v,?_,bd,b4⟩;have xW:min (m.s+k) arr.size=m.s+k:=by omega
    rw[List.getElem?_append_right (by simp; omega)];simp only[List.length_take,Array.length_toList,xW];rw[List.getElem?_append_left (by omega),<-a2];congr 1; omega
   ·rename_i ao6;obtain⟨v,a2,bd,b4⟩:=ah j c ai;refine⟨v,?_,bd,b4⟩;have xW:min (m.s+k) arr.size=m.s+k:=by omega
    rw[List.getElem?_append_right (by simp; omega)];simp only[List.length_take,Array.length_toList,xW];rw[List.getElem?_append_right (by omega),List.getElem?_drop];have:(m.s+k+vs.length+(m.s+j - (m.s+k) - vs.length))=m.s+j:=by omega
    rw[this];simpa using a2
theorem XI (rel:bI R B w h μ) {t:TypeId} {p v:U} {uq pf:Value} {h' : aM} (ak:wE P h t p v=some h') (av:aN w R h μ p uq) (ap:aN w R h μ v pf) :
  ∃ w',(Instr.storeAt t uq pf).run P w=.ok () w'/\c5 w h μ w' h' μ/\bI R B w' h' μ:=by
 unfold wE at ak;split at ak
 ·rename_i b off sz vs n lF aC;obtain⟨hX,jb⟩:=Fs ap lF;cases af:h.f b with
  | cells m cs=>
   rw[af] at ak;simp only at ak;split at ak
   ·rename_i jJ;obtain⟨rfl,bD,eh⟩:=jJ;simp only[Option.some.injEq] at ak;subst ak;cases av with
    | ptr bc HG sz' cs' b9 bJ hm=>
     have ed:=rel.blk b b9 hm;rw[af] at ed;have eM:=ed.2.1;obtain⟨w',ad,ae,aj⟩:=yR (P:=P) rel (cvs:=vs) (vs:=pf.cells.toList) (k:=off) af hm (by omega) (by simpa using hX) (by omega)
      (fun j c ai=>by obtain⟨u,a2,bd,b4⟩:=jb j c ai; exact⟨u,by simpa using a2,bd,b4⟩)
     have mK:max m (off+vs.length)=m:=by omega
     rw[mK] at ae aj;refine⟨w',?_,ae,aj⟩;have bV:¬ (pf.cells.size≠n) :=by omega
     simp[Instr.storeAt,Instr.sureAddr,storeVar,fD aC,bV,ad]
    | mT bc HG sz' a aw=>
     rcases aw with aw | ⟨hs,cs',aw,aK⟩
     ·rw[aw] at af; cases af
     ·rw[aw] at af; cases af; omega
   ·cases ak
  | _=>rw[af] at ak; cases ak
 ·cases ak
theorem Fa (rel:bI R B w h μ) {cs:List U} {vs:Array Value} (t:TypeId) (al:vs.size=cs.length)
  (ap:∀ (j:Nat) (c:U),cs[j]? = some c->∃ v:Value,vs[j]? = some v/\v.oneCell'=true/\aN w R h μ c v) :
  let h':=h.push (.cells cs.length cs)
  let μ':=bw μ h.n (some ⟨w.heap.size,0,vs.size⟩)
  let w':=w.alloc (.cells vs t)
  c5 w h μ w' h' μ'/\bI R B w' h' μ'/\∀ off,aN w' R h' μ' (.ptr h.n off cs.length) (.pointer (some ⟨w.heap.size,off,none⟩)) :=by
 intro h' μ' w';have:=rel.push (w':=w') cs vs t rfl rfl rfl rfl (by omega) ap;refine⟨this.1,this.2,fun off=>?_⟩;have av:=aN.ptr (w:=w') (R:=R) (h:=h') (μ:=μ') h.n off cs.length cs ⟨w.heap.size,0,vs.size⟩ (by simp[h',eb,ft]) (by simp[μ']);simpa using av
theorem YQ {t:TypeId} {z:List U} (ax:hY P t=some z) :∃ i v,P.info? t=some i/\i.zero=some v/\v.cells.size=z.length ∧
  ∀ (j:Nat) (c:U),z[j]? = some c->∃ u:Value,v.cells[j]? = some u/\u.oneCell'=true/\aN w R h μ c u:=by
 obtain⟨i,v,az,ap,ad,rfl⟩:=amP ax;refine⟨i,v,az,ap,by simp,fun j c ai=>?_⟩;rw[List.getElem?_map] at ai;cases aL:v.cells[j]? with
 | none=>simp[aL] at ai
 | some u=>
  simp[aL] at ai;subst ai;rw[List.all_eq_true] at ad;exact⟨u,rfl,ad u (by have:=Array.mem_of_getElem? aL; simpa using this),aN.o2 u⟩
theorem Q3 {x:U} {bF:Value} {k:Nat} {c:U} (ah:m7 x k=some c) (ag:aN w R h μ x bF) :
  ∃ a,bF=.pointer (some a)/\aN w R h μ c (.pointer (some (a.add k))) :=by
 cases ag with
 | ptr b off sz cs m af hm=>
  simp only[m7,Option.some.injEq] at ah; subst ah;refine⟨_,rfl,?_⟩;rw[Addr.mq,Nat.add_assoc];exact .ptr b _ sz cs m af hm
 | mT b off sz a aw=>
  simp only[m7,Option.some.injEq] at ah; subst ah;exact⟨a,rfl,.mT _ _ _ _ aw⟩
 | bK cs off blk o ez ef ap=>
  simp only[m7,Option.some.injEq] at ah; subst ah;refine⟨_,rfl,?_⟩;rw[Addr.mq,Nat.add_assoc];exact .bK cs _ blk o ez ef ap
 | _=>simp[m7] at ah
theorem RL {s:TypeId} {f:Nat} {fd:Field} (aE:xr P s f=some fd) :∃ fs,P.underlying s=some (.struct fs)/\fs[f]? = some fd:=by
 unfold xr at aE;split at aE
 ·rename_i fs aL; exact⟨fs,aL,aE⟩
 ·cases aE
theorem abJ {s:TypeId} {x c:U} {bF:Value} {f:Nat} (ah:FF P s x f=some c) (ag:aN w R h μ x bF) :
  ∃ v,(Instr.fieldAt s bF f).run P w=.ok v w/\aN w R h μ c v:=by
 unfold FF at ah;split at ah
 ·rename_i fd aE;obtain⟨fs,aL,tF⟩:=RL aE;split at ah
  ·rename_i n aC;obtain⟨a,rfl,ap⟩:=Q3 ah ag;refine⟨_,?_,ap⟩;simp[Instr.fieldAt,cr aL,tF,Instr.sureAddr,fieldPlace,fD aC]
  ·cases ah
 ·cases ah
theorem rW {x:U} {bF:Value} {n:Int} (az:asInt x=some n) (ag:aN w R h μ x bF) :∃ k,bF=.int k n:=by
 cases ag<;>simp[asInt] at az;subst az;exact⟨_,rfl⟩
theorem afZ {t:TypeId} {x eP c:U} {bF DB:Value} (ah:Dx P t x eP=some c) (ag:aN w R h μ x bF) (az:aN w R h μ eP DB) :
  ∃ v,(Instr.indexAt t bF DB).run P w=.ok v w/\aN w R h μ c v:=by
 unfold Dx at ah;split at ah
 ·rename_i len e i aL dP;obtain⟨k,rfl⟩:=rW dP az;cases ax:cu P e with
  | none=>rw[ax] at ah; cases ah
  | some z=>
   rw[ax] at ah;simp only at ah;split at ah
   ·rename_i af;obtain⟨a,rfl,ap⟩:=Q3 ah ag;refine⟨_,?_,ap⟩;simp[Instr.indexAt,asIntOf,cr aL,Instr.sureAddr,af,fD ax]
   ·cases ah
 ·rename_i e i aL dP;obtain⟨k,rfl⟩:=rW dP az;split at ah
  ·rename_i z du b off len cap sz ax;split at ah
   ·rename_i af;obtain⟨rfl,af⟩:=af;simp only[Option.some.injEq] at ah; subst ah;cases ag with
    | aq _ _ _ _ _ _ cap' cs m bJ hm al au dn=>
     refine⟨_,?_,aN.ptr b (off+i.toNat*z) sz cs m bJ hm⟩;simp[Instr.indexAt,asIntOf,cr aL,af,fD ax,Addr.mq,Nat.add_assoc]
    | iN=>simp at af; omega
    | ht _ _ _ _ _ _ cap' a al dn aw=>
     refine⟨_,?_,aN.mT b _ sz (a.add (i.toNat*z)) aw⟩;simp[Instr.indexAt,asIntOf,cr aL,af,fD ax]
   ·cases ah
  ·rename_i z du es ax;split at ah
   ·rename_i af;obtain⟨rfl,af⟩:=af;cases am:es[i.toNat]? with
    | none=>rw[am] at ah; cases ah
    | some fy=>
     rw[am] at ah;simp only[Option.map_some,Option.some.injEq] at ah; subst ah;have aK:i.toNat<es.length:=(List.getElem?_eq_some_iff.1 am).1;have cZ:(0<=i/\i<(es.length:Int)) :=by omega
     cases ag with
     | aX _ _ blk off cap ez al Dt mE ap=>
      have adM:fy.length=z:=Dt _ (List.mem_of_getElem? am);refine⟨_,?_,aN.bK fy 0 blk (off+i.toNat*z) (ez i.toNat) (fun j ai=>?_) (ap _ _ am)⟩
      ·simp[Instr.indexAt,asIntOf,cr aL,cZ,fD ax,Addr.mq]
      ·have:=mE i.toNat j aK (by omega)
       rwa [Nat.add_assoc]
     | fZ=>simp at aK
   ·cases ah
  ·cases ah
 ·cases ah
end

end Go.bY

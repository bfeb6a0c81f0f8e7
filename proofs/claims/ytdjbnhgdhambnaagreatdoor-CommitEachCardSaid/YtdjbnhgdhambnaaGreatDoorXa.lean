/-
  The canonical machine, part A: its values, blocks, heap, and what one operation does.
-/
import Derived.WalkKit
import Derived.Below
import Derived.Laws.AppendOwn
import Derived.Laws.CopyRow
import Derived.Laws.IdiomCopy
import Derived.Laws.StructEq
set_option maxHeartbeats 16000000
set_option maxRecDepth 100000
set_option linter.unusedVariables false
set_option linter.unusedSimpArgs false
set_option linter.unnecessarySimpa false
namespace Go.bf
abbrev aC := TypeId
abbrev aT := Operand
abbrev aB := Value
abbrev bg := Program
abbrev cb := FuncId
abbrev aO := World
abbrev a6 := Oper
abbrev kE := MapEntry
abbrev cQ := IntKind
abbrev aH:=@List.getElem?_eq_some_iff
abbrev aI:=@List.take_of_length_le
abbrev aS:=@List.getElem?_append_left
abbrev bC:=@List.getElem?_eq_getElem
abbrev bp:=@List.getElem?_set_ne
abbrev aF:=@Nat.le_refl
abbrev bc:=@Option.some.injEq
abbrev aj:=@if_pos
abbrev ak:=@if_neg
abbrev bT:=@List.getElem?_set_self
abbrev bI:=@decide_eq_true_eq
abbrev cc:=@List.mem_iff_getElem?
abbrev bN:=@Bool.and_eq_true
abbrev cj:=@Nat.mul_le_mul_right
abbrev bX:=@List.getElem?_map
abbrev cg:=@List.length_append
abbrev cz:=@List.mem_of_getElem?
abbrev bW:=@decide_eq_true
abbrev cd:=@Option.some.inj
abbrev cp:=@decide_eq_false
abbrev cu:=@Option.map_some
abbrev dG:=@List.getElem?_take_of_lt
abbrev cI:=@List.length_take
abbrev cC:=@List.length_map
abbrev ej:=@List.getElem?_append_right
abbrev dV:=@List.getElem?_eq_none
abbrev c7:=@List.mem_filter
abbrev cF:=@List.mem_map
abbrev eC:=@BitVec.eq_of_toNat_eq
abbrev eH:=@BitVec.toNat_setWidth
abbrev du:=@List.length_cons
abbrev dk:=@List.map_append
abbrev dH:=@Nat.mod_eq_of_lt
abbrev gm:=@List.getD_eq_getElem?_getD
abbrev dh:=@List.map_cons
abbrev eD:=@List.take_add_one
abbrev g6:=@Array.getD_eq_getD_getElem?
abbrev eb:=@List.append_nil
abbrev bK:=@absurd
abbrev e3:=@BitVec.toNat_ofNat
abbrev hU:=@List.take_append_of_le_length
abbrev eK:=@List.not_mem_nil
abbrev dC:=@Nat.le_trans
abbrev fc:=@List.append_assoc
abbrev fb:=@Int.toNat_natCast
abbrev hp:=@Nat.shiftRight_eq_div_pow
abbrev eQ:=@List.mem_append
abbrev g8:=@List.getElem?_cons_zero
abbrev hT:=@Array.getElem?_eq_some_iff
abbrev gE:=@List.mem_of_mem_take
abbrev fO:=@List.mem_singleton
abbrev fl:=@List.take_length
abbrev ec:=@Nat.succ_mul
abbrev gn:=@List.getElem?_drop
abbrev cm:=@congrArg
abbrev ek:=@Nat.zero_le
abbrev hG:=@List.length_filter_le
abbrev il:=@List.length_eq_zero_iff
abbrev ik:=@List.getElem?_cons_succ
abbrev g9:=@List.getElem?_range
abbrev fW:=@List.all_eq_true
abbrev eI:=@Nat.add_mul
abbrev gR:=@List.flatten_cons
abbrev g7:=@List.ext_getElem?
abbrev gU:=@Option.getD_some
abbrev iY:=@List.take_append_drop
abbrev fX:=@List.mem_cons
abbrev kD:=@List.pairwise_iff_getElem
abbrev fB:=@Nat.lt_or_ge
abbrev jS:=@List.drop_eq_nil_of_le
abbrev gS:=@List.mem_range
abbrev lg:=@BitVec.toNat_ushiftRight
abbrev hI:=@List.length_nil
abbrev l5:=@List.drop_eq_getElem_cons
abbrev io:=@of_decide_eq_true
abbrev jp:=@List.flatten_append
abbrev nB:=@List.drop_append_of_le_length
abbrev jV:=@List.replicate_succ
abbrev jT:=@List.filter_sublist
abbrev im:=@List.nil_append
abbrev gT:=@Nat.zero_add
abbrev l4:=@Int.eq_ofNat_of_zero_le
abbrev iX:=@List.length_drop
abbrev iF:=@Nat.min_eq_left
abbrev nE:=@List.mem_or_eq_of_mem_set
abbrev l7:=@Nat.eq_of_beq_eq_true
abbrev jo:=@List.cons_append
abbrev jR:=@BitVec.toNat_umod
abbrev kA:=@Bool.false_eq_true
abbrev kB:=@List.filter_append
abbrev re:=@List.set_eq_take_append_cons_drop
abbrev oB:=@Array.getElem?_append_left
abbrev iE:=@Nat.add_assoc
abbrev pT:=@List.getElem?_concat_length
abbrev jU:=@List.length_set
abbrev kC:=@List.filter_cons
abbrev l8:=@Nat.lt_of_lt_of_le
abbrev nz:=@BitVec.ofInt_natCast
abbrev oF:=@List.set_append_right
abbrev nD:=@List.map_eq_nil_iff
abbrev q5:=@Array.getElem?_eq_getElem
abbrev pO:=@Array.getElem?_eq_none
abbrev pS:=@List.drop_of_length_le
abbrev lh:=@List.drop_zero
abbrev kz:=@Bool.and_self
abbrev jW:=@Nat.le_of_lt
abbrev oD:=@List.map_congr_left
abbrev iG:=@Nat.mod_lt
abbrev pP:=@Array.getElem?_toList
abbrev nC:=@List.getElem?_set
abbrev nF:=@List.pairwise_map
abbrev pR:=@Bool.or_eq_false_iff
abbrev nI:=@Nat.shiftLeft_eq
abbrev sR:=@List.getElem?_zip_eq_some
abbrev oG:=@Nat.lt_trichotomy
abbrev mR:=@List.take_zero
abbrev uM:=@Array.getElem?_setIfInBounds
abbrev mQ:=@List.take_take
abbrev sQ:=@List.eq_of_mem_replicate
abbrev uL:=@Array.getElem?_append_right
abbrev rc:=@List.pairwise_append
abbrev l6:=@List.map_nil
abbrev mP:=@List.map_take
abbrev sM:=@BitVec.toNat_shiftLeft
abbrev pQ:=@Bool.eq_false_iff
abbrev q6:=@Array.length_toList
abbrev rb:=@List.filter_eq_self
abbrev pW:=@Option.bind_some
abbrev rh:=@Option.isSome_none
abbrev pU:=@List.take_append
abbrev pV:=@Nat.div_eq_of_lt
abbrev nA:=@Bool.true_and
abbrev sT:=@List.mem_of_mem_drop
abbrev oC:=@List.mapM_cons
abbrev q7:=@BitVec.toNat_udiv
abbrev sK:=@Array.getElem?_push
abbrev sS:=@List.mem_map_of_mem
abbrev nG:=@Nat.add_zero
abbrev uS:=@List.getElem?_toArray
abbrev sX:=@Nat.add_sub_cancel
abbrev nH:=@Nat.mul_one
abbrev z2:=@Array.eq_empty_of_size_eq_zero
abbrev q9:=@Bool.or_eq_true
abbrev oE:=@List.map_map
abbrev sN:=@Bool.not_eq_true'
abbrev uU:=@List.length_pos_iff
abbrev ra:=@List.drop_take
abbrev q8:=@Bool.false_and
abbrev sL:=@BitVec.toNat_mul
abbrev sP:=@List.any_eq_true
abbrev oH:=@decide_true
abbrev uW:=@List.pairwise_cons
abbrev xw:=@Nat.le_of_ble_eq_true
abbrev s3:=@Option.pure_def
abbrev sU:=@List.range_succ
abbrev xp:=@List.length_singleton
abbrev Ad:=@Int.fdiv_eq_ediv_of_nonneg
abbrev uQ:=@List.count_append
abbrev xo:=@List.getElem?_of_mem
abbrev xt:=@List.mem_append_left
abbrev sO:=@Bool.not_false
abbrev z8:=@Array.getElem?_replicate
abbrev uX:=@Nat.min_eq_right
abbrev uT:=@List.isEmpty_iff
abbrev xm:=@List.flatMap_append
abbrev Em:=@Array.getElem?_setIfInBounds_ne
abbrev Ak:=@List.getElem?_replicate
abbrev An:=@List.pairwise_singleton
abbrev sV:=@List.sum_cons
abbrev xu:=@List.set_cons_zero
abbrev uP:=@Int.natCast_pow
abbrev uV:=@List.nodup_cons
abbrev xr:=@List.map_replicate
abbrev rf:=@Nat.le_succ
abbrev rg:=@Nat.pow_add
abbrev xv:=@List.size_toArray
abbrev xB:=@not_false_eq_true
abbrev xg:=@Array.mem_of_getElem?
abbrev sW:=@Nat.add_comm
abbrev s1:=@Nat.zero_mul
abbrev uR:=@List.drop_drop
abbrev sZ:=@Nat.sub_self
abbrev z7:=@Array.getElem?_modify
abbrev Ao:=@List.set_getElem_self
abbrev uN:=@Bool.and_false
abbrev Al:=@List.mem_cons_of_mem
abbrev xh:=@BitVec.toNat_add
abbrev xj:=@Bool.not_eq_true
abbrev Ag:=@List.count_singleton
abbrev xx:=@Nat.le_of_not_lt
abbrev sY:=@Nat.one_mul
abbrev Aq:=@List.takeWhile_cons
abbrev xn:=@List.foldl_cons
abbrev Ex:=@List.getElem?_eq_none_iff
abbrev xi:=@Bool.eq_iff_iff
abbrev z1:=@Array.append_assoc
abbrev z6:=@Array.getElem?_map
abbrev uZ:=@Nat.sub_zero
abbrev u1:=@decide_false
abbrev Ae:=@Int.natCast_nonneg
abbrev Ab:=@BitVec.toNat_ofInt
abbrev EA:=@List.length_erase_of_mem
abbrev xl:=@List.drop_left
abbrev EN:=@Nat.exists_eq_add_of_le
abbrev Aj:=@List.foldl_append
abbrev Af:=@List.any_eq_false
abbrev ES:=@Option.map_eq_some_iff
abbrev u0:=@Prod.mk.inj
abbrev uY:=@Nat.mul_mod
abbrev EB:=@List.length_pos_of_mem
abbrev xk:=@Bool.not_true
abbrev xq:=@List.map_drop
abbrev Ah:=@List.drop_append
abbrev Aw:=@Nat.max_eq_right
abbrev Aa:=@BitVec.toNat_and
abbrev Am:=@List.nodup_range
abbrev EH:=@List.singleton_append
abbrev Ai:=@List.find?_cons
abbrev ER:=@Nat.pow_le_pow_right
abbrev xy:=@Nat.mul_comm
abbrev Av:=@Nat.max_eq_left
abbrev Mg:=@Nat.and_two_pow_sub_one_eq_mod
abbrev ED:=@List.mem_erase_of_ne
abbrev Mh:=@Nat.shiftLeft_add_eq_or_of_lt
abbrev Ez:=@List.getElem_of_mem
abbrev EJ:=@List.take_succ_cons
abbrev EK:=@List.zip_eq_zipWith
abbrev xA:=@Nat.pow_mod
abbrev EM:=@Nat.eq_or_lt_of_le
abbrev EC:=@List.mem_cons_self
abbrev EG:=@List.set_cons_succ
abbrev Es:=@Bool.true_eq_false
abbrev Eo:=@BitVec.ofNat_toNat
abbrev ET:=@UInt8.toNat_ofNat'
abbrev Ac:=@Bool.false_or
abbrev En:=@Array.size_append
abbrev EO:=@Nat.mul_left_comm
abbrev EQ:=@Nat.mul_mod_right
abbrev EF:=@List.nodup_append
abbrev EI:=@List.take_sublist
abbrev Me:=@Array.mapM_eq_mapM_toList
abbrev Mf:=@List.mem_of_find?_eq_some
abbrev Mi:=@Option.isNone_iff_eq_none
abbrev Ar:=@Nat.beq_refl
abbrev Au:=@Nat.le_of_eq
abbrev Mj:=@Option.isSome_iff_exists
abbrev EE:=@List.mem_flatMap
abbrev Ew:=@List.drop_length
abbrev Ey:=@List.getElem_mem
abbrev EP:=@Nat.mul_mod_left
abbrev Eu:=@Int.natCast_ediv
abbrev Ep:=@BitVec.toNat_not
abbrev Ap:=@List.set_set
abbrev EL:=@Nat.div_le_self
abbrev Ax:=@Nat.min_def
abbrev Er:=@Bool.and_assoc
abbrev As:=@Nat.blt_eq
abbrev Ev:=@List.all_cons
open Go
inductive U where
 | bool (b:Bool)
 | int (k:cQ) (n:Int)
 | str (s:List UInt8)
 | h8 | af | gP | hP | hz
 | ah (cs:List U)
 | aZ (q:List U)
 | ptr (b g h:Nat)
 | bR (cs:List U) (g:Nat)
 | ad (j b g len cap h:Nat)
 | bj (j:Nat) (m:List (List U))
 | fn (f:cb) (first eZ:List U)
 | mp (b:Nat)
 | it (b:Nat)
 | fT (o:aC) (p:U)
 | fa (l:Nat)
 | bad
 deriving Inhabited
inductive am where
 | none
 | dead
 | cells (j:Nat) (cs:List U)
 | map (h:List (U × U × Nat)) (g:Nat)
 | iter (s:List UInt8) (pos:Nat)
 deriving Inhabited
inductive cq (alZ:Type) where
 | nil
 | node (l:cq alZ) (g:Option alZ) (r:cq alZ)
def cq.get {alZ:Type}:cq alZ->Nat->Option alZ
 | .nil,_=>none
 | .node l g r,n=>match Nat.beq n 0 with
  | true=>g
  | false=>match Nat.beq (n % 2) 1 with
   | true=>l.get (n / 2)
   | false=>r.get (n / 2 - 1)
def cq.ig {alZ:Type}:Nat->cq alZ->Nat->alZ->cq alZ
 | 0,h,_,_=>h
 | k+1,.nil,n,x=>match Nat.beq n 0 with
  | true=>.node .nil (some x) .nil
  | false=>match Nat.beq (n % 2) 1 with
   | true=>.node (cq.ig k .nil (n / 2) x) none .nil
   | false=>.node .nil none (cq.ig k .nil (n / 2 - 1) x)
 | k+1,.node l g r,n,x=>match Nat.beq n 0 with
  | true=>.node l (some x) r
  | false=>match Nat.beq (n % 2) 1 with
   | true=>.node (cq.ig k l (n / 2) x) g r
   | false=>.node l g (cq.ig k r (n / 2 - 1) x)
def cq.set {alZ:Type} (t:cq alZ) (n:Nat) (x:alZ) :cq alZ:=t.ig (n+1) n x
theorem h7 {a b:Nat} (h:¬ a=b) :Nat.beq a b=false:=by
 cases g:Nat.beq a b with
 | false=>rfl
 | true=>exact bK (l7 g) h
theorem pm {a b:Nat} (h:a=b) :Nat.beq a b=true:=by subst h;exact Ar a
theorem cq.vK {alZ:Type}:∀ (k:Nat) (t:cq alZ) (n:Nat) (x:alZ) (m:Nat),n<k->(t.ig k n x).get m=if m=n then some x else t.get m
 | 0,_,_,_,_,h=>by omega
 | k+1,.nil,n,x,m,h=>by
  unfold cq.ig;by_cases u:n=0
  ·subst u;simp only;unfold cq.get;by_cases g:m=0
   ·subst g;simp
   ·have:Nat.beq m 0=false:=h7 g;simp only[this,ak g];split<;>rfl
  ·have v:Nat.beq n 0=false:=h7 u;simp only[v];by_cases h1:n % 2=1
   ·have p:Nat.beq (n % 2) 1=true:=pm h1;simp only[p];unfold cq.get;by_cases g:m=0
    ·subst g;simp;omega
    ·have:Nat.beq m 0=false:=h7 g;simp only[this];by_cases j:m % 2=1
     ·have:Nat.beq (m % 2) 1=true:=pm j;simp only[this];rw[cq.vK k .nil (n / 2) x (m / 2) (by omega)];by_cases o:m=n
      ·subst o;simp
      ·rw[ak o,ak (by omega)];rfl
     ·have:Nat.beq (m % 2) 1=false:=h7 j;simp only[this];rw[ak (by intro q;subst q;exact j h1)];rfl
   ·have p:Nat.beq (n % 2) 1=false:=h7 h1;simp only[p];unfold cq.get;by_cases g:m=0
    ·subst g;simp;omega
    ·have:Nat.beq m 0=false:=h7 g;simp only[this];by_cases j:m % 2=1
     ·have:Nat.beq (m % 2) 1=true:=pm j;simp only[this];rw[ak (by intro q;subst q;exact h1 j)];rfl
     ·have:Nat.beq (m % 2) 1=false:=h7 j;simp only[this];rw[cq.vK k .nil (n / 2 - 1) x (m / 2 - 1) (by omega)];by_cases o:m=n
      ·subst o;simp
      ·rw[ak o,ak (by omega)];rfl
 | k+1,.node l w r,n,x,m,h=>by
  unfold cq.ig;by_cases u:n=0
  ·subst u;simp only;unfold cq.get;by_cases g:m=0
   ·subst g;simp
   ·have:Nat.beq m 0=false:=h7 g;simp only[this,ak g]
  ·have v:Nat.beq n 0=false:=h7 u;simp only[v];by_cases h1:n % 2=1
   ·have p:Nat.beq (n % 2) 1=true:=pm h1;simp only[p];unfold cq.get;by_cases g:m=0
    ·subst g;simp;omega
    ·have:Nat.beq m 0=false:=h7 g;simp only[this];by_cases j:m % 2=1
     ·have:Nat.beq (m % 2) 1=true:=pm j;simp only[this];rw[cq.vK k l (n / 2) x (m / 2) (by omega)];by_cases o:m=n
      ·subst o;simp
      ·rw[ak o,ak (by omega)]
     ·have:Nat.beq (m % 2) 1=false:=h7 j;simp only[this];rw[ak (by intro q;subst q;exact j h1)]
   ·have p:Nat.beq (n % 2) 1=false:=h7 h1;simp only[p];unfold cq.get;by_cases g:m=0
    ·subst g;simp;omega
    ·have:Nat.beq m 0=false:=h7 g;simp only[this];by_cases j:m % 2=1
     ·have:Nat.beq (m % 2) 1=true:=pm j;simp only[this];rw[ak (by intro q;subst q;exact h1 j)]
     ·have:Nat.beq (m % 2) 1=false:=h7 j;simp only[this];rw[cq.vK k r (n / 2 - 1) x (m / 2 - 1) (by omega)];by_cases o:m=n
      ·subst o;simp
      ·rw[ak o,ak (by omega)]
theorem cq.BI {alZ:Type} (t:cq alZ) (n:Nat) (x:alZ) (m:Nat) :(t.set n x).get m=if m=n then some x else t.get m:=cq.vK _ _ _ _ _ (by omega)
structure aE where
 n:Nat
 t:cq am
def aE.f (h:aE) (b:Nat) :am:=match h.t.get b with | some c=>c | none=>.none
def aE.empty:aE:=⟨0,.nil⟩
def bh {alZ:Type} (f:Nat->alZ) (i:Nat) (v:alZ) :Nat->alZ:=fun g=>if g=i then v else f g
def aE.push (h:aE) (c:am) :aE:=⟨h.n+1,h.t.set h.n c⟩
def aE.set (h:aE) (b:Nat) (c:am) :aE:=⟨h.n,h.t.set b c⟩
theorem iR (h:aE) (c:am) :(h.push c).n=h.n+1:=rfl
theorem hE (h:aE) (b:Nat) (c:am) :(h.set b c).n=h.n:=rfl
theorem dL (h:aE) (c:am) :(h.push c).f=bh h.f h.n c:=by
 funext b;simp only[aE.f,aE.push,bh,cq.BI];by_cases g:b=h.n
 ·simp[g]
 ·simp[g]
theorem de (h:aE) (b:Nat) (c:am) :(h.set b c).f=bh h.f b c:=by
 funext j;simp only[aE.f,aE.set,bh,cq.BI];by_cases g:j=b
 ·simp[g]
 ·simp[g]
theorem x8 (b:Nat) :aE.empty.f b=.none:=rfl
@[simp] theorem fJ {alZ:Type} (f:Nat->alZ) (i:Nat) (v:alZ) :bh f i v i=v:=by simp[bh]
theorem bE {alZ:Type} (f:Nat->alZ) (i j:Nat) (v:alZ) (h:j≠i) :bh f i v j=f j:=by simp[bh,h]
def U.one:U->Bool
 | .ah _ | .aZ _ | .bad=>false
 | _=>true
def U.cells:U->Option (List U)
 | .ah cs=>some cs
 | .aZ _ | .bad=>none
 | v=>some [v]
def lK:aB->U
 | .bool b=>.bool b
 | .int k n=>.int k n
 | .string s=>.str s.data.toList
 | .pointer a=>match a with | none=>.h8 | some _=>.bad
 | .slice a l c=>match a,l,c with | none,0,0=>.af | _,_,_=>.bad
 | .map r=>match r with | none=>.gP | some _=>.bad
 | .nilFunc=>.hP
 | .nilIface=>.hz
 | .func fn first eZ=>match fn,first.toList,eZ.toList with | .func f,[],[]=>.fn f [] [] | _,_,_=>.bad
 | _=>.bad
def qB:aB->U
 | .agg cs=>if cs.toList.all Value.oneCell' then .ah (cs.toList.map lK) else .bad
 | .tuple g=>.aZ (g.toList.map lK)
 | v=>lK v
def di (G:Nat->U) (sgZ:Nat->U) :aT->U
 | .tmp h=>sgZ h
 | .const j=>qB j
 | .func f=>.fn f [] []
 | .global g=>G g
def ds (P:bg) (t:aC) :Option Bool:=(P.underlying t).map fun d=>match d with | .struct _ | .array _ _=>true | _=>false
def b3 (P:bg) (t:aC) :Option Nat:=(P.info? t).map (·.size)
def gG (P:bg) (t:aC) :Option Nat:=(P.info? t).map (·.bytes)
def fV (P:bg) (t:aC) :Option (List U):=((P.info? t).bind (·.zero)).bind fun g=>if g.cells.toList.all Value.oneCell' then some (g.cells.toList.map lK) else none
def gb (P:bg) (t:aC) :Option aC:=match P.underlying t with | some (.slice e)=>some e | _=>none
def gg (P:bg) (t:aC) (cs:List U) (off:Nat) :Option U:=
 match ds P t,b3 P t with
 | some true,some n=>if off+n<=cs.length then some (.ah ((cs.drop off).take n)) else none
 | some false,_=>cs[off]?
 | _,_=>none
def lQ (h:aE) :U->Option (List U × Nat)
 | .ptr b g j=>match h.f b with
  | .cells n cs=>if n=j then some (cs,g) else none
  | _=>none
 | .bR cs g=>some (cs,g)
 | _=>none
def od (P:bg) (h:aE) (t:aC) (p:U) :Option U:=
 match lQ h p with
 | some (cs,g)=>gg P t cs g
 | none=>none
def aw (cs:List U) (off:Nat) (vs:List U) :List U:=cs.take off++vs++cs.drop (off+vs.length)
def qU (P:bg) (h:aE) (t:aC) (p v:U) :Option aE:=
 match p,v.cells,b3 P t with
 | .ptr b j o,some m,some n=>match h.f b with
  | .cells g cs=>if g=o/\m.length=n/\j+n<=g then some (h.set b (.cells g (aw cs j m))) else none
  | _=>none
 | _,_,_=>none
def asInt:U->Option Int
 | .int _ n=>some n
 | _=>none
def rH (P:bg) (s:aC) (f:Nat) :Option Field:=match P.underlying s with | some (.struct g)=>g[f]? | _=>none
def kM:U->Nat->Option U
 | .ptr b g h,k=>some (.ptr b (g+k) h)
 | .bR cs g,k=>some (.bR cs (g+k))
 | _,_=>none
def yc (P:bg) (s:aC) (x:U) (f:Nat) :Option U:=
 match rH P s f with
 | some g=>match b3 P g.type with
  | some (_+1)=>kM x g.offset
  | _=>none
 | none=>none
def vT (P:bg) (t:aC) (x m:U) :Option U:=
 match P.underlying t,asInt m with
 | some (.array len e),some i=>match b3 P e with
  | some g=>if 0<=i/\i<len then kM x (i.toNat*g) else none
  | none=>none
 | some (.slice e),some i=>match b3 P e,x with
  | some g,.ad h b o len _ p=>if g=h/\0<=i/\i<len then some (.ptr b (o+i.toNat*g) p) else none
  | some g,.bj h j=>if g=h/\0<=i then (j[i.toNat]?).map fun cs=>.bR cs 0 else none
  | _,_=>none
 | _,_=>none
def ef (h:Nat->Option (Nat × Nat)) (cells:List U) :List (Nat × U)->Option (List U)
 | []=>some cells
 | (i,m) ::rest=>match h i,m.cells with
  | some (g,size),some j=>if j.length=size/\g+size<=cells.length then ef h (aw cells g j) rest else none
  | _,_=>none
def wE (P:bg) (fs:Array Field) (i:Nat) :Option (Nat × Nat):=(fs[i]?).bind fun f=>(b3 P f.type).map fun n=>(f.offset,n)
def vn (P:bg) (t:aC) (parts:List (Nat × U)) :Option U:=
 match fV P t,P.underlying t with
 | some zero,some (.struct g)=>if !(g.toList.all fun f=>(b3 P f.type).isSome) then none else (ef (wE P g) zero parts).map .ah
 | some zero,some (.array _ e)=>match b3 P e with
  | some n=>(ef (fun i=>some (i*n,n)) zero parts).map .ah
  | none=>none
 | _,_=>none
def cy (zero:List U) :Nat->List U
 | 0=>[]
 | n+1=>zero++cy zero n
def xR (P:bg) (h:aE) (t:aC) (len:Nat) (parts:List (Nat × U)) :Option (U × aE):=
 match gb P t with
 | some e=>match b3 P e,fV P e with
  | some g,some zero=>if zero.length=g/\len*g<=16777216 then
    (ef (fun i=>some (i*g,g)) (cy zero len) parts).map fun cs=>(.ad g h.n 0 len len (len*g),h.push (.cells (len*g) cs))
   else none
  | _,_=>none
 | none=>none
def cn (op:BinOp) (k:cQ) (a:Int) (k' : cQ) (b:Int) :Option U:=
 match op with
 | .shl=>if b<0 then none else some (.int k (k.wrap (a*2 ^ min b.toNat k.bits)))
 | .shr=>if b<0 then none else some (.int k (a.fdiv (2 ^ min b.toNat k.bits)))
 | .add=>if k=k' then some (.int k (k.wrap (a+b))) else none
 | .sub=>if k=k' then some (.int k (k.wrap (a - b))) else none
 | .mul=>if k=k' then some (.int k (k.wrap (a*b))) else none
 | .quo=>if k=k'/\b≠0 then some (.int k (k.wrap (a.tdiv b))) else none
 | .rem=>if k=k'/\b≠0 then some (.int k (a.tmod b)) else none
 | .and=>if k=k' then some (.int k (k.wrap (BitVec.ofInt k.bits a &&& BitVec.ofInt k.bits b).toNat)) else none
 | .or=>if k=k' then some (.int k (k.wrap (BitVec.ofInt k.bits a ||| BitVec.ofInt k.bits b).toNat)) else none
 | .xor=>if k=k' then some (.int k (k.wrap (BitVec.ofInt k.bits a ^^^ BitVec.ofInt k.bits b).toNat)) else none
 | .andNot=>if k=k' then some (.int k (k.wrap (BitVec.ofInt k.bits a &&& ~~~BitVec.ofInt k.bits b).toNat)) else none
 | .eql=>if k=k' then some (.bool (a == b)) else none
 | .neq=>if k=k' then some (.bool (a != b)) else none
 | .lss=>if k=k' then some (.bool (decide (a<b))) else none
 | .leq=>if k=k' then some (.bool (decide (a<=b))) else none
 | .gtr=>if k=k' then some (.bool (decide (a > b))) else none
 | .geq=>if k=k' then some (.bool (decide (a ≥ b))) else none
def td (op:BinOp) (a b:List UInt8) :Option U:=
 match op with
 | .eql=>some (.bool (a == b))
 | .neq=>some (.bool (!(a == b)))
 | .lss=>some (.bool (Op.bytesLess a b))
 | .leq=>some (.bool (Op.bytesLess a b||a == b))
 | .gtr=>some (.bool (!(Op.bytesLess a b||a == b)))
 | .geq=>some (.bool (!Op.bytesLess a b))
 | .add=>if a.length+b.length<=9223372036854775807 then some (.str (a++b)) else none
 | _=>none
def dA (P:bg) :Nat->aC->U->U->Option Bool
 | 0,_,_,_=>none
 | d+1,o,x,y=>
  match P.underlying o,x,y with
  | some .bool,.bool a,.bool b=>some (a == b)
  | some (.int _),.int k a,.int p b=>if k=p then some (a == b) else none
  | some .string,.str a,.str b=>some (a == b)
  | some (.struct m),.ah g,.ah h=>if P.stoodInHeld o then none else eqFields P (dA P d) g h m.toList
  | some (.array n e),.ah g,.ah h=>match b3 P e with
   | some j=>n0 P (dA P d) e j g h n 0
   | none=>none
  | some (.slice _),.af,.af=>some true
  | some (.slice _),.af,.ad .. | some (.slice _),.af,.bj .. | some (.slice _),.ad ..,.af | some (.slice _),.bj ..,.af=>some false
  | _,_,_=>none
where
 eqFields (P:bg) (eq:aC->U->U->Option Bool) (g h:List U) :List Field->Option Bool
  | []=>some true
  | f::m=>if f.name= "_" then eqFields P eq g h m else
   match gg P f.type g f.offset,gg P f.type h f.offset with
   | some a,some b=>match eq f.type a b with
    | some true=>eqFields P eq g h m
    | some false=>some false
    | none=>none
   | _,_=>none
 n0 (P:bg) (eq:aC->U->U->Option Bool) (e:aC) (j:Nat) (g h:List U) :Nat->Nat->Option Bool
  | 0,_=>some true
  | n+1,i=>match gg P e g (i*j),gg P e h (i*j) with
   | some a,some b=>match eq e a b with
    | some true=>n0 P eq e j g h n (i+1)
    | some false=>some false
    | none=>none
   | _,_=>none
def rE (P:bg) (t:aC) :U->U->Bool
 | .ah _,.ah _=>!P.eqGuardType P.depth t
 | _,_=>true
def dP (P:bg) (op:BinOp) (t:aC) (x y:U) :Option U:=
 match x,y with
 | .int k a,.int g b=>cn op k a g b
 | .str a,.str b=>td op a b
 | x,y=>match op with
  | .eql=>if rE P t x y then (dA P 10000 t x y).map .bool else none
  | .neq=>if rE P t x y then (dA P 10000 t x y).map fun b=>.bool (!b) else none
  | _=>none
def qY (op:UnOp) (x:U) :Option U:=
 match op,x with
 | .not,.bool b=>some (.bool (!b))
 | .neg,.int k n=>some (.int k (k.wrap (0 - n)))
 | .xor,.int k n=>some (.int k (k.wrap (BitVec.ofInt k.bits (if k.signed then -1 else k.max) ^^^ BitVec.ofInt k.bits n).toNat))
 | _,_=>none
def ls (z:Nat) :Nat->List U->List (List U)
 | 0,_=>[]
 | n+1,cs=>cs.take z::ls z n (cs.drop z)
def hb (b:UInt8) :U:=.int .u8 b.toNat
def contents (h:aE) (z:Nat) :U->Option (List U × Nat)
 | .af=>some ([],0)
 | .bj g j=>if z=g then some (j.flatten,j.length) else none
 | .ad g b m len _ o=>match h.f b with
  | .cells n cs=>if n=o/\z=g then some ((cs.drop m).take (len*z),len) else none
  | _=>none
 | .str s=>if z=1 then some (s.map hb,s.length) else none
 | _=>none
def db:Nat:=140737488355328
def l2 (P:bg) (t:aC) :Option Nat:=((P.info? t).bind (·.zero)).map (·.cells.size)
def p8 (P:bg) (h:aE) (e:aC) (z by_:Nat) (s:U) (xs:List U) (n:Nat) :Option (U × aE):=
 if n=0 then (match s with | .af | .bj .. | .ad ..=>some (s,h) | _=>none)
 else if z=0\/by_=0\/l2 P e≠some z then none else match s with
  | .af=>if n*by_<=db then some (.ad z h.n 0 n n (n*z),h.push (.cells (n*z) xs)) else none
  | .ad o b g len cap j=>match h.f b with
   | .cells m cs=>
    if m=j/\z=o/\(len+n)*by_<=db then
     if len+n<=cap then some (.ad z b g (len+n) cap j,h.set b (.cells m (aw cs (g+len*z) xs)))
     else if g+cap*z<j then some (.ad z h.n 0 (len+n) (len+n) ((len+n)*z),h.push (.cells ((len+n)*z) ((cs.drop g).take (len*z)++xs)))
     else if g=0 then some (.ad z b 0 (len+n) (len+n) ((len+n)*z),h.set b (.cells ((len+n)*z) (cs.take (len*z)++xs)))
     else some (.ad z h.n 0 (len+n) (len+n) ((len+n)*z),(h.set b .dead).push (.cells ((len+n)*z) ((cs.drop g).take (len*z)++xs)))
    else none
   | _=>none
  | _=>none
def nQ (P:bg) (h:aE) (t:aC) (s x:U) :Option (U × aE):=
 match gb P t with
 | none=>none
 | some e=>match b3 P e,gG P e with
  | some g,some j=>match contents h g x with
   | none=>none
   | some (m,n)=>p8 P h e g j s m n
  | _,_=>none
def gM (x:U) (y:Nat) :Option Nat:=match x with | .int _ i=>if 0<=i/\i<=y then some i.toNat else none | _=>none
def eY (len cap:Nat) (p o m:Option U) :Option (Nat × Nat × Nat):=
 match (match m with | some g=>gM g cap | none=>some cap) with
 | none=>none
 | some j=>match (match o,m with | some g,_=>gM g j | none,none=>some len | none,some _=>none) with
  | none=>none
  | some h=>match (match p with | some g=>gM g h | none=>some 0) with
   | none=>none
   | some l=>some (l,h,j)
def wW (P:bg) (t:aC) (x:U) (p o q:Option U) :Option U:=
 match P.underlying t,x with
 | some (.array n e),x=>match b3 P e,eY n n p o q with
  | some g,some (l,h,m)=>match x with
   | .ptr b j u=>if j+m*g<=u then (if m=l then some (.bj g []) else some (.ad g b (j+l*g) (h - l) (m - l) u)) else none
   | .bR cs j=>if j+n*g<=cs.length then some (.bj g (ls g (h - l) (cs.drop (j+l*g)))) else none
   | _=>none
  | _,_=>none
 | some (.slice e),x=>match b3 P e,x with
  | some g,.ad w b j len cap u=>if g=w then (eY len cap p o q).map fun (l,h,m)=>if m=l then .ad g b (j+l*g) 0 0 u else .ad g b (j+l*g) (h - l) (m - l) u else none
  | some g,.bj w v=>if g=w then (eY v.length v.length p o q).map fun (l,h,_)=>.bj g ((v.drop l).take (h - l)) else none
  | some _,.af=>(eY 0 0 p o q).map fun _=>.af
  | _,_=>none
 | some .string,.str s=>match q with
  | none=>(eY s.length s.length p o none).map fun (l,h,_)=>.str ((s.drop l).take (h - l))
  | some _=>none
 | _,_=>none
def rV (P:bg) (t:aC) (x:U) :Option U:=
 match P.underlying t,x with
 | some .string,.str s=>some (.int .i64 s.length)
 | some (.array n _),_=>some (.int .i64 n)
 | some (.slice _),.af=>some (.int .i64 0)
 | some (.slice _),.ad _ _ _ len _ _=>some (.int .i64 len)
 | some (.slice _),.bj _ g=>some (.int .i64 g.length)
 | some (.map _ _),.gP=>some (.int .i64 0)
 | _,_=>none
def yI (P:bg) (h:aE) (t:aC) (l c:U) :Option (U × aE):=
 match gb P t,asInt l,asInt c with
 | some e,some l,some c=>match b3 P e,gG P e,fV P e with
  | some g,some j,some zero=>
   if zero.length=g/\0<=l/\l<=c/\c<9223372036854775808/\j*c<=db then
    some (.ad g h.n 0 l.toNat c.toNat (c.toNat*g),h.push (.cells (c.toNat*g) (cy zero c.toNat)))
   else none
  | _,_,_=>none
 | _,_,_=>none
def tt (P:bg) (h:aE) (t:aC) (d x:U) :Option (U × aE):=
 match gb P t with
 | none=>none
 | some e=>match b3 P e with
  | none=>none
  | some g=>match contents h g x with
   | none=>none
   | some (p,n)=>match d with
    | .af=>some (.int .i64 0,h)
    | .ad q b m len _ o=>match h.f b with
     | .cells j cs=>if j=o/\g=q then some (.int .i64 ((min n len:Nat) :Int),h.set b (.cells j (aw cs m (p.take (min n len*g))))) else none
     | _=>none
    | _=>none
def jv:List U->Option (List UInt8)
 | []=>some []
 | .int .u8 n::r=>(jv r).map (UInt8.ofNat n.toNat::·)
 | _::_=>none
def rA (P:bg) (h:aE) (src g:aC) (x:U) :Option U:=
 match P.underlying src,P.underlying g,x with
 | some _,some (.int k),.int _ n=>some (.int k (k.wrap n))
 | some _,some .string,.str s=>some (.str s)
 | some (.slice e),some .string,x=>match P.underlying e,x with
  | some (.int .u8),.af=>some (.str [])
  | some (.int .u8),x=>match contents h 1 x,x with
   | some _,.str _=>none
   | some (cs,_),_=>(jv cs).map .str
   | none,_=>none
  | _,_=>none
 | _,_,_=>none
def tj (P:bg) (src g:aC) (x:U) :Option U:=
 match P.underlying src,P.underlying g,x with
 | some _,some (.slice e),.str s=>match P.underlying e with
  | some (.int .u8)=>some (.bj 1 (s.map fun b=>[hb b]))
  | _=>none
 | _,_,_=>none
def tk (P:bg) (t:aC) (x:U) :Option U:=
 match P.underlying t,x with
 | some (.array n _),_=>some (.int .i64 n)
 | some (.slice _),.af=>some (.int .i64 0)
 | _,_=>none
def tn (P:bg) (h:aE) (t:aC) (x:U) :Option aE:=
 match P.underlying t,x with
 | some (.slice _),.af=>some h
 | some (.slice _),.bj _ []=>some h
 | some (.slice e),.ad o b j len _ m=>if len=0 then some h else match fV P e,h.f b with
  | some zero,.cells g cs=>if g=m/\zero.length=o then some (h.set b (.cells g (aw cs j (cy zero len)))) else none
  | _,_=>none
 | _,_=>none
def tD (P:bg) (t:aC) (x g:U) :Option U:=
 match P.underlying t,x,asInt g with
 | some (.array n e),.ah cs,some i=>match b3 P e with
  | some h=>if 0<=i/\i<n then gg P e cs (i.toNat*h) else none
  | none=>none
 | some .string,.str s,some i=>if 0<=i then (s[i.toNat]?).map hb else none
 | _,_,_=>none
mutual
def U.beq:U->U->Bool
 | .bool a,y=>match y with | .bool b=>(match a,b with | true,true=>true | false,false=>true | _,_=>false) | _=>false
 | .int k n,y=>match y with | .int t m=>decide (k=t)&&decide (n=m) | _=>false
 | .str a,y=>match y with | .str b=>decide (a=b) | _=>false
 | .h8,y=>match y with | .h8=>true | _=>false
 | .af,y=>match y with | .af=>true | _=>false
 | .gP,y=>match y with | .gP=>true | _=>false
 | .hP,y=>match y with | .hP=>true | _=>false
 | .hz,y=>match y with | .hz=>true | _=>false
 | .ah a,y=>match y with | .ah b=>dn a b | _=>false
 | .aZ a,y=>match y with | .aZ b=>dn a b | _=>false
 | .ptr a b c,y=>match y with | .ptr g h j=>Nat.beq a g&&Nat.beq b h&&Nat.beq c j | _=>false
 | .bR a n,y=>match y with | .bR g m=>dn a g&&Nat.beq n m | _=>false
 | .ad a b c d e f,y=>match y with | .ad g h j o p q=>Nat.beq a g&&Nat.beq b h&&Nat.beq c j&&Nat.beq d o&&Nat.beq e p&&Nat.beq f q | _=>false
 | .bj a b,y=>match y with | .bj g h=>Nat.beq a g&&vj b h | _=>false
 | .fn a b c,y=>match y with | .fn g h j=>Nat.beq a g&&dn b h&&dn c j | _=>false
 | .mp a,y=>match y with | .mp g=>Nat.beq a g | _=>false
 | .it a,y=>match y with | .it g=>Nat.beq a g | _=>false
 | .fT a b,y=>match y with | .fT g h=>Nat.beq a g&&U.beq b h | _=>false
 | .fa a,y=>match y with | .fa g=>Nat.beq a g | _=>false
 | .bad,y=>match y with | .bad=>true | _=>false
def dn:List U->List U->Bool
 | [],y=>match y with | []=>true | _=>false
 | a::as,y=>match y with | b::g=>U.beq a b&&dn as g | _=>false
def vj:List (List U)->List (List U)->Bool
 | [],y=>match y with | []=>true | _=>false
 | a::as,y=>match y with | b::g=>dn a b&&vj as g | _=>false
end
theorem h6 {a b:Nat} (h:Nat.beq a b=true) :a=b:=l7 h
mutual
theorem U.beq_eq:∀ {a b:U},U.beq a b=true->a=b
 | .bool a,b,h=>by cases b<;>simp only[U.beq] at h<;>first | cases h | (rename_i b;cases a<;>cases b<;>first | rfl | cases h)
 | .int k n,b,h=>by cases b<;>simp only[U.beq] at h<;>first | cases h | (simp only[bN,bI] at h;rw[h.1,h.2])
 | .str a,b,h=>by cases b<;>simp only[U.beq] at h<;>first | cases h | (simp only[bI] at h;rw[h])
 | .h8,b,h=>by cases b<;>simp only[U.beq] at h<;>first | rfl | cases h
 | .af,b,h=>by cases b<;>simp only[U.beq] at h<;>first | rfl | cases h
 | .gP,b,h=>by cases b<;>simp only[U.beq] at h<;>first | rfl | cases h
 | .hP,b,h=>by cases b<;>simp only[U.beq] at h<;>first | rfl | cases h
 | .hz,b,h=>by cases b<;>simp only[U.beq] at h<;>first | rfl | cases h
 | .bad,b,h=>by cases b<;>simp only[U.beq] at h<;>first | rfl | cases h
 | .ah a,b,h=>by cases b<;>simp only[U.beq] at h<;>first | cases h | rw[rs h]
 | .aZ a,b,h=>by cases b<;>simp only[U.beq] at h<;>first | cases h | rw[rs h]
 | .ptr ..,b,h=>by cases b<;>simp only[U.beq] at h<;>first | cases h | (simp only[bN] at h;rw[h6 h.1.1,h6 h.1.2,h6 h.2])
 | .bR a n,b,h=>by cases b<;>simp only[U.beq] at h<;>first | cases h | (simp only[bN] at h;rw[rs h.1,h6 h.2])
 | .ad ..,b,h=>by cases b<;>simp only[U.beq] at h<;>first | cases h | (simp only[bN] at h;rw[h6 h.1.1.1.1.1,h6 h.1.1.1.1.2,h6 h.1.1.1.2,h6 h.1.1.2,h6 h.1.2,h6 h.2])
 | .bj a n,b,h=>by cases b<;>simp only[U.beq] at h<;>first | cases h | (simp only[bN] at h;rw[h6 h.1,FC h.2])
 | .fn a n g,b,h=>by cases b<;>simp only[U.beq] at h<;>first | cases h | (simp only[bN] at h;rw[h6 h.1.1,rs h.1.2,rs h.2])
 | .mp a,b,h=>by cases b<;>simp only[U.beq] at h<;>first | cases h | rw[h6 h]
 | .it a,b,h=>by cases b<;>simp only[U.beq] at h<;>first | cases h | rw[h6 h]
 | .fa a,b,h=>by cases b<;>simp only[U.beq] at h<;>first | cases h | rw[h6 h]
 | .fT a n,b,h=>by cases b<;>simp only[U.beq] at h<;>first | cases h | (simp only[bN] at h;rw[h6 h.1,U.beq_eq h.2])
theorem rs:∀ {a b:List U},dn a b=true->a=b
 | [],b,h=>by cases b<;>simp only[dn] at h<;>first | rfl | cases h
 | x::a,b,h=>by cases b<;>simp only[dn] at h<;>first | cases h | (simp only[bN] at h;rw[U.beq_eq h.1,rs h.2])
theorem FC:∀ {a b:List (List U)},vj a b=true->a=b
 | [],b,h=>by cases b<;>simp only[vj] at h<;>first | rfl | cases h
 | x::a,b,h=>by cases b<;>simp only[vj] at h<;>first | cases h | (simp only[bN] at h;rw[rs h.1,FC h.2])
end
def qI:U->Bool | .int .. | .str _ | .bool _=>true | _=>false
def pf (P:bg) :Nat->aC->Bool
 | 0,_=>false
 | d+1,j=>match P.underlying j,b3 P j with
  | some (.int _),_=>true
  | some .string,_=>true
  | some .bool,_=>true
  | some (.array n e),some h=>pf P d e&&(match b3 P e,ds P e with | some g,some _=>Nat.ble (n*g) h&&Nat.ble 1 g | _,_=>false)
  | some (.struct m),some h=>m.toList.all fun f=>pf P d f.type&&(match b3 P f.type,ds P f.type with | some g,some _=>Nat.ble (f.offset+g) h&&Nat.ble 1 g | _,_=>false)
  | _,_=>false
def kh (P:bg) (t:aC) (c:U) :Bool:=
 match c with
 | .ah cs=>pf P 8 t&&(match ds P t,b3 P t with | some true,some g=>Nat.beq cs.length g | _,_=>false)&&cs.all qI
 | _=>false
def jA (P:bg) (h:aC) (k:U) :List (U × U × Nat)->Nat->Option (Option (Nat × U))
 | [],_=>some none
 | (g,m,_) ::j,i=>match kh P h g with
  | false=>none
  | true=>match dA P 10000 h k g with
   | some true=>match U.beq k g with | true=>some (some (i,m)) | false=>none
   | some false=>jA P h k j (i+1)
   | none=>none
def wb (h:aE) :U->Option (List (U × U × Nat))
 | .gP=>some []
 | .mp b=>match h.f b with | .map g _=>some g | _=>none
 | _=>none
def sJ (P:bg) (t:aC) :Option U:=((P.info? t).bind (·.zero)).map qB
def yH (P:bg) (h:aE) (t:aC) (m k:U) (j:Bool) :Option U:=
 match P.underlying t,wb h m with
 | some (.map g u),some q=>match kh P g k with
  | false=>none
  | true=>match jA P g k q 0 with
   | some (some (_,o))=>some (if j then .aZ [o,.bool true] else o)
   | some none=>(sJ P u).map fun p=>if j then .aZ [p,.bool false] else p
   | none=>none
 | _,_=>none
def rZ (P:bg) (h:aE) (t:aC) (m k v:U) :Option aE:=
 match P.underlying t,m with
 | some (.map o _),.mp b=>match h.f b with
  | .map j g=>match kh P o k with
   | false=>none
   | true=>match jA P o k j 0 with
    | some (some (i,_))=>some (h.set b (.map (j.modify i fun e=>(k,v,e.2.2)) g))
    | some none=>some (h.set b (.map (j++[(k,v,g)]) (g+1)))
    | none=>none
  | _=>none
 | _,_=>none
def rW (P:bg) (h:aE) (t:aC) (x:U) :Option U:=
 match P.underlying t,x with
 | some (.map _ _),.mp b=>match h.f b with | .map g _=>some (.int .i64 g.length) | _=>none
 | _,_=>none
def zf (P:bg) (h:aE) (t:aC) (x:U) :Option (U × aE):=
 match P.underlying t,x with
 | some .string,.str s=>some (.it h.n,h.push (.iter s 0))
 | _,_=>none
def yT (h:aE) (x:U) :Option (U × aE):=
 match x with
 | .it b=>match h.f b with
  | .iter s pos=>match Nat.blt pos s.length with
   | true=>some (.aZ [.bool true,.int .i64 pos,.int .i32 (Utf8.decode ⟨s.toArray⟩ pos).1],h.set b (.iter s (pos+(Utf8.decode ⟨s.toArray⟩ pos).2)))
   | false=>some (.aZ [.bool false],h)
  | _=>none
 | _=>none
def lv:List UInt8->List UInt8->Int
 | [],[]=>0
 | [],_::_=>-1
 | _::_,[]=>1
 | a::as,b::g=>if a=b then lv as g else if a<b then -1 else 1
def ti (h:aE) (x:U) :Option (List UInt8):=match x with
 | .str s=>some s
 | x=>match contents h 1 x with
  | some (cs,_)=>jv cs
  | none=>none
def vx (h:aE) :List U->Option U
 | [x,y]=>match ti h x,ti h y with
  | some a,some b=>some (.int .i64 (lv a b))
  | _,_=>none
 | _=>none
def vU (fn:Func) :Bool:=fn.body.isNone&&fn.name == "internal/bytealg.Compare"&&(fn.origin == ""||fn.origin == "internal/bytealg.Compare")
inductive mc where
 | val (g:U) (h:aE)
 | call (f:cb) (args:List U) (h:aE)
def yN:U->U->Option U
 | .int k x,.int g y=>if k=g then some (.int k (if y<x then y else x)) else none
 | _,_=>none
def og:U->U->Option U
 | .int k x,.int g y=>if k=g then some (.int k (if x<y then y else x)) else none
 | _,_=>none
def fz:U:=.aZ []
def vh (P:bg) (h:aE) (t:aC) (s x:U) :Option (U × aE):=
 match gb P t,asInt x with
 | some e,some n=>match b3 P e,gG P e,fV P e with
  | some j,some g,some zero=>
   if zero.length=j/\0<=n/\n<9223372036854775808/\n.toNat*g<=db then p8 P h e j g s (cy zero n.toNat) n.toNat else none
  | _,_,_=>none
 | _,_=>none
def mg (P:bg) (h:aE) (b:Builtin) (ts:List aC) (args:List U) :Option mc:=
 match b,ts,args with
 | .len,[j],[x]=>match rW P h j x with
  | some g=>some (.val g h)
  | none=>(rV P j x).map fun g=>.val g h
 | .append,[j,u],[s,x]=>match P.underlying u with
  | some (.int _)=>(vh P h j s x).map fun (g,h')=>.val g h'
  | none=>none
  | _=>(nQ P h j s x).map fun (g,h')=>.val g h'
 | .copy,[j,_],[d,x]=>(tt P h j d x).map fun (g,h')=>.val g h'
 | .cap,[j],[x]=>(tk P j x).map fun g=>.val g h
 | .clear,[j],[x]=>(tn P h j x).map fun h'=>.val (.aZ []) h'
 | .min,_,[x,y]=>(yN x y).map fun g=>.val g h
 | .max,_,[x,y]=>(og x y).map fun g=>.val g h
 | _,_,_=>none
def wc (P:bg) (t:aC) (name:String) :Option cb:=
 match P.underlying t with
 | some (.pointer _) | none=>none
 | _=>match P.info? t with
  | some i=>match i.methods.find? (·.name == name) with
   | some g=>match g.path.toList,g.func with
    | [],some (f,false)=>some f
    | _,_=>none
   | none=>none
  | none=>none
def zL (t:aC) (z:U) (g:Bool) :U->Option U
 | .fT j h=>match Nat.beq j t with
  | true=>match g with | true=>some (.aZ [h,.bool true]) | false=>some h
  | false=>match g with | true=>some (.aZ [z,.bool false]) | false=>none
 | .hz=>match g with | true=>some (.aZ [z,.bool false]) | false=>none
 | _=>none
def zM (P:bg) (t:aC) :Option U:=match P.underlying t with
 | some (.interface _) | none=>none
 | _=>sJ P t
def qd (P:bg) (h:aE) (g:aT->U) (c:Call) :Option mc:=
 match c.callee with
 | .builtin b=>mg P h b c.argTypes.toList (c.args.toList.map g)
 | .value f=>match g f with
  | .fn j first eZ=>match P.funcs[j]? with
   | some fn=>if fn.body.isSome/\fn.name≠ "runtime.NumGoroutine" then some (.call j (first++c.args.toList.map g++eZ) h)
    else if vU fn then (vx h (first++c.args.toList.map g++eZ)).map fun m=>.val m h else none
   | none=>none
  | _=>none
 | .invoke x name=>match g x with
  | .fT o m=>match wc P o name with
   | some j=>match P.funcs[j]? with
    | some fn=>if fn.body.isSome/\fn.name≠ "runtime.NumGoroutine" then some (.call j (m::c.args.toList.map g) h) else none
    | none=>none
   | none=>none
  | _=>none
def cB (P:bg) (h:aE) (g:aT->U) (op:Op) :Option mc:=
 let m (x:Option U) :Option mc:=x.map fun y=>.val y h
 let w (x:Option (U × aE)) :Option mc:=x.map fun y=>.val y.1 y.2
 match op with
 | .move x | .assign x=>some (.val (g x) h)
 | .pick c a b=>match g c with | .bool j=>some (.val (if j then g a else g b) h) | _=>none
 | .alloc j=>(fV P j).map fun p=>.val (.ptr h.n 0 p.length) (h.push (.cells p.length p))
 | .box _ x=>(g x).cells.map fun cs=>.val (.ptr h.n 0 cs.length) (h.push (.cells cs.length cs))
 | .build j parts=>m (vn P j (parts.toList.map fun o=>(o.1,g o.2)))
 | .buildSlice j len parts=>w (xR P h j len (parts.toList.map fun o=>(o.1,g o.2)))
 | .load j a=>m (od P h j (g a))
 | .store j a x=>(qU P h j (g a) (g x)).map fun h'=>.val fz h'
 | .nilCheck x=>match g x with | .ptr b t s=>some (.val (.ptr b t s) h) | .bR c t=>some (.val (.bR c t) h) | .fn f a b=>some (.val (.fn f a b) h) | _=>none
 | .binOp op j x y _=>m (dP P op j (g x) (g y))
 | .unOp op _ x=>m (qY op (g x))
 | .convert s d x=>match tj P s d (g x) with
  | some c=>some (.val c h)
  | none=>m (rA P h s d (g x))
 | .makeInterface j x=>match P.underlying j with
  | some (.interface _) | none=>none
  | _=>some (.val (.fT j (g x)) h)
 | .makeFunc (.func f) first eZ=>some (.val (.fn f (first.toList.map g) (eZ.toList.map g)) h)
 | .makeSlice j l c=>w (yI P h j (g l) (g c))
 | .slice j x B z C=>m (wW P j (g x) (B.map g) (z.map g) (C.map g))
 | .fieldAddr s x f=>m (yc P s (g x) f)
 | .field j x f=>match g x,rH P j f with
  | .ah cs,some v=>m (gg P v.type cs v.offset)
  | _,_=>none
 | .indexAddr j x i=>m (vT P j (g x) (g i))
 | .index j x i=>m (tD P j (g x) (g i))
 | .extract x i=>match g x with | .aZ D=>m D[i]? | _=>none
 | .call c=>qd P h g c
 | .makeMap j r=>match P.underlying j,(match r with | none=>true | some x=>(asInt (g x)).isSome) with | some (.map _ _),true=>some (.val (.mp h.n) (h.push (.map [] 0))) | _,_=>none
 | .lookup j q k u=>m (yH P h j (g q) (g k) u)
 | .mapUpdate j q k x | .insert j q k x=>(rZ P h j (g q) (g k) (g x)).map fun h'=>.val fz h'
 | .range j x=>w (zf P h j (g x))
 | .next it true=>w (yT h (g it))
 | .typeAssert x _ j u=>match zM P j with | some p=>m (zL j p u (g x)) | none=>none
 | _=>none
abbrev ag:=List U
theorem F {p:Prop} (h:p:=by omega) :p:=h
theorem V {p:Prop} (h:p:=by simp) :p:=h
structure M where
 r:Nat
 s:Nat
 T:Nat
abbrev bU:=Nat->Option M
def live:am->Bool
 | .cells .. | .map .. | .iter ..=>true
 | _=>false
def kX:am->Nat
 | .map ..=>1
 | .iter ..=>2
 | _=>0
def Own (h:aE) (muZ:bU) (k:Nat) :Prop:=∃ b g,live (h.f b)=true/\muZ b=some g/\g.r=k
def p0 (h:aE) (b sz:Nat) :Prop:=h.f b=.dead\/∃ n cs,h.f b=.cells n cs/\sz<n
structure Cell (w:aO) (R:Nat->Prop) (h:aE) (muZ:bU) (b o:Nat) (v:aB) :Prop where
 here:w.cell? ⟨b,o,none⟩=some v
 one:v.oneCell'=true
 ro:R b
 free:¬ Own h muZ b
inductive az (w:aO) (R:Nat->Prop) (h:aE) (muZ:bU) :U->aB->Prop where
 | bool (b:Bool) :az w R h muZ (.bool b) (.bool b)
 | int (k:cQ) (n:Int) :az w R h muZ (.int k n) (.int k n)
 | str (J:ByteArray) :az w R h muZ (.str J.data.toList) (.string J)
 | h8:az w R h muZ .h8 (.pointer none)
 | af:az w R h muZ .af (.slice none 0 0)
 | gP:az w R h muZ .gP (.map none)
 | hP:az w R h muZ .hP .nilFunc
 | hz:az w R h muZ .hz .nilIface
 | ah (cs:ag) (t:Array aB) (F:t.size=cs.length) (h1:∀ (g:Nat) (m:aB),t[g]?=some m->m.oneCell'=true)
   (H:∀ (g:Nat) (c:U) (m:aB),cs[g]?=some c->t[g]?=some m->az w R h muZ c m) :az w R h muZ (.ah cs) (.agg t)
 | aZ (cs:ag) (t:Array aB) (F:t.size=cs.length)
   (H:∀ (g:Nat) (c:U) (m:aB),cs[g]?=some c->t[g]?=some m->az w R h muZ c m) :az w R h muZ (.aZ cs) (.tuple t)
 | ptr (b j p:Nat) (cs:ag) (o:M) (C:h.f b=.cells p cs) (G:muZ b=some o) :
   az w R h muZ (.ptr b j p) (.pointer (some ⟨o.r,o.s+j,none⟩))
 | iQ (b j p:Nat) (a:Addr) (P:p0 h b p) :az w R h muZ (.ptr b j p) (.pointer (some a))
 | bR (cs:ag) (j z K:Nat) (B:Nat->aB) (D:∀ g,g<cs.length->Cell w R h muZ z (K+g) (B g))
   (H:∀ (g:Nat) (c:U),cs[g]?=some c->az w R h muZ c (B g)) :az w R h muZ (.bR cs j) (.pointer (some ⟨z,K+j,none⟩))
 | ad (q b j len cap p u:Nat) (cs:ag) (o:M) (C:h.f b=.cells p cs) (G:muZ b=some o) (F:len<=cap) (V:j+cap*q<=p)
   (D:(j+cap*q<p/\u=cap)\/(j+cap*q=p/\cap<=u/\o.s+j+u*q<=o.T)) :
   az w R h muZ (.ad q b j len cap p) (.slice (some ⟨o.r,o.s+j,none⟩) len u)
 | e9 (q b j len cap p u:Nat) (a:Addr) (F:len<=cap) (D:cap<=u) (P:p0 h b p) :az w R h muZ (.ad q b j len cap p) (.slice (some a) len u)
 | gh (q b j p:Nat) (a:Addr) (cs:ag) (o:M) (C:h.f b=.cells p cs) (G:muZ b=some o) :az w R h muZ (.ad q b j 0 0 p) (.slice (some a) 0 0)
 | bj (q:Nat) (v:List (ag)) (z j cap:Nat) (B:Nat->Nat->aB) (F:v.length<=cap) (W:∀ e,e∈v->e.length=q)
   (D:∀ i g,i<v.length->g<q->Cell w R h muZ z (j+(i*q+g)) (B i g))
   (H:∀ (i:Nat) (e:ag),v[i]?=some e->∀ (g:Nat) (c:U),e[g]?=some c->az w R h muZ c (B i g)) :
   az w R h muZ (.bj q v) (.slice (some ⟨z,j,none⟩) v.length cap)
 | eB (q:Nat) (a:Addr) (cap:Nat) :az w R h muZ (.bj q []) (.slice (some a) 0 cap)
 | fn (f:cb) (first eZ:ag) (I cs:Array aB) (S:I.size=first.length) (D:cs.size=eZ.length)
   (h1:∀ (g:Nat) (c:U) (m:aB),first[g]?=some c->I[g]?=some m->az w R h muZ c m) (Q:∀ (g:Nat) (c:U) (m:aB),eZ[g]?=some c->cs[g]?=some m->az w R h muZ c m) :
   az w R h muZ (.fn f first eZ) (.func (.func f) I cs)
 | mp (b:Nat) (o:M) (C:kX (h.f b)=1) (G:muZ b=some o) :az w R h muZ (.mp b) (.map (some o.r))
 | it (b:Nat) (o:M) (C:kX (h.f b)=2) (G:muZ b=some o) :az w R h muZ (.it b) (.pointer (some ⟨o.r,0,none⟩))
 | fT (O:aC) (c:U) (m:aB) (H:az w R h muZ c m) :az w R h muZ (.fT O c) (.iface O m)
 | fa (l:Nat) :az w R h muZ (.fa l) (.func (.yield l) #[] #[])
 | bad (m:aB) :az w R h muZ .bad m
structure Ext0 (w:aO) (h:aE) (muZ:bU) (w' : aO) (h' : aE) (muZ' : bU) :Prop where
 os:w'.os=w.os
 tape:w'.tape=w.tape
 output:w'.output=w.output
 size:w.heap.size<=w'.heap.size
 bo:∀ k,k<w.heap.size->¬ Own h muZ k->w'.heap[k]?=w.heap[k]?
 own:∀ k,Own h' muZ' k->Own h muZ k\/w.heap.size<=k
 cells:∀ b sz cs m,h.f b=.cells sz cs->muZ b=some m->(∃ cs',h'.f b=.cells sz cs'/\muZ' b=some m)\/p0 h' b sz
 gone:∀ b sz,p0 h b sz->p0 h' b sz
 wo:∀ b k m,kX (h.f b)=k+1->muZ b=some m->kX (h'.f b)=k+1/\muZ' b=some m
 n:h.n<=h'.n
 drawn:w.drawn<=w'.drawn:=by first | exact aF _ | exact rf _ | assumption
structure cN (w:aO) (h:aE) (muZ:bU) (w' : aO) (h' : aE) (muZ' : bU) :Prop extends Ext0 w h muZ w' h' muZ' where
 mM:∀ b,b<h.n->muZ b=none->muZ' b=none
theorem Ext0.refl (w:aO) (h:aE) (muZ:bU) :Ext0 w h muZ w h muZ:=
 ⟨rfl,rfl,rfl,aF _,fun _ _ _=>rfl,fun _ h=>.inl h,fun b m cs j h1 g=>.inl ⟨cs,h1,g⟩,fun _ _ h=>h,fun _ _ _ h1 g=>⟨h1,g⟩,aF _,aF _⟩
theorem cN.refl (w:aO) (h:aE) (muZ:bU) :cN w h muZ w h muZ:=⟨.refl w h muZ,fun _ _ h=>h⟩
theorem Ext0.trans {w z w2:aO} {h h1 t:aE} {muZ B xf:bU} (a:Ext0 w h muZ z h1 B) (b:Ext0 z h1 B w2 t xf) :Ext0 w h muZ w2 t xf:=by
 refine⟨b.os.trans a.os,b.tape.trans a.tape,b.output.trans a.output,dC a.size b.size,?_,?_,?_,fun _ _ D=>b.gone _ _ (a.gone _ _ D),?_,dC a.n b.n,dC a.drawn b.drawn⟩
 ·intro k hk u;rw[b.bo k (l8 hk a.size) (fun G=>(a.own k G).elim u F),a.bo k hk u]
 ·intro k hk;rcases b.own k hk with h | h
  ·exact a.own k h
  ·exact .inr (dC a.size h)
 ·intro g v cs m p q;rcases a.cells g v cs m p q with ⟨C,j,o⟩ | j
  ·exact b.cells g v C m j o
  ·exact .inr (b.gone _ _ j)
 ·intro g k m p q;obtain⟨j,o⟩:=a.wo g k m p q;exact b.wo g k m j o
theorem cN.trans {w o w2:aO} {h h1 j:aE} {muZ p xf:bU} (a:cN w h muZ o h1 p) (b:cN o h1 p w2 j xf) :cN w h muZ w2 j xf:=
 ⟨a.toExt0.trans b.toExt0,fun g m q=>b.mM g (l8 m a.n) (a.mM g m q)⟩
theorem Cell.ext {w w' : aO} {h h' : aE} {muZ muZ' : bU} {R:Nat->Prop} {b o:Nat} {v:aB} (e:Ext0 w h muZ w' h' muZ') (c:Cell w R h muZ b o v) :Cell w' R h' muZ' b o v:=by
 have g:b<w.heap.size:=World.block_lt_of_cell? _ _ c.here;refine⟨?_,c.one,c.ro,fun j=>?_⟩
 ·rw[World.cell?_of_block (w:=w) (a:=⟨b,o,none⟩) (e.bo b g c.free)];exact c.here
 ·rcases e.own b j with h1 | h1
  ·exact c.free h1
  ·omega
theorem az.jz {w w' : aO} {h h' : aE} {muZ muZ' : bU} {R:Nat->Prop} {c:U} {v:aB} (e:Ext0 w h muZ w' h' muZ') (C:az w R h muZ c v) :az w' R h' muZ' c v:=by
 induction C with
 | bool b=>exact .bool b
 | int k n=>exact .int k n
 | str Q=>exact .str Q
 | h8=>exact .h8
 | af=>exact .af
 | gP=>exact .gP
 | hP=>exact .hP
 | hz=>exact .hz
 | ah cs P q h1 C B=>exact .ah cs P q h1 B
 | aZ cs P q C B=>exact .aZ cs P q B
 | ptr b g j cs m t z=>
  rcases e.cells b j cs m t z with ⟨D,h1,p⟩ | h1
  ·exact .ptr b g j D m h1 p
  ·exact .iQ b g j _ h1
 | iQ b g j a I=>exact .iQ b g j a (e.gone _ _ I)
 | bR cs g H ag O u C B=>exact .bR cs g H ag O (fun K J=>(u K J).ext e) B
 | ad o b g len cap j G cs m t z q X u=>
  rcases e.cells b j cs m t z with ⟨D,h1,p⟩ | h1
  ·exact .ad o b g len cap j G D m h1 p q X u
  ·exact .e9 o b g len cap j G _ q F h1
 | e9 o b g len cap j G a q u I=>exact .e9 o b g len cap j G a q u (e.gone _ _ I)
 | gh o b g j a cs m t z=>
  rcases e.cells b j cs m t z with ⟨D,h1,p⟩ | h1
  ·exact .gh o b g j a D m h1 p
  ·exact .e9 o b g 0 0 j 0 a (aF _) (aF _) h1
 | bj o S H g cap O q Y u C B=>exact .bj o S H g cap O q Y (fun i K W J=>(u i K W J).ext e) B
 | eB o a cap=>exact .eB o a cap
 | fn f first eZ T cs V u h1 p Z ae=>exact .fn f first eZ T cs V u Z ae
 | mp b m t z=>
  obtain⟨h1,p⟩:=e.wo b 0 m t z;exact .mp b m h1 p
 | it b m t z=>
  obtain⟨h1,p⟩:=e.wo b 1 m t z;exact .it b m h1 p
 | fT ai c v C B=>exact .fT ai c v B
 | fa l=>exact .fa l
 | bad v=>exact .bad v
theorem az.ext {w w' : aO} {h h' : aE} {muZ muZ' : bU} {R:Nat->Prop} {c:U} {v:aB} (e:cN w h muZ w' h' muZ') (g:az w R h muZ c v) :az w' R h' muZ' c v:=g.jz e.toExt0
def pX (w:aO) (R:Nat->Prop) (h:aE) (muZ:bU) (m:M) :am->Prop
 | .cells u cs=>cs.length=u/\m.s+u<=m.T/\∃ arr e p,w.heap[m.r]?=some (.cells arr e p)/\arr.size=m.T/\(p=(0,0)\/m.T<p.1) ∧
   ∀ (j:Nat) (c:U),cs[j]?=some c->∃ g:aB,arr[m.s+j]?=some g/\g.oneCell'=true/\az w R h muZ c g
 | .map t v=>∃ o,w.heap[m.r]?=some (.map o v)/\o.size=t.length ∧
   ∀ (j:Nat) (k g:U) (b:Nat),t[j]?=some (k,g,b)->∃ x:kE,o[j]?=some x/\az w R h muZ k x.key/\az w R h muZ g x.val/\x.born=b
 | .iter s pos=>∃ q:ByteArray,q.data.toList=s/\w.heap[m.r]?=some (.stringIter q pos)
 | _=>True
theorem pX.ext {w w' : aO} {h h' : aE} {muZ muZ' : bU} {R:Nat->Prop} {m:M} (e:Ext0 w h muZ w' h' muZ') (p:w'.heap[m.r]?=w.heap[m.r]?) :
  ∀ {c:am},pX w R h muZ m c->pX w' R h' muZ' m c
 | .cells J cs,⟨h1,g,arr,G,B,j,C,D,F⟩=>⟨h1,g,arr,G,B,p.trans j,C,D,fun q c o=>let ⟨t,a,b,d⟩:=F q c o;⟨t,a,b,d.jz e⟩⟩
 | .map I H,⟨z,h1,g,j⟩=>⟨z,p.trans h1,g,fun q k t b o=>let ⟨x,a,u,d,f⟩:=j q k t b o;⟨x,a,u.jz e,d.jz e,f⟩⟩
 | .iter s pos,⟨v,h1,g⟩=>⟨v,h1,p.trans g⟩
 | .none,_=>trivial
 | .dead,_=>trivial
structure bu (R:Nat->Prop) (B:Nat) (w:aO) (h:aE) (muZ:bU) :Prop where
 blk:∀ b m,muZ b=some m->pX w R h muZ m (h.f b)
 inj:∀ b g m j,live (h.f b)=true->live (h.f g)=true->muZ b=some m->muZ g=some j->m.r=j.r->b=g
 base:∀ b m,live (h.f b)=true->muZ b=some m->B<=m.r
 fresh:∀ b,h.n<=b->h.f b=.none
 up:∀ k,B<=k->R k
 size:B<=w.heap.size
 iA:∀ b,h.n<=b->muZ b=none
theorem bu.j2 {R:Nat->Prop} {B:Nat} {w:aO} {h:aE} {muZ:bU} (rel:bu R B w h muZ) {b:Nat} {m:M} (g:muZ b=some m) :b<h.n:=by
 rcases fB b h.n with h1 | h1
 ·exact h1
 ·rw[rel.iA b h1] at g;cases g
theorem bu.lt {R:Nat->Prop} {B:Nat} {w:aO} {h:aE} {muZ:bU} (rel:bu R B w h muZ) {b:Nat} {m:M} (p:live (h.f b)=true) (q:muZ b=some m) :m.r<w.heap.size:=by
 have j:=rel.blk b m q;cases o:h.f b with
 | none=>rw[o] at p;cases p
 | dead=>rw[o] at p;cases p
 | cells D cs=>
  rw[o] at j;obtain⟨_,_,arr,F,C,g,_⟩:=j;rcases fB m.r w.heap.size with h | h
  ·exact h
  ·rw[pO h] at g;cases g
 | map v u=>
  rw[o] at j;obtain⟨z,g,_⟩:=j;rcases fB m.r w.heap.size with h | h
  ·exact h
  ·rw[pO h] at g;cases g
 | iter s pos=>
  rw[o] at j;obtain⟨t,_,g⟩:=j;rcases fB m.r w.heap.size with h | h
  ·exact h
  ·rw[pO h] at g;cases g
theorem bu.pI {R:Nat->Prop} {B:Nat} {w w' : aO} {h h' : aE} {muZ muZ' : bU} (rel:bu R B w h muZ) (e:Ext0 w h muZ w' h' muZ') (o:Nat)
  (u:∀ b,b≠o->live (h'.f b)=true->h'.f b=h.f b/\muZ' b=muZ b/\∀ m,muZ b=some m->w'.heap[m.r]?=w.heap[m.r]?)
  (J:∀ m,muZ' o=some m->pX w' R h' muZ' m (h'.f o))
  (H:∀ b m v,b≠o->live (h'.f b)=true->live (h'.f o)=true->muZ b=some m->muZ' o=some v->m.r≠v.r)
  (K:∀ m,live (h'.f o)=true->muZ' o=some m->B<=m.r)
  (P:∀ b,h'.n<=b->h'.f b=.none) (Q:∀ b,h'.n<=b->muZ' b=none) :bu R B w' h' muZ':=by
 refine⟨?_,?_,?_,P,rel.up,dC rel.size e.size,Q⟩
 ·intro b m j;by_cases p:b=o
  ·subst p;exact J m j
  ·cases g:live (h'.f b) with
   | false=>cases O:h'.f b<;>first | trivial | (rw[O] at g;cases g)
   | true=>
    obtain⟨h1,q,C⟩:=u b p g;rw[q] at j;rw[h1];exact (rel.blk b m j).ext e (C m j)
 ·intro b z m v g t j F G;by_cases p:b=o<;>by_cases D:z=o
  ·rw[p,D]
  ·subst p;obtain⟨h1,q,C⟩:=u z D t;rw[q] at F;exact bK G.symm (H z v m D t g F j)
  ·subst D;obtain⟨h1,q,C⟩:=u b p g;rw[q] at j;exact bK G (H b m v p g t j F)
  ·obtain⟨h1,q,_⟩:=u b p g;obtain⟨C,I,_⟩:=u z D t;rw[h1] at g;rw[q] at j;rw[C] at t;rw[I] at F;exact rel.inj b z m v g t j F G
 ·intro b m g j;by_cases p:b=o
  ·subst p;exact K m g j
  ·obtain⟨h1,q,_⟩:=u b p g;rw[h1] at g;rw[q] at j;exact rel.base b m g j
theorem bu.push {R:Nat->Prop} {B:Nat} {w w' : aO} {h:aE} {muZ:bU} (rel:bu R B w h muZ) (cs:ag) (arr:Array aB) (t:aC)
  (O:w'.os=w.os) (S:w'.tape=w.tape) (P:w'.output=w.output) (u:w'.heap=w.heap.push (.cells arr t (0,0)))
  (Q:cs.length<=arr.size) (T:∀ (j:Nat) (c:U),cs[j]?=some c->∃ v:aB,arr[j]?=some v/\v.oneCell'=true/\az w R h muZ c v) (I:w.drawn<=w'.drawn:=by first | exact aF _ | exact rf _ | assumption) :
  cN w h muZ w' (h.push (.cells cs.length cs)) (bh muZ h.n (some ⟨w.heap.size,0,arr.size⟩)) ∧
  bu R B w' (h.push (.cells cs.length cs)) (bh muZ h.n (some ⟨w.heap.size,0,arr.size⟩)):=by
 have z:h.f h.n=.none:=rel.fresh _ (aF _);have e:cN w h muZ w' (h.push (.cells cs.length cs)) (bh muZ h.n (some ⟨w.heap.size,0,arr.size⟩)):=by
  refine⟨⟨O,S,P,by simp[u],?_,?_,?_,?_,?_,?_,I⟩,?_⟩
  ·intro k hk _;rw[u,sK,ak F]
  ·rintro k ⟨b,q,o,m,rfl⟩;by_cases g:b=h.n
   ·subst g;simp at m;subst m;exact .inr (aF _)
   ·rw[bE _ _ _ _ g] at m;simp only[dL,bE _ _ _ _ g] at o;exact .inl ⟨b,q,o,m,rfl⟩
  ·intro b V C q g m;have:b≠h.n:=fun p=>by rw[p,z] at g;cases g
   exact .inl ⟨C,by simp only[dL,bE _ _ _ _ this];exact g,by rw[bE _ _ _ _ this];exact m⟩
  ·rintro b V (g | ⟨n,C,g,K⟩)
   ·have:b≠h.n:=fun p=>by rw[p,z] at g;cases g
    exact .inl (by simp only[dL,bE _ _ _ _ this];exact g)
   ·have:b≠h.n:=fun p=>by rw[p,z] at g;cases g
    exact .inr ⟨n,C,by simp only[dL,bE _ _ _ _ this];exact g,K⟩
  ·intro b k q g m;have:b≠h.n:=fun p=>by rw[p,z] at g;cases g
   exact⟨by simp only[dL,bE _ _ _ _ this];exact g,by rw[bE _ _ _ _ this];exact m⟩
  ·simp[iR]
  ·intro b g m;rw[bE _ _ _ _ F];exact m
 refine⟨e,rel.pI e.toExt0 h.n ?_ ?_ ?_ ?_ ?_ ?_⟩
 ·intro b g o;simp only[dL,bE _ _ _ _ g] at o ⊢;exact⟨trivial,trivial,fun q m=>by rw[u,sK,ak (by have:=rel.lt o m;omega)]⟩
 ·intro q m;simp at m;subst m;simp only[dL,fJ];refine⟨rfl,by simpa using Q,arr,t,(0,0),by simp[u],rfl,.inl rfl,fun j c J=>?_⟩;obtain⟨v,h1,G,H⟩:=T j c J;exact⟨v,by simpa using h1,G,H.ext e⟩
 ·intro b q W g o _ m D;simp only[dL,bE _ _ _ _ g] at o;simp at D;subst D;have:=rel.lt o m;simp only[ne_eq];omega
 ·intro q _ m;simp at m;subst m;exact rel.size
 ·intro b g;simp only[dL,iR] at g ⊢;rw[bE _ _ _ _ F];exact rel.fresh b F
 ·intro b g;simp only[iR] at g;rw[bE _ _ _ _ F];exact rel.iA b F
theorem bu.same {R:Nat->Prop} {B:Nat} {w:aO} {h h' : aE} {muZ:bU} (rel:bu R B w h muZ) (g:h'.f=h.f) (C:h'.n=h.n) :cN w h muZ w h' muZ/\bu R B w h' muZ:=by
 have e:cN w h muZ w h' muZ:=by
  refine⟨⟨rfl,rfl,rfl,aF _,fun _ _ _=>rfl,?_,?_,?_,?_,F,aF _⟩,fun _ _ j=>j⟩
  ·rintro k ⟨o,p,u,m,rfl⟩;rw[g] at u;exact .inl ⟨o,p,u,m,rfl⟩
  ·intro o D z p q m;exact .inl ⟨z,by rw[g];exact q,m⟩
  ·intro o D t;unfold p0 at t ⊢;rw[g];exact t
  ·intro o H p q m;exact⟨by rw[g];exact q,m⟩
 refine⟨e,rel.pI e.toExt0 h.n (fun b _ _=>⟨by rw[g],rfl,fun _ _=>rfl⟩) (fun v j=>?_) (fun b v p _ _ _ _ j=>?_) (fun v _ j=>?_) (fun b G=>by rw[g];exact rel.fresh b F) (by rw[C];exact rel.iA)⟩
 all_goals (rw[rel.iA h.n (aF _)] at j;cases j)
theorem bu.kill {R:Nat->Prop} {B:Nat} {w:aO} {h h' : aE} {muZ:bU} (rel:bu R B w h muZ) {b sz:Nat} {cs:ag} (D:h.f b=.cells sz cs) (K:b<h.n)
  (m:h'.f=bh h.f b .dead) (I:h'.n=h.n) :cN w h muZ w h' muZ/\bu R B w h' muZ:=by
 have e:cN w h muZ w h' muZ:=by
  refine⟨⟨rfl,rfl,rfl,aF _,fun _ _ _=>rfl,?_,?_,?_,?_,F,aF _⟩,fun _ _ H=>H⟩
  ·rintro k ⟨j,v,u,t,rfl⟩;rw[m] at u;by_cases g:j=b
   ·subst g;simp[live] at u
   ·rw[bE _ _ _ _ g] at u;exact .inl ⟨j,v,u,t,rfl⟩
  ·intro j J z v o t;by_cases g:j=b
   ·subst g;exact .inr (.inl (by rw[m];simp))
   ·exact .inl ⟨z,by rw[m,bE _ _ _ _ g];exact o,t⟩
  ·rintro j J q;by_cases g:j=b
   ·subst g;exact .inl (by rw[m];simp)
   ·rcases q with q | ⟨n,z,q,G⟩
    ·exact .inl (by rw[m,bE _ _ _ _ g];exact q)
    ·exact .inr ⟨n,z,by rw[m,bE _ _ _ _ g];exact q,G⟩
  ·intro j O v o t;by_cases g:j=b
   ·subst g;rw[D] at o;cases o
   ·exact⟨by rw[m,bE _ _ _ _ g];exact o,t⟩
 refine⟨e,rel.pI e.toExt0 b ?_ ?_ ?_ ?_ ?_ (by rw[I];exact rel.iA)⟩
 ·intro j g p;rw[m,bE _ _ _ _ g];exact⟨rfl,rfl,fun _ _=>rfl⟩
 ·intro C _;rw[m];simp[pX]
 ·intro j C v _ _ p;rw[m] at p;simp[live] at p
 ·intro C p;rw[m] at p;simp[live] at p
 ·intro j o;rw[m,bE _ _ _ _ F];exact rel.fresh j F
theorem bu.J7 {R:Nat->Prop} {B:Nat} {w:aO} {h h' : aE} {muZ:bU} (rel:bu R B w h muZ) {b sz off:Nat} {cs:ag} {m:M} (J:h.f b=.cells sz cs) (C:muZ b=some m) (au:off<=sz)
  (t:h'.f=bh (bh h.f b .dead) h.n (.cells (sz - off) (cs.drop off))) (ar:h'.n=h.n+1) :
  cN w h muZ w h' (bh muZ h.n (some ⟨m.r,m.s+off,m.T⟩))/\bu R B w h' (bh muZ h.n (some ⟨m.r,m.s+off,m.T⟩)):=by
 have aq:=rel.j2 C;have H:h.f h.n=.none:=rel.fresh _ (aF _);have K:live (h.f b)=true:=by rw[J];rfl
 have e:cN w h muZ w h' (bh muZ h.n (some ⟨m.r,m.s+off,m.T⟩)):=by
  refine⟨⟨rfl,rfl,rfl,aF _,fun _ _ _=>rfl,?_,?_,?_,?_,F,aF _⟩,fun dt p o=>by rw[bE _ _ _ _ F];exact o⟩
  ·rintro k ⟨dt,D,z,o,rfl⟩;rw[t] at z;by_cases g:dt=h.n
   ·subst g;simp at o;subst o;exact .inl ⟨b,m,K,C,rfl⟩
   ·rw[bE _ _ _ _ g] at z o;by_cases j:dt=b
    ·subst j;simp[live] at z
    ·rw[bE _ _ _ _ j] at z;exact .inl ⟨dt,D,z,o,rfl⟩
  ·intro dt am G D p o;have g:dt≠h.n:=fun v=>by rw[v,H] at p;cases p
   by_cases j:dt=b
   ·subst j;exact .inr (.inl (by rw[t,bE _ _ _ _ g];simp))
   ·exact .inl ⟨G,by rw[t,bE _ _ _ _ g,bE _ _ _ _ j];exact p,by rw[bE _ _ _ _ g];exact o⟩
  ·rintro dt am q;have g:dt≠h.n:=fun v=>by
    subst v;rcases q with q | ⟨n,G,q,_⟩
    ·rw[H] at q;cases q
    ·rw[H] at q;cases q
   by_cases j:dt=b
   ·subst j;exact .inl (by rw[t,bE _ _ _ _ g];simp)
   ·rcases q with q | ⟨n,G,q,aj⟩
    ·exact .inl (by rw[t,bE _ _ _ _ g,bE _ _ _ _ j];exact q)
    ·exact .inr ⟨n,G,by rw[t,bE _ _ _ _ g,bE _ _ _ _ j];exact q,aj⟩
  ·intro dt av D p o;have g:dt≠h.n:=fun v=>by rw[v,H] at p;cases p
   by_cases j:dt=b
   ·subst j;rw[J] at p;cases p
   ·exact⟨by rw[t,bE _ _ _ _ g,bE _ _ _ _ j];exact p,by rw[bE _ _ _ _ g];exact o⟩
 have Q:∀ dt,dt≠h.n->live (h'.f dt)=true->dt≠b/\h'.f dt=h.f dt:=fun dt g u=>by
  rw[t,bE _ _ _ _ g] at u ⊢;by_cases j:dt=b
  ·subst j;simp[live] at u
  ·exact⟨j,by rw[bE _ _ _ _ j]⟩
 refine⟨e,rel.pI e.toExt0 h.n ?_ ?_ ?_ ?_ ?_ ?_⟩
 ·intro dt g u;exact⟨(Q dt g u).2,by rw[bE _ _ _ _ g],fun _ _=>rfl⟩
 ·intro D o;simp at o;subst o;rw[t,fJ];have O:=rel.blk b m C;rw[J] at O;obtain⟨h1,I,arr,ao,W,X,Y,Z,ae⟩:=O;refine⟨by simp;omega,by simp only;omega,arr,ao,W,X,Y,Z,fun ak c P=>?_⟩;rw[gn] at P;obtain⟨ap,S,U,V⟩:=ae (off+ak) c P;exact⟨ap,by simp only;rw[iE];exact S,U,V.ext e⟩
 ·intro dt al aw g u _ h1 I v;simp at I;subst I;obtain⟨j,ai⟩:=Q dt g u;rw[ai] at u;exact j (rel.inj dt b al m u K h1 C v)
 ·intro D _ o;simp at o;subst o;exact rel.base b m K C
 ·intro dt p;rw[t,bE _ _ _ _ F,bE _ _ _ _ F];exact rel.fresh dt F
 ·intro dt p;rw[bE _ _ _ _ F];exact rel.iA dt F
theorem bu.Jy {R:Nat->Prop} {B:Nat} {w w' : aO} {h:aE} {muZ:bU} (rel:bu R B w h muZ) (c:am) (o:Obj) {k:Nat} (hk:kX c=k+1)
  (H:w'.os=w.os) (J:w'.tape=w.tape) (I:w'.output=w.output) (v:w'.heap=w.heap.push o)
  (G:pX w' R (h.push c) (bh muZ h.n (some ⟨w.heap.size,0,0⟩)) ⟨w.heap.size,0,0⟩ c) (C:w.drawn<=w'.drawn:=by first | exact aF _ | exact rf _ | assumption) :
  cN w h muZ w' (h.push c) (bh muZ h.n (some ⟨w.heap.size,0,0⟩))/\bu R B w' (h.push c) (bh muZ h.n (some ⟨w.heap.size,0,0⟩)):=by
 have t:h.f h.n=.none:=rel.fresh _ (aF _);have O:kX am.none=0:=rfl;have e:cN w h muZ w' (h.push c) (bh muZ h.n (some ⟨w.heap.size,0,0⟩)):=by
  refine⟨⟨H,J,I,by simp[v],?_,?_,?_,?_,?_,?_,C⟩,?_⟩
  ·intro k hk _;rw[v,sK,ak F]
  ·rintro k ⟨b,q,m,j,rfl⟩;by_cases g:b=h.n
   ·subst g;simp at j;subst j;exact .inr (aF _)
   ·rw[bE _ _ _ _ g] at j;simp only[dL,bE _ _ _ _ g] at m;exact .inl ⟨b,q,m,j,rfl⟩
  ·intro b K u q g j;have:b≠h.n:=fun p=>by rw[p,t] at g;cases g
   exact .inl ⟨u,by simp only[dL,bE _ _ _ _ this];exact g,by rw[bE _ _ _ _ this];exact j⟩
  ·rintro b K (g | ⟨n,u,g,D⟩)
   ·have:b≠h.n:=fun p=>by rw[p,t] at g;cases g
    exact .inl (by simp only[dL,bE _ _ _ _ this];exact g)
   ·have:b≠h.n:=fun p=>by rw[p,t] at g;cases g
    exact .inr ⟨n,u,by simp only[dL,bE _ _ _ _ this];exact g,D⟩
  ·intro b k q g j;have:b≠h.n:=fun p=>by rw[p,t] at g;cases g
   exact⟨by simp only[dL,bE _ _ _ _ this];exact g,by rw[bE _ _ _ _ this];exact j⟩
  ·simp[iR]
  ·intro b g j;rw[bE _ _ _ _ F];exact j
 refine⟨e,rel.pI e.toExt0 h.n ?_ ?_ ?_ ?_ ?_ ?_⟩
 ·intro b g m;simp only[dL,bE _ _ _ _ g] at m ⊢;exact⟨trivial,trivial,fun q j=>by rw[v,sK,ak (by have:=rel.lt m j;omega)]⟩
 ·intro q j;simp at j;subst j;simp only[dL,fJ];exact G
 ·intro b q P g m _ j z;simp only[dL,bE _ _ _ _ g] at m;simp at z;subst z;have:=rel.lt m j;simp only[ne_eq];omega
 ·intro q _ j;simp at j;subst j;exact rel.size
 ·intro b g;simp only[dL,iR] at g ⊢;rw[bE _ _ _ _ F];exact rel.fresh b F
 ·intro b g;simp only[iR] at g ⊢;rw[bE _ _ _ _ F];exact rel.iA b F
theorem bu.JD {R:Nat->Prop} {B:Nat} {w w' : aO} {h:aE} {muZ:bU} (rel:bu R B w h muZ) {b k:Nat} {c c' : am} {m:M}
  (D:h.f b=c) (hk:kX c=k+1) (H:kX c'=k+1) (q:muZ b=some m)
  (V:w'.os=w.os) (X:w'.tape=w.tape) (W:w'.output=w.output) (Y:w'.heap.size=w.heap.size) (K:∀ k,k≠m.r->w'.heap[k]?=w.heap[k]?)
  (U:Ext0 w h muZ w' (h.set b c') muZ->pX w' R (h.set b c') muZ m c') (P:w.drawn<=w'.drawn:=by first | exact aF _ | exact rf _ | assumption) :
  cN w h muZ w' (h.set b c') muZ/\bu R B w' (h.set b c') muZ:=by
 have C:live (h.f b)=true:=by rw[D];cases c<;>simp[kX] at hk<;>rfl
 have ae:live c'=true:=by cases c'<;>simp[kX] at H<;>rfl
 have J:∀ F cs,h.f b≠.cells F cs:=fun F cs o=>by rw[D] at o;subst o;simp[kX] at hk
 have T:h.f b≠.dead:=fun o=>by rw[D] at o;subst o;simp[kX] at hk
 have e:cN w h muZ w' (h.set b c') muZ:=by
  refine⟨⟨V,X,W,Au Y.symm,?_,?_,?_,?_,?_,aF _,P⟩,fun _ _ q=>q⟩
  ·intro k hk S;exact K k (fun o=>S ⟨b,m,C,q,o.symm⟩)
  ·rintro k ⟨j,u,I,p,rfl⟩;by_cases g:j=b
   ·subst g;exact .inl ⟨j,u,C,p,rfl⟩
   ·simp only[de,bE _ _ _ _ g] at I;exact .inl ⟨j,u,I,p,rfl⟩
  ·intro j F cs u t p;have g:j≠b:=fun o=>by subst o;exact J _ _ t
   exact .inl ⟨cs,by simp only[de,bE _ _ _ _ g];exact t,p⟩
  ·rintro j F (v | ⟨n,O,v,Q⟩)
   ·have g:j≠b:=fun o=>by subst o;exact T v
    exact .inl (by simp only[de,bE _ _ _ _ g];exact v)
   ·have g:j≠b:=fun o=>by subst o;exact J _ _ v
    exact .inr ⟨n,O,by simp only[de,bE _ _ _ _ g];exact v,Q⟩
  ·intro j ag u t p;by_cases g:j=b
   ·subst g;refine⟨?_,p⟩;simp only[de,fJ];rw[D,hk] at t;rw[H];exact t
   ·exact⟨by simp only[de,bE _ _ _ _ g];exact t,p⟩
 refine⟨e,rel.pI e.toExt0 b ?_ ?_ ?_ ?_ ?_ rel.iA⟩
 ·intro j g z;simp only[de,bE _ _ _ _ g] at z ⊢;exact⟨trivial,trivial,fun u p=>K _ (fun o=>g (rel.inj j b u m z C p q o))⟩
 ·intro u p;rw[q] at p;cases p;simp only[de,fJ];exact U e.toExt0
 ·intro j Z ai g z _ h1 G o;rw[q] at G;cases G;simp only[de,bE _ _ _ _ g] at z;exact g (rel.inj j b Z m z C h1 q o)
 ·intro u _ p;rw[q] at p;cases p;exact rel.base b m C q
 ·intro j t;by_cases g:j=b
  ·subst g;have:=rel.j2 q;simp only[hE] at t;omega
  ·simp only[de,bE _ _ _ _ g];exact rel.fresh j t
theorem bu.write {R:Nat->Prop} {B:Nat} {w w' : aO} {h:aE} {muZ:bU} (rel:bu R B w h muZ) {b sz sz' : Nat} {cs cs' : ag} {m:M} {arr arr' : Array aB} {t:aC} {H:Nat × Nat}
  (G:h.f b=.cells sz cs) (D:muZ b=some m) (av:w.heap[m.r]?=some (.cells arr t H)) (S:arr.size=m.T) (Y:H=(0,0)\/m.T<H.1)
  (ak:w'.os=w.os) (ao:w'.tape=w.tape) (al:w'.output=w.output) (ar:w'.heap.size=w.heap.size)
  (aq:w'.heap[m.r]?=some (.cells arr' t H)) (O:∀ k,k≠m.r->w'.heap[k]?=w.heap[k]?) (V:arr'.size=arr.size)
  (ae:cs'.length=sz') (au:sz<=sz') (X:m.s+sz'<=m.T)
  (ap:∀ (j:Nat) (c:U),cs'[j]?=some c->∃ v:aB,arr'[m.s+j]?=some v/\v.oneCell'=true/\az w R h muZ c v) (W:w.drawn<=w'.drawn:=by first | exact aF _ | exact rf _ | assumption) :
  cN w h muZ w' (h.set b (.cells sz' cs')) muZ/\bu R B w' (h.set b (.cells sz' cs')) muZ:=by
 have I:live (h.f b)=true:=by rw[G];rfl
 have e:cN w h muZ w' (h.set b (.cells sz' cs')) muZ:=by
  refine⟨⟨ak,ao,al,Au ar.symm,?_,?_,?_,?_,?_,aF _,W⟩,fun _ _ D=>D⟩
  ·intro k hk aj;exact O k (fun u=>aj ⟨b,m,I,D,u.symm⟩)
  ·rintro k ⟨o,z,C,q,rfl⟩;by_cases p:o=b
   ·subst p;exact .inl ⟨o,z,I,q,rfl⟩
   ·simp only[de,bE _ _ _ _ p] at C;exact .inl ⟨o,z,C,q,rfl⟩
  ·intro o ay J z g q;by_cases p:o=b
   ·subst p;rw[G] at g;cases g;by_cases am:sz'=sz
    ·exact .inl ⟨cs',by simp[de,am],q⟩
    ·exact .inr (.inr ⟨sz',cs',by simp[de],F⟩)
   ·exact .inl ⟨J,by simp only[de,bE _ _ _ _ p];exact g,q⟩
  ·rintro o ax (g | ⟨n,J,g,ai⟩)
   ·have p:o≠b:=fun u=>by rw[u,G] at g;cases g
    exact .inl (by simp only[de,bE _ _ _ _ p];exact g)
   ·by_cases p:o=b
    ·subst p;rw[G] at g;cases g;exact .inr ⟨sz',cs',by simp[de],F⟩
    ·exact .inr ⟨n,J,by simp only[de,bE _ _ _ _ p];exact g,ai⟩
  ·intro o k z g q;have p:o≠b:=fun u=>by rw[u,G] at g;cases g
   exact⟨by simp only[de,bE _ _ _ _ p];exact g,q⟩
 refine⟨e,rel.pI e.toExt0 b ?_ ?_ ?_ ?_ ?_ ?_⟩
 ·intro o p C;simp only[de,bE _ _ _ _ p] at C ⊢;exact⟨trivial,trivial,fun z q=>O _ (fun u=>p (rel.inj o b z m C I q D u))⟩
 ·intro z q;rw[D] at q;cases q;simp only[de,fJ];refine⟨ae,X,arr',t,H,aq,V.trans S,Y,fun j c Z=>?_⟩;obtain⟨v,h1,P,Q⟩:=ap j c Z;exact⟨v,h1,P,Q.ext e⟩
 ·intro o z aw p C _ q K u;rw[D] at K;cases K;simp only[de,bE _ _ _ _ p] at C;exact p (rel.inj o b z m C I q D u)
 ·intro z _ q;exact rel.base b z I q
 ·intro o g;simp only[de,hE] at g ⊢;have p:o≠b:=fun u=>by
   have:=rel.fresh o g;rw[u,G] at this;cases this
  rw[bE _ _ _ _ p];exact rel.fresh o g
 ·intro o g;exact rel.iA o g
theorem bu.move {R:Nat->Prop} {B:Nat} {w w' : aO} {h:aE} {muZ:bU} (rel:bu R B w h muZ) {b sz sz' : Nat} {cs cs' : ag} {m:M} {arr:Array aB} {t:aC}
  (D:h.f b=.cells sz cs) (I:muZ b=some m)
  (W:w'.os=w.os) (Y:w'.tape=w.tape) (X:w'.output=w.output) (G:w'.heap=w.heap.push (.cells arr t (0,0)))
  (T:cs'.length=sz') (ae:sz<sz') (Q:sz'<=arr.size)
  (Z:∀ (j:Nat) (c:U),cs'[j]?=some c->∃ v:aB,arr[j]?=some v/\v.oneCell'=true/\az w R h muZ c v) (P:w.drawn<=w'.drawn:=by first | exact aF _ | exact rf _ | assumption) :
  cN w h muZ w' (h.set b (.cells sz' cs')) (bh muZ b (some ⟨w.heap.size,0,arr.size⟩))/\bu R B w' (h.set b (.cells sz' cs')) (bh muZ b (some ⟨w.heap.size,0,arr.size⟩)):=by
 have ai:live (h.f b)=true:=by rw[D];rfl
 have e:cN w h muZ w' (h.set b (.cells sz' cs')) (bh muZ b (some ⟨w.heap.size,0,arr.size⟩)):=by
  refine⟨⟨W,Y,X,by simp[G],?_,?_,?_,?_,?_,aF _,P⟩,?_⟩
  ·intro k hk aj;rw[G,sK,ak F]
  ·rintro k ⟨q,C,z,p,rfl⟩;by_cases g:q=b
   ·subst g;simp at p;subst p;exact .inr (aF _)
   ·rw[bE _ _ _ _ g] at p;simp only[de,bE _ _ _ _ g] at z;exact .inl ⟨q,C,z,p,rfl⟩
  ·intro q ao H C o p;by_cases g:q=b
   ·subst g;rw[D] at o;cases o;exact .inr (.inr ⟨sz',cs',by simp[de],F⟩)
   ·exact .inl ⟨H,by simp only[de,bE _ _ _ _ g];exact o,by rw[bE _ _ _ _ g];exact p⟩
  ·rintro q am (o | ⟨n,H,o,V⟩)
   ·have g:q≠b:=fun u=>by rw[u,D] at o;cases o
    exact .inl (by simp only[de,bE _ _ _ _ g];exact o)
   ·by_cases g:q=b
    ·subst g;rw[D] at o;cases o;exact .inr ⟨sz',cs',by simp[de],F⟩
    ·exact .inr ⟨n,H,by simp only[de,bE _ _ _ _ g];exact o,V⟩
  ·intro q k C o p;have g:q≠b:=fun u=>by rw[u,D] at o;cases o
   exact⟨by simp only[de,bE _ _ _ _ g];exact o,by rw[bE _ _ _ _ g];exact p⟩
  ·intro q _ p;have g:q≠b:=fun u=>by rw[u,I] at p;cases p
   rw[bE _ _ _ _ g];exact p
 refine⟨e,rel.pI e.toExt0 b ?_ ?_ ?_ ?_ ?_ ?_⟩
 ·intro q g z;simp only[de,bE _ _ _ _ g] at z ⊢;exact⟨trivial,trivial,fun C p=>by rw[G,sK,ak (by have:=rel.lt z p;omega)]⟩
 ·intro C p;simp at p;subst p;simp only[de,fJ];refine⟨T,by simpa using Q,arr,t,(0,0),by simp[G],rfl,.inl rfl,fun j c S=>?_⟩;obtain⟨v,h1,K,O⟩:=Z j c S;exact⟨v,by simpa using h1,K,O.ext e⟩
 ·intro q C al g z _ p J;simp only[de,bE _ _ _ _ g] at z;simp at J;subst J;have:=rel.lt z p;simp only[ne_eq];omega
 ·intro C _ p;simp at p;subst p;exact rel.size
 ·intro q o;simp only[de,hE] at o ⊢;have g:q≠b:=fun u=>by
   have:=rel.fresh q o;rw[u,D] at this;cases this
  rw[bE _ _ _ _ g];exact rel.fresh q o
 ·intro q o;simp only[hE] at o;have g:q≠b:=fun u=>by
   have:=rel.j2 I;omega
  rw[bE _ _ _ _ g];exact rel.iA q o
section
variable {P:bg} {w:aO} {R:Nat->Prop} {B:Nat} {h:aE} {muZ:bU}
def Good (R:Nat->Prop) (B:Nat) (w:aO) (h:aE) (muZ:bU) (r:Result Next) (c:U) (h' : aE) :Prop:=
 ∃ g w' muZ',(r=.ok (.value g) w'\/(r=.ok .skip w'/\g=undef))/\cN w h muZ w' h' muZ'/\bu R B w' h' muZ'/\az w' R h' muZ' c g
theorem b5 {t:aC} {d:TypeDesc} (g:P.underlying t=some d) :(underlying t).run P w=.ok d w:=by simp[underlying,g]
theorem zt {t:aC} {b:Bool} (g:ds P t=some b) :(isAgg t).run P w=.ok b w:=by
 unfold ds at g;cases h:P.underlying t with
 | none=>rw[h] at g;cases g
 | some d=>
  rw[h] at g;simp only[cu,bc] at g;unfold isAgg;simp only[Sem.run_bind,b5 h,Result.andThen_ok];cases d<;>simp_all
theorem Q1 {t:aC} {n:Nat} (g:b3 P t=some n) :∃ i,P.info? t=some i/\i.size=n:=by
 unfold b3 at g;cases h:P.info? t with
 | none=>rw[h] at g;cases g
 | some i=>rw[h] at g;exact⟨i,rfl,by simpa using g⟩
theorem ew {t:aC} {n:Nat} (h:b3 P t=some n) :(sizeOf t).run P w=.ok n w:=by obtain⟨i,g,j⟩:=Q1 h;simp[sizeOf,typeInfo,g,j]
theorem Yj {t:aC} {z:ag} (g:fV P t=some z) :∃ i v,P.info? t=some i/\i.zero=some v/\v.cells.toList.all Value.oneCell'=true/\z=v.cells.toList.map lK:=by
 unfold fV at g;cases j:P.info? t with
 | none=>rw[j] at g;cases g
 | some i=>
  rw[j] at g;simp only[pW] at g;cases h:i.zero with
  | none=>rw[h] at g;cases g
  | some v=>
   rw[h] at g;simp only[pW] at g;split at g
   ·rename_i h1;exact⟨i,v,rfl,h,h1,by simpa using g.symm⟩
   ·cases g
theorem Kt {t:aC} {i:TypeInfo} {v:aB} (g:P.info? t=some i) (h:i.zero=some v) :(zeroValue t).run P w=.ok v w:=by simp[zeroValue,typeInfo,g,h]
theorem az.lK (v:aB) :az w R h muZ (lK v) v:=by
 cases v with
 | bool b=>exact .bool _
 | int k n=>exact .int _ _
 | string s=>exact .str _
 | pointer a=>cases a<;>first | exact .h8 | exact .bad _
 | slice a l c=>
  simp only[bf.lK];split
  ·exact .af
  ·exact .bad _
 | map r=>cases r<;>first | exact .gP | exact .bad _
 | nilFunc=>exact .hP
 | nilIface=>exact .hz
 | func fn first eZ=>
  simp only[bf.lK];split
  ·rename_i f h1 o;have j:first=#[]:=by simpa using h1
   have m:eZ=#[]:=by simpa using o
   subst j m;exact .fn _ [] [] #[] #[] rfl rfl (fun _ _ _ g=>by simp at g) (fun _ _ _ g=>by simp at g)
  ·exact .bad _
 | _=>exact .bad _
theorem az.qB (v:aB) :az w R h muZ (qB v) v:=by
 unfold bf.qB;split
 ·rename_i cs;split
  ·rename_i m;refine .ah _ _ V (fun o v p=>?_) (fun o c v g j=>?_)
   ·rw[fW] at m;exact m v (by have:=xg p;simpa using this)
   ·rw[bX] at g;simp only[pP,j,cu,bc] at g;subst g;exact az.lK v
  ·exact .bad _
 ·rename_i q;refine .aZ _ _ V (fun o c v g j=>?_);rw[bX] at g;simp only[pP,j,cu,bc] at g;subst g;exact az.lK v
 ·exact az.lK v
theorem xV {c:U} {v:aB} {cs:ag} (p:az w R h muZ c v) (g:c.cells=some cs) :
  v.cells.size=cs.length/\∀ (j:Nat) (x:U),cs[j]?=some x->∃ u:aB,v.cells[j]?=some u/\u.oneCell'=true/\az w R h muZ x u:=by
 have m:∀ (c:U) (v:aB),az w R h muZ c v->v.cells=#[v]->v.oneCell'=true->∀ cs,cs=[c]->
   v.cells.size=cs.length/\∀ (j:Nat) (x:U),cs[j]?=some x->∃ u:aB,v.cells[j]?=some u/\u.oneCell'=true/\az w R h muZ x u:=by
  intro c v p ae h1 cs Z;subst Z;rw[ae];refine⟨rfl,fun j x H=>?_⟩;cases j with
  | zero=>simp at H;subst H;exact⟨v,rfl,h1,p⟩
  | succ j=>simp at H
 cases p with
 | ah q Q B h1 p=>
  simp only[U.cells,bc] at g;subst g;refine⟨B,fun j x H=>?_⟩;have O:j<Q.size:=by rw[B];exact (aH.1 H).1
  exact⟨Q[j],by simp[Value.cells,O],h1 j _ (by simp[O]),p j x _ H (by simp[O])⟩
 | aZ q Q B p=>simp[U.cells] at g
 | bad v=>simp[U.cells] at g
 | bool b=>exact m _ _ (.bool b) rfl rfl _ (by simpa [U.cells] using g.symm)
 | int k n=>exact m _ _ (.int k n) rfl rfl _ (by simpa [U.cells] using g.symm)
 | str S=>exact m _ _ (.str S) rfl rfl _ (by simpa [U.cells] using g.symm)
 | h8=>exact m _ _ .h8 rfl rfl _ (by simpa [U.cells] using g.symm)
 | af=>exact m _ _ .af rfl rfl _ (by simpa [U.cells] using g.symm)
 | gP=>exact m _ _ .gP rfl rfl _ (by simpa [U.cells] using g.symm)
 | hP=>exact m _ _ .hP rfl rfl _ (by simpa [U.cells] using g.symm)
 | hz=>exact m _ _ .hz rfl rfl _ (by simpa [U.cells] using g.symm)
 | ptr b o F q D t C=>exact m _ _ (.ptr b o F q D t C) rfl rfl _ (by simpa [U.cells] using g.symm)
 | iQ b o F a K=>exact m _ _ (.iQ b o F a K) rfl rfl _ (by simpa [U.cells] using g.symm)
 | bR q o I al P z p=>exact m _ _ (.bR q o I al P z p) rfl rfl _ (by simpa [U.cells] using g.symm)
 | ad G b o len cap F J q D t C B aj z=>exact m _ _ (.ad G b o len cap F J q D t C B aj z) rfl rfl _ (by simpa [U.cells] using g.symm)
 | e9 G b o len cap F J a B z K=>exact m _ _ (.e9 G b o len cap F J a B z K) rfl rfl _ (by simpa [U.cells] using g.symm)
 | gh G b o F a q D t C=>exact m _ _ (.gh G b o F a q D t C) rfl rfl _ (by simpa [U.cells] using g.symm)
 | bj G V I o cap P B ak z p=>exact m _ _ (.bj G V I o cap P B ak z p) rfl rfl _ (by simpa [U.cells] using g.symm)
 | eB G a cap=>exact m _ _ (.eB G a cap) rfl rfl _ (by simpa [U.cells] using g.symm)
 | fn f W T X q ai z h1 Y=>exact m _ _ (.fn f W T X q ai z h1 Y) rfl rfl _ (by simpa [U.cells] using g.symm)
 | mp b D t C=>exact m _ _ (.mp b D t C) rfl rfl _ (by simpa [U.cells] using g.symm)
 | it b D t C=>exact m _ _ (.it b D t C) rfl rfl _ (by simpa [U.cells] using g.symm)
 | fT am c v p=>exact m _ _ (.fT am c v p) rfl rfl _ (by simpa [U.cells] using g.symm)
 | fa l=>exact m _ _ (.fa l) rfl rfl _ (by simpa [U.cells] using g.symm)
theorem Addr.ju (b o n:Nat) :(⟨b,o,none⟩:Addr).add n=⟨b,o+n,none⟩:=by unfold Addr.add;split<;>simp_all
theorem U6 (rel:bu R B w h muZ) {p:U} {G:aB} {cs:ag} {off:Nat} (g:lQ h p=some (cs,off)) (Q:az w R h muZ p G) :
  ∃ blk o,G=.pointer (some ⟨blk,o+off,none⟩)/\∀ (j:Nat) (c:U),cs[j]?=some c->∃ v:aB,w.cell? ⟨blk,o+j,none⟩=some v/\v.oneCell'=true/\az w R h muZ c v:=by
 cases Q with
 | ptr b F T u t z P=>
  simp only[lQ,z,ite_true,bc,Prod.mk.injEq] at g;obtain⟨rfl,rfl⟩:=g;have C:=rel.blk b t P;rw[z] at C;obtain⟨h1,X,arr,ai,W,K,Y,Z,O⟩:=C;refine⟨t.r,t.s,rfl,fun j c q=>?_⟩;obtain⟨v,H,I,J⟩:=O j c q;exact⟨v,by simp[World.cell?,K,H],I,J⟩
 | iQ b F T a m=>
  unfold lQ at g;rcases m with m | ⟨n,u,m,ae⟩
  ·simp[m] at g
  ·simp only[m] at g;split at g
   ·omega
   ·cases g
 | bR u F blk o V D S=>
  simp only[lQ,bc,Prod.mk.injEq] at g;obtain⟨rfl,rfl⟩:=g;exact⟨blk,o,rfl,fun j c q=>⟨V j,(D j (aH.1 q).1).here,(D j (aH.1 q).1).one,S j c q⟩⟩
 | _=>simp[lQ] at g
theorem VI {t:aC} {cs:ag} {off:Nat} {c:U} (m:gg P t cs off=some c) {blk o:Nat}
  (B:∀ (j:Nat) (x:U),cs[j]?=some x->∃ v:aB,w.cell? ⟨blk,o+j,none⟩=some v/\v.oneCell'=true/\az w R h muZ x v) :
  ∃ v,(loadVar t ⟨blk,o+off,none⟩).run P w=.ok v w/\az w R h muZ c v:=by
 unfold gg at m;cases q:ds P t with
 | none=>rw[q] at m;cases m
 | some b=>
  rw[q] at m;cases b with
  | false=>
   simp only at m;obtain⟨v,h1,_,H⟩:=B off c m;exact⟨v,by simp[loadVar,zt q,h1],H⟩
  | true=>
   cases z:b3 P t with
   | none=>rw[z] at m;cases m
   | some n=>
    rw[z] at m;simp only at m;split at m
    ·rename_i K;cases m;have D:∀ j,j<n->∃ v,w.cell? ⟨blk,o+(off+j),none⟩=some v/\v.oneCell'=true/\az w R h muZ (cs.getD (off+j) .bad) v:=by
      intro j g;have G:off+j<cs.length:=F;have:=B (off+j) cs[off+j] (by simp[G]);simpa [List.getD,G] using this
     have J:∃ f:Nat->aB,∀ j,j<n->w.cell? ⟨blk,o+(off+j),none⟩=some (f j)/\(f j).oneCell'=true/\az w R h muZ (cs.getD (off+j) .bad) (f j):=by
      refine⟨fun j=>if g:j<n then Classical.choose (D j g) else undef,fun j g=>?_⟩;simp only[g,dif_pos];exact Classical.choose_spec (D j g)
     obtain⟨f,u⟩:=J;have I:(loadCells ⟨blk,o+off,none⟩ n).run P w=.ok ((List.range n).map f).toArray w:=by
      have:=run_loadCells_list (P:=P) w ⟨blk,o+off,none⟩ ((List.range n).map f) (fun j v g=>by
       rw[bX] at g;have p:j<n:=by
        rcases fB j n with h1 | h1
        ·exact h1
        ·rw[dV (by simpa using h1)] at g;cases g
       rw[g9 p] at g;simp only[cu,bc] at g;rw[Addr.ju,<-g,iE];exact (u j p).1)
      simpa using this
     refine⟨.agg ((List.range n).map f).toArray,by simp[loadVar,zt q,ew z,I],.ah _ _ (by simp;omega) (fun j v g=>?_) (fun j c v C g=>?_)⟩
     ·simp only[uS,bX] at g;have p:j<n:=by
       rcases fB j n with h1 | h1
       ·exact h1
       ·rw[dV (by simpa using h1)] at g;cases g
      rw[g9 p] at g;simp only[cu,bc] at g;rw[<-g];exact (u j p).2.1
     ·simp only[uS,bX] at g;have p:j<n:=by
       rcases fB j n with h1 | h1
       ·exact h1
       ·rw[dV (by simpa using h1)] at g;cases g
      rw[g9 p] at g;simp only[cu,bc] at g;rw[dG p,gn] at C;have:=(u j p).2.2;rw[List.getD,C] at this;rw[<-g];simpa using this
    ·cases m
theorem H7 (rel:bu R B w h muZ) {t:aC} {p:U} {m:aB} {c:U} (g:od P h t p=some c) (u:az w R h muZ p m) :
  ∃ v,(Instr.loadAt t m).run P w=.ok v w/\az w R h muZ c v:=by
 unfold od at g;cases j:lQ h p with
 | none=>rw[j] at g;cases g
 | some x=>
  obtain⟨cs,D⟩:=x;rw[j] at g;obtain⟨z,C,rfl,q⟩:=U6 rel j u;obtain⟨v,h1,o⟩:=VI g q;exact⟨v,by simp[Instr.loadAt,Instr.sureAddr,h1],o⟩
end
section
variable {P:bg} {w:aO} {R:Nat->Prop} {B:Nat} {h:aE} {muZ:bU}
theorem Ks (P:bg) (g o:Nat) (t:aC) (j:Nat × Nat) :∀ (vs:List aB) (i:Nat) (h:Array aB) (w:aO),w.heap[g]?=some (.cells h t j)->(j=(0,0)\/h.size<=j.1)->
  o+i+vs.length<=h.size->(∀ v∈vs,v.oneCell'=true)->
  (storeCells ⟨g,o,none⟩ vs i).run P w=.ok () (w.setRow g (h.toList.take (o+i)++vs++h.toList.drop (o+i+vs.length)).toArray)
 | [],i,h,w,m,_,_,_=>by
  simp only[storeCells,eb,hI,nG,iY,Array.toArray_toList];rw[setRow_self w g h t j m];rfl
 | v::rest,i,h,w,m,p,q,h1=>by
  have C:o+i<h.size:=by simp at q;omega
  have u:(⟨g,o,none⟩:Addr).add i=⟨g,o+i,none⟩:=Addr.ju _ _ _;have z:w.cell? ⟨g,o+i,none⟩=some h[o+i]:=by simp[World.cell?,m,C]
  have B:w.frozen? ⟨g,o+i,none⟩=false:=by
   obtain⟨H,I⟩:=j;rcases p with p | p
   ·cases p;simp[World.frozen?,m]
   ·have:¬ H<=o+i:=by simp at p;omega
    simp[World.frozen?,m,this]
  have D:(store ((⟨g,o,none⟩:Addr).add i) v).run P w=.ok () (w.setRow g (h.setIfInBounds (o+i) v)):=by
   rw[u,run_store P w _ v _ (h1 v V),z];simp[B,setCell_eq_setRow w g (o+i) h t j v m]
  have G:=Ks P g o t j rest (i+1) (h.setIfInBounds (o+i) v) (w.setRow g (h.setIfInBounds (o+i) v)) (setRow_heap w g h _ t _ m) (by simpa using p) (by simp at q ⊢;omega) (fun x F=>h1 x (by simp[F]));simp only[storeCells,Sem.run_bind,D,Result.andThen_ok,G,setRow_setRow];congr 3;have:=list_seg_step h.toList (o+i) v rest (by simp at q ⊢;omega);simpa [iE,sW 1] using this
theorem ou {cs vs:ag} {k:Nat} (hk:k<=cs.length) :(aw cs k vs).length=max cs.length (k+vs.length):=by unfold aw;simp only[cg,cI,iX];omega
theorem DK {cs vs:ag} {k j:Nat} (hk:k<=cs.length) :(aw cs k vs)[j]?=if j<k then cs[j]? else if j<k+vs.length then vs[j - k]? else cs[j]?:=by
 unfold aw;rw[fc];by_cases h1:j<k
 ·rw[aS (by simp;omega),dG h1,aj h1]
 ·rw[ej (by simp;omega),ak h1];simp only[cI,iF hk];by_cases g:j<k+vs.length
  ·rw[aS F,aj g]
  ·rw[ej F,ak g,gn];congr 1;omega
theorem sD (rel:bu R B w h muZ) {b sz k:Nat} {cs cvs:ag} {m:M} {vs:List aB} (D:h.f b=.cells sz cs) (K:muZ b=some m) (hk:k<=sz)
  (ao:vs.length=cvs.length) (ak:m.s+max sz (k+cvs.length)<=m.T)
  (Q:∀ (j:Nat) (c:U),cvs[j]?=some c->∃ v:aB,vs[j]?=some v/\v.oneCell'=true/\az w R h muZ c v) :
  ∃ w',(storeCells ⟨m.r,m.s+k,none⟩ vs).run P w=.ok () w'/\cN w h muZ w' (h.set b (.cells (max sz (k+cvs.length)) (aw cs k cvs))) muZ ∧
   bu R B w' (h.set b (.cells (max sz (k+cvs.length)) (aw cs k cvs))) muZ:=by
 have G:=rel.blk b m K;rw[D] at G;obtain⟨X,aj,arr,S,z,u,C,J,H⟩:=G;have h1:∀ v∈vs,v.oneCell'=true:=by
  intro v Z;obtain⟨j,o,rfl⟩:=Ez Z;obtain⟨v,g,p,_⟩:=Q j (cvs[j]'F) V;rw[bC o] at g;cases g;exact p
 have O:=Ks P m.r (m.s+k) S z vs 0 arr w u (by rw[C];exact J.imp id jW) F h1;simp only[nG] at O;have ae:(arr.toList.take (m.s+k)++vs++arr.toList.drop (m.s+k+vs.length)).toArray.size=arr.size:=by
  simp only[xv,cg,cI,iX,q6];omega
 have I:=rel.write (w':=w.setRow m.r (arr.toList.take (m.s+k)++vs++arr.toList.drop (m.s+k+vs.length)).toArray) (cs':=aw cs k cvs) (sz':=max sz (k+cvs.length)) D K u C J
  rfl rfl rfl (by simp[World.setRow]) (setRow_heap w m.r arr _ S z u) (fun ai W=>setRow_other w m.r ai _ W) ae
  (by rw[ou F,X]) F F (fun j c o=>?_)
 ·exact⟨_,O,I.1,I.2⟩
 ·rw[DK F] at o;simp only[uS];rw[fc];split at o
  ·rename_i Y;obtain⟨v,g,p,q⟩:=H j c o;refine⟨v,?_,p,q⟩;rw[aS (by simp;omega),dG F];simpa using g
  ·rename_i al;split at o
   ·rename_i Y;obtain⟨v,g,p,q⟩:=Q _ c o;refine⟨v,?_,p,q⟩;have t:min (m.s+k) arr.size=m.s+k:=F;rw[ej (by simp;omega)];simp only[cI,q6,t];rw[aS F,<-g];congr 1;omega
   ·rename_i am;obtain⟨v,g,p,q⟩:=H j c o;refine⟨v,?_,p,q⟩;have t:min (m.s+k) arr.size=m.s+k:=F;rw[ej (by simp;omega)];simp only[cI,q6,t];rw[ej F,gn];have:(m.s+k+vs.length+(m.s+j - (m.s+k) - vs.length))=m.s+j:=F;rw[this];simpa using g
theorem KY (rel:bu R B w h muZ) {t:aC} {p v:U} {I q:aB} {h' : aE} (g:qU P h t p v=some h') (ag:az w R h muZ p I) (aj:az w R h muZ v q) :
  ∃ w',(Instr.storeAt t I q).run P w=.ok () w'/\cN w h muZ w' h' muZ/\bu R B w' h' muZ:=by
 unfold qU at g;split at g
 ·rename_i b H ay J n V Z;obtain⟨ai,ak⟩:=xV aj V;cases j:h.f b with
  | cells m cs=>
   rw[j] at g;simp only at g;split at g
   ·rename_i W;obtain⟨rfl,av,au⟩:=W;cases g;cases ag with
    | ptr S ao ap T am ar G=>
     have D:=rel.blk b am G;rw[j] at D;have aq:=D.2.1;obtain⟨w',h1,z,C⟩:=sD (P:=P) rel (cvs:=J) (vs:=q.cells.toList) (k:=H) j G F (by simpa using ai) F
      (fun al c X=>by obtain⟨u,K,O,Q⟩:=ak al c X;exact⟨u,by simpa using K,O,Q⟩)
     have Y:max m (H+J.length)=m:=F;rw[Y] at z C;refine⟨w',?_,z,C⟩;have ae:¬ (q.cells.size≠n):=F;simp[Instr.storeAt,Instr.sureAddr,storeVar,ew Z,ae,h1]
    | iQ S ao ap a o=>
     rcases o with o | ⟨ax,T,o,aw⟩
     ·rw[o] at j;cases j
     ·rw[o] at j;cases j;omega
   ·cases g
  | _=>rw[j] at g;cases g
 ·cases g
theorem xM (rel:bu R B w h muZ) {cs:ag} {vs:Array aB} (t:aC) (p:vs.size=cs.length)
  (o:∀ (j:Nat) (c:U),cs[j]?=some c->∃ v:aB,vs[j]?=some v/\v.oneCell'=true/\az w R h muZ c v) :
  let h':=h.push (.cells cs.length cs)
  let muZ':=bh muZ h.n (some ⟨w.heap.size,0,vs.size⟩)
  let w':=w.alloc (.cells vs t)
  cN w h muZ w' h' muZ'/\bu R B w' h' muZ'/\∀ g,az w' R h' muZ' (.ptr h.n g cs.length) (.pointer (some ⟨w.heap.size,g,none⟩)):=by intro h' muZ' w';have:=rel.push (w':=w') cs vs t rfl rfl rfl rfl F o;refine⟨this.1,this.2,fun g=>?_⟩;have m:=az.ptr (w:=w') (R:=R) (h:=h') (muZ:=muZ') h.n g cs.length cs ⟨w.heap.size,0,vs.size⟩ (by simp[h',dL]) (by simp[muZ']);simpa using m
theorem Mc {t:aC} {z:ag} (q:fV P t=some z) :∃ i v,P.info? t=some i/\i.zero=some v/\v.cells.size=z.length ∧
  ∀ (j:Nat) (c:U),z[j]?=some c->∃ u:aB,v.cells[j]?=some u/\u.oneCell'=true/\az w R h muZ c u:=by
 obtain⟨i,v,o,p,h1,rfl⟩:=Yj q;refine⟨i,v,o,p,V,fun j c g=>?_⟩;rw[bX] at g;cases m:v.cells[j]? with
 | none=>simp[m] at g
 | some u=>
  simp[m] at g;subst g;rw[fW] at h1;exact⟨u,rfl,h1 u (by have:=xg m;simpa using this),az.lK u⟩
theorem FV {x:U} {o:aB} {k:Nat} {c:U} (g:kM x k=some c) (B:az w R h muZ x o) :
  ∃ a,o=.pointer (some a)/\az w R h muZ c (.pointer (some (a.add k))):=by
 cases B with
 | ptr b j m cs C q v=>
  simp only[kM,bc] at g;subst g;refine⟨_,rfl,?_⟩;rw[Addr.ju,iE];exact .ptr b _ m cs C q v
 | iQ b j m a u=>
  simp only[kM,bc] at g;subst g;exact⟨a,rfl,.iQ _ _ _ _ u⟩
 | bR cs j p D F t z=>
  simp only[kM,bc] at g;subst g;refine⟨_,rfl,?_⟩;rw[Addr.ju,iE];exact .bR cs _ p D F t z
 | _=>simp[kM] at g
theorem GR {s:aC} {f:Nat} {fd:Field} (g:rH P s f=some fd) :∃ fs,P.underlying s=some (.struct fs)/\fs[f]?=some fd:=by
 unfold rH at g;split at g
 ·rename_i fs h;exact⟨fs,h,g⟩
 ·cases g
theorem PZ {s:aC} {x c:U} {j:aB} {f:Nat} (g:yc P s x f=some c) (u:az w R h muZ x j) :
  ∃ v,(Instr.fieldAt s j f).run P w=.ok v w/\az w R h muZ c v:=by
 unfold yc at g;split at g
 ·rename_i z m;obtain⟨B,q,o⟩:=GR m;split at g
  ·rename_i n p;obtain⟨a,rfl,t⟩:=FV g u;refine⟨_,?_,t⟩;simp[Instr.fieldAt,b5 q,o,Instr.sureAddr,fieldPlace,ew p]
  ·cases g
 ·cases g
theorem nR {x:U} {j:aB} {n:Int} (g:asInt x=some n) (m:az w R h muZ x j) :∃ k,j=.int k n:=by cases m<;>simp[asInt] at g;subst g;exact⟨_,rfl⟩
theorem QW {t:aC} {x O c:U} {S K:aB} (g:vT P t x O=some c) (C:az w R h muZ x S) (H:az w R h muZ O K) :
  ∃ v,(Instr.indexAt t S K).run P w=.ok v w/\az w R h muZ c v:=by
 unfold vT at g;split at g
 ·rename_i len e i p u;obtain⟨k,rfl⟩:=nR u H;cases m:b3 P e with
  | none=>rw[m] at g;cases g
  | some z=>
   rw[m] at g;simp only at g;split at g
   ·rename_i j;obtain⟨a,rfl,B⟩:=FV g C;refine⟨_,?_,B⟩;simp[Instr.indexAt,asIntOf,b5 p,Instr.sureAddr,j,ew m]
   ·cases g
 ·rename_i e i p u;obtain⟨k,rfl⟩:=nR u H;split at g
  ·rename_i z am b D len cap Q m;split at g
   ·rename_i j;obtain⟨rfl,j⟩:=j;cases g;cases C with
    | ad _ _ _ _ _ _ V cs ak W ag I aq X=>
     refine⟨_,?_,az.ptr b (D+i.toNat*z) Q cs ak W ag⟩;simp[Instr.indexAt,asIntOf,b5 p,j,ew m,Addr.ju,iE]
    | gh=>simp at j;omega
    | e9 _ _ _ _ _ _ V a I X Z=>
     refine⟨_,?_,az.iQ b _ Q (a.add (i.toNat*z)) Z⟩;simp[Instr.indexAt,asIntOf,b5 p,j,ew m]
   ·cases g
  ·rename_i z am q m;split at g
   ·rename_i j;obtain⟨rfl,j⟩:=j;cases o:q[i.toNat]? with
    | none=>rw[o] at g;cases g
    | some G=>
     rw[o] at g;simp only[cu,bc] at g;subst g;have J:i.toNat<q.length:=(aH.1 o).1;have ae:(0<=i/\i<(q.length:Int)):=F;cases C with
     | bj _ _ T D cap al I ai Y B=>
      have ao:G.length=z:=ai _ (cz o);refine⟨_,?_,az.bR G 0 T (D+i.toNat*z) (al i.toNat) (fun aj ap=>?_) (B _ _ o)⟩
      ·simp[Instr.indexAt,asIntOf,b5 p,ae,ew m,Addr.ju]
      ·have:=Y i.toNat aj J F
       rwa [iE]
     | eB=>simp at J
   ·cases g
  ·cases g
 ·cases g
end
section
variable {P:bg} {w:aO} {R:Nat->Prop} {B:Nat} {h:aE} {muZ:bU}
theorem hx {alZ:Type} {z:Nat}:∀ {es:List (List alZ)},(∀ e,e∈es->e.length=z)->es.flatten.length=es.length*z
 | [],_=>V
 | e::es,g=>by
  rw[gR,cg,g e V,hx (fun e h=>g e (by simp[h])),du,ec,sW]
theorem G8 {alZ:Type} {z:Nat}:∀ {es:List (List alZ)} {j:Nat} {c:alZ},(∀ e,e∈es->e.length=z)->es.flatten[j]?=some c->
  ∃ i k e,j=i*z+k/\k<z/\es[i]?=some e/\e[k]?=some c
 | [],_,_,_,g=>by simp at g
 | e::es,j,c,m,g=>by
  have h:=m e V;rw[gR] at g;by_cases u:j<e.length
  ·rw[aS u] at g;exact⟨0,j,e,V,F,rfl,g⟩
  ·rw[ej F] at g;obtain⟨i,k,o,h1,p,q,t⟩:=G8 (fun e h=>m e (by simp[h])) g;exact⟨i+1,k,o,by rw[ec];omega,p,by simpa using q,t⟩
def oN (w:aO) (R:Nat->Prop) (h:aE) (muZ:bU) (xs:ag) (vs:List aB) :Prop:=
 vs.length=xs.length/\∀ (j:Nat) (c:U),xs[j]?=some c->∃ g:aB,vs[j]?=some g/\g.oneCell'=true/\az w R h muZ c g
theorem Dx {w2:aO} {xs:ag} {blk o:Nat} (H:∀ a,w2.cell? a=w.cell? a)
  (G:∀ (j:Nat) (c:U),xs[j]?=some c->∃ v:aB,w.cell? ⟨blk,o+j,none⟩=some v/\v.oneCell'=true/\az w R h muZ c v) :
  ∃ vs:List aB,oN w R h muZ xs vs/\∀ k,k<=xs.length->∀ w2:aO,(∀ a,w2.cell? a=w.cell? a)->(loadCells ⟨blk,o,none⟩ k).run P w2=.ok (vs.take k).toArray w2:=by
 have D:∃ f:Nat->aB,∀ (j:Nat) (c:U),xs[j]?=some c->w.cell? ⟨blk,o+j,none⟩=some (f j)/\(f j).oneCell'=true/\az w R h muZ c (f j):=by
  refine⟨fun j=>(w.cell? ⟨blk,o+j,none⟩).getD undef,fun j c g=>?_⟩;obtain⟨v,h1,q,t⟩:=G j c g;simp only[h1,gU];exact⟨trivial,q,t⟩
 obtain⟨f,m⟩:=D;refine⟨(List.range xs.length).map f,⟨V,fun j c g=>?_⟩,fun k hk w2 u=>?_⟩
 ·have C:j<xs.length:=(aH.1 g).1;exact⟨f j,by simp[C],(m j c g).2⟩
 ·have:=run_loadCells_list (P:=P) w2 ⟨blk,o,none⟩ (((List.range xs.length).map f).take k) (fun j v g=>by
   have z:j<k:=by
    rcases fB j k with h1 | h1
    ·exact h1
    ·rw[dV (by simp;omega)] at g;cases g
   rw[dG z,bX] at g;have p:j<xs.length:=F;rw[g9 p] at g;simp only[cu,bc] at g;rw[Addr.ju,<-g,u];exact (m j _ (bC p)).1)
  have B:(((List.range xs.length).map f).take k).length=k:=by simp;omega
  rw[B] at this;exact this
theorem qk (rel:bu R B w h muZ) {z n:Nat} {x:U} {O:aB} {xs:ag} (g:contents h z x=some (xs,n)) (K:az w R h muZ x O) :
  xs.length=n*z/\(Builtin.lenOf O).run P w=.ok n w/\∃ vs:List aB,oN w R h muZ xs vs ∧
   ∀ k,k<=n->∀ w2:aO,(∀ a,w2.cell? a=w.cell? a)->(Builtin.firstCells z k O).run P w2=.ok (vs.take (k*z)).toArray w2:=by
 cases K with
 | af=>
  simp only[contents,bc,Prod.mk.injEq] at g;obtain⟨rfl,rfl⟩:=g;exact⟨V,by simp[Builtin.lenOf],[],⟨rfl,fun m c j=>by simp at j⟩,fun k _ w2 _=>by simp[Builtin.firstCells]⟩
 | str q=>
  simp only[contents] at g;split at g
  ·rename_i D;subst D;simp only[bc,Prod.mk.injEq] at g;obtain⟨rfl,rfl⟩:=g;refine⟨V,by simp[Builtin.lenOf],q.data.toList.map fun b=>.int .u8 b.toNat,⟨V,fun m c j=>?_⟩,fun k hk w2 _=>?_⟩
   ·rw[bX] at j ⊢;cases o:q.data.toList[m]? with
    | none=>rw[o] at j;cases j
    | some b=>
     rw[o] at j;simp only[cu,bc] at j;subst j;exact⟨_,rfl,rfl,.int _ _⟩
   ·have K:(q.extract 0 k).data.toList=q.data.toList.take k:=by
     simp[ByteArray.extract,ByteArray.copySlice]
    have aw:(q.extract 0 k).data=(q.data.toList.take k).toArray:=by rw[<-K]
    simp only[Builtin.firstCells,aw];simp
  ·cases g
 | bj G Q al p cap aA I D aq av=>
  simp only[contents] at g;split at g
  ·rename_i C;subst C;simp only[bc,Prod.mk.injEq] at g;obtain⟨rfl,rfl⟩:=g;have t:=hx D;have J:∀ (m:Nat) (c:U),Q.flatten[m]?=some c->∃ v:aB,w.cell? ⟨al,p+m,none⟩=some v/\v.oneCell'=true/\az w R h muZ c v:=by
    intro m c j;obtain⟨i,k,e,rfl,hk,X,ar⟩:=G8 D j;have au:i<Q.length:=(aH.1 X).1;have W:=aq i k au hk;exact⟨aA i k,W.here,W.one,av i e X k c ar⟩
   obtain⟨vs,h1,S⟩:=Dx (P:=P) (w2:=w) (fun _=>rfl) J;refine⟨t,by simp[Builtin.lenOf],vs,h1,fun k hk w2 H=>?_⟩;have:=S (k*z) (by rw[t];exact cj _ hk) w2 H;simp[Builtin.firstCells,this]
  ·cases g
 | eB G a cap=>
  simp only[contents] at g;split at g
  ·simp only[bc,Prod.mk.injEq] at g;obtain⟨rfl,rfl⟩:=g;exact⟨V,by simp[Builtin.lenOf],[],⟨rfl,fun m c j=>by simp at j⟩,fun k hk w2 _=>by
    obtain rfl:k=0:=by simpa using hk
    simp[Builtin.firstCells,loadCells,loadCellsFrom]⟩
  ·cases g
 | ad G b p len cap ae am cs F o Z I aL aI=>
  simp only[contents,o,true_and] at g;split at g
  ·rename_i C;subst C;simp only[bc,Prod.mk.injEq] at g;obtain⟨rfl,rfl⟩:=g;have T:=rel.blk b F Z;rw[o] at T;obtain⟨h1,S,arr,aN,aD,ao,aE,aG,ap⟩:=T;have aK:len*z<=cap*z:=cj _ I;have t:((cs.drop p).take (len*z)).length=len*z:=by
    rw[cI,iX];omega
   have J:∀ (m:Nat) (c:U),((cs.drop p).take (len*z))[m]?=some c->∃ v:aB,w.cell? ⟨F.r,(F.s+p)+m,none⟩=some v/\v.oneCell'=true/\az w R h muZ c v:=by
    intro m c j;have Y:m<len*z:=by
     have:=(aH.1 j).1;rw[t] at this;exact this
    rw[dG Y,gn] at j;obtain⟨v,ai,aj,ak⟩:=ap _ c j;exact⟨v,by simp[World.cell?,ao,iE,ai],aj,ak⟩
   obtain⟨vs,ax,ay⟩:=Dx (P:=P) (w2:=w) (fun _=>rfl) J;refine⟨t,by simp[Builtin.lenOf],vs,ax,fun k hk w2 H=>?_⟩;have:=ay (k*z) (by rw[t];exact cj _ hk) w2 H;simp[Builtin.firstCells,this]
  ·cases g
 | gh G b p ae a cs F o Z=>
  simp only[contents,o,true_and] at g;split at g
  ·rename_i C;subst C;simp only[bc,Prod.mk.injEq,s1,mR] at g;obtain⟨rfl,rfl⟩:=g;exact⟨V,by simp[Builtin.lenOf],[],⟨rfl,fun m c j=>by simp at j⟩,fun k hk w2 _=>by
    obtain rfl:k=0:=by simpa using hk
    simp[Builtin.firstCells,loadCells,loadCellsFrom]⟩
  ·cases g
 | e9 G b p len cap ae am a I aJ u=>
  unfold contents at g;rcases u with u | ⟨aM,aC,u,Y⟩
  ·simp[u] at g
  ·simp only[u] at g;split at g
   ·omega
   ·cases g
 | _=>simp[contents] at g
theorem vF {t e:aC} (g:gb P t=some e) :P.underlying t=some (.slice e):=by
 unfold gb at g;split at g
 ·rename_i j h;cases g;exact h
 ·cases g
def tV (P:bg) (u:aC) :Prop:=∃ d,P.underlying u=some d/\∀ k,d≠.int k
theorem HM (d:TypeDesc) (hk:∀ k,d≠.int k) :(match d with | .int _=>true | _=>false)=false:=by
 cases d with
 | int k=>exact bK rfl (hk k)
 | _=>rfl
theorem run_append_fits {t u ty e:aC} {z n sLen h:Nat} {base:Option Addr} {j:aB} {vs:List aB} {w' : aO} (o:P.underlying t=some (.slice e)) (B:b3 P e=some z) (C:tV P u)
  (v:(Builtin.lenOf j).run P w=.ok n w) (p:(Builtin.firstCells z n j).run P w=.ok vs.toArray w) (q:sLen+n<=h)
  (g:match base with | some a=>(storeCells (a.add (sLen*z)) vs).run P w=.ok () w' | none=>w'=w) :
  (Builtin.append_ #[t,u] ty #[.slice base sLen h,j]).run P w=.ok (.slice base (sLen+n) h) w':=by
 obtain⟨d,m,hk⟩:=C;have D:=HM d hk;cases base with
 | none=>
  subst g;simp[Builtin.append_,b5 o,ew B,b5 m,v,q,p]
 | some a=>
  simp only at g;simp[Builtin.append_,b5 o,ew B,b5 m,v,q,p,g]
theorem VF {t u ty e:aC} {i:TypeInfo} {zv:aB} {n sLen g:Nat} {base:Option Addr} {j:aB} {h vs:List aB} (v:P.underlying t=some (.slice e)) (m:P.info? e=some i) (K:i.zero=some zv) (I:tV P u)
  (C:(Builtin.lenOf j).run P w=.ok n w) (z:(Builtin.firstCells i.size n j).run P w.drew=.ok vs.toArray w.drew) (G:(Builtin.firstCells i.size sLen (.slice base sLen g)).run P w.drew=.ok h.toArray w.drew)
  (B:g<sLen+n) (H:(sLen+n)*i.bytes<=db) (O:0<i.bytes) :
  (Builtin.append_ #[t,u] ty #[.slice base sLen g,j]).run P w =
   .ok (.slice (some ⟨w.heap.size,0,none⟩) (sLen+n) (grownCap w (sLen+n) g e)) (w.drew.alloc (.cells ((h++vs).toArray++Builtin.zeroCells zv.cells (grownCap w (sLen+n) g e - (sLen+n))) e)):=by
 obtain⟨d,q,hk⟩:=I;have Q:=HM d hk;have J:b3 P e=some i.size:=by simp[b3,m]
 have D:¬ (sLen+n<=g):=F;have o:¬ (281474976710656<Builtin.nextslicecap (sLen+n) g*i.bytes):=by
  have:=growslice_fits B H;omega
 have p:¬ (i.bytes=0):=F;simp[Builtin.append_,b5 v,ew J,b5 q,C,D,typeInfo,m,o,p,Question.forced,G,z,zeroValue,K,newRow,grownCap];rw[<-z1,List.append_toArray h vs]
theorem Wd {s:U} {jN:aB} (j:az w R h muZ s jN) (hk:s=.af\/(∃ z es,s=.bj z es)\/∃ z b off len cap sz,s=.ad z b off len cap sz) :
  ∃ base sLen Ku,jN=.slice base sLen Ku/\sLen<=Ku:=by
 cases j<;>simp at hk
 ·exact⟨_,_,_,rfl,aF _⟩
 ·rename_i g t o;exact⟨_,_,_,rfl,F⟩
 ·rename_i g p q;exact⟨_,_,_,rfl,F⟩
 ·exact⟨_,_,_,rfl,aF _⟩
 ·rename_i g v m u;exact⟨_,_,_,rfl,F⟩
 ·exact⟨_,_,_,rfl,ek _⟩
theorem Ma {e:aC} {z:Nat} (g:l2 P e=some z) :∃ i v,P.info? e=some i/\i.zero=some v/\v.cells.size=z:=by
 unfold l2 at g;cases j:P.info? e with
 | none=>rw[j] at g;cases g
 | some i=>
  rw[j] at g;simp only[pW] at g;cases h:i.zero with
  | none=>rw[h] at g;cases g
  | some v=>rw[h] at g;exact⟨i,v,rfl,h,by simpa using g⟩
theorem vM {e:aC} {zv:aB} {z need cap:Nat} {xs:ag} {vs:List aB} (u:zv.cells.size=z) (q:xs.length=need*z) (m:oN w R h muZ xs vs) (B:need<=cap) :
  (vs.toArray++Builtin.zeroCells zv.cells (cap - need)).size=cap*z ∧
  ∀ (j:Nat) (c:U),xs[j]?=some c->∃ v:aB,(vs.toArray++Builtin.zeroCells zv.cells (cap - need))[j]?=some v/\v.oneCell'=true/\az w R h muZ c v:=by
 refine⟨?_,fun j c p=>?_⟩
 ·have h1:(Builtin.zeroCells zv.cells (cap - need)).size=(cap - need)*z:=by simp[Builtin.zeroCells,u]
  have g:need*z+(cap - need)*z=cap*z:=by rw[<-eI];congr 1;omega
  rw[En,h1,xv,m.1,q,g]
 ·obtain⟨v,h1,g,o⟩:=m.2 j c p;have t:j<vs.length:=(aH.1 h1).1;refine⟨v,?_,g,o⟩;rw[oB (by simpa using t)];simpa using h1
theorem Fq (rel:bu R B w h muZ) {t u ty e:aC} {z by_ n:Nat} {s c:U} {jN aX:aB} {h' : aE} {xs:ag} {vs:List aB} (bm:b3 P e=some z) (a8:gG P e=some by_)
  (g:p8 P h e z by_ s xs n=some (c,h')) (aT:az w R h muZ s jN) (S:xs.length=n*z) (O:oN w R h muZ xs vs)
  (aN:∀ (base:Option Addr) (sLen X:Nat) (w' : aO),sLen+n<=X->(match base with | some a=>(storeCells (a.add (sLen*z)) vs).run P w=.ok () w' | none=>w'=w)->
   (Builtin.append_ #[t,u] ty #[.slice base sLen X,aX]).run P w=.ok (.slice base (sLen+n) X) w')
  (ay:∀ (i:TypeInfo) (zv:aB),P.info? e=some i->i.zero=some zv->∀ (base:Option Addr) (sLen X:Nat) (p:List aB),(Builtin.firstCells i.size sLen (.slice base sLen X)).run P w.drew=.ok p.toArray w.drew->
   X<sLen+n->(sLen+n)*i.bytes<=db->0<i.bytes->(Builtin.append_ #[t,u] ty #[.slice base sLen X,aX]).run P w =
   .ok (.slice (some ⟨w.heap.size,0,none⟩) (sLen+n) (grownCap w (sLen+n) X e)) (w.drew.alloc (.cells ((p++vs).toArray++Builtin.zeroCells zv.cells (grownCap w (sLen+n) X e - (sLen+n))) e))) :
  ∃ v w' muZ',(Builtin.append_ #[t,u] ty #[jN,aX]).run P w=.ok v w'/\cN w h muZ w' h' muZ'/\bu R B w' h' muZ'/\az w' R h' muZ' c v:=by
 unfold p8 at g;by_cases a4:n=0
 ·-- nothing is appended
  subst a4;simp only[if_true] at g;have a2:(c,h')=(s,h):=by
   split at g<;>first | (simp only[bc] at g;exact g.symm) | cases g
  have hk:s=.af\/(∃ z a6,s=.bj z a6)\/∃ z b j len cap sz,s=.ad z b j len cap sz:=by
   split at g
   ·exact .inl rfl
   ·exact .inr (.inl ⟨_,_,rfl⟩)
   ·exact .inr (.inr ⟨_,_,_,_,_,_,rfl⟩)
   ·cases g
  simp only[Prod.mk.injEq] at a2;obtain⟨rfl,rfl⟩:=a2;obtain⟨base,sLen,X,rfl,bx⟩:=Wd aT hk;have bl:vs=[]:=by
   have:vs.length=0:=by rw[O.1,S];simp
   exact il.1 this
  subst bl;have:=aN base sLen X w F (by cases base<;>simp[storeCells]);exact⟨_,w,muZ,this,.refl _ _ _,rel,by simpa using aT⟩
 ·rw[ak a4] at g;split at g
  ·cases g
  ·rename_i a1;simp only[not_or,Decidable.not_not] at a1;obtain⟨bn,br,bo⟩:=a1;obtain⟨i,zv,ap,aM,aL⟩:=Ma bo;have aV:i.size=z:=by simpa [b3,ap] using bm
   have av:i.bytes=by_:=by simpa [gG,ap] using a8
   have bp:0<z:=Nat.pos_of_ne_zero bn;have aU:∀ a,w.drew.cell? a=w.cell? a:=fun _=>rfl
   split at g
   ·-- append to nil
    split at g
    ·rename_i aq;simp only[bc,Prod.mk.injEq] at g;obtain⟨rfl,rfl⟩:=g;cases aT;have H:=ay i zv ap aM none 0 0 [] (by simp[Builtin.firstCells]) F (by rw[av];simpa using aq) F;have C:n<=grownCap w (0+n) 0 e:=by have:=grownCap_ge w (0+n) 0 e;omega
     obtain⟨I,W⟩:=vM (e:=e) (zv:=zv) (need:=n) (cap:=grownCap w (0+n) 0 e) aL (by rw[S]) O C;have q:=rel.push (w':=w.drew.alloc (.cells (vs.toArray++Builtin.zeroCells zv.cells (grownCap w (0+n) 0 e - n)) e)) xs _ e rfl rfl rfl rfl (by rw[I,S];exact cj _ C) W;rw[S] at q;refine⟨_,_,_,by simpa using H,by simpa using q.1,by simpa using q.2,?_⟩;have:=az.ad (w:=w.drew.alloc (.cells (vs.toArray++Builtin.zeroCells zv.cells (grownCap w (0+n) 0 e - n)) e)) (R:=R) (h:=h.push (.cells (n*z) xs)) (muZ:=bh muZ h.n (some ⟨w.heap.size,0,(vs.toArray++Builtin.zeroCells zv.cells (grownCap w (0+n) 0 e - n)).size⟩))
      z h.n 0 n n (n*z) (grownCap w (0+n) 0 e) xs ⟨w.heap.size,0,(vs.toArray++Builtin.zeroCells zv.cells (grownCap w (0+n) 0 e - n)).size⟩ (by simp[dL]) V (aF _) F (.inr ⟨F,C,by simp only;rw[I];omega⟩)
     simpa using this
    ·cases g
   ·rename_i bF b j len cap sz;cases D:h.f b with
    | cells m cs=>
     rw[D] at g;simp only at g;split at g
     ·rename_i bb;obtain⟨rfl,rfl,aq⟩:=bb;cases aT with
      | e9 _ _ _ _ _ _ cap' a aA bt H=>
       exfalso;rcases H with H | ⟨bC,aY,H,al⟩
       ·rw[H] at D;cases D
       ·rw[H] at D;cases D;omega
      | gh _ _ _ _ a aY o ar K=>
       rw[D] at ar;cases ar;have a7:=rel.j2 K;rw[ak F,s1,mR,mR,im,gT] at g;have H:=ay i zv ap aM (some a) 0 0 [] (by simp[Builtin.firstCells,loadCells,loadCellsFrom]) F (by rw[av];exact aq) F;rw[gT] at H;have C:n<=grownCap w n 0 e:=grownCap_ge _ _ _ _;obtain⟨I,W⟩:=vM (e:=e) (zv:=zv) (need:=n) (cap:=grownCap w n 0 e) aL (by rw[S]) O C;split at g
       ·simp only[bc,Prod.mk.injEq] at g;obtain⟨rfl,rfl⟩:=g;have q:=rel.push (w':=w.drew.alloc (.cells (vs.toArray++Builtin.zeroCells zv.cells (grownCap w n 0 e - n)) e)) xs _ e rfl rfl rfl rfl (by rw[I,S];exact cj _ C) W;rw[S] at q;refine⟨_,_,_,by simpa using H,by simpa using q.1,by simpa using q.2,?_⟩;have:=az.ad (w:=w.drew.alloc (.cells (vs.toArray++Builtin.zeroCells zv.cells (grownCap w n 0 e - n)) e)) (R:=R) (h:=h.push (.cells (n*z) xs)) (muZ:=bh muZ h.n (some ⟨w.heap.size,0,(vs.toArray++Builtin.zeroCells zv.cells (grownCap w n 0 e - n)).size⟩))
         z h.n 0 n n (n*z) (grownCap w n 0 e) xs ⟨w.heap.size,0,(vs.toArray++Builtin.zeroCells zv.cells (grownCap w n 0 e - n)).size⟩ (by simp[dL]) V (aF _) F (.inr ⟨F,C,by simp only;rw[I];omega⟩)
        simpa using this
       ·rename_i bg;split at g
        ·rename_i aR;subst aR;simp only[bc,Prod.mk.injEq] at g;obtain⟨rfl,rfl⟩:=g;have aP:m<n*z:=by
          have:1*1<=n*z:=Nat.mul_le_mul F bp;omega
         have q:=rel.move (w':=w.drew.alloc (.cells (vs.toArray++Builtin.zeroCells zv.cells (grownCap w n 0 e - n)) e)) D K rfl rfl rfl rfl S aP (by rw[I];exact cj _ C) W;refine⟨_,_,_,by simpa using H,by simpa using q.1,by simpa using q.2,?_⟩;have:=az.ad (w:=w.drew.alloc (.cells (vs.toArray++Builtin.zeroCells zv.cells (grownCap w n 0 e - n)) e)) (R:=R) (h:=h.set b (.cells (n*z) xs)) (muZ:=bh muZ b (some ⟨w.heap.size,0,(vs.toArray++Builtin.zeroCells zv.cells (grownCap w n 0 e - n)).size⟩))
          z b 0 n n (n*z) (grownCap w n 0 e) xs ⟨w.heap.size,0,(vs.toArray++Builtin.zeroCells zv.cells (grownCap w n 0 e - n)).size⟩ (by simp[de]) V (aF _) F (.inr ⟨F,C,by simp only;rw[I];omega⟩)
         simpa using this
        ·simp only[bc,Prod.mk.injEq] at g;obtain⟨rfl,rfl⟩:=g;have q:=rel.push (w':=w.drew.alloc (.cells (vs.toArray++Builtin.zeroCells zv.cells (grownCap w n 0 e - n)) e)) xs _ e rfl rfl rfl rfl (by rw[I,S];exact cj _ C) W;rw[S] at q;have hk:=q.2.kill (b:=b) (sz:=m) (cs:=cs) (h':=(h.set b .dead).push (.cells (n*z) xs)) (by rw[dL,bE _ _ _ _ F];exact D) (by rw[iR];omega) (by
          rw[dL,dL,de,hE];funext x;simp only[bh];by_cases h1:x=h.n
          ·rw[aj h1,ak F,aj h1]
          ·rw[ak h1];split<;>rfl) rfl
         refine⟨_,_,_,by simpa using H,by simpa using q.1.trans hk.1,by simpa using hk.2,?_⟩;have:=az.ad (w:=w.drew.alloc (.cells (vs.toArray++Builtin.zeroCells zv.cells (grownCap w n 0 e - n)) e)) (R:=R) (h:=(h.set b .dead).push (.cells (n*z) xs)) (muZ:=bh muZ h.n (some ⟨w.heap.size,0,(vs.toArray++Builtin.zeroCells zv.cells (grownCap w n 0 e - n)).size⟩))
          z h.n 0 n n (n*z) (grownCap w n 0 e) xs ⟨w.heap.size,0,(vs.toArray++Builtin.zeroCells zv.cells (grownCap w n 0 e - n)).size⟩ (by rw[dL,hE,fJ]) V (aF _) F (.inr ⟨F,C,by simp only;rw[I];omega⟩)
         simpa using this
      | ad _ _ _ _ _ _ cap' aY o ar K aA aQ J=>
       have a0:=rel.blk b o K;rw[D] at a0;obtain⟨bv,bq,_⟩:=a0;rw[D] at ar;cases ar;have bz:len*z<=cap*z:=cj _ aA;have bs:cap<=cap':=by rcases J with J | J<;>omega
       split at g
       ·-- in place,within what the machine knows
        rename_i Z;simp only[bc,Prod.mk.injEq] at g;obtain⟨rfl,rfl⟩:=g;have bA:len*z+n*z<=cap*z:=by rw[<-eI];exact cj _ Z
        have aD:max m (j+len*z+xs.length)=m:=F;obtain⟨w',h1,ae,ai⟩:=sD (P:=P) rel (cvs:=xs) (vs:=vs) (k:=j+len*z) D K F O.1 F O.2;rw[aD] at ae ai;have aJ:(storeCells ((⟨o.r,o.s+j,none⟩:Addr).add (len*z)) vs).run P w=.ok () w':=by rw[Addr.ju,iE];exact h1
        refine⟨_,w',muZ,aN (some ⟨o.r,o.s+j,none⟩) _ _ _ F aJ,ae,ai,?_⟩;exact .ad z b j (len+n) cap m cap' _ o (by simp[de];rfl) K Z aQ J
       ·rename_i bB;split at g
        ·-- beyond a slice whose end lies within the row: it moves
         rename_i bw;simp only[bc,Prod.mk.injEq] at g;obtain⟨rfl,rfl⟩:=g;have a9:cap'=cap:=by rcases J with J | J<;>omega
         subst a9;have ax:contents h z (.ad z b j len cap' m)=some ((cs.drop j).take (len*z),len):=by simp[contents,D]
         obtain⟨am,_,p,G,aH⟩:=qk (P:=P) rel ax (az.ad z b j len cap' m cap' cs o D K aA aQ J);have aG:∀ w2:aO,(∀ a,w2.cell? a=w.cell? a)->(Builtin.firstCells z len (.slice (some ⟨o.r,o.s+j,none⟩) len cap')).run P w2=.ok p.toArray w2:=fun w2 aK=>by
          have:=aH len (aF _) w2 aK
          rwa [aI (by rw[G.1,am];exact aF _)] at this
         have H:=ay i zv ap aM (some ⟨o.r,o.s+j,none⟩) len cap' p (by rw[aV];exact aG w.drew aU) F (by rw[av];exact aq) F;have C:len+n<=grownCap w (len+n) cap' e:=grownCap_ge _ _ _ _;have au:oN w R h muZ ((cs.drop j).take (len*z)++xs) (p++vs):=by
          refine⟨by simp[G.1,O.1],fun ao c Q=>?_⟩;by_cases al:ao<((cs.drop j).take (len*z)).length
          ·rw[aS al] at Q;rw[aS (by rw[G.1];exact al)];exact G.2 ao c Q
          ·rw[ej F] at Q;rw[ej (by rw[G.1];omega),G.1];exact O.2 _ c Q
         have Y:((cs.drop j).take (len*z)++xs).length=(len+n)*z:=by rw[cg,am,S,eI]
         obtain⟨I,W⟩:=vM (e:=e) (zv:=zv) (need:=len+n) (cap:=grownCap w (len+n) cap' e) aL Y au C;have q:=rel.push (w':=w.drew.alloc (.cells ((p++vs).toArray++Builtin.zeroCells zv.cells (grownCap w (len+n) cap' e - (len+n))) e)) _ _ e rfl rfl rfl rfl (by rw[I,Y];exact cj _ C) W;rw[Y] at q;refine⟨_,_,_,H,q.1,q.2,?_⟩;have:=az.ad (w:=w.drew.alloc (.cells ((p++vs).toArray++Builtin.zeroCells zv.cells (grownCap w (len+n) cap' e - (len+n))) e)) (R:=R) (h:=h.push (.cells ((len+n)*z) ((cs.drop j).take (len*z)++xs))) (muZ:=bh muZ h.n (some ⟨w.heap.size,0,((p++vs).toArray++Builtin.zeroCells zv.cells (grownCap w (len+n) cap' e - (len+n))).size⟩))
          z h.n 0 (len+n) (len+n) ((len+n)*z) (grownCap w (len+n) cap' e) _ ⟨w.heap.size,0,((p++vs).toArray++Builtin.zeroCells zv.cells (grownCap w (len+n) cap' e - (len+n))).size⟩ (by simp[dL];rfl) V (aF _) F (.inr ⟨F,C,by simp only;rw[I];omega⟩)
         simpa using this
        ·rename_i bg;split at g
         ·-- beyond the row's end: in place,or it moves
          rename_i aR;subst aR;simp only[bc,Prod.mk.injEq] at g;obtain⟨rfl,rfl⟩:=g;obtain⟨bd,bf,a3⟩:0+cap*z=m/\cap<=cap'/\o.s+0+cap'*z<=o.T:=by rcases J with J | J<;>omega
          have aP:m<(len+n)*z:=by
           have:(cap+1)*z<=(len+n)*z:=cj _ F;rw[eI] at this;omega
          have bk:len*z+n*z=(len+n)*z:=by rw[eI]
          by_cases Z:len+n<=cap'
          ·have bi:(len+n)*z<=cap'*z:=cj _ Z;have aD:max m (len*z+xs.length)=(len+n)*z:=F;obtain⟨w',h1,ae,ai⟩:=sD (P:=P) rel (cvs:=xs) (vs:=vs) (k:=len*z) D K F O.1 F O.2;rw[aD] at ae ai;have aW:aw cs (len*z) xs=cs.take (len*z)++xs:=by
            unfold aw;rw[jS F,eb]
           rw[aW] at ae ai;have aJ:(storeCells ((⟨o.r,o.s+0,none⟩:Addr).add (len*z)) vs).run P w=.ok () w':=by rw[Addr.ju,iE];simpa using h1
           refine⟨_,w',muZ,aN (some ⟨o.r,o.s+0,none⟩) _ _ _ Z aJ,ae,ai,?_⟩;exact .ad z b 0 (len+n) (len+n) ((len+n)*z) cap' _ o (by simp[de];rfl) K (aF _) F (.inr ⟨F,Z,a3⟩)
          ·have ax:contents h z (.ad z b 0 len cap m)=some ((cs.drop 0).take (len*z),len):=by simp[contents,D]
           obtain⟨am,_,p,G,aH⟩:=qk (P:=P) rel ax (az.ad z b 0 len cap m cap' cs o D K aA aQ J);have aG:∀ w2:aO,(∀ a,w2.cell? a=w.cell? a)->(Builtin.firstCells z len (.slice (some ⟨o.r,o.s+0,none⟩) len cap')).run P w2=.ok p.toArray w2:=fun w2 aK=>by
            have:=aH len (aF _) w2 aK
            rwa [aI (by rw[G.1,am];exact aF _)] at this
           rw[lh] at am G;have H:=ay i zv ap aM (some ⟨o.r,o.s+0,none⟩) len cap' p (by rw[aV];exact aG w.drew aU) F (by rw[av];exact aq) F;have C:len+n<=grownCap w (len+n) cap' e:=grownCap_ge _ _ _ _;have au:oN w R h muZ (cs.take (len*z)++xs) (p++vs):=by
            refine⟨by simp[G.1,O.1],fun ao c Q=>?_⟩;by_cases al:ao<(cs.take (len*z)).length
            ·rw[aS al] at Q;rw[aS (by rw[G.1];exact al)];exact G.2 ao c Q
            ·rw[ej F] at Q;rw[ej (by rw[G.1];omega),G.1];exact O.2 _ c Q
           have Y:(cs.take (len*z)++xs).length=(len+n)*z:=by rw[cg,am,S,eI]
           obtain⟨I,W⟩:=vM (e:=e) (zv:=zv) (need:=len+n) (cap:=grownCap w (len+n) cap' e) aL Y au C;have q:=rel.move (w':=w.drew.alloc (.cells ((p++vs).toArray++Builtin.zeroCells zv.cells (grownCap w (len+n) cap' e - (len+n))) e)) D K rfl rfl rfl rfl Y aP (by rw[I];exact cj _ C) W;refine⟨_,_,_,H,q.1,q.2,?_⟩;have:=az.ad (w:=w.drew.alloc (.cells ((p++vs).toArray++Builtin.zeroCells zv.cells (grownCap w (len+n) cap' e - (len+n))) e)) (R:=R) (h:=h.set b (.cells ((len+n)*z) (cs.take (len*z)++xs))) (muZ:=bh muZ b (some ⟨w.heap.size,0,((p++vs).toArray++Builtin.zeroCells zv.cells (grownCap w (len+n) cap' e - (len+n))).size⟩))
            z b 0 (len+n) (len+n) ((len+n)*z) (grownCap w (len+n) cap' e) _ ⟨w.heap.size,0,((p++vs).toArray++Builtin.zeroCells zv.cells (grownCap w (len+n) cap' e - (len+n))).size⟩ (by simp[de];rfl) V (aF _) F (.inr ⟨F,C,by simp only;rw[I];omega⟩)
           simpa using this
         ·-- beyond the row's end,from a place within it: a block of its own,in place or moved
          rename_i aR;simp only[bc,Prod.mk.injEq] at g;obtain⟨rfl,rfl⟩:=g;obtain⟨bd,bf,a3⟩:j+cap*z=m/\cap<=cap'/\o.s+j+cap'*z<=o.T:=by rcases J with J | J<;>omega
          have aP:m<j+(len+n)*z:=by
           have:(cap+1)*z<=(len+n)*z:=cj _ F;rw[eI] at this;omega
          have bk:len*z+n*z=(len+n)*z:=by rw[eI]
          have a7:=rel.j2 K;by_cases Z:len+n<=cap'
          ·have bi:(len+n)*z<=cap'*z:=cj _ Z;have aD:max m (j+len*z+xs.length)=j+(len+n)*z:=F;obtain⟨w',h1,ae,ai⟩:=sD (P:=P) rel (cvs:=xs) (vs:=vs) (k:=j+len*z) D K F O.1 F O.2;rw[aD] at ae ai;have aW:(aw cs (j+len*z) xs).drop j=(cs.drop j).take (len*z)++xs:=by
            unfold aw;rw[jS (as:=cs) F,eb,nB (by simp;omega),ra];congr 2;omega
           have aJ:(storeCells ((⟨o.r,o.s+j,none⟩:Addr).add (len*z)) vs).run P w=.ok () w':=by rw[Addr.ju,iE];exact h1
           have a5:=ai.J7 (b:=b) (off:=j) (m:=o) (h':=(h.set b .dead).push (.cells ((len+n)*z) ((cs.drop j).take (len*z)++xs))) (by rw[de,fJ]) K F (by
            rw[dL,de,de,hE,hE,aW];have:j+(len+n)*z - j=(len+n)*z:=F;rw[this];funext x;simp only[bh];split
            ·rfl
            ·split<;>rfl) rfl
           refine⟨_,w',_,aN (some ⟨o.r,o.s+j,none⟩) _ _ _ Z aJ,ae.trans a5.1,a5.2,?_⟩;exact .ad z h.n 0 (len+n) (len+n) ((len+n)*z) cap' _ ⟨o.r,o.s+j,o.T⟩ (by rw[dL,hE,fJ]) (by rw[hE];simp) (aF _) F (.inr ⟨F,Z,by simpa using (by omega:o.s+j+cap'*z<=o.T)⟩)
          ·have ax:contents h z (.ad z b j len cap m)=some ((cs.drop j).take (len*z),len):=by simp[contents,D]
           obtain⟨am,_,p,G,aH⟩:=qk (P:=P) rel ax (az.ad z b j len cap m cap' cs o D K aA aQ J);have aG:∀ w2:aO,(∀ a,w2.cell? a=w.cell? a)->(Builtin.firstCells z len (.slice (some ⟨o.r,o.s+j,none⟩) len cap')).run P w2=.ok p.toArray w2:=fun w2 aK=>by
            have:=aH len (aF _) w2 aK
            rwa [aI (by rw[G.1,am];exact aF _)] at this
           have H:=ay i zv ap aM (some ⟨o.r,o.s+j,none⟩) len cap' p (by rw[aV];exact aG w.drew aU) F (by rw[av];exact aq) F;have C:len+n<=grownCap w (len+n) cap' e:=grownCap_ge _ _ _ _;have au:oN w R h muZ ((cs.drop j).take (len*z)++xs) (p++vs):=by
            refine⟨by simp[G.1,O.1],fun ao c Q=>?_⟩;by_cases al:ao<((cs.drop j).take (len*z)).length
            ·rw[aS al] at Q;rw[aS (by rw[G.1];exact al)];exact G.2 ao c Q
            ·rw[ej F] at Q;rw[ej (by rw[G.1];omega),G.1];exact O.2 _ c Q
           have Y:((cs.drop j).take (len*z)++xs).length=(len+n)*z:=by rw[cg,am,S,eI]
           obtain⟨I,W⟩:=vM (e:=e) (zv:=zv) (need:=len+n) (cap:=grownCap w (len+n) cap' e) aL Y au C;have q:=rel.push (w':=w.drew.alloc (.cells ((p++vs).toArray++Builtin.zeroCells zv.cells (grownCap w (len+n) cap' e - (len+n))) e)) _ _ e rfl rfl rfl rfl (by rw[I,Y];exact cj _ C) W;rw[Y] at q;have hk:=q.2.kill (b:=b) (sz:=m) (cs:=cs) (h':=(h.set b .dead).push (.cells ((len+n)*z) ((cs.drop j).take (len*z)++xs))) (by rw[dL,bE _ _ _ _ F];exact D) (by rw[iR];omega) (by
            rw[dL,dL,de,hE];funext x;simp only[bh];by_cases h1:x=h.n
            ·rw[aj h1,ak F,aj h1]
            ·rw[ak h1];split<;>rfl) rfl
           refine⟨_,_,_,H,q.1.trans hk.1,hk.2,?_⟩;have:=az.ad (w:=w.drew.alloc (.cells ((p++vs).toArray++Builtin.zeroCells zv.cells (grownCap w (len+n) cap' e - (len+n))) e)) (R:=R) (h:=(h.set b .dead).push (.cells ((len+n)*z) ((cs.drop j).take (len*z)++xs))) (muZ:=bh muZ h.n (some ⟨w.heap.size,0,((p++vs).toArray++Builtin.zeroCells zv.cells (grownCap w (len+n) cap' e - (len+n))).size⟩))
            z h.n 0 (len+n) (len+n) ((len+n)*z) (grownCap w (len+n) cap' e) _ ⟨w.heap.size,0,((p++vs).toArray++Builtin.zeroCells zv.cells (grownCap w (len+n) cap' e - (len+n))).size⟩ (by rw[dL,hE,fJ]) V (aF _) F (.inr ⟨F,C,by simp only;rw[I];omega⟩)
           simpa using this
     ·cases g
    | _=>rw[D] at g;cases g
   ·cases g
theorem AQ (rel:bu R B w h muZ) {t u ty:aC} {s x c:U} {jN q:aB} {h' : aE} (I:tV P u) (g:nQ P h t s x=some (c,h')) (W:az w R h muZ s jN) (ae:az w R h muZ x q) :
  ∃ v w' muZ',(Builtin.append_ #[t,u] ty #[jN,q]).run P w=.ok v w'/\cN w h muZ w' h' muZ'/\bu R B w' h' muZ'/\az w' R h' muZ' c v:=by
 unfold nQ at g;cases p:gb P t with
 | none=>rw[p] at g;cases g
 | some e=>
 have H:=vF p;rw[p] at g;simp only at g;cases j:b3 P e with
 | none=>rw[j] at g;cases g
 | some z=>
 cases m:gG P e with
 | none=>rw[j,m] at g;cases g
 | some am=>
 rw[j,m] at g;simp only at g;cases o:contents h z x with
 | none=>rw[o] at g;cases g
 | some al=>
 obtain⟨ap,n⟩:=al;rw[o] at g;simp only at g;obtain⟨J,F,ak,G,O⟩:=qk (P:=P) rel o ae;have C:∀ w2:aO,(∀ a,w2.cell? a=w.cell? a)->(Builtin.firstCells z n q).run P w2=.ok ak.toArray w2:=fun w2 Z=>by
  have:=O n (aF _) w2 Z
  rwa [aI (by rw[G.1,J];exact aF _)] at this
 refine Fq rel j m g W J G (fun base aj ai w' Q Y=>run_append_fits H j I F (C w (fun _=>rfl)) Q Y) (fun i aq D ag base aj ai ao T S V K=>?_);have X:i.size=z:=by simpa [b3,D] using j
 exact VF H D ag I F (by rw[X];exact C w.drew (fun _=>rfl)) T S V K
end
end Go.bf

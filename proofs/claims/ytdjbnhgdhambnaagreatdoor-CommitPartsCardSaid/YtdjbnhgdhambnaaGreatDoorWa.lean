/-
  The canonical machine, part A: its values, blocks, heap, and what one operation does.
-/
import Derived.WalkKit
import Derived.Below
import Derived.Laws.AppendOwn
import Derived.Laws.CopyRow
import Derived.Laws.IdiomCopy
import Derived.Laws.StructEq
set_option maxHeartbeats 16000000
set_option maxRecDepth 100000
set_option linter.unusedVariables false
set_option linter.unusedSimpArgs false
set_option linter.unnecessarySimpa false
namespace Go.bh
abbrev aC := TypeId
abbrev aW := Operand
abbrev aA := Value
abbrev bj := Program
abbrev cf := FuncId
abbrev aQ := World
abbrev bb := Oper
abbrev kW := MapEntry
abbrev cV := IntKind
abbrev aK:=@List.getElem?_eq_some_iff
abbrev aL:=@List.take_of_length_le
abbrev aV:=@List.getElem?_append_left
abbrev bd:=@Option.some.injEq
abbrev bI:=@List.getElem?_eq_getElem
abbrev aI:=@Nat.le_refl
abbrev br:=@List.getElem?_set_ne
abbrev aj:=@if_pos
abbrev ak:=@if_neg
abbrev b1:=@List.getElem?_set_self
abbrev bC:=@decide_eq_true_eq
abbrev bH:=@Bool.and_eq_true
abbrev cj:=@List.mem_iff_getElem?
abbrev bW:=@List.getElem?_map
abbrev cn:=@Nat.mul_le_mul_right
abbrev cE:=@List.mem_of_getElem?
abbrev cr:=@List.length_append
abbrev bY:=@decide_eq_true
abbrev cg:=@Option.some.inj
abbrev cz:=@Option.map_some
abbrev cx:=@List.length_map
abbrev cC:=@decide_eq_false
abbrev cO:=@List.length_take
abbrev dU:=@List.getElem?_take_of_lt
abbrev et:=@List.getElem?_append_right
abbrev ea:=@List.getElem?_eq_none
abbrev c5:=@List.map_append
abbrev cy:=@List.mem_map
abbrev eO:=@BitVec.eq_of_toNat_eq
abbrev eS:=@BitVec.toNat_setWidth
abbrev dE:=@List.length_cons
abbrev dy:=@List.mem_filter
abbrev dR:=@Nat.mod_eq_of_lt
abbrev df:=@List.map_cons
abbrev gA:=@List.getD_eq_getElem?_getD
abbrev eU:=@List.take_add_one
abbrev bP:=@absurd
abbrev hn:=@Array.getD_eq_getD_getElem?
abbrev fe:=@BitVec.toNat_ofNat
abbrev ig:=@List.take_append_of_le_length
abbrev dL:=@Nat.le_trans
abbrev eT:=@List.append_nil
abbrev gh:=@List.mem_of_mem_take
abbrev fB:=@List.mem_singleton
abbrev hG:=@Nat.shiftRight_eq_div_pow
abbrev ho:=@List.getElem?_cons_zero
abbrev ch:=@congrArg
abbrev ib:=@Array.getElem?_eq_some_iff
abbrev fA:=@Int.toNat_natCast
abbrev eu:=@Nat.succ_mul
abbrev fC:=@List.take_length
abbrev fm:=@List.mem_append
abbrev gB:=@List.getElem?_drop
abbrev ek:=@Nat.zero_le
abbrev ic:=@List.length_eq_zero_iff
abbrev fX:=@List.not_mem_nil
abbrev gM:=@List.append_assoc
abbrev hp:=@List.getElem?_range
abbrev gg:=@List.all_eq_true
abbrev ie:=@List.length_filter_le
abbrev eV:=@Nat.add_mul
abbrev g6:=@List.flatten_cons
abbrev g5:=@List.ext_getElem?
abbrev jg:=@List.getElem?_cons_succ
abbrev g8:=@Option.getD_some
abbrev iV:=@List.take_append_drop
abbrev kV:=@List.pairwise_iff_getElem
abbrev fN:=@Nat.lt_or_ge
abbrev hq:=@List.length_nil
abbrev kh:=@List.drop_eq_nil_of_le
abbrev g7:=@List.mem_range
abbrev lD:=@BitVec.toNat_ushiftRight
abbrev ml:=@List.drop_eq_getElem_cons
abbrev jL:=@List.flatten_append
abbrev nS:=@List.drop_append_of_le_length
abbrev jJ:=@Bool.false_eq_true
abbrev iZ:=@of_decide_eq_true
abbrev iT:=@List.length_drop
abbrev kk:=@List.replicate_succ
abbrev ki:=@List.filter_sublist
abbrev iD:=@List.nil_append
abbrev hr:=@Nat.zero_add
abbrev hZ:=@List.mem_cons
abbrev iX:=@Nat.min_eq_left
abbrev m8:=@Int.eq_ofNat_of_zero_le
abbrev nV:=@List.mem_or_eq_of_mem_set
abbrev mo:=@Nat.eq_of_beq_eq_true
abbrev jK:=@List.cons_append
abbrev kg:=@BitVec.toNat_umod
abbrev rA:=@List.set_eq_take_append_cons_drop
abbrev oX:=@Array.getElem?_append_left
abbrev lF:=@List.filter_append
abbrev iW:=@Nat.add_assoc
abbrev mm:=@List.map_congr_left
abbrev qd:=@List.getElem?_concat_length
abbrev kj:=@List.length_set
abbrev mq:=@Nat.lt_of_lt_of_le
abbrev jh:=@List.map_take
abbrev iU:=@List.map_map
abbrev nR:=@BitVec.ofInt_natCast
abbrev o0:=@List.set_append_right
abbrev nU:=@List.map_eq_nil_iff
abbrev m9:=@List.pairwise_map
abbrev rq:=@Array.getElem?_eq_getElem
abbrev p7:=@Array.getElem?_eq_none
abbrev qc:=@List.drop_of_length_le
abbrev lE:=@List.drop_zero
abbrev kU:=@Bool.and_self
abbrev km:=@Nat.le_of_lt
abbrev iY:=@Nat.mod_lt
abbrev p8:=@Array.getElem?_toList
abbrev nT:=@List.getElem?_set
abbrev qa:=@Bool.or_eq_false_iff
abbrev nY:=@Nat.shiftLeft_eq
abbrev tc:=@List.getElem?_zip_eq_some
abbrev o1:=@Nat.lt_trichotomy
abbrev mj:=@Bool.true_and
abbrev nb:=@List.take_zero
abbrev u7:=@Array.getElem?_setIfInBounds
abbrev na:=@List.take_take
abbrev tb:=@List.eq_of_mem_replicate
abbrev u6:=@Array.getElem?_append_right
abbrev rz:=@List.pairwise_append
abbrev mn:=@List.map_nil
abbrev s7:=@BitVec.toNat_shiftLeft
abbrev p9:=@Bool.eq_false_iff
abbrev rr:=@Array.length_toList
abbrev ry:=@List.filter_eq_self
abbrev qg:=@Option.bind_some
abbrev rE:=@Option.isSome_none
abbrev qe:=@List.take_append
abbrev qf:=@Nat.div_eq_of_lt
abbrev tf:=@List.mem_of_mem_drop
abbrev oY:=@List.mapM_cons
abbrev rs:=@BitVec.toNat_udiv
abbrev qb:=@Bool.or_eq_true
abbrev s5:=@Array.getElem?_push
abbrev te:=@List.mem_map_of_mem
abbrev td:=@List.length_pos_iff
abbrev nW:=@Nat.add_zero
abbrev oZ:=@List.map_drop
abbrev rx:=@List.filter_cons
abbrev ve:=@List.getElem?_toArray
abbrev ti:=@Nat.add_sub_cancel
abbrev nX:=@Nat.mul_one
abbrev nZ:=@decide_true
abbrev AD:=@Array.eq_empty_of_size_eq_zero
abbrev s8:=@Bool.not_eq_true'
abbrev rv:=@List.drop_take
abbrev ru:=@Bool.false_and
abbrev s6:=@BitVec.toNat_mul
abbrev ta:=@List.any_eq_true
abbrev xW:=@Nat.le_of_ble_eq_true
abbrev tn:=@Option.pure_def
abbrev tg:=@List.range_succ
abbrev xS:=@List.length_singleton
abbrev AK:=@Int.fdiv_eq_ediv_of_nonneg
abbrev vc:=@List.count_append
abbrev xQ:=@List.getElem?_of_mem
abbrev s9:=@Bool.not_false
abbrev rB:=@Nat.add_comm
abbrev AG:=@Array.getElem?_replicate
abbrev vg:=@Nat.min_eq_right
abbrev xO:=@List.flatMap_append
abbrev E2:=@Array.getElem?_setIfInBounds_ne
abbrev AR:=@List.getElem?_replicate
abbrev AX:=@List.pairwise_singleton
abbrev th:=@List.sum_cons
abbrev xU:=@List.set_cons_zero
abbrev vb:=@Int.natCast_pow
abbrev vf:=@List.nodup_cons
abbrev xT:=@List.map_replicate
abbrev rC:=@Nat.le_succ
abbrev rD:=@Nat.pow_add
abbrev xV:=@List.size_toArray
abbrev x0:=@not_false_eq_true
abbrev xJ:=@Array.mem_of_getElem?
abbrev tl:=@Nat.zero_mul
abbrev vd:=@List.drop_drop
abbrev tk:=@Nat.sub_self
abbrev AF:=@Array.getElem?_modify
abbrev AY:=@List.set_getElem_self
abbrev u9:=@Bool.and_false
abbrev AU:=@List.mem_cons_of_mem
abbrev xR:=@List.isEmpty_iff
abbrev xK:=@BitVec.toNat_add
abbrev xM:=@Bool.not_eq_true
abbrev AN:=@List.count_singleton
abbrev xX:=@Nat.le_of_not_lt
abbrev tj:=@Nat.one_mul
abbrev A0:=@List.takeWhile_cons
abbrev xP:=@List.foldl_cons
abbrev Ff:=@List.getElem?_eq_none_iff
abbrev xL:=@Bool.eq_iff_iff
abbrev AC:=@Array.append_assoc
abbrev AE:=@Array.getElem?_map
abbrev vi:=@Nat.sub_zero
abbrev vk:=@decide_false
abbrev AL:=@Int.natCast_nonneg
abbrev AI:=@BitVec.toNat_ofInt
abbrev AW:=@List.pairwise_cons
abbrev Fi:=@List.length_erase_of_mem
abbrev Fv:=@Nat.exists_eq_add_of_le
abbrev AQ:=@List.foldl_append
abbrev AM:=@List.any_eq_false
abbrev FA:=@Option.map_eq_some_iff
abbrev vj:=@Prod.mk.inj
abbrev vh:=@Nat.mul_mod
abbrev Fj:=@List.length_pos_of_mem
abbrev xN:=@Bool.not_true
abbrev AO:=@List.drop_append
abbrev A5:=@Nat.max_eq_right
abbrev AH:=@BitVec.toNat_and
abbrev AV:=@List.nodup_range
abbrev Fq:=@List.singleton_append
abbrev AP:=@List.find?_cons
abbrev Fz:=@Nat.pow_le_pow_right
abbrev xY:=@Nat.mul_comm
abbrev A4:=@Nat.max_eq_left
abbrev Ng:=@Nat.and_two_pow_sub_one_eq_mod
abbrev Fl:=@List.mem_erase_of_ne
abbrev Nh:=@Nat.shiftLeft_add_eq_or_of_lt
abbrev Fh:=@List.getElem_of_mem
abbrev Fs:=@List.zip_eq_zipWith
abbrev xZ:=@Nat.pow_mod
abbrev Fu:=@Nat.eq_or_lt_of_le
abbrev Fk:=@List.mem_cons_self
abbrev Fp:=@List.set_cons_succ
abbrev E7:=@Bool.true_eq_false
abbrev E4:=@BitVec.ofNat_toNat
abbrev FB:=@UInt8.toNat_ofNat'
abbrev AJ:=@Bool.false_or
abbrev E3:=@Array.size_append
abbrev Fw:=@Nat.mul_left_comm
abbrev Fy:=@Nat.mul_mod_right
abbrev Fo:=@List.nodup_append
abbrev Fr:=@List.take_sublist
abbrev Fe:=@List.filter_congr
abbrev Nd:=@Array.mapM_eq_mapM_toList
abbrev Nf:=@List.mem_of_find?_eq_some
abbrev Ni:=@Option.isNone_iff_eq_none
abbrev A1:=@Nat.beq_refl
abbrev A3:=@Nat.le_of_eq
abbrev Nj:=@Option.isSome_iff_exists
abbrev Fm:=@List.mem_flatMap
abbrev Fc:=@List.drop_length
abbrev Fg:=@List.getElem_mem
abbrev Fx:=@Nat.mul_mod_left
abbrev E9:=@Int.natCast_ediv
abbrev E5:=@BitVec.toNat_not
abbrev AZ:=@List.set_set
abbrev Ft:=@Nat.div_le_self
abbrev A6:=@Nat.min_def
abbrev Fb:=@List.drop_left
abbrev E6:=@Bool.and_assoc
abbrev A2:=@Nat.blt_eq
abbrev Fa:=@List.all_cons
open Go
inductive U where
 | bool (b:Bool)
 | int (k:cV) (n:Int)
 | str (s:List UInt8)
 | iu | af | g0 | h6 | hS
 | ah (cs:List U)
 | a1 (q:List U)
 | ptr (b g h:Nat)
 | b0 (cs:List U) (g:Nat)
 | ad (j b g len cap h:Nat)
 | bn (j:Nat) (m:List (List U))
 | fn (f:cf) (first e7:List U)
 | mp (b:Nat)
 | it (b:Nat)
 | gc (o:aC) (p:U)
 | e0 (l:Nat)
 | bad
 deriving Inhabited
inductive am where
 | none
 | dead
 | cells (j:Nat) (cs:List U)
 | map (h:List (U × U × Nat)) (g:Nat)
 | iter (s:List UInt8) (pos:Nat)
 deriving Inhabited
inductive cu (alZ:Type) where
 | nil
 | node (l:cu alZ) (g:Option alZ) (r:cu alZ)
def cu.get {alZ:Type}:cu alZ->Nat->Option alZ
 | .nil,_=>none
 | .node l g r,n=>match Nat.beq n 0 with
  | true=>g
  | false=>match Nat.beq (n % 2) 1 with
   | true=>l.get (n / 2)
   | false=>r.get (n / 2 - 1)
def cu.iA {alZ:Type}:Nat->cu alZ->Nat->alZ->cu alZ
 | 0,h,_,_=>h
 | k+1,.nil,n,x=>match Nat.beq n 0 with
  | true=>.node .nil (some x) .nil
  | false=>match Nat.beq (n % 2) 1 with
   | true=>.node (cu.iA k .nil (n / 2) x) none .nil
   | false=>.node .nil none (cu.iA k .nil (n / 2 - 1) x)
 | k+1,.node l g r,n,x=>match Nat.beq n 0 with
  | true=>.node l (some x) r
  | false=>match Nat.beq (n % 2) 1 with
   | true=>.node (cu.iA k l (n / 2) x) g r
   | false=>.node l g (cu.iA k r (n / 2 - 1) x)
def cu.set {alZ:Type} (t:cu alZ) (n:Nat) (x:alZ) :cu alZ:=t.iA (n+1) n x
theorem ir {a b:Nat} (h:¬ a=b) :Nat.beq a b=false:=by
 cases g:Nat.beq a b with
 | false=>rfl
 | true=>exact bP (mo g) h
theorem pG {a b:Nat} (h:a=b) :Nat.beq a b=true:=by subst h;exact A1 a
theorem cu.v7 {alZ:Type}:∀ (k:Nat) (t:cu alZ) (n:Nat) (x:alZ) (m:Nat),n<k->(t.iA k n x).get m=if m=n then some x else t.get m
 | 0,_,_,_,_,h=>by omega
 | k+1,.nil,n,x,m,h=>by
  unfold cu.iA;by_cases u:n=0
  ·subst u;simp only;unfold cu.get;by_cases g:m=0
   ·subst g;simp
   ·have:Nat.beq m 0=false:=ir g;simp only[this,ak g];split<;>rfl
  ·have v:Nat.beq n 0=false:=ir u;simp only[v];by_cases h1:n % 2=1
   ·have p:Nat.beq (n % 2) 1=true:=pG h1;simp only[p];unfold cu.get;by_cases g:m=0
    ·subst g;simp;omega
    ·have:Nat.beq m 0=false:=ir g;simp only[this];by_cases j:m % 2=1
     ·have:Nat.beq (m % 2) 1=true:=pG j;simp only[this];rw[cu.v7 k .nil (n / 2) x (m / 2) (by omega)];by_cases o:m=n
      ·subst o;simp
      ·rw[ak o,ak (by omega)];rfl
     ·have:Nat.beq (m % 2) 1=false:=ir j;simp only[this];rw[ak (by intro q;subst q;exact j h1)];rfl
   ·have p:Nat.beq (n % 2) 1=false:=ir h1;simp only[p];unfold cu.get;by_cases g:m=0
    ·subst g;simp;omega
    ·have:Nat.beq m 0=false:=ir g;simp only[this];by_cases j:m % 2=1
     ·have:Nat.beq (m % 2) 1=true:=pG j;simp only[this];rw[ak (by intro q;subst q;exact h1 j)];rfl
     ·have:Nat.beq (m % 2) 1=false:=ir j;simp only[this];rw[cu.v7 k .nil (n / 2 - 1) x (m / 2 - 1) (by omega)];by_cases o:m=n
      ·subst o;simp
      ·rw[ak o,ak (by omega)];rfl
 | k+1,.node l w r,n,x,m,h=>by
  unfold cu.iA;by_cases u:n=0
  ·subst u;simp only;unfold cu.get;by_cases g:m=0
   ·subst g;simp
   ·have:Nat.beq m 0=false:=ir g;simp only[this,ak g]
  ·have v:Nat.beq n 0=false:=ir u;simp only[v];by_cases h1:n % 2=1
   ·have p:Nat.beq (n % 2) 1=true:=pG h1;simp only[p];unfold cu.get;by_cases g:m=0
    ·subst g;simp;omega
    ·have:Nat.beq m 0=false:=ir g;simp only[this];by_cases j:m % 2=1
     ·have:Nat.beq (m % 2) 1=true:=pG j;simp only[this];rw[cu.v7 k l (n / 2) x (m / 2) (by omega)];by_cases o:m=n
      ·subst o;simp
      ·rw[ak o,ak (by omega)]
     ·have:Nat.beq (m % 2) 1=false:=ir j;simp only[this];rw[ak (by intro q;subst q;exact j h1)]
   ·have p:Nat.beq (n % 2) 1=false:=ir h1;simp only[p];unfold cu.get;by_cases g:m=0
    ·subst g;simp;omega
    ·have:Nat.beq m 0=false:=ir g;simp only[this];by_cases j:m % 2=1
     ·have:Nat.beq (m % 2) 1=true:=pG j;simp only[this];rw[ak (by intro q;subst q;exact h1 j)]
     ·have:Nat.beq (m % 2) 1=false:=ir j;simp only[this];rw[cu.v7 k r (n / 2 - 1) x (m / 2 - 1) (by omega)];by_cases o:m=n
      ·subst o;simp
      ·rw[ak o,ak (by omega)]
theorem cu.Cj {alZ:Type} (t:cu alZ) (n:Nat) (x:alZ) (m:Nat) :(t.set n x).get m=if m=n then some x else t.get m:=cu.v7 _ _ _ _ _ (by omega)
structure aH where
 n:Nat
 t:cu am
def aH.f (h:aH) (b:Nat) :am:=match h.t.get b with | some c=>c | none=>.none
def aH.empty:aH:=⟨0,.nil⟩
def bm {alZ:Type} (f:Nat->alZ) (i:Nat) (v:alZ) :Nat->alZ:=fun g=>if g=i then v else f g
def aH.push (h:aH) (c:am) :aH:=⟨h.n+1,h.t.set h.n c⟩
def aH.set (h:aH) (b:Nat) (c:am) :aH:=⟨h.n,h.t.set b c⟩
theorem jc (h:aH) (c:am) :(h.push c).n=h.n+1:=rfl
theorem hX (h:aH) (b:Nat) (c:am) :(h.set b c).n=h.n:=rfl
theorem dY (h:aH) (c:am) :(h.push c).f=bm h.f h.n c:=by
 funext b;simp only[aH.f,aH.push,bm,cu.Cj];by_cases g:b=h.n
 ·simp[g]
 ·simp[g]
theorem dq (h:aH) (b:Nat) (c:am) :(h.set b c).f=bm h.f b c:=by
 funext j;simp only[aH.f,aH.set,bm,cu.Cj];by_cases g:j=b
 ·simp[g]
 ·simp[g]
theorem yw (b:Nat) :aH.empty.f b=.none:=rfl
@[simp] theorem fS {alZ:Type} (f:Nat->alZ) (i:Nat) (v:alZ) :bm f i v i=v:=by simp[bm]
theorem bK {alZ:Type} (f:Nat->alZ) (i j:Nat) (v:alZ) (h:j≠i) :bm f i v j=f j:=by simp[bm,h]
def U.one:U->Bool
 | .ah _ | .a1 _ | .bad=>false
 | _=>true
def U.cells:U->Option (List U)
 | .ah cs=>some cs
 | .a1 _ | .bad=>none
 | v=>some [v]
def l4:aA->U
 | .bool b=>.bool b
 | .int k n=>.int k n
 | .string s=>.str s.data.toList
 | .pointer a=>match a with | none=>.iu | some _=>.bad
 | .slice a l c=>match a,l,c with | none,0,0=>.af | _,_,_=>.bad
 | .map r=>match r with | none=>.g0 | some _=>.bad
 | .nilFunc=>.h6
 | .nilIface=>.hS
 | .func fn first e7=>match fn,first.toList,e7.toList with | .func f,[],[]=>.fn f [] [] | _,_,_=>.bad
 | _=>.bad
def qT:aA->U
 | .agg cs=>if cs.toList.all Value.oneCell' then .ah (cs.toList.map l4) else .bad
 | .tuple g=>.a1 (g.toList.map l4)
 | v=>l4 v
def dv (G:Nat->U) (sgZ:Nat->U) :aW->U
 | .tmp h=>sgZ h
 | .const j=>qT j
 | .func f=>.fn f [] []
 | .global g=>G g
def dC (P:bj) (t:aC) :Option Bool:=(P.underlying t).map fun d=>match d with | .struct _ | .array _ _=>true | _=>false
def b5 (P:bj) (t:aC) :Option Nat:=(P.info? t).map (·.size)
def gO (P:bj) (t:aC) :Option Nat:=(P.info? t).map (·.bytes)
def gd (P:bj) (t:aC) :Option (List U):=((P.info? t).bind (·.zero)).bind fun g=>if g.cells.toList.all Value.oneCell' then some (g.cells.toList.map l4) else none
def gm (P:bj) (t:aC) :Option aC:=match P.underlying t with | some (.slice e)=>some e | _=>none
def gv (P:bj) (t:aC) (cs:List U) (off:Nat) :Option U:=
 match dC P t,b5 P t with
 | some true,some n=>if off+n<=cs.length then some (.ah ((cs.drop off).take n)) else none
 | some false,_=>cs[off]?
 | _,_=>none
def l9 (h:aH) :U->Option (List U × Nat)
 | .ptr b g j=>match h.f b with
  | .cells n cs=>if n=j then some (cs,g) else none
  | _=>none
 | .b0 cs g=>some (cs,g)
 | _=>none
def oE (P:bj) (h:aH) (t:aC) (p:U) :Option U:=
 match l9 h p with
 | some (cs,g)=>gv P t cs g
 | none=>none
def ax (cs:List U) (off:Nat) (vs:List U) :List U:=cs.take off++vs++cs.drop (off+vs.length)
def re (P:bj) (h:aH) (t:aC) (p v:U) :Option aH:=
 match p,v.cells,b5 P t with
 | .ptr b j o,some m,some n=>match h.f b with
  | .cells g cs=>if g=o/\m.length=n/\j+n<=g then some (h.set b (.cells g (ax cs j m))) else none
  | _=>none
 | _,_,_=>none
def asInt:U->Option Int
 | .int _ n=>some n
 | _=>none
def r1 (P:bj) (s:aC) (f:Nat) :Option Field:=match P.underlying s with | some (.struct g)=>g[f]? | _=>none
def k5:U->Nat->Option U
 | .ptr b g h,k=>some (.ptr b (g+k) h)
 | .b0 cs g,k=>some (.b0 cs (g+k))
 | _,_=>none
def yA (P:bj) (s:aC) (x:U) (f:Nat) :Option U:=
 match r1 P s f with
 | some g=>match b5 P g.type with
  | some (_+1)=>k5 x g.offset
  | _=>none
 | none=>none
def wh (P:bj) (t:aC) (x m:U) :Option U:=
 match P.underlying t,asInt m with
 | some (.array len e),some i=>match b5 P e with
  | some g=>if 0<=i/\i<len then k5 x (i.toNat*g) else none
  | none=>none
 | some (.slice e),some i=>match b5 P e,x with
  | some g,.ad h b o len _ p=>if g=h/\0<=i/\i<len then some (.ptr b (o+i.toNat*g) p) else none
  | some g,.bn h j=>if g=h/\0<=i then (j[i.toNat]?).map fun cs=>.b0 cs 0 else none
  | _,_=>none
 | _,_=>none
def ew (h:Nat->Option (Nat × Nat)) (cells:List U) :List (Nat × U)->Option (List U)
 | []=>some cells
 | (i,m) ::rest=>match h i,m.cells with
  | some (g,size),some j=>if j.length=size/\g+size<=cells.length then ew h (ax cells g j) rest else none
  | _,_=>none
def wZ (P:bj) (fs:Array Field) (i:Nat) :Option (Nat × Nat):=(fs[i]?).bind fun f=>(b5 P f.type).map fun n=>(f.offset,n)
def vH (P:bj) (t:aC) (parts:List (Nat × U)) :Option U:=
 match gd P t,P.underlying t with
 | some zero,some (.struct g)=>if !(g.toList.all fun f=>(b5 P f.type).isSome) then none else (ew (wZ P g) zero parts).map .ah
 | some zero,some (.array _ e)=>match b5 P e with
  | some n=>(ew (fun i=>some (i*n,n)) zero parts).map .ah
  | none=>none
 | _,_=>none
def cD (zero:List U) :Nat->List U
 | 0=>[]
 | n+1=>zero++cD zero n
def ye (P:bj) (h:aH) (t:aC) (len:Nat) (parts:List (Nat × U)) :Option (U × aH):=
 match gm P t with
 | some e=>match b5 P e,gd P e with
  | some g,some zero=>if zero.length=g/\len*g<=16777216 then
    (ew (fun i=>some (i*g,g)) (cD zero len) parts).map fun cs=>(.ad g h.n 0 len len (len*g),h.push (.cells (len*g) cs))
   else none
  | _,_=>none
 | none=>none
def ct (op:BinOp) (k:cV) (a:Int) (k' : cV) (b:Int) :Option U:=
 match op with
 | .shl=>if b<0 then none else some (.int k (k.wrap (a*2 ^ min b.toNat k.bits)))
 | .shr=>if b<0 then none else some (.int k (a.fdiv (2 ^ min b.toNat k.bits)))
 | .add=>if k=k' then some (.int k (k.wrap (a+b))) else none
 | .sub=>if k=k' then some (.int k (k.wrap (a - b))) else none
 | .mul=>if k=k' then some (.int k (k.wrap (a*b))) else none
 | .quo=>if k=k'/\b≠0 then some (.int k (k.wrap (a.tdiv b))) else none
 | .rem=>if k=k'/\b≠0 then some (.int k (a.tmod b)) else none
 | .and=>if k=k' then some (.int k (k.wrap (BitVec.ofInt k.bits a &&& BitVec.ofInt k.bits b).toNat)) else none
 | .or=>if k=k' then some (.int k (k.wrap (BitVec.ofInt k.bits a ||| BitVec.ofInt k.bits b).toNat)) else none
 | .xor=>if k=k' then some (.int k (k.wrap (BitVec.ofInt k.bits a ^^^ BitVec.ofInt k.bits b).toNat)) else none
 | .andNot=>if k=k' then some (.int k (k.wrap (BitVec.ofInt k.bits a &&& ~~~BitVec.ofInt k.bits b).toNat)) else none
 | .eql=>if k=k' then some (.bool (a == b)) else none
 | .neq=>if k=k' then some (.bool (a != b)) else none
 | .lss=>if k=k' then some (.bool (decide (a<b))) else none
 | .leq=>if k=k' then some (.bool (decide (a<=b))) else none
 | .gtr=>if k=k' then some (.bool (decide (a > b))) else none
 | .geq=>if k=k' then some (.bool (decide (a ≥ b))) else none
def tC (op:BinOp) (a b:List UInt8) :Option U:=
 match op with
 | .eql=>some (.bool (a == b))
 | .neq=>some (.bool (!(a == b)))
 | .lss=>some (.bool (Op.bytesLess a b))
 | .leq=>some (.bool (Op.bytesLess a b||a == b))
 | .gtr=>some (.bool (!(Op.bytesLess a b||a == b)))
 | .geq=>some (.bool (!Op.bytesLess a b))
 | .add=>if a.length+b.length<=9223372036854775807 then some (.str (a++b)) else none
 | _=>none
def dJ (P:bj) :Nat->aC->U->U->Option Bool
 | 0,_,_,_=>none
 | d+1,o,x,y=>
  match P.underlying o,x,y with
  | some .bool,.bool a,.bool b=>some (a == b)
  | some (.int _),.int k a,.int p b=>if k=p then some (a == b) else none
  | some .string,.str a,.str b=>some (a == b)
  | some (.struct m),.ah g,.ah h=>if P.stoodInHeld o then none else eqFields P (dJ P d) g h m.toList
  | some (.array n e),.ah g,.ah h=>match b5 P e with
   | some j=>om P (dJ P d) e j g h n 0
   | none=>none
  | some (.slice _),.af,.af=>some true
  | some (.slice _),.af,.ad .. | some (.slice _),.af,.bn .. | some (.slice _),.ad ..,.af | some (.slice _),.bn ..,.af=>some false
  | _,_,_=>none
where
 eqFields (P:bj) (eq:aC->U->U->Option Bool) (g h:List U) :List Field->Option Bool
  | []=>some true
  | f::m=>if f.name= "_" then eqFields P eq g h m else
   match gv P f.type g f.offset,gv P f.type h f.offset with
   | some a,some b=>match eq f.type a b with
    | some true=>eqFields P eq g h m
    | some false=>some false
    | none=>none
   | _,_=>none
 om (P:bj) (eq:aC->U->U->Option Bool) (e:aC) (j:Nat) (g h:List U) :Nat->Nat->Option Bool
  | 0,_=>some true
  | n+1,i=>match gv P e g (i*j),gv P e h (i*j) with
   | some a,some b=>match eq e a b with
    | some true=>om P eq e j g h n (i+1)
    | some false=>some false
    | none=>none
   | _,_=>none
def rZ (P:bj) (t:aC) :U->U->Bool
 | .ah _,.ah _=>!P.eqGuardType P.depth t
 | _,_=>true
def eb (P:bj) (op:BinOp) (t:aC) (x y:U) :Option U:=
 match x,y with
 | .int k a,.int g b=>ct op k a g b
 | .str a,.str b=>tC op a b
 | x,y=>match op with
  | .eql=>if rZ P t x y then (dJ P 10000 t x y).map .bool else none
  | .neq=>if rZ P t x y then (dJ P 10000 t x y).map fun b=>.bool (!b) else none
  | _=>none
def ri (op:UnOp) (x:U) :Option U:=
 match op,x with
 | .not,.bool b=>some (.bool (!b))
 | .neg,.int k n=>some (.int k (k.wrap (0 - n)))
 | .xor,.int k n=>some (.int k (k.wrap (BitVec.ofInt k.bits (if k.signed then -1 else k.max) ^^^ BitVec.ofInt k.bits n).toNat))
 | _,_=>none
def lP (z:Nat) :Nat->List U->List (List U)
 | 0,_=>[]
 | n+1,cs=>cs.take z::lP z n (cs.drop z)
def hu (b:UInt8) :U:=.int .u8 b.toNat
def contents (h:aH) (z:Nat) :U->Option (List U × Nat)
 | .af=>some ([],0)
 | .bn g j=>if z=g then some (j.flatten,j.length) else none
 | .ad g b m len _ o=>match h.f b with
  | .cells n cs=>if n=o/\z=g then some ((cs.drop m).take (len*z),len) else none
  | _=>none
 | .str s=>if z=1 then some (s.map hu,s.length) else none
 | _=>none
def dk:Nat:=140737488355328
def mh (P:bj) (t:aC) :Option Nat:=((P.info? t).bind (·.zero)).map (·.cells.size)
def qt (P:bj) (h:aH) (e:aC) (z by_:Nat) (s:U) (xs:List U) (n:Nat) :Option (U × aH):=
 if n=0 then (match s with | .af | .bn .. | .ad ..=>some (s,h) | _=>none)
 else if z=0\/by_=0\/mh P e≠some z then none else match s with
  | .af=>if n*by_<=dk then some (.ad z h.n 0 n n (n*z),h.push (.cells (n*z) xs)) else none
  | .ad o b g len cap j=>match h.f b with
   | .cells m cs=>
    if m=j/\z=o/\(len+n)*by_<=dk then
     if len+n<=cap then some (.ad z b g (len+n) cap j,h.set b (.cells m (ax cs (g+len*z) xs)))
     else if g+cap*z<j then some (.ad z h.n 0 (len+n) (len+n) ((len+n)*z),h.push (.cells ((len+n)*z) ((cs.drop g).take (len*z)++xs)))
     else if g=0 then some (.ad z b 0 (len+n) (len+n) ((len+n)*z),h.set b (.cells ((len+n)*z) (cs.take (len*z)++xs)))
     else some (.ad z h.n 0 (len+n) (len+n) ((len+n)*z),(h.set b .dead).push (.cells ((len+n)*z) ((cs.drop g).take (len*z)++xs)))
    else none
   | _=>none
  | _=>none
def n9 (P:bj) (h:aH) (t:aC) (s x:U) :Option (U × aH):=
 match gm P t with
 | none=>none
 | some e=>match b5 P e,gO P e with
  | some g,some j=>match contents h g x with
   | none=>none
   | some (m,n)=>qt P h e g j s m n
  | _,_=>none
def gW (x:U) (y:Nat) :Option Nat:=match x with | .int _ i=>if 0<=i/\i<=y then some i.toNat else none | _=>none
def e6 (len cap:Nat) (p o m:Option U) :Option (Nat × Nat × Nat):=
 match (match m with | some g=>gW g cap | none=>some cap) with
 | none=>none
 | some j=>match (match o,m with | some g,_=>gW g j | none,none=>some len | none,some _=>none) with
  | none=>none
  | some h=>match (match p with | some g=>gW g h | none=>some 0) with
   | none=>none
   | some l=>some (l,h,j)
def xl (P:bj) (t:aC) (x:U) (p o q:Option U) :Option U:=
 match P.underlying t,x with
 | some (.array n e),x=>match b5 P e,e6 n n p o q with
  | some g,some (l,h,m)=>match x with
   | .ptr b j u=>if j+m*g<=u then (if m=l then some (.bn g []) else some (.ad g b (j+l*g) (h - l) (m - l) u)) else none
   | .b0 cs j=>if j+n*g<=cs.length then some (.bn g (lP g (h - l) (cs.drop (j+l*g)))) else none
   | _=>none
  | _,_=>none
 | some (.slice e),x=>match b5 P e,x with
  | some g,.ad w b j len cap u=>if g=w then (e6 len cap p o q).map fun (l,h,m)=>if m=l then .ad g b (j+l*g) 0 0 u else .ad g b (j+l*g) (h - l) (m - l) u else none
  | some g,.bn w v=>if g=w then (e6 v.length v.length p o q).map fun (l,h,_)=>.bn g ((v.drop l).take (h - l)) else none
  | some _,.af=>(e6 0 0 p o q).map fun _=>.af
  | _,_=>none
 | some .string,.str s=>match q with
  | none=>(e6 s.length s.length p o none).map fun (l,h,_)=>.str ((s.drop l).take (h - l))
  | some _=>none
 | _,_=>none
def se (P:bj) (t:aC) (x:U) :Option U:=
 match P.underlying t,x with
 | some .string,.str s=>some (.int .i64 s.length)
 | some (.array n _),_=>some (.int .i64 n)
 | some (.slice _),.af=>some (.int .i64 0)
 | some (.slice _),.ad _ _ _ len _ _=>some (.int .i64 len)
 | some (.slice _),.bn _ g=>some (.int .i64 g.length)
 | some (.map _ _),.g0=>some (.int .i64 0)
 | _,_=>none
def y9 (P:bj) (h:aH) (t:aC) (l c:U) :Option (U × aH):=
 match gm P t,asInt l,asInt c with
 | some e,some l,some c=>match b5 P e,gO P e,gd P e with
  | some g,some j,some zero=>
   if zero.length=g/\0<=l/\l<=c/\c<9223372036854775808/\j*c<=dk then
    some (.ad g h.n 0 l.toNat c.toNat (c.toNat*g),h.push (.cells (c.toNat*g) (cD zero c.toNat)))
   else none
  | _,_,_=>none
 | _,_,_=>none
def tO (P:bj) (h:aH) (t:aC) (d x:U) :Option (U × aH):=
 match gm P t with
 | none=>none
 | some e=>match b5 P e with
  | none=>none
  | some g=>match contents h g x with
   | none=>none
   | some (p,n)=>match d with
    | .af=>some (.int .i64 0,h)
    | .ad q b m len _ o=>match h.f b with
     | .cells j cs=>if j=o/\g=q then some (.int .i64 ((min n len:Nat) :Int),h.set b (.cells j (ax cs m (p.take (min n len*g))))) else none
     | _=>none
    | _=>none
def jQ:List U->Option (List UInt8)
 | []=>some []
 | .int .u8 n::r=>(jQ r).map (UInt8.ofNat n.toNat::·)
 | _::_=>none
def rV (P:bj) (h:aH) (src g:aC) (x:U) :Option U:=
 match P.underlying src,P.underlying g,x with
 | some _,some (.int k),.int _ n=>some (.int k (k.wrap n))
 | some _,some .string,.str s=>some (.str s)
 | some (.slice e),some .string,x=>match P.underlying e,x with
  | some (.int .u8),.af=>some (.str [])
  | some (.int .u8),x=>match contents h 1 x,x with
   | some _,.str _=>none
   | some (cs,_),_=>(jQ cs).map .str
   | none,_=>none
  | _,_=>none
 | _,_,_=>none
def tI (P:bj) (src g:aC) (x:U) :Option U:=
 match P.underlying src,P.underlying g,x with
 | some _,some (.slice e),.str s=>match P.underlying e with
  | some (.int .u8)=>some (.bn 1 (s.map fun b=>[hu b]))
  | _=>none
 | _,_,_=>none
def tK (P:bj) (t:aC) (x:U) :Option U:=
 match P.underlying t,x with
 | some (.array n _),_=>some (.int .i64 n)
 | some (.slice _),.af=>some (.int .i64 0)
 | _,_=>none
def tM (P:bj) (h:aH) (t:aC) (x:U) :Option aH:=
 match P.underlying t,x with
 | some (.slice _),.af=>some h
 | some (.slice _),.bn _ []=>some h
 | some (.slice e),.ad o b j len _ m=>if len=0 then some h else match gd P e,h.f b with
  | some zero,.cells g cs=>if g=m/\zero.length=o then some (h.set b (.cells g (ax cs j (cD zero len)))) else none
  | _,_=>none
 | _,_=>none
def ua (P:bj) (t:aC) (x g:U) :Option U:=
 match P.underlying t,x,asInt g with
 | some (.array n e),.ah cs,some i=>match b5 P e with
  | some h=>if 0<=i/\i<n then gv P e cs (i.toNat*h) else none
  | none=>none
 | some .string,.str s,some i=>if 0<=i then (s[i.toNat]?).map hu else none
 | _,_,_=>none
mutual
def U.beq:U->U->Bool
 | .bool a,y=>match y with | .bool b=>(match a,b with | true,true=>true | false,false=>true | _,_=>false) | _=>false
 | .int k n,y=>match y with | .int t m=>decide (k=t)&&decide (n=m) | _=>false
 | .str a,y=>match y with | .str b=>decide (a=b) | _=>false
 | .iu,y=>match y with | .iu=>true | _=>false
 | .af,y=>match y with | .af=>true | _=>false
 | .g0,y=>match y with | .g0=>true | _=>false
 | .h6,y=>match y with | .h6=>true | _=>false
 | .hS,y=>match y with | .hS=>true | _=>false
 | .ah a,y=>match y with | .ah b=>dn a b | _=>false
 | .a1 a,y=>match y with | .a1 b=>dn a b | _=>false
 | .ptr a b c,y=>match y with | .ptr g h j=>Nat.beq a g&&Nat.beq b h&&Nat.beq c j | _=>false
 | .b0 a n,y=>match y with | .b0 g m=>dn a g&&Nat.beq n m | _=>false
 | .ad a b c d e f,y=>match y with | .ad g h j o p q=>Nat.beq a g&&Nat.beq b h&&Nat.beq c j&&Nat.beq d o&&Nat.beq e p&&Nat.beq f q | _=>false
 | .bn a b,y=>match y with | .bn g h=>Nat.beq a g&&vD b h | _=>false
 | .fn a b c,y=>match y with | .fn g h j=>Nat.beq a g&&dn b h&&dn c j | _=>false
 | .mp a,y=>match y with | .mp g=>Nat.beq a g | _=>false
 | .it a,y=>match y with | .it g=>Nat.beq a g | _=>false
 | .gc a b,y=>match y with | .gc g h=>Nat.beq a g&&U.beq b h | _=>false
 | .e0 a,y=>match y with | .e0 g=>Nat.beq a g | _=>false
 | .bad,y=>match y with | .bad=>true | _=>false
def dn:List U->List U->Bool
 | [],y=>match y with | []=>true | _=>false
 | a::as,y=>match y with | b::g=>U.beq a b&&dn as g | _=>false
def vD:List (List U)->List (List U)->Bool
 | [],y=>match y with | []=>true | _=>false
 | a::as,y=>match y with | b::g=>dn a b&&vD as g | _=>false
end
theorem iq {a b:Nat} (h:Nat.beq a b=true) :a=b:=mo h
mutual
theorem U.beq_eq:∀ {a b:U},U.beq a b=true->a=b
 | .bool a,b,h=>by cases b<;>simp only[U.beq] at h<;>first | cases h | (rename_i b;cases a<;>cases b<;>first | rfl | cases h)
 | .int k n,b,h=>by cases b<;>simp only[U.beq] at h<;>first | cases h | (simp only[bH,bC] at h;rw[h.1,h.2])
 | .str a,b,h=>by cases b<;>simp only[U.beq] at h<;>first | cases h | (simp only[bC] at h;rw[h])
 | .iu,b,h=>by cases b<;>simp only[U.beq] at h<;>first | rfl | cases h
 | .af,b,h=>by cases b<;>simp only[U.beq] at h<;>first | rfl | cases h
 | .g0,b,h=>by cases b<;>simp only[U.beq] at h<;>first | rfl | cases h
 | .h6,b,h=>by cases b<;>simp only[U.beq] at h<;>first | rfl | cases h
 | .hS,b,h=>by cases b<;>simp only[U.beq] at h<;>first | rfl | cases h
 | .bad,b,h=>by cases b<;>simp only[U.beq] at h<;>first | rfl | cases h
 | .ah a,b,h=>by cases b<;>simp only[U.beq] at h<;>first | cases h | rw[rO h]
 | .a1 a,b,h=>by cases b<;>simp only[U.beq] at h<;>first | cases h | rw[rO h]
 | .ptr ..,b,h=>by cases b<;>simp only[U.beq] at h<;>first | cases h | (simp only[bH] at h;rw[iq h.1.1,iq h.1.2,iq h.2])
 | .b0 a n,b,h=>by cases b<;>simp only[U.beq] at h<;>first | cases h | (simp only[bH] at h;rw[rO h.1,iq h.2])
 | .ad ..,b,h=>by cases b<;>simp only[U.beq] at h<;>first | cases h | (simp only[bH] at h;rw[iq h.1.1.1.1.1,iq h.1.1.1.1.2,iq h.1.1.1.2,iq h.1.1.2,iq h.1.2,iq h.2])
 | .bn a n,b,h=>by cases b<;>simp only[U.beq] at h<;>first | cases h | (simp only[bH] at h;rw[iq h.1,Gh h.2])
 | .fn a n g,b,h=>by cases b<;>simp only[U.beq] at h<;>first | cases h | (simp only[bH] at h;rw[iq h.1.1,rO h.1.2,rO h.2])
 | .mp a,b,h=>by cases b<;>simp only[U.beq] at h<;>first | cases h | rw[iq h]
 | .it a,b,h=>by cases b<;>simp only[U.beq] at h<;>first | cases h | rw[iq h]
 | .e0 a,b,h=>by cases b<;>simp only[U.beq] at h<;>first | cases h | rw[iq h]
 | .gc a n,b,h=>by cases b<;>simp only[U.beq] at h<;>first | cases h | (simp only[bH] at h;rw[iq h.1,U.beq_eq h.2])
theorem rO:∀ {a b:List U},dn a b=true->a=b
 | [],b,h=>by cases b<;>simp only[dn] at h<;>first | rfl | cases h
 | x::a,b,h=>by cases b<;>simp only[dn] at h<;>first | cases h | (simp only[bH] at h;rw[U.beq_eq h.1,rO h.2])
theorem Gh:∀ {a b:List (List U)},vD a b=true->a=b
 | [],b,h=>by cases b<;>simp only[vD] at h<;>first | rfl | cases h
 | x::a,b,h=>by cases b<;>simp only[vD] at h<;>first | cases h | (simp only[bH] at h;rw[rO h.1,Gh h.2])
end
def qZ:U->Bool | .int .. | .str _ | .bool _=>true | _=>false
def pA (P:bj) :Nat->aC->Bool
 | 0,_=>false
 | d+1,j=>match P.underlying j,b5 P j with
  | some (.int _),_=>true
  | some .string,_=>true
  | some .bool,_=>true
  | some (.array n e),some h=>pA P d e&&(match b5 P e,dC P e with | some g,some _=>Nat.ble (n*g) h&&Nat.ble 1 g | _,_=>false)
  | some (.struct m),some h=>m.toList.all fun f=>pA P d f.type&&(match b5 P f.type,dC P f.type with | some g,some _=>Nat.ble (f.offset+g) h&&Nat.ble 1 g | _,_=>false)
  | _,_=>false
def kD (P:bj) (t:aC) (c:U) :Bool:=
 match c with
 | .ah cs=>pA P 8 t&&(match dC P t,b5 P t with | some true,some g=>Nat.beq cs.length g | _,_=>false)&&cs.all qZ
 | _=>false
def jV (P:bj) (h:aC) (k:U) :List (U × U × Nat)->Nat->Option (Option (Nat × U))
 | [],_=>some none
 | (g,m,_) ::j,i=>match kD P h g with
  | false=>none
  | true=>match dJ P 10000 h k g with
   | some true=>match U.beq k g with | true=>some (some (i,m)) | false=>none
   | some false=>jV P h k j (i+1)
   | none=>none
def wy (h:aH) :U->Option (List (U × U × Nat))
 | .g0=>some []
 | .mp b=>match h.f b with | .map g _=>some g | _=>none
 | _=>none
def s4 (P:bj) (t:aC) :Option U:=((P.info? t).bind (·.zero)).map qT
def y8 (P:bj) (h:aH) (t:aC) (m k:U) (j:Bool) :Option U:=
 match P.underlying t,wy h m with
 | some (.map g u),some q=>match kD P g k with
  | false=>none
  | true=>match jV P g k q 0 with
   | some (some (_,o))=>some (if j then .a1 [o,.bool true] else o)
   | some none=>(s4 P u).map fun p=>if j then .a1 [p,.bool false] else p
   | none=>none
 | _,_=>none
def sh (P:bj) (h:aH) (t:aC) (m k v:U) :Option aH:=
 match P.underlying t,m with
 | some (.map o _),.mp b=>match h.f b with
  | .map j g=>match kD P o k with
   | false=>none
   | true=>match jV P o k j 0 with
    | some (some (i,_))=>some (h.set b (.map (j.modify i fun e=>(k,v,e.2.2)) g))
    | some none=>some (h.set b (.map (j++[(k,v,g)]) (g+1)))
    | none=>none
  | _=>none
 | _,_=>none
def sf (P:bj) (h:aH) (t:aC) (x:U) :Option U:=
 match P.underlying t,x with
 | some (.map _ _),.mp b=>match h.f b with | .map g _=>some (.int .i64 g.length) | _=>none
 | _,_=>none
def zL (P:bj) (h:aH) (t:aC) (x:U) :Option (U × aH):=
 match P.underlying t,x with
 | some .string,.str s=>some (.it h.n,h.push (.iter s 0))
 | _,_=>none
def zl (h:aH) (x:U) :Option (U × aH):=
 match x with
 | .it b=>match h.f b with
  | .iter s pos=>match Nat.blt pos s.length with
   | true=>some (.a1 [.bool true,.int .i64 pos,.int .i32 (Utf8.decode ⟨s.toArray⟩ pos).1],h.set b (.iter s (pos+(Utf8.decode ⟨s.toArray⟩ pos).2)))
   | false=>some (.a1 [.bool false],h)
  | _=>none
 | _=>none
def lR:List UInt8->List UInt8->Int
 | [],[]=>0
 | [],_::_=>-1
 | _::_,[]=>1
 | a::as,b::g=>if a=b then lR as g else if a<b then -1 else 1
def tH (h:aH) (x:U) :Option (List UInt8):=match x with
 | .str s=>some s
 | x=>match contents h 1 x with
  | some (cs,_)=>jQ cs
  | none=>none
def vP (h:aH) :List U->Option U
 | [x,y]=>match tH h x,tH h y with
  | some a,some b=>some (.int .i64 (lR a b))
  | _,_=>none
 | _=>none
def wi (fn:Func) :Bool:=fn.body.isNone&&fn.name == "internal/bytealg.Compare"&&(fn.origin == ""||fn.origin == "internal/bytealg.Compare")
inductive mw where
 | val (g:U) (h:aH)
 | call (f:cf) (args:List U) (h:aH)
def ze:U->U->Option U
 | .int k x,.int g y=>if k=g then some (.int k (if y<x then y else x)) else none
 | _,_=>none
def oH:U->U->Option U
 | .int k x,.int g y=>if k=g then some (.int k (if x<y then y else x)) else none
 | _,_=>none
def fL:U:=.a1 []
def vB (P:bj) (h:aH) (t:aC) (s x:U) :Option (U × aH):=
 match gm P t,asInt x with
 | some e,some n=>match b5 P e,gO P e,gd P e with
  | some j,some g,some zero=>
   if zero.length=j/\0<=n/\n<9223372036854775808/\n.toNat*g<=dk then qt P h e j g s (cD zero n.toNat) n.toNat else none
  | _,_,_=>none
 | _,_=>none
def mA (P:bj) (h:aH) (b:Builtin) (ts:List aC) (args:List U) :Option mw:=
 match b,ts,args with
 | .len,[j],[x]=>match sf P h j x with
  | some g=>some (.val g h)
  | none=>(se P j x).map fun g=>.val g h
 | .append,[j,u],[s,x]=>match P.underlying u with
  | some (.int _)=>(vB P h j s x).map fun (g,h')=>.val g h'
  | none=>none
  | _=>(n9 P h j s x).map fun (g,h')=>.val g h'
 | .copy,[j,_],[d,x]=>(tO P h j d x).map fun (g,h')=>.val g h'
 | .cap,[j],[x]=>(tK P j x).map fun g=>.val g h
 | .clear,[j],[x]=>(tM P h j x).map fun h'=>.val (.a1 []) h'
 | .min,_,[x,y]=>(ze x y).map fun g=>.val g h
 | .max,_,[x,y]=>(oH x y).map fun g=>.val g h
 | _,_,_=>none
def wz (P:bj) (t:aC) (name:String) :Option cf:=
 match P.underlying t with
 | some (.pointer _) | none=>none
 | _=>match P.info? t with
  | some i=>match i.methods.find? (·.name == name) with
   | some g=>match g.path.toList,g.func with
    | [],some (f,false)=>some f
    | _,_=>none
   | none=>none
  | none=>none
def Al (t:aC) (z:U) (g:Bool) :U->Option U
 | .gc j h=>match Nat.beq j t with
  | true=>match g with | true=>some (.a1 [h,.bool true]) | false=>some h
  | false=>match g with | true=>some (.a1 [z,.bool false]) | false=>none
 | .hS=>match g with | true=>some (.a1 [z,.bool false]) | false=>none
 | _=>none
def Am (P:bj) (t:aC) :Option U:=match P.underlying t with
 | some (.interface _) | none=>none
 | _=>s4 P t
def qy (P:bj) (h:aH) (g:aW->U) (c:Call) :Option mw:=
 match c.callee with
 | .builtin b=>mA P h b c.argTypes.toList (c.args.toList.map g)
 | .value f=>match g f with
  | .fn j first e7=>match P.funcs[j]? with
   | some fn=>if fn.body.isSome/\fn.name≠ "runtime.NumGoroutine" then some (.call j (first++c.args.toList.map g++e7) h)
    else if wi fn then (vP h (first++c.args.toList.map g++e7)).map fun m=>.val m h else none
   | none=>none
  | _=>none
 | .invoke x name=>match g x with
  | .gc o m=>match wz P o name with
   | some j=>match P.funcs[j]? with
    | some fn=>if fn.body.isSome/\fn.name≠ "runtime.NumGoroutine" then some (.call j (m::c.args.toList.map g) h) else none
    | none=>none
   | none=>none
  | _=>none
def cF (P:bj) (h:aH) (g:aW->U) (op:Op) :Option mw:=
 let m (x:Option U) :Option mw:=x.map fun y=>.val y h
 let w (x:Option (U × aH)) :Option mw:=x.map fun y=>.val y.1 y.2
 match op with
 | .move x | .assign x=>some (.val (g x) h)
 | .pick c a b=>match g c with | .bool j=>some (.val (if j then g a else g b) h) | _=>none
 | .alloc j=>(gd P j).map fun p=>.val (.ptr h.n 0 p.length) (h.push (.cells p.length p))
 | .box _ x=>(g x).cells.map fun cs=>.val (.ptr h.n 0 cs.length) (h.push (.cells cs.length cs))
 | .build j parts=>m (vH P j (parts.toList.map fun o=>(o.1,g o.2)))
 | .buildSlice j len parts=>w (ye P h j len (parts.toList.map fun o=>(o.1,g o.2)))
 | .load j a=>m (oE P h j (g a))
 | .store j a x=>(re P h j (g a) (g x)).map fun h'=>.val fL h'
 | .nilCheck x=>match g x with | .ptr b t s=>some (.val (.ptr b t s) h) | .b0 c t=>some (.val (.b0 c t) h) | .fn f a b=>some (.val (.fn f a b) h) | _=>none
 | .binOp op j x y _=>m (eb P op j (g x) (g y))
 | .unOp op _ x=>m (ri op (g x))
 | .convert s d x=>match tI P s d (g x) with
  | some c=>some (.val c h)
  | none=>m (rV P h s d (g x))
 | .makeInterface j x=>match P.underlying j with
  | some (.interface _) | none=>none
  | _=>some (.val (.gc j (g x)) h)
 | .makeFunc (.func f) first e7=>some (.val (.fn f (first.toList.map g) (e7.toList.map g)) h)
 | .makeSlice j l c=>w (y9 P h j (g l) (g c))
 | .slice j x B z C=>m (xl P j (g x) (B.map g) (z.map g) (C.map g))
 | .fieldAddr s x f=>m (yA P s (g x) f)
 | .field j x f=>match g x,r1 P j f with
  | .ah cs,some v=>m (gv P v.type cs v.offset)
  | _,_=>none
 | .indexAddr j x i=>m (wh P j (g x) (g i))
 | .index j x i=>m (ua P j (g x) (g i))
 | .extract x i=>match g x with | .a1 D=>m D[i]? | _=>none
 | .call c=>qy P h g c
 | .makeMap j r=>match P.underlying j,(match r with | none=>true | some x=>(asInt (g x)).isSome) with | some (.map _ _),true=>some (.val (.mp h.n) (h.push (.map [] 0))) | _,_=>none
 | .lookup j q k u=>m (y8 P h j (g q) (g k) u)
 | .mapUpdate j q k x | .insert j q k x=>(sh P h j (g q) (g k) (g x)).map fun h'=>.val fL h'
 | .range j x=>w (zL P h j (g x))
 | .next it true=>w (zl h (g it))
 | .typeAssert x _ j u=>match Am P j with | some p=>m (Al j p u (g x)) | none=>none
 | _=>none
abbrev ag:=List U
theorem F {p:Prop} (h:p:=by omega) :p:=h
theorem V {p:Prop} (h:p:=by simp) :p:=h
structure M where
 r:Nat
 s:Nat
 T:Nat
abbrev bZ:=Nat->Option M
def live:am->Bool
 | .cells .. | .map .. | .iter ..=>true
 | _=>false
def lk:am->Nat
 | .map ..=>1
 | .iter ..=>2
 | _=>0
def Own (h:aH) (muZ:bZ) (k:Nat) :Prop:=∃ b g,live (h.f b)=true/\muZ b=some g/\g.r=k
def qk (h:aH) (b sz:Nat) :Prop:=h.f b=.dead\/∃ n cs,h.f b=.cells n cs/\sz<n
structure Cell (w:aQ) (R:Nat->Prop) (h:aH) (muZ:bZ) (b o:Nat) (v:aA) :Prop where
 here:w.cell? ⟨b,o,none⟩=some v
 one:v.oneCell'=true
 ro:R b
 free:¬ Own h muZ b
inductive az (w:aQ) (R:Nat->Prop) (h:aH) (muZ:bZ) :U->aA->Prop where
 | bool (b:Bool) :az w R h muZ (.bool b) (.bool b)
 | int (k:cV) (n:Int) :az w R h muZ (.int k n) (.int k n)
 | str (J:ByteArray) :az w R h muZ (.str J.data.toList) (.string J)
 | iu:az w R h muZ .iu (.pointer none)
 | af:az w R h muZ .af (.slice none 0 0)
 | g0:az w R h muZ .g0 (.map none)
 | h6:az w R h muZ .h6 .nilFunc
 | hS:az w R h muZ .hS .nilIface
 | ah (cs:ag) (t:Array aA) (F:t.size=cs.length) (h1:∀ (g:Nat) (m:aA),t[g]?=some m->m.oneCell'=true)
   (H:∀ (g:Nat) (c:U) (m:aA),cs[g]?=some c->t[g]?=some m->az w R h muZ c m) :az w R h muZ (.ah cs) (.agg t)
 | a1 (cs:ag) (t:Array aA) (F:t.size=cs.length)
   (H:∀ (g:Nat) (c:U) (m:aA),cs[g]?=some c->t[g]?=some m->az w R h muZ c m) :az w R h muZ (.a1 cs) (.tuple t)
 | ptr (b j p:Nat) (cs:ag) (o:M) (C:h.f b=.cells p cs) (G:muZ b=some o) :
   az w R h muZ (.ptr b j p) (.pointer (some ⟨o.r,o.s+j,none⟩))
 | jb (b j p:Nat) (a:Addr) (P:qk h b p) :az w R h muZ (.ptr b j p) (.pointer (some a))
 | b0 (cs:ag) (j z K:Nat) (B:Nat->aA) (D:∀ g,g<cs.length->Cell w R h muZ z (K+g) (B g))
   (H:∀ (g:Nat) (c:U),cs[g]?=some c->az w R h muZ c (B g)) :az w R h muZ (.b0 cs j) (.pointer (some ⟨z,K+j,none⟩))
 | ad (q b j len cap p u:Nat) (cs:ag) (o:M) (C:h.f b=.cells p cs) (G:muZ b=some o) (F:len<=cap) (V:j+cap*q<=p)
   (D:(j+cap*q<p/\u=cap)\/(j+cap*q=p/\cap<=u/\o.s+j+u*q<=o.T)) :
   az w R h muZ (.ad q b j len cap p) (.slice (some ⟨o.r,o.s+j,none⟩) len u)
 | fk (q b j len cap p u:Nat) (a:Addr) (F:len<=cap) (D:cap<=u) (P:qk h b p) :az w R h muZ (.ad q b j len cap p) (.slice (some a) len u)
 | gw (q b j p:Nat) (a:Addr) (cs:ag) (o:M) (C:h.f b=.cells p cs) (G:muZ b=some o) :az w R h muZ (.ad q b j 0 0 p) (.slice (some a) 0 0)
 | bn (q:Nat) (v:List (ag)) (z j cap:Nat) (B:Nat->Nat->aA) (F:v.length<=cap) (W:∀ e,e∈v->e.length=q)
   (D:∀ i g,i<v.length->g<q->Cell w R h muZ z (j+(i*q+g)) (B i g))
   (H:∀ (i:Nat) (e:ag),v[i]?=some e->∀ (g:Nat) (c:U),e[g]?=some c->az w R h muZ c (B i g)) :
   az w R h muZ (.bn q v) (.slice (some ⟨z,j,none⟩) v.length cap)
 | eN (q:Nat) (a:Addr) (cap:Nat) :az w R h muZ (.bn q []) (.slice (some a) 0 cap)
 | fn (f:cf) (first e7:ag) (I cs:Array aA) (S:I.size=first.length) (D:cs.size=e7.length)
   (h1:∀ (g:Nat) (c:U) (m:aA),first[g]?=some c->I[g]?=some m->az w R h muZ c m) (Q:∀ (g:Nat) (c:U) (m:aA),e7[g]?=some c->cs[g]?=some m->az w R h muZ c m) :
   az w R h muZ (.fn f first e7) (.func (.func f) I cs)
 | mp (b:Nat) (o:M) (C:lk (h.f b)=1) (G:muZ b=some o) :az w R h muZ (.mp b) (.map (some o.r))
 | it (b:Nat) (o:M) (C:lk (h.f b)=2) (G:muZ b=some o) :az w R h muZ (.it b) (.pointer (some ⟨o.r,0,none⟩))
 | gc (O:aC) (c:U) (m:aA) (H:az w R h muZ c m) :az w R h muZ (.gc O c) (.iface O m)
 | e0 (l:Nat) :az w R h muZ (.e0 l) (.func (.yield l) #[] #[])
 | bad (m:aA) :az w R h muZ .bad m
structure Ext0 (w:aQ) (h:aH) (muZ:bZ) (w' : aQ) (h' : aH) (muZ' : bZ) :Prop where
 os:w'.os=w.os
 tape:w'.tape=w.tape
 output:w'.output=w.output
 size:w.heap.size<=w'.heap.size
 bq:∀ k,k<w.heap.size->¬ Own h muZ k->w'.heap[k]?=w.heap[k]?
 own:∀ k,Own h' muZ' k->Own h muZ k\/w.heap.size<=k
 cells:∀ b sz cs m,h.f b=.cells sz cs->muZ b=some m->(∃ cs',h'.f b=.cells sz cs'/\muZ' b=some m)\/qk h' b sz
 gone:∀ b sz,qk h b sz->qk h' b sz
 wL:∀ b k m,lk (h.f b)=k+1->muZ b=some m->lk (h'.f b)=k+1/\muZ' b=some m
 n:h.n<=h'.n
 drawn:w.drawn<=w'.drawn:=by first | exact aI _ | exact rC _ | assumption
structure cS (w:aQ) (h:aH) (muZ:bZ) (w' : aQ) (h' : aH) (muZ' : bZ) :Prop extends Ext0 w h muZ w' h' muZ' where
 m5:∀ b,b<h.n->muZ b=none->muZ' b=none
theorem Ext0.refl (w:aQ) (h:aH) (muZ:bZ) :Ext0 w h muZ w h muZ:=
 ⟨rfl,rfl,rfl,aI _,fun _ _ _=>rfl,fun _ h=>.inl h,fun b m cs j h1 g=>.inl ⟨cs,h1,g⟩,fun _ _ h=>h,fun _ _ _ h1 g=>⟨h1,g⟩,aI _,aI _⟩
theorem cS.refl (w:aQ) (h:aH) (muZ:bZ) :cS w h muZ w h muZ:=⟨.refl w h muZ,fun _ _ h=>h⟩
theorem Ext0.trans {w z w2:aQ} {h h1 t:aH} {muZ B xI:bZ} (a:Ext0 w h muZ z h1 B) (b:Ext0 z h1 B w2 t xI) :Ext0 w h muZ w2 t xI:=by
 refine⟨b.os.trans a.os,b.tape.trans a.tape,b.output.trans a.output,dL a.size b.size,?_,?_,?_,fun _ _ D=>b.gone _ _ (a.gone _ _ D),?_,dL a.n b.n,dL a.drawn b.drawn⟩
 ·intro k hk u;rw[b.bq k (mq hk a.size) (fun G=>(a.own k G).elim u F),a.bq k hk u]
 ·intro k hk;rcases b.own k hk with h | h
  ·exact a.own k h
  ·exact .inr (dL a.size h)
 ·intro g v cs m p q;rcases a.cells g v cs m p q with ⟨C,j,o⟩ | j
  ·exact b.cells g v C m j o
  ·exact .inr (b.gone _ _ j)
 ·intro g k m p q;obtain⟨j,o⟩:=a.wL g k m p q;exact b.wL g k m j o
theorem cS.trans {w o w2:aQ} {h h1 j:aH} {muZ p xI:bZ} (a:cS w h muZ o h1 p) (b:cS o h1 p w2 j xI) :cS w h muZ w2 j xI:=
 ⟨a.toExt0.trans b.toExt0,fun g m q=>b.m5 g (mq m a.n) (a.m5 g m q)⟩
theorem Cell.ext {w w' : aQ} {h h' : aH} {muZ muZ' : bZ} {R:Nat->Prop} {b o:Nat} {v:aA} (e:Ext0 w h muZ w' h' muZ') (c:Cell w R h muZ b o v) :Cell w' R h' muZ' b o v:=by
 have g:b<w.heap.size:=World.block_lt_of_cell? _ _ c.here;refine⟨?_,c.one,c.ro,fun j=>?_⟩
 ·rw[World.cell?_of_block (w:=w) (a:=⟨b,o,none⟩) (e.bq b g c.free)];exact c.here
 ·rcases e.own b j with h1 | h1
  ·exact c.free h1
  ·omega
theorem az.jU {w w' : aQ} {h h' : aH} {muZ muZ' : bZ} {R:Nat->Prop} {c:U} {v:aA} (e:Ext0 w h muZ w' h' muZ') (C:az w R h muZ c v) :az w' R h' muZ' c v:=by
 induction C with
 | bool b=>exact .bool b
 | int k n=>exact .int k n
 | str Q=>exact .str Q
 | iu=>exact .iu
 | af=>exact .af
 | g0=>exact .g0
 | h6=>exact .h6
 | hS=>exact .hS
 | ah cs P q h1 C B=>exact .ah cs P q h1 B
 | a1 cs P q C B=>exact .a1 cs P q B
 | ptr b g j cs m t z=>
  rcases e.cells b j cs m t z with ⟨D,h1,p⟩ | h1
  ·exact .ptr b g j D m h1 p
  ·exact .jb b g j _ h1
 | jb b g j a I=>exact .jb b g j a (e.gone _ _ I)
 | b0 cs g H ag O u C B=>exact .b0 cs g H ag O (fun K J=>(u K J).ext e) B
 | ad o b g len cap j G cs m t z q X u=>
  rcases e.cells b j cs m t z with ⟨D,h1,p⟩ | h1
  ·exact .ad o b g len cap j G D m h1 p q X u
  ·exact .fk o b g len cap j G _ q F h1
 | fk o b g len cap j G a q u I=>exact .fk o b g len cap j G a q u (e.gone _ _ I)
 | gw o b g j a cs m t z=>
  rcases e.cells b j cs m t z with ⟨D,h1,p⟩ | h1
  ·exact .gw o b g j a D m h1 p
  ·exact .fk o b g 0 0 j 0 a (aI _) (aI _) h1
 | bn o S H g cap O q Y u C B=>exact .bn o S H g cap O q Y (fun i K W J=>(u i K W J).ext e) B
 | eN o a cap=>exact .eN o a cap
 | fn f first e7 T cs V u h1 p Z ae=>exact .fn f first e7 T cs V u Z ae
 | mp b m t z=>
  obtain⟨h1,p⟩:=e.wL b 0 m t z;exact .mp b m h1 p
 | it b m t z=>
  obtain⟨h1,p⟩:=e.wL b 1 m t z;exact .it b m h1 p
 | gc ai c v C B=>exact .gc ai c v B
 | e0 l=>exact .e0 l
 | bad v=>exact .bad v
theorem az.ext {w w' : aQ} {h h' : aH} {muZ muZ' : bZ} {R:Nat->Prop} {c:U} {v:aA} (e:cS w h muZ w' h' muZ') (g:az w R h muZ c v) :az w' R h' muZ' c v:=g.jU e.toExt0
def qh (w:aQ) (R:Nat->Prop) (h:aH) (muZ:bZ) (m:M) :am->Prop
 | .cells u cs=>cs.length=u/\m.s+u<=m.T/\∃ arr e p,w.heap[m.r]?=some (.cells arr e p)/\arr.size=m.T/\(p=(0,0)\/m.T<p.1) ∧
   ∀ (j:Nat) (c:U),cs[j]?=some c->∃ g:aA,arr[m.s+j]?=some g/\g.oneCell'=true/\az w R h muZ c g
 | .map t v=>∃ o,w.heap[m.r]?=some (.map o v)/\o.size=t.length ∧
   ∀ (j:Nat) (k g:U) (b:Nat),t[j]?=some (k,g,b)->∃ x:kW,o[j]?=some x/\az w R h muZ k x.key/\az w R h muZ g x.val/\x.born=b
 | .iter s pos=>∃ q:ByteArray,q.data.toList=s/\w.heap[m.r]?=some (.stringIter q pos)
 | _=>True
theorem qh.ext {w w' : aQ} {h h' : aH} {muZ muZ' : bZ} {R:Nat->Prop} {m:M} (e:Ext0 w h muZ w' h' muZ') (p:w'.heap[m.r]?=w.heap[m.r]?) :
  ∀ {c:am},qh w R h muZ m c->qh w' R h' muZ' m c
 | .cells J cs,⟨h1,g,arr,G,B,j,C,D,F⟩=>⟨h1,g,arr,G,B,p.trans j,C,D,fun q c o=>let ⟨t,a,b,d⟩:=F q c o;⟨t,a,b,d.jU e⟩⟩
 | .map I H,⟨z,h1,g,j⟩=>⟨z,p.trans h1,g,fun q k t b o=>let ⟨x,a,u,d,f⟩:=j q k t b o;⟨x,a,u.jU e,d.jU e,f⟩⟩
 | .iter s pos,⟨v,h1,g⟩=>⟨v,h1,p.trans g⟩
 | .none,_=>trivial
 | .dead,_=>trivial
structure bw (R:Nat->Prop) (B:Nat) (w:aQ) (h:aH) (muZ:bZ) :Prop where
 blk:∀ b m,muZ b=some m->qh w R h muZ m (h.f b)
 inj:∀ b g m j,live (h.f b)=true->live (h.f g)=true->muZ b=some m->muZ g=some j->m.r=j.r->b=g
 base:∀ b m,live (h.f b)=true->muZ b=some m->B<=m.r
 fresh:∀ b,h.n<=b->h.f b=.none
 up:∀ k,B<=k->R k
 size:B<=w.heap.size
 iO:∀ b,h.n<=b->muZ b=none
theorem bw.kr {R:Nat->Prop} {B:Nat} {w:aQ} {h:aH} {muZ:bZ} (rel:bw R B w h muZ) {b:Nat} {m:M} (g:muZ b=some m) :b<h.n:=by
 rcases fN b h.n with h1 | h1
 ·exact h1
 ·rw[rel.iO b h1] at g;cases g
theorem bw.lt {R:Nat->Prop} {B:Nat} {w:aQ} {h:aH} {muZ:bZ} (rel:bw R B w h muZ) {b:Nat} {m:M} (p:live (h.f b)=true) (q:muZ b=some m) :m.r<w.heap.size:=by
 have j:=rel.blk b m q;cases o:h.f b with
 | none=>rw[o] at p;cases p
 | dead=>rw[o] at p;cases p
 | cells D cs=>
  rw[o] at j;obtain⟨_,_,arr,F,C,g,_⟩:=j;rcases fN m.r w.heap.size with h | h
  ·exact h
  ·rw[p7 h] at g;cases g
 | map v u=>
  rw[o] at j;obtain⟨z,g,_⟩:=j;rcases fN m.r w.heap.size with h | h
  ·exact h
  ·rw[p7 h] at g;cases g
 | iter s pos=>
  rw[o] at j;obtain⟨t,_,g⟩:=j;rcases fN m.r w.heap.size with h | h
  ·exact h
  ·rw[p7 h] at g;cases g
theorem bw.p2 {R:Nat->Prop} {B:Nat} {w w' : aQ} {h h' : aH} {muZ muZ' : bZ} (rel:bw R B w h muZ) (e:Ext0 w h muZ w' h' muZ') (o:Nat)
  (u:∀ b,b≠o->live (h'.f b)=true->h'.f b=h.f b/\muZ' b=muZ b/\∀ m,muZ b=some m->w'.heap[m.r]?=w.heap[m.r]?)
  (J:∀ m,muZ' o=some m->qh w' R h' muZ' m (h'.f o))
  (H:∀ b m v,b≠o->live (h'.f b)=true->live (h'.f o)=true->muZ b=some m->muZ' o=some v->m.r≠v.r)
  (K:∀ m,live (h'.f o)=true->muZ' o=some m->B<=m.r)
  (P:∀ b,h'.n<=b->h'.f b=.none) (Q:∀ b,h'.n<=b->muZ' b=none) :bw R B w' h' muZ':=by
 refine⟨?_,?_,?_,P,rel.up,dL rel.size e.size,Q⟩
 ·intro b m j;by_cases p:b=o
  ·subst p;exact J m j
  ·cases g:live (h'.f b) with
   | false=>cases O:h'.f b<;>first | trivial | (rw[O] at g;cases g)
   | true=>
    obtain⟨h1,q,C⟩:=u b p g;rw[q] at j;rw[h1];exact (rel.blk b m j).ext e (C m j)
 ·intro b z m v g t j F G;by_cases p:b=o<;>by_cases D:z=o
  ·rw[p,D]
  ·subst p;obtain⟨h1,q,C⟩:=u z D t;rw[q] at F;exact bP G.symm (H z v m D t g F j)
  ·subst D;obtain⟨h1,q,C⟩:=u b p g;rw[q] at j;exact bP G (H b m v p g t j F)
  ·obtain⟨h1,q,_⟩:=u b p g;obtain⟨C,I,_⟩:=u z D t;rw[h1] at g;rw[q] at j;rw[C] at t;rw[I] at F;exact rel.inj b z m v g t j F G
 ·intro b m g j;by_cases p:b=o
  ·subst p;exact K m g j
  ·obtain⟨h1,q,_⟩:=u b p g;rw[h1] at g;rw[q] at j;exact rel.base b m g j
theorem bw.push {R:Nat->Prop} {B:Nat} {w w' : aQ} {h:aH} {muZ:bZ} (rel:bw R B w h muZ) (cs:ag) (arr:Array aA) (t:aC)
  (O:w'.os=w.os) (S:w'.tape=w.tape) (P:w'.output=w.output) (u:w'.heap=w.heap.push (.cells arr t (0,0)))
  (Q:cs.length<=arr.size) (T:∀ (j:Nat) (c:U),cs[j]?=some c->∃ v:aA,arr[j]?=some v/\v.oneCell'=true/\az w R h muZ c v) (I:w.drawn<=w'.drawn:=by first | exact aI _ | exact rC _ | assumption) :
  cS w h muZ w' (h.push (.cells cs.length cs)) (bm muZ h.n (some ⟨w.heap.size,0,arr.size⟩)) ∧
  bw R B w' (h.push (.cells cs.length cs)) (bm muZ h.n (some ⟨w.heap.size,0,arr.size⟩)):=by
 have z:h.f h.n=.none:=rel.fresh _ (aI _);have e:cS w h muZ w' (h.push (.cells cs.length cs)) (bm muZ h.n (some ⟨w.heap.size,0,arr.size⟩)):=by
  refine⟨⟨O,S,P,by simp[u],?_,?_,?_,?_,?_,?_,I⟩,?_⟩
  ·intro k hk _;rw[u,s5,ak F]
  ·rintro k ⟨b,q,o,m,rfl⟩;by_cases g:b=h.n
   ·subst g;simp at m;subst m;exact .inr (aI _)
   ·rw[bK _ _ _ _ g] at m;simp only[dY,bK _ _ _ _ g] at o;exact .inl ⟨b,q,o,m,rfl⟩
  ·intro b V C q g m;have:b≠h.n:=fun p=>by rw[p,z] at g;cases g
   exact .inl ⟨C,by simp only[dY,bK _ _ _ _ this];exact g,by rw[bK _ _ _ _ this];exact m⟩
  ·rintro b V (g | ⟨n,C,g,K⟩)
   ·have:b≠h.n:=fun p=>by rw[p,z] at g;cases g
    exact .inl (by simp only[dY,bK _ _ _ _ this];exact g)
   ·have:b≠h.n:=fun p=>by rw[p,z] at g;cases g
    exact .inr ⟨n,C,by simp only[dY,bK _ _ _ _ this];exact g,K⟩
  ·intro b k q g m;have:b≠h.n:=fun p=>by rw[p,z] at g;cases g
   exact⟨by simp only[dY,bK _ _ _ _ this];exact g,by rw[bK _ _ _ _ this];exact m⟩
  ·simp[jc]
  ·intro b g m;rw[bK _ _ _ _ F];exact m
 refine⟨e,rel.p2 e.toExt0 h.n ?_ ?_ ?_ ?_ ?_ ?_⟩
 ·intro b g o;simp only[dY,bK _ _ _ _ g] at o ⊢;exact⟨trivial,trivial,fun q m=>by rw[u,s5,ak (by have:=rel.lt o m;omega)]⟩
 ·intro q m;simp at m;subst m;simp only[dY,fS];refine⟨rfl,by simpa using Q,arr,t,(0,0),by simp[u],rfl,.inl rfl,fun j c J=>?_⟩;obtain⟨v,h1,G,H⟩:=T j c J;exact⟨v,by simpa using h1,G,H.ext e⟩
 ·intro b q W g o _ m D;simp only[dY,bK _ _ _ _ g] at o;simp at D;subst D;have:=rel.lt o m;simp only[ne_eq];omega
 ·intro q _ m;simp at m;subst m;exact rel.size
 ·intro b g;simp only[dY,jc] at g ⊢;rw[bK _ _ _ _ F];exact rel.fresh b F
 ·intro b g;simp only[jc] at g;rw[bK _ _ _ _ F];exact rel.iO b F
theorem bw.same {R:Nat->Prop} {B:Nat} {w:aQ} {h h' : aH} {muZ:bZ} (rel:bw R B w h muZ) (g:h'.f=h.f) (C:h'.n=h.n) :cS w h muZ w h' muZ/\bw R B w h' muZ:=by
 have e:cS w h muZ w h' muZ:=by
  refine⟨⟨rfl,rfl,rfl,aI _,fun _ _ _=>rfl,?_,?_,?_,?_,F,aI _⟩,fun _ _ j=>j⟩
  ·rintro k ⟨o,p,u,m,rfl⟩;rw[g] at u;exact .inl ⟨o,p,u,m,rfl⟩
  ·intro o D z p q m;exact .inl ⟨z,by rw[g];exact q,m⟩
  ·intro o D t;unfold qk at t ⊢;rw[g];exact t
  ·intro o H p q m;exact⟨by rw[g];exact q,m⟩
 refine⟨e,rel.p2 e.toExt0 h.n (fun b _ _=>⟨by rw[g],rfl,fun _ _=>rfl⟩) (fun v j=>?_) (fun b v p _ _ _ _ j=>?_) (fun v _ j=>?_) (fun b G=>by rw[g];exact rel.fresh b F) (by rw[C];exact rel.iO)⟩
 all_goals (rw[rel.iO h.n (aI _)] at j;cases j)
theorem bw.kill {R:Nat->Prop} {B:Nat} {w:aQ} {h h' : aH} {muZ:bZ} (rel:bw R B w h muZ) {b sz:Nat} {cs:ag} (D:h.f b=.cells sz cs) (K:b<h.n)
  (m:h'.f=bm h.f b .dead) (I:h'.n=h.n) :cS w h muZ w h' muZ/\bw R B w h' muZ:=by
 have e:cS w h muZ w h' muZ:=by
  refine⟨⟨rfl,rfl,rfl,aI _,fun _ _ _=>rfl,?_,?_,?_,?_,F,aI _⟩,fun _ _ H=>H⟩
  ·rintro k ⟨j,v,u,t,rfl⟩;rw[m] at u;by_cases g:j=b
   ·subst g;simp[live] at u
   ·rw[bK _ _ _ _ g] at u;exact .inl ⟨j,v,u,t,rfl⟩
  ·intro j J z v o t;by_cases g:j=b
   ·subst g;exact .inr (.inl (by rw[m];simp))
   ·exact .inl ⟨z,by rw[m,bK _ _ _ _ g];exact o,t⟩
  ·rintro j J q;by_cases g:j=b
   ·subst g;exact .inl (by rw[m];simp)
   ·rcases q with q | ⟨n,z,q,G⟩
    ·exact .inl (by rw[m,bK _ _ _ _ g];exact q)
    ·exact .inr ⟨n,z,by rw[m,bK _ _ _ _ g];exact q,G⟩
  ·intro j O v o t;by_cases g:j=b
   ·subst g;rw[D] at o;cases o
   ·exact⟨by rw[m,bK _ _ _ _ g];exact o,t⟩
 refine⟨e,rel.p2 e.toExt0 b ?_ ?_ ?_ ?_ ?_ (by rw[I];exact rel.iO)⟩
 ·intro j g p;rw[m,bK _ _ _ _ g];exact⟨rfl,rfl,fun _ _=>rfl⟩
 ·intro C _;rw[m];simp[qh]
 ·intro j C v _ _ p;rw[m] at p;simp[live] at p
 ·intro C p;rw[m] at p;simp[live] at p
 ·intro j o;rw[m,bK _ _ _ _ F];exact rel.fresh j F
theorem bw.KV {R:Nat->Prop} {B:Nat} {w:aQ} {h h' : aH} {muZ:bZ} (rel:bw R B w h muZ) {b sz off:Nat} {cs:ag} {m:M} (J:h.f b=.cells sz cs) (C:muZ b=some m) (au:off<=sz)
  (t:h'.f=bm (bm h.f b .dead) h.n (.cells (sz - off) (cs.drop off))) (ar:h'.n=h.n+1) :
  cS w h muZ w h' (bm muZ h.n (some ⟨m.r,m.s+off,m.T⟩))/\bw R B w h' (bm muZ h.n (some ⟨m.r,m.s+off,m.T⟩)):=by
 have aq:=rel.kr C;have H:h.f h.n=.none:=rel.fresh _ (aI _);have K:live (h.f b)=true:=by rw[J];rfl
 have e:cS w h muZ w h' (bm muZ h.n (some ⟨m.r,m.s+off,m.T⟩)):=by
  refine⟨⟨rfl,rfl,rfl,aI _,fun _ _ _=>rfl,?_,?_,?_,?_,F,aI _⟩,fun dD p o=>by rw[bK _ _ _ _ F];exact o⟩
  ·rintro k ⟨dD,D,z,o,rfl⟩;rw[t] at z;by_cases g:dD=h.n
   ·subst g;simp at o;subst o;exact .inl ⟨b,m,K,C,rfl⟩
   ·rw[bK _ _ _ _ g] at z o;by_cases j:dD=b
    ·subst j;simp[live] at z
    ·rw[bK _ _ _ _ j] at z;exact .inl ⟨dD,D,z,o,rfl⟩
  ·intro dD am G D p o;have g:dD≠h.n:=fun v=>by rw[v,H] at p;cases p
   by_cases j:dD=b
   ·subst j;exact .inr (.inl (by rw[t,bK _ _ _ _ g];simp))
   ·exact .inl ⟨G,by rw[t,bK _ _ _ _ g,bK _ _ _ _ j];exact p,by rw[bK _ _ _ _ g];exact o⟩
  ·rintro dD am q;have g:dD≠h.n:=fun v=>by
    subst v;rcases q with q | ⟨n,G,q,_⟩
    ·rw[H] at q;cases q
    ·rw[H] at q;cases q
   by_cases j:dD=b
   ·subst j;exact .inl (by rw[t,bK _ _ _ _ g];simp)
   ·rcases q with q | ⟨n,G,q,aj⟩
    ·exact .inl (by rw[t,bK _ _ _ _ g,bK _ _ _ _ j];exact q)
    ·exact .inr ⟨n,G,by rw[t,bK _ _ _ _ g,bK _ _ _ _ j];exact q,aj⟩
  ·intro dD av D p o;have g:dD≠h.n:=fun v=>by rw[v,H] at p;cases p
   by_cases j:dD=b
   ·subst j;rw[J] at p;cases p
   ·exact⟨by rw[t,bK _ _ _ _ g,bK _ _ _ _ j];exact p,by rw[bK _ _ _ _ g];exact o⟩
 have Q:∀ dD,dD≠h.n->live (h'.f dD)=true->dD≠b/\h'.f dD=h.f dD:=fun dD g u=>by
  rw[t,bK _ _ _ _ g] at u ⊢;by_cases j:dD=b
  ·subst j;simp[live] at u
  ·exact⟨j,by rw[bK _ _ _ _ j]⟩
 refine⟨e,rel.p2 e.toExt0 h.n ?_ ?_ ?_ ?_ ?_ ?_⟩
 ·intro dD g u;exact⟨(Q dD g u).2,by rw[bK _ _ _ _ g],fun _ _=>rfl⟩
 ·intro D o;simp at o;subst o;rw[t,fS];have O:=rel.blk b m C;rw[J] at O;obtain⟨h1,I,arr,ao,W,X,Y,Z,ae⟩:=O;refine⟨by simp;omega,by simp only;omega,arr,ao,W,X,Y,Z,fun ak c P=>?_⟩;rw[gB] at P;obtain⟨ap,S,U,V⟩:=ae (off+ak) c P;exact⟨ap,by simp only;rw[iW];exact S,U,V.ext e⟩
 ·intro dD al aw g u _ h1 I v;simp at I;subst I;obtain⟨j,ai⟩:=Q dD g u;rw[ai] at u;exact j (rel.inj dD b al m u K h1 C v)
 ·intro D _ o;simp at o;subst o;exact rel.base b m K C
 ·intro dD p;rw[t,bK _ _ _ _ F,bK _ _ _ _ F];exact rel.fresh dD F
 ·intro dD p;rw[bK _ _ _ _ F];exact rel.iO dD F
theorem bw.Kj {R:Nat->Prop} {B:Nat} {w w' : aQ} {h:aH} {muZ:bZ} (rel:bw R B w h muZ) (c:am) (o:Obj) {k:Nat} (hk:lk c=k+1)
  (H:w'.os=w.os) (J:w'.tape=w.tape) (I:w'.output=w.output) (v:w'.heap=w.heap.push o)
  (G:qh w' R (h.push c) (bm muZ h.n (some ⟨w.heap.size,0,0⟩)) ⟨w.heap.size,0,0⟩ c) (C:w.drawn<=w'.drawn:=by first | exact aI _ | exact rC _ | assumption) :
  cS w h muZ w' (h.push c) (bm muZ h.n (some ⟨w.heap.size,0,0⟩))/\bw R B w' (h.push c) (bm muZ h.n (some ⟨w.heap.size,0,0⟩)):=by
 have t:h.f h.n=.none:=rel.fresh _ (aI _);have O:lk am.none=0:=rfl;have e:cS w h muZ w' (h.push c) (bm muZ h.n (some ⟨w.heap.size,0,0⟩)):=by
  refine⟨⟨H,J,I,by simp[v],?_,?_,?_,?_,?_,?_,C⟩,?_⟩
  ·intro k hk _;rw[v,s5,ak F]
  ·rintro k ⟨b,q,m,j,rfl⟩;by_cases g:b=h.n
   ·subst g;simp at j;subst j;exact .inr (aI _)
   ·rw[bK _ _ _ _ g] at j;simp only[dY,bK _ _ _ _ g] at m;exact .inl ⟨b,q,m,j,rfl⟩
  ·intro b K u q g j;have:b≠h.n:=fun p=>by rw[p,t] at g;cases g
   exact .inl ⟨u,by simp only[dY,bK _ _ _ _ this];exact g,by rw[bK _ _ _ _ this];exact j⟩
  ·rintro b K (g | ⟨n,u,g,D⟩)
   ·have:b≠h.n:=fun p=>by rw[p,t] at g;cases g
    exact .inl (by simp only[dY,bK _ _ _ _ this];exact g)
   ·have:b≠h.n:=fun p=>by rw[p,t] at g;cases g
    exact .inr ⟨n,u,by simp only[dY,bK _ _ _ _ this];exact g,D⟩
  ·intro b k q g j;have:b≠h.n:=fun p=>by rw[p,t] at g;cases g
   exact⟨by simp only[dY,bK _ _ _ _ this];exact g,by rw[bK _ _ _ _ this];exact j⟩
  ·simp[jc]
  ·intro b g j;rw[bK _ _ _ _ F];exact j
 refine⟨e,rel.p2 e.toExt0 h.n ?_ ?_ ?_ ?_ ?_ ?_⟩
 ·intro b g m;simp only[dY,bK _ _ _ _ g] at m ⊢;exact⟨trivial,trivial,fun q j=>by rw[v,s5,ak (by have:=rel.lt m j;omega)]⟩
 ·intro q j;simp at j;subst j;simp only[dY,fS];exact G
 ·intro b q P g m _ j z;simp only[dY,bK _ _ _ _ g] at m;simp at z;subst z;have:=rel.lt m j;simp only[ne_eq];omega
 ·intro q _ j;simp at j;subst j;exact rel.size
 ·intro b g;simp only[dY,jc] at g ⊢;rw[bK _ _ _ _ F];exact rel.fresh b F
 ·intro b g;simp only[jc] at g ⊢;rw[bK _ _ _ _ F];exact rel.iO b F
theorem bw.Ko {R:Nat->Prop} {B:Nat} {w w' : aQ} {h:aH} {muZ:bZ} (rel:bw R B w h muZ) {b k:Nat} {c c' : am} {m:M}
  (D:h.f b=c) (hk:lk c=k+1) (H:lk c'=k+1) (q:muZ b=some m)
  (V:w'.os=w.os) (X:w'.tape=w.tape) (W:w'.output=w.output) (Y:w'.heap.size=w.heap.size) (K:∀ k,k≠m.r->w'.heap[k]?=w.heap[k]?)
  (U:Ext0 w h muZ w' (h.set b c') muZ->qh w' R (h.set b c') muZ m c') (P:w.drawn<=w'.drawn:=by first | exact aI _ | exact rC _ | assumption) :
  cS w h muZ w' (h.set b c') muZ/\bw R B w' (h.set b c') muZ:=by
 have C:live (h.f b)=true:=by rw[D];cases c<;>simp[lk] at hk<;>rfl
 have ae:live c'=true:=by cases c'<;>simp[lk] at H<;>rfl
 have J:∀ F cs,h.f b≠.cells F cs:=fun F cs o=>by rw[D] at o;subst o;simp[lk] at hk
 have T:h.f b≠.dead:=fun o=>by rw[D] at o;subst o;simp[lk] at hk
 have e:cS w h muZ w' (h.set b c') muZ:=by
  refine⟨⟨V,X,W,A3 Y.symm,?_,?_,?_,?_,?_,aI _,P⟩,fun _ _ q=>q⟩
  ·intro k hk S;exact K k (fun o=>S ⟨b,m,C,q,o.symm⟩)
  ·rintro k ⟨j,u,I,p,rfl⟩;by_cases g:j=b
   ·subst g;exact .inl ⟨j,u,C,p,rfl⟩
   ·simp only[dq,bK _ _ _ _ g] at I;exact .inl ⟨j,u,I,p,rfl⟩
  ·intro j F cs u t p;have g:j≠b:=fun o=>by subst o;exact J _ _ t
   exact .inl ⟨cs,by simp only[dq,bK _ _ _ _ g];exact t,p⟩
  ·rintro j F (v | ⟨n,O,v,Q⟩)
   ·have g:j≠b:=fun o=>by subst o;exact T v
    exact .inl (by simp only[dq,bK _ _ _ _ g];exact v)
   ·have g:j≠b:=fun o=>by subst o;exact J _ _ v
    exact .inr ⟨n,O,by simp only[dq,bK _ _ _ _ g];exact v,Q⟩
  ·intro j ag u t p;by_cases g:j=b
   ·subst g;refine⟨?_,p⟩;simp only[dq,fS];rw[D,hk] at t;rw[H];exact t
   ·exact⟨by simp only[dq,bK _ _ _ _ g];exact t,p⟩
 refine⟨e,rel.p2 e.toExt0 b ?_ ?_ ?_ ?_ ?_ rel.iO⟩
 ·intro j g z;simp only[dq,bK _ _ _ _ g] at z ⊢;exact⟨trivial,trivial,fun u p=>K _ (fun o=>g (rel.inj j b u m z C p q o))⟩
 ·intro u p;rw[q] at p;cases p;simp only[dq,fS];exact U e.toExt0
 ·intro j Z ai g z _ h1 G o;rw[q] at G;cases G;simp only[dq,bK _ _ _ _ g] at z;exact g (rel.inj j b Z m z C h1 q o)
 ·intro u _ p;rw[q] at p;cases p;exact rel.base b m C q
 ·intro j t;by_cases g:j=b
  ·subst g;have:=rel.kr q;simp only[hX] at t;omega
  ·simp only[dq,bK _ _ _ _ g];exact rel.fresh j t
theorem bw.write {R:Nat->Prop} {B:Nat} {w w' : aQ} {h:aH} {muZ:bZ} (rel:bw R B w h muZ) {b sz sz' : Nat} {cs cs' : ag} {m:M} {arr arr' : Array aA} {t:aC} {H:Nat × Nat}
  (G:h.f b=.cells sz cs) (D:muZ b=some m) (av:w.heap[m.r]?=some (.cells arr t H)) (S:arr.size=m.T) (Y:H=(0,0)\/m.T<H.1)
  (ak:w'.os=w.os) (ao:w'.tape=w.tape) (al:w'.output=w.output) (ar:w'.heap.size=w.heap.size)
  (aq:w'.heap[m.r]?=some (.cells arr' t H)) (O:∀ k,k≠m.r->w'.heap[k]?=w.heap[k]?) (V:arr'.size=arr.size)
  (ae:cs'.length=sz') (au:sz<=sz') (X:m.s+sz'<=m.T)
  (ap:∀ (j:Nat) (c:U),cs'[j]?=some c->∃ v:aA,arr'[m.s+j]?=some v/\v.oneCell'=true/\az w R h muZ c v) (W:w.drawn<=w'.drawn:=by first | exact aI _ | exact rC _ | assumption) :
  cS w h muZ w' (h.set b (.cells sz' cs')) muZ/\bw R B w' (h.set b (.cells sz' cs')) muZ:=by
 have I:live (h.f b)=true:=by rw[G];rfl
 have e:cS w h muZ w' (h.set b (.cells sz' cs')) muZ:=by
  refine⟨⟨ak,ao,al,A3 ar.symm,?_,?_,?_,?_,?_,aI _,W⟩,fun _ _ D=>D⟩
  ·intro k hk aj;exact O k (fun u=>aj ⟨b,m,I,D,u.symm⟩)
  ·rintro k ⟨o,z,C,q,rfl⟩;by_cases p:o=b
   ·subst p;exact .inl ⟨o,z,I,q,rfl⟩
   ·simp only[dq,bK _ _ _ _ p] at C;exact .inl ⟨o,z,C,q,rfl⟩
  ·intro o ay J z g q;by_cases p:o=b
   ·subst p;rw[G] at g;cases g;by_cases am:sz'=sz
    ·exact .inl ⟨cs',by simp[dq,am],q⟩
    ·exact .inr (.inr ⟨sz',cs',by simp[dq],F⟩)
   ·exact .inl ⟨J,by simp only[dq,bK _ _ _ _ p];exact g,q⟩
  ·rintro o ax (g | ⟨n,J,g,ai⟩)
   ·have p:o≠b:=fun u=>by rw[u,G] at g;cases g
    exact .inl (by simp only[dq,bK _ _ _ _ p];exact g)
   ·by_cases p:o=b
    ·subst p;rw[G] at g;cases g;exact .inr ⟨sz',cs',by simp[dq],F⟩
    ·exact .inr ⟨n,J,by simp only[dq,bK _ _ _ _ p];exact g,ai⟩
  ·intro o k z g q;have p:o≠b:=fun u=>by rw[u,G] at g;cases g
   exact⟨by simp only[dq,bK _ _ _ _ p];exact g,q⟩
 refine⟨e,rel.p2 e.toExt0 b ?_ ?_ ?_ ?_ ?_ ?_⟩
 ·intro o p C;simp only[dq,bK _ _ _ _ p] at C ⊢;exact⟨trivial,trivial,fun z q=>O _ (fun u=>p (rel.inj o b z m C I q D u))⟩
 ·intro z q;rw[D] at q;cases q;simp only[dq,fS];refine⟨ae,X,arr',t,H,aq,V.trans S,Y,fun j c Z=>?_⟩;obtain⟨v,h1,P,Q⟩:=ap j c Z;exact⟨v,h1,P,Q.ext e⟩
 ·intro o z aw p C _ q K u;rw[D] at K;cases K;simp only[dq,bK _ _ _ _ p] at C;exact p (rel.inj o b z m C I q D u)
 ·intro z _ q;exact rel.base b z I q
 ·intro o g;simp only[dq,hX] at g ⊢;have p:o≠b:=fun u=>by
   have:=rel.fresh o g;rw[u,G] at this;cases this
  rw[bK _ _ _ _ p];exact rel.fresh o g
 ·intro o g;exact rel.iO o g
theorem bw.move {R:Nat->Prop} {B:Nat} {w w' : aQ} {h:aH} {muZ:bZ} (rel:bw R B w h muZ) {b sz sz' : Nat} {cs cs' : ag} {m:M} {arr:Array aA} {t:aC}
  (D:h.f b=.cells sz cs) (I:muZ b=some m)
  (W:w'.os=w.os) (Y:w'.tape=w.tape) (X:w'.output=w.output) (G:w'.heap=w.heap.push (.cells arr t (0,0)))
  (T:cs'.length=sz') (ae:sz<sz') (Q:sz'<=arr.size)
  (Z:∀ (j:Nat) (c:U),cs'[j]?=some c->∃ v:aA,arr[j]?=some v/\v.oneCell'=true/\az w R h muZ c v) (P:w.drawn<=w'.drawn:=by first | exact aI _ | exact rC _ | assumption) :
  cS w h muZ w' (h.set b (.cells sz' cs')) (bm muZ b (some ⟨w.heap.size,0,arr.size⟩))/\bw R B w' (h.set b (.cells sz' cs')) (bm muZ b (some ⟨w.heap.size,0,arr.size⟩)):=by
 have ai:live (h.f b)=true:=by rw[D];rfl
 have e:cS w h muZ w' (h.set b (.cells sz' cs')) (bm muZ b (some ⟨w.heap.size,0,arr.size⟩)):=by
  refine⟨⟨W,Y,X,by simp[G],?_,?_,?_,?_,?_,aI _,P⟩,?_⟩
  ·intro k hk aj;rw[G,s5,ak F]
  ·rintro k ⟨q,C,z,p,rfl⟩;by_cases g:q=b
   ·subst g;simp at p;subst p;exact .inr (aI _)
   ·rw[bK _ _ _ _ g] at p;simp only[dq,bK _ _ _ _ g] at z;exact .inl ⟨q,C,z,p,rfl⟩
  ·intro q ao H C o p;by_cases g:q=b
   ·subst g;rw[D] at o;cases o;exact .inr (.inr ⟨sz',cs',by simp[dq],F⟩)
   ·exact .inl ⟨H,by simp only[dq,bK _ _ _ _ g];exact o,by rw[bK _ _ _ _ g];exact p⟩
  ·rintro q am (o | ⟨n,H,o,V⟩)
   ·have g:q≠b:=fun u=>by rw[u,D] at o;cases o
    exact .inl (by simp only[dq,bK _ _ _ _ g];exact o)
   ·by_cases g:q=b
    ·subst g;rw[D] at o;cases o;exact .inr ⟨sz',cs',by simp[dq],F⟩
    ·exact .inr ⟨n,H,by simp only[dq,bK _ _ _ _ g];exact o,V⟩
  ·intro q k C o p;have g:q≠b:=fun u=>by rw[u,D] at o;cases o
   exact⟨by simp only[dq,bK _ _ _ _ g];exact o,by rw[bK _ _ _ _ g];exact p⟩
  ·intro q _ p;have g:q≠b:=fun u=>by rw[u,I] at p;cases p
   rw[bK _ _ _ _ g];exact p
 refine⟨e,rel.p2 e.toExt0 b ?_ ?_ ?_ ?_ ?_ ?_⟩
 ·intro q g z;simp only[dq,bK _ _ _ _ g] at z ⊢;exact⟨trivial,trivial,fun C p=>by rw[G,s5,ak (by have:=rel.lt z p;omega)]⟩
 ·intro C p;simp at p;subst p;simp only[dq,fS];refine⟨T,by simpa using Q,arr,t,(0,0),by simp[G],rfl,.inl rfl,fun j c S=>?_⟩;obtain⟨v,h1,K,O⟩:=Z j c S;exact⟨v,by simpa using h1,K,O.ext e⟩
 ·intro q C al g z _ p J;simp only[dq,bK _ _ _ _ g] at z;simp at J;subst J;have:=rel.lt z p;simp only[ne_eq];omega
 ·intro C _ p;simp at p;subst p;exact rel.size
 ·intro q o;simp only[dq,hX] at o ⊢;have g:q≠b:=fun u=>by
   have:=rel.fresh q o;rw[u,D] at this;cases this
  rw[bK _ _ _ _ g];exact rel.fresh q o
 ·intro q o;simp only[hX] at o;have g:q≠b:=fun u=>by
   have:=rel.kr I;omega
  rw[bK _ _ _ _ g];exact rel.iO q o
section
variable {P:bj} {w:aQ} {R:Nat->Prop} {B:Nat} {h:aH} {muZ:bZ}
def Good (R:Nat->Prop) (B:Nat) (w:aQ) (h:aH) (muZ:bZ) (r:Result Next) (c:U) (h' : aH) :Prop:=
 ∃ g w' muZ',(r=.ok (.value g) w'\/(r=.ok .skip w'/\g=undef))/\cS w h muZ w' h' muZ'/\bw R B w' h' muZ'/\az w' R h' muZ' c g
theorem b8 {t:aC} {d:TypeDesc} (g:P.underlying t=some d) :(underlying t).run P w=.ok d w:=by simp[underlying,g]
theorem zW {t:aC} {b:Bool} (g:dC P t=some b) :(isAgg t).run P w=.ok b w:=by
 unfold dC at g;cases h:P.underlying t with
 | none=>rw[h] at g;cases g
 | some d=>
  rw[h] at g;simp only[cz,bd] at g;unfold isAgg;simp only[Sem.run_bind,b8 h,Result.andThen_ok];cases d<;>simp_all
theorem R6 {t:aC} {n:Nat} (g:b5 P t=some n) :∃ i,P.info? t=some i/\i.size=n:=by
 unfold b5 at g;cases h:P.info? t with
 | none=>rw[h] at g;cases g
 | some i=>rw[h] at g;exact⟨i,rfl,by simpa using g⟩
theorem eI {t:aC} {n:Nat} (h:b5 P t=some n) :(sizeOf t).run P w=.ok n w:=by obtain⟨i,g,j⟩:=R6 h;simp[sizeOf,typeInfo,g,j]
theorem ZF {t:aC} {z:ag} (g:gd P t=some z) :∃ i v,P.info? t=some i/\i.zero=some v/\v.cells.toList.all Value.oneCell'=true/\z=v.cells.toList.map l4:=by
 unfold gd at g;cases j:P.info? t with
 | none=>rw[j] at g;cases g
 | some i=>
  rw[j] at g;simp only[qg] at g;cases h:i.zero with
  | none=>rw[h] at g;cases g
  | some v=>
   rw[h] at g;simp only[qg] at g;split at g
   ·rename_i h1;exact⟨i,v,rfl,h,h1,by simpa using g.symm⟩
   ·cases g
theorem Lm {t:aC} {i:TypeInfo} {v:aA} (g:P.info? t=some i) (h:i.zero=some v) :(zeroValue t).run P w=.ok v w:=by simp[zeroValue,typeInfo,g,h]
theorem az.l4 (v:aA) :az w R h muZ (l4 v) v:=by
 cases v with
 | bool b=>exact .bool _
 | int k n=>exact .int _ _
 | string s=>exact .str _
 | pointer a=>cases a<;>first | exact .iu | exact .bad _
 | slice a l c=>
  simp only[bh.l4];split
  ·exact .af
  ·exact .bad _
 | map r=>cases r<;>first | exact .g0 | exact .bad _
 | nilFunc=>exact .h6
 | nilIface=>exact .hS
 | func fn first e7=>
  simp only[bh.l4];split
  ·rename_i f h1 o;have j:first=#[]:=by simpa using h1
   have m:e7=#[]:=by simpa using o
   subst j m;exact .fn _ [] [] #[] #[] rfl rfl (fun _ _ _ g=>by simp at g) (fun _ _ _ g=>by simp at g)
  ·exact .bad _
 | _=>exact .bad _
theorem az.qT (v:aA) :az w R h muZ (qT v) v:=by
 unfold bh.qT;split
 ·rename_i cs;split
  ·rename_i m;refine .ah _ _ V (fun o v p=>?_) (fun o c v g j=>?_)
   ·rw[gg] at m;exact m v (by have:=xJ p;simpa using this)
   ·rw[bW] at g;simp only[p8,j,cz,bd] at g;subst g;exact az.l4 v
  ·exact .bad _
 ·rename_i q;refine .a1 _ _ V (fun o c v g j=>?_);rw[bW] at g;simp only[p8,j,cz,bd] at g;subst g;exact az.l4 v
 ·exact az.l4 v
theorem yi {c:U} {v:aA} {cs:ag} (p:az w R h muZ c v) (g:c.cells=some cs) :
  v.cells.size=cs.length/\∀ (j:Nat) (x:U),cs[j]?=some x->∃ u:aA,v.cells[j]?=some u/\u.oneCell'=true/\az w R h muZ x u:=by
 have m:∀ (c:U) (v:aA),az w R h muZ c v->v.cells=#[v]->v.oneCell'=true->∀ cs,cs=[c]->
   v.cells.size=cs.length/\∀ (j:Nat) (x:U),cs[j]?=some x->∃ u:aA,v.cells[j]?=some u/\u.oneCell'=true/\az w R h muZ x u:=by
  intro c v p ae h1 cs Z;subst Z;rw[ae];refine⟨rfl,fun j x H=>?_⟩;cases j with
  | zero=>simp at H;subst H;exact⟨v,rfl,h1,p⟩
  | succ j=>simp at H
 cases p with
 | ah q Q B h1 p=>
  simp only[U.cells,bd] at g;subst g;refine⟨B,fun j x H=>?_⟩;have O:j<Q.size:=by rw[B];exact (aK.1 H).1
  exact⟨Q[j],by simp[Value.cells,O],h1 j _ (by simp[O]),p j x _ H (by simp[O])⟩
 | a1 q Q B p=>simp[U.cells] at g
 | bad v=>simp[U.cells] at g
 | bool b=>exact m _ _ (.bool b) rfl rfl _ (by simpa [U.cells] using g.symm)
 | int k n=>exact m _ _ (.int k n) rfl rfl _ (by simpa [U.cells] using g.symm)
 | str S=>exact m _ _ (.str S) rfl rfl _ (by simpa [U.cells] using g.symm)
 | iu=>exact m _ _ .iu rfl rfl _ (by simpa [U.cells] using g.symm)
 | af=>exact m _ _ .af rfl rfl _ (by simpa [U.cells] using g.symm)
 | g0=>exact m _ _ .g0 rfl rfl _ (by simpa [U.cells] using g.symm)
 | h6=>exact m _ _ .h6 rfl rfl _ (by simpa [U.cells] using g.symm)
 | hS=>exact m _ _ .hS rfl rfl _ (by simpa [U.cells] using g.symm)
 | ptr b o F q D t C=>exact m _ _ (.ptr b o F q D t C) rfl rfl _ (by simpa [U.cells] using g.symm)
 | jb b o F a K=>exact m _ _ (.jb b o F a K) rfl rfl _ (by simpa [U.cells] using g.symm)
 | b0 q o I al P z p=>exact m _ _ (.b0 q o I al P z p) rfl rfl _ (by simpa [U.cells] using g.symm)
 | ad G b o len cap F J q D t C B aj z=>exact m _ _ (.ad G b o len cap F J q D t C B aj z) rfl rfl _ (by simpa [U.cells] using g.symm)
 | fk G b o len cap F J a B z K=>exact m _ _ (.fk G b o len cap F J a B z K) rfl rfl _ (by simpa [U.cells] using g.symm)
 | gw G b o F a q D t C=>exact m _ _ (.gw G b o F a q D t C) rfl rfl _ (by simpa [U.cells] using g.symm)
 | bn G V I o cap P B ak z p=>exact m _ _ (.bn G V I o cap P B ak z p) rfl rfl _ (by simpa [U.cells] using g.symm)
 | eN G a cap=>exact m _ _ (.eN G a cap) rfl rfl _ (by simpa [U.cells] using g.symm)
 | fn f W T X q ai z h1 Y=>exact m _ _ (.fn f W T X q ai z h1 Y) rfl rfl _ (by simpa [U.cells] using g.symm)
 | mp b D t C=>exact m _ _ (.mp b D t C) rfl rfl _ (by simpa [U.cells] using g.symm)
 | it b D t C=>exact m _ _ (.it b D t C) rfl rfl _ (by simpa [U.cells] using g.symm)
 | gc am c v p=>exact m _ _ (.gc am c v p) rfl rfl _ (by simpa [U.cells] using g.symm)
 | e0 l=>exact m _ _ (.e0 l) rfl rfl _ (by simpa [U.cells] using g.symm)
theorem Addr.jP (b o n:Nat) :(⟨b,o,none⟩:Addr).add n=⟨b,o+n,none⟩:=by unfold Addr.add;split<;>simp_all
theorem Wk (rel:bw R B w h muZ) {p:U} {G:aA} {cs:ag} {off:Nat} (g:l9 h p=some (cs,off)) (Q:az w R h muZ p G) :
  ∃ blk o,G=.pointer (some ⟨blk,o+off,none⟩)/\∀ (j:Nat) (c:U),cs[j]?=some c->∃ v:aA,w.cell? ⟨blk,o+j,none⟩=some v/\v.oneCell'=true/\az w R h muZ c v:=by
 cases Q with
 | ptr b F T u t z P=>
  simp only[l9,z,ite_true,bd,Prod.mk.injEq] at g;obtain⟨rfl,rfl⟩:=g;have C:=rel.blk b t P;rw[z] at C;obtain⟨h1,X,arr,ai,W,K,Y,Z,O⟩:=C;refine⟨t.r,t.s,rfl,fun j c q=>?_⟩;obtain⟨v,H,I,J⟩:=O j c q;exact⟨v,by simp[World.cell?,K,H],I,J⟩
 | jb b F T a m=>
  unfold l9 at g;rcases m with m | ⟨n,u,m,ae⟩
  ·simp[m] at g
  ·simp only[m] at g;split at g
   ·omega
   ·cases g
 | b0 u F blk o V D S=>
  simp only[l9,bd,Prod.mk.injEq] at g;obtain⟨rfl,rfl⟩:=g;exact⟨blk,o,rfl,fun j c q=>⟨V j,(D j (aK.1 q).1).here,(D j (aK.1 q).1).one,S j c q⟩⟩
 | _=>simp[l9] at g
theorem WY {t:aC} {cs:ag} {off:Nat} {c:U} (m:gv P t cs off=some c) {blk o:Nat}
  (B:∀ (j:Nat) (x:U),cs[j]?=some x->∃ v:aA,w.cell? ⟨blk,o+j,none⟩=some v/\v.oneCell'=true/\az w R h muZ x v) :
  ∃ v,(loadVar t ⟨blk,o+off,none⟩).run P w=.ok v w/\az w R h muZ c v:=by
 unfold gv at m;cases q:dC P t with
 | none=>rw[q] at m;cases m
 | some b=>
  rw[q] at m;cases b with
  | false=>
   simp only at m;obtain⟨v,h1,_,H⟩:=B off c m;exact⟨v,by simp[loadVar,zW q,h1],H⟩
  | true=>
   cases z:b5 P t with
   | none=>rw[z] at m;cases m
   | some n=>
    rw[z] at m;simp only at m;split at m
    ·rename_i K;cases m;have D:∀ j,j<n->∃ v,w.cell? ⟨blk,o+(off+j),none⟩=some v/\v.oneCell'=true/\az w R h muZ (cs.getD (off+j) .bad) v:=by
      intro j g;have G:off+j<cs.length:=F;have:=B (off+j) cs[off+j] (by simp[G]);simpa [List.getD,G] using this
     have J:∃ f:Nat->aA,∀ j,j<n->w.cell? ⟨blk,o+(off+j),none⟩=some (f j)/\(f j).oneCell'=true/\az w R h muZ (cs.getD (off+j) .bad) (f j):=by
      refine⟨fun j=>if g:j<n then Classical.choose (D j g) else undef,fun j g=>?_⟩;simp only[g,dif_pos];exact Classical.choose_spec (D j g)
     obtain⟨f,u⟩:=J;have I:(loadCells ⟨blk,o+off,none⟩ n).run P w=.ok ((List.range n).map f).toArray w:=by
      have:=run_loadCells_list (P:=P) w ⟨blk,o+off,none⟩ ((List.range n).map f) (fun j v g=>by
       rw[bW] at g;have p:j<n:=by
        rcases fN j n with h1 | h1
        ·exact h1
        ·rw[ea (by simpa using h1)] at g;cases g
       rw[hp p] at g;simp only[cz,bd] at g;rw[Addr.jP,<-g,iW];exact (u j p).1)
      simpa using this
     refine⟨.agg ((List.range n).map f).toArray,by simp[loadVar,zW q,eI z,I],.ah _ _ (by simp;omega) (fun j v g=>?_) (fun j c v C g=>?_)⟩
     ·simp only[ve,bW] at g;have p:j<n:=by
       rcases fN j n with h1 | h1
       ·exact h1
       ·rw[ea (by simpa using h1)] at g;cases g
      rw[hp p] at g;simp only[cz,bd] at g;rw[<-g];exact (u j p).2.1
     ·simp only[ve,bW] at g;have p:j<n:=by
       rcases fN j n with h1 | h1
       ·exact h1
       ·rw[ea (by simpa using h1)] at g;cases g
      rw[hp p] at g;simp only[cz,bd] at g;rw[dU p,gB] at C;have:=(u j p).2.2;rw[List.getD,C] at this;rw[<-g];simpa using this
    ·cases m
theorem IK (rel:bw R B w h muZ) {t:aC} {p:U} {m:aA} {c:U} (g:oE P h t p=some c) (u:az w R h muZ p m) :
  ∃ v,(Instr.loadAt t m).run P w=.ok v w/\az w R h muZ c v:=by
 unfold oE at g;cases j:l9 h p with
 | none=>rw[j] at g;cases g
 | some x=>
  obtain⟨cs,D⟩:=x;rw[j] at g;obtain⟨z,C,rfl,q⟩:=Wk rel j u;obtain⟨v,h1,o⟩:=WY g q;exact⟨v,by simp[Instr.loadAt,Instr.sureAddr,h1],o⟩
end
section
variable {P:bj} {w:aQ} {R:Nat->Prop} {B:Nat} {h:aH} {muZ:bZ}
theorem Ll (P:bj) (g o:Nat) (t:aC) (j:Nat × Nat) :∀ (vs:List aA) (i:Nat) (h:Array aA) (w:aQ),w.heap[g]?=some (.cells h t j)->(j=(0,0)\/h.size<=j.1)->
  o+i+vs.length<=h.size->(∀ v∈vs,v.oneCell'=true)->
  (storeCells ⟨g,o,none⟩ vs i).run P w=.ok () (w.setRow g (h.toList.take (o+i)++vs++h.toList.drop (o+i+vs.length)).toArray)
 | [],i,h,w,m,_,_,_=>by
  simp only[storeCells,eT,hq,nW,iV,Array.toArray_toList];rw[setRow_self w g h t j m];rfl
 | v::rest,i,h,w,m,p,q,h1=>by
  have C:o+i<h.size:=by simp at q;omega
  have u:(⟨g,o,none⟩:Addr).add i=⟨g,o+i,none⟩:=Addr.jP _ _ _;have z:w.cell? ⟨g,o+i,none⟩=some h[o+i]:=by simp[World.cell?,m,C]
  have B:w.frozen? ⟨g,o+i,none⟩=false:=by
   obtain⟨H,I⟩:=j;rcases p with p | p
   ·cases p;simp[World.frozen?,m]
   ·have:¬ H<=o+i:=by simp at p;omega
    simp[World.frozen?,m,this]
  have D:(store ((⟨g,o,none⟩:Addr).add i) v).run P w=.ok () (w.setRow g (h.setIfInBounds (o+i) v)):=by
   rw[u,run_store P w _ v _ (h1 v V),z];simp[B,setCell_eq_setRow w g (o+i) h t j v m]
  have G:=Ll P g o t j rest (i+1) (h.setIfInBounds (o+i) v) (w.setRow g (h.setIfInBounds (o+i) v)) (setRow_heap w g h _ t _ m) (by simpa using p) (by simp at q ⊢;omega) (fun x F=>h1 x (by simp[F]));simp only[storeCells,Sem.run_bind,D,Result.andThen_ok,G,setRow_setRow];congr 3;have:=list_seg_step h.toList (o+i) v rest (by simp at q ⊢;omega);simpa [iW,rB 1] using this
theorem oQ {cs vs:ag} {k:Nat} (hk:k<=cs.length) :(ax cs k vs).length=max cs.length (k+vs.length):=by unfold ax;simp only[cr,cO,iT];omega
theorem Er {cs vs:ag} {k j:Nat} (hk:k<=cs.length) :(ax cs k vs)[j]?=if j<k then cs[j]? else if j<k+vs.length then vs[j - k]? else cs[j]?:=by
 unfold ax;rw[gM];by_cases h1:j<k
 ·rw[aV (by simp;omega),dU h1,aj h1]
 ·rw[et (by simp;omega),ak h1];simp only[cO,iX hk];by_cases g:j<k+vs.length
  ·rw[aV F,aj g]
  ·rw[et F,ak g,gB];congr 1;omega
theorem sX (rel:bw R B w h muZ) {b sz k:Nat} {cs cvs:ag} {m:M} {vs:List aA} (D:h.f b=.cells sz cs) (K:muZ b=some m) (hk:k<=sz)
  (ao:vs.length=cvs.length) (ak:m.s+max sz (k+cvs.length)<=m.T)
  (Q:∀ (j:Nat) (c:U),cvs[j]?=some c->∃ v:aA,vs[j]?=some v/\v.oneCell'=true/\az w R h muZ c v) :
  ∃ w',(storeCells ⟨m.r,m.s+k,none⟩ vs).run P w=.ok () w'/\cS w h muZ w' (h.set b (.cells (max sz (k+cvs.length)) (ax cs k cvs))) muZ ∧
   bw R B w' (h.set b (.cells (max sz (k+cvs.length)) (ax cs k cvs))) muZ:=by
 have G:=rel.blk b m K;rw[D] at G;obtain⟨X,aj,arr,S,z,u,C,J,H⟩:=G;have h1:∀ v∈vs,v.oneCell'=true:=by
  intro v Z;obtain⟨j,o,rfl⟩:=Fh Z;obtain⟨v,g,p,_⟩:=Q j (cvs[j]'F) V;rw[bI o] at g;cases g;exact p
 have O:=Ll P m.r (m.s+k) S z vs 0 arr w u (by rw[C];exact J.imp id km) F h1;simp only[nW] at O;have ae:(arr.toList.take (m.s+k)++vs++arr.toList.drop (m.s+k+vs.length)).toArray.size=arr.size:=by
  simp only[xV,cr,cO,iT,rr];omega
 have I:=rel.write (w':=w.setRow m.r (arr.toList.take (m.s+k)++vs++arr.toList.drop (m.s+k+vs.length)).toArray) (cs':=ax cs k cvs) (sz':=max sz (k+cvs.length)) D K u C J
  rfl rfl rfl (by simp[World.setRow]) (setRow_heap w m.r arr _ S z u) (fun ai W=>setRow_other w m.r ai _ W) ae
  (by rw[oQ F,X]) F F (fun j c o=>?_)
 ·exact⟨_,O,I.1,I.2⟩
 ·rw[Er F] at o;simp only[ve];rw[gM];split at o
  ·rename_i Y;obtain⟨v,g,p,q⟩:=H j c o;refine⟨v,?_,p,q⟩;rw[aV (by simp;omega),dU F];simpa using g
  ·rename_i al;split at o
   ·rename_i Y;obtain⟨v,g,p,q⟩:=Q _ c o;refine⟨v,?_,p,q⟩;have t:min (m.s+k) arr.size=m.s+k:=F;rw[et (by simp;omega)];simp only[cO,rr,t];rw[aV F,<-g];congr 1;omega
   ·rename_i am;obtain⟨v,g,p,q⟩:=H j c o;refine⟨v,?_,p,q⟩;have t:min (m.s+k) arr.size=m.s+k:=F;rw[et (by simp;omega)];simp only[cO,rr,t];rw[et F,gB];have:(m.s+k+vs.length+(m.s+j - (m.s+k) - vs.length))=m.s+j:=F;rw[this];simpa using g
theorem LY (rel:bw R B w h muZ) {t:aC} {p v:U} {I q:aA} {h' : aH} (g:re P h t p v=some h') (ag:az w R h muZ p I) (aj:az w R h muZ v q) :
  ∃ w',(Instr.storeAt t I q).run P w=.ok () w'/\cS w h muZ w' h' muZ/\bw R B w' h' muZ:=by
 unfold re at g;split at g
 ·rename_i b H ay J n V Z;obtain⟨ai,ak⟩:=yi aj V;cases j:h.f b with
  | cells m cs=>
   rw[j] at g;simp only at g;split at g
   ·rename_i W;obtain⟨rfl,av,au⟩:=W;cases g;cases ag with
    | ptr S ao ap T am ar G=>
     have D:=rel.blk b am G;rw[j] at D;have aq:=D.2.1;obtain⟨w',h1,z,C⟩:=sX (P:=P) rel (cvs:=J) (vs:=q.cells.toList) (k:=H) j G F (by simpa using ai) F
      (fun al c X=>by obtain⟨u,K,O,Q⟩:=ak al c X;exact⟨u,by simpa using K,O,Q⟩)
     have Y:max m (H+J.length)=m:=F;rw[Y] at z C;refine⟨w',?_,z,C⟩;have ae:¬ (q.cells.size≠n):=F;simp[Instr.storeAt,Instr.sureAddr,storeVar,eI Z,ae,h1]
    | jb S ao ap a o=>
     rcases o with o | ⟨ax,T,o,aw⟩
     ·rw[o] at j;cases j
     ·rw[o] at j;cases j;omega
   ·cases g
  | _=>rw[j] at g;cases g
 ·cases g
theorem ya (rel:bw R B w h muZ) {cs:ag} {vs:Array aA} (t:aC) (p:vs.size=cs.length)
  (o:∀ (j:Nat) (c:U),cs[j]?=some c->∃ v:aA,vs[j]?=some v/\v.oneCell'=true/\az w R h muZ c v) :
  let h':=h.push (.cells cs.length cs)
  let muZ':=bm muZ h.n (some ⟨w.heap.size,0,vs.size⟩)
  let w':=w.alloc (.cells vs t)
  cS w h muZ w' h' muZ'/\bw R B w' h' muZ'/\∀ g,az w' R h' muZ' (.ptr h.n g cs.length) (.pointer (some ⟨w.heap.size,g,none⟩)):=by intro h' muZ' w';have:=rel.push (w':=w') cs vs t rfl rfl rfl rfl F o;refine⟨this.1,this.2,fun g=>?_⟩;have m:=az.ptr (w:=w') (R:=R) (h:=h') (muZ:=muZ') h.n g cs.length cs ⟨w.heap.size,0,vs.size⟩ (by simp[h',dY]) (by simp[muZ']);simpa using m
theorem Nb {t:aC} {z:ag} (q:gd P t=some z) :∃ i v,P.info? t=some i/\i.zero=some v/\v.cells.size=z.length ∧
  ∀ (j:Nat) (c:U),z[j]?=some c->∃ u:aA,v.cells[j]?=some u/\u.oneCell'=true/\az w R h muZ c u:=by
 obtain⟨i,v,o,p,h1,rfl⟩:=ZF q;refine⟨i,v,o,p,V,fun j c g=>?_⟩;rw[bW] at g;cases m:v.cells[j]? with
 | none=>simp[m] at g
 | some u=>
  simp[m] at g;subst g;rw[gg] at h1;exact⟨u,rfl,h1 u (by have:=xJ m;simpa using this),az.l4 u⟩
theorem GD {x:U} {o:aA} {k:Nat} {c:U} (g:k5 x k=some c) (B:az w R h muZ x o) :
  ∃ a,o=.pointer (some a)/\az w R h muZ c (.pointer (some (a.add k))):=by
 cases B with
 | ptr b j m cs C q v=>
  simp only[k5,bd] at g;subst g;refine⟨_,rfl,?_⟩;rw[Addr.jP,iW];exact .ptr b _ m cs C q v
 | jb b j m a u=>
  simp only[k5,bd] at g;subst g;exact⟨a,rfl,.jb _ _ _ _ u⟩
 | b0 cs j p D F t z=>
  simp only[k5,bd] at g;subst g;refine⟨_,rfl,?_⟩;rw[Addr.jP,iW];exact .b0 cs _ p D F t z
 | _=>simp[k5] at g
theorem Hu {s:aC} {f:Nat} {fd:Field} (g:r1 P s f=some fd) :∃ fs,P.underlying s=some (.struct fs)/\fs[f]?=some fd:=by
 unfold r1 at g;split at g
 ·rename_i fs h;exact⟨fs,h,g⟩
 ·cases g
theorem QY {s:aC} {x c:U} {j:aA} {f:Nat} (g:yA P s x f=some c) (u:az w R h muZ x j) :
  ∃ v,(Instr.fieldAt s j f).run P w=.ok v w/\az w R h muZ c v:=by
 unfold yA at g;split at g
 ·rename_i z m;obtain⟨B,q,o⟩:=Hu m;split at g
  ·rename_i n p;obtain⟨a,rfl,t⟩:=GD g u;refine⟨_,?_,t⟩;simp[Instr.fieldAt,b8 q,o,Instr.sureAddr,fieldPlace,eI p]
  ·cases g
 ·cases g
theorem oa {x:U} {j:aA} {n:Int} (g:asInt x=some n) (m:az w R h muZ x j) :∃ k,j=.int k n:=by cases m<;>simp[asInt] at g;subst g;exact⟨_,rfl⟩
theorem R1 {t:aC} {x O c:U} {S K:aA} (g:wh P t x O=some c) (C:az w R h muZ x S) (H:az w R h muZ O K) :
  ∃ v,(Instr.indexAt t S K).run P w=.ok v w/\az w R h muZ c v:=by
 unfold wh at g;split at g
 ·rename_i len e i p u;obtain⟨k,rfl⟩:=oa u H;cases m:b5 P e with
  | none=>rw[m] at g;cases g
  | some z=>
   rw[m] at g;simp only at g;split at g
   ·rename_i j;obtain⟨a,rfl,B⟩:=GD g C;refine⟨_,?_,B⟩;simp[Instr.indexAt,asIntOf,b8 p,Instr.sureAddr,j,eI m]
   ·cases g
 ·rename_i e i p u;obtain⟨k,rfl⟩:=oa u H;split at g
  ·rename_i z am b D len cap Q m;split at g
   ·rename_i j;obtain⟨rfl,j⟩:=j;cases g;cases C with
    | ad _ _ _ _ _ _ V cs ak W ag I aq X=>
     refine⟨_,?_,az.ptr b (D+i.toNat*z) Q cs ak W ag⟩;simp[Instr.indexAt,asIntOf,b8 p,j,eI m,Addr.jP,iW]
    | gw=>simp at j;omega
    | fk _ _ _ _ _ _ V a I X Z=>
     refine⟨_,?_,az.jb b _ Q (a.add (i.toNat*z)) Z⟩;simp[Instr.indexAt,asIntOf,b8 p,j,eI m]
   ·cases g
  ·rename_i z am q m;split at g
   ·rename_i j;obtain⟨rfl,j⟩:=j;cases o:q[i.toNat]? with
    | none=>rw[o] at g;cases g
    | some G=>
     rw[o] at g;simp only[cz,bd] at g;subst g;have J:i.toNat<q.length:=(aK.1 o).1;have ae:(0<=i/\i<(q.length:Int)):=F;cases C with
     | bn _ _ T D cap al I ai Y B=>
      have ao:G.length=z:=ai _ (cE o);refine⟨_,?_,az.b0 G 0 T (D+i.toNat*z) (al i.toNat) (fun aj ap=>?_) (B _ _ o)⟩
      ·simp[Instr.indexAt,asIntOf,b8 p,ae,eI m,Addr.jP]
      ·have:=Y i.toNat aj J F
       rwa [iW]
     | eN=>simp at J
   ·cases g
  ·cases g
 ·cases g
end
section
variable {P:bj} {w:aQ} {R:Nat->Prop} {B:Nat} {h:aH} {muZ:bZ}
theorem hO {alZ:Type} {z:Nat}:∀ {es:List (List alZ)},(∀ e,e∈es->e.length=z)->es.flatten.length=es.length*z
 | [],_=>V
 | e::es,g=>by
  rw[g6,cr,g e V,hO (fun e h=>g e (by simp[h])),dE,eu,rB]
theorem HJ {alZ:Type} {z:Nat}:∀ {es:List (List alZ)} {j:Nat} {c:alZ},(∀ e,e∈es->e.length=z)->es.flatten[j]?=some c->
  ∃ i k e,j=i*z+k/\k<z/\es[i]?=some e/\e[k]?=some c
 | [],_,_,_,g=>by simp at g
 | e::es,j,c,m,g=>by
  have h:=m e V;rw[g6] at g;by_cases u:j<e.length
  ·rw[aV u] at g;exact⟨0,j,e,V,F,rfl,g⟩
  ·rw[et F] at g;obtain⟨i,k,o,h1,p,q,t⟩:=HJ (fun e h=>m e (by simp[h])) g;exact⟨i+1,k,o,by rw[eu];omega,p,by simpa using q,t⟩
def o7 (w:aQ) (R:Nat->Prop) (h:aH) (muZ:bZ) (xs:ag) (vs:List aA) :Prop:=
 vs.length=xs.length/\∀ (j:Nat) (c:U),xs[j]?=some c->∃ g:aA,vs[j]?=some g/\g.oneCell'=true/\az w R h muZ c g
theorem Ec {w2:aQ} {xs:ag} {blk o:Nat} (H:∀ a,w2.cell? a=w.cell? a)
  (G:∀ (j:Nat) (c:U),xs[j]?=some c->∃ v:aA,w.cell? ⟨blk,o+j,none⟩=some v/\v.oneCell'=true/\az w R h muZ c v) :
  ∃ vs:List aA,o7 w R h muZ xs vs/\∀ k,k<=xs.length->∀ w2:aQ,(∀ a,w2.cell? a=w.cell? a)->(loadCells ⟨blk,o,none⟩ k).run P w2=.ok (vs.take k).toArray w2:=by
 have D:∃ f:Nat->aA,∀ (j:Nat) (c:U),xs[j]?=some c->w.cell? ⟨blk,o+j,none⟩=some (f j)/\(f j).oneCell'=true/\az w R h muZ c (f j):=by
  refine⟨fun j=>(w.cell? ⟨blk,o+j,none⟩).getD undef,fun j c g=>?_⟩;obtain⟨v,h1,q,t⟩:=G j c g;simp only[h1,g8];exact⟨trivial,q,t⟩
 obtain⟨f,m⟩:=D;refine⟨(List.range xs.length).map f,⟨V,fun j c g=>?_⟩,fun k hk w2 u=>?_⟩
 ·have C:j<xs.length:=(aK.1 g).1;exact⟨f j,by simp[C],(m j c g).2⟩
 ·have:=run_loadCells_list (P:=P) w2 ⟨blk,o,none⟩ (((List.range xs.length).map f).take k) (fun j v g=>by
   have z:j<k:=by
    rcases fN j k with h1 | h1
    ·exact h1
    ·rw[ea (by simp;omega)] at g;cases g
   rw[dU z,bW] at g;have p:j<xs.length:=F;rw[hp p] at g;simp only[cz,bd] at g;rw[Addr.jP,<-g,u];exact (m j _ (bI p)).1)
  have B:(((List.range xs.length).map f).take k).length=k:=by simp;omega
  rw[B] at this;exact this
theorem qF (rel:bw R B w h muZ) {z n:Nat} {x:U} {O:aA} {xs:ag} (g:contents h z x=some (xs,n)) (K:az w R h muZ x O) :
  xs.length=n*z/\(Builtin.lenOf O).run P w=.ok n w/\∃ vs:List aA,o7 w R h muZ xs vs ∧
   ∀ k,k<=n->∀ w2:aQ,(∀ a,w2.cell? a=w.cell? a)->(Builtin.firstCells z k O).run P w2=.ok (vs.take (k*z)).toArray w2:=by
 cases K with
 | af=>
  simp only[contents,bd,Prod.mk.injEq] at g;obtain⟨rfl,rfl⟩:=g;exact⟨V,by simp[Builtin.lenOf],[],⟨rfl,fun m c j=>by simp at j⟩,fun k _ w2 _=>by simp[Builtin.firstCells]⟩
 | str q=>
  simp only[contents] at g;split at g
  ·rename_i D;subst D;simp only[bd,Prod.mk.injEq] at g;obtain⟨rfl,rfl⟩:=g;refine⟨V,by simp[Builtin.lenOf],q.data.toList.map fun b=>.int .u8 b.toNat,⟨V,fun m c j=>?_⟩,fun k hk w2 _=>?_⟩
   ·rw[bW] at j ⊢;cases o:q.data.toList[m]? with
    | none=>rw[o] at j;cases j
    | some b=>
     rw[o] at j;simp only[cz,bd] at j;subst j;exact⟨_,rfl,rfl,.int _ _⟩
   ·have K:(q.extract 0 k).data.toList=q.data.toList.take k:=by
     simp[ByteArray.extract,ByteArray.copySlice]
    have aw:(q.extract 0 k).data=(q.data.toList.take k).toArray:=by rw[<-K]
    simp only[Builtin.firstCells,aw];simp
  ·cases g
 | bn G Q al p cap aB I D aq av=>
  simp only[contents] at g;split at g
  ·rename_i C;subst C;simp only[bd,Prod.mk.injEq] at g;obtain⟨rfl,rfl⟩:=g;have t:=hO D;have J:∀ (m:Nat) (c:U),Q.flatten[m]?=some c->∃ v:aA,w.cell? ⟨al,p+m,none⟩=some v/\v.oneCell'=true/\az w R h muZ c v:=by
    intro m c j;obtain⟨i,k,e,rfl,hk,X,ar⟩:=HJ D j;have au:i<Q.length:=(aK.1 X).1;have W:=aq i k au hk;exact⟨aB i k,W.here,W.one,av i e X k c ar⟩
   obtain⟨vs,h1,S⟩:=Ec (P:=P) (w2:=w) (fun _=>rfl) J;refine⟨t,by simp[Builtin.lenOf],vs,h1,fun k hk w2 H=>?_⟩;have:=S (k*z) (by rw[t];exact cn _ hk) w2 H;simp[Builtin.firstCells,this]
  ·cases g
 | eN G a cap=>
  simp only[contents] at g;split at g
  ·simp only[bd,Prod.mk.injEq] at g;obtain⟨rfl,rfl⟩:=g;exact⟨V,by simp[Builtin.lenOf],[],⟨rfl,fun m c j=>by simp at j⟩,fun k hk w2 _=>by
    obtain rfl:k=0:=by simpa using hk
    simp[Builtin.firstCells,loadCells,loadCellsFrom]⟩
  ·cases g
 | ad G b p len cap ae am cs F o Z I aL aG=>
  simp only[contents,o,true_and] at g;split at g
  ·rename_i C;subst C;simp only[bd,Prod.mk.injEq] at g;obtain⟨rfl,rfl⟩:=g;have T:=rel.blk b F Z;rw[o] at T;obtain⟨h1,S,arr,aN,aD,ao,aE,aF,ap⟩:=T;have aJ:len*z<=cap*z:=cn _ I;have t:((cs.drop p).take (len*z)).length=len*z:=by
    rw[cO,iT];omega
   have J:∀ (m:Nat) (c:U),((cs.drop p).take (len*z))[m]?=some c->∃ v:aA,w.cell? ⟨F.r,(F.s+p)+m,none⟩=some v/\v.oneCell'=true/\az w R h muZ c v:=by
    intro m c j;have Y:m<len*z:=by
     have:=(aK.1 j).1;rw[t] at this;exact this
    rw[dU Y,gB] at j;obtain⟨v,ai,aj,ak⟩:=ap _ c j;exact⟨v,by simp[World.cell?,ao,iW,ai],aj,ak⟩
   obtain⟨vs,ax,ay⟩:=Ec (P:=P) (w2:=w) (fun _=>rfl) J;refine⟨t,by simp[Builtin.lenOf],vs,ax,fun k hk w2 H=>?_⟩;have:=ay (k*z) (by rw[t];exact cn _ hk) w2 H;simp[Builtin.firstCells,this]
  ·cases g
 | gw G b p ae a cs F o Z=>
  simp only[contents,o,true_and] at g;split at g
  ·rename_i C;subst C;simp only[bd,Prod.mk.injEq,tl,nb] at g;obtain⟨rfl,rfl⟩:=g;exact⟨V,by simp[Builtin.lenOf],[],⟨rfl,fun m c j=>by simp at j⟩,fun k hk w2 _=>by
    obtain rfl:k=0:=by simpa using hk
    simp[Builtin.firstCells,loadCells,loadCellsFrom]⟩
  ·cases g
 | fk G b p len cap ae am a I aH u=>
  unfold contents at g;rcases u with u | ⟨aM,aC,u,Y⟩
  ·simp[u] at g
  ·simp only[u] at g;split at g
   ·omega
   ·cases g
 | _=>simp[contents] at g
theorem vX {t e:aC} (g:gm P t=some e) :P.underlying t=some (.slice e):=by
 unfold gm at g;split at g
 ·rename_i j h;cases g;exact h
 ·cases g
def uu (P:bj) (u:aC) :Prop:=∃ d,P.underlying u=some d/\∀ k,d≠.int k
theorem Io (d:TypeDesc) (hk:∀ k,d≠.int k) :(match d with | .int _=>true | _=>false)=false:=by
 cases d with
 | int k=>exact bP rfl (hk k)
 | _=>rfl
theorem run_append_fits {t u ty e:aC} {z n sLen h:Nat} {base:Option Addr} {j:aA} {vs:List aA} {w' : aQ} (o:P.underlying t=some (.slice e)) (B:b5 P e=some z) (C:uu P u)
  (v:(Builtin.lenOf j).run P w=.ok n w) (p:(Builtin.firstCells z n j).run P w=.ok vs.toArray w) (q:sLen+n<=h)
  (g:match base with | some a=>(storeCells (a.add (sLen*z)) vs).run P w=.ok () w' | none=>w'=w) :
  (Builtin.append_ #[t,u] ty #[.slice base sLen h,j]).run P w=.ok (.slice base (sLen+n) h) w':=by
 obtain⟨d,m,hk⟩:=C;have D:=Io d hk;cases base with
 | none=>
  subst g;simp[Builtin.append_,b8 o,eI B,b8 m,v,q,p]
 | some a=>
  simp only at g;simp[Builtin.append_,b8 o,eI B,b8 m,v,q,p,g]
theorem WV {t u ty e:aC} {i:TypeInfo} {zv:aA} {n sLen g:Nat} {base:Option Addr} {j:aA} {h vs:List aA} (v:P.underlying t=some (.slice e)) (m:P.info? e=some i) (K:i.zero=some zv) (I:uu P u)
  (C:(Builtin.lenOf j).run P w=.ok n w) (z:(Builtin.firstCells i.size n j).run P w.drew=.ok vs.toArray w.drew) (G:(Builtin.firstCells i.size sLen (.slice base sLen g)).run P w.drew=.ok h.toArray w.drew)
  (B:g<sLen+n) (H:(sLen+n)*i.bytes<=dk) (O:0<i.bytes) :
  (Builtin.append_ #[t,u] ty #[.slice base sLen g,j]).run P w =
   .ok (.slice (some ⟨w.heap.size,0,none⟩) (sLen+n) (grownCap w (sLen+n) g e)) (w.drew.alloc (.cells ((h++vs).toArray++Builtin.zeroCells zv.cells (grownCap w (sLen+n) g e - (sLen+n))) e)):=by
 obtain⟨d,q,hk⟩:=I;have Q:=Io d hk;have J:b5 P e=some i.size:=by simp[b5,m]
 have D:¬ (sLen+n<=g):=F;have o:¬ (281474976710656<Builtin.nextslicecap (sLen+n) g*i.bytes):=by
  have:=growslice_fits B H;omega
 have p:¬ (i.bytes=0):=F;simp[Builtin.append_,b8 v,eI J,b8 q,C,D,typeInfo,m,o,p,Question.forced,G,z,zeroValue,K,newRow,grownCap];rw[<-AC,List.append_toArray h vs]
theorem Xx {s:U} {j9:aA} (j:az w R h muZ s j9) (hk:s=.af\/(∃ z es,s=.bn z es)\/∃ z b off len cap sz,s=.ad z b off len cap sz) :
  ∃ base sLen Ln,j9=.slice base sLen Ln/\sLen<=Ln:=by
 cases j<;>simp at hk
 ·exact⟨_,_,_,rfl,aI _⟩
 ·rename_i g t o;exact⟨_,_,_,rfl,F⟩
 ·rename_i g p q;exact⟨_,_,_,rfl,F⟩
 ·exact⟨_,_,_,rfl,aI _⟩
 ·rename_i g v m u;exact⟨_,_,_,rfl,F⟩
 ·exact⟨_,_,_,rfl,ek _⟩
theorem M9 {e:aC} {z:Nat} (g:mh P e=some z) :∃ i v,P.info? e=some i/\i.zero=some v/\v.cells.size=z:=by
 unfold mh at g;cases j:P.info? e with
 | none=>rw[j] at g;cases g
 | some i=>
  rw[j] at g;simp only[qg] at g;cases h:i.zero with
  | none=>rw[h] at g;cases g
  | some v=>rw[h] at g;exact⟨i,v,rfl,h,by simpa using g⟩
theorem wa {e:aC} {zv:aA} {z need cap:Nat} {xs:ag} {vs:List aA} (u:zv.cells.size=z) (q:xs.length=need*z) (m:o7 w R h muZ xs vs) (B:need<=cap) :
  (vs.toArray++Builtin.zeroCells zv.cells (cap - need)).size=cap*z ∧
  ∀ (j:Nat) (c:U),xs[j]?=some c->∃ v:aA,(vs.toArray++Builtin.zeroCells zv.cells (cap - need))[j]?=some v/\v.oneCell'=true/\az w R h muZ c v:=by
 refine⟨?_,fun j c p=>?_⟩
 ·have h1:(Builtin.zeroCells zv.cells (cap - need)).size=(cap - need)*z:=by simp[Builtin.zeroCells,u]
  have g:need*z+(cap - need)*z=cap*z:=by rw[<-eV];congr 1;omega
  rw[E3,h1,xV,m.1,q,g]
 ·obtain⟨v,h1,g,o⟩:=m.2 j c p;have t:j<vs.length:=(aK.1 h1).1;refine⟨v,?_,g,o⟩;rw[oX (by simpa using t)];simpa using h1
theorem F5 (rel:bw R B w h muZ) {t u ty e:aC} {z by_ n:Nat} {s c:U} {j9 aX:aA} {h' : aH} {xs:ag} {vs:List aA} (bk:b5 P e=some z) (a8:gO P e=some by_)
  (g:qt P h e z by_ s xs n=some (c,h')) (aS:az w R h muZ s j9) (S:xs.length=n*z) (O:o7 w R h muZ xs vs)
  (aN:∀ (base:Option Addr) (sLen X:Nat) (w' : aQ),sLen+n<=X->(match base with | some a=>(storeCells (a.add (sLen*z)) vs).run P w=.ok () w' | none=>w'=w)->
   (Builtin.append_ #[t,u] ty #[.slice base sLen X,aX]).run P w=.ok (.slice base (sLen+n) X) w')
  (ay:∀ (i:TypeInfo) (zv:aA),P.info? e=some i->i.zero=some zv->∀ (base:Option Addr) (sLen X:Nat) (p:List aA),(Builtin.firstCells i.size sLen (.slice base sLen X)).run P w.drew=.ok p.toArray w.drew->
   X<sLen+n->(sLen+n)*i.bytes<=dk->0<i.bytes->(Builtin.append_ #[t,u] ty #[.slice base sLen X,aX]).run P w =
   .ok (.slice (some ⟨w.heap.size,0,none⟩) (sLen+n) (grownCap w (sLen+n) X e)) (w.drew.alloc (.cells ((p++vs).toArray++Builtin.zeroCells zv.cells (grownCap w (sLen+n) X e - (sLen+n))) e))) :
  ∃ v w' muZ',(Builtin.append_ #[t,u] ty #[j9,aX]).run P w=.ok v w'/\cS w h muZ w' h' muZ'/\bw R B w' h' muZ'/\az w' R h' muZ' c v:=by
 unfold qt at g;by_cases a4:n=0
 ·-- nothing is appended
  subst a4;simp only[if_true] at g;have a2:(c,h')=(s,h):=by
   split at g<;>first | (simp only[bd] at g;exact g.symm) | cases g
  have hk:s=.af\/(∃ z a6,s=.bn z a6)\/∃ z b j len cap sz,s=.ad z b j len cap sz:=by
   split at g
   ·exact .inl rfl
   ·exact .inr (.inl ⟨_,_,rfl⟩)
   ·exact .inr (.inr ⟨_,_,_,_,_,_,rfl⟩)
   ·cases g
  simp only[Prod.mk.injEq] at a2;obtain⟨rfl,rfl⟩:=a2;obtain⟨base,sLen,X,rfl,bx⟩:=Xx aS hk;have bj:vs=[]:=by
   have:vs.length=0:=by rw[O.1,S];simp
   exact ic.1 this
  subst bj;have:=aN base sLen X w F (by cases base<;>simp[storeCells]);exact⟨_,w,muZ,this,.refl _ _ _,rel,by simpa using aS⟩
 ·rw[ak a4] at g;split at g
  ·cases g
  ·rename_i a0;simp only[not_or,Decidable.not_not] at a0;obtain⟨bl,br,bo⟩:=a0;obtain⟨i,zv,ap,aM,aK⟩:=M9 bo;have aU:i.size=z:=by simpa [b5,ap] using bk
   have av:i.bytes=by_:=by simpa [gO,ap] using a8
   have bp:0<z:=Nat.pos_of_ne_zero bl;have aT:∀ a,w.drew.cell? a=w.cell? a:=fun _=>rfl
   split at g
   ·-- append to nil
    split at g
    ·rename_i aq;simp only[bd,Prod.mk.injEq] at g;obtain⟨rfl,rfl⟩:=g;cases aS;have H:=ay i zv ap aM none 0 0 [] (by simp[Builtin.firstCells]) F (by rw[av];simpa using aq) F;have C:n<=grownCap w (0+n) 0 e:=by have:=grownCap_ge w (0+n) 0 e;omega
     obtain⟨I,W⟩:=wa (e:=e) (zv:=zv) (need:=n) (cap:=grownCap w (0+n) 0 e) aK (by rw[S]) O C;have q:=rel.push (w':=w.drew.alloc (.cells (vs.toArray++Builtin.zeroCells zv.cells (grownCap w (0+n) 0 e - n)) e)) xs _ e rfl rfl rfl rfl (by rw[I,S];exact cn _ C) W;rw[S] at q;refine⟨_,_,_,by simpa using H,by simpa using q.1,by simpa using q.2,?_⟩;have:=az.ad (w:=w.drew.alloc (.cells (vs.toArray++Builtin.zeroCells zv.cells (grownCap w (0+n) 0 e - n)) e)) (R:=R) (h:=h.push (.cells (n*z) xs)) (muZ:=bm muZ h.n (some ⟨w.heap.size,0,(vs.toArray++Builtin.zeroCells zv.cells (grownCap w (0+n) 0 e - n)).size⟩))
      z h.n 0 n n (n*z) (grownCap w (0+n) 0 e) xs ⟨w.heap.size,0,(vs.toArray++Builtin.zeroCells zv.cells (grownCap w (0+n) 0 e - n)).size⟩ (by simp[dY]) V (aI _) F (.inr ⟨F,C,by simp only;rw[I];omega⟩)
     simpa using this
    ·cases g
   ·rename_i bD b j len cap sz;cases D:h.f b with
    | cells m cs=>
     rw[D] at g;simp only at g;split at g
     ·rename_i bb;obtain⟨rfl,rfl,aq⟩:=bb;cases aS with
      | fk _ _ _ _ _ _ cap' a aB bt H=>
       exfalso;rcases H with H | ⟨bC,aY,H,al⟩
       ·rw[H] at D;cases D
       ·rw[H] at D;cases D;omega
      | gw _ _ _ _ a aY o ar K=>
       rw[D] at ar;cases ar;have a7:=rel.kr K;rw[ak F,tl,nb,nb,iD,hr] at g;have H:=ay i zv ap aM (some a) 0 0 [] (by simp[Builtin.firstCells,loadCells,loadCellsFrom]) F (by rw[av];exact aq) F;rw[hr] at H;have C:n<=grownCap w n 0 e:=grownCap_ge _ _ _ _;obtain⟨I,W⟩:=wa (e:=e) (zv:=zv) (need:=n) (cap:=grownCap w n 0 e) aK (by rw[S]) O C;split at g
       ·simp only[bd,Prod.mk.injEq] at g;obtain⟨rfl,rfl⟩:=g;have q:=rel.push (w':=w.drew.alloc (.cells (vs.toArray++Builtin.zeroCells zv.cells (grownCap w n 0 e - n)) e)) xs _ e rfl rfl rfl rfl (by rw[I,S];exact cn _ C) W;rw[S] at q;refine⟨_,_,_,by simpa using H,by simpa using q.1,by simpa using q.2,?_⟩;have:=az.ad (w:=w.drew.alloc (.cells (vs.toArray++Builtin.zeroCells zv.cells (grownCap w n 0 e - n)) e)) (R:=R) (h:=h.push (.cells (n*z) xs)) (muZ:=bm muZ h.n (some ⟨w.heap.size,0,(vs.toArray++Builtin.zeroCells zv.cells (grownCap w n 0 e - n)).size⟩))
         z h.n 0 n n (n*z) (grownCap w n 0 e) xs ⟨w.heap.size,0,(vs.toArray++Builtin.zeroCells zv.cells (grownCap w n 0 e - n)).size⟩ (by simp[dY]) V (aI _) F (.inr ⟨F,C,by simp only;rw[I];omega⟩)
        simpa using this
       ·rename_i bg;split at g
        ·rename_i aR;subst aR;simp only[bd,Prod.mk.injEq] at g;obtain⟨rfl,rfl⟩:=g;have aO:m<n*z:=by
          have:1*1<=n*z:=Nat.mul_le_mul F bp;omega
         have q:=rel.move (w':=w.drew.alloc (.cells (vs.toArray++Builtin.zeroCells zv.cells (grownCap w n 0 e - n)) e)) D K rfl rfl rfl rfl S aO (by rw[I];exact cn _ C) W;refine⟨_,_,_,by simpa using H,by simpa using q.1,by simpa using q.2,?_⟩;have:=az.ad (w:=w.drew.alloc (.cells (vs.toArray++Builtin.zeroCells zv.cells (grownCap w n 0 e - n)) e)) (R:=R) (h:=h.set b (.cells (n*z) xs)) (muZ:=bm muZ b (some ⟨w.heap.size,0,(vs.toArray++Builtin.zeroCells zv.cells (grownCap w n 0 e - n)).size⟩))
          z b 0 n n (n*z) (grownCap w n 0 e) xs ⟨w.heap.size,0,(vs.toArray++Builtin.zeroCells zv.cells (grownCap w n 0 e - n)).size⟩ (by simp[dq]) V (aI _) F (.inr ⟨F,C,by simp only;rw[I];omega⟩)
         simpa using this
        ·simp only[bd,Prod.mk.injEq] at g;obtain⟨rfl,rfl⟩:=g;have q:=rel.push (w':=w.drew.alloc (.cells (vs.toArray++Builtin.zeroCells zv.cells (grownCap w n 0 e - n)) e)) xs _ e rfl rfl rfl rfl (by rw[I,S];exact cn _ C) W;rw[S] at q;have hk:=q.2.kill (b:=b) (sz:=m) (cs:=cs) (h':=(h.set b .dead).push (.cells (n*z) xs)) (by rw[dY,bK _ _ _ _ F];exact D) (by rw[jc];omega) (by
          rw[dY,dY,dq,hX];funext x;simp only[bm];by_cases h1:x=h.n
          ·rw[aj h1,ak F,aj h1]
          ·rw[ak h1];split<;>rfl) rfl
         refine⟨_,_,_,by simpa using H,by simpa using q.1.trans hk.1,by simpa using hk.2,?_⟩;have:=az.ad (w:=w.drew.alloc (.cells (vs.toArray++Builtin.zeroCells zv.cells (grownCap w n 0 e - n)) e)) (R:=R) (h:=(h.set b .dead).push (.cells (n*z) xs)) (muZ:=bm muZ h.n (some ⟨w.heap.size,0,(vs.toArray++Builtin.zeroCells zv.cells (grownCap w n 0 e - n)).size⟩))
          z h.n 0 n n (n*z) (grownCap w n 0 e) xs ⟨w.heap.size,0,(vs.toArray++Builtin.zeroCells zv.cells (grownCap w n 0 e - n)).size⟩ (by rw[dY,hX,fS]) V (aI _) F (.inr ⟨F,C,by simp only;rw[I];omega⟩)
         simpa using this
      | ad _ _ _ _ _ _ cap' aY o ar K aB aP J=>
       have aZ:=rel.blk b o K;rw[D] at aZ;obtain⟨bu,bq,_⟩:=aZ;rw[D] at ar;cases ar;have bz:len*z<=cap*z:=cn _ aB;have bs:cap<=cap':=by rcases J with J | J<;>omega
       split at g
       ·-- in place,within what the machine knows
        rename_i Z;simp only[bd,Prod.mk.injEq] at g;obtain⟨rfl,rfl⟩:=g;have bA:len*z+n*z<=cap*z:=by rw[<-eV];exact cn _ Z
        have aD:max m (j+len*z+xs.length)=m:=F;obtain⟨w',h1,ae,ai⟩:=sX (P:=P) rel (cvs:=xs) (vs:=vs) (k:=j+len*z) D K F O.1 F O.2;rw[aD] at ae ai;have aG:(storeCells ((⟨o.r,o.s+j,none⟩:Addr).add (len*z)) vs).run P w=.ok () w':=by rw[Addr.jP,iW];exact h1
        refine⟨_,w',muZ,aN (some ⟨o.r,o.s+j,none⟩) _ _ _ F aG,ae,ai,?_⟩;exact .ad z b j (len+n) cap m cap' _ o (by simp[dq];rfl) K Z aP J
       ·rename_i bB;split at g
        ·-- beyond a slice whose end lies within the row: it moves
         rename_i bv;simp only[bd,Prod.mk.injEq] at g;obtain⟨rfl,rfl⟩:=g;have a9:cap'=cap:=by rcases J with J | J<;>omega
         subst a9;have aw:contents h z (.ad z b j len cap' m)=some ((cs.drop j).take (len*z),len):=by simp[contents,D]
         obtain⟨am,_,p,G,aF⟩:=qF (P:=P) rel aw (az.ad z b j len cap' m cap' cs o D K aB aP J);have aE:∀ w2:aQ,(∀ a,w2.cell? a=w.cell? a)->(Builtin.firstCells z len (.slice (some ⟨o.r,o.s+j,none⟩) len cap')).run P w2=.ok p.toArray w2:=fun w2 aJ=>by
          have:=aF len (aI _) w2 aJ
          rwa [aL (by rw[G.1,am];exact aI _)] at this
         have H:=ay i zv ap aM (some ⟨o.r,o.s+j,none⟩) len cap' p (by rw[aU];exact aE w.drew aT) F (by rw[av];exact aq) F;have C:len+n<=grownCap w (len+n) cap' e:=grownCap_ge _ _ _ _;have au:o7 w R h muZ ((cs.drop j).take (len*z)++xs) (p++vs):=by
          refine⟨by simp[G.1,O.1],fun ao c Q=>?_⟩;by_cases al:ao<((cs.drop j).take (len*z)).length
          ·rw[aV al] at Q;rw[aV (by rw[G.1];exact al)];exact G.2 ao c Q
          ·rw[et F] at Q;rw[et (by rw[G.1];omega),G.1];exact O.2 _ c Q
         have Y:((cs.drop j).take (len*z)++xs).length=(len+n)*z:=by rw[cr,am,S,eV]
         obtain⟨I,W⟩:=wa (e:=e) (zv:=zv) (need:=len+n) (cap:=grownCap w (len+n) cap' e) aK Y au C;have q:=rel.push (w':=w.drew.alloc (.cells ((p++vs).toArray++Builtin.zeroCells zv.cells (grownCap w (len+n) cap' e - (len+n))) e)) _ _ e rfl rfl rfl rfl (by rw[I,Y];exact cn _ C) W;rw[Y] at q;refine⟨_,_,_,H,q.1,q.2,?_⟩;have:=az.ad (w:=w.drew.alloc (.cells ((p++vs).toArray++Builtin.zeroCells zv.cells (grownCap w (len+n) cap' e - (len+n))) e)) (R:=R) (h:=h.push (.cells ((len+n)*z) ((cs.drop j).take (len*z)++xs))) (muZ:=bm muZ h.n (some ⟨w.heap.size,0,((p++vs).toArray++Builtin.zeroCells zv.cells (grownCap w (len+n) cap' e - (len+n))).size⟩))
          z h.n 0 (len+n) (len+n) ((len+n)*z) (grownCap w (len+n) cap' e) _ ⟨w.heap.size,0,((p++vs).toArray++Builtin.zeroCells zv.cells (grownCap w (len+n) cap' e - (len+n))).size⟩ (by simp[dY];rfl) V (aI _) F (.inr ⟨F,C,by simp only;rw[I];omega⟩)
         simpa using this
        ·rename_i bg;split at g
         ·-- beyond the row's end: in place,or it moves
          rename_i aR;subst aR;simp only[bd,Prod.mk.injEq] at g;obtain⟨rfl,rfl⟩:=g;obtain⟨bc,bf,a3⟩:0+cap*z=m/\cap<=cap'/\o.s+0+cap'*z<=o.T:=by rcases J with J | J<;>omega
          have aO:m<(len+n)*z:=by
           have:(cap+1)*z<=(len+n)*z:=cn _ F;rw[eV] at this;omega
          have bi:len*z+n*z=(len+n)*z:=by rw[eV]
          by_cases Z:len+n<=cap'
          ·have bh:(len+n)*z<=cap'*z:=cn _ Z;have aD:max m (len*z+xs.length)=(len+n)*z:=F;obtain⟨w',h1,ae,ai⟩:=sX (P:=P) rel (cvs:=xs) (vs:=vs) (k:=len*z) D K F O.1 F O.2;rw[aD] at ae ai;have aW:ax cs (len*z) xs=cs.take (len*z)++xs:=by
            unfold ax;rw[kh F,eT]
           rw[aW] at ae ai;have aG:(storeCells ((⟨o.r,o.s+0,none⟩:Addr).add (len*z)) vs).run P w=.ok () w':=by rw[Addr.jP,iW];simpa using h1
           refine⟨_,w',muZ,aN (some ⟨o.r,o.s+0,none⟩) _ _ _ Z aG,ae,ai,?_⟩;exact .ad z b 0 (len+n) (len+n) ((len+n)*z) cap' _ o (by simp[dq];rfl) K (aI _) F (.inr ⟨F,Z,a3⟩)
          ·have aw:contents h z (.ad z b 0 len cap m)=some ((cs.drop 0).take (len*z),len):=by simp[contents,D]
           obtain⟨am,_,p,G,aF⟩:=qF (P:=P) rel aw (az.ad z b 0 len cap m cap' cs o D K aB aP J);have aE:∀ w2:aQ,(∀ a,w2.cell? a=w.cell? a)->(Builtin.firstCells z len (.slice (some ⟨o.r,o.s+0,none⟩) len cap')).run P w2=.ok p.toArray w2:=fun w2 aJ=>by
            have:=aF len (aI _) w2 aJ
            rwa [aL (by rw[G.1,am];exact aI _)] at this
           rw[lE] at am G;have H:=ay i zv ap aM (some ⟨o.r,o.s+0,none⟩) len cap' p (by rw[aU];exact aE w.drew aT) F (by rw[av];exact aq) F;have C:len+n<=grownCap w (len+n) cap' e:=grownCap_ge _ _ _ _;have au:o7 w R h muZ (cs.take (len*z)++xs) (p++vs):=by
            refine⟨by simp[G.1,O.1],fun ao c Q=>?_⟩;by_cases al:ao<(cs.take (len*z)).length
            ·rw[aV al] at Q;rw[aV (by rw[G.1];exact al)];exact G.2 ao c Q
            ·rw[et F] at Q;rw[et (by rw[G.1];omega),G.1];exact O.2 _ c Q
           have Y:(cs.take (len*z)++xs).length=(len+n)*z:=by rw[cr,am,S,eV]
           obtain⟨I,W⟩:=wa (e:=e) (zv:=zv) (need:=len+n) (cap:=grownCap w (len+n) cap' e) aK Y au C;have q:=rel.move (w':=w.drew.alloc (.cells ((p++vs).toArray++Builtin.zeroCells zv.cells (grownCap w (len+n) cap' e - (len+n))) e)) D K rfl rfl rfl rfl Y aO (by rw[I];exact cn _ C) W;refine⟨_,_,_,H,q.1,q.2,?_⟩;have:=az.ad (w:=w.drew.alloc (.cells ((p++vs).toArray++Builtin.zeroCells zv.cells (grownCap w (len+n) cap' e - (len+n))) e)) (R:=R) (h:=h.set b (.cells ((len+n)*z) (cs.take (len*z)++xs))) (muZ:=bm muZ b (some ⟨w.heap.size,0,((p++vs).toArray++Builtin.zeroCells zv.cells (grownCap w (len+n) cap' e - (len+n))).size⟩))
            z b 0 (len+n) (len+n) ((len+n)*z) (grownCap w (len+n) cap' e) _ ⟨w.heap.size,0,((p++vs).toArray++Builtin.zeroCells zv.cells (grownCap w (len+n) cap' e - (len+n))).size⟩ (by simp[dq];rfl) V (aI _) F (.inr ⟨F,C,by simp only;rw[I];omega⟩)
           simpa using this
         ·-- beyond the row's end,from a place within it: a block of its own,in place or moved
          rename_i aR;simp only[bd,Prod.mk.injEq] at g;obtain⟨rfl,rfl⟩:=g;obtain⟨bc,bf,a3⟩:j+cap*z=m/\cap<=cap'/\o.s+j+cap'*z<=o.T:=by rcases J with J | J<;>omega
          have aO:m<j+(len+n)*z:=by
           have:(cap+1)*z<=(len+n)*z:=cn _ F;rw[eV] at this;omega
          have bi:len*z+n*z=(len+n)*z:=by rw[eV]
          have a7:=rel.kr K;by_cases Z:len+n<=cap'
          ·have bh:(len+n)*z<=cap'*z:=cn _ Z;have aD:max m (j+len*z+xs.length)=j+(len+n)*z:=F;obtain⟨w',h1,ae,ai⟩:=sX (P:=P) rel (cvs:=xs) (vs:=vs) (k:=j+len*z) D K F O.1 F O.2;rw[aD] at ae ai;have aW:(ax cs (j+len*z) xs).drop j=(cs.drop j).take (len*z)++xs:=by
            unfold ax;rw[kh (as:=cs) F,eT,nS (by simp;omega),rv];congr 2;omega
           have aG:(storeCells ((⟨o.r,o.s+j,none⟩:Addr).add (len*z)) vs).run P w=.ok () w':=by rw[Addr.jP,iW];exact h1
           have a5:=ai.KV (b:=b) (off:=j) (m:=o) (h':=(h.set b .dead).push (.cells ((len+n)*z) ((cs.drop j).take (len*z)++xs))) (by rw[dq,fS]) K F (by
            rw[dY,dq,dq,hX,hX,aW];have:j+(len+n)*z - j=(len+n)*z:=F;rw[this];funext x;simp only[bm];split
            ·rfl
            ·split<;>rfl) rfl
           refine⟨_,w',_,aN (some ⟨o.r,o.s+j,none⟩) _ _ _ Z aG,ae.trans a5.1,a5.2,?_⟩;exact .ad z h.n 0 (len+n) (len+n) ((len+n)*z) cap' _ ⟨o.r,o.s+j,o.T⟩ (by rw[dY,hX,fS]) (by rw[hX];simp) (aI _) F (.inr ⟨F,Z,by simpa using (by omega:o.s+j+cap'*z<=o.T)⟩)
          ·have aw:contents h z (.ad z b j len cap m)=some ((cs.drop j).take (len*z),len):=by simp[contents,D]
           obtain⟨am,_,p,G,aF⟩:=qF (P:=P) rel aw (az.ad z b j len cap m cap' cs o D K aB aP J);have aE:∀ w2:aQ,(∀ a,w2.cell? a=w.cell? a)->(Builtin.firstCells z len (.slice (some ⟨o.r,o.s+j,none⟩) len cap')).run P w2=.ok p.toArray w2:=fun w2 aJ=>by
            have:=aF len (aI _) w2 aJ
            rwa [aL (by rw[G.1,am];exact aI _)] at this
           have H:=ay i zv ap aM (some ⟨o.r,o.s+j,none⟩) len cap' p (by rw[aU];exact aE w.drew aT) F (by rw[av];exact aq) F;have C:len+n<=grownCap w (len+n) cap' e:=grownCap_ge _ _ _ _;have au:o7 w R h muZ ((cs.drop j).take (len*z)++xs) (p++vs):=by
            refine⟨by simp[G.1,O.1],fun ao c Q=>?_⟩;by_cases al:ao<((cs.drop j).take (len*z)).length
            ·rw[aV al] at Q;rw[aV (by rw[G.1];exact al)];exact G.2 ao c Q
            ·rw[et F] at Q;rw[et (by rw[G.1];omega),G.1];exact O.2 _ c Q
           have Y:((cs.drop j).take (len*z)++xs).length=(len+n)*z:=by rw[cr,am,S,eV]
           obtain⟨I,W⟩:=wa (e:=e) (zv:=zv) (need:=len+n) (cap:=grownCap w (len+n) cap' e) aK Y au C;have q:=rel.push (w':=w.drew.alloc (.cells ((p++vs).toArray++Builtin.zeroCells zv.cells (grownCap w (len+n) cap' e - (len+n))) e)) _ _ e rfl rfl rfl rfl (by rw[I,Y];exact cn _ C) W;rw[Y] at q;have hk:=q.2.kill (b:=b) (sz:=m) (cs:=cs) (h':=(h.set b .dead).push (.cells ((len+n)*z) ((cs.drop j).take (len*z)++xs))) (by rw[dY,bK _ _ _ _ F];exact D) (by rw[jc];omega) (by
            rw[dY,dY,dq,hX];funext x;simp only[bm];by_cases h1:x=h.n
            ·rw[aj h1,ak F,aj h1]
            ·rw[ak h1];split<;>rfl) rfl
           refine⟨_,_,_,H,q.1.trans hk.1,hk.2,?_⟩;have:=az.ad (w:=w.drew.alloc (.cells ((p++vs).toArray++Builtin.zeroCells zv.cells (grownCap w (len+n) cap' e - (len+n))) e)) (R:=R) (h:=(h.set b .dead).push (.cells ((len+n)*z) ((cs.drop j).take (len*z)++xs))) (muZ:=bm muZ h.n (some ⟨w.heap.size,0,((p++vs).toArray++Builtin.zeroCells zv.cells (grownCap w (len+n) cap' e - (len+n))).size⟩))
            z h.n 0 (len+n) (len+n) ((len+n)*z) (grownCap w (len+n) cap' e) _ ⟨w.heap.size,0,((p++vs).toArray++Builtin.zeroCells zv.cells (grownCap w (len+n) cap' e - (len+n))).size⟩ (by rw[dY,hX,fS]) V (aI _) F (.inr ⟨F,C,by simp only;rw[I];omega⟩)
           simpa using this
     ·cases g
    | _=>rw[D] at g;cases g
   ·cases g
theorem Bo (rel:bw R B w h muZ) {t u ty:aC} {s x c:U} {j9 q:aA} {h' : aH} (I:uu P u) (g:n9 P h t s x=some (c,h')) (W:az w R h muZ s j9) (ae:az w R h muZ x q) :
  ∃ v w' muZ',(Builtin.append_ #[t,u] ty #[j9,q]).run P w=.ok v w'/\cS w h muZ w' h' muZ'/\bw R B w' h' muZ'/\az w' R h' muZ' c v:=by
 unfold n9 at g;cases p:gm P t with
 | none=>rw[p] at g;cases g
 | some e=>
 have H:=vX p;rw[p] at g;simp only at g;cases j:b5 P e with
 | none=>rw[j] at g;cases g
 | some z=>
 cases m:gO P e with
 | none=>rw[j,m] at g;cases g
 | some am=>
 rw[j,m] at g;simp only at g;cases o:contents h z x with
 | none=>rw[o] at g;cases g
 | some al=>
 obtain⟨ap,n⟩:=al;rw[o] at g;simp only at g;obtain⟨J,F,ak,G,O⟩:=qF (P:=P) rel o ae;have C:∀ w2:aQ,(∀ a,w2.cell? a=w.cell? a)->(Builtin.firstCells z n q).run P w2=.ok ak.toArray w2:=fun w2 Z=>by
  have:=O n (aI _) w2 Z
  rwa [aL (by rw[G.1,J];exact aI _)] at this
 refine F5 rel j m g W J G (fun base aj ai w' Q Y=>run_append_fits H j I F (C w (fun _=>rfl)) Q Y) (fun i aq D ag base aj ai ao T S V K=>?_);have X:i.size=z:=by simpa [b5,D] using j
 exact WV H D ag I F (by rw[X];exact C w.drew (fun _=>rfl)) T S V K
end
end Go.bh

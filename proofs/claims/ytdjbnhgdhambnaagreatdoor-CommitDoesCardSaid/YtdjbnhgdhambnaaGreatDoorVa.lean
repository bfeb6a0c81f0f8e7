/-
  The canonical machine, part A: its values, blocks, heap, and what one operation does.
-/
import Derived.WalkKit
import Derived.Below
import Derived.Laws.AppendOwn
import Derived.Laws.CopyRow
import Derived.Laws.IdiomCopy
import Derived.Laws.StructEq
set_option maxHeartbeats 16000000
set_option maxRecDepth 100000
set_option linter.unusedVariables false
set_option linter.unusedSimpArgs false
set_option linter.unnecessarySimpa false
namespace Go.bh
abbrev aG := TypeId
abbrev aY := Operand
abbrev aE := Value
abbrev bp := Program
abbrev cj := FuncId
abbrev aT := World
abbrev a8 := Oper
abbrev k7 := MapEntry
abbrev cU := IntKind
abbrev aL:=@List.getElem?_eq_some_iff
abbrev aI:=@List.take_of_length_le
abbrev aV:=@List.getElem?_append_left
abbrev bj:=@List.getElem?_set_ne
abbrev bM:=@List.getElem?_eq_getElem
abbrev bc:=@Option.some.injEq
abbrev ai:=@if_neg
abbrev ak:=@if_pos
abbrev aN:=@Nat.le_refl
abbrev bY:=@List.getElem?_set_self
abbrev bK:=@decide_eq_true_eq
abbrev cp:=@List.mem_iff_getElem?
abbrev bU:=@Bool.and_eq_true
abbrev ck:=@Nat.mul_le_mul_right
abbrev b0:=@List.getElem?_map
abbrev cJ:=@List.mem_of_getElem?
abbrev cI:=@List.length_append
abbrev ce:=@List.length_map
abbrev b7:=@decide_eq_true
abbrev cc:=@Option.some.inj
abbrev cu:=@decide_eq_false
abbrev cA:=@Option.map_some
abbrev cL:=@List.length_take
abbrev dQ:=@List.getElem?_take_of_lt
abbrev eu:=@List.getElem?_append_right
abbrev cV:=@List.map_append
abbrev dW:=@List.getElem?_eq_none
abbrev cE:=@List.mem_map
abbrev dx:=@List.mem_filter
abbrev dM:=@List.length_cons
abbrev dg:=@List.map_cons
abbrev eZ:=@BitVec.eq_of_toNat_eq
abbrev ei:=@List.take_add_one
abbrev gw:=@List.getD_eq_getElem?_getD
abbrev ed:=@Nat.mod_eq_of_lt
abbrev fx:=@BitVec.toNat_setWidth
abbrev bV:=@absurd
abbrev hh:=@Array.getD_eq_getD_getElem?
abbrev dC:=@Nat.le_trans
abbrev il:=@List.take_append_of_le_length
abbrev eJ:=@List.append_nil
abbrev e0:=@List.take_length
abbrev hG:=@Nat.shiftRight_eq_div_pow
abbrev fo:=@Int.toNat_natCast
abbrev gy:=@List.mem_of_mem_take
abbrev ho:=@List.length_eq_zero_iff
abbrev hl:=@List.getElem?_cons_zero
abbrev ch:=@congrArg
abbrev ik:=@Array.getElem?_eq_some_iff
abbrev fP:=@BitVec.toNat_ofNat
abbrev fQ:=@List.mem_singleton
abbrev g2:=@List.length_filter_le
abbrev ej:=@Nat.succ_mul
abbrev gx:=@List.getElem?_drop
abbrev fE:=@List.mem_append
abbrev hn:=@List.getElem?_range
abbrev gb:=@List.all_eq_true
abbrev eP:=@Nat.add_mul
abbrev g1:=@List.ext_getElem?
abbrev eS:=@Nat.zero_le
abbrev js:=@List.getElem?_cons_succ
abbrev hi:=@List.append_assoc
abbrev hj:=@List.flatten_cons
abbrev g4:=@Option.getD_some
abbrev kq:=@List.pairwise_iff_getElem
abbrev i3:=@List.take_append_drop
abbrev fF:=@Nat.lt_or_ge
abbrev hp:=@List.length_nil
abbrev g3:=@List.mem_range
abbrev jr:=@List.flatten_append
abbrev lG:=@BitVec.toNat_ushiftRight
abbrev h2:=@List.nil_append
abbrev k6:=@List.drop_eq_nil_of_le
abbrev jq:=@Bool.false_eq_true
abbrev iM:=@of_decide_eq_true
abbrev iK:=@List.cons_append
abbrev ob:=@List.drop_append_of_le_length
abbrev i1:=@List.length_drop
abbrev kr:=@List.replicate_succ
abbrev kn:=@List.filter_sublist
abbrev od:=@List.getElem?_concat_length
abbrev jt:=@List.not_mem_nil
abbrev i5:=@Nat.min_eq_left
abbrev hI:=@Nat.zero_add
abbrev nh:=@Int.eq_ofNat_of_zero_le
abbrev oc:=@List.drop_eq_getElem_cons
abbrev oh:=@List.mem_or_eq_of_mem_set
abbrev mu:=@Nat.eq_of_beq_eq_true
abbrev rI:=@List.set_eq_take_append_cons_drop
abbrev pi:=@Array.getElem?_append_left
abbrev lJ:=@List.filter_append
abbrev i4:=@Nat.add_assoc
abbrev mr:=@List.map_congr_left
abbrev i2:=@List.map_take
abbrev ko:=@List.length_set
abbrev iL:=@List.map_map
abbrev ni:=@List.map_eq_nil_iff
abbrev oa:=@BitVec.ofInt_natCast
abbrev nn:=@Nat.lt_of_lt_of_le
abbrev pk:=@List.set_append_right
abbrev kp:=@List.mem_cons
abbrev ng:=@BitVec.toNat_umod
abbrev nj:=@List.pairwise_map
abbrev rA:=@Array.getElem?_eq_getElem
abbrev qj:=@Array.getElem?_eq_none
abbrev qn:=@List.drop_of_length_le
abbrev lI:=@List.drop_zero
abbrev lL:=@List.take_take
abbrev k5:=@Bool.and_self
abbrev ks:=@Nat.le_of_lt
abbrev qk:=@Array.getElem?_toList
abbrev oe:=@List.getElem?_set
abbrev lH:=@Bool.true_and
abbrev qm:=@Bool.or_eq_false_iff
abbrev oj:=@Nat.shiftLeft_eq
abbrev tb:=@List.getElem?_zip_eq_some
abbrev qp:=@List.length_pos_iff
abbrev pn:=@Nat.lt_trichotomy
abbrev nk:=@List.take_zero
abbrev u9:=@Array.getElem?_setIfInBounds
abbrev lK:=@List.map_nil
abbrev s9:=@List.eq_of_mem_replicate
abbrev u7:=@Array.getElem?_append_right
abbrev pm:=@List.take_append
abbrev rH:=@List.pairwise_append
abbrev s7:=@BitVec.toNat_shiftLeft
abbrev ql:=@Bool.eq_false_iff
abbrev rB:=@Array.length_toList
abbrev rG:=@List.filter_eq_self
abbrev qr:=@Option.bind_some
abbrev nm:=@Nat.add_zero
abbrev rM:=@Option.isSome_none
abbrev qq:=@Nat.div_eq_of_lt
abbrev og:=@List.map_drop
abbrev pj:=@List.mapM_cons
abbrev rC:=@BitVec.toNat_udiv
abbrev s6:=@Array.getElem?_push
abbrev tc:=@List.mem_map_of_mem
abbrev mv:=@Nat.mod_lt
abbrev vi:=@List.getElem?_toArray
abbrev qo:=@List.drop_take
abbrev te:=@List.set_cons_zero
abbrev tg:=@Nat.add_sub_cancel
abbrev oi:=@Nat.mul_one
abbrev ol:=@decide_true
abbrev vj:=@List.mem_of_mem_drop
abbrev A5:=@Array.eq_empty_of_size_eq_zero
abbrev rF:=@Bool.or_eq_true
abbrev rD:=@Bool.false_and
abbrev rE:=@Bool.not_false
abbrev s8:=@List.any_eq_true
abbrev ta:=@List.filter_cons
abbrev x2:=@Nat.le_of_ble_eq_true
abbrev tk:=@Option.pure_def
abbrev td:=@List.range_succ
abbrev xY:=@List.length_singleton
abbrev Bd:=@Int.fdiv_eq_ediv_of_nonneg
abbrev vc:=@Bool.not_eq_true'
abbrev vg:=@List.count_append
abbrev xW:=@List.getElem?_of_mem
abbrev rJ:=@Nat.add_comm
abbrev A8:=@Array.getElem?_replicate
abbrev vh:=@List.drop_append
abbrev vl:=@Nat.min_eq_right
abbrev va:=@BitVec.toNat_mul
abbrev xU:=@List.flatMap_append
abbrev Fi:=@Array.getElem?_setIfInBounds_ne
abbrev Bj:=@List.getElem?_replicate
abbrev Bn:=@List.pairwise_singleton
abbrev tf:=@List.sum_cons
abbrev x0:=@List.set_cons_succ
abbrev vf:=@Int.natCast_pow
abbrev vk:=@List.nodup_cons
abbrev xZ:=@List.map_replicate
abbrev rK:=@Nat.le_succ
abbrev rL:=@Nat.pow_add
abbrev x1:=@List.size_toArray
abbrev x5:=@not_false_eq_true
abbrev xQ:=@Array.mem_of_getElem?
abbrev ti:=@Nat.zero_mul
abbrev th:=@Nat.sub_self
abbrev A7:=@Array.getElem?_modify
abbrev Bo:=@List.set_getElem_self
abbrev vb:=@Bool.and_false
abbrev Bk:=@List.mem_cons_of_mem
abbrev xX:=@List.isEmpty_iff
abbrev xS:=@Bool.not_eq_true
abbrev Bg:=@List.count_singleton
abbrev x3:=@Nat.le_of_not_lt
abbrev vd:=@Bool.not_true
abbrev Bq:=@List.takeWhile_cons
abbrev xV:=@List.foldl_cons
abbrev Fv:=@List.getElem?_eq_none_iff
abbrev xR:=@Bool.eq_iff_iff
abbrev A4:=@Array.append_assoc
abbrev A6:=@Array.getElem?_map
abbrev vo:=@Nat.sub_zero
abbrev vq:=@decide_false
abbrev Be:=@Int.natCast_nonneg
abbrev Ba:=@BitVec.toNat_ofInt
abbrev Bm:=@List.pairwise_cons
abbrev Fy:=@List.length_erase_of_mem
abbrev xT:=@List.drop_drop
abbrev FJ:=@Nat.exists_eq_add_of_le
abbrev Bi:=@List.foldl_append
abbrev Bf:=@List.any_eq_false
abbrev FO:=@Option.map_eq_some_iff
abbrev vp:=@Prod.mk.inj
abbrev vn:=@Nat.one_mul
abbrev vm:=@Nat.mul_mod
abbrev Fz:=@List.length_pos_of_mem
abbrev Bv:=@Nat.max_eq_right
abbrev A9:=@BitVec.toNat_and
abbrev Bl:=@List.nodup_range
abbrev FE:=@List.singleton_append
abbrev Bh:=@List.find?_cons
abbrev FN:=@Nat.pow_le_pow_right
abbrev Bu:=@Nat.max_eq_left
abbrev M0:=@Nat.and_two_pow_sub_one_eq_mod
abbrev FB:=@List.mem_erase_of_ne
abbrev M1:=@Nat.shiftLeft_add_eq_or_of_lt
abbrev Fx:=@List.getElem_of_mem
abbrev FG:=@List.zip_eq_zipWith
abbrev x4:=@Nat.pow_mod
abbrev FI:=@Nat.eq_or_lt_of_le
abbrev FA:=@List.mem_cons_self
abbrev Fp:=@Bool.true_eq_false
abbrev Fk:=@BitVec.ofNat_toNat
abbrev FP:=@UInt8.toNat_ofNat'
abbrev Bb:=@Bool.false_or
abbrev Fj:=@Array.size_append
abbrev FK:=@Nat.mul_left_comm
abbrev FM:=@Nat.mul_mod_right
abbrev FD:=@List.nodup_append
abbrev FF:=@List.take_sublist
abbrev Fu:=@List.filter_congr
abbrev MY:=@Array.mapM_eq_mapM_toList
abbrev MZ:=@List.mem_of_find?_eq_some
abbrev M2:=@Option.isNone_iff_eq_none
abbrev Br:=@Nat.beq_refl
abbrev Bt:=@Nat.le_of_eq
abbrev M3:=@Option.isSome_iff_exists
abbrev FC:=@List.mem_flatMap
abbrev Fw:=@List.getElem_mem
abbrev FL:=@Nat.mul_mod_left
abbrev Fr:=@Int.natCast_ediv
abbrev Bx:=@Nat.mul_comm
abbrev Fl:=@BitVec.toNat_add
abbrev Fm:=@BitVec.toNat_not
abbrev Bp:=@List.set_set
abbrev Bc:=@Bool.or_true
abbrev FH:=@Nat.div_le_self
abbrev Bw:=@Nat.min_def
abbrev Ft:=@List.drop_left
abbrev Fo:=@Bool.and_assoc
abbrev Bs:=@Nat.blt_eq
abbrev Fs:=@List.all_cons
open Go
inductive U where
 | bool (b:Bool)
 | int (k:cU) (n:Int)
 | str (s:List UInt8)
 | iA | ad | gY | ic | hS
 | af (cs:List U)
 | aX (q:List U)
 | ptr (b g h:Nat)
 | b6 (cs:List U) (g:Nat)
 | Z (j b g len cap h:Nat)
 | bu (j:Nat) (m:List (List U))
 | fn (f:cj) (first e3:List U)
 | mp (b:Nat)
 | it (b:Nat)
 | fW (o:aG) (p:U)
 | fh (l:Nat)
 | bad
 deriving Inhabited
inductive aq where
 | none
 | dead
 | cells (j:Nat) (cs:List U)
 | map (h:List (U × U × Nat)) (g:Nat)
 | iter (s:List UInt8) (pos:Nat)
 deriving Inhabited
inductive cC (alZ:Type) where
 | nil
 | node (l:cC alZ) (g:Option alZ) (r:cC alZ)
def cC.get {alZ:Type}:cC alZ->Nat->Option alZ
 | .nil,_=>none
 | .node l g r,n=>match Nat.beq n 0 with
  | true=>g
  | false=>match Nat.beq (n % 2) 1 with
   | true=>l.get (n / 2)
   | false=>r.get (n / 2 - 1)
def cC.iH {alZ:Type}:Nat->cC alZ->Nat->alZ->cC alZ
 | 0,h,_,_=>h
 | k+1,.nil,n,x=>match Nat.beq n 0 with
  | true=>.node .nil (some x) .nil
  | false=>match Nat.beq (n % 2) 1 with
   | true=>.node (cC.iH k .nil (n / 2) x) none .nil
   | false=>.node .nil none (cC.iH k .nil (n / 2 - 1) x)
 | k+1,.node l g r,n,x=>match Nat.beq n 0 with
  | true=>.node l (some x) r
  | false=>match Nat.beq (n % 2) 1 with
   | true=>.node (cC.iH k l (n / 2) x) g r
   | false=>.node l g (cC.iH k r (n / 2 - 1) x)
def cC.set {alZ:Type} (t:cC alZ) (n:Nat) (x:alZ) :cC alZ:=t.iH (n+1) n x
theorem iz {a b:Nat} (h:¬ a=b) :Nat.beq a b=false:=by
 cases g:Nat.beq a b with
 | false=>rfl
 | true=>exact bV (mu g) h
theorem pX {a b:Nat} (h:a=b) :Nat.beq a b=true:=by subst h;exact Br a
theorem cC.wh {alZ:Type}:∀ (k:Nat) (t:cC alZ) (n:Nat) (x:alZ) (m:Nat),n<k->(t.iH k n x).get m=if m=n then some x else t.get m
 | 0,_,_,_,_,h=>by omega
 | k+1,.nil,n,x,m,h=>by
  unfold cC.iH;by_cases u:n=0
  ·subst u;simp only;unfold cC.get;by_cases g:m=0
   ·subst g;simp
   ·have:Nat.beq m 0=false:=iz g;simp only[this,ai g];split<;>rfl
  ·have v:Nat.beq n 0=false:=iz u;simp only[v];by_cases h1:n % 2=1
   ·have p:Nat.beq (n % 2) 1=true:=pX h1;simp only[p];unfold cC.get;by_cases g:m=0
    ·subst g;simp;omega
    ·have:Nat.beq m 0=false:=iz g;simp only[this];by_cases j:m % 2=1
     ·have:Nat.beq (m % 2) 1=true:=pX j;simp only[this];rw[cC.wh k .nil (n / 2) x (m / 2) (by omega)];by_cases o:m=n
      ·subst o;simp
      ·rw[ai o,ai (by omega)];rfl
     ·have:Nat.beq (m % 2) 1=false:=iz j;simp only[this];rw[ai (by intro q;subst q;exact j h1)];rfl
   ·have p:Nat.beq (n % 2) 1=false:=iz h1;simp only[p];unfold cC.get;by_cases g:m=0
    ·subst g;simp;omega
    ·have:Nat.beq m 0=false:=iz g;simp only[this];by_cases j:m % 2=1
     ·have:Nat.beq (m % 2) 1=true:=pX j;simp only[this];rw[ai (by intro q;subst q;exact h1 j)];rfl
     ·have:Nat.beq (m % 2) 1=false:=iz j;simp only[this];rw[cC.wh k .nil (n / 2 - 1) x (m / 2 - 1) (by omega)];by_cases o:m=n
      ·subst o;simp
      ·rw[ai o,ai (by omega)];rfl
 | k+1,.node l w r,n,x,m,h=>by
  unfold cC.iH;by_cases u:n=0
  ·subst u;simp only;unfold cC.get;by_cases g:m=0
   ·subst g;simp
   ·have:Nat.beq m 0=false:=iz g;simp only[this,ai g]
  ·have v:Nat.beq n 0=false:=iz u;simp only[v];by_cases h1:n % 2=1
   ·have p:Nat.beq (n % 2) 1=true:=pX h1;simp only[p];unfold cC.get;by_cases g:m=0
    ·subst g;simp;omega
    ·have:Nat.beq m 0=false:=iz g;simp only[this];by_cases j:m % 2=1
     ·have:Nat.beq (m % 2) 1=true:=pX j;simp only[this];rw[cC.wh k l (n / 2) x (m / 2) (by omega)];by_cases o:m=n
      ·subst o;simp
      ·rw[ai o,ai (by omega)]
     ·have:Nat.beq (m % 2) 1=false:=iz j;simp only[this];rw[ai (by intro q;subst q;exact j h1)]
   ·have p:Nat.beq (n % 2) 1=false:=iz h1;simp only[p];unfold cC.get;by_cases g:m=0
    ·subst g;simp;omega
    ·have:Nat.beq m 0=false:=iz g;simp only[this];by_cases j:m % 2=1
     ·have:Nat.beq (m % 2) 1=true:=pX j;simp only[this];rw[ai (by intro q;subst q;exact h1 j)]
     ·have:Nat.beq (m % 2) 1=false:=iz j;simp only[this];rw[cC.wh k r (n / 2 - 1) x (m / 2 - 1) (by omega)];by_cases o:m=n
      ·subst o;simp
      ·rw[ai o,ai (by omega)]
theorem cC.CD {alZ:Type} (t:cC alZ) (n:Nat) (x:alZ) (m:Nat) :(t.set n x).get m=if m=n then some x else t.get m:=cC.wh _ _ _ _ _ (by omega)
structure aM where
 n:Nat
 t:cC aq
def aM.f (h:aM) (b:Nat) :aq:=match h.t.get b with | some c=>c | none=>.none
def aM.empty:aM:=⟨0,.nil⟩
def br {alZ:Type} (f:Nat->alZ) (i:Nat) (v:alZ) :Nat->alZ:=fun g=>if g=i then v else f g
def aM.push (h:aM) (c:aq) :aM:=⟨h.n+1,h.t.set h.n c⟩
def aM.set (h:aM) (b:Nat) (c:aq) :aM:=⟨h.n,h.t.set b c⟩
theorem jk (h:aM) (c:aq) :(h.push c).n=h.n+1:=rfl
theorem hX (h:aM) (b:Nat) (c:aq) :(h.set b c).n=h.n:=rfl
theorem dV (h:aM) (c:aq) :(h.push c).f=br h.f h.n c:=by
 funext b;simp only[aM.f,aM.push,br,cC.CD];by_cases g:b=h.n
 ·simp[g]
 ·simp[g]
theorem dm (h:aM) (b:Nat) (c:aq) :(h.set b c).f=br h.f b c:=by
 funext j;simp only[aM.f,aM.set,br,cC.CD];by_cases g:j=b
 ·simp[g]
 ·simp[g]
theorem yM (b:Nat) :aM.empty.f b=.none:=rfl
@[simp] theorem fK {alZ:Type} (f:Nat->alZ) (i:Nat) (v:alZ) :br f i v i=v:=by simp[br]
theorem bS {alZ:Type} (f:Nat->alZ) (i j:Nat) (v:alZ) (h:j≠i) :br f i v j=f j:=by simp[br,h]
def U.one:U->Bool
 | .af _ | .aX _ | .bad=>false
 | _=>true
def U.cells:U->Option (List U)
 | .af cs=>some cs
 | .aX _ | .bad=>none
 | v=>some [v]
def l9:aE->U
 | .bool b=>.bool b
 | .int k n=>.int k n
 | .string s=>.str s.data.toList
 | .pointer a=>match a with | none=>.iA | some _=>.bad
 | .slice a l c=>match a,l,c with | none,0,0=>.ad | _,_,_=>.bad
 | .map r=>match r with | none=>.gY | some _=>.bad
 | .nilFunc=>.ic
 | .nilIface=>.hS
 | .func fn first e3=>match fn,first.toList,e3.toList with | .func f,[],[]=>.fn f [] [] | _,_,_=>.bad
 | _=>.bad
def q5:aE->U
 | .agg cs=>if cs.toList.all Value.oneCell' then .af (cs.toList.map l9) else .bad
 | .tuple g=>.aX (g.toList.map l9)
 | v=>l9 v
def dA (G:Nat->U) (sgZ:Nat->U) :aY->U
 | .tmp h=>sgZ h
 | .const j=>q5 j
 | .func f=>.fn f [] []
 | .global g=>G g
def dE (P:bp) (t:aG) :Option Bool:=(P.underlying t).map fun d=>match d with | .struct _ | .array _ _=>true | _=>false
def ca (P:bp) (t:aG) :Option Nat:=(P.info? t).map (·.size)
def gK (P:bp) (t:aG) :Option Nat:=(P.info? t).map (·.bytes)
def ga (P:bp) (t:aG) :Option (List U):=((P.info? t).bind (·.zero)).bind fun g=>if g.cells.toList.all Value.oneCell' then some (g.cells.toList.map l9) else none
def gh (P:bp) (t:aG) :Option aG:=match P.underlying t with | some (.slice e)=>some e | _=>none
def gm (P:bp) (t:aG) (cs:List U) (off:Nat) :Option U:=
 match dE P t,ca P t with
 | some true,some n=>if off+n<=cs.length then some (.af ((cs.drop off).take n)) else none
 | some false,_=>cs[off]?
 | _,_=>none
def mg (h:aM) :U->Option (List U × Nat)
 | .ptr b g j=>match h.f b with
  | .cells n cs=>if n=j then some (cs,g) else none
  | _=>none
 | .b6 cs g=>some (cs,g)
 | _=>none
def oT (P:bp) (h:aM) (t:aG) (p:U) :Option U:=
 match mg h p with
 | some (cs,g)=>gm P t cs g
 | none=>none
def av (cs:List U) (off:Nat) (vs:List U) :List U:=cs.take off++vs++cs.drop (off+vs.length)
def rp (P:bp) (h:aM) (t:aG) (p v:U) :Option aM:=
 match p,v.cells,ca P t with
 | .ptr b j o,some m,some n=>match h.f b with
  | .cells g cs=>if g=o/\m.length=n/\j+n<=g then some (h.set b (.cells g (av cs j m))) else none
  | _=>none
 | _,_,_=>none
def asInt:U->Option Int
 | .int _ n=>some n
 | _=>none
def sa (P:bp) (s:aG) (f:Nat) :Option Field:=match P.underlying s with | some (.struct g)=>g[f]? | _=>none
def lh:U->Nat->Option U
 | .ptr b g h,k=>some (.ptr b (g+k) h)
 | .b6 cs g,k=>some (.b6 cs (g+k))
 | _,_=>none
def yS (P:bp) (s:aG) (x:U) (f:Nat) :Option U:=
 match sa P s f with
 | some g=>match ca P g.type with
  | some (_+1)=>lh x g.offset
  | _=>none
 | none=>none
def ww (P:bp) (t:aG) (x m:U) :Option U:=
 match P.underlying t,asInt m with
 | some (.array len e),some i=>match ca P e with
  | some g=>if 0<=i/\i<len then lh x (i.toNat*g) else none
  | none=>none
 | some (.slice e),some i=>match ca P e,x with
  | some g,.Z h b o len _ p=>if g=h/\0<=i/\i<len then some (.ptr b (o+i.toNat*g) p) else none
  | some g,.bu h j=>if g=h/\0<=i then (j[i.toNat]?).map fun cs=>.b6 cs 0 else none
  | _,_=>none
 | _,_=>none
def en (h:Nat->Option (Nat × Nat)) (cells:List U) :List (Nat × U)->Option (List U)
 | []=>some cells
 | (i,m) ::rest=>match h i,m.cells with
  | some (g,size),some j=>if j.length=size/\g+size<=cells.length then en h (av cells g j) rest else none
  | _,_=>none
def w8 (P:bp) (fs:Array Field) (i:Nat) :Option (Nat × Nat):=(fs[i]?).bind fun f=>(ca P f.type).map fun n=>(f.offset,n)
def vN (P:bp) (t:aG) (parts:List (Nat × U)) :Option U:=
 match ga P t,P.underlying t with
 | some zero,some (.struct g)=>if !(g.toList.all fun f=>(ca P f.type).isSome) then none else (en (w8 P g) zero parts).map .af
 | some zero,some (.array _ e)=>match ca P e with
  | some n=>(en (fun i=>some (i*n,n)) zero parts).map .af
  | none=>none
 | _,_=>none
def cQ (zero:List U) :Nat->List U
 | 0=>[]
 | n+1=>zero++cQ zero n
def yp (P:bp) (h:aM) (t:aG) (len:Nat) (parts:List (Nat × U)) :Option (U × aM):=
 match gh P t with
 | some e=>match ca P e,ga P e with
  | some g,some zero=>if zero.length=g/\len*g<=16777216 then
    (en (fun i=>some (i*g,g)) (cQ zero len) parts).map fun cs=>(.Z g h.n 0 len len (len*g),h.push (.cells (len*g) cs))
   else none
  | _,_=>none
 | none=>none
def cz (op:BinOp) (k:cU) (a:Int) (k' : cU) (b:Int) :Option U:=
 match op with
 | .shl=>if b<0 then none else some (.int k (k.wrap (a*2 ^ min b.toNat k.bits)))
 | .shr=>if b<0 then none else some (.int k (a.fdiv (2 ^ min b.toNat k.bits)))
 | .add=>if k=k' then some (.int k (k.wrap (a+b))) else none
 | .sub=>if k=k' then some (.int k (k.wrap (a - b))) else none
 | .mul=>if k=k' then some (.int k (k.wrap (a*b))) else none
 | .quo=>if k=k'/\b≠0 then some (.int k (k.wrap (a.tdiv b))) else none
 | .rem=>if k=k'/\b≠0 then some (.int k (a.tmod b)) else none
 | .and=>if k=k' then some (.int k (k.wrap (BitVec.ofInt k.bits a &&& BitVec.ofInt k.bits b).toNat)) else none
 | .or=>if k=k' then some (.int k (k.wrap (BitVec.ofInt k.bits a ||| BitVec.ofInt k.bits b).toNat)) else none
 | .xor=>if k=k' then some (.int k (k.wrap (BitVec.ofInt k.bits a ^^^ BitVec.ofInt k.bits b).toNat)) else none
 | .andNot=>if k=k' then some (.int k (k.wrap (BitVec.ofInt k.bits a &&& ~~~BitVec.ofInt k.bits b).toNat)) else none
 | .eql=>if k=k' then some (.bool (a == b)) else none
 | .neq=>if k=k' then some (.bool (a != b)) else none
 | .lss=>if k=k' then some (.bool (decide (a<b))) else none
 | .leq=>if k=k' then some (.bool (decide (a<=b))) else none
 | .gtr=>if k=k' then some (.bool (decide (a > b))) else none
 | .geq=>if k=k' then some (.bool (decide (a ≥ b))) else none
def tu (op:BinOp) (a b:List UInt8) :Option U:=
 match op with
 | .eql=>some (.bool (a == b))
 | .neq=>some (.bool (!(a == b)))
 | .lss=>some (.bool (Op.bytesLess a b))
 | .leq=>some (.bool (Op.bytesLess a b||a == b))
 | .gtr=>some (.bool (!(Op.bytesLess a b||a == b)))
 | .geq=>some (.bool (!Op.bytesLess a b))
 | .add=>if a.length+b.length<=9223372036854775807 then some (.str (a++b)) else none
 | _=>none
def dK (P:bp) :Nat->aG->U->U->Option Bool
 | 0,_,_,_=>none
 | d+1,o,x,y=>
  match P.underlying o,x,y with
  | some .bool,.bool a,.bool b=>some (a == b)
  | some (.int _),.int k a,.int p b=>if k=p then some (a == b) else none
  | some .string,.str a,.str b=>some (a == b)
  | some (.struct m),.af g,.af h=>if P.stoodInHeld o then none else eqFields P (dK P d) g h m.toList
  | some (.array n e),.af g,.af h=>match ca P e with
   | some j=>oG P (dK P d) e j g h n 0
   | none=>none
  | some (.slice _),.ad,.ad=>some true
  | some (.slice _),.ad,.Z .. | some (.slice _),.ad,.bu .. | some (.slice _),.Z ..,.ad | some (.slice _),.bu ..,.ad=>some false
  | _,_,_=>none
where
 eqFields (P:bp) (eq:aG->U->U->Option Bool) (g h:List U) :List Field->Option Bool
  | []=>some true
  | f::m=>if f.name= "_" then eqFields P eq g h m else
   match gm P f.type g f.offset,gm P f.type h f.offset with
   | some a,some b=>match eq f.type a b with
    | some true=>eqFields P eq g h m
    | some false=>some false
    | none=>none
   | _,_=>none
 oG (P:bp) (eq:aG->U->U->Option Bool) (e:aG) (j:Nat) (g h:List U) :Nat->Nat->Option Bool
  | 0,_=>some true
  | n+1,i=>match gm P e g (i*j),gm P e h (i*j) with
   | some a,some b=>match eq e a b with
    | some true=>oG P eq e j g h n (i+1)
    | some false=>some false
    | none=>none
   | _,_=>none
def r8 (P:bp) (t:aG) :U->U->Bool
 | .af _,.af _=>!P.eqGuardType P.depth t
 | _,_=>true
def ea (P:bp) (op:BinOp) (t:aG) (x y:U) :Option U:=
 match x,y with
 | .int k a,.int g b=>cz op k a g b
 | .str a,.str b=>tu op a b
 | x,y=>match op with
  | .eql=>if r8 P t x y then (dK P 10000 t x y).map .bool else none
  | .neq=>if r8 P t x y then (dK P 10000 t x y).map fun b=>.bool (!b) else none
  | _=>none
def rs (op:UnOp) (x:U) :Option U:=
 match op,x with
 | .not,.bool b=>some (.bool (!b))
 | .neg,.int k n=>some (.int k (k.wrap (0 - n)))
 | .xor,.int k n=>some (.int k (k.wrap (BitVec.ofInt k.bits (if k.signed then -1 else k.max) ^^^ BitVec.ofInt k.bits n).toNat))
 | _,_=>none
def lV (z:Nat) :Nat->List U->List (List U)
 | 0,_=>[]
 | n+1,cs=>cs.take z::lV z n (cs.drop z)
def hr (b:UInt8) :U:=.int .u8 b.toNat
def contents (h:aM) (z:Nat) :U->Option (List U × Nat)
 | .ad=>some ([],0)
 | .bu g j=>if z=g then some (j.flatten,j.length) else none
 | .Z g b m len _ o=>match h.f b with
  | .cells n cs=>if n=o/\z=g then some ((cs.drop m).take (len*z),len) else none
  | _=>none
 | .str s=>if z=1 then some (s.map hr,s.length) else none
 | _=>none
def dj:Nat:=140737488355328
def mq (P:bp) (t:aG) :Option Nat:=((P.info? t).bind (·.zero)).map (·.cells.size)
def qD (P:bp) (h:aM) (e:aG) (z by_:Nat) (s:U) (xs:List U) (n:Nat) :Option (U × aM):=
 if n=0 then (match s with | .ad | .bu .. | .Z ..=>some (s,h) | _=>none)
 else if z=0\/by_=0\/mq P e≠some z then none else match s with
  | .ad=>if n*by_<=dj then some (.Z z h.n 0 n n (n*z),h.push (.cells (n*z) xs)) else none
  | .Z o b g len cap j=>match h.f b with
   | .cells m cs=>
    if m=j/\z=o/\(len+n)*by_<=dj then
     if len+n<=cap then some (.Z z b g (len+n) cap j,h.set b (.cells m (av cs (g+len*z) xs)))
     else if g+cap*z<j then some (.Z z h.n 0 (len+n) (len+n) ((len+n)*z),h.push (.cells ((len+n)*z) ((cs.drop g).take (len*z)++xs)))
     else if g=0 then some (.Z z b 0 (len+n) (len+n) ((len+n)*z),h.set b (.cells ((len+n)*z) (cs.take (len*z)++xs)))
     else some (.Z z h.n 0 (len+n) (len+n) ((len+n)*z),(h.set b .dead).push (.cells ((len+n)*z) ((cs.drop g).take (len*z)++xs)))
    else none
   | _=>none
  | _=>none
def ox (P:bp) (h:aM) (t:aG) (s x:U) :Option (U × aM):=
 match gh P t with
 | none=>none
 | some e=>match ca P e,gK P e with
  | some g,some j=>match contents h g x with
   | none=>none
   | some (m,n)=>qD P h e g j s m n
  | _,_=>none
def gU (x:U) (y:Nat) :Option Nat:=match x with | .int _ i=>if 0<=i/\i<=y then some i.toNat else none | _=>none
def e2 (len cap:Nat) (p o m:Option U) :Option (Nat × Nat × Nat):=
 match (match m with | some g=>gU g cap | none=>some cap) with
 | none=>none
 | some j=>match (match o,m with | some g,_=>gU g j | none,none=>some len | none,some _=>none) with
  | none=>none
  | some h=>match (match p with | some g=>gU g h | none=>some 0) with
   | none=>none
   | some l=>some (l,h,j)
def xv (P:bp) (t:aG) (x:U) (p o q:Option U) :Option U:=
 match P.underlying t,x with
 | some (.array n e),x=>match ca P e,e2 n n p o q with
  | some g,some (l,h,m)=>match x with
   | .ptr b j u=>if j+m*g<=u then (if m=l then some (.bu g []) else some (.Z g b (j+l*g) (h - l) (m - l) u)) else none
   | .b6 cs j=>if j+n*g<=cs.length then some (.bu g (lV g (h - l) (cs.drop (j+l*g)))) else none
   | _=>none
  | _,_=>none
 | some (.slice e),x=>match ca P e,x with
  | some g,.Z w b j len cap u=>if g=w then (e2 len cap p o q).map fun (l,h,m)=>if m=l then .Z g b (j+l*g) 0 0 u else .Z g b (j+l*g) (h - l) (m - l) u else none
  | some g,.bu w v=>if g=w then (e2 v.length v.length p o q).map fun (l,h,_)=>.bu g ((v.drop l).take (h - l)) else none
  | some _,.ad=>(e2 0 0 p o q).map fun _=>.ad
  | _,_=>none
 | some .string,.str s=>match q with
  | none=>(e2 s.length s.length p o none).map fun (l,h,_)=>.str ((s.drop l).take (h - l))
  | some _=>none
 | _,_=>none
def sl (P:bp) (t:aG) (x:U) :Option U:=
 match P.underlying t,x with
 | some .string,.str s=>some (.int .i64 s.length)
 | some (.array n _),_=>some (.int .i64 n)
 | some (.slice _),.ad=>some (.int .i64 0)
 | some (.slice _),.Z _ _ _ len _ _=>some (.int .i64 len)
 | some (.slice _),.bu _ g=>some (.int .i64 g.length)
 | some (.map _ _),.gY=>some (.int .i64 0)
 | _,_=>none
def zl (P:bp) (h:aM) (t:aG) (l c:U) :Option (U × aM):=
 match gh P t,asInt l,asInt c with
 | some e,some l,some c=>match ca P e,gK P e,ga P e with
  | some g,some j,some zero=>
   if zero.length=g/\0<=l/\l<=c/\c<9223372036854775808/\j*c<=dj then
    some (.Z g h.n 0 l.toNat c.toNat (c.toNat*g),h.push (.cells (c.toNat*g) (cQ zero c.toNat)))
   else none
  | _,_,_=>none
 | _,_,_=>none
def tK (P:bp) (h:aM) (t:aG) (d x:U) :Option (U × aM):=
 match gh P t with
 | none=>none
 | some e=>match ca P e with
  | none=>none
  | some g=>match contents h g x with
   | none=>none
   | some (p,n)=>match d with
    | .ad=>some (.int .i64 0,h)
    | .Z q b m len _ o=>match h.f b with
     | .cells j cs=>if j=o/\g=q then some (.int .i64 ((min n len:Nat) :Int),h.set b (.cells j (av cs m (p.take (min n len*g))))) else none
     | _=>none
    | _=>none
def jZ:List U->Option (List UInt8)
 | []=>some []
 | .int .u8 n::r=>(jZ r).map (UInt8.ofNat n.toNat::·)
 | _::_=>none
def r4 (P:bp) (h:aM) (src g:aG) (x:U) :Option U:=
 match P.underlying src,P.underlying g,x with
 | some _,some (.int k),.int _ n=>some (.int k (k.wrap n))
 | some _,some .string,.str s=>some (.str s)
 | some (.slice e),some .string,x=>match P.underlying e,x with
  | some (.int .u8),.ad=>some (.str [])
  | some (.int .u8),x=>match contents h 1 x,x with
   | some _,.str _=>none
   | some (cs,_),_=>(jZ cs).map .str
   | none,_=>none
  | _,_=>none
 | _,_,_=>none
def tB (P:bp) (src g:aG) (x:U) :Option U:=
 match P.underlying src,P.underlying g,x with
 | some _,some (.slice e),.str s=>match P.underlying e with
  | some (.int .u8)=>some (.bu 1 (s.map fun b=>[hr b]))
  | _=>none
 | _,_,_=>none
def tE (P:bp) (t:aG) (x:U) :Option U:=
 match P.underlying t,x with
 | some (.array n _),_=>some (.int .i64 n)
 | some (.slice _),.ad=>some (.int .i64 0)
 | _,_=>none
def tH (P:bp) (h:aM) (t:aG) (x:U) :Option aM:=
 match P.underlying t,x with
 | some (.slice _),.ad=>some h
 | some (.slice _),.bu _ []=>some h
 | some (.slice e),.Z o b j len _ m=>if len=0 then some h else match ga P e,h.f b with
  | some zero,.cells g cs=>if g=m/\zero.length=o then some (h.set b (.cells g (av cs j (cQ zero len)))) else none
  | _,_=>none
 | _,_=>none
def tX (P:bp) (t:aG) (x g:U) :Option U:=
 match P.underlying t,x,asInt g with
 | some (.array n e),.af cs,some i=>match ca P e with
  | some h=>if 0<=i/\i<n then gm P e cs (i.toNat*h) else none
  | none=>none
 | some .string,.str s,some i=>if 0<=i then (s[i.toNat]?).map hr else none
 | _,_,_=>none
mutual
def U.beq:U->U->Bool
 | .bool a,y=>match y with | .bool b=>(match a,b with | true,true=>true | false,false=>true | _,_=>false) | _=>false
 | .int k n,y=>match y with | .int t m=>decide (k=t)&&decide (n=m) | _=>false
 | .str a,y=>match y with | .str b=>decide (a=b) | _=>false
 | .iA,y=>match y with | .iA=>true | _=>false
 | .ad,y=>match y with | .ad=>true | _=>false
 | .gY,y=>match y with | .gY=>true | _=>false
 | .ic,y=>match y with | .ic=>true | _=>false
 | .hS,y=>match y with | .hS=>true | _=>false
 | .af a,y=>match y with | .af b=>dz a b | _=>false
 | .aX a,y=>match y with | .aX b=>dz a b | _=>false
 | .ptr a b c,y=>match y with | .ptr g h j=>Nat.beq a g&&Nat.beq b h&&Nat.beq c j | _=>false
 | .b6 a n,y=>match y with | .b6 g m=>dz a g&&Nat.beq n m | _=>false
 | .Z a b c d e f,y=>match y with | .Z g h j o p q=>Nat.beq a g&&Nat.beq b h&&Nat.beq c j&&Nat.beq d o&&Nat.beq e p&&Nat.beq f q | _=>false
 | .bu a b,y=>match y with | .bu g h=>Nat.beq a g&&vI b h | _=>false
 | .fn a b c,y=>match y with | .fn g h j=>Nat.beq a g&&dz b h&&dz c j | _=>false
 | .mp a,y=>match y with | .mp g=>Nat.beq a g | _=>false
 | .it a,y=>match y with | .it g=>Nat.beq a g | _=>false
 | .fW a b,y=>match y with | .fW g h=>Nat.beq a g&&U.beq b h | _=>false
 | .fh a,y=>match y with | .fh g=>Nat.beq a g | _=>false
 | .bad,y=>match y with | .bad=>true | _=>false
def dz:List U->List U->Bool
 | [],y=>match y with | []=>true | _=>false
 | a::as,y=>match y with | b::g=>U.beq a b&&dz as g | _=>false
def vI:List (List U)->List (List U)->Bool
 | [],y=>match y with | []=>true | _=>false
 | a::as,y=>match y with | b::g=>dz a b&&vI as g | _=>false
end
theorem iy {a b:Nat} (h:Nat.beq a b=true) :a=b:=mu h
mutual
theorem U.beq_eq:∀ {a b:U},U.beq a b=true->a=b
 | .bool a,b,h=>by cases b<;>simp only[U.beq] at h<;>first | cases h | (rename_i b;cases a<;>cases b<;>first | rfl | cases h)
 | .int k n,b,h=>by cases b<;>simp only[U.beq] at h<;>first | cases h | (simp only[bU,bK] at h;rw[h.1,h.2])
 | .str a,b,h=>by cases b<;>simp only[U.beq] at h<;>first | cases h | (simp only[bK] at h;rw[h])
 | .iA,b,h=>by cases b<;>simp only[U.beq] at h<;>first | rfl | cases h
 | .ad,b,h=>by cases b<;>simp only[U.beq] at h<;>first | rfl | cases h
 | .gY,b,h=>by cases b<;>simp only[U.beq] at h<;>first | rfl | cases h
 | .ic,b,h=>by cases b<;>simp only[U.beq] at h<;>first | rfl | cases h
 | .hS,b,h=>by cases b<;>simp only[U.beq] at h<;>first | rfl | cases h
 | .bad,b,h=>by cases b<;>simp only[U.beq] at h<;>first | rfl | cases h
 | .af a,b,h=>by cases b<;>simp only[U.beq] at h<;>first | cases h | rw[rX h]
 | .aX a,b,h=>by cases b<;>simp only[U.beq] at h<;>first | cases h | rw[rX h]
 | .ptr ..,b,h=>by cases b<;>simp only[U.beq] at h<;>first | cases h | (simp only[bU] at h;rw[iy h.1.1,iy h.1.2,iy h.2])
 | .b6 a n,b,h=>by cases b<;>simp only[U.beq] at h<;>first | cases h | (simp only[bU] at h;rw[rX h.1,iy h.2])
 | .Z ..,b,h=>by cases b<;>simp only[U.beq] at h<;>first | cases h | (simp only[bU] at h;rw[iy h.1.1.1.1.1,iy h.1.1.1.1.2,iy h.1.1.1.2,iy h.1.1.2,iy h.1.2,iy h.2])
 | .bu a n,b,h=>by cases b<;>simp only[U.beq] at h<;>first | cases h | (simp only[bU] at h;rw[iy h.1,Gu h.2])
 | .fn a n g,b,h=>by cases b<;>simp only[U.beq] at h<;>first | cases h | (simp only[bU] at h;rw[iy h.1.1,rX h.1.2,rX h.2])
 | .mp a,b,h=>by cases b<;>simp only[U.beq] at h<;>first | cases h | rw[iy h]
 | .it a,b,h=>by cases b<;>simp only[U.beq] at h<;>first | cases h | rw[iy h]
 | .fh a,b,h=>by cases b<;>simp only[U.beq] at h<;>first | cases h | rw[iy h]
 | .fW a n,b,h=>by cases b<;>simp only[U.beq] at h<;>first | cases h | (simp only[bU] at h;rw[iy h.1,U.beq_eq h.2])
theorem rX:∀ {a b:List U},dz a b=true->a=b
 | [],b,h=>by cases b<;>simp only[dz] at h<;>first | rfl | cases h
 | x::a,b,h=>by cases b<;>simp only[dz] at h<;>first | cases h | (simp only[bU] at h;rw[U.beq_eq h.1,rX h.2])
theorem Gu:∀ {a b:List (List U)},vI a b=true->a=b
 | [],b,h=>by cases b<;>simp only[vI] at h<;>first | rfl | cases h
 | x::a,b,h=>by cases b<;>simp only[vI] at h<;>first | cases h | (simp only[bU] at h;rw[rX h.1,Gu h.2])
end
def rc:U->Bool | .int .. | .str _ | .bool _=>true | _=>false
def pQ (P:bp) :Nat->aG->Bool
 | 0,_=>false
 | d+1,j=>match P.underlying j,ca P j with
  | some (.int _),_=>true
  | some .string,_=>true
  | some .bool,_=>true
  | some (.array n e),some h=>pQ P d e&&(match ca P e,dE P e with | some g,some _=>Nat.ble (n*g) h&&Nat.ble 1 g | _,_=>false)
  | some (.struct m),some h=>m.toList.all fun f=>pQ P d f.type&&(match ca P f.type,dE P f.type with | some g,some _=>Nat.ble (f.offset+g) h&&Nat.ble 1 g | _,_=>false)
  | _,_=>false
def kN (P:bp) (t:aG) (c:U) :Bool:=
 match c with
 | .af cs=>pQ P 8 t&&(match dE P t,ca P t with | some true,some g=>Nat.beq cs.length g | _,_=>false)&&cs.all rc
 | _=>false
def j5 (P:bp) (h:aG) (k:U) :List (U × U × Nat)->Nat->Option (Option (Nat × U))
 | [],_=>some none
 | (g,m,_) ::j,i=>match kN P h g with
  | false=>none
  | true=>match dK P 10000 h k g with
   | some true=>match U.beq k g with | true=>some (some (i,m)) | false=>none
   | some false=>j5 P h k j (i+1)
   | none=>none
def wL (h:aM) :U->Option (List (U × U × Nat))
 | .gY=>some []
 | .mp b=>match h.f b with | .map g _=>some g | _=>none
 | _=>none
def s5 (P:bp) (t:aG) :Option U:=((P.info? t).bind (·.zero)).map q5
def zj (P:bp) (h:aM) (t:aG) (m k:U) (j:Bool) :Option U:=
 match P.underlying t,wL h m with
 | some (.map g u),some q=>match kN P g k with
  | false=>none
  | true=>match j5 P g k q 0 with
   | some (some (_,o))=>some (if j then .aX [o,.bool true] else o)
   | some none=>(s5 P u).map fun p=>if j then .aX [p,.bool false] else p
   | none=>none
 | _,_=>none
def so (P:bp) (h:aM) (t:aG) (m k v:U) :Option aM:=
 match P.underlying t,m with
 | some (.map o _),.mp b=>match h.f b with
  | .map j g=>match kN P o k with
   | false=>none
   | true=>match j5 P o k j 0 with
    | some (some (i,_))=>some (h.set b (.map (j.modify i fun e=>(k,v,e.2.2)) g))
    | some none=>some (h.set b (.map (j++[(k,v,g)]) (g+1)))
    | none=>none
  | _=>none
 | _,_=>none
def sm (P:bp) (h:aM) (t:aG) (x:U) :Option U:=
 match P.underlying t,x with
 | some (.map _ _),.mp b=>match h.f b with | .map g _=>some (.int .i64 g.length) | _=>none
 | _,_=>none
def Ab (P:bp) (h:aM) (t:aG) (x:U) :Option (U × aM):=
 match P.underlying t,x with
 | some .string,.str s=>some (.it h.n,h.push (.iter s 0))
 | _,_=>none
def zy (h:aM) (x:U) :Option (U × aM):=
 match x with
 | .it b=>match h.f b with
  | .iter s pos=>match Nat.blt pos s.length with
   | true=>some (.aX [.bool true,.int .i64 pos,.int .i32 (Utf8.decode ⟨s.toArray⟩ pos).1],h.set b (.iter s (pos+(Utf8.decode ⟨s.toArray⟩ pos).2)))
   | false=>some (.aX [.bool false],h)
  | _=>none
 | _=>none
def lW:List UInt8->List UInt8->Int
 | [],[]=>0
 | [],_::_=>-1
 | _::_,[]=>1
 | a::as,b::g=>if a=b then lW as g else if a<b then -1 else 1
def tA (h:aM) (x:U) :Option (List UInt8):=match x with
 | .str s=>some s
 | x=>match contents h 1 x with
  | some (cs,_)=>jZ cs
  | none=>none
def vX (h:aM) :List U->Option U
 | [x,y]=>match tA h x,tA h y with
  | some a,some b=>some (.int .i64 (lW a b))
  | _,_=>none
 | _=>none
def wx (fn:Func) :Bool:=fn.body.isNone&&fn.name == "internal/bytealg.Compare"&&(fn.origin == ""||fn.origin == "internal/bytealg.Compare")
inductive mz where
 | val (g:U) (h:aM)
 | call (f:cj) (args:List U) (h:aM)
def zq:U->U->Option U
 | .int k x,.int g y=>if k=g then some (.int k (if y<x then y else x)) else none
 | _,_=>none
def oU:U->U->Option U
 | .int k x,.int g y=>if k=g then some (.int k (if x<y then y else x)) else none
 | _,_=>none
def fC:U:=.aX []
def vH (P:bp) (h:aM) (t:aG) (s x:U) :Option (U × aM):=
 match gh P t,asInt x with
 | some e,some n=>match ca P e,gK P e,ga P e with
  | some j,some g,some zero=>
   if zero.length=j/\0<=n/\n<9223372036854775808/\n.toNat*g<=dj then qD P h e j g s (cQ zero n.toNat) n.toNat else none
  | _,_,_=>none
 | _,_=>none
def mE (P:bp) (h:aM) (b:Builtin) (ts:List aG) (args:List U) :Option mz:=
 match b,ts,args with
 | .len,[j],[x]=>match sm P h j x with
  | some g=>some (.val g h)
  | none=>(sl P j x).map fun g=>.val g h
 | .append,[j,u],[s,x]=>match P.underlying u with
  | some (.int _)=>(vH P h j s x).map fun (g,h')=>.val g h'
  | none=>none
  | _=>(ox P h j s x).map fun (g,h')=>.val g h'
 | .copy,[j,_],[d,x]=>(tK P h j d x).map fun (g,h')=>.val g h'
 | .cap,[j],[x]=>(tE P j x).map fun g=>.val g h
 | .clear,[j],[x]=>(tH P h j x).map fun h'=>.val (.aX []) h'
 | .min,_,[x,y]=>(zq x y).map fun g=>.val g h
 | .max,_,[x,y]=>(oU x y).map fun g=>.val g h
 | _,_,_=>none
def wN (P:bp) (t:aG) (name:String) :Option cj:=
 match P.underlying t with
 | some (.pointer _) | none=>none
 | _=>match P.info? t with
  | some i=>match i.methods.find? (·.name == name) with
   | some g=>match g.path.toList,g.func with
    | [],some (f,false)=>some f
    | _,_=>none
   | none=>none
  | none=>none
def AK (t:aG) (z:U) (g:Bool) :U->Option U
 | .fW j h=>match Nat.beq j t with
  | true=>match g with | true=>some (.aX [h,.bool true]) | false=>some h
  | false=>match g with | true=>some (.aX [z,.bool false]) | false=>none
 | .hS=>match g with | true=>some (.aX [z,.bool false]) | false=>none
 | _=>none
def AL (P:bp) (t:aG) :Option U:=match P.underlying t with
 | some (.interface _) | none=>none
 | _=>s5 P t
def qI (P:bp) (h:aM) (g:aY->U) (c:Call) :Option mz:=
 match c.callee with
 | .builtin b=>mE P h b c.argTypes.toList (c.args.toList.map g)
 | .value f=>match g f with
  | .fn j first e3=>match P.funcs[j]? with
   | some fn=>if fn.body.isSome/\fn.name≠ "runtime.NumGoroutine" then some (.call j (first++c.args.toList.map g++e3) h)
    else if wx fn then (vX h (first++c.args.toList.map g++e3)).map fun m=>.val m h else none
   | none=>none
  | _=>none
 | .invoke x name=>match g x with
  | .fW o m=>match wN P o name with
   | some j=>match P.funcs[j]? with
    | some fn=>if fn.body.isSome/\fn.name≠ "runtime.NumGoroutine" then some (.call j (m::c.args.toList.map g) h) else none
    | none=>none
   | none=>none
  | _=>none
def cO (P:bp) (h:aM) (g:aY->U) (op:Op) :Option mz:=
 let m (x:Option U) :Option mz:=x.map fun y=>.val y h
 let w (x:Option (U × aM)) :Option mz:=x.map fun y=>.val y.1 y.2
 match op with
 | .move x | .assign x=>some (.val (g x) h)
 | .pick c a b=>match g c with | .bool j=>some (.val (if j then g a else g b) h) | _=>none
 | .alloc j=>(ga P j).map fun p=>.val (.ptr h.n 0 p.length) (h.push (.cells p.length p))
 | .box _ x=>(g x).cells.map fun cs=>.val (.ptr h.n 0 cs.length) (h.push (.cells cs.length cs))
 | .build j parts=>m (vN P j (parts.toList.map fun o=>(o.1,g o.2)))
 | .buildSlice j len parts=>w (yp P h j len (parts.toList.map fun o=>(o.1,g o.2)))
 | .load j a=>m (oT P h j (g a))
 | .store j a x=>(rp P h j (g a) (g x)).map fun h'=>.val fC h'
 | .nilCheck x=>match g x with | .ptr b t s=>some (.val (.ptr b t s) h) | .b6 c t=>some (.val (.b6 c t) h) | .fn f a b=>some (.val (.fn f a b) h) | _=>none
 | .binOp op j x y _=>m (ea P op j (g x) (g y))
 | .unOp op _ x=>m (rs op (g x))
 | .convert s d x=>match tB P s d (g x) with
  | some c=>some (.val c h)
  | none=>m (r4 P h s d (g x))
 | .makeInterface j x=>match P.underlying j with
  | some (.interface _) | none=>none
  | _=>some (.val (.fW j (g x)) h)
 | .makeFunc (.func f) first e3=>some (.val (.fn f (first.toList.map g) (e3.toList.map g)) h)
 | .makeSlice j l c=>w (zl P h j (g l) (g c))
 | .slice j x B z C=>m (xv P j (g x) (B.map g) (z.map g) (C.map g))
 | .fieldAddr s x f=>m (yS P s (g x) f)
 | .field j x f=>match g x,sa P j f with
  | .af cs,some v=>m (gm P v.type cs v.offset)
  | _,_=>none
 | .indexAddr j x i=>m (ww P j (g x) (g i))
 | .index j x i=>m (tX P j (g x) (g i))
 | .extract x i=>match g x with | .aX D=>m D[i]? | _=>none
 | .call c=>qI P h g c
 | .makeMap j r=>match P.underlying j,(match r with | none=>true | some x=>(asInt (g x)).isSome) with | some (.map _ _),true=>some (.val (.mp h.n) (h.push (.map [] 0))) | _,_=>none
 | .lookup j q k u=>m (zj P h j (g q) (g k) u)
 | .mapUpdate j q k x | .insert j q k x=>(so P h j (g q) (g k) (g x)).map fun h'=>.val fC h'
 | .range j x=>w (Ab P h j (g x))
 | .next it true=>w (zy h (g it))
 | .typeAssert x _ j u=>match AL P j with | some p=>m (AK j p u (g x)) | none=>none
 | _=>none
abbrev ag:=List U
theorem F {p:Prop} (h:p:=by omega) :p:=h
theorem V {p:Prop} (h:p:=by simp) :p:=h
structure M where
 r:Nat
 s:Nat
 T:Nat
abbrev b3:=Nat->Option M
def live:aq->Bool
 | .cells .. | .map .. | .iter ..=>true
 | _=>false
def lu:aq->Nat
 | .map ..=>1
 | .iter ..=>2
 | _=>0
def Own (h:aM) (muZ:b3) (k:Nat) :Prop:=∃ b g,live (h.f b)=true/\muZ b=some g/\g.r=k
def qv (h:aM) (b sz:Nat) :Prop:=h.f b=.dead\/∃ n cs,h.f b=.cells n cs/\sz<n
structure Cell (w:aT) (R:Nat->Prop) (h:aM) (muZ:b3) (b o:Nat) (v:aE) :Prop where
 here:w.cell? ⟨b,o,none⟩=some v
 one:v.oneCell'=true
 ro:R b
 free:¬ Own h muZ b
inductive aB (w:aT) (R:Nat->Prop) (h:aM) (muZ:b3) :U->aE->Prop where
 | bool (b:Bool) :aB w R h muZ (.bool b) (.bool b)
 | int (k:cU) (n:Int) :aB w R h muZ (.int k n) (.int k n)
 | str (J:ByteArray) :aB w R h muZ (.str J.data.toList) (.string J)
 | iA:aB w R h muZ .iA (.pointer none)
 | ad:aB w R h muZ .ad (.slice none 0 0)
 | gY:aB w R h muZ .gY (.map none)
 | ic:aB w R h muZ .ic .nilFunc
 | hS:aB w R h muZ .hS .nilIface
 | af (cs:ag) (t:Array aE) (F:t.size=cs.length) (h1:∀ (g:Nat) (m:aE),t[g]?=some m->m.oneCell'=true)
   (H:∀ (g:Nat) (c:U) (m:aE),cs[g]?=some c->t[g]?=some m->aB w R h muZ c m) :aB w R h muZ (.af cs) (.agg t)
 | aX (cs:ag) (t:Array aE) (F:t.size=cs.length)
   (H:∀ (g:Nat) (c:U) (m:aE),cs[g]?=some c->t[g]?=some m->aB w R h muZ c m) :aB w R h muZ (.aX cs) (.tuple t)
 | ptr (b j p:Nat) (cs:ag) (o:M) (C:h.f b=.cells p cs) (G:muZ b=some o) :
   aB w R h muZ (.ptr b j p) (.pointer (some ⟨o.r,o.s+j,none⟩))
 | jj (b j p:Nat) (a:Addr) (P:qv h b p) :aB w R h muZ (.ptr b j p) (.pointer (some a))
 | b6 (cs:ag) (j z K:Nat) (B:Nat->aE) (D:∀ g,g<cs.length->Cell w R h muZ z (K+g) (B g))
   (H:∀ (g:Nat) (c:U),cs[g]?=some c->aB w R h muZ c (B g)) :aB w R h muZ (.b6 cs j) (.pointer (some ⟨z,K+j,none⟩))
 | Z (q b j len cap p u:Nat) (cs:ag) (o:M) (C:h.f b=.cells p cs) (G:muZ b=some o) (F:len<=cap) (V:j+cap*q<=p)
   (D:(j+cap*q<p/\u=cap)\/(j+cap*q=p/\cap<=u/\o.s+j+u*q<=o.T)) :
   aB w R h muZ (.Z q b j len cap p) (.slice (some ⟨o.r,o.s+j,none⟩) len u)
 | ff (q b j len cap p u:Nat) (a:Addr) (F:len<=cap) (D:cap<=u) (P:qv h b p) :aB w R h muZ (.Z q b j len cap p) (.slice (some a) len u)
 | gp (q b j p:Nat) (a:Addr) (cs:ag) (o:M) (C:h.f b=.cells p cs) (G:muZ b=some o) :aB w R h muZ (.Z q b j 0 0 p) (.slice (some a) 0 0)
 | bu (q:Nat) (v:List (ag)) (z j cap:Nat) (B:Nat->Nat->aE) (F:v.length<=cap) (W:∀ e,e∈v->e.length=q)
   (D:∀ i g,i<v.length->g<q->Cell w R h muZ z (j+(i*q+g)) (B i g))
   (H:∀ (i:Nat) (e:ag),v[i]?=some e->∀ (g:Nat) (c:U),e[g]?=some c->aB w R h muZ c (B i g)) :
   aB w R h muZ (.bu q v) (.slice (some ⟨z,j,none⟩) v.length cap)
 | eH (q:Nat) (a:Addr) (cap:Nat) :aB w R h muZ (.bu q []) (.slice (some a) 0 cap)
 | fn (f:cj) (first e3:ag) (I cs:Array aE) (S:I.size=first.length) (D:cs.size=e3.length)
   (h1:∀ (g:Nat) (c:U) (m:aE),first[g]?=some c->I[g]?=some m->aB w R h muZ c m) (Q:∀ (g:Nat) (c:U) (m:aE),e3[g]?=some c->cs[g]?=some m->aB w R h muZ c m) :
   aB w R h muZ (.fn f first e3) (.func (.func f) I cs)
 | mp (b:Nat) (o:M) (C:lu (h.f b)=1) (G:muZ b=some o) :aB w R h muZ (.mp b) (.map (some o.r))
 | it (b:Nat) (o:M) (C:lu (h.f b)=2) (G:muZ b=some o) :aB w R h muZ (.it b) (.pointer (some ⟨o.r,0,none⟩))
 | fW (O:aG) (c:U) (m:aE) (H:aB w R h muZ c m) :aB w R h muZ (.fW O c) (.iface O m)
 | fh (l:Nat) :aB w R h muZ (.fh l) (.func (.yield l) #[] #[])
 | bad (m:aE) :aB w R h muZ .bad m
structure Ext0 (w:aT) (h:aM) (muZ:b3) (w' : aT) (h' : aM) (muZ' : b3) :Prop where
 os:w'.os=w.os
 tape:w'.tape=w.tape
 output:w'.output=w.output
 size:w.heap.size<=w'.heap.size
 bm:∀ k,k<w.heap.size->¬ Own h muZ k->w'.heap[k]?=w.heap[k]?
 own:∀ k,Own h' muZ' k->Own h muZ k\/w.heap.size<=k
 cells:∀ b sz cs m,h.f b=.cells sz cs->muZ b=some m->(∃ cs',h'.f b=.cells sz cs'/\muZ' b=some m)\/qv h' b sz
 gone:∀ b sz,qv h b sz->qv h' b sz
 wW:∀ b k m,lu (h.f b)=k+1->muZ b=some m->lu (h'.f b)=k+1/\muZ' b=some m
 n:h.n<=h'.n
 drawn:w.drawn<=w'.drawn:=by first | exact aN _ | exact rK _ | assumption
structure cZ (w:aT) (h:aM) (muZ:b3) (w' : aT) (h' : aM) (muZ' : b3) :Prop extends Ext0 w h muZ w' h' muZ' where
 nb:∀ b,b<h.n->muZ b=none->muZ' b=none
theorem Ext0.refl (w:aT) (h:aM) (muZ:b3) :Ext0 w h muZ w h muZ:=
 ⟨rfl,rfl,rfl,aN _,fun _ _ _=>rfl,fun _ h=>.inl h,fun b m cs j h1 g=>.inl ⟨cs,h1,g⟩,fun _ _ h=>h,fun _ _ _ h1 g=>⟨h1,g⟩,aN _,aN _⟩
theorem cZ.refl (w:aT) (h:aM) (muZ:b3) :cZ w h muZ w h muZ:=⟨.refl w h muZ,fun _ _ h=>h⟩
theorem Ext0.trans {w z w2:aT} {h h1 t:aM} {muZ B xP:b3} (a:Ext0 w h muZ z h1 B) (b:Ext0 z h1 B w2 t xP) :Ext0 w h muZ w2 t xP:=by
 refine⟨b.os.trans a.os,b.tape.trans a.tape,b.output.trans a.output,dC a.size b.size,?_,?_,?_,fun _ _ D=>b.gone _ _ (a.gone _ _ D),?_,dC a.n b.n,dC a.drawn b.drawn⟩
 ·intro k hk u;rw[b.bm k (nn hk a.size) (fun G=>(a.own k G).elim u F),a.bm k hk u]
 ·intro k hk;rcases b.own k hk with h | h
  ·exact a.own k h
  ·exact .inr (dC a.size h)
 ·intro g v cs m p q;rcases a.cells g v cs m p q with ⟨C,j,o⟩ | j
  ·exact b.cells g v C m j o
  ·exact .inr (b.gone _ _ j)
 ·intro g k m p q;obtain⟨j,o⟩:=a.wW g k m p q;exact b.wW g k m j o
theorem cZ.trans {w o w2:aT} {h h1 j:aM} {muZ p xP:b3} (a:cZ w h muZ o h1 p) (b:cZ o h1 p w2 j xP) :cZ w h muZ w2 j xP:=
 ⟨a.toExt0.trans b.toExt0,fun g m q=>b.nb g (nn m a.n) (a.nb g m q)⟩
theorem Cell.ext {w w' : aT} {h h' : aM} {muZ muZ' : b3} {R:Nat->Prop} {b o:Nat} {v:aE} (e:Ext0 w h muZ w' h' muZ') (c:Cell w R h muZ b o v) :Cell w' R h' muZ' b o v:=by
 have g:b<w.heap.size:=World.block_lt_of_cell? _ _ c.here;refine⟨?_,c.one,c.ro,fun j=>?_⟩
 ·rw[World.cell?_of_block (w:=w) (a:=⟨b,o,none⟩) (e.bm b g c.free)];exact c.here
 ·rcases e.own b j with h1 | h1
  ·exact c.free h1
  ·omega
theorem aB.j4 {w w' : aT} {h h' : aM} {muZ muZ' : b3} {R:Nat->Prop} {c:U} {v:aE} (e:Ext0 w h muZ w' h' muZ') (C:aB w R h muZ c v) :aB w' R h' muZ' c v:=by
 induction C with
 | bool b=>exact .bool b
 | int k n=>exact .int k n
 | str Q=>exact .str Q
 | iA=>exact .iA
 | ad=>exact .ad
 | gY=>exact .gY
 | ic=>exact .ic
 | hS=>exact .hS
 | af cs P q h1 C B=>exact .af cs P q h1 B
 | aX cs P q C B=>exact .aX cs P q B
 | ptr b g j cs m t z=>
  rcases e.cells b j cs m t z with ⟨D,h1,p⟩ | h1
  ·exact .ptr b g j D m h1 p
  ·exact .jj b g j _ h1
 | jj b g j a I=>exact .jj b g j a (e.gone _ _ I)
 | b6 cs g H ah O u C B=>exact .b6 cs g H ah O (fun K J=>(u K J).ext e) B
 | Z o b g len cap j G cs m t z q X u=>
  rcases e.cells b j cs m t z with ⟨D,h1,p⟩ | h1
  ·exact .Z o b g len cap j G D m h1 p q X u
  ·exact .ff o b g len cap j G _ q F h1
 | ff o b g len cap j G a q u I=>exact .ff o b g len cap j G a q u (e.gone _ _ I)
 | gp o b g j a cs m t z=>
  rcases e.cells b j cs m t z with ⟨D,h1,p⟩ | h1
  ·exact .gp o b g j a D m h1 p
  ·exact .ff o b g 0 0 j 0 a (aN _) (aN _) h1
 | bu o S H g cap O q Y u C B=>exact .bu o S H g cap O q Y (fun i K W J=>(u i K W J).ext e) B
 | eH o a cap=>exact .eH o a cap
 | fn f first e3 T cs V u h1 p ae ag=>exact .fn f first e3 T cs V u ae ag
 | mp b m t z=>
  obtain⟨h1,p⟩:=e.wW b 0 m t z;exact .mp b m h1 p
 | it b m t z=>
  obtain⟨h1,p⟩:=e.wW b 1 m t z;exact .it b m h1 p
 | fW ai c v C B=>exact .fW ai c v B
 | fh l=>exact .fh l
 | bad v=>exact .bad v
theorem aB.ext {w w' : aT} {h h' : aM} {muZ muZ' : b3} {R:Nat->Prop} {c:U} {v:aE} (e:cZ w h muZ w' h' muZ') (g:aB w R h muZ c v) :aB w' R h' muZ' c v:=g.j4 e.toExt0
def qs (w:aT) (R:Nat->Prop) (h:aM) (muZ:b3) (m:M) :aq->Prop
 | .cells u cs=>cs.length=u/\m.s+u<=m.T/\∃ arr e p,w.heap[m.r]?=some (.cells arr e p)/\arr.size=m.T/\(p=(0,0)\/m.T<p.1) ∧
   ∀ (j:Nat) (c:U),cs[j]?=some c->∃ g:aE,arr[m.s+j]?=some g/\g.oneCell'=true/\aB w R h muZ c g
 | .map t v=>∃ o,w.heap[m.r]?=some (.map o v)/\o.size=t.length ∧
   ∀ (j:Nat) (k g:U) (b:Nat),t[j]?=some (k,g,b)->∃ x:k7,o[j]?=some x/\aB w R h muZ k x.key/\aB w R h muZ g x.val/\x.born=b
 | .iter s pos=>∃ q:ByteArray,q.data.toList=s/\w.heap[m.r]?=some (.stringIter q pos)
 | _=>True
theorem qs.ext {w w' : aT} {h h' : aM} {muZ muZ' : b3} {R:Nat->Prop} {m:M} (e:Ext0 w h muZ w' h' muZ') (p:w'.heap[m.r]?=w.heap[m.r]?) :
  ∀ {c:aq},qs w R h muZ m c->qs w' R h' muZ' m c
 | .cells J cs,⟨h1,g,arr,G,B,j,C,D,F⟩=>⟨h1,g,arr,G,B,p.trans j,C,D,fun q c o=>let ⟨t,a,b,d⟩:=F q c o;⟨t,a,b,d.j4 e⟩⟩
 | .map I H,⟨z,h1,g,j⟩=>⟨z,p.trans h1,g,fun q k t b o=>let ⟨x,a,u,d,f⟩:=j q k t b o;⟨x,a,u.j4 e,d.j4 e,f⟩⟩
 | .iter s pos,⟨v,h1,g⟩=>⟨v,h1,p.trans g⟩
 | .none,_=>trivial
 | .dead,_=>trivial
structure bF (R:Nat->Prop) (B:Nat) (w:aT) (h:aM) (muZ:b3) :Prop where
 blk:∀ b m,muZ b=some m->qs w R h muZ m (h.f b)
 inj:∀ b g m j,live (h.f b)=true->live (h.f g)=true->muZ b=some m->muZ g=some j->m.r=j.r->b=g
 base:∀ b m,live (h.f b)=true->muZ b=some m->B<=m.r
 fresh:∀ b,h.n<=b->h.f b=.none
 up:∀ k,B<=k->R k
 size:B<=w.heap.size
 iX:∀ b,h.n<=b->muZ b=none
theorem bF.kx {R:Nat->Prop} {B:Nat} {w:aT} {h:aM} {muZ:b3} (rel:bF R B w h muZ) {b:Nat} {m:M} (g:muZ b=some m) :b<h.n:=by
 rcases fF b h.n with h1 | h1
 ·exact h1
 ·rw[rel.iX b h1] at g;cases g
theorem bF.lt {R:Nat->Prop} {B:Nat} {w:aT} {h:aM} {muZ:b3} (rel:bF R B w h muZ) {b:Nat} {m:M} (p:live (h.f b)=true) (q:muZ b=some m) :m.r<w.heap.size:=by
 have j:=rel.blk b m q;cases o:h.f b with
 | none=>rw[o] at p;cases p
 | dead=>rw[o] at p;cases p
 | cells D cs=>
  rw[o] at j;obtain⟨_,_,arr,F,C,g,_⟩:=j;rcases fF m.r w.heap.size with h | h
  ·exact h
  ·rw[qj h] at g;cases g
 | map v u=>
  rw[o] at j;obtain⟨z,g,_⟩:=j;rcases fF m.r w.heap.size with h | h
  ·exact h
  ·rw[qj h] at g;cases g
 | iter s pos=>
  rw[o] at j;obtain⟨t,_,g⟩:=j;rcases fF m.r w.heap.size with h | h
  ·exact h
  ·rw[qj h] at g;cases g
theorem bF.qd {R:Nat->Prop} {B:Nat} {w w' : aT} {h h' : aM} {muZ muZ' : b3} (rel:bF R B w h muZ) (e:Ext0 w h muZ w' h' muZ') (o:Nat)
  (u:∀ b,b≠o->live (h'.f b)=true->h'.f b=h.f b/\muZ' b=muZ b/\∀ m,muZ b=some m->w'.heap[m.r]?=w.heap[m.r]?)
  (J:∀ m,muZ' o=some m->qs w' R h' muZ' m (h'.f o))
  (H:∀ b m v,b≠o->live (h'.f b)=true->live (h'.f o)=true->muZ b=some m->muZ' o=some v->m.r≠v.r)
  (K:∀ m,live (h'.f o)=true->muZ' o=some m->B<=m.r)
  (P:∀ b,h'.n<=b->h'.f b=.none) (Q:∀ b,h'.n<=b->muZ' b=none) :bF R B w' h' muZ':=by
 refine⟨?_,?_,?_,P,rel.up,dC rel.size e.size,Q⟩
 ·intro b m j;by_cases p:b=o
  ·subst p;exact J m j
  ·cases g:live (h'.f b) with
   | false=>cases O:h'.f b<;>first | trivial | (rw[O] at g;cases g)
   | true=>
    obtain⟨h1,q,C⟩:=u b p g;rw[q] at j;rw[h1];exact (rel.blk b m j).ext e (C m j)
 ·intro b z m v g t j F G;by_cases p:b=o<;>by_cases D:z=o
  ·rw[p,D]
  ·subst p;obtain⟨h1,q,C⟩:=u z D t;rw[q] at F;exact bV G.symm (H z v m D t g F j)
  ·subst D;obtain⟨h1,q,C⟩:=u b p g;rw[q] at j;exact bV G (H b m v p g t j F)
  ·obtain⟨h1,q,_⟩:=u b p g;obtain⟨C,I,_⟩:=u z D t;rw[h1] at g;rw[q] at j;rw[C] at t;rw[I] at F;exact rel.inj b z m v g t j F G
 ·intro b m g j;by_cases p:b=o
  ·subst p;exact K m g j
  ·obtain⟨h1,q,_⟩:=u b p g;rw[h1] at g;rw[q] at j;exact rel.base b m g j
theorem bF.push {R:Nat->Prop} {B:Nat} {w w' : aT} {h:aM} {muZ:b3} (rel:bF R B w h muZ) (cs:ag) (arr:Array aE) (t:aG)
  (O:w'.os=w.os) (S:w'.tape=w.tape) (P:w'.output=w.output) (u:w'.heap=w.heap.push (.cells arr t (0,0)))
  (Q:cs.length<=arr.size) (T:∀ (j:Nat) (c:U),cs[j]?=some c->∃ v:aE,arr[j]?=some v/\v.oneCell'=true/\aB w R h muZ c v) (I:w.drawn<=w'.drawn:=by first | exact aN _ | exact rK _ | assumption) :
  cZ w h muZ w' (h.push (.cells cs.length cs)) (br muZ h.n (some ⟨w.heap.size,0,arr.size⟩)) ∧
  bF R B w' (h.push (.cells cs.length cs)) (br muZ h.n (some ⟨w.heap.size,0,arr.size⟩)):=by
 have z:h.f h.n=.none:=rel.fresh _ (aN _);have e:cZ w h muZ w' (h.push (.cells cs.length cs)) (br muZ h.n (some ⟨w.heap.size,0,arr.size⟩)):=by
  refine⟨⟨O,S,P,by simp[u],?_,?_,?_,?_,?_,?_,I⟩,?_⟩
  ·intro k hk _;rw[u,s6,ai F]
  ·rintro k ⟨b,q,o,m,rfl⟩;by_cases g:b=h.n
   ·subst g;simp at m;subst m;exact .inr (aN _)
   ·rw[bS _ _ _ _ g] at m;simp only[dV,bS _ _ _ _ g] at o;exact .inl ⟨b,q,o,m,rfl⟩
  ·intro b V C q g m;have:b≠h.n:=fun p=>by rw[p,z] at g;cases g
   exact .inl ⟨C,by simp only[dV,bS _ _ _ _ this];exact g,by rw[bS _ _ _ _ this];exact m⟩
  ·rintro b V (g | ⟨n,C,g,K⟩)
   ·have:b≠h.n:=fun p=>by rw[p,z] at g;cases g
    exact .inl (by simp only[dV,bS _ _ _ _ this];exact g)
   ·have:b≠h.n:=fun p=>by rw[p,z] at g;cases g
    exact .inr ⟨n,C,by simp only[dV,bS _ _ _ _ this];exact g,K⟩
  ·intro b k q g m;have:b≠h.n:=fun p=>by rw[p,z] at g;cases g
   exact⟨by simp only[dV,bS _ _ _ _ this];exact g,by rw[bS _ _ _ _ this];exact m⟩
  ·simp[jk]
  ·intro b g m;rw[bS _ _ _ _ F];exact m
 refine⟨e,rel.qd e.toExt0 h.n ?_ ?_ ?_ ?_ ?_ ?_⟩
 ·intro b g o;simp only[dV,bS _ _ _ _ g] at o ⊢;exact⟨trivial,trivial,fun q m=>by rw[u,s6,ai (by have:=rel.lt o m;omega)]⟩
 ·intro q m;simp at m;subst m;simp only[dV,fK];refine⟨rfl,by simpa using Q,arr,t,(0,0),by simp[u],rfl,.inl rfl,fun j c J=>?_⟩;obtain⟨v,h1,G,H⟩:=T j c J;exact⟨v,by simpa using h1,G,H.ext e⟩
 ·intro b q W g o _ m D;simp only[dV,bS _ _ _ _ g] at o;simp at D;subst D;have:=rel.lt o m;simp only[ne_eq];omega
 ·intro q _ m;simp at m;subst m;exact rel.size
 ·intro b g;simp only[dV,jk] at g ⊢;rw[bS _ _ _ _ F];exact rel.fresh b F
 ·intro b g;simp only[jk] at g;rw[bS _ _ _ _ F];exact rel.iX b F
theorem bF.same {R:Nat->Prop} {B:Nat} {w:aT} {h h' : aM} {muZ:b3} (rel:bF R B w h muZ) (g:h'.f=h.f) (C:h'.n=h.n) :cZ w h muZ w h' muZ/\bF R B w h' muZ:=by
 have e:cZ w h muZ w h' muZ:=by
  refine⟨⟨rfl,rfl,rfl,aN _,fun _ _ _=>rfl,?_,?_,?_,?_,F,aN _⟩,fun _ _ j=>j⟩
  ·rintro k ⟨o,p,u,m,rfl⟩;rw[g] at u;exact .inl ⟨o,p,u,m,rfl⟩
  ·intro o D z p q m;exact .inl ⟨z,by rw[g];exact q,m⟩
  ·intro o D t;unfold qv at t ⊢;rw[g];exact t
  ·intro o H p q m;exact⟨by rw[g];exact q,m⟩
 refine⟨e,rel.qd e.toExt0 h.n (fun b _ _=>⟨by rw[g],rfl,fun _ _=>rfl⟩) (fun v j=>?_) (fun b v p _ _ _ _ j=>?_) (fun v _ j=>?_) (fun b G=>by rw[g];exact rel.fresh b F) (by rw[C];exact rel.iX)⟩
 all_goals (rw[rel.iX h.n (aN _)] at j;cases j)
theorem bF.kill {R:Nat->Prop} {B:Nat} {w:aT} {h h' : aM} {muZ:b3} (rel:bF R B w h muZ) {b sz:Nat} {cs:ag} (D:h.f b=.cells sz cs) (K:b<h.n)
  (m:h'.f=br h.f b .dead) (I:h'.n=h.n) :cZ w h muZ w h' muZ/\bF R B w h' muZ:=by
 have e:cZ w h muZ w h' muZ:=by
  refine⟨⟨rfl,rfl,rfl,aN _,fun _ _ _=>rfl,?_,?_,?_,?_,F,aN _⟩,fun _ _ H=>H⟩
  ·rintro k ⟨j,v,u,t,rfl⟩;rw[m] at u;by_cases g:j=b
   ·subst g;simp[live] at u
   ·rw[bS _ _ _ _ g] at u;exact .inl ⟨j,v,u,t,rfl⟩
  ·intro j J z v o t;by_cases g:j=b
   ·subst g;exact .inr (.inl (by rw[m];simp))
   ·exact .inl ⟨z,by rw[m,bS _ _ _ _ g];exact o,t⟩
  ·rintro j J q;by_cases g:j=b
   ·subst g;exact .inl (by rw[m];simp)
   ·rcases q with q | ⟨n,z,q,G⟩
    ·exact .inl (by rw[m,bS _ _ _ _ g];exact q)
    ·exact .inr ⟨n,z,by rw[m,bS _ _ _ _ g];exact q,G⟩
  ·intro j O v o t;by_cases g:j=b
   ·subst g;rw[D] at o;cases o
   ·exact⟨by rw[m,bS _ _ _ _ g];exact o,t⟩
 refine⟨e,rel.qd e.toExt0 b ?_ ?_ ?_ ?_ ?_ (by rw[I];exact rel.iX)⟩
 ·intro j g p;rw[m,bS _ _ _ _ g];exact⟨rfl,rfl,fun _ _=>rfl⟩
 ·intro C _;rw[m];simp[qs]
 ·intro j C v _ _ p;rw[m] at p;simp[live] at p
 ·intro C p;rw[m] at p;simp[live] at p
 ·intro j o;rw[m,bS _ _ _ _ F];exact rel.fresh j F
theorem bF.KS {R:Nat->Prop} {B:Nat} {w:aT} {h h' : aM} {muZ:b3} (rel:bF R B w h muZ) {b sz off:Nat} {cs:ag} {m:M} (J:h.f b=.cells sz cs) (C:muZ b=some m) (au:off<=sz)
  (t:h'.f=br (br h.f b .dead) h.n (.cells (sz - off) (cs.drop off))) (ar:h'.n=h.n+1) :
  cZ w h muZ w h' (br muZ h.n (some ⟨m.r,m.s+off,m.T⟩))/\bF R B w h' (br muZ h.n (some ⟨m.r,m.s+off,m.T⟩)):=by
 have aq:=rel.kx C;have H:h.f h.n=.none:=rel.fresh _ (aN _);have K:live (h.f b)=true:=by rw[J];rfl
 have e:cZ w h muZ w h' (br muZ h.n (some ⟨m.r,m.s+off,m.T⟩)):=by
  refine⟨⟨rfl,rfl,rfl,aN _,fun _ _ _=>rfl,?_,?_,?_,?_,F,aN _⟩,fun dF p o=>by rw[bS _ _ _ _ F];exact o⟩
  ·rintro k ⟨dF,D,z,o,rfl⟩;rw[t] at z;by_cases g:dF=h.n
   ·subst g;simp at o;subst o;exact .inl ⟨b,m,K,C,rfl⟩
   ·rw[bS _ _ _ _ g] at z o;by_cases j:dF=b
    ·subst j;simp[live] at z
    ·rw[bS _ _ _ _ j] at z;exact .inl ⟨dF,D,z,o,rfl⟩
  ·intro dF am G D p o;have g:dF≠h.n:=fun v=>by rw[v,H] at p;cases p
   by_cases j:dF=b
   ·subst j;exact .inr (.inl (by rw[t,bS _ _ _ _ g];simp))
   ·exact .inl ⟨G,by rw[t,bS _ _ _ _ g,bS _ _ _ _ j];exact p,by rw[bS _ _ _ _ g];exact o⟩
  ·rintro dF am q;have g:dF≠h.n:=fun v=>by
    subst v;rcases q with q | ⟨n,G,q,_⟩
    ·rw[H] at q;cases q
    ·rw[H] at q;cases q
   by_cases j:dF=b
   ·subst j;exact .inl (by rw[t,bS _ _ _ _ g];simp)
   ·rcases q with q | ⟨n,G,q,aj⟩
    ·exact .inl (by rw[t,bS _ _ _ _ g,bS _ _ _ _ j];exact q)
    ·exact .inr ⟨n,G,by rw[t,bS _ _ _ _ g,bS _ _ _ _ j];exact q,aj⟩
  ·intro dF av D p o;have g:dF≠h.n:=fun v=>by rw[v,H] at p;cases p
   by_cases j:dF=b
   ·subst j;rw[J] at p;cases p
   ·exact⟨by rw[t,bS _ _ _ _ g,bS _ _ _ _ j];exact p,by rw[bS _ _ _ _ g];exact o⟩
 have Q:∀ dF,dF≠h.n->live (h'.f dF)=true->dF≠b/\h'.f dF=h.f dF:=fun dF g u=>by
  rw[t,bS _ _ _ _ g] at u ⊢;by_cases j:dF=b
  ·subst j;simp[live] at u
  ·exact⟨j,by rw[bS _ _ _ _ j]⟩
 refine⟨e,rel.qd e.toExt0 h.n ?_ ?_ ?_ ?_ ?_ ?_⟩
 ·intro dF g u;exact⟨(Q dF g u).2,by rw[bS _ _ _ _ g],fun _ _=>rfl⟩
 ·intro D o;simp at o;subst o;rw[t,fK];have O:=rel.blk b m C;rw[J] at O;obtain⟨h1,I,arr,ao,W,X,Y,ae,ah⟩:=O;refine⟨by simp;omega,by simp only;omega,arr,ao,W,X,Y,ae,fun ak c P=>?_⟩;rw[gx] at P;obtain⟨ap,S,U,V⟩:=ah (off+ak) c P;exact⟨ap,by simp only;rw[i4];exact S,U,V.ext e⟩
 ·intro dF al aw g u _ h1 I v;simp at I;subst I;obtain⟨j,ai⟩:=Q dF g u;rw[ai] at u;exact j (rel.inj dF b al m u K h1 C v)
 ·intro D _ o;simp at o;subst o;exact rel.base b m K C
 ·intro dF p;rw[t,bS _ _ _ _ F,bS _ _ _ _ F];exact rel.fresh dF F
 ·intro dF p;rw[bS _ _ _ _ F];exact rel.iX dF F
theorem bF.Kf {R:Nat->Prop} {B:Nat} {w w' : aT} {h:aM} {muZ:b3} (rel:bF R B w h muZ) (c:aq) (o:Obj) {k:Nat} (hk:lu c=k+1)
  (H:w'.os=w.os) (J:w'.tape=w.tape) (I:w'.output=w.output) (v:w'.heap=w.heap.push o)
  (G:qs w' R (h.push c) (br muZ h.n (some ⟨w.heap.size,0,0⟩)) ⟨w.heap.size,0,0⟩ c) (C:w.drawn<=w'.drawn:=by first | exact aN _ | exact rK _ | assumption) :
  cZ w h muZ w' (h.push c) (br muZ h.n (some ⟨w.heap.size,0,0⟩))/\bF R B w' (h.push c) (br muZ h.n (some ⟨w.heap.size,0,0⟩)):=by
 have t:h.f h.n=.none:=rel.fresh _ (aN _);have O:lu aq.none=0:=rfl;have e:cZ w h muZ w' (h.push c) (br muZ h.n (some ⟨w.heap.size,0,0⟩)):=by
  refine⟨⟨H,J,I,by simp[v],?_,?_,?_,?_,?_,?_,C⟩,?_⟩
  ·intro k hk _;rw[v,s6,ai F]
  ·rintro k ⟨b,q,m,j,rfl⟩;by_cases g:b=h.n
   ·subst g;simp at j;subst j;exact .inr (aN _)
   ·rw[bS _ _ _ _ g] at j;simp only[dV,bS _ _ _ _ g] at m;exact .inl ⟨b,q,m,j,rfl⟩
  ·intro b K u q g j;have:b≠h.n:=fun p=>by rw[p,t] at g;cases g
   exact .inl ⟨u,by simp only[dV,bS _ _ _ _ this];exact g,by rw[bS _ _ _ _ this];exact j⟩
  ·rintro b K (g | ⟨n,u,g,D⟩)
   ·have:b≠h.n:=fun p=>by rw[p,t] at g;cases g
    exact .inl (by simp only[dV,bS _ _ _ _ this];exact g)
   ·have:b≠h.n:=fun p=>by rw[p,t] at g;cases g
    exact .inr ⟨n,u,by simp only[dV,bS _ _ _ _ this];exact g,D⟩
  ·intro b k q g j;have:b≠h.n:=fun p=>by rw[p,t] at g;cases g
   exact⟨by simp only[dV,bS _ _ _ _ this];exact g,by rw[bS _ _ _ _ this];exact j⟩
  ·simp[jk]
  ·intro b g j;rw[bS _ _ _ _ F];exact j
 refine⟨e,rel.qd e.toExt0 h.n ?_ ?_ ?_ ?_ ?_ ?_⟩
 ·intro b g m;simp only[dV,bS _ _ _ _ g] at m ⊢;exact⟨trivial,trivial,fun q j=>by rw[v,s6,ai (by have:=rel.lt m j;omega)]⟩
 ·intro q j;simp at j;subst j;simp only[dV,fK];exact G
 ·intro b q P g m _ j z;simp only[dV,bS _ _ _ _ g] at m;simp at z;subst z;have:=rel.lt m j;simp only[ne_eq];omega
 ·intro q _ j;simp at j;subst j;exact rel.size
 ·intro b g;simp only[dV,jk] at g ⊢;rw[bS _ _ _ _ F];exact rel.fresh b F
 ·intro b g;simp only[jk] at g ⊢;rw[bS _ _ _ _ F];exact rel.iX b F
theorem bF.Kj {R:Nat->Prop} {B:Nat} {w w' : aT} {h:aM} {muZ:b3} (rel:bF R B w h muZ) {b k:Nat} {c c' : aq} {m:M}
  (D:h.f b=c) (hk:lu c=k+1) (H:lu c'=k+1) (q:muZ b=some m)
  (V:w'.os=w.os) (X:w'.tape=w.tape) (W:w'.output=w.output) (Y:w'.heap.size=w.heap.size) (K:∀ k,k≠m.r->w'.heap[k]?=w.heap[k]?)
  (U:Ext0 w h muZ w' (h.set b c') muZ->qs w' R (h.set b c') muZ m c') (P:w.drawn<=w'.drawn:=by first | exact aN _ | exact rK _ | assumption) :
  cZ w h muZ w' (h.set b c') muZ/\bF R B w' (h.set b c') muZ:=by
 have C:live (h.f b)=true:=by rw[D];cases c<;>simp[lu] at hk<;>rfl
 have ag:live c'=true:=by cases c'<;>simp[lu] at H<;>rfl
 have J:∀ F cs,h.f b≠.cells F cs:=fun F cs o=>by rw[D] at o;subst o;simp[lu] at hk
 have T:h.f b≠.dead:=fun o=>by rw[D] at o;subst o;simp[lu] at hk
 have e:cZ w h muZ w' (h.set b c') muZ:=by
  refine⟨⟨V,X,W,Bt Y.symm,?_,?_,?_,?_,?_,aN _,P⟩,fun _ _ q=>q⟩
  ·intro k hk S;exact K k (fun o=>S ⟨b,m,C,q,o.symm⟩)
  ·rintro k ⟨j,u,I,p,rfl⟩;by_cases g:j=b
   ·subst g;exact .inl ⟨j,u,C,p,rfl⟩
   ·simp only[dm,bS _ _ _ _ g] at I;exact .inl ⟨j,u,I,p,rfl⟩
  ·intro j F cs u t p;have g:j≠b:=fun o=>by subst o;exact J _ _ t
   exact .inl ⟨cs,by simp only[dm,bS _ _ _ _ g];exact t,p⟩
  ·rintro j F (v | ⟨n,O,v,Q⟩)
   ·have g:j≠b:=fun o=>by subst o;exact T v
    exact .inl (by simp only[dm,bS _ _ _ _ g];exact v)
   ·have g:j≠b:=fun o=>by subst o;exact J _ _ v
    exact .inr ⟨n,O,by simp only[dm,bS _ _ _ _ g];exact v,Q⟩
  ·intro j ah u t p;by_cases g:j=b
   ·subst g;refine⟨?_,p⟩;simp only[dm,fK];rw[D,hk] at t;rw[H];exact t
   ·exact⟨by simp only[dm,bS _ _ _ _ g];exact t,p⟩
 refine⟨e,rel.qd e.toExt0 b ?_ ?_ ?_ ?_ ?_ rel.iX⟩
 ·intro j g z;simp only[dm,bS _ _ _ _ g] at z ⊢;exact⟨trivial,trivial,fun u p=>K _ (fun o=>g (rel.inj j b u m z C p q o))⟩
 ·intro u p;rw[q] at p;cases p;simp only[dm,fK];exact U e.toExt0
 ·intro j ae ai g z _ h1 G o;rw[q] at G;cases G;simp only[dm,bS _ _ _ _ g] at z;exact g (rel.inj j b ae m z C h1 q o)
 ·intro u _ p;rw[q] at p;cases p;exact rel.base b m C q
 ·intro j t;by_cases g:j=b
  ·subst g;have:=rel.kx q;simp only[hX] at t;omega
  ·simp only[dm,bS _ _ _ _ g];exact rel.fresh j t
theorem bF.write {R:Nat->Prop} {B:Nat} {w w' : aT} {h:aM} {muZ:b3} (rel:bF R B w h muZ) {b sz sz' : Nat} {cs cs' : ag} {m:M} {arr arr' : Array aE} {t:aG} {H:Nat × Nat}
  (G:h.f b=.cells sz cs) (D:muZ b=some m) (av:w.heap[m.r]?=some (.cells arr t H)) (S:arr.size=m.T) (Y:H=(0,0)\/m.T<H.1)
  (ak:w'.os=w.os) (ao:w'.tape=w.tape) (al:w'.output=w.output) (ar:w'.heap.size=w.heap.size)
  (aq:w'.heap[m.r]?=some (.cells arr' t H)) (O:∀ k,k≠m.r->w'.heap[k]?=w.heap[k]?) (V:arr'.size=arr.size)
  (ah:cs'.length=sz') (au:sz<=sz') (X:m.s+sz'<=m.T)
  (ap:∀ (j:Nat) (c:U),cs'[j]?=some c->∃ v:aE,arr'[m.s+j]?=some v/\v.oneCell'=true/\aB w R h muZ c v) (W:w.drawn<=w'.drawn:=by first | exact aN _ | exact rK _ | assumption) :
  cZ w h muZ w' (h.set b (.cells sz' cs')) muZ/\bF R B w' (h.set b (.cells sz' cs')) muZ:=by
 have I:live (h.f b)=true:=by rw[G];rfl
 have e:cZ w h muZ w' (h.set b (.cells sz' cs')) muZ:=by
  refine⟨⟨ak,ao,al,Bt ar.symm,?_,?_,?_,?_,?_,aN _,W⟩,fun _ _ D=>D⟩
  ·intro k hk aj;exact O k (fun u=>aj ⟨b,m,I,D,u.symm⟩)
  ·rintro k ⟨o,z,C,q,rfl⟩;by_cases p:o=b
   ·subst p;exact .inl ⟨o,z,I,q,rfl⟩
   ·simp only[dm,bS _ _ _ _ p] at C;exact .inl ⟨o,z,C,q,rfl⟩
  ·intro o ay J z g q;by_cases p:o=b
   ·subst p;rw[G] at g;cases g;by_cases am:sz'=sz
    ·exact .inl ⟨cs',by simp[dm,am],q⟩
    ·exact .inr (.inr ⟨sz',cs',by simp[dm],F⟩)
   ·exact .inl ⟨J,by simp only[dm,bS _ _ _ _ p];exact g,q⟩
  ·rintro o ax (g | ⟨n,J,g,ai⟩)
   ·have p:o≠b:=fun u=>by rw[u,G] at g;cases g
    exact .inl (by simp only[dm,bS _ _ _ _ p];exact g)
   ·by_cases p:o=b
    ·subst p;rw[G] at g;cases g;exact .inr ⟨sz',cs',by simp[dm],F⟩
    ·exact .inr ⟨n,J,by simp only[dm,bS _ _ _ _ p];exact g,ai⟩
  ·intro o k z g q;have p:o≠b:=fun u=>by rw[u,G] at g;cases g
   exact⟨by simp only[dm,bS _ _ _ _ p];exact g,q⟩
 refine⟨e,rel.qd e.toExt0 b ?_ ?_ ?_ ?_ ?_ ?_⟩
 ·intro o p C;simp only[dm,bS _ _ _ _ p] at C ⊢;exact⟨trivial,trivial,fun z q=>O _ (fun u=>p (rel.inj o b z m C I q D u))⟩
 ·intro z q;rw[D] at q;cases q;simp only[dm,fK];refine⟨ah,X,arr',t,H,aq,V.trans S,Y,fun j c ae=>?_⟩;obtain⟨v,h1,P,Q⟩:=ap j c ae;exact⟨v,h1,P,Q.ext e⟩
 ·intro o z aw p C _ q K u;rw[D] at K;cases K;simp only[dm,bS _ _ _ _ p] at C;exact p (rel.inj o b z m C I q D u)
 ·intro z _ q;exact rel.base b z I q
 ·intro o g;simp only[dm,hX] at g ⊢;have p:o≠b:=fun u=>by
   have:=rel.fresh o g;rw[u,G] at this;cases this
  rw[bS _ _ _ _ p];exact rel.fresh o g
 ·intro o g;exact rel.iX o g
theorem bF.move {R:Nat->Prop} {B:Nat} {w w' : aT} {h:aM} {muZ:b3} (rel:bF R B w h muZ) {b sz sz' : Nat} {cs cs' : ag} {m:M} {arr:Array aE} {t:aG}
  (D:h.f b=.cells sz cs) (I:muZ b=some m)
  (W:w'.os=w.os) (Y:w'.tape=w.tape) (X:w'.output=w.output) (G:w'.heap=w.heap.push (.cells arr t (0,0)))
  (T:cs'.length=sz') (ah:sz<sz') (Q:sz'<=arr.size)
  (ae:∀ (j:Nat) (c:U),cs'[j]?=some c->∃ v:aE,arr[j]?=some v/\v.oneCell'=true/\aB w R h muZ c v) (P:w.drawn<=w'.drawn:=by first | exact aN _ | exact rK _ | assumption) :
  cZ w h muZ w' (h.set b (.cells sz' cs')) (br muZ b (some ⟨w.heap.size,0,arr.size⟩))/\bF R B w' (h.set b (.cells sz' cs')) (br muZ b (some ⟨w.heap.size,0,arr.size⟩)):=by
 have aj:live (h.f b)=true:=by rw[D];rfl
 have e:cZ w h muZ w' (h.set b (.cells sz' cs')) (br muZ b (some ⟨w.heap.size,0,arr.size⟩)):=by
  refine⟨⟨W,Y,X,by simp[G],?_,?_,?_,?_,?_,aN _,P⟩,?_⟩
  ·intro k hk ak;rw[G,s6,ai F]
  ·rintro k ⟨q,C,z,p,rfl⟩;by_cases g:q=b
   ·subst g;simp at p;subst p;exact .inr (aN _)
   ·rw[bS _ _ _ _ g] at p;simp only[dm,bS _ _ _ _ g] at z;exact .inl ⟨q,C,z,p,rfl⟩
  ·intro q ao H C o p;by_cases g:q=b
   ·subst g;rw[D] at o;cases o;exact .inr (.inr ⟨sz',cs',by simp[dm],F⟩)
   ·exact .inl ⟨H,by simp only[dm,bS _ _ _ _ g];exact o,by rw[bS _ _ _ _ g];exact p⟩
  ·rintro q am (o | ⟨n,H,o,V⟩)
   ·have g:q≠b:=fun u=>by rw[u,D] at o;cases o
    exact .inl (by simp only[dm,bS _ _ _ _ g];exact o)
   ·by_cases g:q=b
    ·subst g;rw[D] at o;cases o;exact .inr ⟨sz',cs',by simp[dm],F⟩
    ·exact .inr ⟨n,H,by simp only[dm,bS _ _ _ _ g];exact o,V⟩
  ·intro q k C o p;have g:q≠b:=fun u=>by rw[u,D] at o;cases o
   exact⟨by simp only[dm,bS _ _ _ _ g];exact o,by rw[bS _ _ _ _ g];exact p⟩
  ·intro q _ p;have g:q≠b:=fun u=>by rw[u,I] at p;cases p
   rw[bS _ _ _ _ g];exact p
 refine⟨e,rel.qd e.toExt0 b ?_ ?_ ?_ ?_ ?_ ?_⟩
 ·intro q g z;simp only[dm,bS _ _ _ _ g] at z ⊢;exact⟨trivial,trivial,fun C p=>by rw[G,s6,ai (by have:=rel.lt z p;omega)]⟩
 ·intro C p;simp at p;subst p;simp only[dm,fK];refine⟨T,by simpa using Q,arr,t,(0,0),by simp[G],rfl,.inl rfl,fun j c S=>?_⟩;obtain⟨v,h1,K,O⟩:=ae j c S;exact⟨v,by simpa using h1,K,O.ext e⟩
 ·intro q C al g z _ p J;simp only[dm,bS _ _ _ _ g] at z;simp at J;subst J;have:=rel.lt z p;simp only[ne_eq];omega
 ·intro C _ p;simp at p;subst p;exact rel.size
 ·intro q o;simp only[dm,hX] at o ⊢;have g:q≠b:=fun u=>by
   have:=rel.fresh q o;rw[u,D] at this;cases this
  rw[bS _ _ _ _ g];exact rel.fresh q o
 ·intro q o;simp only[hX] at o;have g:q≠b:=fun u=>by
   have:=rel.kx I;omega
  rw[bS _ _ _ _ g];exact rel.iX q o
section
variable {P:bp} {w:aT} {R:Nat->Prop} {B:Nat} {h:aM} {muZ:b3}
def Good (R:Nat->Prop) (B:Nat) (w:aT) (h:aM) (muZ:b3) (r:Result Next) (c:U) (h' : aM) :Prop:=
 ∃ g w' muZ',(r=.ok (.value g) w'\/(r=.ok .skip w'/\g=undef))/\cZ w h muZ w' h' muZ'/\bF R B w' h' muZ'/\aB w' R h' muZ' c g
theorem cb {t:aG} {d:TypeDesc} (g:P.underlying t=some d) :(underlying t).run P w=.ok d w:=by simp[underlying,g]
theorem Al {t:aG} {b:Bool} (g:dE P t=some b) :(isAgg t).run P w=.ok b w:=by
 unfold dE at g;cases h:P.underlying t with
 | none=>rw[h] at g;cases g
 | some d=>
  rw[h] at g;simp only[cA,bc] at g;unfold isAgg;simp only[Sem.run_bind,cb h,Result.andThen_ok];cases d<;>simp_all
theorem RZ {t:aG} {n:Nat} (g:ca P t=some n) :∃ i,P.info? t=some i/\i.size=n:=by
 unfold ca at g;cases h:P.info? t with
 | none=>rw[h] at g;cases g
 | some i=>rw[h] at g;exact⟨i,rfl,by simpa using g⟩
theorem ez {t:aG} {n:Nat} (h:ca P t=some n) :(sizeOf t).run P w=.ok n w:=by obtain⟨i,g,j⟩:=RZ h;simp[sizeOf,typeInfo,g,j]
theorem Zy {t:aG} {z:ag} (g:ga P t=some z) :∃ i v,P.info? t=some i/\i.zero=some v/\v.cells.toList.all Value.oneCell'=true/\z=v.cells.toList.map l9:=by
 unfold ga at g;cases j:P.info? t with
 | none=>rw[j] at g;cases g
 | some i=>
  rw[j] at g;simp only[qr] at g;cases h:i.zero with
  | none=>rw[h] at g;cases g
  | some v=>
   rw[h] at g;simp only[qr] at g;split at g
   ·rename_i h1;exact⟨i,v,rfl,h,h1,by simpa using g.symm⟩
   ·cases g
theorem Lc {t:aG} {i:TypeInfo} {v:aE} (g:P.info? t=some i) (h:i.zero=some v) :(zeroValue t).run P w=.ok v w:=by simp[zeroValue,typeInfo,g,h]
theorem aB.l9 (v:aE) :aB w R h muZ (l9 v) v:=by
 cases v with
 | bool b=>exact .bool _
 | int k n=>exact .int _ _
 | string s=>exact .str _
 | pointer a=>cases a<;>first | exact .iA | exact .bad _
 | slice a l c=>
  simp only[bh.l9];split
  ·exact .ad
  ·exact .bad _
 | map r=>cases r<;>first | exact .gY | exact .bad _
 | nilFunc=>exact .ic
 | nilIface=>exact .hS
 | func fn first e3=>
  simp only[bh.l9];split
  ·rename_i f h1 o;have j:first=#[]:=by simpa using h1
   have m:e3=#[]:=by simpa using o
   subst j m;exact .fn _ [] [] #[] #[] rfl rfl (fun _ _ _ g=>by simp at g) (fun _ _ _ g=>by simp at g)
  ·exact .bad _
 | _=>exact .bad _
theorem aB.q5 (v:aE) :aB w R h muZ (q5 v) v:=by
 unfold bh.q5;split
 ·rename_i cs;split
  ·rename_i m;refine .af _ _ V (fun o v p=>?_) (fun o c v g j=>?_)
   ·rw[gb] at m;exact m v (by have:=xQ p;simpa using this)
   ·rw[b0] at g;simp only[qk,j,cA,bc] at g;subst g;exact aB.l9 v
  ·exact .bad _
 ·rename_i q;refine .aX _ _ V (fun o c v g j=>?_);rw[b0] at g;simp only[qk,j,cA,bc] at g;subst g;exact aB.l9 v
 ·exact aB.l9 v
theorem yt {c:U} {v:aE} {cs:ag} (p:aB w R h muZ c v) (g:c.cells=some cs) :
  v.cells.size=cs.length/\∀ (j:Nat) (x:U),cs[j]?=some x->∃ u:aE,v.cells[j]?=some u/\u.oneCell'=true/\aB w R h muZ x u:=by
 have m:∀ (c:U) (v:aE),aB w R h muZ c v->v.cells=#[v]->v.oneCell'=true->∀ cs,cs=[c]->
   v.cells.size=cs.length/\∀ (j:Nat) (x:U),cs[j]?=some x->∃ u:aE,v.cells[j]?=some u/\u.oneCell'=true/\aB w R h muZ x u:=by
  intro c v p ah h1 cs ae;subst ae;rw[ah];refine⟨rfl,fun j x H=>?_⟩;cases j with
  | zero=>simp at H;subst H;exact⟨v,rfl,h1,p⟩
  | succ j=>simp at H
 cases p with
 | af q Q B h1 p=>
  simp only[U.cells,bc] at g;subst g;refine⟨B,fun j x H=>?_⟩;have O:j<Q.size:=by rw[B];exact (aL.1 H).1
  exact⟨Q[j],by simp[Value.cells,O],h1 j _ (by simp[O]),p j x _ H (by simp[O])⟩
 | aX q Q B p=>simp[U.cells] at g
 | bad v=>simp[U.cells] at g
 | bool b=>exact m _ _ (.bool b) rfl rfl _ (by simpa [U.cells] using g.symm)
 | int k n=>exact m _ _ (.int k n) rfl rfl _ (by simpa [U.cells] using g.symm)
 | str S=>exact m _ _ (.str S) rfl rfl _ (by simpa [U.cells] using g.symm)
 | iA=>exact m _ _ .iA rfl rfl _ (by simpa [U.cells] using g.symm)
 | ad=>exact m _ _ .ad rfl rfl _ (by simpa [U.cells] using g.symm)
 | gY=>exact m _ _ .gY rfl rfl _ (by simpa [U.cells] using g.symm)
 | ic=>exact m _ _ .ic rfl rfl _ (by simpa [U.cells] using g.symm)
 | hS=>exact m _ _ .hS rfl rfl _ (by simpa [U.cells] using g.symm)
 | ptr b o F q D t C=>exact m _ _ (.ptr b o F q D t C) rfl rfl _ (by simpa [U.cells] using g.symm)
 | jj b o F a K=>exact m _ _ (.jj b o F a K) rfl rfl _ (by simpa [U.cells] using g.symm)
 | b6 q o I al P z p=>exact m _ _ (.b6 q o I al P z p) rfl rfl _ (by simpa [U.cells] using g.symm)
 | Z G b o len cap F J q D t C B aj z=>exact m _ _ (.Z G b o len cap F J q D t C B aj z) rfl rfl _ (by simpa [U.cells] using g.symm)
 | ff G b o len cap F J a B z K=>exact m _ _ (.ff G b o len cap F J a B z K) rfl rfl _ (by simpa [U.cells] using g.symm)
 | gp G b o F a q D t C=>exact m _ _ (.gp G b o F a q D t C) rfl rfl _ (by simpa [U.cells] using g.symm)
 | bu G V I o cap P B ak z p=>exact m _ _ (.bu G V I o cap P B ak z p) rfl rfl _ (by simpa [U.cells] using g.symm)
 | eH G a cap=>exact m _ _ (.eH G a cap) rfl rfl _ (by simpa [U.cells] using g.symm)
 | fn f W T X q ai z h1 Y=>exact m _ _ (.fn f W T X q ai z h1 Y) rfl rfl _ (by simpa [U.cells] using g.symm)
 | mp b D t C=>exact m _ _ (.mp b D t C) rfl rfl _ (by simpa [U.cells] using g.symm)
 | it b D t C=>exact m _ _ (.it b D t C) rfl rfl _ (by simpa [U.cells] using g.symm)
 | fW am c v p=>exact m _ _ (.fW am c v p) rfl rfl _ (by simpa [U.cells] using g.symm)
 | fh l=>exact m _ _ (.fh l) rfl rfl _ (by simpa [U.cells] using g.symm)
theorem Addr.jY (b o n:Nat) :(⟨b,o,none⟩:Addr).add n=⟨b,o+n,none⟩:=by unfold Addr.add;split<;>simp_all
theorem Wq (rel:bF R B w h muZ) {p:U} {G:aE} {cs:ag} {off:Nat} (g:mg h p=some (cs,off)) (Q:aB w R h muZ p G) :
  ∃ blk o,G=.pointer (some ⟨blk,o+off,none⟩)/\∀ (j:Nat) (c:U),cs[j]?=some c->∃ v:aE,w.cell? ⟨blk,o+j,none⟩=some v/\v.oneCell'=true/\aB w R h muZ c v:=by
 cases Q with
 | ptr b F T u t z P=>
  simp only[mg,z,ite_true,bc,Prod.mk.injEq] at g;obtain⟨rfl,rfl⟩:=g;have C:=rel.blk b t P;rw[z] at C;obtain⟨h1,X,arr,ai,W,K,Y,ae,O⟩:=C;refine⟨t.r,t.s,rfl,fun j c q=>?_⟩;obtain⟨v,H,I,J⟩:=O j c q;exact⟨v,by simp[World.cell?,K,H],I,J⟩
 | jj b F T a m=>
  unfold mg at g;rcases m with m | ⟨n,u,m,ah⟩
  ·simp[m] at g
  ·simp only[m] at g;split at g
   ·omega
   ·cases g
 | b6 u F blk o V D S=>
  simp only[mg,bc,Prod.mk.injEq] at g;obtain⟨rfl,rfl⟩:=g;exact⟨blk,o,rfl,fun j c q=>⟨V j,(D j (aL.1 q).1).here,(D j (aL.1 q).1).one,S j c q⟩⟩
 | _=>simp[mg] at g
theorem WY {t:aG} {cs:ag} {off:Nat} {c:U} (m:gm P t cs off=some c) {blk o:Nat}
  (B:∀ (j:Nat) (x:U),cs[j]?=some x->∃ v:aE,w.cell? ⟨blk,o+j,none⟩=some v/\v.oneCell'=true/\aB w R h muZ x v) :
  ∃ v,(loadVar t ⟨blk,o+off,none⟩).run P w=.ok v w/\aB w R h muZ c v:=by
 unfold gm at m;cases q:dE P t with
 | none=>rw[q] at m;cases m
 | some b=>
  rw[q] at m;cases b with
  | false=>
   simp only at m;obtain⟨v,h1,_,H⟩:=B off c m;exact⟨v,by simp[loadVar,Al q,h1],H⟩
  | true=>
   cases z:ca P t with
   | none=>rw[z] at m;cases m
   | some n=>
    rw[z] at m;simp only at m;split at m
    ·rename_i K;cases m;have D:∀ j,j<n->∃ v,w.cell? ⟨blk,o+(off+j),none⟩=some v/\v.oneCell'=true/\aB w R h muZ (cs.getD (off+j) .bad) v:=by
      intro j g;have G:off+j<cs.length:=F;have:=B (off+j) cs[off+j] (by simp[G]);simpa [List.getD,G] using this
     have J:∃ f:Nat->aE,∀ j,j<n->w.cell? ⟨blk,o+(off+j),none⟩=some (f j)/\(f j).oneCell'=true/\aB w R h muZ (cs.getD (off+j) .bad) (f j):=by
      refine⟨fun j=>if g:j<n then Classical.choose (D j g) else undef,fun j g=>?_⟩;simp only[g,dif_pos];exact Classical.choose_spec (D j g)
     obtain⟨f,u⟩:=J;have I:(loadCells ⟨blk,o+off,none⟩ n).run P w=.ok ((List.range n).map f).toArray w:=by
      have:=run_loadCells_list (P:=P) w ⟨blk,o+off,none⟩ ((List.range n).map f) (fun j v g=>by
       rw[b0] at g;have p:j<n:=by
        rcases fF j n with h1 | h1
        ·exact h1
        ·rw[dW (by simpa using h1)] at g;cases g
       rw[hn p] at g;simp only[cA,bc] at g;rw[Addr.jY,<-g,i4];exact (u j p).1)
      simpa using this
     refine⟨.agg ((List.range n).map f).toArray,by simp[loadVar,Al q,ez z,I],.af _ _ (by simp;omega) (fun j v g=>?_) (fun j c v C g=>?_)⟩
     ·simp only[vi,b0] at g;have p:j<n:=by
       rcases fF j n with h1 | h1
       ·exact h1
       ·rw[dW (by simpa using h1)] at g;cases g
      rw[hn p] at g;simp only[cA,bc] at g;rw[<-g];exact (u j p).2.1
     ·simp only[vi,b0] at g;have p:j<n:=by
       rcases fF j n with h1 | h1
       ·exact h1
       ·rw[dW (by simpa using h1)] at g;cases g
      rw[hn p] at g;simp only[cA,bc] at g;rw[dQ p,gx] at C;have:=(u j p).2.2;rw[List.getD,C] at this;rw[<-g];simpa using this
    ·cases m
theorem IQ (rel:bF R B w h muZ) {t:aG} {p:U} {m:aE} {c:U} (g:oT P h t p=some c) (u:aB w R h muZ p m) :
  ∃ v,(Instr.loadAt t m).run P w=.ok v w/\aB w R h muZ c v:=by
 unfold oT at g;cases j:mg h p with
 | none=>rw[j] at g;cases g
 | some x=>
  obtain⟨cs,D⟩:=x;rw[j] at g;obtain⟨z,C,rfl,q⟩:=Wq rel j u;obtain⟨v,h1,o⟩:=WY g q;exact⟨v,by simp[Instr.loadAt,Instr.sureAddr,h1],o⟩
end
section
variable {P:bp} {w:aT} {R:Nat->Prop} {B:Nat} {h:aM} {muZ:b3}
theorem Lb (P:bp) (g o:Nat) (t:aG) (j:Nat × Nat) :∀ (vs:List aE) (i:Nat) (h:Array aE) (w:aT),w.heap[g]?=some (.cells h t j)->(j=(0,0)\/h.size<=j.1)->
  o+i+vs.length<=h.size->(∀ v∈vs,v.oneCell'=true)->
  (storeCells ⟨g,o,none⟩ vs i).run P w=.ok () (w.setRow g (h.toList.take (o+i)++vs++h.toList.drop (o+i+vs.length)).toArray)
 | [],i,h,w,m,_,_,_=>by
  simp only[storeCells,eJ,hp,nm,i3,Array.toArray_toList];rw[setRow_self w g h t j m];rfl
 | v::rest,i,h,w,m,p,q,h1=>by
  have C:o+i<h.size:=by simp at q;omega
  have u:(⟨g,o,none⟩:Addr).add i=⟨g,o+i,none⟩:=Addr.jY _ _ _;have z:w.cell? ⟨g,o+i,none⟩=some h[o+i]:=by simp[World.cell?,m,C]
  have B:w.frozen? ⟨g,o+i,none⟩=false:=by
   obtain⟨H,I⟩:=j;rcases p with p | p
   ·cases p;simp[World.frozen?,m]
   ·have:¬ H<=o+i:=by simp at p;omega
    simp[World.frozen?,m,this]
  have D:(store ((⟨g,o,none⟩:Addr).add i) v).run P w=.ok () (w.setRow g (h.setIfInBounds (o+i) v)):=by
   rw[u,run_store P w _ v _ (h1 v V),z];simp[B,setCell_eq_setRow w g (o+i) h t j v m]
  have G:=Lb P g o t j rest (i+1) (h.setIfInBounds (o+i) v) (w.setRow g (h.setIfInBounds (o+i) v)) (setRow_heap w g h _ t _ m) (by simpa using p) (by simp at q ⊢;omega) (fun x F=>h1 x (by simp[F]));simp only[storeCells,Sem.run_bind,D,Result.andThen_ok,G,setRow_setRow];congr 3;have:=list_seg_step h.toList (o+i) v rest (by simp at q ⊢;omega);simpa [i4,rJ 1] using this
theorem o9 {cs vs:ag} {k:Nat} (hk:k<=cs.length) :(av cs k vs).length=max cs.length (k+vs.length):=by unfold av;simp only[cI,cL,i1];omega
theorem ED {cs vs:ag} {k j:Nat} (hk:k<=cs.length) :(av cs k vs)[j]?=if j<k then cs[j]? else if j<k+vs.length then vs[j - k]? else cs[j]?:=by
 unfold av;rw[hi];by_cases h1:j<k
 ·rw[aV (by simp;omega),dQ h1,ak h1]
 ·rw[eu (by simp;omega),ai h1];simp only[cL,i5 hk];by_cases g:j<k+vs.length
  ·rw[aV F,ak g]
  ·rw[eu F,ai g,gx];congr 1;omega
theorem sZ (rel:bF R B w h muZ) {b sz k:Nat} {cs cvs:ag} {m:M} {vs:List aE} (D:h.f b=.cells sz cs) (K:muZ b=some m) (hk:k<=sz)
  (ao:vs.length=cvs.length) (ak:m.s+max sz (k+cvs.length)<=m.T)
  (Q:∀ (j:Nat) (c:U),cvs[j]?=some c->∃ v:aE,vs[j]?=some v/\v.oneCell'=true/\aB w R h muZ c v) :
  ∃ w',(storeCells ⟨m.r,m.s+k,none⟩ vs).run P w=.ok () w'/\cZ w h muZ w' (h.set b (.cells (max sz (k+cvs.length)) (av cs k cvs))) muZ ∧
   bF R B w' (h.set b (.cells (max sz (k+cvs.length)) (av cs k cvs))) muZ:=by
 have G:=rel.blk b m K;rw[D] at G;obtain⟨X,aj,arr,S,z,u,C,J,H⟩:=G;have h1:∀ v∈vs,v.oneCell'=true:=by
  intro v ae;obtain⟨j,o,rfl⟩:=Fx ae;obtain⟨v,g,p,_⟩:=Q j (cvs[j]'F) V;rw[bM o] at g;cases g;exact p
 have O:=Lb P m.r (m.s+k) S z vs 0 arr w u (by rw[C];exact J.imp id ks) F h1;simp only[nm] at O;have ah:(arr.toList.take (m.s+k)++vs++arr.toList.drop (m.s+k+vs.length)).toArray.size=arr.size:=by
  simp only[x1,cI,cL,i1,rB];omega
 have I:=rel.write (w':=w.setRow m.r (arr.toList.take (m.s+k)++vs++arr.toList.drop (m.s+k+vs.length)).toArray) (cs':=av cs k cvs) (sz':=max sz (k+cvs.length)) D K u C J
  rfl rfl rfl (by simp[World.setRow]) (setRow_heap w m.r arr _ S z u) (fun ai W=>setRow_other w m.r ai _ W) ah
  (by rw[o9 F,X]) F F (fun j c o=>?_)
 ·exact⟨_,O,I.1,I.2⟩
 ·rw[ED F] at o;simp only[vi];rw[hi];split at o
  ·rename_i Y;obtain⟨v,g,p,q⟩:=H j c o;refine⟨v,?_,p,q⟩;rw[aV (by simp;omega),dQ F];simpa using g
  ·rename_i al;split at o
   ·rename_i Y;obtain⟨v,g,p,q⟩:=Q _ c o;refine⟨v,?_,p,q⟩;have t:min (m.s+k) arr.size=m.s+k:=F;rw[eu (by simp;omega)];simp only[cL,rB,t];rw[aV F,<-g];congr 1;omega
   ·rename_i am;obtain⟨v,g,p,q⟩:=H j c o;refine⟨v,?_,p,q⟩;have t:min (m.s+k) arr.size=m.s+k:=F;rw[eu (by simp;omega)];simp only[cL,rB,t];rw[eu F,gx];have:(m.s+k+vs.length+(m.s+j - (m.s+k) - vs.length))=m.s+j:=F;rw[this];simpa using g
theorem LK (rel:bF R B w h muZ) {t:aG} {p v:U} {I q:aE} {h' : aM} (g:rp P h t p v=some h') (ah:aB w R h muZ p I) (aj:aB w R h muZ v q) :
  ∃ w',(Instr.storeAt t I q).run P w=.ok () w'/\cZ w h muZ w' h' muZ/\bF R B w' h' muZ:=by
 unfold rp at g;split at g
 ·rename_i b H ay J n V ae;obtain⟨ai,ak⟩:=yt aj V;cases j:h.f b with
  | cells m cs=>
   rw[j] at g;simp only at g;split at g
   ·rename_i W;obtain⟨rfl,av,au⟩:=W;cases g;cases ah with
    | ptr S ao ap T am ar G=>
     have D:=rel.blk b am G;rw[j] at D;have aq:=D.2.1;obtain⟨w',h1,z,C⟩:=sZ (P:=P) rel (cvs:=J) (vs:=q.cells.toList) (k:=H) j G F (by simpa using ai) F
      (fun al c X=>by obtain⟨u,K,O,Q⟩:=ak al c X;exact⟨u,by simpa using K,O,Q⟩)
     have Y:max m (H+J.length)=m:=F;rw[Y] at z C;refine⟨w',?_,z,C⟩;have ag:¬ (q.cells.size≠n):=F;simp[Instr.storeAt,Instr.sureAddr,storeVar,ez ae,ag,h1]
    | jj S ao ap a o=>
     rcases o with o | ⟨ax,T,o,aw⟩
     ·rw[o] at j;cases j
     ·rw[o] at j;cases j;omega
   ·cases g
  | _=>rw[j] at g;cases g
 ·cases g
theorem yg (rel:bF R B w h muZ) {cs:ag} {vs:Array aE} (t:aG) (p:vs.size=cs.length)
  (o:∀ (j:Nat) (c:U),cs[j]?=some c->∃ v:aE,vs[j]?=some v/\v.oneCell'=true/\aB w R h muZ c v) :
  let h':=h.push (.cells cs.length cs)
  let muZ':=br muZ h.n (some ⟨w.heap.size,0,vs.size⟩)
  let w':=w.alloc (.cells vs t)
  cZ w h muZ w' h' muZ'/\bF R B w' h' muZ'/\∀ g,aB w' R h' muZ' (.ptr h.n g cs.length) (.pointer (some ⟨w.heap.size,g,none⟩)):=by intro h' muZ' w';have:=rel.push (w':=w') cs vs t rfl rfl rfl rfl F o;refine⟨this.1,this.2,fun g=>?_⟩;have m:=aB.ptr (w:=w') (R:=R) (h:=h') (muZ:=muZ') h.n g cs.length cs ⟨w.heap.size,0,vs.size⟩ (by simp[h',dV]) (by simp[muZ']);simpa using m
theorem MX {t:aG} {z:ag} (q:ga P t=some z) :∃ i v,P.info? t=some i/\i.zero=some v/\v.cells.size=z.length ∧
  ∀ (j:Nat) (c:U),z[j]?=some c->∃ u:aE,v.cells[j]?=some u/\u.oneCell'=true/\aB w R h muZ c u:=by
 obtain⟨i,v,o,p,h1,rfl⟩:=Zy q;refine⟨i,v,o,p,V,fun j c g=>?_⟩;rw[b0] at g;cases m:v.cells[j]? with
 | none=>simp[m] at g
 | some u=>
  simp[m] at g;subst g;rw[gb] at h1;exact⟨u,rfl,h1 u (by have:=xQ m;simpa using this),aB.l9 u⟩
theorem GR {x:U} {o:aE} {k:Nat} {c:U} (g:lh x k=some c) (B:aB w R h muZ x o) :
  ∃ a,o=.pointer (some a)/\aB w R h muZ c (.pointer (some (a.add k))):=by
 cases B with
 | ptr b j m cs C q v=>
  simp only[lh,bc] at g;subst g;refine⟨_,rfl,?_⟩;rw[Addr.jY,i4];exact .ptr b _ m cs C q v
 | jj b j m a u=>
  simp only[lh,bc] at g;subst g;exact⟨a,rfl,.jj _ _ _ _ u⟩
 | b6 cs j p D F t z=>
  simp only[lh,bc] at g;subst g;refine⟨_,rfl,?_⟩;rw[Addr.jY,i4];exact .b6 cs _ p D F t z
 | _=>simp[lh] at g
theorem HH {s:aG} {f:Nat} {fd:Field} (g:sa P s f=some fd) :∃ fs,P.underlying s=some (.struct fs)/\fs[f]?=some fd:=by
 unfold sa at g;split at g
 ·rename_i fs h;exact⟨fs,h,g⟩
 ·cases g
theorem QX {s:aG} {x c:U} {j:aE} {f:Nat} (g:yS P s x f=some c) (u:aB w R h muZ x j) :
  ∃ v,(Instr.fieldAt s j f).run P w=.ok v w/\aB w R h muZ c v:=by
 unfold yS at g;split at g
 ·rename_i z m;obtain⟨B,q,o⟩:=HH m;split at g
  ·rename_i n p;obtain⟨a,rfl,t⟩:=GR g u;refine⟨_,?_,t⟩;simp[Instr.fieldAt,cb q,o,Instr.sureAddr,fieldPlace,ez p]
  ·cases g
 ·cases g
theorem oy {x:U} {j:aE} {n:Int} (g:asInt x=some n) (m:aB w R h muZ x j) :∃ k,j=.int k n:=by cases m<;>simp[asInt] at g;subst g;exact⟨_,rfl⟩
theorem RU {t:aG} {x O c:U} {S K:aE} (g:ww P t x O=some c) (C:aB w R h muZ x S) (H:aB w R h muZ O K) :
  ∃ v,(Instr.indexAt t S K).run P w=.ok v w/\aB w R h muZ c v:=by
 unfold ww at g;split at g
 ·rename_i len e i p u;obtain⟨k,rfl⟩:=oy u H;cases m:ca P e with
  | none=>rw[m] at g;cases g
  | some z=>
   rw[m] at g;simp only at g;split at g
   ·rename_i j;obtain⟨a,rfl,B⟩:=GR g C;refine⟨_,?_,B⟩;simp[Instr.indexAt,asIntOf,cb p,Instr.sureAddr,j,ez m]
   ·cases g
 ·rename_i e i p u;obtain⟨k,rfl⟩:=oy u H;split at g
  ·rename_i z am b D len cap Q m;split at g
   ·rename_i j;obtain⟨rfl,j⟩:=j;cases g;cases C with
    | Z _ _ _ _ _ _ V cs ak W ah I aq X=>
     refine⟨_,?_,aB.ptr b (D+i.toNat*z) Q cs ak W ah⟩;simp[Instr.indexAt,asIntOf,cb p,j,ez m,Addr.jY,i4]
    | gp=>simp at j;omega
    | ff _ _ _ _ _ _ V a I X ae=>
     refine⟨_,?_,aB.jj b _ Q (a.add (i.toNat*z)) ae⟩;simp[Instr.indexAt,asIntOf,cb p,j,ez m]
   ·cases g
  ·rename_i z am q m;split at g
   ·rename_i j;obtain⟨rfl,j⟩:=j;cases o:q[i.toNat]? with
    | none=>rw[o] at g;cases g
    | some G=>
     rw[o] at g;simp only[cA,bc] at g;subst g;have J:i.toNat<q.length:=(aL.1 o).1;have ag:(0<=i/\i<(q.length:Int)):=F;cases C with
     | bu _ _ T D cap al I ai Y B=>
      have ao:G.length=z:=ai _ (cJ o);refine⟨_,?_,aB.b6 G 0 T (D+i.toNat*z) (al i.toNat) (fun aj ap=>?_) (B _ _ o)⟩
      ·simp[Instr.indexAt,asIntOf,cb p,ag,ez m,Addr.jY]
      ·have:=Y i.toNat aj J F
       rwa [i4]
     | eH=>simp at J
   ·cases g
  ·cases g
 ·cases g
end
section
variable {P:bp} {w:aT} {R:Nat->Prop} {B:Nat} {h:aM} {muZ:b3}
theorem hv {alZ:Type} {z:Nat}:∀ {es:List (List alZ)},(∀ e,e∈es->e.length=z)->es.flatten.length=es.length*z
 | [],_=>V
 | e::es,g=>by
  rw[hj,cI,g e V,hv (fun e h=>g e (by simp[h])),dM,ej,rJ]
theorem HT {alZ:Type} {z:Nat}:∀ {es:List (List alZ)} {j:Nat} {c:alZ},(∀ e,e∈es->e.length=z)->es.flatten[j]?=some c->
  ∃ i k e,j=i*z+k/\k<z/\es[i]?=some e/\e[k]?=some c
 | [],_,_,_,g=>by simp at g
 | e::es,j,c,m,g=>by
  have h:=m e V;rw[hj] at g;by_cases u:j<e.length
  ·rw[aV u] at g;exact⟨0,j,e,V,F,rfl,g⟩
  ·rw[eu F] at g;obtain⟨i,k,o,h1,p,q,t⟩:=HT (fun e h=>m e (by simp[h])) g;exact⟨i+1,k,o,by rw[ej];omega,p,by simpa using q,t⟩
def pv (w:aT) (R:Nat->Prop) (h:aM) (muZ:b3) (xs:ag) (vs:List aE) :Prop:=
 vs.length=xs.length/\∀ (j:Nat) (c:U),xs[j]?=some c->∃ g:aE,vs[j]?=some g/\g.oneCell'=true/\aB w R h muZ c g
theorem Ep {w2:aT} {xs:ag} {blk o:Nat} (H:∀ a,w2.cell? a=w.cell? a)
  (G:∀ (j:Nat) (c:U),xs[j]?=some c->∃ v:aE,w.cell? ⟨blk,o+j,none⟩=some v/\v.oneCell'=true/\aB w R h muZ c v) :
  ∃ vs:List aE,pv w R h muZ xs vs/\∀ k,k<=xs.length->∀ w2:aT,(∀ a,w2.cell? a=w.cell? a)->(loadCells ⟨blk,o,none⟩ k).run P w2=.ok (vs.take k).toArray w2:=by
 have D:∃ f:Nat->aE,∀ (j:Nat) (c:U),xs[j]?=some c->w.cell? ⟨blk,o+j,none⟩=some (f j)/\(f j).oneCell'=true/\aB w R h muZ c (f j):=by
  refine⟨fun j=>(w.cell? ⟨blk,o+j,none⟩).getD undef,fun j c g=>?_⟩;obtain⟨v,h1,q,t⟩:=G j c g;simp only[h1,g4];exact⟨trivial,q,t⟩
 obtain⟨f,m⟩:=D;refine⟨(List.range xs.length).map f,⟨V,fun j c g=>?_⟩,fun k hk w2 u=>?_⟩
 ·have C:j<xs.length:=(aL.1 g).1;exact⟨f j,by simp[C],(m j c g).2⟩
 ·have:=run_loadCells_list (P:=P) w2 ⟨blk,o,none⟩ (((List.range xs.length).map f).take k) (fun j v g=>by
   have z:j<k:=by
    rcases fF j k with h1 | h1
    ·exact h1
    ·rw[dW (by simp;omega)] at g;cases g
   rw[dQ z,b0] at g;have p:j<xs.length:=F;rw[hn p] at g;simp only[cA,bc] at g;rw[Addr.jY,<-g,u];exact (m j _ (bM p)).1)
  have B:(((List.range xs.length).map f).take k).length=k:=by simp;omega
  rw[B] at this;exact this
theorem qP (rel:bF R B w h muZ) {z n:Nat} {x:U} {O:aE} {xs:ag} (g:contents h z x=some (xs,n)) (K:aB w R h muZ x O) :
  xs.length=n*z/\(Builtin.lenOf O).run P w=.ok n w/\∃ vs:List aE,pv w R h muZ xs vs ∧
   ∀ k,k<=n->∀ w2:aT,(∀ a,w2.cell? a=w.cell? a)->(Builtin.firstCells z k O).run P w2=.ok (vs.take (k*z)).toArray w2:=by
 cases K with
 | ad=>
  simp only[contents,bc,Prod.mk.injEq] at g;obtain⟨rfl,rfl⟩:=g;exact⟨V,by simp[Builtin.lenOf],[],⟨rfl,fun m c j=>by simp at j⟩,fun k _ w2 _=>by simp[Builtin.firstCells]⟩
 | str q=>
  simp only[contents] at g;split at g
  ·rename_i D;subst D;simp only[bc,Prod.mk.injEq] at g;obtain⟨rfl,rfl⟩:=g;refine⟨V,by simp[Builtin.lenOf],q.data.toList.map fun b=>.int .u8 b.toNat,⟨V,fun m c j=>?_⟩,fun k hk w2 _=>?_⟩
   ·rw[b0] at j ⊢;cases o:q.data.toList[m]? with
    | none=>rw[o] at j;cases j
    | some b=>
     rw[o] at j;simp only[cA,bc] at j;subst j;exact⟨_,rfl,rfl,.int _ _⟩
   ·have K:(q.extract 0 k).data.toList=q.data.toList.take k:=by
     simp[ByteArray.extract,ByteArray.copySlice]
    have aw:(q.extract 0 k).data=(q.data.toList.take k).toArray:=by rw[<-K]
    simp only[Builtin.firstCells,aw];simp
  ·cases g
 | bu G Q al p cap az I D aq av=>
  simp only[contents] at g;split at g
  ·rename_i C;subst C;simp only[bc,Prod.mk.injEq] at g;obtain⟨rfl,rfl⟩:=g;have t:=hv D;have J:∀ (m:Nat) (c:U),Q.flatten[m]?=some c->∃ v:aE,w.cell? ⟨al,p+m,none⟩=some v/\v.oneCell'=true/\aB w R h muZ c v:=by
    intro m c j;obtain⟨i,k,e,rfl,hk,X,ar⟩:=HT D j;have au:i<Q.length:=(aL.1 X).1;have W:=aq i k au hk;exact⟨az i k,W.here,W.one,av i e X k c ar⟩
   obtain⟨vs,h1,S⟩:=Ep (P:=P) (w2:=w) (fun _=>rfl) J;refine⟨t,by simp[Builtin.lenOf],vs,h1,fun k hk w2 H=>?_⟩;have:=S (k*z) (by rw[t];exact ck _ hk) w2 H;simp[Builtin.firstCells,this]
  ·cases g
 | eH G a cap=>
  simp only[contents] at g;split at g
  ·simp only[bc,Prod.mk.injEq] at g;obtain⟨rfl,rfl⟩:=g;exact⟨V,by simp[Builtin.lenOf],[],⟨rfl,fun m c j=>by simp at j⟩,fun k hk w2 _=>by
    obtain rfl:k=0:=by simpa using hk
    simp[Builtin.firstCells,loadCells,loadCellsFrom]⟩
  ·cases g
 | Z G b p len cap ah am cs F o ae I aJ aG=>
  simp only[contents,o,true_and] at g;split at g
  ·rename_i C;subst C;simp only[bc,Prod.mk.injEq] at g;obtain⟨rfl,rfl⟩:=g;have T:=rel.blk b F ae;rw[o] at T;obtain⟨h1,S,arr,aM,aC,ao,aD,aF,ap⟩:=T;have aI:len*z<=cap*z:=ck _ I;have t:((cs.drop p).take (len*z)).length=len*z:=by
    rw[cL,i1];omega
   have J:∀ (m:Nat) (c:U),((cs.drop p).take (len*z))[m]?=some c->∃ v:aE,w.cell? ⟨F.r,(F.s+p)+m,none⟩=some v/\v.oneCell'=true/\aB w R h muZ c v:=by
    intro m c j;have Y:m<len*z:=by
     have:=(aL.1 j).1;rw[t] at this;exact this
    rw[dQ Y,gx] at j;obtain⟨v,ai,aj,ak⟩:=ap _ c j;exact⟨v,by simp[World.cell?,ao,i4,ai],aj,ak⟩
   obtain⟨vs,ax,ay⟩:=Ep (P:=P) (w2:=w) (fun _=>rfl) J;refine⟨t,by simp[Builtin.lenOf],vs,ax,fun k hk w2 H=>?_⟩;have:=ay (k*z) (by rw[t];exact ck _ hk) w2 H;simp[Builtin.firstCells,this]
  ·cases g
 | gp G b p ah a cs F o ae=>
  simp only[contents,o,true_and] at g;split at g
  ·rename_i C;subst C;simp only[bc,Prod.mk.injEq,ti,nk] at g;obtain⟨rfl,rfl⟩:=g;exact⟨V,by simp[Builtin.lenOf],[],⟨rfl,fun m c j=>by simp at j⟩,fun k hk w2 _=>by
    obtain rfl:k=0:=by simpa using hk
    simp[Builtin.firstCells,loadCells,loadCellsFrom]⟩
  ·cases g
 | ff G b p len cap ah am a I aH u=>
  unfold contents at g;rcases u with u | ⟨aK,aA,u,Y⟩
  ·simp[u] at g
  ·simp only[u] at g;split at g
   ·omega
   ·cases g
 | _=>simp[contents] at g
theorem wc {t e:aG} (g:gh P t=some e) :P.underlying t=some (.slice e):=by
 unfold gh at g;split at g
 ·rename_i j h;cases g;exact h
 ·cases g
def uq (P:bp) (u:aG) :Prop:=∃ d,P.underlying u=some d/\∀ k,d≠.int k
theorem Iy (d:TypeDesc) (hk:∀ k,d≠.int k) :(match d with | .int _=>true | _=>false)=false:=by
 cases d with
 | int k=>exact bV rfl (hk k)
 | _=>rfl
theorem run_append_fits {t u ty e:aG} {z n sLen h:Nat} {base:Option Addr} {j:aE} {vs:List aE} {w' : aT} (o:P.underlying t=some (.slice e)) (B:ca P e=some z) (C:uq P u)
  (v:(Builtin.lenOf j).run P w=.ok n w) (p:(Builtin.firstCells z n j).run P w=.ok vs.toArray w) (q:sLen+n<=h)
  (g:match base with | some a=>(storeCells (a.add (sLen*z)) vs).run P w=.ok () w' | none=>w'=w) :
  (Builtin.append_ #[t,u] ty #[.slice base sLen h,j]).run P w=.ok (.slice base (sLen+n) h) w':=by
 obtain⟨d,m,hk⟩:=C;have D:=Iy d hk;cases base with
 | none=>
  subst g;simp[Builtin.append_,cb o,ez B,cb m,v,q,p]
 | some a=>
  simp only at g;simp[Builtin.append_,cb o,ez B,cb m,v,q,p,g]
theorem WV {t u ty e:aG} {i:TypeInfo} {zv:aE} {n sLen g:Nat} {base:Option Addr} {j:aE} {h vs:List aE} (v:P.underlying t=some (.slice e)) (m:P.info? e=some i) (K:i.zero=some zv) (I:uq P u)
  (C:(Builtin.lenOf j).run P w=.ok n w) (z:(Builtin.firstCells i.size n j).run P w.drew=.ok vs.toArray w.drew) (G:(Builtin.firstCells i.size sLen (.slice base sLen g)).run P w.drew=.ok h.toArray w.drew)
  (B:g<sLen+n) (H:(sLen+n)*i.bytes<=dj) (O:0<i.bytes) :
  (Builtin.append_ #[t,u] ty #[.slice base sLen g,j]).run P w =
   .ok (.slice (some ⟨w.heap.size,0,none⟩) (sLen+n) (grownCap w (sLen+n) g e)) (w.drew.alloc (.cells ((h++vs).toArray++Builtin.zeroCells zv.cells (grownCap w (sLen+n) g e - (sLen+n))) e)):=by
 obtain⟨d,q,hk⟩:=I;have Q:=Iy d hk;have J:ca P e=some i.size:=by simp[ca,m]
 have D:¬ (sLen+n<=g):=F;have o:¬ (281474976710656<Builtin.nextslicecap (sLen+n) g*i.bytes):=by
  have:=growslice_fits B H;omega
 have p:¬ (i.bytes=0):=F;simp[Builtin.append_,cb v,ez J,cb q,C,D,typeInfo,m,o,p,Question.forced,G,z,zeroValue,K,newRow,grownCap];rw[<-A4,List.append_toArray h vs]
theorem Xu {s:U} {jm:aE} (j:aB w R h muZ s jm) (hk:s=.ad\/(∃ z es,s=.bu z es)\/∃ z b off len cap sz,s=.Z z b off len cap sz) :
  ∃ base sLen Ld,jm=.slice base sLen Ld/\sLen<=Ld:=by
 cases j<;>simp at hk
 ·exact⟨_,_,_,rfl,aN _⟩
 ·rename_i g t o;exact⟨_,_,_,rfl,F⟩
 ·rename_i g p q;exact⟨_,_,_,rfl,F⟩
 ·exact⟨_,_,_,rfl,aN _⟩
 ·rename_i g v m u;exact⟨_,_,_,rfl,F⟩
 ·exact⟨_,_,_,rfl,eS _⟩
theorem MV {e:aG} {z:Nat} (g:mq P e=some z) :∃ i v,P.info? e=some i/\i.zero=some v/\v.cells.size=z:=by
 unfold mq at g;cases j:P.info? e with
 | none=>rw[j] at g;cases g
 | some i=>
  rw[j] at g;simp only[qr] at g;cases h:i.zero with
  | none=>rw[h] at g;cases g
  | some v=>rw[h] at g;exact⟨i,v,rfl,h,by simpa using g⟩
theorem wn {e:aG} {zv:aE} {z need cap:Nat} {xs:ag} {vs:List aE} (u:zv.cells.size=z) (q:xs.length=need*z) (m:pv w R h muZ xs vs) (B:need<=cap) :
  (vs.toArray++Builtin.zeroCells zv.cells (cap - need)).size=cap*z ∧
  ∀ (j:Nat) (c:U),xs[j]?=some c->∃ v:aE,(vs.toArray++Builtin.zeroCells zv.cells (cap - need))[j]?=some v/\v.oneCell'=true/\aB w R h muZ c v:=by
 refine⟨?_,fun j c p=>?_⟩
 ·have h1:(Builtin.zeroCells zv.cells (cap - need)).size=(cap - need)*z:=by simp[Builtin.zeroCells,u]
  have g:need*z+(cap - need)*z=cap*z:=by rw[<-eP];congr 1;omega
  rw[Fj,h1,x1,m.1,q,g]
 ·obtain⟨v,h1,g,o⟩:=m.2 j c p;have t:j<vs.length:=(aL.1 h1).1;refine⟨v,?_,g,o⟩;rw[pi (by simpa using t)];simpa using h1
theorem Gh (rel:bF R B w h muZ) {t u ty e:aG} {z by_ n:Nat} {s c:U} {jm aY:aE} {h' : aM} {xs:ag} {vs:List aE} (bk:ca P e=some z) (a8:gK P e=some by_)
  (g:qD P h e z by_ s xs n=some (c,h')) (aR:aB w R h muZ s jm) (S:xs.length=n*z) (O:pv w R h muZ xs vs)
  (aL:∀ (base:Option Addr) (sLen X:Nat) (w' : aT),sLen+n<=X->(match base with | some a=>(storeCells (a.add (sLen*z)) vs).run P w=.ok () w' | none=>w'=w)->
   (Builtin.append_ #[t,u] ty #[.slice base sLen X,aY]).run P w=.ok (.slice base (sLen+n) X) w')
  (ay:∀ (i:TypeInfo) (zv:aE),P.info? e=some i->i.zero=some zv->∀ (base:Option Addr) (sLen X:Nat) (p:List aE),(Builtin.firstCells i.size sLen (.slice base sLen X)).run P w.drew=.ok p.toArray w.drew->
   X<sLen+n->(sLen+n)*i.bytes<=dj->0<i.bytes->(Builtin.append_ #[t,u] ty #[.slice base sLen X,aY]).run P w =
   .ok (.slice (some ⟨w.heap.size,0,none⟩) (sLen+n) (grownCap w (sLen+n) X e)) (w.drew.alloc (.cells ((p++vs).toArray++Builtin.zeroCells zv.cells (grownCap w (sLen+n) X e - (sLen+n))) e))) :
  ∃ v w' muZ',(Builtin.append_ #[t,u] ty #[jm,aY]).run P w=.ok v w'/\cZ w h muZ w' h' muZ'/\bF R B w' h' muZ'/\aB w' R h' muZ' c v:=by
 unfold qD at g;by_cases a4:n=0
 ·-- nothing is appended
  subst a4;simp only[if_true] at g;have a2:(c,h')=(s,h):=by
   split at g<;>first | (simp only[bc] at g;exact g.symm) | cases g
  have hk:s=.ad\/(∃ z a6,s=.bu z a6)\/∃ z b j len cap sz,s=.Z z b j len cap sz:=by
   split at g
   ·exact .inl rfl
   ·exact .inr (.inl ⟨_,_,rfl⟩)
   ·exact .inr (.inr ⟨_,_,_,_,_,_,rfl⟩)
   ·cases g
  simp only[Prod.mk.injEq] at a2;obtain⟨rfl,rfl⟩:=a2;obtain⟨base,sLen,X,rfl,bw⟩:=Xu aR hk;have bj:vs=[]:=by
   have:vs.length=0:=by rw[O.1,S];simp
   exact ho.1 this
  subst bj;have:=aL base sLen X w F (by cases base<;>simp[storeCells]);exact⟨_,w,muZ,this,.refl _ _ _,rel,by simpa using aR⟩
 ·rw[ai a4] at g;split at g
  ·cases g
  ·rename_i a1;simp only[not_or,Decidable.not_not] at a1;obtain⟨bl,bp,bm⟩:=a1;obtain⟨i,zv,ap,aK,aJ⟩:=MV bm;have aU:i.size=z:=by simpa [ca,ap] using bk
   have aw:i.bytes=by_:=by simpa [gK,ap] using a8
   have bn:0<z:=Nat.pos_of_ne_zero bl;have aS:∀ a,w.drew.cell? a=w.cell? a:=fun _=>rfl
   split at g
   ·-- append to nil
    split at g
    ·rename_i aq;simp only[bc,Prod.mk.injEq] at g;obtain⟨rfl,rfl⟩:=g;cases aR;have H:=ay i zv ap aK none 0 0 [] (by simp[Builtin.firstCells]) F (by rw[aw];simpa using aq) F;have C:n<=grownCap w (0+n) 0 e:=by have:=grownCap_ge w (0+n) 0 e;omega
     obtain⟨I,W⟩:=wn (e:=e) (zv:=zv) (need:=n) (cap:=grownCap w (0+n) 0 e) aJ (by rw[S]) O C;have q:=rel.push (w':=w.drew.alloc (.cells (vs.toArray++Builtin.zeroCells zv.cells (grownCap w (0+n) 0 e - n)) e)) xs _ e rfl rfl rfl rfl (by rw[I,S];exact ck _ C) W;rw[S] at q;refine⟨_,_,_,by simpa using H,by simpa using q.1,by simpa using q.2,?_⟩;have:=aB.Z (w:=w.drew.alloc (.cells (vs.toArray++Builtin.zeroCells zv.cells (grownCap w (0+n) 0 e - n)) e)) (R:=R) (h:=h.push (.cells (n*z) xs)) (muZ:=br muZ h.n (some ⟨w.heap.size,0,(vs.toArray++Builtin.zeroCells zv.cells (grownCap w (0+n) 0 e - n)).size⟩))
      z h.n 0 n n (n*z) (grownCap w (0+n) 0 e) xs ⟨w.heap.size,0,(vs.toArray++Builtin.zeroCells zv.cells (grownCap w (0+n) 0 e - n)).size⟩ (by simp[dV]) V (aN _) F (.inr ⟨F,C,by simp only;rw[I];omega⟩)
     simpa using this
    ·cases g
   ·rename_i bC b j len cap sz;cases D:h.f b with
    | cells m cs=>
     rw[D] at g;simp only at g;split at g
     ·rename_i bb;obtain⟨rfl,rfl,aq⟩:=bb;cases aR with
      | ff _ _ _ _ _ _ cap' a az bs H=>
       exfalso;rcases H with H | ⟨bB,aZ,H,al⟩
       ·rw[H] at D;cases D
       ·rw[H] at D;cases D;omega
      | gp _ _ _ _ a aZ o ar K=>
       rw[D] at ar;cases ar;have a7:=rel.kx K;rw[ai F,ti,nk,nk,h2,hI] at g;have H:=ay i zv ap aK (some a) 0 0 [] (by simp[Builtin.firstCells,loadCells,loadCellsFrom]) F (by rw[aw];exact aq) F;rw[hI] at H;have C:n<=grownCap w n 0 e:=grownCap_ge _ _ _ _;obtain⟨I,W⟩:=wn (e:=e) (zv:=zv) (need:=n) (cap:=grownCap w n 0 e) aJ (by rw[S]) O C;split at g
       ·simp only[bc,Prod.mk.injEq] at g;obtain⟨rfl,rfl⟩:=g;have q:=rel.push (w':=w.drew.alloc (.cells (vs.toArray++Builtin.zeroCells zv.cells (grownCap w n 0 e - n)) e)) xs _ e rfl rfl rfl rfl (by rw[I,S];exact ck _ C) W;rw[S] at q;refine⟨_,_,_,by simpa using H,by simpa using q.1,by simpa using q.2,?_⟩;have:=aB.Z (w:=w.drew.alloc (.cells (vs.toArray++Builtin.zeroCells zv.cells (grownCap w n 0 e - n)) e)) (R:=R) (h:=h.push (.cells (n*z) xs)) (muZ:=br muZ h.n (some ⟨w.heap.size,0,(vs.toArray++Builtin.zeroCells zv.cells (grownCap w n 0 e - n)).size⟩))
         z h.n 0 n n (n*z) (grownCap w n 0 e) xs ⟨w.heap.size,0,(vs.toArray++Builtin.zeroCells zv.cells (grownCap w n 0 e - n)).size⟩ (by simp[dV]) V (aN _) F (.inr ⟨F,C,by simp only;rw[I];omega⟩)
        simpa using this
       ·rename_i bg;split at g
        ·rename_i aQ;subst aQ;simp only[bc,Prod.mk.injEq] at g;obtain⟨rfl,rfl⟩:=g;have aO:m<n*z:=by
          have:1*1<=n*z:=Nat.mul_le_mul F bn;omega
         have q:=rel.move (w':=w.drew.alloc (.cells (vs.toArray++Builtin.zeroCells zv.cells (grownCap w n 0 e - n)) e)) D K rfl rfl rfl rfl S aO (by rw[I];exact ck _ C) W;refine⟨_,_,_,by simpa using H,by simpa using q.1,by simpa using q.2,?_⟩;have:=aB.Z (w:=w.drew.alloc (.cells (vs.toArray++Builtin.zeroCells zv.cells (grownCap w n 0 e - n)) e)) (R:=R) (h:=h.set b (.cells (n*z) xs)) (muZ:=br muZ b (some ⟨w.heap.size,0,(vs.toArray++Builtin.zeroCells zv.cells (grownCap w n 0 e - n)).size⟩))
          z b 0 n n (n*z) (grownCap w n 0 e) xs ⟨w.heap.size,0,(vs.toArray++Builtin.zeroCells zv.cells (grownCap w n 0 e - n)).size⟩ (by simp[dm]) V (aN _) F (.inr ⟨F,C,by simp only;rw[I];omega⟩)
         simpa using this
        ·simp only[bc,Prod.mk.injEq] at g;obtain⟨rfl,rfl⟩:=g;have q:=rel.push (w':=w.drew.alloc (.cells (vs.toArray++Builtin.zeroCells zv.cells (grownCap w n 0 e - n)) e)) xs _ e rfl rfl rfl rfl (by rw[I,S];exact ck _ C) W;rw[S] at q;have hk:=q.2.kill (b:=b) (sz:=m) (cs:=cs) (h':=(h.set b .dead).push (.cells (n*z) xs)) (by rw[dV,bS _ _ _ _ F];exact D) (by rw[jk];omega) (by
          rw[dV,dV,dm,hX];funext x;simp only[br];by_cases h1:x=h.n
          ·rw[ak h1,ai F,ak h1]
          ·rw[ai h1];split<;>rfl) rfl
         refine⟨_,_,_,by simpa using H,by simpa using q.1.trans hk.1,by simpa using hk.2,?_⟩;have:=aB.Z (w:=w.drew.alloc (.cells (vs.toArray++Builtin.zeroCells zv.cells (grownCap w n 0 e - n)) e)) (R:=R) (h:=(h.set b .dead).push (.cells (n*z) xs)) (muZ:=br muZ h.n (some ⟨w.heap.size,0,(vs.toArray++Builtin.zeroCells zv.cells (grownCap w n 0 e - n)).size⟩))
          z h.n 0 n n (n*z) (grownCap w n 0 e) xs ⟨w.heap.size,0,(vs.toArray++Builtin.zeroCells zv.cells (grownCap w n 0 e - n)).size⟩ (by rw[dV,hX,fK]) V (aN _) F (.inr ⟨F,C,by simp only;rw[I];omega⟩)
         simpa using this
      | Z _ _ _ _ _ _ cap' aZ o ar K az aP J=>
       have a0:=rel.blk b o K;rw[D] at a0;obtain⟨bt,bo,_⟩:=a0;rw[D] at ar;cases ar;have bx:len*z<=cap*z:=ck _ az;have bq:cap<=cap':=by rcases J with J | J<;>omega
       split at g
       ·-- in place,within what the machine knows
        rename_i ae;simp only[bc,Prod.mk.injEq] at g;obtain⟨rfl,rfl⟩:=g;have bz:len*z+n*z<=cap*z:=by rw[<-eP];exact ck _ ae
        have aA:max m (j+len*z+xs.length)=m:=F;obtain⟨w',h1,ah,aj⟩:=sZ (P:=P) rel (cvs:=xs) (vs:=vs) (k:=j+len*z) D K F O.1 F O.2;rw[aA] at ah aj;have aF:(storeCells ((⟨o.r,o.s+j,none⟩:Addr).add (len*z)) vs).run P w=.ok () w':=by rw[Addr.jY,i4];exact h1
        refine⟨_,w',muZ,aL (some ⟨o.r,o.s+j,none⟩) _ _ _ F aF,ah,aj,?_⟩;exact .Z z b j (len+n) cap m cap' _ o (by simp[dm];rfl) K ae aP J
       ·rename_i bA;split at g
        ·-- beyond a slice whose end lies within the row: it moves
         rename_i bv;simp only[bc,Prod.mk.injEq] at g;obtain⟨rfl,rfl⟩:=g;have a9:cap'=cap:=by rcases J with J | J<;>omega
         subst a9;have ax:contents h z (.Z z b j len cap' m)=some ((cs.drop j).take (len*z),len):=by simp[contents,D]
         obtain⟨am,_,p,G,aD⟩:=qP (P:=P) rel ax (aB.Z z b j len cap' m cap' cs o D K az aP J);have aC:∀ w2:aT,(∀ a,w2.cell? a=w.cell? a)->(Builtin.firstCells z len (.slice (some ⟨o.r,o.s+j,none⟩) len cap')).run P w2=.ok p.toArray w2:=fun w2 aH=>by
          have:=aD len (aN _) w2 aH
          rwa [aI (by rw[G.1,am];exact aN _)] at this
         have H:=ay i zv ap aK (some ⟨o.r,o.s+j,none⟩) len cap' p (by rw[aU];exact aC w.drew aS) F (by rw[aw];exact aq) F;have C:len+n<=grownCap w (len+n) cap' e:=grownCap_ge _ _ _ _;have au:pv w R h muZ ((cs.drop j).take (len*z)++xs) (p++vs):=by
          refine⟨by simp[G.1,O.1],fun ao c Q=>?_⟩;by_cases al:ao<((cs.drop j).take (len*z)).length
          ·rw[aV al] at Q;rw[aV (by rw[G.1];exact al)];exact G.2 ao c Q
          ·rw[eu F] at Q;rw[eu (by rw[G.1];omega),G.1];exact O.2 _ c Q
         have Y:((cs.drop j).take (len*z)++xs).length=(len+n)*z:=by rw[cI,am,S,eP]
         obtain⟨I,W⟩:=wn (e:=e) (zv:=zv) (need:=len+n) (cap:=grownCap w (len+n) cap' e) aJ Y au C;have q:=rel.push (w':=w.drew.alloc (.cells ((p++vs).toArray++Builtin.zeroCells zv.cells (grownCap w (len+n) cap' e - (len+n))) e)) _ _ e rfl rfl rfl rfl (by rw[I,Y];exact ck _ C) W;rw[Y] at q;refine⟨_,_,_,H,q.1,q.2,?_⟩;have:=aB.Z (w:=w.drew.alloc (.cells ((p++vs).toArray++Builtin.zeroCells zv.cells (grownCap w (len+n) cap' e - (len+n))) e)) (R:=R) (h:=h.push (.cells ((len+n)*z) ((cs.drop j).take (len*z)++xs))) (muZ:=br muZ h.n (some ⟨w.heap.size,0,((p++vs).toArray++Builtin.zeroCells zv.cells (grownCap w (len+n) cap' e - (len+n))).size⟩))
          z h.n 0 (len+n) (len+n) ((len+n)*z) (grownCap w (len+n) cap' e) _ ⟨w.heap.size,0,((p++vs).toArray++Builtin.zeroCells zv.cells (grownCap w (len+n) cap' e - (len+n))).size⟩ (by simp[dV];rfl) V (aN _) F (.inr ⟨F,C,by simp only;rw[I];omega⟩)
         simpa using this
        ·rename_i bg;split at g
         ·-- beyond the row's end: in place,or it moves
          rename_i aQ;subst aQ;simp only[bc,Prod.mk.injEq] at g;obtain⟨rfl,rfl⟩:=g;obtain⟨bd,bf,a3⟩:0+cap*z=m/\cap<=cap'/\o.s+0+cap'*z<=o.T:=by rcases J with J | J<;>omega
          have aO:m<(len+n)*z:=by
           have:(cap+1)*z<=(len+n)*z:=ck _ F;rw[eP] at this;omega
          have bi:len*z+n*z=(len+n)*z:=by rw[eP]
          by_cases ae:len+n<=cap'
          ·have bh:(len+n)*z<=cap'*z:=ck _ ae;have aA:max m (len*z+xs.length)=(len+n)*z:=F;obtain⟨w',h1,ah,aj⟩:=sZ (P:=P) rel (cvs:=xs) (vs:=vs) (k:=len*z) D K F O.1 F O.2;rw[aA] at ah aj;have aW:av cs (len*z) xs=cs.take (len*z)++xs:=by
            unfold av;rw[k6 F,eJ]
           rw[aW] at ah aj;have aF:(storeCells ((⟨o.r,o.s+0,none⟩:Addr).add (len*z)) vs).run P w=.ok () w':=by rw[Addr.jY,i4];simpa using h1
           refine⟨_,w',muZ,aL (some ⟨o.r,o.s+0,none⟩) _ _ _ ae aF,ah,aj,?_⟩;exact .Z z b 0 (len+n) (len+n) ((len+n)*z) cap' _ o (by simp[dm];rfl) K (aN _) F (.inr ⟨F,ae,a3⟩)
          ·have ax:contents h z (.Z z b 0 len cap m)=some ((cs.drop 0).take (len*z),len):=by simp[contents,D]
           obtain⟨am,_,p,G,aD⟩:=qP (P:=P) rel ax (aB.Z z b 0 len cap m cap' cs o D K az aP J);have aC:∀ w2:aT,(∀ a,w2.cell? a=w.cell? a)->(Builtin.firstCells z len (.slice (some ⟨o.r,o.s+0,none⟩) len cap')).run P w2=.ok p.toArray w2:=fun w2 aH=>by
            have:=aD len (aN _) w2 aH
            rwa [aI (by rw[G.1,am];exact aN _)] at this
           rw[lI] at am G;have H:=ay i zv ap aK (some ⟨o.r,o.s+0,none⟩) len cap' p (by rw[aU];exact aC w.drew aS) F (by rw[aw];exact aq) F;have C:len+n<=grownCap w (len+n) cap' e:=grownCap_ge _ _ _ _;have au:pv w R h muZ (cs.take (len*z)++xs) (p++vs):=by
            refine⟨by simp[G.1,O.1],fun ao c Q=>?_⟩;by_cases al:ao<(cs.take (len*z)).length
            ·rw[aV al] at Q;rw[aV (by rw[G.1];exact al)];exact G.2 ao c Q
            ·rw[eu F] at Q;rw[eu (by rw[G.1];omega),G.1];exact O.2 _ c Q
           have Y:(cs.take (len*z)++xs).length=(len+n)*z:=by rw[cI,am,S,eP]
           obtain⟨I,W⟩:=wn (e:=e) (zv:=zv) (need:=len+n) (cap:=grownCap w (len+n) cap' e) aJ Y au C;have q:=rel.move (w':=w.drew.alloc (.cells ((p++vs).toArray++Builtin.zeroCells zv.cells (grownCap w (len+n) cap' e - (len+n))) e)) D K rfl rfl rfl rfl Y aO (by rw[I];exact ck _ C) W;refine⟨_,_,_,H,q.1,q.2,?_⟩;have:=aB.Z (w:=w.drew.alloc (.cells ((p++vs).toArray++Builtin.zeroCells zv.cells (grownCap w (len+n) cap' e - (len+n))) e)) (R:=R) (h:=h.set b (.cells ((len+n)*z) (cs.take (len*z)++xs))) (muZ:=br muZ b (some ⟨w.heap.size,0,((p++vs).toArray++Builtin.zeroCells zv.cells (grownCap w (len+n) cap' e - (len+n))).size⟩))
            z b 0 (len+n) (len+n) ((len+n)*z) (grownCap w (len+n) cap' e) _ ⟨w.heap.size,0,((p++vs).toArray++Builtin.zeroCells zv.cells (grownCap w (len+n) cap' e - (len+n))).size⟩ (by simp[dm];rfl) V (aN _) F (.inr ⟨F,C,by simp only;rw[I];omega⟩)
           simpa using this
         ·-- beyond the row's end,from a place within it: a block of its own,in place or moved
          rename_i aQ;simp only[bc,Prod.mk.injEq] at g;obtain⟨rfl,rfl⟩:=g;obtain⟨bd,bf,a3⟩:j+cap*z=m/\cap<=cap'/\o.s+j+cap'*z<=o.T:=by rcases J with J | J<;>omega
          have aO:m<j+(len+n)*z:=by
           have:(cap+1)*z<=(len+n)*z:=ck _ F;rw[eP] at this;omega
          have bi:len*z+n*z=(len+n)*z:=by rw[eP]
          have a7:=rel.kx K;by_cases ae:len+n<=cap'
          ·have bh:(len+n)*z<=cap'*z:=ck _ ae;have aA:max m (j+len*z+xs.length)=j+(len+n)*z:=F;obtain⟨w',h1,ah,aj⟩:=sZ (P:=P) rel (cvs:=xs) (vs:=vs) (k:=j+len*z) D K F O.1 F O.2;rw[aA] at ah aj;have aW:(av cs (j+len*z) xs).drop j=(cs.drop j).take (len*z)++xs:=by
            unfold av;rw[k6 (as:=cs) F,eJ,ob (by simp;omega),qo];congr 2;omega
           have aF:(storeCells ((⟨o.r,o.s+j,none⟩:Addr).add (len*z)) vs).run P w=.ok () w':=by rw[Addr.jY,i4];exact h1
           have a5:=aj.KS (b:=b) (off:=j) (m:=o) (h':=(h.set b .dead).push (.cells ((len+n)*z) ((cs.drop j).take (len*z)++xs))) (by rw[dm,fK]) K F (by
            rw[dV,dm,dm,hX,hX,aW];have:j+(len+n)*z - j=(len+n)*z:=F;rw[this];funext x;simp only[br];split
            ·rfl
            ·split<;>rfl) rfl
           refine⟨_,w',_,aL (some ⟨o.r,o.s+j,none⟩) _ _ _ ae aF,ah.trans a5.1,a5.2,?_⟩;exact .Z z h.n 0 (len+n) (len+n) ((len+n)*z) cap' _ ⟨o.r,o.s+j,o.T⟩ (by rw[dV,hX,fK]) (by rw[hX];simp) (aN _) F (.inr ⟨F,ae,by simpa using (by omega:o.s+j+cap'*z<=o.T)⟩)
          ·have ax:contents h z (.Z z b j len cap m)=some ((cs.drop j).take (len*z),len):=by simp[contents,D]
           obtain⟨am,_,p,G,aD⟩:=qP (P:=P) rel ax (aB.Z z b j len cap m cap' cs o D K az aP J);have aC:∀ w2:aT,(∀ a,w2.cell? a=w.cell? a)->(Builtin.firstCells z len (.slice (some ⟨o.r,o.s+j,none⟩) len cap')).run P w2=.ok p.toArray w2:=fun w2 aH=>by
            have:=aD len (aN _) w2 aH
            rwa [aI (by rw[G.1,am];exact aN _)] at this
           have H:=ay i zv ap aK (some ⟨o.r,o.s+j,none⟩) len cap' p (by rw[aU];exact aC w.drew aS) F (by rw[aw];exact aq) F;have C:len+n<=grownCap w (len+n) cap' e:=grownCap_ge _ _ _ _;have au:pv w R h muZ ((cs.drop j).take (len*z)++xs) (p++vs):=by
            refine⟨by simp[G.1,O.1],fun ao c Q=>?_⟩;by_cases al:ao<((cs.drop j).take (len*z)).length
            ·rw[aV al] at Q;rw[aV (by rw[G.1];exact al)];exact G.2 ao c Q
            ·rw[eu F] at Q;rw[eu (by rw[G.1];omega),G.1];exact O.2 _ c Q
           have Y:((cs.drop j).take (len*z)++xs).length=(len+n)*z:=by rw[cI,am,S,eP]
           obtain⟨I,W⟩:=wn (e:=e) (zv:=zv) (need:=len+n) (cap:=grownCap w (len+n) cap' e) aJ Y au C;have q:=rel.push (w':=w.drew.alloc (.cells ((p++vs).toArray++Builtin.zeroCells zv.cells (grownCap w (len+n) cap' e - (len+n))) e)) _ _ e rfl rfl rfl rfl (by rw[I,Y];exact ck _ C) W;rw[Y] at q;have hk:=q.2.kill (b:=b) (sz:=m) (cs:=cs) (h':=(h.set b .dead).push (.cells ((len+n)*z) ((cs.drop j).take (len*z)++xs))) (by rw[dV,bS _ _ _ _ F];exact D) (by rw[jk];omega) (by
            rw[dV,dV,dm,hX];funext x;simp only[br];by_cases h1:x=h.n
            ·rw[ak h1,ai F,ak h1]
            ·rw[ai h1];split<;>rfl) rfl
           refine⟨_,_,_,H,q.1.trans hk.1,hk.2,?_⟩;have:=aB.Z (w:=w.drew.alloc (.cells ((p++vs).toArray++Builtin.zeroCells zv.cells (grownCap w (len+n) cap' e - (len+n))) e)) (R:=R) (h:=(h.set b .dead).push (.cells ((len+n)*z) ((cs.drop j).take (len*z)++xs))) (muZ:=br muZ h.n (some ⟨w.heap.size,0,((p++vs).toArray++Builtin.zeroCells zv.cells (grownCap w (len+n) cap' e - (len+n))).size⟩))
            z h.n 0 (len+n) (len+n) ((len+n)*z) (grownCap w (len+n) cap' e) _ ⟨w.heap.size,0,((p++vs).toArray++Builtin.zeroCells zv.cells (grownCap w (len+n) cap' e - (len+n))).size⟩ (by rw[dV,hX,fK]) V (aN _) F (.inr ⟨F,C,by simp only;rw[I];omega⟩)
           simpa using this
     ·cases g
    | _=>rw[D] at g;cases g
   ·cases g
theorem BO (rel:bF R B w h muZ) {t u ty:aG} {s x c:U} {jm q:aE} {h' : aM} (I:uq P u) (g:ox P h t s x=some (c,h')) (W:aB w R h muZ s jm) (ag:aB w R h muZ x q) :
  ∃ v w' muZ',(Builtin.append_ #[t,u] ty #[jm,q]).run P w=.ok v w'/\cZ w h muZ w' h' muZ'/\bF R B w' h' muZ'/\aB w' R h' muZ' c v:=by
 unfold ox at g;cases p:gh P t with
 | none=>rw[p] at g;cases g
 | some e=>
 have H:=wc p;rw[p] at g;simp only at g;cases j:ca P e with
 | none=>rw[j] at g;cases g
 | some z=>
 cases m:gK P e with
 | none=>rw[j,m] at g;cases g
 | some am=>
 rw[j,m] at g;simp only at g;cases o:contents h z x with
 | none=>rw[o] at g;cases g
 | some al=>
 obtain⟨ap,n⟩:=al;rw[o] at g;simp only at g;obtain⟨J,F,ak,G,O⟩:=qP (P:=P) rel o ag;have C:∀ w2:aT,(∀ a,w2.cell? a=w.cell? a)->(Builtin.firstCells z n q).run P w2=.ok ak.toArray w2:=fun w2 ae=>by
  have:=O n (aN _) w2 ae
  rwa [aI (by rw[G.1,J];exact aN _)] at this
 refine Gh rel j m g W J G (fun base aj ai w' Q Y=>run_append_fits H j I F (C w (fun _=>rfl)) Q Y) (fun i aq D ah base aj ai ao T S V K=>?_);have X:i.size=z:=by simpa [ca,D] using j
 exact WV H D ah I F (by rw[X];exact C w.drew (fun _=>rfl)) T S V K
end
end Go.bh

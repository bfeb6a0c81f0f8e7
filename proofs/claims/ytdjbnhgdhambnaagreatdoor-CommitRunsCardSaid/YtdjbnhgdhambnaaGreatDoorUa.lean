/-
  The canonical machine, part A: its values, blocks, heap, and what one operation does.
-/
import Derived.WalkKit
import Derived.Below
import Derived.Laws.AppendOwn
import Derived.Laws.CopyRow
import Derived.Laws.IdiomCopy
import Derived.Laws.StructEq
set_option maxHeartbeats 16000000
set_option maxRecDepth 100000
set_option linter.unusedVariables false
set_option linter.unusedSimpArgs false
set_option linter.unnecessarySimpa false
namespace Go.bl
abbrev aF := TypeId
abbrev aY := Operand
abbrev aD := Value
abbrev bq := Program
abbrev cj := FuncId
abbrev aT := World
abbrev bb := Oper
abbrev k5 := MapEntry
abbrev cV := IntKind
abbrev aK:=@List.getElem?_eq_some_iff
abbrev aH:=@List.take_of_length_le
abbrev aU:=@List.getElem?_append_left
abbrev bg:=@List.getElem?_set_ne
abbrev bK:=@List.getElem?_eq_getElem
abbrev bc:=@Option.some.injEq
abbrev aj:=@if_neg
abbrev ak:=@if_pos
abbrev aN:=@Nat.le_refl
abbrev bV:=@List.getElem?_set_self
abbrev bI:=@decide_eq_true_eq
abbrev cq:=@List.mem_iff_getElem?
abbrev bU:=@Bool.and_eq_true
abbrev ck:=@Nat.mul_le_mul_right
abbrev b1:=@List.getElem?_map
abbrev cJ:=@List.mem_of_getElem?
abbrev cF:=@List.length_append
abbrev cg:=@List.length_map
abbrev cd:=@Option.some.inj
abbrev ca:=@decide_eq_true
abbrev ct:=@decide_eq_false
abbrev cz:=@Option.map_some
abbrev cL:=@List.length_take
abbrev dS:=@List.getElem?_take_of_lt
abbrev eu:=@List.getElem?_append_right
abbrev cS:=@List.map_append
abbrev dY:=@List.getElem?_eq_none
abbrev cC:=@List.mem_map
abbrev dx:=@List.mem_filter
abbrev dN:=@List.length_cons
abbrev di:=@List.map_cons
abbrev e2:=@BitVec.eq_of_toNat_eq
abbrev ej:=@List.take_add_one
abbrev gx:=@List.getD_eq_getElem?_getD
abbrev eg:=@Nat.mod_eq_of_lt
abbrev fw:=@BitVec.toNat_setWidth
abbrev bW:=@absurd
abbrev hj:=@Array.getD_eq_getD_getElem?
abbrev dC:=@Nat.le_trans
abbrev ik:=@List.take_append_of_le_length
abbrev eK:=@List.append_nil
abbrev e3:=@List.take_length
abbrev hI:=@Nat.shiftRight_eq_div_pow
abbrev fm:=@Int.toNat_natCast
abbrev gA:=@List.mem_of_mem_take
abbrev hp:=@List.length_eq_zero_iff
abbrev hn:=@List.getElem?_cons_zero
abbrev ci:=@congrArg
abbrev ij:=@Array.getElem?_eq_some_iff
abbrev fQ:=@BitVec.toNat_ofNat
abbrev g4:=@List.length_filter_le
abbrev gd:=@List.mem_singleton
abbrev ek:=@Nat.succ_mul
abbrev gy:=@List.getElem?_drop
abbrev fx:=@List.mem_append
abbrev ho:=@List.getElem?_range
abbrev gc:=@List.all_eq_true
abbrev eP:=@Nat.add_mul
abbrev g3:=@List.ext_getElem?
abbrev jr:=@List.getElem?_cons_succ
abbrev hl:=@List.append_assoc
abbrev g6:=@Option.getD_some
abbrev ko:=@List.pairwise_iff_getElem
abbrev i4:=@List.take_append_drop
abbrev hG:=@List.flatten_cons
abbrev k2:=@List.drop_eq_getElem_cons
abbrev fE:=@Nat.lt_or_ge
abbrev hq:=@List.length_nil
abbrev g5:=@List.mem_range
abbrev jq:=@List.flatten_append
abbrev lE:=@BitVec.toNat_ushiftRight
abbrev fR:=@Nat.zero_le
abbrev h0:=@List.nil_append
abbrev k3:=@List.drop_eq_nil_of_le
abbrev iM:=@of_decide_eq_true
abbrev iK:=@List.cons_append
abbrev nY:=@List.drop_append_of_le_length
abbrev i2:=@List.length_drop
abbrev kk:=@List.filter_sublist
abbrev nZ:=@List.getElem?_concat_length
abbrev kj:=@Bool.false_eq_true
abbrev i7:=@Nat.min_eq_left
abbrev k4:=@List.replicate_succ
abbrev hJ:=@Nat.zero_add
abbrev m6:=@Int.eq_ofNat_of_zero_le
abbrev n2:=@List.mem_or_eq_of_mem_set
abbrev mo:=@Nat.eq_of_beq_eq_true
abbrev rv:=@List.set_eq_take_append_cons_drop
abbrev o4:=@Array.getElem?_append_left
abbrev lH:=@List.filter_append
abbrev i5:=@Nat.add_assoc
abbrev mn:=@List.map_congr_left
abbrev i3:=@List.map_take
abbrev km:=@List.length_set
abbrev iL:=@List.map_map
abbrev m7:=@List.map_eq_nil_iff
abbrev lJ:=@List.not_mem_nil
abbrev nX:=@BitVec.ofInt_natCast
abbrev nb:=@Nat.lt_of_lt_of_le
abbrev o6:=@List.set_append_right
abbrev kn:=@List.mem_cons
abbrev m5:=@BitVec.toNat_umod
abbrev m8:=@List.pairwise_map
abbrev rl:=@Array.getElem?_eq_getElem
abbrev p4:=@Array.getElem?_eq_none
abbrev p8:=@List.drop_of_length_le
abbrev lG:=@List.drop_zero
abbrev lK:=@List.take_take
abbrev k1:=@Bool.and_self
abbrev kp:=@Nat.le_of_lt
abbrev p5:=@Array.getElem?_toList
abbrev n0:=@List.getElem?_set
abbrev lF:=@Bool.true_and
abbrev p7:=@Bool.or_eq_false_iff
abbrev n4:=@Nat.shiftLeft_eq
abbrev s3:=@List.getElem?_zip_eq_some
abbrev qa:=@List.length_pos_iff
abbrev o8:=@Nat.lt_trichotomy
abbrev m9:=@List.take_zero
abbrev uW:=@Array.getElem?_setIfInBounds
abbrev lI:=@List.map_nil
abbrev uV:=@Array.getElem?_append_right
abbrev o7:=@List.take_append
abbrev ru:=@List.pairwise_append
abbrev sZ:=@BitVec.toNat_shiftLeft
abbrev p6:=@Bool.eq_false_iff
abbrev rm:=@Array.length_toList
abbrev rs:=@List.filter_eq_self
abbrev qc:=@Option.bind_some
abbrev na:=@Nat.add_zero
abbrev rA:=@Option.isSome_none
abbrev qb:=@Nat.div_eq_of_lt
abbrev u5:=@List.eq_of_mem_replicate
abbrev n1:=@List.map_drop
abbrev o5:=@List.mapM_cons
abbrev rn:=@BitVec.toNat_udiv
abbrev sY:=@Array.getElem?_push
abbrev s4:=@List.mem_map_of_mem
abbrev mq:=@Nat.mod_lt
abbrev u6:=@List.getElem?_toArray
abbrev p9:=@List.drop_take
abbrev s6:=@List.set_cons_zero
abbrev s8:=@Nat.add_sub_cancel
abbrev n3:=@Nat.mul_one
abbrev n5:=@decide_true
abbrev u7:=@List.mem_of_mem_drop
abbrev AE:=@Array.eq_empty_of_size_eq_zero
abbrev rr:=@Bool.or_eq_true
abbrev rp:=@Bool.false_and
abbrev rq:=@Bool.not_false
abbrev s1:=@List.any_eq_true
abbrev s2:=@List.filter_cons
abbrev xO:=@Nat.le_of_ble_eq_true
abbrev tc:=@Option.pure_def
abbrev s5:=@List.range_succ
abbrev xL:=@List.length_singleton
abbrev AM:=@Int.fdiv_eq_ediv_of_nonneg
abbrev uZ:=@Bool.not_eq_true'
abbrev u3:=@List.count_append
abbrev xJ:=@List.getElem?_of_mem
abbrev rx:=@Nat.add_comm
abbrev AH:=@Array.getElem?_replicate
abbrev u4:=@List.drop_append
abbrev va:=@Nat.min_eq_right
abbrev uX:=@BitVec.toNat_mul
abbrev xH:=@List.flatMap_append
abbrev EV:=@Array.getElem?_setIfInBounds_ne
abbrev AV:=@List.getElem?_replicate
abbrev A0:=@List.pairwise_singleton
abbrev s7:=@List.sum_cons
abbrev xM:=@List.set_cons_succ
abbrev u2:=@Int.natCast_pow
abbrev u9:=@List.nodup_cons
abbrev ry:=@Nat.le_succ
abbrev rz:=@Nat.pow_add
abbrev xN:=@List.size_toArray
abbrev xR:=@not_false_eq_true
abbrev xD:=@Array.mem_of_getElem?
abbrev ta:=@Nat.zero_mul
abbrev s9:=@Nat.sub_self
abbrev AG:=@Array.getElem?_modify
abbrev A1:=@List.set_getElem_self
abbrev uY:=@Bool.and_false
abbrev AX:=@List.mem_cons_of_mem
abbrev xK:=@List.isEmpty_iff
abbrev xF:=@Bool.not_eq_true
abbrev AP:=@List.count_singleton
abbrev xP:=@Nat.le_of_not_lt
abbrev u0:=@Bool.not_true
abbrev A3:=@List.takeWhile_cons
abbrev xI:=@List.foldl_cons
abbrev E7:=@List.getElem?_eq_none_iff
abbrev xE:=@Bool.eq_iff_iff
abbrev AD:=@Array.append_assoc
abbrev AF:=@Array.getElem?_map
abbrev vd:=@Nat.sub_zero
abbrev vf:=@decide_false
abbrev AN:=@Int.natCast_nonneg
abbrev AJ:=@BitVec.toNat_ofInt
abbrev AZ:=@List.pairwise_cons
abbrev Fa:=@List.length_erase_of_mem
abbrev AW:=@List.map_replicate
abbrev xG:=@List.drop_drop
abbrev Fm:=@Nat.exists_eq_add_of_le
abbrev AU:=@List.foldl_append
abbrev AO:=@List.any_eq_false
abbrev Fs:=@Option.map_eq_some_iff
abbrev ve:=@Prod.mk.inj
abbrev vc:=@Nat.one_mul
abbrev vb:=@Nat.mul_mod
abbrev Fb:=@List.length_pos_of_mem
abbrev AQ:=@List.drop_length
abbrev A8:=@Nat.max_eq_right
abbrev AI:=@BitVec.toNat_and
abbrev AY:=@List.nodup_range
abbrev Fh:=@List.singleton_append
abbrev AR:=@List.find?_cons
abbrev Fr:=@Nat.pow_le_pow_right
abbrev A7:=@Nat.max_eq_left
abbrev ME:=@Nat.and_two_pow_sub_one_eq_mod
abbrev Fe:=@List.mem_erase_of_ne
abbrev MF:=@Nat.shiftLeft_add_eq_or_of_lt
abbrev E9:=@List.getElem_of_mem
abbrev Fj:=@List.zip_eq_zipWith
abbrev xQ:=@Nat.pow_mod
abbrev Fl:=@Nat.eq_or_lt_of_le
abbrev Fc:=@List.mem_cons_self
abbrev E1:=@Bool.true_eq_false
abbrev EX:=@BitVec.ofNat_toNat
abbrev Ft:=@UInt8.toNat_ofNat'
abbrev AK:=@Bool.false_or
abbrev EW:=@Array.size_append
abbrev Fo:=@Nat.mul_left_comm
abbrev Fq:=@Nat.mul_mod_right
abbrev Fg:=@List.nodup_append
abbrev Fi:=@List.take_sublist
abbrev E6:=@List.filter_congr
abbrev MC:=@Array.mapM_eq_mapM_toList
abbrev MD:=@List.mem_of_find?_eq_some
abbrev MG:=@Option.isNone_iff_eq_none
abbrev A4:=@Nat.beq_refl
abbrev A6:=@Nat.le_of_eq
abbrev MH:=@Option.isSome_iff_exists
abbrev Ff:=@List.mem_flatMap
abbrev E8:=@List.getElem_mem
abbrev Fp:=@Nat.mul_mod_left
abbrev E3:=@Int.natCast_ediv
abbrev Ba:=@Nat.mul_comm
abbrev EY:=@BitVec.toNat_add
abbrev EZ:=@BitVec.toNat_not
abbrev A2:=@List.set_set
abbrev AL:=@Bool.or_true
abbrev Fk:=@Nat.div_le_self
abbrev A9:=@Nat.min_def
abbrev E5:=@List.drop_left
abbrev E0:=@Bool.and_assoc
abbrev A5:=@Nat.blt_eq
abbrev E4:=@List.all_cons
open Go
inductive U where
 | bool (b:Bool)
 | int (k:cV) (n:Int)
 | str (s:List UInt8)
 | iy | ae | g0 | ib | hS
 | af (cs:List U)
 | a1 (q:List U)
 | ptr (b g h:Nat)
 | b7 (cs:List U) (g:Nat)
 | Z (j b g len cap h:Nat)
 | bu (j:Nat) (m:List (List U))
 | fn (f:cj) (first e6:List U)
 | mp (b:Nat)
 | it (b:Nat)
 | fX (o:aF) (p:U)
 | ff (l:Nat)
 | bad
 deriving Inhabited
inductive ao where
 | none
 | dead
 | cells (j:Nat) (cs:List U)
 | map (h:List (U × U × Nat)) (g:Nat)
 | iter (s:List UInt8) (pos:Nat)
 deriving Inhabited
inductive cB (alZ:Type) where
 | nil
 | node (l:cB alZ) (g:Option alZ) (r:cB alZ)
def cB.get {alZ:Type}:cB alZ->Nat->Option alZ
 | .nil,_=>none
 | .node l g r,n=>match Nat.beq n 0 with
  | true=>g
  | false=>match Nat.beq (n % 2) 1 with
   | true=>l.get (n / 2)
   | false=>r.get (n / 2 - 1)
def cB.iG {alZ:Type}:Nat->cB alZ->Nat->alZ->cB alZ
 | 0,h,_,_=>h
 | k+1,.nil,n,x=>match Nat.beq n 0 with
  | true=>.node .nil (some x) .nil
  | false=>match Nat.beq (n % 2) 1 with
   | true=>.node (cB.iG k .nil (n / 2) x) none .nil
   | false=>.node .nil none (cB.iG k .nil (n / 2 - 1) x)
 | k+1,.node l g r,n,x=>match Nat.beq n 0 with
  | true=>.node l (some x) r
  | false=>match Nat.beq (n % 2) 1 with
   | true=>.node (cB.iG k l (n / 2) x) g r
   | false=>.node l g (cB.iG k r (n / 2 - 1) x)
def cB.set {alZ:Type} (t:cB alZ) (n:Nat) (x:alZ) :cB alZ:=t.iG (n+1) n x
theorem ix {a b:Nat} (h:¬ a=b) :Nat.beq a b=false:=by
 cases g:Nat.beq a b with
 | false=>rfl
 | true=>exact bW (mo g) h
theorem pI {a b:Nat} (h:a=b) :Nat.beq a b=true:=by subst h;exact A4 a
theorem cB.vZ {alZ:Type}:∀ (k:Nat) (t:cB alZ) (n:Nat) (x:alZ) (m:Nat),n<k->(t.iG k n x).get m=if m=n then some x else t.get m
 | 0,_,_,_,_,h=>by omega
 | k+1,.nil,n,x,m,h=>by
  unfold cB.iG;by_cases u:n=0
  ·subst u;simp only;unfold cB.get;by_cases g:m=0
   ·subst g;simp
   ·have:Nat.beq m 0=false:=ix g;simp only[this,aj g];split<;>rfl
  ·have v:Nat.beq n 0=false:=ix u;simp only[v];by_cases h1:n % 2=1
   ·have p:Nat.beq (n % 2) 1=true:=pI h1;simp only[p];unfold cB.get;by_cases g:m=0
    ·subst g;simp;omega
    ·have:Nat.beq m 0=false:=ix g;simp only[this];by_cases j:m % 2=1
     ·have:Nat.beq (m % 2) 1=true:=pI j;simp only[this];rw[cB.vZ k .nil (n / 2) x (m / 2) (by omega)];by_cases o:m=n
      ·subst o;simp
      ·rw[aj o,aj (by omega)];rfl
     ·have:Nat.beq (m % 2) 1=false:=ix j;simp only[this];rw[aj (by intro q;subst q;exact j h1)];rfl
   ·have p:Nat.beq (n % 2) 1=false:=ix h1;simp only[p];unfold cB.get;by_cases g:m=0
    ·subst g;simp;omega
    ·have:Nat.beq m 0=false:=ix g;simp only[this];by_cases j:m % 2=1
     ·have:Nat.beq (m % 2) 1=true:=pI j;simp only[this];rw[aj (by intro q;subst q;exact h1 j)];rfl
     ·have:Nat.beq (m % 2) 1=false:=ix j;simp only[this];rw[cB.vZ k .nil (n / 2 - 1) x (m / 2 - 1) (by omega)];by_cases o:m=n
      ·subst o;simp
      ·rw[aj o,aj (by omega)];rfl
 | k+1,.node l w r,n,x,m,h=>by
  unfold cB.iG;by_cases u:n=0
  ·subst u;simp only;unfold cB.get;by_cases g:m=0
   ·subst g;simp
   ·have:Nat.beq m 0=false:=ix g;simp only[this,aj g]
  ·have v:Nat.beq n 0=false:=ix u;simp only[v];by_cases h1:n % 2=1
   ·have p:Nat.beq (n % 2) 1=true:=pI h1;simp only[p];unfold cB.get;by_cases g:m=0
    ·subst g;simp;omega
    ·have:Nat.beq m 0=false:=ix g;simp only[this];by_cases j:m % 2=1
     ·have:Nat.beq (m % 2) 1=true:=pI j;simp only[this];rw[cB.vZ k l (n / 2) x (m / 2) (by omega)];by_cases o:m=n
      ·subst o;simp
      ·rw[aj o,aj (by omega)]
     ·have:Nat.beq (m % 2) 1=false:=ix j;simp only[this];rw[aj (by intro q;subst q;exact j h1)]
   ·have p:Nat.beq (n % 2) 1=false:=ix h1;simp only[p];unfold cB.get;by_cases g:m=0
    ·subst g;simp;omega
    ·have:Nat.beq m 0=false:=ix g;simp only[this];by_cases j:m % 2=1
     ·have:Nat.beq (m % 2) 1=true:=pI j;simp only[this];rw[aj (by intro q;subst q;exact h1 j)]
     ·have:Nat.beq (m % 2) 1=false:=ix j;simp only[this];rw[cB.vZ k r (n / 2 - 1) x (m / 2 - 1) (by omega)];by_cases o:m=n
      ·subst o;simp
      ·rw[aj o,aj (by omega)]
theorem cB.Cf {alZ:Type} (t:cB alZ) (n:Nat) (x:alZ) (m:Nat) :(t.set n x).get m=if m=n then some x else t.get m:=cB.vZ _ _ _ _ _ (by omega)
structure aM where
 n:Nat
 t:cB ao
def aM.f (h:aM) (b:Nat) :ao:=match h.t.get b with | some c=>c | none=>.none
def aM.empty:aM:=⟨0,.nil⟩
def bt {alZ:Type} (f:Nat->alZ) (i:Nat) (v:alZ) :Nat->alZ:=fun g=>if g=i then v else f g
def aM.push (h:aM) (c:ao) :aM:=⟨h.n+1,h.t.set h.n c⟩
def aM.set (h:aM) (b:Nat) (c:ao) :aM:=⟨h.n,h.t.set b c⟩
theorem jl (h:aM) (c:ao) :(h.push c).n=h.n+1:=rfl
theorem hW (h:aM) (b:Nat) (c:ao) :(h.set b c).n=h.n:=rfl
theorem dX (h:aM) (c:ao) :(h.push c).f=bt h.f h.n c:=by
 funext b;simp only[aM.f,aM.push,bt,cB.Cf];by_cases g:b=h.n
 ·simp[g]
 ·simp[g]
theorem dn (h:aM) (b:Nat) (c:ao) :(h.set b c).f=bt h.f b c:=by
 funext j;simp only[aM.f,aM.set,bt,cB.Cf];by_cases g:j=b
 ·simp[g]
 ·simp[g]
theorem yw (b:Nat) :aM.empty.f b=.none:=rfl
@[simp] theorem fJ {alZ:Type} (f:Nat->alZ) (i:Nat) (v:alZ) :bt f i v i=v:=by simp[bt]
theorem bS {alZ:Type} (f:Nat->alZ) (i j:Nat) (v:alZ) (h:j≠i) :bt f i v j=f j:=by simp[bt,h]
def U.one:U->Bool
 | .af _ | .a1 _ | .bad=>false
 | _=>true
def U.cells:U->Option (List U)
 | .af cs=>some cs
 | .a1 _ | .bad=>none
 | v=>some [v]
def l7:aD->U
 | .bool b=>.bool b
 | .int k n=>.int k n
 | .string s=>.str s.data.toList
 | .pointer a=>match a with | none=>.iy | some _=>.bad
 | .slice a l c=>match a,l,c with | none,0,0=>.ae | _,_,_=>.bad
 | .map r=>match r with | none=>.g0 | some _=>.bad
 | .nilFunc=>.ib
 | .nilIface=>.hS
 | .func fn first e6=>match fn,first.toList,e6.toList with | .func f,[],[]=>.fn f [] [] | _,_,_=>.bad
 | _=>.bad
def qS:aD->U
 | .agg cs=>if cs.toList.all Value.oneCell' then .af (cs.toList.map l7) else .bad
 | .tuple g=>.a1 (g.toList.map l7)
 | v=>l7 v
def dA (G:Nat->U) (sgZ:Nat->U) :aY->U
 | .tmp h=>sgZ h
 | .const j=>qS j
 | .func f=>.fn f [] []
 | .global g=>G g
def dE (P:bq) (t:aF) :Option Bool:=(P.underlying t).map fun d=>match d with | .struct _ | .array _ _=>true | _=>false
def b9 (P:bq) (t:aF) :Option Nat:=(P.info? t).map (·.size)
def gM (P:bq) (t:aF) :Option Nat:=(P.info? t).map (·.bytes)
def gb (P:bq) (t:aF) :Option (List U):=((P.info? t).bind (·.zero)).bind fun g=>if g.cells.toList.all Value.oneCell' then some (g.cells.toList.map l7) else none
def gj (P:bq) (t:aF) :Option aF:=match P.underlying t with | some (.slice e)=>some e | _=>none
def go (P:bq) (t:aF) (cs:List U) (off:Nat) :Option U:=
 match dE P t,b9 P t with
 | some true,some n=>if off+n<=cs.length then some (.af ((cs.drop off).take n)) else none
 | some false,_=>cs[off]?
 | _,_=>none
def md (h:aM) :U->Option (List U × Nat)
 | .ptr b g j=>match h.f b with
  | .cells n cs=>if n=j then some (cs,g) else none
  | _=>none
 | .b7 cs g=>some (cs,g)
 | _=>none
def oK (P:bq) (h:aM) (t:aF) (p:U) :Option U:=
 match md h p with
 | some (cs,g)=>go P t cs g
 | none=>none
def aw (cs:List U) (off:Nat) (vs:List U) :List U:=cs.take off++vs++cs.drop (off+vs.length)
def rb (P:bq) (h:aM) (t:aF) (p v:U) :Option aM:=
 match p,v.cells,b9 P t with
 | .ptr b j o,some m,some n=>match h.f b with
  | .cells g cs=>if g=o/\m.length=n/\j+n<=g then some (h.set b (.cells g (aw cs j m))) else none
  | _=>none
 | _,_,_=>none
def asInt:U->Option Int
 | .int _ n=>some n
 | _=>none
def rX (P:bq) (s:aF) (f:Nat) :Option Field:=match P.underlying s with | some (.struct g)=>g[f]? | _=>none
def lf:U->Nat->Option U
 | .ptr b g h,k=>some (.ptr b (g+k) h)
 | .b7 cs g,k=>some (.b7 cs (g+k))
 | _,_=>none
def yB (P:bq) (s:aF) (x:U) (f:Nat) :Option U:=
 match rX P s f with
 | some g=>match b9 P g.type with
  | some (_+1)=>lf x g.offset
  | _=>none
 | none=>none
def wg (P:bq) (t:aF) (x m:U) :Option U:=
 match P.underlying t,asInt m with
 | some (.array len e),some i=>match b9 P e with
  | some g=>if 0<=i/\i<len then lf x (i.toNat*g) else none
  | none=>none
 | some (.slice e),some i=>match b9 P e,x with
  | some g,.Z h b o len _ p=>if g=h/\0<=i/\i<len then some (.ptr b (o+i.toNat*g) p) else none
  | some g,.bu h j=>if g=h/\0<=i then (j[i.toNat]?).map fun cs=>.b7 cs 0 else none
  | _,_=>none
 | _,_=>none
def ey (h:Nat->Option (Nat × Nat)) (cells:List U) :List (Nat × U)->Option (List U)
 | []=>some cells
 | (i,m) ::rest=>match h i,m.cells with
  | some (g,size),some j=>if j.length=size/\g+size<=cells.length then ey h (aw cells g j) rest else none
  | _,_=>none
def wW (P:bq) (fs:Array Field) (i:Nat) :Option (Nat × Nat):=(fs[i]?).bind fun f=>(b9 P f.type).map fun n=>(f.offset,n)
def vC (P:bq) (t:aF) (parts:List (Nat × U)) :Option U:=
 match gb P t,P.underlying t with
 | some zero,some (.struct g)=>if !(g.toList.all fun f=>(b9 P f.type).isSome) then none else (ey (wW P g) zero parts).map .af
 | some zero,some (.array _ e)=>match b9 P e with
  | some n=>(ey (fun i=>some (i*n,n)) zero parts).map .af
  | none=>none
 | _,_=>none
def c3 (zero:List U) :Nat->List U
 | 0=>[]
 | n+1=>zero++c3 zero n
def yb (P:bq) (h:aM) (t:aF) (len:Nat) (parts:List (Nat × U)) :Option (U × aM):=
 match gj P t with
 | some e=>match b9 P e,gb P e with
  | some g,some zero=>if zero.length=g/\len*g<=16777216 then
    (ey (fun i=>some (i*g,g)) (c3 zero len) parts).map fun cs=>(.Z g h.n 0 len len (len*g),h.push (.cells (len*g) cs))
   else none
  | _,_=>none
 | none=>none
def cx (op:BinOp) (k:cV) (a:Int) (k' : cV) (b:Int) :Option U:=
 match op with
 | .shl=>if b<0 then none else some (.int k (k.wrap (a*2 ^ min b.toNat k.bits)))
 | .shr=>if b<0 then none else some (.int k (a.fdiv (2 ^ min b.toNat k.bits)))
 | .add=>if k=k' then some (.int k (k.wrap (a+b))) else none
 | .sub=>if k=k' then some (.int k (k.wrap (a - b))) else none
 | .mul=>if k=k' then some (.int k (k.wrap (a*b))) else none
 | .quo=>if k=k'/\b≠0 then some (.int k (k.wrap (a.tdiv b))) else none
 | .rem=>if k=k'/\b≠0 then some (.int k (a.tmod b)) else none
 | .and=>if k=k' then some (.int k (k.wrap (BitVec.ofInt k.bits a &&& BitVec.ofInt k.bits b).toNat)) else none
 | .or=>if k=k' then some (.int k (k.wrap (BitVec.ofInt k.bits a ||| BitVec.ofInt k.bits b).toNat)) else none
 | .xor=>if k=k' then some (.int k (k.wrap (BitVec.ofInt k.bits a ^^^ BitVec.ofInt k.bits b).toNat)) else none
 | .andNot=>if k=k' then some (.int k (k.wrap (BitVec.ofInt k.bits a &&& ~~~BitVec.ofInt k.bits b).toNat)) else none
 | .eql=>if k=k' then some (.bool (a == b)) else none
 | .neq=>if k=k' then some (.bool (a != b)) else none
 | .lss=>if k=k' then some (.bool (decide (a<b))) else none
 | .leq=>if k=k' then some (.bool (decide (a<=b))) else none
 | .gtr=>if k=k' then some (.bool (decide (a > b))) else none
 | .geq=>if k=k' then some (.bool (decide (a ≥ b))) else none
def tl (op:BinOp) (a b:List UInt8) :Option U:=
 match op with
 | .eql=>some (.bool (a == b))
 | .neq=>some (.bool (!(a == b)))
 | .lss=>some (.bool (Op.bytesLess a b))
 | .leq=>some (.bool (Op.bytesLess a b||a == b))
 | .gtr=>some (.bool (!(Op.bytesLess a b||a == b)))
 | .geq=>some (.bool (!Op.bytesLess a b))
 | .add=>if a.length+b.length<=9223372036854775807 then some (.str (a++b)) else none
 | _=>none
def dL (P:bq) :Nat->aF->U->U->Option Bool
 | 0,_,_,_=>none
 | d+1,o,x,y=>
  match P.underlying o,x,y with
  | some .bool,.bool a,.bool b=>some (a == b)
  | some (.int _),.int k a,.int p b=>if k=p then some (a == b) else none
  | some .string,.str a,.str b=>some (a == b)
  | some (.struct m),.af g,.af h=>if P.stoodInHeld o then none else eqFields P (dL P d) g h m.toList
  | some (.array n e),.af g,.af h=>match b9 P e with
   | some j=>oy P (dL P d) e j g h n 0
   | none=>none
  | some (.slice _),.ae,.ae=>some true
  | some (.slice _),.ae,.Z .. | some (.slice _),.ae,.bu .. | some (.slice _),.Z ..,.ae | some (.slice _),.bu ..,.ae=>some false
  | _,_,_=>none
where
 eqFields (P:bq) (eq:aF->U->U->Option Bool) (g h:List U) :List Field->Option Bool
  | []=>some true
  | f::m=>if f.name= "_" then eqFields P eq g h m else
   match go P f.type g f.offset,go P f.type h f.offset with
   | some a,some b=>match eq f.type a b with
    | some true=>eqFields P eq g h m
    | some false=>some false
    | none=>none
   | _,_=>none
 oy (P:bq) (eq:aF->U->U->Option Bool) (e:aF) (j:Nat) (g h:List U) :Nat->Nat->Option Bool
  | 0,_=>some true
  | n+1,i=>match go P e g (i*j),go P e h (i*j) with
   | some a,some b=>match eq e a b with
    | some true=>oy P eq e j g h n (i+1)
    | some false=>some false
    | none=>none
   | _,_=>none
def rV (P:bq) (t:aF) :U->U->Bool
 | .af _,.af _=>!P.eqGuardType P.depth t
 | _,_=>true
def eb (P:bq) (op:BinOp) (t:aF) (x y:U) :Option U:=
 match x,y with
 | .int k a,.int g b=>cx op k a g b
 | .str a,.str b=>tl op a b
 | x,y=>match op with
  | .eql=>if rV P t x y then (dL P 10000 t x y).map .bool else none
  | .neq=>if rV P t x y then (dL P 10000 t x y).map fun b=>.bool (!b) else none
  | _=>none
def rf (op:UnOp) (x:U) :Option U:=
 match op,x with
 | .not,.bool b=>some (.bool (!b))
 | .neg,.int k n=>some (.int k (k.wrap (0 - n)))
 | .xor,.int k n=>some (.int k (k.wrap (BitVec.ofInt k.bits (if k.signed then -1 else k.max) ^^^ BitVec.ofInt k.bits n).toNat))
 | _,_=>none
def lU (z:Nat) :Nat->List U->List (List U)
 | 0,_=>[]
 | n+1,cs=>cs.take z::lU z n (cs.drop z)
def hs (b:UInt8) :U:=.int .u8 b.toNat
def contents (h:aM) (z:Nat) :U->Option (List U × Nat)
 | .ae=>some ([],0)
 | .bu g j=>if z=g then some (j.flatten,j.length) else none
 | .Z g b m len _ o=>match h.f b with
  | .cells n cs=>if n=o/\z=g then some ((cs.drop m).take (len*z),len) else none
  | _=>none
 | .str s=>if z=1 then some (s.map hs,s.length) else none
 | _=>none
def dk:Nat:=140737488355328
def mm (P:bq) (t:aF) :Option Nat:=((P.info? t).bind (·.zero)).map (·.cells.size)
def qo (P:bq) (h:aM) (e:aF) (z by_:Nat) (s:U) (xs:List U) (n:Nat) :Option (U × aM):=
 if n=0 then (match s with | .ae | .bu .. | .Z ..=>some (s,h) | _=>none)
 else if z=0\/by_=0\/mm P e≠some z then none else match s with
  | .ae=>if n*by_<=dk then some (.Z z h.n 0 n n (n*z),h.push (.cells (n*z) xs)) else none
  | .Z o b g len cap j=>match h.f b with
   | .cells m cs=>
    if m=j/\z=o/\(len+n)*by_<=dk then
     if len+n<=cap then some (.Z z b g (len+n) cap j,h.set b (.cells m (aw cs (g+len*z) xs)))
     else if g+cap*z<j then some (.Z z h.n 0 (len+n) (len+n) ((len+n)*z),h.push (.cells ((len+n)*z) ((cs.drop g).take (len*z)++xs)))
     else if g=0 then some (.Z z b 0 (len+n) (len+n) ((len+n)*z),h.set b (.cells ((len+n)*z) (cs.take (len*z)++xs)))
     else some (.Z z h.n 0 (len+n) (len+n) ((len+n)*z),(h.set b .dead).push (.cells ((len+n)*z) ((cs.drop g).take (len*z)++xs)))
    else none
   | _=>none
  | _=>none
def oh (P:bq) (h:aM) (t:aF) (s x:U) :Option (U × aM):=
 match gj P t with
 | none=>none
 | some e=>match b9 P e,gM P e with
  | some g,some j=>match contents h g x with
   | none=>none
   | some (m,n)=>qo P h e g j s m n
  | _,_=>none
def gW (x:U) (y:Nat) :Option Nat:=match x with | .int _ i=>if 0<=i/\i<=y then some i.toNat else none | _=>none
def e5 (len cap:Nat) (p o m:Option U) :Option (Nat × Nat × Nat):=
 match (match m with | some g=>gW g cap | none=>some cap) with
 | none=>none
 | some j=>match (match o,m with | some g,_=>gW g j | none,none=>some len | none,some _=>none) with
  | none=>none
  | some h=>match (match p with | some g=>gW g h | none=>some 0) with
   | none=>none
   | some l=>some (l,h,j)
def xg (P:bq) (t:aF) (x:U) (p o q:Option U) :Option U:=
 match P.underlying t,x with
 | some (.array n e),x=>match b9 P e,e5 n n p o q with
  | some g,some (l,h,m)=>match x with
   | .ptr b j u=>if j+m*g<=u then (if m=l then some (.bu g []) else some (.Z g b (j+l*g) (h - l) (m - l) u)) else none
   | .b7 cs j=>if j+n*g<=cs.length then some (.bu g (lU g (h - l) (cs.drop (j+l*g)))) else none
   | _=>none
  | _,_=>none
 | some (.slice e),x=>match b9 P e,x with
  | some g,.Z w b j len cap u=>if g=w then (e5 len cap p o q).map fun (l,h,m)=>if m=l then .Z g b (j+l*g) 0 0 u else .Z g b (j+l*g) (h - l) (m - l) u else none
  | some g,.bu w v=>if g=w then (e5 v.length v.length p o q).map fun (l,h,_)=>.bu g ((v.drop l).take (h - l)) else none
  | some _,.ae=>(e5 0 0 p o q).map fun _=>.ae
  | _,_=>none
 | some .string,.str s=>match q with
  | none=>(e5 s.length s.length p o none).map fun (l,h,_)=>.str ((s.drop l).take (h - l))
  | some _=>none
 | _,_=>none
def r8 (P:bq) (t:aF) (x:U) :Option U:=
 match P.underlying t,x with
 | some .string,.str s=>some (.int .i64 s.length)
 | some (.array n _),_=>some (.int .i64 n)
 | some (.slice _),.ae=>some (.int .i64 0)
 | some (.slice _),.Z _ _ _ len _ _=>some (.int .i64 len)
 | some (.slice _),.bu _ g=>some (.int .i64 g.length)
 | some (.map _ _),.g0=>some (.int .i64 0)
 | _,_=>none
def y4 (P:bq) (h:aM) (t:aF) (l c:U) :Option (U × aM):=
 match gj P t,asInt l,asInt c with
 | some e,some l,some c=>match b9 P e,gM P e,gb P e with
  | some g,some j,some zero=>
   if zero.length=g/\0<=l/\l<=c/\c<9223372036854775808/\j*c<=dk then
    some (.Z g h.n 0 l.toNat c.toNat (c.toNat*g),h.push (.cells (c.toNat*g) (c3 zero c.toNat)))
   else none
  | _,_,_=>none
 | _,_,_=>none
def tD (P:bq) (h:aM) (t:aF) (d x:U) :Option (U × aM):=
 match gj P t with
 | none=>none
 | some e=>match b9 P e with
  | none=>none
  | some g=>match contents h g x with
   | none=>none
   | some (p,n)=>match d with
    | .ae=>some (.int .i64 0,h)
    | .Z q b m len _ o=>match h.f b with
     | .cells j cs=>if j=o/\g=q then some (.int .i64 ((min n len:Nat) :Int),h.set b (.cells j (aw cs m (p.take (min n len*g))))) else none
     | _=>none
    | _=>none
def jX:List U->Option (List UInt8)
 | []=>some []
 | .int .u8 n::r=>(jX r).map (UInt8.ofNat n.toNat::·)
 | _::_=>none
def rR (P:bq) (h:aM) (src g:aF) (x:U) :Option U:=
 match P.underlying src,P.underlying g,x with
 | some _,some (.int k),.int _ n=>some (.int k (k.wrap n))
 | some _,some .string,.str s=>some (.str s)
 | some (.slice e),some .string,x=>match P.underlying e,x with
  | some (.int .u8),.ae=>some (.str [])
  | some (.int .u8),x=>match contents h 1 x,x with
   | some _,.str _=>none
   | some (cs,_),_=>(jX cs).map .str
   | none,_=>none
  | _,_=>none
 | _,_,_=>none
def tu (P:bq) (src g:aF) (x:U) :Option U:=
 match P.underlying src,P.underlying g,x with
 | some _,some (.slice e),.str s=>match P.underlying e with
  | some (.int .u8)=>some (.bu 1 (s.map fun b=>[hs b]))
  | _=>none
 | _,_,_=>none
def tx (P:bq) (t:aF) (x:U) :Option U:=
 match P.underlying t,x with
 | some (.array n _),_=>some (.int .i64 n)
 | some (.slice _),.ae=>some (.int .i64 0)
 | _,_=>none
def tB (P:bq) (h:aM) (t:aF) (x:U) :Option aM:=
 match P.underlying t,x with
 | some (.slice _),.ae=>some h
 | some (.slice _),.bu _ []=>some h
 | some (.slice e),.Z o b j len _ m=>if len=0 then some h else match gb P e,h.f b with
  | some zero,.cells g cs=>if g=m/\zero.length=o then some (h.set b (.cells g (aw cs j (c3 zero len)))) else none
  | _,_=>none
 | _,_=>none
def tN (P:bq) (t:aF) (x g:U) :Option U:=
 match P.underlying t,x,asInt g with
 | some (.array n e),.af cs,some i=>match b9 P e with
  | some h=>if 0<=i/\i<n then go P e cs (i.toNat*h) else none
  | none=>none
 | some .string,.str s,some i=>if 0<=i then (s[i.toNat]?).map hs else none
 | _,_,_=>none
mutual
def U.beq:U->U->Bool
 | .bool a,y=>match y with | .bool b=>(match a,b with | true,true=>true | false,false=>true | _,_=>false) | _=>false
 | .int k n,y=>match y with | .int t m=>decide (k=t)&&decide (n=m) | _=>false
 | .str a,y=>match y with | .str b=>decide (a=b) | _=>false
 | .iy,y=>match y with | .iy=>true | _=>false
 | .ae,y=>match y with | .ae=>true | _=>false
 | .g0,y=>match y with | .g0=>true | _=>false
 | .ib,y=>match y with | .ib=>true | _=>false
 | .hS,y=>match y with | .hS=>true | _=>false
 | .af a,y=>match y with | .af b=>dz a b | _=>false
 | .a1 a,y=>match y with | .a1 b=>dz a b | _=>false
 | .ptr a b c,y=>match y with | .ptr g h j=>Nat.beq a g&&Nat.beq b h&&Nat.beq c j | _=>false
 | .b7 a n,y=>match y with | .b7 g m=>dz a g&&Nat.beq n m | _=>false
 | .Z a b c d e f,y=>match y with | .Z g h j o p q=>Nat.beq a g&&Nat.beq b h&&Nat.beq c j&&Nat.beq d o&&Nat.beq e p&&Nat.beq f q | _=>false
 | .bu a b,y=>match y with | .bu g h=>Nat.beq a g&&vx b h | _=>false
 | .fn a b c,y=>match y with | .fn g h j=>Nat.beq a g&&dz b h&&dz c j | _=>false
 | .mp a,y=>match y with | .mp g=>Nat.beq a g | _=>false
 | .it a,y=>match y with | .it g=>Nat.beq a g | _=>false
 | .fX a b,y=>match y with | .fX g h=>Nat.beq a g&&U.beq b h | _=>false
 | .ff a,y=>match y with | .ff g=>Nat.beq a g | _=>false
 | .bad,y=>match y with | .bad=>true | _=>false
def dz:List U->List U->Bool
 | [],y=>match y with | []=>true | _=>false
 | a::as,y=>match y with | b::g=>U.beq a b&&dz as g | _=>false
def vx:List (List U)->List (List U)->Bool
 | [],y=>match y with | []=>true | _=>false
 | a::as,y=>match y with | b::g=>dz a b&&vx as g | _=>false
end
theorem iw {a b:Nat} (h:Nat.beq a b=true) :a=b:=mo h
mutual
theorem U.beq_eq:∀ {a b:U},U.beq a b=true->a=b
 | .bool a,b,h=>by cases b<;>simp only[U.beq] at h<;>first | cases h | (rename_i b;cases a<;>cases b<;>first | rfl | cases h)
 | .int k n,b,h=>by cases b<;>simp only[U.beq] at h<;>first | cases h | (simp only[bU,bI] at h;rw[h.1,h.2])
 | .str a,b,h=>by cases b<;>simp only[U.beq] at h<;>first | cases h | (simp only[bI] at h;rw[h])
 | .iy,b,h=>by cases b<;>simp only[U.beq] at h<;>first | rfl | cases h
 | .ae,b,h=>by cases b<;>simp only[U.beq] at h<;>first | rfl | cases h
 | .g0,b,h=>by cases b<;>simp only[U.beq] at h<;>first | rfl | cases h
 | .ib,b,h=>by cases b<;>simp only[U.beq] at h<;>first | rfl | cases h
 | .hS,b,h=>by cases b<;>simp only[U.beq] at h<;>first | rfl | cases h
 | .bad,b,h=>by cases b<;>simp only[U.beq] at h<;>first | rfl | cases h
 | .af a,b,h=>by cases b<;>simp only[U.beq] at h<;>first | cases h | rw[rL h]
 | .a1 a,b,h=>by cases b<;>simp only[U.beq] at h<;>first | cases h | rw[rL h]
 | .ptr ..,b,h=>by cases b<;>simp only[U.beq] at h<;>first | cases h | (simp only[bU] at h;rw[iw h.1.1,iw h.1.2,iw h.2])
 | .b7 a n,b,h=>by cases b<;>simp only[U.beq] at h<;>first | cases h | (simp only[bU] at h;rw[rL h.1,iw h.2])
 | .Z ..,b,h=>by cases b<;>simp only[U.beq] at h<;>first | cases h | (simp only[bU] at h;rw[iw h.1.1.1.1.1,iw h.1.1.1.1.2,iw h.1.1.1.2,iw h.1.1.2,iw h.1.2,iw h.2])
 | .bu a n,b,h=>by cases b<;>simp only[U.beq] at h<;>first | cases h | (simp only[bU] at h;rw[iw h.1,F7 h.2])
 | .fn a n g,b,h=>by cases b<;>simp only[U.beq] at h<;>first | cases h | (simp only[bU] at h;rw[iw h.1.1,rL h.1.2,rL h.2])
 | .mp a,b,h=>by cases b<;>simp only[U.beq] at h<;>first | cases h | rw[iw h]
 | .it a,b,h=>by cases b<;>simp only[U.beq] at h<;>first | cases h | rw[iw h]
 | .ff a,b,h=>by cases b<;>simp only[U.beq] at h<;>first | cases h | rw[iw h]
 | .fX a n,b,h=>by cases b<;>simp only[U.beq] at h<;>first | cases h | (simp only[bU] at h;rw[iw h.1,U.beq_eq h.2])
theorem rL:∀ {a b:List U},dz a b=true->a=b
 | [],b,h=>by cases b<;>simp only[dz] at h<;>first | rfl | cases h
 | x::a,b,h=>by cases b<;>simp only[dz] at h<;>first | cases h | (simp only[bU] at h;rw[U.beq_eq h.1,rL h.2])
theorem F7:∀ {a b:List (List U)},vx a b=true->a=b
 | [],b,h=>by cases b<;>simp only[vx] at h<;>first | rfl | cases h
 | x::a,b,h=>by cases b<;>simp only[vx] at h<;>first | cases h | (simp only[bU] at h;rw[rL h.1,F7 h.2])
end
def qX:U->Bool | .int .. | .str _ | .bool _=>true | _=>false
def pC (P:bq) :Nat->aF->Bool
 | 0,_=>false
 | d+1,j=>match P.underlying j,b9 P j with
  | some (.int _),_=>true
  | some .string,_=>true
  | some .bool,_=>true
  | some (.array n e),some h=>pC P d e&&(match b9 P e,dE P e with | some g,some _=>Nat.ble (n*g) h&&Nat.ble 1 g | _,_=>false)
  | some (.struct m),some h=>m.toList.all fun f=>pC P d f.type&&(match b9 P f.type,dE P f.type with | some g,some _=>Nat.ble (f.offset+g) h&&Nat.ble 1 g | _,_=>false)
  | _,_=>false
def kK (P:bq) (t:aF) (c:U) :Bool:=
 match c with
 | .af cs=>pC P 8 t&&(match dE P t,b9 P t with | some true,some g=>Nat.beq cs.length g | _,_=>false)&&cs.all qX
 | _=>false
def j3 (P:bq) (h:aF) (k:U) :List (U × U × Nat)->Nat->Option (Option (Nat × U))
 | [],_=>some none
 | (g,m,_) ::j,i=>match kK P h g with
  | false=>none
  | true=>match dL P 10000 h k g with
   | some true=>match U.beq k g with | true=>some (some (i,m)) | false=>none
   | some false=>j3 P h k j (i+1)
   | none=>none
def wz (h:aM) :U->Option (List (U × U × Nat))
 | .g0=>some []
 | .mp b=>match h.f b with | .map g _=>some g | _=>none
 | _=>none
def sX (P:bq) (t:aF) :Option U:=((P.info? t).bind (·.zero)).map qS
def y2 (P:bq) (h:aM) (t:aF) (m k:U) (j:Bool) :Option U:=
 match P.underlying t,wz h m with
 | some (.map g u),some q=>match kK P g k with
  | false=>none
  | true=>match j3 P g k q 0 with
   | some (some (_,o))=>some (if j then .a1 [o,.bool true] else o)
   | some none=>(sX P u).map fun p=>if j then .a1 [p,.bool false] else p
   | none=>none
 | _,_=>none
def sb (P:bq) (h:aM) (t:aF) (m k v:U) :Option aM:=
 match P.underlying t,m with
 | some (.map o _),.mp b=>match h.f b with
  | .map j g=>match kK P o k with
   | false=>none
   | true=>match j3 P o k j 0 with
    | some (some (i,_))=>some (h.set b (.map (j.modify i fun e=>(k,v,e.2.2)) g))
    | some none=>some (h.set b (.map (j++[(k,v,g)]) (g+1)))
    | none=>none
  | _=>none
 | _,_=>none
def r9 (P:bq) (h:aM) (t:aF) (x:U) :Option U:=
 match P.underlying t,x with
 | some (.map _ _),.mp b=>match h.f b with | .map g _=>some (.int .i64 g.length) | _=>none
 | _,_=>none
def zO (P:bq) (h:aM) (t:aF) (x:U) :Option (U × aM):=
 match P.underlying t,x with
 | some .string,.str s=>some (.it h.n,h.push (.iter s 0))
 | _,_=>none
def ze (h:aM) (x:U) :Option (U × aM):=
 match x with
 | .it b=>match h.f b with
  | .iter s pos=>match Nat.blt pos s.length with
   | true=>some (.a1 [.bool true,.int .i64 pos,.int .i32 (Utf8.decode ⟨s.toArray⟩ pos).1],h.set b (.iter s (pos+(Utf8.decode ⟨s.toArray⟩ pos).2)))
   | false=>some (.a1 [.bool false],h)
  | _=>none
 | _=>none
def lV:List UInt8->List UInt8->Int
 | [],[]=>0
 | [],_::_=>-1
 | _::_,[]=>1
 | a::as,b::g=>if a=b then lV as g else if a<b then -1 else 1
def tt (h:aM) (x:U) :Option (List UInt8):=match x with
 | .str s=>some s
 | x=>match contents h 1 x with
  | some (cs,_)=>jX cs
  | none=>none
def vK (h:aM) :List U->Option U
 | [x,y]=>match tt h x,tt h y with
  | some a,some b=>some (.int .i64 (lV a b))
  | _,_=>none
 | _=>none
def wh (fn:Func) :Bool:=fn.body.isNone&&fn.name == "internal/bytealg.Compare"&&(fn.origin == ""||fn.origin == "internal/bytealg.Compare")
inductive mw where
 | val (g:U) (h:aM)
 | call (f:cj) (args:List U) (h:aM)
def y9:U->U->Option U
 | .int k x,.int g y=>if k=g then some (.int k (if y<x then y else x)) else none
 | _,_=>none
def oL:U->U->Option U
 | .int k x,.int g y=>if k=g then some (.int k (if x<y then y else x)) else none
 | _,_=>none
def fC:U:=.a1 []
def vw (P:bq) (h:aM) (t:aF) (s x:U) :Option (U × aM):=
 match gj P t,asInt x with
 | some e,some n=>match b9 P e,gM P e,gb P e with
  | some j,some g,some zero=>
   if zero.length=j/\0<=n/\n<9223372036854775808/\n.toNat*g<=dk then qo P h e j g s (c3 zero n.toNat) n.toNat else none
  | _,_,_=>none
 | _,_=>none
def mA (P:bq) (h:aM) (b:Builtin) (ts:List aF) (args:List U) :Option mw:=
 match b,ts,args with
 | .len,[j],[x]=>match r9 P h j x with
  | some g=>some (.val g h)
  | none=>(r8 P j x).map fun g=>.val g h
 | .append,[j,u],[s,x]=>match P.underlying u with
  | some (.int _)=>(vw P h j s x).map fun (g,h')=>.val g h'
  | none=>none
  | _=>(oh P h j s x).map fun (g,h')=>.val g h'
 | .copy,[j,_],[d,x]=>(tD P h j d x).map fun (g,h')=>.val g h'
 | .cap,[j],[x]=>(tx P j x).map fun g=>.val g h
 | .clear,[j],[x]=>(tB P h j x).map fun h'=>.val (.a1 []) h'
 | .min,_,[x,y]=>(y9 x y).map fun g=>.val g h
 | .max,_,[x,y]=>(oL x y).map fun g=>.val g h
 | _,_,_=>none
def wB (P:bq) (t:aF) (name:String) :Option cj:=
 match P.underlying t with
 | some (.pointer _) | none=>none
 | _=>match P.info? t with
  | some i=>match i.methods.find? (·.name == name) with
   | some g=>match g.path.toList,g.func with
    | [],some (f,false)=>some f
    | _,_=>none
   | none=>none
  | none=>none
def Am (t:aF) (z:U) (g:Bool) :U->Option U
 | .fX j h=>match Nat.beq j t with
  | true=>match g with | true=>some (.a1 [h,.bool true]) | false=>some h
  | false=>match g with | true=>some (.a1 [z,.bool false]) | false=>none
 | .hS=>match g with | true=>some (.a1 [z,.bool false]) | false=>none
 | _=>none
def An (P:bq) (t:aF) :Option U:=match P.underlying t with
 | some (.interface _) | none=>none
 | _=>sX P t
def qt (P:bq) (h:aM) (g:aY->U) (c:Call) :Option mw:=
 match c.callee with
 | .builtin b=>mA P h b c.argTypes.toList (c.args.toList.map g)
 | .value f=>match g f with
  | .fn j first e6=>match P.funcs[j]? with
   | some fn=>if fn.body.isSome/\fn.name≠ "runtime.NumGoroutine" then some (.call j (first++c.args.toList.map g++e6) h)
    else if wh fn then (vK h (first++c.args.toList.map g++e6)).map fun m=>.val m h else none
   | none=>none
  | _=>none
 | .invoke x name=>match g x with
  | .fX o m=>match wB P o name with
   | some j=>match P.funcs[j]? with
    | some fn=>if fn.body.isSome/\fn.name≠ "runtime.NumGoroutine" then some (.call j (m::c.args.toList.map g) h) else none
    | none=>none
   | none=>none
  | _=>none
def cO (P:bq) (h:aM) (g:aY->U) (op:Op) :Option mw:=
 let m (x:Option U) :Option mw:=x.map fun y=>.val y h
 let w (x:Option (U × aM)) :Option mw:=x.map fun y=>.val y.1 y.2
 match op with
 | .move x | .assign x=>some (.val (g x) h)
 | .pick c a b=>match g c with | .bool j=>some (.val (if j then g a else g b) h) | _=>none
 | .alloc j=>(gb P j).map fun p=>.val (.ptr h.n 0 p.length) (h.push (.cells p.length p))
 | .box _ x=>(g x).cells.map fun cs=>.val (.ptr h.n 0 cs.length) (h.push (.cells cs.length cs))
 | .build j parts=>m (vC P j (parts.toList.map fun o=>(o.1,g o.2)))
 | .buildSlice j len parts=>w (yb P h j len (parts.toList.map fun o=>(o.1,g o.2)))
 | .load j a=>m (oK P h j (g a))
 | .store j a x=>(rb P h j (g a) (g x)).map fun h'=>.val fC h'
 | .nilCheck x=>match g x with | .ptr b t s=>some (.val (.ptr b t s) h) | .b7 c t=>some (.val (.b7 c t) h) | .fn f a b=>some (.val (.fn f a b) h) | _=>none
 | .binOp op j x y _=>m (eb P op j (g x) (g y))
 | .unOp op _ x=>m (rf op (g x))
 | .convert s d x=>match tu P s d (g x) with
  | some c=>some (.val c h)
  | none=>m (rR P h s d (g x))
 | .makeInterface j x=>match P.underlying j with
  | some (.interface _) | none=>none
  | _=>some (.val (.fX j (g x)) h)
 | .makeFunc (.func f) first e6=>some (.val (.fn f (first.toList.map g) (e6.toList.map g)) h)
 | .makeSlice j l c=>w (y4 P h j (g l) (g c))
 | .slice j x B z C=>m (xg P j (g x) (B.map g) (z.map g) (C.map g))
 | .fieldAddr s x f=>m (yB P s (g x) f)
 | .field j x f=>match g x,rX P j f with
  | .af cs,some v=>m (go P v.type cs v.offset)
  | _,_=>none
 | .indexAddr j x i=>m (wg P j (g x) (g i))
 | .index j x i=>m (tN P j (g x) (g i))
 | .extract x i=>match g x with | .a1 D=>m D[i]? | _=>none
 | .call c=>qt P h g c
 | .makeMap j r=>match P.underlying j,(match r with | none=>true | some x=>(asInt (g x)).isSome) with | some (.map _ _),true=>some (.val (.mp h.n) (h.push (.map [] 0))) | _,_=>none
 | .lookup j q k u=>m (y2 P h j (g q) (g k) u)
 | .mapUpdate j q k x | .insert j q k x=>(sb P h j (g q) (g k) (g x)).map fun h'=>.val fC h'
 | .range j x=>w (zO P h j (g x))
 | .next it true=>w (ze h (g it))
 | .typeAssert x _ j u=>match An P j with | some p=>m (Am j p u (g x)) | none=>none
 | _=>none
abbrev ag:=List U
theorem F {p:Prop} (h:p:=by omega) :p:=h
theorem V {p:Prop} (h:p:=by simp) :p:=h
structure M where
 r:Nat
 s:Nat
 T:Nat
abbrev b3:=Nat->Option M
def live:ao->Bool
 | .cells .. | .map .. | .iter ..=>true
 | _=>false
def lr:ao->Nat
 | .map ..=>1
 | .iter ..=>2
 | _=>0
def Own (h:aM) (muZ:b3) (k:Nat) :Prop:=∃ b g,live (h.f b)=true/\muZ b=some g/\g.r=k
def qg (h:aM) (b sz:Nat) :Prop:=h.f b=.dead\/∃ n cs,h.f b=.cells n cs/\sz<n
structure Cell (w:aT) (R:Nat->Prop) (h:aM) (muZ:b3) (b o:Nat) (v:aD) :Prop where
 here:w.cell? ⟨b,o,none⟩=some v
 one:v.oneCell'=true
 ro:R b
 free:¬ Own h muZ b
inductive aA (w:aT) (R:Nat->Prop) (h:aM) (muZ:b3) :U->aD->Prop where
 | bool (b:Bool) :aA w R h muZ (.bool b) (.bool b)
 | int (k:cV) (n:Int) :aA w R h muZ (.int k n) (.int k n)
 | str (J:ByteArray) :aA w R h muZ (.str J.data.toList) (.string J)
 | iy:aA w R h muZ .iy (.pointer none)
 | ae:aA w R h muZ .ae (.slice none 0 0)
 | g0:aA w R h muZ .g0 (.map none)
 | ib:aA w R h muZ .ib .nilFunc
 | hS:aA w R h muZ .hS .nilIface
 | af (cs:ag) (t:Array aD) (F:t.size=cs.length) (h1:∀ (g:Nat) (m:aD),t[g]?=some m->m.oneCell'=true)
   (H:∀ (g:Nat) (c:U) (m:aD),cs[g]?=some c->t[g]?=some m->aA w R h muZ c m) :aA w R h muZ (.af cs) (.agg t)
 | a1 (cs:ag) (t:Array aD) (F:t.size=cs.length)
   (H:∀ (g:Nat) (c:U) (m:aD),cs[g]?=some c->t[g]?=some m->aA w R h muZ c m) :aA w R h muZ (.a1 cs) (.tuple t)
 | ptr (b j p:Nat) (cs:ag) (o:M) (C:h.f b=.cells p cs) (G:muZ b=some o) :
   aA w R h muZ (.ptr b j p) (.pointer (some ⟨o.r,o.s+j,none⟩))
 | jk (b j p:Nat) (a:Addr) (P:qg h b p) :aA w R h muZ (.ptr b j p) (.pointer (some a))
 | b7 (cs:ag) (j z K:Nat) (B:Nat->aD) (D:∀ g,g<cs.length->Cell w R h muZ z (K+g) (B g))
   (H:∀ (g:Nat) (c:U),cs[g]?=some c->aA w R h muZ c (B g)) :aA w R h muZ (.b7 cs j) (.pointer (some ⟨z,K+j,none⟩))
 | Z (q b j len cap p u:Nat) (cs:ag) (o:M) (C:h.f b=.cells p cs) (G:muZ b=some o) (F:len<=cap) (V:j+cap*q<=p)
   (D:(j+cap*q<p/\u=cap)\/(j+cap*q=p/\cap<=u/\o.s+j+u*q<=o.T)) :
   aA w R h muZ (.Z q b j len cap p) (.slice (some ⟨o.r,o.s+j,none⟩) len u)
 | fc (q b j len cap p u:Nat) (a:Addr) (F:len<=cap) (D:cap<=u) (P:qg h b p) :aA w R h muZ (.Z q b j len cap p) (.slice (some a) len u)
 | gu (q b j p:Nat) (a:Addr) (cs:ag) (o:M) (C:h.f b=.cells p cs) (G:muZ b=some o) :aA w R h muZ (.Z q b j 0 0 p) (.slice (some a) 0 0)
 | bu (q:Nat) (v:List (ag)) (z j cap:Nat) (B:Nat->Nat->aD) (F:v.length<=cap) (W:∀ e,e∈v->e.length=q)
   (D:∀ i g,i<v.length->g<q->Cell w R h muZ z (j+(i*q+g)) (B i g))
   (H:∀ (i:Nat) (e:ag),v[i]?=some e->∀ (g:Nat) (c:U),e[g]?=some c->aA w R h muZ c (B i g)) :
   aA w R h muZ (.bu q v) (.slice (some ⟨z,j,none⟩) v.length cap)
 | eI (q:Nat) (a:Addr) (cap:Nat) :aA w R h muZ (.bu q []) (.slice (some a) 0 cap)
 | fn (f:cj) (first e6:ag) (I cs:Array aD) (S:I.size=first.length) (D:cs.size=e6.length)
   (h1:∀ (g:Nat) (c:U) (m:aD),first[g]?=some c->I[g]?=some m->aA w R h muZ c m) (Q:∀ (g:Nat) (c:U) (m:aD),e6[g]?=some c->cs[g]?=some m->aA w R h muZ c m) :
   aA w R h muZ (.fn f first e6) (.func (.func f) I cs)
 | mp (b:Nat) (o:M) (C:lr (h.f b)=1) (G:muZ b=some o) :aA w R h muZ (.mp b) (.map (some o.r))
 | it (b:Nat) (o:M) (C:lr (h.f b)=2) (G:muZ b=some o) :aA w R h muZ (.it b) (.pointer (some ⟨o.r,0,none⟩))
 | fX (O:aF) (c:U) (m:aD) (H:aA w R h muZ c m) :aA w R h muZ (.fX O c) (.iface O m)
 | ff (l:Nat) :aA w R h muZ (.ff l) (.func (.yield l) #[] #[])
 | bad (m:aD) :aA w R h muZ .bad m
structure Ext0 (w:aT) (h:aM) (muZ:b3) (w' : aT) (h' : aM) (muZ' : b3) :Prop where
 os:w'.os=w.os
 tape:w'.tape=w.tape
 output:w'.output=w.output
 size:w.heap.size<=w'.heap.size
 bm:∀ k,k<w.heap.size->¬ Own h muZ k->w'.heap[k]?=w.heap[k]?
 own:∀ k,Own h' muZ' k->Own h muZ k\/w.heap.size<=k
 cells:∀ b sz cs m,h.f b=.cells sz cs->muZ b=some m->(∃ cs',h'.f b=.cells sz cs'/\muZ' b=some m)\/qg h' b sz
 gone:∀ b sz,qg h b sz->qg h' b sz
 wL:∀ b k m,lr (h.f b)=k+1->muZ b=some m->lr (h'.f b)=k+1/\muZ' b=some m
 n:h.n<=h'.n
 drawn:w.drawn<=w'.drawn:=by first | exact aN _ | exact ry _ | assumption
structure cY (w:aT) (h:aM) (muZ:b3) (w' : aT) (h' : aM) (muZ' : b3) :Prop extends Ext0 w h muZ w' h' muZ' where
 mZ:∀ b,b<h.n->muZ b=none->muZ' b=none
theorem Ext0.refl (w:aT) (h:aM) (muZ:b3) :Ext0 w h muZ w h muZ:=
 ⟨rfl,rfl,rfl,aN _,fun _ _ _=>rfl,fun _ h=>.inl h,fun b m cs j h1 g=>.inl ⟨cs,h1,g⟩,fun _ _ h=>h,fun _ _ _ h1 g=>⟨h1,g⟩,aN _,aN _⟩
theorem cY.refl (w:aT) (h:aM) (muZ:b3) :cY w h muZ w h muZ:=⟨.refl w h muZ,fun _ _ h=>h⟩
theorem Ext0.trans {w z w2:aT} {h h1 t:aM} {muZ B xC:b3} (a:Ext0 w h muZ z h1 B) (b:Ext0 z h1 B w2 t xC) :Ext0 w h muZ w2 t xC:=by
 refine⟨b.os.trans a.os,b.tape.trans a.tape,b.output.trans a.output,dC a.size b.size,?_,?_,?_,fun _ _ D=>b.gone _ _ (a.gone _ _ D),?_,dC a.n b.n,dC a.drawn b.drawn⟩
 ·intro k hk u;rw[b.bm k (nb hk a.size) (fun G=>(a.own k G).elim u F),a.bm k hk u]
 ·intro k hk;rcases b.own k hk with h | h
  ·exact a.own k h
  ·exact .inr (dC a.size h)
 ·intro g v cs m p q;rcases a.cells g v cs m p q with ⟨C,j,o⟩ | j
  ·exact b.cells g v C m j o
  ·exact .inr (b.gone _ _ j)
 ·intro g k m p q;obtain⟨j,o⟩:=a.wL g k m p q;exact b.wL g k m j o
theorem cY.trans {w o w2:aT} {h h1 j:aM} {muZ p xC:b3} (a:cY w h muZ o h1 p) (b:cY o h1 p w2 j xC) :cY w h muZ w2 j xC:=
 ⟨a.toExt0.trans b.toExt0,fun g m q=>b.mZ g (nb m a.n) (a.mZ g m q)⟩
theorem Cell.ext {w w' : aT} {h h' : aM} {muZ muZ' : b3} {R:Nat->Prop} {b o:Nat} {v:aD} (e:Ext0 w h muZ w' h' muZ') (c:Cell w R h muZ b o v) :Cell w' R h' muZ' b o v:=by
 have g:b<w.heap.size:=World.block_lt_of_cell? _ _ c.here;refine⟨?_,c.one,c.ro,fun j=>?_⟩
 ·rw[World.cell?_of_block (w:=w) (a:=⟨b,o,none⟩) (e.bm b g c.free)];exact c.here
 ·rcases e.own b j with h1 | h1
  ·exact c.free h1
  ·omega
theorem aA.j2 {w w' : aT} {h h' : aM} {muZ muZ' : b3} {R:Nat->Prop} {c:U} {v:aD} (e:Ext0 w h muZ w' h' muZ') (C:aA w R h muZ c v) :aA w' R h' muZ' c v:=by
 induction C with
 | bool b=>exact .bool b
 | int k n=>exact .int k n
 | str Q=>exact .str Q
 | iy=>exact .iy
 | ae=>exact .ae
 | g0=>exact .g0
 | ib=>exact .ib
 | hS=>exact .hS
 | af cs P q h1 C B=>exact .af cs P q h1 B
 | a1 cs P q C B=>exact .a1 cs P q B
 | ptr b g j cs m t z=>
  rcases e.cells b j cs m t z with ⟨D,h1,p⟩ | h1
  ·exact .ptr b g j D m h1 p
  ·exact .jk b g j _ h1
 | jk b g j a I=>exact .jk b g j a (e.gone _ _ I)
 | b7 cs g H ah O u C B=>exact .b7 cs g H ah O (fun K J=>(u K J).ext e) B
 | Z o b g len cap j G cs m t z q X u=>
  rcases e.cells b j cs m t z with ⟨D,h1,p⟩ | h1
  ·exact .Z o b g len cap j G D m h1 p q X u
  ·exact .fc o b g len cap j G _ q F h1
 | fc o b g len cap j G a q u I=>exact .fc o b g len cap j G a q u (e.gone _ _ I)
 | gu o b g j a cs m t z=>
  rcases e.cells b j cs m t z with ⟨D,h1,p⟩ | h1
  ·exact .gu o b g j a D m h1 p
  ·exact .fc o b g 0 0 j 0 a (aN _) (aN _) h1
 | bu o S H g cap O q Y u C B=>exact .bu o S H g cap O q Y (fun i K W J=>(u i K W J).ext e) B
 | eI o a cap=>exact .eI o a cap
 | fn f first e6 T cs V u h1 p ad ag=>exact .fn f first e6 T cs V u ad ag
 | mp b m t z=>
  obtain⟨h1,p⟩:=e.wL b 0 m t z;exact .mp b m h1 p
 | it b m t z=>
  obtain⟨h1,p⟩:=e.wL b 1 m t z;exact .it b m h1 p
 | fX ai c v C B=>exact .fX ai c v B
 | ff l=>exact .ff l
 | bad v=>exact .bad v
theorem aA.ext {w w' : aT} {h h' : aM} {muZ muZ' : b3} {R:Nat->Prop} {c:U} {v:aD} (e:cY w h muZ w' h' muZ') (g:aA w R h muZ c v) :aA w' R h' muZ' c v:=g.j2 e.toExt0
def qd (w:aT) (R:Nat->Prop) (h:aM) (muZ:b3) (m:M) :ao->Prop
 | .cells u cs=>cs.length=u/\m.s+u<=m.T/\∃ arr e p,w.heap[m.r]?=some (.cells arr e p)/\arr.size=m.T/\(p=(0,0)\/m.T<p.1) ∧
   ∀ (j:Nat) (c:U),cs[j]?=some c->∃ g:aD,arr[m.s+j]?=some g/\g.oneCell'=true/\aA w R h muZ c g
 | .map t v=>∃ o,w.heap[m.r]?=some (.map o v)/\o.size=t.length ∧
   ∀ (j:Nat) (k g:U) (b:Nat),t[j]?=some (k,g,b)->∃ x:k5,o[j]?=some x/\aA w R h muZ k x.key/\aA w R h muZ g x.val/\x.born=b
 | .iter s pos=>∃ q:ByteArray,q.data.toList=s/\w.heap[m.r]?=some (.stringIter q pos)
 | _=>True
theorem qd.ext {w w' : aT} {h h' : aM} {muZ muZ' : b3} {R:Nat->Prop} {m:M} (e:Ext0 w h muZ w' h' muZ') (p:w'.heap[m.r]?=w.heap[m.r]?) :
  ∀ {c:ao},qd w R h muZ m c->qd w' R h' muZ' m c
 | .cells J cs,⟨h1,g,arr,G,B,j,C,D,F⟩=>⟨h1,g,arr,G,B,p.trans j,C,D,fun q c o=>let ⟨t,a,b,d⟩:=F q c o;⟨t,a,b,d.j2 e⟩⟩
 | .map I H,⟨z,h1,g,j⟩=>⟨z,p.trans h1,g,fun q k t b o=>let ⟨x,a,u,d,f⟩:=j q k t b o;⟨x,a,u.j2 e,d.j2 e,f⟩⟩
 | .iter s pos,⟨v,h1,g⟩=>⟨v,h1,p.trans g⟩
 | .none,_=>trivial
 | .dead,_=>trivial
structure bC (R:Nat->Prop) (B:Nat) (w:aT) (h:aM) (muZ:b3) :Prop where
 blk:∀ b m,muZ b=some m->qd w R h muZ m (h.f b)
 inj:∀ b g m j,live (h.f b)=true->live (h.f g)=true->muZ b=some m->muZ g=some j->m.r=j.r->b=g
 base:∀ b m,live (h.f b)=true->muZ b=some m->B<=m.r
 fresh:∀ b,h.n<=b->h.f b=.none
 up:∀ k,B<=k->R k
 size:B<=w.heap.size
 iX:∀ b,h.n<=b->muZ b=none
theorem bC.ku {R:Nat->Prop} {B:Nat} {w:aT} {h:aM} {muZ:b3} (rel:bC R B w h muZ) {b:Nat} {m:M} (g:muZ b=some m) :b<h.n:=by
 rcases fE b h.n with h1 | h1
 ·exact h1
 ·rw[rel.iX b h1] at g;cases g
theorem bC.lt {R:Nat->Prop} {B:Nat} {w:aT} {h:aM} {muZ:b3} (rel:bC R B w h muZ) {b:Nat} {m:M} (p:live (h.f b)=true) (q:muZ b=some m) :m.r<w.heap.size:=by
 have j:=rel.blk b m q;cases o:h.f b with
 | none=>rw[o] at p;cases p
 | dead=>rw[o] at p;cases p
 | cells D cs=>
  rw[o] at j;obtain⟨_,_,arr,F,C,g,_⟩:=j;rcases fE m.r w.heap.size with h | h
  ·exact h
  ·rw[p4 h] at g;cases g
 | map v u=>
  rw[o] at j;obtain⟨z,g,_⟩:=j;rcases fE m.r w.heap.size with h | h
  ·exact h
  ·rw[p4 h] at g;cases g
 | iter s pos=>
  rw[o] at j;obtain⟨t,_,g⟩:=j;rcases fE m.r w.heap.size with h | h
  ·exact h
  ·rw[p4 h] at g;cases g
theorem bC.pY {R:Nat->Prop} {B:Nat} {w w' : aT} {h h' : aM} {muZ muZ' : b3} (rel:bC R B w h muZ) (e:Ext0 w h muZ w' h' muZ') (o:Nat)
  (u:∀ b,b≠o->live (h'.f b)=true->h'.f b=h.f b/\muZ' b=muZ b/\∀ m,muZ b=some m->w'.heap[m.r]?=w.heap[m.r]?)
  (J:∀ m,muZ' o=some m->qd w' R h' muZ' m (h'.f o))
  (H:∀ b m v,b≠o->live (h'.f b)=true->live (h'.f o)=true->muZ b=some m->muZ' o=some v->m.r≠v.r)
  (K:∀ m,live (h'.f o)=true->muZ' o=some m->B<=m.r)
  (P:∀ b,h'.n<=b->h'.f b=.none) (Q:∀ b,h'.n<=b->muZ' b=none) :bC R B w' h' muZ':=by
 refine⟨?_,?_,?_,P,rel.up,dC rel.size e.size,Q⟩
 ·intro b m j;by_cases p:b=o
  ·subst p;exact J m j
  ·cases g:live (h'.f b) with
   | false=>cases O:h'.f b<;>first | trivial | (rw[O] at g;cases g)
   | true=>
    obtain⟨h1,q,C⟩:=u b p g;rw[q] at j;rw[h1];exact (rel.blk b m j).ext e (C m j)
 ·intro b z m v g t j F G;by_cases p:b=o<;>by_cases D:z=o
  ·rw[p,D]
  ·subst p;obtain⟨h1,q,C⟩:=u z D t;rw[q] at F;exact bW G.symm (H z v m D t g F j)
  ·subst D;obtain⟨h1,q,C⟩:=u b p g;rw[q] at j;exact bW G (H b m v p g t j F)
  ·obtain⟨h1,q,_⟩:=u b p g;obtain⟨C,I,_⟩:=u z D t;rw[h1] at g;rw[q] at j;rw[C] at t;rw[I] at F;exact rel.inj b z m v g t j F G
 ·intro b m g j;by_cases p:b=o
  ·subst p;exact K m g j
  ·obtain⟨h1,q,_⟩:=u b p g;rw[h1] at g;rw[q] at j;exact rel.base b m g j
theorem bC.push {R:Nat->Prop} {B:Nat} {w w' : aT} {h:aM} {muZ:b3} (rel:bC R B w h muZ) (cs:ag) (arr:Array aD) (t:aF)
  (O:w'.os=w.os) (S:w'.tape=w.tape) (P:w'.output=w.output) (u:w'.heap=w.heap.push (.cells arr t (0,0)))
  (Q:cs.length<=arr.size) (T:∀ (j:Nat) (c:U),cs[j]?=some c->∃ v:aD,arr[j]?=some v/\v.oneCell'=true/\aA w R h muZ c v) (I:w.drawn<=w'.drawn:=by first | exact aN _ | exact ry _ | assumption) :
  cY w h muZ w' (h.push (.cells cs.length cs)) (bt muZ h.n (some ⟨w.heap.size,0,arr.size⟩)) ∧
  bC R B w' (h.push (.cells cs.length cs)) (bt muZ h.n (some ⟨w.heap.size,0,arr.size⟩)):=by
 have z:h.f h.n=.none:=rel.fresh _ (aN _);have e:cY w h muZ w' (h.push (.cells cs.length cs)) (bt muZ h.n (some ⟨w.heap.size,0,arr.size⟩)):=by
  refine⟨⟨O,S,P,by simp[u],?_,?_,?_,?_,?_,?_,I⟩,?_⟩
  ·intro k hk _;rw[u,sY,aj F]
  ·rintro k ⟨b,q,o,m,rfl⟩;by_cases g:b=h.n
   ·subst g;simp at m;subst m;exact .inr (aN _)
   ·rw[bS _ _ _ _ g] at m;simp only[dX,bS _ _ _ _ g] at o;exact .inl ⟨b,q,o,m,rfl⟩
  ·intro b V C q g m;have:b≠h.n:=fun p=>by rw[p,z] at g;cases g
   exact .inl ⟨C,by simp only[dX,bS _ _ _ _ this];exact g,by rw[bS _ _ _ _ this];exact m⟩
  ·rintro b V (g | ⟨n,C,g,K⟩)
   ·have:b≠h.n:=fun p=>by rw[p,z] at g;cases g
    exact .inl (by simp only[dX,bS _ _ _ _ this];exact g)
   ·have:b≠h.n:=fun p=>by rw[p,z] at g;cases g
    exact .inr ⟨n,C,by simp only[dX,bS _ _ _ _ this];exact g,K⟩
  ·intro b k q g m;have:b≠h.n:=fun p=>by rw[p,z] at g;cases g
   exact⟨by simp only[dX,bS _ _ _ _ this];exact g,by rw[bS _ _ _ _ this];exact m⟩
  ·simp[jl]
  ·intro b g m;rw[bS _ _ _ _ F];exact m
 refine⟨e,rel.pY e.toExt0 h.n ?_ ?_ ?_ ?_ ?_ ?_⟩
 ·intro b g o;simp only[dX,bS _ _ _ _ g] at o ⊢;exact⟨trivial,trivial,fun q m=>by rw[u,sY,aj (by have:=rel.lt o m;omega)]⟩
 ·intro q m;simp at m;subst m;simp only[dX,fJ];refine⟨rfl,by simpa using Q,arr,t,(0,0),by simp[u],rfl,.inl rfl,fun j c J=>?_⟩;obtain⟨v,h1,G,H⟩:=T j c J;exact⟨v,by simpa using h1,G,H.ext e⟩
 ·intro b q W g o _ m D;simp only[dX,bS _ _ _ _ g] at o;simp at D;subst D;have:=rel.lt o m;simp only[ne_eq];omega
 ·intro q _ m;simp at m;subst m;exact rel.size
 ·intro b g;simp only[dX,jl] at g ⊢;rw[bS _ _ _ _ F];exact rel.fresh b F
 ·intro b g;simp only[jl] at g;rw[bS _ _ _ _ F];exact rel.iX b F
theorem bC.same {R:Nat->Prop} {B:Nat} {w:aT} {h h' : aM} {muZ:b3} (rel:bC R B w h muZ) (g:h'.f=h.f) (C:h'.n=h.n) :cY w h muZ w h' muZ/\bC R B w h' muZ:=by
 have e:cY w h muZ w h' muZ:=by
  refine⟨⟨rfl,rfl,rfl,aN _,fun _ _ _=>rfl,?_,?_,?_,?_,F,aN _⟩,fun _ _ j=>j⟩
  ·rintro k ⟨o,p,u,m,rfl⟩;rw[g] at u;exact .inl ⟨o,p,u,m,rfl⟩
  ·intro o D z p q m;exact .inl ⟨z,by rw[g];exact q,m⟩
  ·intro o D t;unfold qg at t ⊢;rw[g];exact t
  ·intro o H p q m;exact⟨by rw[g];exact q,m⟩
 refine⟨e,rel.pY e.toExt0 h.n (fun b _ _=>⟨by rw[g],rfl,fun _ _=>rfl⟩) (fun v j=>?_) (fun b v p _ _ _ _ j=>?_) (fun v _ j=>?_) (fun b G=>by rw[g];exact rel.fresh b F) (by rw[C];exact rel.iX)⟩
 all_goals (rw[rel.iX h.n (aN _)] at j;cases j)
theorem bC.kill {R:Nat->Prop} {B:Nat} {w:aT} {h h' : aM} {muZ:b3} (rel:bC R B w h muZ) {b sz:Nat} {cs:ag} (D:h.f b=.cells sz cs) (K:b<h.n)
  (m:h'.f=bt h.f b .dead) (I:h'.n=h.n) :cY w h muZ w h' muZ/\bC R B w h' muZ:=by
 have e:cY w h muZ w h' muZ:=by
  refine⟨⟨rfl,rfl,rfl,aN _,fun _ _ _=>rfl,?_,?_,?_,?_,F,aN _⟩,fun _ _ H=>H⟩
  ·rintro k ⟨j,v,u,t,rfl⟩;rw[m] at u;by_cases g:j=b
   ·subst g;simp[live] at u
   ·rw[bS _ _ _ _ g] at u;exact .inl ⟨j,v,u,t,rfl⟩
  ·intro j J z v o t;by_cases g:j=b
   ·subst g;exact .inr (.inl (by rw[m];simp))
   ·exact .inl ⟨z,by rw[m,bS _ _ _ _ g];exact o,t⟩
  ·rintro j J q;by_cases g:j=b
   ·subst g;exact .inl (by rw[m];simp)
   ·rcases q with q | ⟨n,z,q,G⟩
    ·exact .inl (by rw[m,bS _ _ _ _ g];exact q)
    ·exact .inr ⟨n,z,by rw[m,bS _ _ _ _ g];exact q,G⟩
  ·intro j O v o t;by_cases g:j=b
   ·subst g;rw[D] at o;cases o
   ·exact⟨by rw[m,bS _ _ _ _ g];exact o,t⟩
 refine⟨e,rel.pY e.toExt0 b ?_ ?_ ?_ ?_ ?_ (by rw[I];exact rel.iX)⟩
 ·intro j g p;rw[m,bS _ _ _ _ g];exact⟨rfl,rfl,fun _ _=>rfl⟩
 ·intro C _;rw[m];simp[qd]
 ·intro j C v _ _ p;rw[m] at p;simp[live] at p
 ·intro C p;rw[m] at p;simp[live] at p
 ·intro j o;rw[m,bS _ _ _ _ F];exact rel.fresh j F
theorem bC.Kw {R:Nat->Prop} {B:Nat} {w:aT} {h h' : aM} {muZ:b3} (rel:bC R B w h muZ) {b sz off:Nat} {cs:ag} {m:M} (J:h.f b=.cells sz cs) (C:muZ b=some m) (au:off<=sz)
  (t:h'.f=bt (bt h.f b .dead) h.n (.cells (sz - off) (cs.drop off))) (ar:h'.n=h.n+1) :
  cY w h muZ w h' (bt muZ h.n (some ⟨m.r,m.s+off,m.T⟩))/\bC R B w h' (bt muZ h.n (some ⟨m.r,m.s+off,m.T⟩)):=by
 have aq:=rel.ku C;have H:h.f h.n=.none:=rel.fresh _ (aN _);have K:live (h.f b)=true:=by rw[J];rfl
 have e:cY w h muZ w h' (bt muZ h.n (some ⟨m.r,m.s+off,m.T⟩)):=by
  refine⟨⟨rfl,rfl,rfl,aN _,fun _ _ _=>rfl,?_,?_,?_,?_,F,aN _⟩,fun dF p o=>by rw[bS _ _ _ _ F];exact o⟩
  ·rintro k ⟨dF,D,z,o,rfl⟩;rw[t] at z;by_cases g:dF=h.n
   ·subst g;simp at o;subst o;exact .inl ⟨b,m,K,C,rfl⟩
   ·rw[bS _ _ _ _ g] at z o;by_cases j:dF=b
    ·subst j;simp[live] at z
    ·rw[bS _ _ _ _ j] at z;exact .inl ⟨dF,D,z,o,rfl⟩
  ·intro dF am G D p o;have g:dF≠h.n:=fun v=>by rw[v,H] at p;cases p
   by_cases j:dF=b
   ·subst j;exact .inr (.inl (by rw[t,bS _ _ _ _ g];simp))
   ·exact .inl ⟨G,by rw[t,bS _ _ _ _ g,bS _ _ _ _ j];exact p,by rw[bS _ _ _ _ g];exact o⟩
  ·rintro dF am q;have g:dF≠h.n:=fun v=>by
    subst v;rcases q with q | ⟨n,G,q,_⟩
    ·rw[H] at q;cases q
    ·rw[H] at q;cases q
   by_cases j:dF=b
   ·subst j;exact .inl (by rw[t,bS _ _ _ _ g];simp)
   ·rcases q with q | ⟨n,G,q,aj⟩
    ·exact .inl (by rw[t,bS _ _ _ _ g,bS _ _ _ _ j];exact q)
    ·exact .inr ⟨n,G,by rw[t,bS _ _ _ _ g,bS _ _ _ _ j];exact q,aj⟩
  ·intro dF av D p o;have g:dF≠h.n:=fun v=>by rw[v,H] at p;cases p
   by_cases j:dF=b
   ·subst j;rw[J] at p;cases p
   ·exact⟨by rw[t,bS _ _ _ _ g,bS _ _ _ _ j];exact p,by rw[bS _ _ _ _ g];exact o⟩
 have Q:∀ dF,dF≠h.n->live (h'.f dF)=true->dF≠b/\h'.f dF=h.f dF:=fun dF g u=>by
  rw[t,bS _ _ _ _ g] at u ⊢;by_cases j:dF=b
  ·subst j;simp[live] at u
  ·exact⟨j,by rw[bS _ _ _ _ j]⟩
 refine⟨e,rel.pY e.toExt0 h.n ?_ ?_ ?_ ?_ ?_ ?_⟩
 ·intro dF g u;exact⟨(Q dF g u).2,by rw[bS _ _ _ _ g],fun _ _=>rfl⟩
 ·intro D o;simp at o;subst o;rw[t,fJ];have O:=rel.blk b m C;rw[J] at O;obtain⟨h1,I,arr,ao,W,X,Y,ad,ah⟩:=O;refine⟨by simp;omega,by simp only;omega,arr,ao,W,X,Y,ad,fun ak c P=>?_⟩;rw[gy] at P;obtain⟨ap,S,U,V⟩:=ah (off+ak) c P;exact⟨ap,by simp only;rw[i5];exact S,U,V.ext e⟩
 ·intro dF al aw g u _ h1 I v;simp at I;subst I;obtain⟨j,ai⟩:=Q dF g u;rw[ai] at u;exact j (rel.inj dF b al m u K h1 C v)
 ·intro D _ o;simp at o;subst o;exact rel.base b m K C
 ·intro dF p;rw[t,bS _ _ _ _ F,bS _ _ _ _ F];exact rel.fresh dF F
 ·intro dF p;rw[bS _ _ _ _ F];exact rel.iX dF F
theorem bC.JS {R:Nat->Prop} {B:Nat} {w w' : aT} {h:aM} {muZ:b3} (rel:bC R B w h muZ) (c:ao) (o:Obj) {k:Nat} (hk:lr c=k+1)
  (H:w'.os=w.os) (J:w'.tape=w.tape) (I:w'.output=w.output) (v:w'.heap=w.heap.push o)
  (G:qd w' R (h.push c) (bt muZ h.n (some ⟨w.heap.size,0,0⟩)) ⟨w.heap.size,0,0⟩ c) (C:w.drawn<=w'.drawn:=by first | exact aN _ | exact ry _ | assumption) :
  cY w h muZ w' (h.push c) (bt muZ h.n (some ⟨w.heap.size,0,0⟩))/\bC R B w' (h.push c) (bt muZ h.n (some ⟨w.heap.size,0,0⟩)):=by
 have t:h.f h.n=.none:=rel.fresh _ (aN _);have O:lr ao.none=0:=rfl;have e:cY w h muZ w' (h.push c) (bt muZ h.n (some ⟨w.heap.size,0,0⟩)):=by
  refine⟨⟨H,J,I,by simp[v],?_,?_,?_,?_,?_,?_,C⟩,?_⟩
  ·intro k hk _;rw[v,sY,aj F]
  ·rintro k ⟨b,q,m,j,rfl⟩;by_cases g:b=h.n
   ·subst g;simp at j;subst j;exact .inr (aN _)
   ·rw[bS _ _ _ _ g] at j;simp only[dX,bS _ _ _ _ g] at m;exact .inl ⟨b,q,m,j,rfl⟩
  ·intro b K u q g j;have:b≠h.n:=fun p=>by rw[p,t] at g;cases g
   exact .inl ⟨u,by simp only[dX,bS _ _ _ _ this];exact g,by rw[bS _ _ _ _ this];exact j⟩
  ·rintro b K (g | ⟨n,u,g,D⟩)
   ·have:b≠h.n:=fun p=>by rw[p,t] at g;cases g
    exact .inl (by simp only[dX,bS _ _ _ _ this];exact g)
   ·have:b≠h.n:=fun p=>by rw[p,t] at g;cases g
    exact .inr ⟨n,u,by simp only[dX,bS _ _ _ _ this];exact g,D⟩
  ·intro b k q g j;have:b≠h.n:=fun p=>by rw[p,t] at g;cases g
   exact⟨by simp only[dX,bS _ _ _ _ this];exact g,by rw[bS _ _ _ _ this];exact j⟩
  ·simp[jl]
  ·intro b g j;rw[bS _ _ _ _ F];exact j
 refine⟨e,rel.pY e.toExt0 h.n ?_ ?_ ?_ ?_ ?_ ?_⟩
 ·intro b g m;simp only[dX,bS _ _ _ _ g] at m ⊢;exact⟨trivial,trivial,fun q j=>by rw[v,sY,aj (by have:=rel.lt m j;omega)]⟩
 ·intro q j;simp at j;subst j;simp only[dX,fJ];exact G
 ·intro b q P g m _ j z;simp only[dX,bS _ _ _ _ g] at m;simp at z;subst z;have:=rel.lt m j;simp only[ne_eq];omega
 ·intro q _ j;simp at j;subst j;exact rel.size
 ·intro b g;simp only[dX,jl] at g ⊢;rw[bS _ _ _ _ F];exact rel.fresh b F
 ·intro b g;simp only[jl] at g ⊢;rw[bS _ _ _ _ F];exact rel.iX b F
theorem bC.JW {R:Nat->Prop} {B:Nat} {w w' : aT} {h:aM} {muZ:b3} (rel:bC R B w h muZ) {b k:Nat} {c c' : ao} {m:M}
  (D:h.f b=c) (hk:lr c=k+1) (H:lr c'=k+1) (q:muZ b=some m)
  (V:w'.os=w.os) (X:w'.tape=w.tape) (W:w'.output=w.output) (Y:w'.heap.size=w.heap.size) (K:∀ k,k≠m.r->w'.heap[k]?=w.heap[k]?)
  (U:Ext0 w h muZ w' (h.set b c') muZ->qd w' R (h.set b c') muZ m c') (P:w.drawn<=w'.drawn:=by first | exact aN _ | exact ry _ | assumption) :
  cY w h muZ w' (h.set b c') muZ/\bC R B w' (h.set b c') muZ:=by
 have C:live (h.f b)=true:=by rw[D];cases c<;>simp[lr] at hk<;>rfl
 have ag:live c'=true:=by cases c'<;>simp[lr] at H<;>rfl
 have J:∀ F cs,h.f b≠.cells F cs:=fun F cs o=>by rw[D] at o;subst o;simp[lr] at hk
 have T:h.f b≠.dead:=fun o=>by rw[D] at o;subst o;simp[lr] at hk
 have e:cY w h muZ w' (h.set b c') muZ:=by
  refine⟨⟨V,X,W,A6 Y.symm,?_,?_,?_,?_,?_,aN _,P⟩,fun _ _ q=>q⟩
  ·intro k hk S;exact K k (fun o=>S ⟨b,m,C,q,o.symm⟩)
  ·rintro k ⟨j,u,I,p,rfl⟩;by_cases g:j=b
   ·subst g;exact .inl ⟨j,u,C,p,rfl⟩
   ·simp only[dn,bS _ _ _ _ g] at I;exact .inl ⟨j,u,I,p,rfl⟩
  ·intro j F cs u t p;have g:j≠b:=fun o=>by subst o;exact J _ _ t
   exact .inl ⟨cs,by simp only[dn,bS _ _ _ _ g];exact t,p⟩
  ·rintro j F (v | ⟨n,O,v,Q⟩)
   ·have g:j≠b:=fun o=>by subst o;exact T v
    exact .inl (by simp only[dn,bS _ _ _ _ g];exact v)
   ·have g:j≠b:=fun o=>by subst o;exact J _ _ v
    exact .inr ⟨n,O,by simp only[dn,bS _ _ _ _ g];exact v,Q⟩
  ·intro j ah u t p;by_cases g:j=b
   ·subst g;refine⟨?_,p⟩;simp only[dn,fJ];rw[D,hk] at t;rw[H];exact t
   ·exact⟨by simp only[dn,bS _ _ _ _ g];exact t,p⟩
 refine⟨e,rel.pY e.toExt0 b ?_ ?_ ?_ ?_ ?_ rel.iX⟩
 ·intro j g z;simp only[dn,bS _ _ _ _ g] at z ⊢;exact⟨trivial,trivial,fun u p=>K _ (fun o=>g (rel.inj j b u m z C p q o))⟩
 ·intro u p;rw[q] at p;cases p;simp only[dn,fJ];exact U e.toExt0
 ·intro j ad ai g z _ h1 G o;rw[q] at G;cases G;simp only[dn,bS _ _ _ _ g] at z;exact g (rel.inj j b ad m z C h1 q o)
 ·intro u _ p;rw[q] at p;cases p;exact rel.base b m C q
 ·intro j t;by_cases g:j=b
  ·subst g;have:=rel.ku q;simp only[hW] at t;omega
  ·simp only[dn,bS _ _ _ _ g];exact rel.fresh j t
theorem bC.write {R:Nat->Prop} {B:Nat} {w w' : aT} {h:aM} {muZ:b3} (rel:bC R B w h muZ) {b sz sz' : Nat} {cs cs' : ag} {m:M} {arr arr' : Array aD} {t:aF} {H:Nat × Nat}
  (G:h.f b=.cells sz cs) (D:muZ b=some m) (av:w.heap[m.r]?=some (.cells arr t H)) (S:arr.size=m.T) (Y:H=(0,0)\/m.T<H.1)
  (ak:w'.os=w.os) (ao:w'.tape=w.tape) (al:w'.output=w.output) (ar:w'.heap.size=w.heap.size)
  (aq:w'.heap[m.r]?=some (.cells arr' t H)) (O:∀ k,k≠m.r->w'.heap[k]?=w.heap[k]?) (V:arr'.size=arr.size)
  (ah:cs'.length=sz') (au:sz<=sz') (X:m.s+sz'<=m.T)
  (ap:∀ (j:Nat) (c:U),cs'[j]?=some c->∃ v:aD,arr'[m.s+j]?=some v/\v.oneCell'=true/\aA w R h muZ c v) (W:w.drawn<=w'.drawn:=by first | exact aN _ | exact ry _ | assumption) :
  cY w h muZ w' (h.set b (.cells sz' cs')) muZ/\bC R B w' (h.set b (.cells sz' cs')) muZ:=by
 have I:live (h.f b)=true:=by rw[G];rfl
 have e:cY w h muZ w' (h.set b (.cells sz' cs')) muZ:=by
  refine⟨⟨ak,ao,al,A6 ar.symm,?_,?_,?_,?_,?_,aN _,W⟩,fun _ _ D=>D⟩
  ·intro k hk aj;exact O k (fun u=>aj ⟨b,m,I,D,u.symm⟩)
  ·rintro k ⟨o,z,C,q,rfl⟩;by_cases p:o=b
   ·subst p;exact .inl ⟨o,z,I,q,rfl⟩
   ·simp only[dn,bS _ _ _ _ p] at C;exact .inl ⟨o,z,C,q,rfl⟩
  ·intro o ay J z g q;by_cases p:o=b
   ·subst p;rw[G] at g;cases g;by_cases am:sz'=sz
    ·exact .inl ⟨cs',by simp[dn,am],q⟩
    ·exact .inr (.inr ⟨sz',cs',by simp[dn],F⟩)
   ·exact .inl ⟨J,by simp only[dn,bS _ _ _ _ p];exact g,q⟩
  ·rintro o ax (g | ⟨n,J,g,ai⟩)
   ·have p:o≠b:=fun u=>by rw[u,G] at g;cases g
    exact .inl (by simp only[dn,bS _ _ _ _ p];exact g)
   ·by_cases p:o=b
    ·subst p;rw[G] at g;cases g;exact .inr ⟨sz',cs',by simp[dn],F⟩
    ·exact .inr ⟨n,J,by simp only[dn,bS _ _ _ _ p];exact g,ai⟩
  ·intro o k z g q;have p:o≠b:=fun u=>by rw[u,G] at g;cases g
   exact⟨by simp only[dn,bS _ _ _ _ p];exact g,q⟩
 refine⟨e,rel.pY e.toExt0 b ?_ ?_ ?_ ?_ ?_ ?_⟩
 ·intro o p C;simp only[dn,bS _ _ _ _ p] at C ⊢;exact⟨trivial,trivial,fun z q=>O _ (fun u=>p (rel.inj o b z m C I q D u))⟩
 ·intro z q;rw[D] at q;cases q;simp only[dn,fJ];refine⟨ah,X,arr',t,H,aq,V.trans S,Y,fun j c ad=>?_⟩;obtain⟨v,h1,P,Q⟩:=ap j c ad;exact⟨v,h1,P,Q.ext e⟩
 ·intro o z aw p C _ q K u;rw[D] at K;cases K;simp only[dn,bS _ _ _ _ p] at C;exact p (rel.inj o b z m C I q D u)
 ·intro z _ q;exact rel.base b z I q
 ·intro o g;simp only[dn,hW] at g ⊢;have p:o≠b:=fun u=>by
   have:=rel.fresh o g;rw[u,G] at this;cases this
  rw[bS _ _ _ _ p];exact rel.fresh o g
 ·intro o g;exact rel.iX o g
theorem bC.move {R:Nat->Prop} {B:Nat} {w w' : aT} {h:aM} {muZ:b3} (rel:bC R B w h muZ) {b sz sz' : Nat} {cs cs' : ag} {m:M} {arr:Array aD} {t:aF}
  (D:h.f b=.cells sz cs) (I:muZ b=some m)
  (W:w'.os=w.os) (Y:w'.tape=w.tape) (X:w'.output=w.output) (G:w'.heap=w.heap.push (.cells arr t (0,0)))
  (T:cs'.length=sz') (ah:sz<sz') (Q:sz'<=arr.size)
  (ad:∀ (j:Nat) (c:U),cs'[j]?=some c->∃ v:aD,arr[j]?=some v/\v.oneCell'=true/\aA w R h muZ c v) (P:w.drawn<=w'.drawn:=by first | exact aN _ | exact ry _ | assumption) :
  cY w h muZ w' (h.set b (.cells sz' cs')) (bt muZ b (some ⟨w.heap.size,0,arr.size⟩))/\bC R B w' (h.set b (.cells sz' cs')) (bt muZ b (some ⟨w.heap.size,0,arr.size⟩)):=by
 have ai:live (h.f b)=true:=by rw[D];rfl
 have e:cY w h muZ w' (h.set b (.cells sz' cs')) (bt muZ b (some ⟨w.heap.size,0,arr.size⟩)):=by
  refine⟨⟨W,Y,X,by simp[G],?_,?_,?_,?_,?_,aN _,P⟩,?_⟩
  ·intro k hk ak;rw[G,sY,aj F]
  ·rintro k ⟨q,C,z,p,rfl⟩;by_cases g:q=b
   ·subst g;simp at p;subst p;exact .inr (aN _)
   ·rw[bS _ _ _ _ g] at p;simp only[dn,bS _ _ _ _ g] at z;exact .inl ⟨q,C,z,p,rfl⟩
  ·intro q ao H C o p;by_cases g:q=b
   ·subst g;rw[D] at o;cases o;exact .inr (.inr ⟨sz',cs',by simp[dn],F⟩)
   ·exact .inl ⟨H,by simp only[dn,bS _ _ _ _ g];exact o,by rw[bS _ _ _ _ g];exact p⟩
  ·rintro q am (o | ⟨n,H,o,V⟩)
   ·have g:q≠b:=fun u=>by rw[u,D] at o;cases o
    exact .inl (by simp only[dn,bS _ _ _ _ g];exact o)
   ·by_cases g:q=b
    ·subst g;rw[D] at o;cases o;exact .inr ⟨sz',cs',by simp[dn],F⟩
    ·exact .inr ⟨n,H,by simp only[dn,bS _ _ _ _ g];exact o,V⟩
  ·intro q k C o p;have g:q≠b:=fun u=>by rw[u,D] at o;cases o
   exact⟨by simp only[dn,bS _ _ _ _ g];exact o,by rw[bS _ _ _ _ g];exact p⟩
  ·intro q _ p;have g:q≠b:=fun u=>by rw[u,I] at p;cases p
   rw[bS _ _ _ _ g];exact p
 refine⟨e,rel.pY e.toExt0 b ?_ ?_ ?_ ?_ ?_ ?_⟩
 ·intro q g z;simp only[dn,bS _ _ _ _ g] at z ⊢;exact⟨trivial,trivial,fun C p=>by rw[G,sY,aj (by have:=rel.lt z p;omega)]⟩
 ·intro C p;simp at p;subst p;simp only[dn,fJ];refine⟨T,by simpa using Q,arr,t,(0,0),by simp[G],rfl,.inl rfl,fun j c S=>?_⟩;obtain⟨v,h1,K,O⟩:=ad j c S;exact⟨v,by simpa using h1,K,O.ext e⟩
 ·intro q C al g z _ p J;simp only[dn,bS _ _ _ _ g] at z;simp at J;subst J;have:=rel.lt z p;simp only[ne_eq];omega
 ·intro C _ p;simp at p;subst p;exact rel.size
 ·intro q o;simp only[dn,hW] at o ⊢;have g:q≠b:=fun u=>by
   have:=rel.fresh q o;rw[u,D] at this;cases this
  rw[bS _ _ _ _ g];exact rel.fresh q o
 ·intro q o;simp only[hW] at o;have g:q≠b:=fun u=>by
   have:=rel.ku I;omega
  rw[bS _ _ _ _ g];exact rel.iX q o
section
variable {P:bq} {w:aT} {R:Nat->Prop} {B:Nat} {h:aM} {muZ:b3}
def Good (R:Nat->Prop) (B:Nat) (w:aT) (h:aM) (muZ:b3) (r:Result Next) (c:U) (h' : aM) :Prop:=
 ∃ g w' muZ',(r=.ok (.value g) w'\/(r=.ok .skip w'/\g=undef))/\cY w h muZ w' h' muZ'/\bC R B w' h' muZ'/\aA w' R h' muZ' c g
theorem cc {t:aF} {d:TypeDesc} (g:P.underlying t=some d) :(underlying t).run P w=.ok d w:=by simp[underlying,g]
theorem zY {t:aF} {b:Bool} (g:dE P t=some b) :(isAgg t).run P w=.ok b w:=by
 unfold dE at g;cases h:P.underlying t with
 | none=>rw[h] at g;cases g
 | some d=>
  rw[h] at g;simp only[cz,bc] at g;unfold isAgg;simp only[Sem.run_bind,cc h,Result.andThen_ok];cases d<;>simp_all
theorem Rz {t:aF} {n:Nat} (g:b9 P t=some n) :∃ i,P.info? t=some i/\i.size=n:=by
 unfold b9 at g;cases h:P.info? t with
 | none=>rw[h] at g;cases g
 | some i=>rw[h] at g;exact⟨i,rfl,by simpa using g⟩
theorem eB {t:aF} {n:Nat} (h:b9 P t=some n) :(sizeOf t).run P w=.ok n w:=by obtain⟨i,g,j⟩:=Rz h;simp[sizeOf,typeInfo,g,j]
theorem YZ {t:aF} {z:ag} (g:gb P t=some z) :∃ i v,P.info? t=some i/\i.zero=some v/\v.cells.toList.all Value.oneCell'=true/\z=v.cells.toList.map l7:=by
 unfold gb at g;cases j:P.info? t with
 | none=>rw[j] at g;cases g
 | some i=>
  rw[j] at g;simp only[qc] at g;cases h:i.zero with
  | none=>rw[h] at g;cases g
  | some v=>
   rw[h] at g;simp only[qc] at g;split at g
   ·rename_i h1;exact⟨i,v,rfl,h,h1,by simpa using g.symm⟩
   ·cases g
theorem KS {t:aF} {i:TypeInfo} {v:aD} (g:P.info? t=some i) (h:i.zero=some v) :(zeroValue t).run P w=.ok v w:=by simp[zeroValue,typeInfo,g,h]
theorem aA.l7 (v:aD) :aA w R h muZ (l7 v) v:=by
 cases v with
 | bool b=>exact .bool _
 | int k n=>exact .int _ _
 | string s=>exact .str _
 | pointer a=>cases a<;>first | exact .iy | exact .bad _
 | slice a l c=>
  simp only[bl.l7];split
  ·exact .ae
  ·exact .bad _
 | map r=>cases r<;>first | exact .g0 | exact .bad _
 | nilFunc=>exact .ib
 | nilIface=>exact .hS
 | func fn first e6=>
  simp only[bl.l7];split
  ·rename_i f h1 o;have j:first=#[]:=by simpa using h1
   have m:e6=#[]:=by simpa using o
   subst j m;exact .fn _ [] [] #[] #[] rfl rfl (fun _ _ _ g=>by simp at g) (fun _ _ _ g=>by simp at g)
  ·exact .bad _
 | _=>exact .bad _
theorem aA.qS (v:aD) :aA w R h muZ (qS v) v:=by
 unfold bl.qS;split
 ·rename_i cs;split
  ·rename_i m;refine .af _ _ V (fun o v p=>?_) (fun o c v g j=>?_)
   ·rw[gc] at m;exact m v (by have:=xD p;simpa using this)
   ·rw[b1] at g;simp only[p5,j,cz,bc] at g;subst g;exact aA.l7 v
  ·exact .bad _
 ·rename_i q;refine .a1 _ _ V (fun o c v g j=>?_);rw[b1] at g;simp only[p5,j,cz,bc] at g;subst g;exact aA.l7 v
 ·exact aA.l7 v
theorem yf {c:U} {v:aD} {cs:ag} (p:aA w R h muZ c v) (g:c.cells=some cs) :
  v.cells.size=cs.length/\∀ (j:Nat) (x:U),cs[j]?=some x->∃ u:aD,v.cells[j]?=some u/\u.oneCell'=true/\aA w R h muZ x u:=by
 have m:∀ (c:U) (v:aD),aA w R h muZ c v->v.cells=#[v]->v.oneCell'=true->∀ cs,cs=[c]->
   v.cells.size=cs.length/\∀ (j:Nat) (x:U),cs[j]?=some x->∃ u:aD,v.cells[j]?=some u/\u.oneCell'=true/\aA w R h muZ x u:=by
  intro c v p ah h1 cs ad;subst ad;rw[ah];refine⟨rfl,fun j x H=>?_⟩;cases j with
  | zero=>simp at H;subst H;exact⟨v,rfl,h1,p⟩
  | succ j=>simp at H
 cases p with
 | af q Q B h1 p=>
  simp only[U.cells,bc] at g;subst g;refine⟨B,fun j x H=>?_⟩;have O:j<Q.size:=by rw[B];exact (aK.1 H).1
  exact⟨Q[j],by simp[Value.cells,O],h1 j _ (by simp[O]),p j x _ H (by simp[O])⟩
 | a1 q Q B p=>simp[U.cells] at g
 | bad v=>simp[U.cells] at g
 | bool b=>exact m _ _ (.bool b) rfl rfl _ (by simpa [U.cells] using g.symm)
 | int k n=>exact m _ _ (.int k n) rfl rfl _ (by simpa [U.cells] using g.symm)
 | str S=>exact m _ _ (.str S) rfl rfl _ (by simpa [U.cells] using g.symm)
 | iy=>exact m _ _ .iy rfl rfl _ (by simpa [U.cells] using g.symm)
 | ae=>exact m _ _ .ae rfl rfl _ (by simpa [U.cells] using g.symm)
 | g0=>exact m _ _ .g0 rfl rfl _ (by simpa [U.cells] using g.symm)
 | ib=>exact m _ _ .ib rfl rfl _ (by simpa [U.cells] using g.symm)
 | hS=>exact m _ _ .hS rfl rfl _ (by simpa [U.cells] using g.symm)
 | ptr b o F q D t C=>exact m _ _ (.ptr b o F q D t C) rfl rfl _ (by simpa [U.cells] using g.symm)
 | jk b o F a K=>exact m _ _ (.jk b o F a K) rfl rfl _ (by simpa [U.cells] using g.symm)
 | b7 q o I al P z p=>exact m _ _ (.b7 q o I al P z p) rfl rfl _ (by simpa [U.cells] using g.symm)
 | Z G b o len cap F J q D t C B aj z=>exact m _ _ (.Z G b o len cap F J q D t C B aj z) rfl rfl _ (by simpa [U.cells] using g.symm)
 | fc G b o len cap F J a B z K=>exact m _ _ (.fc G b o len cap F J a B z K) rfl rfl _ (by simpa [U.cells] using g.symm)
 | gu G b o F a q D t C=>exact m _ _ (.gu G b o F a q D t C) rfl rfl _ (by simpa [U.cells] using g.symm)
 | bu G V I o cap P B ak z p=>exact m _ _ (.bu G V I o cap P B ak z p) rfl rfl _ (by simpa [U.cells] using g.symm)
 | eI G a cap=>exact m _ _ (.eI G a cap) rfl rfl _ (by simpa [U.cells] using g.symm)
 | fn f W T X q ai z h1 Y=>exact m _ _ (.fn f W T X q ai z h1 Y) rfl rfl _ (by simpa [U.cells] using g.symm)
 | mp b D t C=>exact m _ _ (.mp b D t C) rfl rfl _ (by simpa [U.cells] using g.symm)
 | it b D t C=>exact m _ _ (.it b D t C) rfl rfl _ (by simpa [U.cells] using g.symm)
 | fX am c v p=>exact m _ _ (.fX am c v p) rfl rfl _ (by simpa [U.cells] using g.symm)
 | ff l=>exact m _ _ (.ff l) rfl rfl _ (by simpa [U.cells] using g.symm)
theorem Addr.jW (b o n:Nat) :(⟨b,o,none⟩:Addr).add n=⟨b,o+n,none⟩:=by unfold Addr.add;split<;>simp_all
theorem VQ (rel:bC R B w h muZ) {p:U} {G:aD} {cs:ag} {off:Nat} (g:md h p=some (cs,off)) (Q:aA w R h muZ p G) :
  ∃ blk o,G=.pointer (some ⟨blk,o+off,none⟩)/\∀ (j:Nat) (c:U),cs[j]?=some c->∃ v:aD,w.cell? ⟨blk,o+j,none⟩=some v/\v.oneCell'=true/\aA w R h muZ c v:=by
 cases Q with
 | ptr b F T u t z P=>
  simp only[md,z,ite_true,bc,Prod.mk.injEq] at g;obtain⟨rfl,rfl⟩:=g;have C:=rel.blk b t P;rw[z] at C;obtain⟨h1,X,arr,ai,W,K,Y,ad,O⟩:=C;refine⟨t.r,t.s,rfl,fun j c q=>?_⟩;obtain⟨v,H,I,J⟩:=O j c q;exact⟨v,by simp[World.cell?,K,H],I,J⟩
 | jk b F T a m=>
  unfold md at g;rcases m with m | ⟨n,u,m,ah⟩
  ·simp[m] at g
  ·simp only[m] at g;split at g
   ·omega
   ·cases g
 | b7 u F blk o V D S=>
  simp only[md,bc,Prod.mk.injEq] at g;obtain⟨rfl,rfl⟩:=g;exact⟨blk,o,rfl,fun j c q=>⟨V j,(D j (aK.1 q).1).here,(D j (aK.1 q).1).one,S j c q⟩⟩
 | _=>simp[md] at g
theorem Wu {t:aF} {cs:ag} {off:Nat} {c:U} (m:go P t cs off=some c) {blk o:Nat}
  (B:∀ (j:Nat) (x:U),cs[j]?=some x->∃ v:aD,w.cell? ⟨blk,o+j,none⟩=some v/\v.oneCell'=true/\aA w R h muZ x v) :
  ∃ v,(loadVar t ⟨blk,o+off,none⟩).run P w=.ok v w/\aA w R h muZ c v:=by
 unfold go at m;cases q:dE P t with
 | none=>rw[q] at m;cases m
 | some b=>
  rw[q] at m;cases b with
  | false=>
   simp only at m;obtain⟨v,h1,_,H⟩:=B off c m;exact⟨v,by simp[loadVar,zY q,h1],H⟩
  | true=>
   cases z:b9 P t with
   | none=>rw[z] at m;cases m
   | some n=>
    rw[z] at m;simp only at m;split at m
    ·rename_i K;cases m;have D:∀ j,j<n->∃ v,w.cell? ⟨blk,o+(off+j),none⟩=some v/\v.oneCell'=true/\aA w R h muZ (cs.getD (off+j) .bad) v:=by
      intro j g;have G:off+j<cs.length:=F;have:=B (off+j) cs[off+j] (by simp[G]);simpa [List.getD,G] using this
     have J:∃ f:Nat->aD,∀ j,j<n->w.cell? ⟨blk,o+(off+j),none⟩=some (f j)/\(f j).oneCell'=true/\aA w R h muZ (cs.getD (off+j) .bad) (f j):=by
      refine⟨fun j=>if g:j<n then Classical.choose (D j g) else undef,fun j g=>?_⟩;simp only[g,dif_pos];exact Classical.choose_spec (D j g)
     obtain⟨f,u⟩:=J;have I:(loadCells ⟨blk,o+off,none⟩ n).run P w=.ok ((List.range n).map f).toArray w:=by
      have:=run_loadCells_list (P:=P) w ⟨blk,o+off,none⟩ ((List.range n).map f) (fun j v g=>by
       rw[b1] at g;have p:j<n:=by
        rcases fE j n with h1 | h1
        ·exact h1
        ·rw[dY (by simpa using h1)] at g;cases g
       rw[ho p] at g;simp only[cz,bc] at g;rw[Addr.jW,<-g,i5];exact (u j p).1)
      simpa using this
     refine⟨.agg ((List.range n).map f).toArray,by simp[loadVar,zY q,eB z,I],.af _ _ (by simp;omega) (fun j v g=>?_) (fun j c v C g=>?_)⟩
     ·simp only[u6,b1] at g;have p:j<n:=by
       rcases fE j n with h1 | h1
       ·exact h1
       ·rw[dY (by simpa using h1)] at g;cases g
      rw[ho p] at g;simp only[cz,bc] at g;rw[<-g];exact (u j p).2.1
     ·simp only[u6,b1] at g;have p:j<n:=by
       rcases fE j n with h1 | h1
       ·exact h1
       ·rw[dY (by simpa using h1)] at g;cases g
      rw[ho p] at g;simp only[cz,bc] at g;rw[dS p,gy] at C;have:=(u j p).2.2;rw[List.getD,C] at this;rw[<-g];simpa using this
    ·cases m
theorem It (rel:bC R B w h muZ) {t:aF} {p:U} {m:aD} {c:U} (g:oK P h t p=some c) (u:aA w R h muZ p m) :
  ∃ v,(Instr.loadAt t m).run P w=.ok v w/\aA w R h muZ c v:=by
 unfold oK at g;cases j:md h p with
 | none=>rw[j] at g;cases g
 | some x=>
  obtain⟨cs,D⟩:=x;rw[j] at g;obtain⟨z,C,rfl,q⟩:=VQ rel j u;obtain⟨v,h1,o⟩:=Wu g q;exact⟨v,by simp[Instr.loadAt,Instr.sureAddr,h1],o⟩
end
section
variable {P:bq} {w:aT} {R:Nat->Prop} {B:Nat} {h:aM} {muZ:b3}
theorem KR (P:bq) (g o:Nat) (t:aF) (j:Nat × Nat) :∀ (vs:List aD) (i:Nat) (h:Array aD) (w:aT),w.heap[g]?=some (.cells h t j)->(j=(0,0)\/h.size<=j.1)->
  o+i+vs.length<=h.size->(∀ v∈vs,v.oneCell'=true)->
  (storeCells ⟨g,o,none⟩ vs i).run P w=.ok () (w.setRow g (h.toList.take (o+i)++vs++h.toList.drop (o+i+vs.length)).toArray)
 | [],i,h,w,m,_,_,_=>by
  simp only[storeCells,eK,hq,na,i4,Array.toArray_toList];rw[setRow_self w g h t j m];rfl
 | v::rest,i,h,w,m,p,q,h1=>by
  have C:o+i<h.size:=by simp at q;omega
  have u:(⟨g,o,none⟩:Addr).add i=⟨g,o+i,none⟩:=Addr.jW _ _ _;have z:w.cell? ⟨g,o+i,none⟩=some h[o+i]:=by simp[World.cell?,m,C]
  have B:w.frozen? ⟨g,o+i,none⟩=false:=by
   obtain⟨H,I⟩:=j;rcases p with p | p
   ·cases p;simp[World.frozen?,m]
   ·have:¬ H<=o+i:=by simp at p;omega
    simp[World.frozen?,m,this]
  have D:(store ((⟨g,o,none⟩:Addr).add i) v).run P w=.ok () (w.setRow g (h.setIfInBounds (o+i) v)):=by
   rw[u,run_store P w _ v _ (h1 v V),z];simp[B,setCell_eq_setRow w g (o+i) h t j v m]
  have G:=KR P g o t j rest (i+1) (h.setIfInBounds (o+i) v) (w.setRow g (h.setIfInBounds (o+i) v)) (setRow_heap w g h _ t _ m) (by simpa using p) (by simp at q ⊢;omega) (fun x F=>h1 x (by simp[F]));simp only[storeCells,Sem.run_bind,D,Result.andThen_ok,G,setRow_setRow];congr 3;have:=list_seg_step h.toList (o+i) v rest (by simp at q ⊢;omega);simpa [i5,rx 1] using this
theorem oV {cs vs:ag} {k:Nat} (hk:k<=cs.length) :(aw cs k vs).length=max cs.length (k+vs.length):=by unfold aw;simp only[cF,cL,i2];omega
theorem Eh {cs vs:ag} {k j:Nat} (hk:k<=cs.length) :(aw cs k vs)[j]?=if j<k then cs[j]? else if j<k+vs.length then vs[j - k]? else cs[j]?:=by
 unfold aw;rw[hl];by_cases h1:j<k
 ·rw[aU (by simp;omega),dS h1,ak h1]
 ·rw[eu (by simp;omega),aj h1];simp only[cL,i7 hk];by_cases g:j<k+vs.length
  ·rw[aU F,ak g]
  ·rw[eu F,aj g,gy];congr 1;omega
theorem sS (rel:bC R B w h muZ) {b sz k:Nat} {cs cvs:ag} {m:M} {vs:List aD} (D:h.f b=.cells sz cs) (K:muZ b=some m) (hk:k<=sz)
  (ao:vs.length=cvs.length) (ak:m.s+max sz (k+cvs.length)<=m.T)
  (Q:∀ (j:Nat) (c:U),cvs[j]?=some c->∃ v:aD,vs[j]?=some v/\v.oneCell'=true/\aA w R h muZ c v) :
  ∃ w',(storeCells ⟨m.r,m.s+k,none⟩ vs).run P w=.ok () w'/\cY w h muZ w' (h.set b (.cells (max sz (k+cvs.length)) (aw cs k cvs))) muZ ∧
   bC R B w' (h.set b (.cells (max sz (k+cvs.length)) (aw cs k cvs))) muZ:=by
 have G:=rel.blk b m K;rw[D] at G;obtain⟨X,aj,arr,S,z,u,C,J,H⟩:=G;have h1:∀ v∈vs,v.oneCell'=true:=by
  intro v ad;obtain⟨j,o,rfl⟩:=E9 ad;obtain⟨v,g,p,_⟩:=Q j (cvs[j]'F) V;rw[bK o] at g;cases g;exact p
 have O:=KR P m.r (m.s+k) S z vs 0 arr w u (by rw[C];exact J.imp id kp) F h1;simp only[na] at O;have ah:(arr.toList.take (m.s+k)++vs++arr.toList.drop (m.s+k+vs.length)).toArray.size=arr.size:=by
  simp only[xN,cF,cL,i2,rm];omega
 have I:=rel.write (w':=w.setRow m.r (arr.toList.take (m.s+k)++vs++arr.toList.drop (m.s+k+vs.length)).toArray) (cs':=aw cs k cvs) (sz':=max sz (k+cvs.length)) D K u C J
  rfl rfl rfl (by simp[World.setRow]) (setRow_heap w m.r arr _ S z u) (fun ai W=>setRow_other w m.r ai _ W) ah
  (by rw[oV F,X]) F F (fun j c o=>?_)
 ·exact⟨_,O,I.1,I.2⟩
 ·rw[Eh F] at o;simp only[u6];rw[hl];split at o
  ·rename_i Y;obtain⟨v,g,p,q⟩:=H j c o;refine⟨v,?_,p,q⟩;rw[aU (by simp;omega),dS F];simpa using g
  ·rename_i al;split at o
   ·rename_i Y;obtain⟨v,g,p,q⟩:=Q _ c o;refine⟨v,?_,p,q⟩;have t:min (m.s+k) arr.size=m.s+k:=F;rw[eu (by simp;omega)];simp only[cL,rm,t];rw[aU F,<-g];congr 1;omega
   ·rename_i am;obtain⟨v,g,p,q⟩:=H j c o;refine⟨v,?_,p,q⟩;have t:min (m.s+k) arr.size=m.s+k:=F;rw[eu (by simp;omega)];simp only[cL,rm,t];rw[eu F,gy];have:(m.s+k+vs.length+(m.s+j - (m.s+k) - vs.length))=m.s+j:=F;rw[this];simpa using g
theorem Ln (rel:bC R B w h muZ) {t:aF} {p v:U} {I q:aD} {h' : aM} (g:rb P h t p v=some h') (ah:aA w R h muZ p I) (aj:aA w R h muZ v q) :
  ∃ w',(Instr.storeAt t I q).run P w=.ok () w'/\cY w h muZ w' h' muZ/\bC R B w' h' muZ:=by
 unfold rb at g;split at g
 ·rename_i b H ay J n V ad;obtain⟨ai,ak⟩:=yf aj V;cases j:h.f b with
  | cells m cs=>
   rw[j] at g;simp only at g;split at g
   ·rename_i W;obtain⟨rfl,av,au⟩:=W;cases g;cases ah with
    | ptr S ao ap T am ar G=>
     have D:=rel.blk b am G;rw[j] at D;have aq:=D.2.1;obtain⟨w',h1,z,C⟩:=sS (P:=P) rel (cvs:=J) (vs:=q.cells.toList) (k:=H) j G F (by simpa using ai) F
      (fun al c X=>by obtain⟨u,K,O,Q⟩:=ak al c X;exact⟨u,by simpa using K,O,Q⟩)
     have Y:max m (H+J.length)=m:=F;rw[Y] at z C;refine⟨w',?_,z,C⟩;have ag:¬ (q.cells.size≠n):=F;simp[Instr.storeAt,Instr.sureAddr,storeVar,eB ad,ag,h1]
    | jk S ao ap a o=>
     rcases o with o | ⟨ax,T,o,aw⟩
     ·rw[o] at j;cases j
     ·rw[o] at j;cases j;omega
   ·cases g
  | _=>rw[j] at g;cases g
 ·cases g
theorem x2 (rel:bC R B w h muZ) {cs:ag} {vs:Array aD} (t:aF) (p:vs.size=cs.length)
  (o:∀ (j:Nat) (c:U),cs[j]?=some c->∃ v:aD,vs[j]?=some v/\v.oneCell'=true/\aA w R h muZ c v) :
  let h':=h.push (.cells cs.length cs)
  let muZ':=bt muZ h.n (some ⟨w.heap.size,0,vs.size⟩)
  let w':=w.alloc (.cells vs t)
  cY w h muZ w' h' muZ'/\bC R B w' h' muZ'/\∀ g,aA w' R h' muZ' (.ptr h.n g cs.length) (.pointer (some ⟨w.heap.size,g,none⟩)):=by intro h' muZ' w';have:=rel.push (w':=w') cs vs t rfl rfl rfl rfl F o;refine⟨this.1,this.2,fun g=>?_⟩;have m:=aA.ptr (w:=w') (R:=R) (h:=h') (muZ:=muZ') h.n g cs.length cs ⟨w.heap.size,0,vs.size⟩ (by simp[h',dX]) (by simp[muZ']);simpa using m
theorem MB {t:aF} {z:ag} (q:gb P t=some z) :∃ i v,P.info? t=some i/\i.zero=some v/\v.cells.size=z.length ∧
  ∀ (j:Nat) (c:U),z[j]?=some c->∃ u:aD,v.cells[j]?=some u/\u.oneCell'=true/\aA w R h muZ c u:=by
 obtain⟨i,v,o,p,h1,rfl⟩:=YZ q;refine⟨i,v,o,p,V,fun j c g=>?_⟩;rw[b1] at g;cases m:v.cells[j]? with
 | none=>simp[m] at g
 | some u=>
  simp[m] at g;subst g;rw[gc] at h1;exact⟨u,rfl,h1 u (by have:=xD m;simpa using this),aA.l7 u⟩
theorem Gr {x:U} {o:aD} {k:Nat} {c:U} (g:lf x k=some c) (B:aA w R h muZ x o) :
  ∃ a,o=.pointer (some a)/\aA w R h muZ c (.pointer (some (a.add k))):=by
 cases B with
 | ptr b j m cs C q v=>
  simp only[lf,bc] at g;subst g;refine⟨_,rfl,?_⟩;rw[Addr.jW,i5];exact .ptr b _ m cs C q v
 | jk b j m a u=>
  simp only[lf,bc] at g;subst g;exact⟨a,rfl,.jk _ _ _ _ u⟩
 | b7 cs j p D F t z=>
  simp only[lf,bc] at g;subst g;refine⟨_,rfl,?_⟩;rw[Addr.jW,i5];exact .b7 cs _ p D F t z
 | _=>simp[lf] at g
theorem Hl {s:aF} {f:Nat} {fd:Field} (g:rX P s f=some fd) :∃ fs,P.underlying s=some (.struct fs)/\fs[f]?=some fd:=by
 unfold rX at g;split at g
 ·rename_i fs h;exact⟨fs,h,g⟩
 ·cases g
theorem Qw {s:aF} {x c:U} {j:aD} {f:Nat} (g:yB P s x f=some c) (u:aA w R h muZ x j) :
  ∃ v,(Instr.fieldAt s j f).run P w=.ok v w/\aA w R h muZ c v:=by
 unfold yB at g;split at g
 ·rename_i z m;obtain⟨B,q,o⟩:=Hl m;split at g
  ·rename_i n p;obtain⟨a,rfl,t⟩:=Gr g u;refine⟨_,?_,t⟩;simp[Instr.fieldAt,cc q,o,Instr.sureAddr,fieldPlace,eB p]
  ·cases g
 ·cases g
theorem oi {x:U} {j:aD} {n:Int} (g:asInt x=some n) (m:aA w R h muZ x j) :∃ k,j=.int k n:=by cases m<;>simp[asInt] at g;subst g;exact⟨_,rfl⟩
theorem Ru {t:aF} {x O c:U} {S K:aD} (g:wg P t x O=some c) (C:aA w R h muZ x S) (H:aA w R h muZ O K) :
  ∃ v,(Instr.indexAt t S K).run P w=.ok v w/\aA w R h muZ c v:=by
 unfold wg at g;split at g
 ·rename_i len e i p u;obtain⟨k,rfl⟩:=oi u H;cases m:b9 P e with
  | none=>rw[m] at g;cases g
  | some z=>
   rw[m] at g;simp only at g;split at g
   ·rename_i j;obtain⟨a,rfl,B⟩:=Gr g C;refine⟨_,?_,B⟩;simp[Instr.indexAt,asIntOf,cc p,Instr.sureAddr,j,eB m]
   ·cases g
 ·rename_i e i p u;obtain⟨k,rfl⟩:=oi u H;split at g
  ·rename_i z am b D len cap Q m;split at g
   ·rename_i j;obtain⟨rfl,j⟩:=j;cases g;cases C with
    | Z _ _ _ _ _ _ V cs ak W ah I aq X=>
     refine⟨_,?_,aA.ptr b (D+i.toNat*z) Q cs ak W ah⟩;simp[Instr.indexAt,asIntOf,cc p,j,eB m,Addr.jW,i5]
    | gu=>simp at j;omega
    | fc _ _ _ _ _ _ V a I X ad=>
     refine⟨_,?_,aA.jk b _ Q (a.add (i.toNat*z)) ad⟩;simp[Instr.indexAt,asIntOf,cc p,j,eB m]
   ·cases g
  ·rename_i z am q m;split at g
   ·rename_i j;obtain⟨rfl,j⟩:=j;cases o:q[i.toNat]? with
    | none=>rw[o] at g;cases g
    | some G=>
     rw[o] at g;simp only[cz,bc] at g;subst g;have J:i.toNat<q.length:=(aK.1 o).1;have ag:(0<=i/\i<(q.length:Int)):=F;cases C with
     | bu _ _ T D cap al I ai Y B=>
      have ao:G.length=z:=ai _ (cJ o);refine⟨_,?_,aA.b7 G 0 T (D+i.toNat*z) (al i.toNat) (fun aj ap=>?_) (B _ _ o)⟩
      ·simp[Instr.indexAt,asIntOf,cc p,ag,eB m,Addr.jW]
      ·have:=Y i.toNat aj J F
       rwa [i5]
     | eI=>simp at J
   ·cases g
  ·cases g
 ·cases g
end
section
variable {P:bq} {w:aT} {R:Nat->Prop} {B:Nat} {h:aM} {muZ:b3}
theorem hw {alZ:Type} {z:Nat}:∀ {es:List (List alZ)},(∀ e,e∈es->e.length=z)->es.flatten.length=es.length*z
 | [],_=>V
 | e::es,g=>by
  rw[hG,cF,g e V,hw (fun e h=>g e (by simp[h])),dN,ek,rx]
theorem Hy {alZ:Type} {z:Nat}:∀ {es:List (List alZ)} {j:Nat} {c:alZ},(∀ e,e∈es->e.length=z)->es.flatten[j]?=some c->
  ∃ i k e,j=i*z+k/\k<z/\es[i]?=some e/\e[k]?=some c
 | [],_,_,_,g=>by simp at g
 | e::es,j,c,m,g=>by
  have h:=m e V;rw[hG] at g;by_cases u:j<e.length
  ·rw[aU u] at g;exact⟨0,j,e,V,F,rfl,g⟩
  ·rw[eu F] at g;obtain⟨i,k,o,h1,p,q,t⟩:=Hy (fun e h=>m e (by simp[h])) g;exact⟨i+1,k,o,by rw[ek];omega,p,by simpa using q,t⟩
def pe (w:aT) (R:Nat->Prop) (h:aM) (muZ:b3) (xs:ag) (vs:List aD) :Prop:=
 vs.length=xs.length/\∀ (j:Nat) (c:U),xs[j]?=some c->∃ g:aD,vs[j]?=some g/\g.oneCell'=true/\aA w R h muZ c g
theorem D3 {w2:aT} {xs:ag} {blk o:Nat} (H:∀ a,w2.cell? a=w.cell? a)
  (G:∀ (j:Nat) (c:U),xs[j]?=some c->∃ v:aD,w.cell? ⟨blk,o+j,none⟩=some v/\v.oneCell'=true/\aA w R h muZ c v) :
  ∃ vs:List aD,pe w R h muZ xs vs/\∀ k,k<=xs.length->∀ w2:aT,(∀ a,w2.cell? a=w.cell? a)->(loadCells ⟨blk,o,none⟩ k).run P w2=.ok (vs.take k).toArray w2:=by
 have D:∃ f:Nat->aD,∀ (j:Nat) (c:U),xs[j]?=some c->w.cell? ⟨blk,o+j,none⟩=some (f j)/\(f j).oneCell'=true/\aA w R h muZ c (f j):=by
  refine⟨fun j=>(w.cell? ⟨blk,o+j,none⟩).getD undef,fun j c g=>?_⟩;obtain⟨v,h1,q,t⟩:=G j c g;simp only[h1,g6];exact⟨trivial,q,t⟩
 obtain⟨f,m⟩:=D;refine⟨(List.range xs.length).map f,⟨V,fun j c g=>?_⟩,fun k hk w2 u=>?_⟩
 ·have C:j<xs.length:=(aK.1 g).1;exact⟨f j,by simp[C],(m j c g).2⟩
 ·have:=run_loadCells_list (P:=P) w2 ⟨blk,o,none⟩ (((List.range xs.length).map f).take k) (fun j v g=>by
   have z:j<k:=by
    rcases fE j k with h1 | h1
    ·exact h1
    ·rw[dY (by simp;omega)] at g;cases g
   rw[dS z,b1] at g;have p:j<xs.length:=F;rw[ho p] at g;simp only[cz,bc] at g;rw[Addr.jW,<-g,u];exact (m j _ (bK p)).1)
  have B:(((List.range xs.length).map f).take k).length=k:=by simp;omega
  rw[B] at this;exact this
theorem qB (rel:bC R B w h muZ) {z n:Nat} {x:U} {O:aD} {xs:ag} (g:contents h z x=some (xs,n)) (K:aA w R h muZ x O) :
  xs.length=n*z/\(Builtin.lenOf O).run P w=.ok n w/\∃ vs:List aD,pe w R h muZ xs vs ∧
   ∀ k,k<=n->∀ w2:aT,(∀ a,w2.cell? a=w.cell? a)->(Builtin.firstCells z k O).run P w2=.ok (vs.take (k*z)).toArray w2:=by
 cases K with
 | ae=>
  simp only[contents,bc,Prod.mk.injEq] at g;obtain⟨rfl,rfl⟩:=g;exact⟨V,by simp[Builtin.lenOf],[],⟨rfl,fun m c j=>by simp at j⟩,fun k _ w2 _=>by simp[Builtin.firstCells]⟩
 | str q=>
  simp only[contents] at g;split at g
  ·rename_i D;subst D;simp only[bc,Prod.mk.injEq] at g;obtain⟨rfl,rfl⟩:=g;refine⟨V,by simp[Builtin.lenOf],q.data.toList.map fun b=>.int .u8 b.toNat,⟨V,fun m c j=>?_⟩,fun k hk w2 _=>?_⟩
   ·rw[b1] at j ⊢;cases o:q.data.toList[m]? with
    | none=>rw[o] at j;cases j
    | some b=>
     rw[o] at j;simp only[cz,bc] at j;subst j;exact⟨_,rfl,rfl,.int _ _⟩
   ·have K:(q.extract 0 k).data.toList=q.data.toList.take k:=by
     simp[ByteArray.extract,ByteArray.copySlice]
    have aw:(q.extract 0 k).data=(q.data.toList.take k).toArray:=by rw[<-K]
    simp only[Builtin.firstCells,aw];simp
  ·cases g
 | bu G Q al p cap az I D aq av=>
  simp only[contents] at g;split at g
  ·rename_i C;subst C;simp only[bc,Prod.mk.injEq] at g;obtain⟨rfl,rfl⟩:=g;have t:=hw D;have J:∀ (m:Nat) (c:U),Q.flatten[m]?=some c->∃ v:aD,w.cell? ⟨al,p+m,none⟩=some v/\v.oneCell'=true/\aA w R h muZ c v:=by
    intro m c j;obtain⟨i,k,e,rfl,hk,X,ar⟩:=Hy D j;have au:i<Q.length:=(aK.1 X).1;have W:=aq i k au hk;exact⟨az i k,W.here,W.one,av i e X k c ar⟩
   obtain⟨vs,h1,S⟩:=D3 (P:=P) (w2:=w) (fun _=>rfl) J;refine⟨t,by simp[Builtin.lenOf],vs,h1,fun k hk w2 H=>?_⟩;have:=S (k*z) (by rw[t];exact ck _ hk) w2 H;simp[Builtin.firstCells,this]
  ·cases g
 | eI G a cap=>
  simp only[contents] at g;split at g
  ·simp only[bc,Prod.mk.injEq] at g;obtain⟨rfl,rfl⟩:=g;exact⟨V,by simp[Builtin.lenOf],[],⟨rfl,fun m c j=>by simp at j⟩,fun k hk w2 _=>by
    obtain rfl:k=0:=by simpa using hk
    simp[Builtin.firstCells,loadCells,loadCellsFrom]⟩
  ·cases g
 | Z G b p len cap ah am cs F o ad I aJ aG=>
  simp only[contents,o,true_and] at g;split at g
  ·rename_i C;subst C;simp only[bc,Prod.mk.injEq] at g;obtain⟨rfl,rfl⟩:=g;have T:=rel.blk b F ad;rw[o] at T;obtain⟨h1,S,arr,aM,aC,ao,aE,aF,ap⟩:=T;have aI:len*z<=cap*z:=ck _ I;have t:((cs.drop p).take (len*z)).length=len*z:=by
    rw[cL,i2];omega
   have J:∀ (m:Nat) (c:U),((cs.drop p).take (len*z))[m]?=some c->∃ v:aD,w.cell? ⟨F.r,(F.s+p)+m,none⟩=some v/\v.oneCell'=true/\aA w R h muZ c v:=by
    intro m c j;have Y:m<len*z:=by
     have:=(aK.1 j).1;rw[t] at this;exact this
    rw[dS Y,gy] at j;obtain⟨v,ai,aj,ak⟩:=ap _ c j;exact⟨v,by simp[World.cell?,ao,i5,ai],aj,ak⟩
   obtain⟨vs,ax,ay⟩:=D3 (P:=P) (w2:=w) (fun _=>rfl) J;refine⟨t,by simp[Builtin.lenOf],vs,ax,fun k hk w2 H=>?_⟩;have:=ay (k*z) (by rw[t];exact ck _ hk) w2 H;simp[Builtin.firstCells,this]
  ·cases g
 | gu G b p ah a cs F o ad=>
  simp only[contents,o,true_and] at g;split at g
  ·rename_i C;subst C;simp only[bc,Prod.mk.injEq,ta,m9] at g;obtain⟨rfl,rfl⟩:=g;exact⟨V,by simp[Builtin.lenOf],[],⟨rfl,fun m c j=>by simp at j⟩,fun k hk w2 _=>by
    obtain rfl:k=0:=by simpa using hk
    simp[Builtin.firstCells,loadCells,loadCellsFrom]⟩
  ·cases g
 | fc G b p len cap ah am a I aH u=>
  unfold contents at g;rcases u with u | ⟨aL,aB,u,Y⟩
  ·simp[u] at g
  ·simp only[u] at g;split at g
   ·omega
   ·cases g
 | _=>simp[contents] at g
theorem vU {t e:aF} (g:gj P t=some e) :P.underlying t=some (.slice e):=by
 unfold gj at g;split at g
 ·rename_i j h;cases g;exact h
 ·cases g
def uc (P:bq) (u:aF) :Prop:=∃ d,P.underlying u=some d/\∀ k,d≠.int k
theorem Ib (d:TypeDesc) (hk:∀ k,d≠.int k) :(match d with | .int _=>true | _=>false)=false:=by
 cases d with
 | int k=>exact bW rfl (hk k)
 | _=>rfl
theorem run_append_fits {t u ty e:aF} {z n sLen h:Nat} {base:Option Addr} {j:aD} {vs:List aD} {w' : aT} (o:P.underlying t=some (.slice e)) (B:b9 P e=some z) (C:uc P u)
  (v:(Builtin.lenOf j).run P w=.ok n w) (p:(Builtin.firstCells z n j).run P w=.ok vs.toArray w) (q:sLen+n<=h)
  (g:match base with | some a=>(storeCells (a.add (sLen*z)) vs).run P w=.ok () w' | none=>w'=w) :
  (Builtin.append_ #[t,u] ty #[.slice base sLen h,j]).run P w=.ok (.slice base (sLen+n) h) w':=by
 obtain⟨d,m,hk⟩:=C;have D:=Ib d hk;cases base with
 | none=>
  subst g;simp[Builtin.append_,cc o,eB B,cc m,v,q,p]
 | some a=>
  simp only at g;simp[Builtin.append_,cc o,eB B,cc m,v,q,p,g]
theorem Wr {t u ty e:aF} {i:TypeInfo} {zv:aD} {n sLen g:Nat} {base:Option Addr} {j:aD} {h vs:List aD} (v:P.underlying t=some (.slice e)) (m:P.info? e=some i) (K:i.zero=some zv) (I:uc P u)
  (C:(Builtin.lenOf j).run P w=.ok n w) (z:(Builtin.firstCells i.size n j).run P w.drew=.ok vs.toArray w.drew) (G:(Builtin.firstCells i.size sLen (.slice base sLen g)).run P w.drew=.ok h.toArray w.drew)
  (B:g<sLen+n) (H:(sLen+n)*i.bytes<=dk) (O:0<i.bytes) :
  (Builtin.append_ #[t,u] ty #[.slice base sLen g,j]).run P w =
   .ok (.slice (some ⟨w.heap.size,0,none⟩) (sLen+n) (grownCap w (sLen+n) g e)) (w.drew.alloc (.cells ((h++vs).toArray++Builtin.zeroCells zv.cells (grownCap w (sLen+n) g e - (sLen+n))) e)):=by
 obtain⟨d,q,hk⟩:=I;have Q:=Ib d hk;have J:b9 P e=some i.size:=by simp[b9,m]
 have D:¬ (sLen+n<=g):=F;have o:¬ (281474976710656<Builtin.nextslicecap (sLen+n) g*i.bytes):=by
  have:=growslice_fits B H;omega
 have p:¬ (i.bytes=0):=F;simp[Builtin.append_,cc v,eB J,cc q,C,D,typeInfo,m,o,p,Question.forced,G,z,zeroValue,K,newRow,grownCap];rw[<-AD,List.append_toArray h vs]
theorem WZ {s:U} {jn:aD} (j:aA w R h muZ s jn) (hk:s=.ae\/(∃ z es,s=.bu z es)\/∃ z b off len cap sz,s=.Z z b off len cap sz) :
  ∃ base sLen KT,jn=.slice base sLen KT/\sLen<=KT:=by
 cases j<;>simp at hk
 ·exact⟨_,_,_,rfl,aN _⟩
 ·rename_i g t o;exact⟨_,_,_,rfl,F⟩
 ·rename_i g p q;exact⟨_,_,_,rfl,F⟩
 ·exact⟨_,_,_,rfl,aN _⟩
 ·rename_i g v m u;exact⟨_,_,_,rfl,F⟩
 ·exact⟨_,_,_,rfl,fR _⟩
theorem Mz {e:aF} {z:Nat} (g:mm P e=some z) :∃ i v,P.info? e=some i/\i.zero=some v/\v.cells.size=z:=by
 unfold mm at g;cases j:P.info? e with
 | none=>rw[j] at g;cases g
 | some i=>
  rw[j] at g;simp only[qc] at g;cases h:i.zero with
  | none=>rw[h] at g;cases g
  | some v=>rw[h] at g;exact⟨i,v,rfl,h,by simpa using g⟩
theorem v7 {e:aF} {zv:aD} {z need cap:Nat} {xs:ag} {vs:List aD} (u:zv.cells.size=z) (q:xs.length=need*z) (m:pe w R h muZ xs vs) (B:need<=cap) :
  (vs.toArray++Builtin.zeroCells zv.cells (cap - need)).size=cap*z ∧
  ∀ (j:Nat) (c:U),xs[j]?=some c->∃ v:aD,(vs.toArray++Builtin.zeroCells zv.cells (cap - need))[j]?=some v/\v.oneCell'=true/\aA w R h muZ c v:=by
 refine⟨?_,fun j c p=>?_⟩
 ·have h1:(Builtin.zeroCells zv.cells (cap - need)).size=(cap - need)*z:=by simp[Builtin.zeroCells,u]
  have g:need*z+(cap - need)*z=cap*z:=by rw[<-eP];congr 1;omega
  rw[EW,h1,xN,m.1,q,g]
 ·obtain⟨v,h1,g,o⟩:=m.2 j c p;have t:j<vs.length:=(aK.1 h1).1;refine⟨v,?_,g,o⟩;rw[o4 (by simpa using t)];simpa using h1
theorem FV (rel:bC R B w h muZ) {t u ty e:aF} {z by_ n:Nat} {s c:U} {jn aX:aD} {h' : aM} {xs:ag} {vs:List aD} (bk:b9 P e=some z) (a8:gM P e=some by_)
  (g:qo P h e z by_ s xs n=some (c,h')) (aR:aA w R h muZ s jn) (S:xs.length=n*z) (O:pe w R h muZ xs vs)
  (aL:∀ (base:Option Addr) (sLen X:Nat) (w' : aT),sLen+n<=X->(match base with | some a=>(storeCells (a.add (sLen*z)) vs).run P w=.ok () w' | none=>w'=w)->
   (Builtin.append_ #[t,u] ty #[.slice base sLen X,aX]).run P w=.ok (.slice base (sLen+n) X) w')
  (ay:∀ (i:TypeInfo) (zv:aD),P.info? e=some i->i.zero=some zv->∀ (base:Option Addr) (sLen X:Nat) (p:List aD),(Builtin.firstCells i.size sLen (.slice base sLen X)).run P w.drew=.ok p.toArray w.drew->
   X<sLen+n->(sLen+n)*i.bytes<=dk->0<i.bytes->(Builtin.append_ #[t,u] ty #[.slice base sLen X,aX]).run P w =
   .ok (.slice (some ⟨w.heap.size,0,none⟩) (sLen+n) (grownCap w (sLen+n) X e)) (w.drew.alloc (.cells ((p++vs).toArray++Builtin.zeroCells zv.cells (grownCap w (sLen+n) X e - (sLen+n))) e))) :
  ∃ v w' muZ',(Builtin.append_ #[t,u] ty #[jn,aX]).run P w=.ok v w'/\cY w h muZ w' h' muZ'/\bC R B w' h' muZ'/\aA w' R h' muZ' c v:=by
 unfold qo at g;by_cases a4:n=0
 ·-- nothing is appended
  subst a4;simp only[if_true] at g;have a2:(c,h')=(s,h):=by
   split at g<;>first | (simp only[bc] at g;exact g.symm) | cases g
  have hk:s=.ae\/(∃ z a6,s=.bu z a6)\/∃ z b j len cap sz,s=.Z z b j len cap sz:=by
   split at g
   ·exact .inl rfl
   ·exact .inr (.inl ⟨_,_,rfl⟩)
   ·exact .inr (.inr ⟨_,_,_,_,_,_,rfl⟩)
   ·cases g
  simp only[Prod.mk.injEq] at a2;obtain⟨rfl,rfl⟩:=a2;obtain⟨base,sLen,X,rfl,bw⟩:=WZ aR hk;have bj:vs=[]:=by
   have:vs.length=0:=by rw[O.1,S];simp
   exact hp.1 this
  subst bj;have:=aL base sLen X w F (by cases base<;>simp[storeCells]);exact⟨_,w,muZ,this,.refl _ _ _,rel,by simpa using aR⟩
 ·rw[aj a4] at g;split at g
  ·cases g
  ·rename_i a0;simp only[not_or,Decidable.not_not] at a0;obtain⟨bl,bp,bm⟩:=a0;obtain⟨i,zv,ap,aK,aJ⟩:=Mz bm;have aV:i.size=z:=by simpa [b9,ap] using bk
   have av:i.bytes=by_:=by simpa [gM,ap] using a8
   have bn:0<z:=Nat.pos_of_ne_zero bl;have aS:∀ a,w.drew.cell? a=w.cell? a:=fun _=>rfl
   split at g
   ·-- append to nil
    split at g
    ·rename_i aq;simp only[bc,Prod.mk.injEq] at g;obtain⟨rfl,rfl⟩:=g;cases aR;have H:=ay i zv ap aK none 0 0 [] (by simp[Builtin.firstCells]) F (by rw[av];simpa using aq) F;have C:n<=grownCap w (0+n) 0 e:=by have:=grownCap_ge w (0+n) 0 e;omega
     obtain⟨I,W⟩:=v7 (e:=e) (zv:=zv) (need:=n) (cap:=grownCap w (0+n) 0 e) aJ (by rw[S]) O C;have q:=rel.push (w':=w.drew.alloc (.cells (vs.toArray++Builtin.zeroCells zv.cells (grownCap w (0+n) 0 e - n)) e)) xs _ e rfl rfl rfl rfl (by rw[I,S];exact ck _ C) W;rw[S] at q;refine⟨_,_,_,by simpa using H,by simpa using q.1,by simpa using q.2,?_⟩;have:=aA.Z (w:=w.drew.alloc (.cells (vs.toArray++Builtin.zeroCells zv.cells (grownCap w (0+n) 0 e - n)) e)) (R:=R) (h:=h.push (.cells (n*z) xs)) (muZ:=bt muZ h.n (some ⟨w.heap.size,0,(vs.toArray++Builtin.zeroCells zv.cells (grownCap w (0+n) 0 e - n)).size⟩))
      z h.n 0 n n (n*z) (grownCap w (0+n) 0 e) xs ⟨w.heap.size,0,(vs.toArray++Builtin.zeroCells zv.cells (grownCap w (0+n) 0 e - n)).size⟩ (by simp[dX]) V (aN _) F (.inr ⟨F,C,by simp only;rw[I];omega⟩)
     simpa using this
    ·cases g
   ·rename_i bD b j len cap sz;cases D:h.f b with
    | cells m cs=>
     rw[D] at g;simp only at g;split at g
     ·rename_i bb;obtain⟨rfl,rfl,aq⟩:=bb;cases aR with
      | fc _ _ _ _ _ _ cap' a az br H=>
       exfalso;rcases H with H | ⟨bB,aY,H,al⟩
       ·rw[H] at D;cases D
       ·rw[H] at D;cases D;omega
      | gu _ _ _ _ a aY o ar K=>
       rw[D] at ar;cases ar;have a7:=rel.ku K;rw[aj F,ta,m9,m9,h0,hJ] at g;have H:=ay i zv ap aK (some a) 0 0 [] (by simp[Builtin.firstCells,loadCells,loadCellsFrom]) F (by rw[av];exact aq) F;rw[hJ] at H;have C:n<=grownCap w n 0 e:=grownCap_ge _ _ _ _;obtain⟨I,W⟩:=v7 (e:=e) (zv:=zv) (need:=n) (cap:=grownCap w n 0 e) aJ (by rw[S]) O C;split at g
       ·simp only[bc,Prod.mk.injEq] at g;obtain⟨rfl,rfl⟩:=g;have q:=rel.push (w':=w.drew.alloc (.cells (vs.toArray++Builtin.zeroCells zv.cells (grownCap w n 0 e - n)) e)) xs _ e rfl rfl rfl rfl (by rw[I,S];exact ck _ C) W;rw[S] at q;refine⟨_,_,_,by simpa using H,by simpa using q.1,by simpa using q.2,?_⟩;have:=aA.Z (w:=w.drew.alloc (.cells (vs.toArray++Builtin.zeroCells zv.cells (grownCap w n 0 e - n)) e)) (R:=R) (h:=h.push (.cells (n*z) xs)) (muZ:=bt muZ h.n (some ⟨w.heap.size,0,(vs.toArray++Builtin.zeroCells zv.cells (grownCap w n 0 e - n)).size⟩))
         z h.n 0 n n (n*z) (grownCap w n 0 e) xs ⟨w.heap.size,0,(vs.toArray++Builtin.zeroCells zv.cells (grownCap w n 0 e - n)).size⟩ (by simp[dX]) V (aN _) F (.inr ⟨F,C,by simp only;rw[I];omega⟩)
        simpa using this
       ·rename_i bg;split at g
        ·rename_i aQ;subst aQ;simp only[bc,Prod.mk.injEq] at g;obtain⟨rfl,rfl⟩:=g;have aO:m<n*z:=by
          have:1*1<=n*z:=Nat.mul_le_mul F bn;omega
         have q:=rel.move (w':=w.drew.alloc (.cells (vs.toArray++Builtin.zeroCells zv.cells (grownCap w n 0 e - n)) e)) D K rfl rfl rfl rfl S aO (by rw[I];exact ck _ C) W;refine⟨_,_,_,by simpa using H,by simpa using q.1,by simpa using q.2,?_⟩;have:=aA.Z (w:=w.drew.alloc (.cells (vs.toArray++Builtin.zeroCells zv.cells (grownCap w n 0 e - n)) e)) (R:=R) (h:=h.set b (.cells (n*z) xs)) (muZ:=bt muZ b (some ⟨w.heap.size,0,(vs.toArray++Builtin.zeroCells zv.cells (grownCap w n 0 e - n)).size⟩))
          z b 0 n n (n*z) (grownCap w n 0 e) xs ⟨w.heap.size,0,(vs.toArray++Builtin.zeroCells zv.cells (grownCap w n 0 e - n)).size⟩ (by simp[dn]) V (aN _) F (.inr ⟨F,C,by simp only;rw[I];omega⟩)
         simpa using this
        ·simp only[bc,Prod.mk.injEq] at g;obtain⟨rfl,rfl⟩:=g;have q:=rel.push (w':=w.drew.alloc (.cells (vs.toArray++Builtin.zeroCells zv.cells (grownCap w n 0 e - n)) e)) xs _ e rfl rfl rfl rfl (by rw[I,S];exact ck _ C) W;rw[S] at q;have hk:=q.2.kill (b:=b) (sz:=m) (cs:=cs) (h':=(h.set b .dead).push (.cells (n*z) xs)) (by rw[dX,bS _ _ _ _ F];exact D) (by rw[jl];omega) (by
          rw[dX,dX,dn,hW];funext x;simp only[bt];by_cases h1:x=h.n
          ·rw[ak h1,aj F,ak h1]
          ·rw[aj h1];split<;>rfl) rfl
         refine⟨_,_,_,by simpa using H,by simpa using q.1.trans hk.1,by simpa using hk.2,?_⟩;have:=aA.Z (w:=w.drew.alloc (.cells (vs.toArray++Builtin.zeroCells zv.cells (grownCap w n 0 e - n)) e)) (R:=R) (h:=(h.set b .dead).push (.cells (n*z) xs)) (muZ:=bt muZ h.n (some ⟨w.heap.size,0,(vs.toArray++Builtin.zeroCells zv.cells (grownCap w n 0 e - n)).size⟩))
          z h.n 0 n n (n*z) (grownCap w n 0 e) xs ⟨w.heap.size,0,(vs.toArray++Builtin.zeroCells zv.cells (grownCap w n 0 e - n)).size⟩ (by rw[dX,hW,fJ]) V (aN _) F (.inr ⟨F,C,by simp only;rw[I];omega⟩)
         simpa using this
      | Z _ _ _ _ _ _ cap' aY o ar K az aP J=>
       have aZ:=rel.blk b o K;rw[D] at aZ;obtain⟨bs,bo,_⟩:=aZ;rw[D] at ar;cases ar;have bx:len*z<=cap*z:=ck _ az;have bq:cap<=cap':=by rcases J with J | J<;>omega
       split at g
       ·-- in place,within what the machine knows
        rename_i ad;simp only[bc,Prod.mk.injEq] at g;obtain⟨rfl,rfl⟩:=g;have bz:len*z+n*z<=cap*z:=by rw[<-eP];exact ck _ ad
        have aB:max m (j+len*z+xs.length)=m:=F;obtain⟨w',h1,ah,ai⟩:=sS (P:=P) rel (cvs:=xs) (vs:=vs) (k:=j+len*z) D K F O.1 F O.2;rw[aB] at ah ai;have aG:(storeCells ((⟨o.r,o.s+j,none⟩:Addr).add (len*z)) vs).run P w=.ok () w':=by rw[Addr.jW,i5];exact h1
        refine⟨_,w',muZ,aL (some ⟨o.r,o.s+j,none⟩) _ _ _ F aG,ah,ai,?_⟩;exact .Z z b j (len+n) cap m cap' _ o (by simp[dn];rfl) K ad aP J
       ·rename_i bA;split at g
        ·-- beyond a slice whose end lies within the row: it moves
         rename_i bv;simp only[bc,Prod.mk.injEq] at g;obtain⟨rfl,rfl⟩:=g;have a9:cap'=cap:=by rcases J with J | J<;>omega
         subst a9;have ax:contents h z (.Z z b j len cap' m)=some ((cs.drop j).take (len*z),len):=by simp[contents,D]
         obtain⟨am,_,p,G,aE⟩:=qB (P:=P) rel ax (aA.Z z b j len cap' m cap' cs o D K az aP J);have aC:∀ w2:aT,(∀ a,w2.cell? a=w.cell? a)->(Builtin.firstCells z len (.slice (some ⟨o.r,o.s+j,none⟩) len cap')).run P w2=.ok p.toArray w2:=fun w2 aI=>by
          have:=aE len (aN _) w2 aI
          rwa [aH (by rw[G.1,am];exact aN _)] at this
         have H:=ay i zv ap aK (some ⟨o.r,o.s+j,none⟩) len cap' p (by rw[aV];exact aC w.drew aS) F (by rw[av];exact aq) F;have C:len+n<=grownCap w (len+n) cap' e:=grownCap_ge _ _ _ _;have au:pe w R h muZ ((cs.drop j).take (len*z)++xs) (p++vs):=by
          refine⟨by simp[G.1,O.1],fun ao c Q=>?_⟩;by_cases al:ao<((cs.drop j).take (len*z)).length
          ·rw[aU al] at Q;rw[aU (by rw[G.1];exact al)];exact G.2 ao c Q
          ·rw[eu F] at Q;rw[eu (by rw[G.1];omega),G.1];exact O.2 _ c Q
         have Y:((cs.drop j).take (len*z)++xs).length=(len+n)*z:=by rw[cF,am,S,eP]
         obtain⟨I,W⟩:=v7 (e:=e) (zv:=zv) (need:=len+n) (cap:=grownCap w (len+n) cap' e) aJ Y au C;have q:=rel.push (w':=w.drew.alloc (.cells ((p++vs).toArray++Builtin.zeroCells zv.cells (grownCap w (len+n) cap' e - (len+n))) e)) _ _ e rfl rfl rfl rfl (by rw[I,Y];exact ck _ C) W;rw[Y] at q;refine⟨_,_,_,H,q.1,q.2,?_⟩;have:=aA.Z (w:=w.drew.alloc (.cells ((p++vs).toArray++Builtin.zeroCells zv.cells (grownCap w (len+n) cap' e - (len+n))) e)) (R:=R) (h:=h.push (.cells ((len+n)*z) ((cs.drop j).take (len*z)++xs))) (muZ:=bt muZ h.n (some ⟨w.heap.size,0,((p++vs).toArray++Builtin.zeroCells zv.cells (grownCap w (len+n) cap' e - (len+n))).size⟩))
          z h.n 0 (len+n) (len+n) ((len+n)*z) (grownCap w (len+n) cap' e) _ ⟨w.heap.size,0,((p++vs).toArray++Builtin.zeroCells zv.cells (grownCap w (len+n) cap' e - (len+n))).size⟩ (by simp[dX];rfl) V (aN _) F (.inr ⟨F,C,by simp only;rw[I];omega⟩)
         simpa using this
        ·rename_i bg;split at g
         ·-- beyond the row's end: in place,or it moves
          rename_i aQ;subst aQ;simp only[bc,Prod.mk.injEq] at g;obtain⟨rfl,rfl⟩:=g;obtain⟨bd,bf,a3⟩:0+cap*z=m/\cap<=cap'/\o.s+0+cap'*z<=o.T:=by rcases J with J | J<;>omega
          have aO:m<(len+n)*z:=by
           have:(cap+1)*z<=(len+n)*z:=ck _ F;rw[eP] at this;omega
          have bi:len*z+n*z=(len+n)*z:=by rw[eP]
          by_cases ad:len+n<=cap'
          ·have bh:(len+n)*z<=cap'*z:=ck _ ad;have aB:max m (len*z+xs.length)=(len+n)*z:=F;obtain⟨w',h1,ah,ai⟩:=sS (P:=P) rel (cvs:=xs) (vs:=vs) (k:=len*z) D K F O.1 F O.2;rw[aB] at ah ai;have aW:aw cs (len*z) xs=cs.take (len*z)++xs:=by
            unfold aw;rw[k3 F,eK]
           rw[aW] at ah ai;have aG:(storeCells ((⟨o.r,o.s+0,none⟩:Addr).add (len*z)) vs).run P w=.ok () w':=by rw[Addr.jW,i5];simpa using h1
           refine⟨_,w',muZ,aL (some ⟨o.r,o.s+0,none⟩) _ _ _ ad aG,ah,ai,?_⟩;exact .Z z b 0 (len+n) (len+n) ((len+n)*z) cap' _ o (by simp[dn];rfl) K (aN _) F (.inr ⟨F,ad,a3⟩)
          ·have ax:contents h z (.Z z b 0 len cap m)=some ((cs.drop 0).take (len*z),len):=by simp[contents,D]
           obtain⟨am,_,p,G,aE⟩:=qB (P:=P) rel ax (aA.Z z b 0 len cap m cap' cs o D K az aP J);have aC:∀ w2:aT,(∀ a,w2.cell? a=w.cell? a)->(Builtin.firstCells z len (.slice (some ⟨o.r,o.s+0,none⟩) len cap')).run P w2=.ok p.toArray w2:=fun w2 aI=>by
            have:=aE len (aN _) w2 aI
            rwa [aH (by rw[G.1,am];exact aN _)] at this
           rw[lG] at am G;have H:=ay i zv ap aK (some ⟨o.r,o.s+0,none⟩) len cap' p (by rw[aV];exact aC w.drew aS) F (by rw[av];exact aq) F;have C:len+n<=grownCap w (len+n) cap' e:=grownCap_ge _ _ _ _;have au:pe w R h muZ (cs.take (len*z)++xs) (p++vs):=by
            refine⟨by simp[G.1,O.1],fun ao c Q=>?_⟩;by_cases al:ao<(cs.take (len*z)).length
            ·rw[aU al] at Q;rw[aU (by rw[G.1];exact al)];exact G.2 ao c Q
            ·rw[eu F] at Q;rw[eu (by rw[G.1];omega),G.1];exact O.2 _ c Q
           have Y:(cs.take (len*z)++xs).length=(len+n)*z:=by rw[cF,am,S,eP]
           obtain⟨I,W⟩:=v7 (e:=e) (zv:=zv) (need:=len+n) (cap:=grownCap w (len+n) cap' e) aJ Y au C;have q:=rel.move (w':=w.drew.alloc (.cells ((p++vs).toArray++Builtin.zeroCells zv.cells (grownCap w (len+n) cap' e - (len+n))) e)) D K rfl rfl rfl rfl Y aO (by rw[I];exact ck _ C) W;refine⟨_,_,_,H,q.1,q.2,?_⟩;have:=aA.Z (w:=w.drew.alloc (.cells ((p++vs).toArray++Builtin.zeroCells zv.cells (grownCap w (len+n) cap' e - (len+n))) e)) (R:=R) (h:=h.set b (.cells ((len+n)*z) (cs.take (len*z)++xs))) (muZ:=bt muZ b (some ⟨w.heap.size,0,((p++vs).toArray++Builtin.zeroCells zv.cells (grownCap w (len+n) cap' e - (len+n))).size⟩))
            z b 0 (len+n) (len+n) ((len+n)*z) (grownCap w (len+n) cap' e) _ ⟨w.heap.size,0,((p++vs).toArray++Builtin.zeroCells zv.cells (grownCap w (len+n) cap' e - (len+n))).size⟩ (by simp[dn];rfl) V (aN _) F (.inr ⟨F,C,by simp only;rw[I];omega⟩)
           simpa using this
         ·-- beyond the row's end,from a place within it: a block of its own,in place or moved
          rename_i aQ;simp only[bc,Prod.mk.injEq] at g;obtain⟨rfl,rfl⟩:=g;obtain⟨bd,bf,a3⟩:j+cap*z=m/\cap<=cap'/\o.s+j+cap'*z<=o.T:=by rcases J with J | J<;>omega
          have aO:m<j+(len+n)*z:=by
           have:(cap+1)*z<=(len+n)*z:=ck _ F;rw[eP] at this;omega
          have bi:len*z+n*z=(len+n)*z:=by rw[eP]
          have a7:=rel.ku K;by_cases ad:len+n<=cap'
          ·have bh:(len+n)*z<=cap'*z:=ck _ ad;have aB:max m (j+len*z+xs.length)=j+(len+n)*z:=F;obtain⟨w',h1,ah,ai⟩:=sS (P:=P) rel (cvs:=xs) (vs:=vs) (k:=j+len*z) D K F O.1 F O.2;rw[aB] at ah ai;have aW:(aw cs (j+len*z) xs).drop j=(cs.drop j).take (len*z)++xs:=by
            unfold aw;rw[k3 (as:=cs) F,eK,nY (by simp;omega),p9];congr 2;omega
           have aG:(storeCells ((⟨o.r,o.s+j,none⟩:Addr).add (len*z)) vs).run P w=.ok () w':=by rw[Addr.jW,i5];exact h1
           have a5:=ai.Kw (b:=b) (off:=j) (m:=o) (h':=(h.set b .dead).push (.cells ((len+n)*z) ((cs.drop j).take (len*z)++xs))) (by rw[dn,fJ]) K F (by
            rw[dX,dn,dn,hW,hW,aW];have:j+(len+n)*z - j=(len+n)*z:=F;rw[this];funext x;simp only[bt];split
            ·rfl
            ·split<;>rfl) rfl
           refine⟨_,w',_,aL (some ⟨o.r,o.s+j,none⟩) _ _ _ ad aG,ah.trans a5.1,a5.2,?_⟩;exact .Z z h.n 0 (len+n) (len+n) ((len+n)*z) cap' _ ⟨o.r,o.s+j,o.T⟩ (by rw[dX,hW,fJ]) (by rw[hW];simp) (aN _) F (.inr ⟨F,ad,by simpa using (by omega:o.s+j+cap'*z<=o.T)⟩)
          ·have ax:contents h z (.Z z b j len cap m)=some ((cs.drop j).take (len*z),len):=by simp[contents,D]
           obtain⟨am,_,p,G,aE⟩:=qB (P:=P) rel ax (aA.Z z b j len cap m cap' cs o D K az aP J);have aC:∀ w2:aT,(∀ a,w2.cell? a=w.cell? a)->(Builtin.firstCells z len (.slice (some ⟨o.r,o.s+j,none⟩) len cap')).run P w2=.ok p.toArray w2:=fun w2 aI=>by
            have:=aE len (aN _) w2 aI
            rwa [aH (by rw[G.1,am];exact aN _)] at this
           have H:=ay i zv ap aK (some ⟨o.r,o.s+j,none⟩) len cap' p (by rw[aV];exact aC w.drew aS) F (by rw[av];exact aq) F;have C:len+n<=grownCap w (len+n) cap' e:=grownCap_ge _ _ _ _;have au:pe w R h muZ ((cs.drop j).take (len*z)++xs) (p++vs):=by
            refine⟨by simp[G.1,O.1],fun ao c Q=>?_⟩;by_cases al:ao<((cs.drop j).take (len*z)).length
            ·rw[aU al] at Q;rw[aU (by rw[G.1];exact al)];exact G.2 ao c Q
            ·rw[eu F] at Q;rw[eu (by rw[G.1];omega),G.1];exact O.2 _ c Q
           have Y:((cs.drop j).take (len*z)++xs).length=(len+n)*z:=by rw[cF,am,S,eP]
           obtain⟨I,W⟩:=v7 (e:=e) (zv:=zv) (need:=len+n) (cap:=grownCap w (len+n) cap' e) aJ Y au C;have q:=rel.push (w':=w.drew.alloc (.cells ((p++vs).toArray++Builtin.zeroCells zv.cells (grownCap w (len+n) cap' e - (len+n))) e)) _ _ e rfl rfl rfl rfl (by rw[I,Y];exact ck _ C) W;rw[Y] at q;have hk:=q.2.kill (b:=b) (sz:=m) (cs:=cs) (h':=(h.set b .dead).push (.cells ((len+n)*z) ((cs.drop j).take (len*z)++xs))) (by rw[dX,bS _ _ _ _ F];exact D) (by rw[jl];omega) (by
            rw[dX,dX,dn,hW];funext x;simp only[bt];by_cases h1:x=h.n
            ·rw[ak h1,aj F,ak h1]
            ·rw[aj h1];split<;>rfl) rfl
           refine⟨_,_,_,H,q.1.trans hk.1,hk.2,?_⟩;have:=aA.Z (w:=w.drew.alloc (.cells ((p++vs).toArray++Builtin.zeroCells zv.cells (grownCap w (len+n) cap' e - (len+n))) e)) (R:=R) (h:=(h.set b .dead).push (.cells ((len+n)*z) ((cs.drop j).take (len*z)++xs))) (muZ:=bt muZ h.n (some ⟨w.heap.size,0,((p++vs).toArray++Builtin.zeroCells zv.cells (grownCap w (len+n) cap' e - (len+n))).size⟩))
            z h.n 0 (len+n) (len+n) ((len+n)*z) (grownCap w (len+n) cap' e) _ ⟨w.heap.size,0,((p++vs).toArray++Builtin.zeroCells zv.cells (grownCap w (len+n) cap' e - (len+n))).size⟩ (by rw[dX,hW,fJ]) V (aN _) F (.inr ⟨F,C,by simp only;rw[I];omega⟩)
           simpa using this
     ·cases g
    | _=>rw[D] at g;cases g
   ·cases g
theorem Br (rel:bC R B w h muZ) {t u ty:aF} {s x c:U} {jn q:aD} {h' : aM} (I:uc P u) (g:oh P h t s x=some (c,h')) (W:aA w R h muZ s jn) (ag:aA w R h muZ x q) :
  ∃ v w' muZ',(Builtin.append_ #[t,u] ty #[jn,q]).run P w=.ok v w'/\cY w h muZ w' h' muZ'/\bC R B w' h' muZ'/\aA w' R h' muZ' c v:=by
 unfold oh at g;cases p:gj P t with
 | none=>rw[p] at g;cases g
 | some e=>
 have H:=vU p;rw[p] at g;simp only at g;cases j:b9 P e with
 | none=>rw[j] at g;cases g
 | some z=>
 cases m:gM P e with
 | none=>rw[j,m] at g;cases g
 | some am=>
 rw[j,m] at g;simp only at g;cases o:contents h z x with
 | none=>rw[o] at g;cases g
 | some al=>
 obtain⟨ap,n⟩:=al;rw[o] at g;simp only at g;obtain⟨J,F,ak,G,O⟩:=qB (P:=P) rel o ag;have C:∀ w2:aT,(∀ a,w2.cell? a=w.cell? a)->(Builtin.firstCells z n q).run P w2=.ok ak.toArray w2:=fun w2 ad=>by
  have:=O n (aN _) w2 ad
  rwa [aH (by rw[G.1,J];exact aN _)] at this
 refine FV rel j m g W J G (fun base aj ai w' Q Y=>run_append_fits H j I F (C w (fun _=>rfl)) Q Y) (fun i aq D ah base aj ai ao T S V K=>?_);have X:i.size=z:=by simpa [b9,D] using j
 exact Wr H D ah I F (by rw[X];exact C w.drew (fun _=>rfl)) T S V K
end
end Go.bl

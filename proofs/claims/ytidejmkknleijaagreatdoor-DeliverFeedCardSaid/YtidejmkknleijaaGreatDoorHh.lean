/-
  Contracts for calls that are carried out: bytes, ids, SHA-256.
-/
import Derived.Test.YtidejmkknleijaaGreatDoorHg
import Derived.Shelf.Spec.SlicesInsertGrow
import Derived.Lib.DecodeN
set_option linter.unusedVariables false
set_option linter.unusedSimpArgs false
set_option linter.unnecessarySimpa false
namespace Go.bV
open Go Go.Proofs
set_option maxRecDepth 100000
open hp
def Hh:U->Option B
 | .int .u8 (.ofNat n)=>match Nat.ble n 255 with | true=>some (BitVec.ofNat 8 n) | false=>none
 | _=>none
theorem acA {c:U} {b:B} (h:Hh c=some b) :c=bC b:=by
 unfold Hh at h;split at h
 ·split at h
  ·rename_i n _ aC;have:=axW aC;cases h;simp only[bC,u,axf];congr 1;show (n:Int)=((n % 2 ^ 8:Nat) :Int)
   rw[aw2 (show n<2 ^ 8 by omega)]
  ·cases h
 ·cases h
def RE:List U->Option (List B)
 | []=>some []
 | c::r=>match Hh c with
  | some b=>match RE r with | some l=>some (b::l) | none=>none
  | none=>none
def nC:U->Option (List B)
 | .aH cs=>match RE cs with | some l=>(match Nat.beq l.length 32 with | true=>some l | false=>none) | none=>none
 | _=>none
def Kg:List (List U)->Option (List B)
 | []=>some []
 | [c] ::r=>match Hh c with
  | some b=>match Kg r with | some l=>some (b::l) | none=>none
  | none=>none
 | _=>none
theorem ZP:∀ {es:List (List U)} {l:List B},Kg es=some l->es=l.map cb
 | [],l,h=>by cases h; rfl
 | e::r,l,h=>by
  unfold Kg at h;split at h
  ·rename_i aS; cases aS
  ·rename_i c r' aS;cases aS;split at h
   ·rename_i b af;split at h
    ·rename_i l' al;cases h;rw[acA af,ZP al]; rfl
    ·cases h
   ·cases h
  ·cases h
def Hn:U->Option eS
 | .aG=>some none
 | .a1 1 es=>match Kg es with | some l=>some (some l) | none=>none
 | _=>none
theorem RH {c:U} {s:eS} (h:Hn c=some s) :c=cF s:=by
 unfold Hn at h;split at h
 ·cases h; rfl
 ·split at h
  ·rename_i l al;cases h;rw[ZP al]; rfl
  ·cases h
 ·cases h
def aaz:List U->Option U
 | [c]=>match Hn c with
  | some s=>match Nat.ble s.l.length 10000 with | true=>some (.bq [gP (i2 s.l),.int .i64 0]) | false=>none
  | none=>none
 | _=>none
abbrev jJ:FuncId × Bool × (List U->Option U) :=(85,false,aaz)
theorem An:uG Tryz.prog GS jJ:=by
 intro args r h;refine⟨?_,fun h=>by cases h⟩;simp only[aaz] at h;split at h
 ·split at h
  ·rename_i c s ak;split at h
   ·rename_i aC;cases h;rw[RH ak];exact aaD s (axW aC)
   ·cases h
  ·cases h
 ·cases h
end Go.bV

namespace Go.bV
open Go Go.Proofs Go.Shelf Go.RowKit Go.Lib
set_option maxRecDepth 100000
set_option maxHeartbeats 4000000
theorem ajj (base:Option Addr) (n c eu fp hn:Nat) (r:Value) (w w' : World) (aC:n<=c) (u7:n<=4611686018427387904) (gM:base=none->n=0/\c=0)
  (fV:(Builtin.append_ #[23,23] 23 #[.slice base n c,.slice (some ⟨fp,hn,none⟩) 1 eu]).run Tryz.prog w=.ok r w') :
  Calls Tryz.prog 126 #[.slice base n c,.int .i64 n,.slice (some ⟨fp,hn,none⟩) 1 eu] w fun e w2=>e=.returned r/\w2=w':=by
 have Au:=Tryz.underlying23;have mixed:=Tryz.checked.mixed
 go_enter Tryz.func126,Tryz.ntmps126
 cases base with
 | none=>
  obtain⟨aJ,ad⟩:=gM rfl;subst aJ ad
  go_wp2_with (at_builtin; refine Lib.wpList_append_run _ rfl _ _ _ _ rfl _ _ rfl rfl _ _ fV ?_)
  go_ret
  exact⟨rfl,rfl⟩
 | some a=>
  obtain⟨ab,acn,acv⟩:=a
  go_wp2_with (at_builtin; refine Lib.wpList_append_run _ rfl _ _ _ _ rfl _ _ rfl rfl _ _ fV ?_)
  all_goals (go_ret; exact⟨rfl,rfl⟩)
theorem ajo (b off n c i fp hn eu:Nat) (bZ ce:Value) (w cH dU:World) (Ap fx:TypeId) (rg tX:Nat) (ay:i<n) (dC:n+1<=c) (u7:n<=4611686018427387904) (om:fp≠b)
  (ND:w.shape? fp=some (Ap,rg)) (E8:w.shape? b=some (fx,tX)) (M1:tX≠0) (zg:w.frozen? ⟨fp,hn,none⟩=false) (zh:w.frozen? ⟨fp,rg,none⟩=false)
  (qX:(Builtin.copy_ #[23,23] 3 #[.slice (some ⟨b,off+(i+1)*32,none⟩) (n - i) (c - (i+1)),.slice (some ⟨b,off+i*32,none⟩) (n+1 - i) (c - i)]).run Tryz.prog w.drew=.ok bZ cH)
  (qY:(Builtin.copy_ #[23,23] 3 #[.slice (some ⟨b,off+i*32,none⟩) (n+1 - i) (c - i),.slice (some ⟨fp,hn,none⟩) 1 eu]).run Tryz.prog cH=.ok ce dU) :
  Calls Tryz.prog 126 #[.slice (some ⟨b,off,none⟩) n c,.int .i64 i,.slice (some ⟨fp,hn,none⟩) 1 eu] w fun e w2=>e=.returned (.slice (some ⟨b,off,none⟩) (n+1) c)/\w2=dU:=by
 have Au:=Tryz.underlying23;have mH:∀ w,(Go.sizeOf 61).run Tryz.prog w=.ok 32 w:=fun w=>fQ (by kernel_rfl)
 have mixed:=Tryz.checked.mixed;have vv:∀ lb mb,(callFunc 165 #[.slice (some ⟨fp,hn,none⟩) 1 eu,.slice (some ⟨b,off+(i+1)*32,none⟩) lb mb]).run Tryz.prog w=.ok (.value (.bool false)) w:=fun lb mb=>by
  rw[run_callFunc_extern Tryz.func165 (by kernel_rfl) (by kernel_rfl) (by kernel_rfl) (e:=Extern.SlicesOverlaps.overlaps #[23,23] #[4]) (by kernel_rfl),
   Lib.run_overlaps_apart w 23 4 61 Au 32 mH ⟨fp,hn,none⟩ ⟨b,off+(i+1)*32,none⟩ 1 eu lb mb om Ap fx rg tX ND E8 M1 zg zh]
  rfl
 have rf:¬ ((i:Int)=(n:Int)) :=by omega
 have pf:IntKind.i64.wrap ((i:Int)+1)=(i:Int)+1:=by rw[IntKind.wrap_i64]; omega
 have mT:IntKind.i64.wrap ((n:Int)+1)=(n:Int)+1:=by rw[IntKind.wrap_i64]; omega
 have gB:(0:Int)<=(i:Int)+1:=by omega
 have c7:i<=n:=by omega
 have Jd:((i:Int)+1).toNat=i+1:=by omega
 have ej:¬ (c=i+1) :=by omega
 have vd:(i:Int)<=(n:Int)+1:=by omega
 have Er:¬ (c=i) :=by omega
 have af9:¬ ((c:Int)<(n:Int)+1) :=by omega
 go_enter Tryz.func126,Tryz.ntmps126
 go_wp2_with (simp only[vv])
 go_region_law_o (refine step_copy_runI rfl _ _ 23 23 rfl _ _ (by simp[Act.eval,Act.put]) (by simp[Act.eval,Act.put]) qX ?_)
 go_wp2_with (at_builtin; refine wpList_copy_runI _ rfl _ _ 23 23 rfl _ _ rfl rfl qY ?_)
 go_ret
 exact⟨rfl,rfl⟩
theorem ajl (b off n c i fp hn eu N G:Nat) (bZ ce:Value) (w rT cH dU:World) (ay:i<n) (IW:n<=c) (dC:c<n+1) (ir:n+1<=G) (u7:n<=4611686018427387904)
  (md:(Builtin.append_ #[23,3] 23 #[.slice (some ⟨b,off,none⟩) i c,.int .i64 ((n:Int)+1 - (i:Int))]).run Tryz.prog w=.ok (.slice (some ⟨N,0,none⟩) (n+1) G) rT)
  (qX:(Builtin.copy_ #[23,23] 3 #[.slice (some ⟨N,i*32,none⟩) (n+1 - i) (G - i),.slice (some ⟨fp,hn,none⟩) 1 eu]).run Tryz.prog rT=.ok bZ cH)
  (qY:(Builtin.copy_ #[23,23] 3 #[.slice (some ⟨N,(i+1)*32,none⟩) (n - i) (G - (i+1)),.slice (some ⟨b,off+i*32,none⟩) (n - i) (c - i)]).run Tryz.prog cH.drew=.ok ce dU) :
  Calls Tryz.prog 126 #[.slice (some ⟨b,off,none⟩) n c,.int .i64 i,.slice (some ⟨fp,hn,none⟩) 1 eu] w fun e w2=>e=.returned (.slice (some ⟨N,0,none⟩) (n+1) G)/\w2=dU:=by
 have Au:=Tryz.underlying23;have mH:∀ w,(Go.sizeOf 61).run Tryz.prog w=.ok 32 w:=fun w=>fQ (by kernel_rfl)
 have mixed:=Tryz.checked.mixed;have rf:¬ ((i:Int)=(n:Int)) :=by omega
 have pf:IntKind.i64.wrap ((i:Int)+1)=(i:Int)+1:=by rw[IntKind.wrap_i64]; omega
 have mT:IntKind.i64.wrap ((n:Int)+1)=(n:Int)+1:=by rw[IntKind.wrap_i64]; omega
 have aiI:IntKind.i64.wrap ((n:Int)+1 - (i:Int))=(n:Int)+1 - (i:Int) :=by rw[IntKind.wrap_i64]; omega
 have gB:(0:Int)<=(i:Int)+1:=by omega
 have c7:i<=n:=by omega
 have Jd:((i:Int)+1).toNat=i+1:=by omega
 have afJ:¬ (G=i) :=by omega
 have afK:¬ (G=i+1) :=by omega
 have fF:¬ (c=i) :=by omega
 have NW:(c:Int)<(n:Int)+1:=by omega
 have vd:(i:Int)<=(n:Int) :=by omega
 have aga:(i:Int)<=(c:Int) :=by omega
 go_enter Tryz.func126,Tryz.ntmps126
 go_wp2_with (first
  | (at_builtin; refine Lib.wpList_append_run _ rfl _ _ _ _ rfl _ _ rfl rfl _ _ md ?_)
  | (at_builtin; refine wpList_copy_runI _ rfl _ _ 23 23 rfl _ _ rfl rfl qX ?_))
 go_region_law_o (refine step_copy_runI rfl _ _ 23 23 rfl _ _ (by simp[Act.eval,Act.put]) (by simp[Act.eval,Act.put]) qY ?_)
 go_wp2
 go_ret
 exact⟨rfl,rfl⟩
theorem ajd:C7 Tryz.prog 126 23 3 61 32:=
 ⟨Tryz.underlying23,Tryz.underlying3,ajj,ajo,ajl⟩
theorem aja {G:Nat->U} (args:List U) (h:aO) (r:U) (h' : aO) (ag:tT 32 32 args h=some (r,h')) :rI Tryz.prog G 126 args h r h':=
 Xc ajd (by kernel_rfl) (by kernel_rfl) (by kernel_rfl) (by omega) (by omega) (by kernel_rfl) args h r h' ag
theorem ajk (base:Option Addr) (n c eu fp hn:Nat) (r:Value) (w w' : World) (aC:n<=c) (u7:n<=4611686018427387904) (gM:base=none->n=0/\c=0)
  (fV:(Builtin.append_ #[45,45] 45 #[.slice base n c,.slice (some ⟨fp,hn,none⟩) 1 eu]).run Tryz.prog w=.ok r w') :
  Calls Tryz.prog 127 #[.slice base n c,.int .i64 n,.slice (some ⟨fp,hn,none⟩) 1 eu] w fun e w2=>e=.returned r/\w2=w':=by
 have Au:=Tryz.underlying45;have mixed:=Tryz.checked.mixed
 go_enter Tryz.func127,Tryz.ntmps127
 cases base with
 | none=>
  obtain⟨aJ,ad⟩:=gM rfl;subst aJ ad
  go_wp2_with (at_builtin; refine Lib.wpList_append_run _ rfl _ _ _ _ rfl _ _ rfl rfl _ _ fV ?_)
  go_ret
  exact⟨rfl,rfl⟩
 | some a=>
  obtain⟨ab,acn,acv⟩:=a
  go_wp2_with (at_builtin; refine Lib.wpList_append_run _ rfl _ _ _ _ rfl _ _ rfl rfl _ _ fV ?_)
  all_goals (go_ret; exact⟨rfl,rfl⟩)
theorem ajp (b off n c i fp hn eu:Nat) (bZ ce:Value) (w cH dU:World) (Ap fx:TypeId) (rg tX:Nat) (ay:i<n) (dC:n+1<=c) (u7:n<=4611686018427387904) (om:fp≠b)
  (ND:w.shape? fp=some (Ap,rg)) (E8:w.shape? b=some (fx,tX)) (M1:tX≠0) (zg:w.frozen? ⟨fp,hn,none⟩=false) (zh:w.frozen? ⟨fp,rg,none⟩=false)
  (qX:(Builtin.copy_ #[45,45] 3 #[.slice (some ⟨b,off+(i+1)*11,none⟩) (n - i) (c - (i+1)),.slice (some ⟨b,off+i*11,none⟩) (n+1 - i) (c - i)]).run Tryz.prog w.drew=.ok bZ cH)
  (qY:(Builtin.copy_ #[45,45] 3 #[.slice (some ⟨b,off+i*11,none⟩) (n+1 - i) (c - i),.slice (some ⟨fp,hn,none⟩) 1 eu]).run Tryz.prog cH=.ok ce dU) :
  Calls Tryz.prog 127 #[.slice (some ⟨b,off,none⟩) n c,.int .i64 i,.slice (some ⟨fp,hn,none⟩) 1 eu] w fun e w2=>e=.returned (.slice (some ⟨b,off,none⟩) (n+1) c)/\w2=dU:=by
 have Au:=Tryz.underlying45;have mH:∀ w,(Go.sizeOf 94).run Tryz.prog w=.ok 11 w:=fun w=>fQ (by kernel_rfl)
 have mixed:=Tryz.checked.mixed;have vv:∀ lb mb,(callFunc 167 #[.slice (some ⟨fp,hn,none⟩) 1 eu,.slice (some ⟨b,off+(i+1)*11,none⟩) lb mb]).run Tryz.prog w=.ok (.value (.bool false)) w:=fun lb mb=>by
  rw[run_callFunc_extern Tryz.func167 (by kernel_rfl) (by kernel_rfl) (by kernel_rfl) (e:=Extern.SlicesOverlaps.overlaps #[45,45] #[4]) (by kernel_rfl),
   Lib.run_overlaps_apart w 45 4 94 Au 11 mH ⟨fp,hn,none⟩ ⟨b,off+(i+1)*11,none⟩ 1 eu lb mb om Ap fx rg tX ND E8 M1 zg zh]
  rfl
 have rf:¬ ((i:Int)=(n:Int)) :=by omega
 have pf:IntKind.i64.wrap ((i:Int)+1)=(i:Int)+1:=by rw[IntKind.wrap_i64]; omega
 have mT:IntKind.i64.wrap ((n:Int)+1)=(n:Int)+1:=by rw[IntKind.wrap_i64]; omega
 have gB:(0:Int)<=(i:Int)+1:=by omega
 have c7:i<=n:=by omega
 have Jd:((i:Int)+1).toNat=i+1:=by omega
 have ej:¬ (c=i+1) :=by omega
 have vd:(i:Int)<=(n:Int)+1:=by omega
 have Er:¬ (c=i) :=by omega
 have af9:¬ ((c:Int)<(n:Int)+1) :=by omega
 go_enter Tryz.func127,Tryz.ntmps127
 go_wp2_with (simp only[vv])
 go_region_law_o (refine step_copy_runI rfl _ _ 45 45 rfl _ _ (by simp[Act.eval,Act.put]) (by simp[Act.eval,Act.put]) qX ?_)
 go_wp2_with (at_builtin; refine wpList_copy_runI _ rfl _ _ 45 45 rfl _ _ rfl rfl qY ?_)
 go_ret
 exact⟨rfl,rfl⟩
theorem ajm (b off n c i fp hn eu N G:Nat) (bZ ce:Value) (w rT cH dU:World) (ay:i<n) (IW:n<=c) (dC:c<n+1) (ir:n+1<=G) (u7:n<=4611686018427387904)
  (md:(Builtin.append_ #[45,3] 45 #[.slice (some ⟨b,off,none⟩) i c,.int .i64 ((n:Int)+1 - (i:Int))]).run Tryz.prog w=.ok (.slice (some ⟨N,0,none⟩) (n+1) G) rT)
  (qX:(Builtin.copy_ #[45,45] 3 #[.slice (some ⟨N,i*11,none⟩) (n+1 - i) (G - i),.slice (some ⟨fp,hn,none⟩) 1 eu]).run Tryz.prog rT=.ok bZ cH)
  (qY:(Builtin.copy_ #[45,45] 3 #[.slice (some ⟨N,(i+1)*11,none⟩) (n - i) (G - (i+1)),.slice (some ⟨b,off+i*11,none⟩) (n - i) (c - i)]).run Tryz.prog cH.drew=.ok ce dU) :
  Calls Tryz.prog 127 #[.slice (some ⟨b,off,none⟩) n c,.int .i64 i,.slice (some ⟨fp,hn,none⟩) 1 eu] w fun e w2=>e=.returned (.slice (some ⟨N,0,none⟩) (n+1) G)/\w2=dU:=by
 have Au:=Tryz.underlying45;have mH:∀ w,(Go.sizeOf 94).run Tryz.prog w=.ok 11 w:=fun w=>fQ (by kernel_rfl)
 have mixed:=Tryz.checked.mixed;have rf:¬ ((i:Int)=(n:Int)) :=by omega
 have pf:IntKind.i64.wrap ((i:Int)+1)=(i:Int)+1:=by rw[IntKind.wrap_i64]; omega
 have mT:IntKind.i64.wrap ((n:Int)+1)=(n:Int)+1:=by rw[IntKind.wrap_i64]; omega
 have aiI:IntKind.i64.wrap ((n:Int)+1 - (i:Int))=(n:Int)+1 - (i:Int) :=by rw[IntKind.wrap_i64]; omega
 have gB:(0:Int)<=(i:Int)+1:=by omega
 have c7:i<=n:=by omega
 have Jd:((i:Int)+1).toNat=i+1:=by omega
 have afJ:¬ (G=i) :=by omega
 have afK:¬ (G=i+1) :=by omega
 have fF:¬ (c=i) :=by omega
 have NW:(c:Int)<(n:Int)+1:=by omega
 have vd:(i:Int)<=(n:Int) :=by omega
 have aga:(i:Int)<=(c:Int) :=by omega
 go_enter Tryz.func127,Tryz.ntmps127
 go_wp2_with (first
  | (at_builtin; refine Lib.wpList_append_run _ rfl _ _ _ _ rfl _ _ rfl rfl _ _ md ?_)
  | (at_builtin; refine wpList_copy_runI _ rfl _ _ 45 45 rfl _ _ rfl rfl qX ?_))
 go_region_law_o (refine step_copy_runI rfl _ _ 45 45 rfl _ _ (by simp[Act.eval,Act.put]) (by simp[Act.eval,Act.put]) qY ?_)
 go_wp2
 go_ret
 exact⟨rfl,rfl⟩
theorem aje:C7 Tryz.prog 127 45 3 94 11:=
 ⟨Tryz.underlying45,Tryz.underlying3,ajk,ajp,ajm⟩
theorem ajb {G:Nat->U} (args:List U) (h:aO) (r:U) (h' : aO) (ag:tT 11 112 args h=some (r,h')) :rI Tryz.prog G 127 args h r h':=
 Xc aje (by kernel_rfl) (by kernel_rfl) (by kernel_rfl) (by omega) (by omega) (by kernel_rfl) args h r h' ag
def Oc (f:FuncId) :Option (Nat × Nat) :=match Nat.beq f 126 with | true=>some (32,32) | false=>match Nat.beq f 127 with | true=>some (11,112) | false=>none
theorem ai9 (f:FuncId) (z by_:Nat) (h:Oc f=some (z,by_)) (args:List U) (au:aO) (r:U) (iL:aO) (ag:tT z by_ args au=some (r,iL)) :rI Tryz.prog GS f args au r iL:=by
 unfold Oc at h;split at h
 ·rename_i af;have aF:=axt af;subst aF;cases h;exact aja args au r iL ag
 split at h
 ·rename_i af;have aF:=axt af;subst aF;cases h;exact ajb args au r iL ag
 cases h
instance ats:rK Tryz.prog GS:=⟨Oc,ai9⟩
end Go.bV

namespace Go.bV
open Go Go.Proofs Go.Sort Go.Shelf
set_option maxRecDepth 100000
open hp
def cj:List B->List B->Int
 | [],[]=>0
 | [],_::_=>-1
 | _::_,[]=>1
 | a::m0,b::oy=>if a.toNat<b.toNat then -1 else if b.toNat<a.toNat then 1 else cj m0 oy
theorem TD (a b:B) (m0 oy:List B) :cj (a::m0) (b::oy)=if a.toNat<b.toNat then -1 else if b.toNat<a.toNat then 1 else cj m0 oy:=rfl
theorem rZ:∀ a:List B,cj a a=0
 | []=>rfl
 | a::m0=>by unfold cj; simp; exact rZ m0
theorem A2:∀ {a b:List B},cj a b=0->a=b
 | [],[],_=>rfl
 | [],_::_,h=>by simp[cj] at h
 | _::_,[],h=>by simp[cj] at h
 | a::m0,b::oy,h=>by
  unfold cj at h;split at h
  ·cases h
  ·split at h
   ·cases h
   ·have ad:a=b:=aw8 (by omega);rw[ad,A2 h]
theorem DC:∀ a b:List B,cj b a=- cj a b
 | [],[]=>rfl
 | [],_::_=>rfl
 | _::_,[]=>rfl
 | a::m0,b::oy=>by
  unfold cj;by_cases ad:a.toNat<b.toNat
  ·simp[ad,show ¬ b.toNat<a.toNat by omega]
  ·by_cases ae:b.toNat<a.toNat
   ·simp[ad,ae]
   ·simp[ad,ae]; exact DC m0 oy
theorem TC:∀ a b:List B,cj a b=-1\/cj a b=0\/cj a b=1
 | [],[]=>by simp[cj]
 | [],_::_=>by simp[cj]
 | _::_,[]=>by simp[cj]
 | a::m0,b::oy=>by
  unfold cj;split
  ·simp
  ·split
   ·simp
   ·exact TC m0 oy
theorem A3:∀ a b c:List B,cj a b<0->cj b c<0->cj a c<0
 | [],[],_,h,_=>by simp[cj] at h
 | [],_::_,[],_,h=>by simp[cj] at h
 | [],_::_,_::_,_,_=>by simp[cj]
 | _::_,[],_,h,_=>by simp[cj] at h
 | _::_,_::_,[],_,h=>by simp[cj] at h
 | a::m0,b::oy,c::ano,ad,ae=>by
  unfold cj at ad ae ⊢;have aR:=A3 m0 oy ano
  repeat' split at ad
  all_goals repeat' split at ae
  all_goals repeat' split
  all_goals first | omega | (exact aR ad ae) | (exfalso; omega) | skip
def iz (a b:List B) :Bool:=ltOf cj a b
theorem ov (a b:List B) :iz a b=true<->cj a b<0:=by unfold iz ltOf; simp
theorem adH {a b:List B} (k:Nat) (h:∀ j,j<k->a[j]? = b[j]?) (aE:k<=a.length) (af:k<=b.length) :cj (a.drop k) (b.drop k)=cj a b:=by
 induction k with
 | zero=>simp
 | succ k aR=>
  rw[<-aR (fun j ai=>h j (by omega)) (by omega) (by omega)];have ad:=h k (by omega);rw[axC (l:=a) (i:=k) (by omega),axC (l:=b) (i:=k) (by omega)];rw[awT (by omega),awT (by omega)] at ad;have ae:=Option.some.inj ad
  conv=>rhs; unfold cj
  rw[ae];simp
end Go.bV

namespace Go.bV
open Go Go.Proofs
set_option maxRecDepth 100000
namespace Op
open hp
abbrev Q:=BitVec 64
abbrev D:=BitVec 32
theorem Qp:(u (1#64) :Int)=1:=rfl
def eM (x:D) :List U:=[bx x]
def sE (l:List D) :Q:=l.foldl (fun o x=>o*x.setWidth 64 % 1000000007#64) 1#64
theorem ak8 (l:List D) (k:Nat) (x:D) (h:l[k]? = some x) :sE (l.take (k+1))=sE (l.take k)*x.setWidth 64 % 1000000007#64:=by
 rw[axe,h]; simp[sE,ayE]
theorem Kb (x:Q) :cy .rem .u64 (u x) .u64 1000000007=some (.int .u64 (u (x % 1000000007#64))) :=AQ x 1000000007#64 (by decide)
theorem OP (l:List D) (al:l.length<=1000) :bw Tryz.prog GS 157 [.int .u64 1000000007,cc 1 eM (some l)] (bx ((sE l).setWidth 32)) :=by
 refine bQ Tryz.checked.mixed bj ?_;apply bn Tryz.func157 [];have bA:cp (.aq 1) (cc 1 eM (some l))=some (.int .i64 l.length) :=lV _;simp[bA];refine cl l.length (fun k σ _=>σ 0=.int .u64 1000000007/\σ 5=ea (sE (l.take k))/\σ 8=cc 1 eM (some l)/\σ 9=.int .i64 l.length/\σ 10=.int .i64 k) ?_ (by simp[sE]; rfl);rintro k σ h ar ⟨ck,bm,fT,g4,gg⟩;obtain⟨σ,rfl⟩:=k1 ck bm fT g4 gg;clear ck bm fT g4 gg;by_cases h:k<l.length
 ·obtain⟨x,ag,_⟩:=bJ h;have bT:cN (.aq 1) (cc 1 eM (some l)) (.int .i64 k)=some (.bM (eM x) 0) :=by rw[p2]; simp[ag]
  have dD:IntKind.i64.wrap ((k:Int)+1)=(k+1:Nat) :=wrap_i64 (by omega) (by omega);have ak:=ak8 l k x ag;simp[h,bT,eM,dD,Kb];rw[<-ak]
 ·have fe:k=l.length:=by omega
  subst fe;simp;exact aU rfl rfl
def ga (a n:Nat) :Nat:=a ^ n % 1000000007
theorem Aa (a n:Nat) :ga a n<1000000007:=ayO _ (by decide)
theorem YX (a n:Nat) :ga a n*ga a n % 1000000007=ga a (2*n) :=by
 unfold ga; rw[<-azh,<-azu]; congr 2; omega
theorem YV (a n:Nat) :ga a n*a % 1000000007=ga a (n+1) :=by
 unfold ga; rw[Nat.mod_mul_mod,Nat.pow_succ]
def hi (a:D) (n:Nat) :D:=BitVec.ofNat 32 (ga a.toNat n)
theorem sN (a:D) (n:Nat) :(hi a n).toNat=ga a.toNat n:=by
 have:=Aa a.toNat n;unfold hi; rw[axf]; exact aw2 (by omega)
theorem OO (x y:D) (ag:x.toNat<1000000007) :(sE [x,y]).setWidth 32=BitVec.ofNat 32 (x.toNat*y.toNat % 1000000007) :=by
 apply aw8;have aI:=y.isLt;have ad:x.toNat*y.toNat<1000000007*4294967296:=by
  calc x.toNat*y.toNat<=1000000007*y.toNat:=awX _ (by omega)
   _<1000000007*4294967296:=Nat.mul_lt_mul_of_pos_left (by simpa using aI) (by decide)
 have ae:(1#64*x.setWidth 64 % 1000000007#64).toNat=x.toNat:=by
  rw[BitVec.one_mul,ax4,aw9];rw[aw2 (show x.toNat<2 ^ 64 by omega),show (1000000007#64).toNat=1000000007 from rfl,aw2 ag]
 simp only[sE,azQ,List.foldl_nil,aw9,ax4,ayI,ae,axf];rw[aw2 (show y.toNat<2 ^ 64 by omega),aw2 (show x.toNat*y.toNat<2 ^ 64 by omega),aw2 (show 1000000007<2 ^ 64 by decide)]
theorem ak9 (a:D) (n:Nat) :(sE [hi a n,hi a n]).setWidth 32=hi a (2*n) :=by
 rw[OO _ _ (by rw[sN]; exact Aa _ _),sN,YX]; rfl
theorem mul_one (a:D) (n:Nat) :(sE [hi a n,a]).setWidth 32=hi a (n+1) :=by
 rw[OO _ _ (by rw[sN]; exact Aa _ _),sN,YV]; rfl
theorem Ga {l:ap} {b:Nat} {x y:D} (h:l[b]? = some (.cells 2 [bx x,bx y])) :gJ (bb l) (.aq 1 b 0 2 2 2) (cc 1 eM (some [x,y])) :=by
 refine J5 (rest:=[]) (es:=[[bx x],[bx y]]) (by simpa using h) rfl (by simp) (by simp[a4,U.closed])
theorem ae1:kK Tryz.prog 186=true:=by kernel_rfl
theorem aoK {x:D} {l:ap} {K:U->ap->Prop} (aY:∀ v rest,K v (.cells 1 [bx ((sE [x,x]).setWidth 32)] ::rest)) :c5 Tryz.prog GS 186 [.ptr 0 0 1] (.cells 1 [bx x] ::l) (c:=⟨K⟩) :=by
 apply bn Tryz.func186 [];simp;refine mA (OP [x,x] (by simp)) (.cons (.same _ rfl) (.cons (Ga (by simp)) .nil)) rfl ?_;simp;exact aY _ _
theorem Vi (n k:Nat) (ar:k<64) :n / 2 ^ (63 - k)=2*(n / 2 ^ (64 - k))+n / 2 ^ (63 - k) % 2:=by
 have:2 ^ (64 - k)=2 ^ (63 - k)*2:=by rw[<-Nat.pow_succ]; congr 1; omega
 rw[this,<-Nat.div_div_eq_div_mul]; omega
theorem JX (a:D) (n:Q) :bw Tryz.prog GS 151 [bx a,ea n] (bx (hi a n.toNat)) :=by
 refine bQ Tryz.checked.mixed bj ?_;apply bn Tryz.func151 [];simp;refine cl 64 (fun k σ l=>σ 0=bx a/\σ 1=ea n/\σ 5=.ptr 0 0 1/\σ 6=.fn 186 [] [.ptr 0 0 1]/\σ 9=.int .i64 k/\∃ r,l=.cells 1 [bx (hi a (n.toNat / 2 ^ (64 - k)))] ::r) ?_ (by
  have:n.toNat / 2 ^ 64=0:=azJ n.isLt;simp[this,hi,ga]; rfl)
 rintro k σ l ar ⟨ck,aK,bm,cD,g4,r,rfl⟩;obtain⟨σ,rfl⟩:=k1 ck aK bm cD g4;clear ck aK bm cD g4;by_cases h:(k:Int)<64
 ·have dD:IntKind.i64.wrap ((k:Int)+1)=(k+1:Nat) :=wrap_i64 (by omega) (by omega);have zH:IntKind.i64.wrap (63 - (k:Int))=((63 - k:Nat) :Int) :=by rw[wrap_i64 (by omega) (by omega)]; omega
  have af:=Vi n.toNat k (by omega);have pY:cy .shr .u64 (u n) .i64 ((63 - k:Nat) :Int)=some (.int .u64 (u (n >>> (63 - k)))) :=wF n .i64 (63 - k);have aft:64 - (k+1)=63 - k:=by omega
  simp[h,dD];refine⟨ae1,?_⟩;simp;refine aoK fun v rest=>?_
  simp[zH,pY,ak9];rw[aft];by_cases av:n.toNat / 2 ^ (63 - k) % 2=1
  ·have MC:n >>> (63 - k) &&& 1#64=1#64:=by
    apply aw8;rw[azi,axM,axn];show _ &&& 1=1;rw[Nat.and_one_is_mod,av]
   rw[av] at af;have aN:hi a (2*(n.toNat / 2 ^ (64 - k))+1)=hi a (n.toNat / 2 ^ (63 - k)) :=by rw[<-af]
   simp[MC,Qp];refine mA (OP [hi a (2*(n.toNat / 2 ^ (64 - k))),a] (by simp)) (.cons (.same _ rfl) (.cons (Ga (by simp)) .nil)) rfl ?_;rw[mul_one,aN];simp[dD];omega
  ·have av:n.toNat / 2 ^ (63 - k) % 2=0:=by omega
   have MC:n >>> (63 - k) &&& 1#64=0#64:=by
    apply aw8;rw[azi,axM,axn];show _ &&& 1=0;rw[Nat.and_one_is_mod,av]
   rw[av,ayW] at af;simp[MC,dD];rw[<-af];exact⟨by omega,rfl⟩
 ·have fe:k=64:=by omega
  subst fe;simp;exact aU rfl rfl
theorem Pq (a b:Q) (af:b≠0#64) :cy .quo .u64 (u a) .u64 (u b)=some (.int .u64 (u (a / b))) :=by
 have bN:(b.toNat:Int)≠0:=fun e=>af (aw8 (by simpa using e))
 show (if IntKind.u64=IntKind.u64/\(b.toNat:Int)≠0 then some (U.int .u64 (IntKind.u64.wrap ((a.toNat:Int).tdiv b.toNat))) else none)=_;rw[if_pos ⟨rfl,bN⟩,Ay];congr 2;have:((a.toNat:Int).tdiv b.toNat)=((a.toNat / b.toNat:Nat) :Int) :=rfl;rw[this,ayw];congr 1;apply aw8;rw[axf,ayf];exact aw2 (Nat.lt_of_le_of_lt (Nat.div_le_self _ _) a.isLt)
theorem Zf (x:Q) :cy .quo .u64 (u x) .u64 2=some (.int .u64 (u (x / 2#64))) :=Pq x 2#64 (by decide)
theorem ZD (x:Q) :cy .rem .u64 (u x) .u64 2=some (.int .u64 (u (x % 2#64))) :=AQ x 2#64 (by decide)
theorem Cn (x y:Q) (ag:x.toNat<4294967296) (aI:y.toNat<4294967296) :(x*y % 1000000007#64).toNat=x.toNat*y.toNat % 1000000007:=by
 have ad:x.toNat*y.toNat<18446744073709551616:=by
  calc x.toNat*y.toNat<=4294967295*y.toNat:=awX _ (by omega)
   _<=4294967295*4294967295:=Nat.mul_le_mul_left _ (by omega)
   _<18446744073709551616:=by decide
 rw[ax4,ayI,aw2 (show x.toNat*y.toNat<2 ^ 64 by omega)]; rfl
theorem amK (o b m:Nat) (h:m % 2=1) :o*b % 1000000007*(b*b % 1000000007) ^ (m / 2) % 1000000007=o*b ^ m % 1000000007:=by
 have hm:m=2*(m / 2)+1:=by omega
 rw[azh,Nat.mod_mod,azv (b*b % 1000000007),Nat.mod_mod,<-azv,<-azh];congr 1;rw[Nat.mul_pow,Nat.mul_assoc,<-azu]
 conv=>rhs; rw[hm,Nat.pow_succ]
 rw[azG b,show 2*(m / 2)=m / 2+m / 2 by omega]
theorem amJ (o b m:Nat) (h:m % 2=0) :o*(b*b % 1000000007) ^ (m / 2) % 1000000007=o*b ^ m % 1000000007:=by
 have hm:m=2*(m / 2) :=by omega
 rw[azh,azv (b*b % 1000000007),Nat.mod_mod,<-azv,<-azh];congr 1;rw[Nat.mul_pow,<-azu]
 conv=>rhs; rw[hm]
 rw[show 2*(m / 2)=m / 2+m / 2 by omega]
theorem YY (a n:Q) (aE:a.toNat<4294967296) :bw Tryz.prog GS 216 [ea a,ea n,.int .u64 1000000007] (ea (BitVec.ofNat 64 (ga a.toNat n.toNat))) :=by
 refine bQ Tryz.checked.mixed bj ?_;apply bn Tryz.func216 [];simp;refine FJ (fun m σ _=>∃ o b c:Q,c.toNat=m/\o.toNat<1000000007/\b.toNat<4294967296/\o.toNat*b.toNat ^ m % 1000000007=ga a.toNat n.toNat/\σ 0=ea b/\σ 1=ea c/\σ 2=.int .u64 1000000007/\σ 7=ea o) ?_ n.toNat _ _ ⟨1#64,a,n,rfl,by decide,aE,by simp[ga],by simp; rfl⟩;rintro m σ l ⟨o,b,c,ah,av,af,au,ck,aK,aW,ei⟩;obtain⟨σ,rfl⟩:=ij ck aK aW ei;clear ck aK aW ei;have ny:(u c:Int)=(m:Int) :=by unfold u; rw[ah]
 by_cases hm:m=0
 ·subst hm;have aJ:c=0#64:=aw8 (by simpa using ah);simp[aJ];refine aU ?_ rfl;rw[Nat.pow_zero,ayt,aw2 av] at au;rw[<-au,BitVec.ofNat_toNat,BitVec.setWidth_eq]
 ·have Il:c≠0#64:=fun e=>hm (by rw[<-ah,e]; rfl)
  have aL:(0:Int)<u c:=by rw[ny]; omega
  have VR:(c / 2#64).toNat=m / 2:=by rw[ayf,ah]; rfl
  have We:(c % 2#64).toNat=m % 2:=by rw[ax4,ah]; rfl
  have ca:(b*b % 1000000007#64).toNat<4294967296:=by
   rw[Cn b b af af]; have:=ayO (b.toNat*b.toNat) (show 1000000007 > 0 by decide); omega
  by_cases Wo:m % 2=1
  ·have ad:c % 2#64=1#64:=aw8 (by rw[We,Wo]; rfl);simp[aL,Kb,Zf,ZD,ad,Qp];have fC:o.toNat<4294967296:=by omega
   refine⟨m / 2,by omega,_,_,_,VR,?_,ca,?_,rfl,rfl,rfl⟩
   ·rw[Cn o b fC af]; exact ayO _ (by decide)
   ·rw[Cn o b fC af,Cn b b af af,amK _ _ _ Wo,au]
  ·have ad:c % 2#64=0#64:=aw8 (by rw[We]; simp; omega);simp[aL,Kb,Zf,ZD,ad,Qp];refine⟨m / 2,by omega,_,_,_,VR,av,ca,?_,rfl,rfl,rfl⟩;rw[Cn b b af af,amJ _ _ _ (by omega),au]
def gQ (a:D) :Bool:=decide (0<a.toNat)&&decide (a.toNat<1000000007)&&decide (ga a.toNat 500000003=1)
theorem Od (a:D) :bw Tryz.prog GS 136 [bx a] (.bool (gQ a)) :=by
 refine bQ Tryz.checked.mixed bj ?_;apply bn Tryz.func136 [];unfold gQ;have ad:((0:Int)<u a)<->0<a.toNat:=by unfold u; omega
 have ae:(u a<(1000000007:Int))<->a.toNat<1000000007:=by unfold u; omega
 by_cases aK:0<a.toNat
 ·by_cases aW:a.toNat<1000000007
  ·simp[ad,ae,aK,aW];refine a7 (JX a 500000003#64) rfl ?_;have aj:(u (hi a 500000003)=(1:Int))<->ga a.toNat 500000003=1:=by unfold u; rw[sN]; omega
   have aD:(500000003#64:Q).toNat=500000003:=rfl;rw[aD];simp[aj];exact aU (by simp[aK,aW]) rfl
  ·simp[ad,ae,aK,aW];exact aU rfl rfl
 ·simp[ad,aK];exact aU rfl rfl
theorem Zz (a:D) :bw Tryz.prog GS 196 [bx a] (.bool (gQ a)) :=by
 refine bQ Tryz.checked.mixed bj ?_;apply bn Tryz.func196 [];unfold gQ;have ad:((1:Int)<=u a)<->0<a.toNat:=by unfold u; omega
 have ae:(u a<(1000000007:Int))<->a.toNat<1000000007:=by unfold u; omega
 by_cases aK:0<a.toNat
 ·by_cases aW:a.toNat<1000000007
  ·simp[ad,ae,aK,aW];refine a7 (YY (a.setWidth 64) 500000003#64 (by rw[aw9]; omega)) rfl ?_;have a2:(a.setWidth 64:Q).toNat=a.toNat:=by rw[aw9]; omega
   have aD:(500000003#64:Q).toNat=500000003:=rfl;have bv:=Aa a.toNat 500000003;have aj:(u (BitVec.ofNat 64 (ga a.toNat 500000003))=(1:Int))<->ga a.toNat 500000003=1:=by unfold u; rw[axf,aw2 (by omega)]; omega
   rw[aD,a2];simp[aj];exact aU (by simp[aK,aW]) rfl
  ·simp[ad,ae,aK,aW];exact aU rfl rfl
 ·simp[ad,aK];exact aU rfl rfl
def jQ (a:D) :Bool:=decide (a.toNat<500000003)
theorem HJ (a:D) :bw Tryz.prog GS 198 [bx a] (.bool (jQ a)) :=by
 refine bQ Tryz.checked.mixed bj ?_;apply bn Tryz.func198 [];unfold jQ;have ae:(u (a.setWidth 64)<(500000003:Int))<->a.toNat<500000003:=by unfold u; rw[aw9]; omega
 simp[ae];exact aU rfl rfl
@[simp] theorem arn (a b:List UInt8) :wD .eql a b=some (.bool (decide (a=b))) :=by
 by_cases h:a=b<;>simp[wD,h]
@[simp] theorem aro (a b:List UInt8) :wD .neq a b=some (.bool (!decide (a=b))) :=by
 by_cases h:a=b<;>simp[wD,h]
abbrev oX (s:List UInt8) (pos:Nat) :Nat × Nat:=Utf8.decode ⟨s.toArray⟩ pos
theorem UM (s:List UInt8) (pos:Nat) (b:UInt8) (h:s[pos]? = some b) :(ByteArray.get! ⟨s.toArray⟩ pos)=b:=by
 show (s.toArray)[pos]! = b;obtain⟨ad,ae⟩:=awQ.1 h;simp[ad,ae]
theorem adY {s:List UInt8} {pos:Nat} {b:UInt8} (h:s[pos]? = some b) (af:b.toNat<128) :oX s pos=(b.toNat,1) :=by
 unfold oX;rw[Lib.decode_at,UM s pos b h];unfold Lib.decodeN;rw[if_pos af]
theorem adX {s:List UInt8} {pos:Nat} {b:UInt8} (h:s[pos]? = some b) (af:128<=b.toNat) :128<=(oX s pos).1:=by
 unfold oX;rw[Lib.decode_at,UM s pos b h];unfold Lib.decodeN;rw[if_neg (by omega)]
 repeat' split
 all_goals (simp only; omega)
theorem TS (s:List UInt8) (pos:Nat) :1<=(oX s pos).2:=by
 unfold oX;rw[Lib.decode_at];unfold Lib.decodeN
 repeat' split
 all_goals simp only<;>omega
def lU (p:Nat->Bool) (s:List UInt8) :Nat->Nat->Int
 | 0,_=>-1
 | n+1,pos=>if pos<s.length then (if p (oX s pos).1 then (pos:Int) else lU p s n (pos+(oX s pos).2)) else -1
theorem Oi (p:Nat->Bool) (s:List UInt8) :∀ (n pos:Nat),s.length - pos<=n->lU p s n pos=lU p s (s.length - pos) pos
 | 0,pos,h=>by rw[show s.length - pos=0 by omega]
 | n+1,pos,h=>by
  by_cases au:pos<s.length
  ·have aP:=TS s pos;rw[show s.length - pos=(s.length - pos - 1)+1 by omega];unfold lU;rw[if_pos au,if_pos au,Oi p s n _ (by omega),Oi p s (s.length - pos - 1) _ (by omega)]
  ·rw[show s.length - pos=0 by omega];unfold lU;rw[if_neg au]
def nT (cK r:Nat) :Bool:=decide (r<cK)||decide (126<r)
def hZ (cK:Nat) (b:UInt8) :Bool:=decide (cK<=b.toNat)&&decide (b.toNat<=126)
theorem Oh (cK:Nat) (cG:cK<=128) (s:List UInt8) :∀ (n pos:Nat),s.length - pos<=n->(lU (nT cK) s n pos<0<->(s.drop pos).all (hZ cK)=true)
 | 0,pos,h=>by
  rw[axA (by omega)];simp[lU]
 | n+1,pos,h=>by
  unfold lU;by_cases au:pos<s.length
  ·rw[if_pos au,axC au,azX];have fG:s[pos]? = some s[pos] :=awT au;obtain⟨b,af⟩:∃ b,b=s[pos] :=⟨_,rfl⟩
   rw[<-af] at fG ⊢;by_cases ak:b.toNat<128
   ·rw[adY fG ak];simp only;have cM:hZ cK b=!nT cK b.toNat:=by
     unfold hZ nT;by_cases ad:b.toNat<cK<;>by_cases ae:126<b.toNat<;>simp[ad,ae]<;>omega
    cases hK:nT cK b.toNat with
    | true=>rw[cM,hK]; simp
    | false=>
     rw[cM,hK];simp only[ax8,if_false,azV,ayn];exact Oh cK cG s n (pos+1) (by omega)
   ·have ax:=adX fG (by omega);have hK:nT cK (oX s pos).1=true:=by unfold nT; simp; omega
    have cM:hZ cK b=false:=by unfold hZ; simp; omega
    rw[hK,cM]; simp
  ·rw[if_neg au,axA (by omega)];simp
theorem alg {s:List UInt8} {pos:Nat} {r:ap} (h:pos<s.length) :vV (.iter s pos::r) (.it 0)=some (.bq [.bool true,.int .i64 pos,.int .i32 (oX s pos).1],.iter s (pos+(oX s pos).2) ::r) :=by
 unfold vV;simp only[axh];rw[show Nat.blt pos s.length=true from Nat.ble_eq_true_of_le h];rfl
theorem alf {s:List UInt8} {pos:Nat} {r:ap} (h:¬ pos<s.length) :vV (.iter s pos::r) (.it 0)=some (.bq [.bool false],.iter s pos::r) :=by
 unfold vV;simp only[axh];rw[show Nat.blt pos s.length=false by cases af:Nat.blt pos s.length with | false=>rfl | true=>exact absurd (axW af) h]
theorem ai3 {g:FuncId} {p:Nat->Bool} (ax:kK Tryz.prog g=true) (au:∀ r:Nat,bw Tryz.prog GS g [.int .i32 r] (.bool (p r))) (s:List UInt8) :
  bw Tryz.prog GS 228 [.str s,.fn g [] [],.bool true] (.int .i64 (lU p s s.length 0)) :=by
 refine bQ Tryz.checked.mixed bj ?_;apply bn Tryz.func228 [];simp[CC];refine FJ (fun m σ l=>∃ pos,s.length - pos=m/\lU p s m pos=lU p s s.length 0/\σ 1=.fn g [] []/\σ 2=.bool true/\σ 10=.it 0/\l=[.iter s pos]) ?_ s.length _ _ ⟨0,by simp⟩;rintro m σ l ⟨pos,hm,ay,aK,aW,gg,rfl⟩;obtain⟨σ,rfl⟩:=lC aK aW gg;clear aK aW gg;by_cases h:pos<s.length
 ·have ih:m=(m - 1)+1:=by omega
  have aP:=TS s pos;obtain⟨R,jg⟩:∃ R,R=lU p s s.length 0:=⟨_,rfl⟩
  rw[<-jg] at ay ⊢;rw[ih] at ay;unfold lU at ay;rw[if_pos h] at ay;simp[alg h];refine⟨ax,a7 (au _) rfl ?_⟩;cases af:p (oX s pos).1 with
  | true=>
   rw[af] at ay;simp;exact aU (by rw[<-ay]; simp) rfl
  | false=>
   rw[af] at ay;simp;refine⟨s.length - (pos+(oX s pos).2),by omega,pos+(oX s pos).2,rfl,?_,by simp,by simp,by simp,by simp⟩;rw[<-ay];simp only[ax8,if_false];rw[Oi p s (m - 1) _ (by omega)]
 ·have mR:m=0:=by omega
  subst mR;simp[alf h];exact aU (by rw[<-ay]; rfl) rfl
theorem aax {g:FuncId} {p:Nat->Bool} (ax:kK Tryz.prog g=true) (au:∀ r:Nat,bw Tryz.prog GS g [.int .i32 r] (.bool (p r))) (s:List UInt8) :
  bw Tryz.prog GS 207 [.str s,.fn g [] []] (.int .i64 (lU p s s.length 0)) :=by
 refine bQ Tryz.checked.mixed bj ?_;apply bn Tryz.func207 [];simp;refine a7 (ai3 ax au s) rfl ?_;simp;exact aU rfl rfl
theorem ajX (r:Nat) :bw Tryz.prog GS 208 [.int .i32 r] (.bool (nT 33 r)) :=by
 refine bQ Tryz.checked.mixed bj ?_;apply bn Tryz.func208 [];unfold nT;have ad:((r:Int)<33)<->r<33:=by omega
 have ae:((126:Int)<r)<->126<r:=by omega
 by_cases h:r<33
 ·simp[ad,h];exact aU rfl rfl
 ·simp[ad,h,ae];exact aU rfl rfl
theorem ao8 (r:Nat) :bw Tryz.prog GS 211 [.int .i32 r] (.bool (nT 32 r)) :=by
 refine bQ Tryz.checked.mixed bj ?_;apply bn Tryz.func211 [];unfold nT;have ad:((r:Int)<32)<->r<32:=by omega
 have ae:((126:Int)<r)<->126<r:=by omega
 by_cases h:r<32
 ·simp[ad,h];exact aU rfl rfl
 ·simp[ad,h,ae];exact aU rfl rfl
theorem aeY:kK Tryz.prog 208=true:=by kernel_rfl
theorem ae2:kK Tryz.prog 211=true:=by kernel_rfl
def j5 (s:List UInt8) :Bool:=decide (1<=s.length)&&decide (s.length<=20)&&s.all (hZ 33)
theorem Ou (s:List UInt8) :bw Tryz.prog GS 179 [.str s] (.bool (j5 s)) :=by
 refine bQ Tryz.checked.mixed bj ?_;apply bn Tryz.func179 [];unfold j5;have ad:((1:Int)<=s.length)<->1<=s.length:=by omega
 have ae:((s.length:Int)<=20)<->s.length<=20:=by omega
 by_cases aK:1<=s.length
 ·by_cases aW:s.length<=20
  ·simp[ad,ae,aK,aW];refine a7 (aax aeY ajX s) rfl ?_;have:=Oh 33 (by omega) s s.length 0 (by omega);rw[ax5] at this;have aj:decide (lU (nT 33) s s.length 0<0)=s.all (hZ 33) :=by
    cases af:s.all (hZ 33) with
    | true=>simpa using this.2 af
    | false=>
     have:¬ lU (nT 33) s s.length 0<0:=fun h=>by rw[this.1 h] at af; cases af
     simpa using this
   simp;rw[aj];exact aU (by simp[aK,aW]) rfl
  ·simp[ad,ae,aK,aW];exact aU (by simp[aK,aW]) rfl
 ·simp[ad,aK];exact aU (by simp[aK]) rfl
theorem Q8 {s:List UInt8} {p:UInt8->Bool} {k:Nat} {b:UInt8} (h:s[k]? = some b) :(s.take (k+1)).all p=((s.take k).all p&&p b) :=by
 rw[axe,h]; simp[List.all_append]
theorem Hd {s:List UInt8} {p:UInt8->Bool} {k:Nat} {b:UInt8} (h:s[k]? = some b) (au:p b=false) :s.all p=false:=by
 rw[List.all_eq_false];exact⟨b,awY h,by simp[au]⟩
theorem OQ (s:List UInt8) :bw Tryz.prog GS 217 [.str s] (.bool (j5 s)) :=by
 refine bQ Tryz.checked.mixed bj ?_;apply bn Tryz.func217 [];have ad:((s.length:Int)<1)<->¬ 1<=s.length:=by omega
 have ae:((20:Int)<s.length)<->¬ s.length<=20:=by omega
 by_cases aK:1<=s.length
 ·by_cases aW:s.length<=20
  ·simp[ad,ae,aK,aW];refine cl s.length (fun k σ _=>σ 0=.str s/\σ 3=.int .i64 k/\(s.take k).all (hZ 33)=true) ?_ (by simp);rintro k σ l ar ⟨fA,er,dE⟩;obtain⟨σ,rfl⟩:=rD fA er;clear fA er;by_cases h:k<s.length
   ·obtain⟨b,af,_⟩:=bJ h;have dD:IntKind.i64.wrap ((k:Int)+1)=(k+1:Nat) :=wrap_i64 (by omega) (by omega);have cT:((b.toNat:Int)<33)<->¬ 33<=b.toNat:=by omega
    have dw:((126:Int)<b.toNat)<->¬ b.toNat<=126:=by omega
    have ed:zN (.str s) (.int .i64 k)=some (.int .u8 b.toNat) :=by simp[af,jP]
    by_cases q1:33<=b.toNat
    ·by_cases dn:b.toNat<=126
     ·have cM:hZ 33 b=true:=by simp[hZ,q1,dn]
      simp[h,ed,cT,dw,q1,dn,dD,Q8 af,cM,-Ce];simpa using dE
     ·have cM:hZ 33 b=false:=by simp[hZ,dn]
      simp[h,ed,cT,dw,q1,dn,-Ce];exact aU (by simp[j5,Hd af cM]) rfl
    ·have cM:hZ 33 b=false:=by simp[hZ,q1]
     simp[h,ed,cT,q1,-Ce];exact aU (by simp[j5,Hd af cM]) rfl
   ·have fe:k=s.length:=by omega
    subst fe;rw[axo] at dE;simp;exact aU (by simp only[j5,dE]; simp[aK,aW]) rfl
  ·simp[ad,ae,aK,aW];exact aU (by simp[j5,aW]) rfl
 ·simp[ad,aK];exact aU (by simp[j5,aK]) rfl
theorem ams (s:List UInt8) (al:s.length<=1000000000) :bw Tryz.prog GS 232 [.str s] (.bool (s.all (hZ 32))) :=by
 refine bQ Tryz.checked.mixed bj ?_;apply bn Tryz.func232 [];simp;refine cl s.length (fun k σ _=>σ 0=.str s/\σ 3=.int .i64 k/\(s.take k).all (hZ 32)=true) ?_ (by simp);rintro k σ l ar ⟨fA,er,dE⟩;obtain⟨σ,rfl⟩:=rD fA er;clear fA er;by_cases h:k<s.length
 ·obtain⟨b,af,_⟩:=bJ h;have dD:IntKind.i64.wrap ((k:Int)+1)=(k+1:Nat) :=wrap_i64 (by omega) (by omega);have cT:((b.toNat:Int)<32)<->¬ 32<=b.toNat:=by omega
  have dw:((126:Int)<b.toNat)<->¬ b.toNat<=126:=by omega
  have ed:zN (.str s) (.int .i64 k)=some (.int .u8 b.toNat) :=by simp[af,jP]
  by_cases q1:32<=b.toNat
  ·by_cases dn:b.toNat<=126
   ·have cM:hZ 32 b=true:=by simp[hZ,q1,dn]
    simp[h,ed,cT,dw,q1,dn,dD,Q8 af,cM,-Ce];simpa using dE
   ·have cM:hZ 32 b=false:=by simp[hZ,dn]
    simp[h,ed,cT,dw,q1,dn,-Ce];exact aU (by simp only[Hd af cM]) rfl
  ·have cM:hZ 32 b=false:=by simp[hZ,q1]
   simp[h,ed,cT,q1,-Ce];exact aU (by simp only[Hd af cM]) rfl
 ·have fe:k=s.length:=by omega
  subst fe;rw[axo] at dE;simp;exact aU (by simp only[dE]) rfl
structure i9 where
 kind:B
 num:Int
 bits:Q
 text:List UInt8
def fk (v:i9) :List U:=[bC v.kind,.int .i64 v.num,ea v.bits,.str v.text]
def yB:i9:=⟨0#8,0,0#64,[]⟩
def kJ (b:Q) :Nat:=b.toNat / 4503599627370496 % 2048
def qN (b:Q) :Q:=b % 4503599627370496#64
def cls (b:Q) :B:=if kJ b=2047 then (if qN b=0#64 then 4#8 else 5#8) else if kJ b=0 then (if qN b=0#64 then 1#8 else 2#8) else 3#8
def nW (b:Q) :Q:=if cls b=5#8 then 9221120237041090560#64 else b
theorem i4 (k:B) :((u k:Int)=1)<->k=1#8:=yo k 1#8
theorem mF (k:B) :((u k:Int)=2)<->k=2#8:=yo k 2#8
theorem ql (k:B) :((u k:Int)=3)<->k=3#8:=yo k 3#8
theorem yn (k:B) :((u k:Int)=4)<->k=4#8:=yo k 4#8
theorem Ky (k:B) :((u k:Int)=5)<->k=5#8:=yo k 5#8
theorem apz (k:B) :((u k:Int)=0)<->k=0#8:=yo k 0#8
theorem v3 (k:Q) :((u k:Int)=0)<->k=0#64:=yo k 0#64
theorem Ub (b:Q) :kJ b<2048:=ayO _ (by decide)
theorem acm (n:Nat) (h:n<9223372036854775808) :cy .and .i64 (n:Int) .i64 2047=some (.int .i64 ((n % 2048:Nat) :Int)) :=by
 show some (U.int .i64 (IntKind.i64.wrap ((BitVec.ofInt 64 (n:Int) &&& BitVec.ofInt 64 (2047:Int)).toNat:Int)))=_;have ad:(BitVec.ofInt 64 (n:Int) &&& BitVec.ofInt 64 (2047:Int)).toNat=n % 2048:=by
  rw[ayw,azi,axf,aw2 (by omega)];exact azo n 11
 have ae:=ayO n (show 2048 > 0 by decide);rw[ad];generalize n % 2048=q at ae;rw[wrap_i64 (by omega) (by omega)]
theorem ae4 (b:Q) :b &&& 4503599627370495#64=qN b:=by
 apply aw8;unfold qN;rw[azi,ax4];exact azo b.toNat 52
theorem aoI (b:Q) :bw Tryz.prog GS 239 [ea b] (.bq [.int .i64 (kJ b),ea (qN b)]) :=by
 refine bQ Tryz.checked.mixed bj ?_;apply bn Tryz.func239 [];have af:=b.isLt;have ad:IntKind.i64.wrap (u (b >>> 52))=((b.toNat / 4503599627370496:Nat) :Int) :=by
  have:u (b >>> 52)=((b.toNat / 4503599627370496:Nat) :Int) :=by unfold u; rw[axM,axn]
  rw[this,wrap_i64 (by omega) (by omega)]
 have ae:=acm (b.toNat / 4503599627370496) (by omega);have am:kJ b=b.toNat / 4503599627370496 % 2048:=rfl;rw[<-am] at ae;obtain⟨q,aN⟩:∃ q,b.toNat / 4503599627370496=q:=⟨_,rfl⟩
 rw[aN] at ad ae;have aj:cy .and .u64 (u b) .u64 4503599627370495=some (ea (qN b)) :=by
  rw[Rr,mZ,<-ae4]; rfl
 have aD:cy .shr .u64 (u b) .u64 52=some (.int .u64 (u (b >>> 52))) :=wF b .u64 52;simp[aD,ad,ae,aj,-Rr];exact aU rfl rfl
theorem anC (b:Q) :bw Tryz.prog GS 241 [ea b] (.int .i64 (kJ b)) :=by
 refine bQ Tryz.checked.mixed bj ?_;apply bn Tryz.func241 [];have af:=b.isLt;have ad:cy .rem .u64 (u b) .u64 9223372036854775808=some (ea (b % 9223372036854775808#64)) :=AQ b 9223372036854775808#64 (by decide);have ae:cy .quo .u64 (u (b % 9223372036854775808#64)) .u64 4503599627370496=some (ea (b % 9223372036854775808#64 / 4503599627370496#64)) :=Pq _ 4503599627370496#64 (by decide);have aj:IntKind.i64.wrap (u (b % 9223372036854775808#64 / 4503599627370496#64))=(kJ b:Int) :=by
  have:u (b % 9223372036854775808#64 / 4503599627370496#64)=(kJ b:Int) :=by
   unfold u kJ;rw[ayf,ax4];show (((b.toNat % 9223372036854775808) / 4503599627370496:Nat) :Int)=_;congr 1;omega
  have aD:=Ub b;rw[this,wrap_i64 (by omega) (by omega)]
 simp[ad,ae,aj];exact aU rfl rfl
theorem anD (b:Q) :bw Tryz.prog GS 242 [ea b] (ea (qN b)) :=by
 refine bQ Tryz.checked.mixed bj ?_;apply bn Tryz.func242 [];have ad:cy .rem .u64 (u b) .u64 4503599627370496=some (ea (qN b)) :=AQ b 4503599627370496#64 (by decide);simp[ad];exact aU rfl rfl
theorem adw (b:Q) :bw Tryz.prog GS 229 [ea b] (bC (cls b)) :=by
 refine bQ Tryz.checked.mixed bj ?_;apply bn Tryz.func229 [];unfold cls;simp;refine a7 (aoI b) rfl ?_;have ad:((kJ b:Int)=2047)<->kJ b=2047:=by omega
 have ae:((kJ b:Int)=0)<->kJ b=0:=by omega
 by_cases aK:kJ b=2047
 ·by_cases aW:qN b=0#64
  ·simp[ad,aK,aW];exact aU rfl rfl
  ·simp[ad,aK,aW,v3];exact aU rfl rfl
 ·by_cases a6:kJ b=0
  ·by_cases aW:qN b=0#64
   ·simp[ad,ae,aK,aW,a6];exact aU rfl rfl
   ·simp[ad,ae,aK,aW,a6,v3];exact aU rfl rfl
  ·simp[ad,ae,aK,a6];exact aU rfl rfl
theorem anB (b:Q) :bw Tryz.prog GS 240 [ea b] (bC (cls b)) :=by
 refine bQ Tryz.checked.mixed bj ?_;apply bn Tryz.func240 [];unfold cls;simp;refine a7 (anC b) rfl ?_;simp;refine a7 (anD b) rfl ?_;have ae:((kJ b:Int)=0)<->kJ b=0:=by omega
 have aj:((kJ b:Int)<2047)<->¬ kJ b=2047:=by have:=Ub b; omega
 by_cases a6:kJ b=0
 ·by_cases aW:qN b=0#64
  ·simp[ae,aW,a6];exact aU rfl rfl
  ·simp[ae,aW,a6,v3];exact aU rfl rfl
 ·by_cases aK:kJ b=2047
  ·by_cases aW:qN b=0#64
   ·simp[ae,aj,aK,aW];exact aU rfl rfl
   ·simp[ae,aj,aK,aW,v3];exact aU rfl rfl
  ·simp[ae,aj,aK,a6];exact aU rfl rfl
theorem adh (b:Q) :bw Tryz.prog GS 210 [ea b] (ea (nW b)) :=by
 refine bQ Tryz.checked.mixed bj ?_;apply bn Tryz.func210 [];unfold nW;simp;refine a7 (adw b) rfl ?_;by_cases h:cls b=5#8
 ·simp[Ky,h];exact aU rfl rfl
 ·simp[Ky,h];exact aU rfl rfl
theorem anz (b:Q) :bw Tryz.prog GS 231 [ea b] (ea (nW b)) :=by
 refine bQ Tryz.checked.mixed bj ?_;apply bn Tryz.func231 [];unfold nW;simp;refine a7 (anB b) rfl ?_;by_cases h:cls b=5#8
 ·simp[Ky,h];exact aU rfl rfl
 ·simp[Ky,h];exact aU rfl rfl
theorem apI (n:Int) :bw Tryz.prog GS 188 [.int .i64 n] (.aH (fk ⟨1#8,n,0#64,[]⟩)) :=by
 refine bQ Tryz.checked.mixed bj ?_;apply bn Tryz.func188 [];simp;exact aU rfl rfl
theorem apH (b:Q) :bw Tryz.prog GS 189 [ea b] (.aH (fk ⟨2#8,0,nW b,[]⟩)) :=by
 refine bQ Tryz.checked.mixed bj ?_;apply bn Tryz.func189 [];simp;refine a7 (adh b) rfl ?_;simp;exact aU rfl rfl
def ut (s:List UInt8) :i9 × Int:=if s.length<=30 then (if s.all (hZ 32) then (⟨3#8,0,0#64,s⟩,0) else (yB,8)) else (yB,4)
theorem apP (s:List UInt8) :bw Tryz.prog GS 190 [.str s] (.bq [.aH (fk (ut s).1),.int .i64 (ut s).2]) :=by
 refine bQ Tryz.checked.mixed bj ?_;apply bn Tryz.func190 [];unfold ut;have ae:((30:Int)<s.length)<->¬ s.length<=30:=by omega
 by_cases aW:s.length<=30
 ·simp[ae,aW];refine a7 (aax ae2 ao8 s) rfl ?_;have aj:=Oh 32 (by omega) s s.length 0 (by omega);rw[ax5] at aj;have aD:((0:Int)<=lU (nT 32) s s.length 0)<->¬ (s.all (hZ 32)=true) :=by rw[<-aj]; omega
  cases af:s.all (hZ 32) with
  | true=>
   have a2:¬ (0:Int)<=lU (nT 32) s s.length 0:=by rw[aD,af]; simp
   simp[a2];exact aU (by simp[aW]; rfl) rfl
  | false=>
   have a2:(0:Int)<=lU (nT 32) s s.length 0:=by rw[aD,af]; simp
   simp[a2];exact aU (by simp[aW]; rfl) rfl
 ·simp[ae,aW];exact aU rfl rfl
def lD (v:i9) :Bool:=
 if v.kind=1#8 then decide (v.bits=0#64)&&decide (v.text=[])
 else if v.kind=2#8 then decide (v.num=0)&&decide (v.text=[])&&decide (nW v.bits=v.bits)
 else if v.kind=3#8 then decide (v.num=0)&&decide (v.bits=0#64)&&decide (v.text.length<=30)&&v.text.all (hZ 32)
 else false
def ni (b:Bool) :Int:=if b then 0 else 8
def ajF:List nR:=[.i .u8,.i .i64,.i .u64,.s]
theorem XR:tY Tryz.prog 20 88=some ajF:=by kernel_rfl
theorem apQ (a b:i9) :fz Tryz.prog .eql 88 (.aH (fk a)) (.aH (fk b))=some (.bool (fN (fk a) (fk b))) :=Hj XR (by kernel_rfl) (by kernel_rfl) rfl rfl
theorem apR (a b:i9) :fz Tryz.prog .neq 88 (.aH (fk a)) (.aH (fk b))=some (.bool (!fN (fk a) (fk b))) :=RA XR (by kernel_rfl) (by kernel_rfl) rfl rfl
theorem Ry (a b:i9) :fN (fk a) (fk b)=(decide (a.kind=b.kind)&&(decide (a.num=b.num)&&(decide (a.bits=b.bits)&&decide (a.text=b.text)))) :=by
 simp[fk,fN,U.beq]
theorem Qs {v:i9} (k:v.kind=1#8) :lD v=(decide (v.bits=0#64)&&decide (v.text=[])) :=by simp[lD,k]
theorem Qt {v:i9} (k:v.kind=2#8) :lD v=(decide (v.num=0)&&(decide (v.bits=nW v.bits)&&decide (v.text=[]))) :=by
 unfold lD;rw[if_neg (by rw[k]; decide),if_pos k,show decide (nW v.bits=v.bits)=decide (v.bits=nW v.bits) from decide_eq_decide.2 eq_comm];cases decide (v.num=0)<;>cases decide (v.text=[])<;>cases decide (v.bits=nW v.bits)<;>rfl
theorem aa9 {v:i9} (k:v.kind=3#8) :lD v=(decide (v.kind=(ut v.text).1.kind)&&(decide (v.num=(ut v.text).1.num)&&(decide (v.bits=(ut v.text).1.bits)&&decide (v.text=(ut v.text).1.text)))) :=by
 unfold lD ut;rw[if_neg (by rw[k]; decide),if_neg (by rw[k]; decide),if_pos k];by_cases ad:v.text.length<=30
 ·cases ae:v.text.all (hZ 32) with
  | true=>simp[ad,k]
  | false=>simp[ad,k,yB]
 ·simp[ad,k,yB]
theorem Qu {v:i9} (bZ:v.kind≠1#8) (ce:v.kind≠2#8) (eB:v.kind≠3#8) :lD v=false:=by simp[lD,bZ,ce,eB]
theorem aa7 (v:i9) :bw Tryz.prog GS 154 [.aH (fk v)] (.int .i64 (ni (lD v))) :=by
 refine bQ Tryz.checked.mixed bj ?_;apply bn Tryz.func154 [];have aw:∀ (k:B) (n:Int) (b:Q) (t:List UInt8),fz Tryz.prog .neq 88 (.aH [bC v.kind,.int .i64 v.num,ea v.bits,.str v.text]) (.aH [bC k,.int .i64 n,ea b,.str t])=some (.bool (!(decide (v.kind=k)&&(decide (v.num=n)&&(decide (v.bits=b)&&decide (v.text=t)))))) :=fun k n b t=>by rw[<-Ry v ⟨k,n,b,t⟩]; exact apR v ⟨k,n,b,t⟩
 by_cases bZ:v.kind=1#8
 ·have ad:=aw 1#8 v.num 0#64 [];simp only[bZ] at ad;unfold fk;simp[i4,bZ];refine a7 (apI v.num) rfl ?_;unfold fk;simp[ad];rw[Qs bZ];cases decide (v.bits=0#64)<;>cases decide (v.text=[])<;>simp[bZ]<;>exact aU rfl rfl
 ·by_cases ce:v.kind=2#8
  ·have ad:=aw 2#8 0 (nW v.bits) [];simp only[ce] at ad;unfold fk;simp[i4,mF,ce];refine a7 (apH v.bits) rfl ?_;unfold fk;simp[ad];rw[Qt ce];cases decide (v.num=0)<;>cases decide (v.bits=nW v.bits)<;>cases decide (v.text=[])<;>simp[ce]<;>exact aU rfl rfl
  ·by_cases eB:v.kind=3#8
   ·obtain⟨w,aP⟩:∃ w,w=(ut v.text).1:=⟨_,rfl⟩
    have ad:=aw w.kind w.num w.bits w.text;have aj:=aa9 eB;rw[<-aP] at aj;simp only[eB] at ad aj;unfold fk;simp[i4,mF,ql,eB];refine a7 (apP v.text) rfl ?_;rw[<-aP];unfold fk;simp[ad];rw[aj];cases decide (3#8=w.kind)<;>cases decide (v.num=w.num)<;>cases decide (v.bits=w.bits)<;>cases decide (v.text=w.text)<;>simp[eB]<;>exact aU rfl rfl
   ·have ad:fz Tryz.prog .neq 88 (.aH [bC v.kind,.int .i64 v.num,ea v.bits,.str v.text]) (.aH [.int .u8 0,.int .i64 0,.int .u64 0,.str []])=some (.bool (!(decide (v.kind=0#8)&&(decide (v.num=0)&&(decide (v.bits=0#64)&&decide (v.text=[])))))) :=aw 0#8 0 0#64 [];rw[Qu bZ ce eB];unfold fk;simp[i4,mF,ql,bZ,ce,eB];by_cases hz:v.kind=0#8
    ·simp only[hz,decide_true,ayn] at ad;simp[hz,ad];cases decide (v.num=0)<;>cases decide (v.bits=0#64)<;>cases decide (v.text=[])<;>simp[hz]<;>exact aU rfl rfl
    ·simp only[hz,decide_false,azf,azV] at ad;simp[ad];exact aU rfl rfl
theorem anF (v:i9) :bw Tryz.prog GS 218 [.aH (fk v)] (.int .i64 (ni (lD v))) :=by
 refine bQ Tryz.checked.mixed bj ?_;apply bn Tryz.func218 [[[0],[1],[2],[3],[4],[5],[6],[7],[8],[9],[10],[12],[13],[11,13]]];by_cases bZ:v.kind=1#8
 ·rw[Qs bZ];unfold fk;simp[i4,bZ,v3];by_cases aK:v.bits=0#64<;>by_cases aW:v.text=[]<;>simp[aK,aW,v3]<;>exact aU rfl rfl
 ·by_cases ce:v.kind=2#8
  ·rw[Qt ce];unfold fk;simp[i4,mF,ce];by_cases aK:v.num=0
   ·by_cases aW:v.text=[]
    ·simp[aK,aW];refine a7 (anz v.bits) rfl ?_;by_cases a6:v.bits=nW v.bits
     ·have bi:nW v.bits=v.bits:=a6.symm;simp[bi];exact aU (by simp[ni,aK,aW,bi]) rfl
     ·have bi:¬ nW v.bits=v.bits:=fun h=>a6 h.symm
      simp[a6,bi];exact aU (by simp[ni,a6]) rfl
    ·simp[aK,aW];exact aU rfl rfl
   ·simp[aK];exact aU rfl rfl
  ·by_cases eB:v.kind=3#8
   ·have ao:lD v=(decide (v.num=0)&&decide (v.bits=0#64)&&decide (v.text.length<=30)&&v.text.all (hZ 32)) :=by simp[lD,eB]
    have ae:((v.text.length:Int)<=30)<->v.text.length<=30:=by omega
    rw[ao];unfold fk;simp[i4,mF,ql,eB,v3];by_cases aK:v.num=0
    ·by_cases aW:v.bits=0#64
     ·by_cases a6:v.text.length<=30
      ·simp[aK,aW,ae,a6];refine a7 (ams v.text (by omega)) rfl ?_;cases v.text.all (hZ 32)<;>simp<;>exact aU (by simp[ni,aK,aW,a6]) rfl
      ·simp[aK,aW,ae,a6];exact aU rfl rfl
     ·simp[aK,aW,v3];exact aU rfl rfl
    ·simp[aK];exact aU rfl rfl
   ·rw[Qu bZ ce eB];unfold fk;simp[i4,mF,ql,bZ,ce,eB];exact aU rfl rfl
structure Act where
 kind:B
 key:List UInt8
 val:i9
def kH (a:Act) :List U:=[bC a.kind,.str a.key,bC a.val.kind,.int .i64 a.val.num,ea a.val.bits,.str a.val.text]
def pi (v:i9) :Bool:=decide (v.kind=0#8)&&(decide (v.num=0)&&(decide (v.bits=0#64)&&decide (v.text=[])))
def lG (a:Act) :Bool:=
 if a.kind=1#8 then decide (a.key=[])&&pi a.val
 else if a.kind=2#8\/a.kind=3#8 then j5 a.key&&pi a.val
 else if a.kind=4#8 then j5 a.key&&lD a.val
 else false
def rg:List nR:=[.i .u8,.s,.i .u8,.i .i64,.i .u64,.s]
theorem ajZ:tY Tryz.prog 20 90=some rg:=by kernel_rfl
theorem QY (a b:Act) :fz Tryz.prog .eql 90 (.aH (kH a)) (.aH (kH b))=some (.bool (fN (kH a) (kH b))) :=Hj ajZ (by kernel_rfl) (by kernel_rfl) rfl rfl
theorem acg (a:Act) (h:a.kind=1#8) :fz Tryz.prog .eql 90 (.aH [.int .u8 1,.str a.key,bC a.val.kind,.int .i64 a.val.num,ea a.val.bits,.str a.val.text]) (.aH [.int .u8 1,.str [],.int .u8 0,.int .i64 0,.int .u64 0,.str []])=some (.bool (decide (a.key=[])&&pi a.val)) :=by
 have:=QY a ⟨1#8,[],yB⟩;simp only[kH,h] at this;refine Eq.trans this ?_;simp[fN,U.beq,pi,yB,apz,v3];congr
theorem aa8 (v:i9) :fz Tryz.prog .eql 88 (.aH [bC v.kind,.int .i64 v.num,ea v.bits,.str v.text]) (.aH [.int .u8 0,.int .i64 0,.int .u64 0,.str []])=some (.bool (pi v)) :=by
 have:=apQ v yB;rw[Ry] at this;exact this
theorem Q3 {a:Act} (k:a.kind=1#8) :lG a=(decide (a.key=[])&&pi a.val) :=by simp[lG,k]
theorem K5 {a:Act} (k:a.kind=2#8) :lG a=(j5 a.key&&pi a.val) :=by simp[lG,k]
theorem K6 {a:Act} (k:a.kind=3#8) :lG a=(j5 a.key&&pi a.val) :=by simp[lG,k]
theorem Dh {a:Act} (k:a.kind=4#8) :lG a=(j5 a.key&&lD a.val) :=by simp[lG,k]
theorem K7 {a:Act} (bZ:a.kind≠1#8) (ce:a.kind≠2#8) (eB:a.kind≠3#8) (hA:a.kind≠4#8) :lG a=false:=by simp[lG,bZ,ce,eB,hA]
theorem adp (a:Act) :bw Tryz.prog GS 137 [.aH (kH a)] (.int .i64 (ni (lG a))) :=by
 refine bQ Tryz.checked.mixed bj ?_;apply bn Tryz.func137 [];by_cases bZ:a.kind=1#8
 ·have ad:=acg a bZ;have aS:bC (1#8)=.int .u8 1:=rfl;rw[Q3 bZ];unfold kH;simp[i4,bZ,aS,ad];by_cases aK:a.key=[]<;>cases aW:pi a.val<;>simp[aK,aW]<;>exact aU rfl rfl
 ·have ad:=aa8 a.val;by_cases ce:a.kind=2#8
  ·rw[K5 ce];unfold kH;simp[i4,mF,ql,bZ,ce];refine a7 (Ou a.key) rfl ?_;cases j5 a.key with
   | true=>simp[ad]; cases pi a.val<;>simp<;>exact aU rfl rfl
   | false=>simp; exact aU rfl rfl
  ·by_cases eB:a.kind=3#8
   ·rw[K6 eB];unfold kH;simp[i4,mF,ql,bZ,eB];refine a7 (Ou a.key) rfl ?_;cases j5 a.key with
    | true=>simp[ad]; cases pi a.val<;>simp<;>exact aU rfl rfl
    | false=>simp; exact aU rfl rfl
   ·by_cases hA:a.kind=4#8
    ·rw[Dh hA];unfold kH;simp[i4,mF,ql,yn,hA];refine a7 (Ou a.key) rfl ?_;cases j5 a.key with
     | true=>
      simp;refine a7 (aa7 a.val) rfl ?_;cases lD a.val<;>simp[ni]<;>exact aU rfl rfl
     | false=>simp; exact aU rfl rfl
    ·rw[K7 bZ ce eB hA];unfold kH;simp[i4,mF,ql,yn,bZ,ce,eB,hA];exact aU rfl rfl
theorem anA (a:Act) :bw Tryz.prog GS 197 [.aH (kH a)] (.int .i64 (ni (lG a))) :=by
 refine bQ Tryz.checked.mixed bj ?_;apply bn Tryz.func197 [];have ad:=aa8 a.val;by_cases bZ:a.kind=1#8
 ·rw[Q3 bZ];unfold kH;simp[i4,bZ,ad];by_cases aK:a.key=[]<;>cases aW:pi a.val<;>simp[aK,aW]<;>exact aU rfl rfl
 ·by_cases ce:a.kind=2#8
  ·rw[K5 ce];unfold kH;simp[i4,mF,ql,bZ,ce,ad];refine a7 (OQ a.key) rfl ?_;cases j5 a.key with
   | true=>simp; cases pi a.val<;>simp<;>exact aU rfl rfl
   | false=>simp; exact aU rfl rfl
  ·by_cases eB:a.kind=3#8
   ·rw[K6 eB];unfold kH;simp[i4,mF,ql,bZ,eB,ad];refine a7 (OQ a.key) rfl ?_;cases j5 a.key with
    | true=>simp; cases pi a.val<;>simp<;>exact aU rfl rfl
    | false=>simp; exact aU rfl rfl
   ·by_cases hA:a.kind=4#8
    ·rw[Dh hA];unfold kH;simp[i4,mF,ql,yn,hA,ad];refine a7 (OQ a.key) rfl ?_;cases j5 a.key with
     | true=>
      simp;refine a7 (anF a.val) rfl ?_;cases lD a.val<;>simp[ni]<;>exact aU rfl rfl
     | false=>simp; exact aU rfl rfl
    ·rw[K7 bZ ce eB hA];unfold kH;simp[i4,mF,ql,yn,bZ,ce,eB,hA,ad];exact aU rfl rfl
end Op

end Go.bV

namespace Go.bV
open Go Go.Proofs
set_option maxRecDepth 100000
def cJ {α:Type} (z:Nat) (enc:α->List U) (l l1:ap) (v:U) (a:List α) (nl:Bool) :Prop:=
 ∃ j,bL z l1 v j (a.map enc)/\l.length<=l1.length/\(∀ b,b<l.length->l1[b]? = l[b]?)/\(v=.aG\/l.length<=j)/\cz v=nl
section
variable {α:Type} {z:Nat} {enc:α->List U} {l l1:ap} {v:U} {a:List α} {nl:Bool}
theorem cJ.nil:cJ z enc l l .aG ([] :List α) true:=⟨0,.nil 0,awU _,fun _ _=>rfl,.inl rfl,rfl⟩
theorem cJ.more (h:cJ z enc l l1 v a nl) (r:ap) :cJ z enc l (l1++r) v a nl:=by
 obtain⟨j,ad,ae,aj,aD,a2⟩:=h;exact⟨j,ad.more r,by simp; omega,fun b af=>by rw[awS (by omega)]; exact aj b af,aD,a2⟩
theorem cJ.len (h:cJ z enc l l1 v a nl) :cp (.aq z) v=some (.int .i64 a.length) :=by
 obtain⟨j,ad,_⟩:=h;rw[ad.len,aw1]
theorem cJ.cells (h:cJ z enc l l1 v a nl) :v.cells=some [v] :=by
 obtain⟨j,ad,_⟩:=h;exact ad.cells
theorem cJ.contents (h:cJ z enc l l1 v a nl) :de l1 z v=some ((a.map enc).flatten,a.length) :=by
 obtain⟨j,ad,_⟩:=h;rw[ad.contents,aw1]
theorem cJ.le (h:cJ z enc l l1 v a nl) :l.length<=l1.length:=by obtain⟨j,ad,ae,_⟩:=h; exact ae
theorem cJ.same (h:cJ z enc l l1 v a nl) :∀ b,b<l.length->l1[b]? = l[b]?:=by obtain⟨j,ad,ae,aj,_⟩:=h; exact aj
theorem cJ.uk (h:cJ z enc l l1 v a nl) (aF:∀ x,a4 (enc x)=true) (s:b8 α) (ak:nl=s.isNone) (ag:s.l=a) :gJ (bb l1) v (cc z enc s) :=by
 obtain⟨j,ad,ae,aj,aD,a2⟩:=h;exact ad.x3 aF s (by rw[a2,ak]) ag
theorem cJ.rd (h:cJ z enc l l1 v a nl) (aF:∀ x,a4 (enc x)=true) (s:b8 α) (ak:nl=s.isNone) (ag:s.l=a) :eK l1 v (cc z enc s) :=by
 obtain⟨j,ad,ae,aj,aD,a2⟩:=h;exact ad.q.Ac aF s (by rw[a2,ak]) ag
theorem cJ.J6 (h:cJ z enc l l1 v a nl) (aF:∀ x,mL (enc x)=true) (s:b8 α) (ak:nl=s.isNone) (ag:s.l=a) :k3 l1 v (cc z enc s) :=by
 obtain⟨j,ad,ae,aj,aD,a2⟩:=h;exact ad.Gb aF s (by rw[a2,ak]) ag
theorem cJ.base (h:cJ z enc l l1 v a nl) {fw:ap} (al:fw.length<=l.length) (ak:∀ b,b<fw.length->l[b]? = fw[b]?) :cJ z enc fw l1 v a nl:=by
 obtain⟨j,ad,ae,aj,aD,a2⟩:=h;exact⟨j,ad,by omega,fun b af=>by rw[aj b (by omega)]; exact ak b af,aD.imp id (by omega),a2⟩
theorem cJ.frame (h:cJ z enc l l1 v a nl) {br:ap} (al:l1.length<=br.length) (ak:∀ b,b<l1.length->br[b]? = l1[b]?) :cJ z enc l br v a nl:=by
 obtain⟨j,ad,ae,aj,aD,a2⟩:=h;exact⟨j,ad.frame fun ai=>ak j ai,by omega,fun b af=>by rw[ak b (by omega)]; exact aj b af,aD,a2⟩
theorem cJ.app (h:cJ z enc l l1 v a nl) {by_:Nat} {x:U} {xs:List α} (ag:de l1 z x=some ((xs.map enc).flatten,xs.length)) (aw:∀ y∈xs,(enc y).length=z) (aJ:z≠0) (dM:by_≠0) (dC:(a.length+xs.length)*by_<=ci) :
  ∃ v' l',gK l1 z by_ v x=some (v',l')/\cJ z enc l l' v' (a++xs) (nl&&xs.isEmpty)/\l1.length<=l'.length:=by
 obtain⟨j,ad,ae,aj,aD,a2⟩:=h;obtain⟨v',cg,l',aK,aW,a6,bi,bm,cD⟩:=yO (xs:=xs.map enc) ad (by simpa using ag) (fun e am=>by obtain⟨y,aI,rfl⟩:=axi.1 am; exact aw y aI) aJ dM (by simpa using dC);refine⟨v',l',aK,⟨cg,by rw[axc]; exact aW,by omega,fun b af=>?_,?_,?_⟩,a6⟩
 ·rw[bi b (by omega)]
  ·exact aj b af
  ·rcases aD with h | h
   ·exact .inl h
   ·exact .inr (by omega)
 ·rcases bm with h | ⟨bv,dr⟩ | h
  ·exact .inr (by omega)
  ·rcases aD with h | h
   ·exact absurd h bv
   ·exact .inr (by omega)
  ·exact .inl h
 ·rw[cD,a2]; simp
end

namespace Op
open hp
theorem cJ.push {l l1:ap} {v:U} {a:List B} {nl:Bool} (h:cJ 1 cb l l1 v a nl) (x:B) (dC:a.length<=1000000000) :
  ∃ v' l',gK (l1++[.cells 1 [bC x]]) 1 1 v (.aq 1 l1.length 0 1 1 1)=some (v',l')/\cJ 1 cb l l' v' (a++[x]) false:=by
 have az:ci=140737488355328:=rfl;obtain⟨v',l',aK,aW,_⟩:=(h.more [.cells 1 [bC x]]).app (by_:=1) (x:=.aq 1 l1.length 0 1 1 1) (xs:=[x]) (by simp[de,cb]) (by simp[cb]) (by omega) (by omega) (by rw[az]; simp; omega);exact⟨v',l',aK,by simpa using aW⟩
theorem DL:∀ a:List B,(a.map cb).flatten=a.map bC
 | []=>rfl
 | x::a=>by rw[axk,axD,DL a]; rfl
theorem sK {l:ap} {j n:Nat} {a:List B} (aE:a.length=n) (ai:l[j]? = some (.cells n (a.map bC))) :bL 1 l (.aq 1 j 0 n n n) j (a.map cb) :=by
 refine .aq j n n n (a.map bC) _ ai (by simp[aE]) (by simp[aE]) (fun e am=>?_) (awU _) (by omega) ?_
 ·obtain⟨x,_,rfl⟩:=axi.1 am; rfl
 ·rw[awR (by simp[aE]),DL]
def lY (n:Nat) :Nat:=if n<256 then 1 else if n<65536 then 2 else if n<16777216 then 3 else if n<4294967296 then 4 else if n<1099511627776 then 5 else if n<281474976710656 then 6 else if n<72057594037927936 then 7 else 8
theorem JH (n:Nat) :1<=lY n/\lY n<=8:=by unfold lY; refine⟨?_,?_⟩<;>(repeat' split)<;>omega
def mI (n i:Nat) :B:=BitVec.ofNat 8 (n >>> (8*i))
def wb (n:Nat) :Nat->List B
 | 0=>[]
 | i+1=>mI n i::wb n i
theorem Qg (n:Nat) :∀ i,(wb n i).length=i
 | 0=>rfl
 | i+1=>by simp[wb,Qg n i]
def eD (n:Nat) :List B:=if n<=247 then [BitVec.ofNat 8 n] else BitVec.ofNat 8 (247+lY n) ::wb n (lY n)
def my (x:Nat) :Nat:=if x<1 then 0 else if x<2 then 1 else if x<4 then 2 else if x<8 then 3 else if x<16 then 4 else if x<32 then 5 else if x<64 then 6 else if x<128 then 7 else 8
def Gv:List UInt8:=[0,1,2,2,3,3,3,3,4,4,4,4,4,4,4,4,5,5,5,5,5,5,5,5,5,5,5,5,5,5,5,5,6,6,6,6,6,6,6,6,6,6,6,6,6,6,6,6,6,6,6,6,6,6,6,6,6,6,6,6,6,6,6,6,7,7,7,7,7,7,7,7,7,7,7,7,7,7,7,7,7,7,7,7,7,7,7,7,7,7,7,7,7,7,7,7,7,7,7,7,7,7,7,7,7,7,7,7,7,7,7,7,7,7,7,7,7,7,7,7,7,7,7,7,7,7,7,7,8,8,8,8,8,8,8,8,8,8,8,8,8,8,8,8,8,8,8,8,8,8,8,8,8,8,8,8,8,8,8,8,8,8,8,8,8,8,8,8,8,8,8,8,8,8,8,8,8,8,8,8,8,8,8,8,8,8,8,8,8,8,8,8,8,8,8,8,8,8,8,8,8,8,8,8,8,8,8,8,8,8,8,8,8,8,8,8,8,8,8,8,8,8,8,8,8,8,8,8,8,8,8,8,8,8,8,8,8,8,8,8,8,8,8,8,8,8,8,8,8,8,8,8,8,8,8,8]
def Qe:Nat->List UInt8->Bool
 | _,[]=>true
 | i,x::r=>Nat.beq x.toNat (my i)&&Qe (i+1) r
theorem aaG:∀ (i:Nat) (l:List UInt8),Qe i l=true->∀ (j:Nat) (x:UInt8),l[j]? = some x->x.toNat=my (i+j)
 | i,[],_,j,x,h=>by simp at h
 | i,y::r,h,j,x,ag=>by
  simp only[Qe,awZ] at h;cases j with
  | zero=>simp at ag; subst ag; exact axt h.1
  | succ j=>simp at ag; rw[aaG (i+1) r h.2 j x ag]; congr 1; omega
theorem yk (i:Nat) (h:i<256) :∃ x,Gv[i]? = some x/\x.toNat=my i:=by
 have al:Gv.length=256:=by kernel_rfl
 have ax:=aaG 0 Gv (by kernel_rfl) i _ (awT (by omega));exact⟨_,awT (by omega),by rw[ax]; congr 1; omega⟩
theorem vP (x:Nat) :my x<=8:=by unfold my; (repeat' split)<;>omega
def ls (n:Nat) :Nat:=
 if n<256 then my n else if n<65536 then 8+my (n / 256) else if n<16777216 then 16+my (n / 65536) else if n<4294967296 then 24+my (n / 16777216)
 else if n<1099511627776 then 32+my (n / 4294967296) else if n<281474976710656 then 40+my (n / 1099511627776) else if n<72057594037927936 then 48+my (n / 281474976710656) else 56+my (n / 72057594037927936)
theorem akd (n:Nat) (h:1<=n) :(ls n+7) / 8=lY n:=by
 have al:∀ x,1<=x->1<=my x/\my x<=8:=fun x ag=>⟨by unfold my; rw[if_neg (by omega)]; (repeat' split)<;>omega,vP x⟩
 unfold ls lY
 repeat' split
 ·have:=al n h; omega
 ·have:=al (n / 256) (by omega); omega
 ·have:=al (n / 65536) (by omega); omega
 ·have:=al (n / 16777216) (by omega); omega
 ·have:=al (n / 4294967296) (by omega); omega
 ·have:=al (n / 1099511627776) (by omega); omega
 ·have:=al (n / 281474976710656) (by omega); omega
 ·have:=al (n / 72057594037927936) (by omega); omega
theorem P0 (x:Q) (k:Nat) :cy .shr .u64 (u x) .u64 (k:Int)=some (.int .u64 (u (x >>> k))) :=wF x .u64 k
theorem wv {i:Nat} {y:UInt8} {k:UInt8->Prop} (h:Gv[i]? = some y) (ar:k y) :W Gv[i]? (c:=⟨k⟩) :=by rw[h]; exact ar
set_option maxHeartbeats 4000000 in
theorem ake (n:Q) :bw Tryz.prog GS 149 [ea n] (.int .i64 (ls n.toNat)) :=by
 refine bQ Tryz.checked.mixed bj ?_;apply bn Tryz.func149 [];have j8:IntKind.i64.wrap 8=8:=rfl;have yq:IntKind.i64.wrap 16=16:=rfl;have yr:IntKind.i64.wrap 24=24:=rfl;have ys:IntKind.i64.wrap 32=32:=rfl;have yt:IntKind.i64.wrap 40=40:=rfl;have yu:IntKind.i64.wrap 48=48:=rfl;have yv:IntKind.i64.wrap 56=56:=rfl;have bS:∀ x:Q,((4294967296:Int)<=u x)<->4294967296<=x.toNat:=fun x=>by unfold u; omega
 have b7:∀ x:Q,((65536:Int)<=u x)<->65536<=x.toNat:=fun x=>by unfold u; omega
 have hR:∀ x:Q,((256:Int)<=u x)<->256<=x.toNat:=fun x=>by unfold u; omega
 have x9:∀ x:Q,cy .shr .u64 (u x) .u64 32=some (.int .u64 (u (x >>> 32))) :=fun x=>P0 x 32
 have x8:∀ x:Q,cy .shr .u64 (u x) .u64 16=some (.int .u64 (u (x >>> 16))) :=fun x=>P0 x 16
 have ya:∀ x:Q,cy .shr .u64 (u x) .u64 8=some (.int .u64 (u (x >>> 8))) :=fun x=>P0 x 8
 have t32:n.toNat >>> 32=n.toNat / 4294967296:=by rw[axn]
 have t48:n.toNat >>> 48=n.toNat / 281474976710656:=by rw[axn]
 have t16:n.toNat >>> 16=n.toNat / 65536:=by rw[axn]
 have Eu:=n.isLt;by_cases ad:4294967296<=n.toNat
 ·by_cases ae:65536<=n.toNat >>> 32
  ·by_cases aj:256<=n.toNat >>> 48
   ·have cI:n.toNat >>> 56 % 256=n.toNat / 72057594037927936:=by rw[axn]; exact aw2 (by omega)
    obtain⟨y,aK,aW⟩:=yk (n.toNat / 72057594037927936) (by omega);have a6:=vP (n.toNat / 72057594037927936);rw[<-aW] at a6;have bO:IntKind.i64.wrap (y.toNat:Int)=y.toNat:=wrap_i64 (by omega) (by omega);have w2:IntKind.i64.wrap (56+(y.toNat:Int))=((56+y.toNat:Nat) :Int) :=by rw[wrap_i64 (by omega) (by omega)]; omega
    have cY:ls n.toNat=56+y.toNat:=by unfold ls; rw[aW]; (repeat' split)<;>first | omega | rfl
    simp[bS,b7,hR,x9,x8,ya,ad,ae,aj];refine wv (y:=y) (by rw[cI]; exact aK) ?_;rw[cY];simp[jP,bO,w2];exact aU (by simp[j8,yq,yr,ys,yt,yu,yv,w2]) rfl
   ·have cI:n.toNat >>> 48 % 256=n.toNat / 281474976710656:=by rw[axn]; exact aw2 (by omega)
    obtain⟨y,aK,aW⟩:=yk (n.toNat / 281474976710656) (by omega);have a6:=vP (n.toNat / 281474976710656);rw[<-aW] at a6;have bO:IntKind.i64.wrap (y.toNat:Int)=y.toNat:=wrap_i64 (by omega) (by omega);have w2:IntKind.i64.wrap (48+(y.toNat:Int))=((48+y.toNat:Nat) :Int) :=by rw[wrap_i64 (by omega) (by omega)]; omega
    have cY:ls n.toNat=48+y.toNat:=by unfold ls; rw[aW]; (repeat' split)<;>first | omega | rfl
    simp[bS,b7,hR,x9,x8,ya,ad,ae,aj];refine wv (y:=y) (by rw[cI]; exact aK) ?_;rw[cY];simp[jP,bO,w2];exact aU (by simp[j8,yq,yr,ys,yt,yu,yv,w2]) rfl
  ·by_cases aj:256<=n.toNat >>> 32
   ·have cI:n.toNat >>> 40 % 256=n.toNat / 1099511627776:=by rw[axn]; exact aw2 (by omega)
    obtain⟨y,aK,aW⟩:=yk (n.toNat / 1099511627776) (by omega);have a6:=vP (n.toNat / 1099511627776);rw[<-aW] at a6;have bO:IntKind.i64.wrap (y.toNat:Int)=y.toNat:=wrap_i64 (by omega) (by omega);have w2:IntKind.i64.wrap (40+(y.toNat:Int))=((40+y.toNat:Nat) :Int) :=by rw[wrap_i64 (by omega) (by omega)]; omega
    have cY:ls n.toNat=40+y.toNat:=by unfold ls; rw[aW]; (repeat' split)<;>first | omega | rfl
    simp[bS,b7,hR,x9,x8,ya,ad,ae,aj];refine wv (y:=y) (by rw[cI]; exact aK) ?_;rw[cY];simp[jP,bO,w2];exact aU (by simp[j8,yq,yr,ys,yt,yu,yv,w2]) rfl
   ·have cI:n.toNat >>> 32 % 256=n.toNat / 4294967296:=by rw[axn]; exact aw2 (by omega)
    obtain⟨y,aK,aW⟩:=yk (n.toNat / 4294967296) (by omega);have a6:=vP (n.toNat / 4294967296);rw[<-aW] at a6;have bO:IntKind.i64.wrap (y.toNat:Int)=y.toNat:=wrap_i64 (by omega) (by omega);have w2:IntKind.i64.wrap (32+(y.toNat:Int))=((32+y.toNat:Nat) :Int) :=by rw[wrap_i64 (by omega) (by omega)]; omega
    have cY:ls n.toNat=32+y.toNat:=by unfold ls; rw[aW]; (repeat' split)<;>first | omega | rfl
    simp[bS,b7,hR,x9,x8,ya,ad,ae,aj];refine wv (y:=y) (by rw[cI]; exact aK) ?_;rw[cY];simp[jP,bO,w2];exact aU (by simp[j8,yq,yr,ys,yt,yu,yv,w2]) rfl
 ·by_cases ae:65536<=n.toNat
  ·by_cases aj:256<=n.toNat >>> 16
   ·have cI:n.toNat >>> 24 % 256=n.toNat / 16777216:=by rw[axn]; exact aw2 (by omega)
    obtain⟨y,aK,aW⟩:=yk (n.toNat / 16777216) (by omega);have a6:=vP (n.toNat / 16777216);rw[<-aW] at a6;have bO:IntKind.i64.wrap (y.toNat:Int)=y.toNat:=wrap_i64 (by omega) (by omega);have w2:IntKind.i64.wrap (24+(y.toNat:Int))=((24+y.toNat:Nat) :Int) :=by rw[wrap_i64 (by omega) (by omega)]; omega
    have cY:ls n.toNat=24+y.toNat:=by unfold ls; rw[aW]; (repeat' split)<;>first | omega | rfl
    simp[bS,b7,hR,x9,x8,ya,ad,ae,aj];refine wv (y:=y) (by rw[cI]; exact aK) ?_;rw[cY];simp[jP,bO,w2];exact aU (by simp[j8,yq,yr,ys,yt,yu,yv,w2]) rfl
   ·have cI:n.toNat >>> 16 % 256=n.toNat / 65536:=by rw[axn]; exact aw2 (by omega)
    obtain⟨y,aK,aW⟩:=yk (n.toNat / 65536) (by omega);have a6:=vP (n.toNat / 65536);rw[<-aW] at a6;have bO:IntKind.i64.wrap (y.toNat:Int)=y.toNat:=wrap_i64 (by omega) (by omega);have w2:IntKind.i64.wrap (16+(y.toNat:Int))=((16+y.toNat:Nat) :Int) :=by rw[wrap_i64 (by omega) (by omega)]; omega
    have cY:ls n.toNat=16+y.toNat:=by unfold ls; rw[aW]; (repeat' split)<;>first | omega | rfl
    simp[bS,b7,hR,x9,x8,ya,ad,ae,aj];refine wv (y:=y) (by rw[cI]; exact aK) ?_;rw[cY];simp[jP,bO,w2];exact aU (by simp[j8,yq,yr,ys,yt,yu,yv,w2]) rfl
  ·by_cases aj:256<=n.toNat
   ·have cI:n.toNat >>> 8 % 256=n.toNat / 256:=by rw[axn]; exact aw2 (by omega)
    obtain⟨y,aK,aW⟩:=yk (n.toNat / 256) (by omega);have a6:=vP (n.toNat / 256);rw[<-aW] at a6;have bO:IntKind.i64.wrap (y.toNat:Int)=y.toNat:=wrap_i64 (by omega) (by omega);have w2:IntKind.i64.wrap (8+(y.toNat:Int))=((8+y.toNat:Nat) :Int) :=by rw[wrap_i64 (by omega) (by omega)]; omega
    have cY:ls n.toNat=8+y.toNat:=by unfold ls; rw[aW]; (repeat' split)<;>first | omega | rfl
    simp[bS,b7,hR,x9,x8,ya,ad,ae,aj];refine wv (y:=y) (by rw[cI]; exact aK) ?_;rw[cY];simp[jP,bO,w2];exact aU (by simp[j8,yq,yr,ys,yt,yu,yv,w2]) rfl
   ·have cI:n.toNat % 256=n.toNat:=aw2 (by omega);obtain⟨y,aK,aW⟩:=yk (n.toNat) (by omega);have a6:=vP (n.toNat);rw[<-aW] at a6;have bO:IntKind.i64.wrap (y.toNat:Int)=y.toNat:=wrap_i64 (by omega) (by omega);have w2:IntKind.i64.wrap (0+(y.toNat:Int))=((0+y.toNat:Nat) :Int) :=by rw[wrap_i64 (by omega) (by omega)]; omega
    have cY:ls n.toNat=0+y.toNat:=by unfold ls; rw[aW]; (repeat' split)<;>first | omega | rfl
    simp[bS,b7,hR,x9,x8,ya,ad,ae,aj];refine wv (y:=y) (by rw[cI]; exact aK) ?_;rw[cY];simp[jP,bO,w2];exact aU (by simp[j8,yq,yr,ys,yt,yu,yv,w2]) rfl
theorem Ho (n:Q) (i:Nat) :(n >>> (8*i)).setWidth 8=mI n.toNat i:=by
 apply aw8;unfold mI;rw[aw9,axM,axf]
theorem aoj (l:ap) (c d:aV) :(l++[c]).set l.length d=l++[d] :=by rw[axS _ _ (awU _)]; simp
def sH (n k i:Nat) :List B:=BitVec.ofNat 8 (247+k) ::(List.replicate (k - i) 0#8++wb n i)
theorem Yk (n k i:Nat) (h:i<=k) :(sH n k i).length=k+1:=by simp[sH,Qg]; omega
theorem alq (n k i:Nat) (h:i<k) :(sH n k i).set (k - i) (mI n i)=sH n k (i+1) :=by
 unfold sH;obtain⟨m,hm⟩:∃ m,k - i=m+1:=⟨k - i - 1,by omega⟩
 rw[hm,azb,show k - (i+1)=m by omega,List.replicate_succ',axH];congr 1;rw[axS _ _ (by simp)];simp[wb]
theorem ap8 (n:Q) {l:ap} {K:U->ap->Prop} (aY:∀ v j l',bL 1 l' v j ((eD n.toNat).map cb)->l.length<=l'.length->(∀ b,b<l.length->l'[b]? = l[b]?)->l.length<=j->cz v=false->K v l') :
  c5 Tryz.prog GS 111 [ea n] l (c:=⟨K⟩) :=by
 apply bn Tryz.func111 [];have bS:((u n:Int)<=247)<->n.toNat<=247:=by unfold u; omega
 by_cases h:n.toNat<=247
 ·have q7:eD n.toNat=[n.setWidth 8] :=by
   unfold eD; rw[if_pos h]; rfl
  simp[bS,h];refine aY _ l.length _ (sK (n:=1) (a:=eD n.toNat) (by rw[q7]; rfl) (by rw[q7]; simp)) (by simp) (fun b af=>awS af) (awU _) rfl
 ·have ar:=JH n.toNat
  obtain⟨k,tB⟩:∃ k,lY n.toNat=k:=⟨_,rfl⟩
  have q7:eD n.toNat=sH n.toNat k k:=by unfold eD sH; rw[if_neg h,tB]; simp
  have EO:=akd n.toNat (by omega)
  rw[tB] at EO ar;obtain⟨L,eN⟩:∃ L,ls n.toNat=L:=⟨_,rfl⟩
  rw[eN] at EO;have bO:IntKind.i64.wrap ((L:Int)+7)=((L+7:Nat) :Int) :=by rw[wrap_i64 (by omega) (by omega)]; omega
  have q1:cy .quo .i64 ((L+7:Nat) :Int) .i64 8=some (.int .i64 (k:Int)) :=by rw[Lr _ 8 (by omega) (by omega)]; rw[show (8:Int).toNat=8 from rfl,EO]
  have w2:IntKind.i64.wrap ((k:Int)+1)=((k+1:Nat) :Int) :=by rw[wrap_i64 (by omega) (by omega)]; omega
  have cY:IntKind.i64.wrap (247+(k:Int))=((247+k:Nat) :Int) :=by rw[wrap_i64 (by omega) (by omega)]; omega
  have e0:sD 1 1 [.int .u8 0] l (.int .i64 ((k+1:Nat) :Int)) (.int .i64 ((k+1:Nat) :Int))=some (.aq 1 l.length 0 (k+1) (k+1) (k+1),l++[.cells (k+1) ((List.replicate (k+1) 0#8).map bC)]) :=by
   unfold sD;have az:ci=140737488355328:=rfl;simp only[];rw[if_pos ⟨by omega,by omega,by omega,by rw[az]; omega⟩,Gc];simp
  simp[bS,h];refine a7 (ake n) rfl ?_;rw[eN];have fA:bf (List.replicate (k+1) (bC 0#8)) 0 [bC (BitVec.ofNat 8 (247+k))]=(sH n.toNat k 0).map bC:=by
   rw[axJ,aoF,aoH]; simp[sH,wb]
  simp[bO,q1,w2,cY,e0,-Int.natCast_add];refine cl k (fun i σ l1=>σ 0=ea n/\σ 3=.int .i64 k/\σ 4=.aq 1 l.length 0 (k+1) (k+1) (k+1)/\σ 23=.int .i64 k/\σ 24=.int .i64 i/\l1=l++[.cells (k+1) ((sH n.toNat k i).map bC)]) ?_ ?_
  ·rintro i σ l1 ay ⟨ck,a6,bi,uZ,w5,rfl⟩;obtain⟨σ,rfl⟩:=k1 ck a6 bi uZ w5;clear ck a6 bi uZ w5;by_cases ob:i<k
   ·have ka:IntKind.i64.wrap ((k:Int) - i)=((k - i:Nat) :Int) :=by rw[wrap_i64 (by omega) (by omega)]; omega
    have jM:IntKind.i64.wrap (8*(i:Int))=((8*i:Nat) :Int) :=by rw[wrap_i64 (by omega) (by omega)]; omega
    have sY:IntKind.i64.wrap ((i:Int)+1)=((i+1:Nat) :Int) :=by rw[wrap_i64 (by omega) (by omega)]; omega
    have rF:cy .shr .u64 (u n) .i64 ((8*i:Nat) :Int)=some (.int .u64 (u (n >>> (8*i)))) :=wF n .i64 (8*i);have sZ:=Ho n i;have GQ:=qi bC (sH n.toNat k i) (k - i) (mI n.toNat i) (by rw[Yk _ _ _ ay]; omega);rw[alq _ _ _ ob] at GQ;obtain⟨d,bg⟩:∃ d,k - i=d:=⟨_,rfl⟩
    obtain⟨e,am⟩:∃ e,8*i=e:=⟨_,rfl⟩
    rw[bg] at ka GQ;rw[am] at jM rF sZ;have EA:d<=k:=by omega
    simp[ob,ka,jM,sY,rF,sZ,GQ,EA,-Int.natCast_add,aoj];omega
   ·have gX:i=k:=by omega
    subst gX;simp;refine aY _ l.length _ (sK (n:=i+1) (a:=eD n.toNat) (by rw[q7,Yk _ _ _ (awU _)]) (by rw[q7]; simp)) (by simp) (fun b af=>awS af) (awU _) rfl
  ·simp;exact fA
theorem alk {n:Nat} (h:n<18446744073709551616) :n<256 ^ lY n:=by
 unfold lY; (repeat' split)<;>simp<;>omega
theorem alm {n k:Nat} (ad:1<=n) (h:k<lY n) :256 ^ k<=n:=by
 have gp:=(JH n).2;have ar:k=0\/k=1\/k=2\/k=3\/k=4\/k=5\/k=6\/k=7:=by omega
 rcases ar with rfl | rfl | rfl | rfl | rfl | rfl | rfl | rfl<;>simp<;>unfold lY at h<;>(repeat' split at h)<;>omega
theorem aou {n k:Nat} (ad:1<=n) (h:n<18446744073709551616) (ar:k<=lY n) :n >>> (8*k)=0<->k=lY n:=by
 have au:2 ^ (8*k)=256 ^ k:=by rw[Nat.pow_mul]
 rw[axn,au,Nat.div_eq_zero_iff];constructor
 ·rintro (ae | ae)
  ·exact absurd ae (by have:0<256 ^ k:=Nat.pow_pos (by decide); omega)
  ·rcases ax1 k (lY n) with aj | aj
   ·have:=alm ad aj; omega
   ·omega
 ·rintro rfl;exact .inr (alk h)
theorem aaI (n:Nat) :∀ k,wb n k=((List.range k).map (mI n)).reverse
 | 0=>rfl
 | k+1=>by rw[wb,aaI n k,ayP,axc,List.reverse_append]; rfl
def qK (n k:Nat) :List B:=(List.range k).map (mI n)
theorem ad5 (n k:Nat) :qK n (k+1)=qK n k++[mI n k] :=by simp[qK,ayP]
theorem A9 (n k:Nat) :(qK n k).length=k:=by simp[qK]
theorem TT (n k i:Nat) (h:i<k) :(qK n k)[i]? = some (mI n i) :=by simp[qK,h]
theorem anI (x:Q) :cy .rem .u64 (u x) .u64 256=some (.int .u64 (u (x % 256#64))) :=AQ x 256#64 (by decide)
theorem amP (x:Q) :cy .quo .u64 (u x) .u64 256=some (.int .u64 (u (x / 256#64))) :=Pq x 256#64 (by decide)
theorem aku (n:Q) (i:Nat) :((n >>> (8*i)) % 256#64).setWidth 8=mI n.toNat i:=by
 rw[<-Ho];apply aw8;rw[aw9,ax4,aw9];show _ % 256 % 2 ^ 8=_ % 2 ^ 8;omega
theorem alh (n:Q) (i:Nat) :(n >>> (8*i)) / 256#64=n >>> (8*(i+1)) :=by
 apply aw8;rw[ayf,axM,axM,axn,axn,show 8*(i+1)=8*i+8 by omega,azu,<-Nat.div_div_eq_div_mul]; rfl
theorem cJ.get {l l1:ap} {v:U} {a:List B} {nl:Bool} (h:cJ 1 cb l l1 v a nl) {k:IntKind} {i:Nat} {x:B} (ag:a[i]? = some x) :∃ p cs o,cN (.aq 1) v (.int k (i:Int))=some p/\hj l1 p=some (cs,o)/\cs[o]? = some (bC x) :=by
 obtain⟨j,h,_⟩:=h;obtain⟨p,cs,o,ad,ae,aj,aD⟩:=h.q.get (k:=k) (i:=i) (e:=cb x) (by rw[awV,ag]; rfl);refine⟨p,cs,o,ad,ae,?_⟩;have:=congrArg (fun l=>l[0]?) aD;simp[List.getElem?_take,axv,cb] at this;exact this
theorem Ax (n:Q) {l:ap} {K:U->ap->Prop} (aY:∀ v l',cJ 1 cb l l' v (eD n.toNat) false->K v l') :c5 Tryz.prog GS 111 [ea n] l (c:=⟨K⟩) :=
 ap8 n fun v j l' ad ae aj aD a2=>aY v l' ⟨j,ad,ae,aj,.inr aD,a2⟩
structure ab3 (l:ap) (n:Q) (i:Nat) (σ:bc) (l1:ap) :Prop where
 ck:σ 0=ea (n >>> (8*i))
 ub:∃ v,σ 3=v/\cJ 1 cb l l1 v (qK n.toNat i) (decide (i=0))
structure ab4 (l1:ap) (v:U) (n:Q) (k i:Nat) (σ:bc) (br:ap) :Prop where
 a6:σ 3=v
 bm:σ 5=.int .i64 ((k:Int) - 1 - i)
 ub:∃ w,σ 4=w/\cJ 1 cb l1 br w (BitVec.ofNat 8 (247+k) ::((qK n.toNat k).reverse.take i)) false
theorem x2 (n:Q) {l:ap} {K:U->ap->Prop} (aY:∀ v l',cJ 1 cb l l' v (eD n.toNat) false->K v l') :
  c5 Tryz.prog GS 205 [ea n] l (c:=⟨K⟩) :=by
 apply bn Tryz.func205 [];have bS:((u n:Int)<=247)<->n.toNat<=247:=by unfold u; omega
 by_cases h:n.toNat<=247
 ·have q7:eD n.toNat=[n.setWidth 8] :=by
   unfold eD; rw[if_pos h]; rfl
  simp[bS,h];exact aY _ _ ⟨l.length,sK (n:=1) (a:=eD n.toNat) (by rw[q7]; rfl) (by rw[q7]; simp),by simp,fun b af=>awS af,.inr (awU _),rfl⟩
 ·have Eu:=n.isLt;have ar:=JH n.toNat
  simp[bS,h];refine cl (lY n.toNat) (ab3 l n) ?_ ⟨by simp,.aG,by simp,cJ.nil⟩;rintro i σ l1 ay ⟨ck,v,a6,fC⟩;obtain⟨σ,rfl⟩:=rD ck a6;clear ck a6;have aw:=aou (n:=n.toNat) (k:=i) (by omega) (by omega) ay;have ny:((0:Int)<u (n >>> (8*i)))<->¬ i=lY n.toNat:=by
   rw[<-aw]; unfold u; rw[axM]; generalize n.toNat >>> (8*i)=q; omega
  by_cases ob:i=lY n.toNat
  ·obtain⟨k,tB⟩:∃ k,lY n.toNat=k:=⟨_,rfl⟩
   rw[tB] at ob ny ar;subst ob;have ahO:eD n.toNat=BitVec.ofNat 8 (247+i) ::(qK n.toNat i).reverse:=by
    unfold eD; rw[if_neg h,tB,aaI]; rfl
   have bA:=fC.len;rw[A9] at bA;have bO:IntKind.i64.wrap (247+(i:Int))=((247+i:Nat) :Int) :=by rw[wrap_i64 (by omega) (by omega)]; omega
   have w2:IntKind.i64.wrap ((i:Int) - 1)=(i:Int) - 1:=wrap_i64 (by omega) (by omega);have f1:(eD n.toNat)=BitVec.ofNat 8 (247+i) ::(qK n.toNat i).reverse.take i:=by rw[ahO,awR (by rw[List.length_reverse,A9]; omega)]
   simp[ny,bA,bO,w2,-Int.natCast_add];refine cl i (ab4 l1 v n i) ?_ ⟨by simp,by simp,_,by simp,⟨l1.length,sK (n:=1) (a:=[BitVec.ofNat 8 (247+i)]) rfl (by simp),by simp,fun b af=>awS af,.inr (awU _),rfl⟩⟩;rintro j σ br ai ⟨a6,bm,w,bi,vW⟩;have fH:=fC.frame vW.le vW.same;obtain⟨σ,rfl⟩:=lC a6 bi bm;clear a6 bi bm;by_cases jW:j=i
   ·have kk:¬ (j:Int)<=(i:Int) - 1:=by omega
    rw[jW,<-f1] at vW;simp[kk];exact aY _ _ (vW.base fC.le fC.same)
   ·have vk:(j:Int)<=(i:Int) - 1:=by omega
    have xg:((i:Int) - 1 - j)=((i - 1 - j:Nat) :Int) :=by omega
    have cY:IntKind.i64.wrap ((i:Int) - 1 - j - 1)=(i:Int) - 1 - (j+1:Nat) :=by rw[wrap_i64 (by omega) (by omega)]; omega
    obtain⟨p,cs,o,q1,dn,gF⟩:=cJ.get fH (k:=.i64) (TT n.toNat i (i - 1 - j) (by omega));rw[<-xg] at q1;have ag:(qK n.toNat i).reverse[j]? = some (mI n.toNat (i - 1 - j)) :=by
     rw[List.getElem?_reverse (by rw[A9]; omega),A9,TT _ _ _ (by omega)]
    have IK:=A9 n.toNat i;obtain⟨w',l',a8,bh⟩:=cJ.push vW (mI n.toNat (i - 1 - j)) (by simp; omega);simp[vk,q1,dn,gF,a8];refine cU.b1 ?_;simp[cY];exact⟨by omega,by simp,by simp,w',by simp,by rw[axe,ag]; simpa using bh⟩
  ·have ji:=A9 n.toNat i;obtain⟨v',l',a8,bh⟩:=cJ.push fC (mI n.toNat i) (by omega);rw[<-ad5] at bh;have aN:cy .quo .u64 (u (n >>> (8*i))) .u64 256=some (ea (n >>> (8*(i+1)))) :=by rw[amP,alh]
   simp[ny,ob,anI,aN,aku,a8];refine cU.b1 ?_;simp[aN];exact⟨by omega,by simp,v',by simp,by simpa using bh⟩
end Op

end Go.bV

namespace Go.bV
open Go Go.Proofs
set_option maxRecDepth 100000
namespace Op
open hp
def nM (n:Int) :Q:=if 0<=n then BitVec.ofNat 64 (2*n.toNat) else BitVec.ofNat 64 (2*(-(n+1)).toNat+1)
theorem ap9 (n:Int) (ad:-9223372036854775808<=n) (ae:n<9223372036854775808) {l:ap} {K:U->ap->Prop} (aY:∀ v l',cJ 1 cb l l' v (eD (nM n).toNat) false->K v l') :
  c5 Tryz.prog GS 155 [.int .i64 n] l (c:=⟨K⟩) :=by
 apply bn Tryz.func155 [];have aS:cy .shl .u64 (u (BitVec.ofInt 64 n)) .u64 1=some (.int .u64 (u (BitVec.ofInt 64 n <<< 1))) :=RF _ .u64 1;have bt:cy .shr .i64 n .u64 63=some (.int .i64 (if 0<=n then 0 else -1)) :=by
  show (if (63:Int)<0 then none else some (U.int .i64 (n.fdiv (2 ^ min (63:Int).toNat 64))))=_;rw[if_neg (by omega)];congr 2;have:(2:Int) ^ min (63:Int).toNat 64=9223372036854775808:=by decide
  rw[this,Int.fdiv_eq_ediv_of_nonneg _ (by omega)];split<;>omega
 have aw:BitVec.ofInt 64 n <<< 1 ^^^ BitVec.ofInt 64 (if 0<=n then 0 else -1)=nM n:=by
  unfold nM;by_cases h:0<=n
  ·rw[if_pos h,if_pos h];obtain⟨m,rfl⟩:=axY h;rw[ayw,axq];have:BitVec.ofInt 64 (0:Int)=0#64:=rfl;rw[this,BitVec.xor_zero];apply aw8;rw[ayR,axf,axf,ayo];omega
  ·rw[if_neg h,if_neg h];obtain⟨m,hm⟩:=axY (show 0<=-(n+1) by omega);have aC:n=-((m:Int)+1) :=by omega
   have a8:BitVec.ofInt 64 (-1:Int)=BitVec.allOnes 64:=by decide
   have bh:BitVec.ofInt 64 n = ~~~ BitVec.ofNat 64 m:=by
    apply aw8;rw[aC,BitVec.toNat_ofInt,azK,axf];omega
   have lj:m<9223372036854775808:=by omega
   rw[a8,bh,BitVec.xor_allOnes,hm,axq];apply aw8;rw[azK,ayR,azK,axf,axf,ayo];omega
 simp[aS,bt,aw];refine Ax _ fun v l' h=>?_
 simp;exact aY v l' h
theorem ane (n:Int) (ad:-9223372036854775808<=n) (ae:n<9223372036854775808) {l:ap} {K:U->ap->Prop} (aY:∀ v l',cJ 1 cb l l' v (eD (nM n).toNat) false->K v l') :
  c5 Tryz.prog GS 236 [.int .i64 n] l (c:=⟨K⟩) :=by
 apply bn Tryz.func236 [];by_cases h:0<=n
 ·obtain⟨m,rfl⟩:=axY h;have aw:2#64*BitVec.ofNat 64 m=nM m:=by
   unfold nM; rw[if_pos h,axq];apply aw8;simp only[ayI,axf];omega
  simp[aw];refine x2 _ fun v l' h=>?_
  simp;exact aY v l' h
 ·have bO:IntKind.i64.wrap (n+1)=n+1:=wrap_i64 (by omega) (by omega);have w2:IntKind.i64.wrap (0 - (n+1))=0 - (n+1) :=wrap_i64 (by omega) (by omega);have w2:IntKind.i64.wrap (-(n+1))=-(n+1) :=wrap_i64 (by omega) (by omega);have aw:2#64*BitVec.ofInt 64 (-(n+1))+1#64=nM n:=by
   obtain⟨m,hm⟩:=axY (show 0<=-(n+1) by omega);unfold nM; rw[if_neg h,hm,axq,ayw];apply aw8;simp only[ayI,axf,azI];omega
  simp[h,bO,w2,aw];refine x2 _ fun v l' h=>?_
  simp;exact aY v l' h
def jK (s:List B) :List B:=eD s.length++s
theorem iM (n:Nat) :(eD n).length<=9:=by
 unfold eD;have:=(JH n).2;split
 ·simp
 ·simp[Qg]; omega
theorem aeV (s:List B) :(s.map cb).flatten=s.map bC:=DL s
theorem TN (l:ap) (s:eS) :de l 1 (cF s)=some ((s.l.map cb).flatten,s.l.length) :=wV l 1 cb s
theorem abi (s:eS) (ak:s.l.length<=10000) {x:U} {l:ap} (ag:de l 1 x=some ((s.l.map cb).flatten,s.l.length)) (bA:cp (.aq 1) x=some (.int .i64 s.l.length)) (bE:∀ l',l.length<=l'.length->(∀ b,b<l.length->l'[b]? = l[b]?)->de l' 1 x=some ((s.l.map cb).flatten,s.l.length))
  {K:U->ap->Prop} (aY:∀ v l',cJ 1 cb l l' v (jK s.l) false->K (.bq [v,.int .i64 0]) l') :c5 Tryz.prog GS 112 [x] l (c:=⟨K⟩) :=by
 apply bn Tryz.func112 [];have ad:¬ ((10000:Int)<s.l.length) :=by omega
 have az:ci=140737488355328:=rfl;simp[bA,ad];refine Ax _ fun v l' h=>?_
 have aC:(BitVec.ofNat 64 s.l.length).toNat=s.l.length:=by rw[axf]; exact aw2 (by omega)
 rw[aC] at h;have km:=iM s.l.length;obtain⟨v',br,a8,bh,_⟩:=h.app (by_:=1) (x:=x) (xs:=s.l) (bE l' h.le h.same) (by simp[cb]) (by omega) (by omega) (by rw[az]; omega);simp[a8];refine cU.b1 ?_;simp;exact aY v' br (by simpa [jK] using bh)
theorem Zq (s:eS) (ak:s.l.length<=10000) {x:U} {l:ap} (ag:de l 1 x=some ((s.l.map cb).flatten,s.l.length)) (bA:cp (.aq 1) x=some (.int .i64 s.l.length)) (bE:∀ l',l.length<=l'.length->(∀ b,b<l.length->l'[b]? = l[b]?)->de l' 1 x=some ((s.l.map cb).flatten,s.l.length))
  {K:U->ap->Prop} (aY:∀ v l',cJ 1 cb l l' v (jK s.l) false->K v l') :c5 Tryz.prog GS 225 [x] l (c:=⟨K⟩) :=by
 apply bn Tryz.func225 [];have az:ci=140737488355328:=rfl;simp[bA];refine x2 _ fun v l' h=>?_
 have aC:(BitVec.ofNat 64 s.l.length).toNat=s.l.length:=by rw[axf]; exact aw2 (by omega)
 rw[aC] at h;have km:=iM s.l.length;obtain⟨v',br,a8,bh,_⟩:=h.app (by_:=1) (x:=x) (xs:=s.l) (bE l' h.le h.same) (by simp[cb]) (by omega) (by omega) (by rw[az]; omega);simp[a8];refine cU.b1 ?_;simp;exact aY v' br (by simpa [jK] using bh)
def a5 (i:List B) :List U:=i.map bC
abbrev dk:=b8 (List B)
def aA (s:dk) :U:=cc 32 a5 s
def ds (s:dk) :Prop:=∀ i∈s.l,i.length=32
theorem g2 (i:List B) :a4 (a5 i)=true:=ng bC (fun _=>rfl) _
theorem dd (s:dk) :(aA s).closed=true:=uT g2 s
theorem TE:∀ a b:List B,a.length=b.length->oW (a.map fun x=>UInt8.ofNat x.toNat) (b.map fun x=>UInt8.ofNat x.toNat)=cj a b
 | [],[],_=>rfl
 | [],_::_,h=>by simp at h
 | _::_,[],h=>by simp at h
 | x::a,y::b,h=>by
  have aR:=TE a b (by simpa using h);have ag:=x.isLt;have aI:=y.isLt;rw[TD];simp only[axk,oW,aR];have aS:(UInt8.ofNat x.toNat=UInt8.ofNat y.toNat)<->x.toNat=y.toNat:=by
   constructor
   ·intro h;have:=congrArg UInt8.toNat h;simp only[UInt8.toNat_ofNat'] at this;omega
   ·intro h; rw[h]
  have bt:(UInt8.ofNat x.toNat<UInt8.ofNat y.toNat)<->x.toNat<y.toNat:=by
   rw[UInt8.lt_iff_toNat_lt]; simp only[UInt8.toNat_ofNat'];rw[aw2 (by omega),aw2 (by omega)]
  by_cases ad:x.toNat=y.toNat
  ·rw[if_pos (aS.2 ad),if_neg (by omega),if_neg (by omega)]
  ·rw[if_neg (fun h=>ad (aS.1 h))];by_cases ae:x.toNat<y.toNat
   ·rw[if_pos (bt.2 ae),if_pos ae]
   ·rw[if_neg (fun h=>ae (bt.1 h)),if_neg ae,if_pos (by omega)]
@[simp ↓] theorem au3 {P:Program} {aB:Operand->U} {l:ap} (f:FuncId) (tt x y:Operand) :bU P aB l (.cj f tt x y)=(match Fp f (aB tt) with | true=>dQ l (cmpL l (aB x) (aB y)) | false=>none) :=id rfl
@[simp ↓] theorem auc (f:FuncId) (tt x y:Operand) (v:U) (l:ap) (K:U->ap->Prop) :eC (.cj f tt x y) v l K=K v l:=id rfl
@[simp] theorem att (f:FuncId) :Fp f (.fn f [] [])=true:=azk f
theorem RJ:∀ a:List B,nV (a.map bC)=some (a.map fun x=>UInt8.ofNat x.toNat)
 | []=>rfl
 | x::a=>by
  simp only[axk,nV,RJ a,aw0];simp[u]
theorem RK (l:ap) (s:eS) :pC l (cF s)=some (s.l.map fun x=>UInt8.ofNat x.toNat) :=by
 have h:=TN l s;rw[aeV] at h;cases s with
 | none=>simp[pC,cc,de,nV]
 | some a=>
  unfold pC;simp only[cc];have ae:de l 1 (U.a1 1 (a.map cb))=some (a.map bC,a.length) :=h;rw[ae];exact RJ a
theorem acz (a b:eS) (h:a.l.length=b.l.length) :bw Tryz.prog GS 104 [cF a,cF b] (.int .i64 (cj a.l b.l)) :=by
 refine bQ Tryz.checked.mixed bj ?_;apply afh Tryz.func104 [];have ah:cmpL [] (cF a) (cF b)=some (.int .i64 (cj a.l b.l)) :=by
  unfold cmpL;rw[RK,RK];simp only[TE _ _ h]
 simp[ah];exact aU rfl rfl
theorem P2 {n b:Nat} (cG:0<n) :fm (.arr n 1) (.ptr b 0 n) none none none=some (.aq 1 b 0 n n n) :=by
 have:hc n n none none none=some (0,n,n) :=rfl;simp only[fm,this];rw[if_pos (by omega),if_neg (by omega)];simp
theorem wQ (a b:List B) (aE:a.length=32) (af:b.length=32) :bw Tryz.prog GS 75 [gP a,gP b] (.int .i64 (cj a b)) :=by
 refine bQ Tryz.checked.mixed bj ?_;apply bn Tryz.func75 [];have ak:=P2 (n:=32) (b:=1) (by omega);have BX:=P2 (n:=32) (b:=0) (by omega);simp[gP,aE,af,ak,BX];have ah:=acz (some a) (some b) (by simp[aE,af]);refine mA ah ?_ rfl ?_
 ·exact .cons ((sK (j:=0) aE rfl).x3 (fun _=>rfl) (some a) rfl rfl) (.cons ((sK (j:=1) af rfl).x3 (fun _=>rfl) (some b) rfl rfl) .nil)
 ·simp;exact aU rfl rfl
theorem Py (a b:List B) (aE:a.length=32) (af:b.length=32) :bw Tryz.prog GS 106 [gP a,gP b] (.int .i64 (cj a b)) :=by
 refine bQ Tryz.checked.mixed bj ?_;apply bn Tryz.func106 [];obtain⟨A,dA⟩:∃ A,A=a.map bC:=⟨_,rfl⟩
 obtain⟨C,Mj⟩:∃ C,C=b.map bC:=⟨_,rfl⟩
 have lL:A.length=32:=by rw[dA,aw1,aE]
 have HV:C.length=32:=by rw[Mj,aw1,af]
 unfold gP;rw[<-dA,<-Mj];simp[lL,HV];refine cl 32 (fun k σ l=>σ 2=.ptr 0 0 32/\σ 3=.ptr 1 0 32/\σ 5=.int .i64 k/\l=[.cells 32 A,.cells 32 C]/\∀ j,j<k->a[j]? = b[j]?) ?_ (by simp);rintro k σ l ar ⟨aW,a6,bm,rfl,heq⟩;obtain⟨σ,rfl⟩:=lC aW a6 bm;clear aW a6 bm;have ze:=adH k heq (by omega) (by omega);by_cases h:(k:Int)<32
 ·have e6:k<32:=by omega
  have dD:IntKind.i64.wrap ((k:Int)+1)=(k+1:Nat) :=wrap_i64 (by omega) (by omega);obtain⟨x,ag,_⟩:=bJ (l:=a) (k:=k) (by omega);obtain⟨y,aI,_⟩:=bJ (l:=b) (k:=k) (by omega);have afw:A[k]? = some (bC x) :=by rw[dA,awV,ag]; rfl
  have afB:C[k]? = some (bC y) :=by rw[Mj,awV,aI]; rfl
  obtain⟨_,Mh⟩:=awQ.1 afw;obtain⟨_,Mk⟩:=awQ.1 afB;have agB:a.drop k=x::a.drop (k+1) :=by
   obtain⟨ad,ae⟩:=awQ.1 ag;rw[axC ad,ae]
  have agD:b.drop k=y::b.drop (k+1) :=by
   obtain⟨ad,ae⟩:=awQ.1 aI;rw[axC ad,ae]
  rw[agB,agD,TD] at ze;have CY:((u x:Int)<u y)<->x.toNat<y.toNat:=by unfold u; omega
  have CZ:((u y:Int)<u x)<->y.toNat<x.toNat:=by unfold u; omega
  by_cases bS:x.toNat<y.toNat
  ·rw[if_pos bS] at ze;have Hp:x<y:=bS;simp[h,e6,lL,HV,Mh,Mk,Hp];exact aU (by rw[<-ze]) rfl
  ·have Hp:¬ x<y:=bS;rw[if_neg bS] at ze;by_cases b7:y.toNat<x.toNat
   ·rw[if_pos b7] at ze;have Lu:y<x:=b7;simp[h,e6,lL,HV,Mh,Mk,Hp,Lu];exact aU (by rw[<-ze]) rfl
   ·have Lu:¬ y<x:=b7;simp[h,e6,lL,HV,Mh,Mk,Hp,Lu,dD];intro j ai;by_cases fu:j=k
    ·subst fu;rw[ag,aI];have:x=y:=aw8 (by omega);rw[this]
    ·exact heq j (by omega)
 ·have fe:k=32:=by omega
  subst fe;have:cj a b=0:=by
   rw[<-ze,ayl (by omega),ayl (by omega)]; rfl
  simp;exact aU (by rw[this]) rfl
abbrev b2 (l:List (List B)) (k:Nat) :List B:=l.getD k []
def dR (l:List (List B)) :Bool:=decide (∀ k,k<l.length->1<=k->cj (b2 l (k - 1)) (b2 l k)<0)
def Am (l:List (List B)) :Bool:=decide (∀ k,k<l.length->1<=k->¬ cj (b2 l k) (b2 l (k - 1))<0)
theorem gu {l:List (List B)} {k:Nat} {x:List B} (h:l[k]? = some x) :b2 l k=x:=by
 unfold b2; rw[aw7,h]; rfl
theorem Ke {l:List (List B)} (h:∀ k,k<l.length->1<=k->cj (b2 l (k - 1)) (b2 l k)<0) :dR l=true:=decide_eq_true h
theorem ZN {l:List (List B)} {k:Nat} (ar:k<l.length) (ad:1<=k) (h:¬ cj (b2 l (k - 1)) (b2 l k)<0) :dR l=false:=decide_eq_false fun aT=>h (aT k ar ad)
theorem aam {l:List (List B)} (h:∀ k,k<l.length->1<=k->¬ cj (b2 l k) (b2 l (k - 1))<0) :Am l=true:=decide_eq_true h
theorem aoM {l:List (List B)} {k:Nat} (ar:k<l.length) (ad:1<=k) (h:cj (b2 l k) (b2 l (k - 1))<0) :Am l=false:=decide_eq_false fun aT=>aT k ar ad h
theorem dq {x:List B} (h:x.length=32) :(a5 x).length=32:=by simp[a5,h]
theorem Zo (a:dk) (aE:ds a) (al:a.l.length<=1000000) :bw Tryz.prog GS 173 [aA a] (.bool (dR a.l)) :=by
 refine bQ Tryz.checked.mixed bj ?_;apply bn Tryz.func173 [];simp[aA];refine cl (a.l.length - 1) (fun k σ l=>σ 0=cc 32 a5 a/\σ 3=.int .i64 ((k+1:Nat) :Int)/\∀ j,j<k+1->j<a.l.length->1<=j->cj (b2 a.l (j - 1)) (b2 a.l j)<0) ?_ ⟨by simp[aA],by simp,fun j ad _ ae=>by omega⟩;rintro k σ l ar ⟨ck,a6,ak⟩;obtain⟨s,rfl⟩:=rD ck a6;clear ck a6;obtain⟨m,hm⟩:∃ m,m=k+1:=⟨_,rfl⟩
 rw[<-hm] at ak ⊢;simp;refine nE (fun h=>?_) (fun h=>?_)
 ·simp only[decide_eq_true_eq] at h;have aL:m<a.l.length:=by omega
  obtain⟨x,ag,c3⟩:=bJ (l:=a.l) (k:=k) (by omega);obtain⟨y,aI,en⟩:=bJ aL;have aS:IntKind.i64.wrap ((m:Int) - 1)=(k:Int) :=by rw[IntKind.wrap_i64]; omega
  have bt:IntKind.i64.wrap ((m:Int)+1)=((m+1:Nat) :Int) :=by rw[IntKind.wrap_i64]; omega
  have eZ:=gu ag;have tV:=gu aI;simp[aS,ag,aI,dq (aE x c3),dq (aE y en),awR];refine a7 (Py x y (aE x c3) (aE y en)) (by simp[a4,g2,U.closed,gP]) ?_;by_cases ah:cj x y<0
  ·have cP:¬ (0<=cj x y) :=by omega
   simp[cP,bt];refine⟨by omega,fun j ad ae aj=>?_⟩;have fl:cj (b2 a.l (j - 1)) (b2 a.l j)<0:=by
    by_cases ai:j=m
    ·rw[ai,show m - 1=k by omega,eZ,tV]; exact ah
    ·exact ak j (by omega) ae aj
   simpa [b2] using fl
  ·have cP:0<=cj x y:=by omega
   simp[cP];refine aU (congrArg U.bool (ZN (k:=m) aL (by omega) ?_).symm) rfl;rw[show m - 1=k by omega,eZ,tV];exact ah
 ·simp[h];exact aU (congrArg U.bool (Ke fun j ad ae=>ak j (by simp at h; omega) ad ae).symm) rfl
theorem L4:kK Tryz.prog 75=true:=by kernel_rfl
theorem ajz (a:dk) (aE:ds a) (al:a.l.length<=1000000) :bw Tryz.prog GS 135 [aA a,.fn 75 [] []] (.bool (Am a.l)) :=by
 refine bQ Tryz.checked.mixed bj ?_;apply bn Tryz.func135 [];have fA:IntKind.i64.wrap ((a.l.length:Int) - 1)=(a.l.length:Int) - 1:=by rw[IntKind.wrap_i64]; omega
 simp[aA,fA];refine cl (a.l.length - 1) (fun k σ l=>σ 0=cc 32 a5 a/\σ 1=.fn 75 [] []/\σ 5=.int .i64 ((a.l.length:Int) - 1 - k)/\∀ j,j<a.l.length->a.l.length - 1 - k<j->¬ cj (b2 a.l j) (b2 a.l (j - 1))<0) ?_ ⟨by simp[aA],by simp,by simp,fun j ad ae=>by omega⟩;rintro k σ l ar ⟨ck,aK,bm,ak⟩;obtain⟨s,rfl⟩:=lC ck aK bm;clear ck aK bm;simp;refine nE (fun h=>?_) (fun h=>?_)
 ·simp only[decide_eq_true_eq] at h;obtain⟨m,hm⟩:∃ m,m+k+2=a.l.length:=⟨a.l.length - 2 - k,by omega⟩
  have aS:((a.l.length:Int) - 1 - k)=((m+1:Nat) :Int) :=by omega
  rw[aS];obtain⟨x,ag,c3⟩:=bJ (l:=a.l) (k:=m+1) (by omega);obtain⟨y,aI,en⟩:=bJ (l:=a.l) (k:=m) (by omega);obtain⟨n,aC⟩:∃ n,n=m+1:=⟨_,rfl⟩
  rw[<-aC] at ag ⊢;have bt:IntKind.i64.wrap ((n:Int) - 1)=(m:Int) :=by rw[IntKind.wrap_i64]; omega
  have eZ:=gu ag;have tV:=gu aI;simp[bt,ag,aI,dq (aE x c3),dq (aE y en),awR];refine⟨L4,a7 (wQ x y (aE x c3) (aE y en)) (by simp[a4,g2,U.closed,gP]) ?_⟩;by_cases ah:cj x y<0
  ·simp[ah];refine aU (congrArg U.bool (aoM (k:=n) (by omega) (by omega) ?_).symm) rfl;rw[show n - 1=m by omega,eZ,tV];exact ah
  ·simp[ah,bt];refine⟨by omega,by omega,fun j ad ae=>?_⟩;have fl:¬ cj (b2 a.l j) (b2 a.l (j - 1))<0:=by
    by_cases ai:j=n
    ·rw[ai,show n - 1=m by omega,eZ,tV]; exact ah
    ·exact ak j ad (by omega)
   simpa [b2] using fl
 ·simp[h];exact aU (congrArg U.bool (aam fun j ad ae=>ak j ad (by simp at h; omega)).symm) rfl
def Ba (l:List (List B)) (k:Nat) :Bool:=decide (k+1<l.length)&&decide (0<=cj (b2 l k) (b2 l (k+1)))
theorem ZM {l:List (List B)}:dR l=true<->∀ k,k<l.length->Ba l k=false:=by
 unfold dR Ba;rw[decide_eq_true_eq];constructor
 ·intro h k ar;by_cases ad:k+1<l.length
  ·have:=h (k+1) ad (by omega);rw[Nat.add_sub_cancel] at this;rw[decide_eq_false (p:=0<=_) (by omega),Bool.and_false]
  ·simp[ad]
 ·intro h k ar ad;have:=h (k - 1) (by omega);rw[show k - 1+1=k by omega] at this;rw[decide_eq_true ar,ayn,decide_eq_false_iff_not] at this;omega
theorem anO (a:dk) (aE:ds a) (al:a.l.length<=1000000) (k:Nat) (ar:k<a.l.length) (x:List B) (ag:x.length=32) (r:ap) {K:U->ap->Prop}
  (aY:∀ r',K (.bool (Ba a.l k)) (.cells 1 [aA a] ::.cells 1 [.int .i64 ((k+1:Nat) :Int)] ::r')) :
  c5 Tryz.prog GS 187 [gP x,.ptr 1 0 1,.ptr 0 0 1] (.cells 1 [aA a] ::.cells 1 [.int .i64 (k:Int)] ::r) (c:=⟨K⟩) :=by
 apply bn Tryz.func187 [];have aS:IntKind.i64.wrap ((k:Int)+1)=((k+1:Nat) :Int) :=by rw[IntKind.wrap_i64]; omega
 obtain⟨m,hm⟩:∃ m,m=k+1:=⟨_,rfl⟩
 rw[<-hm] at aS aY;have bt:IntKind.i64.wrap ((m:Int) - 1)=(k:Int) :=by rw[IntKind.wrap_i64]; omega
 unfold Ba at aY;rw[<-hm] at aY;obtain⟨y,aI,en⟩:=bJ ar;by_cases h:m<a.l.length
 ·obtain⟨z,aw,Ca⟩:=bJ h;have tV:=gu aI;have ajC:=gu aw;rw[tV,ajC] at aY;have h' : (m:Int)<(a.l.length:Int) :=by omega
  have Fh:a.l[m]=z:=(awQ.1 aw).2;simp[gP,aA,aS,bt,h,h',aI,Fh,dq (aE y en),dq (aE z Ca),awR];refine a7 (wQ y z (aE y en) (aE z Ca)) (by simp[a4,g2,U.closed,gP]) ?_;have:=aY (r++[aV.cells x.length (List.map bC x)]);simpa [h,aA] using this
 ·have h' : ¬ (m:Int)<(a.l.length:Int) :=by omega
  simp[gP,aA,aS,bt,h,h'];have:=aY (r++[aV.cells x.length (List.map bC x)]);simpa [h,aA] using this
theorem ae0:kK Tryz.prog 187=true:=by kernel_rfl
theorem anQ (a:dk) (aE:ds a) (al:a.l.length<=1000000) {K:U->ap->Prop} (aY:∀ n r',(n<0<->dR a.l=true)->K (.int .i64 n) r') :
  c5 Tryz.prog GS 101 [aA a,.fn 187 [] [.ptr 1 0 1,.ptr 0 0 1]] [.cells 1 [aA a],.cells 1 [.int .i64 0]] (c:=⟨K⟩) :=by
 apply bn Tryz.func101 [];simp[aA];refine cl a.l.length (fun k σ l=>σ 0=cc 32 a5 a/\σ 1=.fn 187 [] [.ptr 1 0 1,.ptr 0 0 1]/\σ 7=.int .i64 a.l.length/\σ 8=.int .i64 k/\(∃ r,l=.cells 1 [aA a] ::.cells 1 [.int .i64 (k:Int)] ::r)/\∀ j,j<k->Ba a.l j=false) ?_ ⟨by simp[aA],by simp,by simp,by simp,⟨[],by simp[aA]⟩,fun j h=>by omega⟩;rintro k σ l ar ⟨ck,aK,ei,fT,⟨r,rfl⟩,ak⟩;obtain⟨s,rfl⟩:=ij ck aK ei fT;clear ck aK ei fT;simp;refine nE (fun h=>?_) (fun h=>?_)
 ·simp only[decide_eq_true_eq] at h;obtain⟨x,ag,c3⟩:=bJ (l:=a.l) (k:=k) (by omega);have aS:IntKind.i64.wrap ((k:Int)+1)=((k+1:Nat) :Int) :=by rw[IntKind.wrap_i64]; omega
  simp[ag,dq (aE x c3),awR];refine⟨ae0,anO a aE al k (by omega) x (aE x c3) r fun r'=>?_⟩;cases bg:Ba a.l k with
  | true=>
   simp;refine aY _ _ ⟨fun aC=>by omega,fun az=>?_⟩;have:=ZM.1 az k (by omega);rw[bg] at this; cases this
  | false=>
   simp[aS];refine⟨by omega,fun j ai=>?_⟩;by_cases fu:j=k
   ·subst fu; exact bg
   ·exact ak j (by omega)
 ·simp[h];refine aY _ _ ⟨fun _=>ZM.2 fun j ai=>ak j (by simp at h; omega),fun _=>by omega⟩
theorem anP (a:dk) (aE:ds a) (al:a.l.length<=1000000) {K:U->ap->Prop} (aY:∀ r',K (.bool (!dR a.l)) r') :
  c5 Tryz.prog GS 97 [aA a,.fn 187 [] [.ptr 1 0 1,.ptr 0 0 1]] [.cells 1 [aA a],.cells 1 [.int .i64 0]] (c:=⟨K⟩) :=by
 apply bn Tryz.func97 [];simp;refine anQ a aE al fun n r' aC=>?_
 have e:decide (0<=n)=!dR a.l:=by
  cases az:dR a.l with
  | true=>have:=aC.2 az; simp; omega
  | false=>
   have:¬ n<0:=fun h=>by have:=aC.1 h; rw[az] at this; cases this
   simp; omega
 simp[e];exact aY r'
theorem anR (a:dk) (aE:ds a) (al:a.l.length<=1000000) :bw Tryz.prog GS 152 [aA a] (.bool (dR a.l)) :=by
 refine bQ Tryz.checked.mixed bj ?_;apply bn Tryz.func152 [];have ah:(aA a).cells=some [aA a] :=by cases a<;>rfl
 simp[ah];refine anP a aE al fun r'=>?_
 simp;exact aU rfl rfl
def sy (l:List (List B)) :List B:=eD l.length++l.flatten
theorem Tt:∀ (x:List B),mJ 1 x.length (x.map bC)=x.map cb
 | []=>rfl
 | b::r=>by
  show ((bC b::r.map bC).take 1) ::mJ 1 r.length ((bC b::r.map bC).drop 1)=_;simp[Tt r,cb]
theorem adv {x:List B} (h:x.length=32) :mJ 1 32 (a5 x)=x.map cb:=by
 have:=Tt x;rw[h] at this;exact this
theorem N4 {l:List (List B)} (h:∀ x∈l,x.length=32) :l.flatten.length=l.length*32:=qM h
theorem aaO {l:List (List B)} {k:Nat} {x:List B} (h:l[k]? = some x) :(l.take (k+1)).flatten=(l.take k).flatten++x:=by
 rw[axe,h]; simp
theorem aoA {x:List B} (h:x.length=32) :fm (.arr 32 1) (.bM (a5 x) 0) none none none=some (.a1 1 (x.map cb)) :=by
 have:=adv h;have af:hc 32 32 none none none=some (0,32,32) :=rfl;unfold fm;simp only[af];simp[dq h,this]
structure abW (l:ap) (s:dk) (k:Nat) (σ:bc) (l1:ap) :Prop where
 ck:σ 0=cc 32 a5 s
 bi:σ 4=.int .i64 k
 ub:∃ v,σ 3=v/\cJ 1 cb l l1 v (eD s.l.length++(s.l.take k).flatten) false
theorem am0 (s:dk) (av:ds s) (ak:s.l.length<=1000) {l:ap} {K:U->ap->Prop} (aY:∀ v l',cJ 1 cb l l' v (sy s.l) false->K v l') :
  c5 Tryz.prog GS 224 [aA s] l (c:=⟨K⟩) :=by
 apply bn Tryz.func224 [];have az:ci=140737488355328:=rfl;have aC:(BitVec.ofNat 64 s.l.length).toNat=s.l.length:=by rw[axf]; exact aw2 (by omega)
 have km:=iM s.l.length;simp[aA];refine x2 _ fun v l' h=>?_
 rw[aC] at h;simp;refine cl s.l.length (abW l s) ?_ ⟨by simp[aA],by simp,v,by simp,by simpa using h⟩;rintro k σ l1 ar ⟨ck,bi,v,a6,fC⟩;obtain⟨σ,rfl⟩:=lC ck a6 bi;clear ck a6 bi;simp;refine nE (fun h=>?_) (fun h=>?_)
 ·simp only[decide_eq_true_eq] at h;obtain⟨x,ag,c3⟩:=bJ (l:=s.l) (k:=k) (by omega);have aS:IntKind.i64.wrap ((k:Int)+1)=((k+1:Nat) :Int) :=by rw[IntKind.wrap_i64]; omega
  have hu:((s.l.take k).flatten).length<=32000:=by
   rw[N4 (fun y aI=>av y (axp aI)),axd]; omega
  obtain⟨v',br,a8,bh,_⟩:=fC.app (by_:=1) (x:=.a1 1 (x.map cb)) (xs:=x) (by simp[de]) (by simp[cb]) (by omega) (by omega) (by rw[az,av x c3]; simp only[awW]; omega);simp[ag,dq (av x c3),awR,aoA (av x c3),a8];refine cU.b1 ?_;simp[aS];exact⟨by omega,by simp,by simp,v',by simp,by rw[aaO ag,<-axH]; exact bh⟩
 ·simp[h];have aX:s.l.take k=s.l:=awR (by simp at h; omega);rw[aX] at fC;exact aY _ _ fC
structure abX (l:ap) (s:dk) (k:Nat) (σ:bc) (l1:ap) :Prop where
 qQ:σ 17=cc 32 a5 s
 qR:σ 18=.int .i64 s.l.length
 qS:σ 19=.int .i64 k
 ub:∃ v,σ 4=v/\cJ 1 cb l l1 v (eD s.l.length++(s.l.take k).flatten) false
theorem ap6 (s:dk) (av:ds s) (ak:s.l.length<=60) (az:dR s.l=true) {l:ap} {K:U->ap->Prop} (aY:∀ v l',cJ 1 cb l l' v (sy s.l) false->K (.bq [v,.int .i64 0]) l') :
  c5 Tryz.prog GS 109 [aA s] l (c:=⟨K⟩) :=by
 apply bn Tryz.func109 [];have xm:ci=140737488355328:=rfl;have aC:(BitVec.ofNat 64 s.l.length).toNat=s.l.length:=by rw[axf]; exact aw2 (by omega)
 have km:=iM s.l.length;have o1:¬ (60:Int)<(s.l.length:Int) :=by omega
 simp[aA,o1];refine a7 (anR s av (by omega)) (by have:=dd s; simp[a4]; exact this) ?_;simp[az,aA];refine Ax _ fun v l' h=>?_
 rw[aC] at h;simp[aA];refine cl s.l.length (abX l s) ?_ ⟨by simp[aA],by simp,by simp,v,by simp,by simpa using h⟩;rintro k σ l1 ar ⟨qQ,qR,qS,v,bi,fC⟩;obtain⟨σ,rfl⟩:=ij qQ qR qS bi;clear qQ qR qS bi;simp;refine nE (fun h=>?_) (fun h=>?_)
 ·simp only[decide_eq_true_eq] at h;obtain⟨x,ag,c3⟩:=bJ (l:=s.l) (k:=k) (by omega);have aS:IntKind.i64.wrap ((k:Int)+1)=((k+1:Nat) :Int) :=by rw[IntKind.wrap_i64]; omega
  have hu:((s.l.take k).flatten).length<=32000:=by
   rw[N4 (fun y aI=>av y (axp aI)),axd]; omega
  obtain⟨v',br,a8,bh,_⟩:=(fC.more [.cells 32 (a5 x)]).app (by_:=1) (x:=.aq 1 l1.length 0 32 32 32) (xs:=x) (by simp[de,av x c3,dq (av x c3),awR,a5,DL]) (by simp[cb]) (by omega) (by omega) (by rw[xm,av x c3]; simp only[awW]; omega);have ll:bf (rep 32 (.int .u8 0)) 0 (a5 x)=a5 x:=gw (by rw[dq (av x c3)]; rfl);simp[ag,dq (av x c3),awR,P2,ll,a8];refine cU.b1 ?_;simp[aS];exact⟨by omega,by simp,by simp,by simp,v',by simp,by rw[aaO ag,<-axH]; exact bh⟩
 ·simp[h];have aX:s.l.take k=s.l:=awR (by simp at h; omega);rw[aX] at fC;exact aY _ _ fC
def fx (s:List UInt8) :List B:=s.map fun b=>b.toBitVec
theorem Ku (s:List UInt8) :(s.map fun b=>[jP b])=(fx s).map cb:=by
 unfold fx;rw[ayv];rfl
theorem rz (s:List UInt8) :(fx s).length=s.length:=by simp[fx]
def pB (b:Q) (k:Nat) :List B:=(List.range k).map fun i=>mI b.toNat (7 - i)
def jL (v:i9) :List B:=v.kind::(if v.kind=1#8 then eD (nM v.num).toNat else if v.kind=2#8 then pB v.bits 8 else jK (fx v.text))
def O0 (v:i9) :Prop:=-9223372036854775808<=v.num/\v.num<9223372036854775808/\v.text.length<=10000
theorem Ru (b:Q) (k:Nat) :pB b (k+1)=pB b k++[mI b.toNat (7 - k)] :=by
 unfold pB; rw[ayP,axc]; rfl
theorem Yp (l:ap) (c:aV) (x:B) :cJ 1 cb l (l++[c,.cells 1 [bC x]]) (.aq 1 (l.length+1) 0 1 1 1) [x] false:=by
 exact⟨l.length+1,sK (n:=1) (a:=[x]) rfl (by simp),by simp,fun b af=>awS af,.inr (by omega),rfl⟩
theorem vW (l:ap) (c:aV) (x:B) :cJ 1 cb (l++[c]) (l++[c,.cells 1 [bC x]]) (.aq 1 (l.length+1) 0 1 1 1) [x] false:=by
 have e:l++[c,.cells 1 [bC x]]=(l++[c])++[.cells 1 [bC x]] :=by simp
 exact⟨l.length+1,sK (n:=1) (a:=[x]) rfl (by simp),by simp,fun b af=>by rw[e]; exact awS af,.inr (by simp),rfl⟩
structure abN (l:ap) (v:i9) (p:Nat) (k:Nat) (σ:bc) (l1:ap) :Prop where
 aK:σ 1=.ptr p 0 4
 bi:σ 4=.int .i64 (7 - (k:Int))
 ub:∃ w,σ 3=w/\cJ 1 cb (l++[.cells 4 (fk v)]) l1 w (v.kind::pB v.bits k) false
theorem ank (v:i9) (ao:O0 v) {l:ap} {K:U->ap->Prop} (aY:∀ w l',cJ 1 cb l l' w (jL v) false->K w l') :
  c5 Tryz.prog GS 226 [.aH (fk v)] l (c:=⟨K⟩) :=by
 apply bn Tryz.func226 [];have az:ci=140737488355328:=rfl;have aJ:=Yp l (.cells 4 (fk v)) v.kind;obtain⟨pS,vt,aX⟩:=ao;have ah:wY (.str v.text)=some (.a1 1 ((fx v.text).map cb)) :=by
  show some (U.a1 1 (v.text.map fun b=>[jP b]))=_;rw[Ku]
 by_cases bS:v.kind=1#8
 ·have om:jL v=[v.kind]++eD (nM v.num).toNat:=by unfold jL; rw[if_pos bS]; rfl
  have aS:(u v.kind:Int)=1:=(i4 v.kind).2 bS;simp only[bC,aS] at aJ;have km:=iM (nM v.num).toNat
  simp[fk,aS];refine ane v.num pS vt fun w l' h=>?_
  obtain⟨v',br,a8,bh,_⟩:=(aJ.frame h.le h.same).app (by_:=1) (x:=w) (xs:=eD (nM v.num).toNat) h.contents (by simp[cb]) (by omega) (by omega) (by rw[az]; simp only[axa,axB]; omega);simp[a8];refine cU.b1 ?_;simp;exact aY _ _ (by rw[om]; exact bh)
 ·have aS:¬ (u v.kind:Int)=1:=fun h=>bS ((i4 v.kind).1 h)
  by_cases b7:v.kind=2#8
  ·have bt:(u v.kind:Int)=2:=(mF v.kind).2 b7;have om:jL v=v.kind::pB v.bits 8:=by unfold jL; rw[if_neg bS,if_pos b7]
   have ae:=vW l (.cells 4 (fk v)) v.kind;simp only[bC,bt] at ae;simp[fk,bt];refine cl 8 (abN l v l.length) ?_ ⟨by simp,by simp,_,by simp,ae⟩;rintro k σ l1 ar ⟨aK,bi,w,a6,fC⟩;have au:l1[l.length]? = some (.cells 4 (fk v)) :=by rw[fC.same l.length (by simp)]; simp
   obtain⟨σ,rfl⟩:=lC aK a6 bi;clear aK a6 bi;by_cases iJ:k=8
   ·subst iJ;rw[<-om] at fC;simp;exact aY _ _ (fC.base (by simp) fun b af=>awS af)
   ·obtain⟨m,hm⟩:∃ m,m+k=7:=⟨7 - k,by omega⟩
    have em:7 - (k:Int)=(m:Int) :=by omega
    have LR:IntKind.i64.wrap ((m:Int) - 1)=(m:Int) - 1:=by rw[IntKind.wrap_i64]; omega
    have aep:IntKind.i64.wrap (8*(m:Int))=((8*m:Nat) :Int) :=by rw[IntKind.wrap_i64]; omega
    have rF:cy .shr .u64 (u v.bits) .i64 ((8*m:Nat) :Int)=some (.int .u64 (u (v.bits >>> (8*m)))) :=wF v.bits .i64 (8*m);have sZ:=Ho v.bits m;have bA:(v.kind::pB v.bits k).length<=1000000000:=by simp[pB]; omega
    obtain⟨w',l',a8,bh⟩:=cJ.push fC (mI v.bits.toNat m) bA;rw[em];simp[fk] at au;simp[au,aep,rF,sZ,a8,-Int.natCast_mul];refine cU.b1 ?_;simp[LR];exact⟨by omega,by simp,by simp; omega,w',by simp,by rw[Ru,show 7 - k=m by omega]; exact bh⟩
  ·have bt:¬ (u v.kind:Int)=2:=fun h=>b7 ((mF v.kind).1 h)
   have om:jL v=[v.kind]++jK (fx v.text) :=by unfold jL; rw[if_neg bS,if_neg b7]; rfl
   have ln:(jK (fx v.text)).length<=20000:=by
    have:=iM (fx v.text).length;unfold jK;rw[awW];have:=rz v.text;omega
   simp[fk,aS,bt,ah];refine Zq (some (fx v.text)) (by simpa [rz] using aX) (by simp[de]) (by simp) (fun l' _ _=>by simp[de]) fun w l' h=>?_
   obtain⟨v',br,a8,bh,_⟩:=(aJ.frame h.le h.same).app (by_:=1) (x:=w) (xs:=jK (fx v.text)) h.contents (by simp[cb]) (by omega) (by omega) (by rw[az]; simp only[axa,axB]; omega);simp[a8];refine cU.b1 ?_;simp;exact aY _ _ (by rw[om]; exact bh)
structure abO (l:ap) (v:i9) (p:Nat) (k:Nat) (σ:bc) (l1:ap) :Prop where
 aK:σ 1=.ptr p 0 4
 cD:σ 6=.int .i64 (8*(7 - (k:Int)))
 ub:∃ w,σ 5=w/\cJ 1 cb (l++[.cells 4 (fk v)]) l1 w (v.kind::pB v.bits k) false
theorem ajY {v:i9} (h:lD v=true) (bS:¬ v.kind=1#8) (b7:¬ v.kind=2#8) :v.kind=3#8:=by
 unfold lD at h;simp[bS,b7] at h;exact h.1
theorem aqa (v:i9) (ao:O0 v) (cM:lD v=true) {l:ap} {K:U->ap->Prop} (aY:∀ w l',cJ 1 cb l l' w (jL v) false->K (.bq [w,.int .i64 0]) l') :
  c5 Tryz.prog GS 113 [.aH (fk v)] l (c:=⟨K⟩) :=by
 apply bn Tryz.func113 [];have az:ci=140737488355328:=rfl;have aJ:=Yp l (.cells 4 (fk v)) v.kind;obtain⟨pS,vt,aX⟩:=ao;have ah:wY (.str v.text)=some (.a1 1 ((fx v.text).map cb)) :=by
  show some (U.a1 1 (v.text.map fun b=>[jP b]))=_;rw[Ku]
 have fc:=aa7 v;rw[cM] at fc;by_cases bS:v.kind=1#8
 ·have om:jL v=[v.kind]++eD (nM v.num).toNat:=by unfold jL; rw[if_pos bS]; rfl
  have aS:(u v.kind:Int)=1:=(i4 v.kind).2 bS;simp only[bC,aS] at aJ;have km:=iM (nM v.num).toNat
  simp[fk];refine a7 fc rfl ?_;simp[ni,aS];refine ap9 v.num pS vt fun w l' h=>?_
  obtain⟨v',br,a8,bh,_⟩:=(aJ.frame h.le h.same).app (by_:=1) (x:=w) (xs:=eD (nM v.num).toNat) h.contents (by simp[cb]) (by omega) (by omega) (by rw[az]; simp only[axa,axB]; omega);simp[a8];refine cU.b1 ?_;simp;exact aY _ _ (by rw[om]; exact bh)
 ·have aS:¬ (u v.kind:Int)=1:=fun h=>bS ((i4 v.kind).1 h)
  by_cases b7:v.kind=2#8
  ·have bt:(u v.kind:Int)=2:=(mF v.kind).2 b7;have om:jL v=v.kind::pB v.bits 8:=by unfold jL; rw[if_neg bS,if_pos b7]
   have ae:=vW l (.cells 4 (fk v)) v.kind;simp only[bC,bt] at ae;simp[fk];refine a7 fc rfl ?_;simp[ni,bt];refine cl 8 (abO l v l.length) ?_ ⟨by simp,by simp,_,by simp,ae⟩;rintro k σ l1 ar ⟨aK,cD,w,bm,fC⟩;have au:l1[l.length]? = some (.cells 4 (fk v)) :=by rw[fC.same l.length (by simp)]; simp
   obtain⟨σ,rfl⟩:=lC aK bm cD;clear aK bm cD;by_cases iJ:k=8
   ·subst iJ;rw[<-om] at fC;simp;exact aY _ _ (fC.base (by simp) fun b af=>awS af)
   ·obtain⟨m,hm⟩:∃ m,m+k=7:=⟨7 - k,by omega⟩
    obtain⟨n,aC⟩:∃ n,n=8*m:=⟨_,rfl⟩
    have em:8*(7 - (k:Int))=(n:Int) :=by omega
    have LR:IntKind.i64.wrap ((n:Int) - 8)=(n:Int) - 8:=by rw[IntKind.wrap_i64]; omega
    have rF:cy .shr .u64 (u v.bits) .i64 (n:Int)=some (.int .u64 (u (v.bits >>> n))) :=wF v.bits .i64 n;have sZ:=Ho v.bits m;rw[<-aC] at sZ;have bA:(v.kind::pB v.bits k).length<=1000000000:=by simp[pB]; omega
    obtain⟨w',l',a8,bh⟩:=cJ.push fC (mI v.bits.toNat m) bA;rw[em];simp[fk] at au;simp[au,rF,sZ,a8];refine cU.b1 ?_;simp[LR];exact⟨by omega,by simp,by simp; omega,w',by simp,by rw[Ru,show 7 - k=m by omega]; exact bh⟩
  ·have bt:¬ (u v.kind:Int)=2:=fun h=>b7 ((mF v.kind).1 h)
   have er:(u v.kind:Int)=3:=(ql v.kind).2 (ajY cM bS b7);have om:jL v=[v.kind]++jK (fx v.text) :=by unfold jL; rw[if_neg bS,if_neg b7]; rfl
   have ln:(jK (fx v.text)).length<=20000:=by
    have:=iM (fx v.text).length;unfold jK;rw[awW];have:=rz v.text;omega
   simp only[bC,er] at aJ;simp[fk];refine a7 fc rfl ?_;simp[ni,er,ah];refine abi (some (fx v.text)) (by simpa [rz] using aX) (by simp[de]) (by simp) (fun l' _ _=>by simp[de]) fun w l' h=>?_
   obtain⟨v',br,a8,bh,_⟩:=(aJ.frame h.le h.same).app (by_:=1) (x:=w) (xs:=jK (fx v.text)) h.contents (by simp[cb]) (by omega) (by omega) (by rw[az]; simp only[axa,axB]; omega);simp[a8];refine cU.b1 ?_;simp;exact aY _ _ (by rw[om]; exact bh)
structure bu where
 hq:D
 bo:dk
 iD:Q
 act:Act
 e:D
 s:D
def bd (o:bu) :List U:=[bx o.hq,aA o.bo,ea o.iD,bC o.act.kind,.str o.act.key,bC o.act.val.kind,.int .i64 o.act.val.num,ea o.act.val.bits,.str o.act.val.text,bx o.e,bx o.s]
structure jr (o:bu) :Prop where
 ids:ds o.bo
 len:o.bo.l.length<=1000000
 val:O0 o.act.val
 key:o.act.key.length<=10000
def u4 (o:bu) :Bool:=gQ o.hq&&(decide (o.iD.toNat<=1000000000000)&&(lG o.act&&(jQ o.e&&jQ o.s)))
def hC (o:bu) :Int:=if 4<o.bo.l.length then 4 else if dR o.bo.l then (if u4 o then 0 else 8) else 32
theorem mK (o:bu) :a4 (bd o)=true:=by
 have:=dd o.bo;simp[bd,a4,U.closed,this]
theorem am3 (o:bu) (av:jr o) :bw Tryz.prog GS 169 [.aH (bd o)] (.int .i64 (hC o)) :=by
 refine bQ Tryz.checked.mixed bj ?_;apply bn Tryz.func169 [];unfold hC;have eb:=dd o.bo;have bA:cp (.aq 32) (aA o.bo)=some (.int .i64 o.bo.l.length) :=by simp[aA]
 have mg:(aA o.bo).cells=some [aA o.bo] :=by cases o.bo<;>rfl
 obtain⟨p,au⟩:∃ p,p=aA o.bo:=⟨_,rfl⟩
 by_cases ad:4<o.bo.l.length
 ·have dX:(4:Int)<(o.bo.l.length:Int) :=by omega
  rw[if_pos ad];simp[bd,bA,dX];exact aU rfl rfl
 ·have dX:¬ (4:Int)<(o.bo.l.length:Int) :=by omega
  rw[if_neg ad];simp[bd,bA,dX];refine a7 (Zo o.bo av.ids av.len) (by simp[a4,eb]) ?_;cases ae:dR o.bo.l with
  | false=>
   simp;exact aU rfl rfl
  | true=>
   simp;refine a7 (Zz o.hq) rfl ?_;unfold u4;cases aj:gQ o.hq with
   | false=>
    simp;exact aU rfl rfl
   | true=>
    have bE:((1000000000000:Int)<u o.iD)<->¬ o.iD.toNat<=1000000000000:=by unfold u; omega
    by_cases aD:o.iD.toNat<=1000000000000
    ·have pI:¬ ((1000000000000:Int)<u o.iD) :=fun h=>bE.1 h aD
     simp[aD,pI];refine a7 (anA o.act) rfl ?_;cases a2:lG o.act with
     | false=>
      simp[ni];exact aU rfl rfl
     | true=>
      simp[ni];refine a7 (HJ o.e) rfl ?_;cases bv:jQ o.e with
      | false=>
       simp;exact aU rfl rfl
      | true=>
       simp;refine a7 (HJ o.s) rfl ?_;cases dr:jQ o.s with
       | false=>
        simp;exact aU rfl rfl
       | true=>
        simp;exact aU (by rw[if_pos aD]) rfl
    ·have pI:(1000000000000:Int)<u o.iD:=bE.2 aD;simp[aD,pI];exact aU rfl rfl
end Op

end Go.bV

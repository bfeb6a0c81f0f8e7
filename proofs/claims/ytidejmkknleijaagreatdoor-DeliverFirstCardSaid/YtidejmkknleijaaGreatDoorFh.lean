/-
  Contracts for calls that are carried out: bytes, ids, SHA-256.
-/
import Derived.Test.YtidejmkknleijaaGreatDoorFg
import Derived.Shelf.Spec.SlicesInsertGrow
import Derived.Lib.DecodeN
set_option linter.unusedVariables false
set_option linter.unusedSimpArgs false
set_option linter.unnecessarySimpa false
namespace Go.bY
open Go Go.Proofs
set_option maxRecDepth 100000
open hl
def Fc:U->Option B
 | .int .u8 (.ofNat n)=>match Nat.ble n 255 with | true=>some (BitVec.ofNat 8 n) | false=>none
 | _=>none
theorem ZG {c:U} {b:B} (h:Fc c=some b) :c=bz b:=by
 unfold Fc at h;split at h
 ·split at h
  ·rename_i n _ aC;have:=at2 aC;cases h;simp only[bz,u,atm];congr 1;show (n:Int)=((n % 2 ^ 8:Nat) :Int)
   rw[atb (show n<2 ^ 8 by omega)]
  ·cases h
 ·cases h
def Pk:List U->Option (List B)
 | []=>some []
 | c::r=>match Fc c with
  | some b=>match Pk r with | some l=>some (b::l) | none=>none
  | none=>none
def mO:U->Option (List B)
 | .aG cs=>match Pk cs with | some l=>(match Nat.beq l.length 32 with | true=>some l | false=>none) | none=>none
 | _=>none
def H7:List (List U)->Option (List B)
 | []=>some []
 | [c] ::r=>match Fc c with
  | some b=>match H7 r with | some l=>some (b::l) | none=>none
  | none=>none
 | _=>none
theorem Xc:∀ {es:List (List U)} {l:List B},H7 es=some l->es=l.map b7
 | [],l,h=>by cases h; rfl
 | e::r,l,h=>by
  unfold H7 at h;split at h
  ·rename_i aQ; cases aQ
  ·rename_i c cx aQ;cases aQ;split at h
   ·rename_i b af;split at h
    ·rename_i l' al;cases h;rw[ZG af,Xc al]; rfl
    ·cases h
   ·cases h
  ·cases h
def Fj:U->Option eH
 | .aH=>some none
 | .aX 1 es=>match H7 es with | some l=>some (some l) | none=>none
 | _=>none
theorem Pn {c:U} {s:eH} (h:Fj c=some s) :c=cz s:=by
 unfold Fj at h;split at h
 ·cases h; rfl
 ·split at h
  ·rename_i l al;cases h;rw[Xc al]; rfl
  ·cases h
 ·cases h
def XP:List U->Option U
 | [c]=>match Fj c with
  | some s=>match Nat.ble s.l.length 10000 with | true=>some (.bv [gp (iM s.l),.int .i64 0]) | false=>none
  | none=>none
 | _=>none
abbrev jl:FuncId × Bool × (List U->Option U) :=(85,false,XP)
theorem yJ:s3 Tryz.prog GS jl:=by
 intro args r h;refine⟨?_,fun h=>by cases h⟩;simp only[XP] at h;split at h
 ·split at h
  ·rename_i c s ak;split at h
   ·rename_i aC;cases h;rw[Pn ak];exact XT s (at2 aC)
   ·cases h
  ·cases h
 ·cases h
end Go.bY

namespace Go.bY
open Go Go.Proofs Go.Shelf Go.RowKit Go.Lib
set_option maxRecDepth 100000
set_option maxHeartbeats 4000000
theorem agh (base:Option Addr) (n c ec fa g7:Nat) (r:Value) (w w' : World) (aC:n<=c) (tp:n<=4611686018427387904) (ip:base=none->n=0/\c=0)
  (fJ:(Builtin.append_ #[23,23] 23 #[.slice base n c,.slice (some ⟨fa,g7,none⟩) 1 ec]).run Tryz.prog w=.ok r w') :
  Calls Tryz.prog 126 #[.slice base n c,.int .i64 n,.slice (some ⟨fa,g7,none⟩) 1 ec] w fun e w2=>e=.returned r/\w2=w':=by
 have yM:=Tryz.underlying23;have mixed:=Tryz.checked.mixed
 go_enter Tryz.func126,Tryz.ntmps126
 cases base with
 | none=>
  obtain⟨aI,ad⟩:=ip rfl;subst aI ad
  go_wp2_with (at_builtin; refine Lib.wpList_append_run _ rfl _ _ _ _ rfl _ _ rfl rfl _ _ fJ ?_)
  go_ret
  exact⟨rfl,rfl⟩
 | some a=>
  obtain⟨ab,Zv,ZC⟩:=a
  go_wp2_with (at_builtin; refine Lib.wpList_append_run _ rfl _ _ _ _ rfl _ _ rfl rfl _ _ fJ ?_)
  all_goals (go_ret; exact⟨rfl,rfl⟩)
theorem agm (b off n c i fa g7 ec:Nat) (bU b8:Value) (w cC dG:World) (yK fi:TypeId) (p2 sv:Nat) (az:i<n) (dy:n+1<=c) (tp:n<=4611686018427387904) (nt:fa≠b)
  (Ls:w.shape? fa=some (yK,p2)) (Dk:w.shape? b=some (fi,sv)) (KS:sv≠0) (xL:w.frozen? ⟨fa,g7,none⟩=false) (xM:w.frozen? ⟨fa,p2,none⟩=false)
  (pM:(Builtin.copy_ #[23,23] 3 #[.slice (some ⟨b,off+(i+1)*32,none⟩) (n - i) (c - (i+1)),.slice (some ⟨b,off+i*32,none⟩) (n+1 - i) (c - i)]).run Tryz.prog w.drew=.ok bU cC)
  (pN:(Builtin.copy_ #[23,23] 3 #[.slice (some ⟨b,off+i*32,none⟩) (n+1 - i) (c - i),.slice (some ⟨fa,g7,none⟩) 1 ec]).run Tryz.prog cC=.ok b8 dG) :
  Calls Tryz.prog 126 #[.slice (some ⟨b,off,none⟩) n c,.int .i64 i,.slice (some ⟨fa,g7,none⟩) 1 ec] w fun e w2=>e=.returned (.slice (some ⟨b,off,none⟩) (n+1) c)/\w2=dG:=by
 have yM:=Tryz.underlying23;have lZ:∀ w,(Go.sizeOf 61).run Tryz.prog w=.ok 32 w:=fun w=>fD (by kernel_rfl)
 have mixed:=Tryz.checked.mixed;have Dc:∀ lb ly,(callFunc 165 #[.slice (some ⟨fa,g7,none⟩) 1 ec,.slice (some ⟨b,off+(i+1)*32,none⟩) lb ly]).run Tryz.prog w=.ok (.value (.bool false)) w:=fun lb ly=>by
  rw[run_callFunc_extern Tryz.func165 (by kernel_rfl) (by kernel_rfl) (by kernel_rfl) (e:=Extern.SlicesOverlaps.overlaps #[23,23] #[4]) (by kernel_rfl),
   Lib.run_overlaps_apart w 23 4 61 yM 32 lZ ⟨fa,g7,none⟩ ⟨b,off+(i+1)*32,none⟩ 1 ec lb ly nt yK fi p2 sv Ls Dk KS xL xM]
  rfl
 have p1:¬ ((i:Int)=(n:Int)) :=by omega
 have nu:IntKind.i64.wrap ((i:Int)+1)=(i:Int)+1:=by rw[IntKind.wrap_i64]; omega
 have la:IntKind.i64.wrap ((n:Int)+1)=(n:Int)+1:=by rw[IntKind.wrap_i64]; omega
 have gd:(0:Int)<=(i:Int)+1:=by omega
 have cZ:i<=n:=by omega
 have G6:((i:Int)+1).toNat=i+1:=by omega
 have dX:¬ (c=i+1) :=by omega
 have tv:(i:Int)<=(n:Int)+1:=by omega
 have CG:¬ (c=i) :=by omega
 have ac6:¬ ((c:Int)<(n:Int)+1) :=by omega
 go_enter Tryz.func126,Tryz.ntmps126
 go_wp2_with (simp only[Dc])
 go_region_law_o (refine step_copy_runI rfl _ _ 23 23 rfl _ _ (by simp[Act.eval,Act.put]) (by simp[Act.eval,Act.put]) pM ?_)
 go_wp2_with (at_builtin; refine wpList_copy_runI _ rfl _ _ 23 23 rfl _ _ rfl rfl pN ?_)
 go_ret
 exact⟨rfl,rfl⟩
theorem agj (b off n c i fa g7 ec N G:Nat) (bU b8:Value) (w qz cC dG:World) (az:i<n) (GK:n<=c) (dy:c<n+1) (h4:n+1<=G) (tp:n<=4611686018427387904)
  (lE:(Builtin.append_ #[23,3] 23 #[.slice (some ⟨b,off,none⟩) i c,.int .i64 ((n:Int)+1 - (i:Int))]).run Tryz.prog w=.ok (.slice (some ⟨N,0,none⟩) (n+1) G) qz)
  (pM:(Builtin.copy_ #[23,23] 3 #[.slice (some ⟨N,i*32,none⟩) (n+1 - i) (G - i),.slice (some ⟨fa,g7,none⟩) 1 ec]).run Tryz.prog qz=.ok bU cC)
  (pN:(Builtin.copy_ #[23,23] 3 #[.slice (some ⟨N,(i+1)*32,none⟩) (n - i) (G - (i+1)),.slice (some ⟨b,off+i*32,none⟩) (n - i) (c - i)]).run Tryz.prog cC.drew=.ok b8 dG) :
  Calls Tryz.prog 126 #[.slice (some ⟨b,off,none⟩) n c,.int .i64 i,.slice (some ⟨fa,g7,none⟩) 1 ec] w fun e w2=>e=.returned (.slice (some ⟨N,0,none⟩) (n+1) G)/\w2=dG:=by
 have yM:=Tryz.underlying23;have lZ:∀ w,(Go.sizeOf 61).run Tryz.prog w=.ok 32 w:=fun w=>fD (by kernel_rfl)
 have mixed:=Tryz.checked.mixed;have p1:¬ ((i:Int)=(n:Int)) :=by omega
 have nu:IntKind.i64.wrap ((i:Int)+1)=(i:Int)+1:=by rw[IntKind.wrap_i64]; omega
 have la:IntKind.i64.wrap ((n:Int)+1)=(n:Int)+1:=by rw[IntKind.wrap_i64]; omega
 have afI:IntKind.i64.wrap ((n:Int)+1 - (i:Int))=(n:Int)+1 - (i:Int) :=by rw[IntKind.wrap_i64]; omega
 have gd:(0:Int)<=(i:Int)+1:=by omega
 have cZ:i<=n:=by omega
 have G6:((i:Int)+1).toNat=i+1:=by omega
 have acG:¬ (G=i) :=by omega
 have acH:¬ (G=i+1) :=by omega
 have fW:¬ (c=i) :=by omega
 have LN:(c:Int)<(n:Int)+1:=by omega
 have tv:(i:Int)<=(n:Int) :=by omega
 have ac7:(i:Int)<=(c:Int) :=by omega
 go_enter Tryz.func126,Tryz.ntmps126
 go_wp2_with (first
  | (at_builtin; refine Lib.wpList_append_run _ rfl _ _ _ _ rfl _ _ rfl rfl _ _ lE ?_)
  | (at_builtin; refine wpList_copy_runI _ rfl _ _ 23 23 rfl _ _ rfl rfl pM ?_))
 go_region_law_o (refine step_copy_runI rfl _ _ 23 23 rfl _ _ (by simp[Act.eval,Act.put]) (by simp[Act.eval,Act.put]) pN ?_)
 go_wp2
 go_ret
 exact⟨rfl,rfl⟩
theorem aga:Bq Tryz.prog 126 23 3 61 32:=
 ⟨Tryz.underlying23,Tryz.underlying3,agh,agm,agj⟩
theorem af7 {G:Nat->U} (args:List U) (h:aM) (r:U) (h' : aM) (ag:sq 32 32 args h=some (r,h')) :qq Tryz.prog G 126 args h r h':=
 UE aga (by kernel_rfl) (by kernel_rfl) (by kernel_rfl) (by omega) (by omega) (by kernel_rfl) args h r h' ag
theorem agi (base:Option Addr) (n c ec fa g7:Nat) (r:Value) (w w' : World) (aC:n<=c) (tp:n<=4611686018427387904) (ip:base=none->n=0/\c=0)
  (fJ:(Builtin.append_ #[45,45] 45 #[.slice base n c,.slice (some ⟨fa,g7,none⟩) 1 ec]).run Tryz.prog w=.ok r w') :
  Calls Tryz.prog 127 #[.slice base n c,.int .i64 n,.slice (some ⟨fa,g7,none⟩) 1 ec] w fun e w2=>e=.returned r/\w2=w':=by
 have yM:=Tryz.underlying45;have mixed:=Tryz.checked.mixed
 go_enter Tryz.func127,Tryz.ntmps127
 cases base with
 | none=>
  obtain⟨aI,ad⟩:=ip rfl;subst aI ad
  go_wp2_with (at_builtin; refine Lib.wpList_append_run _ rfl _ _ _ _ rfl _ _ rfl rfl _ _ fJ ?_)
  go_ret
  exact⟨rfl,rfl⟩
 | some a=>
  obtain⟨ab,Zv,ZC⟩:=a
  go_wp2_with (at_builtin; refine Lib.wpList_append_run _ rfl _ _ _ _ rfl _ _ rfl rfl _ _ fJ ?_)
  all_goals (go_ret; exact⟨rfl,rfl⟩)
theorem agn (b off n c i fa g7 ec:Nat) (bU b8:Value) (w cC dG:World) (yK fi:TypeId) (p2 sv:Nat) (az:i<n) (dy:n+1<=c) (tp:n<=4611686018427387904) (nt:fa≠b)
  (Ls:w.shape? fa=some (yK,p2)) (Dk:w.shape? b=some (fi,sv)) (KS:sv≠0) (xL:w.frozen? ⟨fa,g7,none⟩=false) (xM:w.frozen? ⟨fa,p2,none⟩=false)
  (pM:(Builtin.copy_ #[45,45] 3 #[.slice (some ⟨b,off+(i+1)*11,none⟩) (n - i) (c - (i+1)),.slice (some ⟨b,off+i*11,none⟩) (n+1 - i) (c - i)]).run Tryz.prog w.drew=.ok bU cC)
  (pN:(Builtin.copy_ #[45,45] 3 #[.slice (some ⟨b,off+i*11,none⟩) (n+1 - i) (c - i),.slice (some ⟨fa,g7,none⟩) 1 ec]).run Tryz.prog cC=.ok b8 dG) :
  Calls Tryz.prog 127 #[.slice (some ⟨b,off,none⟩) n c,.int .i64 i,.slice (some ⟨fa,g7,none⟩) 1 ec] w fun e w2=>e=.returned (.slice (some ⟨b,off,none⟩) (n+1) c)/\w2=dG:=by
 have yM:=Tryz.underlying45;have lZ:∀ w,(Go.sizeOf 94).run Tryz.prog w=.ok 11 w:=fun w=>fD (by kernel_rfl)
 have mixed:=Tryz.checked.mixed;have Dc:∀ lb ly,(callFunc 167 #[.slice (some ⟨fa,g7,none⟩) 1 ec,.slice (some ⟨b,off+(i+1)*11,none⟩) lb ly]).run Tryz.prog w=.ok (.value (.bool false)) w:=fun lb ly=>by
  rw[run_callFunc_extern Tryz.func167 (by kernel_rfl) (by kernel_rfl) (by kernel_rfl) (e:=Extern.SlicesOverlaps.overlaps #[45,45] #[4]) (by kernel_rfl),
   Lib.run_overlaps_apart w 45 4 94 yM 11 lZ ⟨fa,g7,none⟩ ⟨b,off+(i+1)*11,none⟩ 1 ec lb ly nt yK fi p2 sv Ls Dk KS xL xM]
  rfl
 have p1:¬ ((i:Int)=(n:Int)) :=by omega
 have nu:IntKind.i64.wrap ((i:Int)+1)=(i:Int)+1:=by rw[IntKind.wrap_i64]; omega
 have la:IntKind.i64.wrap ((n:Int)+1)=(n:Int)+1:=by rw[IntKind.wrap_i64]; omega
 have gd:(0:Int)<=(i:Int)+1:=by omega
 have cZ:i<=n:=by omega
 have G6:((i:Int)+1).toNat=i+1:=by omega
 have dX:¬ (c=i+1) :=by omega
 have tv:(i:Int)<=(n:Int)+1:=by omega
 have CG:¬ (c=i) :=by omega
 have ac6:¬ ((c:Int)<(n:Int)+1) :=by omega
 go_enter Tryz.func127,Tryz.ntmps127
 go_wp2_with (simp only[Dc])
 go_region_law_o (refine step_copy_runI rfl _ _ 45 45 rfl _ _ (by simp[Act.eval,Act.put]) (by simp[Act.eval,Act.put]) pM ?_)
 go_wp2_with (at_builtin; refine wpList_copy_runI _ rfl _ _ 45 45 rfl _ _ rfl rfl pN ?_)
 go_ret
 exact⟨rfl,rfl⟩
theorem agk (b off n c i fa g7 ec N G:Nat) (bU b8:Value) (w qz cC dG:World) (az:i<n) (GK:n<=c) (dy:c<n+1) (h4:n+1<=G) (tp:n<=4611686018427387904)
  (lE:(Builtin.append_ #[45,3] 45 #[.slice (some ⟨b,off,none⟩) i c,.int .i64 ((n:Int)+1 - (i:Int))]).run Tryz.prog w=.ok (.slice (some ⟨N,0,none⟩) (n+1) G) qz)
  (pM:(Builtin.copy_ #[45,45] 3 #[.slice (some ⟨N,i*11,none⟩) (n+1 - i) (G - i),.slice (some ⟨fa,g7,none⟩) 1 ec]).run Tryz.prog qz=.ok bU cC)
  (pN:(Builtin.copy_ #[45,45] 3 #[.slice (some ⟨N,(i+1)*11,none⟩) (n - i) (G - (i+1)),.slice (some ⟨b,off+i*11,none⟩) (n - i) (c - i)]).run Tryz.prog cC.drew=.ok b8 dG) :
  Calls Tryz.prog 127 #[.slice (some ⟨b,off,none⟩) n c,.int .i64 i,.slice (some ⟨fa,g7,none⟩) 1 ec] w fun e w2=>e=.returned (.slice (some ⟨N,0,none⟩) (n+1) G)/\w2=dG:=by
 have yM:=Tryz.underlying45;have lZ:∀ w,(Go.sizeOf 94).run Tryz.prog w=.ok 11 w:=fun w=>fD (by kernel_rfl)
 have mixed:=Tryz.checked.mixed;have p1:¬ ((i:Int)=(n:Int)) :=by omega
 have nu:IntKind.i64.wrap ((i:Int)+1)=(i:Int)+1:=by rw[IntKind.wrap_i64]; omega
 have la:IntKind.i64.wrap ((n:Int)+1)=(n:Int)+1:=by rw[IntKind.wrap_i64]; omega
 have afI:IntKind.i64.wrap ((n:Int)+1 - (i:Int))=(n:Int)+1 - (i:Int) :=by rw[IntKind.wrap_i64]; omega
 have gd:(0:Int)<=(i:Int)+1:=by omega
 have cZ:i<=n:=by omega
 have G6:((i:Int)+1).toNat=i+1:=by omega
 have acG:¬ (G=i) :=by omega
 have acH:¬ (G=i+1) :=by omega
 have fW:¬ (c=i) :=by omega
 have LN:(c:Int)<(n:Int)+1:=by omega
 have tv:(i:Int)<=(n:Int) :=by omega
 have ac7:(i:Int)<=(c:Int) :=by omega
 go_enter Tryz.func127,Tryz.ntmps127
 go_wp2_with (first
  | (at_builtin; refine Lib.wpList_append_run _ rfl _ _ _ _ rfl _ _ rfl rfl _ _ lE ?_)
  | (at_builtin; refine wpList_copy_runI _ rfl _ _ 45 45 rfl _ _ rfl rfl pM ?_))
 go_region_law_o (refine step_copy_runI rfl _ _ 45 45 rfl _ _ (by simp[Act.eval,Act.put]) (by simp[Act.eval,Act.put]) pN ?_)
 go_wp2
 go_ret
 exact⟨rfl,rfl⟩
theorem agb:Bq Tryz.prog 127 45 3 94 11:=
 ⟨Tryz.underlying45,Tryz.underlying3,agi,agn,agk⟩
theorem af8 {G:Nat->U} (args:List U) (h:aM) (r:U) (h' : aM) (ag:sq 11 112 args h=some (r,h')) :qq Tryz.prog G 127 args h r h':=
 UE agb (by kernel_rfl) (by kernel_rfl) (by kernel_rfl) (by omega) (by omega) (by kernel_rfl) args h r h' ag
def L2 (f:FuncId) :Option (Nat × Nat) :=match Nat.beq f 126 with | true=>some (32,32) | false=>match Nat.beq f 127 with | true=>some (11,112) | false=>none
theorem af6 (f:FuncId) (z by_:Nat) (h:L2 f=some (z,by_)) (args:List U) (av:aM) (r:U) (ir:aM) (ag:sq z by_ args av=some (r,ir)) :qq Tryz.prog GS f args av r ir:=by
 unfold L2 at h;split at h
 ·rename_i af;have aE:=atz af;subst aE;cases h;exact af7 args av r ir ag
 split at h
 ·rename_i af;have aE:=atz af;subst aE;cases h;exact af8 args av r ir ag
 cases h
instance apA:qs Tryz.prog GS:=⟨L2,af6⟩
end Go.bY

namespace Go.bY
open Go Go.Proofs Go.Sort Go.Shelf
set_option maxRecDepth 100000
open hl
def ca:List B->List B->Int
 | [],[]=>0
 | [],_::_=>-1
 | _::_,[]=>1
 | a::mh,b::nB=>if a.toNat<b.toNat then -1 else if b.toNat<a.toNat then 1 else ca mh nB
theorem Rc (a b:B) (mh nB:List B) :ca (a::mh) (b::nB)=if a.toNat<b.toNat then -1 else if b.toNat<a.toNat then 1 else ca mh nB:=rfl
theorem qE:∀ a:List B,ca a a=0
 | []=>rfl
 | a::mh=>by unfold ca; simp; exact qE mh
theorem zl:∀ {a b:List B},ca a b=0->a=b
 | [],[],_=>rfl
 | [],_::_,h=>by simp[ca] at h
 | _::_,[],h=>by simp[ca] at h
 | a::mh,b::nB,h=>by
  unfold ca at h;split at h
  ·cases h
  ·split at h
   ·cases h
   ·have ad:a=b:=atg (by omega);rw[ad,zl h]
theorem BS:∀ a b:List B,ca b a=- ca a b
 | [],[]=>rfl
 | [],_::_=>rfl
 | _::_,[]=>rfl
 | a::mh,b::nB=>by
  unfold ca;by_cases ad:a.toNat<b.toNat
  ·simp[ad,show ¬ b.toNat<a.toNat by omega]
  ·by_cases ae:b.toNat<a.toNat
   ·simp[ad,ae]
   ·simp[ad,ae]; exact BS mh nB
theorem Rb:∀ a b:List B,ca a b=-1\/ca a b=0\/ca a b=1
 | [],[]=>by simp[ca]
 | [],_::_=>by simp[ca]
 | _::_,[]=>by simp[ca]
 | a::mh,b::nB=>by
  unfold ca;split
  ·simp
  ·split
   ·simp
   ·exact Rb mh nB
theorem zm:∀ a b c:List B,ca a b<0->ca b c<0->ca a c<0
 | [],[],_,h,_=>by simp[ca] at h
 | [],_::_,[],_,h=>by simp[ca] at h
 | [],_::_,_::_,_,_=>by simp[ca]
 | _::_,[],_,h,_=>by simp[ca] at h
 | _::_,_::_,[],_,h=>by simp[ca] at h
 | a::mh,b::nB,c::ajO,ad,ae=>by
  unfold ca at ad ae ⊢;have aS:=zm mh nB ajO
  repeat' split at ad
  all_goals repeat' split at ae
  all_goals repeat' split
  all_goals first | omega | (exact aS ad ae) | (exfalso; omega) | skip
def ib (a b:List B) :Bool:=ltOf ca a b
theorem nz (a b:List B) :ib a b=true<->ca a b<0:=by unfold ib ltOf; simp
theorem aaF {a b:List B} (k:Nat) (h:∀ j,j<k->a[j]? = b[j]?) (aB:k<=a.length) (af:k<=b.length) :ca (a.drop k) (b.drop k)=ca a b:=by
 induction k with
 | zero=>simp
 | succ k aS=>
  rw[<-aS (fun j ai=>h j (by omega)) (by omega) (by omega)];have ad:=h k (by omega);rw[atZ (l:=a) (i:=k) (by omega),atZ (l:=b) (i:=k) (by omega)];rw[as4 (by omega),as4 (by omega)] at ad;have ae:=Option.some.inj ad
  conv=>rhs; unfold ca
  rw[ae];simp
end Go.bY

namespace Go.bY
open Go Go.Proofs
set_option maxRecDepth 100000
namespace Op
open hl
abbrev Q:=BitVec 64
abbrev D:=BitVec 32
theorem NZ:(u (1#64) :Int)=1:=rfl
def eB (x:D) :List U:=[br x]
def rp (l:List D) :Q:=l.foldl (fun o x=>o*x.setWidth 64 % 1000000007#64) 1#64
theorem ahT (l:List D) (k:Nat) (x:D) (h:l[k]? = some x) :rp (l.take (k+1))=rp (l.take k)*x.setWidth 64 % 1000000007#64:=by
 rw[atu,h]; simp[rp,avm]
theorem H0 (x:Q) :cm .rem .u64 (u x) .u64 1000000007=some (.int .u64 (u (x % 1000000007#64))) :=y9 x 1000000007#64 (by decide)
theorem MC (l:List D) (al:l.length<=1000) :bA Tryz.prog GS 157 [.int .u64 1000000007,cA 1 eB (some l)] (br ((rp l).setWidth 32)) :=by
 refine bW Tryz.checked.mixed bl ?_;apply bq Tryz.func157 [];have bD:cv (.aq 1) (cA 1 eB (some l))=some (.int .i64 l.length) :=sx _;simp[bD];refine cB l.length (fun k σ _=>σ 0=.int .u64 1000000007/\σ 5=dN (rp (l.take k))/\σ 8=cA 1 eB (some l)/\σ 9=.int .i64 l.length/\σ 10=.int .i64 k) ?_ (by simp[rp]; rfl);rintro k σ h ar ⟨ce,bm,gc,h3,j9⟩;obtain⟨σ,rfl⟩:=lo ce bm gc h3 j9;clear ce bm gc h3 j9;by_cases h:k<l.length
 ·obtain⟨x,ag,_⟩:=bP h;have bZ:cN (.aq 1) (cA 1 eB (some l)) (.int .i64 k)=some (.bK (eB x) 0) :=by rw[tX]; simp[ag]
  have fg:IntKind.i64.wrap ((k:Int)+1)=(k+1:Nat) :=wrap_i64 (by omega) (by omega);have ak:=ahT l k x ag;simp[h,bZ,eB,fg,H0];rw[<-ak]
 ·have e4:k=l.length:=by omega
  subst e4;simp;exact aP rfl rfl
def fN (a n:Nat) :Nat:=a ^ n % 1000000007
theorem yz (a n:Nat) :fN a n<1000000007:=auS _ (by decide)
theorem Wk (a n:Nat) :fN a n*fN a n % 1000000007=fN a (2*n) :=by
 unfold fN; rw[<-avo,<-avD]; congr 2; omega
theorem Wi (a n:Nat) :fN a n*a % 1000000007=fN a (n+1) :=by
 unfold fN; rw[Nat.mod_mul_mod,Nat.pow_succ]
def g3 (a:D) (n:Nat) :D:=BitVec.ofNat 32 (fN a.toNat n)
theorem ry (a:D) (n:Nat) :(g3 a n).toNat=fN a.toNat n:=by
 have:=yz a.toNat n;unfold g3; rw[atm]; exact atb (by omega)
theorem MB (x y:D) (ag:x.toNat<1000000007) :(rp [x,y]).setWidth 32=BitVec.ofNat 32 (x.toNat*y.toNat % 1000000007) :=by
 apply atg;have aJ:=y.isLt;have ad:x.toNat*y.toNat<1000000007*4294967296:=by
  calc x.toNat*y.toNat<=1000000007*y.toNat:=as6 _ (by omega)
   _<1000000007*4294967296:=Nat.mul_lt_mul_of_pos_left (by simpa using aJ) (by decide)
 have ae:(1#64*x.setWidth 64 % 1000000007#64).toNat=x.toNat:=by
  rw[BitVec.one_mul,aud,ath];rw[atb (show x.toNat<2 ^ 64 by omega),show (1000000007#64).toNat=1000000007 from rfl,atb ag]
 simp only[rp,avZ,List.foldl_nil,ath,aud,auL,ae,atm];rw[atb (show y.toNat<2 ^ 64 by omega),atb (show x.toNat*y.toNat<2 ^ 64 by omega),atb (show 1000000007<2 ^ 64 by decide)]
theorem ahU (a:D) (n:Nat) :(rp [g3 a n,g3 a n]).setWidth 32=g3 a (2*n) :=by
 rw[MB _ _ (by rw[ry]; exact yz _ _),ry,Wk]; rfl
theorem mul_one (a:D) (n:Nat) :(rp [g3 a n,a]).setWidth 32=g3 a (n+1) :=by
 rw[MB _ _ (by rw[ry]; exact yz _ _),ry,Wi]; rfl
theorem Ej {l:ao} {b:Nat} {x y:D} (h:l[b]? = some (.cells 2 [br x,br y])) :gm (a7 l) (.aq 1 b 0 2 2 2) (cA 1 eB (some [x,y])) :=by
 refine HW (rest:=[]) (es:=[[br x],[br y]]) (by simpa using h) rfl (by simp) (by simp[a5,U.closed])
theorem abZ:j8 Tryz.prog 186=true:=by kernel_rfl
theorem ak0 {x:D} {l:ao} {K:U->ao->Prop} (aU:∀ v rest,K v (.cells 1 [br ((rp [x,x]).setWidth 32)] ::rest)) :dh Tryz.prog GS 186 [.ptr 0 0 1] (.cells 1 [br x] ::l) (c:=⟨K⟩) :=by
 apply bq Tryz.func186 [];simp;refine lV (MC [x,x] (by simp)) (.cons (.same _ rfl) (.cons (Ej (by simp)) .nil)) rfl ?_;simp;exact aU _ _
theorem SN (n k:Nat) (ar:k<64) :n / 2 ^ (63 - k)=2*(n / 2 ^ (64 - k))+n / 2 ^ (63 - k) % 2:=by
 have:2 ^ (64 - k)=2 ^ (63 - k)*2:=by rw[<-Nat.pow_succ]; congr 1; omega
 rw[this,<-Nat.div_div_eq_div_mul]; omega
theorem HQ (a:D) (n:Q) :bA Tryz.prog GS 151 [br a,dN n] (br (g3 a n.toNat)) :=by
 refine bW Tryz.checked.mixed bl ?_;apply bq Tryz.func151 [];simp;refine cB 64 (fun k σ l=>σ 0=br a/\σ 1=dN n/\σ 5=.ptr 0 0 1/\σ 6=.fn 186 [] [.ptr 0 0 1]/\σ 9=.int .i64 k/\∃ r,l=.cells 1 [br (g3 a (n.toNat / 2 ^ (64 - k)))] ::r) ?_ (by
  have:n.toNat / 2 ^ 64=0:=avT n.isLt;simp[this,g3,fN]; rfl)
 rintro k σ l ar ⟨ce,aO,bm,cw,h3,r,rfl⟩;obtain⟨σ,rfl⟩:=lo ce aO bm cw h3;clear ce aO bm cw h3;by_cases h:(k:Int)<64
 ·have fg:IntKind.i64.wrap ((k:Int)+1)=(k+1:Nat) :=wrap_i64 (by omega) (by omega);have x9:IntKind.i64.wrap (63 - (k:Int))=((63 - k:Nat) :Int) :=by rw[wrap_i64 (by omega) (by omega)]; omega
  have af:=SN n.toNat k (by omega);have oV:cm .shr .u64 (u n) .i64 ((63 - k:Nat) :Int)=some (.int .u64 (u (n >>> (63 - k)))) :=u0 n .i64 (63 - k);have acq:64 - (k+1)=63 - k:=by omega
  simp[h,fg];refine⟨abZ,?_⟩;simp;refine ak0 fun v rest=>?_
  simp[x9,oV,ahU];rw[acq];by_cases au:n.toNat / 2 ^ (63 - k) % 2=1
  ·have Ks:n >>> (63 - k) &&& 1#64=1#64:=by
    apply atg;rw[avq,atS,atv];show _ &&& 1=1;rw[Nat.and_one_is_mod,au]
   rw[au] at af;have bj:g3 a (2*(n.toNat / 2 ^ (64 - k))+1)=g3 a (n.toNat / 2 ^ (63 - k)) :=by rw[<-af]
   simp[Ks,NZ];refine lV (MC [g3 a (2*(n.toNat / 2 ^ (64 - k))),a] (by simp)) (.cons (.same _ rfl) (.cons (Ej (by simp)) .nil)) rfl ?_;rw[mul_one,bj];simp[fg];omega
  ·have au:n.toNat / 2 ^ (63 - k) % 2=0:=by omega
   have Ks:n >>> (63 - k) &&& 1#64=0#64:=by
    apply atg;rw[avq,atS,atv];show _ &&& 1=0;rw[Nat.and_one_is_mod,au]
   rw[au,ave] at af;simp[Ks,fg];rw[<-af];exact⟨by omega,rfl⟩
 ·have e4:k=64:=by omega
  subst e4;simp;exact aP rfl rfl
theorem M2 (a b:Q) (af:b≠0#64) :cm .quo .u64 (u a) .u64 (u b)=some (.int .u64 (u (a / b))) :=by
 have bJ:(b.toNat:Int)≠0:=fun e=>af (atg (by simpa using e))
 show (if IntKind.u64=IntKind.u64/\(b.toNat:Int)≠0 then some (U.int .u64 (IntKind.u64.wrap ((a.toNat:Int).tdiv b.toNat))) else none)=_;rw[if_pos ⟨rfl,bJ⟩,yQ];congr 2;have:((a.toNat:Int).tdiv b.toNat)=((a.toNat / b.toNat:Nat) :Int) :=rfl;rw[this,auz];congr 1;apply atg;rw[atm,aun];exact atb (Nat.lt_of_le_of_lt (Nat.div_le_self _ _) a.isLt)
theorem WA (x:Q) :cm .quo .u64 (u x) .u64 2=some (.int .u64 (u (x / 2#64))) :=M2 x 2#64 (by decide)
theorem W0 (x:Q) :cm .rem .u64 (u x) .u64 2=some (.int .u64 (u (x % 2#64))) :=y9 x 2#64 (by decide)
theorem AF (x y:Q) (ag:x.toNat<4294967296) (aJ:y.toNat<4294967296) :(x*y % 1000000007#64).toNat=x.toNat*y.toNat % 1000000007:=by
 have ad:x.toNat*y.toNat<18446744073709551616:=by
  calc x.toNat*y.toNat<=4294967295*y.toNat:=as6 _ (by omega)
   _<=4294967295*4294967295:=Nat.mul_le_mul_left _ (by omega)
   _<18446744073709551616:=by decide
 rw[aud,auL,atb (show x.toNat*y.toNat<2 ^ 64 by omega)]; rfl
theorem ajc (o b m:Nat) (h:m % 2=1) :o*b % 1000000007*(b*b % 1000000007) ^ (m / 2) % 1000000007=o*b ^ m % 1000000007:=by
 have hm:m=2*(m / 2)+1:=by omega
 rw[avo,Nat.mod_mod,avE (b*b % 1000000007),Nat.mod_mod,<-avE,<-avo];congr 1;rw[Nat.mul_pow,Nat.mul_assoc,<-avD]
 conv=>rhs; rw[hm,Nat.pow_succ]
 rw[avQ b,show 2*(m / 2)=m / 2+m / 2 by omega]
theorem ajb (o b m:Nat) (h:m % 2=0) :o*(b*b % 1000000007) ^ (m / 2) % 1000000007=o*b ^ m % 1000000007:=by
 have hm:m=2*(m / 2) :=by omega
 rw[avo,avE (b*b % 1000000007),Nat.mod_mod,<-avE,<-avo];congr 1;rw[Nat.mul_pow,<-avD]
 conv=>rhs; rw[hm]
 rw[show 2*(m / 2)=m / 2+m / 2 by omega]
theorem Wl (a n:Q) (aB:a.toNat<4294967296) :bA Tryz.prog GS 216 [dN a,dN n,.int .u64 1000000007] (dN (BitVec.ofNat 64 (fN a.toNat n.toNat))) :=by
 refine bW Tryz.checked.mixed bl ?_;apply bq Tryz.func216 [];simp;refine DU (fun m σ _=>∃ o b c:Q,c.toNat=m/\o.toNat<1000000007/\b.toNat<4294967296/\o.toNat*b.toNat ^ m % 1000000007=fN a.toNat n.toNat/\σ 0=dN b/\σ 1=dN c/\σ 2=.int .u64 1000000007/\σ 7=dN o) ?_ n.toNat _ _ ⟨1#64,a,n,rfl,by decide,aB,by simp[fN],by simp; rfl⟩;rintro m σ l ⟨o,b,c,ah,au,af,av,ce,aO,aT,fe⟩;obtain⟨σ,rfl⟩:=i2 ce aO aT fe;clear ce aO aT fe;have q3:(u c:Int)=(m:Int) :=by unfold u; rw[ah]
 by_cases hm:m=0
 ·subst hm;have aI:c=0#64:=atg (by simpa using ah);simp[aI];refine aP ?_ rfl;rw[Nat.pow_zero,aux,atb au] at av;rw[<-av,BitVec.ofNat_toNat,BitVec.setWidth_eq]
 ·have Ge:c≠0#64:=fun e=>hm (by rw[<-ah,e]; rfl)
  have aK:(0:Int)<u c:=by rw[q3]; omega
  have Tn:(c / 2#64).toNat=m / 2:=by rw[aun,ah]; rfl
  have TJ:(c % 2#64).toNat=m % 2:=by rw[aud,ah]; rfl
  have b6:(b*b % 1000000007#64).toNat<4294967296:=by
   rw[AF b b af af]; have:=auS (b.toNat*b.toNat) (show 1000000007 > 0 by decide); omega
  by_cases TU:m % 2=1
  ·have ad:c % 2#64=1#64:=atg (by rw[TJ,TU]; rfl);simp[aK,H0,WA,W0,ad,NZ];have fq:o.toNat<4294967296:=by omega
   refine⟨m / 2,by omega,_,_,_,Tn,?_,b6,?_,rfl,rfl,rfl⟩
   ·rw[AF o b fq af]; exact auS _ (by decide)
   ·rw[AF o b fq af,AF b b af af,ajc _ _ _ TU,av]
  ·have ad:c % 2#64=0#64:=atg (by rw[TJ]; simp; omega);simp[aK,H0,WA,W0,ad,NZ];refine⟨m / 2,by omega,_,_,_,Tn,au,b6,?_,rfl,rfl,rfl⟩;rw[AF b b af af,ajb _ _ _ (by omega),av]
def gq (a:D) :Bool:=decide (0<a.toNat)&&decide (a.toNat<1000000007)&&decide (fN a.toNat 500000003=1)
theorem L3 (a:D) :bA Tryz.prog GS 136 [br a] (.bool (gq a)) :=by
 refine bW Tryz.checked.mixed bl ?_;apply bq Tryz.func136 [];unfold gq;have ad:((0:Int)<u a)<->0<a.toNat:=by unfold u; omega
 have ae:(u a<(1000000007:Int))<->a.toNat<1000000007:=by unfold u; omega
 by_cases aO:0<a.toNat
 ·by_cases aT:a.toNat<1000000007
  ·simp[ad,ae,aO,aT];refine a4 (HQ a 500000003#64) rfl ?_;have aj:(u (g3 a 500000003)=(1:Int))<->fN a.toNat 500000003=1:=by unfold u; rw[ry]; omega
   have aF:(500000003#64:Q).toNat=500000003:=rfl;rw[aF];simp[aj];exact aP (by simp[aO,aT]) rfl
  ·simp[ad,ae,aO,aT];exact aP rfl rfl
 ·simp[ad,aO];exact aP rfl rfl
theorem WW (a:D) :bA Tryz.prog GS 196 [br a] (.bool (gq a)) :=by
 refine bW Tryz.checked.mixed bl ?_;apply bq Tryz.func196 [];unfold gq;have ad:((1:Int)<=u a)<->0<a.toNat:=by unfold u; omega
 have ae:(u a<(1000000007:Int))<->a.toNat<1000000007:=by unfold u; omega
 by_cases aO:0<a.toNat
 ·by_cases aT:a.toNat<1000000007
  ·simp[ad,ae,aO,aT];refine a4 (Wl (a.setWidth 64) 500000003#64 (by rw[ath]; omega)) rfl ?_;have a6:(a.setWidth 64:Q).toNat=a.toNat:=by rw[ath]; omega
   have aF:(500000003#64:Q).toNat=500000003:=rfl;have bu:=yz a.toNat 500000003;have aj:(u (BitVec.ofNat 64 (fN a.toNat 500000003))=(1:Int))<->fN a.toNat 500000003=1:=by unfold u; rw[atm,atb (by omega)]; omega
   rw[aF,a6];simp[aj];exact aP (by simp[aO,aT]) rfl
  ·simp[ad,ae,aO,aT];exact aP rfl rfl
 ·simp[ad,aO];exact aP rfl rfl
def js (a:D) :Bool:=decide (a.toNat<500000003)
theorem FE (a:D) :bA Tryz.prog GS 198 [br a] (.bool (js a)) :=by
 refine bW Tryz.checked.mixed bl ?_;apply bq Tryz.func198 [];unfold js;have ae:(u (a.setWidth 64)<(500000003:Int))<->a.toNat<500000003:=by unfold u; rw[ath]; omega
 simp[ae];exact aP rfl rfl
@[simp] theorem anw (a b:List UInt8) :uY .eql a b=some (.bool (decide (a=b))) :=by
 by_cases h:a=b<;>simp[uY,h]
@[simp] theorem anx (a b:List UInt8) :uY .neq a b=some (.bool (!decide (a=b))) :=by
 by_cases h:a=b<;>simp[uY,h]
abbrev nW (s:List UInt8) (pos:Nat) :Nat × Nat:=Utf8.decode ⟨s.toArray⟩ pos
theorem Sh (s:List UInt8) (pos:Nat) (b:UInt8) (h:s[pos]? = some b) :(ByteArray.get! ⟨s.toArray⟩ pos)=b:=by
 show (s.toArray)[pos]! = b;obtain⟨ad,ae⟩:=as0.1 h;simp[ad,ae]
theorem aaW {s:List UInt8} {pos:Nat} {b:UInt8} (h:s[pos]? = some b) (af:b.toNat<128) :nW s pos=(b.toNat,1) :=by
 unfold nW;rw[Lib.decode_at,Sh s pos b h];unfold Lib.decodeN;rw[if_pos af]
theorem aaV {s:List UInt8} {pos:Nat} {b:UInt8} (h:s[pos]? = some b) (af:128<=b.toNat) :128<=(nW s pos).1:=by
 unfold nW;rw[Lib.decode_at,Sh s pos b h];unfold Lib.decodeN;rw[if_neg (by omega)]
 repeat' split
 all_goals (simp only; omega)
theorem Rq (s:List UInt8) (pos:Nat) :1<=(nW s pos).2:=by
 unfold nW;rw[Lib.decode_at];unfold Lib.decodeN
 repeat' split
 all_goals simp only<;>omega
def lc (p:Nat->Bool) (s:List UInt8) :Nat->Nat->Int
 | 0,_=>-1
 | n+1,pos=>if pos<s.length then (if p (nW s pos).1 then (pos:Int) else lc p s n (pos+(nW s pos).2)) else -1
theorem L8 (p:Nat->Bool) (s:List UInt8) :∀ (n pos:Nat),s.length - pos<=n->lc p s n pos=lc p s (s.length - pos) pos
 | 0,pos,h=>by rw[show s.length - pos=0 by omega]
 | n+1,pos,h=>by
  by_cases av:pos<s.length
  ·have aW:=Rq s pos;rw[show s.length - pos=(s.length - pos - 1)+1 by omega];unfold lc;rw[if_pos av,if_pos av,L8 p s n _ (by omega),L8 p s (s.length - pos - 1) _ (by omega)]
  ·rw[show s.length - pos=0 by omega];unfold lc;rw[if_neg av]
def m3 (cG r:Nat) :Bool:=decide (r<cG)||decide (126<r)
def hE (cG:Nat) (b:UInt8) :Bool:=decide (cG<=b.toNat)&&decide (b.toNat<=126)
theorem L7 (cG:Nat) (cV:cG<=128) (s:List UInt8) :∀ (n pos:Nat),s.length - pos<=n->(lc (m3 cG) s n pos<0<->(s.drop pos).all (hE cG)=true)
 | 0,pos,h=>by
  rw[atE (by omega)];simp[lc]
 | n+1,pos,h=>by
  unfold lc;by_cases av:pos<s.length
  ·rw[if_pos av,atZ av,av4];have fI:s[pos]? = some s[pos] :=as4 av;obtain⟨b,af⟩:∃ b,b=s[pos] :=⟨_,rfl⟩
   rw[<-af] at fI ⊢;by_cases ak:b.toNat<128
   ·rw[aaW fI ak];simp only;have c0:hE cG b=!m3 cG b.toNat:=by
     unfold hE m3;by_cases ad:b.toNat<cG<;>by_cases ae:126<b.toNat<;>simp[ad,ae]<;>omega
    cases h5:m3 cG b.toNat with
    | true=>rw[c0,h5]; simp
    | false=>
     rw[c0,h5];simp only[auh,if_false,Bool.not_false,aus];exact L7 cG cV s n (pos+1) (by omega)
   ·have aw:=aaV fI (by omega);have h5:m3 cG (nW s pos).1=true:=by unfold m3; simp; omega
    have c0:hE cG b=false:=by unfold hE; simp; omega
    rw[h5,c0]; simp
  ·rw[if_neg av,atE (by omega)];simp
theorem ah1 {s:List UInt8} {pos:Nat} {r:ao} (h:pos<s.length) :uj (.iter s pos::r) (.it 0)=some (.bv [.bool true,.int .i64 pos,.int .i32 (nW s pos).1],.iter s (pos+(nW s pos).2) ::r) :=by
 unfold uj;simp only[ats];rw[show Nat.blt pos s.length=true from Nat.ble_eq_true_of_le h];rfl
theorem ah0 {s:List UInt8} {pos:Nat} {r:ao} (h:¬ pos<s.length) :uj (.iter s pos::r) (.it 0)=some (.bv [.bool false],.iter s pos::r) :=by
 unfold uj;simp only[ats];rw[show Nat.blt pos s.length=false by cases af:Nat.blt pos s.length with | false=>rfl | true=>exact absurd (at2 af) h]
theorem af0 {g:FuncId} {p:Nat->Bool} (aw:j8 Tryz.prog g=true) (av:∀ r:Nat,bA Tryz.prog GS g [.int .i32 r] (.bool (p r))) (s:List UInt8) :
  bA Tryz.prog GS 228 [.str s,.fn g [] [],.bool true] (.int .i64 (lc p s s.length 0)) :=by
 refine bW Tryz.checked.mixed bl ?_;apply bq Tryz.func228 [];simp[AW];refine DU (fun m σ l=>∃ pos,s.length - pos=m/\lc p s m pos=lc p s s.length 0/\σ 1=.fn g [] []/\σ 2=.bool true/\σ 10=.it 0/\l=[.iter s pos]) ?_ s.length _ _ ⟨0,by simp⟩;rintro m σ l ⟨pos,hm,az,aO,aT,j9,rfl⟩;obtain⟨σ,rfl⟩:=ln aO aT j9;clear aO aT j9;by_cases h:pos<s.length
 ·have hW:m=(m - 1)+1:=by omega
  have aW:=Rq s pos;obtain⟨R,iW⟩:∃ R,R=lc p s s.length 0:=⟨_,rfl⟩
  rw[<-iW] at az ⊢;rw[hW] at az;unfold lc at az;rw[if_pos h] at az;simp[ah1 h];refine⟨aw,a4 (av _) rfl ?_⟩;cases af:p (nW s pos).1 with
  | true=>
   rw[af] at az;simp;exact aP (by rw[<-az]; simp) rfl
  | false=>
   rw[af] at az;simp;refine⟨s.length - (pos+(nW s pos).2),by omega,pos+(nW s pos).2,rfl,?_,by simp,by simp,by simp,by simp⟩;rw[<-az];simp only[auh,if_false];rw[L8 p s (m - 1) _ (by omega)]
 ·have mb:m=0:=by omega
  subst mb;simp[ah0 h];exact aP (by rw[<-az]; rfl) rfl
theorem XN {g:FuncId} {p:Nat->Bool} (aw:j8 Tryz.prog g=true) (av:∀ r:Nat,bA Tryz.prog GS g [.int .i32 r] (.bool (p r))) (s:List UInt8) :
  bA Tryz.prog GS 207 [.str s,.fn g [] []] (.int .i64 (lc p s s.length 0)) :=by
 refine bW Tryz.checked.mixed bl ?_;apply bq Tryz.func207 [];simp;refine a4 (af0 aw av s) rfl ?_;simp;exact aP rfl rfl
theorem agV (r:Nat) :bA Tryz.prog GS 208 [.int .i32 r] (.bool (m3 33 r)) :=by
 refine bW Tryz.checked.mixed bl ?_;apply bq Tryz.func208 [];unfold m3;have ad:((r:Int)<33)<->r<33:=by omega
 have ae:((126:Int)<r)<->126<r:=by omega
 by_cases h:r<33
 ·simp[ad,h];exact aP rfl rfl
 ·simp[ad,h,ae];exact aP rfl rfl
theorem alk (r:Nat) :bA Tryz.prog GS 211 [.int .i32 r] (.bool (m3 32 r)) :=by
 refine bW Tryz.checked.mixed bl ?_;apply bq Tryz.func211 [];unfold m3;have ad:((r:Int)<32)<->r<32:=by omega
 have ae:((126:Int)<r)<->126<r:=by omega
 by_cases h:r<32
 ·simp[ad,h];exact aP rfl rfl
 ·simp[ad,h,ae];exact aP rfl rfl
theorem abW:j8 Tryz.prog 208=true:=by kernel_rfl
theorem ab0:j8 Tryz.prog 211=true:=by kernel_rfl
def jB (s:List UInt8) :Bool:=decide (1<=s.length)&&decide (s.length<=20)&&s.all (hE 33)
theorem Mi (s:List UInt8) :bA Tryz.prog GS 179 [.str s] (.bool (jB s)) :=by
 refine bW Tryz.checked.mixed bl ?_;apply bq Tryz.func179 [];unfold jB;have ad:((1:Int)<=s.length)<->1<=s.length:=by omega
 have ae:((s.length:Int)<=20)<->s.length<=20:=by omega
 by_cases aO:1<=s.length
 ·by_cases aT:s.length<=20
  ·simp[ad,ae,aO,aT];refine a4 (XN abW agV s) rfl ?_;have:=L7 33 (by omega) s s.length 0 (by omega);rw[auf] at this;have aj:decide (lc (m3 33) s s.length 0<0)=s.all (hE 33) :=by
    cases af:s.all (hE 33) with
    | true=>simpa using this.2 af
    | false=>
     have:¬ lc (m3 33) s s.length 0<0:=fun h=>by rw[this.1 h] at af; cases af
     simpa using this
   simp;rw[aj];exact aP (by simp[aO,aT]) rfl
  ·simp[ad,ae,aO,aT];exact aP (by simp[aO,aT]) rfl
 ·simp[ad,aO];exact aP (by simp[aO]) rfl
theorem OK {s:List UInt8} {p:UInt8->Bool} {k:Nat} {b:UInt8} (h:s[k]? = some b) :(s.take (k+1)).all p=((s.take k).all p&&p b) :=by
 rw[atu,h]; simp[List.all_append]
theorem E9 {s:List UInt8} {p:UInt8->Bool} {k:Nat} {b:UInt8} (h:s[k]? = some b) (av:p b=false) :s.all p=false:=by
 rw[List.all_eq_false];exact⟨b,ata h,by simp[av]⟩
theorem MD (s:List UInt8) :bA Tryz.prog GS 217 [.str s] (.bool (jB s)) :=by
 refine bW Tryz.checked.mixed bl ?_;apply bq Tryz.func217 [];have ad:((s.length:Int)<1)<->¬ 1<=s.length:=by omega
 have ae:((20:Int)<s.length)<->¬ s.length<=20:=by omega
 by_cases aO:1<=s.length
 ·by_cases aT:s.length<=20
  ·simp[ad,ae,aO,aT];refine cB s.length (fun k σ _=>σ 0=.str s/\σ 3=.int .i64 k/\(s.take k).all (hE 33)=true) ?_ (by simp);rintro k σ l ar ⟨fm,fc,dL⟩;obtain⟨σ,rfl⟩:=qm fm fc;clear fm fc;by_cases h:k<s.length
   ·obtain⟨b,af,_⟩:=bP h;have fg:IntKind.i64.wrap ((k:Int)+1)=(k+1:Nat) :=wrap_i64 (by omega) (by omega);have cX:((b.toNat:Int)<33)<->¬ 33<=b.toNat:=by omega
    have dC:((126:Int)<b.toNat)<->¬ b.toNat<=126:=by omega
    have dP:yd (.str s) (.int .i64 k)=some (.int .u8 b.toNat) :=by simp[af,jr]
    by_cases q1:33<=b.toNat
    ·by_cases db:b.toNat<=126
     ·have c0:hE 33 b=true:=by simp[hE,q1,db]
      simp[h,dP,cX,dC,q1,db,fg,OK af,c0,-Au];simpa using dL
     ·have c0:hE 33 b=false:=by simp[hE,db]
      simp[h,dP,cX,dC,q1,db,-Au];exact aP (by simp[jB,E9 af c0]) rfl
    ·have c0:hE 33 b=false:=by simp[hE,q1]
     simp[h,dP,cX,q1,-Au];exact aP (by simp[jB,E9 af c0]) rfl
   ·have e4:k=s.length:=by omega
    subst e4;rw[aty] at dL;simp;exact aP (by simp only[jB,dL]; simp[aO,aT]) rfl
  ·simp[ad,ae,aO,aT];exact aP (by simp[jB,aT]) rfl
 ·simp[ad,aO];exact aP (by simp[jB,aO]) rfl
theorem ai3 (s:List UInt8) (al:s.length<=1000000000) :bA Tryz.prog GS 232 [.str s] (.bool (s.all (hE 32))) :=by
 refine bW Tryz.checked.mixed bl ?_;apply bq Tryz.func232 [];simp;refine cB s.length (fun k σ _=>σ 0=.str s/\σ 3=.int .i64 k/\(s.take k).all (hE 32)=true) ?_ (by simp);rintro k σ l ar ⟨fm,fc,dL⟩;obtain⟨σ,rfl⟩:=qm fm fc;clear fm fc;by_cases h:k<s.length
 ·obtain⟨b,af,_⟩:=bP h;have fg:IntKind.i64.wrap ((k:Int)+1)=(k+1:Nat) :=wrap_i64 (by omega) (by omega);have cX:((b.toNat:Int)<32)<->¬ 32<=b.toNat:=by omega
  have dC:((126:Int)<b.toNat)<->¬ b.toNat<=126:=by omega
  have dP:yd (.str s) (.int .i64 k)=some (.int .u8 b.toNat) :=by simp[af,jr]
  by_cases q1:32<=b.toNat
  ·by_cases db:b.toNat<=126
   ·have c0:hE 32 b=true:=by simp[hE,q1,db]
    simp[h,dP,cX,dC,q1,db,fg,OK af,c0,-Au];simpa using dL
   ·have c0:hE 32 b=false:=by simp[hE,db]
    simp[h,dP,cX,dC,q1,db,-Au];exact aP (by simp only[E9 af c0]) rfl
  ·have c0:hE 32 b=false:=by simp[hE,q1]
   simp[h,dP,cX,q1,-Au];exact aP (by simp only[E9 af c0]) rfl
 ·have e4:k=s.length:=by omega
  subst e4;rw[aty] at dL;simp;exact aP (by simp only[dL]) rfl
structure iR where
 kind:B
 num:Int
 bits:Q
 text:List UInt8
def e9 (v:iR) :List U:=[bz v.kind,.int .i64 v.num,dN v.bits,.str v.text]
def wY:iR:=⟨0#8,0,0#64,[]⟩
def j7 (b:Q) :Nat:=b.toNat / 4503599627370496 % 2048
def pD (b:Q) :Q:=b % 4503599627370496#64
def cls (b:Q) :B:=if j7 b=2047 then (if pD b=0#64 then 4#8 else 5#8) else if j7 b=0 then (if pD b=0#64 then 1#8 else 2#8) else 3#8
def m6 (b:Q) :Q:=if cls b=5#8 then 9221120237041090560#64 else b
theorem iO (k:B) :((u k:Int)=1)<->k=1#8:=wK k 1#8
theorem lY (k:B) :((u k:Int)=2)<->k=2#8:=wK k 2#8
theorem pd (k:B) :((u k:Int)=3)<->k=3#8:=wK k 3#8
theorem wJ (k:B) :((u k:Int)=4)<->k=4#8:=wK k 4#8
theorem In (k:B) :((u k:Int)=5)<->k=5#8:=wK k 5#8
theorem alJ (k:B) :((u k:Int)=0)<->k=0#8:=wK k 0#8
theorem us (k:Q) :((u k:Int)=0)<->k=0#64:=wK k 0#64
theorem RI (b:Q) :j7 b<2048:=auS _ (by decide)
theorem Zu (n:Nat) (h:n<9223372036854775808) :cm .and .i64 (n:Int) .i64 2047=some (.int .i64 ((n % 2048:Nat) :Int)) :=by
 show some (U.int .i64 (IntKind.i64.wrap ((BitVec.ofInt 64 (n:Int) &&& BitVec.ofInt 64 (2047:Int)).toNat:Int)))=_;have ad:(BitVec.ofInt 64 (n:Int) &&& BitVec.ofInt 64 (2047:Int)).toNat=n % 2048:=by
  rw[auz,avq,atm,atb (by omega)];exact avw n 11
 have ae:=auS n (show 2048 > 0 by decide);rw[ad];generalize n % 2048=q at ae;rw[wrap_i64 (by omega) (by omega)]
theorem ab2 (b:Q) :b &&& 4503599627370495#64=pD b:=by
 apply atg;unfold pD;rw[avq,aud];exact avw b.toNat 52
theorem akY (b:Q) :bA Tryz.prog GS 239 [dN b] (.bv [.int .i64 (j7 b),dN (pD b)]) :=by
 refine bW Tryz.checked.mixed bl ?_;apply bq Tryz.func239 [];have af:=b.isLt;have ad:IntKind.i64.wrap (u (b >>> 52))=((b.toNat / 4503599627370496:Nat) :Int) :=by
  have:u (b >>> 52)=((b.toNat / 4503599627370496:Nat) :Int) :=by unfold u; rw[atS,atv]
  rw[this,wrap_i64 (by omega) (by omega)]
 have ae:=Zu (b.toNat / 4503599627370496) (by omega);have am:j7 b=b.toNat / 4503599627370496 % 2048:=rfl;rw[<-am] at ae;obtain⟨q,bj⟩:∃ q,b.toNat / 4503599627370496=q:=⟨_,rfl⟩
 rw[bj] at ad ae;have aj:cm .and .u64 (u b) .u64 4503599627370495=some (dN (pD b)) :=by
  rw[O5,mg,<-ab2]; rfl
 have aF:cm .shr .u64 (u b) .u64 52=some (.int .u64 (u (b >>> 52))) :=u0 b .u64 52;simp[aF,ad,ae,aj,-O5];exact aP rfl rfl
theorem aj0 (b:Q) :bA Tryz.prog GS 241 [dN b] (.int .i64 (j7 b)) :=by
 refine bW Tryz.checked.mixed bl ?_;apply bq Tryz.func241 [];have af:=b.isLt;have ad:cm .rem .u64 (u b) .u64 9223372036854775808=some (dN (b % 9223372036854775808#64)) :=y9 b 9223372036854775808#64 (by decide);have ae:cm .quo .u64 (u (b % 9223372036854775808#64)) .u64 4503599627370496=some (dN (b % 9223372036854775808#64 / 4503599627370496#64)) :=M2 _ 4503599627370496#64 (by decide);have aj:IntKind.i64.wrap (u (b % 9223372036854775808#64 / 4503599627370496#64))=(j7 b:Int) :=by
  have:u (b % 9223372036854775808#64 / 4503599627370496#64)=(j7 b:Int) :=by
   unfold u j7;rw[aun,aud];show (((b.toNat % 9223372036854775808) / 4503599627370496:Nat) :Int)=_;congr 1;omega
  have aF:=RI b;rw[this,wrap_i64 (by omega) (by omega)]
 simp[ad,ae,aj];exact aP rfl rfl
theorem aj1 (b:Q) :bA Tryz.prog GS 242 [dN b] (dN (pD b)) :=by
 refine bW Tryz.checked.mixed bl ?_;apply bq Tryz.func242 [];have ad:cm .rem .u64 (u b) .u64 4503599627370496=some (dN (pD b)) :=y9 b 4503599627370496#64 (by decide);simp[ad];exact aP rfl rfl
theorem aax (b:Q) :bA Tryz.prog GS 229 [dN b] (bz (cls b)) :=by
 refine bW Tryz.checked.mixed bl ?_;apply bq Tryz.func229 [];unfold cls;simp;refine a4 (akY b) rfl ?_;have ad:((j7 b:Int)=2047)<->j7 b=2047:=by omega
 have ae:((j7 b:Int)=0)<->j7 b=0:=by omega
 by_cases aO:j7 b=2047
 ·by_cases aT:pD b=0#64
  ·simp[ad,aO,aT];exact aP rfl rfl
  ·simp[ad,aO,aT,us];exact aP rfl rfl
 ·by_cases aZ:j7 b=0
  ·by_cases aT:pD b=0#64
   ·simp[ad,ae,aO,aT,aZ];exact aP rfl rfl
   ·simp[ad,ae,aO,aT,aZ,us];exact aP rfl rfl
  ·simp[ad,ae,aO,aZ];exact aP rfl rfl
theorem ajZ (b:Q) :bA Tryz.prog GS 240 [dN b] (bz (cls b)) :=by
 refine bW Tryz.checked.mixed bl ?_;apply bq Tryz.func240 [];unfold cls;simp;refine a4 (aj0 b) rfl ?_;simp;refine a4 (aj1 b) rfl ?_;have ae:((j7 b:Int)=0)<->j7 b=0:=by omega
 have aj:((j7 b:Int)<2047)<->¬ j7 b=2047:=by have:=RI b; omega
 by_cases aZ:j7 b=0
 ·by_cases aT:pD b=0#64
  ·simp[ae,aT,aZ];exact aP rfl rfl
  ·simp[ae,aT,aZ,us];exact aP rfl rfl
 ·by_cases aO:j7 b=2047
  ·by_cases aT:pD b=0#64
   ·simp[ae,aj,aO,aT];exact aP rfl rfl
   ·simp[ae,aj,aO,aT,us];exact aP rfl rfl
  ·simp[ae,aj,aO,aZ];exact aP rfl rfl
theorem aak (b:Q) :bA Tryz.prog GS 210 [dN b] (dN (m6 b)) :=by
 refine bW Tryz.checked.mixed bl ?_;apply bq Tryz.func210 [];unfold m6;simp;refine a4 (aax b) rfl ?_;by_cases h:cls b=5#8
 ·simp[In,h];exact aP rfl rfl
 ·simp[In,h];exact aP rfl rfl
theorem ajX (b:Q) :bA Tryz.prog GS 231 [dN b] (dN (m6 b)) :=by
 refine bW Tryz.checked.mixed bl ?_;apply bq Tryz.func231 [];unfold m6;simp;refine a4 (ajZ b) rfl ?_;by_cases h:cls b=5#8
 ·simp[In,h];exact aP rfl rfl
 ·simp[In,h];exact aP rfl rfl
theorem alS (n:Int) :bA Tryz.prog GS 188 [.int .i64 n] (.aG (e9 ⟨1#8,n,0#64,[]⟩)) :=by
 refine bW Tryz.checked.mixed bl ?_;apply bq Tryz.func188 [];simp;exact aP rfl rfl
theorem alR (b:Q) :bA Tryz.prog GS 189 [dN b] (.aG (e9 ⟨2#8,0,m6 b,[]⟩)) :=by
 refine bW Tryz.checked.mixed bl ?_;apply bq Tryz.func189 [];simp;refine a4 (aak b) rfl ?_;simp;exact aP rfl rfl
def sQ (s:List UInt8) :iR × Int:=if s.length<=30 then (if s.all (hE 32) then (⟨3#8,0,0#64,s⟩,0) else (wY,8)) else (wY,4)
theorem alZ (s:List UInt8) :bA Tryz.prog GS 190 [.str s] (.bv [.aG (e9 (sQ s).1),.int .i64 (sQ s).2]) :=by
 refine bW Tryz.checked.mixed bl ?_;apply bq Tryz.func190 [];unfold sQ;have ae:((30:Int)<s.length)<->¬ s.length<=30:=by omega
 by_cases aT:s.length<=30
 ·simp[ae,aT];refine a4 (XN ab0 alk s) rfl ?_;have aj:=L7 32 (by omega) s s.length 0 (by omega);rw[auf] at aj;have aF:((0:Int)<=lc (m3 32) s s.length 0)<->¬ (s.all (hE 32)=true) :=by rw[<-aj]; omega
  cases af:s.all (hE 32) with
  | true=>
   have a6:¬ (0:Int)<=lc (m3 32) s s.length 0:=by rw[aF,af]; simp
   simp[a6];exact aP (by simp[aT]; rfl) rfl
  | false=>
   have a6:(0:Int)<=lc (m3 32) s s.length 0:=by rw[aF,af]; simp
   simp[a6];exact aP (by simp[aT]; rfl) rfl
 ·simp[ae,aT];exact aP rfl rfl
def kS (v:iR) :Bool:=
 if v.kind=1#8 then decide (v.bits=0#64)&&decide (v.text=[])
 else if v.kind=2#8 then decide (v.num=0)&&decide (v.text=[])&&decide (m6 v.bits=v.bits)
 else if v.kind=3#8 then decide (v.num=0)&&decide (v.bits=0#64)&&decide (v.text.length<=30)&&v.text.all (hE 32)
 else false
def my (b:Bool) :Int:=if b then 0 else 8
def agD:List m1:=[.i .u8,.i .i64,.i .u64,.s]
theorem Vj:sw Tryz.prog 20 88=some agD:=by kernel_rfl
theorem al0 (a b:iR) :gD Tryz.prog .eql 88 (.aG (e9 a)) (.aG (e9 b))=some (.bool (fx (e9 a) (e9 b))) :=Ff Vj (by kernel_rfl) (by kernel_rfl) rfl rfl
theorem al1 (a b:iR) :gD Tryz.prog .neq 88 (.aG (e9 a)) (.aG (e9 b))=some (.bool (!fx (e9 a) (e9 b))) :=Pf Vj (by kernel_rfl) (by kernel_rfl) rfl rfl
theorem Pd (a b:iR) :fx (e9 a) (e9 b)=(decide (a.kind=b.kind)&&(decide (a.num=b.num)&&(decide (a.bits=b.bits)&&decide (a.text=b.text)))) :=by
 simp[e9,fx,U.beq]
theorem N1 {v:iR} (k:v.kind=1#8) :kS v=(decide (v.bits=0#64)&&decide (v.text=[])) :=by simp[kS,k]
theorem N2 {v:iR} (k:v.kind=2#8) :kS v=(decide (v.num=0)&&(decide (v.bits=m6 v.bits)&&decide (v.text=[]))) :=by
 unfold kS;rw[if_neg (by rw[k]; decide),if_pos k,show decide (m6 v.bits=v.bits)=decide (v.bits=m6 v.bits) from decide_eq_decide.2 eq_comm];cases decide (v.num=0)<;>cases decide (v.text=[])<;>cases decide (v.bits=m6 v.bits)<;>rfl
theorem Yn {v:iR} (k:v.kind=3#8) :kS v=(decide (v.kind=(sQ v.text).1.kind)&&(decide (v.num=(sQ v.text).1.num)&&(decide (v.bits=(sQ v.text).1.bits)&&decide (v.text=(sQ v.text).1.text)))) :=by
 unfold kS sQ;rw[if_neg (by rw[k]; decide),if_neg (by rw[k]; decide),if_pos k];by_cases ad:v.text.length<=30
 ·cases ae:v.text.all (hE 32) with
  | true=>simp[ad,k]
  | false=>simp[ad,k,wY]
 ·simp[ad,k,wY]
theorem N3 {v:iR} (bU:v.kind≠1#8) (b8:v.kind≠2#8) (ei:v.kind≠3#8) :kS v=false:=by simp[kS,bU,b8,ei]
theorem Yl (v:iR) :bA Tryz.prog GS 154 [.aG (e9 v)] (.int .i64 (my (kS v))) :=by
 refine bW Tryz.checked.mixed bl ?_;apply bq Tryz.func154 [];have ax:∀ (k:B) (n:Int) (b:Q) (t:List UInt8),gD Tryz.prog .neq 88 (.aG [bz v.kind,.int .i64 v.num,dN v.bits,.str v.text]) (.aG [bz k,.int .i64 n,dN b,.str t])=some (.bool (!(decide (v.kind=k)&&(decide (v.num=n)&&(decide (v.bits=b)&&decide (v.text=t)))))) :=fun k n b t=>by rw[<-Pd v ⟨k,n,b,t⟩]; exact al1 v ⟨k,n,b,t⟩
 by_cases bU:v.kind=1#8
 ·have ad:=ax 1#8 v.num 0#64 [];simp only[bU] at ad;unfold e9;simp[iO,bU];refine a4 (alS v.num) rfl ?_;unfold e9;simp[ad];rw[N1 bU];cases decide (v.bits=0#64)<;>cases decide (v.text=[])<;>simp[bU]<;>exact aP rfl rfl
 ·by_cases b8:v.kind=2#8
  ·have ad:=ax 2#8 0 (m6 v.bits) [];simp only[b8] at ad;unfold e9;simp[iO,lY,b8];refine a4 (alR v.bits) rfl ?_;unfold e9;simp[ad];rw[N2 b8];cases decide (v.num=0)<;>cases decide (v.bits=m6 v.bits)<;>cases decide (v.text=[])<;>simp[b8]<;>exact aP rfl rfl
  ·by_cases ei:v.kind=3#8
   ·obtain⟨w,aW⟩:∃ w,w=(sQ v.text).1:=⟨_,rfl⟩
    have ad:=ax w.kind w.num w.bits w.text;have aj:=Yn ei;rw[<-aW] at aj;simp only[ei] at ad aj;unfold e9;simp[iO,lY,pd,ei];refine a4 (alZ v.text) rfl ?_;rw[<-aW];unfold e9;simp[ad];rw[aj];cases decide (3#8=w.kind)<;>cases decide (v.num=w.num)<;>cases decide (v.bits=w.bits)<;>cases decide (v.text=w.text)<;>simp[ei]<;>exact aP rfl rfl
   ·have ad:gD Tryz.prog .neq 88 (.aG [bz v.kind,.int .i64 v.num,dN v.bits,.str v.text]) (.aG [.int .u8 0,.int .i64 0,.int .u64 0,.str []])=some (.bool (!(decide (v.kind=0#8)&&(decide (v.num=0)&&(decide (v.bits=0#64)&&decide (v.text=[])))))) :=ax 0#8 0 0#64 [];rw[N3 bU b8 ei];unfold e9;simp[iO,lY,pd,bU,b8,ei];by_cases hf:v.kind=0#8
    ·simp only[hf,decide_true,aus] at ad;simp[hf,ad];cases decide (v.num=0)<;>cases decide (v.bits=0#64)<;>cases decide (v.text=[])<;>simp[hf]<;>exact aP rfl rfl
    ·simp only[hf,decide_false,avl,Bool.not_false] at ad;simp[ad];exact aP rfl rfl
theorem aj3 (v:iR) :bA Tryz.prog GS 218 [.aG (e9 v)] (.int .i64 (my (kS v))) :=by
 refine bW Tryz.checked.mixed bl ?_;apply bq Tryz.func218 [[[0],[1],[2],[3],[4],[5],[6],[7],[8],[9],[10],[12],[13],[11,13]]];by_cases bU:v.kind=1#8
 ·rw[N1 bU];unfold e9;simp[iO,bU,us];by_cases aO:v.bits=0#64<;>by_cases aT:v.text=[]<;>simp[aO,aT,us]<;>exact aP rfl rfl
 ·by_cases b8:v.kind=2#8
  ·rw[N2 b8];unfold e9;simp[iO,lY,b8];by_cases aO:v.num=0
   ·by_cases aT:v.text=[]
    ·simp[aO,aT];refine a4 (ajX v.bits) rfl ?_;by_cases aZ:v.bits=m6 v.bits
     ·have bi:m6 v.bits=v.bits:=aZ.symm;simp[bi];exact aP (by simp[my,aO,aT,bi]) rfl
     ·have bi:¬ m6 v.bits=v.bits:=fun h=>aZ h.symm
      simp[aZ,bi];exact aP (by simp[my,aZ]) rfl
    ·simp[aO,aT];exact aP rfl rfl
   ·simp[aO];exact aP rfl rfl
  ·by_cases ei:v.kind=3#8
   ·have ap:kS v=(decide (v.num=0)&&decide (v.bits=0#64)&&decide (v.text.length<=30)&&v.text.all (hE 32)) :=by simp[kS,ei]
    have ae:((v.text.length:Int)<=30)<->v.text.length<=30:=by omega
    rw[ap];unfold e9;simp[iO,lY,pd,ei,us];by_cases aO:v.num=0
    ·by_cases aT:v.bits=0#64
     ·by_cases aZ:v.text.length<=30
      ·simp[aO,aT,ae,aZ];refine a4 (ai3 v.text (by omega)) rfl ?_;cases v.text.all (hE 32)<;>simp<;>exact aP (by simp[my,aO,aT,aZ]) rfl
      ·simp[aO,aT,ae,aZ];exact aP rfl rfl
     ·simp[aO,aT,us];exact aP rfl rfl
    ·simp[aO];exact aP rfl rfl
   ·rw[N3 bU b8 ei];unfold e9;simp[iO,lY,pd,bU,b8,ei];exact aP rfl rfl
structure Act where
 kind:B
 key:List UInt8
 val:iR
def j5 (a:Act) :List U:=[bz a.kind,.str a.key,bz a.val.kind,.int .i64 a.val.num,dN a.val.bits,.str a.val.text]
def ol (v:iR) :Bool:=decide (v.kind=0#8)&&(decide (v.num=0)&&(decide (v.bits=0#64)&&decide (v.text=[])))
def kU (a:Act) :Bool:=
 if a.kind=1#8 then decide (a.key=[])&&ol a.val
 else if a.kind=2#8\/a.kind=3#8 then jB a.key&&ol a.val
 else if a.kind=4#8 then jB a.key&&kS a.val
 else false
def p2:List m1:=[.i .u8,.s,.i .u8,.i .i64,.i .u64,.s]
theorem agX:sw Tryz.prog 20 90=some p2:=by kernel_rfl
theorem OA (a b:Act) :gD Tryz.prog .eql 90 (.aG (j5 a)) (.aG (j5 b))=some (.bool (fx (j5 a) (j5 b))) :=Ff agX (by kernel_rfl) (by kernel_rfl) rfl rfl
theorem Zn (a:Act) (h:a.kind=1#8) :gD Tryz.prog .eql 90 (.aG [.int .u8 1,.str a.key,bz a.val.kind,.int .i64 a.val.num,dN a.val.bits,.str a.val.text]) (.aG [.int .u8 1,.str [],.int .u8 0,.int .i64 0,.int .u64 0,.str []])=some (.bool (decide (a.key=[])&&ol a.val)) :=by
 have:=OA a ⟨1#8,[],wY⟩;simp only[j5,h] at this;refine Eq.trans this ?_;simp[fx,U.beq,ol,wY,alJ,us];congr
theorem Ym (v:iR) :gD Tryz.prog .eql 88 (.aG [bz v.kind,.int .i64 v.num,dN v.bits,.str v.text]) (.aG [.int .u8 0,.int .i64 0,.int .u64 0,.str []])=some (.bool (ol v)) :=by
 have:=al0 v wY;rw[Pd] at this;exact this
theorem OG {a:Act} (k:a.kind=1#8) :kU a=(decide (a.key=[])&&ol a.val) :=by simp[kU,k]
theorem I0 {a:Act} (k:a.kind=2#8) :kU a=(jB a.key&&ol a.val) :=by simp[kU,k]
theorem I1 {a:Act} (k:a.kind=3#8) :kU a=(jB a.key&&ol a.val) :=by simp[kU,k]
theorem Bz {a:Act} (k:a.kind=4#8) :kU a=(jB a.key&&kS a.val) :=by simp[kU,k]
theorem I2 {a:Act} (bU:a.kind≠1#8) (b8:a.kind≠2#8) (ei:a.kind≠3#8) (hg:a.kind≠4#8) :kU a=false:=by simp[kU,bU,b8,ei,hg]
theorem aas (a:Act) :bA Tryz.prog GS 137 [.aG (j5 a)] (.int .i64 (my (kU a))) :=by
 refine bW Tryz.checked.mixed bl ?_;apply bq Tryz.func137 [];by_cases bU:a.kind=1#8
 ·have ad:=Zn a bU;have aQ:bz (1#8)=.int .u8 1:=rfl;rw[OG bU];unfold j5;simp[iO,bU,aQ,ad];by_cases aO:a.key=[]<;>cases aT:ol a.val<;>simp[aO,aT]<;>exact aP rfl rfl
 ·have ad:=Ym a.val;by_cases b8:a.kind=2#8
  ·rw[I0 b8];unfold j5;simp[iO,lY,pd,bU,b8];refine a4 (Mi a.key) rfl ?_;cases jB a.key with
   | true=>simp[ad]; cases ol a.val<;>simp<;>exact aP rfl rfl
   | false=>simp; exact aP rfl rfl
  ·by_cases ei:a.kind=3#8
   ·rw[I1 ei];unfold j5;simp[iO,lY,pd,bU,ei];refine a4 (Mi a.key) rfl ?_;cases jB a.key with
    | true=>simp[ad]; cases ol a.val<;>simp<;>exact aP rfl rfl
    | false=>simp; exact aP rfl rfl
   ·by_cases hg:a.kind=4#8
    ·rw[Bz hg];unfold j5;simp[iO,lY,pd,wJ,hg];refine a4 (Mi a.key) rfl ?_;cases jB a.key with
     | true=>
      simp;refine a4 (Yl a.val) rfl ?_;cases kS a.val<;>simp[my]<;>exact aP rfl rfl
     | false=>simp; exact aP rfl rfl
    ·rw[I2 bU b8 ei hg];unfold j5;simp[iO,lY,pd,wJ,bU,b8,ei,hg];exact aP rfl rfl
theorem ajY (a:Act) :bA Tryz.prog GS 197 [.aG (j5 a)] (.int .i64 (my (kU a))) :=by
 refine bW Tryz.checked.mixed bl ?_;apply bq Tryz.func197 [];have ad:=Ym a.val;by_cases bU:a.kind=1#8
 ·rw[OG bU];unfold j5;simp[iO,bU,ad];by_cases aO:a.key=[]<;>cases aT:ol a.val<;>simp[aO,aT]<;>exact aP rfl rfl
 ·by_cases b8:a.kind=2#8
  ·rw[I0 b8];unfold j5;simp[iO,lY,pd,bU,b8,ad];refine a4 (MD a.key) rfl ?_;cases jB a.key with
   | true=>simp; cases ol a.val<;>simp<;>exact aP rfl rfl
   | false=>simp; exact aP rfl rfl
  ·by_cases ei:a.kind=3#8
   ·rw[I1 ei];unfold j5;simp[iO,lY,pd,bU,ei,ad];refine a4 (MD a.key) rfl ?_;cases jB a.key with
    | true=>simp; cases ol a.val<;>simp<;>exact aP rfl rfl
    | false=>simp; exact aP rfl rfl
   ·by_cases hg:a.kind=4#8
    ·rw[Bz hg];unfold j5;simp[iO,lY,pd,wJ,hg,ad];refine a4 (MD a.key) rfl ?_;cases jB a.key with
     | true=>
      simp;refine a4 (aj3 a.val) rfl ?_;cases kS a.val<;>simp[my]<;>exact aP rfl rfl
     | false=>simp; exact aP rfl rfl
    ·rw[I2 bU b8 ei hg];unfold j5;simp[iO,lY,pd,wJ,bU,b8,ei,hg,ad];exact aP rfl rfl
end Op

end Go.bY

namespace Go.bY
open Go Go.Proofs
set_option maxRecDepth 100000
def cF {α:Type} (z:Nat) (enc:α->List U) (l l1:ao) (v:U) (a:List α) (nl:Bool) :Prop:=
 ∃ j,bO z l1 v j (a.map enc)/\l.length<=l1.length/\(∀ b,b<l.length->l1[b]? = l[b]?)/\(v=.aH\/l.length<=j)/\cD v=nl
section
variable {α:Type} {z:Nat} {enc:α->List U} {l l1:ao} {v:U} {a:List α} {nl:Bool}
theorem cF.nil:cF z enc l l .aH ([] :List α) true:=⟨0,.nil 0,as3 _,fun _ _=>rfl,.inl rfl,rfl⟩
theorem cF.more (h:cF z enc l l1 v a nl) (r:ao) :cF z enc l (l1++r) v a nl:=by
 obtain⟨j,ad,ae,aj,aF,a6⟩:=h;exact⟨j,ad.more r,by simp; omega,fun b af=>by rw[as2 (by omega)]; exact aj b af,aF,a6⟩
theorem cF.len (h:cF z enc l l1 v a nl) :cv (.aq z) v=some (.int .i64 a.length) :=by
 obtain⟨j,ad,_⟩:=h;rw[ad.len,ate]
theorem cF.cells (h:cF z enc l l1 v a nl) :v.cells=some [v] :=by
 obtain⟨j,ad,_⟩:=h;exact ad.cells
theorem cF.contents (h:cF z enc l l1 v a nl) :ds l1 z v=some ((a.map enc).flatten,a.length) :=by
 obtain⟨j,ad,_⟩:=h;rw[ad.contents,ate]
theorem cF.le (h:cF z enc l l1 v a nl) :l.length<=l1.length:=by obtain⟨j,ad,ae,_⟩:=h; exact ae
theorem cF.same (h:cF z enc l l1 v a nl) :∀ b,b<l.length->l1[b]? = l[b]?:=by obtain⟨j,ad,ae,aj,_⟩:=h; exact aj
theorem cF.sL (h:cF z enc l l1 v a nl) (aE:∀ x,a5 (enc x)=true) (s:c3 α) (ak:nl=s.isNone) (ag:s.l=a) :gm (a7 l1) v (cA z enc s) :=by
 obtain⟨j,ad,ae,aj,aF,a6⟩:=h;exact ad.wo aE s (by rw[a6,ak]) ag
theorem cF.rd (h:cF z enc l l1 v a nl) (aE:∀ x,a5 (enc x)=true) (s:c3 α) (ak:nl=s.isNone) (ag:s.l=a) :jo l1 v (cA z enc s) :=by
 obtain⟨j,ad,ae,aj,aF,a6⟩:=h;exact ad.q.AZ aE s (by rw[a6,ak]) ag
theorem cF.HX (h:cF z enc l l1 v a nl) (aE:∀ x,l4 (enc x)=true) (s:c3 α) (ak:nl=s.isNone) (ag:s.l=a) :ks l1 v (cA z enc s) :=by
 obtain⟨j,ad,ae,aj,aF,a6⟩:=h;exact ad.Ek aE s (by rw[a6,ak]) ag
theorem cF.base (h:cF z enc l l1 v a nl) {fh:ao} (al:fh.length<=l.length) (ak:∀ b,b<fh.length->l[b]? = fh[b]?) :cF z enc fh l1 v a nl:=by
 obtain⟨j,ad,ae,aj,aF,a6⟩:=h;exact⟨j,ad,by omega,fun b af=>by rw[aj b (by omega)]; exact ak b af,aF.imp id (by omega),a6⟩
theorem cF.frame (h:cF z enc l l1 v a nl) {bo:ao} (al:l1.length<=bo.length) (ak:∀ b,b<l1.length->bo[b]? = l1[b]?) :cF z enc l bo v a nl:=by
 obtain⟨j,ad,ae,aj,aF,a6⟩:=h;exact⟨j,ad.frame fun ai=>ak j ai,by omega,fun b af=>by rw[ak b (by omega)]; exact aj b af,aF,a6⟩
theorem cF.app (h:cF z enc l l1 v a nl) {by_:Nat} {x:U} {xs:List α} (ag:ds l1 z x=some ((xs.map enc).flatten,xs.length)) (ax:∀ y∈xs,(enc y).length=z) (aI:z≠0) (dI:by_≠0) (dy:(a.length+xs.length)*by_<=ct) :
  ∃ a3 l',gT l1 z by_ v x=some (a3,l')/\cF z enc l l' a3 (a++xs) (nl&&xs.isEmpty)/\l1.length<=l'.length:=by
 obtain⟨j,ad,ae,aj,aF,a6⟩:=h;obtain⟨a3,cn,l',aO,aT,aZ,bi,bm,cw⟩:=xd (xs:=xs.map enc) ad (by simpa using ag) (fun e am=>by obtain⟨y,aJ,rfl⟩:=atx.1 am; exact ax y aJ) aI dI (by simpa using dy);refine⟨a3,l',aO,⟨cn,by rw[atn]; exact aT,by omega,fun b af=>?_,?_,?_⟩,aZ⟩
 ·rw[bi b (by omega)]
  ·exact aj b af
  ·rcases aF with h | h
   ·exact .inl h
   ·exact .inr (by omega)
 ·rcases bm with h | ⟨bu,cL⟩ | h
  ·exact .inr (by omega)
  ·rcases aF with h | h
   ·exact absurd h bu
   ·exact .inr (by omega)
  ·exact .inl h
 ·rw[cw,a6]; simp
end

namespace Op
open hl
theorem cF.push {l l1:ao} {v:U} {a:List B} {nl:Bool} (h:cF 1 b7 l l1 v a nl) (x:B) (dy:a.length<=1000000000) :
  ∃ a3 l',gT (l1++[.cells 1 [bz x]]) 1 1 v (.aq 1 l1.length 0 1 1 1)=some (a3,l')/\cF 1 b7 l l' a3 (a++[x]) false:=by
 have ay:ct=140737488355328:=rfl;obtain⟨a3,l',aO,aT,_⟩:=(h.more [.cells 1 [bz x]]).app (by_:=1) (x:=.aq 1 l1.length 0 1 1 1) (xs:=[x]) (by simp[ds,b7]) (by simp[b7]) (by omega) (by omega) (by rw[ay]; simp; omega);exact⟨a3,l',aO,by simpa using aT⟩
theorem B2:∀ a:List B,(a.map b7).flatten=a.map bz
 | []=>rfl
 | x::a=>by rw[atr,atW,B2 a]; rfl
theorem rv {l:ao} {j n:Nat} {a:List B} (aB:a.length=n) (ai:l[j]? = some (.cells n (a.map bz))) :bO 1 l (.aq 1 j 0 n n n) j (a.map b7) :=by
 refine .aq j n n n (a.map bz) _ ai (by simp[aB]) (by simp[aB]) (fun e am=>?_) (as3 _) (by omega) ?_
 ·obtain⟨x,_,rfl⟩:=atx.1 am; rfl
 ·rw[as1 (by simp[aB]),B2]
def lg (n:Nat) :Nat:=if n<256 then 1 else if n<65536 then 2 else if n<16777216 then 3 else if n<4294967296 then 4 else if n<1099511627776 then 5 else if n<281474976710656 then 6 else if n<72057594037927936 then 7 else 8
theorem HC (n:Nat) :1<=lg n/\lg n<=8:=by unfold lg; refine⟨?_,?_⟩<;>(repeat' split)<;>omega
def l0 (n i:Nat) :B:=BitVec.ofNat 8 (n >>> (8*i))
def uy (n:Nat) :Nat->List B
 | 0=>[]
 | i+1=>l0 n i::uy n i
theorem NP (n:Nat) :∀ i,(uy n i).length=i
 | 0=>rfl
 | i+1=>by simp[uy,NP n i]
def ek (n:Nat) :List B:=if n<=247 then [BitVec.ofNat 8 n] else BitVec.ofNat 8 (247+lg n) ::uy n (lg n)
def lT (x:Nat) :Nat:=if x<1 then 0 else if x<2 then 1 else if x<4 then 2 else if x<8 then 3 else if x<16 then 4 else if x<32 then 5 else if x<64 then 6 else if x<128 then 7 else 8
def EC:List UInt8:=[0,1,2,2,3,3,3,3,4,4,4,4,4,4,4,4,5,5,5,5,5,5,5,5,5,5,5,5,5,5,5,5,6,6,6,6,6,6,6,6,6,6,6,6,6,6,6,6,6,6,6,6,6,6,6,6,6,6,6,6,6,6,6,6,7,7,7,7,7,7,7,7,7,7,7,7,7,7,7,7,7,7,7,7,7,7,7,7,7,7,7,7,7,7,7,7,7,7,7,7,7,7,7,7,7,7,7,7,7,7,7,7,7,7,7,7,7,7,7,7,7,7,7,7,7,7,7,7,8,8,8,8,8,8,8,8,8,8,8,8,8,8,8,8,8,8,8,8,8,8,8,8,8,8,8,8,8,8,8,8,8,8,8,8,8,8,8,8,8,8,8,8,8,8,8,8,8,8,8,8,8,8,8,8,8,8,8,8,8,8,8,8,8,8,8,8,8,8,8,8,8,8,8,8,8,8,8,8,8,8,8,8,8,8,8,8,8,8,8,8,8,8,8,8,8,8,8,8,8,8,8,8,8,8,8,8,8,8,8,8,8,8,8,8,8,8,8,8,8,8,8,8,8,8,8,8]
def NM:Nat->List UInt8->Bool
 | _,[]=>true
 | i,x::r=>Nat.beq x.toNat (lT i)&&NM (i+1) r
theorem XX:∀ (i:Nat) (l:List UInt8),NM i l=true->∀ (j:Nat) (x:UInt8),l[j]? = some x->x.toNat=lT (i+j)
 | i,[],_,j,x,h=>by simp at h
 | i,y::r,h,j,x,ag=>by
  simp only[NM,as7] at h;cases j with
  | zero=>simp at ag; subst ag; exact atz h.1
  | succ j=>simp at ag; rw[XX (i+1) r h.2 j x ag]; congr 1; omega
theorem wF (i:Nat) (h:i<256) :∃ x,EC[i]? = some x/\x.toNat=lT i:=by
 have al:EC.length=256:=by kernel_rfl
 have aw:=XX 0 EC (by kernel_rfl) i _ (as4 (by omega));exact⟨_,as4 (by omega),by rw[aw]; congr 1; omega⟩
theorem uc (x:Nat) :lT x<=8:=by unfold lT; (repeat' split)<;>omega
def kL (n:Nat) :Nat:=
 if n<256 then lT n else if n<65536 then 8+lT (n / 256) else if n<16777216 then 16+lT (n / 65536) else if n<4294967296 then 24+lT (n / 16777216)
 else if n<1099511627776 then 32+lT (n / 4294967296) else if n<281474976710656 then 40+lT (n / 1099511627776) else if n<72057594037927936 then 48+lT (n / 281474976710656) else 56+lT (n / 72057594037927936)
theorem ahb (n:Nat) (h:1<=n) :(kL n+7) / 8=lg n:=by
 have al:∀ x,1<=x->1<=lT x/\lT x<=8:=fun x ag=>⟨by unfold lT; rw[if_neg (by omega)]; (repeat' split)<;>omega,uc x⟩
 unfold kL lg
 repeat' split
 ·have:=al n h; omega
 ·have:=al (n / 256) (by omega); omega
 ·have:=al (n / 65536) (by omega); omega
 ·have:=al (n / 16777216) (by omega); omega
 ·have:=al (n / 4294967296) (by omega); omega
 ·have:=al (n / 1099511627776) (by omega); omega
 ·have:=al (n / 281474976710656) (by omega); omega
 ·have:=al (n / 72057594037927936) (by omega); omega
theorem NA (x:Q) (k:Nat) :cm .shr .u64 (u x) .u64 (k:Int)=some (.int .u64 (u (x >>> k))) :=u0 x .u64 k
theorem uR {i:Nat} {y:UInt8} {k:UInt8->Prop} (h:EC[i]? = some y) (ar:k y) :W EC[i]? (c:=⟨k⟩) :=by rw[h]; exact ar
set_option maxHeartbeats 4000000 in
theorem ahc (n:Q) :bA Tryz.prog GS 149 [dN n] (.int .i64 (kL n.toNat)) :=by
 refine bW Tryz.checked.mixed bl ?_;apply bq Tryz.func149 [];have jD:IntKind.i64.wrap 8=8:=rfl;have wN:IntKind.i64.wrap 16=16:=rfl;have wO:IntKind.i64.wrap 24=24:=rfl;have wP:IntKind.i64.wrap 32=32:=rfl;have wQ:IntKind.i64.wrap 40=40:=rfl;have wR:IntKind.i64.wrap 48=48:=rfl;have wS:IntKind.i64.wrap 56=56:=rfl;have b0:∀ x:Q,((4294967296:Int)<=u x)<->4294967296<=x.toNat:=fun x=>by unfold u; omega
 have b5:∀ x:Q,((65536:Int)<=u x)<->65536<=x.toNat:=fun x=>by unfold u; omega
 have ik:∀ x:Q,((256:Int)<=u x)<->256<=x.toNat:=fun x=>by unfold u; omega
 have ww:∀ x:Q,cm .shr .u64 (u x) .u64 32=some (.int .u64 (u (x >>> 32))) :=fun x=>NA x 32
 have wv:∀ x:Q,cm .shr .u64 (u x) .u64 16=some (.int .u64 (u (x >>> 16))) :=fun x=>NA x 16
 have wx:∀ x:Q,cm .shr .u64 (u x) .u64 8=some (.int .u64 (u (x >>> 8))) :=fun x=>NA x 8
 have t32:n.toNat >>> 32=n.toNat / 4294967296:=by rw[atv]
 have t48:n.toNat >>> 48=n.toNat / 281474976710656:=by rw[atv]
 have t16:n.toNat >>> 16=n.toNat / 65536:=by rw[atv]
 have Kt:=n.isLt;by_cases ad:4294967296<=n.toNat
 ·by_cases ae:65536<=n.toNat >>> 32
  ·by_cases aj:256<=n.toNat >>> 48
   ·have cE:n.toNat >>> 56 % 256=n.toNat / 72057594037927936:=by rw[atv]; exact atb (by omega)
    obtain⟨y,aO,aT⟩:=wF (n.toNat / 72057594037927936) (by omega);have aZ:=uc (n.toNat / 72057594037927936);rw[<-aT] at aZ;have bL:IntKind.i64.wrap (y.toNat:Int)=y.toNat:=wrap_i64 (by omega) (by omega);have w2:IntKind.i64.wrap (56+(y.toNat:Int))=((56+y.toNat:Nat) :Int) :=by rw[wrap_i64 (by omega) (by omega)]; omega
    have cO:kL n.toNat=56+y.toNat:=by unfold kL; rw[aT]; (repeat' split)<;>first | omega | rfl
    simp[b0,b5,ik,ww,wv,wx,ad,ae,aj];refine uR (y:=y) (by rw[cE]; exact aO) ?_;rw[cO];simp[jr,bL,w2];exact aP (by simp[jD,wN,wO,wP,wQ,wR,wS,w2]) rfl
   ·have cE:n.toNat >>> 48 % 256=n.toNat / 281474976710656:=by rw[atv]; exact atb (by omega)
    obtain⟨y,aO,aT⟩:=wF (n.toNat / 281474976710656) (by omega);have aZ:=uc (n.toNat / 281474976710656);rw[<-aT] at aZ;have bL:IntKind.i64.wrap (y.toNat:Int)=y.toNat:=wrap_i64 (by omega) (by omega);have w2:IntKind.i64.wrap (48+(y.toNat:Int))=((48+y.toNat:Nat) :Int) :=by rw[wrap_i64 (by omega) (by omega)]; omega
    have cO:kL n.toNat=48+y.toNat:=by unfold kL; rw[aT]; (repeat' split)<;>first | omega | rfl
    simp[b0,b5,ik,ww,wv,wx,ad,ae,aj];refine uR (y:=y) (by rw[cE]; exact aO) ?_;rw[cO];simp[jr,bL,w2];exact aP (by simp[jD,wN,wO,wP,wQ,wR,wS,w2]) rfl
  ·by_cases aj:256<=n.toNat >>> 32
   ·have cE:n.toNat >>> 40 % 256=n.toNat / 1099511627776:=by rw[atv]; exact atb (by omega)
    obtain⟨y,aO,aT⟩:=wF (n.toNat / 1099511627776) (by omega);have aZ:=uc (n.toNat / 1099511627776);rw[<-aT] at aZ;have bL:IntKind.i64.wrap (y.toNat:Int)=y.toNat:=wrap_i64 (by omega) (by omega);have w2:IntKind.i64.wrap (40+(y.toNat:Int))=((40+y.toNat:Nat) :Int) :=by rw[wrap_i64 (by omega) (by omega)]; omega
    have cO:kL n.toNat=40+y.toNat:=by unfold kL; rw[aT]; (repeat' split)<;>first | omega | rfl
    simp[b0,b5,ik,ww,wv,wx,ad,ae,aj];refine uR (y:=y) (by rw[cE]; exact aO) ?_;rw[cO];simp[jr,bL,w2];exact aP (by simp[jD,wN,wO,wP,wQ,wR,wS,w2]) rfl
   ·have cE:n.toNat >>> 32 % 256=n.toNat / 4294967296:=by rw[atv]; exact atb (by omega)
    obtain⟨y,aO,aT⟩:=wF (n.toNat / 4294967296) (by omega);have aZ:=uc (n.toNat / 4294967296);rw[<-aT] at aZ;have bL:IntKind.i64.wrap (y.toNat:Int)=y.toNat:=wrap_i64 (by omega) (by omega);have w2:IntKind.i64.wrap (32+(y.toNat:Int))=((32+y.toNat:Nat) :Int) :=by rw[wrap_i64 (by omega) (by omega)]; omega
    have cO:kL n.toNat=32+y.toNat:=by unfold kL; rw[aT]; (repeat' split)<;>first | omega | rfl
    simp[b0,b5,ik,ww,wv,wx,ad,ae,aj];refine uR (y:=y) (by rw[cE]; exact aO) ?_;rw[cO];simp[jr,bL,w2];exact aP (by simp[jD,wN,wO,wP,wQ,wR,wS,w2]) rfl
 ·by_cases ae:65536<=n.toNat
  ·by_cases aj:256<=n.toNat >>> 16
   ·have cE:n.toNat >>> 24 % 256=n.toNat / 16777216:=by rw[atv]; exact atb (by omega)
    obtain⟨y,aO,aT⟩:=wF (n.toNat / 16777216) (by omega);have aZ:=uc (n.toNat / 16777216);rw[<-aT] at aZ;have bL:IntKind.i64.wrap (y.toNat:Int)=y.toNat:=wrap_i64 (by omega) (by omega);have w2:IntKind.i64.wrap (24+(y.toNat:Int))=((24+y.toNat:Nat) :Int) :=by rw[wrap_i64 (by omega) (by omega)]; omega
    have cO:kL n.toNat=24+y.toNat:=by unfold kL; rw[aT]; (repeat' split)<;>first | omega | rfl
    simp[b0,b5,ik,ww,wv,wx,ad,ae,aj];refine uR (y:=y) (by rw[cE]; exact aO) ?_;rw[cO];simp[jr,bL,w2];exact aP (by simp[jD,wN,wO,wP,wQ,wR,wS,w2]) rfl
   ·have cE:n.toNat >>> 16 % 256=n.toNat / 65536:=by rw[atv]; exact atb (by omega)
    obtain⟨y,aO,aT⟩:=wF (n.toNat / 65536) (by omega);have aZ:=uc (n.toNat / 65536);rw[<-aT] at aZ;have bL:IntKind.i64.wrap (y.toNat:Int)=y.toNat:=wrap_i64 (by omega) (by omega);have w2:IntKind.i64.wrap (16+(y.toNat:Int))=((16+y.toNat:Nat) :Int) :=by rw[wrap_i64 (by omega) (by omega)]; omega
    have cO:kL n.toNat=16+y.toNat:=by unfold kL; rw[aT]; (repeat' split)<;>first | omega | rfl
    simp[b0,b5,ik,ww,wv,wx,ad,ae,aj];refine uR (y:=y) (by rw[cE]; exact aO) ?_;rw[cO];simp[jr,bL,w2];exact aP (by simp[jD,wN,wO,wP,wQ,wR,wS,w2]) rfl
  ·by_cases aj:256<=n.toNat
   ·have cE:n.toNat >>> 8 % 256=n.toNat / 256:=by rw[atv]; exact atb (by omega)
    obtain⟨y,aO,aT⟩:=wF (n.toNat / 256) (by omega);have aZ:=uc (n.toNat / 256);rw[<-aT] at aZ;have bL:IntKind.i64.wrap (y.toNat:Int)=y.toNat:=wrap_i64 (by omega) (by omega);have w2:IntKind.i64.wrap (8+(y.toNat:Int))=((8+y.toNat:Nat) :Int) :=by rw[wrap_i64 (by omega) (by omega)]; omega
    have cO:kL n.toNat=8+y.toNat:=by unfold kL; rw[aT]; (repeat' split)<;>first | omega | rfl
    simp[b0,b5,ik,ww,wv,wx,ad,ae,aj];refine uR (y:=y) (by rw[cE]; exact aO) ?_;rw[cO];simp[jr,bL,w2];exact aP (by simp[jD,wN,wO,wP,wQ,wR,wS,w2]) rfl
   ·have cE:n.toNat % 256=n.toNat:=atb (by omega);obtain⟨y,aO,aT⟩:=wF (n.toNat) (by omega);have aZ:=uc (n.toNat);rw[<-aT] at aZ;have bL:IntKind.i64.wrap (y.toNat:Int)=y.toNat:=wrap_i64 (by omega) (by omega);have w2:IntKind.i64.wrap (0+(y.toNat:Int))=((0+y.toNat:Nat) :Int) :=by rw[wrap_i64 (by omega) (by omega)]; omega
    have cO:kL n.toNat=0+y.toNat:=by unfold kL; rw[aT]; (repeat' split)<;>first | omega | rfl
    simp[b0,b5,ik,ww,wv,wx,ad,ae,aj];refine uR (y:=y) (by rw[cE]; exact aO) ?_;rw[cO];simp[jr,bL,w2];exact aP (by simp[jD,wN,wO,wP,wQ,wR,wS,w2]) rfl
theorem Fk (n:Q) (i:Nat) :(n >>> (8*i)).setWidth 8=l0 n.toNat i:=by
 apply atg;unfold l0;rw[ath,atS,atm]
theorem akz (l:ao) (c d:aY) :(l++[c]).set l.length d=l++[d] :=by rw[at8 _ _ (as3 _)]; simp
def rr (n k i:Nat) :List B:=BitVec.ofNat 8 (247+k) ::(List.replicate (k - i) 0#8++uy n i)
theorem VL (n k i:Nat) (h:i<=k) :(rr n k i).length=k+1:=by simp[rr,NP]; omega
theorem aia (n k i:Nat) (h:i<k) :(rr n k i).set (k - i) (l0 n i)=rr n k (i+1) :=by
 unfold rr;obtain⟨m,hm⟩:∃ m,k - i=m+1:=⟨k - i - 1,by omega⟩
 rw[hm,avH,show k - (i+1)=m by omega,List.replicate_succ',atK];congr 1;rw[at8 _ _ (by simp)];simp[uy]
theorem ami (n:Q) {l:ao} {K:U->ao->Prop} (aU:∀ v j l',bO 1 l' v j ((ek n.toNat).map b7)->l.length<=l'.length->(∀ b,b<l.length->l'[b]? = l[b]?)->l.length<=j->cD v=false->K v l') :
  dh Tryz.prog GS 111 [dN n] l (c:=⟨K⟩) :=by
 apply bq Tryz.func111 [];have b0:((u n:Int)<=247)<->n.toNat<=247:=by unfold u; omega
 by_cases h:n.toNat<=247
 ·have pU:ek n.toNat=[n.setWidth 8] :=by
   unfold ek; rw[if_pos h]; rfl
  simp[b0,h];refine aU _ l.length _ (rv (n:=1) (a:=ek n.toNat) (by rw[pU]; rfl) (by rw[pU]; simp)) (by simp) (fun b af=>as2 af) (as3 _) rfl
 ·have ar:=HC n.toNat
  obtain⟨k,r7⟩:∃ k,lg n.toNat=k:=⟨_,rfl⟩
  have pU:ek n.toNat=rr n.toNat k k:=by unfold ek rr; rw[if_neg h,r7]; simp
  have C1:=ahb n.toNat (by omega)
  rw[r7] at C1 ar;obtain⟨L,eV⟩:∃ L,kL n.toNat=L:=⟨_,rfl⟩
  rw[eV] at C1;have bL:IntKind.i64.wrap ((L:Int)+7)=((L+7:Nat) :Int) :=by rw[wrap_i64 (by omega) (by omega)]; omega
  have q1:cm .quo .i64 ((L+7:Nat) :Int) .i64 8=some (.int .i64 (k:Int)) :=by rw[Jn _ 8 (by omega) (by omega)]; rw[show (8:Int).toNat=8 from rfl,C1]
  have w2:IntKind.i64.wrap ((k:Int)+1)=((k+1:Nat) :Int) :=by rw[wrap_i64 (by omega) (by omega)]; omega
  have cO:IntKind.i64.wrap (247+(k:Int))=((247+k:Nat) :Int) :=by rw[wrap_i64 (by omega) (by omega)]; omega
  have eQ:rn 1 1 [.int .u8 0] l (.int .i64 ((k+1:Nat) :Int)) (.int .i64 ((k+1:Nat) :Int))=some (.aq 1 l.length 0 (k+1) (k+1) (k+1),l++[.cells (k+1) ((List.replicate (k+1) 0#8).map bz)]) :=by
   unfold rn;have ay:ct=140737488355328:=rfl;simp only[];rw[if_pos ⟨by omega,by omega,by omega,by rw[ay]; omega⟩,El];simp
  simp[b0,h];refine a4 (ahc n) rfl ?_;rw[eV];have fm:bg (List.replicate (k+1) (bz 0#8)) 0 [bz (BitVec.ofNat 8 (247+k))]=(rr n.toNat k 0).map bz:=by
   rw[atP,akV,akX]; simp[rr,uy]
  simp[bL,q1,w2,cO,eQ,-Int.natCast_add];refine cB k (fun i σ l1=>σ 0=dN n/\σ 3=.int .i64 k/\σ 4=.aq 1 l.length 0 (k+1) (k+1) (k+1)/\σ 23=.int .i64 k/\σ 24=.int .i64 i/\l1=l++[.cells (k+1) ((rr n.toNat k i).map bz)]) ?_ ?_
  ·rintro i σ l1 az ⟨ce,aZ,bi,tj,vn,rfl⟩;obtain⟨σ,rfl⟩:=lo ce aZ bi tj vn;clear ce aZ bi tj vn;by_cases tI:i<k
   ·have jF:IntKind.i64.wrap ((k:Int) - i)=((k - i:Nat) :Int) :=by rw[wrap_i64 (by omega) (by omega)]; omega
    have lp:IntKind.i64.wrap (8*(i:Int))=((8*i:Nat) :Int) :=by rw[wrap_i64 (by omega) (by omega)]; omega
    have Bn:IntKind.i64.wrap ((i:Int)+1)=((i+1:Nat) :Int) :=by rw[wrap_i64 (by omega) (by omega)]; omega
    have qo:cm .shr .u64 (u n) .i64 ((8*i:Nat) :Int)=some (.int .u64 (u (n >>> (8*i)))) :=u0 n .i64 (8*i);have rI:=Fk n i;have EQ:=pb bz (rr n.toNat k i) (k - i) (l0 n.toNat i) (by rw[VL _ _ _ az]; omega);rw[aia _ _ _ tI] at EQ;obtain⟨d,bb⟩:∃ d,k - i=d:=⟨_,rfl⟩
    obtain⟨e,am⟩:∃ e,8*i=e:=⟨_,rfl⟩
    rw[bb] at jF EQ;rw[am] at lp qo rI;have CO:d<=k:=by omega
    simp[tI,jF,lp,Bn,qo,rI,EQ,CO,-Int.natCast_add,akz];omega
   ·have gF:i=k:=by omega
    subst gF;simp;refine aU _ l.length _ (rv (n:=i+1) (a:=ek n.toNat) (by rw[pU,VL _ _ _ (as3 _)]) (by rw[pU]; simp)) (by simp) (fun b af=>as2 af) (as3 _) rfl
  ·simp;exact fm
theorem ah5 {n:Nat} (h:n<18446744073709551616) :n<256 ^ lg n:=by
 unfold lg; (repeat' split)<;>simp<;>omega
theorem ah6 {n k:Nat} (ad:1<=n) (h:k<lg n) :256 ^ k<=n:=by
 have gM:=(HC n).2;have ar:k=0\/k=1\/k=2\/k=3\/k=4\/k=5\/k=6\/k=7:=by omega
 rcases ar with rfl | rfl | rfl | rfl | rfl | rfl | rfl | rfl<;>simp<;>unfold lg at h<;>(repeat' split at h)<;>omega
theorem akK {n k:Nat} (ad:1<=n) (h:n<18446744073709551616) (ar:k<=lg n) :n >>> (8*k)=0<->k=lg n:=by
 have av:2 ^ (8*k)=256 ^ k:=by rw[Nat.pow_mul]
 rw[atv,av,Nat.div_eq_zero_iff];constructor
 ·rintro (ae | ae)
  ·exact absurd ae (by have:0<256 ^ k:=Nat.pow_pos (by decide); omega)
  ·rcases aub k (lg n) with aj | aj
   ·have:=ah6 ad aj; omega
   ·omega
 ·rintro rfl;exact .inr (ah5 h)
theorem XZ (n:Nat) :∀ k,uy n k=((List.range k).map (l0 n)).reverse
 | 0=>rfl
 | k+1=>by rw[uy,XZ n k,auT,atn,List.reverse_append]; rfl
def pz (n k:Nat) :List B:=(List.range k).map (l0 n)
theorem aa3 (n k:Nat) :pz n (k+1)=pz n k++[l0 n k] :=by simp[pz,auT]
theorem zr (n k:Nat) :(pz n k).length=k:=by simp[pz]
theorem Rr (n k i:Nat) (h:i<k) :(pz n k)[i]? = some (l0 n i) :=by simp[pz,h]
theorem aj6 (x:Q) :cm .rem .u64 (u x) .u64 256=some (.int .u64 (u (x % 256#64))) :=y9 x 256#64 (by decide)
theorem ajg (x:Q) :cm .quo .u64 (u x) .u64 256=some (.int .u64 (u (x / 256#64))) :=M2 x 256#64 (by decide)
theorem ahn (n:Q) (i:Nat) :((n >>> (8*i)) % 256#64).setWidth 8=l0 n.toNat i:=by
 rw[<-Fk];apply atg;rw[ath,aud,ath];show _ % 256 % 2 ^ 8=_ % 2 ^ 8;omega
theorem ah2 (n:Q) (i:Nat) :(n >>> (8*i)) / 256#64=n >>> (8*(i+1)) :=by
 apply atg;rw[aun,atS,atS,atv,atv,show 8*(i+1)=8*i+8 by omega,avD,<-Nat.div_div_eq_div_mul]; rfl
theorem cF.get {l l1:ao} {v:U} {a:List B} {nl:Bool} (h:cF 1 b7 l l1 v a nl) {k:IntKind} {i:Nat} {x:B} (ag:a[i]? = some x) :∃ p cs o,cN (.aq 1) v (.int k (i:Int))=some p/\g4 l1 p=some (cs,o)/\cs[o]? = some (bz x) :=by
 obtain⟨j,h,_⟩:=h;obtain⟨p,cs,o,ad,ae,aj,aF⟩:=h.q.get (k:=k) (i:=i) (e:=b7 x) (by rw[as5,ag]; rfl);refine⟨p,cs,o,ad,ae,?_⟩;have:=congrArg (fun l=>l[0]?) aF;simp[List.getElem?_take,atH,b7] at this;exact this
theorem yP (n:Q) {l:ao} {K:U->ao->Prop} (aU:∀ v l',cF 1 b7 l l' v (ek n.toNat) false->K v l') :dh Tryz.prog GS 111 [dN n] l (c:=⟨K⟩) :=
 ami n fun v j l' ad ae aj aF a6=>aU v l' ⟨j,ad,ae,aj,.inr aF,a6⟩
structure Zc (l:ao) (n:Q) (i:Nat) (σ:a8) (l1:ao) :Prop where
 ce:σ 0=dN (n >>> (8*i))
 sD:∃ v,σ 3=v/\cF 1 b7 l l1 v (pz n.toNat i) (decide (i=0))
structure Zd (l1:ao) (v:U) (n:Q) (k i:Nat) (σ:a8) (bo:ao) :Prop where
 aZ:σ 3=v
 bm:σ 5=.int .i64 ((k:Int) - 1 - i)
 sD:∃ w,σ 4=w/\cF 1 b7 l1 bo w (BitVec.ofNat 8 (247+k) ::((pz n.toNat k).reverse.take i)) false
theorem wn (n:Q) {l:ao} {K:U->ao->Prop} (aU:∀ v l',cF 1 b7 l l' v (ek n.toNat) false->K v l') :
  dh Tryz.prog GS 205 [dN n] l (c:=⟨K⟩) :=by
 apply bq Tryz.func205 [];have b0:((u n:Int)<=247)<->n.toNat<=247:=by unfold u; omega
 by_cases h:n.toNat<=247
 ·have pU:ek n.toNat=[n.setWidth 8] :=by
   unfold ek; rw[if_pos h]; rfl
  simp[b0,h];exact aU _ _ ⟨l.length,rv (n:=1) (a:=ek n.toNat) (by rw[pU]; rfl) (by rw[pU]; simp),by simp,fun b af=>as2 af,.inr (as3 _),rfl⟩
 ·have Kt:=n.isLt;have ar:=HC n.toNat
  simp[b0,h];refine cB (lg n.toNat) (Zc l n) ?_ ⟨by simp,.aH,by simp,cF.nil⟩;rintro i σ l1 az ⟨ce,v,aZ,fq⟩;obtain⟨σ,rfl⟩:=qm ce aZ;clear ce aZ;have ax:=akK (n:=n.toNat) (k:=i) (by omega) (by omega) az;have q3:((0:Int)<u (n >>> (8*i)))<->¬ i=lg n.toNat:=by
   rw[<-ax]; unfold u; rw[atS]; generalize n.toNat >>> (8*i)=q; omega
  by_cases tI:i=lg n.toNat
  ·obtain⟨k,r7⟩:∃ k,lg n.toNat=k:=⟨_,rfl⟩
   rw[r7] at tI q3 ar;subst tI;have aeM:ek n.toNat=BitVec.ofNat 8 (247+i) ::(pz n.toNat i).reverse:=by
    unfold ek; rw[if_neg h,r7,XZ]; rfl
   have bD:=fq.len;rw[zr] at bD;have bL:IntKind.i64.wrap (247+(i:Int))=((247+i:Nat) :Int) :=by rw[wrap_i64 (by omega) (by omega)]; omega
   have w2:IntKind.i64.wrap ((i:Int) - 1)=(i:Int) - 1:=wrap_i64 (by omega) (by omega);have f1:(ek n.toNat)=BitVec.ofNat 8 (247+i) ::(pz n.toNat i).reverse.take i:=by rw[aeM,as1 (by rw[List.length_reverse,zr]; omega)]
   simp[q3,bD,bL,w2,-Int.natCast_add];refine cB i (Zd l1 v n i) ?_ ⟨by simp,by simp,_,by simp,⟨l1.length,rv (n:=1) (a:=[BitVec.ofNat 8 (247+i)]) rfl (by simp),by simp,fun b af=>as2 af,.inr (as3 _),rfl⟩⟩;rintro j σ bo ai ⟨aZ,bm,w,bi,uk⟩;have fX:=fq.frame uk.le uk.same;obtain⟨σ,rfl⟩:=ln aZ bi bm;clear aZ bi bm;by_cases jw:j=i
   ·have jO:¬ (j:Int)<=(i:Int) - 1:=by omega
    rw[jw,<-f1] at uk;simp[jO];exact aU _ _ (uk.base fq.le fq.same)
   ·have vz:(j:Int)<=(i:Int) - 1:=by omega
    have vA:((i:Int) - 1 - j)=((i - 1 - j:Nat) :Int) :=by omega
    have cO:IntKind.i64.wrap ((i:Int) - 1 - j - 1)=(i:Int) - 1 - (j+1:Nat) :=by rw[wrap_i64 (by omega) (by omega)]; omega
    obtain⟨p,cs,o,q1,db,gh⟩:=cF.get fX (k:=.i64) (Rr n.toNat i (i - 1 - j) (by omega));rw[<-vA] at q1;have ag:(pz n.toNat i).reverse[j]? = some (l0 n.toNat (i - 1 - j)) :=by
     rw[List.getElem?_reverse (by rw[zr]; omega),zr,Rr _ _ _ (by omega)]
    have GD:=zr n.toNat i;obtain⟨w',l',a2,bd⟩:=cF.push uk (l0 n.toNat (i - 1 - j)) (by simp; omega);simp[vz,q1,db,gh,a2];refine c8.cb ?_;simp[cO];exact⟨by omega,by simp,by simp,w',by simp,by rw[atu,ag]; simpa using bd⟩
  ·have e3:=zr n.toNat i;obtain⟨a3,l',a2,bd⟩:=cF.push fq (l0 n.toNat i) (by omega);rw[<-aa3] at bd;have bj:cm .quo .u64 (u (n >>> (8*i))) .u64 256=some (dN (n >>> (8*(i+1)))) :=by rw[ajg,ah2]
   simp[q3,tI,aj6,bj,ahn,a2];refine c8.cb ?_;simp[bj];exact⟨by omega,by simp,a3,by simp,by simpa using bd⟩
end Op

end Go.bY

namespace Go.bY
open Go Go.Proofs
set_option maxRecDepth 100000
namespace Op
open hl
def mW (n:Int) :Q:=if 0<=n then BitVec.ofNat 64 (2*n.toNat) else BitVec.ofNat 64 (2*(-(n+1)).toNat+1)
theorem amj (n:Int) (ad:-9223372036854775808<=n) (ae:n<9223372036854775808) {l:ao} {K:U->ao->Prop} (aU:∀ v l',cF 1 b7 l l' v (ek (mW n).toNat) false->K v l') :
  dh Tryz.prog GS 155 [.int .i64 n] l (c:=⟨K⟩) :=by
 apply bq Tryz.func155 [];have aQ:cm .shl .u64 (u (BitVec.ofInt 64 n)) .u64 1=some (.int .u64 (u (BitVec.ofInt 64 n <<< 1))) :=Pl _ .u64 1;have bx:cm .shr .i64 n .u64 63=some (.int .i64 (if 0<=n then 0 else -1)) :=by
  show (if (63:Int)<0 then none else some (U.int .i64 (n.fdiv (2 ^ min (63:Int).toNat 64))))=_;rw[if_neg (by omega)];congr 2;have:(2:Int) ^ min (63:Int).toNat 64=9223372036854775808:=by decide
  rw[this,Int.fdiv_eq_ediv_of_nonneg _ (by omega)];split<;>omega
 have ax:BitVec.ofInt 64 n <<< 1 ^^^ BitVec.ofInt 64 (if 0<=n then 0 else -1)=mW n:=by
  unfold mW;by_cases h:0<=n
  ·rw[if_pos h,if_pos h];obtain⟨m,rfl⟩:=at4 h;rw[auz,atD];have:BitVec.ofInt 64 (0:Int)=0#64:=rfl;rw[this,BitVec.xor_zero];apply atg;rw[auV,atm,atm,aut];omega
  ·rw[if_neg h,if_neg h];obtain⟨m,hm⟩:=at4 (show 0<=-(n+1) by omega);have aC:n=-((m:Int)+1) :=by omega
   have a2:BitVec.ofInt 64 (-1:Int)=BitVec.allOnes 64:=by decide
   have bd:BitVec.ofInt 64 n = ~~~ BitVec.ofNat 64 m:=by
    apply atg;rw[aC,BitVec.toNat_ofInt,avU,atm];omega
   have kB:m<9223372036854775808:=by omega
   rw[a2,bd,BitVec.xor_allOnes,hm,atD];apply atg;rw[avU,auV,avU,atm,atm,aut];omega
 simp[aQ,bx,ax];refine yP _ fun v l' h=>?_
 simp;exact aU v l' h
theorem ajE (n:Int) (ad:-9223372036854775808<=n) (ae:n<9223372036854775808) {l:ao} {K:U->ao->Prop} (aU:∀ v l',cF 1 b7 l l' v (ek (mW n).toNat) false->K v l') :
  dh Tryz.prog GS 236 [.int .i64 n] l (c:=⟨K⟩) :=by
 apply bq Tryz.func236 [];by_cases h:0<=n
 ·obtain⟨m,rfl⟩:=at4 h;have ax:2#64*BitVec.ofNat 64 m=mW m:=by
   unfold mW; rw[if_pos h,atD];apply atg;simp only[auL,atm];omega
  simp[ax];refine wn _ fun v l' h=>?_
  simp;exact aU v l' h
 ·have bL:IntKind.i64.wrap (n+1)=n+1:=wrap_i64 (by omega) (by omega);have w2:IntKind.i64.wrap (0 - (n+1))=0 - (n+1) :=wrap_i64 (by omega) (by omega);have w2:IntKind.i64.wrap (-(n+1))=-(n+1) :=wrap_i64 (by omega) (by omega);have ax:2#64*BitVec.ofInt 64 (-(n+1))+1#64=mW n:=by
   obtain⟨m,hm⟩:=at4 (show 0<=-(n+1) by omega);unfold mW; rw[if_neg h,hm,atD,auz];apply atg;simp only[auL,atm,avS];omega
  simp[h,bL,w2,ax];refine wn _ fun v l' h=>?_
  simp;exact aU v l' h
def jm (s:List B) :List B:=ek s.length++s
theorem iu (n:Nat) :(ek n).length<=9:=by
 unfold ek;have:=(HC n).2;split
 ·simp
 ·simp[NP]; omega
theorem abT (s:List B) :(s.map b7).flatten=s.map bz:=B2 s
theorem Rm (l:ao) (s:eH) :ds l 1 (cz s)=some ((s.l.map b7).flatten,s.l.length) :=vh l 1 b7 s
theorem Yt (s:eH) (ak:s.l.length<=10000) {x:U} {l:ao} (ag:ds l 1 x=some ((s.l.map b7).flatten,s.l.length)) (bD:cv (.aq 1) x=some (.int .i64 s.l.length)) (b3:∀ l',l.length<=l'.length->(∀ b,b<l.length->l'[b]? = l[b]?)->ds l' 1 x=some ((s.l.map b7).flatten,s.l.length))
  {K:U->ao->Prop} (aU:∀ v l',cF 1 b7 l l' v (jm s.l) false->K (.bv [v,.int .i64 0]) l') :dh Tryz.prog GS 112 [x] l (c:=⟨K⟩) :=by
 apply bq Tryz.func112 [];have ad:¬ ((10000:Int)<s.l.length) :=by omega
 have ay:ct=140737488355328:=rfl;simp[bD,ad];refine yP _ fun v l' h=>?_
 have aC:(BitVec.ofNat 64 s.l.length).toNat=s.l.length:=by rw[atm]; exact atb (by omega)
 rw[aC] at h;have kD:=iu s.l.length;obtain⟨a3,bo,a2,bd,_⟩:=h.app (by_:=1) (x:=x) (xs:=s.l) (b3 l' h.le h.same) (by simp[b7]) (by omega) (by omega) (by rw[ay]; omega);simp[a2];refine c8.cb ?_;simp;exact aU a3 bo (by simpa [jm] using bd)
theorem WN (s:eH) (ak:s.l.length<=10000) {x:U} {l:ao} (ag:ds l 1 x=some ((s.l.map b7).flatten,s.l.length)) (bD:cv (.aq 1) x=some (.int .i64 s.l.length)) (b3:∀ l',l.length<=l'.length->(∀ b,b<l.length->l'[b]? = l[b]?)->ds l' 1 x=some ((s.l.map b7).flatten,s.l.length))
  {K:U->ao->Prop} (aU:∀ v l',cF 1 b7 l l' v (jm s.l) false->K v l') :dh Tryz.prog GS 225 [x] l (c:=⟨K⟩) :=by
 apply bq Tryz.func225 [];have ay:ct=140737488355328:=rfl;simp[bD];refine wn _ fun v l' h=>?_
 have aC:(BitVec.ofNat 64 s.l.length).toNat=s.l.length:=by rw[atm]; exact atb (by omega)
 rw[aC] at h;have kD:=iu s.l.length;obtain⟨a3,bo,a2,bd,_⟩:=h.app (by_:=1) (x:=x) (xs:=s.l) (b3 l' h.le h.same) (by simp[b7]) (by omega) (by omega) (by rw[ay]; omega);simp[a2];refine c8.cb ?_;simp;exact aU a3 bo (by simpa [jm] using bd)
def a1 (i:List B) :List U:=i.map bz
abbrev dr:=c3 (List B)
def aD (s:dr) :U:=cA 32 a1 s
def eu (s:dr) :Prop:=∀ i∈s.l,i.length=32
theorem gK (i:List B) :a5 (a1 i)=true:=mw bz (fun _=>rfl) _
theorem dw (s:dr) :(aD s).closed=true:=BR gK s
theorem Rd:∀ a b:List B,a.length=b.length->nV (a.map fun x=>UInt8.ofNat x.toNat) (b.map fun x=>UInt8.ofNat x.toNat)=ca a b
 | [],[],_=>rfl
 | [],_::_,h=>by simp at h
 | _::_,[],h=>by simp at h
 | x::a,y::b,h=>by
  have aS:=Rd a b (by simpa using h);have ag:=x.isLt;have aJ:=y.isLt;rw[Rc];simp only[atr,nV,aS];have aQ:(UInt8.ofNat x.toNat=UInt8.ofNat y.toNat)<->x.toNat=y.toNat:=by
   constructor
   ·intro h;have:=congrArg UInt8.toNat h;simp only[UInt8.toNat_ofNat'] at this;omega
   ·intro h; rw[h]
  have bx:(UInt8.ofNat x.toNat<UInt8.ofNat y.toNat)<->x.toNat<y.toNat:=by
   rw[UInt8.lt_iff_toNat_lt]; simp only[UInt8.toNat_ofNat'];rw[atb (by omega),atb (by omega)]
  by_cases ad:x.toNat=y.toNat
  ·rw[if_pos (aQ.2 ad),if_neg (by omega),if_neg (by omega)]
  ·rw[if_neg (fun h=>ad (aQ.1 h))];by_cases ae:x.toNat<y.toNat
   ·rw[if_pos (bx.2 ae),if_pos ae]
   ·rw[if_neg (fun h=>ae (bx.1 h)),if_neg ae,if_pos (by omega)]
@[simp ↓] theorem arb {P:Program} {aA:Operand->U} {l:ao} (f:FuncId) (r2 x y:Operand) :bN P aA l (.ca f r2 x y)=(match DA f (aA r2) with | true=>dz l (cmpL l (aA x) (aA y)) | false=>none) :=id rfl
@[simp ↓] theorem aqk (f:FuncId) (r2 x y:Operand) (v:U) (l:ao) (K:U->ao->Prop) :ej (.ca f r2 x y) v l K=K v l:=id rfl
@[simp] theorem apB (f:FuncId) :DA f (.fn f [] [])=true:=avs f
theorem Pp:∀ a:List B,m5 (a.map bz)=some (a.map fun x=>UInt8.ofNat x.toNat)
 | []=>rfl
 | x::a=>by
  simp only[atr,m5,Pp a,as9];simp[u]
theorem Pq (l:ao) (s:eH) :oH l (cz s)=some (s.l.map fun x=>UInt8.ofNat x.toNat) :=by
 have h:=Rm l s;rw[abT] at h;cases s with
 | none=>simp[oH,cA,ds,m5]
 | some a=>
  unfold oH;simp only[cA];have ae:ds l 1 (U.aX 1 (a.map b7))=some (a.map bz,a.length) :=h;rw[ae];exact Pp a
theorem ZF (a b:eH) (h:a.l.length=b.l.length) :bA Tryz.prog GS 104 [cz a,cz b] (.int .i64 (ca a.l b.l)) :=by
 refine bW Tryz.checked.mixed bl ?_;apply acf Tryz.func104 [];have ah:cmpL [] (cz a) (cz b)=some (.int .i64 (ca a.l b.l)) :=by
  unfold cmpL;rw[Pq,Pq];simp only[Rd _ _ h]
 simp[ah];exact aP rfl rfl
theorem NC {n b:Nat} (cV:0<n) :fF (.arr n 1) (.ptr b 0 n) none none none=some (.aq 1 b 0 n n n) :=by
 have:gV n n none none none=some (0,n,n) :=rfl;simp only[fF,this];rw[if_pos (by omega),if_neg (by omega)];simp
theorem vc (a b:List B) (aB:a.length=32) (af:b.length=32) :bA Tryz.prog GS 75 [gp a,gp b] (.int .i64 (ca a b)) :=by
 refine bW Tryz.checked.mixed bl ?_;apply bq Tryz.func75 [];have ak:=NC (n:=32) (b:=1) (by omega);have Lr:=NC (n:=32) (b:=0) (by omega);simp[gp,aB,af,ak,Lr];have ah:=ZF (some a) (some b) (by simp[aB,af]);refine lV ah ?_ rfl ?_
 ·exact .cons ((rv (j:=0) aB rfl).wo (fun _=>rfl) (some a) rfl rfl) (.cons ((rv (j:=1) af rfl).wo (fun _=>rfl) (some b) rfl rfl) .nil)
 ·simp;exact aP rfl rfl
theorem M8 (a b:List B) (aB:a.length=32) (af:b.length=32) :bA Tryz.prog GS 106 [gp a,gp b] (.int .i64 (ca a b)) :=by
 refine bW Tryz.checked.mixed bl ?_;apply bq Tryz.func106 [];obtain⟨A,dm⟩:∃ A,A=a.map bz:=⟨_,rfl⟩
 obtain⟨C,J9⟩:∃ C,C=b.map bz:=⟨_,rfl⟩
 have k0:A.length=32:=by rw[dm,ate,aB]
 have FQ:C.length=32:=by rw[J9,ate,af]
 unfold gp;rw[<-dm,<-J9];simp[k0,FQ];refine cB 32 (fun k σ l=>σ 2=.ptr 0 0 32/\σ 3=.ptr 1 0 32/\σ 5=.int .i64 k/\l=[.cells 32 A,.cells 32 C]/\∀ j,j<k->a[j]? = b[j]?) ?_ (by simp);rintro k σ l ar ⟨aT,aZ,bm,rfl,heq⟩;obtain⟨σ,rfl⟩:=ln aT aZ bm;clear aT aZ bm;have xI:=aaF k heq (by omega) (by omega);by_cases h:(k:Int)<32
 ·have e5:k<32:=by omega
  have fg:IntKind.i64.wrap ((k:Int)+1)=(k+1:Nat) :=wrap_i64 (by omega) (by omega);obtain⟨x,ag,_⟩:=bP (l:=a) (k:=k) (by omega);obtain⟨y,aJ,_⟩:=bP (l:=b) (k:=k) (by omega);have acu:A[k]? = some (bz x) :=by rw[dm,as5,ag]; rfl
  have acz:C[k]? = some (bz y) :=by rw[J9,as5,aJ]; rfl
  obtain⟨_,J7⟩:=as0.1 acu;obtain⟨_,Ka⟩:=as0.1 acz;have ady:a.drop k=x::a.drop (k+1) :=by
   obtain⟨ad,ae⟩:=as0.1 ag;rw[atZ ad,ae]
  have adA:b.drop k=y::b.drop (k+1) :=by
   obtain⟨ad,ae⟩:=as0.1 aJ;rw[atZ ad,ae]
  rw[ady,adA,Rc] at xI;have Bf:((u x:Int)<u y)<->x.toNat<y.toNat:=by unfold u; omega
  have Bg:((u y:Int)<u x)<->y.toNat<x.toNat:=by unfold u; omega
  by_cases b0:x.toNat<y.toNat
  ·rw[if_pos b0] at xI;have Fl:x<y:=b0;simp[h,e5,k0,FQ,J7,Ka,Fl];exact aP (by rw[<-xI]) rfl
  ·have Fl:¬ x<y:=b0;rw[if_neg b0] at xI;by_cases b5:y.toNat<x.toNat
   ·rw[if_pos b5] at xI;have xg:y<x:=b5;simp[h,e5,k0,FQ,J7,Ka,Fl,xg];exact aP (by rw[<-xI]) rfl
   ·have xg:¬ y<x:=b5;simp[h,e5,k0,FQ,J7,Ka,Fl,xg,fg];intro j ai;by_cases gG:j=k
    ·subst gG;rw[ag,aJ];have:x=y:=atg (by omega);rw[this]
    ·exact heq j (by omega)
 ·have e4:k=32:=by omega
  subst e4;have:ca a b=0:=by
   rw[<-xI,auW (by omega),auW (by omega)]; rfl
  simp;exact aP (by rw[this]) rfl
abbrev bT (l:List (List B)) (k:Nat) :List B:=l.getD k []
def dA (l:List (List B)) :Bool:=decide (∀ k,k<l.length->1<=k->ca (bT l (k - 1)) (bT l k)<0)
def yI (l:List (List B)) :Bool:=decide (∀ k,k<l.length->1<=k->¬ ca (bT l k) (bT l (k - 1))<0)
theorem fB {l:List (List B)} {k:Nat} {x:List B} (h:l[k]? = some x) :bT l k=x:=by
 unfold bT; rw[atf,h]; rfl
theorem H5 {l:List (List B)} (h:∀ k,k<l.length->1<=k->ca (bT l (k - 1)) (bT l k)<0) :dA l=true:=decide_eq_true h
theorem Xa {l:List (List B)} {k:Nat} (ar:k<l.length) (ad:1<=k) (h:¬ ca (bT l (k - 1)) (bT l k)<0) :dA l=false:=decide_eq_false fun aR=>h (aR k ar ad)
theorem XE {l:List (List B)} (h:∀ k,k<l.length->1<=k->¬ ca (bT l k) (bT l (k - 1))<0) :yI l=true:=decide_eq_true h
theorem ak2 {l:List (List B)} {k:Nat} (ar:k<l.length) (ad:1<=k) (h:ca (bT l k) (bT l (k - 1))<0) :yI l=false:=decide_eq_false fun aR=>aR k ar ad h
theorem de {x:List B} (h:x.length=32) :(a1 x).length=32:=by simp[a1,h]
theorem WL (a:dr) (aB:eu a) (al:a.l.length<=1000000) :bA Tryz.prog GS 173 [aD a] (.bool (dA a.l)) :=by
 refine bW Tryz.checked.mixed bl ?_;apply bq Tryz.func173 [];simp[aD];refine cB (a.l.length - 1) (fun k σ l=>σ 0=cA 32 a1 a/\σ 3=.int .i64 ((k+1:Nat) :Int)/\∀ j,j<k+1->j<a.l.length->1<=j->ca (bT a.l (j - 1)) (bT a.l j)<0) ?_ ⟨by simp[aD],by simp,fun j ad _ ae=>by omega⟩;rintro k σ l ar ⟨ce,aZ,ak⟩;obtain⟨s,rfl⟩:=qm ce aZ;clear ce aZ;obtain⟨m,hm⟩:∃ m,m=k+1:=⟨_,rfl⟩
 rw[<-hm] at ak ⊢;simp;refine oX (fun h=>?_) (fun h=>?_)
 ·simp only[decide_eq_true_eq] at h;have aK:m<a.l.length:=by omega
  obtain⟨x,ag,dp⟩:=bP (l:=a.l) (k:=k) (by omega);obtain⟨y,aJ,er⟩:=bP aK;have aQ:IntKind.i64.wrap ((m:Int) - 1)=(k:Int) :=by rw[IntKind.wrap_i64]; omega
  have bx:IntKind.i64.wrap ((m:Int)+1)=((m+1:Nat) :Int) :=by rw[IntKind.wrap_i64]; omega
  have eP:=fB ag;have ss:=fB aJ;simp[aQ,ag,aJ,de (aB x dp),de (aB y er),as1];refine a4 (M8 x y (aB x dp) (aB y er)) (by simp[a5,gK,U.closed,gp]) ?_;by_cases ah:ca x y<0
  ·have ef:¬ (0<=ca x y) :=by omega
   simp[ef,bx];refine⟨by omega,fun j ad ae aj=>?_⟩;have fp:ca (bT a.l (j - 1)) (bT a.l j)<0:=by
    by_cases ai:j=m
    ·rw[ai,show m - 1=k by omega,eP,ss]; exact ah
    ·exact ak j (by omega) ae aj
   simpa [bT] using fp
  ·have ef:0<=ca x y:=by omega
   simp[ef];refine aP (congrArg U.bool (Xa (k:=m) aK (by omega) ?_).symm) rfl;rw[show m - 1=k by omega,eP,ss];exact ah
 ·simp[h];exact aP (congrArg U.bool (H5 fun j ad ae=>ak j (by simp at h; omega) ad ae).symm) rfl
theorem JV:j8 Tryz.prog 75=true:=by kernel_rfl
theorem agx (a:dr) (aB:eu a) (al:a.l.length<=1000000) :bA Tryz.prog GS 135 [aD a,.fn 75 [] []] (.bool (yI a.l)) :=by
 refine bW Tryz.checked.mixed bl ?_;apply bq Tryz.func135 [];have fm:IntKind.i64.wrap ((a.l.length:Int) - 1)=(a.l.length:Int) - 1:=by rw[IntKind.wrap_i64]; omega
 simp[aD,fm];refine cB (a.l.length - 1) (fun k σ l=>σ 0=cA 32 a1 a/\σ 1=.fn 75 [] []/\σ 5=.int .i64 ((a.l.length:Int) - 1 - k)/\∀ j,j<a.l.length->a.l.length - 1 - k<j->¬ ca (bT a.l j) (bT a.l (j - 1))<0) ?_ ⟨by simp[aD],by simp,by simp,fun j ad ae=>by omega⟩;rintro k σ l ar ⟨ce,aO,bm,ak⟩;obtain⟨s,rfl⟩:=ln ce aO bm;clear ce aO bm;simp;refine oX (fun h=>?_) (fun h=>?_)
 ·simp only[decide_eq_true_eq] at h;obtain⟨m,hm⟩:∃ m,m+k+2=a.l.length:=⟨a.l.length - 2 - k,by omega⟩
  have aQ:((a.l.length:Int) - 1 - k)=((m+1:Nat) :Int) :=by omega
  rw[aQ];obtain⟨x,ag,dp⟩:=bP (l:=a.l) (k:=m+1) (by omega);obtain⟨y,aJ,er⟩:=bP (l:=a.l) (k:=m) (by omega);obtain⟨n,aC⟩:∃ n,n=m+1:=⟨_,rfl⟩
  rw[<-aC] at ag ⊢;have bx:IntKind.i64.wrap ((n:Int) - 1)=(m:Int) :=by rw[IntKind.wrap_i64]; omega
  have eP:=fB ag;have ss:=fB aJ;simp[bx,ag,aJ,de (aB x dp),de (aB y er),as1];refine⟨JV,a4 (vc x y (aB x dp) (aB y er)) (by simp[a5,gK,U.closed,gp]) ?_⟩;by_cases ah:ca x y<0
  ·simp[ah];refine aP (congrArg U.bool (ak2 (k:=n) (by omega) (by omega) ?_).symm) rfl;rw[show n - 1=m by omega,eP,ss];exact ah
  ·simp[ah,bx];refine⟨by omega,by omega,fun j ad ae=>?_⟩;have fp:¬ ca (bT a.l j) (bT a.l (j - 1))<0:=by
    by_cases ai:j=n
    ·rw[ai,show n - 1=m by omega,eP,ss]; exact ah
    ·exact ak j ad (by omega)
   simpa [bT] using fp
 ·simp[h];exact aP (congrArg U.bool (XE fun j ad ae=>ak j ad (by simp at h; omega)).symm) rfl
def zs (l:List (List B)) (k:Nat) :Bool:=decide (k+1<l.length)&&decide (0<=ca (bT l k) (bT l (k+1)))
theorem W9 {l:List (List B)}:dA l=true<->∀ k,k<l.length->zs l k=false:=by
 unfold dA zs;rw[decide_eq_true_eq];constructor
 ·intro h k ar;by_cases ad:k+1<l.length
  ·have:=h (k+1) ad (by omega);rw[Nat.add_sub_cancel] at this;rw[decide_eq_false (p:=0<=_) (by omega),Bool.and_false]
  ·simp[ad]
 ·intro h k ar ad;have:=h (k - 1) (by omega);rw[show k - 1+1=k by omega] at this;rw[decide_eq_true ar,aus,decide_eq_false_iff_not] at this;omega
theorem akb (a:dr) (aB:eu a) (al:a.l.length<=1000000) (k:Nat) (ar:k<a.l.length) (x:List B) (ag:x.length=32) (r:ao) {K:U->ao->Prop}
  (aU:∀ cx,K (.bool (zs a.l k)) (.cells 1 [aD a] ::.cells 1 [.int .i64 ((k+1:Nat) :Int)] ::cx)) :
  dh Tryz.prog GS 187 [gp x,.ptr 1 0 1,.ptr 0 0 1] (.cells 1 [aD a] ::.cells 1 [.int .i64 (k:Int)] ::r) (c:=⟨K⟩) :=by
 apply bq Tryz.func187 [];have aQ:IntKind.i64.wrap ((k:Int)+1)=((k+1:Nat) :Int) :=by rw[IntKind.wrap_i64]; omega
 obtain⟨m,hm⟩:∃ m,m=k+1:=⟨_,rfl⟩
 rw[<-hm] at aQ aU;have bx:IntKind.i64.wrap ((m:Int) - 1)=(k:Int) :=by rw[IntKind.wrap_i64]; omega
 unfold zs at aU;rw[<-hm] at aU;obtain⟨y,aJ,er⟩:=bP ar;by_cases h:m<a.l.length
 ·obtain⟨z,ax,Aq⟩:=bP h;have ss:=fB aJ;have agA:=fB ax;rw[ss,agA] at aU;have h' : (m:Int)<(a.l.length:Int) :=by omega
  have Dt:a.l[m]=z:=(as0.1 ax).2;simp[gp,aD,aQ,bx,h,h',aJ,Dt,de (aB y er),de (aB z Aq),as1];refine a4 (vc y z (aB y er) (aB z Aq)) (by simp[a5,gK,U.closed,gp]) ?_;have:=aU (r++[aY.cells x.length (List.map bz x)]);simpa [h,aD] using this
 ·have h' : ¬ (m:Int)<(a.l.length:Int) :=by omega
  simp[gp,aD,aQ,bx,h,h'];have:=aU (r++[aY.cells x.length (List.map bz x)]);simpa [h,aD] using this
theorem abY:j8 Tryz.prog 187=true:=by kernel_rfl
theorem akd (a:dr) (aB:eu a) (al:a.l.length<=1000000) {K:U->ao->Prop} (aU:∀ n cx,(n<0<->dA a.l=true)->K (.int .i64 n) cx) :
  dh Tryz.prog GS 101 [aD a,.fn 187 [] [.ptr 1 0 1,.ptr 0 0 1]] [.cells 1 [aD a],.cells 1 [.int .i64 0]] (c:=⟨K⟩) :=by
 apply bq Tryz.func101 [];simp[aD];refine cB a.l.length (fun k σ l=>σ 0=cA 32 a1 a/\σ 1=.fn 187 [] [.ptr 1 0 1,.ptr 0 0 1]/\σ 7=.int .i64 a.l.length/\σ 8=.int .i64 k/\(∃ r,l=.cells 1 [aD a] ::.cells 1 [.int .i64 (k:Int)] ::r)/\∀ j,j<k->zs a.l j=false) ?_ ⟨by simp[aD],by simp,by simp,by simp,⟨[],by simp[aD]⟩,fun j h=>by omega⟩;rintro k σ l ar ⟨ce,aO,fe,gc,⟨r,rfl⟩,ak⟩;obtain⟨s,rfl⟩:=i2 ce aO fe gc;clear ce aO fe gc;simp;refine oX (fun h=>?_) (fun h=>?_)
 ·simp only[decide_eq_true_eq] at h;obtain⟨x,ag,dp⟩:=bP (l:=a.l) (k:=k) (by omega);have aQ:IntKind.i64.wrap ((k:Int)+1)=((k+1:Nat) :Int) :=by rw[IntKind.wrap_i64]; omega
  simp[ag,de (aB x dp),as1];refine⟨abY,akb a aB al k (by omega) x (aB x dp) r fun cx=>?_⟩;cases bb:zs a.l k with
  | true=>
   simp;refine aU _ _ ⟨fun aC=>by omega,fun ay=>?_⟩;have:=W9.1 ay k (by omega);rw[bb] at this; cases this
  | false=>
   simp[aQ];refine⟨by omega,fun j ai=>?_⟩;by_cases gG:j=k
   ·subst gG; exact bb
   ·exact ak j (by omega)
 ·simp[h];refine aU _ _ ⟨fun _=>W9.2 fun j ai=>ak j (by simp at h; omega),fun _=>by omega⟩
theorem akc (a:dr) (aB:eu a) (al:a.l.length<=1000000) {K:U->ao->Prop} (aU:∀ cx,K (.bool (!dA a.l)) cx) :
  dh Tryz.prog GS 97 [aD a,.fn 187 [] [.ptr 1 0 1,.ptr 0 0 1]] [.cells 1 [aD a],.cells 1 [.int .i64 0]] (c:=⟨K⟩) :=by
 apply bq Tryz.func97 [];simp;refine akd a aB al fun n cx aC=>?_
 have e:decide (0<=n)=!dA a.l:=by
  cases ay:dA a.l with
  | true=>have:=aC.2 ay; simp; omega
  | false=>
   have:¬ n<0:=fun h=>by have:=aC.1 h; rw[ay] at this; cases this
   simp; omega
 simp[e];exact aU cx
theorem ake (a:dr) (aB:eu a) (al:a.l.length<=1000000) :bA Tryz.prog GS 152 [aD a] (.bool (dA a.l)) :=by
 refine bW Tryz.checked.mixed bl ?_;apply bq Tryz.func152 [];have ah:(aD a).cells=some [aD a] :=by cases a<;>rfl
 simp[ah];refine akc a aB al fun cx=>?_
 simp;exact aP rfl rfl
def rk (l:List (List B)) :List B:=ek l.length++l.flatten
theorem Q6:∀ (x:List B),l2 1 x.length (x.map bz)=x.map b7
 | []=>rfl
 | b::r=>by
  show ((bz b::r.map bz).take 1) ::l2 1 r.length ((bz b::r.map bz).drop 1)=_;simp[Q6 r,b7]
theorem aaw {x:List B} (h:x.length=32) :l2 1 32 (a1 x)=x.map b7:=by
 have:=Q6 x;rw[h] at this;exact this
theorem LU {l:List (List B)} (h:∀ x∈l,x.length=32) :l.flatten.length=l.length*32:=pC h
theorem X0 {l:List (List B)} {k:Nat} {x:List B} (h:l[k]? = some x) :(l.take (k+1)).flatten=(l.take k).flatten++x:=by
 rw[atu,h]; simp
theorem akQ {x:List B} (h:x.length=32) :fF (.arr 32 1) (.bK (a1 x) 0) none none none=some (.aX 1 (x.map b7)) :=by
 have:=aaw h;have af:gV 32 32 none none none=some (0,32,32) :=rfl;unfold fF;simp only[af];simp[de h,this]
structure Y5 (l:ao) (s:dr) (k:Nat) (σ:a8) (l1:ao) :Prop where
 ce:σ 0=cA 32 a1 s
 bi:σ 4=.int .i64 k
 sD:∃ v,σ 3=v/\cF 1 b7 l l1 v (ek s.l.length++(s.l.take k).flatten) false
theorem ajr (s:dr) (au:eu s) (ak:s.l.length<=1000) {l:ao} {K:U->ao->Prop} (aU:∀ v l',cF 1 b7 l l' v (rk s.l) false->K v l') :
  dh Tryz.prog GS 224 [aD s] l (c:=⟨K⟩) :=by
 apply bq Tryz.func224 [];have ay:ct=140737488355328:=rfl;have aC:(BitVec.ofNat 64 s.l.length).toNat=s.l.length:=by rw[atm]; exact atb (by omega)
 have kD:=iu s.l.length;simp[aD];refine wn _ fun v l' h=>?_
 rw[aC] at h;simp;refine cB s.l.length (Y5 l s) ?_ ⟨by simp[aD],by simp,v,by simp,by simpa using h⟩;rintro k σ l1 ar ⟨ce,bi,v,aZ,fq⟩;obtain⟨σ,rfl⟩:=ln ce aZ bi;clear ce aZ bi;simp;refine oX (fun h=>?_) (fun h=>?_)
 ·simp only[decide_eq_true_eq] at h;obtain⟨x,ag,dp⟩:=bP (l:=s.l) (k:=k) (by omega);have aQ:IntKind.i64.wrap ((k:Int)+1)=((k+1:Nat) :Int) :=by rw[IntKind.wrap_i64]; omega
  have eW:((s.l.take k).flatten).length<=32000:=by
   rw[LU (fun y aJ=>au y (atw aJ)),ati]; omega
  obtain⟨a3,bo,a2,bd,_⟩:=fq.app (by_:=1) (x:=.aX 1 (x.map b7)) (xs:=x) (by simp[ds]) (by simp[b7]) (by omega) (by omega) (by rw[ay,au x dp]; simp only[as8]; omega);simp[ag,de (au x dp),as1,akQ (au x dp),a2];refine c8.cb ?_;simp[aQ];exact⟨by omega,by simp,by simp,a3,by simp,by rw[X0 ag,<-atK]; exact bd⟩
 ·simp[h];have aV:s.l.take k=s.l:=as1 (by simp at h; omega);rw[aV] at fq;exact aU _ _ fq
structure Y6 (l:ao) (s:dr) (k:Nat) (σ:a8) (l1:ao) :Prop where
 pF:σ 17=cA 32 a1 s
 pG:σ 18=.int .i64 s.l.length
 pH:σ 19=.int .i64 k
 sD:∃ v,σ 4=v/\cF 1 b7 l l1 v (ek s.l.length++(s.l.take k).flatten) false
theorem amg (s:dr) (au:eu s) (ak:s.l.length<=60) (ay:dA s.l=true) {l:ao} {K:U->ao->Prop} (aU:∀ v l',cF 1 b7 l l' v (rk s.l) false->K (.bv [v,.int .i64 0]) l') :
  dh Tryz.prog GS 109 [aD s] l (c:=⟨K⟩) :=by
 apply bq Tryz.func109 [];have vH:ct=140737488355328:=rfl;have aC:(BitVec.ofNat 64 s.l.length).toNat=s.l.length:=by rw[atm]; exact atb (by omega)
 have kD:=iu s.l.length;have qN:¬ (60:Int)<(s.l.length:Int) :=by omega
 simp[aD,qN];refine a4 (ake s au (by omega)) (by have:=dw s; simp[a5]; exact this) ?_;simp[ay,aD];refine yP _ fun v l' h=>?_
 rw[aC] at h;simp[aD];refine cB s.l.length (Y6 l s) ?_ ⟨by simp[aD],by simp,by simp,v,by simp,by simpa using h⟩;rintro k σ l1 ar ⟨pF,pG,pH,v,bi,fq⟩;obtain⟨σ,rfl⟩:=i2 pF pG pH bi;clear pF pG pH bi;simp;refine oX (fun h=>?_) (fun h=>?_)
 ·simp only[decide_eq_true_eq] at h;obtain⟨x,ag,dp⟩:=bP (l:=s.l) (k:=k) (by omega);have aQ:IntKind.i64.wrap ((k:Int)+1)=((k+1:Nat) :Int) :=by rw[IntKind.wrap_i64]; omega
  have eW:((s.l.take k).flatten).length<=32000:=by
   rw[LU (fun y aJ=>au y (atw aJ)),ati]; omega
  obtain⟨a3,bo,a2,bd,_⟩:=(fq.more [.cells 32 (a1 x)]).app (by_:=1) (x:=.aq 1 l1.length 0 32 32 32) (xs:=x) (by simp[ds,au x dp,de (au x dp),as1,a1,B2]) (by simp[b7]) (by omega) (by omega) (by rw[vH,au x dp]; simp only[as8]; omega);have q8:bg (rep 32 (.int .u8 0)) 0 (a1 x)=a1 x:=hu (by rw[de (au x dp)]; rfl);simp[ag,de (au x dp),as1,NC,q8,a2];refine c8.cb ?_;simp[aQ];exact⟨by omega,by simp,by simp,by simp,a3,by simp,by rw[X0 ag,<-atK]; exact bd⟩
 ·simp[h];have aV:s.l.take k=s.l:=as1 (by simp at h; omega);rw[aV] at fq;exact aU _ _ fq
def fi (s:List UInt8) :List B:=s.map fun b=>b.toBitVec
theorem Ik (s:List UInt8) :(s.map fun b=>[jr b])=(fi s).map b7:=by
 unfold fi;rw[auJ];rfl
theorem qh (s:List UInt8) :(fi s).length=s.length:=by simp[fi]
def oG (b:Q) (k:Nat) :List B:=(List.range k).map fun i=>l0 b.toNat (7 - i)
def jn (v:iR) :List B:=v.kind::(if v.kind=1#8 then ek (mW v.num).toNat else if v.kind=2#8 then oG v.bits 8 else jm (fi v.text))
def ML (v:iR) :Prop:=-9223372036854775808<=v.num/\v.num<9223372036854775808/\v.text.length<=10000
theorem O8 (b:Q) (k:Nat) :oG b (k+1)=oG b k++[l0 b.toNat (7 - k)] :=by
 unfold oG; rw[auT,atn]; rfl
theorem VQ (l:ao) (c:aY) (x:B) :cF 1 b7 l (l++[c,.cells 1 [bz x]]) (.aq 1 (l.length+1) 0 1 1 1) [x] false:=by
 exact⟨l.length+1,rv (n:=1) (a:=[x]) rfl (by simp),by simp,fun b af=>as2 af,.inr (by omega),rfl⟩
theorem uk (l:ao) (c:aY) (x:B) :cF 1 b7 (l++[c]) (l++[c,.cells 1 [bz x]]) (.aq 1 (l.length+1) 0 1 1 1) [x] false:=by
 have e:l++[c,.cells 1 [bz x]]=(l++[c])++[.cells 1 [bz x]] :=by simp
 exact⟨l.length+1,rv (n:=1) (a:=[x]) rfl (by simp),by simp,fun b af=>by rw[e]; exact as2 af,.inr (by simp),rfl⟩
structure YW (l:ao) (v:iR) (p:Nat) (k:Nat) (σ:a8) (l1:ao) :Prop where
 aO:σ 1=.ptr p 0 4
 bi:σ 4=.int .i64 (7 - (k:Int))
 sD:∃ w,σ 3=w/\cF 1 b7 (l++[.cells 4 (e9 v)]) l1 w (v.kind::oG v.bits k) false
theorem ajK (v:iR) (ap:ML v) {l:ao} {K:U->ao->Prop} (aU:∀ w l',cF 1 b7 l l' w (jn v) false->K w l') :
  dh Tryz.prog GS 226 [.aG (e9 v)] l (c:=⟨K⟩) :=by
 apply bq Tryz.func226 [];have ay:ct=140737488355328:=rfl;have aI:=VQ l (.cells 4 (e9 v)) v.kind;obtain⟨sb,tN,aV⟩:=ap;have ah:vk (.str v.text)=some (.aX 1 ((fi v.text).map b7)) :=by
  show some (U.aX 1 (v.text.map fun b=>[jr b]))=_;rw[Ik]
 by_cases b0:v.kind=1#8
 ·have nt:jn v=[v.kind]++ek (mW v.num).toNat:=by unfold jn; rw[if_pos b0]; rfl
  have aQ:(u v.kind:Int)=1:=(iO v.kind).2 b0;simp only[bz,aQ] at aI;have kD:=iu (mW v.num).toNat
  simp[e9,aQ];refine ajE v.num sb tN fun w l' h=>?_
  obtain⟨a3,bo,a2,bd,_⟩:=(aI.frame h.le h.same).app (by_:=1) (x:=w) (xs:=ek (mW v.num).toNat) h.contents (by simp[b7]) (by omega) (by omega) (by rw[ay]; simp only[atk,atF]; omega);simp[a2];refine c8.cb ?_;simp;exact aU _ _ (by rw[nt]; exact bd)
 ·have aQ:¬ (u v.kind:Int)=1:=fun h=>b0 ((iO v.kind).1 h)
  by_cases b5:v.kind=2#8
  ·have bx:(u v.kind:Int)=2:=(lY v.kind).2 b5;have nt:jn v=v.kind::oG v.bits 8:=by unfold jn; rw[if_neg b0,if_pos b5]
   have ae:=uk l (.cells 4 (e9 v)) v.kind;simp only[bz,bx] at ae;simp[e9,bx];refine cB 8 (YW l v l.length) ?_ ⟨by simp,by simp,_,by simp,ae⟩;rintro k σ l1 ar ⟨aO,bi,w,aZ,fq⟩;have av:l1[l.length]? = some (.cells 4 (e9 v)) :=by rw[fq.same l.length (by simp)]; simp
   obtain⟨σ,rfl⟩:=ln aO aZ bi;clear aO aZ bi;by_cases io:k=8
   ·subst io;rw[<-nt] at fq;simp;exact aU _ _ (fq.base (by simp) fun b af=>as2 af)
   ·obtain⟨m,hm⟩:∃ m,m+k=7:=⟨7 - k,by omega⟩
    have em:7 - (k:Int)=(m:Int) :=by omega
    have JJ:IntKind.i64.wrap ((m:Int) - 1)=(m:Int) - 1:=by rw[IntKind.wrap_i64]; omega
    have abo:IntKind.i64.wrap (8*(m:Int))=((8*m:Nat) :Int) :=by rw[IntKind.wrap_i64]; omega
    have qo:cm .shr .u64 (u v.bits) .i64 ((8*m:Nat) :Int)=some (.int .u64 (u (v.bits >>> (8*m)))) :=u0 v.bits .i64 (8*m);have rI:=Fk v.bits m;have bD:(v.kind::oG v.bits k).length<=1000000000:=by simp[oG]; omega
    obtain⟨w',l',a2,bd⟩:=cF.push fq (l0 v.bits.toNat m) bD;rw[em];simp[e9] at av;simp[av,abo,qo,rI,a2,-Int.natCast_mul];refine c8.cb ?_;simp[JJ];exact⟨by omega,by simp,by simp; omega,w',by simp,by rw[O8,show 7 - k=m by omega]; exact bd⟩
  ·have bx:¬ (u v.kind:Int)=2:=fun h=>b5 ((lY v.kind).1 h)
   have nt:jn v=[v.kind]++jm (fi v.text) :=by unfold jn; rw[if_neg b0,if_neg b5]; rfl
   have lM:(jm (fi v.text)).length<=20000:=by
    have:=iu (fi v.text).length;unfold jm;rw[as8];have:=qh v.text;omega
   simp[e9,aQ,bx,ah];refine WN (some (fi v.text)) (by simpa [qh] using aV) (by simp[ds]) (by simp) (fun l' _ _=>by simp[ds]) fun w l' h=>?_
   obtain⟨a3,bo,a2,bd,_⟩:=(aI.frame h.le h.same).app (by_:=1) (x:=w) (xs:=jm (fi v.text)) h.contents (by simp[b7]) (by omega) (by omega) (by rw[ay]; simp only[atk,atF]; omega);simp[a2];refine c8.cb ?_;simp;exact aU _ _ (by rw[nt]; exact bd)
structure YX (l:ao) (v:iR) (p:Nat) (k:Nat) (σ:a8) (l1:ao) :Prop where
 aO:σ 1=.ptr p 0 4
 cw:σ 6=.int .i64 (8*(7 - (k:Int)))
 sD:∃ w,σ 5=w/\cF 1 b7 (l++[.cells 4 (e9 v)]) l1 w (v.kind::oG v.bits k) false
theorem agW {v:iR} (h:kS v=true) (b0:¬ v.kind=1#8) (b5:¬ v.kind=2#8) :v.kind=3#8:=by
 unfold kS at h;simp[b0,b5] at h;exact h.1
theorem amk (v:iR) (ap:ML v) (c0:kS v=true) {l:ao} {K:U->ao->Prop} (aU:∀ w l',cF 1 b7 l l' w (jn v) false->K (.bv [w,.int .i64 0]) l') :
  dh Tryz.prog GS 113 [.aG (e9 v)] l (c:=⟨K⟩) :=by
 apply bq Tryz.func113 [];have ay:ct=140737488355328:=rfl;have aI:=VQ l (.cells 4 (e9 v)) v.kind;obtain⟨sb,tN,aV⟩:=ap;have ah:vk (.str v.text)=some (.aX 1 ((fi v.text).map b7)) :=by
  show some (U.aX 1 (v.text.map fun b=>[jr b]))=_;rw[Ik]
 have e2:=Yl v;rw[c0] at e2;by_cases b0:v.kind=1#8
 ·have nt:jn v=[v.kind]++ek (mW v.num).toNat:=by unfold jn; rw[if_pos b0]; rfl
  have aQ:(u v.kind:Int)=1:=(iO v.kind).2 b0;simp only[bz,aQ] at aI;have kD:=iu (mW v.num).toNat
  simp[e9];refine a4 e2 rfl ?_;simp[my,aQ];refine amj v.num sb tN fun w l' h=>?_
  obtain⟨a3,bo,a2,bd,_⟩:=(aI.frame h.le h.same).app (by_:=1) (x:=w) (xs:=ek (mW v.num).toNat) h.contents (by simp[b7]) (by omega) (by omega) (by rw[ay]; simp only[atk,atF]; omega);simp[a2];refine c8.cb ?_;simp;exact aU _ _ (by rw[nt]; exact bd)
 ·have aQ:¬ (u v.kind:Int)=1:=fun h=>b0 ((iO v.kind).1 h)
  by_cases b5:v.kind=2#8
  ·have bx:(u v.kind:Int)=2:=(lY v.kind).2 b5;have nt:jn v=v.kind::oG v.bits 8:=by unfold jn; rw[if_neg b0,if_pos b5]
   have ae:=uk l (.cells 4 (e9 v)) v.kind;simp only[bz,bx] at ae;simp[e9];refine a4 e2 rfl ?_;simp[my,bx];refine cB 8 (YX l v l.length) ?_ ⟨by simp,by simp,_,by simp,ae⟩;rintro k σ l1 ar ⟨aO,cw,w,bm,fq⟩;have av:l1[l.length]? = some (.cells 4 (e9 v)) :=by rw[fq.same l.length (by simp)]; simp
   obtain⟨σ,rfl⟩:=ln aO bm cw;clear aO bm cw;by_cases io:k=8
   ·subst io;rw[<-nt] at fq;simp;exact aU _ _ (fq.base (by simp) fun b af=>as2 af)
   ·obtain⟨m,hm⟩:∃ m,m+k=7:=⟨7 - k,by omega⟩
    obtain⟨n,aC⟩:∃ n,n=8*m:=⟨_,rfl⟩
    have em:8*(7 - (k:Int))=(n:Int) :=by omega
    have JJ:IntKind.i64.wrap ((n:Int) - 8)=(n:Int) - 8:=by rw[IntKind.wrap_i64]; omega
    have qo:cm .shr .u64 (u v.bits) .i64 (n:Int)=some (.int .u64 (u (v.bits >>> n))) :=u0 v.bits .i64 n;have rI:=Fk v.bits m;rw[<-aC] at rI;have bD:(v.kind::oG v.bits k).length<=1000000000:=by simp[oG]; omega
    obtain⟨w',l',a2,bd⟩:=cF.push fq (l0 v.bits.toNat m) bD;rw[em];simp[e9] at av;simp[av,qo,rI,a2];refine c8.cb ?_;simp[JJ];exact⟨by omega,by simp,by simp; omega,w',by simp,by rw[O8,show 7 - k=m by omega]; exact bd⟩
  ·have bx:¬ (u v.kind:Int)=2:=fun h=>b5 ((lY v.kind).1 h)
   have fc:(u v.kind:Int)=3:=(pd v.kind).2 (agW c0 b0 b5);have nt:jn v=[v.kind]++jm (fi v.text) :=by unfold jn; rw[if_neg b0,if_neg b5]; rfl
   have lM:(jm (fi v.text)).length<=20000:=by
    have:=iu (fi v.text).length;unfold jm;rw[as8];have:=qh v.text;omega
   simp only[bz,fc] at aI;simp[e9];refine a4 e2 rfl ?_;simp[my,fc,ah];refine Yt (some (fi v.text)) (by simpa [qh] using aV) (by simp[ds]) (by simp) (fun l' _ _=>by simp[ds]) fun w l' h=>?_
   obtain⟨a3,bo,a2,bd,_⟩:=(aI.frame h.le h.same).app (by_:=1) (x:=w) (xs:=jm (fi v.text)) h.contents (by simp[b7]) (by omega) (by omega) (by rw[ay]; simp only[atk,atF]; omega);simp[a2];refine c8.cb ?_;simp;exact aU _ _ (by rw[nt]; exact bd)
structure bp where
 g9:D
 bh:dr
 ig:Q
 act:Act
 e:D
 s:D
def a9 (o:bp) :List U:=[br o.g9,aD o.bh,dN o.ig,bz o.act.kind,.str o.act.key,bz o.act.val.kind,.int .i64 o.act.val.num,dN o.act.val.bits,.str o.act.val.text,br o.e,br o.s]
structure i3 (o:bp) :Prop where
 ids:eu o.bh
 len:o.bh.l.length<=1000000
 val:ML o.act.val
 key:o.act.key.length<=10000
def tl (o:bp) :Bool:=gq o.g9&&(decide (o.ig.toNat<=1000000000000)&&(kU o.act&&(js o.e&&js o.s)))
def hh (o:bp) :Int:=if 4<o.bh.l.length then 4 else if dA o.bh.l then (if tl o then 0 else 8) else 32
theorem l3 (o:bp) :a5 (a9 o)=true:=by
 have:=dw o.bh;simp[a9,a5,U.closed,this]
theorem aju (o:bp) (au:i3 o) :bA Tryz.prog GS 169 [.aG (a9 o)] (.int .i64 (hh o)) :=by
 refine bW Tryz.checked.mixed bl ?_;apply bq Tryz.func169 [];unfold hh;have ew:=dw o.bh;have bD:cv (.aq 32) (aD o.bh)=some (.int .i64 o.bh.l.length) :=by simp[aD]
 have lF:(aD o.bh).cells=some [aD o.bh] :=by cases o.bh<;>rfl
 obtain⟨p,av⟩:∃ p,p=aD o.bh:=⟨_,rfl⟩
 by_cases ad:4<o.bh.l.length
 ·have dH:(4:Int)<(o.bh.l.length:Int) :=by omega
  rw[if_pos ad];simp[a9,bD,dH];exact aP rfl rfl
 ·have dH:¬ (4:Int)<(o.bh.l.length:Int) :=by omega
  rw[if_neg ad];simp[a9,bD,dH];refine a4 (WL o.bh au.ids au.len) (by simp[a5,ew]) ?_;cases ae:dA o.bh.l with
  | false=>
   simp;exact aP rfl rfl
  | true=>
   simp;refine a4 (WW o.g9) rfl ?_;unfold tl;cases aj:gq o.g9 with
   | false=>
    simp;exact aP rfl rfl
   | true=>
    have b3:((1000000000000:Int)<u o.ig)<->¬ o.ig.toNat<=1000000000000:=by unfold u; omega
    by_cases aF:o.ig.toNat<=1000000000000
    ·have vo:¬ ((1000000000000:Int)<u o.ig) :=fun h=>b3.1 h aF
     simp[aF,vo];refine a4 (ajY o.act) rfl ?_;cases a6:kU o.act with
     | false=>
      simp[my];exact aP rfl rfl
     | true=>
      simp[my];refine a4 (FE o.e) rfl ?_;cases bu:js o.e with
      | false=>
       simp;exact aP rfl rfl
      | true=>
       simp;refine a4 (FE o.s) rfl ?_;cases cL:js o.s with
       | false=>
        simp;exact aP rfl rfl
       | true=>
        simp;exact aP (by rw[if_pos aF]) rfl
    ·have vo:(1000000000000:Int)<u o.ig:=b3.2 aF;simp[aF,vo];exact aP rfl rfl
end Op

end Go.bY

/-
  Contracts for calls that are carried out: bytes, ids, SHA-256.
-/
import Derived.Test.YtidejmkknleijaaGreatDoorBg
import Derived.Shelf.Spec.SlicesInsertGrow
import Derived.Lib.DecodeN
set_option linter.unusedVariables false
set_option linter.unusedSimpArgs false
set_option linter.unnecessarySimpa false
namespace Go.b0
open Go Go.Proofs
set_option maxRecDepth 100000
open hl
def FF:U->Option B
 | .int .u8 (.ofNat n)=>match Nat.ble n 255 with | true=>some (BitVec.ofNat 8 n) | false=>none
 | _=>none
theorem aaE {c:U} {b:B} (h:FF c=some b) :c=bA b:=by
 unfold FF at h;split at h
 ·split at h
  ·rename_i n _ aD;have:=avq aD;cases h;simp only[bA,u,auK];congr 1;show (n:Int)=((n % 2 ^ 8:Nat) :Int)
   rw[aux (show n<2 ^ 8 by omega)]
  ·cases h
 ·cases h
def P2:List U->Option (List B)
 | []=>some []
 | c::r=>match FF c with
  | some b=>match P2 r with | some l=>some (b::l) | none=>none
  | none=>none
def m8:U->Option (List B)
 | .aF cs=>match P2 cs with | some l=>(match Nat.beq l.length 32 with | true=>some l | false=>none) | none=>none
 | _=>none
def II:List (List U)->Option (List B)
 | []=>some []
 | [c] ::r=>match FF c with
  | some b=>match II r with | some l=>some (b::l) | none=>none
  | none=>none
 | _=>none
theorem XX:∀ {es:List (List U)} {l:List B},II es=some l->es=l.map ca
 | [],l,h=>by cases h; rfl
 | e::r,l,h=>by
  unfold II at h;split at h
  ·rename_i aP; cases aP
  ·rename_i c cB aP;cases aP;split at h
   ·rename_i b ag;split at h
    ·rename_i l' al;cases h;rw[aaE ag,XX al]; rfl
    ·cases h
   ·cases h
  ·cases h
def FO:U->Option eZ
 | .aH=>some none
 | .aZ 1 es=>match II es with | some l=>some (some l) | none=>none
 | _=>none
theorem P5 {c:U} {s:eZ} (h:FO c=some s) :c=cD s:=by
 unfold FO at h;split at h
 ·cases h; rfl
 ·split at h
  ·rename_i l al;cases h;rw[XX al]; rfl
  ·cases h
 ·cases h
def YH:List U->Option U
 | [c]=>match FO c with
  | some s=>match Nat.ble s.l.length 10000 with | true=>some (.bt [gF (iU s.l),.int .i64 0]) | false=>none
  | none=>none
 | _=>none
abbrev ju:FuncId × Bool × (List U->Option U) :=(85,false,YH)
theorem zk:tH Tryz.prog GS ju:=by
 intro args r h;refine⟨?_,fun h=>by cases h⟩;simp only[YH] at h;split at h
 ·split at h
  ·rename_i c s ak;split at h
   ·rename_i aD;cases h;rw[P5 ak];exact YL s (avq aD)
   ·cases h
  ·cases h
 ·cases h
end Go.b0

namespace Go.b0
open Go Go.Proofs Go.Shelf Go.RowKit Go.Lib
set_option maxRecDepth 100000
set_option maxHeartbeats 4000000
theorem ahy (base:Option Addr) (n c ev fm hj:Nat) (r:Value) (w w' : World) (aD:n<=c) (uf:n<=4611686018427387904) (iA:base=none->n=0/\c=0)
  (fQ:(Builtin.append_ #[23,23] 23 #[.slice base n c,.slice (some ⟨fm,hj,none⟩) 1 ev]).run Tryz.prog w=.ok r w') :
  Calls Tryz.prog 126 #[.slice base n c,.int .i64 n,.slice (some ⟨fm,hj,none⟩) 1 ev] w fun e w2=>e=.returned r/\w2=w':=by
 have zo:=Tryz.underlying23;have mixed:=Tryz.checked.mixed
 go_enter Tryz.func126,Tryz.ntmps126
 cases base with
 | none=>
  obtain⟨aI,ad⟩:=iA rfl;subst aI ad
  go_wp2_with (at_builtin; refine Lib.wpList_append_run _ rfl _ _ _ _ rfl _ _ rfl rfl _ _ fQ ?_)
  go_ret
  exact⟨rfl,rfl⟩
 | some a=>
  obtain⟨ab,aat,aaA⟩:=a
  go_wp2_with (at_builtin; refine Lib.wpList_append_run _ rfl _ _ _ _ rfl _ _ rfl rfl _ _ fQ ?_)
  all_goals (go_ret; exact⟨rfl,rfl⟩)
theorem ahD (b off n c i fm hj ev:Nat) (bZ cc:Value) (w cG dP:World) (zl fr:TypeId) (qt s3:Nat) (ay:i<n) (dL:n+1<=c) (uf:n<=4611686018427387904) (nN:fm≠b)
  (L1:w.shape? fm=some (zl,qt)) (DS:w.shape? b=some (fr,s3)) (Lq:s3≠0) (yk:w.frozen? ⟨fm,hj,none⟩=false) (yl:w.frozen? ⟨fm,qt,none⟩=false)
  (qb:(Builtin.copy_ #[23,23] 3 #[.slice (some ⟨b,off+(i+1)*32,none⟩) (n - i) (c - (i+1)),.slice (some ⟨b,off+i*32,none⟩) (n+1 - i) (c - i)]).run Tryz.prog w.drew=.ok bZ cG)
  (qc:(Builtin.copy_ #[23,23] 3 #[.slice (some ⟨b,off+i*32,none⟩) (n+1 - i) (c - i),.slice (some ⟨fm,hj,none⟩) 1 ev]).run Tryz.prog cG=.ok cc dP) :
  Calls Tryz.prog 126 #[.slice (some ⟨b,off,none⟩) n c,.int .i64 i,.slice (some ⟨fm,hj,none⟩) 1 ev] w fun e w2=>e=.returned (.slice (some ⟨b,off,none⟩) (n+1) c)/\w2=dP:=by
 have zo:=Tryz.underlying23;have mb:∀ w,(Go.sizeOf 61).run Tryz.prog w=.ok 32 w:=fun w=>fK (by kernel_rfl)
 have mixed:=Tryz.checked.mixed;have DL:∀ lb lK,(callFunc 165 #[.slice (some ⟨fm,hj,none⟩) 1 ev,.slice (some ⟨b,off+(i+1)*32,none⟩) lb lK]).run Tryz.prog w=.ok (.value (.bool false)) w:=fun lb lK=>by
  rw[run_callFunc_extern Tryz.func165 (by kernel_rfl) (by kernel_rfl) (by kernel_rfl) (e:=Extern.SlicesOverlaps.overlaps #[23,23] #[4]) (by kernel_rfl),
   Lib.run_overlaps_apart w 23 4 61 zo 32 mb ⟨fm,hj,none⟩ ⟨b,off+(i+1)*32,none⟩ 1 ev lb lK nN zl fr qt s3 L1 DS Lq yk yl]
  rfl
 have qq:¬ ((i:Int)=(n:Int)) :=by omega
 have oG:IntKind.i64.wrap ((i:Int)+1)=(i:Int)+1:=by rw[IntKind.wrap_i64]; omega
 have mv:IntKind.i64.wrap ((n:Int)+1)=(n:Int)+1:=by rw[IntKind.wrap_i64]; omega
 have fZ:(0:Int)<=(i:Int)+1:=by omega
 have cQ:i<=n:=by omega
 have HF:((i:Int)+1).toNat=i+1:=by omega
 have dW:¬ (c=i+1) :=by omega
 have uk:(i:Int)<=(n:Int)+1:=by omega
 have Df:¬ (c=i) :=by omega
 have aed:¬ ((c:Int)<(n:Int)+1) :=by omega
 go_enter Tryz.func126,Tryz.ntmps126
 go_wp2_with (simp only[DL])
 go_region_law_o (refine step_copy_runI rfl _ _ 23 23 rfl _ _ (by simp[Act.eval,Act.put]) (by simp[Act.eval,Act.put]) qb ?_)
 go_wp2_with (at_builtin; refine wpList_copy_runI _ rfl _ _ 23 23 rfl _ _ rfl rfl qc ?_)
 go_ret
 exact⟨rfl,rfl⟩
theorem ahA (b off n c i fm hj ev N G:Nat) (bZ cc:Value) (w q2 cG dP:World) (ay:i<n) (Hn:n<=c) (dL:c<n+1) (ij:n+1<=G) (uf:n<=4611686018427387904)
  (j1:(Builtin.append_ #[23,3] 23 #[.slice (some ⟨b,off,none⟩) i c,.int .i64 ((n:Int)+1 - (i:Int))]).run Tryz.prog w=.ok (.slice (some ⟨N,0,none⟩) (n+1) G) q2)
  (qb:(Builtin.copy_ #[23,23] 3 #[.slice (some ⟨N,i*32,none⟩) (n+1 - i) (G - i),.slice (some ⟨fm,hj,none⟩) 1 ev]).run Tryz.prog q2=.ok bZ cG)
  (qc:(Builtin.copy_ #[23,23] 3 #[.slice (some ⟨N,(i+1)*32,none⟩) (n - i) (G - (i+1)),.slice (some ⟨b,off+i*32,none⟩) (n - i) (c - i)]).run Tryz.prog cG.drew=.ok cc dP) :
  Calls Tryz.prog 126 #[.slice (some ⟨b,off,none⟩) n c,.int .i64 i,.slice (some ⟨fm,hj,none⟩) 1 ev] w fun e w2=>e=.returned (.slice (some ⟨N,0,none⟩) (n+1) G)/\w2=dP:=by
 have zo:=Tryz.underlying23;have mb:∀ w,(Go.sizeOf 61).run Tryz.prog w=.ok 32 w:=fun w=>fK (by kernel_rfl)
 have mixed:=Tryz.checked.mixed;have qq:¬ ((i:Int)=(n:Int)) :=by omega
 have oG:IntKind.i64.wrap ((i:Int)+1)=(i:Int)+1:=by rw[IntKind.wrap_i64]; omega
 have mv:IntKind.i64.wrap ((n:Int)+1)=(n:Int)+1:=by rw[IntKind.wrap_i64]; omega
 have agX:IntKind.i64.wrap ((n:Int)+1 - (i:Int))=(n:Int)+1 - (i:Int) :=by rw[IntKind.wrap_i64]; omega
 have fZ:(0:Int)<=(i:Int)+1:=by omega
 have cQ:i<=n:=by omega
 have HF:((i:Int)+1).toNat=i+1:=by omega
 have adJ:¬ (G=i) :=by omega
 have adK:¬ (G=i+1) :=by omega
 have fj:¬ (c=i) :=by omega
 have Mk:(c:Int)<(n:Int)+1:=by omega
 have uk:(i:Int)<=(n:Int) :=by omega
 have aee:(i:Int)<=(c:Int) :=by omega
 go_enter Tryz.func126,Tryz.ntmps126
 go_wp2_with (first
  | (at_builtin; refine Lib.wpList_append_run _ rfl _ _ _ _ rfl _ _ rfl rfl _ _ j1 ?_)
  | (at_builtin; refine wpList_copy_runI _ rfl _ _ 23 23 rfl _ _ rfl rfl qb ?_))
 go_region_law_o (refine step_copy_runI rfl _ _ 23 23 rfl _ _ (by simp[Act.eval,Act.put]) (by simp[Act.eval,Act.put]) qc ?_)
 go_wp2
 go_ret
 exact⟨rfl,rfl⟩
theorem ahs:BU Tryz.prog 126 23 3 61 32:=
 ⟨Tryz.underlying23,Tryz.underlying3,ahy,ahD,ahA⟩
theorem ahp {G:Nat->U} (args:List U) (h:aN) (r:U) (h' : aN) (af:sY 32 32 args h=some (r,h')) :qS Tryz.prog G 126 args h r h':=
 Vj ahs (by kernel_rfl) (by kernel_rfl) (by kernel_rfl) (by omega) (by omega) (by kernel_rfl) args h r h' af
theorem ahz (base:Option Addr) (n c ev fm hj:Nat) (r:Value) (w w' : World) (aD:n<=c) (uf:n<=4611686018427387904) (iA:base=none->n=0/\c=0)
  (fQ:(Builtin.append_ #[45,45] 45 #[.slice base n c,.slice (some ⟨fm,hj,none⟩) 1 ev]).run Tryz.prog w=.ok r w') :
  Calls Tryz.prog 127 #[.slice base n c,.int .i64 n,.slice (some ⟨fm,hj,none⟩) 1 ev] w fun e w2=>e=.returned r/\w2=w':=by
 have zo:=Tryz.underlying45;have mixed:=Tryz.checked.mixed
 go_enter Tryz.func127,Tryz.ntmps127
 cases base with
 | none=>
  obtain⟨aI,ad⟩:=iA rfl;subst aI ad
  go_wp2_with (at_builtin; refine Lib.wpList_append_run _ rfl _ _ _ _ rfl _ _ rfl rfl _ _ fQ ?_)
  go_ret
  exact⟨rfl,rfl⟩
 | some a=>
  obtain⟨ab,aat,aaA⟩:=a
  go_wp2_with (at_builtin; refine Lib.wpList_append_run _ rfl _ _ _ _ rfl _ _ rfl rfl _ _ fQ ?_)
  all_goals (go_ret; exact⟨rfl,rfl⟩)
theorem ahE (b off n c i fm hj ev:Nat) (bZ cc:Value) (w cG dP:World) (zl fr:TypeId) (qt s3:Nat) (ay:i<n) (dL:n+1<=c) (uf:n<=4611686018427387904) (nN:fm≠b)
  (L1:w.shape? fm=some (zl,qt)) (DS:w.shape? b=some (fr,s3)) (Lq:s3≠0) (yk:w.frozen? ⟨fm,hj,none⟩=false) (yl:w.frozen? ⟨fm,qt,none⟩=false)
  (qb:(Builtin.copy_ #[45,45] 3 #[.slice (some ⟨b,off+(i+1)*11,none⟩) (n - i) (c - (i+1)),.slice (some ⟨b,off+i*11,none⟩) (n+1 - i) (c - i)]).run Tryz.prog w.drew=.ok bZ cG)
  (qc:(Builtin.copy_ #[45,45] 3 #[.slice (some ⟨b,off+i*11,none⟩) (n+1 - i) (c - i),.slice (some ⟨fm,hj,none⟩) 1 ev]).run Tryz.prog cG=.ok cc dP) :
  Calls Tryz.prog 127 #[.slice (some ⟨b,off,none⟩) n c,.int .i64 i,.slice (some ⟨fm,hj,none⟩) 1 ev] w fun e w2=>e=.returned (.slice (some ⟨b,off,none⟩) (n+1) c)/\w2=dP:=by
 have zo:=Tryz.underlying45;have mb:∀ w,(Go.sizeOf 94).run Tryz.prog w=.ok 11 w:=fun w=>fK (by kernel_rfl)
 have mixed:=Tryz.checked.mixed;have DL:∀ lb lK,(callFunc 167 #[.slice (some ⟨fm,hj,none⟩) 1 ev,.slice (some ⟨b,off+(i+1)*11,none⟩) lb lK]).run Tryz.prog w=.ok (.value (.bool false)) w:=fun lb lK=>by
  rw[run_callFunc_extern Tryz.func167 (by kernel_rfl) (by kernel_rfl) (by kernel_rfl) (e:=Extern.SlicesOverlaps.overlaps #[45,45] #[4]) (by kernel_rfl),
   Lib.run_overlaps_apart w 45 4 94 zo 11 mb ⟨fm,hj,none⟩ ⟨b,off+(i+1)*11,none⟩ 1 ev lb lK nN zl fr qt s3 L1 DS Lq yk yl]
  rfl
 have qq:¬ ((i:Int)=(n:Int)) :=by omega
 have oG:IntKind.i64.wrap ((i:Int)+1)=(i:Int)+1:=by rw[IntKind.wrap_i64]; omega
 have mv:IntKind.i64.wrap ((n:Int)+1)=(n:Int)+1:=by rw[IntKind.wrap_i64]; omega
 have fZ:(0:Int)<=(i:Int)+1:=by omega
 have cQ:i<=n:=by omega
 have HF:((i:Int)+1).toNat=i+1:=by omega
 have dW:¬ (c=i+1) :=by omega
 have uk:(i:Int)<=(n:Int)+1:=by omega
 have Df:¬ (c=i) :=by omega
 have aed:¬ ((c:Int)<(n:Int)+1) :=by omega
 go_enter Tryz.func127,Tryz.ntmps127
 go_wp2_with (simp only[DL])
 go_region_law_o (refine step_copy_runI rfl _ _ 45 45 rfl _ _ (by simp[Act.eval,Act.put]) (by simp[Act.eval,Act.put]) qb ?_)
 go_wp2_with (at_builtin; refine wpList_copy_runI _ rfl _ _ 45 45 rfl _ _ rfl rfl qc ?_)
 go_ret
 exact⟨rfl,rfl⟩
theorem ahB (b off n c i fm hj ev N G:Nat) (bZ cc:Value) (w q2 cG dP:World) (ay:i<n) (Hn:n<=c) (dL:c<n+1) (ij:n+1<=G) (uf:n<=4611686018427387904)
  (j1:(Builtin.append_ #[45,3] 45 #[.slice (some ⟨b,off,none⟩) i c,.int .i64 ((n:Int)+1 - (i:Int))]).run Tryz.prog w=.ok (.slice (some ⟨N,0,none⟩) (n+1) G) q2)
  (qb:(Builtin.copy_ #[45,45] 3 #[.slice (some ⟨N,i*11,none⟩) (n+1 - i) (G - i),.slice (some ⟨fm,hj,none⟩) 1 ev]).run Tryz.prog q2=.ok bZ cG)
  (qc:(Builtin.copy_ #[45,45] 3 #[.slice (some ⟨N,(i+1)*11,none⟩) (n - i) (G - (i+1)),.slice (some ⟨b,off+i*11,none⟩) (n - i) (c - i)]).run Tryz.prog cG.drew=.ok cc dP) :
  Calls Tryz.prog 127 #[.slice (some ⟨b,off,none⟩) n c,.int .i64 i,.slice (some ⟨fm,hj,none⟩) 1 ev] w fun e w2=>e=.returned (.slice (some ⟨N,0,none⟩) (n+1) G)/\w2=dP:=by
 have zo:=Tryz.underlying45;have mb:∀ w,(Go.sizeOf 94).run Tryz.prog w=.ok 11 w:=fun w=>fK (by kernel_rfl)
 have mixed:=Tryz.checked.mixed;have qq:¬ ((i:Int)=(n:Int)) :=by omega
 have oG:IntKind.i64.wrap ((i:Int)+1)=(i:Int)+1:=by rw[IntKind.wrap_i64]; omega
 have mv:IntKind.i64.wrap ((n:Int)+1)=(n:Int)+1:=by rw[IntKind.wrap_i64]; omega
 have agX:IntKind.i64.wrap ((n:Int)+1 - (i:Int))=(n:Int)+1 - (i:Int) :=by rw[IntKind.wrap_i64]; omega
 have fZ:(0:Int)<=(i:Int)+1:=by omega
 have cQ:i<=n:=by omega
 have HF:((i:Int)+1).toNat=i+1:=by omega
 have adJ:¬ (G=i) :=by omega
 have adK:¬ (G=i+1) :=by omega
 have fj:¬ (c=i) :=by omega
 have Mk:(c:Int)<(n:Int)+1:=by omega
 have uk:(i:Int)<=(n:Int) :=by omega
 have aee:(i:Int)<=(c:Int) :=by omega
 go_enter Tryz.func127,Tryz.ntmps127
 go_wp2_with (first
  | (at_builtin; refine Lib.wpList_append_run _ rfl _ _ _ _ rfl _ _ rfl rfl _ _ j1 ?_)
  | (at_builtin; refine wpList_copy_runI _ rfl _ _ 45 45 rfl _ _ rfl rfl qb ?_))
 go_region_law_o (refine step_copy_runI rfl _ _ 45 45 rfl _ _ (by simp[Act.eval,Act.put]) (by simp[Act.eval,Act.put]) qc ?_)
 go_wp2
 go_ret
 exact⟨rfl,rfl⟩
theorem aht:BU Tryz.prog 127 45 3 94 11:=
 ⟨Tryz.underlying45,Tryz.underlying3,ahz,ahE,ahB⟩
theorem ahq {G:Nat->U} (args:List U) (h:aN) (r:U) (h' : aN) (af:sY 11 112 args h=some (r,h')) :qS Tryz.prog G 127 args h r h':=
 Vj aht (by kernel_rfl) (by kernel_rfl) (by kernel_rfl) (by omega) (by omega) (by kernel_rfl) args h r h' af
def MB (f:FuncId) :Option (Nat × Nat) :=match Nat.beq f 126 with | true=>some (32,32) | false=>match Nat.beq f 127 with | true=>some (11,112) | false=>none
theorem aho (f:FuncId) (z by_:Nat) (h:MB f=some (z,by_)) (args:List U) (av:aN) (r:U) (iC:aN) (af:sY z by_ args av=some (r,iC)) :qS Tryz.prog GS f args av r iC:=by
 unfold MB at h;split at h
 ·rename_i ag;have aE:=auW ag;subst aE;cases h;exact ahp args av r iC af
 split at h
 ·rename_i ag;have aE:=auW ag;subst aE;cases h;exact ahq args av r iC af
 cases h
instance aqS:qT Tryz.prog GS:=⟨MB,aho⟩
end Go.b0

namespace Go.b0
open Go Go.Proofs Go.Sort Go.Shelf
set_option maxRecDepth 100000
open hl
def cg:List B->List B->Int
 | [],[]=>0
 | [],_::_=>-1
 | _::_,[]=>1
 | a::mC,b::nY=>if a.toNat<b.toNat then -1 else if b.toNat<a.toNat then 1 else cg mC nY
theorem RW (a b:B) (mC nY:List B) :cg (a::mC) (b::nY)=if a.toNat<b.toNat then -1 else if b.toNat<a.toNat then 1 else cg mC nY:=rfl
theorem q7:∀ a:List B,cg a a=0
 | []=>rfl
 | a::mC=>by unfold cg; simp; exact q7 mC
theorem zX:∀ {a b:List B},cg a b=0->a=b
 | [],[],_=>rfl
 | [],_::_,h=>by simp[cg] at h
 | _::_,[],h=>by simp[cg] at h
 | a::mC,b::nY,h=>by
  unfold cg at h;split at h
  ·cases h
  ·split at h
   ·cases h
   ·have ad:a=b:=auD (by omega);rw[ad,zX h]
theorem Cp:∀ a b:List B,cg b a=- cg a b
 | [],[]=>rfl
 | [],_::_=>rfl
 | _::_,[]=>rfl
 | a::mC,b::nY=>by
  unfold cg;by_cases ad:a.toNat<b.toNat
  ·simp[ad,show ¬ b.toNat<a.toNat by omega]
  ·by_cases ae:b.toNat<a.toNat
   ·simp[ad,ae]
   ·simp[ad,ae]; exact Cp mC nY
theorem RV:∀ a b:List B,cg a b=-1\/cg a b=0\/cg a b=1
 | [],[]=>by simp[cg]
 | [],_::_=>by simp[cg]
 | _::_,[]=>by simp[cg]
 | a::mC,b::nY=>by
  unfold cg;split
  ·simp
  ·split
   ·simp
   ·exact RV mC nY
theorem zY:∀ a b c:List B,cg a b<0->cg b c<0->cg a c<0
 | [],[],_,h,_=>by simp[cg] at h
 | [],_::_,[],_,h=>by simp[cg] at h
 | [],_::_,_::_,_,_=>by simp[cg]
 | _::_,[],_,h,_=>by simp[cg] at h
 | _::_,_::_,[],_,h=>by simp[cg] at h
 | a::mC,b::nY,c::ak9,ad,ae=>by
  unfold cg at ad ae ⊢;have aR:=zY mC nY ak9
  repeat' split at ad
  all_goals repeat' split at ae
  all_goals repeat' split
  all_goals first | omega | (exact aR ad ae) | (exfalso; omega) | skip
def ib (a b:List B) :Bool:=ltOf cg a b
theorem nT (a b:List B) :ib a b=true<->cg a b<0:=by unfold ib ltOf; simp
theorem abC {a b:List B} (k:Nat) (h:∀ j,j<k->a[j]? = b[j]?) (aC:k<=a.length) (ag:k<=b.length) :cg (a.drop k) (b.drop k)=cg a b:=by
 induction k with
 | zero=>simp
 | succ k aR=>
  rw[<-aR (fun j ai=>h j (by omega)) (by omega) (by omega)];have ad:=h k (by omega);rw[avg (l:=a) (i:=k) (by omega),avg (l:=b) (i:=k) (by omega)];rw[auo (by omega),auo (by omega)] at ad;have ae:=Option.some.inj ad
  conv=>rhs; unfold cg
  rw[ae];simp
end Go.b0

namespace Go.b0
open Go Go.Proofs
set_option maxRecDepth 100000
namespace Op
open hl
abbrev Q:=BitVec 64
abbrev D:=BitVec 32
theorem OE:(u (1#64) :Int)=1:=rfl
def eT (x:D) :List U:=[bu x]
def rV (l:List D) :Q:=l.foldl (fun o x=>o*x.setWidth 64 % 1000000007#64) 1#64
theorem aje (l:List D) (k:Nat) (x:D) (h:l[k]? = some x) :rV (l.take (k+1))=rV (l.take k)*x.setWidth 64 % 1000000007#64:=by
 rw[auP,h]; simp[rV,awG]
theorem IC (x:Q) :ct .rem .u64 (u x) .u64 1000000007=some (.int .u64 (u (x % 1000000007#64))) :=zM x 1000000007#64 (by decide)
theorem Nb (l:List D) (al:l.length<=1000) :bz Tryz.prog GS 157 [.int .u64 1000000007,cE 1 eT (some l)] (bu ((rV l).setWidth 32)) :=by
 refine bX Tryz.checked.mixed bn ?_;apply bq Tryz.func157 [];have bC:ce (.aq 1) (cE 1 eT (some l))=some (.int .i64 l.length) :=s5 _;simp[bC];refine cl l.length (fun k σ _=>σ 0=.int .u64 1000000007/\σ 5=dS (rV (l.take k))/\σ 8=cE 1 eT (some l)/\σ 9=.int .i64 l.length/\σ 10=.int .i64 k) ?_ (by simp[rV]; rfl);rintro k σ h ar ⟨cb,bo,e4,gZ,jg⟩;obtain⟨σ,rfl⟩:=lC cb bo e4 gZ jg;clear cb bo e4 gZ jg;by_cases h:k<l.length
 ·obtain⟨x,af,_⟩:=bI h;have bY:cL (.aq 1) (cE 1 eT (some l)) (.int .i64 k)=some (.bM (eT x) 0) :=by rw[uJ]; simp[af]
  have fq:IntKind.i64.wrap ((k:Int)+1)=(k+1:Nat) :=wrap_i64 (by omega) (by omega);have ak:=aje l k x af;simp[h,bY,eT,fq,IC];rw[<-ak]
 ·have ff:k=l.length:=by omega
  subst ff;simp;exact aQ rfl rfl
def fT (a n:Nat) :Nat:=a ^ n % 1000000007
theorem za (a n:Nat) :fT a n<1000000007:=awj _ (by decide)
theorem W7 (a n:Nat) :fT a n*fT a n % 1000000007=fT a (2*n) :=by
 unfold fT; rw[<-awJ,<-awY]; congr 2; omega
theorem W5 (a n:Nat) :fT a n*a % 1000000007=fT a (n+1) :=by
 unfold fT; rw[Nat.mod_mul_mod,Nat.pow_succ]
def hf (a:D) (n:Nat) :D:=BitVec.ofNat 32 (fT a.toNat n)
theorem r2 (a:D) (n:Nat) :(hf a n).toNat=fT a.toNat n:=by
 have:=za a.toNat n;unfold hf; rw[auK]; exact aux (by omega)
theorem Na (x y:D) (af:x.toNat<1000000007) :(rV [x,y]).setWidth 32=BitVec.ofNat 32 (x.toNat*y.toNat % 1000000007) :=by
 apply auD;have aJ:=y.isLt;have ad:x.toNat*y.toNat<1000000007*4294967296:=by
  calc x.toNat*y.toNat<=1000000007*y.toNat:=aup _ (by omega)
   _<1000000007*4294967296:=Nat.mul_lt_mul_of_pos_left (by simpa using aJ) (by decide)
 have ae:(1#64*x.setWidth 64 % 1000000007#64).toNat=x.toNat:=by
  rw[BitVec.one_mul,avC,auE];rw[aux (show x.toNat<2 ^ 64 by omega),show (1000000007#64).toNat=1000000007 from rfl,aux af]
 simp only[rV,axm,List.foldl_nil,auE,avC,awb,ae,auK];rw[aux (show y.toNat<2 ^ 64 by omega),aux (show x.toNat*y.toNat<2 ^ 64 by omega),aux (show 1000000007<2 ^ 64 by decide)]
theorem ajf (a:D) (n:Nat) :(rV [hf a n,hf a n]).setWidth 32=hf a (2*n) :=by
 rw[Na _ _ (by rw[r2]; exact za _ _),r2,W7]; rfl
theorem mul_one (a:D) (n:Nat) :(rV [hf a n,a]).setWidth 32=hf a (n+1) :=by
 rw[Na _ _ (by rw[r2]; exact za _ _),r2,W5]; rfl
theorem ES {l:ao} {b:Nat} {x y:D} (h:l[b]? = some (.cells 2 [bu x,bu y])) :gA (bb l) (.aq 1 b 0 2 2 2) (cE 1 eT (some [x,y])) :=by
 refine Ix (rest:=[]) (es:=[[bu x],[bu y]]) (by simpa using h) rfl (by simp) (by simp[a5,U.closed])
theorem ac0:jH Tryz.prog 186=true:=by kernel_rfl
theorem amg {x:D} {l:ao} {K:U->ao->Prop} (aT:∀ v rest,K v (.cells 1 [bu ((rV [x,x]).setWidth 32)] ::rest)) :c0 Tryz.prog GS 186 [.ptr 0 0 1] (.cells 1 [bu x] ::l) (c:=⟨K⟩) :=by
 apply bq Tryz.func186 [];simp;refine l7 (Nb [x,x] (by simp)) (.cons (.same _ rfl) (.cons (ES (by simp)) .nil)) rfl ?_;simp;exact aT _ _
theorem Tx (n k:Nat) (ar:k<64) :n / 2 ^ (63 - k)=2*(n / 2 ^ (64 - k))+n / 2 ^ (63 - k) % 2:=by
 have:2 ^ (64 - k)=2 ^ (63 - k)*2:=by rw[<-Nat.pow_succ]; congr 1; omega
 rw[this,<-Nat.div_div_eq_div_mul]; omega
theorem Is (a:D) (n:Q) :bz Tryz.prog GS 151 [bu a,dS n] (bu (hf a n.toNat)) :=by
 refine bX Tryz.checked.mixed bn ?_;apply bq Tryz.func151 [];simp;refine cl 64 (fun k σ l=>σ 0=bu a/\σ 1=dS n/\σ 5=.ptr 0 0 1/\σ 6=.fn 186 [] [.ptr 0 0 1]/\σ 9=.int .i64 k/\∃ r,l=.cells 1 [bu (hf a (n.toNat / 2 ^ (64 - k)))] ::r) ?_ (by
  have:n.toNat / 2 ^ 64=0:=axe n.isLt;simp[this,hf,fT]; rfl)
 rintro k σ l ar ⟨cb,aK,bo,cu,gZ,r,rfl⟩;obtain⟨σ,rfl⟩:=lC cb aK bo cu gZ;clear cb aK bo cu gZ;by_cases h:(k:Int)<64
 ·have fq:IntKind.i64.wrap ((k:Int)+1)=(k+1:Nat) :=wrap_i64 (by omega) (by omega);have yN:IntKind.i64.wrap (63 - (k:Int))=((63 - k:Nat) :Int) :=by rw[wrap_i64 (by omega) (by omega)]; omega
  have ag:=Tx n.toNat k (by omega);have pj:ct .shr .u64 (u n) .i64 ((63 - k:Nat) :Int)=some (.int .u64 (u (n >>> (63 - k)))) :=vD n .i64 (63 - k);have adq:64 - (k+1)=63 - k:=by omega
  simp[h,fq];refine⟨ac0,?_⟩;simp;refine amg fun v rest=>?_
  simp[yN,pj,ajf];rw[adq];by_cases au:n.toNat / 2 ^ (63 - k) % 2=1
  ·have KZ:n >>> (63 - k) &&& 1#64=1#64:=by
    apply auD;rw[awL,avd,auQ];show _ &&& 1=1;rw[Nat.and_one_is_mod,au]
   rw[au] at ag;have a7:hf a (2*(n.toNat / 2 ^ (64 - k))+1)=hf a (n.toNat / 2 ^ (63 - k)) :=by rw[<-ag]
   simp[KZ,OE];refine l7 (Nb [hf a (2*(n.toNat / 2 ^ (64 - k))),a] (by simp)) (.cons (.same _ rfl) (.cons (ES (by simp)) .nil)) rfl ?_;rw[mul_one,a7];simp[fq];omega
  ·have au:n.toNat / 2 ^ (63 - k) % 2=0:=by omega
   have KZ:n >>> (63 - k) &&& 1#64=0#64:=by
    apply auD;rw[awL,avd,auQ];show _ &&& 1=0;rw[Nat.and_one_is_mod,au]
   rw[au,awA] at ag;simp[KZ,fq];rw[<-ag];exact⟨by omega,rfl⟩
 ·have ff:k=64:=by omega
  subst ff;simp;exact aQ rfl rfl
theorem NF (a b:Q) (ag:b≠0#64) :ct .quo .u64 (u a) .u64 (u b)=some (.int .u64 (u (a / b))) :=by
 have bO:(b.toNat:Int)≠0:=fun e=>ag (auD (by simpa using e))
 show (if IntKind.u64=IntKind.u64/\(b.toNat:Int)≠0 then some (U.int .u64 (IntKind.u64.wrap ((a.toNat:Int).tdiv b.toNat))) else none)=_;rw[if_pos ⟨rfl,bO⟩,zr];congr 2;have:((a.toNat:Int).tdiv b.toNat)=((a.toNat / b.toNat:Nat) :Int) :=rfl;rw[this,avZ];congr 1;apply auD;rw[auK,avM];exact aux (Nat.lt_of_le_of_lt (Nat.div_le_self _ _) a.isLt)
theorem Xm (x:Q) :ct .quo .u64 (u x) .u64 2=some (.int .u64 (u (x / 2#64))) :=NF x 2#64 (by decide)
theorem XL (x:Q) :ct .rem .u64 (u x) .u64 2=some (.int .u64 (u (x % 2#64))) :=zM x 2#64 (by decide)
theorem Bd (x y:Q) (af:x.toNat<4294967296) (aJ:y.toNat<4294967296) :(x*y % 1000000007#64).toNat=x.toNat*y.toNat % 1000000007:=by
 have ad:x.toNat*y.toNat<18446744073709551616:=by
  calc x.toNat*y.toNat<=4294967295*y.toNat:=aup _ (by omega)
   _<=4294967295*4294967295:=Nat.mul_le_mul_left _ (by omega)
   _<18446744073709551616:=by decide
 rw[avC,awb,aux (show x.toNat*y.toNat<2 ^ 64 by omega)]; rfl
theorem akx (o b m:Nat) (h:m % 2=1) :o*b % 1000000007*(b*b % 1000000007) ^ (m / 2) % 1000000007=o*b ^ m % 1000000007:=by
 have hm:m=2*(m / 2)+1:=by omega
 rw[awJ,Nat.mod_mod,awZ (b*b % 1000000007),Nat.mod_mod,<-awZ,<-awJ];congr 1;rw[Nat.mul_pow,Nat.mul_assoc,<-awY]
 conv=>rhs; rw[hm,Nat.pow_succ]
 rw[axb b,show 2*(m / 2)=m / 2+m / 2 by omega]
theorem akw (o b m:Nat) (h:m % 2=0) :o*(b*b % 1000000007) ^ (m / 2) % 1000000007=o*b ^ m % 1000000007:=by
 have hm:m=2*(m / 2) :=by omega
 rw[awJ,awZ (b*b % 1000000007),Nat.mod_mod,<-awZ,<-awJ];congr 1;rw[Nat.mul_pow,<-awY]
 conv=>rhs; rw[hm]
 rw[show 2*(m / 2)=m / 2+m / 2 by omega]
theorem W8 (a n:Q) (aC:a.toNat<4294967296) :bz Tryz.prog GS 216 [dS a,dS n,.int .u64 1000000007] (dS (BitVec.ofNat 64 (fT a.toNat n.toNat))) :=by
 refine bX Tryz.checked.mixed bn ?_;apply bq Tryz.func216 [];simp;refine Eu (fun m σ _=>∃ o b c:Q,c.toNat=m/\o.toNat<1000000007/\b.toNat<4294967296/\o.toNat*b.toNat ^ m % 1000000007=fT a.toNat n.toNat/\σ 0=dS b/\σ 1=dS c/\σ 2=.int .u64 1000000007/\σ 7=dS o) ?_ n.toNat _ _ ⟨1#64,a,n,rfl,by decide,aC,by simp[fT],by simp; rfl⟩;rintro m σ l ⟨o,b,c,ah,au,ag,av,cb,aK,aU,dU⟩;obtain⟨σ,rfl⟩:=iE cb aK aU dU;clear cb aK aU dU;have pg:(u c:Int)=(m:Int) :=by unfold u; rw[ah]
 by_cases hm:m=0
 ·subst hm;have aI:c=0#64:=auD (by simpa using ah);simp[aI];refine aQ ?_ rfl;rw[Nat.pow_zero,avX,aux au] at av;rw[<-av,BitVec.ofNat_toNat,BitVec.setWidth_eq]
 ·have Ay:c≠0#64:=fun e=>hm (by rw[<-ah,e]; rfl)
  have aL:(0:Int)<u c:=by rw[pg]; omega
  have T6:(c / 2#64).toNat=m / 2:=by rw[avM,ah]; rfl
  have Us:(c % 2#64).toNat=m % 2:=by rw[avC,ah]; rfl
  have b4:(b*b % 1000000007#64).toNat<4294967296:=by
   rw[Bd b b ag ag]; have:=awj (b.toNat*b.toNat) (show 1000000007 > 0 by decide); omega
  by_cases UC:m % 2=1
  ·have ad:c % 2#64=1#64:=auD (by rw[Us,UC]; rfl);simp[aL,IC,Xm,XL,ad,OE];have eV:o.toNat<4294967296:=by omega
   refine⟨m / 2,by omega,_,_,_,T6,?_,b4,?_,rfl,rfl,rfl⟩
   ·rw[Bd o b eV ag]; exact awj _ (by decide)
   ·rw[Bd o b eV ag,Bd b b ag ag,akx _ _ _ UC,av]
  ·have ad:c % 2#64=0#64:=auD (by rw[Us]; simp; omega);simp[aL,IC,Xm,XL,ad,OE];refine⟨m / 2,by omega,_,_,_,T6,au,b4,?_,rfl,rfl,rfl⟩;rw[Bd b b ag ag,akw _ _ _ (by omega),av]
def gG (a:D) :Bool:=decide (0<a.toNat)&&decide (a.toNat<1000000007)&&decide (fT a.toNat 500000003=1)
theorem MC (a:D) :bz Tryz.prog GS 136 [bu a] (.bool (gG a)) :=by
 refine bX Tryz.checked.mixed bn ?_;apply bq Tryz.func136 [];unfold gG;have ad:((0:Int)<u a)<->0<a.toNat:=by unfold u; omega
 have ae:(u a<(1000000007:Int))<->a.toNat<1000000007:=by unfold u; omega
 by_cases aK:0<a.toNat
 ·by_cases aU:a.toNat<1000000007
  ·simp[ad,ae,aK,aU];refine a4 (Is a 500000003#64) rfl ?_;have aj:(u (hf a 500000003)=(1:Int))<->fT a.toNat 500000003=1:=by unfold u; rw[r2]; omega
   have aG:(500000003#64:Q).toNat=500000003:=rfl;rw[aG];simp[aj];exact aQ (by simp[aK,aU]) rfl
  ·simp[ad,ae,aK,aU];exact aQ rfl rfl
 ·simp[ad,aK];exact aQ rfl rfl
theorem XH (a:D) :bz Tryz.prog GS 196 [bu a] (.bool (gG a)) :=by
 refine bX Tryz.checked.mixed bn ?_;apply bq Tryz.func196 [];unfold gG;have ad:((1:Int)<=u a)<->0<a.toNat:=by unfold u; omega
 have ae:(u a<(1000000007:Int))<->a.toNat<1000000007:=by unfold u; omega
 by_cases aK:0<a.toNat
 ·by_cases aU:a.toNat<1000000007
  ·simp[ad,ae,aK,aU];refine a4 (W8 (a.setWidth 64) 500000003#64 (by rw[auE]; omega)) rfl ?_;have bh:(a.setWidth 64:Q).toNat=a.toNat:=by rw[auE]; omega
   have aG:(500000003#64:Q).toNat=500000003:=rfl;have bF:=za a.toNat 500000003;have aj:(u (BitVec.ofNat 64 (fT a.toNat 500000003))=(1:Int))<->fT a.toNat 500000003=1:=by unfold u; rw[auK,aux (by omega)]; omega
   rw[aG,bh];simp[aj];exact aQ (by simp[aK,aU]) rfl
  ·simp[ad,ae,aK,aU];exact aQ rfl rfl
 ·simp[ad,aK];exact aQ rfl rfl
def jF (a:D) :Bool:=decide (a.toNat<500000003)
theorem Ga (a:D) :bz Tryz.prog GS 198 [bu a] (.bool (jF a)) :=by
 refine bX Tryz.checked.mixed bn ?_;apply bq Tryz.func198 [];unfold jF;have ae:(u (a.setWidth 64)<(500000003:Int))<->a.toNat<500000003:=by unfold u; rw[auE]; omega
 simp[ae];exact aQ rfl rfl
@[simp] theorem aoM (a b:List UInt8) :vB .eql a b=some (.bool (decide (a=b))) :=by
 by_cases h:a=b<;>simp[vB,h]
@[simp] theorem aoN (a b:List UInt8) :vB .neq a b=some (.bool (!decide (a=b))) :=by
 by_cases h:a=b<;>simp[vB,h]
abbrev om (s:List UInt8) (pos:Nat) :Nat × Nat:=Utf8.decode ⟨s.toArray⟩ pos
theorem S3 (s:List UInt8) (pos:Nat) (b:UInt8) (h:s[pos]? = some b) :(ByteArray.get! ⟨s.toArray⟩ pos)=b:=by
 show (s.toArray)[pos]! = b;obtain⟨ad,ae⟩:=auk.1 h;simp[ad,ae]
theorem abS {s:List UInt8} {pos:Nat} {b:UInt8} (h:s[pos]? = some b) (ag:b.toNat<128) :om s pos=(b.toNat,1) :=by
 unfold om;rw[Lib.decode_at,S3 s pos b h];unfold Lib.decodeN;rw[if_pos ag]
theorem abR {s:List UInt8} {pos:Nat} {b:UInt8} (h:s[pos]? = some b) (ag:128<=b.toNat) :128<=(om s pos).1:=by
 unfold om;rw[Lib.decode_at,S3 s pos b h];unfold Lib.decodeN;rw[if_neg (by omega)]
 repeat' split
 all_goals (simp only; omega)
theorem Sb (s:List UInt8) (pos:Nat) :1<=(om s pos).2:=by
 unfold om;rw[Lib.decode_at];unfold Lib.decodeN
 repeat' split
 all_goals simp only<;>omega
def lu (p:Nat->Bool) (s:List UInt8) :Nat->Nat->Int
 | 0,_=>-1
 | n+1,pos=>if pos<s.length then (if p (om s pos).1 then (pos:Int) else lu p s n (pos+(om s pos).2)) else -1
theorem MH (p:Nat->Bool) (s:List UInt8) :∀ (n pos:Nat),s.length - pos<=n->lu p s n pos=lu p s (s.length - pos) pos
 | 0,pos,h=>by rw[show s.length - pos=0 by omega]
 | n+1,pos,h=>by
  by_cases av:pos<s.length
  ·have aX:=Sb s pos;rw[show s.length - pos=(s.length - pos - 1)+1 by omega];unfold lu;rw[if_pos av,if_pos av,MH p s n _ (by omega),MH p s (s.length - pos - 1) _ (by omega)]
  ·rw[show s.length - pos=0 by omega];unfold lu;rw[if_neg av]
def nt (cJ r:Nat) :Bool:=decide (r<cJ)||decide (126<r)
def hT (cJ:Nat) (b:UInt8) :Bool:=decide (cJ<=b.toNat)&&decide (b.toNat<=126)
theorem MG (cJ:Nat) (cM:cJ<=128) (s:List UInt8) :∀ (n pos:Nat),s.length - pos<=n->(lu (nt cJ) s n pos<0<->(s.drop pos).all (hT cJ)=true)
 | 0,pos,h=>by
  rw[au0 (by omega)];simp[lu]
 | n+1,pos,h=>by
  unfold lu;by_cases av:pos<s.length
  ·rw[if_pos av,avg av,axr];have fv:s[pos]? = some s[pos] :=auo av;obtain⟨b,ag⟩:∃ b,b=s[pos] :=⟨_,rfl⟩
   rw[<-ag] at fv ⊢;by_cases ak:b.toNat<128
   ·rw[abS fv ak];simp only;have c4:hT cJ b=!nt cJ b.toNat:=by
     unfold hT nt;by_cases ad:b.toNat<cJ<;>by_cases ae:126<b.toNat<;>simp[ad,ae]<;>omega
    cases ik:nt cJ b.toNat with
    | true=>rw[c4,ik]; simp
    | false=>
     rw[c4,ik];simp only[avF,if_false,Bool.not_false,avR];exact MG cJ cM s n (pos+1) (by omega)
   ·have aw:=abR fv (by omega);have ik:nt cJ (om s pos).1=true:=by unfold nt; simp; omega
    have c4:hT cJ b=false:=by unfold hT; simp; omega
    rw[ik,c4]; simp
  ·rw[if_neg av,au0 (by omega)];simp
theorem ajm {s:List UInt8} {pos:Nat} {r:ao} (h:pos<s.length) :uW (.iter s pos::r) (.it 0)=some (.bt [.bool true,.int .i64 pos,.int .i32 (om s pos).1],.iter s (pos+(om s pos).2) ::r) :=by
 unfold uW;simp only[auN];rw[show Nat.blt pos s.length=true from Nat.ble_eq_true_of_le h];rfl
theorem ajl {s:List UInt8} {pos:Nat} {r:ao} (h:¬ pos<s.length) :uW (.iter s pos::r) (.it 0)=some (.bt [.bool false],.iter s pos::r) :=by
 unfold uW;simp only[auN];rw[show Nat.blt pos s.length=false by cases ag:Nat.blt pos s.length with | false=>rfl | true=>exact absurd (avq ag) h]
theorem ahh {g:FuncId} {p:Nat->Bool} (aw:jH Tryz.prog g=true) (av:∀ r:Nat,bz Tryz.prog GS g [.int .i32 r] (.bool (p r))) (s:List UInt8) :
  bz Tryz.prog GS 228 [.str s,.fn g [] [],.bool true] (.int .i64 (lu p s s.length 0)) :=by
 refine bX Tryz.checked.mixed bn ?_;apply bq Tryz.func228 [];simp[Br];refine Eu (fun m σ l=>∃ pos,s.length - pos=m/\lu p s m pos=lu p s s.length 0/\σ 1=.fn g [] []/\σ 2=.bool true/\σ 10=.it 0/\l=[.iter s pos]) ?_ s.length _ _ ⟨0,by simp⟩;rintro m σ l ⟨pos,hm,ay,aK,aU,jg,rfl⟩;obtain⟨σ,rfl⟩:=lB aK aU jg;clear aK aU jg;by_cases h:pos<s.length
 ·have hC:m=(m - 1)+1:=by omega
  have aX:=Sb s pos;obtain⟨R,i5⟩:∃ R,R=lu p s s.length 0:=⟨_,rfl⟩
  rw[<-i5] at ay ⊢;rw[hC] at ay;unfold lu at ay;rw[if_pos h] at ay;simp[ajm h];refine⟨aw,a4 (av _) rfl ?_⟩;cases ag:p (om s pos).1 with
  | true=>
   rw[ag] at ay;simp;exact aQ (by rw[<-ay]; simp) rfl
  | false=>
   rw[ag] at ay;simp;refine⟨s.length - (pos+(om s pos).2),by omega,pos+(om s pos).2,rfl,?_,by simp,by simp,by simp,by simp⟩;rw[<-ay];simp only[avF,if_false];rw[MH p s (m - 1) _ (by omega)]
 ·have mr:m=0:=by omega
  subst mr;simp[ajl h];exact aQ (by rw[<-ay]; rfl) rfl
theorem YC {g:FuncId} {p:Nat->Bool} (aw:jH Tryz.prog g=true) (av:∀ r:Nat,bz Tryz.prog GS g [.int .i32 r] (.bool (p r))) (s:List UInt8) :
  bz Tryz.prog GS 207 [.str s,.fn g [] []] (.int .i64 (lu p s s.length 0)) :=by
 refine bX Tryz.checked.mixed bn ?_;apply bq Tryz.func207 [];simp;refine a4 (ahh aw av s) rfl ?_;simp;exact aQ rfl rfl
theorem aib (r:Nat) :bz Tryz.prog GS 208 [.int .i32 r] (.bool (nt 33 r)) :=by
 refine bX Tryz.checked.mixed bn ?_;apply bq Tryz.func208 [];unfold nt;have ad:((r:Int)<33)<->r<33:=by omega
 have ae:((126:Int)<r)<->126<r:=by omega
 by_cases h:r<33
 ·simp[ad,h];exact aQ rfl rfl
 ·simp[ad,h,ae];exact aQ rfl rfl
theorem amC (r:Nat) :bz Tryz.prog GS 211 [.int .i32 r] (.bool (nt 32 r)) :=by
 refine bX Tryz.checked.mixed bn ?_;apply bq Tryz.func211 [];unfold nt;have ad:((r:Int)<32)<->r<32:=by omega
 have ae:((126:Int)<r)<->126<r:=by omega
 by_cases h:r<32
 ·simp[ad,h];exact aQ rfl rfl
 ·simp[ad,h,ae];exact aQ rfl rfl
theorem acX:jH Tryz.prog 208=true:=by kernel_rfl
theorem ac1:jH Tryz.prog 211=true:=by kernel_rfl
def jR (s:List UInt8) :Bool:=decide (1<=s.length)&&decide (s.length<=20)&&s.all (hT 33)
theorem MR (s:List UInt8) :bz Tryz.prog GS 179 [.str s] (.bool (jR s)) :=by
 refine bX Tryz.checked.mixed bn ?_;apply bq Tryz.func179 [];unfold jR;have ad:((1:Int)<=s.length)<->1<=s.length:=by omega
 have ae:((s.length:Int)<=20)<->s.length<=20:=by omega
 by_cases aK:1<=s.length
 ·by_cases aU:s.length<=20
  ·simp[ad,ae,aK,aU];refine a4 (YC acX aib s) rfl ?_;have:=MG 33 (by omega) s s.length 0 (by omega);rw[avx] at this;have aj:decide (lu (nt 33) s s.length 0<0)=s.all (hT 33) :=by
    cases ag:s.all (hT 33) with
    | true=>simpa using this.2 ag
    | false=>
     have:¬ lu (nt 33) s s.length 0<0:=fun h=>by rw[this.1 h] at ag; cases ag
     simpa using this
   simp;rw[aj];exact aQ (by simp[aK,aU]) rfl
  ·simp[ad,ae,aK,aU];exact aQ (by simp[aK,aU]) rfl
 ·simp[ad,aK];exact aQ (by simp[aK]) rfl
theorem Pq {s:List UInt8} {p:UInt8->Bool} {k:Nat} {b:UInt8} (h:s[k]? = some b) :(s.take (k+1)).all p=((s.take k).all p&&p b) :=by
 rw[auP,h]; simp[List.all_append]
theorem FC {s:List UInt8} {p:UInt8->Bool} {k:Nat} {b:UInt8} (h:s[k]? = some b) (av:p b=false) :s.all p=false:=by
 rw[List.all_eq_false];exact⟨b,aut h,by simp[av]⟩
theorem Nc (s:List UInt8) :bz Tryz.prog GS 217 [.str s] (.bool (jR s)) :=by
 refine bX Tryz.checked.mixed bn ?_;apply bq Tryz.func217 [];have ad:((s.length:Int)<1)<->¬ 1<=s.length:=by omega
 have ae:((20:Int)<s.length)<->¬ s.length<=20:=by omega
 by_cases aK:1<=s.length
 ·by_cases aU:s.length<=20
  ·simp[ad,ae,aK,aU];refine cl s.length (fun k σ _=>σ 0=.str s/\σ 3=.int .i64 k/\(s.take k).all (hT 33)=true) ?_ (by simp);rintro k σ l ar ⟨fu,e3,dV⟩;obtain⟨σ,rfl⟩:=pG fu e3;clear fu e3;by_cases h:k<s.length
   ·obtain⟨b,ag,_⟩:=bI h;have fq:IntKind.i64.wrap ((k:Int)+1)=(k+1:Nat) :=wrap_i64 (by omega) (by omega);have c1:((b.toNat:Int)<33)<->¬ 33<=b.toNat:=by omega
    have dx:((126:Int)<b.toNat)<->¬ b.toNat<=126:=by omega
    have ds:yP (.str s) (.int .i64 k)=some (.int .u8 b.toNat) :=by simp[ag,jD]
    by_cases q1:33<=b.toNat
    ·by_cases cV:b.toNat<=126
     ·have c4:hT 33 b=true:=by simp[hT,q1,cV]
      simp[h,ds,c1,dx,q1,cV,fq,Pq ag,c4,-A3];simpa using dV
     ·have c4:hT 33 b=false:=by simp[hT,cV]
      simp[h,ds,c1,dx,q1,cV,-A3];exact aQ (by simp[jR,FC ag c4]) rfl
    ·have c4:hT 33 b=false:=by simp[hT,q1]
     simp[h,ds,c1,q1,-A3];exact aQ (by simp[jR,FC ag c4]) rfl
   ·have ff:k=s.length:=by omega
    subst ff;rw[auU] at dV;simp;exact aQ (by simp only[jR,dV]; simp[aK,aU]) rfl
  ·simp[ad,ae,aK,aU];exact aQ (by simp[jR,aU]) rfl
 ·simp[ad,aK];exact aQ (by simp[jR,aK]) rfl
theorem ako (s:List UInt8) (al:s.length<=1000000000) :bz Tryz.prog GS 232 [.str s] (.bool (s.all (hT 32))) :=by
 refine bX Tryz.checked.mixed bn ?_;apply bq Tryz.func232 [];simp;refine cl s.length (fun k σ _=>σ 0=.str s/\σ 3=.int .i64 k/\(s.take k).all (hT 32)=true) ?_ (by simp);rintro k σ l ar ⟨fu,e3,dV⟩;obtain⟨σ,rfl⟩:=pG fu e3;clear fu e3;by_cases h:k<s.length
 ·obtain⟨b,ag,_⟩:=bI h;have fq:IntKind.i64.wrap ((k:Int)+1)=(k+1:Nat) :=wrap_i64 (by omega) (by omega);have c1:((b.toNat:Int)<32)<->¬ 32<=b.toNat:=by omega
  have dx:((126:Int)<b.toNat)<->¬ b.toNat<=126:=by omega
  have ds:yP (.str s) (.int .i64 k)=some (.int .u8 b.toNat) :=by simp[ag,jD]
  by_cases q1:32<=b.toNat
  ·by_cases cV:b.toNat<=126
   ·have c4:hT 32 b=true:=by simp[hT,q1,cV]
    simp[h,ds,c1,dx,q1,cV,fq,Pq ag,c4,-A3];simpa using dV
   ·have c4:hT 32 b=false:=by simp[hT,cV]
    simp[h,ds,c1,dx,q1,cV,-A3];exact aQ (by simp only[FC ag c4]) rfl
  ·have c4:hT 32 b=false:=by simp[hT,q1]
   simp[h,ds,c1,q1,-A3];exact aQ (by simp only[FC ag c4]) rfl
 ·have ff:k=s.length:=by omega
  subst ff;rw[auU] at dV;simp;exact aQ (by simp only[dV]) rfl
structure i0 where
 kind:B
 num:Int
 bits:Q
 text:List UInt8
def fi (v:i0) :List U:=[bA v.kind,.int .i64 v.num,dS v.bits,.str v.text]
def vi:i0:=⟨0#8,0,0#64,[]⟩
def ks (b:Q) :Nat:=b.toNat / 4503599627370496 % 2048
def p2 (b:Q) :Q:=b % 4503599627370496#64
def cls (b:Q) :B:=if ks b=2047 then (if p2 b=0#64 then 4#8 else 5#8) else if ks b=0 then (if p2 b=0#64 then 1#8 else 2#8) else 3#8
def nw (b:Q) :Q:=if cls b=5#8 then 9221120237041090560#64 else b
theorem iW (k:B) :((u k:Int)=1)<->k=1#8:=xl k 1#8
theorem ma (k:B) :((u k:Int)=2)<->k=2#8:=xl k 2#8
theorem pF (k:B) :((u k:Int)=3)<->k=3#8:=xl k 3#8
theorem xk (k:B) :((u k:Int)=4)<->k=4#8:=xl k 4#8
theorem I4 (k:B) :((u k:Int)=5)<->k=5#8:=xl k 5#8
theorem am1 (k:B) :((u k:Int)=0)<->k=0#8:=xl k 0#8
theorem u3 (k:Q) :((u k:Int)=0)<->k=0#64:=xl k 0#64
theorem St (b:Q) :ks b<2048:=awj _ (by decide)
theorem aas (n:Nat) (h:n<9223372036854775808) :ct .and .i64 (n:Int) .i64 2047=some (.int .i64 ((n % 2048:Nat) :Int)) :=by
 show some (U.int .i64 (IntKind.i64.wrap ((BitVec.ofInt 64 (n:Int) &&& BitVec.ofInt 64 (2047:Int)).toNat:Int)))=_;have ad:(BitVec.ofInt 64 (n:Int) &&& BitVec.ofInt 64 (2047:Int)).toNat=n % 2048:=by
  rw[avZ,awL,auK,aux (by omega)];exact awQ n 11
 have ae:=awj n (show 2048 > 0 by decide);rw[ad];generalize n % 2048=q at ae;rw[wrap_i64 (by omega) (by omega)]
theorem ac3 (b:Q) :b &&& 4503599627370495#64=p2 b:=by
 apply auD;unfold p2;rw[awL,avC];exact awQ b.toNat 52
theorem ame (b:Q) :bz Tryz.prog GS 239 [dS b] (.bt [.int .i64 (ks b),dS (p2 b)]) :=by
 refine bX Tryz.checked.mixed bn ?_;apply bq Tryz.func239 [];have ag:=b.isLt;have ad:IntKind.i64.wrap (u (b >>> 52))=((b.toNat / 4503599627370496:Nat) :Int) :=by
  have:u (b >>> 52)=((b.toNat / 4503599627370496:Nat) :Int) :=by unfold u; rw[avd,auQ]
  rw[this,wrap_i64 (by omega) (by omega)]
 have ae:=aas (b.toNat / 4503599627370496) (by omega);have am:ks b=b.toNat / 4503599627370496 % 2048:=rfl;rw[<-am] at ae;obtain⟨q,a7⟩:∃ q,b.toNat / 4503599627370496=q:=⟨_,rfl⟩
 rw[a7] at ad ae;have aj:ct .and .u64 (u b) .u64 4503599627370495=some (dS (p2 b)) :=by
  rw[PM,mB,<-ac3]; rfl
 have aG:ct .shr .u64 (u b) .u64 52=some (.int .u64 (u (b >>> 52))) :=vD b .u64 52;simp[aG,ad,ae,aj,-PM];exact aQ rfl rfl
theorem alj (b:Q) :bz Tryz.prog GS 241 [dS b] (.int .i64 (ks b)) :=by
 refine bX Tryz.checked.mixed bn ?_;apply bq Tryz.func241 [];have ag:=b.isLt;have ad:ct .rem .u64 (u b) .u64 9223372036854775808=some (dS (b % 9223372036854775808#64)) :=zM b 9223372036854775808#64 (by decide);have ae:ct .quo .u64 (u (b % 9223372036854775808#64)) .u64 4503599627370496=some (dS (b % 9223372036854775808#64 / 4503599627370496#64)) :=NF _ 4503599627370496#64 (by decide);have aj:IntKind.i64.wrap (u (b % 9223372036854775808#64 / 4503599627370496#64))=(ks b:Int) :=by
  have:u (b % 9223372036854775808#64 / 4503599627370496#64)=(ks b:Int) :=by
   unfold u ks;rw[avM,avC];show (((b.toNat % 9223372036854775808) / 4503599627370496:Nat) :Int)=_;congr 1;omega
  have aG:=St b;rw[this,wrap_i64 (by omega) (by omega)]
 simp[ad,ae,aj];exact aQ rfl rfl
theorem alk (b:Q) :bz Tryz.prog GS 242 [dS b] (dS (p2 b)) :=by
 refine bX Tryz.checked.mixed bn ?_;apply bq Tryz.func242 [];have ad:ct .rem .u64 (u b) .u64 4503599627370496=some (dS (p2 b)) :=zM b 4503599627370496#64 (by decide);simp[ad];exact aQ rfl rfl
theorem abt (b:Q) :bz Tryz.prog GS 229 [dS b] (bA (cls b)) :=by
 refine bX Tryz.checked.mixed bn ?_;apply bq Tryz.func229 [];unfold cls;simp;refine a4 (ame b) rfl ?_;have ad:((ks b:Int)=2047)<->ks b=2047:=by omega
 have ae:((ks b:Int)=0)<->ks b=0:=by omega
 by_cases aK:ks b=2047
 ·by_cases aU:p2 b=0#64
  ·simp[ad,aK,aU];exact aQ rfl rfl
  ·simp[ad,aK,aU,u3];exact aQ rfl rfl
 ·by_cases a1:ks b=0
  ·by_cases aU:p2 b=0#64
   ·simp[ad,ae,aK,aU,a1];exact aQ rfl rfl
   ·simp[ad,ae,aK,aU,a1,u3];exact aQ rfl rfl
  ·simp[ad,ae,aK,a1];exact aQ rfl rfl
theorem ali (b:Q) :bz Tryz.prog GS 240 [dS b] (bA (cls b)) :=by
 refine bX Tryz.checked.mixed bn ?_;apply bq Tryz.func240 [];unfold cls;simp;refine a4 (alj b) rfl ?_;simp;refine a4 (alk b) rfl ?_;have ae:((ks b:Int)=0)<->ks b=0:=by omega
 have aj:((ks b:Int)<2047)<->¬ ks b=2047:=by have:=St b; omega
 by_cases a1:ks b=0
 ·by_cases aU:p2 b=0#64
  ·simp[ae,aU,a1];exact aQ rfl rfl
  ·simp[ae,aU,a1,u3];exact aQ rfl rfl
 ·by_cases aK:ks b=2047
  ·by_cases aU:p2 b=0#64
   ·simp[ae,aj,aK,aU];exact aQ rfl rfl
   ·simp[ae,aj,aK,aU,u3];exact aQ rfl rfl
  ·simp[ae,aj,aK,a1];exact aQ rfl rfl
theorem abg (b:Q) :bz Tryz.prog GS 210 [dS b] (dS (nw b)) :=by
 refine bX Tryz.checked.mixed bn ?_;apply bq Tryz.func210 [];unfold nw;simp;refine a4 (abt b) rfl ?_;by_cases h:cls b=5#8
 ·simp[I4,h];exact aQ rfl rfl
 ·simp[I4,h];exact aQ rfl rfl
theorem alg (b:Q) :bz Tryz.prog GS 231 [dS b] (dS (nw b)) :=by
 refine bX Tryz.checked.mixed bn ?_;apply bq Tryz.func231 [];unfold nw;simp;refine a4 (ali b) rfl ?_;by_cases h:cls b=5#8
 ·simp[I4,h];exact aQ rfl rfl
 ·simp[I4,h];exact aQ rfl rfl
theorem ana (n:Int) :bz Tryz.prog GS 188 [.int .i64 n] (.aF (fi ⟨1#8,n,0#64,[]⟩)) :=by
 refine bX Tryz.checked.mixed bn ?_;apply bq Tryz.func188 [];simp;exact aQ rfl rfl
theorem am9 (b:Q) :bz Tryz.prog GS 189 [dS b] (.aF (fi ⟨2#8,0,nw b,[]⟩)) :=by
 refine bX Tryz.checked.mixed bn ?_;apply bq Tryz.func189 [];simp;refine a4 (abg b) rfl ?_;simp;exact aQ rfl rfl
def tp (s:List UInt8) :i0 × Int:=if s.length<=30 then (if s.all (hT 32) then (⟨3#8,0,0#64,s⟩,0) else (vi,8)) else (vi,4)
theorem ani (s:List UInt8) :bz Tryz.prog GS 190 [.str s] (.bt [.aF (fi (tp s).1),.int .i64 (tp s).2]) :=by
 refine bX Tryz.checked.mixed bn ?_;apply bq Tryz.func190 [];unfold tp;have ae:((30:Int)<s.length)<->¬ s.length<=30:=by omega
 by_cases aU:s.length<=30
 ·simp[ae,aU];refine a4 (YC ac1 amC s) rfl ?_;have aj:=MG 32 (by omega) s s.length 0 (by omega);rw[avx] at aj;have aG:((0:Int)<=lu (nt 32) s s.length 0)<->¬ (s.all (hT 32)=true) :=by rw[<-aj]; omega
  cases ag:s.all (hT 32) with
  | true=>
   have bh:¬ (0:Int)<=lu (nt 32) s s.length 0:=by rw[aG,ag]; simp
   simp[bh];exact aQ (by simp[aU]; rfl) rfl
  | false=>
   have bh:(0:Int)<=lu (nt 32) s s.length 0:=by rw[aG,ag]; simp
   simp[bh];exact aQ (by simp[aU]; rfl) rfl
 ·simp[ae,aU];exact aQ rfl rfl
def k6 (v:i0) :Bool:=
 if v.kind=1#8 then decide (v.bits=0#64)&&decide (v.text=[])
 else if v.kind=2#8 then decide (v.num=0)&&decide (v.text=[])&&decide (nw v.bits=v.bits)
 else if v.kind=3#8 then decide (v.num=0)&&decide (v.bits=0#64)&&decide (v.text.length<=30)&&v.text.all (hT 32)
 else false
def mU (b:Bool) :Int:=if b then 0 else 8
def ahT:List nq:=[.i .u8,.i .i64,.i .u64,.s]
theorem VY:s4 Tryz.prog 20 88=some ahT:=by kernel_rfl
theorem anj (a b:i0) :gN Tryz.prog .eql 88 (.aF (fi a)) (.aF (fi b))=some (.bool (fC (fi a) (fi b))) :=FJ VY (by kernel_rfl) (by kernel_rfl) rfl rfl
theorem ank (a b:i0) :gN Tryz.prog .neq 88 (.aF (fi a)) (.aF (fi b))=some (.bool (!fC (fi a) (fi b))) :=PY VY (by kernel_rfl) (by kernel_rfl) rfl rfl
theorem PW (a b:i0) :fC (fi a) (fi b)=(decide (a.kind=b.kind)&&(decide (a.num=b.num)&&(decide (a.bits=b.bits)&&decide (a.text=b.text)))) :=by
 simp[fi,fC,U.beq]
theorem OH {v:i0} (k:v.kind=1#8) :k6 v=(decide (v.bits=0#64)&&decide (v.text=[])) :=by simp[k6,k]
theorem OI {v:i0} (k:v.kind=2#8) :k6 v=(decide (v.num=0)&&(decide (v.bits=nw v.bits)&&decide (v.text=[]))) :=by
 unfold k6;rw[if_neg (by rw[k]; decide),if_pos k,show decide (nw v.bits=v.bits)=decide (v.bits=nw v.bits) from decide_eq_decide.2 eq_comm];cases decide (v.num=0)<;>cases decide (v.text=[])<;>cases decide (v.bits=nw v.bits)<;>rfl
theorem Zd {v:i0} (k:v.kind=3#8) :k6 v=(decide (v.kind=(tp v.text).1.kind)&&(decide (v.num=(tp v.text).1.num)&&(decide (v.bits=(tp v.text).1.bits)&&decide (v.text=(tp v.text).1.text)))) :=by
 unfold k6 tp;rw[if_neg (by rw[k]; decide),if_neg (by rw[k]; decide),if_pos k];by_cases ad:v.text.length<=30
 ·cases ae:v.text.all (hT 32) with
  | true=>simp[ad,k]
  | false=>simp[ad,k,vi]
 ·simp[ad,k,vi]
theorem OJ {v:i0} (bZ:v.kind≠1#8) (cc:v.kind≠2#8) (eF:v.kind≠3#8) :k6 v=false:=by simp[k6,bZ,cc,eF]
theorem Zb (v:i0) :bz Tryz.prog GS 154 [.aF (fi v)] (.int .i64 (mU (k6 v))) :=by
 refine bX Tryz.checked.mixed bn ?_;apply bq Tryz.func154 [];have ax:∀ (k:B) (n:Int) (b:Q) (t:List UInt8),gN Tryz.prog .neq 88 (.aF [bA v.kind,.int .i64 v.num,dS v.bits,.str v.text]) (.aF [bA k,.int .i64 n,dS b,.str t])=some (.bool (!(decide (v.kind=k)&&(decide (v.num=n)&&(decide (v.bits=b)&&decide (v.text=t)))))) :=fun k n b t=>by rw[<-PW v ⟨k,n,b,t⟩]; exact ank v ⟨k,n,b,t⟩
 by_cases bZ:v.kind=1#8
 ·have ad:=ax 1#8 v.num 0#64 [];simp only[bZ] at ad;unfold fi;simp[iW,bZ];refine a4 (ana v.num) rfl ?_;unfold fi;simp[ad];rw[OH bZ];cases decide (v.bits=0#64)<;>cases decide (v.text=[])<;>simp[bZ]<;>exact aQ rfl rfl
 ·by_cases cc:v.kind=2#8
  ·have ad:=ax 2#8 0 (nw v.bits) [];simp only[cc] at ad;unfold fi;simp[iW,ma,cc];refine a4 (am9 v.bits) rfl ?_;unfold fi;simp[ad];rw[OI cc];cases decide (v.num=0)<;>cases decide (v.bits=nw v.bits)<;>cases decide (v.text=[])<;>simp[cc]<;>exact aQ rfl rfl
  ·by_cases eF:v.kind=3#8
   ·obtain⟨w,aX⟩:∃ w,w=(tp v.text).1:=⟨_,rfl⟩
    have ad:=ax w.kind w.num w.bits w.text;have aj:=Zd eF;rw[<-aX] at aj;simp only[eF] at ad aj;unfold fi;simp[iW,ma,pF,eF];refine a4 (ani v.text) rfl ?_;rw[<-aX];unfold fi;simp[ad];rw[aj];cases decide (3#8=w.kind)<;>cases decide (v.num=w.num)<;>cases decide (v.bits=w.bits)<;>cases decide (v.text=w.text)<;>simp[eF]<;>exact aQ rfl rfl
   ·have ad:gN Tryz.prog .neq 88 (.aF [bA v.kind,.int .i64 v.num,dS v.bits,.str v.text]) (.aF [.int .u8 0,.int .i64 0,.int .u64 0,.str []])=some (.bool (!(decide (v.kind=0#8)&&(decide (v.num=0)&&(decide (v.bits=0#64)&&decide (v.text=[])))))) :=ax 0#8 0 0#64 [];rw[OJ bZ cc eF];unfold fi;simp[iW,ma,pF,bZ,cc,eF];by_cases hu:v.kind=0#8
    ·simp only[hu,decide_true,avR] at ad;simp[hu,ad];cases decide (v.num=0)<;>cases decide (v.bits=0#64)<;>cases decide (v.text=[])<;>simp[hu]<;>exact aQ rfl rfl
    ·simp only[hu,decide_false,awF,Bool.not_false] at ad;simp[ad];exact aQ rfl rfl
theorem aln (v:i0) :bz Tryz.prog GS 218 [.aF (fi v)] (.int .i64 (mU (k6 v))) :=by
 refine bX Tryz.checked.mixed bn ?_;apply bq Tryz.func218 [[[0],[1],[2],[3],[4],[5],[6],[7],[8],[9],[10],[12],[13],[11,13]]];by_cases bZ:v.kind=1#8
 ·rw[OH bZ];unfold fi;simp[iW,bZ,u3];by_cases aK:v.bits=0#64<;>by_cases aU:v.text=[]<;>simp[aK,aU,u3]<;>exact aQ rfl rfl
 ·by_cases cc:v.kind=2#8
  ·rw[OI cc];unfold fi;simp[iW,ma,cc];by_cases aK:v.num=0
   ·by_cases aU:v.text=[]
    ·simp[aK,aU];refine a4 (alg v.bits) rfl ?_;by_cases a1:v.bits=nw v.bits
     ·have bl:nw v.bits=v.bits:=a1.symm;simp[bl];exact aQ (by simp[mU,aK,aU,bl]) rfl
     ·have bl:¬ nw v.bits=v.bits:=fun h=>a1 h.symm
      simp[a1,bl];exact aQ (by simp[mU,a1]) rfl
    ·simp[aK,aU];exact aQ rfl rfl
   ·simp[aK];exact aQ rfl rfl
  ·by_cases eF:v.kind=3#8
   ·have ap:k6 v=(decide (v.num=0)&&decide (v.bits=0#64)&&decide (v.text.length<=30)&&v.text.all (hT 32)) :=by simp[k6,eF]
    have ae:((v.text.length:Int)<=30)<->v.text.length<=30:=by omega
    rw[ap];unfold fi;simp[iW,ma,pF,eF,u3];by_cases aK:v.num=0
    ·by_cases aU:v.bits=0#64
     ·by_cases a1:v.text.length<=30
      ·simp[aK,aU,ae,a1];refine a4 (ako v.text (by omega)) rfl ?_;cases v.text.all (hT 32)<;>simp<;>exact aQ (by simp[mU,aK,aU,a1]) rfl
      ·simp[aK,aU,ae,a1];exact aQ rfl rfl
     ·simp[aK,aU,u3];exact aQ rfl rfl
    ·simp[aK];exact aQ rfl rfl
   ·rw[OJ bZ cc eF];unfold fi;simp[iW,ma,pF,bZ,cc,eF];exact aQ rfl rfl
structure Act where
 kind:B
 key:List UInt8
 val:i0
def kq (a:Act) :List U:=[bA a.kind,.str a.key,bA a.val.kind,.int .i64 a.val.num,dS a.val.bits,.str a.val.text]
def oJ (v:i0) :Bool:=decide (v.kind=0#8)&&(decide (v.num=0)&&(decide (v.bits=0#64)&&decide (v.text=[])))
def k8 (a:Act) :Bool:=
 if a.kind=1#8 then decide (a.key=[])&&oJ a.val
 else if a.kind=2#8\/a.kind=3#8 then jR a.key&&oJ a.val
 else if a.kind=4#8 then jR a.key&&k6 a.val
 else false
def qt:List nq:=[.i .u8,.s,.i .u8,.i .i64,.i .u64,.s]
theorem aid:s4 Tryz.prog 20 90=some qt:=by kernel_rfl
theorem Pg (a b:Act) :gN Tryz.prog .eql 90 (.aF (kq a)) (.aF (kq b))=some (.bool (fC (kq a) (kq b))) :=FJ aid (by kernel_rfl) (by kernel_rfl) rfl rfl
theorem aal (a:Act) (h:a.kind=1#8) :gN Tryz.prog .eql 90 (.aF [.int .u8 1,.str a.key,bA a.val.kind,.int .i64 a.val.num,dS a.val.bits,.str a.val.text]) (.aF [.int .u8 1,.str [],.int .u8 0,.int .i64 0,.int .u64 0,.str []])=some (.bool (decide (a.key=[])&&oJ a.val)) :=by
 have:=Pg a ⟨1#8,[],vi⟩;simp only[kq,h] at this;refine Eq.trans this ?_;simp[fC,U.beq,oJ,vi,am1,u3];congr
theorem Zc (v:i0) :gN Tryz.prog .eql 88 (.aF [bA v.kind,.int .i64 v.num,dS v.bits,.str v.text]) (.aF [.int .u8 0,.int .i64 0,.int .u64 0,.str []])=some (.bool (oJ v)) :=by
 have:=anj v vi;rw[PW] at this;exact this
theorem Pl {a:Act} (k:a.kind=1#8) :k8 a=(decide (a.key=[])&&oJ a.val) :=by simp[k8,k]
theorem JB {a:Act} (k:a.kind=2#8) :k8 a=(jR a.key&&oJ a.val) :=by simp[k8,k]
theorem JC {a:Act} (k:a.kind=3#8) :k8 a=(jR a.key&&oJ a.val) :=by simp[k8,k]
theorem B6 {a:Act} (k:a.kind=4#8) :k8 a=(jR a.key&&k6 a.val) :=by simp[k8,k]
theorem JD {a:Act} (bZ:a.kind≠1#8) (cc:a.kind≠2#8) (eF:a.kind≠3#8) (hv:a.kind≠4#8) :k8 a=false:=by simp[k8,bZ,cc,eF,hv]
theorem abo (a:Act) :bz Tryz.prog GS 137 [.aF (kq a)] (.int .i64 (mU (k8 a))) :=by
 refine bX Tryz.checked.mixed bn ?_;apply bq Tryz.func137 [];by_cases bZ:a.kind=1#8
 ·have ad:=aal a bZ;have aP:bA (1#8)=.int .u8 1:=rfl;rw[Pl bZ];unfold kq;simp[iW,bZ,aP,ad];by_cases aK:a.key=[]<;>cases aU:oJ a.val<;>simp[aK,aU]<;>exact aQ rfl rfl
 ·have ad:=Zc a.val;by_cases cc:a.kind=2#8
  ·rw[JB cc];unfold kq;simp[iW,ma,pF,bZ,cc];refine a4 (MR a.key) rfl ?_;cases jR a.key with
   | true=>simp[ad]; cases oJ a.val<;>simp<;>exact aQ rfl rfl
   | false=>simp; exact aQ rfl rfl
  ·by_cases eF:a.kind=3#8
   ·rw[JC eF];unfold kq;simp[iW,ma,pF,bZ,eF];refine a4 (MR a.key) rfl ?_;cases jR a.key with
    | true=>simp[ad]; cases oJ a.val<;>simp<;>exact aQ rfl rfl
    | false=>simp; exact aQ rfl rfl
   ·by_cases hv:a.kind=4#8
    ·rw[B6 hv];unfold kq;simp[iW,ma,pF,xk,hv];refine a4 (MR a.key) rfl ?_;cases jR a.key with
     | true=>
      simp;refine a4 (Zb a.val) rfl ?_;cases k6 a.val<;>simp[mU]<;>exact aQ rfl rfl
     | false=>simp; exact aQ rfl rfl
    ·rw[JD bZ cc eF hv];unfold kq;simp[iW,ma,pF,xk,bZ,cc,eF,hv];exact aQ rfl rfl
theorem alh (a:Act) :bz Tryz.prog GS 197 [.aF (kq a)] (.int .i64 (mU (k8 a))) :=by
 refine bX Tryz.checked.mixed bn ?_;apply bq Tryz.func197 [];have ad:=Zc a.val;by_cases bZ:a.kind=1#8
 ·rw[Pl bZ];unfold kq;simp[iW,bZ,ad];by_cases aK:a.key=[]<;>cases aU:oJ a.val<;>simp[aK,aU]<;>exact aQ rfl rfl
 ·by_cases cc:a.kind=2#8
  ·rw[JB cc];unfold kq;simp[iW,ma,pF,bZ,cc,ad];refine a4 (Nc a.key) rfl ?_;cases jR a.key with
   | true=>simp; cases oJ a.val<;>simp<;>exact aQ rfl rfl
   | false=>simp; exact aQ rfl rfl
  ·by_cases eF:a.kind=3#8
   ·rw[JC eF];unfold kq;simp[iW,ma,pF,bZ,eF,ad];refine a4 (Nc a.key) rfl ?_;cases jR a.key with
    | true=>simp; cases oJ a.val<;>simp<;>exact aQ rfl rfl
    | false=>simp; exact aQ rfl rfl
   ·by_cases hv:a.kind=4#8
    ·rw[B6 hv];unfold kq;simp[iW,ma,pF,xk,hv,ad];refine a4 (Nc a.key) rfl ?_;cases jR a.key with
     | true=>
      simp;refine a4 (aln a.val) rfl ?_;cases k6 a.val<;>simp[mU]<;>exact aQ rfl rfl
     | false=>simp; exact aQ rfl rfl
    ·rw[JD bZ cc eF hv];unfold kq;simp[iW,ma,pF,xk,bZ,cc,eF,hv,ad];exact aQ rfl rfl
end Op

end Go.b0

namespace Go.b0
open Go Go.Proofs
set_option maxRecDepth 100000
def cI {α:Type} (z:Nat) (enc:α->List U) (l l1:ao) (v:U) (a:List α) (nl:Bool) :Prop:=
 ∃ j,bK z l1 v j (a.map enc)/\l.length<=l1.length/\(∀ b,b<l.length->l1[b]? = l[b]?)/\(v=.aH\/l.length<=j)/\cF v=nl
section
variable {α:Type} {z:Nat} {enc:α->List U} {l l1:ao} {v:U} {a:List α} {nl:Bool}
theorem cI.nil:cI z enc l l .aH ([] :List α) true:=⟨0,.nil 0,aun _,fun _ _=>rfl,.inl rfl,rfl⟩
theorem cI.more (h:cI z enc l l1 v a nl) (r:ao) :cI z enc l (l1++r) v a nl:=by
 obtain⟨j,ad,ae,aj,aG,bh⟩:=h;exact⟨j,ad.more r,by simp; omega,fun b ag=>by rw[aum (by omega)]; exact aj b ag,aG,bh⟩
theorem cI.len (h:cI z enc l l1 v a nl) :ce (.aq z) v=some (.int .i64 a.length) :=by
 obtain⟨j,ad,_⟩:=h;rw[ad.len,auw]
theorem cI.cells (h:cI z enc l l1 v a nl) :v.cells=some [v] :=by
 obtain⟨j,ad,_⟩:=h;exact ad.cells
theorem cI.contents (h:cI z enc l l1 v a nl) :dD l1 z v=some ((a.map enc).flatten,a.length) :=by
 obtain⟨j,ad,_⟩:=h;rw[ad.contents,auw]
theorem cI.le (h:cI z enc l l1 v a nl) :l.length<=l1.length:=by obtain⟨j,ad,ae,_⟩:=h; exact ae
theorem cI.same (h:cI z enc l l1 v a nl) :∀ b,b<l.length->l1[b]? = l[b]?:=by obtain⟨j,ad,ae,aj,_⟩:=h; exact aj
theorem cI.tj (h:cI z enc l l1 v a nl) (aE:∀ x,a5 (enc x)=true) (s:db α) (ak:nl=s.isNone) (af:s.l=a) :gA (bb l1) v (cE z enc s) :=by
 obtain⟨j,ad,ae,aj,aG,bh⟩:=h;exact ad.wZ aE s (by rw[bh,ak]) af
theorem cI.rd (h:cI z enc l l1 v a nl) (aE:∀ x,a5 (enc x)=true) (s:db α) (ak:nl=s.isNone) (af:s.l=a) :jz l1 v (cE z enc s) :=by
 obtain⟨j,ad,ae,aj,aG,bh⟩:=h;exact ad.q.u5 aE s (by rw[bh,ak]) af
theorem cI.Iy (h:cI z enc l l1 v a nl) (aE:∀ x,mf (enc x)=true) (s:db α) (ak:nl=s.isNone) (af:s.l=a) :kJ l1 v (cE z enc s) :=by
 obtain⟨j,ad,ae,aj,aG,bh⟩:=h;exact ad.ET aE s (by rw[bh,ak]) af
theorem cI.base (h:cI z enc l l1 v a nl) {fk:ao} (al:fk.length<=l.length) (ak:∀ b,b<fk.length->l[b]? = fk[b]?) :cI z enc fk l1 v a nl:=by
 obtain⟨j,ad,ae,aj,aG,bh⟩:=h;exact⟨j,ad,by omega,fun b ag=>by rw[aj b (by omega)]; exact ak b ag,aG.imp id (by omega),bh⟩
theorem cI.frame (h:cI z enc l l1 v a nl) {bj:ao} (al:l1.length<=bj.length) (ak:∀ b,b<l1.length->bj[b]? = l1[b]?) :cI z enc l bj v a nl:=by
 obtain⟨j,ad,ae,aj,aG,bh⟩:=h;exact⟨j,ad.frame fun ai=>ak j ai,by omega,fun b ag=>by rw[ak b (by omega)]; exact aj b ag,aG,bh⟩
theorem cI.app (h:cI z enc l l1 v a nl) {by_:Nat} {x:U} {xs:List α} (af:dD l1 z x=some ((xs.map enc).flatten,xs.length)) (ax:∀ y∈xs,(enc y).length=z) (aI:z≠0) (dQ:by_≠0) (dL:(a.length+xs.length)*by_<=cw) :
  ∃ a6 l',gX l1 z by_ v x=some (a6,l')/\cI z enc l l' a6 (a++xs) (nl&&xs.isEmpty)/\l1.length<=l'.length:=by
 obtain⟨j,ad,ae,aj,aG,bh⟩:=h;obtain⟨a6,b7,l',aK,aU,a1,bl,bo,cu⟩:=xO (xs:=xs.map enc) ad (by simpa using af) (fun e am=>by obtain⟨y,aJ,rfl⟩:=auR.1 am; exact ax y aJ) aI dQ (by simpa using dL);refine⟨a6,l',aK,⟨b7,by rw[auH]; exact aU,by omega,fun b ag=>?_,?_,?_⟩,a1⟩
 ·rw[bl b (by omega)]
  ·exact aj b ag
  ·rcases aG with h | h
   ·exact .inl h
   ·exact .inr (by omega)
 ·rcases bo with h | ⟨bF,dz⟩ | h
  ·exact .inr (by omega)
  ·rcases aG with h | h
   ·exact absurd h bF
   ·exact .inr (by omega)
  ·exact .inl h
 ·rw[cu,bh]; simp
end

namespace Op
open hl
theorem cI.push {l l1:ao} {v:U} {a:List B} {nl:Bool} (h:cI 1 ca l l1 v a nl) (x:B) (dL:a.length<=1000000000) :
  ∃ a6 l',gX (l1++[.cells 1 [bA x]]) 1 1 v (.aq 1 l1.length 0 1 1 1)=some (a6,l')/\cI 1 ca l l' a6 (a++[x]) false:=by
 have az:cw=140737488355328:=rfl;obtain⟨a6,l',aK,aU,_⟩:=(h.more [.cells 1 [bA x]]).app (by_:=1) (x:=.aq 1 l1.length 0 1 1 1) (xs:=[x]) (by simp[dD,ca]) (by simp[ca]) (by omega) (by omega) (by rw[az]; simp; omega);exact⟨a6,l',aK,by simpa using aU⟩
theorem Cz:∀ a:List B,(a.map ca).flatten=a.map bA
 | []=>rfl
 | x::a=>by rw[auL,au9,Cz a]; rfl
theorem rZ {l:ao} {j n:Nat} {a:List B} (aC:a.length=n) (ai:l[j]? = some (.cells n (a.map bA))) :bK 1 l (.aq 1 j 0 n n n) j (a.map ca) :=by
 refine .aq j n n n (a.map bA) _ ai (by simp[aC]) (by simp[aC]) (fun e am=>?_) (aun _) (by omega) ?_
 ·obtain⟨x,_,rfl⟩:=auR.1 am; rfl
 ·rw[aul (by simp[aC]),Cz]
def lx (n:Nat) :Nat:=if n<256 then 1 else if n<65536 then 2 else if n<16777216 then 3 else if n<4294967296 then 4 else if n<1099511627776 then 5 else if n<281474976710656 then 6 else if n<72057594037927936 then 7 else 8
theorem Ib (n:Nat) :1<=lx n/\lx n<=8:=by unfold lx; refine⟨?_,?_⟩<;>(repeat' split)<;>omega
def md (n i:Nat) :B:=BitVec.ofNat 8 (n >>> (8*i))
def va (n:Nat) :Nat->List B
 | 0=>[]
 | i+1=>md n i::va n i
theorem Ow (n:Nat) :∀ i,(va n i).length=i
 | 0=>rfl
 | i+1=>by simp[va,Ow n i]
def eH (n:Nat) :List B:=if n<=247 then [BitVec.ofNat 8 n] else BitVec.ofNat 8 (247+lx n) ::va n (lx n)
def l5 (x:Nat) :Nat:=if x<1 then 0 else if x<2 then 1 else if x<4 then 2 else if x<8 then 3 else if x<16 then 4 else if x<32 then 5 else if x<64 then 6 else if x<128 then 7 else 8
def E9:List UInt8:=[0,1,2,2,3,3,3,3,4,4,4,4,4,4,4,4,5,5,5,5,5,5,5,5,5,5,5,5,5,5,5,5,6,6,6,6,6,6,6,6,6,6,6,6,6,6,6,6,6,6,6,6,6,6,6,6,6,6,6,6,6,6,6,6,7,7,7,7,7,7,7,7,7,7,7,7,7,7,7,7,7,7,7,7,7,7,7,7,7,7,7,7,7,7,7,7,7,7,7,7,7,7,7,7,7,7,7,7,7,7,7,7,7,7,7,7,7,7,7,7,7,7,7,7,7,7,7,7,8,8,8,8,8,8,8,8,8,8,8,8,8,8,8,8,8,8,8,8,8,8,8,8,8,8,8,8,8,8,8,8,8,8,8,8,8,8,8,8,8,8,8,8,8,8,8,8,8,8,8,8,8,8,8,8,8,8,8,8,8,8,8,8,8,8,8,8,8,8,8,8,8,8,8,8,8,8,8,8,8,8,8,8,8,8,8,8,8,8,8,8,8,8,8,8,8,8,8,8,8,8,8,8,8,8,8,8,8,8,8,8,8,8,8,8,8,8,8,8,8,8,8,8,8,8,8,8]
def Ou:Nat->List UInt8->Bool
 | _,[]=>true
 | i,x::r=>Nat.beq x.toNat (l5 i)&&Ou (i+1) r
theorem YO:∀ (i:Nat) (l:List UInt8),Ou i l=true->∀ (j:Nat) (x:UInt8),l[j]? = some x->x.toNat=l5 (i+j)
 | i,[],_,j,x,h=>by simp at h
 | i,y::r,h,j,x,af=>by
  simp only[Ou,aus] at h;cases j with
  | zero=>simp at af; subst af; exact auW h.1
  | succ j=>simp at af; rw[YO (i+1) r h.2 j x af]; congr 1; omega
theorem xg (i:Nat) (h:i<256) :∃ x,E9[i]? = some x/\x.toNat=l5 i:=by
 have al:E9.length=256:=by kernel_rfl
 have aw:=YO 0 E9 (by kernel_rfl) i _ (auo (by omega));exact⟨_,auo (by omega),by rw[aw]; congr 1; omega⟩
theorem uQ (x:Nat) :l5 x<=8:=by unfold l5; (repeat' split)<;>omega
def kz (n:Nat) :Nat:=
 if n<256 then l5 n else if n<65536 then 8+l5 (n / 256) else if n<16777216 then 16+l5 (n / 65536) else if n<4294967296 then 24+l5 (n / 16777216)
 else if n<1099511627776 then 32+l5 (n / 4294967296) else if n<281474976710656 then 40+l5 (n / 1099511627776) else if n<72057594037927936 then 48+l5 (n / 281474976710656) else 56+l5 (n / 72057594037927936)
theorem ait (n:Nat) (h:1<=n) :(kz n+7) / 8=lx n:=by
 have al:∀ x,1<=x->1<=l5 x/\l5 x<=8:=fun x af=>⟨by unfold l5; rw[if_neg (by omega)]; (repeat' split)<;>omega,uQ x⟩
 unfold kz lx
 repeat' split
 ·have:=al n h; omega
 ·have:=al (n / 256) (by omega); omega
 ·have:=al (n / 65536) (by omega); omega
 ·have:=al (n / 16777216) (by omega); omega
 ·have:=al (n / 4294967296) (by omega); omega
 ·have:=al (n / 1099511627776) (by omega); omega
 ·have:=al (n / 281474976710656) (by omega); omega
 ·have:=al (n / 72057594037927936) (by omega); omega
theorem Oc (x:Q) (k:Nat) :ct .shr .u64 (u x) .u64 (k:Int)=some (.int .u64 (u (x >>> k))) :=vD x .u64 k
theorem vt {i:Nat} {y:UInt8} {k:UInt8->Prop} (h:E9[i]? = some y) (ar:k y) :W E9[i]? (c:=⟨k⟩) :=by rw[h]; exact ar
set_option maxHeartbeats 4000000 in
theorem V2 (n:Q) :bz Tryz.prog GS 149 [dS n] (.int .i64 (kz n.toNat)) :=by
 refine bX Tryz.checked.mixed bn ?_;apply bq Tryz.func149 [];have jU:IntKind.i64.wrap 8=8:=rfl;have xo:IntKind.i64.wrap 16=16:=rfl;have xp:IntKind.i64.wrap 24=24:=rfl;have xq:IntKind.i64.wrap 32=32:=rfl;have xr:IntKind.i64.wrap 40=40:=rfl;have xt:IntKind.i64.wrap 48=48:=rfl;have xu:IntKind.i64.wrap 56=56:=rfl;have b3:∀ x:Q,((4294967296:Int)<=u x)<->4294967296<=x.toNat:=fun x=>by unfold u; omega
 have b9:∀ x:Q,((65536:Int)<=u x)<->65536<=x.toNat:=fun x=>by unfold u; omega
 have ho:∀ x:Q,((256:Int)<=u x)<->256<=x.toNat:=fun x=>by unfold u; omega
 have w6:∀ x:Q,ct .shr .u64 (u x) .u64 32=some (.int .u64 (u (x >>> 32))) :=fun x=>Oc x 32
 have w5:∀ x:Q,ct .shr .u64 (u x) .u64 16=some (.int .u64 (u (x >>> 16))) :=fun x=>Oc x 16
 have w7:∀ x:Q,ct .shr .u64 (u x) .u64 8=some (.int .u64 (u (x >>> 8))) :=fun x=>Oc x 8
 have t32:n.toNat >>> 32=n.toNat / 4294967296:=by rw[auQ]
 have t48:n.toNat >>> 48=n.toNat / 281474976710656:=by rw[auQ]
 have t16:n.toNat >>> 16=n.toNat / 65536:=by rw[auQ]
 have K0:=n.isLt;by_cases ad:4294967296<=n.toNat
 ·by_cases ae:65536<=n.toNat >>> 32
  ·by_cases aj:256<=n.toNat >>> 48
   ·have cy:n.toNat >>> 56 % 256=n.toNat / 72057594037927936:=by rw[auQ]; exact aux (by omega)
    obtain⟨y,aK,aU⟩:=xg (n.toNat / 72057594037927936) (by omega);have a1:=uQ (n.toNat / 72057594037927936);rw[<-aU] at a1;have bL:IntKind.i64.wrap (y.toNat:Int)=y.toNat:=wrap_i64 (by omega) (by omega);have w2:IntKind.i64.wrap (56+(y.toNat:Int))=((56+y.toNat:Nat) :Int) :=by rw[wrap_i64 (by omega) (by omega)]; omega
    have cO:kz n.toNat=56+y.toNat:=by unfold kz; rw[aU]; (repeat' split)<;>first | omega | rfl
    simp[b3,b9,ho,w6,w5,w7,ad,ae,aj];refine vt (y:=y) (by rw[cy]; exact aK) ?_;rw[cO];simp[jD,bL,w2];exact aQ (by simp[jU,xo,xp,xq,xr,xt,xu,w2]) rfl
   ·have cy:n.toNat >>> 48 % 256=n.toNat / 281474976710656:=by rw[auQ]; exact aux (by omega)
    obtain⟨y,aK,aU⟩:=xg (n.toNat / 281474976710656) (by omega);have a1:=uQ (n.toNat / 281474976710656);rw[<-aU] at a1;have bL:IntKind.i64.wrap (y.toNat:Int)=y.toNat:=wrap_i64 (by omega) (by omega);have w2:IntKind.i64.wrap (48+(y.toNat:Int))=((48+y.toNat:Nat) :Int) :=by rw[wrap_i64 (by omega) (by omega)]; omega
    have cO:kz n.toNat=48+y.toNat:=by unfold kz; rw[aU]; (repeat' split)<;>first | omega | rfl
    simp[b3,b9,ho,w6,w5,w7,ad,ae,aj];refine vt (y:=y) (by rw[cy]; exact aK) ?_;rw[cO];simp[jD,bL,w2];exact aQ (by simp[jU,xo,xp,xq,xr,xt,xu,w2]) rfl
  ·by_cases aj:256<=n.toNat >>> 32
   ·have cy:n.toNat >>> 40 % 256=n.toNat / 1099511627776:=by rw[auQ]; exact aux (by omega)
    obtain⟨y,aK,aU⟩:=xg (n.toNat / 1099511627776) (by omega);have a1:=uQ (n.toNat / 1099511627776);rw[<-aU] at a1;have bL:IntKind.i64.wrap (y.toNat:Int)=y.toNat:=wrap_i64 (by omega) (by omega);have w2:IntKind.i64.wrap (40+(y.toNat:Int))=((40+y.toNat:Nat) :Int) :=by rw[wrap_i64 (by omega) (by omega)]; omega
    have cO:kz n.toNat=40+y.toNat:=by unfold kz; rw[aU]; (repeat' split)<;>first | omega | rfl
    simp[b3,b9,ho,w6,w5,w7,ad,ae,aj];refine vt (y:=y) (by rw[cy]; exact aK) ?_;rw[cO];simp[jD,bL,w2];exact aQ (by simp[jU,xo,xp,xq,xr,xt,xu,w2]) rfl
   ·have cy:n.toNat >>> 32 % 256=n.toNat / 4294967296:=by rw[auQ]; exact aux (by omega)
    obtain⟨y,aK,aU⟩:=xg (n.toNat / 4294967296) (by omega);have a1:=uQ (n.toNat / 4294967296);rw[<-aU] at a1;have bL:IntKind.i64.wrap (y.toNat:Int)=y.toNat:=wrap_i64 (by omega) (by omega);have w2:IntKind.i64.wrap (32+(y.toNat:Int))=((32+y.toNat:Nat) :Int) :=by rw[wrap_i64 (by omega) (by omega)]; omega
    have cO:kz n.toNat=32+y.toNat:=by unfold kz; rw[aU]; (repeat' split)<;>first | omega | rfl
    simp[b3,b9,ho,w6,w5,w7,ad,ae,aj];refine vt (y:=y) (by rw[cy]; exact aK) ?_;rw[cO];simp[jD,bL,w2];exact aQ (by simp[jU,xo,xp,xq,xr,xt,xu,w2]) rfl
 ·by_cases ae:65536<=n.toNat
  ·by_cases aj:256<=n.toNat >>> 16
   ·have cy:n.toNat >>> 24 % 256=n.toNat / 16777216:=by rw[auQ]; exact aux (by omega)
    obtain⟨y,aK,aU⟩:=xg (n.toNat / 16777216) (by omega);have a1:=uQ (n.toNat / 16777216);rw[<-aU] at a1;have bL:IntKind.i64.wrap (y.toNat:Int)=y.toNat:=wrap_i64 (by omega) (by omega);have w2:IntKind.i64.wrap (24+(y.toNat:Int))=((24+y.toNat:Nat) :Int) :=by rw[wrap_i64 (by omega) (by omega)]; omega
    have cO:kz n.toNat=24+y.toNat:=by unfold kz; rw[aU]; (repeat' split)<;>first | omega | rfl
    simp[b3,b9,ho,w6,w5,w7,ad,ae,aj];refine vt (y:=y) (by rw[cy]; exact aK) ?_;rw[cO];simp[jD,bL,w2];exact aQ (by simp[jU,xo,xp,xq,xr,xt,xu,w2]) rfl
   ·have cy:n.toNat >>> 16 % 256=n.toNat / 65536:=by rw[auQ]; exact aux (by omega)
    obtain⟨y,aK,aU⟩:=xg (n.toNat / 65536) (by omega);have a1:=uQ (n.toNat / 65536);rw[<-aU] at a1;have bL:IntKind.i64.wrap (y.toNat:Int)=y.toNat:=wrap_i64 (by omega) (by omega);have w2:IntKind.i64.wrap (16+(y.toNat:Int))=((16+y.toNat:Nat) :Int) :=by rw[wrap_i64 (by omega) (by omega)]; omega
    have cO:kz n.toNat=16+y.toNat:=by unfold kz; rw[aU]; (repeat' split)<;>first | omega | rfl
    simp[b3,b9,ho,w6,w5,w7,ad,ae,aj];refine vt (y:=y) (by rw[cy]; exact aK) ?_;rw[cO];simp[jD,bL,w2];exact aQ (by simp[jU,xo,xp,xq,xr,xt,xu,w2]) rfl
  ·by_cases aj:256<=n.toNat
   ·have cy:n.toNat >>> 8 % 256=n.toNat / 256:=by rw[auQ]; exact aux (by omega)
    obtain⟨y,aK,aU⟩:=xg (n.toNat / 256) (by omega);have a1:=uQ (n.toNat / 256);rw[<-aU] at a1;have bL:IntKind.i64.wrap (y.toNat:Int)=y.toNat:=wrap_i64 (by omega) (by omega);have w2:IntKind.i64.wrap (8+(y.toNat:Int))=((8+y.toNat:Nat) :Int) :=by rw[wrap_i64 (by omega) (by omega)]; omega
    have cO:kz n.toNat=8+y.toNat:=by unfold kz; rw[aU]; (repeat' split)<;>first | omega | rfl
    simp[b3,b9,ho,w6,w5,w7,ad,ae,aj];refine vt (y:=y) (by rw[cy]; exact aK) ?_;rw[cO];simp[jD,bL,w2];exact aQ (by simp[jU,xo,xp,xq,xr,xt,xu,w2]) rfl
   ·have cy:n.toNat % 256=n.toNat:=aux (by omega);obtain⟨y,aK,aU⟩:=xg (n.toNat) (by omega);have a1:=uQ (n.toNat);rw[<-aU] at a1;have bL:IntKind.i64.wrap (y.toNat:Int)=y.toNat:=wrap_i64 (by omega) (by omega);have w2:IntKind.i64.wrap (0+(y.toNat:Int))=((0+y.toNat:Nat) :Int) :=by rw[wrap_i64 (by omega) (by omega)]; omega
    have cO:kz n.toNat=0+y.toNat:=by unfold kz; rw[aU]; (repeat' split)<;>first | omega | rfl
    simp[b3,b9,ho,w6,w5,w7,ad,ae,aj];refine vt (y:=y) (by rw[cy]; exact aK) ?_;rw[cO];simp[jD,bL,w2];exact aQ (by simp[jU,xo,xp,xq,xr,xt,xu,w2]) rfl
theorem FP (n:Q) (i:Nat) :(n >>> (8*i)).setWidth 8=md n.toNat i:=by
 apply auD;unfold md;rw[auE,avd,auK]
theorem alT (l:ao) (c d:aV) :(l++[c]).set l.length d=l++[d] :=by rw[avt _ _ (aun _)]; simp
def rX (n k i:Nat) :List B:=BitVec.ofNat 8 (247+k) ::(List.replicate (k - i) 0#8++va n i)
theorem Ww (n k i:Nat) (h:i<=k) :(rX n k i).length=k+1:=by simp[rX,Ow]; omega
theorem ajv (n k i:Nat) (h:i<k) :(rX n k i).set (k - i) (md n i)=rX n k (i+1) :=by
 unfold rX;obtain⟨m,hm⟩:∃ m,k - i=m+1:=⟨k - i - 1,by omega⟩
 rw[hm,aw2,show k - (i+1)=m by omega,List.replicate_succ',au3];congr 1;rw[avt _ _ (by simp)];simp[va]
theorem anC (n:Q) {l:ao} {K:U->ao->Prop} (aT:∀ v j l',bK 1 l' v j ((eH n.toNat).map ca)->l.length<=l'.length->(∀ b,b<l.length->l'[b]? = l[b]?)->l.length<=j->cF v=false->K v l') :
  c0 Tryz.prog GS 111 [dS n] l (c:=⟨K⟩) :=by
 apply bq Tryz.func111 [];have b3:((u n:Int)<=247)<->n.toNat<=247:=by unfold u; omega
 by_cases h:n.toNat<=247
 ·have qj:eH n.toNat=[n.setWidth 8] :=by
   unfold eH; rw[if_pos h]; rfl
  simp[b3,h];refine aT _ l.length _ (rZ (n:=1) (a:=eH n.toNat) (by rw[qj]; rfl) (by rw[qj]; simp)) (by simp) (fun b ag=>aum ag) (aun _) rfl
 ·have ar:=Ib n.toNat
  obtain⟨k,sF⟩:∃ k,lx n.toNat=k:=⟨_,rfl⟩
  have qj:eH n.toNat=rX n.toNat k k:=by unfold eH rX; rw[if_neg h,sF]; simp
  have DB:=ait n.toNat (by omega)
  rw[sF] at DB ar;obtain⟨L,dA⟩:∃ L,kz n.toNat=L:=⟨_,rfl⟩
  rw[dA] at DB;have bL:IntKind.i64.wrap ((L:Int)+7)=((L+7:Nat) :Int) :=by rw[wrap_i64 (by omega) (by omega)]; omega
  have q1:ct .quo .i64 ((L+7:Nat) :Int) .i64 8=some (.int .i64 (k:Int)) :=by rw[JX _ 8 (by omega) (by omega)]; rw[show (8:Int).toNat=8 from rfl,DB]
  have w2:IntKind.i64.wrap ((k:Int)+1)=((k+1:Nat) :Int) :=by rw[wrap_i64 (by omega) (by omega)]; omega
  have cO:IntKind.i64.wrap (247+(k:Int))=((247+k:Nat) :Int) :=by rw[wrap_i64 (by omega) (by omega)]; omega
  have eo:rU 1 1 [.int .u8 0] l (.int .i64 ((k+1:Nat) :Int)) (.int .i64 ((k+1:Nat) :Int))=some (.aq 1 l.length 0 (k+1) (k+1) (k+1),l++[.cells (k+1) ((List.replicate (k+1) 0#8).map bA)]) :=by
   unfold rU;have az:cw=140737488355328:=rfl;simp only[];rw[if_pos ⟨by omega,by omega,by omega,by rw[az]; omega⟩,EU];simp
  simp[b3,h];refine a4 (V2 n) rfl ?_;rw[dA];have fu:a8 (List.replicate (k+1) (bA 0#8)) 0 [bA (BitVec.ofNat 8 (247+k))]=(rX n.toNat k 0).map bA:=by
   rw[avc,amb,amd]; simp[rX,va]
  simp[bL,q1,w2,cO,eo,-Int.natCast_add];refine cl k (fun i σ l1=>σ 0=dS n/\σ 3=.int .i64 k/\σ 4=.aq 1 l.length 0 (k+1) (k+1) (k+1)/\σ 23=.int .i64 k/\σ 24=.int .i64 i/\l1=l++[.cells (k+1) ((rX n.toNat k i).map bA)]) ?_ ?_
  ·rintro i σ l1 ay ⟨cb,a1,bl,tZ,v0,rfl⟩;obtain⟨σ,rfl⟩:=lC cb a1 bl tZ v0;clear cb a1 bl tZ v0;by_cases rn:i<k
   ·have jW:IntKind.i64.wrap ((k:Int) - i)=((k - i:Nat) :Int) :=by rw[wrap_i64 (by omega) (by omega)]; omega
    have jX:IntKind.i64.wrap (8*(i:Int))=((8*i:Nat) :Int) :=by rw[wrap_i64 (by omega) (by omega)]; omega
    have tv:IntKind.i64.wrap ((i:Int)+1)=((i+1:Nat) :Int) :=by rw[wrap_i64 (by omega) (by omega)]; omega
    have qP:ct .shr .u64 (u n) .i64 ((8*i:Nat) :Int)=some (.int .u64 (u (n >>> (8*i)))) :=vD n .i64 (8*i);have sb:=FP n i;have Fo:=pD bA (rX n.toNat k i) (k - i) (md n.toNat i) (by rw[Ww _ _ _ ay]; omega);rw[ajv _ _ _ rn] at Fo;obtain⟨d,bf⟩:∃ d,k - i=d:=⟨_,rfl⟩
    obtain⟨e,am⟩:∃ e,8*i=e:=⟨_,rfl⟩
    rw[bf] at jW Fo;rw[am] at jX qP sb;have Dn:d<=k:=by omega
    simp[rn,jW,jX,tv,qP,sb,Fo,Dn,-Int.natCast_add,alT];omega
   ·have gQ:i=k:=by omega
    subst gQ;simp;refine aT _ l.length _ (rZ (n:=i+1) (a:=eH n.toNat) (by rw[qj,Ww _ _ _ (aun _)]) (by rw[qj]; simp)) (by simp) (fun b ag=>aum ag) (aun _) rfl
  ·simp;exact fu
theorem ajq {n:Nat} (h:n<18446744073709551616) :n<256 ^ lx n:=by
 unfold lx; (repeat' split)<;>simp<;>omega
theorem ajr {n k:Nat} (ad:1<=n) (h:k<lx n) :256 ^ k<=n:=by
 have g0:=(Ib n).2;have ar:k=0\/k=1\/k=2\/k=3\/k=4\/k=5\/k=6\/k=7:=by omega
 rcases ar with rfl | rfl | rfl | rfl | rfl | rfl | rfl | rfl<;>simp<;>unfold lx at h<;>(repeat' split at h)<;>omega
theorem al3 {n k:Nat} (ad:1<=n) (h:n<18446744073709551616) (ar:k<=lx n) :n >>> (8*k)=0<->k=lx n:=by
 have av:2 ^ (8*k)=256 ^ k:=by rw[Nat.pow_mul]
 rw[auQ,av,Nat.div_eq_zero_iff];constructor
 ·rintro (ae | ae)
  ·exact absurd ae (by have:0<256 ^ k:=Nat.pow_pos (by decide); omega)
  ·rcases avy k (lx n) with aj | aj
   ·have:=ajr ad aj; omega
   ·omega
 ·rintro rfl;exact .inr (ajq h)
theorem YQ (n:Nat) :∀ k,va n k=((List.range k).map (md n)).reverse
 | 0=>rfl
 | k+1=>by rw[va,YQ n k,awk,auH,List.reverse_append]; rfl
def p0 (n k:Nat) :List B:=(List.range k).map (md n)
theorem ab2 (n k:Nat) :p0 n (k+1)=p0 n k++[md n k] :=by simp[p0,awk]
theorem z3 (n k:Nat) :(p0 n k).length=k:=by simp[p0]
theorem Sc (n k i:Nat) (h:i<k) :(p0 n k)[i]? = some (md n i) :=by simp[p0,h]
theorem alq (x:Q) :ct .rem .u64 (u x) .u64 256=some (.int .u64 (u (x % 256#64))) :=zM x 256#64 (by decide)
theorem akB (x:Q) :ct .quo .u64 (u x) .u64 256=some (.int .u64 (u (x / 256#64))) :=NF x 256#64 (by decide)
theorem aiF (n:Q) (i:Nat) :((n >>> (8*i)) % 256#64).setWidth 8=md n.toNat i:=by
 rw[<-FP];apply auD;rw[auE,avC,auE];show _ % 256 % 2 ^ 8=_ % 2 ^ 8;omega
theorem ajn (n:Q) (i:Nat) :(n >>> (8*i)) / 256#64=n >>> (8*(i+1)) :=by
 apply auD;rw[avM,avd,avd,auQ,auQ,show 8*(i+1)=8*i+8 by omega,awY,<-Nat.div_div_eq_div_mul]; rfl
theorem cI.get {l l1:ao} {v:U} {a:List B} {nl:Bool} (h:cI 1 ca l l1 v a nl) {k:IntKind} {i:Nat} {x:B} (af:a[i]? = some x) :∃ p cs o,cL (.aq 1) v (.int k (i:Int))=some p/\hg l1 p=some (cs,o)/\cs[o]? = some (bA x) :=by
 obtain⟨j,h,_⟩:=h;obtain⟨p,cs,o,ad,ae,aj,aG⟩:=h.q.get (k:=k) (i:=i) (e:=ca x) (by rw[auq,af]; rfl);refine⟨p,cs,o,ad,ae,?_⟩;have:=congrArg (fun l=>l[0]?) aG;simp[List.getElem?_take,auY,ca] at this;exact this
theorem zq (n:Q) {l:ao} {K:U->ao->Prop} (aT:∀ v l',cI 1 ca l l' v (eH n.toNat) false->K v l') :c0 Tryz.prog GS 111 [dS n] l (c:=⟨K⟩) :=
 anC n fun v j l' ad ae aj aG bh=>aT v l' ⟨j,ad,ae,aj,.inr aG,bh⟩
structure Z8 (l:ao) (n:Q) (i:Nat) (σ:bc) (l1:ao) :Prop where
 cb:σ 0=dS (n >>> (8*i))
 s9:∃ v,σ 3=v/\cI 1 ca l l1 v (p0 n.toNat i) (decide (i=0))
structure Z9 (l1:ao) (v:U) (n:Q) (k i:Nat) (σ:bc) (bj:ao) :Prop where
 a1:σ 3=v
 bo:σ 5=.int .i64 ((k:Int) - 1 - i)
 s9:∃ w,σ 4=w/\cI 1 ca l1 bj w (BitVec.ofNat 8 (247+k) ::((p0 n.toNat k).reverse.take i)) false
theorem wY (n:Q) {l:ao} {K:U->ao->Prop} (aT:∀ v l',cI 1 ca l l' v (eH n.toNat) false->K v l') :
  c0 Tryz.prog GS 205 [dS n] l (c:=⟨K⟩) :=by
 apply bq Tryz.func205 [];have b3:((u n:Int)<=247)<->n.toNat<=247:=by unfold u; omega
 by_cases h:n.toNat<=247
 ·have qj:eH n.toNat=[n.setWidth 8] :=by
   unfold eH; rw[if_pos h]; rfl
  simp[b3,h];exact aT _ _ ⟨l.length,rZ (n:=1) (a:=eH n.toNat) (by rw[qj]; rfl) (by rw[qj]; simp),by simp,fun b ag=>aum ag,.inr (aun _),rfl⟩
 ·have K0:=n.isLt;have ar:=Ib n.toNat
  simp[b3,h];refine cl (lx n.toNat) (Z8 l n) ?_ ⟨by simp,.aH,by simp,cI.nil⟩;rintro i σ l1 ay ⟨cb,v,a1,eV⟩;obtain⟨σ,rfl⟩:=pG cb a1;clear cb a1;have ax:=al3 (n:=n.toNat) (k:=i) (by omega) (by omega) ay;have pg:((0:Int)<u (n >>> (8*i)))<->¬ i=lx n.toNat:=by
   rw[<-ax]; unfold u; rw[avd]; generalize n.toNat >>> (8*i)=q; omega
  by_cases rn:i=lx n.toNat
  ·obtain⟨k,sF⟩:∃ k,lx n.toNat=k:=⟨_,rfl⟩
   rw[sF] at rn pg ar;subst rn;have afV:eH n.toNat=BitVec.ofNat 8 (247+i) ::(p0 n.toNat i).reverse:=by
    unfold eH; rw[if_neg h,sF,YQ]; rfl
   have bC:=eV.len;rw[z3] at bC;have bL:IntKind.i64.wrap (247+(i:Int))=((247+i:Nat) :Int) :=by rw[wrap_i64 (by omega) (by omega)]; omega
   have w2:IntKind.i64.wrap ((i:Int) - 1)=(i:Int) - 1:=wrap_i64 (by omega) (by omega);have f1:(eH n.toNat)=BitVec.ofNat 8 (247+i) ::(p0 n.toNat i).reverse.take i:=by rw[afV,aul (by rw[List.length_reverse,z3]; omega)]
   simp[pg,bC,bL,w2,-Int.natCast_add];refine cl i (Z9 l1 v n i) ?_ ⟨by simp,by simp,_,by simp,⟨l1.length,rZ (n:=1) (a:=[BitVec.ofNat 8 (247+i)]) rfl (by simp),by simp,fun b ag=>aum ag,.inr (aun _),rfl⟩⟩;rintro j σ bj ai ⟨a1,bo,w,bl,uY⟩;have gh:=eV.frame uY.le uY.same;obtain⟨σ,rfl⟩:=lB a1 bl bo;clear a1 bl bo;by_cases jL:j=i
   ·have jj:¬ (j:Int)<=(i:Int) - 1:=by omega
    rw[jL,<-f1] at uY;simp[jj];exact aT _ _ (uY.base eV.le eV.same)
   ·have m2:(j:Int)<=(i:Int) - 1:=by omega
    have wc:((i:Int) - 1 - j)=((i - 1 - j:Nat) :Int) :=by omega
    have cO:IntKind.i64.wrap ((i:Int) - 1 - j - 1)=(i:Int) - 1 - (j+1:Nat) :=by rw[wrap_i64 (by omega) (by omega)]; omega
    obtain⟨p,cs,o,q1,cV,fy⟩:=cI.get gh (k:=.i64) (Sc n.toNat i (i - 1 - j) (by omega));rw[<-wc] at q1;have af:(p0 n.toNat i).reverse[j]? = some (md n.toNat (i - 1 - j)) :=by
     rw[List.getElem?_reverse (by rw[z3]; omega),z3,Sc _ _ _ (by omega)]
    have Hf:=z3 n.toNat i;obtain⟨w',l',a2,a9⟩:=cI.push uY (md n.toNat (i - 1 - j)) (by simp; omega);simp[m2,q1,cV,fy,a2];refine c7.cd ?_;simp[cO];exact⟨by omega,by simp,by simp,w',by simp,by rw[auP,af]; simpa using a9⟩
  ·have iJ:=z3 n.toNat i;obtain⟨a6,l',a2,a9⟩:=cI.push eV (md n.toNat i) (by omega);rw[<-ab2] at a9;have a7:ct .quo .u64 (u (n >>> (8*i))) .u64 256=some (dS (n >>> (8*(i+1)))) :=by rw[akB,ajn]
   simp[pg,rn,alq,a7,aiF,a2];refine c7.cd ?_;simp[a7];exact⟨by omega,by simp,a6,by simp,by simpa using a9⟩
end Op

end Go.b0

namespace Go.b0
open Go Go.Proofs
set_option maxRecDepth 100000
namespace Op
open hl
def nj (n:Int) :Q:=if 0<=n then BitVec.ofNat 64 (2*n.toNat) else BitVec.ofNat 64 (2*(-(n+1)).toNat+1)
theorem anD (n:Int) (ad:-9223372036854775808<=n) (ae:n<9223372036854775808) {l:ao} {K:U->ao->Prop} (aT:∀ v l',cI 1 ca l l' v (eH (nj n).toNat) false->K v l') :
  c0 Tryz.prog GS 155 [.int .i64 n] l (c:=⟨K⟩) :=by
 apply bq Tryz.func155 [];have aP:ct .shl .u64 (u (BitVec.ofInt 64 n)) .u64 1=some (.int .u64 (u (BitVec.ofInt 64 n <<< 1))) :=P3 _ .u64 1;have bw:ct .shr .i64 n .u64 63=some (.int .i64 (if 0<=n then 0 else -1)) :=by
  show (if (63:Int)<0 then none else some (U.int .i64 (n.fdiv (2 ^ min (63:Int).toNat 64))))=_;rw[if_neg (by omega)];congr 2;have:(2:Int) ^ min (63:Int).toNat 64=9223372036854775808:=by decide
  rw[this,Int.fdiv_eq_ediv_of_nonneg _ (by omega)];split<;>omega
 have ax:BitVec.ofInt 64 n <<< 1 ^^^ BitVec.ofInt 64 (if 0<=n then 0 else -1)=nj n:=by
  unfold nj;by_cases h:0<=n
  ·rw[if_pos h,if_pos h];obtain⟨m,rfl⟩:=avr h;rw[avZ,auS];have:BitVec.ofInt 64 (0:Int)=0#64:=rfl;rw[this,BitVec.xor_zero];apply auD;rw[awm,auK,auK,avS];omega
  ·rw[if_neg h,if_neg h];obtain⟨m,hm⟩:=avr (show 0<=-(n+1) by omega);have aD:n=-((m:Int)+1) :=by omega
   have a2:BitVec.ofInt 64 (-1:Int)=BitVec.allOnes 64:=by decide
   have a9:BitVec.ofInt 64 n = ~~~ BitVec.ofNat 64 m:=by
    apply auD;rw[aD,BitVec.toNat_ofInt,axf,auK];omega
   have ku:m<9223372036854775808:=by omega
   rw[a2,a9,BitVec.xor_allOnes,hm,auS];apply auD;rw[axf,awm,axf,auK,auK,avS];omega
 simp[aP,bw,ax];refine zq _ fun v l' h=>?_
 simp;exact aT v l' h
theorem akZ (n:Int) (ad:-9223372036854775808<=n) (ae:n<9223372036854775808) {l:ao} {K:U->ao->Prop} (aT:∀ v l',cI 1 ca l l' v (eH (nj n).toNat) false->K v l') :
  c0 Tryz.prog GS 236 [.int .i64 n] l (c:=⟨K⟩) :=by
 apply bq Tryz.func236 [];by_cases h:0<=n
 ·obtain⟨m,rfl⟩:=avr h;have ax:2#64*BitVec.ofNat 64 m=nj m:=by
   unfold nj; rw[if_pos h,auS];apply auD;simp only[awb,auK];omega
  simp[ax];refine wY _ fun v l' h=>?_
  simp;exact aT v l' h
 ·have bL:IntKind.i64.wrap (n+1)=n+1:=wrap_i64 (by omega) (by omega);have w2:IntKind.i64.wrap (0 - (n+1))=0 - (n+1) :=wrap_i64 (by omega) (by omega);have w2:IntKind.i64.wrap (-(n+1))=-(n+1) :=wrap_i64 (by omega) (by omega);have ax:2#64*BitVec.ofInt 64 (-(n+1))+1#64=nj n:=by
   obtain⟨m,hm⟩:=avr (show 0<=-(n+1) by omega);unfold nj; rw[if_neg h,hm,auS,avZ];apply auD;simp only[awb,auK,axd];omega
  simp[h,bL,w2,ax];refine wY _ fun v l' h=>?_
  simp;exact aT v l' h
def jw (s:List B) :List B:=eH s.length++s
theorem iD (n:Nat) :(eH n).length<=9:=by
 unfold eH;have:=(Ib n).2;split
 ·simp
 ·simp[Ow]; omega
theorem acS (s:List B) :(s.map ca).flatten=s.map bA:=Cz s
theorem R7 (l:ao) (s:eZ) :dD l 1 (cD s)=some ((s.l.map ca).flatten,s.l.length) :=vS l 1 ca s
theorem Zj (s:eZ) (ak:s.l.length<=10000) {x:U} {l:ao} (af:dD l 1 x=some ((s.l.map ca).flatten,s.l.length)) (bC:ce (.aq 1) x=some (.int .i64 s.l.length)) (b5:∀ l',l.length<=l'.length->(∀ b,b<l.length->l'[b]? = l[b]?)->dD l' 1 x=some ((s.l.map ca).flatten,s.l.length))
  {K:U->ao->Prop} (aT:∀ v l',cI 1 ca l l' v (jw s.l) false->K (.bt [v,.int .i64 0]) l') :c0 Tryz.prog GS 112 [x] l (c:=⟨K⟩) :=by
 apply bq Tryz.func112 [];have ad:¬ ((10000:Int)<s.l.length) :=by omega
 have az:cw=140737488355328:=rfl;simp[bC,ad];refine zq _ fun v l' h=>?_
 have aD:(BitVec.ofNat 64 s.l.length).toNat=s.l.length:=by rw[auK]; exact aux (by omega)
 rw[aD] at h;have kR:=iD s.l.length;obtain⟨a6,bj,a2,a9,_⟩:=h.app (by_:=1) (x:=x) (xs:=s.l) (b5 l' h.le h.same) (by simp[ca]) (by omega) (by omega) (by rw[az]; omega);simp[a2];refine c7.cd ?_;simp;exact aT a6 bj (by simpa [jw] using a9)
theorem Xx (s:eZ) (ak:s.l.length<=10000) {x:U} {l:ao} (af:dD l 1 x=some ((s.l.map ca).flatten,s.l.length)) (bC:ce (.aq 1) x=some (.int .i64 s.l.length)) (b5:∀ l',l.length<=l'.length->(∀ b,b<l.length->l'[b]? = l[b]?)->dD l' 1 x=some ((s.l.map ca).flatten,s.l.length))
  {K:U->ao->Prop} (aT:∀ v l',cI 1 ca l l' v (jw s.l) false->K v l') :c0 Tryz.prog GS 225 [x] l (c:=⟨K⟩) :=by
 apply bq Tryz.func225 [];have az:cw=140737488355328:=rfl;simp[bC];refine wY _ fun v l' h=>?_
 have aD:(BitVec.ofNat 64 s.l.length).toNat=s.l.length:=by rw[auK]; exact aux (by omega)
 rw[aD] at h;have kR:=iD s.l.length;obtain⟨a6,bj,a2,a9,_⟩:=h.app (by_:=1) (x:=x) (xs:=s.l) (b5 l' h.le h.same) (by simp[ca]) (by omega) (by omega) (by rw[az]; omega);simp[a2];refine c7.cd ?_;simp;exact aT a6 bj (by simpa [jw] using a9)
def aY (i:List B) :List U:=i.map bA
abbrev dv:=db (List B)
def aB (s:dv) :U:=cE 32 aY s
def eQ (s:dv) :Prop:=∀ i∈s.l,i.length=32
theorem fE (i:List B) :a5 (aY i)=true:=mS bA (fun _=>rfl) _
theorem dd (s:dv) :(aB s).closed=true:=Co fE s
theorem RX:∀ a b:List B,a.length=b.length->ol (a.map fun x=>UInt8.ofNat x.toNat) (b.map fun x=>UInt8.ofNat x.toNat)=cg a b
 | [],[],_=>rfl
 | [],_::_,h=>by simp at h
 | _::_,[],h=>by simp at h
 | x::a,y::b,h=>by
  have aR:=RX a b (by simpa using h);have af:=x.isLt;have aJ:=y.isLt;rw[RW];simp only[auL,ol,aR];have aP:(UInt8.ofNat x.toNat=UInt8.ofNat y.toNat)<->x.toNat=y.toNat:=by
   constructor
   ·intro h;have:=congrArg UInt8.toNat h;simp only[UInt8.toNat_ofNat'] at this;omega
   ·intro h; rw[h]
  have bw:(UInt8.ofNat x.toNat<UInt8.ofNat y.toNat)<->x.toNat<y.toNat:=by
   rw[UInt8.lt_iff_toNat_lt]; simp only[UInt8.toNat_ofNat'];rw[aux (by omega),aux (by omega)]
  by_cases ad:x.toNat=y.toNat
  ·rw[if_pos (aP.2 ad),if_neg (by omega),if_neg (by omega)]
  ·rw[if_neg (fun h=>ad (aP.1 h))];by_cases ae:x.toNat<y.toNat
   ·rw[if_pos (bw.2 ae),if_pos ae]
   ·rw[if_neg (fun h=>ae (bw.1 h)),if_neg ae,if_pos (by omega)]
@[simp ↓] theorem asy {P:Program} {aA:Operand->U} {l:ao} (f:FuncId) (sA x y:Operand) :bT P aA l (.cg f sA x y)=(match D8 f (aA sA) with | true=>dM l (cmpL l (aA x) (aA y)) | false=>none) :=id rfl
@[simp ↓] theorem arF (f:FuncId) (sA x y:Operand) (v:U) (l:ao) (K:U->ao->Prop) :eG (.cg f sA x y) v l K=K v l:=id rfl
@[simp] theorem aqT (f:FuncId) :D8 f (.fn f [] [])=true:=awN f
theorem P7:∀ a:List B,nv (a.map bA)=some (a.map fun x=>UInt8.ofNat x.toNat)
 | []=>rfl
 | x::a=>by
  simp only[auL,nv,P7 a,auv];simp[u]
theorem P8 (l:ao) (s:eZ) :o2 l (cD s)=some (s.l.map fun x=>UInt8.ofNat x.toNat) :=by
 have h:=R7 l s;rw[acS] at h;cases s with
 | none=>simp[o2,cE,dD,nv]
 | some a=>
  unfold o2;simp only[cE];have ae:dD l 1 (U.aZ 1 (a.map ca))=some (a.map bA,a.length) :=h;rw[ae];exact P7 a
theorem aaD (a b:eZ) (h:a.l.length=b.l.length) :bz Tryz.prog GS 104 [cD a,cD b] (.int .i64 (cg a.l b.l)) :=by
 refine bX Tryz.checked.mixed bn ?_;apply adg Tryz.func104 [];have ah:cmpL [] (cD a) (cD b)=some (.int .i64 (cg a.l b.l)) :=by
  unfold cmpL;rw[P8,P8];simp only[RX _ _ h]
 simp[ah];exact aQ rfl rfl
theorem Oe {n b:Nat} (cM:0<n) :fl (.arr n 1) (.ptr b 0 n) none none none=some (.aq 1 b 0 n n n) :=by
 have:gO n n none none none=some (0,n,n) :=rfl;simp only[fl,this];rw[if_pos (by omega),if_neg (by omega)];simp
theorem vN (a b:List B) (aC:a.length=32) (ag:b.length=32) :bz Tryz.prog GS 75 [gF a,gF b] (.int .i64 (cg a b)) :=by
 refine bX Tryz.checked.mixed bn ?_;apply bq Tryz.func75 [];have ak:=Oe (n:=32) (b:=1) (by omega);have L0:=Oe (n:=32) (b:=0) (by omega);simp[gF,aC,ag,ak,L0];have ah:=aaD (some a) (some b) (by simp[aC,ag]);refine l7 ah ?_ rfl ?_
 ·exact .cons ((rZ (j:=0) aC rfl).wZ (fun _=>rfl) (some a) rfl rfl) (.cons ((rZ (j:=1) ag rfl).wZ (fun _=>rfl) (some b) rfl rfl) .nil)
 ·simp;exact aQ rfl rfl
theorem NK (a b:List B) (aC:a.length=32) (ag:b.length=32) :bz Tryz.prog GS 106 [gF a,gF b] (.int .i64 (cg a b)) :=by
 refine bX Tryz.checked.mixed bn ?_;apply bq Tryz.func106 [];obtain⟨A,du⟩:∃ A,A=a.map bA:=⟨_,rfl⟩
 obtain⟨C,KG⟩:∃ C,C=b.map bA:=⟨_,rfl⟩
 have lj:A.length=32:=by rw[du,auw,aC]
 have Gm:C.length=32:=by rw[KG,auw,ag]
 unfold gF;rw[<-du,<-KG];simp[lj,Gm];refine cl 32 (fun k σ l=>σ 2=.ptr 0 0 32/\σ 3=.ptr 1 0 32/\σ 5=.int .i64 k/\l=[.cells 32 A,.cells 32 C]/\∀ j,j<k->a[j]? = b[j]?) ?_ (by simp);rintro k σ l ar ⟨aU,a1,bo,rfl,heq⟩;obtain⟨σ,rfl⟩:=lB aU a1 bo;clear aU a1 bo;have yh:=abC k heq (by omega) (by omega);by_cases h:(k:Int)<32
 ·have dK:k<32:=by omega
  have fq:IntKind.i64.wrap ((k:Int)+1)=(k+1:Nat) :=wrap_i64 (by omega) (by omega);obtain⟨x,af,_⟩:=bI (l:=a) (k:=k) (by omega);obtain⟨y,aJ,_⟩:=bI (l:=b) (k:=k) (by omega);have adt:A[k]? = some (bA x) :=by rw[du,auq,af]; rfl
  have ady:C[k]? = some (bA y) :=by rw[KG,auq,aJ]; rfl
  obtain⟨_,KE⟩:=auk.1 adt;obtain⟨_,KH⟩:=auk.1 ady;have aeE:a.drop k=x::a.drop (k+1) :=by
   obtain⟨ad,ae⟩:=auk.1 af;rw[avg ad,ae]
  have aeG:b.drop k=y::b.drop (k+1) :=by
   obtain⟨ad,ae⟩:=auk.1 aJ;rw[avg ad,ae]
  rw[aeE,aeG,RW] at yh;have BK:((u x:Int)<u y)<->x.toNat<y.toNat:=by unfold u; omega
  have BL:((u y:Int)<u x)<->y.toNat<x.toNat:=by unfold u; omega
  by_cases b3:x.toNat<y.toNat
  ·rw[if_pos b3] at yh;have vE:x<y:=b3;simp[h,dK,lj,Gm,KE,KH,vE];exact aQ (by rw[<-yh]) rfl
  ·have vE:¬ x<y:=b3;rw[if_neg b3] at yh;by_cases b9:y.toNat<x.toNat
   ·rw[if_pos b9] at yh;have xR:y<x:=b9;simp[h,dK,lj,Gm,KE,KH,vE,xR];exact aQ (by rw[<-yh]) rfl
   ·have xR:¬ y<x:=b9;simp[h,dK,lj,Gm,KE,KH,vE,xR,fq];intro j ai;by_cases gR:j=k
    ·subst gR;rw[af,aJ];have:x=y:=auD (by omega);rw[this]
    ·exact heq j (by omega)
 ·have ff:k=32:=by omega
  subst ff;have:cg a b=0:=by
   rw[<-yh,awn (by omega),awn (by omega)]; rfl
  simp;exact aQ (by rw[this]) rfl
abbrev b1 (l:List (List B)) (k:Nat) :List B:=l.getD k []
def di (l:List (List B)) :Bool:=decide (∀ k,k<l.length->1<=k->cg (b1 l (k - 1)) (b1 l k)<0)
def zj (l:List (List B)) :Bool:=decide (∀ k,k<l.length->1<=k->¬ cg (b1 l k) (b1 l (k - 1))<0)
theorem gi {l:List (List B)} {k:Nat} {x:List B} (h:l[k]? = some x) :b1 l k=x:=by
 unfold b1; rw[auB,h]; rfl
theorem IG {l:List (List B)} (h:∀ k,k<l.length->1<=k->cg (b1 l (k - 1)) (b1 l k)<0) :di l=true:=decide_eq_true h
theorem XV {l:List (List B)} {k:Nat} (ar:k<l.length) (ad:1<=k) (h:¬ cg (b1 l (k - 1)) (b1 l k)<0) :di l=false:=decide_eq_false fun aS=>h (aS k ar ad)
theorem Yu {l:List (List B)} (h:∀ k,k<l.length->1<=k->¬ cg (b1 l k) (b1 l (k - 1))<0) :zj l=true:=decide_eq_true h
theorem ami {l:List (List B)} {k:Nat} (ar:k<l.length) (ad:1<=k) (h:cg (b1 l k) (b1 l (k - 1))<0) :zj l=false:=decide_eq_false fun aS=>aS k ar ad h
theorem c2 {x:List B} (h:x.length=32) :(aY x).length=32:=by simp[aY,h]
theorem Xv (a:dv) (aC:eQ a) (al:a.l.length<=1000000) :bz Tryz.prog GS 173 [aB a] (.bool (di a.l)) :=by
 refine bX Tryz.checked.mixed bn ?_;apply bq Tryz.func173 [];simp[aB];refine cl (a.l.length - 1) (fun k σ l=>σ 0=cE 32 aY a/\σ 3=.int .i64 ((k+1:Nat) :Int)/\∀ j,j<k+1->j<a.l.length->1<=j->cg (b1 a.l (j - 1)) (b1 a.l j)<0) ?_ ⟨by simp[aB],by simp,fun j ad _ ae=>by omega⟩;rintro k σ l ar ⟨cb,a1,ak⟩;obtain⟨s,rfl⟩:=pG cb a1;clear cb a1;obtain⟨m,hm⟩:∃ m,m=k+1:=⟨_,rfl⟩
 rw[<-hm] at ak ⊢;simp;refine pm (fun h=>?_) (fun h=>?_)
 ·simp only[decide_eq_true_eq] at h;have aL:m<a.l.length:=by omega
  obtain⟨x,af,cT⟩:=bI (l:=a.l) (k:=k) (by omega);obtain⟨y,aJ,eL⟩:=bI aL;have aP:IntKind.i64.wrap ((m:Int) - 1)=(k:Int) :=by rw[IntKind.wrap_i64]; omega
  have bw:IntKind.i64.wrap ((m:Int)+1)=((m+1:Nat) :Int) :=by rw[IntKind.wrap_i64]; omega
  have e6:=gi af;have s1:=gi aJ;simp[aP,af,aJ,c2 (aC x cT),c2 (aC y eL),aul];refine a4 (NK x y (aC x cT) (aC y eL)) (by simp[a5,fE,U.closed,gF]) ?_;by_cases ah:cg x y<0
  ·have eB:¬ (0<=cg x y) :=by omega
   simp[eB,bw];refine⟨by omega,fun j ad ae aj=>?_⟩;have eD:cg (b1 a.l (j - 1)) (b1 a.l j)<0:=by
    by_cases ai:j=m
    ·rw[ai,show m - 1=k by omega,e6,s1]; exact ah
    ·exact ak j (by omega) ae aj
   simpa [b1] using eD
  ·have eB:0<=cg x y:=by omega
   simp[eB];refine aQ (congrArg U.bool (XV (k:=m) aL (by omega) ?_).symm) rfl;rw[show m - 1=k by omega,e6,s1];exact ah
 ·simp[h];exact aQ (congrArg U.bool (IG fun j ad ae=>ak j (by simp at h; omega) ad ae).symm) rfl
theorem Kt:jH Tryz.prog 75=true:=by kernel_rfl
theorem ahO (a:dv) (aC:eQ a) (al:a.l.length<=1000000) :bz Tryz.prog GS 135 [aB a,.fn 75 [] []] (.bool (zj a.l)) :=by
 refine bX Tryz.checked.mixed bn ?_;apply bq Tryz.func135 [];have fu:IntKind.i64.wrap ((a.l.length:Int) - 1)=(a.l.length:Int) - 1:=by rw[IntKind.wrap_i64]; omega
 simp[aB,fu];refine cl (a.l.length - 1) (fun k σ l=>σ 0=cE 32 aY a/\σ 1=.fn 75 [] []/\σ 5=.int .i64 ((a.l.length:Int) - 1 - k)/\∀ j,j<a.l.length->a.l.length - 1 - k<j->¬ cg (b1 a.l j) (b1 a.l (j - 1))<0) ?_ ⟨by simp[aB],by simp,by simp,fun j ad ae=>by omega⟩;rintro k σ l ar ⟨cb,aK,bo,ak⟩;obtain⟨s,rfl⟩:=lB cb aK bo;clear cb aK bo;simp;refine pm (fun h=>?_) (fun h=>?_)
 ·simp only[decide_eq_true_eq] at h;obtain⟨m,hm⟩:∃ m,m+k+2=a.l.length:=⟨a.l.length - 2 - k,by omega⟩
  have aP:((a.l.length:Int) - 1 - k)=((m+1:Nat) :Int) :=by omega
  rw[aP];obtain⟨x,af,cT⟩:=bI (l:=a.l) (k:=m+1) (by omega);obtain⟨y,aJ,eL⟩:=bI (l:=a.l) (k:=m) (by omega);obtain⟨n,aD⟩:∃ n,n=m+1:=⟨_,rfl⟩
  rw[<-aD] at af ⊢;have bw:IntKind.i64.wrap ((n:Int) - 1)=(m:Int) :=by rw[IntKind.wrap_i64]; omega
  have e6:=gi af;have s1:=gi aJ;simp[bw,af,aJ,c2 (aC x cT),c2 (aC y eL),aul];refine⟨Kt,a4 (vN x y (aC x cT) (aC y eL)) (by simp[a5,fE,U.closed,gF]) ?_⟩;by_cases ah:cg x y<0
  ·simp[ah];refine aQ (congrArg U.bool (ami (k:=n) (by omega) (by omega) ?_).symm) rfl;rw[show n - 1=m by omega,e6,s1];exact ah
  ·simp[ah,bw];refine⟨by omega,by omega,fun j ad ae=>?_⟩;have eD:¬ cg (b1 a.l j) (b1 a.l (j - 1))<0:=by
    by_cases ai:j=n
    ·rw[ai,show n - 1=m by omega,e6,s1]; exact ah
    ·exact ak j ad (by omega)
   simpa [b1] using eD
 ·simp[h];exact aQ (congrArg U.bool (Yu fun j ad ae=>ak j ad (by simp at h; omega)).symm) rfl
def z4 (l:List (List B)) (k:Nat) :Bool:=decide (k+1<l.length)&&decide (0<=cg (b1 l k) (b1 l (k+1)))
theorem XU {l:List (List B)}:di l=true<->∀ k,k<l.length->z4 l k=false:=by
 unfold di z4;rw[decide_eq_true_eq];constructor
 ·intro h k ar;by_cases ad:k+1<l.length
  ·have:=h (k+1) ad (by omega);rw[Nat.add_sub_cancel] at this;rw[decide_eq_false (p:=0<=_) (by omega),Bool.and_false]
  ·simp[ad]
 ·intro h k ar ad;have:=h (k - 1) (by omega);rw[show k - 1+1=k by omega] at this;rw[decide_eq_true ar,avR,decide_eq_false_iff_not] at this;omega
theorem alv (a:dv) (aC:eQ a) (al:a.l.length<=1000000) (k:Nat) (ar:k<a.l.length) (x:List B) (af:x.length=32) (r:ao) {K:U->ao->Prop}
  (aT:∀ cB,K (.bool (z4 a.l k)) (.cells 1 [aB a] ::.cells 1 [.int .i64 ((k+1:Nat) :Int)] ::cB)) :
  c0 Tryz.prog GS 187 [gF x,.ptr 1 0 1,.ptr 0 0 1] (.cells 1 [aB a] ::.cells 1 [.int .i64 (k:Int)] ::r) (c:=⟨K⟩) :=by
 apply bq Tryz.func187 [];have aP:IntKind.i64.wrap ((k:Int)+1)=((k+1:Nat) :Int) :=by rw[IntKind.wrap_i64]; omega
 obtain⟨m,hm⟩:∃ m,m=k+1:=⟨_,rfl⟩
 rw[<-hm] at aP aT;have bw:IntKind.i64.wrap ((m:Int) - 1)=(k:Int) :=by rw[IntKind.wrap_i64]; omega
 unfold z4 at aT;rw[<-hm] at aT;obtain⟨y,aJ,eL⟩:=bI ar;by_cases h:m<a.l.length
 ·obtain⟨z,ax,AZ⟩:=bI h;have s1:=gi aJ;have ahQ:=gi ax;rw[s1,ahQ] at aT;have h' : (m:Int)<(a.l.length:Int) :=by omega
  have D1:a.l[m]=z:=(auk.1 ax).2;simp[gF,aB,aP,bw,h,h',aJ,D1,c2 (aC y eL),c2 (aC z AZ),aul];refine a4 (vN y z (aC y eL) (aC z AZ)) (by simp[a5,fE,U.closed,gF]) ?_;have:=aT (r++[aV.cells x.length (List.map bA x)]);simpa [h,aB] using this
 ·have h' : ¬ (m:Int)<(a.l.length:Int) :=by omega
  simp[gF,aB,aP,bw,h,h'];have:=aT (r++[aV.cells x.length (List.map bA x)]);simpa [h,aB] using this
theorem acZ:jH Tryz.prog 187=true:=by kernel_rfl
theorem alx (a:dv) (aC:eQ a) (al:a.l.length<=1000000) {K:U->ao->Prop} (aT:∀ n cB,(n<0<->di a.l=true)->K (.int .i64 n) cB) :
  c0 Tryz.prog GS 101 [aB a,.fn 187 [] [.ptr 1 0 1,.ptr 0 0 1]] [.cells 1 [aB a],.cells 1 [.int .i64 0]] (c:=⟨K⟩) :=by
 apply bq Tryz.func101 [];simp[aB];refine cl a.l.length (fun k σ l=>σ 0=cE 32 aY a/\σ 1=.fn 187 [] [.ptr 1 0 1,.ptr 0 0 1]/\σ 7=.int .i64 a.l.length/\σ 8=.int .i64 k/\(∃ r,l=.cells 1 [aB a] ::.cells 1 [.int .i64 (k:Int)] ::r)/\∀ j,j<k->z4 a.l j=false) ?_ ⟨by simp[aB],by simp,by simp,by simp,⟨[],by simp[aB]⟩,fun j h=>by omega⟩;rintro k σ l ar ⟨cb,aK,dU,e4,⟨r,rfl⟩,ak⟩;obtain⟨s,rfl⟩:=iE cb aK dU e4;clear cb aK dU e4;simp;refine pm (fun h=>?_) (fun h=>?_)
 ·simp only[decide_eq_true_eq] at h;obtain⟨x,af,cT⟩:=bI (l:=a.l) (k:=k) (by omega);have aP:IntKind.i64.wrap ((k:Int)+1)=((k+1:Nat) :Int) :=by rw[IntKind.wrap_i64]; omega
  simp[af,c2 (aC x cT),aul];refine⟨acZ,alv a aC al k (by omega) x (aC x cT) r fun cB=>?_⟩;cases bf:z4 a.l k with
  | true=>
   simp;refine aT _ _ ⟨fun aD=>by omega,fun az=>?_⟩;have:=XU.1 az k (by omega);rw[bf] at this; cases this
  | false=>
   simp[aP];refine⟨by omega,fun j ai=>?_⟩;by_cases gR:j=k
   ·subst gR; exact bf
   ·exact ak j (by omega)
 ·simp[h];refine aT _ _ ⟨fun _=>XU.2 fun j ai=>ak j (by simp at h; omega),fun _=>by omega⟩
theorem alw (a:dv) (aC:eQ a) (al:a.l.length<=1000000) {K:U->ao->Prop} (aT:∀ cB,K (.bool (!di a.l)) cB) :
  c0 Tryz.prog GS 97 [aB a,.fn 187 [] [.ptr 1 0 1,.ptr 0 0 1]] [.cells 1 [aB a],.cells 1 [.int .i64 0]] (c:=⟨K⟩) :=by
 apply bq Tryz.func97 [];simp;refine alx a aC al fun n cB aD=>?_
 have e:decide (0<=n)=!di a.l:=by
  cases az:di a.l with
  | true=>have:=aD.2 az; simp; omega
  | false=>
   have:¬ n<0:=fun h=>by have:=aD.1 h; rw[az] at this; cases this
   simp; omega
 simp[e];exact aT cB
theorem aly (a:dv) (aC:eQ a) (al:a.l.length<=1000000) :bz Tryz.prog GS 152 [aB a] (.bool (di a.l)) :=by
 refine bX Tryz.checked.mixed bn ?_;apply bq Tryz.func152 [];have ah:(aB a).cells=some [aB a] :=by cases a<;>rfl
 simp[ah];refine alw a aC al fun cB=>?_
 simp;exact aQ rfl rfl
def rR (l:List (List B)) :List B:=eH l.length++l.flatten
theorem RQ:∀ (x:List B),me 1 x.length (x.map bA)=x.map ca
 | []=>rfl
 | b::r=>by
  show ((bA b::r.map bA).take 1) ::me 1 r.length ((bA b::r.map bA).drop 1)=_;simp[RQ r,ca]
theorem abs {x:List B} (h:x.length=32) :me 1 32 (aY x)=x.map ca:=by
 have:=RQ x;rw[h] at this;exact this
theorem Ms {l:List (List B)} (h:∀ x∈l,x.length=32) :l.flatten.length=l.length*32:=o6 h
theorem YR {l:List (List B)} {k:Nat} {x:List B} (h:l[k]? = some x) :(l.take (k+1)).flatten=(l.take k).flatten++x:=by
 rw[auP,h]; simp
theorem al8 {x:List B} (h:x.length=32) :fl (.arr 32 1) (.bM (aY x) 0) none none none=some (.aZ 1 (x.map ca)) :=by
 have:=abs h;have ag:gO 32 32 none none none=some (0,32,32) :=rfl;unfold fl;simp only[ag];simp[c2 h,this]
structure Z1 (l:ao) (s:dv) (k:Nat) (σ:bc) (l1:ao) :Prop where
 cb:σ 0=cE 32 aY s
 bl:σ 4=.int .i64 k
 s9:∃ v,σ 3=v/\cI 1 ca l l1 v (eH s.l.length++(s.l.take k).flatten) false
theorem akM (s:dv) (au:eQ s) (ak:s.l.length<=1000) {l:ao} {K:U->ao->Prop} (aT:∀ v l',cI 1 ca l l' v (rR s.l) false->K v l') :
  c0 Tryz.prog GS 224 [aB s] l (c:=⟨K⟩) :=by
 apply bq Tryz.func224 [];have az:cw=140737488355328:=rfl;have aD:(BitVec.ofNat 64 s.l.length).toNat=s.l.length:=by rw[auK]; exact aux (by omega)
 have kR:=iD s.l.length;simp[aB];refine wY _ fun v l' h=>?_
 rw[aD] at h;simp;refine cl s.l.length (Z1 l s) ?_ ⟨by simp[aB],by simp,v,by simp,by simpa using h⟩;rintro k σ l1 ar ⟨cb,bl,v,a1,eV⟩;obtain⟨σ,rfl⟩:=lB cb a1 bl;clear cb a1 bl;simp;refine pm (fun h=>?_) (fun h=>?_)
 ·simp only[decide_eq_true_eq] at h;obtain⟨x,af,cT⟩:=bI (l:=s.l) (k:=k) (by omega);have aP:IntKind.i64.wrap ((k:Int)+1)=((k+1:Nat) :Int) :=by rw[IntKind.wrap_i64]; omega
  have hp:((s.l.take k).flatten).length<=32000:=by
   rw[Ms (fun y aJ=>au y (auG aJ)),auA]; omega
  obtain⟨a6,bj,a2,a9,_⟩:=eV.app (by_:=1) (x:=.aZ 1 (x.map ca)) (xs:=x) (by simp[dD]) (by simp[ca]) (by omega) (by omega) (by rw[az,au x cT]; simp only[auu]; omega);simp[af,c2 (au x cT),aul,al8 (au x cT),a2];refine c7.cd ?_;simp[aP];exact⟨by omega,by simp,by simp,a6,by simp,by rw[YR af,<-au3]; exact a9⟩
 ·simp[h];have aW:s.l.take k=s.l:=aul (by simp at h; omega);rw[aW] at eV;exact aT _ _ eV
structure Z2 (l:ao) (s:dv) (k:Nat) (σ:bc) (l1:ao) :Prop where
 p4:σ 17=cE 32 aY s
 nD:σ 18=.int .i64 s.l.length
 p5:σ 19=.int .i64 k
 s9:∃ v,σ 4=v/\cI 1 ca l l1 v (eH s.l.length++(s.l.take k).flatten) false
theorem anA (s:dv) (au:eQ s) (ak:s.l.length<=60) (az:di s.l=true) {l:ao} {K:U->ao->Prop} (aT:∀ v l',cI 1 ca l l' v (rR s.l) false->K (.bt [v,.int .i64 0]) l') :
  c0 Tryz.prog GS 109 [aB s] l (c:=⟨K⟩) :=by
 apply bq Tryz.func109 [];have wk:cw=140737488355328:=rfl;have aD:(BitVec.ofNat 64 s.l.length).toNat=s.l.length:=by rw[auK]; exact aux (by omega)
 have kR:=iD s.l.length;have o9:¬ (60:Int)<(s.l.length:Int) :=by omega
 simp[aB,o9];refine a4 (aly s au (by omega)) (by have:=dd s; simp[a5]; exact this) ?_;simp[az,aB];refine zq _ fun v l' h=>?_
 rw[aD] at h;simp[aB];refine cl s.l.length (Z2 l s) ?_ ⟨by simp[aB],by simp,by simp,v,by simp,by simpa using h⟩;rintro k σ l1 ar ⟨p4,nD,p5,v,bl,eV⟩;obtain⟨σ,rfl⟩:=iE p4 nD p5 bl;clear p4 nD p5 bl;simp;refine pm (fun h=>?_) (fun h=>?_)
 ·simp only[decide_eq_true_eq] at h;obtain⟨x,af,cT⟩:=bI (l:=s.l) (k:=k) (by omega);have aP:IntKind.i64.wrap ((k:Int)+1)=((k+1:Nat) :Int) :=by rw[IntKind.wrap_i64]; omega
  have hp:((s.l.take k).flatten).length<=32000:=by
   rw[Ms (fun y aJ=>au y (auG aJ)),auA]; omega
  obtain⟨a6,bj,a2,a9,_⟩:=(eV.more [.cells 32 (aY x)]).app (by_:=1) (x:=.aq 1 l1.length 0 32 32 32) (xs:=x) (by simp[dD,au x cT,c2 (au x cT),aul,aY,Cz]) (by simp[ca]) (by omega) (by omega) (by rw[wk,au x cT]; simp only[auu]; omega);have rF:a8 (rep 32 (.int .u8 0)) 0 (aY x)=aY x:=gq (by rw[c2 (au x cT)]; rfl);simp[af,c2 (au x cT),aul,Oe,rF,a2];refine c7.cd ?_;simp[aP];exact⟨by omega,by simp,by simp,by simp,a6,by simp,by rw[YR af,<-au3]; exact a9⟩
 ·simp[h];have aW:s.l.take k=s.l:=aul (by simp at h; omega);rw[aW] at eV;exact aT _ _ eV
def fr (s:List UInt8) :List B:=s.map fun b=>b.toBitVec
theorem IY (s:List UInt8) :(s.map fun b=>[jD b])=(fr s).map ca:=by
 unfold fr;rw[av9];rfl
theorem qJ (s:List UInt8) :(fr s).length=s.length:=by simp[fr]
def o1 (b:Q) (k:Nat) :List B:=(List.range k).map fun i=>md b.toNat (7 - i)
def jy (v:i0) :List B:=v.kind::(if v.kind=1#8 then eH (nj v.num).toNat else if v.kind=2#8 then o1 v.bits 8 else jw (fr v.text))
def Nj (v:i0) :Prop:=-9223372036854775808<=v.num/\v.num<9223372036854775808/\v.text.length<=10000
theorem PP (b:Q) (k:Nat) :o1 b (k+1)=o1 b k++[md b.toNat (7 - k)] :=by
 unfold o1; rw[awk,auH]; rfl
theorem WB (l:ao) (c:aV) (x:B) :cI 1 ca l (l++[c,.cells 1 [bA x]]) (.aq 1 (l.length+1) 0 1 1 1) [x] false:=by
 exact⟨l.length+1,rZ (n:=1) (a:=[x]) rfl (by simp),by simp,fun b ag=>aum ag,.inr (by omega),rfl⟩
theorem uY (l:ao) (c:aV) (x:B) :cI 1 ca (l++[c]) (l++[c,.cells 1 [bA x]]) (.aq 1 (l.length+1) 0 1 1 1) [x] false:=by
 have e:l++[c,.cells 1 [bA x]]=(l++[c])++[.cells 1 [bA x]] :=by simp
 exact⟨l.length+1,rZ (n:=1) (a:=[x]) rfl (by simp),by simp,fun b ag=>by rw[e]; exact aum ag,.inr (by simp),rfl⟩
structure ZR (l:ao) (v:i0) (p:Nat) (k:Nat) (σ:bc) (l1:ao) :Prop where
 aK:σ 1=.ptr p 0 4
 bl:σ 4=.int .i64 (7 - (k:Int))
 s9:∃ w,σ 3=w/\cI 1 ca (l++[.cells 4 (fi v)]) l1 w (v.kind::o1 v.bits k) false
theorem ak5 (v:i0) (ap:Nj v) {l:ao} {K:U->ao->Prop} (aT:∀ w l',cI 1 ca l l' w (jy v) false->K w l') :
  c0 Tryz.prog GS 226 [.aF (fi v)] l (c:=⟨K⟩) :=by
 apply bq Tryz.func226 [];have az:cw=140737488355328:=rfl;have aI:=WB l (.cells 4 (fi v)) v.kind;obtain⟨sL,rx,aW⟩:=ap;have ah:vV (.str v.text)=some (.aZ 1 ((fr v.text).map ca)) :=by
  show some (U.aZ 1 (v.text.map fun b=>[jD b]))=_;rw[IY]
 by_cases b3:v.kind=1#8
 ·have nN:jy v=[v.kind]++eH (nj v.num).toNat:=by unfold jy; rw[if_pos b3]; rfl
  have aP:(u v.kind:Int)=1:=(iW v.kind).2 b3;simp only[bA,aP] at aI;have kR:=iD (nj v.num).toNat
  simp[fi,aP];refine akZ v.num sL rx fun w l' h=>?_
  obtain⟨a6,bj,a2,a9,_⟩:=(aI.frame h.le h.same).app (by_:=1) (x:=w) (xs:=eH (nj v.num).toNat) h.contents (by simp[ca]) (by omega) (by omega) (by rw[az]; simp only[auF,au1]; omega);simp[a2];refine c7.cd ?_;simp;exact aT _ _ (by rw[nN]; exact a9)
 ·have aP:¬ (u v.kind:Int)=1:=fun h=>b3 ((iW v.kind).1 h)
  by_cases b9:v.kind=2#8
  ·have bw:(u v.kind:Int)=2:=(ma v.kind).2 b9;have nN:jy v=v.kind::o1 v.bits 8:=by unfold jy; rw[if_neg b3,if_pos b9]
   have ae:=uY l (.cells 4 (fi v)) v.kind;simp only[bA,bw] at ae;simp[fi,bw];refine cl 8 (ZR l v l.length) ?_ ⟨by simp,by simp,_,by simp,ae⟩;rintro k σ l1 ar ⟨aK,bl,w,a1,eV⟩;have av:l1[l.length]? = some (.cells 4 (fi v)) :=by rw[eV.same l.length (by simp)]; simp
   obtain⟨σ,rfl⟩:=lB aK a1 bl;clear aK a1 bl;by_cases iz:k=8
   ·subst iz;rw[<-nN] at eV;simp;exact aT _ _ (eV.base (by simp) fun b ag=>aum ag)
   ·obtain⟨m,hm⟩:∃ m,m+k=7:=⟨7 - k,by omega⟩
    have em:7 - (k:Int)=(m:Int) :=by omega
    have Kh:IntKind.i64.wrap ((m:Int) - 1)=(m:Int) - 1:=by rw[IntKind.wrap_i64]; omega
    have acn:IntKind.i64.wrap (8*(m:Int))=((8*m:Nat) :Int) :=by rw[IntKind.wrap_i64]; omega
    have qP:ct .shr .u64 (u v.bits) .i64 ((8*m:Nat) :Int)=some (.int .u64 (u (v.bits >>> (8*m)))) :=vD v.bits .i64 (8*m);have sb:=FP v.bits m;have bC:(v.kind::o1 v.bits k).length<=1000000000:=by simp[o1]; omega
    obtain⟨w',l',a2,a9⟩:=cI.push eV (md v.bits.toNat m) bC;rw[em];simp[fi] at av;simp[av,acn,qP,sb,a2,-Int.natCast_mul];refine c7.cd ?_;simp[Kh];exact⟨by omega,by simp,by simp; omega,w',by simp,by rw[PP,show 7 - k=m by omega]; exact a9⟩
  ·have bw:¬ (u v.kind:Int)=2:=fun h=>b9 ((ma v.kind).1 h)
   have nN:jy v=[v.kind]++jw (fr v.text) :=by unfold jy; rw[if_neg b3,if_neg b9]; rfl
   have lY:(jw (fr v.text)).length<=20000:=by
    have:=iD (fr v.text).length;unfold jw;rw[auu];have:=qJ v.text;omega
   simp[fi,aP,bw,ah];refine Xx (some (fr v.text)) (by simpa [qJ] using aW) (by simp[dD]) (by simp) (fun l' _ _=>by simp[dD]) fun w l' h=>?_
   obtain⟨a6,bj,a2,a9,_⟩:=(aI.frame h.le h.same).app (by_:=1) (x:=w) (xs:=jw (fr v.text)) h.contents (by simp[ca]) (by omega) (by omega) (by rw[az]; simp only[auF,au1]; omega);simp[a2];refine c7.cd ?_;simp;exact aT _ _ (by rw[nN]; exact a9)
structure ZS (l:ao) (v:i0) (p:Nat) (k:Nat) (σ:bc) (l1:ao) :Prop where
 aK:σ 1=.ptr p 0 4
 cu:σ 6=.int .i64 (8*(7 - (k:Int)))
 s9:∃ w,σ 5=w/\cI 1 ca (l++[.cells 4 (fi v)]) l1 w (v.kind::o1 v.bits k) false
theorem aic {v:i0} (h:k6 v=true) (b3:¬ v.kind=1#8) (b9:¬ v.kind=2#8) :v.kind=3#8:=by
 unfold k6 at h;simp[b3,b9] at h;exact h.1
theorem anE (v:i0) (ap:Nj v) (c4:k6 v=true) {l:ao} {K:U->ao->Prop} (aT:∀ w l',cI 1 ca l l' w (jy v) false->K (.bt [w,.int .i64 0]) l') :
  c0 Tryz.prog GS 113 [.aF (fi v)] l (c:=⟨K⟩) :=by
 apply bq Tryz.func113 [];have az:cw=140737488355328:=rfl;have aI:=WB l (.cells 4 (fi v)) v.kind;obtain⟨sL,rx,aW⟩:=ap;have ah:vV (.str v.text)=some (.aZ 1 ((fr v.text).map ca)) :=by
  show some (U.aZ 1 (v.text.map fun b=>[jD b]))=_;rw[IY]
 have ei:=Zb v;rw[c4] at ei;by_cases b3:v.kind=1#8
 ·have nN:jy v=[v.kind]++eH (nj v.num).toNat:=by unfold jy; rw[if_pos b3]; rfl
  have aP:(u v.kind:Int)=1:=(iW v.kind).2 b3;simp only[bA,aP] at aI;have kR:=iD (nj v.num).toNat
  simp[fi];refine a4 ei rfl ?_;simp[mU,aP];refine anD v.num sL rx fun w l' h=>?_
  obtain⟨a6,bj,a2,a9,_⟩:=(aI.frame h.le h.same).app (by_:=1) (x:=w) (xs:=eH (nj v.num).toNat) h.contents (by simp[ca]) (by omega) (by omega) (by rw[az]; simp only[auF,au1]; omega);simp[a2];refine c7.cd ?_;simp;exact aT _ _ (by rw[nN]; exact a9)
 ·have aP:¬ (u v.kind:Int)=1:=fun h=>b3 ((iW v.kind).1 h)
  by_cases b9:v.kind=2#8
  ·have bw:(u v.kind:Int)=2:=(ma v.kind).2 b9;have nN:jy v=v.kind::o1 v.bits 8:=by unfold jy; rw[if_neg b3,if_pos b9]
   have ae:=uY l (.cells 4 (fi v)) v.kind;simp only[bA,bw] at ae;simp[fi];refine a4 ei rfl ?_;simp[mU,bw];refine cl 8 (ZS l v l.length) ?_ ⟨by simp,by simp,_,by simp,ae⟩;rintro k σ l1 ar ⟨aK,cu,w,bo,eV⟩;have av:l1[l.length]? = some (.cells 4 (fi v)) :=by rw[eV.same l.length (by simp)]; simp
   obtain⟨σ,rfl⟩:=lB aK bo cu;clear aK bo cu;by_cases iz:k=8
   ·subst iz;rw[<-nN] at eV;simp;exact aT _ _ (eV.base (by simp) fun b ag=>aum ag)
   ·obtain⟨m,hm⟩:∃ m,m+k=7:=⟨7 - k,by omega⟩
    obtain⟨n,aD⟩:∃ n,n=8*m:=⟨_,rfl⟩
    have em:8*(7 - (k:Int))=(n:Int) :=by omega
    have Kh:IntKind.i64.wrap ((n:Int) - 8)=(n:Int) - 8:=by rw[IntKind.wrap_i64]; omega
    have qP:ct .shr .u64 (u v.bits) .i64 (n:Int)=some (.int .u64 (u (v.bits >>> n))) :=vD v.bits .i64 n;have sb:=FP v.bits m;rw[<-aD] at sb;have bC:(v.kind::o1 v.bits k).length<=1000000000:=by simp[o1]; omega
    obtain⟨w',l',a2,a9⟩:=cI.push eV (md v.bits.toNat m) bC;rw[em];simp[fi] at av;simp[av,qP,sb,a2];refine c7.cd ?_;simp[Kh];exact⟨by omega,by simp,by simp; omega,w',by simp,by rw[PP,show 7 - k=m by omega]; exact a9⟩
  ·have bw:¬ (u v.kind:Int)=2:=fun h=>b9 ((ma v.kind).1 h)
   have e3:(u v.kind:Int)=3:=(pF v.kind).2 (aic c4 b3 b9);have nN:jy v=[v.kind]++jw (fr v.text) :=by unfold jy; rw[if_neg b3,if_neg b9]; rfl
   have lY:(jw (fr v.text)).length<=20000:=by
    have:=iD (fr v.text).length;unfold jw;rw[auu];have:=qJ v.text;omega
   simp only[bA,e3] at aI;simp[fi];refine a4 ei rfl ?_;simp[mU,e3,ah];refine Zj (some (fr v.text)) (by simpa [qJ] using aW) (by simp[dD]) (by simp) (fun l' _ _=>by simp[dD]) fun w l' h=>?_
   obtain⟨a6,bj,a2,a9,_⟩:=(aI.frame h.le h.same).app (by_:=1) (x:=w) (xs:=jw (fr v.text)) h.contents (by simp[ca]) (by omega) (by omega) (by rw[az]; simp only[auF,au1]; omega);simp[a2];refine c7.cd ?_;simp;exact aT _ _ (by rw[nN]; exact a9)
structure br where
 hn:D
 bi:dv
 ir:Q
 act:Act
 e:D
 s:D
def a3 (o:br) :List U:=[bu o.hn,aB o.bi,dS o.ir,bA o.act.kind,.str o.act.key,bA o.act.val.kind,.int .i64 o.act.val.num,dS o.act.val.bits,.str o.act.val.text,bu o.e,bu o.s]
structure iY (o:br) :Prop where
 ids:eQ o.bi
 len:o.bi.l.length<=1000000
 val:Nj o.act.val
 key:o.act.key.length<=10000
def ub (o:br) :Bool:=gG o.hn&&(decide (o.ir.toNat<=1000000000000)&&(k8 o.act&&(jF o.e&&jF o.s)))
def hw (o:br) :Int:=if 4<o.bi.l.length then 4 else if di o.bi.l then (if ub o then 0 else 8) else 32
theorem kM (o:br) :a5 (a3 o)=true:=by
 have:=dd o.bi;simp[a3,a5,U.closed,this]
theorem akP (o:br) (au:iY o) :bz Tryz.prog GS 169 [.aF (a3 o)] (.int .i64 (hw o)) :=by
 refine bX Tryz.checked.mixed bn ?_;apply bq Tryz.func169 [];unfold hw;have ea:=dd o.bi;have bC:ce (.aq 32) (aB o.bi)=some (.int .i64 o.bi.l.length) :=by simp[aB]
 have lO:(aB o.bi).cells=some [aB o.bi] :=by cases o.bi<;>rfl
 obtain⟨p,av⟩:∃ p,p=aB o.bi:=⟨_,rfl⟩
 by_cases ad:4<o.bi.l.length
 ·have ef:(4:Int)<(o.bi.l.length:Int) :=by omega
  rw[if_pos ad];simp[a3,bC,ef];exact aQ rfl rfl
 ·have ef:¬ (4:Int)<(o.bi.l.length:Int) :=by omega
  rw[if_neg ad];simp[a3,bC,ef];refine a4 (Xv o.bi au.ids au.len) (by simp[a5,ea]) ?_;cases ae:di o.bi.l with
  | false=>
   simp;exact aQ rfl rfl
  | true=>
   simp;refine a4 (XH o.hn) rfl ?_;unfold ub;cases aj:gG o.hn with
   | false=>
    simp;exact aQ rfl rfl
   | true=>
    have b5:((1000000000000:Int)<u o.ir)<->¬ o.ir.toNat<=1000000000000:=by unfold u; omega
    by_cases aG:o.ir.toNat<=1000000000000
    ·have v1:¬ ((1000000000000:Int)<u o.ir) :=fun h=>b5.1 h aG
     simp[aG,v1];refine a4 (alh o.act) rfl ?_;cases bh:k8 o.act with
     | false=>
      simp[mU];exact aQ rfl rfl
     | true=>
      simp[mU];refine a4 (Ga o.e) rfl ?_;cases bF:jF o.e with
      | false=>
       simp;exact aQ rfl rfl
      | true=>
       simp;refine a4 (Ga o.s) rfl ?_;cases dz:jF o.s with
       | false=>
        simp;exact aQ rfl rfl
       | true=>
        simp;exact aQ (by rw[if_pos aG]) rfl
    ·have v1:(1000000000000:Int)<u o.ir:=b5.2 aG;simp[aG,v1];exact aQ rfl rfl
end Op

end Go.b0

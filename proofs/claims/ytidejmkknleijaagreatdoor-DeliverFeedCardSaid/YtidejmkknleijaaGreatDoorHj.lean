/-
  The predecessors that a store lacks: the function that a loop ranges over, walked to its end or to the first one.
-/
import Derived.Test.YtidejmkknleijaaGreatDoorHi
import Derived.Shelf.Abstract
set_option linter.unusedVariables false
set_option linter.unusedSimpArgs false
set_option linter.unnecessarySimpa false
namespace Go.bV
open Go Go.Proofs Go.RowKit
set_option maxRecDepth 100000
namespace Op
open hp
theorem GG {σ:bc} {N:Nat} {W:World} {R:Nat->Prop} {h:aO} {μ:cr} {a:Go.Act} (s:iP N W R h μ σ a) {t:Nat} {b:Bool} (aX:σ t=.bool b) :a.tmps.getD t undef=.bool b:=by
 have:=s.val t; rw[aX] at this; generalize a.tmps.getD t undef=v at this ⊢; cases this; rfl
theorem aqB {σ:bc} {N:Nat} {W:World} {R:Nat->Prop} {h:aO} {μ:cr} {a:Go.Act} (s:iP N W R h μ σ a) {t l:Nat} (aX:σ t=.hE l) :a.tmps.getD t undef=.func (.yield l) #[] #[] :=by
 have:=s.val t; rw[aX] at this; generalize a.tmps.getD t undef=v at this ⊢; cases this; rfl
theorem PW (E:List U) (ps:dk) (S:List U) (eT k:Nat) :m2 E ps S eT k 0=.hE eT:=by simp[m2]
theorem PX (E:List U) (ps:dk) (S:List U) (eT k:Nat) :m2 E ps S eT k 1=.bM (E) 0:=by simp[m2]
theorem PY (E:List U) (ps:dk) (S:List U) (eT k:Nat) :m2 E ps S eT k 2=.bM S 0:=by simp[m2]
theorem PZ (E:List U) (ps:dk) (S:List U) (eT k:Nat) :m2 E ps S eT k 7=aA ps:=by simp[m2]
theorem Km (E:List U) (ps:dk) (S:List U) (eT k:Nat) :m2 E ps S eT k 8=.int .i64 ps.l.length:=by simp[m2]
theorem Kn (E:List U) (ps:dk) (S:List U) (eT k:Nat) :m2 E ps S eT k 9=.int .i64 k:=by simp[m2]
set_option maxHeartbeats 2000000 in
theorem ak0 (E:List U) (ps:dk) (Ev:a4 E=true) (r6:E.length=11) (pK:∀ h:1<E.length,E[1]'h=aA ps) (iw:ds ps) (fv:ps.l.length<=1000000) (ord:dk) (lk:ds ord) (dP:ord.l.length<=1000000) (cap a3:Int) (parts dF:U) (au:parts.closed=true) (aT:dF.closed=true) {n eT:Nat} {cH:World} {A:Nat->Prop} {iA i0:Value}
  (ad:eh cH A (.bM (E) 0) iA) (ae:eh cH A (.bM (Bd cap a3 parts dF ord) 0) i0) (ax:∀ g,eh cH A (GS g) (.pointer (some ⟨g,0,none⟩)))
  {Z:World->World->Prop} {m:Nat} (he:∀ (x:Value) (W:World),gb cH W->YieldAt Fence.wide m Tryz.prog eT #[x] W fun e eV=>e=.returned (.bool false)/\Z W eV)
  (af3:∀ W eV,gb cH W->Z W eV->∃ A,∀ g,eh eV A (GS g) (.pointer (some ⟨g,0,none⟩))) :
  CallsIn Fence.wide n Tryz.prog 163 (#[.func (.yield eT) #[] #[]]++#[iA,i0]) cH fun e dU=>(∃ v,e=.returned v) ∧
   (((∀ x∈ps.l,x∈ord.l)/\gb cH dU)\/((¬ ∀ x∈ps.l,x∈ord.l)/\∃ W eV,gb cH W/\Z W eV/\gb eV dU)) :=by
 obtain⟨AI,rO,rP,kb,ta,sI,M⟩:=X4;obtain⟨S,g5⟩:∃ S,S=Bd cap a3 parts dF ord:=⟨_,rfl⟩
 have In:a4 S=true:=by rw[g5]; exact Ty au aT
 have vc:S.length=5:=by rw[g5]; rfl
 have la:S[4]? = some (aA ord) :=by rw[g5]; rfl
 have Vd:∀ h:4<S.length,S[4]'h=aA ord:=fun h=>(awQ.1 la).2
 rw[<-g5] at ae;have fO:Tryz.prog.follows .mixedOrders=true:=Tryz.checked.mixed;have vp:cp (.aq 32) (aA ps)=some (.int .i64 ps.l.length) :=by simp[aA]
 refine callsIn_of_wp (fn:=Tryz.f163) Tryz.func163 M.body trivial ?_ rfl;obtain⟨m7,y8⟩:∃ m7,m7=bodyPost Tryz.prog Tryz.f163 (fun e dU=>(∃ v,e=Ending.returned v) ∧
   (((∀ x∈ps.l,x∈ord.l)/\gb cH dU)\/((¬ ∀ x∈ps.l,x∈ord.l)/\∃ W eV,gb cH W/\Z W eV/\gb eV dU))) :=⟨_,rfl⟩
 rw[<-y8];have vz:∀ (a:Go.Act) (W:World),(results Tryz.f163 a.tmps).run Tryz.prog W=.ok (.tuple #[]) W:=fun a W=>results_none rfl _ _ _
 -- the start
 have IX:Tryz.f163.ntmps=25:=by kernel_rfl
 obtain⟨wo,Bx⟩:∃ wo:Array Value,wo=#[.func (.yield eT) #[] #[]]++#[iA,i0]++Array.replicate (Tryz.f163.ntmps - (#[.func (.yield eT) #[] #[]]++#[iA,i0] :Array Value).size) undef:=⟨_,rfl⟩
 rw[<-Bx];rw[IX] at Bx;have afZ:wo.size=25:=by rw[Bx]; simp
 have El:wo=#[.func (.yield eT) #[] #[],iA,i0]++Array.replicate 22 undef:=by rw[Bx]; rfl
 have up:∀ {c:U} {v:Value},eh cH A c v->aQ cH (fun k=>A k\/cH.heap.size<=k) aO.empty (fun _=>none) c v:=fun ah=>ah.up (fun k _ ar=>⟨.inl ar,rm _ k⟩)
 have MO:wo.getD 0 undef=.func (.yield eT) #[] #[] :=by rw[El,axj]; simp
 have Iy:wo.getD (0+1) undef=iA:=by rw[El,axj]; simp
 have agY:wo.getD (0+1+1) undef=i0:=by rw[El,axj]; simp
 have agZ:∀ t,wo.getD (t+1+1+1) undef=undef:=fun t=>by
  rw[El,axj,ayg (by simp),aza];split<;>rfl
 obtain⟨QL,asB⟩:∃ QL,QL=U.bM (E) 0:=⟨_,rfl⟩
 obtain⟨QM,asC⟩:∃ QM,QM=U.bM S 0:=⟨_,rfl⟩
 have af4:l8 [.hE eT,.bM (E) 0,.bM S 0] 0=.hE eT:=by simp[l8]
 have En:l8 [.hE eT,.bM (E) 0,.bM S 0] (0+1)=.bM (E) 0:=by simp[l8]
 have Mw:l8 [.hE eT,.bM (E) 0,.bM S 0] (0+1+1)=.bM S 0:=by simp[l8]
 have Mx:∀ t,l8 [.hE eT,.bM (E) 0,.bM S 0] (t+1+1+1)=gU:=fun t=>by simp[l8,List.getD]
 clear Bx El IX;refine wpIn_seq (uU (σ:=l8 [.hE eT,.bM (E) 0,.bM S 0]) (l:=[]) (K:=fun e σ l=>e=.normal/\σ 0=.hE eT/\σ 1=.bM (E) 0/\σ 2=.bM S 0/\σ 7=aA ps/\σ 8=.int .i64 ps.l.length/\σ 9=.int .i64 (0:Nat))
  fO bj M.rY ?_ (CI cH (fun k=>A k\/cH.heap.size<=k) fun k ar=>.inr ar) (fun g=>⟨bj g,up (ax g)⟩) ⟨afZ,rfl,fun t=>?_⟩ ?_)
 ·simp[l8,r6,pK,vp]
 ·rcases t with _ | _ | _ | t
  ·rw[MO,af4]; exact .hE _
  ·rw[Iy,En]; exact up ad
  ·rw[agY,Mw]; exact up ae
  ·rw[agZ t,Mx t]; exact Gz
 rintro e a0 rT uy QK fw ⟨rfl,hz,bZ,ce,vM,Cf,xE⟩ pE oB s0;have ck:m5 GS cH (fun k=>A k\/cH.heap.size<=k) aO.empty (fun _=>none) :=fun g=>⟨bj g,up (ax g)⟩
 have abU:uC E ps S eT cH 0 a0 rT:=uC.mk' Ev In (acR cH) pE (ck.ext pE) s0 hz bZ ce vM Cf xE;clear hz bZ ce vM Cf xE s0 oB pE ck;show (Code.block 0 (.loop (C8 rO rP kb ta))).wpIn Fence.wide n Tryz.prog m7 a0 rT;refine wpIn_block (wpIn_loop (fun a W=>∃ k,k<=ps.l.length/\uC E ps S eT cH k a W/\∀ x∈ps.l.take k,x∈ord.l) (fun a _=>match a.tmps.getD 9 undef with | .int _ k=>ps.l.length - k.toNat | _=>0) ⟨0,by omega,abU,by simp⟩ ?_);rintro a W ⟨k,ar,H,dE⟩;obtain⟨R,rel,y3,Gt⟩:=H.Gt;by_cases bD:k<ps.l.length
 ·obtain⟨x,ag,c3⟩:=bJ (l:=ps.l) (k:=k) bD;have WW:=iw x c3;have bp:=dq WW;have aS:IntKind.i64.wrap ((k:Int)+1)=((k+1:Nat) :Int) :=by rw[IntKind.wrap_i64]; omega
  have bT:cN (.aq 32) (aA ps) (.int .i64 (k:Int))=some (.bM (a5 x) 0) :=by simp[aA,ag]
  have c7:=KG ord lk dP x WW;have Ey:=dd ord;have n9:=g2 x;have bE:ps.l.take (k+1)=ps.l.take k++[x] :=by rw[axe,ag]; rfl
  obtain⟨X,cW⟩:∃ X,X=a5 x:=⟨_,rfl⟩
  rw[<-cW] at bp bT c7 n9;have iU:bf (rep 32 (.int .u8 0)) 0 X=X:=gw (by rw[bp]; rfl);by_cases iv:x∈ord.l
  ·rw[decide_eq_true iv] at c7;refine uU (σ:=m2 E ps S eT k) (l:=[]) (K:=fun e σ l=>e=.normal/\σ 0=.hE eT/\σ 1=.bM (E) 0/\σ 2=.bM S 0/\σ 7=aA ps/\σ 8=.int .i64 ps.l.length/\σ 9=.int .i64 ((k+1:Nat) :Int)) fO bj M.Tj ?_ rel y3 Gt ?_
   ·unfold OI;simp[PW,PX,PY,PZ,Km,Kn,bD,bT,bp,iU,vc,Vd,awR];refine a7 c7 (by simp[a4,U.closed,Ey,n9]) ?_;simp[PW,PX,PY,PZ,Km,Kn,aS]
   ·rintro e bh dU pv AF br ⟨rfl,hz,bZ,ce,vM,Cf,xE⟩ pF sQ iC;have QR:uC E ps S eT cH (k+1) bh dU:=uC.mk' Ev In H.oT pF (y3.ext pF) iC hz bZ ce vM Cf xE;refine⟨⟨k+1,by omega,QR,fun y aI=>?_⟩,?_⟩
    ·rw[bE,axN,axQ] at aI;exact aI.elim (dE y) fun e=>by rw[e]; exact iv
    ·show (match bh.tmps.getD 9 undef with | .int _ k=>ps.l.length - k.toNat | _=>0)<(match a.tmps.getD 9 undef with | .int _ k=>ps.l.length - k.toNat | _=>0)
     rw[QR.t9,H.t9];simp only[axq];omega
  ·rw[decide_eq_false iv] at c7;have cR:¬ ∀ y∈ps.l,y∈ord.l:=fun h=>iv (h x c3)
   suffices ak:(C8 rO rP kb ta).wpIn Fence.wide n Tryz.prog (fun e a W=>e=.ret/\m7 .ret a W) a W from wpIn_mono ak fun e a w ⟨am,h⟩=>by subst am; exact h
   unfold C8;refine wpIn_seq (uU (σ:=m2 E ps S eT k) (l:=[]) (K:=fun e σ l=>e=.normal/\l=[]/\σ 0=.hE eT/\σ 2=.bM S 0/\σ 7=aA ps/\σ 9=.int .i64 k/\σ 10=.bool true) fO bj M.bS ?_ rel y3 Gt ?_)
   ·simp[PW,PX,PY,PZ,Km,Kn,bD]
   rintro e a8 dU ha il l1 ⟨rfl,rfl,hz,ce,vM,xE,ajE⟩ oZ m1 c0;have aK:=y3.ext oZ;refine wpIn_seq (wpIn_cond_true (GG c0 ajE) (wpIn_skip ?_));refine wpIn_seq (wpIn_block (wpIn_seq ?_));refine uU (σ:=il) (l:=[]) (K:=fun e σ l=>e=.normal/\l=[.cells 32 X]/\σ 0=.hE eT/\σ 2=.bM S 0/\σ 5=.ptr 0 0 32) fO bj M.b7 ?_ m1 aK c0 ?_
   ·simp[hz,ce,vM,xE,bT,bp,iU,awR]
   rintro e bh kD pv AF br ⟨rfl,rfl,Xf,e9,mv⟩ pF sQ iC;refine wpIn_seq (wpIn_region_list ?_);rw[M.split];refine YN (σ:=AF) fO bj M.TW M.alI (K:=fun σ l=>σ 18=.bool true/\σ 19=.hE eT) ?_ sQ (aK.ext pF) iC ?_
   ·simp[Xf,e9,mv,bp,vc,Vd,awR];refine a7 c7 (by simp[a4,U.closed,Ey,n9]) ?_;simp[Xf,mv,bp,awR]
   rintro b6 AK AE abI gE ⟨aiT,aiU⟩ DP CH kX;have Er:gb cH AK:=tj H.oT (AN ((oZ.trans pF).trans DP));have t18:=GG kX aiT;have t19:=aqB kX aiU;have tN:Region.wanted sI (yielded kb b6.tmps)=true:=by
    unfold Region.wanted yielded;rw[M.alD];simp only[M.alB];have aL:18<b6.tmps.size:=by rw[kX.size]; omega
    have afp:b6.tmps[18]? = some (.bool true) :=by
     rw[axj,axZ aL] at t18;rw[axZ aL]; simpa using t18
    simp[afp]
   unfold wpListIn;rw[if_pos tN];obtain⟨fn,tmps,assign,body,aI,jg⟩:=he (b6.tmps[20]?.getD undef) AK Er;have fV:(sI.semAt Fence.wide.round b6.eval).run Tryz.prog AK=.ok (.round eT fn tmps assign body) AK:=by
    rw[Fence.wide_round,Oper.semAt_none];unfold execOp;rw[M.alE];have ao1:b6.tmps[19]?.getD undef=.func (.yield eT) #[] #[] :=by rw[<-axj]; exact t19
    simp[go_sem,ao1,aI]
    skip; done
   refine⟨fun _ _=>trivial,?_⟩;rw[fV,Oper.uponIn_round];refine⟨fun bg=>(by cases bg),anT (jg.mono ?_)⟩;rintro e rU ⟨rfl,aw⟩;show wpListIn Fence.wide n Tryz.prog kb _ (kb.toList.drop 9++[]) (b6.put sI.dst (.bool false)) rU;rw[M.alC];obtain⟨KP,ag0⟩:=af3 AK rU Er aw;have apC:∀ {c:U} {v:Value},eh rU KP c v->aQ rU (fun k=>KP k\/rU.heap.size<=k) aO.empty (fun _=>none) c v:=fun ah=>ah.up (fun k _ ar=>⟨.inl ar,rm _ k⟩)
   refine YN (σ:=bB (bB (fun _=>U.bad) 18 (.bool true)) 21 (.bool false)) (l:=[]) fO bj M.TW M.alJ (K:=fun σ l=>σ 23=.bool true) ?_ (CI rU (fun k=>KP k\/rU.heap.size<=k) fun k ar=>.inr ar) (fun g=>⟨bj g,apC (ag0 g)⟩) ⟨by simp[Act.put,kX.size],kX.defers,fun t=>?_⟩ ?_
   ·simp
   ·by_cases LP:t=21
    ·subst LP;rw[hV];have:(b6.put (some 21) (.bool false)).tmps.getD 21 undef=.bool false:=by simp[Act.put,axj,kX.size]
     rw[this]; exact .bool _
    ·rw[b5 _ _ _ _ LP];have bt:(b6.put (some 21) (.bool false)).tmps.getD t undef=b6.tmps.getD t undef:=by
      simp only[Act.put,axj,azj (Ne.symm LP)]
     rw[bt];by_cases TY:t=18
     ·subst TY; rw[hV,t18]; exact .bool _
     ·rw[b5 _ _ _ _ TY]; exact .bad _
   rintro hH pA wj abK FG aiV DQ Ka CL;refine wpListIn_nil ?_;refine wpIn_cond_true (GG CL aiV) (wpIn_ret ?_);refine⟨rfl,?_⟩;rw[y8];exact⟨CL.defers,_,vz _ _,⟨_,rfl⟩,.inr ⟨cR,AK,rU,Er,aw,AN DQ⟩⟩
 ·have lg:k=ps.l.length:=by omega
  rw[lg,axo] at dE;refine uU (σ:=m2 E ps S eT k) (l:=[]) (K:=fun e σ l=>e=.exit 0) fO bj M.Tj ?_ rel y3 Gt ?_
  ·unfold OI;simp[Km,Kn,bD]
  ·rintro e bh dU pv AF br rfl pF sQ iC;show m7 .normal bh dU;rw[y8];exact⟨iC.defers,_,vz _ _,⟨_,rfl⟩,.inl ⟨dE,tj H.oT (AN pF)⟩⟩
end Op

end Go.bV

namespace Go.bV
open Go Go.Proofs Go.RowKit
set_option maxRecDepth 100000
section
variable {P:Program} {n:Nat}
theorem CA (D:List Deferred) (a:Go.Act) (d:Option Tmp) (v:Value) :({ a with defers:=a.defers++D }:Go.Act).put d v={ a.put d v with defers:=(a.put d v).defers++D }:=by cases d<;>rfl
theorem alT {D:List Deferred} {o:Oper} {a:Go.Act} {w:World} {K fa:Go.Act->World->Prop} {Q yI:Exit->Go.Act->World->Prop} (aY:∀ a w,K a w->fa { a with defers:=a.defers++D } w)
  (jf:∀ e a w,e≠.normal->Q e a w->yI e { a with defers:=a.defers++D } w) (h:o.wp P a w K Q) :o.wpIn Fence.wide n P { a with defers:=a.defers++D } w fa yI:=by
 unfold Oper.wp at h;refine⟨fun _ _=>trivial,?_⟩;show o.uponIn Fence.wide n P _ fa yI ((execOp a.eval o).run P w);cases ag:(execOp a.eval o).run P w with
 | ok x w'=>
  rw[ag] at h;cases x with
  | value v=>show fa (Go.Act.put _ _ _) _; rw[CA]; exact aY _ _ h
  | skip=>show fa (Go.Act.put _ _ _) _; rw[CA]; exact aY _ _ h
  | defer d=>
   show fa (Go.Act.put { tmps:=a.tmps,defers:=d::(a.defers++D) } _ _) _;have:=CA D { tmps:=a.tmps,defers:=d::a.defers } o.dst undef;have ae:({ tmps:=a.tmps,defers:=d::(a.defers++D) }:Go.Act).put o.dst undef=_:=this;rw[ae]; exact aY _ _ h
  | enter f args=>
   refine⟨fun bg=>(by cases bg),(callsIn_wide.2 h).mono ?_⟩;rintro (v | Dy | _) w2 ae
   ·show fa (Go.Act.put _ _ _) _; rw[CA]; exact aY _ _ ae
   ·exact jf _ _ _ (by simp) ae
   ·obtain⟨a0,g9,aT⟩:=ae;exact⟨_,g9,jf _ _ _ (by simp) aT⟩
  | row r args=>exact⟨fun bg=>(by cases bg),fun c cs _=>let ⟨v,w',r,s⟩:=h c cs; ⟨v,w',(by show fa (Go.Act.put _ _ _) _; rw[CA]; exact aY _ _ r),stepsIn_wide.2 s⟩⟩
  | _=>exact h.elim
 | halt e w'=>
  rw[ag] at h;cases e<;>first | exact jf _ _ _ (by simp) h | exact h.elim
theorem Oz {D:List Deferred} {all:Array Oper} {Q:Exit->Go.Act->World->Prop}:∀ {l:List Oper} {a:Go.Act} {w:World},
  wpList P all (fun e a w=>match e with | .normal=>Q .normal { a with defers:=a.defers++D } w | _=>False) l a w->wpListIn Fence.wide n P all Q l { a with defers:=a.defers++D } w
 | [],a,w,h=>wpListIn_nil h
 | o::l,a,w,h=>by
  unfold wpList at h;unfold wpListIn;split
  ·rename_i aP;rw[if_pos aP] at h;rcases h with h | ⟨_,a0,g9,aT⟩
   ·refine alT (fun a w aT=>Oz aT) (fun e a w am aT=>?_) h;cases e<;>first | exact absurd rfl am | exact aT.elim
   ·exact aT.elim
  ·rename_i aP;rw[if_neg aP] at h;refine⟨fun _ _=>trivial,?_⟩;rw[CA];exact Oz h
variable {G:Nat->U}
theorem O9 (fO:P.follows .mixedOrders=true) (ir:∀ g,(G g).closed=true) {N n:Nat} {ops:Array Oper} (fB:∀ (i:Nat) (o:Oper),ops[i]? = some o->kf N o.dst=true) {rx:List dp} (dE:oM P ops rx ops.toList) {id:Nat}
  {σ:bc} {l:ap} {K:bc->ap->Prop} (fV:jp P G rx σ l K) {D:List Deferred}
  {R:Nat->Prop} {B:Nat} {w:World} {μ:cr} {a:Go.Act} {Q:Exit->Go.Act->World->Prop} (rel:bP R B w (bb l) μ) (g:m5 G w R (bb l) μ) (s:iP N w R (bb l) μ σ { a with defers:=[] }) (bg:a.defers=D)
  (jf:∀ cV w' μ' bG l',K bG l'->dg w (bb l) μ w' (bb l') μ'->bP R B w' (bb l') μ'->iP N w' R (bb l') μ' bG { cV with defers:=[] }->cV.defers=D->Q .normal cV w') :(Code.region id ops false).wpIn Fence.wide n P Q a w:=by
 obtain⟨bG,l',tx,_,ar⟩:=Gj fB dE fV;obtain⟨du,ad3⟩:=a;subst bg;refine wpIn_region_list ?_;have:=Oz (P:=P) (n:=n) (D:=ad3) (all:=ops) (Q:=Q) (l:=ops.toList) (a:={ tmps:=du,defers:=[] }) (w:=w)
  (Gr fO ir tx R B w μ _ _ rel g s fun cV w' μ' aS da c0=>?_)
 ·exact this
 ·show Q .normal _ _;obtain⟨aws,ad4⟩:=cV;have bg:ad4=[] :=c0.defers;subst bg;exact jf _ w' μ' bG l' ar aS da c0 rfl
theorem L2 {R:Nat->Prop} {B:Nat} {w:World} {l:ap} {μ:cr} (rel:bP R B w (bb l) μ) {b t:Nat} {v:Int} (af:l[b]? = some (.cells 1 [.int .u8 v])) {tmps:Array Value} (au:aQ w R (bb l) μ (.ptr b 0 1) (tmps.getD t undef))
  {w' : World} (aP:∀ k,B<=k->(∃ arr e e4,w.heap[k]? = some (.cells arr e e4))->w'.heap[k]? = w.heap[k]?) (ak:w.heap.size<=w'.heap.size) {fn:Func} (az:CJ P (bb [.cells 1 [.int .u8 v]]) (bB (fun _=>U.bad) t (.ptr 0 0 1)) fn=some (.int .u8 v)) :
  (results fn tmps).run P w'=.ok (.int .u8 v) w':=by
 have aF:(bb l).f b=.cells 1 [.int .u8 v] :=l5.2 af;generalize ah8:tmps.getD t undef=v1 at au;cases au with
 | nI _ _ _ a ax=>
  rcases ax with h | ⟨n,hT,h,aL⟩
  ·rw[aF] at h; cases h
  ·rw[aF] at h; injection h with ad ae; omega
 | ptr _ _ _ hT m ej hm=>
  clear ej hT;have ey:=rel.blk b m hm;have kg:B<=m.r:=rel.base b m (by rw[aF]; rfl) hm;rw[aF] at ey;obtain⟨ad,ae,arr,e,e4,aj,aD,a2,bv⟩:=ey;have vj:(bb [.cells 1 [.int .u8 v]]).f 0=.cells 1 [.int .u8 v] :=l5.2 rfl;have bA:∀ b,1<=b->(bb [.cells 1 [.int .u8 v]]).f b=.none:=fun b af=>by rw[k2,aw5 (by simpa using af)]
  have anH:bP (fun k=>B<=k) B w' (bb [.cells 1 [.int .u8 v]]) (fun b=>if b=0 then some m else none) :=by
   refine⟨fun aZ ct bX=>?_,fun cT dw e0 eR hY jk aS bt _=>?_,fun aZ ct al bX=>?_,fun aZ bN=>bA aZ bN,fun k ar=>ar,axy rel.size ak,fun aZ bN=>?_⟩
   ·by_cases fA:aZ=0
    ·subst fA;simp only[if_true,Option.some.injEq] at bX;subst bX;rw[vj];refine⟨ad,ae,arr,e,e4,(aP _ kg ⟨_,_,_,aj⟩).trans aj,aD,a2,fun j c ai=>?_⟩;obtain⟨x,a8,bh,b6⟩:=bv j c ai;refine⟨x,a8,bh,?_⟩;rcases j with _ | j
     ·simp only[axh,Option.some.injEq] at ai;subst ai;cases b6;exact .int _ _
     ·simp at ai
    ·simp[fA] at bX
   ·by_cases bS:cT=0
    ·by_cases b7:dw=0
     ·omega
     ·simp[b7] at bt
    ·simp[bS] at aS
   ·by_cases fA:aZ=0
    ·simp only[fA,if_true,Option.some.injEq] at bX;subst bX;exact kg
    ·simp[fA] at bX
   ·have:aZ≠0:=fun e=>by subst e; exact absurd bN (by show ¬ (1<=0); omega)
    simp[this]
  have ff:iP tmps.size w' (fun k=>B<=k) (bb [.cells 1 [.int .u8 v]]) (fun b=>if b=0 then some m else none) (bB (fun _=>U.bad) t (.ptr 0 0 1)) { tmps:=tmps,defers:=[] }:=by
   refine⟨rfl,rfl,fun i=>?_⟩;by_cases T3:i=t
   ·subst T3;rw[hV];show aQ _ _ _ _ _ (tmps.getD i undef);rw[ah8];exact .ptr 0 0 1 _ m vj rfl
   ·rw[b5 _ _ _ _ T3]; exact .bad _
  obtain⟨x,bZ,ce⟩:=ZL (P:=P) anH ff az;cases ce;exact bZ
end
def fL (B:Nat) (a b:World) :Prop:=RowKit.Below B a b/\a.drawn<=b.drawn
theorem fL.xW {B:Nat} {a b:World} (h:gb a b) (kg:B<=a.heap.size) :fL B a b:=⟨h.toBelow.mono kg,h.drawn⟩
theorem fL.tr {B:Nat} {a b c:World} (h:fL B a b) (k:fL B b c) :fL B a c:=⟨h.1.trans k.1,axy h.2 k.2⟩
theorem fL.put {B:Nat} (W:World) {l:Nat} (o:Obj) (al:B<=l) (kg:B<=W.heap.size) :fL B W (W.putObj l o) :=
 ⟨(RowKit.Below.refl B W).grown (grownBy_putObj' W l o) kg (fun k e=>by cases e; exact al),awU _⟩
theorem fL.ext {R:Nat->Prop} {B:Nat} {w w' : World} {h h' : aO} {μ μ' : cr} (rel:bP R B w h μ) (e:dg w h μ w' h' μ') :fL B w w':=
 ⟨⟨e.os,e.tape,e.output,e.size,fun k ar=>e.b1 k (ayy ar rel.size) fun ⟨b,m,ad,ae,aj⟩=>by have:=rel.base b m ad ae; omega⟩,e.drawn⟩
theorem fL.alloc {B:Nat} {a:World} (kg:B<=a.heap.size) (o:Obj) :fL B a (a.alloc o) :=⟨(RowKit.Below.refl B a).alloc kg o,awU _⟩
theorem fL.oT {a b:World} (h:fL a.heap.size a b) :gb a b:=⟨h.1,h.2⟩
theorem al5 {R:Nat->Prop} {B:Nat} {w:World} {l:ap} {μ:cr} (rel:bP R B w (bb l) μ) (al:∀ (b:Nat) (c:aV),l[b]? = some c->∃ n cs,c=aV.cells n cs) {k:Nat} (av:Own (bb l) μ k) :∃ arr e e4,w.heap[k]? = some (.cells arr e e4) :=by
 obtain⟨b,m,ad,ae,rfl⟩:=av;have af:=rel.blk b m ae;rw[k2] at af ad;cases kj:l[b]? with
 | none=>rw[kj] at ad; cases ad
 | some c=>
  rw[kj] at af;obtain⟨n,cs,rfl⟩:=al b c kj;obtain⟨_,_,arr,e,e4,aj,_⟩:=af;exact⟨arr,e,e4,aj⟩
theorem LZ {R:Nat->Prop} {B:Nat} {w w' : World} {l:ap} {h' : aO} {μ μ' : cr} (rel:bP R B w (bb l) μ) (al:∀ (b:Nat) (c:aV),l[b]? = some c->∃ n cs,c=aV.cells n cs) (e:dg w (bb l) μ w' h' μ') :KeepsOthers w w':=by
 refine⟨e.size,fun k o ar av=>?_⟩;rw[e.b1 k (axl.1 ar).1 fun aP=>?_]
 ·exact ar
 ·obtain⟨arr,t,e4,aj⟩:=al5 rel al aP;rw[ar] at aj;cases aj;cases av
namespace Op
open hp
abbrev apK:List dp:=[fS 0 3 (.box (du 0)),fS 1 4 (.box (du 1)),fS 2 5 (.box (du 2)),fS 3 6 (.alloc [.int .u8 0])]
abbrev apG:fM:=.seq (.l3 [fS 0 7 (.qL 4 (du 3)),fS 1 8 (.ot (du 7)),fS 2 9 (.mz 32 (du 5)),sc 3 10 48 [(du 8),(du 9)]]) (.cond (du 10) (.seq (.l3 [Gm 0 (.st 1 (du 6) (.const (.int .u8 5)))]) .ret) .skip)
abbrev apL:List dp:=[fS 0 11 (.mz 5 (du 3)),fS 1 12 (.mz 11 (du 4)),sc 2 13 119 [(du 11),(du 12)]]
abbrev apM:List dp:=[fS 0 15 (.qL 1 (du 3)),fS 1 16 (.qL 2 (du 15)),fS 2 17 (.ot (du 16)),fS 3 18 (.qL 0 (du 3)),fS 4 19 (.ot (du 18)),fS 5 20 (.bin .eql 3 (du 17) (du 19))]
abbrev apN:List dp:=[Gm 0 (.st 1 (du 6) (.const (.int .u8 8)))]
abbrev apO:List dp:=[Gm 0 (.st 1 (du 6) (.const (.int .u8 1)))]
def iu (S E X:List U) (v:Int) :ap:=[.cells 5 S,.cells 11 E,.cells 32 X,.cells 1 [.int .u8 v],.cells 5 S,.cells 11 E]
structure QV (yL wr ws wu pz td rR rS:Array Oper) (kW:Oper) (t4:TypeId) :Prop where
 body:Tryz.f87.body=some (.seq (.region 0 yL false) (.seq (.seq (.region 1 wr false) (.cond (.tmp 10) (.seq (.region 2 ws false) .ret) .skip)) (.seq (.seq (.region 3 wu false) (.block 0 (.rangeFunc (.tmp 13) #[14] .skip (.block 1 (.seq (.region 4 pz false) .ret)))))
  (.seq (.seq (.region 5 td false) (.cond (.tmp 20) (.seq (.region 6 rR false) .ret) .skip)) (.seq (.region 7 rS false) .ret)))))
 rY:comp Tryz.prog 21 (.region 0 yL false)=some (.l3 apK)
 bS:comp Tryz.prog 21 (.seq (.region 1 wr false) (.cond (.tmp 10) (.seq (.region 2 ws false) .ret) .skip))=some apG
 hR:comp Tryz.prog 21 (.region 3 wu false)=some (.l3 apL)
 p3:pz.toList=[kW]
 Yo:kW.op=.store t4 (.tmp 6) (.const (.int .u8 6))
 alz:kW.dst=none
 alA:kW.guard=none
 alK:oM Tryz.prog td apM td.toList
 alL:oM Tryz.prog rR apN rR.toList
 alM:oM Tryz.prog rS apO rS.toList
 aeg:∀ (i:Nat) (o:Oper),td[i]? = some o->kf 21 o.dst=true
 aeh:∀ (i:Nat) (o:Oper),rR[i]? = some o->kf 21 o.dst=true
 aei:∀ (i:Nat) (o:Oper),rS[i]? = some o->kf 21 o.dst=true
 aov:cC Tryz.prog t4=some 1
theorem LM {R:Array Oper} (dE:(R.toList.all fun o=>kf 21 o.dst)=true) (i:Nat) (o:Oper) (h:R[i]? = some o) :kf 21 o.dst=true:=by
 exact axx.1 dE o (by rw[<-ayd] at h; exact awY h)
theorem apJ:∃ yL wr ws wu pz td rR rS kW t4,QV yL wr ws wu pz td rR rS kW t4:=
 ⟨nH (kZ ((Tryz.f87.body).getD .skip) [false]),
  nH (kZ ((Tryz.f87.body).getD .skip) [true,false,false]),
  nH (kZ ((Tryz.f87.body).getD .skip) [true,false,true,false,false]),
  nH (kZ ((Tryz.f87.body).getD .skip) [true,true,false,false]),
  nH (kZ ((Tryz.f87.body).getD .skip) [true,true,false,true,false,true,false,false]),
  nH (kZ ((Tryz.f87.body).getD .skip) [true,true,true,false,false]),
  nH (kZ ((Tryz.f87.body).getD .skip) [true,true,true,false,true,false,false]),
  nH (kZ ((Tryz.f87.body).getD .skip) [true,true,true,true,false]),
  ((nH (kZ ((Tryz.f87.body).getD .skip) [true,true,false,true,false,true,false,false])).toList).headD { op:=.move (.tmp 0),dst:=none,type:=0,pos:= "",after:=#[],guard:=none },
  (match (((nH (kZ ((Tryz.f87.body).getD .skip) [true,true,false,true,false,true,false,false])).toList).headD { op:=.move (.tmp 0),dst:=none,type:=0,pos:= "",after:=#[],guard:=none }).op with | .store t _ _=>t | _=>0),
  ⟨by kernel_rfl,by kernel_rfl,by kernel_rfl,by kernel_rfl,by kernel_rfl,by kernel_rfl,by kernel_rfl,by kernel_rfl,
  Dj (idx:=[0,1,2,3,4,5]) (by kernel_rfl) (by kernel_rfl),Dj (idx:=[0]) (by kernel_rfl) (by kernel_rfl),Dj (idx:=[0]) (by kernel_rfl) (by kernel_rfl),
  LM (by kernel_rfl),LM (by kernel_rfl),LM (by kernel_rfl),by kernel_rfl⟩⟩
theorem ak2 (S E:List U) (g5:S.length=5) (dh:E.length=11) {l:ap} {K:U->ap->Prop} (aY:K (.fn 163 [] [.ptr (l.length+1) 0 11,.ptr l.length 0 5]) (l++[.cells 5 S,.cells 11 E])) :
  c5 Tryz.prog GS 119 [.aH S,.aH E] l (c:=⟨K⟩) :=by
 apply bn Tryz.func119 [];simp[g5,dh];exact aY
theorem Qw (v:Int) :CJ Tryz.prog (bb [.cells 1 [.int .u8 v]]) (bB (fun _=>U.bad) 6 (.ptr 0 0 1)) Tryz.f87=some (.int .u8 v) :=by kernel_rfl
end Op

end Go.bV

namespace Go.bV
open Go Go.Proofs Go.RowKit
set_option maxRecDepth 100000
namespace Op
open hp
theorem M5 (S E X:List U) (v:Int) :∀ (b:Nat) (c:aV),(iu S E X v)[b]? = some c->∃ n cs,c=aV.cells n cs:=by
 intro b c h;have hm:=awY h;simp only[iu,axU,List.not_mem_nil,or_false] at hm;rcases hm with rfl | rfl | rfl | rfl | rfl | rfl<;>exact⟨_,_,rfl⟩
theorem anS {yL wr ws wu pz td rR rS:Array Oper} {kW:Oper} {t4:TypeId} (M:QV yL wr ws wu pz td rR rS kW t4) {S E X:List U} {F:Fence} (o2:∀ f,F.fn f) {n:Nat} {R:Nat->Prop} {B:Nat} {W:World} {μ:cr} {a:Go.Act}
  (rel:bP R B W (bb (iu S E X 0)) μ) (bv:aQ W R (bb (iu S E X 0)) μ (.ptr 3 0 1) (a.tmps.getD 6 undef)) :
  (Code.block 1 (.seq (.region 4 pz false) .ret)).wpIn F n Tryz.prog (fun e _ eV=>e=.ret/\dg W (bb (iu S E X 0)) μ eV (bb (iu S E X 6)) μ/\bP R B eV (bb (iu S E X 6)) μ) a W:=by
 refine wpIn_block (wpIn_seq (wpIn_region_list ?_));rw[M.p3];have bE:yh Tryz.prog (bb (iu S E X 0)) t4 (.ptr 3 0 1) (.int .u8 6)=some (bb (iu S E X 6)) :=by
  unfold yh;rw[M.aov];have aF:(bb (iu S E X 0)).f 3=.cells 1 [.int .u8 0] :=l5.2 rfl;simp only[U.cells,aF];rw[if_pos (by simp),qu _ (by simp[iu])];rfl
 obtain⟨w',ad,ae,aj⟩:=aas (P:=Tryz.prog) rel bE bv (.int .u8 6);unfold wpListIn;have aP:Region.wanted kW (yielded pz a.tmps)=true:=by unfold Region.wanted; rw[M.alA]
 rw[if_pos aP];refine⟨fun f _=>o2 f,?_⟩;have fV:(execOp a.eval kW).run Tryz.prog W=.ok .skip w':=by
  have am:a.eval (.tmp 6)=a.tmps.getD 6 undef:=rfl;rw[<-am] at ad;have dX:(Instr.storeAt t4 (a.eval (.tmp 6)) (a.eval (.const (.int .u8 6)))).run Tryz.prog W=.ok () w':=ad;simp[execOp,M.Yo,dX]
 rw[Oper.semAt_eq _ _ _ (fun c=>by rw[M.Yo]; exact fun h=>by cases h),fV,Oper.uponIn_skip,M.alz];exact wpListIn_nil (wpIn_ret ⟨rfl,ae,aj⟩)
def yw (x:List B) (ord:dk) (ps:List (List B)) (cap a3:Int) :Int:=if x∈ord.l then 5 else if ∀ p∈ps,p∈ord.l then (if a3=cap then 8 else 1) else 6
theorem aeX {w:World} {R:Nat->Prop} {h:aO} {μ:cr} {f:FuncId} {bS b7:U} {v:Value} (ao:aQ w R h μ (.fn f [] [bS,b7]) v) :∃ iA i0,v=.func (.func f) #[] #[iA,i0]/\aQ w R h μ bS iA/\aQ w R h μ b7 i0:=by
 cases ao with
 | fn _ _ _ fs cs aF ah ad ae=>
  have aS:fs=#[] :=by apply azl; simpa using aF
  subst aS;obtain⟨cs⟩:=cs;rcases cs with _ | ⟨iA,_ | ⟨i0,_ | ⟨z7,cs⟩⟩⟩
  ·simp at ah
  ·simp at ah
  ·exact⟨iA,i0,rfl,ae 0 bS iA rfl rfl,ae 1 b7 i0 rfl rfl⟩
  ·simp at ah
theorem afc {l:List U} {t:Nat} (h:t<l.length) :l.getD t gU=l[t] :=by simp[List.getD,h]
theorem afd {l:List U} {t:Nat} (h:l.length<=t) :l.getD t gU=gU:=by simp[List.getD,aw5 h]
theorem ak1:Enters Tryz.prog 163:=by
 obtain⟨AI,rO,rP,kb,ta,sI,M⟩:=X4;exact enters_of Tryz.func163 (by kernel_rfl) M.body
theorem Lp {cY W:World} {l:Nat} (o:Obj) (af:gb cY W) (al:cY.heap.size<=l) :gb cY (W.putObj l o) :=
 fL.oT ((fL.xW af (awU _)).tr (fL.put W o al af.toBelow.size))
set_option maxHeartbeats 4000000 in
theorem apW (E:List U) (ps:dk) (Ev:a4 E=true) (r6:E.length=11) (pK:∀ h:1<E.length,E[1]'h=aA ps) (iw:ds ps) (fv:ps.l.length<=1000000) (x:List B) (ag:x.length=32) (ord:dk) (lk:ds ord) (dP:ord.l.length<=1000000) (cap a3:Int) (parts dF:U) (au:parts.closed=true) (aT:dF.closed=true) :
  bw Tryz.prog GS 87 [.aH (Bd cap a3 parts dF ord),.aH E,.aH (a5 x)] (.int .u8 (yw x ord ps.l cap a3)) :=by
 intro w A vs ax ix ao;obtain⟨yL,wr,ws,wu,pz,td,rR,rS,kW,t4,M⟩:=apJ;obtain⟨S,g5⟩:∃ S,S=Bd cap a3 parts dF ord:=⟨_,rfl⟩
 have In:a4 S=true:=by rw[g5]; exact Ty au aT
 have vc:S.length=5:=by rw[g5]; rfl
 have fU:∀ h:0<S.length,S[0]'h=.int .i64 cap:=fun h=>by simp only[g5]; rfl
 have Ek:∀ h:3<S.length,S[3]'h=.int .i64 a3:=fun h=>by simp only[g5]; rfl
 have la:∀ h:4<S.length,S[4]'h=aA ord:=fun h=>by simp only[g5]; rfl
 obtain⟨X,cW⟩:∃ X,X=a5 x:=⟨_,rfl⟩
 have By:X.length=32:=by rw[cW]; exact dq ag
 have Vs:a4 X=true:=by rw[cW]; exact g2 x
 have c7:=KG ord lk dP x ag;rw[<-cW] at c7 ao;rw[<-g5] at ao;have fO:Tryz.prog.follows .mixedOrders=true:=Tryz.checked.mixed;have Ey:=dd ord;obtain⟨rL,w9⟩:∃ rL,rL=yw x ord ps.l cap a3:=⟨_,rfl⟩
 rw[<-w9];refine (callsIn_wide (n:=0)).1 (callsIn_of_wp_marks (fn:=Tryz.f87) Tryz.func87 M.body trivial ?_ rfl);obtain⟨m7,y8⟩:∃ m7,m7=bodyPostM Fence.wide 0 Tryz.prog Tryz.f87 (fun e w'=>∃ v,e=Ending.returned v/\gb w w'/\eh w' (fun k=>A k\/w.heap.size<=k) (.int .u8 rL) v) :=⟨_,rfl⟩
 rw[<-y8];have xe:∀ (a:Go.Act) (W:World) (v:Int),a.defers=[]->(results Tryz.f87 a.tmps).run Tryz.prog W=.ok (.int .u8 v) W->v=rL->gb w W->m7 .ret a W:=by
  intro a W v bg az jz af;rw[y8];show LeavesInM _ _ _ _ _ _ a.defers _ _;rw[bg];exact⟨_,az,_,rfl,af,by rw[jz]; exact .int _ _⟩
 have VF:∀ (a:Go.Act) (W:World) (D:Nat) (v:Int),a.defers=[{ target:=.collected D,args:=#[] }]->W.heap[D]? = some (.deferred (some []))->(results Tryz.f87 a.tmps).run Tryz.prog (W.putObj D (.deferred none))=.ok (.int .u8 v) (W.putObj D (.deferred none))->v=rL->gb w (W.putObj D (.deferred none))->m7 .ret a W:=by
  intro a W D v bg aY az jz af;rw[y8];show LeavesInM _ _ _ _ _ _ a.defers _ _;rw[bg];exact⟨by simp,.inl ⟨_,_,rfl,run_takeDeferred aY,_,az,_,rfl,af,by rw[jz]; exact .int _ _⟩⟩
 have up:∀ {c:U} {v:Value},eh w A c v->aQ w (fun k=>A k\/w.heap.size<=k) aO.empty (fun _=>none) c v:=fun ah=>ah.up (fun k _ ar=>⟨.inl ar,rm _ k⟩)
 have g:m5 GS w (fun k=>A k\/w.heap.size<=k) aO.empty (fun _=>none) :=fun i=>⟨bj i,up (ax i)⟩
 have IX:Tryz.f87.ntmps=21:=by kernel_rfl
 have rel:=CI w (fun k=>A k\/w.heap.size<=k) fun k ar=>.inr ar
 refine wpIn_seq (uU (σ:=l8 [.aH S,.aH E,.aH X]) (l:=[]) (K:=fun e σ l=>e=.normal/\l=[.cells 5 S,.cells 11 E,.cells 32 X,.cells 1 [.int .u8 0]]/\σ 3=.ptr 0 0 5/\σ 4=.ptr 1 0 11/\σ 5=.ptr 2 0 32/\σ 6=.ptr 3 0 1)
  fO bj M.rY ?_ rel g ⟨by rw[IX]; simp[ix],rfl,fun t=>?_⟩ ?_)
 ·simp[l8,vc,r6,By]
 ·by_cases aX:t<([.aH S,.aH E,.aH X] :List U).length
  ·have aE:=afc aX;have Fc:(vs++Array.replicate (Tryz.f87.ntmps - vs.size) undef).getD t undef=vs[t]'(by rw[ix]; exact aX) :=by
    rw[axj,ax3 (by rw[ix]; exact aX)];simp[show t<vs.size by rw[ix]; exact aX]
   show aQ _ _ _ _ (([.aH S,.aH E,.aH X] :List U).getD t gU) _;rw[aE,Fc];exact up (ao t _ _ (awT aX) (by simp))
  ·have aE:=afd (ayY aX);have Fc:(vs++Array.replicate (Tryz.f87.ntmps - vs.size) undef).getD t undef=undef:=by
    rw[axj,ayg (by rw[ix]; exact ayY aX),aza];split<;>rfl
   show aQ _ _ _ _ (([.aH S,.aH E,.aH X] :List U).getD t gU) _;rw[aE,Fc];exact Gz
 rintro e a0 g9 uy QK fw ⟨rfl,rfl,eB,hA,iX,zQ⟩ pE oB s0;have ck:=g.ext pE;by_cases iv:x∈ord.l
 ·rw[decide_eq_true iv] at c7;have fB:(5:Int)=rL:=by rw[w9]; unfold yw; rw[if_pos iv]
  suffices ak:(Code.seq (.region 1 wr false) (.cond (.tmp 10) (.seq (.region 2 ws false) .ret) .skip)).wpIn Fence.wide 0 Tryz.prog (fun e a W=>e=.ret/\m7 .ret a W) a0 g9 from wpIn_seq (wpIn_mono ak fun e a w ⟨am,h⟩=>by subst am; exact h)
  refine uU (σ:=QK) (K:=fun e σ l=>e=.ret/\l=[.cells 5 S,.cells 11 E,.cells 32 X,.cells 1 [.int .u8 5]]/\σ 6=.ptr 3 0 1) fO bj M.bS ?_ oB ck s0 ?_
  ·simp[eB,iX,zQ,vc,la,By,awR];refine a7 c7 (by simp[a4,U.closed,Ey,Vs]) ?_;simp[zQ]
  ·rintro e a8 bO ha il l1 ⟨rfl,rfl,mW⟩ oZ m1 c0;have bv:=c0.val 6;rw[mW] at bv;exact⟨rfl,xe a8 bO 5 c0.defers (L2 m1 rfl bv (fun _ _ _=>rfl) (awU _) (Qw 5)) fB (AN (pE.trans oZ))⟩
 ·rw[decide_eq_false iv] at c7;refine wpIn_seq (uU (σ:=QK) (K:=fun e σ l=>e=.normal/\l=[.cells 5 S,.cells 11 E,.cells 32 X,.cells 1 [.int .u8 0]]/\σ 3=.ptr 0 0 5/\σ 4=.ptr 1 0 11/\σ 6=.ptr 3 0 1) fO bj M.bS ?_ oB ck s0 ?_)
  ·simp[eB,iX,zQ,vc,la,By,awR];refine a7 c7 (by simp[a4,U.closed,Ey,Vs]) ?_;simp[eB,hA,zQ]
  rintro e a8 bO ha il l1 ⟨rfl,rfl,kS,j4,mW⟩ oZ m1 c0;have aK:=ck.ext oZ;show (Code.seq (.seq (.region 3 wu false) (.block 0 (.rangeFunc (.tmp 13) #[14] .skip (.block 1 (.seq (.region 4 pz false) .ret))))) _).wpIn Fence.wide 0 Tryz.prog m7 a8 bO;refine wpIn_seq (wpIn_seq (uU (σ:=il) (K:=fun e σ l=>e=.normal/\l=iu S E X 0/\σ 3=.ptr 0 0 5/\σ 6=.ptr 3 0 1/\σ 13=.fn 163 [] [.ptr 5 0 11,.ptr 4 0 5]) fO bj M.hR ?_ m1 aK c0 ?_))
  ·simp[kS,j4,vc,r6,awR];refine ak2 S E vc r6 ?_;simp[kS,mW,iu]
  rintro e b6 cY AE abI gE ⟨rfl,rfl,gY,j2,aiS⟩ DP CH kX;have a6:=aK.ext DP;have Ik:gb w cY:=AN ((pE.trans oZ).trans DP);clear eB hA iX zQ kS j4 mW s0 c0 oB m1 pE oZ DP ck aK;have bv:=kX.val 6;rw[j2] at bv;have D7:=kX.val 13;rw[aiS] at D7;obtain⟨iA,i0,ag4,q9,mS⟩:=aeX D7;have kQ:=Y6 CH (cs:=E) (by rfl) Ev q9;have mm:=Y6 CH (cs:=S) (by rfl) In mS;have Fa:w.heap.size<=cY.heap.size:=Ik.toBelow.size;have H3:∀ {ub:Obj} {cH:World},cH=(cY.alloc (.deferred (some []))).alloc ub->gb cY cH/\cH.heap[cY.heap.size]? = some (.deferred (some []))/\cH.heap.size=cY.heap.size+2:=by
   intro ub cH e;subst e;refine⟨fL.oT ((fL.alloc (awU _) _).tr (fL.alloc (by simp) _)),?_,by simp⟩;exact (((RowKit.Below.refl (cY.heap.size+1) (cY.alloc (.deferred (some [])))).alloc (by simp) ub).block cY.heap.size (by omega)).trans (World.alloc_heap_new _ _)
  show (Code.block 0 _).wpIn Fence.wide 0 Tryz.prog _ b6 cY;refine wpIn_block (anm (gf:=163) (lb:=#[iA,i0]) (A:=∀ p∈ps.l,p∈ord.l) (B:=¬ ∀ p∈ps.l,p∈ord.l) ag4 ak1 rfl
   (fun K1 eV=>bP (fun k=>A k\/w.heap.size<=k) w.heap.size K1 (bb (iu S E X 0)) AE/\dg K1 (bb (iu S E X 0)) AE eV (bb (iu S E X 6)) AE/\bP (fun k=>A k\/w.heap.size<=k) w.heap.size eV (bb (iu S E X 6)) AE)
   (fun K1 eV h=>LZ h.1 (M5 S E X 0) h.2.1) ?_ ?_ ?_ ?_)
  ·intro fn y W af;obtain⟨cT,_,_⟩:=H3 rfl;obtain⟨Bb,Ab⟩:=x4 CH (Lp (l:=cY.heap.size+1) (.loop (h2 fn b6.tmps #[14] (.block 1 (.seq (.region 4 pz false) .ret)) cY.heap.size .busy none)) (tj cT af) (by omega));refine wpIn_mono (anS M (S:=S) (E:=E) (X:=X) (fun _=>trivial) Ab ?_) ?_
   ·have pJ:=aQ.ext Bb bv;have aX:(b6.tmps.setIfInBounds 14 y).getD 6 undef=b6.tmps.getD 6 undef:=by simp only[axj,azj (show 14≠6 by omega)]
    rw[<-aX] at pJ;have ew:∀ T:Array Value,T=b6.tmps.setIfInBounds 14 y->aQ (W.putObj (cY.heap.size+1) (.loop (h2 fn b6.tmps #[14] (.block 1 (.seq (.region 4 pz false) .ret)) cY.heap.size .busy none))) (fun k=>A k\/w.heap.size<=k) (bb (iu S E X 0)) AE (.ptr 3 0 1) (T.getD 6 undef) :=fun T e=>by rw[e]; exact pJ
    exact ew _ (by simp)
   ·rintro e cV eV ⟨am,ad,ae⟩;exact⟨am,Ab,ad,ae⟩
  ·intro fn cH pO he;obtain⟨cT,d1,g1⟩:=H3 pO;rw[g5] at mm;refine (ak0 E ps Ev r6 pK iw fv ord lk dP cap a3 parts dF au aT (kQ.oT cT) (mm.oT cT) (fun i=>eh.oT ((tm (a6 i).2 (a6 i).1).up fun k _ ar=>⟨ar.1,rm _ k⟩) cT) he ?_).mono ?_
   ·rintro W eV af ⟨kD,⟨da,aS,dj⟩,rfl⟩;have af1:=(tj cT af).toBelow.size;refine⟨A,fun i=>(ax i).oT (fL.oT ((((fL.xW Ik (awU _)).tr (fL.xW (tj cT af) Fa)).tr (fL.put W _ (by omega) (by omega))).tr ((fL.ext da aS).tr (fL.put kD _ (by omega) dj.size))))⟩
   ·rintro e dU ⟨ao,dA | ⟨aC,W,eV,af,⟨kD,aX,rfl⟩,ej⟩⟩
    ·exact⟨ao,.inl dA⟩
    ·exact⟨ao,.inr ⟨aC,W,kD,af,aX,ej⟩⟩
  ·intro fn cH dU pO dA af;obtain⟨cT,d1,g1⟩:=H3 pO;generalize H2:dU.putObj _ _=eV;have bN:gb cY eV:=by rw[<-H2]; exact Lp _ (tj cT af) (by omega)
   have Bs:eV.heap[cY.heap.size]? = some (.deferred (some [])) :=by rw[<-H2,World.putObj_heap_other (by omega)]; exact (af.toBelow.block _ (by omega)).trans d1
   obtain⟨Bb,Ab⟩:=x4 CH bN;have Z2:=kX.ext Bb;have bm:=a6.ext Bb;have Iv:∀ (hH:Go.Act) (pA:World) (wj:cr) (v:Int),dg eV (bb (iu S E X 0)) AE pA (bb (iu S E X v)) wj->bP (fun k=>A k\/w.heap.size<=k) w.heap.size pA (bb (iu S E X v)) wj->
     aQ pA (fun k=>A k\/w.heap.size<=k) (bb (iu S E X v)) wj (.ptr 3 0 1) (hH.tmps.getD 6 undef)->hH.defers=[{ target:=.collected cY.heap.size,args:=#[] }]->v=rL->m7 .ret hH pA:=by
    intro hH pA wj v TZ Zj pJ bg jz;have UU:pA.heap[cY.heap.size]? = some (.deferred (some [])) :=(LZ Ab (M5 S E X 0) TZ).same _ _ Bs rfl;refine VF hH pA cY.heap.size v bg UU (L2 Zj (b:=3) rfl pJ (fun k ar ah=>World.putObj_heap_other (fun M2=>by obtain⟨arr,e,e4,ah⟩:=ah; rw[M2,UU] at ah; cases ah)) (by simp) (Qw v)) jz ?_;exact fL.oT ((((fL.xW Ik (awU _)).tr (fL.xW bN Fa)).tr (fL.ext Ab TZ)).tr (fL.put pA _ Fa Zj.size))
   show (Code.seq (.seq (.region 5 td false) (.cond (.tmp 20) (.seq (.region 6 rR false) .ret) .skip)) (.seq (.region 7 rS false) .ret)).wpIn Fence.wide 0 Tryz.prog m7 { tmps:=b6.tmps,defers:={ target:=.collected cY.heap.size,args:=#[] }::b6.defers } eV;refine wpIn_seq (wpIn_seq (O9 (σ:=abI) (D:=[{ target:=.collected cY.heap.size,args:=#[] }]) fO bj M.aeg M.alK (K:=fun σ l=>l=iu S E X 0/\σ 6=.ptr 3 0 1/\σ 20=.bool (decide (a3=cap))) ?_ Ab bm ⟨Z2.size,rfl,Z2.val⟩ (by rw[kX.defers]) ?_))
   ·simp[gY,j2,iu,vc,fU,Ek]
   rintro gn rU awP abJ Ow ⟨rfl,mW,Jo⟩ HI ZB Kj Vz;show (Code.cond (.tmp 20) (.seq (.region 6 rR false) .ret) .skip).wpIn Fence.wide 0 Tryz.prog _ gn rU;by_cases p0:a3=cap
   ·rw[decide_eq_true p0] at Jo;refine wpIn_cond_true (GG Kj Jo) (wpIn_seq (O9 (σ:=abJ) fO bj M.aeh M.alL (K:=fun σ l=>l=iu S E X 8/\σ 6=.ptr 3 0 1) ?_ ZB (bm.ext HI) Kj Vz ?_))
    ·simp[mW,iu]
    rintro hH pA wj abK FG ⟨rfl,zW⟩ DQ Ka CL MG;refine wpIn_ret (Iv hH pA wj 8 (HI.trans DQ) Ka (by have:=CL.val 6; rwa [zW] at this) MG ?_);rw[w9]; unfold yw; rw[if_neg iv,if_pos dA,if_pos p0]
   ·rw[decide_eq_false p0] at Jo;refine wpIn_cond_false (GG Kj Jo) (wpIn_skip ?_);show (Code.seq (.region 7 rS false) .ret).wpIn Fence.wide 0 Tryz.prog m7 gn rU;refine wpIn_seq (O9 (σ:=abJ) fO bj M.aei M.alM (K:=fun σ l=>l=iu S E X 1/\σ 6=.ptr 3 0 1) ?_ ZB (bm.ext HI) Kj Vz ?_)
    ·simp[mW,iu]
    rintro hH pA wj abK FG ⟨rfl,zW⟩ DQ Ka CL MG;refine wpIn_ret (Iv hH pA wj 1 (HI.trans DQ) Ka (by have:=CL.val 6; rwa [zW] at this) MG ?_);rw[w9]; unfold yw; rw[if_neg iv,if_pos dA,if_neg p0]
  ·rintro fn cH W kD dU pO kg af ⟨da,aS,dj⟩ ej;obtain⟨cT,d1,g1⟩:=H3 pO;have af1:=(tj cT af).toBelow.size;have afO:cY.heap.size+1<W.heap.size:=by have:=af.toBelow.size; omega
   obtain⟨Bb,Ab⟩:=x4 CH (Lp (l:=cY.heap.size+1) (.loop (h2 fn b6.tmps #[14] (.block 1 (.seq (.region 4 pz false) .ret)) cY.heap.size .busy none)) (tj cT af) (by omega));have V1:=LZ da (M5 S E X 0) aS;have afD:W.heap[cY.heap.size]? = some (.deferred (some [])) :=(af.toBelow.block _ (by omega)).trans d1;have Ml:kD.heap[cY.heap.size]? = some (.deferred (some [])) :=V1.same _ _ (by rw[World.putObj_heap_other (by omega)]; exact afD) rfl;have afN:=V1.same _ _ (World.putObj_heap_same afO) rfl;have afC:=(axl.1 Ml).1;have Vm:=ej.toBelow.size;simp only[World.putObj_size] at Vm;have Ec:dU.heap[cY.heap.size]? = some (.deferred (some [])) :=(ej.toBelow.block _ (by simpa using afC)).trans (by rw[World.putObj_heap_other (by omega)]; exact Ml);show m7 .ret { tmps:=b6.tmps,defers:={ target:=.collected cY.heap.size,args:=#[] }::b6.defers } _;refine VF _ _ cY.heap.size 6 (by rw[kX.defers]) (by rw[World.putObj_heap_other (by omega)]; exact Ec) (L2 dj (b:=3) rfl (aQ.ext (Bb.trans aS) bv) (fun k ar ah=>?_) (by simpa using Vm) (Qw 6)) ?_ ?_
   ·obtain⟨arr,e,e4,ah⟩:=ah;have M2:k≠cY.heap.size:=fun h=>by rw[h,Ml] at ah; cases ah
    have VY:k≠cY.heap.size+1:=fun h=>by rw[h,afN] at ah; cases ah
    have tC:=(axl.1 ah).1;rw[World.putObj_heap_other M2,World.putObj_heap_other VY,ej.toBelow.block k (by simpa using tC),World.putObj_heap_other VY]
   ·rw[w9]; unfold yw; rw[if_neg iv,if_neg kg]
   ·have aj:fL w.heap.size w kD:=(((fL.xW Ik (awU _)).tr (fL.xW (tj cT af) Fa)).tr (fL.put W _ (by omega) (by omega))).tr (fL.ext da aS);have sl:=dj.size;exact fL.oT (((aj.tr (fL.put kD _ (by omega) sl)).tr (fL.xW ej (by simpa using sl))).tr ((fL.put dU _ (by omega) (by omega)).tr (fL.put _ _ Fa (by simp; omega))))
end Op

end Go.bV

namespace Go.bV
open Go Go.Proofs
set_option maxRecDepth 100000
open hp Op
def Fj:List U->Option (List B)
 | []=>some []
 | .int .u8 n::r=>match decide (0<=n)&&decide (n<256) with
  | true=>match Fj r with | some l=>some (BitVec.ofNat 8 n.toNat::l) | none=>none
  | false=>none
 | _=>none
theorem N1:∀ {e:List U} {i:List B},Fj e=some i->e=a5 i
 | [],i,h=>by cases h; rfl
 | c::r,i,h=>by
  unfold Fj at h;split at h
  ·rename_i aS; cases aS
  ·rename_i n r' aS;cases aS;split at h
   ·rename_i af;split at h
    ·rename_i l al;cases h;simp only[awZ,decide_eq_true_eq] at af;rw[N1 al];have:((BitVec.ofNat 8 n.toNat).toNat:Int)=n:=by
      rw[axf,aw2 (by omega)]; omega
     simp only[a5,axk,bC,u,this]
    ·cases h
   ·cases h
  ·cases h
def Jk:List (List U)->Option (List (List B))
 | []=>some []
 | e::r=>match Fj e with
  | some i=>match Nat.beq i.length 32 with
   | true=>match Jk r with | some l=>some (i::l) | none=>none
   | false=>none
  | none=>none
theorem W7:∀ {es:List (List U)} {l:List (List B)},Jk es=some l->es=l.map a5/\∀ i∈l,i.length=32
 | [],l,h=>by cases h; exact⟨rfl,fun i ay=>by cases ay⟩
 | e::r,l,h=>by
  unfold Jk at h;split at h
  ·rename_i i ay;split at h
   ·rename_i af;split at h
    ·rename_i l' al;cases h;obtain⟨ad,ae⟩:=W7 al;refine⟨by rw[N1 ay,ad]; rfl,fun x ag=>?_⟩;rcases axU.1 ag with aj | aj
     ·rw[aj]; exact axt af
     ·exact ae x aj
    ·cases h
   ·cases h
  ·cases h
def Jj:U->Option dk
 | .aG=>some none
 | .a1 32 es=>match Jk es with | some l=>(match Nat.ble l.length 100000 with | true=>some (some l) | false=>none) | none=>none
 | _=>none
theorem W6 {c:U} {s:dk} (h:Jj c=some s) :c=aA s/\ds s/\s.l.length<=1000000:=by
 unfold Jj at h;split at h
 ·cases h; exact⟨rfl,fun i ay=>(by cases ay),by simp[b8.l]⟩
 ·split at h
  ·rename_i l al;split at h
   ·rename_i af;cases h;obtain⟨ad,ae⟩:=W7 al;have:=axW af;exact⟨by rw[ad]; rfl,ae,by show l.length<=_; omega⟩
   ·cases h
  ·cases h
 ·cases h
def yQ:List B->List B->Bool
 | [],[]=>true
 | x::a,y::b=>match Nat.beq x.toNat y.toNat with | true=>yQ a b | false=>false
 | _,_=>false
theorem Lj:∀ a b:List B,yQ a b=true<->a=b
 | [],[]=>by simp[yQ]
 | [],y::b=>by simp[yQ]
 | x::a,[]=>by simp[yQ]
 | x::a,y::b=>by
  unfold yQ;split
  ·rename_i h;have ad:=axt h;rw[Lj a b,List.cons.injEq];exact Iff.intro (fun h=>And.intro (aw8 ad) h) (fun h=>h.2)
  ·rename_i h;refine Iff.intro (fun h=>(by cases h)) (fun aT=>?_);injection aT with ad ae
   rw[ad,azk] at h;cases h
def Cc (x:List B) :List (List B)->Bool
 | []=>false
 | y::r=>match yQ x y with | true=>true | false=>Cc x r
theorem Fk (x:List B) :∀ l,Cc x l=true<->x∈l
 | []=>by simp[Cc]
 | y::r=>by
  unfold Cc;split
  ·rename_i h; simp[(Lj x y).1 h]
  ·rename_i h;have bY:x≠y:=fun e=>by rw[(Lj x y).2 e] at h; cases h
   rw[Fk x r]; simp[bY]
def Di (ord:List (List B)) :List (List B)->Bool
 | []=>true
 | p::r=>match Cc p ord with | true=>Di ord r | false=>false
theorem K9 (ord:List (List B)) :∀ ps,Di ord ps=true<->∀ p∈ps,p∈ord
 | []=>by simp[Di]
 | p::r=>by
  unfold Di;split
  ·rename_i h; rw[K9 ord r]; simp[(Fk p ord).1 h]
  ·rename_i h;have aC:¬ p∈ord:=fun e=>by rw[(Fk p ord).2 e] at h; cases h
   simp[aC]
def Qv (x:List B) (ord ps:List (List B)) (cap a3:Int) :Int:=match Cc x ord with
 | true=>5
 | false=>match Di ord ps with
  | true=>(match decide (a3=cap) with | true=>8 | false=>1)
  | false=>6
theorem apU (x:List B) (ord:dk) (ps:List (List B)) (cap a3:Int) :Qv x ord.l ps cap a3=yw x ord ps cap a3:=by
 unfold Qv yw;split
 ·rename_i h; rw[if_pos ((Fk _ _).1 h)]
 ·rename_i h;rw[if_neg fun e=>by rw[(Fk _ _).2 e] at h; cases h];split
  ·rename_i ae;rw[if_pos ((K9 _ _).1 ae)];split
   ·rename_i aj; rw[if_pos (of_decide_eq_true aj)]
   ·rename_i aj; rw[if_neg (of_decide_eq_false aj)]
  ·rename_i ae;rw[if_neg fun e=>by rw[(K9 _ _).2 e] at ae; cases ae]
def abd:List U->Option U
 | [.aH [.int .i64 cap,parts,dF,.int .i64 a3,YA],.aH (fA::JY::bt),.aH x]=>match Nat.beq bt.length 9&&(parts.closed&&(dF.closed&&(fA.closed&&a4 bt))) with
  | true=>match Jj YA with
   | some ord=>match Jj JY with
    | some ps=>match Fj x with
     | some i=>match Nat.beq i.length 32 with
      | true=>some (.int .u8 (Qv i ord.l ps.l cap a3))
      | false=>none
     | none=>none
    | none=>none
   | none=>none
  | false=>none
 | _=>none
abbrev abe:FuncId × Bool × (List U->Option U) :=(87,false,abd)
theorem apV:uG Tryz.prog GS abe:=by
 intro args r h;refine⟨?_,fun h=>by cases h⟩;simp only[abd] at h;split at h
 ·rename_i cap parts dF a3 YA fA JY bt x;split at h
  ·rename_i ah;simp only[awZ] at ah;obtain⟨bS,b7,hR,go,Du⟩:=ah;split at h
   ·rename_i ord av;split at h
    ·rename_i ps au;split at h
     ·rename_i i ay;split at h
      ·rename_i af;cases h;obtain⟨jo,hB,p5⟩:=W6 av;obtain⟨q1,dn,gF⟩:=W6 au;have ag:=N1 ay;rw[apU,ag,jo];have nr:JY.closed=true:=by rw[q1]; exact dd ps
       exact apW (fA::JY::bt) ps (by simp[a4,go,Du,nr]) (by have:=axt bS; simp[this]) (fun _=>q1) dn gF i (axt af) ord hB p5 cap a3 parts dF b7 hR
      ·cases h
     ·cases h
    ·cases h
   ·cases h
  ·cases h
 ·cases h
end Go.bV

namespace Go.bV
open Go Go.Proofs
set_option maxRecDepth 100000
namespace Op
open hp
theorem CB (s:dk) (av:ds s) (al:s.l.length<=1000000) (x:List B) (ag:x.length=32) :bw Tryz.prog GS 41 [aA s,.aH (a5 x)] (.int .i64 (hy x s.l 0)) :=by
 refine bQ Tryz.checked.mixed bj ?_;apply bn Tryz.func41 [];simp[aA];refine cl s.l.length (fun k σ l=>l=[.cells 32 (a5 x)]/\σ 0=cc 32 a5 s/\σ 3=.ptr 0 0 32/\σ 5=.int .i64 k/\∀ (j:Nat) (z:List B),j<k->s.l[j]? = some z->z≠x) ?_ (by simp[aA,dq ag]);rintro k σ l ar ⟨rfl,ck,a6,bm,ak⟩;obtain⟨σ,rfl⟩:=lC ck a6 bm;clear ck a6 bm;simp;refine nE (fun h=>?_) (fun h=>?_)
 ·simp only[decide_eq_true_eq] at h;obtain⟨y,aI,en⟩:=bJ (l:=s.l) (k:=k) (by omega);have aS:IntKind.i64.wrap ((k:Int)+1)=((k+1:Nat) :Int) :=by rw[IntKind.wrap_i64]; omega
  simp[aI,dq (av y en),dq ag,awR,N0 (av y en) ag];by_cases am:y=x
  ·have ed:=Fv (n:=0) aI ak am;simp[am];exact aU (by rw[ed]; simp) rfl
  ·simp[am,aS];refine⟨by omega,fun j z ai aw=>?_⟩;by_cases fu:j=k
   ·subst fu; rw[aI] at aw; obtain rfl:=Option.some.inj aw; exact fun h=>am h
   ·exact ak j z (by omega) aw
 ·simp[h];have se:k=s.l.length:=by simp at h; omega
  exact aU (by rw[Og fun j z aw=>ak j z (by rw[se]; exact (awQ.1 aw).1) aw]) rfl
def na (l ps:List (List B)) :Bool:=decide (∀ p∈ps,p∈l)
theorem Ps (s:dk) (av:ds s) (al:s.l.length<=1000000) (t:dk) (aX:ds t) (ln:t.l.length<=1000000) :bw Tryz.prog GS 59 [aA s,aA t] (.bool (na s.l t.l)) :=by
 refine bQ Tryz.checked.mixed bj ?_;apply bn Tryz.func59 [];have c6:=dd s;have aL:cp (.aq 32) (aA t)=some (.int .i64 t.l.length) :=by simp[aA]
 simp;refine cl t.l.length (fun k σ l=>σ 0=aA s/\σ 1=aA t/\σ 5=.int .i64 k/\∀ (j:Nat) (z:List B),j<k->t.l[j]? = some z->z∈s.l) ?_ (by simp);rintro k σ l ar ⟨ck,aK,bm,ak⟩;obtain⟨σ,rfl⟩:=lC ck aK bm;clear ck aK bm;by_cases bD:k<t.l.length
 ·obtain⟨y,aI,en⟩:=bJ bD;have aS:IntKind.i64.wrap ((k:Int)+1)=((k+1:Nat) :Int) :=by rw[IntKind.wrap_i64]; omega
  have bT:cN (.aq 32) (aA t) (.int .i64 (k:Int))=some (.bM (a5 y) 0) :=by simp[aA,aI]
  have o6:=g2 y;have eP:=CB s av al y (aX y en);have fI:=dq (aX y en);have Wk:=xy y s.l 0;obtain⟨Y,he⟩:∃ Y,Y=a5 y:=⟨_,rfl⟩
  rw[<-he] at bT o6 eP fI;simp[aL,bD,bT,fI,awR];refine a7 eP (by simp[a4,U.closed,c6,o6]) ?_;by_cases hm:y∈s.l
  ·have ae:¬ hy y s.l 0<0:=by have:=Wk.2 hm; omega
   simp[ae,bD,aS];intro j z ai aw;by_cases fu:j=k
   ·subst fu; rw[aI] at aw; obtain rfl:=Option.some.inj aw; exact hm
   ·exact ak j z (by omega) aw
  ·have ae:hy y s.l 0<0:=by
    rcases Int.lt_or_le (hy y s.l 0) 0 with h | h
    ·exact h
    ·exact absurd (Wk.1 h) hm
   simp[ae];exact aU (congrArg U.bool (decide_eq_false fun h=>hm (h y en)).symm) rfl
 ·have se:k=t.l.length:=by omega
  simp[aL,bD];refine aU (congrArg U.bool (decide_eq_true fun p au=>?_).symm) rfl;obtain⟨j,ai⟩:=aw3.1 au;exact ak j p (by rw[se]; exact (awQ.1 ai).1) ai
theorem ru {l:List (List B)} (h:dR l=true) :∀ {i j:Nat} {a b:List B},i<j->l[i]? = some a->l[j]? = some b->cj a b<0:=by
 have aJ:=of_decide_eq_true h;intro i j
 induction j with
 | zero=>intro a b hf; omega
 | succ j aR=>
  intro a b hf aE af;have et:=(awQ.1 af).1;have ad:=aJ (j+1) et (by omega);obtain⟨c,ah,_⟩:=bJ (l:=l) (k:=j) (by omega);rw[show j+1 - 1=j by omega,gu ah,gu af] at ad;by_cases ahc:i=j
  ·subst ahc;rw[aE] at ah;obtain rfl:=Option.some.inj ah;exact ad
  ·exact A3 _ _ _ (aR (by omega) aE ah) ad
theorem anL {l:List (List B)} (h:dR l=true) {i j:Nat} {a:List B} (aE:l[i]? = some a) (af:l[j]? = some a) :i=j:=by
 rcases ayc i j with ad | ad | ad
 ·have:=ru h ad aE af; rw[rZ] at this; omega
 ·exact ad
 ·have:=ru h ad af aE; rw[rZ] at this; omega
def jv (l:List (List B)) (x:List B) :Nat:=(l.takeWhile fun t=>decide (cj t x<0)).length
theorem LH (x:List B) :∀ {l:List (List B)} {p:Nat},p<=l.length->(∀ (t:Nat) (y:List B),t<p->l[t]? = some y->cj y x<0)->(∀ y,l[p]? = some y->¬ cj y x<0)->jv l x=p
 | [],p,au,_,_=>by simp at au; subst au; rfl
 | y::l,0,_,_,ae=>by
  have:=ae y (by simp);unfold jv;rw[ay4,decide_eq_false this]; rfl
 | y::l,p+1,au,ad,ae=>by
  have aI:=ad 0 y (by omega) (by simp);have aR:=LH x (l:=l) (p:=p) (by simpa using au) (fun t z aX aw=>ad (t+1) z (by omega) (by simpa using aw)) (fun z aw=>ae z (by simpa using aw));unfold jv at aR ⊢;rw[ay4,decide_eq_true aI];simpa using aR
theorem aot (n:Nat) (h:n<9223372036854775808) :cy .shr .u64 (n:Int) .u64 1=some (.int .u64 ((n / 2:Nat) :Int)) :=by
 have:=wF (BitVec.ofNat 64 n) .u64 1;have aM:(u (BitVec.ofNat 64 n) :Int)=n:=by unfold u; rw[axf,aw2 (by omega)]
 have ao:(u (BitVec.ofNat 64 n >>> 1) :Int)=((n / 2:Nat) :Int) :=by
  unfold u; rw[axM,axf,aw2 (by omega),axn]
 rw[aM,ao] at this;exact this
structure abP (s:dk) (X:List U) (x:List B) (m:Nat) (σ:bc) (l:ap) :Prop where
 ex:∃ (i j:Nat),j - i=m/\i<=j/\j<=s.l.length/\l=[.cells 32 X]/\σ 0=aA s/\σ 2=.fn 75 [] []/\σ 4=.ptr 0 0 32/\σ 8=.int .i64 s.l.length/\σ 9=.int .i64 i/\σ 10=.int .i64 j ∧
  (∀ (t:Nat) (y:List B),t<i->s.l[t]? = some y->cj y x<0)/\(∀ (t:Nat) (y:List B),j<=t->s.l[t]? = some y->¬ cj y x<0)
theorem Z6 (s:dk) (av:ds s) (al:s.l.length<=1000000) (x:List B) (ag:x.length=32) (hm:dR s.l=true) :
  bw Tryz.prog GS 96 [aA s,.aH (a5 x),.fn 75 [] []] (.bq [.int .i64 (jv s.l x),.bool (decide (x∈s.l))]) :=by
 refine bQ Tryz.checked.mixed bj ?_;apply bn Tryz.func96 [];have bA:cp (.aq 32) (aA s)=some (.int .i64 s.l.length) :=by simp[aA]
 have bp:=dq ag;have fW:=g2 x;have ft:∀ y∈s.l,bw Tryz.prog GS 75 [.aH (a5 y),.aH (a5 x)] (.int .i64 (cj y x)) :=fun y aI=>wQ y x (av y aI) ag
 obtain⟨X,cW⟩:∃ X,X=a5 x:=⟨_,rfl⟩
 rw[<-cW] at bp fW ft ⊢;simp[bA];refine FJ (abP s X x) ?_ s.l.length _ _ ⟨0,s.l.length,by omega,by omega,by omega,by simp[bp],by simp,by simp,by simp[bp],by simp,by simp,by simp,fun t y h=>by omega,fun t y h ae=>by rw[aw5 h] at ae; cases ae⟩;rintro m σ l ⟨i,j,ih,hf,et,rfl,ck,aW,bi,fT,g4,gg,ad,ae⟩;obtain⟨σ,rfl⟩:=we ck aW bi fT g4 gg;clear ck aW bi fT g4 gg;by_cases aL:i<j
 ·obtain⟨h,aT⟩:∃ h,h=(i+j) / 2:=⟨_,rfl⟩
  have bO:IntKind.i64.wrap ((i:Int)+j)=((i+j:Nat) :Int) :=by rw[IntKind.wrap_i64]; omega
  have w2:IntKind.u64.wrap ((i+j:Nat) :Int)=((i+j:Nat) :Int) :=by rw[Ay,ayw]; unfold u; rw[axf,aw2 (by omega)]
  have cY:=aot (i+j) (by omega);have Aw:IntKind.i64.wrap (h:Int)=(h:Int) :=by rw[IntKind.wrap_i64]; omega
  have C1:IntKind.i64.wrap ((h:Int)+1)=((h+1:Nat) :Int) :=by rw[IntKind.wrap_i64]; omega
  have lh:(i:Int)<(j:Int) :=by omega
  rw[<-aT] at cY;obtain⟨y,aI,en⟩:=bJ (l:=s.l) (k:=h) (by omega);have fI:=dq (av y en);have lp:=g2 y;have bT:cN (.aq 32) (aA s) (.int .i64 (h:Int))=some (.bM (a5 y) 0) :=by simp[aA,aI]
  have o6:=ft y en;obtain⟨Y,he⟩:∃ Y,Y=a5 y:=⟨_,rfl⟩
  rw[<-he] at fI lp bT o6;obtain⟨N,fB⟩:∃ N,N=i+j:=⟨_,rfl⟩
  rw[<-fB] at bO w2 cY;simp[aL,bO,w2,cY,Aw,bT,fI,bp,awR];refine⟨L4,a7 o6 (by simp[a4,U.closed,lp,fW]) ?_⟩;by_cases bv:cj y x<0
  ·simp[bv,C1];refine⟨j - (h+1),by omega,h+1,j,rfl,by omega,by omega,by simp,by simp,by simp,by simp,by simp,by simp,by simp,fun t z aX aw=>?_,ae⟩;by_cases NJ:t=h
   ·subst NJ; rw[aI] at aw; obtain rfl:=Option.some.inj aw; exact bv
   ·exact A3 _ _ _ (ru hm (by omega) aw aI) bv
  ·simp[bv];refine⟨h - i,by omega,i,h,rfl,by omega,by omega,by simp,by simp,by simp,by simp,by simp,by simp,by simp,ad,fun t z aX aw dr=>bv ?_⟩;by_cases NJ:t=h
   ·subst NJ; rw[aI] at aw; obtain rfl:=Option.some.inj aw; exact dr
   ·exact A3 _ _ _ (ru hm (by omega) aI aw) dr
 ·have lh:¬ (i:Int)<(j:Int) :=by omega
  obtain rfl:i=j:=by omega
  have ah:=LH x (l:=s.l) (p:=i) et ad (fun y aI=>ae i y (awU _) aI);have iv:∀ {y:List B},s.l[i]? = some y->(y=x<->x∈s.l) :=fun {y} aI=>by
   constructor
   ·rintro rfl; exact awY aI
   ·intro zJ;obtain⟨t,aX⟩:=aw3.1 zJ;rcases ayc t i with aj | aj | aj
    ·have:=ad t x aj aX; rw[rZ] at this; omega
    ·subst aj; rw[aI] at aX; exact Option.some.inj aX
    ·exact absurd (ru hm aj aI aX) (ae i y (awU _) aI)
  by_cases ec:i<s.l.length
  ·have ahd:(i:Int)<(s.l.length:Int) :=by omega
   obtain⟨y,aI,en⟩:=bJ (l:=s.l) (k:=i) ec;have fI:=dq (av y en);have lp:=g2 y;have bT:cN (.aq 32) (aA s) (.int .i64 (i:Int))=some (.bM (a5 y) 0) :=by simp[aA,aI]
   have o6:=ft y en;have agx:cj y x=0<->x∈s.l:=by
    rw[<-iv aI];exact⟨A2,fun h=>by rw[h]; exact rZ _⟩
   obtain⟨Y,he⟩:∃ Y,Y=a5 y:=⟨_,rfl⟩
   rw[<-he] at fI lp bT o6;simp[ec,bT,fI,bp,awR];refine⟨L4,a7 o6 (by simp[a4,U.closed,lp,fW]) ?_⟩;simp;refine aU ?_ rfl;rw[ah];simp[agx]
  ·have ahd:¬ (i:Int)<(s.l.length:Int) :=by omega
   simp[ec];refine aU ?_ rfl;have cR:¬ x∈s.l:=fun zJ=>by
    obtain⟨t,aX⟩:=aw3.1 zJ;have:=ad t x (by have:=(awQ.1 aX).1; omega) aX;rw[rZ] at this; omega
   rw[ah,decide_eq_false cR]
theorem LD {l:List (List B)} (hm:dR l=true) {k:Nat} {x:List B} (h:l[k]? = some x) :jv l x=k:=
 LH x (ayz (awQ.1 h).1) (fun t y aX aI=>ru hm aX aI h) (fun y aI=>by rw[h] at aI; obtain rfl:=Option.some.inj aI; rw[rZ]; omega)
structure bz where
 ids:dk
 ops:b8 bu
def bF (s:b8 bu) :U:=cc 11 bd s
def b3 (g:bz) :List U:=[aA g.ids,bF g.ops]
def df (g:bz) :U:=.aH (b3 g)
structure ho (g:bz) :Prop where
 ids:ds g.ids
 ops:∀ o∈g.ops.l,jr o
 li:g.ids.l.length<=1000000
 cK:g.ops.l.length<=1000000
theorem mc (s:b8 bu) :(bF s).closed=true:=uT mK s
theorem A0 (g:bz) :a4 (b3 g)=true:=by have:=dd g.ids; have:=mc g.ops; simp[b3,a4, *]
theorem uS (g:bz) :(df g).closed=true:=by simp[df,U.closed,A0]
def e1 (ops:List bu) (i:Nat) :List (List B) :=match ops[i]? with | some o=>o.bo.l | none=>[]
theorem Cy {ops:List bu} {i:Nat} {o:bu} (h:ops[i]? = some o) :e1 ops i=o.bo.l:=by unfold e1; rw[h]
inductive rJ (ids:List (List B)) (ops:List bu) :Nat->Prop
 | mk (i:Nat) (ay:i<ids.length) (au:∀ p∈e1 ops i,p∈ids) (ax:∀ p∈e1 ops i,∀ j,ids[j]? = some p->rJ ids ops j) :rJ ids ops i
theorem rJ.lt {ids:List (List B)} {ops:List bu} {i:Nat} (h:rJ ids ops i) :i<ids.length:=by cases h; assumption
def oO (ids:List (List B)) :Prop:=∀ (i j:Nat) (x:List B),ids[i]? = some x->ids[j]? = some x->i=j
theorem xx {ids:List (List B)} (h:dR ids=true) :oO ids:=fun _ _ _ ad ae=>anL h ad ae
theorem wa:∀ {a b:List Nat},a.Nodup->(∀ x∈a,x∈b)->a.length<=b.length
 | [],_,_,_=>ax2 _
 | x::a,b,aC,ak=>by
  rw[azT] at aC;have ag:=ak x (by simp);have aR:=wa (b:=b.erase x) aC.2 (fun y aI=>(List.mem_erase_of_ne (fun e=>aC.1 (by rw[<-e]; exact aI))).2 (ak y (by simp[aI])));rw[List.length_erase_of_mem ag] at aR;have:=List.length_pos_of_mem ag;simp; omega
def qF (ids:List (List B)) (ops:List bu) (out:List Nat) (i:Nat) :Bool:=decide (i∉out)&&na (out.map (b2 ids)) (e1 ops i)
def ku (ids:List (List B)) (ops:List bu) (out:List Nat) :Option Nat:=(List.range ops.length).find? (qF ids ops out)
def gk (ids:List (List B)) (ops:List bu) :Nat->List Nat
 | 0=>[]
 | k+1=>match ku ids ops (gk ids ops k) with | some i=>gk ids ops k++[i] | none=>gk ids ops k
def p9 (ids:List (List B)) (ops:List bu) :List Nat:=gk ids ops ops.length
theorem alx {ids:List (List B)} {ops:List bu} {out:List Nat} {i:Nat} (h:ku ids ops out=some i) :i<ops.length/\i∉out/\∀ p∈e1 ops i,p∈out.map (b2 ids) :=by
 have ad:=List.find?_some h;have ae:=azD h;unfold qF at ad;rw[awZ,decide_eq_true_eq] at ad;exact⟨axz.1 ae,ad.1,of_decide_eq_true ad.2⟩
theorem alw {ids:List (List B)} {ops:List bu} {out:List Nat} (h:ku ids ops out=none) {i:Nat} (ay:i<ops.length) (av:i∉out) :¬ ∀ p∈e1 ops i,p∈out.map (b2 ids) :=by
 intro aT;have:=List.find?_eq_none.1 h i (axz.2 ay);apply this;unfold qF;rw[awZ];exact⟨decide_eq_true av,decide_eq_true aT⟩
theorem alu {ids:List (List B)} {ops:List bu} {out:List Nat} {i:Nat} (ay:i<ops.length) (h:qF ids ops out i=true) (af:∀ j,j<i->qF ids ops out j=false) :ku ids ops out=some i:=by
 unfold ku;rw[azL];exact⟨h,by simpa using ay,fun j ai=>by rw[af j ai]; rfl⟩
theorem alv {ids:List (List B)} {ops:List bu} {out:List Nat} (af:∀ j,j<ops.length->qF ids ops out j=false) :ku ids ops out=none:=by
 unfold ku;rw[List.find?_eq_none];intro j ai;rw[af j (axz.1 ai)]; simp
theorem FY {ids:List (List B)} {ops:List bu} {k i:Nat} (h:ku ids ops (gk ids ops k)=some i) :gk ids ops (k+1)=gk ids ops k++[i] :=by
 show (match ku ids ops (gk ids ops k) with | some i=>gk ids ops k++[i] | none=>gk ids ops k)=_;rw[h]
theorem JS {ids:List (List B)} {ops:List bu} {k:Nat} (h:ku ids ops (gk ids ops k)=none) :gk ids ops (k+1)=gk ids ops k:=by
 show (match ku ids ops (gk ids ops k) with | some i=>gk ids ops k++[i] | none=>gk ids ops k)=_;rw[h]
theorem FX (ids:List (List B)) (ops:List bu) (aC:ids.length=ops.length) (ai:oO ids) :∀ k,(gk ids ops k).Nodup/\(gk ids ops k).length<=k/\∀ i∈gk ids ops k,i<ops.length/\rJ ids ops i
 | 0=>⟨List.nodup_nil,awU _,fun i ay=>by cases ay⟩
 | k+1=>by
  obtain⟨ad,ae,aj⟩:=FX ids ops aC ai k;cases ag:ku ids ops (gk ids ops k) with
  | none=>rw[JS ag]; exact⟨ad,by omega,aj⟩
  | some i=>
   rw[FY ag];obtain⟨a8,bh,b6⟩:=alx ag;refine⟨?_,by simp; omega,fun j BK=>?_⟩
   ·rw[List.nodup_append];refine⟨ad,by simp,fun x ag y aI e=>?_⟩;rw[axQ] at aI;subst e;rw[aI] at ag;exact bh ag
   ·rw[axN,axQ] at BK;rcases BK with BK | rfl
    ·exact aj j BK
    ·have eP:∀ t,t<ids.length->ids[t]? = some (b2 ids t) :=fun t aX=>by
      obtain⟨x,ag,_⟩:=bJ (l:=ids) aX;rw[ag,gu ag]
     refine⟨a8,.mk j (by omega) (fun p au=>?_) fun p au mV gX=>?_⟩
     ·obtain⟨t,aX,rfl⟩:=axi.1 (b6 p au);exact awY (eP t (by have:=(aj t aX).1; omega))
     ·obtain⟨t,aX,rfl⟩:=axi.1 (b6 p au);obtain⟨cT,dw⟩:=aj t aX;rw[ai mV t _ gX (eP t (by omega))];exact dw
theorem O4 {ids:List (List B)} {ops:List bu} {k:Nat} (h:ku ids ops (gk ids ops k)=none) :∀ m,gk ids ops (k+m)=gk ids ops k
 | 0=>rfl
 | m+1=>by
  have aR:=O4 h m;rw[<-aym,JS (by rw[aR]; exact h),aR]
theorem Yj {n:Nat} {l:List Nat} (aC:l.Nodup) (al:l.length=n) (af:∀ i∈l,i<n) :∀ i,i<n->i∈l:=by
 intro i ay;apply Classical.byContradiction;intro cR;have:=wa (a:=i::l) (b:=List.range n) (azT.2 ⟨cR,aC⟩) (fun x ag=>by
  rw[axU] at ag;rcases ag with rfl | ag
  ·exact axz.2 ay
  ·exact axz.2 (af x ag))
 simp[al] at this;omega
theorem YC {ids:List (List B)} {ops:List bu} (aC:ids.length=ops.length) (ai:oO ids) :(p9 ids ops).length=ops.length<->∀ i,i<ops.length->rJ ids ops i:=by
 obtain⟨ad,ae,aj⟩:=FX ids ops aC ai ops.length;constructor
 ·intro h i ay;exact (aj i (Yj ad h (fun i ay=>(aj i ay).1) i ay)).2
 ·intro h;have ig:∀ k,k<=ops.length->(gk ids ops k).length=k\/∃ m,m<=k/\ku ids ops (gk ids ops m)=none:=by
   intro k
   induction k with
   | zero=>intro _; exact .inl rfl
   | succ k aR=>
    intro ar;rcases aR (by omega) with aD | ⟨m,hm,aD⟩
    ·cases ag:ku ids ops (gk ids ops k) with
     | none=>exact .inr ⟨k,by omega,ag⟩
     | some i=>left; rw[FY ag]; simp[aD]
    ·exact .inr ⟨m,by omega,aD⟩
  rcases ig ops.length (awU _) with aD | ⟨m,hm,aD⟩
  ·exact aD
  ·have bE:gk ids ops ops.length=gk ids ops m:=by
    have:=O4 aD (ops.length - m)
    rwa [show m+(ops.length - m)=ops.length by omega] at this
   have dE:∀ i,rJ ids ops i->i<ops.length->i∈gk ids ops m:=by
    intro i ax
    induction ax with
    | mk i ay au ax aR=>
     intro aL;apply Classical.byContradiction;intro cR;refine alw aD aL cR fun p zC=>?_
     obtain⟨j,zl⟩:=aw3.1 (au p zC);exact axi.2 ⟨j,aR p zC j zl (by have:=(awQ.1 zl).1; omega),gu zl⟩
   show (gk ids ops ops.length).length=ops.length;rw[bE];have a2:=wa (a:=List.range ops.length) (b:=gk ids ops m) azM fun i ay=>dE i (h i (axz.1 ay)) (axz.1 ay)
   rw[List.length_range] at a2;rw[bE] at ae;omega
theorem aeS (g:bz) (ax:ho g) (az:dR g.ids.l=true) (x:List B) (ag:x.length=32) :bw Tryz.prog GS 69 [df g,.aH (a5 x)] (.bq [.int .i64 (jv g.ids.l x),.bool (decide (x∈g.ids.l))]) :=by
 refine bQ Tryz.checked.mixed bj ?_;apply bn Tryz.func69 [];have fF:=dd g.ids;have ez:=mc g.ops;have n9:=g2 x;have bp:=dq ag;have ak:=Z6 g.ids ax.ids ax.li x ag az;obtain⟨X,cW⟩:∃ X,X=a5 x:=⟨_,rfl⟩
 rw[<-cW] at ak n9 bp ⊢;simp[df,b3,bp,awR];refine a7 ak (by simp[a4,U.closed,fF,n9]) ?_;simp;exact aU rfl rfl
def h9 (n:Nat) :List U:=[.int .i64 (n:Int)]
def oY (b:Bool) :List U:=[.bool b]
def dz {α:Type} (l:List α) :b8 α:=match l with | []=>none | x::r=>some (x::r)
theorem eI {α:Type} (l:List α) :(dz l).l=l:=by cases l<;>rfl
theorem ur {α:Type} (l:List α) :(dz l).isNone=l.isEmpty:=by cases l<;>rfl
def LS (l:b8 Nat) :U:=cc 1 h9 l
theorem ZF {α:Type} (zero:U) (n:Nat) :dH [zero] n=List.replicate n zero:=by
 rw[Gc]
 induction n with
 | zero=>rfl
 | succ n aR=>rw[axJ,axD,aR,axJ]; rfl
theorem FL {z by_ n:Nat} {k k' : IntKind} {zero:List U} {l:ap} (aw:zero.length=z) (ad:n<9223372036854775808) (ae:by_*n<=ci) :
  sD z by_ zero l (.int k (n:Int)) (.int k' (n:Int))=some (.aq z l.length 0 n n (n*z),l++[.cells (n*z) (dH zero n)])/\bL z (l++[.cells (n*z) (dH zero n)]) (.aq z l.length 0 n n (n*z)) l.length (List.replicate n zero) :=by
 constructor
 ·have aj:(by_:Int)*(n:Int)<=(ci:Int) :=by rw[<-Int.natCast_mul]; omega
  simp only[sD,axq];rw[if_pos ⟨by omega,by omega,by omega,aj⟩]
 ·refine .aq l.length n n (n*z) (dH zero n) _ (by rw[aw6 (awU _)]; simp) (by rw[Gd,aw]) (by simp) (fun e am=>by rw[aye am]; exact aw) (awU _) (awU _) ?_;rw[awR (by rw[Gd,aw]; omega),Gc]
def r0 (n:Nat) (out:List Nat) :List Bool:=(List.range n).map fun i=>decide (i∈out)
theorem HC {n:Nat} {out:List Nat} {i:Nat} (h:i<n) :(r0 n out)[i]? = some (decide (i∈out)) :=by
 unfold r0; rw[awV,axu h]; rfl
theorem DH (n:Nat) (out:List Nat) :(r0 n out).length=n:=by simp[r0]
theorem ad8 {n:Nat} {out:List Nat} {i:Nat} (h:i<n) :(r0 n out).set i true=r0 n (out++[i]) :=by
 apply axE;intro j;by_cases ai:j<n
 ·rw[HC ai,aw4];by_cases hf:i=j
  ·subst hf; simp[DH,h]
  ·rw[if_neg hf,HC ai];simp[Ne.symm hf]
 ·rw[aw5 (by simp[DH]; omega),aw5 (by simp[DH]; omega)]
theorem ad7 (n:Nat) :r0 n []=List.replicate n false:=by
 apply axE;intro j;by_cases ai:j<n
 ·rw[HC ai]; simp[ai]
 ·rw[aw5 (by simp[DH]; omega),aw5 (by simp; omega)]
theorem O1 {cs:List U} {o:Nat} {c:U} (h:(cs.drop o).take 1=[c]) :cs[o]? = some c:=by
 have ad:((cs.drop o).take 1)[0]? = some c:=by rw[h]; rfl
 rw[axm (by omega),axv] at ad;exact ad
structure ab5 (g:bz) (out:List Nat) (fo gV h5:U) (rest:ap) :Prop where
 ex:∃ kS j4 mv,bL 1 (.cells 2 (b3 g) ::rest) fo kS (out.map h9)/\bL 32 (.cells 2 (b3 g) ::rest) gV j4 ((out.map (b2 g.ids.l)).map a5)/\bL 1 (.cells 2 (b3 g) ::rest) h5 mv ((r0 g.ops.l.length out).map oY) ∧
  1<=mv/\cz h5=false/\cz fo=out.isEmpty/\cz gV=out.isEmpty/\(out=[]\/(1<=kS/\1<=j4/\kS≠j4/\kS≠mv/\j4≠mv))
set_option maxHeartbeats 4000000 in
theorem am4 (g:bz) (ax:ho g) (al:g.ids.l.length=g.ops.l.length) (ai:oO g.ids.l) :bw Tryz.prog GS 174 [df g] (LS (dz (p9 g.ids.l g.ops.l))) :=by
 refine bQ Tryz.checked.mixed bj ?_;apply bn Tryz.func174 [[[0],[1],[2],[3],[4],[6],[7],[8],[9],[10],[11],[12],[5,12,11,8]]];have jZ:ci=140737488355328:=rfl;have fF:=dd g.ids;have ez:=mc g.ops;have cG:cp (.aq 11) (bF g.ops)=some (.int .i64 g.ops.l.length) :=by simp[bF]
 have bA:=ax.cK;obtain⟨ih,lj⟩:=FL (z:=1) (by_:=1) (n:=g.ops.l.length) (k:=.i64) (k':=.i64) (zero:=[U.bool false]) (l:=[aV.cells 2 (b3 g)]) rfl (by omega) (by rw[jZ]; omega);simp only[b3,ayt,ZF (α:=Nat)] at ih lj;simp[df,b3,cG,ih];refine FJ (fun m σ l=>∃ (k:Nat) (rest:ap),l=.cells 2 (b3 g) ::rest/\σ 1=.ptr 0 0 2/\ab5 g (gk g.ids.l g.ops.l k) (σ 3) (σ 4) (σ 5) rest ∧
  ((σ 6=.bool true/\(gk g.ids.l g.ops.l k).length=k/\m=g.ops.l.length - k+1)\/(σ 6=.bool false/\ku g.ids.l g.ops.l (gk g.ids.l g.ops.l k)=none/\k<=g.ops.l.length/\m=0))) ?_ (g.ops.l.length+1) _ _ ?_
 ·rintro m σ l ⟨k,rest,rfl,aK,lN,ak⟩;obtain⟨fo,a6⟩:∃ v,σ 3=v:=⟨_,rfl⟩
  obtain⟨gV,bi⟩:∃ v,σ 4=v:=⟨_,rfl⟩
  obtain⟨h5,bm⟩:∃ v,σ 5=v:=⟨_,rfl⟩
  rw[a6,bi,bm] at lN;obtain⟨out,jY⟩:∃ out,out=gk g.ids.l g.ops.l k:=⟨_,rfl⟩
  rw[<-jY] at lN ak;obtain⟨EW,cM,BJ⟩:=FX g.ids.l g.ops.l al ai k;rw[<-jY] at EW cM BJ;have dP:out.length<=g.ops.l.length:=by
   have:=wa (b:=List.range g.ops.l.length) EW (fun x ag=>axz.2 (BJ x ag).1);simpa using this
  rcases ak with ⟨cD,ar,rfl⟩ | ⟨cD,cR,e6,rfl⟩
  ·obtain⟨σ,rfl⟩:=k1 aK a6 bi bm cD;clear aK a6 bi bm cD;simp;refine cl g.ops.l.length (fun i σ l=>l=.cells 2 (b3 g) ::rest/\σ 1=.ptr 0 0 2/\σ 3=fo/\σ 4=gV/\σ 5=h5/\σ 6=.bool false/\σ 7=.int .i64 i/\∀ j,j<i->qF g.ids.l g.ops.l out j=false) ?_ (by simp);rintro i σ l ay ⟨rfl,aK,a6,bi,bm,cD,ei,ak⟩;obtain⟨σ,rfl⟩:=we aK a6 bi bm cD ei;clear aK a6 bi bm cD ei;by_cases c7:i<g.ops.l.length
   ·obtain⟨o,av,eQ⟩:=bJ c7;have aS:IntKind.i64.wrap ((i:Int)+1)=((i+1:Nat) :Int) :=by rw[IntKind.wrap_i64]; omega
    have bT:cN (.aq 11) (bF g.ops) (.int .i64 (i:Int))=some (.bM (bd o) 0) :=by simp[bF,av]
    obtain⟨kS,j4,mv,p5,kW,xU,a2,FN,z2,sF,bg⟩:=lN;obtain⟨ama,Du,sZ,a8,bh,b6,eW⟩:=xU.q.get (k:=.i64) (i:=i) (e:=oY (decide (i∈out))) (by rw[awV,HC c7]; rfl);have gn:=O1 (c:=.bool (decide (i∈out))) (by simpa [oY] using eW);have mn:=kW.x3 (enc:=a5) (xs:=out.map (b2 g.ids.l)) (fun x=>g2 x) (dz (out.map (b2 g.ids.l))) (by rw[sF,ur]; simp) (eI _);have ah0:ds (dz (out.map (b2 g.ids.l))) :=fun x ag=>by
     rw[eI] at ag;obtain⟨t,aX,rfl⟩:=axi.1 ag;obtain⟨y,aI,en⟩:=bJ (l:=g.ids.l) (k:=t) (by have:=(BJ t aX).1; omega);rw[gu aI]; exact ax.ids y en
    have dE:=Ps (dz (out.map (b2 g.ids.l))) ah0 (by rw[eI]; simp; omega) o.bo (ax.ops o eQ).ids (ax.ops o eQ).len;rw[eI] at dE;have nr:=dd o.bo;have Ew:qF g.ids.l g.ops.l out i=(decide (i∉out)&&na (out.map (b2 g.ids.l)) o.bo.l) :=by unfold qF; rw[Cy av]
    simp only[b3] at bh p5 kW xU mn;by_cases o8:i∈out
    ·simp[b3,cG,c7,a8,bh,gn,o8,aS];intro j ai;by_cases jW:j=i
     ·subst jW; rw[Ew]; simp[o8]
     ·exact ak j (by omega)
    ·simp[b3,cG,c7,a8,bh,gn,o8,aS,bT,bd];refine mA dE (.cons mn (.cons (.same _ nr) .nil)) rfl ?_;by_cases gA:na (out.map (b2 g.ids.l)) o.bo.l=true
     ·rw[gA] at Ew;obtain⟨y,aI,en⟩:=bJ (l:=g.ids.l) (k:=i) (by omega);have oc:cN (.aq 32) (aA g.ids) (.int .i64 (i:Int))=some (.bM (a5 y) 0) :=by simp[aA,aI]
      have fI:=dq (ax.ids y en);obtain⟨Y,he⟩:∃ Y,Y=a5 y:=⟨_,rfl⟩
      rw[<-he] at oc fI;have aiA:bf (rep 32 (.int .u8 0)) 0 Y=Y:=gw (by rw[fI]; rfl);obtain⟨l1,hY⟩:∃ l1,l1=aV.cells 2 [aA g.ids,bF g.ops] ::(rest++[aV.cells 1 [U.int IntKind.i64 (i:Int)],aV.cells 32 Y]) :=⟨_,rfl⟩
      have V2:l1.length=rest.length+3:=by rw[hY]; simp
      have xK:bL 1 l1 fo kS (out.map h9) :=by rw[hY]; exact p5.more _
      have OH:bL 32 l1 gV j4 ((out.map (b2 g.ids.l)).map a5) :=by rw[hY]; exact kW.more _
      have akC:bL 1 l1 h5 mv ((r0 g.ops.l.length out).map oY) :=by rw[hY]; exact xU.more _
      have xi:out=[]->fo=.aG/\gV=.aG:=fun h=>by rw[h] at z2 sF; exact⟨lr.1 z2,lr.1 sF⟩
      have auR:mv<rest.length+1:=by
       rcases xU.lt with h | h
       ·rw[h] at FN; cases FN
       ·simpa using h
      obtain⟨kS,xK,q1,dn,gF,v2⟩:∃ kS,bL 1 l1 fo kS (out.map h9)/\1<=kS/\kS≠mv/\(out=[]\/kS≠j4)/\(kS<rest.length+1\/l1.length<=kS) :=by
       by_cases h:out=[]
       ·have ao:=(xi h).1;rw[ao,h];exact⟨l1.length,.nil _,by omega,by omega,.inl rfl,.inr (awU _)⟩
       ·obtain⟨ad,ae,aj,aD,a2⟩:=bg.resolve_left h;refine⟨kS,xK,ad,aD,.inr aj,.inl ?_⟩;rcases p5.lt with gh | gh
        ·rw[gh] at z2;cases out with
         | nil=>exact absurd rfl h
         | cons=>cases z2
        ·simpa using gh
      obtain⟨aa5,xB,br,aK,aW,a6,bi,bm,cD⟩:=oS (by_:=8) xK (x:=.aq 1 (rest.length+1) 0 1 1 1) (xs:=[h9 i]) (by rw[hY]; simp[de,h9]) (by simp[h9]) (by omega) (by omega) (by rw[jZ]; simp; omega);obtain⟨dj,rfl⟩:∃ dj,br=aV.cells 2 [aA g.ids,bF g.ops] ::dj:=JO (by rw[bi 0 (by omega) (by omega),hY]; rfl);have Mv:(aV.cells 2 [aA g.ids,bF g.ops] ::dj)[rest.length+2]? = some (.cells 32 Y) :=by rw[bi (rest.length+2) (by omega) (by omega),hY]; simp
      have ej:(aV.cells 2 [aA g.ids,bF g.ops] ::dj)[rest.length+1]? = some (.cells 1 [.int .i64 (i:Int)]) :=by rw[bi (rest.length+1) (by omega) (by omega),hY]; simp
      have iX:=akC.frame (l':=aV.cells 2 [aA g.ids,bF g.ops] ::dj) (fun h=>bi mv h (Ne.symm dn));rw[hY] at aK;simp[gA,oc,fI,aiA,awR,aK];refine cU.b1 ?_;simp;have Vh:dj[rest.length+1]? = some (.cells 32 Y) :=by simpa using Mv
      refine⟨⟨Vh,by omega,awR (by omega)⟩,?_⟩;have WN:aa5≠.aG:=fun h=>by have:=(cD.1 h).2; cases this
      have as1:xB<dj.length+1:=by have:=aW.lt.resolve_left WN; simpa using this
      have MW:1<=xB/\xB≠mv:=by rcases bm with h | h<;>omega
      obtain⟨j4,OH,t1,t2,t3,t4⟩:∃ j4,bL 32 (aV.cells 2 [aA g.ids,bF g.ops] ::dj) gV j4 ((out.map (b2 g.ids.l)).map a5)/\1<=j4/\j4≠mv/\j4≠xB/\(j4<dj.length+1\/dj.length+1<=j4) :=by
       by_cases h:out=[]
       ·have ao:=(xi h).2;rw[ao,h];simp at a6;exact⟨dj.length+1,.nil _,by omega,by omega,by omega,.inr (awU _)⟩
       ·obtain⟨ad,ae,aj,aD,a2⟩:=bg.resolve_left h;have bv:j4<rest.length+1:=by
         rcases kW.lt with gh | gh
         ·rw[gh] at sF;cases out with
          | nil=>exact absurd rfl h
          | cons=>cases sF
         ·simpa using gh
        have dr:=gF.resolve_left h;refine⟨j4,OH.frame (fun h=>bi j4 h (Ne.symm dr)),ae,a2,by rcases bm with h | h<;>omega,.inl (by simp at a6; omega)⟩
      obtain⟨aa6,xC,gE,f1,f2,f3,f4,f5,f6⟩:=oS (by_:=32) OH (x:=.aq 32 (rest.length+1+1) 0 1 1 32) (xs:=[Y]) (by simp[de,fI,Vh,awR]) (by simp[fI]) (by omega) (by omega) (by rw[jZ]; simp; omega);obtain⟨rs,rfl⟩:∃ rs,gE=aV.cells 2 [aA g.ids,bF g.ops] ::rs:=JO (by rw[f4 0 (by simp) (by omega)]; rfl);have WO:aa6≠.aG:=fun h=>by have:=(f6.1 h).2; cases this
      have as2:xC<rs.length+1:=by have:=f2.lt.resolve_left WO; simpa using this
      have cY:=aW.frame (l':=aV.cells 2 [aA g.ids,bF g.ops] ::rs) (fun h=>f4 xB h (Ne.symm t3));have C1:=iX.frame (l':=aV.cells 2 [aA g.ids,bF g.ops] ::rs) (fun h=>f4 mv h (Ne.symm t2));obtain⟨p,p3,CY,CZ,apy,aww,Qq⟩:=YF (k:=i) (x:=true) (X:=.bool true) (enc:=oY) rfl C1 (fun _ _=>rfl) (by rw[DH]; exact c7) rfl;simp[f1];refine cU.b1 ?_;simp[CY,CZ];have L0:xC=j4\/dj.length+1<=xC:=by simpa using f5
      have ast:rest.length+3<=dj.length+1:=by rw[V2] at a6; simpa using a6
      have g1:1<=xC:=by rcases L0 with h | h<;>omega
      have gy:xC≠mv:=by rcases L0 with h | h<;>omega
      have yA:xB≠xC:=by rcases L0 with h | h<;>omega
      obtain⟨Pr,rfl⟩:∃ Pr,p3=aV.cells 2 [aA g.ids,bF g.ops] ::Pr:=JO (by rw[Qq 0 (by omega)]; rfl);have hw:ku g.ids.l g.ops.l out=some i:=alu c7 (by rw[Ew]; simp[o8]) ak;have tC:gk g.ids.l g.ops.l (k+1)=out++[i] :=by rw[FY (by rw[<-jY]; exact hw),<-jY]
      have aL:k<g.ops.l.length:=by
       have gh:=(FX g.ids.l g.ops.l al ai (k+1)).1;rw[tC] at gh;have:=wa (b:=List.range g.ops.l.length) gh (fun x ag=>axz.2 (by
        rw[axN,axQ] at ag;rcases ag with ag | rfl
        ·exact (BJ x ag).1
        ·exact c7))
       simp at this; omega
      have er:(out++[i]).map h9=out.map h9++[h9 i] :=by simp
      have kG:((out++[i]).map (b2 g.ids.l)).map a5=(out.map (b2 g.ids.l)).map a5++[Y] :=by
       have ahj:b2 g.ids.l i=y:=gu aI;rw[axc,axc,List.map_singleton,List.map_singleton,ahj,he]
      refine⟨g.ops.l.length - (k+1)+1,by omega,k+1,Pr,rfl,?_,by rw[tC]; simp[ar],rfl⟩;rw[tC];refine⟨⟨xB,xC,mv,?_,?_,?_,a2,FN,?_,?_,.inr ⟨MW.1,g1,yA,MW.2,gy⟩⟩⟩
      ·rw[er]; exact cY.frame (fun h=>Qq xB MW.2)
      ·rw[kG]; exact f2.frame (fun h=>Qq xC gy)
      ·rw[<-ad8 c7]; exact apy
      ·cases ao:cz aa5 with
       | true=>exact absurd (lr.1 ao) WN
       | false=>simp
      ·cases ao:cz aa6 with
       | true=>exact absurd (lr.1 ao) WO
       | false=>simp
     ·rw[ayZ] at gA;rw[gA] at Ew;simp[gA,c7,aS];refine⟨rfl,fun j ai=>?_⟩;by_cases jW:j=i
      ·subst jW; rw[Ew]; simp
      ·exact ak j (by omega)
   ·have as0:i=g.ops.l.length:=by omega
    simp[b3,cG,c7];have cR:ku g.ids.l g.ops.l out=none:=alv fun j ai=>ak j (by omega)
    refine⟨0,by omega,k,by rw[<-jY]; exact lN,by rw[<-jY]; exact cR,by omega,rfl⟩
  ·obtain⟨σ,rfl⟩:=k1 aK a6 bi bm cD;clear aK a6 bi bm cD;simp;obtain⟨kS,j4,mv,p5,kW,xU,a2,FN,z2,sF,bg⟩:=lN;have bE:p9 g.ids.l g.ops.l=out:=by
    unfold p9;have:=O4 (k:=k) (by rw[<-jY]; exact cR) (g.ops.l.length - k);rw[show k+(g.ops.l.length - k)=g.ops.l.length by omega,<-jY] at this;exact this
   rw[bE];exact p5.q.Ac (fun x=>rfl) (dz out) (by rw[z2,ur]) (eI _)
 ·refine⟨0,_,rfl,by simp,?_,.inl ⟨by simp,rfl,rfl⟩⟩;simp;refine⟨⟨0,0,1,.nil 0,.nil 0,?_,by omega,rfl,rfl,rfl,.inl rfl⟩⟩;show bL _ _ _ _ ((r0 g.ops.l.length []).map oY);have:(r0 g.ops.l.length []).map oY=List.replicate g.ops.l.length [U.bool false] :=by rw[ad7,azd]; rfl
  rw[this];exact lj
def xY (ids:List (List B)) (ops:List bu) :Bool:=decide (∀ o∈ops,na ids o.bo.l=true)
def oH (ids:List (List B)) (ops:List bu) :Int:=if dR ids=true then (if xY ids ops=true then (if (p9 ids ops).length=ops.length then 0 else 36) else 40) else 32
theorem anb (g:bz) (ax:ho g) (al:g.ids.l.length=g.ops.l.length) :bw Tryz.prog GS 132 [df g] (.int .i64 (oH g.ids.l g.ops.l)) :=by
 refine bQ Tryz.checked.mixed bj ?_;apply bn Tryz.func132 [[],[[0],[3],[4],[5],[1,4],[2]]];have fF:=dd g.ids;have ez:=mc g.ops;have lQ:=uS g;have cG:cp (.aq 11) (bF g.ops)=some (.int .i64 g.ops.l.length) :=by simp[bF]
 have bA:=ax.cK;have I6:=Zo g.ids ax.ids ax.li;simp[df,b3,cG];refine a7 I6 (by simp[a4,fF]) ?_;by_cases az:dR g.ids.l=true
 ·have ai:=xx az;have lk:=am4 g ax al ai;unfold df b3 at lk lQ;simp[az];refine cl g.ops.l.length (fun k σ l=>l=[.cells 2 [aA g.ids,bF g.ops]]/\σ 1=.ptr 0 0 2/\σ 3=.int .i64 k/\∀ (j:Nat) (o:bu),j<k->g.ops.l[j]? = some o->na g.ids.l o.bo.l=true) ?_ (by simp);rintro k σ l ar ⟨rfl,aK,a6,ak⟩;obtain⟨σ,rfl⟩:=rD aK a6;clear aK a6;by_cases bD:k<g.ops.l.length
  ·obtain⟨o,av,eQ⟩:=bJ bD;have aS:IntKind.i64.wrap ((k:Int)+1)=((k+1:Nat) :Int) :=by rw[IntKind.wrap_i64]; omega
   have bT:cN (.aq 11) (bF g.ops) (.int .i64 (k:Int))=some (.bM (bd o) 0) :=by simp[bF,av]
   have dE:=Ps g.ids ax.ids ax.li o.bo (ax.ops o eQ).ids (ax.ops o eQ).len;have nr:=dd o.bo;simp[cG,bD,bT,bd];refine a7 dE (by simp[a4,fF,nr]) ?_;by_cases gA:na g.ids.l o.bo.l=true
   ·simp[gA,bD,aS];intro j dG fl dT;by_cases fu:j=k
    ·subst fu; rw[av] at dT; obtain rfl:=Option.some.inj dT; exact gA
    ·exact ak j dG (by omega) dT
   ·rw[ayZ] at gA;simp[gA];refine aU (congrArg (U.int .i64) ?_) rfl;have cR:¬ xY g.ids.l g.ops.l=true:=fun h=>by
     have:=of_decide_eq_true h o eQ;rw[gA] at this; cases this
    unfold oH;rw[if_pos az,if_neg cR]
  ·have lg:k=g.ops.l.length:=by omega
   have iT:xY g.ids.l g.ops.l=true:=decide_eq_true fun o eQ=>by
    obtain⟨j,fl⟩:=aw3.1 eQ;exact ak j o (by rw[lg]; exact (awQ.1 fl).1) fl
   have dN:(p9 g.ids.l g.ops.l).length<=g.ops.l.length:=(FX g.ids.l g.ops.l al ai _).2.1;have BP:cp (.aq 1) (LS (dz (p9 g.ids.l g.ops.l)))=some (.int .i64 (p9 g.ids.l g.ops.l).length) :=by unfold LS; rw[lV,eI]
   simp[cG,bD];refine a7 lk (by simp[a4,lQ]) ?_;by_cases aL:(p9 g.ids.l g.ops.l).length<g.ops.l.length
   ·simp[cG,BP,aL];refine aU (congrArg (U.int .i64) ?_) rfl;unfold oH;rw[if_pos az,if_pos iT,if_neg (by omega)]
   ·simp[cG,BP,aL];refine aU (congrArg (U.int .i64) ?_) rfl;unfold oH;rw[if_pos az,if_pos iT,if_pos (by omega)]
 ·rw[ayZ] at az;simp[az];refine aU (congrArg (U.int .i64) ?_) rfl;unfold oH;rw[az]; rfl
def nn (g:bz) (k:Nat) :Bool:=match g.ops.l[k]?,g.ids.l[k]? with
 | some o,some x=>decide (sX o=0)&&decide (nC o=x)
 | _,_=>true
def y4 (g:bz) :Bool:=decide (∀ k,k<g.ops.l.length->nn g k=true)
theorem Bq (g:bz) :y4 g=true<->∀ k,k<g.ops.l.length->nn g k=true:=by unfold y4; rw[decide_eq_true_eq]
def hS (g:bz) :Int:=if 60<g.ops.l.length then 4 else if g.ids.l.length=g.ops.l.length then (if y4 g=true then oH g.ids.l g.ops.l else 8) else 8
theorem HR {g:bz} {k:Nat} {o:bu} {x:List B} (av:g.ops.l[k]? = some o) (ag:g.ids.l[k]? = some x) :nn g k=(decide (sX o=0)&&decide (nC o=x)) :=by
 unfold nn; rw[av,ag]
theorem KA {o:bu} (h:sX o=0) :hC o=0:=by
 unfold sX at h;by_cases aJ:hC o=0
 ·exact aJ
 ·rw[if_neg aJ] at h; exact h
theorem N2 (o:bu) :(nC o).length=32:=by
 unfold nC;split
 ·exact ye _
 ·simp
set_option maxHeartbeats 4000000 in
theorem amT (g:bz) (ax:ho g) :bw Tryz.prog GS 91 [df g] (.int .i64 (hS g)) :=by
 refine bQ Tryz.checked.mixed bj ?_;apply bn Tryz.func91 [[[0],[1],[2],[3],[4],[5],[6],[7],[8],[9],[10],[11],[12],[14],[15],[16],[17],[18],[13,18,15]]];have fF:=dd g.ids;have ez:=mc g.ops;have lQ:=uS g;have cG:cp (.aq 11) (bF g.ops)=some (.int .i64 g.ops.l.length) :=by simp[bF]
 have dO:cp (.aq 32) (aA g.ids)=some (.int .i64 g.ids.l.length) :=by simp[aA]
 have bA:=ax.cK;by_cases o1:60<(g.ops.l.length:Int)
 ·simp[df,b3,cG,o1];refine aU (congrArg (U.int .i64) ?_) rfl;unfold hS; rw[if_pos (by omega)]
 by_cases al:g.ids.l.length=g.ops.l.length
 ·have pY:=anb g ax al;unfold df b3 at pY lQ;have dx:(g.ids.l.length:Int)=(g.ops.l.length:Int) :=by omega
  simp[df,b3,cG,dO,o1,dx];refine cl g.ops.l.length (fun k σ l=>l=[.cells 2 [aA g.ids,bF g.ops]]/\σ 1=.ptr 0 0 2/\σ 3=.int .i64 k/\∀ j,j<k->nn g j=true) ?_ (by simp);rintro k σ l ar ⟨rfl,aK,a6,ak⟩;obtain⟨σ,rfl⟩:=rD aK a6;clear aK a6;by_cases bD:k<g.ops.l.length
  ·obtain⟨o,av,eQ⟩:=bJ bD;obtain⟨x,ag,c3⟩:=bJ (l:=g.ids.l) (k:=k) (by omega);have lR:=HR av ag;have aS:IntKind.i64.wrap ((k:Int)+1)=((k+1:Nat) :Int) :=by rw[IntKind.wrap_i64]; omega
   have bT:cN (.aq 11) (bF g.ops) (.int .i64 (k:Int))=some (.bM (bd o) 0) :=by simp[bF,av]
   have zj:cN (.aq 32) (aA g.ids) (.int .i64 (k:Int))=some (.bM (a5 x) 0) :=by simp[aA,ag]
   have ao:=anl o (ax.ops o eQ);have o5:=mK o;have bp:=dq (ax.ids x c3);have dP:(bd o).length=11:=rfl;have hK:¬ nn g k=true->hS g=8:=fun h=>by
    unfold hS;rw[if_neg (by omega),if_pos al,if_neg fun aT=>h ((Bq g).1 aT k bD)]
   by_cases nB:sX o=0
   ·have aJ:=KA nB;have vu:=am2 o (ax.ops o eQ) (by have:=z5 aJ; omega);have kN:nC o=i2 (iZ o) :=by unfold nC; rw[if_pos aJ]
    rw[<-kN] at vu;have heq:=zM (N2 o) (ax.ids x c3);change bw Tryz.prog GS 131 [.aH (bd o)] (.aH (a5 (nC o))) at vu;obtain⟨I,lN⟩:∃ I,I=a5 (nC o) :=⟨_,rfl⟩
    rw[<-lN] at vu heq;rw[nB] at ao;obtain⟨O,eO⟩:∃ O,O=bd o:=⟨_,rfl⟩
    obtain⟨X,cW⟩:∃ X,X=a5 x:=⟨_,rfl⟩
    rw[<-eO] at bT ao vu o5 dP;rw[<-cW] at zj bp heq;simp[cG,bD,bT,dP,awR];refine a7 ao (by simp[a4,U.closed,o5]) ?_;simp[dP,zj,bp,bT,awR];refine a7 vu (by simp[a4,U.closed,o5]) ?_;by_cases ed:nC o=x
    ·simp[heq,ed,bD,aS,bp,awR];intro j ai;by_cases fu:j=k
     ·subst fu; rw[lR]; simp[nB,ed]
     ·exact ak j (by omega)
    ·have af:¬ nn g k=true:=fun h=>by rw[lR] at h; simp[ed] at h
     simp[heq,ed,bp,awR];exact aU (congrArg (U.int .i64) (hK af).symm) rfl
   ·have af:¬ nn g k=true:=fun h=>by rw[lR] at h; simp[nB] at h
    simp[cG,bD,bT,dP,awR];refine a7 ao (by simp[a4,U.closed,o5]) ?_;simp[nB];exact aU (congrArg (U.int .i64) (hK af).symm) rfl
  ·have lg:k=g.ops.l.length:=by omega
   simp[cG,bD];refine a7 pY (by simp[a4,lQ]) ?_;simp;refine aU (congrArg (U.int .i64) ?_) rfl;unfold hS;rw[if_neg (by omega),if_pos al,if_pos ((Bq g).2 fun j ai=>ak j (by omega))]
 ·have dx:¬ (g.ids.l.length:Int)=(g.ops.l.length:Int) :=by omega
  simp[df,b3,cG,dO,o1,dx];refine aU (congrArg (U.int .i64) ?_) rfl;unfold hS; rw[if_neg (by omega),if_neg al]
def pR (ids:List (List B)) (D:List Nat) (p:List B) :Nat:=(D.map fun a=>if p == b2 ids a then 1 else 0).sum
def jJ (ids:List (List B)) (D:List Nat) (L:List (List B)) :Nat:=(D.map fun a=>L.count (b2 ids a)).sum
theorem aoY (ids:List (List B)) (D:List Nat) :jJ ids D []=0:=by
 unfold jJ
 induction D with
 | nil=>rfl
 | cons a D aR=>rw[axk,ayM,aR]; rfl
theorem aaC (ids:List (List B)) (p:List B) (L:List (List B)) :∀ D,jJ ids D (p::L)=jJ ids D L+pR ids D p
 | []=>rfl
 | a::D=>by
  have aR:=aaC ids p L D;unfold jJ pR at aR ⊢;rw[axk,ayM,axk,ayM,axk,ayM,aR,List.count_cons];omega
theorem Qb (ids:List (List B)) (D:List Nat) (a:Nat) (L:List (List B)) :jJ ids (D++[a]) L=jJ ids D L+L.count (b2 ids a) :=by
 unfold jJ; rw[axc,List.sum_append]; simp
theorem Rp {ids:List (List B)} (ai:oO ids) {i j:Nat} (ay:i<ids.length) (et:j<ids.length) (h:b2 ids i=b2 ids j) :i=j:=by
 obtain⟨x,ag,_⟩:=bJ ay;obtain⟨y,aI,_⟩:=bJ et;rw[gu ag,gu aI] at h;subst h;exact ai i j x ag aI
theorem VU {ids:List (List B)} {p:List B}:∀ {D:List Nat},(∀ a∈D,b2 ids a≠p)->pR ids D p=0
 | [],_=>rfl
 | a::D,h=>by
  have aR:=VU (ids:=ids) (p:=p) (D:=D) fun b af=>h b (by simp[af])
  have aE:(p == b2 ids a)=false:=by rw[beq_eq_false_iff_ne]; exact Ne.symm (h a (by simp))
  unfold pR at aR ⊢;rw[axk,ayM,aR,aE]; rfl
theorem VT {ids:List (List B)} (ai:oO ids) {p:List B}:∀ {D:List Nat},D.Nodup->(∀ a∈D,a<ids.length)->pR ids D p<=1/\(pR ids D p=1<->∃ a∈D,b2 ids a=p)
 | [],_,_=>⟨ax2 _,Iff.intro (fun h=>(by cases h)) (fun ⟨a,aE,_⟩=>(by cases aE))⟩
 | a::D,aC,af=>by
  rw[azT] at aC;obtain⟨cX,dY⟩:=VT (p:=p) ai aC.2 (fun b bN=>af b (by simp[bN]));by_cases h:b2 ids a=p
  ·have aw:pR ids D p=0:=VU fun b Vo BB=>aC.1 (by rw[Rp ai (af a (by simp)) (af b (by simp[Vo])) (h.trans BB.symm)]; exact Vo)
   have aE:(p == b2 ids a)=true:=by rw[h]; simp
   have e:pR ids (a::D) p=1:=by
    unfold pR at aw ⊢;rw[axk,ayM,aw,aE]; rfl
   rw[e];exact⟨awU _,fun _=>⟨a,by simp,h⟩,fun _=>rfl⟩
  ·have aE:(p == b2 ids a)=false:=by rw[beq_eq_false_iff_ne]; exact Ne.symm h
   have e:pR ids (a::D) p=pR ids D p:=by
    unfold pR;rw[axk,ayM,aE]; simp
   rw[e];refine⟨cX,dY.trans ⟨fun ⟨b,gB,ej⟩=>⟨b,by simp[gB],ej⟩,fun ⟨b,gB,ej⟩=>?_⟩⟩;rw[axU] at gB;rcases gB with rfl | gB
   ·exact absurd ej h
   ·exact⟨b,gB,ej⟩
theorem Qc {ids:List (List B)} (ai:oO ids) {D:List Nat} (aC:D.Nodup) (af:∀ a∈D,a<ids.length) :∀ L:List (List B),jJ ids D L<=L.length/\(jJ ids D L=L.length<->∀ p∈L,∃ a∈D,b2 ids a=p)
 | []=>by rw[aoY]; exact⟨awU _,Iff.intro (fun _ p au=>by cases au) (fun _=>rfl)⟩
 | p::L=>by
  obtain⟨cX,dY⟩:=Qc ai aC af L;obtain⟨ad,ae⟩:=VT (p:=p) ai aC af;rw[aaC,axa];refine⟨by omega,fun h=>?_,fun h=>?_⟩
  ·have aS:jJ ids D L=L.length:=by omega
   have bt:pR ids D p=1:=by omega
   intro q aN;rw[axU] at aN;rcases aN with rfl | aN
   ·exact ae.1 bt
   ·exact dY.1 aS q aN
  ·have aS:=dY.2 fun q aN=>h q (by simp[aN])
   have bt:=ae.2 (h p (by simp));omega
structure KQ (ids:List (List B)) (ops:List bu) (cx:List (List Nat)) :Prop where
 len:cx.length=ops.length
 cnt:∀ (a:Nat) (row:List Nat),cx[a]? = some row->∀ k,k<ops.length->row.count k=(e1 ops k).count (b2 ids a)
 lt:∀ (a:Nat) (row:List Nat),cx[a]? = some row->∀ k∈row,k<ops.length
structure s8 (ids:List (List B)) (ops:List bu) (row:List Nat) (d j:Nat) (R:List Nat) (W:List Int) :Prop where
 sG:R.Nodup
 pH:∀ k∈R,k<ops.length/\rJ ids ops k
 dl:d<=R.length
 wl:W.length=ops.length
 w:∀ k,k<ops.length->W[k]? = some (((e1 ops k).length:Int) - jJ ids (R.take d) (e1 ops k) - (row.take j).count k)
 r:∀ k,k<ops.length->(k∈R<->W[k]? = some 0)
theorem aj5 {ids:List (List B)} {ops:List bu} (al:ids.length=ops.length) (ai:oO ids) {cx:List (List Nat)} (af:KQ ids ops cx) {a:Nat} {row:List Nat} {d j:Nat} {R:List Nat} {W:List Int}
  (h:s8 ids ops row d j R W) (aE:R[d]? = some a) (b0:cx[a]? = some row) {k:Nat} (ar:row[j]? = some k) :
  ∃ x:Int,W[k]? = some x/\1<=x/\x<=(e1 ops k).length/\s8 ids ops row d (j+1) (if x - 1=0 then R++[k] else R) (W.set k (x - 1)) :=by
 have e6:=af.lt a row b0 k (awY ar);have Io:=af.cnt a row b0 k e6;have ji:=(awQ.1 aE).1;have hx:R.take (d+1)=R.take d++[a] :=by rw[axe,aE]; rfl
 have ahM:(R.take (d+1)).Nodup:=List.Sublist.nodup (azC _ _) h.sG;have q5:∀ b∈R.take (d+1),b<ids.length:=fun b bN=>by have:=(h.pH b (axp bN)).1; omega
 obtain⟨c0,iC⟩:=Qc ai ahM q5 (e1 ops k);rw[hx,Qb,<-Io] at c0;have mf:(row.take (j+1)).count k=(row.take j).count k+1:=by
  rw[axe,ar,ayS]; simp
 have mP:(row.take (j+1)).count k<=row.count k:=List.Sublist.count_le _ (azC _ _);have aP:=h.w k e6;obtain⟨x,ag⟩:∃ x:Int,x=((e1 ops k).length:Int) - jJ ids (R.take d) (e1 ops k) - (row.take j).count k:=⟨_,rfl⟩
 rw[<-ag] at aP;have B9:1<=x:=by omega
 have VZ:k∉R:=fun hm=>by
  have:=(h.r k e6).1 hm;rw[aP] at this;have:=Option.some.inj this;omega
 refine⟨x,aP,B9,by omega,?_⟩;have V0:k<W.length:=by rw[h.wl]; exact e6
 have Fb:(if x - 1=0 then R++[k] else R).take d=R.take d:=by
  split
  ·rw[axs (by omega)]
  ·rfl
 have pT:x - 1=0->rJ ids ops k:=fun aJ=>by
  have heq:jJ ids (R.take (d+1)) (e1 ops k)=(e1 ops k).length:=by rw[hx,Qb,<-Io]; omega
  have dE:=iC.1 heq;have fG:∀ t,t<ids.length->ids[t]? = some (b2 ids t) :=fun t aX=>by
   obtain⟨y,aI,_⟩:=bJ (l:=ids) aX;rw[aI,gu aI]
  refine .mk k (by omega) (fun p au=>?_) fun p au mV gX=>?_
  ·obtain⟨t,aX,rfl⟩:=dE p au;exact awY (fG t (q5 t aX))
  ·obtain⟨t,aX,rfl⟩:=dE p au;rw[ai mV t _ gX (fG t (q5 t aX))];exact (h.pH t (axp aX)).2
 refine⟨?_,fun y aI=>?_,?_,by simpa using h.wl,fun y aI=>?_,fun y aI=>?_⟩
 ·split
  ·rw[List.nodup_append];refine⟨h.sG,by simp,fun u aM v ao e=>?_⟩;rw[axQ] at ao;subst e;rw[ao] at aM;exact VZ aM
  ·exact h.sG
 ·split at aI
  ·rename_i aJ;rw[axN,axQ] at aI;rcases aI with aI | rfl
   ·exact h.pH y aI
   ·exact⟨e6,pT aJ⟩
  ·exact h.pH y aI
 ·split
  ·simp; have:=h.dl; omega
  ·exact h.dl
 ·rw[Fb,aw4];by_cases zn:k=y
  ·subst zn;rw[if_pos rfl,if_pos V0,mf];congr 1;omega
  ·rw[if_neg zn,h.w y aI,axe,ar,ayS];have:([k] :List Nat).count y=0:=by rw[ay0]; simp[zn]
   simp only[Option.toList_some,this,ayW]
 ·rw[aw4];by_cases zn:k=y
  ·subst zn;rw[if_pos rfl,if_pos V0];by_cases aJ:x - 1=0
   ·rw[if_pos aJ]; simp[aJ]
   ·rw[if_neg aJ];exact⟨fun hm=>absurd hm VZ,fun aT=>absurd (Option.some.inj aT) aJ⟩
  ·rw[if_neg zn,<-h.r y aI];split
   ·rw[axN,axQ];exact⟨fun h=>h.resolve_right (Ne.symm zn),.inl⟩
   ·exact Iff.rfl
theorem aj2 {ids:List (List B)} {ops:List bu} {cx:List (List Nat)} (af:KQ ids ops cx) {a:Nat} {row v6:List Nat} {d:Nat} {R:List Nat} {W:List Int}
  (h:s8 ids ops row d row.length R W) (aE:R[d]? = some a) (b0:cx[a]? = some row) :s8 ids ops v6 (d+1) 0 R W:=by
 have hx:R.take (d+1)=R.take d++[a] :=by rw[axe,aE]; rfl
 refine⟨h.sG,h.pH,(awQ.1 aE).1,h.wl,fun k ar=>?_,h.r⟩;rw[h.w k ar,hx,Qb,axo,af.cnt a row b0 k ar,ayb,List.count_nil];congr 1;omega
theorem aj3 {ids:List (List B)} {ops:List bu} {row v6:List Nat} {d:Nat} {R:List Nat} {W:List Int} (h:s8 ids ops row d 0 R W) :s8 ids ops v6 d 0 R W:=
 ⟨h.sG,h.pH,h.dl,h.wl,fun k ar=>by rw[h.w k ar,ayb,ayb],h.r⟩
theorem aj4 {ids:List (List B)} {ops:List bu} (al:ids.length=ops.length) :s8 ids ops [] 0 0 ((List.range ops.length).filter fun k=>(e1 ops k).isEmpty) ((List.range ops.length).map fun k=>((e1 ops k).length:Int)) :=by
 refine⟨List.Sublist.nodup List.filter_sublist azM,fun k ar=>?_,ax2 _,by simp,fun k ar=>?_,fun k ar=>?_⟩
 ·rw[ax0,axz] at ar;have aJ:e1 ops k=[] :=List.isEmpty_iff.1 ar.2;exact⟨ar.1,.mk k (by omega) (fun p au=>by rw[aJ] at au; cases au) fun p au=>by rw[aJ] at au; cases au⟩
 ·rw[awV,axu ar];simp[jJ]
 ·rw[ax0,axz,awV,axu ar];simp only[aw0,Option.some.injEq,ar,true_and,List.isEmpty_iff];constructor
  ·intro h; rw[h]; rfl
  ·intro h; exact axF.1 (by omega)
theorem aj1 {ids:List (List B)} {ops:List bu} (al:ids.length=ops.length) (ai:oO ids) {row:List Nat} {R:List Nat} {W:List Int} (h:s8 ids ops row R.length 0 R W) :
  R.length<=ops.length/\(R.length=ops.length<->(p9 ids ops).length=ops.length) :=by
 have dN:R.length<=ops.length:=by
  have:=wa (b:=List.range ops.length) h.sG fun x ag=>axz.2 (h.pH x ag).1
  simpa using this
 refine⟨dN,?_⟩;rw[YC al ai];constructor
 ·intro am i ay;exact (h.pH i (Yj h.sG am (fun i ay=>(h.pH i ay).1) i ay)).2
 ·intro dE;have c7:∀ i,rJ ids ops i->i<ops.length->i∈R:=by
   intro i ax
   induction ax with
   | mk i ay au ax aR=>
    intro aL;rw[h.r i aL,h.w i aL,axo];have H6:=(Qc ai h.sG (fun a aE=>by have:=(h.pH a aE).1; omega) (e1 ops i)).2.2 fun p zC=>by
     obtain⟨cg,fl⟩:=aw3.1 (au p zC);exact⟨cg,aR p zC cg fl (by have:=(awQ.1 fl).1; omega),gu fl⟩
    rw[H6];simp
  have:=wa (a:=List.range ops.length) (b:=R) azM fun i ay=>c7 i (dE i (axz.1 ay)) (axz.1 ay)
  simp at this;omega
structure l6 (l:ap) (vs:List U) (cx:List (List Nat)) (bl:Nat->Nat) :Prop where
 rE:vs.length=cx.length
 own:∀ (a:Nat) (v:U) (row:List Nat),vs[a]? = some v->cx[a]? = some row->bL 1 l v (bl a) (row.map h9)/\cz v=row.isEmpty/\(row=[]\/3<=bl a)
 apart:∀ (a b:Nat) (m0 oy:List Nat),a≠b->cx[a]? = some m0->cx[b]? = some oy->m0≠[]->oy≠[]->bl a≠bl b
def py (cx:List (List Nat)) (bl:Nat->Nat) (b:Nat) :Prop:=∀ (a:Nat) (row:List Nat),cx[a]? = some row->row≠[]->bl a≠b
theorem l6.lt {l:ap} {vs:List U} {cx:List (List Nat)} {bl:Nat->Nat} (h:l6 l vs cx bl) {a:Nat} {row:List Nat} (az:cx[a]? = some row) (bY:row≠[]) :bl a<l.length:=by
 have aE:a<vs.length:=by rw[h.rE]; exact (awQ.1 az).1
 obtain⟨o,n,_⟩:=h.own a vs[a] row (awT aE) az;rcases o.lt with ad | ad
 ·rw[ad] at n;cases row with
  | nil=>exact absurd rfl bY
  | cons=>cases n
 ·exact ad
theorem l6.frame {l l' : ap} {vs:List U} {cx:List (List Nat)} {bl:Nat->Nat} (h:l6 l vs cx bl) (aF:∀ b,b<l.length->(∃ a row,cx[a]? = some row/\row≠[]/\bl a=b)->l'[b]? = l[b]?) :l6 l' vs cx bl:=by
 refine⟨h.rE,fun a v row ao az=>?_,h.apart⟩;obtain⟨o,n,t⟩:=h.own a v row ao az;refine⟨?_,n,t⟩;by_cases bY:row=[]
 ·subst bY;have:=lr.1 n;subst this;exact .nil _
 ·exact o.frame fun al=>aF _ al ⟨a,row,az,bY,rfl⟩
theorem l6.more {l:ap} {vs:List U} {cx:List (List Nat)} {bl:Nat->Nat} (h:l6 l vs cx bl) (x:ap) :l6 (l++x) vs cx bl:=h.frame fun b af _=>awS af
theorem l6.app {l:ap} {vs:List U} {cx:List (List Nat)} {bl:Nat->Nat} (h:l6 l vs cx bl) {a k b:Nat} {v:U} {row:List Nat} (ao:vs[a]? = some v) (az:cx[a]? = some row) (af:l[b]? = some (.cells 1 [.int .i64 (k:Int)])) (aj:3<=l.length) (dC:(row.length+1)*8<=ci) :
  ∃ v' l' Fx,gK l 1 8 v (.aq 1 b 0 1 1 1)=some (v',l')/\l6 l' (vs.set a v') (cx.set a (row++[k])) Fx/\l.length<=l'.length/\v'.cells=some [v'] ∧
   ∀ c,c<l.length->py cx bl c->l'[c]? = l[c]?/\py (cx.set a (row++[k])) Fx c:=by
 obtain⟨o,n,t⟩:=h.own a v row ao az;have ic:a<cx.length:=(awQ.1 az).1;obtain⟨j,Yq,kS,zP,Xg⟩:∃ j,bL 1 l v j (row.map h9)/\3<=j/\(∀ cV v6,cV≠a->cx[cV]? = some v6->v6≠[]->bl cV≠j)/\∀ c,c<l.length->py cx bl c->j≠c:=by
  by_cases bY:row=[]
  ·subst bY;have:=lr.1 n;subst this;exact⟨l.length,.nil _,aj,fun cV v6 _ pW sg=>by have:=h.lt pW sg; omega,fun c ah _=>by omega⟩
  ·exact⟨bl a,o,t.resolve_left bY,fun cV v6 Wh pW sg=>h.apart cV a v6 row Wh pW az sg bY,fun c _ av=>av a row az bY⟩
 obtain⟨v',cg,l',aK,aW,a6,bi,bm,cD⟩:=oS (by_:=8) Yq (x:=.aq 1 b 0 1 1 1) (xs:=[h9 k]) (by simp[de,af,h9]) (by simp[h9]) (by omega) (by omega) (by simpa using dC);have fD:cz v'=false:=by
  cases aT:cz v' with
  | true=>have:=(cD.1 (lr.1 aT)).2; cases this
  | false=>rfl
 refine⟨v',l',fun x=>if x=a then cg else bl x,aK,⟨by simp[h.rE],fun x w PR aP pW=>?_,fun x y x7 Z1 mr ag aI hw Ni=>?_⟩,a6,aW.cells,fun c ah av=>⟨bi c ah (fun e=>Xg c ah av e.symm),fun x x7 ag hw=>?_⟩⟩
 ·by_cases lo:x=a
  ·subst lo;rw[axb (by rw[h.rE]; exact ic)] at aP;rw[axb ic] at pW;obtain rfl:=Option.some.inj aP;obtain rfl:=Option.some.inj pW;simp only[if_true];refine⟨by rw[axc]; exact aW,by rw[fD]; simp,.inr ?_⟩;rcases bm with e | e<;>omega
  ·rw[axg (Ne.symm lo)] at aP pW;simp only[if_neg lo];obtain⟨dG,fY,gT⟩:=h.own x w PR aP pW;refine⟨?_,fY,gT⟩;by_cases bY:PR=[]
   ·subst bY;have:=lr.1 fY;subst this;exact .nil _
   ·exact dG.frame fun al=>bi _ al (zP x PR lo pW bY)
 ·by_cases lo:x=a
  ·subst lo;rw[axg mr] at aI;simp only[if_true,if_neg (Ne.symm mr)];have:=h.lt aI Ni;have:=zP y Z1 (Ne.symm mr) aI Ni;rcases bm with e | e<;>omega
  ·rw[axg (Ne.symm lo)] at ag;simp only[if_neg lo];by_cases NU:y=a
   ·subst NU;simp only[if_true];have:=h.lt ag hw;have:=zP x x7 lo ag hw;rcases bm with e | e<;>omega
   ·rw[axg (Ne.symm NU)] at aI;simp only[if_neg NU];exact h.apart x y x7 Z1 mr ag aI hw Ni
 ·by_cases lo:x=a
  ·subst lo;simp only[if_true];have:=Xg c ah av;rcases bm with e | e<;>omega
  ·rw[axg (Ne.symm lo)] at ag;simp only[if_neg lo];exact av x x7 ag hw
def yT (ids:List (List B)) (ops:List bu) (m q a k:Nat) :Nat:=if k<m then (e1 ops k).count (b2 ids a) else if k=m then ((e1 ops m).take q).count (b2 ids a) else 0
structure wm (ids:List (List B)) (ops:List bu) (m q:Nat) (cx:List (List Nat)) :Prop where
 len:cx.length=ops.length
 cnt:∀ (a:Nat) (row:List Nat),cx[a]? = some row->∀ k,row.count k=yT ids ops m q a k
 Gf:∀ (a:Nat) (row:List Nat),cx[a]? = some row->row.length<=5*m+q
theorem ami (ids:List (List B)) (ops:List bu) :wm ids ops 0 0 (List.replicate ops.length []) :=by
 refine⟨by simp,fun a row h k=>?_,fun a row h=>?_⟩
 ·have:=aye (awY h);subst this;simp[yT]
 ·have:=aye (awY h);subst this;simp
theorem amj {ids:List (List B)} {ops:List bu} (ai:oO ids) (al:ids.length=ops.length) {m q a:Nat} {cx:List (List Nat)} {row:List Nat} {p:List B} (h:wm ids ops m q cx) (au:(e1 ops m)[q]? = some p) (aE:ids[a]? = some p) (az:cx[a]? = some row) :
  wm ids ops m (q+1) (cx.set a (row++[m])) :=by
 have ic:=(awQ.1 az).1;have xc:=(awQ.1 aE).1;have hx:(e1 ops m).take (q+1)=(e1 ops m).take q++[p] :=by rw[axe,au]; rfl
 refine⟨by simp[h.len],fun x x7 ag k=>?_,fun x x7 ag=>?_⟩
 ·by_cases lo:x=a
  ·subst lo;rw[axb ic] at ag;obtain rfl:=Option.some.inj ag;rw[ayS,h.cnt x row az k];unfold yT;by_cases ad:k<m
   ·rw[if_pos ad,if_pos ad,ay0];have:(m == k)=false:=by rw[beq_eq_false_iff_ne]; omega
    simp[this]
   ·rw[if_neg ad,if_neg ad];by_cases ae:k=m
    ·subst ae;rw[if_pos rfl,if_pos rfl,hx,ayS,gu aE]; simp
    ·rw[if_neg ae,if_neg ae,ay0];have:(m == k)=false:=by rw[beq_eq_false_iff_ne]; omega
     simp[this]
  ·rw[axg (Ne.symm lo)] at ag;rw[h.cnt x x7 ag k];unfold yT;by_cases ad:k<m
   ·rw[if_pos ad,if_pos ad]
   ·rw[if_neg ad,if_neg ad];by_cases ae:k=m
    ·subst ae;rw[if_pos rfl,if_pos rfl,hx,ayS,ay0];have bp:x<ids.length:=by rw[al,<-h.len]; exact (awQ.1 ag).1
     have:(p == b2 ids x)=false:=by
      rw[beq_eq_false_iff_ne];intro e;rw[<-gu aE] at e;exact lo (Rp ai xc bp e).symm
     rw[this]; simp
    ·rw[if_neg ae,if_neg ae]
 ·by_cases lo:x=a
  ·subst lo;rw[axb ic] at ag;obtain rfl:=Option.some.inj ag;have:=h.Gf x row az;simp; omega
  ·rw[axg (Ne.symm lo)] at ag;have:=h.Gf x x7 ag;omega
theorem amh {ids:List (List B)} {ops:List bu} {m:Nat} {cx:List (List Nat)} (h:wm ids ops m (e1 ops m).length cx) (aD:(e1 ops m).length<=4) :wm ids ops (m+1) 0 cx:=by
 refine⟨h.len,fun a row az k=>?_,fun a row az=>by have:=h.Gf a row az; omega⟩;rw[h.cnt a row az k];unfold yT;by_cases ad:k<m
 ·rw[if_pos ad,if_pos (by omega)]
 ·rw[if_neg ad];by_cases ae:k=m
  ·subst ae;rw[if_pos rfl,if_pos (by omega),axo]
  ·rw[if_neg ae,if_neg (by omega)];by_cases aj:k=m+1
   ·rw[if_pos aj]; simp
   ·rw[if_neg aj]
theorem amg {ids:List (List B)} {ops:List bu} {cx:List (List Nat)} (h:wm ids ops ops.length 0 cx) :KQ ids ops cx:=by
 refine⟨h.len,fun a row az k ar=>?_,fun a row az k ar=>?_⟩
 ·rw[h.cnt a row az k]; unfold yT; rw[if_pos ar]
 ·have ad:0<row.count k:=List.count_pos_iff.2 ar;rw[h.cnt a row az k] at ad;unfold yT at ad;by_cases ae:k<ops.length
  ·exact ae
  ·rw[if_neg ae] at ad;split at ad<;>simp at ad
def e3 (ops:List bu) (m:Nat) :List Int:=(List.range ops.length).map fun k=>if k<m then ((e1 ops k).length:Int) else 0
def jI (ops:List bu) (m:Nat) :List Nat:=(List.range m).filter fun k=>(e1 ops k).isEmpty
theorem abA (ops:List bu) (m:Nat) :(e3 ops m).length=ops.length:=by simp[e3]
theorem KM {ops:List bu} {m k:Nat} (h:k<ops.length) :(e3 ops m)[k]? = some (if k<m then ((e1 ops k).length:Int) else 0) :=by
 unfold e3; rw[awV,axu h]; rfl
theorem aqy {ops:List bu} {m:Nat} (h:m<ops.length) :(e3 ops m).set m ((e1 ops m).length:Int)=e3 ops (m+1) :=by
 apply axE;intro j;by_cases ai:j<ops.length
 ·rw[KM ai,aw4];by_cases Wd:m=j
  ·subst Wd;rw[if_pos rfl,if_pos (by rw[abA]; exact ai),if_pos (by omega)]
  ·rw[if_neg Wd,KM ai];by_cases ad:j<m
   ·rw[if_pos ad,if_pos (by omega)]
   ·rw[if_neg ad,if_neg (by omega)]
 ·rw[aw5 (by simp[e3]; omega),aw5 (by simp[e3]; omega)]
theorem aqx (ops:List bu) :e3 ops ops.length=(List.range ops.length).map fun k=>((e1 ops k).length:Int) :=by
 unfold e3;apply ayi;intro k ar;rw[if_pos (axz.1 ar)]
theorem aqz (ops:List bu) :e3 ops 0=List.replicate ops.length 0:=by
 apply axE;intro j;by_cases ai:j<ops.length
 ·rw[KM ai]; simp[ai]
 ·rw[aw5 (by simp[e3]; omega),aw5 (by simp; omega)]
theorem Zx (ops:List bu) (m:Nat) :jI ops (m+1)=jI ops m++(if (e1 ops m).isEmpty then [m] else []) :=by
 unfold jI;rw[ayP,ax9];congr 1;by_cases h:(e1 ops m).isEmpty=true
 ·simp[h]
 ·simp[h]
end Op

end Go.bV

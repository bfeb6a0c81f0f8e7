/-
  The predecessors that a store lacks: the function that a loop ranges over, walked to its end or to the first one.
-/
import Derived.Test.YtidejmkknleijaaGreatDoorFi
import Derived.Shelf.Abstract
set_option linter.unusedVariables false
set_option linter.unusedSimpArgs false
set_option linter.unnecessarySimpa false
namespace Go.bY
open Go Go.Proofs Go.RowKit
set_option maxRecDepth 100000
namespace Op
open hl
theorem EJ {σ:a8} {N:Nat} {W:World} {R:Nat->Prop} {h:aM} {μ:cg} {a:Go.Act} (s:iy N W R h μ σ a) {t:Nat} {b:Bool} (aV:σ t=.bool b) :a.tmps.getD t undef=.bool b:=by
 have:=s.val t; rw[aV] at this; generalize a.tmps.getD t undef=v at this ⊢; cases this; rfl
theorem amM {σ:a8} {N:Nat} {W:World} {R:Nat->Prop} {h:aM} {μ:cg} {a:Go.Act} (s:iy N W R h μ σ a) {t l:Nat} (aV:σ t=.hj l) :a.tmps.getD t undef=.func (.yield l) #[] #[] :=by
 have:=s.val t; rw[aV] at this; generalize a.tmps.getD t undef=v at this ⊢; cases this; rfl
theorem Nw (E:List U) (ps:dr) (S:List U) (eI k:Nat) :mj E ps S eI k 0=.hj eI:=by simp[mj]
theorem Nx (E:List U) (ps:dr) (S:List U) (eI k:Nat) :mj E ps S eI k 1=.bK (E) 0:=by simp[mj]
theorem Ny (E:List U) (ps:dr) (S:List U) (eI k:Nat) :mj E ps S eI k 2=.bK S 0:=by simp[mj]
theorem Nz (E:List U) (ps:dr) (S:List U) (eI k:Nat) :mj E ps S eI k 7=aD ps:=by simp[mj]
theorem Ic (E:List U) (ps:dr) (S:List U) (eI k:Nat) :mj E ps S eI k 8=.int .i64 ps.l.length:=by simp[mj]
theorem Ie (E:List U) (ps:dr) (S:List U) (eI k:Nat) :mj E ps S eI k 9=.int .i64 k:=by simp[mj]
set_option maxHeartbeats 2000000 in
theorem ahQ (E:List U) (ps:dr) (CJ:a5 E=true) (qP:E.length=11) (ju:∀ h:1<E.length,E[1]'h=aD ps) (h8:eu ps) (gZ:ps.l.length<=1000000) (ord:dr) (kE:eu ord) (dF:ord.l.length<=1000000) (cap dW:Int) (parts dq:U) (av:parts.closed=true) (aR:dq.closed=true) {n eI:Nat} {cC:World} {A:Nat->Prop} {iK jh:Value}
  (ad:dV cC A (.bK (E) 0) iK) (ae:dV cC A (.bK (zw cap dW parts dq ord) 0) jh) (aw:∀ g,dV cC A (GS g) (.pointer (some ⟨g,0,none⟩)))
  {Z:World->World->Prop} {m:Nat} (gX:∀ (x:Value) (W:World),fO cC W->YieldAt Fence.wide m Tryz.prog eI #[x] W fun e eK=>e=.returned (.bool false)/\Z W eK)
  (ac0:∀ W eK,fO cC W->Z W eK->∃ A,∀ g,dV eK A (GS g) (.pointer (some ⟨g,0,none⟩))) :
  CallsIn Fence.wide n Tryz.prog 163 (#[.func (.yield eI) #[] #[]]++#[iK,jh]) cC fun e dG=>(∃ v,e=.returned v) ∧
   (((∀ x∈ps.l,x∈ord.l)/\fO cC dG)\/((¬ ∀ x∈ps.l,x∈ord.l)/\∃ W eK,fO cC W/\Z W eK/\fO eK dG)) :=by
 obtain⟨yZ,qu,qv,jG,rQ,rs,M⟩:=Vv;obtain⟨S,hS⟩:∃ S,S=zw cap dW parts dq ord:=⟨_,rfl⟩
 have Gg:a5 S=true:=by rw[hS]; exact Q9 av aR
 have tu:S.length=5:=by rw[hS]; rfl
 have n2:S[4]? = some (aD ord) :=by rw[hS]; rfl
 have SI:∀ h:4<S.length,S[4]'h=aD ord:=fun h=>(as0.1 n2).2
 rw[<-hS] at ae;have fz:Tryz.prog.follows .mixedOrders=true:=Tryz.checked.mixed;have TF:cv (.aq 32) (aD ps)=some (.int .i64 ps.l.length) :=by simp[aD]
 refine callsIn_of_wp (fn:=Tryz.f163) Tryz.func163 M.body trivial ?_ rfl;obtain⟨mn,xB⟩:∃ mn,mn=bodyPost Tryz.prog Tryz.f163 (fun e dG=>(∃ v,e=Ending.returned v) ∧
   (((∀ x∈ps.l,x∈ord.l)/\fO cC dG)\/((¬ ∀ x∈ps.l,x∈ord.l)/\∃ W eK,fO cC W/\Z W eK/\fO eK dG))) :=⟨_,rfl⟩
 rw[<-xB];have tR:∀ (a:Go.Act) (W:World),(results Tryz.f163 a.tmps).run Tryz.prog W=.ok (.tuple #[]) W:=fun a W=>results_none rfl _ _ _
 -- the start
 have GL:Tryz.f163.ntmps=25:=by kernel_rfl
 obtain⟨uM,zS⟩:∃ uM:Array Value,uM=#[.func (.yield eI) #[] #[]]++#[iK,jh]++Array.replicate (Tryz.f163.ntmps - (#[.func (.yield eI) #[] #[]]++#[iK,jh] :Array Value).size) undef:=⟨_,rfl⟩
 rw[<-zS];rw[GL] at zS;have acW:uM.size=25:=by rw[zS]; simp
 have CB:uM=#[.func (.yield eI) #[] #[],iK,jh]++Array.replicate 22 undef:=by rw[zS]; rfl
 have up:∀ {c:U} {v:Value},dV cC A c v->aN cC (fun k=>A k\/cC.heap.size<=k) aM.empty (fun _=>none) c v:=fun ah=>ah.up (fun k _ ar=>⟨.inl ar,p7 _ k⟩)
 have KF:uM.getD 0 undef=.func (.yield eI) #[] #[] :=by rw[CB,atq]; simp
 have adU:uM.getD (0+1) undef=iK:=by rw[CB,atq]; simp
 have adV:uM.getD (0+1+1) undef=jh:=by rw[CB,atq]; simp
 have adW:∀ t,uM.getD (t+1+1+1) undef=undef:=fun t=>by
  rw[CB,atq,auo (by simp),avg];split<;>rfl
 obtain⟨Ol,aoJ⟩:∃ Ol,Ol=U.bK (E) 0:=⟨_,rfl⟩
 obtain⟨Om,aoK⟩:∃ Om,Om=U.bK S 0:=⟨_,rfl⟩
 have ac1:lv [.hj eI,.bK (E) 0,.bK S 0] 0=.hj eI:=by simp[lv]
 have CD:lv [.hj eI,.bK (E) 0,.bK S 0] (0+1)=.bK (E) 0:=by simp[lv]
 have Km:lv [.hj eI,.bK (E) 0,.bK S 0] (0+1+1)=.bK S 0:=by simp[lv]
 have Kn:∀ t,lv [.hj eI,.bK (E) 0,.bK S 0] (t+1+1+1)=gy:=fun t=>by simp[lv,List.getD]
 clear zS CB GL;refine wpIn_seq (tf (σ:=lv [.hj eI,.bK (E) 0,.bK S 0]) (l:=[]) (K:=fun e σ l=>e=.normal/\σ 0=.hj eI/\σ 1=.bK (E) 0/\σ 2=.bK S 0/\σ 7=aD ps/\σ 8=.int .i64 ps.l.length/\σ 9=.int .i64 (0:Nat))
  fz bl M.tb ?_ (A1 cC (fun k=>A k\/cC.heap.size<=k) fun k ar=>.inr ar) (fun g=>⟨bl g,up (aw g)⟩) ⟨acW,rfl,fun t=>?_⟩ ?_)
 ·simp[lv,qP,ju,TF]
 ·rcases t with _ | _ | _ | t
  ·rw[KF,ac1]; exact .hj _
  ·rw[adU,CD]; exact up ad
  ·rw[adV,Km]; exact up ae
  ·rw[adW t,Kn t]; exact EG
 rintro e a0 qz sV Ok fh ⟨rfl,hf,bU,b8,tZ,Av,vZ⟩ oI nC s0;have ce:mm GS cC (fun k=>A k\/cC.heap.size<=k) aM.empty (fun _=>none) :=fun g=>⟨bl g,up (aw g)⟩
 have Y3:sZ E ps S eI cC 0 a0 qz:=sZ.mk' CJ Gg (ZV cC) oI (ce.ext oI) s0 hf bU b8 tZ Av vZ;clear hf bU b8 tZ Av vZ s0 nC oI ce;show (Code.block 0 (.loop (Br qu qv jG rQ))).wpIn Fence.wide n Tryz.prog mn a0 qz;refine wpIn_block (wpIn_loop (fun a W=>∃ k,k<=ps.l.length/\sZ E ps S eI cC k a W/\∀ x∈ps.l.take k,x∈ord.l) (fun a _=>match a.tmps.getD 9 undef with | .int _ k=>ps.l.length - k.toNat | _=>0) ⟨0,by omega,Y3,by simp⟩ ?_);rintro a W ⟨k,ar,H,dL⟩;obtain⟨R,rel,xv,Ez⟩:=H.Ez;by_cases bB:k<ps.l.length
 ·obtain⟨x,ag,dp⟩:=bP (l:=ps.l) (k:=k) bB;have Up:=h8 x dp;have bn:=de Up;have aQ:IntKind.i64.wrap ((k:Int)+1)=((k+1:Nat) :Int) :=by rw[IntKind.wrap_i64]; omega
  have bZ:cN (.aq 32) (aD ps) (.int .i64 (k:Int))=some (.bK (a1 x) 0) :=by simp[aD,ag]
  have cZ:=It ord kE dF x Up;have CM:=dw ord;have ni:=gK x;have b3:ps.l.take (k+1)=ps.l.take k++[x] :=by rw[atu,ag]; rfl
  obtain⟨X,cM⟩:∃ X,X=a1 x:=⟨_,rfl⟩
  rw[<-cM] at bn bZ cZ ni;have iE:bg (rep 32 (.int .u8 0)) 0 X=X:=hu (by rw[bn]; rfl);by_cases h7:x∈ord.l
  ·rw[decide_eq_true h7] at cZ;refine tf (σ:=mj E ps S eI k) (l:=[]) (K:=fun e σ l=>e=.normal/\σ 0=.hj eI/\σ 1=.bK (E) 0/\σ 2=.bK S 0/\σ 7=aD ps/\σ 8=.int .i64 ps.l.length/\σ 9=.int .i64 ((k+1:Nat) :Int)) fz bl M.QY ?_ rel xv Ez ?_
   ·unfold Mu;simp[Nw,Nx,Ny,Nz,Ic,Ie,bB,bZ,bn,iE,tu,SI,as1];refine a4 cZ (by simp[a5,U.closed,CM,ni]) ?_;simp[Nw,Nx,Ny,Nz,Ic,Ie,aQ]
   ·rintro e bd dG oy yW bo ⟨rfl,hf,bU,b8,tZ,Av,vZ⟩ oJ rA ie;have Ou:sZ E ps S eI cC (k+1) bd dG:=sZ.mk' CJ Gg H.nR oJ (xv.ext oJ) ie hf bU b8 tZ Av vZ;refine⟨⟨k+1,by omega,Ou,fun y aJ=>?_⟩,?_⟩
    ·rw[b3,atU,atX] at aJ;exact aJ.elim (dL y) fun e=>by rw[e]; exact h7
    ·show (match bd.tmps.getD 9 undef with | .int _ k=>ps.l.length - k.toNat | _=>0)<(match a.tmps.getD 9 undef with | .int _ k=>ps.l.length - k.toNat | _=>0)
     rw[Ou.t9,H.t9];simp only[atD];omega
  ·rw[decide_eq_false h7] at cZ;have cU:¬ ∀ y∈ps.l,y∈ord.l:=fun h=>h7 (h x dp)
   suffices ak:(Br qu qv jG rQ).wpIn Fence.wide n Tryz.prog (fun e a W=>e=.ret/\mn .ret a W) a W from wpIn_mono ak fun e a w ⟨am,h⟩=>by subst am; exact h
   unfold Br;refine wpIn_seq (tf (σ:=mj E ps S eI k) (l:=[]) (K:=fun e σ l=>e=.normal/\l=[]/\σ 0=.hj eI/\σ 2=.bK S 0/\σ 7=aD ps/\σ 9=.int .i64 k/\σ 10=.bool true) fz bl M.b0 ?_ rel xv Ez ?_)
   ·simp[Nw,Nx,Ny,Nz,Ic,Ie,bB]
   rintro e a2 dG gR hZ l1 ⟨rfl,rfl,hf,b8,tZ,vZ,agC⟩ nY mi cQ;have aO:=xv.ext nY;refine wpIn_seq (wpIn_cond_true (EJ cQ agC) (wpIn_skip ?_));refine wpIn_seq (wpIn_block (wpIn_seq ?_));refine tf (σ:=hZ) (l:=[]) (K:=fun e σ l=>e=.normal/\l=[.cells 32 X]/\σ 0=.hj eI/\σ 2=.bK S 0/\σ 5=.ptr 0 0 32) fz bl M.b5 ?_ mi aO cQ ?_
   ·simp[hf,b8,tZ,vZ,bZ,bn,iE,as1]
   rintro e bd j2 oy yW bo ⟨rfl,rfl,UH,eY,lQ⟩ oJ rA ie;refine wpIn_seq (wpIn_region_list ?_);rw[M.split];refine Wb (σ:=yW) fz bl M.Ru M.air (K:=fun σ l=>σ 18=.bool true/\σ 19=.hj eI) ?_ rA (aO.ext oJ) ie ?_
   ·simp[UH,eY,lQ,bn,tu,SI,as1];refine a4 cZ (by simp[a5,U.closed,CM,ni]) ?_;simp[UH,lQ,bn,as1]
   rintro b4 y1 yV YR gg ⟨afT,afU⟩ B4 A0 kn;have CG:fO cC y1:=rX H.nR (y6 ((nY.trans oJ).trans B4));have t18:=EJ kn afT;have t19:=amM kn afU;have sj:Region.wanted rs (yielded jG b4.tmps)=true:=by
    unfold Region.wanted yielded;rw[M.aim];simp only[M.aik];have aK:18<b4.tmps.size:=by rw[kn.size]; omega
    have acn:b4.tmps[18]? = some (.bool true) :=by
     rw[atq,at5 aK] at t18;rw[at5 aK]; simpa using t18
    simp[acn]
   unfold wpListIn;rw[if_pos sj];obtain⟨fn,tmps,assign,body,aJ,iW⟩:=gX (b4.tmps[20]?.getD undef) y1 CG;have fJ:(rs.semAt Fence.wide.round b4.eval).run Tryz.prog y1=.ok (.round eI fn tmps assign body) y1:=by
    rw[Fence.wide_round,Oper.semAt_none];unfold execOp;rw[M.ain];have ale:b4.tmps[19]?.getD undef=.func (.yield eI) #[] #[] :=by rw[<-atq]; exact t19
    simp[go_sem,ale,aJ]
    skip; done
   refine⟨fun _ _=>trivial,?_⟩;rw[fJ,Oper.uponIn_round];refine⟨fun bb=>(by cases bb),akg (iW.mono ?_)⟩;rintro e qA ⟨rfl,ax⟩;show wpListIn Fence.wide n Tryz.prog jG _ (jG.toList.drop 9++[]) (b4.put rs.dst (.bool false)) qA;rw[M.ail];obtain⟨IG,adX⟩:=ac0 y1 qA CG ax;have alM:∀ {c:U} {v:Value},dV qA IG c v->aN qA (fun k=>IG k\/qA.heap.size<=k) aM.empty (fun _=>none) c v:=fun ah=>ah.up (fun k _ ar=>⟨.inl ar,p7 _ k⟩)
   refine Wb (σ:=bw (bw (fun _=>U.bad) 18 (.bool true)) 21 (.bool false)) (l:=[]) fz bl M.Ru M.ais (K:=fun σ l=>σ 23=.bool true) ?_ (A1 qA (fun k=>IG k\/qA.heap.size<=k) fun k ar=>.inr ar) (fun g=>⟨bl g,alM (adX g)⟩) ⟨by simp[Act.put,kn.size],kn.defers,fun t=>?_⟩ ?_
   ·simp
   ·by_cases JH:t=21
    ·subst JH;rw[hB];have:(b4.put (some 21) (.bool false)).tmps.getD 21 undef=.bool false:=by simp[Act.put,atq,kn.size]
     rw[this]; exact .bool _
    ·rw[b1 _ _ _ _ JH];have bx:(b4.put (some 21) (.bool false)).tmps.getD t undef=b4.tmps.getD t undef:=by
      simp only[Act.put,atq,avr (Ne.symm JH)]
     rw[bx];by_cases Rw:t=18
     ·subst Rw; rw[hB,t18]; exact .bool _
     ·rw[b1 _ _ _ _ Rw]; exact .bad _
   rintro ho oD uH YT DR afV B5 HZ A4;refine wpListIn_nil ?_;refine wpIn_cond_true (EJ A4 afV) (wpIn_ret ?_);refine⟨rfl,?_⟩;rw[xB];exact⟨A4.defers,_,tR _ _,⟨_,rfl⟩,.inr ⟨cU,y1,qA,CG,ax,y6 B5⟩⟩
 ·have mI:k=ps.l.length:=by omega
  rw[mI,aty] at dL;refine tf (σ:=mj E ps S eI k) (l:=[]) (K:=fun e σ l=>e=.exit 0) fz bl M.QY ?_ rel xv Ez ?_
  ·unfold Mu;simp[Ic,Ie,bB]
  ·rintro e bd dG oy yW bo rfl oJ rA ie;show mn .normal bd dG;rw[xB];exact⟨ie.defers,_,tR _ _,⟨_,rfl⟩,.inl ⟨dL,rX H.nR (y6 oJ)⟩⟩
end Op

end Go.bY

namespace Go.bY
open Go Go.Proofs Go.RowKit
set_option maxRecDepth 100000
section
variable {P:Program} {n:Nat}
theorem AU (D:List Deferred) (a:Go.Act) (d:Option Tmp) (v:Value) :({ a with defers:=a.defers++D }:Go.Act).put d v={ a.put d v with defers:=(a.put d v).defers++D }:=by cases d<;>rfl
theorem aiz {D:List Deferred} {o:Oper} {a:Go.Act} {w:World} {K eZ:Go.Act->World->Prop} {Q w7:Exit->Go.Act->World->Prop} (aU:∀ a w,K a w->eZ { a with defers:=a.defers++D } w)
  (kx:∀ e a w,e≠.normal->Q e a w->w7 e { a with defers:=a.defers++D } w) (h:o.wp P a w K Q) :o.wpIn Fence.wide n P { a with defers:=a.defers++D } w eZ w7:=by
 unfold Oper.wp at h;refine⟨fun _ _=>trivial,?_⟩;show o.uponIn Fence.wide n P _ eZ w7 ((execOp a.eval o).run P w);cases ag:(execOp a.eval o).run P w with
 | ok x w'=>
  rw[ag] at h;cases x with
  | value v=>show eZ (Go.Act.put _ _ _) _; rw[AU]; exact aU _ _ h
  | skip=>show eZ (Go.Act.put _ _ _) _; rw[AU]; exact aU _ _ h
  | defer d=>
   show eZ (Go.Act.put { tmps:=a.tmps,defers:=d::(a.defers++D) } _ _) _;have:=AU D { tmps:=a.tmps,defers:=d::a.defers } o.dst undef;have ae:({ tmps:=a.tmps,defers:=d::(a.defers++D) }:Go.Act).put o.dst undef=_:=this;rw[ae]; exact aU _ _ h
  | enter f args=>
   refine⟨fun bb=>(by cases bb),(callsIn_wide.2 h).mono ?_⟩;rintro (v | BM | _) w2 ae
   ·show eZ (Go.Act.put _ _ _) _; rw[AU]; exact aU _ _ ae
   ·exact kx _ _ _ (by simp) ae
   ·obtain⟨a0,gQ,aR⟩:=ae;exact⟨_,gQ,kx _ _ _ (by simp) aR⟩
  | row r args=>exact⟨fun bb=>(by cases bb),fun c cs _=>let ⟨v,w',r,s⟩:=h c cs; ⟨v,w',(by show eZ (Go.Act.put _ _ _) _; rw[AU]; exact aU _ _ r),stepsIn_wide.2 s⟩⟩
  | _=>exact h.elim
 | halt e w'=>
  rw[ag] at h;cases e<;>first | exact kx _ _ _ (by simp) h | exact h.elim
theorem Mm {D:List Deferred} {all:Array Oper} {Q:Exit->Go.Act->World->Prop}:∀ {l:List Oper} {a:Go.Act} {w:World},
  wpList P all (fun e a w=>match e with | .normal=>Q .normal { a with defers:=a.defers++D } w | _=>False) l a w->wpListIn Fence.wide n P all Q l { a with defers:=a.defers++D } w
 | [],a,w,h=>wpListIn_nil h
 | o::l,a,w,h=>by
  unfold wpList at h;unfold wpListIn;split
  ·rename_i aW;rw[if_pos aW] at h;rcases h with h | ⟨_,a0,gQ,aR⟩
   ·refine aiz (fun a w aR=>Mm aR) (fun e a w am aR=>?_) h;cases e<;>first | exact absurd rfl am | exact aR.elim
   ·exact aR.elim
  ·rename_i aW;rw[if_neg aW] at h;refine⟨fun _ _=>trivial,?_⟩;rw[AU];exact Mm h
variable {G:Nat->U}
theorem MS (fz:P.follows .mixedOrders=true) (h4:∀ g,(G g).closed=true) {N n:Nat} {ops:Array Oper} (fo:∀ (i:Nat) (o:Oper),ops[i]? = some o->jH N o.dst=true) {qe:List dd} (dL:nM P ops qe ops.toList) {id:Nat}
  {σ:a8} {l:ao} {K:a8->ao->Prop} (fJ:i1 P G qe σ l K) {D:List Deferred}
  {R:Nat->Prop} {B:Nat} {w:World} {μ:cg} {a:Go.Act} {Q:Exit->Go.Act->World->Prop} (rel:bI R B w (a7 l) μ) (g:mm G w R (a7 l) μ) (s:iy N w R (a7 l) μ σ { a with defers:=[] }) (bb:a.defers=D)
  (kx:∀ c9 w' μ' bE l',K bE l'->c5 w (a7 l) μ w' (a7 l') μ'->bI R B w' (a7 l') μ'->iy N w' R (a7 l') μ' bE { c9 with defers:=[] }->c9.defers=D->Q .normal c9 w') :(Code.region id ops false).wpIn Fence.wide n P Q a w:=by
 obtain⟨bE,l',r5,_,ar⟩:=Es fo dL fJ;obtain⟨dg,aa1⟩:=a;subst bb;refine wpIn_region_list ?_;have:=Mm (P:=P) (n:=n) (D:=aa1) (all:=ops) (Q:=Q) (l:=ops.toList) (a:={ tmps:=dg,defers:=[] }) (w:=w)
  (Ey fz h4 r5 R B w μ _ _ rel g s fun c9 w' μ' aQ c7 cQ=>?_)
 ·exact this
 ·show Q .normal _ _;obtain⟨asC,aa2⟩:=c9;have bb:aa2=[] :=cQ.defers;subst bb;exact kx _ w' μ' bE l' ar aQ c7 cQ rfl
theorem JT {R:Nat->Prop} {B:Nat} {w:World} {l:ao} {μ:cg} (rel:bI R B w (a7 l) μ) {b t:Nat} {v:Int} (af:l[b]? = some (.cells 1 [.int .u8 v])) {tmps:Array Value} (av:aN w R (a7 l) μ (.ptr b 0 1) (tmps.getD t undef))
  {w' : World} (aW:∀ k,B<=k->(∃ arr e eU,w.heap[k]? = some (.cells arr e eU))->w'.heap[k]? = w.heap[k]?) (ak:w.heap.size<=w'.heap.size) {fn:Func} (ay:A2 P (a7 [.cells 1 [.int .u8 v]]) (bw (fun _=>U.bad) t (.ptr 0 0 1)) fn=some (.int .u8 v)) :
  (results fn tmps).run P w'=.ok (.int .u8 v) w':=by
 have aE:(a7 l).f b=.cells 1 [.int .u8 v] :=lq.2 af;generalize ae8:tmps.getD t undef=uq at av;cases av with
 | mT _ _ _ a aw=>
  rcases aw with h | ⟨n,hA,h,aK⟩
  ·rw[aE] at h; cases h
  ·rw[aE] at h; injection h with ad ae; omega
 | ptr _ _ _ hA m dX hm=>
  clear dX hA;have ed:=rel.blk b m hm;have jI:B<=m.r:=rel.base b m (by rw[aE]; rfl) hm;rw[aE] at ed;obtain⟨ad,ae,arr,e,eU,aj,aF,a6,bu⟩:=ed;have Td:(a7 [.cells 1 [.int .u8 v]]).f 0=.cells 1 [.int .u8 v] :=lq.2 rfl;have bD:∀ b,1<=b->(a7 [.cells 1 [.int .u8 v]]).f b=.none:=fun b af=>by rw[kr,atd (by simpa using af)]
  have aj5:bI (fun k=>B<=k) B w' (a7 [.cells 1 [.int .u8 v]]) (fun b=>if b=0 then some m else none) :=by
   refine⟨fun bc ch bR=>?_,fun cX dC eQ eG hD iX aQ bx _=>?_,fun bc ch al bR=>?_,fun bc bJ=>bD bc bJ,fun k ar=>ar,atR rel.size ak,fun bc bJ=>?_⟩
   ·by_cases fm:bc=0
    ·subst fm;simp only[if_true,Option.some.injEq] at bR;subst bR;rw[Td];refine⟨ad,ae,arr,e,eU,(aW _ jI ⟨_,_,_,aj⟩).trans aj,aF,a6,fun j c ai=>?_⟩;obtain⟨x,a2,bd,b4⟩:=bu j c ai;refine⟨x,a2,bd,?_⟩;rcases j with _ | j
     ·simp only[ats,Option.some.injEq] at ai;subst ai;cases b4;exact .int _ _
     ·simp at ai
    ·simp[fm] at bR
   ·by_cases b0:cX=0
    ·by_cases b5:dC=0
     ·omega
     ·simp[b5] at bx
    ·simp[b0] at aQ
   ·by_cases fm:bc=0
    ·simp only[fm,if_true,Option.some.injEq] at bR;subst bR;exact jI
    ·simp[fm] at bR
   ·have:bc≠0:=fun e=>by subst e; exact absurd bJ (by show ¬ (1<=0); omega)
    simp[this]
  have ga:iy tmps.size w' (fun k=>B<=k) (a7 [.cells 1 [.int .u8 v]]) (fun b=>if b=0 then some m else none) (bw (fun _=>U.bad) t (.ptr 0 0 1)) { tmps:=tmps,defers:=[] }:=by
   refine⟨rfl,rfl,fun i=>?_⟩;by_cases RB:i=t
   ·subst RB;rw[hB];show aN _ _ _ _ _ (tmps.getD i undef);rw[ae8];exact .ptr 0 0 1 _ m Td rfl
   ·rw[b1 _ _ _ _ RB]; exact .bad _
  obtain⟨x,bU,b8⟩:=W8 (P:=P) aj5 ga ay;cases b8;exact bU
end
def fv (B:Nat) (a b:World) :Prop:=RowKit.Below B a b/\a.drawn<=b.drawn
theorem fv.wg {B:Nat} {a b:World} (h:fO a b) (jI:B<=a.heap.size) :fv B a b:=⟨h.toBelow.mono jI,h.drawn⟩
theorem fv.tr {B:Nat} {a b c:World} (h:fv B a b) (k:fv B b c) :fv B a c:=⟨h.1.trans k.1,atR h.2 k.2⟩
theorem fv.put {B:Nat} (W:World) {l:Nat} (o:Obj) (al:B<=l) (jI:B<=W.heap.size) :fv B W (W.putObj l o) :=
 ⟨(RowKit.Below.refl B W).grown (grownBy_putObj' W l o) jI (fun k e=>by cases e; exact al),as3 _⟩
theorem fv.ext {R:Nat->Prop} {B:Nat} {w w' : World} {h h' : aM} {μ μ' : cg} (rel:bI R B w h μ) (e:c5 w h μ w' h' μ') :fv B w w':=
 ⟨⟨e.os,e.tape,e.output,e.size,fun k ar=>e.cb k (auB ar rel.size) fun ⟨b,m,ad,ae,aj⟩=>by have:=rel.base b m ad ae; omega⟩,e.drawn⟩
theorem fv.alloc {B:Nat} {a:World} (jI:B<=a.heap.size) (o:Obj) :fv B a (a.alloc o) :=⟨(RowKit.Below.refl B a).alloc jI o,as3 _⟩
theorem fv.nR {a b:World} (h:fv a.heap.size a b) :fO a b:=⟨h.1,h.2⟩
theorem aiL {R:Nat->Prop} {B:Nat} {w:World} {l:ao} {μ:cg} (rel:bI R B w (a7 l) μ) (al:∀ (b:Nat) (c:aY),l[b]? = some c->∃ n cs,c=aY.cells n cs) {k:Nat} (au:Own (a7 l) μ k) :∃ arr e eU,w.heap[k]? = some (.cells arr e eU) :=by
 obtain⟨b,m,ad,ae,rfl⟩:=au;have af:=rel.blk b m ae;rw[kr] at af ad;cases jN:l[b]? with
 | none=>rw[jN] at ad; cases ad
 | some c=>
  rw[jN] at af;obtain⟨n,cs,rfl⟩:=al b c jN;obtain⟨_,_,arr,e,eU,aj,_⟩:=af;exact⟨arr,e,eU,aj⟩
theorem JQ {R:Nat->Prop} {B:Nat} {w w' : World} {l:ao} {h' : aM} {μ μ' : cg} (rel:bI R B w (a7 l) μ) (al:∀ (b:Nat) (c:aY),l[b]? = some c->∃ n cs,c=aY.cells n cs) (e:c5 w (a7 l) μ w' h' μ') :KeepsOthers w w':=by
 refine⟨e.size,fun k o ar au=>?_⟩;rw[e.cb k (att.1 ar).1 fun aW=>?_]
 ·exact ar
 ·obtain⟨arr,t,eU,aj⟩:=aiL rel al aW;rw[ar] at aj;cases aj;cases au
namespace Op
open hl
abbrev alU:List dd:=[fG 0 3 (.box (dg 0)),fG 1 4 (.box (dg 1)),fG 2 5 (.box (dg 2)),fG 3 6 (.alloc [.int .u8 0])]
abbrev alQ:fw:=.seq (.lk [fG 0 7 (.pB 4 (dg 3)),fG 1 8 (.nx (dg 7)),fG 2 9 (.lU 32 (dg 5)),sc 3 10 48 [(dg 8),(dg 9)]]) (.cond (dg 10) (.seq (.lk [Eu 0 (.st 1 (dg 6) (.const (.int .u8 5)))]) .ret) .skip)
abbrev alV:List dd:=[fG 0 11 (.lU 5 (dg 3)),fG 1 12 (.lU 11 (dg 4)),sc 2 13 119 [(dg 11),(dg 12)]]
abbrev alW:List dd:=[fG 0 15 (.pB 1 (dg 3)),fG 1 16 (.pB 2 (dg 15)),fG 2 17 (.nx (dg 16)),fG 3 18 (.pB 0 (dg 3)),fG 4 19 (.nx (dg 18)),fG 5 20 (.bin .eql 3 (dg 17) (dg 19))]
abbrev alX:List dd:=[Eu 0 (.st 1 (dg 6) (.const (.int .u8 8)))]
abbrev alY:List dd:=[Eu 0 (.st 1 (dg 6) (.const (.int .u8 1)))]
def h6 (S E X:List U) (v:Int) :ao:=[.cells 5 S,.cells 11 E,.cells 32 X,.cells 1 [.int .u8 v],.cells 5 S,.cells 11 E]
structure Ox (xa uO uP uQ oC rT qx qy:Array Oper) (km:Oper) (t4:TypeId) :Prop where
 body:Tryz.f87.body=some (.seq (.region 0 xa false) (.seq (.seq (.region 1 uO false) (.cond (.tmp 10) (.seq (.region 2 uP false) .ret) .skip)) (.seq (.seq (.region 3 uQ false) (.block 0 (.rangeFunc (.tmp 13) #[14] .skip (.block 1 (.seq (.region 4 oC false) .ret)))))
  (.seq (.seq (.region 5 rT false) (.cond (.tmp 20) (.seq (.region 6 qx false) .ret) .skip)) (.seq (.region 7 qy false) .ret)))))
 tb:comp Tryz.prog 21 (.region 0 xa false)=some (.lk alU)
 b0:comp Tryz.prog 21 (.seq (.region 1 uO false) (.cond (.tmp 10) (.seq (.region 2 uP false) .ret) .skip))=some alQ
 ik:comp Tryz.prog 21 (.region 3 uQ false)=some (.lk alV)
 oY:oC.toList=[km]
 VP:km.op=.store t4 (.tmp 6) (.const (.int .u8 6))
 aii:km.dst=none
 aij:km.guard=none
 ait:nM Tryz.prog rT alW rT.toList
 aiu:nM Tryz.prog qx alX qx.toList
 aiv:nM Tryz.prog qy alY qy.toList
 abf:∀ (i:Nat) (o:Oper),rT[i]? = some o->jH 21 o.dst=true
 abg:∀ (i:Nat) (o:Oper),qx[i]? = some o->jH 21 o.dst=true
 abh:∀ (i:Nat) (o:Oper),qy[i]? = some o->jH 21 o.dst=true
 akL:cu Tryz.prog t4=some 1
theorem JE {R:Array Oper} (dL:(R.toList.all fun o=>jH 21 o.dst)=true) (i:Nat) (o:Oper) (h:R[i]? = some o) :jH 21 o.dst=true:=by
 exact atN.1 dL o (by rw[<-auk] at h; exact ata h)
theorem alT:∃ xa uO uP uQ oC rT qx qy km t4,Ox xa uO uP uQ oC rT qx qy km t4:=
 ⟨mS (kp ((Tryz.f87.body).getD .skip) [false]),
  mS (kp ((Tryz.f87.body).getD .skip) [true,false,false]),
  mS (kp ((Tryz.f87.body).getD .skip) [true,false,true,false,false]),
  mS (kp ((Tryz.f87.body).getD .skip) [true,true,false,false]),
  mS (kp ((Tryz.f87.body).getD .skip) [true,true,false,true,false,true,false,false]),
  mS (kp ((Tryz.f87.body).getD .skip) [true,true,true,false,false]),
  mS (kp ((Tryz.f87.body).getD .skip) [true,true,true,false,true,false,false]),
  mS (kp ((Tryz.f87.body).getD .skip) [true,true,true,true,false]),
  ((mS (kp ((Tryz.f87.body).getD .skip) [true,true,false,true,false,true,false,false])).toList).headD { op:=.move (.tmp 0),dst:=none,type:=0,pos:= "",after:=#[],guard:=none },
  (match (((mS (kp ((Tryz.f87.body).getD .skip) [true,true,false,true,false,true,false,false])).toList).headD { op:=.move (.tmp 0),dst:=none,type:=0,pos:= "",after:=#[],guard:=none }).op with | .store t _ _=>t | _=>0),
  ⟨by kernel_rfl,by kernel_rfl,by kernel_rfl,by kernel_rfl,by kernel_rfl,by kernel_rfl,by kernel_rfl,by kernel_rfl,
  BB (idx:=[0,1,2,3,4,5]) (by kernel_rfl) (by kernel_rfl),BB (idx:=[0]) (by kernel_rfl) (by kernel_rfl),BB (idx:=[0]) (by kernel_rfl) (by kernel_rfl),
  JE (by kernel_rfl),JE (by kernel_rfl),JE (by kernel_rfl),by kernel_rfl⟩⟩
theorem ahS (S E:List U) (hS:S.length=5) (c6:E.length=11) {l:ao} {K:U->ao->Prop} (aU:K (.fn 163 [] [.ptr (l.length+1) 0 11,.ptr l.length 0 5]) (l++[.cells 5 S,.cells 11 E])) :
  dh Tryz.prog GS 119 [.aG S,.aG E] l (c:=⟨K⟩) :=by
 apply bq Tryz.func119 [];simp[hS,c6];exact aU
theorem N5 (v:Int) :A2 Tryz.prog (a7 [.cells 1 [.int .u8 v]]) (bw (fun _=>U.bad) 6 (.ptr 0 0 1)) Tryz.f87=some (.int .u8 v) :=by kernel_rfl
end Op

end Go.bY

namespace Go.bY
open Go Go.Proofs Go.RowKit
set_option maxRecDepth 100000
namespace Op
open hl
theorem KW (S E X:List U) (v:Int) :∀ (b:Nat) (c:aY),(h6 S E X v)[b]? = some c->∃ n cs,c=aY.cells n cs:=by
 intro b c h;have hm:=ata h;simp only[h6,at0,List.not_mem_nil,or_false] at hm;rcases hm with rfl | rfl | rfl | rfl | rfl | rfl<;>exact⟨_,_,rfl⟩
theorem akf {xa uO uP uQ oC rT qx qy:Array Oper} {km:Oper} {t4:TypeId} (M:Ox xa uO uP uQ oC rT qx qy km t4) {S E X:List U} {F:Fence} (tq:∀ f,F.fn f) {n:Nat} {R:Nat->Prop} {B:Nat} {W:World} {μ:cg} {a:Go.Act}
  (rel:bI R B W (a7 (h6 S E X 0)) μ) (bu:aN W R (a7 (h6 S E X 0)) μ (.ptr 3 0 1) (a.tmps.getD 6 undef)) :
  (Code.block 1 (.seq (.region 4 oC false) .ret)).wpIn F n Tryz.prog (fun e _ eK=>e=.ret/\c5 W (a7 (h6 S E X 0)) μ eK (a7 (h6 S E X 6)) μ/\bI R B eK (a7 (h6 S E X 6)) μ) a W:=by
 refine wpIn_block (wpIn_seq (wpIn_region_list ?_));rw[M.oY];have b3:wE Tryz.prog (a7 (h6 S E X 0)) t4 (.ptr 3 0 1) (.int .u8 6)=some (a7 (h6 S E X 6)) :=by
  unfold wE;rw[M.akL];have aE:(a7 (h6 S E X 0)).f 3=.cells 1 [.int .u8 0] :=lq.2 rfl;simp only[U.cells,aE];rw[if_pos (by simp),pl _ (by simp[h6])];rfl
 obtain⟨w',ad,ae,aj⟩:=XI (P:=Tryz.prog) rel b3 bu (.int .u8 6);unfold wpListIn;have aW:Region.wanted km (yielded oC a.tmps)=true:=by unfold Region.wanted; rw[M.aij]
 rw[if_pos aW];refine⟨fun f _=>tq f,?_⟩;have fJ:(execOp a.eval km).run Tryz.prog W=.ok .skip w':=by
  have am:a.eval (.tmp 6)=a.tmps.getD 6 undef:=rfl;rw[<-am] at ad;have dH:(Instr.storeAt t4 (a.eval (.tmp 6)) (a.eval (.const (.int .u8 6)))).run Tryz.prog W=.ok () w':=ad;simp[execOp,M.VP,dH]
 rw[Oper.semAt_eq _ _ _ (fun c=>by rw[M.VP]; exact fun h=>by cases h),fJ,Oper.uponIn_skip,M.aii];exact wpListIn_nil (wpIn_ret ⟨rfl,ae,aj⟩)
def wT (x:List B) (ord:dr) (ps:List (List B)) (cap dW:Int) :Int:=if x∈ord.l then 5 else if ∀ p∈ps,p∈ord.l then (if dW=cap then 8 else 1) else 6
theorem abV {w:World} {R:Nat->Prop} {h:aM} {μ:cg} {f:FuncId} {b0 b5:U} {v:Value} (ap:aN w R h μ (.fn f [] [b0,b5]) v) :∃ iK jh,v=.func (.func f) #[] #[iK,jh]/\aN w R h μ b0 iK/\aN w R h μ b5 jh:=by
 cases ap with
 | fn _ _ _ fs cs aE ah ad ae=>
  have aQ:fs=#[] :=by apply avt; simpa using aE
  subst aQ;obtain⟨cs⟩:=cs;rcases cs with _ | ⟨iK,_ | ⟨jh,_ | ⟨yw,cs⟩⟩⟩
  ·simp at ah
  ·simp at ah
  ·exact⟨iK,jh,rfl,ae 0 b0 iK rfl rfl,ae 1 b5 jh rfl rfl⟩
  ·simp at ah
theorem ab9 {l:List U} {t:Nat} (h:t<l.length) :l.getD t gy=l[t] :=by simp[List.getD,h]
theorem aca {l:List U} {t:Nat} (h:l.length<=t) :l.getD t gy=gy:=by simp[List.getD,atd h]
theorem ahR:Enters Tryz.prog 163:=by
 obtain⟨yZ,qu,qv,jG,rQ,rs,M⟩:=Vv;exact enters_of Tryz.func163 (by kernel_rfl) M.body
theorem Jl {cO W:World} {l:Nat} (o:Obj) (af:fO cO W) (al:cO.heap.size<=l) :fO cO (W.putObj l o) :=
 fv.nR ((fv.wg af (as3 _)).tr (fv.put W o al af.toBelow.size))
set_option maxHeartbeats 4000000 in
theorem al4 (E:List U) (ps:dr) (CJ:a5 E=true) (qP:E.length=11) (ju:∀ h:1<E.length,E[1]'h=aD ps) (h8:eu ps) (gZ:ps.l.length<=1000000) (x:List B) (ag:x.length=32) (ord:dr) (kE:eu ord) (dF:ord.l.length<=1000000) (cap dW:Int) (parts dq:U) (av:parts.closed=true) (aR:dq.closed=true) :
  bA Tryz.prog GS 87 [.aG (zw cap dW parts dq ord),.aG E,.aG (a1 x)] (.int .u8 (wT x ord ps.l cap dW)) :=by
 intro w A vs aw jb ap;obtain⟨xa,uO,uP,uQ,oC,rT,qx,qy,km,t4,M⟩:=alT;obtain⟨S,hS⟩:∃ S,S=zw cap dW parts dq ord:=⟨_,rfl⟩
 have Gg:a5 S=true:=by rw[hS]; exact Q9 av aR
 have tu:S.length=5:=by rw[hS]; rfl
 have fH:∀ h:0<S.length,S[0]'h=.int .i64 cap:=fun h=>by simp only[hS]; rfl
 have CA:∀ h:3<S.length,S[3]'h=.int .i64 dW:=fun h=>by simp only[hS]; rfl
 have n2:∀ h:4<S.length,S[4]'h=aD ord:=fun h=>by simp only[hS]; rfl
 obtain⟨X,cM⟩:∃ X,X=a1 x:=⟨_,rfl⟩
 have zT:X.length=32:=by rw[cM]; exact de ag
 have SX:a5 X=true:=by rw[cM]; exact gK x
 have cZ:=It ord kE dF x ag;rw[<-cM] at cZ ap;rw[<-hS] at ap;have fz:Tryz.prog.follows .mixedOrders=true:=Tryz.checked.mixed;have CM:=dw ord;obtain⟨w4,vr⟩:∃ w4,w4=wT x ord ps.l cap dW:=⟨_,rfl⟩
 rw[<-vr];refine (callsIn_wide (n:=0)).1 (callsIn_of_wp_marks (fn:=Tryz.f87) Tryz.func87 M.body trivial ?_ rfl);obtain⟨mn,xB⟩:∃ mn,mn=bodyPostM Fence.wide 0 Tryz.prog Tryz.f87 (fun e w'=>∃ v,e=Ending.returned v/\fO w w'/\dV w' (fun k=>A k\/w.heap.size<=k) (.int .u8 w4) v) :=⟨_,rfl⟩
 rw[<-xB];have CR:∀ (a:Go.Act) (W:World) (v:Int),a.defers=[]->(results Tryz.f87 a.tmps).run Tryz.prog W=.ok (.int .u8 v) W->v=w4->fO w W->mn .ret a W:=by
  intro a W v bb ay ja af;rw[xB];show LeavesInM _ _ _ _ _ _ a.defers _ _;rw[bb];exact⟨_,ay,_,rfl,af,by rw[ja]; exact .int _ _⟩
 have Tb:∀ (a:Go.Act) (W:World) (D:Nat) (v:Int),a.defers=[{ target:=.collected D,args:=#[] }]->W.heap[D]? = some (.deferred (some []))->(results Tryz.f87 a.tmps).run Tryz.prog (W.putObj D (.deferred none))=.ok (.int .u8 v) (W.putObj D (.deferred none))->v=w4->fO w (W.putObj D (.deferred none))->mn .ret a W:=by
  intro a W D v bb aU ay ja af;rw[xB];show LeavesInM _ _ _ _ _ _ a.defers _ _;rw[bb];exact⟨by simp,.inl ⟨_,_,rfl,run_takeDeferred aU,_,ay,_,rfl,af,by rw[ja]; exact .int _ _⟩⟩
 have up:∀ {c:U} {v:Value},dV w A c v->aN w (fun k=>A k\/w.heap.size<=k) aM.empty (fun _=>none) c v:=fun ah=>ah.up (fun k _ ar=>⟨.inl ar,p7 _ k⟩)
 have g:mm GS w (fun k=>A k\/w.heap.size<=k) aM.empty (fun _=>none) :=fun i=>⟨bl i,up (aw i)⟩
 have GL:Tryz.f87.ntmps=21:=by kernel_rfl
 have rel:=A1 w (fun k=>A k\/w.heap.size<=k) fun k ar=>.inr ar
 refine wpIn_seq (tf (σ:=lv [.aG S,.aG E,.aG X]) (l:=[]) (K:=fun e σ l=>e=.normal/\l=[.cells 5 S,.cells 11 E,.cells 32 X,.cells 1 [.int .u8 0]]/\σ 3=.ptr 0 0 5/\σ 4=.ptr 1 0 11/\σ 5=.ptr 2 0 32/\σ 6=.ptr 3 0 1)
  fz bl M.tb ?_ rel g ⟨by rw[GL]; simp[jb],rfl,fun t=>?_⟩ ?_)
 ·simp[lv,tu,qP,zT]
 ·by_cases aV:t<([.aG S,.aG E,.aG X] :List U).length
  ·have aB:=ab9 aV;have Do:(vs++Array.replicate (Tryz.f87.ntmps - vs.size) undef).getD t undef=vs[t]'(by rw[jb]; exact aV) :=by
    rw[atq,aua (by rw[jb]; exact aV)];simp[show t<vs.size by rw[jb]; exact aV]
   show aN _ _ _ _ (([.aG S,.aG E,.aG X] :List U).getD t gy) _;rw[aB,Do];exact up (ap t _ _ (as4 aV) (by simp))
  ·have aB:=aca (au2 aV);have Do:(vs++Array.replicate (Tryz.f87.ntmps - vs.size) undef).getD t undef=undef:=by
    rw[atq,auo (by rw[jb]; exact au2 aV),avg];split<;>rfl
   show aN _ _ _ _ (([.aG S,.aG E,.aG X] :List U).getD t gy) _;rw[aB,Do];exact EG
 rintro e a0 gQ sV Ok fh ⟨rfl,rfl,ei,hg,iH,yf⟩ oI nC s0;have ce:=g.ext oI;by_cases h7:x∈ord.l
 ·rw[decide_eq_true h7] at cZ;have fo:(5:Int)=w4:=by rw[vr]; unfold wT; rw[if_pos h7]
  suffices ak:(Code.seq (.region 1 uO false) (.cond (.tmp 10) (.seq (.region 2 uP false) .ret) .skip)).wpIn Fence.wide 0 Tryz.prog (fun e a W=>e=.ret/\mn .ret a W) a0 gQ from wpIn_seq (wpIn_mono ak fun e a w ⟨am,h⟩=>by subst am; exact h)
  refine tf (σ:=Ok) (K:=fun e σ l=>e=.ret/\l=[.cells 5 S,.cells 11 E,.cells 32 X,.cells 1 [.int .u8 5]]/\σ 6=.ptr 3 0 1) fz bl M.b0 ?_ nC ce s0 ?_
  ·simp[ei,iH,yf,tu,n2,zT,as1];refine a4 cZ (by simp[a5,U.closed,CM,SX]) ?_;simp[yf]
  ·rintro e a2 bL gR hZ l1 ⟨rfl,rfl,md⟩ nY mi cQ;have bu:=cQ.val 6;rw[md] at bu;exact⟨rfl,CR a2 bL 5 cQ.defers (JT mi rfl bu (fun _ _ _=>rfl) (as3 _) (N5 5)) fo (y6 (oI.trans nY))⟩
 ·rw[decide_eq_false h7] at cZ;refine wpIn_seq (tf (σ:=Ok) (K:=fun e σ l=>e=.normal/\l=[.cells 5 S,.cells 11 E,.cells 32 X,.cells 1 [.int .u8 0]]/\σ 3=.ptr 0 0 5/\σ 4=.ptr 1 0 11/\σ 6=.ptr 3 0 1) fz bl M.b0 ?_ nC ce s0 ?_)
  ·simp[ei,iH,yf,tu,n2,zT,as1];refine a4 cZ (by simp[a5,U.closed,CM,SX]) ?_;simp[ei,hg,yf]
  rintro e a2 bL gR hZ l1 ⟨rfl,rfl,kg,jA,md⟩ nY mi cQ;have aO:=ce.ext nY;show (Code.seq (.seq (.region 3 uQ false) (.block 0 (.rangeFunc (.tmp 13) #[14] .skip (.block 1 (.seq (.region 4 oC false) .ret))))) _).wpIn Fence.wide 0 Tryz.prog mn a2 bL;refine wpIn_seq (wpIn_seq (tf (σ:=hZ) (K:=fun e σ l=>e=.normal/\l=h6 S E X 0/\σ 3=.ptr 0 0 5/\σ 6=.ptr 3 0 1/\σ 13=.fn 163 [] [.ptr 5 0 11,.ptr 4 0 5]) fz bl M.ik ?_ mi aO cQ ?_))
  ·simp[kg,jA,tu,qP,as1];refine ahS S E tu qP ?_;simp[kg,md,h6]
  rintro e b4 cO yV YR gg ⟨rfl,rfl,g1,jy,afS⟩ B4 A0 kn;have aZ:=aO.ext B4;have Gd:fO w cO:=y6 ((oI.trans nY).trans B4);clear ei hg iH yf kg jA md s0 cQ nC mi oI nY B4 ce aO;have bu:=kn.val 6;rw[jy] at bu;have Co:=kn.val 13;rw[afS] at Co;obtain⟨iK,jh,ad2,pX,q0⟩:=abV Co;have ke:=Wt A0 (cs:=E) (by rfl) CJ pX;have nr:=Wt A0 (cs:=S) (by rfl) Gg q0;have Dm:w.heap.size<=cO.heap.size:=Gd.toBelow.size;have FY:∀ {sD:Obj} {cC:World},cC=(cO.alloc (.deferred (some []))).alloc sD->fO cO cC/\cC.heap[cO.heap.size]? = some (.deferred (some []))/\cC.heap.size=cO.heap.size+2:=by
   intro sD cC e;subst e;refine⟨fv.nR ((fv.alloc (as3 _) _).tr (fv.alloc (by simp) _)),?_,by simp⟩;exact (((RowKit.Below.refl (cO.heap.size+1) (cO.alloc (.deferred (some [])))).alloc (by simp) sD).block cO.heap.size (by omega)).trans (World.alloc_heap_new _ _)
  show (Code.block 0 _).wpIn Fence.wide 0 Tryz.prog _ b4 cO;refine wpIn_block (ajM (gf:=163) (lb:=#[iK,jh]) (A:=∀ p∈ps.l,p∈ord.l) (B:=¬ ∀ p∈ps.l,p∈ord.l) ad2 ahR rfl
   (fun IW eK=>bI (fun k=>A k\/w.heap.size<=k) w.heap.size IW (a7 (h6 S E X 0)) yV/\c5 IW (a7 (h6 S E X 0)) yV eK (a7 (h6 S E X 6)) yV/\bI (fun k=>A k\/w.heap.size<=k) w.heap.size eK (a7 (h6 S E X 6)) yV)
   (fun IW eK h=>JQ h.1 (KW S E X 0) h.2.1) ?_ ?_ ?_ ?_)
  ·intro fn y W af;obtain⟨cX,_,_⟩:=FY rfl;obtain⟨zt,yA⟩:=wq A0 (Jl (l:=cO.heap.size+1) (.loop (hH fn b4.tmps #[14] (.block 1 (.seq (.region 4 oC false) .ret)) cO.heap.size .busy none)) (rX cX af) (by omega));refine wpIn_mono (akf M (S:=S) (E:=E) (X:=X) (fun _=>trivial) yA ?_) ?_
   ·have oL:=aN.ext zt bu;have aV:(b4.tmps.setIfInBounds 14 y).getD 6 undef=b4.tmps.getD 6 undef:=by simp only[atq,avr (show 14≠6 by omega)]
    rw[<-aV] at oL;have eM:∀ T:Array Value,T=b4.tmps.setIfInBounds 14 y->aN (W.putObj (cO.heap.size+1) (.loop (hH fn b4.tmps #[14] (.block 1 (.seq (.region 4 oC false) .ret)) cO.heap.size .busy none))) (fun k=>A k\/w.heap.size<=k) (a7 (h6 S E X 0)) yV (.ptr 3 0 1) (T.getD 6 undef) :=fun T e=>by rw[e]; exact oL
    exact eM _ (by simp)
   ·rintro e c9 eK ⟨am,ad,ae⟩;exact⟨am,yA,ad,ae⟩
  ·intro fn cC oP gX;obtain⟨cX,d1,gA⟩:=FY oP;rw[hS] at nr;refine (ahQ E ps CJ qP ju h8 gZ ord kE dF cap dW parts dq av aR (ke.nR cX) (nr.nR cX) (fun i=>dV.nR ((rZ (aZ i).2 (aZ i).1).up fun k _ ar=>⟨ar.1,p7 _ k⟩) cX) gX ?_).mono ?_
   ·rintro W eK af ⟨j2,⟨c7,aQ,dU⟩,rfl⟩;have acY:=(rX cX af).toBelow.size;refine⟨A,fun i=>(aw i).nR (fv.nR ((((fv.wg Gd (as3 _)).tr (fv.wg (rX cX af) Dm)).tr (fv.put W _ (by omega) (by omega))).tr ((fv.ext c7 aQ).tr (fv.put j2 _ (by omega) dU.size))))⟩
   ·rintro e dG ⟨ap,dm | ⟨aC,W,eK,af,⟨j2,aV,rfl⟩,dX⟩⟩
    ·exact⟨ap,.inl dm⟩
    ·exact⟨ap,.inr ⟨aC,W,j2,af,aV,dX⟩⟩
  ·intro fn cC dG oP dm af;obtain⟨cX,d1,gA⟩:=FY oP;generalize FX:dG.putObj _ _=eK;have bJ:fO cO eK:=by rw[<-FX]; exact Jl _ (rX cX af) (by omega)
   have zN:eK.heap[cO.heap.size]? = some (.deferred (some [])) :=by rw[<-FX,World.putObj_heap_other (by omega)]; exact (af.toBelow.block _ (by omega)).trans d1
   obtain⟨zt,yA⟩:=wq A0 bJ;have Xo:=kn.ext zt;have bm:=aZ.ext zt;have Gn:∀ (ho:Go.Act) (oD:World) (uH:cg) (v:Int),c5 eK (a7 (h6 S E X 0)) yV oD (a7 (h6 S E X v)) uH->bI (fun k=>A k\/w.heap.size<=k) w.heap.size oD (a7 (h6 S E X v)) uH->
     aN oD (fun k=>A k\/w.heap.size<=k) (a7 (h6 S E X v)) uH (.ptr 3 0 1) (ho.tmps.getD 6 undef)->ho.defers=[{ target:=.collected cO.heap.size,args:=#[] }]->v=w4->mn .ret ho oD:=by
    intro ho oD uH v Rx WE oL bb ja;have Sq:oD.heap[cO.heap.size]? = some (.deferred (some [])) :=(JQ yA (KW S E X 0) Rx).same _ _ zN rfl;refine Tb ho oD cO.heap.size v bb Sq (JT WE (b:=3) rfl oL (fun k ar ah=>World.putObj_heap_other (fun KT=>by obtain⟨arr,e,eU,ah⟩:=ah; rw[KT,Sq] at ah; cases ah)) (by simp) (N5 v)) ja ?_;exact fv.nR ((((fv.wg Gd (as3 _)).tr (fv.wg bJ Dm)).tr (fv.ext yA Rx)).tr (fv.put oD _ Dm WE.size))
   show (Code.seq (.seq (.region 5 rT false) (.cond (.tmp 20) (.seq (.region 6 qx false) .ret) .skip)) (.seq (.region 7 qy false) .ret)).wpIn Fence.wide 0 Tryz.prog mn { tmps:=b4.tmps,defers:={ target:=.collected cO.heap.size,args:=#[] }::b4.defers } eK;refine wpIn_seq (wpIn_seq (MS (σ:=YR) (D:=[{ target:=.collected cO.heap.size,args:=#[] }]) fz bl M.abf M.ait (K:=fun σ l=>l=h6 S E X 0/\σ 6=.ptr 3 0 1/\σ 20=.bool (decide (dW=cap))) ?_ yA bm ⟨Xo.size,rfl,Xo.val⟩ (by rw[kn.defers]) ?_))
   ·simp[g1,jy,h6,tu,fH,CA]
   rintro gB qA asZ YS Mk ⟨rfl,md,Hi⟩ FD WY H9 S4;show (Code.cond (.tmp 20) (.seq (.region 6 qx false) .ret) .skip).wpIn Fence.wide 0 Tryz.prog _ gB qA;by_cases rc:dW=cap
   ·rw[decide_eq_true rc] at Hi;refine wpIn_cond_true (EJ H9 Hi) (wpIn_seq (MS (σ:=YS) fz bl M.abg M.aiu (K:=fun σ l=>l=h6 S E X 8/\σ 6=.ptr 3 0 1) ?_ WY (bm.ext FD) H9 S4 ?_))
    ·simp[md,h6]
    rintro ho oD uH YT DR ⟨rfl,yl⟩ B5 HZ A4 Kx;refine wpIn_ret (Gn ho oD uH 8 (FD.trans B5) HZ (by have:=A4.val 6; rwa [yl] at this) Kx ?_);rw[vr]; unfold wT; rw[if_neg h7,if_pos dm,if_pos rc]
   ·rw[decide_eq_false rc] at Hi;refine wpIn_cond_false (EJ H9 Hi) (wpIn_skip ?_);show (Code.seq (.region 7 qy false) .ret).wpIn Fence.wide 0 Tryz.prog mn gB qA;refine wpIn_seq (MS (σ:=YS) fz bl M.abh M.aiv (K:=fun σ l=>l=h6 S E X 1/\σ 6=.ptr 3 0 1) ?_ WY (bm.ext FD) H9 S4 ?_)
    ·simp[md,h6]
    rintro ho oD uH YT DR ⟨rfl,yl⟩ B5 HZ A4 Kx;refine wpIn_ret (Gn ho oD uH 1 (FD.trans B5) HZ (by have:=A4.val 6; rwa [yl] at this) Kx ?_);rw[vr]; unfold wT; rw[if_neg h7,if_pos dm,if_neg rc]
  ·rintro fn cC W j2 dG oP jI af ⟨c7,aQ,dU⟩ dX;obtain⟨cX,d1,gA⟩:=FY oP;have acY:=(rX cX af).toBelow.size;have acK:cO.heap.size+1<W.heap.size:=by have:=af.toBelow.size; omega
   obtain⟨zt,yA⟩:=wq A0 (Jl (l:=cO.heap.size+1) (.loop (hH fn b4.tmps #[14] (.block 1 (.seq (.region 4 oC false) .ret)) cO.heap.size .busy none)) (rX cX af) (by omega));have Ty:=JQ c7 (KW S E X 0) aQ;have acB:W.heap[cO.heap.size]? = some (.deferred (some [])) :=(af.toBelow.block _ (by omega)).trans d1;have Kb:j2.heap[cO.heap.size]? = some (.deferred (some [])) :=Ty.same _ _ (by rw[World.putObj_heap_other (by omega)]; exact acB) rfl;have acJ:=Ty.same _ _ (World.putObj_heap_same acK) rfl;have acA:=(att.1 Kb).1;have SR:=dX.toBelow.size;simp only[World.putObj_size] at SR;have Cr:dG.heap[cO.heap.size]? = some (.deferred (some [])) :=(dX.toBelow.block _ (by simpa using acA)).trans (by rw[World.putObj_heap_other (by omega)]; exact Kb);show mn .ret { tmps:=b4.tmps,defers:={ target:=.collected cO.heap.size,args:=#[] }::b4.defers } _;refine Tb _ _ cO.heap.size 6 (by rw[kn.defers]) (by rw[World.putObj_heap_other (by omega)]; exact Cr) (JT dU (b:=3) rfl (aN.ext (zt.trans aQ) bu) (fun k ar ah=>?_) (by simpa using SR) (N5 6)) ?_ ?_
   ·obtain⟨arr,e,eU,ah⟩:=ah;have KT:k≠cO.heap.size:=fun h=>by rw[h,Kb] at ah; cases ah
    have Tv:k≠cO.heap.size+1:=fun h=>by rw[h,acJ] at ah; cases ah
    have r8:=(att.1 ah).1;rw[World.putObj_heap_other KT,World.putObj_heap_other Tv,dX.toBelow.block k (by simpa using r8),World.putObj_heap_other Tv]
   ·rw[vr]; unfold wT; rw[if_neg h7,if_neg jI]
   ·have aj:fv w.heap.size w j2:=(((fv.wg Gd (as3 _)).tr (fv.wg (rX cX af) Dm)).tr (fv.put W _ (by omega) (by omega))).tr (fv.ext c7 aQ);have vI:=dU.size;exact fv.nR (((aj.tr (fv.put j2 _ (by omega) vI)).tr (fv.wg dX (by simpa using vI))).tr ((fv.put dG _ (by omega) (by omega)).tr (fv.put _ _ Dm (by simp; omega))))
end Op

end Go.bY

namespace Go.bY
open Go Go.Proofs
set_option maxRecDepth 100000
open hl Op
def Dv:List U->Option (List B)
 | []=>some []
 | .int .u8 n::r=>match decide (0<=n)&&decide (n<256) with
  | true=>match Dv r with | some l=>some (BitVec.ofNat 8 n.toNat::l) | none=>none
  | false=>none
 | _=>none
theorem LR:∀ {e:List U} {i:List B},Dv e=some i->e=a1 i
 | [],i,h=>by cases h; rfl
 | c::r,i,h=>by
  unfold Dv at h;split at h
  ·rename_i aQ; cases aQ
  ·rename_i n cx aQ;cases aQ;split at h
   ·rename_i af;split at h
    ·rename_i l al;cases h;simp only[as7,decide_eq_true_eq] at af;rw[LR al];have:((BitVec.ofNat 8 n.toNat).toNat:Int)=n:=by
      rw[atm,atb (by omega)]; omega
     simp only[a1,atr,bz,u,this]
    ·cases h
   ·cases h
  ·cases h
def Hd:List (List U)->Option (List (List B))
 | []=>some []
 | e::r=>match Dv e with
  | some i=>match Nat.beq i.length 32 with
   | true=>match Hd r with | some l=>some (i::l) | none=>none
   | false=>none
  | none=>none
theorem UA:∀ {es:List (List U)} {l:List (List B)},Hd es=some l->es=l.map a1/\∀ i∈l,i.length=32
 | [],l,h=>by cases h; exact⟨rfl,fun i az=>by cases az⟩
 | e::r,l,h=>by
  unfold Hd at h;split at h
  ·rename_i i az;split at h
   ·rename_i af;split at h
    ·rename_i l' al;cases h;obtain⟨ad,ae⟩:=UA al;refine⟨by rw[LR az,ad]; rfl,fun x ag=>?_⟩;rcases at0.1 ag with aj | aj
     ·rw[aj]; exact atz af
     ·exact ae x aj
    ·cases h
   ·cases h
  ·cases h
def Hc:U->Option dr
 | .aH=>some none
 | .aX 32 es=>match Hd es with | some l=>(match Nat.ble l.length 100000 with | true=>some (some l) | false=>none) | none=>none
 | _=>none
theorem Uz {c:U} {s:dr} (h:Hc c=some s) :c=aD s/\eu s/\s.l.length<=1000000:=by
 unfold Hc at h;split at h
 ·cases h; exact⟨rfl,fun i az=>(by cases az),by simp[c3.l]⟩
 ·split at h
  ·rename_i l al;split at h
   ·rename_i af;cases h;obtain⟨ad,ae⟩:=UA al;have:=at2 af;exact⟨by rw[ad]; rfl,ae,by show l.length<=_; omega⟩
   ·cases h
  ·cases h
 ·cases h
def xf:List B->List B->Bool
 | [],[]=>true
 | x::a,y::b=>match Nat.beq x.toNat y.toNat with | true=>xf a b | false=>false
 | _,_=>false
theorem Je:∀ a b:List B,xf a b=true<->a=b
 | [],[]=>by simp[xf]
 | [],y::b=>by simp[xf]
 | x::a,[]=>by simp[xf]
 | x::a,y::b=>by
  unfold xf;split
  ·rename_i h;have ad:=atz h;rw[Je a b,List.cons.injEq];exact Iff.intro (fun h=>And.intro (atg ad) h) (fun h=>h.2)
  ·rename_i h;refine Iff.intro (fun h=>(by cases h)) (fun aR=>?_);injection aR with ad ae
   rw[ad,avs] at h;cases h
def As (x:List B) :List (List B)->Bool
 | []=>false
 | y::r=>match xf x y with | true=>true | false=>As x r
theorem Dw (x:List B) :∀ l,As x l=true<->x∈l
 | []=>by simp[As]
 | y::r=>by
  unfold As;split
  ·rename_i h; simp[(Je x y).1 h]
  ·rename_i h;have bV:x≠y:=fun e=>by rw[(Je x y).2 e] at h; cases h
   rw[Dw x r]; simp[bV]
def BA (ord:List (List B)) :List (List B)->Bool
 | []=>true
 | p::r=>match As p ord with | true=>BA ord r | false=>false
theorem I4 (ord:List (List B)) :∀ ps,BA ord ps=true<->∀ p∈ps,p∈ord
 | []=>by simp[BA]
 | p::r=>by
  unfold BA;split
  ·rename_i h; rw[I4 ord r]; simp[(Dw p ord).1 h]
  ·rename_i h;have aC:¬ p∈ord:=fun e=>by rw[(Dw p ord).2 e] at h; cases h
   simp[aC]
def N4 (x:List B) (ord ps:List (List B)) (cap dW:Int) :Int:=match As x ord with
 | true=>5
 | false=>match BA ord ps with
  | true=>(match decide (dW=cap) with | true=>8 | false=>1)
  | false=>6
theorem al2 (x:List B) (ord:dr) (ps:List (List B)) (cap dW:Int) :N4 x ord.l ps cap dW=wT x ord ps cap dW:=by
 unfold N4 wT;split
 ·rename_i h; rw[if_pos ((Dw _ _).1 h)]
 ·rename_i h;rw[if_neg fun e=>by rw[(Dw _ _).2 e] at h; cases h];split
  ·rename_i ae;rw[if_pos ((I4 _ _).1 ae)];split
   ·rename_i aj; rw[if_pos (of_decide_eq_true aj)]
   ·rename_i aj; rw[if_neg (of_decide_eq_false aj)]
  ·rename_i ae;rw[if_neg fun e=>by rw[(I4 _ _).2 e] at ae; cases ae]
def Yo:List U->Option U
 | [.aG [.int .i64 cap,parts,dq,.int .i64 dW,VZ],.aG (fm::HR::bx),.aG x]=>match Nat.beq bx.length 9&&(parts.closed&&(dq.closed&&(fm.closed&&a5 bx))) with
  | true=>match Hc VZ with
   | some ord=>match Hc HR with
    | some ps=>match Dv x with
     | some i=>match Nat.beq i.length 32 with
      | true=>some (.int .u8 (N4 i ord.l ps.l cap dW))
      | false=>none
     | none=>none
    | none=>none
   | none=>none
  | false=>none
 | _=>none
abbrev Yp:FuncId × Bool × (List U->Option U) :=(87,false,Yo)
theorem al3:s3 Tryz.prog GS Yp:=by
 intro args r h;refine⟨?_,fun h=>by cases h⟩;simp only[Yo] at h;split at h
 ·rename_i cap parts dq dW VZ fm HR bx x;split at h
  ·rename_i ah;simp only[as7] at ah;obtain⟨b0,b5,ik,gJ,Qo⟩:=ah;split at h
   ·rename_i ord au;split at h
    ·rename_i ps av;split at h
     ·rename_i i az;split at h
      ·rename_i af;cases h;obtain⟨iv,gP,o0⟩:=Uz au;obtain⟨q1,db,gh⟩:=Uz av;have ag:=LR az;rw[al2,ag,iv];have mG:HR.closed=true:=by rw[q1]; exact dw ps
       exact al4 (fm::HR::bx) ps (by simp[a5,gJ,Qo,mG]) (by have:=atz b0; simp[this]) (fun _=>q1) db gh i (atz af) ord gP o0 cap dW parts dq b5 ik
      ·cases h
     ·cases h
    ·cases h
   ·cases h
  ·cases h
 ·cases h
end Go.bY

namespace Go.bY
open Go Go.Proofs
set_option maxRecDepth 100000
namespace Op
open hl
theorem AV (s:dr) (au:eu s) (al:s.l.length<=1000000) (x:List B) (ag:x.length=32) :bA Tryz.prog GS 41 [aD s,.aG (a1 x)] (.int .i64 (he x s.l 0)) :=by
 refine bW Tryz.checked.mixed bl ?_;apply bq Tryz.func41 [];simp[aD];refine cB s.l.length (fun k σ l=>l=[.cells 32 (a1 x)]/\σ 0=cA 32 a1 s/\σ 3=.ptr 0 0 32/\σ 5=.int .i64 k/\∀ (j:Nat) (z:List B),j<k->s.l[j]? = some z->z≠x) ?_ (by simp[aD,de ag]);rintro k σ l ar ⟨rfl,ce,aZ,bm,ak⟩;obtain⟨σ,rfl⟩:=ln ce aZ bm;clear ce aZ bm;simp;refine oX (fun h=>?_) (fun h=>?_)
 ·simp only[decide_eq_true_eq] at h;obtain⟨y,aJ,er⟩:=bP (l:=s.l) (k:=k) (by omega);have aQ:IntKind.i64.wrap ((k:Int)+1)=((k+1:Nat) :Int) :=by rw[IntKind.wrap_i64]; omega
  simp[aJ,de (au y er),de ag,as1,LQ (au y er) ag];by_cases am:y=x
  ·have dP:=DG (n:=0) aJ ak am;simp[am];exact aP (by rw[dP]; simp) rfl
  ·simp[am,aQ];refine⟨by omega,fun j z ai ax=>?_⟩;by_cases gG:j=k
   ·subst gG; rw[aJ] at ax; obtain rfl:=Option.some.inj ax; exact fun h=>am h
   ·exact ak j z (by omega) ax
 ·simp[h];have qV:k=s.l.length:=by simp at h; omega
  exact aP (by rw[L6 fun j z ax=>ak j z (by rw[qV]; exact (as0.1 ax).1) ax]) rfl
def mr (l ps:List (List B)) :Bool:=decide (∀ p∈ps,p∈l)
theorem M4 (s:dr) (au:eu s) (al:s.l.length<=1000000) (t:dr) (aV:eu t) (lM:t.l.length<=1000000) :bA Tryz.prog GS 59 [aD s,aD t] (.bool (mr s.l t.l)) :=by
 refine bW Tryz.checked.mixed bl ?_;apply bq Tryz.func59 [];have cY:=dw s;have aK:cv (.aq 32) (aD t)=some (.int .i64 t.l.length) :=by simp[aD]
 simp;refine cB t.l.length (fun k σ l=>σ 0=aD s/\σ 1=aD t/\σ 5=.int .i64 k/\∀ (j:Nat) (z:List B),j<k->t.l[j]? = some z->z∈s.l) ?_ (by simp);rintro k σ l ar ⟨ce,aO,bm,ak⟩;obtain⟨σ,rfl⟩:=ln ce aO bm;clear ce aO bm;by_cases bB:k<t.l.length
 ·obtain⟨y,aJ,er⟩:=bP bB;have aQ:IntKind.i64.wrap ((k:Int)+1)=((k+1:Nat) :Int) :=by rw[IntKind.wrap_i64]; omega
  have bZ:cN (.aq 32) (aD t) (.int .i64 (k:Int))=some (.bK (a1 y) 0) :=by simp[aD,aJ]
  have n9:=gK y;have eE:=AV s au al y (aV y er);have fA:=de (aV y er);have TQ:=vU y s.l 0;obtain⟨Y,gX⟩:∃ Y,Y=a1 y:=⟨_,rfl⟩
  rw[<-gX] at bZ n9 eE fA;simp[aK,bB,bZ,fA,as1];refine a4 eE (by simp[a5,U.closed,cY,n9]) ?_;by_cases hm:y∈s.l
  ·have ae:¬ he y s.l 0<0:=by have:=TQ.2 hm; omega
   simp[ae,bB,aQ];intro j z ai ax;by_cases gG:j=k
   ·subst gG; rw[aJ] at ax; obtain rfl:=Option.some.inj ax; exact hm
   ·exact ak j z (by omega) ax
  ·have ae:he y s.l 0<0:=by
    rcases Int.lt_or_le (he y s.l 0) 0 with h | h
    ·exact h
    ·exact absurd (TQ.1 h) hm
   simp[ae];exact aP (congrArg U.bool (decide_eq_false fun h=>hm (h y er)).symm) rfl
 ·have qV:k=t.l.length:=by omega
  simp[aK,bB];refine aP (congrArg U.bool (decide_eq_true fun p av=>?_).symm) rfl;obtain⟨j,ai⟩:=atc.1 av;exact ak j p (by rw[qV]; exact (as0.1 ai).1) ai
theorem qc {l:List (List B)} (h:dA l=true) :∀ {i j:Nat} {a b:List B},i<j->l[i]? = some a->l[j]? = some b->ca a b<0:=by
 have aI:=of_decide_eq_true h;intro i j
 induction j with
 | zero=>intro a b nk; omega
 | succ j aS=>
  intro a b nk aB af;have eO:=(as0.1 af).1;have ad:=aI (j+1) eO (by omega);obtain⟨c,ah,_⟩:=bP (l:=l) (k:=j) (by omega);rw[show j+1 - 1=j by omega,fB ah,fB af] at ad;by_cases aea:i=j
  ·subst aea;rw[aB] at ah;obtain rfl:=Option.some.inj ah;exact ad
  ·exact zm _ _ _ (aS (by omega) aB ah) ad
theorem aj8 {l:List (List B)} (h:dA l=true) {i j:Nat} {a:List B} (aB:l[i]? = some a) (af:l[j]? = some a) :i=j:=by
 rcases auj i j with ad | ad | ad
 ·have:=qc h ad aB af; rw[qE] at this; omega
 ·exact ad
 ·have:=qc h ad af aB; rw[qE] at this; omega
def i7 (l:List (List B)) (x:List B) :Nat:=(l.takeWhile fun t=>decide (ca t x<0)).length
theorem Jv (x:List B) :∀ {l:List (List B)} {p:Nat},p<=l.length->(∀ (t:Nat) (y:List B),t<p->l[t]? = some y->ca y x<0)->(∀ y,l[p]? = some y->¬ ca y x<0)->i7 l x=p
 | [],p,av,_,_=>by simp at av; subst av; rfl
 | y::l,0,_,_,ae=>by
  have:=ae y (by simp);unfold i7;rw[au7,decide_eq_false this]; rfl
 | y::l,p+1,av,ad,ae=>by
  have aJ:=ad 0 y (by omega) (by simp);have aS:=Jv x (l:=l) (p:=p) (by simpa using av) (fun t z aV ax=>ad (t+1) z (by omega) (by simpa using ax)) (fun z ax=>ae z (by simpa using ax));unfold i7 at aS ⊢;rw[au7,decide_eq_true aJ];simpa using aS
theorem akJ (n:Nat) (h:n<9223372036854775808) :cm .shr .u64 (n:Int) .u64 1=some (.int .u64 ((n / 2:Nat) :Int)) :=by
 have:=u0 (BitVec.ofNat 64 n) .u64 1;have aL:(u (BitVec.ofNat 64 n) :Int)=n:=by unfold u; rw[atm,atb (by omega)]
 have ap:(u (BitVec.ofNat 64 n >>> 1) :Int)=((n / 2:Nat) :Int) :=by
  unfold u; rw[atS,atm,atb (by omega),atv]
 rw[aL,ap] at this;exact this
structure YY (s:dr) (X:List U) (x:List B) (m:Nat) (σ:a8) (l:ao) :Prop where
 ex:∃ (i j:Nat),j - i=m/\i<=j/\j<=s.l.length/\l=[.cells 32 X]/\σ 0=aD s/\σ 2=.fn 75 [] []/\σ 4=.ptr 0 0 32/\σ 8=.int .i64 s.l.length/\σ 9=.int .i64 i/\σ 10=.int .i64 j ∧
  (∀ (t:Nat) (y:List B),t<i->s.l[t]? = some y->ca y x<0)/\(∀ (t:Nat) (y:List B),j<=t->s.l[t]? = some y->¬ ca y x<0)
theorem Xp (s:dr) (au:eu s) (al:s.l.length<=1000000) (x:List B) (ag:x.length=32) (hm:dA s.l=true) :
  bA Tryz.prog GS 96 [aD s,.aG (a1 x),.fn 75 [] []] (.bv [.int .i64 (i7 s.l x),.bool (decide (x∈s.l))]) :=by
 refine bW Tryz.checked.mixed bl ?_;apply bq Tryz.func96 [];have bD:cv (.aq 32) (aD s)=some (.int .i64 s.l.length) :=by simp[aD]
 have bn:=de ag;have fK:=gK x;have ff:∀ y∈s.l,bA Tryz.prog GS 75 [.aG (a1 y),.aG (a1 x)] (.int .i64 (ca y x)) :=fun y aJ=>vc y x (au y aJ) ag
 obtain⟨X,cM⟩:∃ X,X=a1 x:=⟨_,rfl⟩
 rw[<-cM] at bn fK ff ⊢;simp[bD];refine DU (YY s X x) ?_ s.l.length _ _ ⟨0,s.l.length,by omega,by omega,by omega,by simp[bn],by simp,by simp,by simp[bn],by simp,by simp,by simp,fun t y h=>by omega,fun t y h ae=>by rw[atd h] at ae; cases ae⟩;rintro m σ l ⟨i,j,hW,nk,eO,rfl,ce,aT,bi,gc,h3,j9,ad,ae⟩;obtain⟨σ,rfl⟩:=wL ce aT bi gc h3 j9;clear ce aT bi gc h3 j9;by_cases aK:i<j
 ·obtain⟨h,aR⟩:∃ h,h=(i+j) / 2:=⟨_,rfl⟩
  have bL:IntKind.i64.wrap ((i:Int)+j)=((i+j:Nat) :Int) :=by rw[IntKind.wrap_i64]; omega
  have w2:IntKind.u64.wrap ((i+j:Nat) :Int)=((i+j:Nat) :Int) :=by rw[yQ,auz]; unfold u; rw[atm,atb (by omega)]
  have cO:=akJ (i+j) (by omega);have yO:IntKind.i64.wrap (h:Int)=(h:Int) :=by rw[IntKind.wrap_i64]; omega
  have Bi:IntKind.i64.wrap ((h:Int)+1)=((h+1:Nat) :Int) :=by rw[IntKind.wrap_i64]; omega
  have kA:(i:Int)<(j:Int) :=by omega
  rw[<-aR] at cO;obtain⟨y,aJ,er⟩:=bP (l:=s.l) (k:=h) (by omega);have fA:=de (au y er);have kI:=gK y;have bZ:cN (.aq 32) (aD s) (.int .i64 (h:Int))=some (.bK (a1 y) 0) :=by simp[aD,aJ]
  have n9:=ff y er;obtain⟨Y,gX⟩:∃ Y,Y=a1 y:=⟨_,rfl⟩
  rw[<-gX] at fA kI bZ n9;obtain⟨N,fo⟩:∃ N,N=i+j:=⟨_,rfl⟩
  rw[<-fo] at bL w2 cO;simp[aK,bL,w2,cO,yO,bZ,fA,bn,as1];refine⟨JV,a4 n9 (by simp[a5,U.closed,kI,fK]) ?_⟩;by_cases bu:ca y x<0
  ·simp[bu,Bi];refine⟨j - (h+1),by omega,h+1,j,rfl,by omega,by omega,by simp,by simp,by simp,by simp,by simp,by simp,by simp,fun t z aV ax=>?_,ae⟩;by_cases Ly:t=h
   ·subst Ly; rw[aJ] at ax; obtain rfl:=Option.some.inj ax; exact bu
   ·exact zm _ _ _ (qc hm (by omega) ax aJ) bu
  ·simp[bu];refine⟨h - i,by omega,i,h,rfl,by omega,by omega,by simp,by simp,by simp,by simp,by simp,by simp,by simp,ad,fun t z aV ax cL=>bu ?_⟩;by_cases Ly:t=h
   ·subst Ly; rw[aJ] at ax; obtain rfl:=Option.some.inj ax; exact cL
   ·exact zm _ _ _ (qc hm (by omega) aJ ax) cL
 ·have kA:¬ (i:Int)<(j:Int) :=by omega
  obtain rfl:i=j:=by omega
  have ah:=Jv x (l:=s.l) (p:=i) eO ad (fun y aJ=>ae i y (as3 _) aJ);have h7:∀ {y:List B},s.l[i]? = some y->(y=x<->x∈s.l) :=fun {y} aJ=>by
   constructor
   ·rintro rfl; exact ata aJ
   ·intro Dq;obtain⟨t,aV⟩:=atc.1 Dq;rcases auj t i with aj | aj | aj
    ·have:=ad t x aj aV; rw[qE] at this; omega
    ·subst aj; rw[aJ] at aV; exact Option.some.inj aV
    ·exact absurd (qc hm aj aJ aV) (ae i y (as3 _) aJ)
  by_cases dS:i<s.l.length
  ·have aeb:(i:Int)<(s.l.length:Int) :=by omega
   obtain⟨y,aJ,er⟩:=bP (l:=s.l) (k:=i) dS;have fA:=de (au y er);have kI:=gK y;have bZ:cN (.aq 32) (aD s) (.int .i64 (i:Int))=some (.bK (a1 y) 0) :=by simp[aD,aJ]
   have n9:=ff y er;have adu:ca y x=0<->x∈s.l:=by
    rw[<-h7 aJ];exact⟨zl,fun h=>by rw[h]; exact qE _⟩
   obtain⟨Y,gX⟩:∃ Y,Y=a1 y:=⟨_,rfl⟩
   rw[<-gX] at fA kI bZ n9;simp[dS,bZ,fA,bn,as1];refine⟨JV,a4 n9 (by simp[a5,U.closed,kI,fK]) ?_⟩;simp;refine aP ?_ rfl;rw[ah];simp[adu]
  ·have aeb:¬ (i:Int)<(s.l.length:Int) :=by omega
   simp[dS];refine aP ?_ rfl;have cU:¬ x∈s.l:=fun Dq=>by
    obtain⟨t,aV⟩:=atc.1 Dq;have:=ad t x (by have:=(as0.1 aV).1; omega) aV;rw[qE] at this; omega
   rw[ah,decide_eq_false cU]
theorem Js {l:List (List B)} (hm:dA l=true) {k:Nat} {x:List B} (h:l[k]? = some x) :i7 l x=k:=
 Jv x (auC (as0.1 h).1) (fun t y aV aJ=>qc hm aV aJ h) (fun y aJ=>by rw[h] at aJ; obtain rfl:=Option.some.inj aJ; rw[qE]; omega)
structure bt where
 ids:dr
 ops:c3 bp
def bC (s:c3 bp) :U:=cA 11 a9 s
def bX (g:bt) :List U:=[aD g.ids,bC g.ops]
def c4 (g:bt) :U:=.aG (bX g)
structure g8 (g:bt) :Prop where
 ids:eu g.ids
 ops:∀ o∈g.ops.l,i3 o
 li:g.ids.l.length<=1000000
 cG:g.ops.l.length<=1000000
theorem lz (s:c3 bp) :(bC s).closed=true:=BR l3 s
theorem zj (g:bt) :a5 (bX g)=true:=by have:=dw g.ids; have:=lz g.ops; simp[bX,a5, *]
theorem te (g:bt) :(c4 g).closed=true:=by simp[c4,U.closed,zj]
def eR (ops:List bp) (i:Nat) :List (List B) :=match ops[i]? with | some o=>o.bh.l | none=>[]
theorem AQ {ops:List bp} {i:Nat} {o:bp} (h:ops[i]? = some o) :eR ops i=o.bh.l:=by unfold eR; rw[h]
inductive qr (ids:List (List B)) (ops:List bp) :Nat->Prop
 | mk (i:Nat) (az:i<ids.length) (av:∀ p∈eR ops i,p∈ids) (aw:∀ p∈eR ops i,∀ j,ids[j]? = some p->qr ids ops j) :qr ids ops i
theorem qr.lt {ids:List (List B)} {ops:List bp} {i:Nat} (h:qr ids ops i) :i<ids.length:=by cases h; assumption
def nO (ids:List (List B)) :Prop:=∀ (i j:Nat) (x:List B),ids[i]? = some x->ids[j]? = some x->i=j
theorem vS {ids:List (List B)} (h:dA ids=true) :nO ids:=fun _ _ _ ad ae=>aj8 h ad ae
theorem ux:∀ {a b:List Nat},a.Nodup->(∀ x∈a,x∈b)->a.length<=b.length
 | [],_,_,_=>auc _
 | x::a,b,aC,ak=>by
  rw[av1] at aC;have ag:=ak x (by simp);have aS:=ux (b:=b.erase x) aC.2 (fun y aJ=>(List.mem_erase_of_ne (fun e=>aC.1 (by rw[<-e]; exact aJ))).2 (ak y (by simp[aJ])));rw[List.length_erase_of_mem ag] at aS;have:=List.length_pos_of_mem ag;simp; omega
def pv (ids:List (List B)) (ops:List bp) (out:List Nat) (i:Nat) :Bool:=decide (i∉out)&&mr (out.map (bT ids)) (eR ops i)
def jU (ids:List (List B)) (ops:List bp) (out:List Nat) :Option Nat:=(List.range ops.length).find? (pv ids ops out)
def fT (ids:List (List B)) (ops:List bp) :Nat->List Nat
 | 0=>[]
 | k+1=>match jU ids ops (fT ids ops k) with | some i=>fT ids ops k++[i] | none=>fT ids ops k
def o4 (ids:List (List B)) (ops:List bp) :List Nat:=fT ids ops ops.length
theorem aig {ids:List (List B)} {ops:List bp} {out:List Nat} {i:Nat} (h:jU ids ops out=some i) :i<ops.length/\i∉out/\∀ p∈eR ops i,p∈out.map (bT ids) :=by
 have ad:=List.find?_some h;have ae:=avN h;unfold pv at ad;rw[as7,decide_eq_true_eq] at ad;exact⟨atA.1 ae,ad.1,of_decide_eq_true ad.2⟩
theorem aif {ids:List (List B)} {ops:List bp} {out:List Nat} (h:jU ids ops out=none) {i:Nat} (az:i<ops.length) (au:i∉out) :¬ ∀ p∈eR ops i,p∈out.map (bT ids) :=by
 intro aR;have:=List.find?_eq_none.1 h i (atA.2 az);apply this;unfold pv;rw[as7];exact⟨decide_eq_true au,decide_eq_true aR⟩
theorem aid {ids:List (List B)} {ops:List bp} {out:List Nat} {i:Nat} (az:i<ops.length) (h:pv ids ops out i=true) (af:∀ j,j<i->pv ids ops out j=false) :jU ids ops out=some i:=by
 unfold jU;rw[avi];exact⟨h,by simpa using az,fun j ai=>by rw[af j ai]; rfl⟩
theorem aie {ids:List (List B)} {ops:List bp} {out:List Nat} (af:∀ j,j<ops.length->pv ids ops out j=false) :jU ids ops out=none:=by
 unfold jU;rw[List.find?_eq_none];intro j ai;rw[af j (atA.1 ai)]; simp
theorem D8 {ids:List (List B)} {ops:List bp} {k i:Nat} (h:jU ids ops (fT ids ops k)=some i) :fT ids ops (k+1)=fT ids ops k++[i] :=by
 show (match jU ids ops (fT ids ops k) with | some i=>fT ids ops k++[i] | none=>fT ids ops k)=_;rw[h]
theorem HL {ids:List (List B)} {ops:List bp} {k:Nat} (h:jU ids ops (fT ids ops k)=none) :fT ids ops (k+1)=fT ids ops k:=by
 show (match jU ids ops (fT ids ops k) with | some i=>fT ids ops k++[i] | none=>fT ids ops k)=_;rw[h]
theorem D7 (ids:List (List B)) (ops:List bp) (aC:ids.length=ops.length) (ai:nO ids) :∀ k,(fT ids ops k).Nodup/\(fT ids ops k).length<=k/\∀ i∈fT ids ops k,i<ops.length/\qr ids ops i
 | 0=>⟨List.nodup_nil,as3 _,fun i az=>by cases az⟩
 | k+1=>by
  obtain⟨ad,ae,aj⟩:=D7 ids ops aC ai k;cases ag:jU ids ops (fT ids ops k) with
  | none=>rw[HL ag]; exact⟨ad,by omega,aj⟩
  | some i=>
   rw[D8 ag];obtain⟨a2,bd,b4⟩:=aig ag;refine⟨?_,by simp; omega,fun j z3=>?_⟩
   ·rw[List.nodup_append];refine⟨ad,by simp,fun x ag y aJ e=>?_⟩;rw[atX] at aJ;subst e;rw[aJ] at ag;exact bd ag
   ·rw[atU,atX] at z3;rcases z3 with z3 | rfl
    ·exact aj j z3
    ·have eE:∀ t,t<ids.length->ids[t]? = some (bT ids t) :=fun t aV=>by
      obtain⟨x,ag,_⟩:=bP (l:=ids) aV;rw[ag,fB ag]
     refine⟨a2,.mk j (by omega) (fun p av=>?_) fun p av mc gF=>?_⟩
     ·obtain⟨t,aV,rfl⟩:=atx.1 (b4 p av);exact ata (eE t (by have:=(aj t aV).1; omega))
     ·obtain⟨t,aV,rfl⟩:=atx.1 (b4 p av);obtain⟨cX,dC⟩:=aj t aV;rw[ai mc t _ gF (eE t (by omega))];exact dC
theorem MP {ids:List (List B)} {ops:List bp} {k:Nat} (h:jU ids ops (fT ids ops k)=none) :∀ m,fT ids ops (k+m)=fT ids ops k
 | 0=>rfl
 | m+1=>by
  have aS:=MP h m;rw[<-auA,HL (by rw[aS]; exact h),aS]
theorem VK {n:Nat} {l:List Nat} (aC:l.Nodup) (al:l.length=n) (af:∀ i∈l,i<n) :∀ i,i<n->i∈l:=by
 intro i az;apply Classical.byContradiction;intro cU;have:=ux (a:=i::l) (b:=List.range n) (av1.2 ⟨cU,aC⟩) (fun x ag=>by
  rw[at0] at ag;rcases ag with rfl | ag
  ·exact atA.2 az
  ·exact atA.2 (af x ag))
 simp[al] at this;omega
theorem V1 {ids:List (List B)} {ops:List bp} (aC:ids.length=ops.length) (ai:nO ids) :(o4 ids ops).length=ops.length<->∀ i,i<ops.length->qr ids ops i:=by
 obtain⟨ad,ae,aj⟩:=D7 ids ops aC ai ops.length;constructor
 ·intro h i az;exact (aj i (VK ad h (fun i az=>(aj i az).1) i az)).2
 ·intro h;have iC:∀ k,k<=ops.length->(fT ids ops k).length=k\/∃ m,m<=k/\jU ids ops (fT ids ops m)=none:=by
   intro k
   induction k with
   | zero=>intro _; exact .inl rfl
   | succ k aS=>
    intro ar;rcases aS (by omega) with aF | ⟨m,hm,aF⟩
    ·cases ag:jU ids ops (fT ids ops k) with
     | none=>exact .inr ⟨k,by omega,ag⟩
     | some i=>left; rw[D8 ag]; simp[aF]
    ·exact .inr ⟨m,by omega,aF⟩
  rcases iC ops.length (as3 _) with aF | ⟨m,hm,aF⟩
  ·exact aF
  ·have b3:fT ids ops ops.length=fT ids ops m:=by
    have:=MP aF (ops.length - m)
    rwa [show m+(ops.length - m)=ops.length by omega] at this
   have dL:∀ i,qr ids ops i->i<ops.length->i∈fT ids ops m:=by
    intro i aw
    induction aw with
    | mk i az av aw aS=>
     intro aK;apply Classical.byContradiction;intro cU;refine aif aF aK cU fun p x4=>?_
     obtain⟨j,xQ⟩:=atc.1 (av p x4);exact atx.2 ⟨j,aS p x4 j xQ (by have:=(as0.1 xQ).1; omega),fB xQ⟩
   show (fT ids ops ops.length).length=ops.length;rw[b3];have a6:=ux (a:=List.range ops.length) (b:=fT ids ops m) avV fun i az=>dL i (h i (atA.1 az)) (atA.1 az)
   rw[List.length_range] at a6;rw[b3] at ae;omega
theorem abQ (g:bt) (aw:g8 g) (ay:dA g.ids.l=true) (x:List B) (ag:x.length=32) :bA Tryz.prog GS 69 [c4 g,.aG (a1 x)] (.bv [.int .i64 (i7 g.ids.l x),.bool (decide (x∈g.ids.l))]) :=by
 refine bW Tryz.checked.mixed bl ?_;apply bq Tryz.func69 [];have fW:=dw g.ids;have eg:=lz g.ops;have ni:=gK x;have bn:=de ag;have ak:=Xp g.ids aw.ids aw.li x ag ay;obtain⟨X,cM⟩:∃ X,X=a1 x:=⟨_,rfl⟩
 rw[<-cM] at ak ni bn ⊢;simp[c4,bX,bn,as1];refine a4 ak (by simp[a5,U.closed,fW,ni]) ?_;simp;exact aP rfl rfl
def hP (n:Nat) :List U:=[.int .i64 (n:Int)]
def nX (b:Bool) :List U:=[.bool b]
def dk {α:Type} (l:List α) :c3 α:=match l with | []=>none | x::r=>some (x::r)
theorem ey {α:Type} (l:List α) :(dk l).l=l:=by cases l<;>rfl
theorem sP {α:Type} (l:List α) :(dk l).isNone=l.isEmpty:=by cases l<;>rfl
def JK (l:c3 Nat) :U:=cA 1 hP l
theorem W2 {α:Type} (zero:U) (n:Nat) :dx [zero] n=List.replicate n zero:=by
 rw[El]
 induction n with
 | zero=>rfl
 | succ n aS=>rw[atP,atW,aS,atP]; rfl
theorem DW {z by_ n:Nat} {k k' : IntKind} {zero:List U} {l:ao} (ax:zero.length=z) (ad:n<9223372036854775808) (ae:by_*n<=ct) :
  rn z by_ zero l (.int k (n:Int)) (.int k' (n:Int))=some (.aq z l.length 0 n n (n*z),l++[.cells (n*z) (dx zero n)])/\bO z (l++[.cells (n*z) (dx zero n)]) (.aq z l.length 0 n n (n*z)) l.length (List.replicate n zero) :=by
 constructor
 ·have aj:(by_:Int)*(n:Int)<=(ct:Int) :=by rw[<-Int.natCast_mul]; omega
  simp only[rn,atD];rw[if_pos ⟨by omega,by omega,by omega,aj⟩]
 ·refine .aq l.length n n (n*z) (dx zero n) _ (by rw[atl (as3 _)]; simp) (by rw[Em,ax]) (by simp) (fun e am=>by rw[aum am]; exact ax) (as3 _) (as3 _) ?_;rw[as1 (by rw[Em,ax]; omega),El]
def qF (n:Nat) (out:List Nat) :List Bool:=(List.range n).map fun i=>decide (i∈out)
theorem Fx {n:Nat} {out:List Nat} {i:Nat} (h:i<n) :(qF n out)[i]? = some (decide (i∈out)) :=by
 unfold qF; rw[as5,atC h]; rfl
theorem BX (n:Nat) (out:List Nat) :(qF n out).length=n:=by simp[qF]
theorem aa5 {n:Nat} {out:List Nat} {i:Nat} (h:i<n) :(qF n out).set i true=qF n (out++[i]) :=by
 apply atO;intro j;by_cases ai:j<n
 ·rw[Fx ai,at9];by_cases nk:i=j
  ·subst nk; simp[BX,h]
  ·rw[if_neg nk,Fx ai];simp[Ne.symm nk]
 ·rw[atd (by simp[BX]; omega),atd (by simp[BX]; omega)]
theorem aa4 (n:Nat) :qF n []=List.replicate n false:=by
 apply atO;intro j;by_cases ai:j<n
 ·rw[Fx ai]; simp[ai]
 ·rw[atd (by simp[BX]; omega),atd (by simp; omega)]
theorem MM {cs:List U} {o:Nat} {c:U} (h:(cs.drop o).take 1=[c]) :cs[o]? = some c:=by
 have ad:((cs.drop o).take 1)[0]? = some c:=by rw[h]; rfl
 rw[atp (by omega),atH] at ad;exact ad
structure Ze (g:bt) (out:List Nat) (fj gI hK:U) (rest:ao) :Prop where
 ex:∃ kg jA lQ,bO 1 (.cells 2 (bX g) ::rest) fj kg (out.map hP)/\bO 32 (.cells 2 (bX g) ::rest) gI jA ((out.map (bT g.ids.l)).map a1)/\bO 1 (.cells 2 (bX g) ::rest) hK lQ ((qF g.ops.l.length out).map nX) ∧
  1<=lQ/\cD hK=false/\cD fj=out.isEmpty/\cD gI=out.isEmpty/\(out=[]\/(1<=kg/\1<=jA/\kg≠jA/\kg≠lQ/\jA≠lQ))
set_option maxHeartbeats 4000000 in
theorem ajv (g:bt) (aw:g8 g) (al:g.ids.l.length=g.ops.l.length) (ai:nO g.ids.l) :bA Tryz.prog GS 174 [c4 g] (JK (dk (o4 g.ids.l g.ops.l))) :=by
 refine bW Tryz.checked.mixed bl ?_;apply bq Tryz.func174 [[[0],[1],[2],[3],[4],[6],[7],[8],[9],[10],[11],[12],[5,12,11,8]]];have lK:ct=140737488355328:=rfl;have fW:=dw g.ids;have eg:=lz g.ops;have cV:cv (.aq 11) (bC g.ops)=some (.int .i64 g.ops.l.length) :=by simp[bC]
 have bD:=aw.cG;obtain⟨hW,kB⟩:=DW (z:=1) (by_:=1) (n:=g.ops.l.length) (k:=.i64) (k':=.i64) (zero:=[U.bool false]) (l:=[aY.cells 2 (bX g)]) rfl (by omega) (by rw[lK]; omega);simp only[bX,aux,W2 (α:=Nat)] at hW kB;simp[c4,bX,cV,hW];refine DU (fun m σ l=>∃ (k:Nat) (rest:ao),l=.cells 2 (bX g) ::rest/\σ 1=.ptr 0 0 2/\Ze g (fT g.ids.l g.ops.l k) (σ 3) (σ 4) (σ 5) rest ∧
  ((σ 6=.bool true/\(fT g.ids.l g.ops.l k).length=k/\m=g.ops.l.length - k+1)\/(σ 6=.bool false/\jU g.ids.l g.ops.l (fT g.ids.l g.ops.l k)=none/\k<=g.ops.l.length/\m=0))) ?_ (g.ops.l.length+1) _ _ ?_
 ·rintro m σ l ⟨k,rest,rfl,aO,nf,ak⟩;obtain⟨fj,aZ⟩:∃ v,σ 3=v:=⟨_,rfl⟩
  obtain⟨gI,bi⟩:∃ v,σ 4=v:=⟨_,rfl⟩
  obtain⟨hK,bm⟩:∃ v,σ 5=v:=⟨_,rfl⟩
  rw[aZ,bi,bm] at nf;obtain⟨out,kb⟩:∃ out,out=fT g.ids.l g.ops.l k:=⟨_,rfl⟩
  rw[<-kb] at nf ak;obtain⟨C8,c0,z2⟩:=D7 g.ids.l g.ops.l al ai k;rw[<-kb] at C8 c0 z2;have dF:out.length<=g.ops.l.length:=by
   have:=ux (b:=List.range g.ops.l.length) C8 (fun x ag=>atA.2 (z2 x ag).1);simpa using this
  rcases ak with ⟨cw,ar,rfl⟩ | ⟨cw,cU,e5,rfl⟩
  ·obtain⟨σ,rfl⟩:=lo aO aZ bi bm cw;clear aO aZ bi bm cw;simp;refine cB g.ops.l.length (fun i σ l=>l=.cells 2 (bX g) ::rest/\σ 1=.ptr 0 0 2/\σ 3=fj/\σ 4=gI/\σ 5=hK/\σ 6=.bool false/\σ 7=.int .i64 i/\∀ j,j<i->pv g.ids.l g.ops.l out j=false) ?_ (by simp);rintro i σ l az ⟨rfl,aO,aZ,bi,bm,cw,fe,ak⟩;obtain⟨σ,rfl⟩:=wL aO aZ bi bm cw fe;clear aO aZ bi bm cw fe;by_cases cZ:i<g.ops.l.length
   ·obtain⟨o,au,eF⟩:=bP cZ;have aQ:IntKind.i64.wrap ((i:Int)+1)=((i+1:Nat) :Int) :=by rw[IntKind.wrap_i64]; omega
    have bZ:cN (.aq 11) (bC g.ops) (.int .i64 (i:Int))=some (.bK (a9 o) 0) :=by simp[bC,au]
    obtain⟨kg,jA,lQ,o0,km,wd,a6,DY,yr,rq,bb⟩:=nf;obtain⟨aiP,Qo,rI,a2,bd,b4,e0⟩:=wd.q.get (k:=.i64) (i:=i) (e:=nX (decide (i∈out))) (by rw[as5,Fx cZ]; rfl);have gB:=MM (c:=.bool (decide (i∈out))) (by simpa [nX] using e0);have mM:=km.wo (enc:=a1) (xs:=out.map (bT g.ids.l)) (fun x=>gK x) (dk (out.map (bT g.ids.l))) (by rw[rq,sP]; simp) (ey _);have ae0:eu (dk (out.map (bT g.ids.l))) :=fun x ag=>by
     rw[ey] at ag;obtain⟨t,aV,rfl⟩:=atx.1 ag;obtain⟨y,aJ,er⟩:=bP (l:=g.ids.l) (k:=t) (by have:=(z2 t aV).1; omega);rw[fB aJ]; exact aw.ids y er
    have dL:=M4 (dk (out.map (bT g.ids.l))) ae0 (by rw[ey]; simp; omega) o.bh (aw.ops o eF).ids (aw.ops o eF).len;rw[ey] at dL;have mG:=dw o.bh;have CK:pv g.ids.l g.ops.l out i=(decide (i∉out)&&mr (out.map (bT g.ids.l)) o.bh.l) :=by unfold pv; rw[AQ au]
    simp only[bX] at bd o0 km wd mM;by_cases ob:i∈out
    ·simp[bX,cV,cZ,a2,bd,gB,ob,aQ];intro j ai;by_cases jw:j=i
     ·subst jw; rw[CK]; simp[ob]
     ·exact ak j (by omega)
    ·simp[bX,cV,cZ,a2,bd,gB,ob,aQ,bZ,a9];refine lV dL (.cons mM (.cons (.same _ mG) .nil)) rfl ?_;by_cases gY:mr (out.map (bT g.ids.l)) o.bh.l=true
     ·rw[gY] at CK;obtain⟨y,aJ,er⟩:=bP (l:=g.ids.l) (k:=i) (by omega);have nm:cN (.aq 32) (aD g.ids) (.int .i64 (i:Int))=some (.bK (a1 y) 0) :=by simp[aD,aJ]
      have fA:=de (aw.ids y er);obtain⟨Y,gX⟩:∃ Y,Y=a1 y:=⟨_,rfl⟩
      rw[<-gX] at nm fA;have afB:bg (rep 32 (.int .u8 0)) 0 Y=Y:=hu (by rw[fA]; rfl);obtain⟨l1,hD⟩:∃ l1,l1=aY.cells 2 [aD g.ids,bC g.ops] ::(rest++[aY.cells 1 [U.int IntKind.i64 (i:Int)],aY.cells 32 Y]) :=⟨_,rfl⟩
      have Tz:l1.length=rest.length+3:=by rw[hD]; simp
      have v4:bO 1 l1 fj kg (out.map hP) :=by rw[hD]; exact o0.more _
      have Mt:bO 32 l1 gI jA ((out.map (bT g.ids.l)).map a1) :=by rw[hD]; exact km.more _
      have ahv:bO 1 l1 hK lQ ((qF g.ops.l.length out).map nX) :=by rw[hD]; exact wd.more _
      have vC:out=[]->fj=.aH/\gI=.aH:=fun h=>by rw[h] at yr rq; exact⟨kK.1 yr,kK.1 rq⟩
      have aqZ:lQ<rest.length+1:=by
       rcases wd.lt with h | h
       ·rw[h] at DY; cases DY
       ·simpa using h
      obtain⟨kg,v4,q1,db,gh,ur⟩:∃ kg,bO 1 l1 fj kg (out.map hP)/\1<=kg/\kg≠lQ/\(out=[]\/kg≠jA)/\(kg<rest.length+1\/l1.length<=kg) :=by
       by_cases h:out=[]
       ·have ap:=(vC h).1;rw[ap,h];exact⟨l1.length,.nil _,by omega,by omega,.inl rfl,.inr (as3 _)⟩
       ·obtain⟨ad,ae,aj,aF,a6⟩:=bb.resolve_left h;refine⟨kg,v4,ad,aF,.inr aj,.inl ?_⟩;rcases o0.lt with gE | gE
        ·rw[gE] at yr;cases out with
         | nil=>exact absurd rfl h
         | cons=>cases yr
        ·simpa using gE
      obtain⟨Yj,vW,bo,aO,aT,aZ,bi,bm,cw⟩:=oE (by_:=8) v4 (x:=.aq 1 (rest.length+1) 0 1 1 1) (xs:=[hP i]) (by rw[hD]; simp[ds,hP]) (by simp[hP]) (by omega) (by omega) (by rw[lK]; simp; omega);obtain⟨dU,rfl⟩:∃ dU,bo=aY.cells 2 [aD g.ids,bC g.ops] ::dU:=HH (by rw[bi 0 (by omega) (by omega),hD]; rfl);have Kl:(aY.cells 2 [aD g.ids,bC g.ops] ::dU)[rest.length+2]? = some (.cells 32 Y) :=by rw[bi (rest.length+2) (by omega) (by omega),hD]; simp
      have dX:(aY.cells 2 [aD g.ids,bC g.ops] ::dU)[rest.length+1]? = some (.cells 1 [.int .i64 (i:Int)]) :=by rw[bi (rest.length+1) (by omega) (by omega),hD]; simp
      have iH:=ahv.frame (l':=aY.cells 2 [aD g.ids,bC g.ops] ::dU) (fun h=>bi lQ h (Ne.symm db));rw[hD] at aO;simp[gY,nm,fA,afB,as1,aO];refine c8.cb ?_;simp;have SM:dU[rest.length+1]? = some (.cells 32 Y) :=by simpa using Kl
      refine⟨⟨SM,by omega,as1 (by omega)⟩,?_⟩;have Ug:Yj≠.aH:=fun h=>by have:=(cw.1 h).2; cases this
      have ao9:vW<dU.length+1:=by have:=aT.lt.resolve_left Ug; simpa using this
      have KO:1<=vW/\vW≠lQ:=by rcases bm with h | h<;>omega
      obtain⟨jA,Mt,t1,t2,t3,t4⟩:∃ jA,bO 32 (aY.cells 2 [aD g.ids,bC g.ops] ::dU) gI jA ((out.map (bT g.ids.l)).map a1)/\1<=jA/\jA≠lQ/\jA≠vW/\(jA<dU.length+1\/dU.length+1<=jA) :=by
       by_cases h:out=[]
       ·have ap:=(vC h).2;rw[ap,h];simp at aZ;exact⟨dU.length+1,.nil _,by omega,by omega,by omega,.inr (as3 _)⟩
       ·obtain⟨ad,ae,aj,aF,a6⟩:=bb.resolve_left h;have bu:jA<rest.length+1:=by
         rcases km.lt with gE | gE
         ·rw[gE] at rq;cases out with
          | nil=>exact absurd rfl h
          | cons=>cases rq
         ·simpa using gE
        have cL:=gh.resolve_left h;refine⟨jA,Mt.frame (fun h=>bi jA h (Ne.symm cL)),ae,a6,by rcases bm with h | h<;>omega,.inl (by simp at aZ; omega)⟩
      obtain⟨Yk,vX,gg,f1,f2,f3,f4,f5,f6⟩:=oE (by_:=32) Mt (x:=.aq 32 (rest.length+1+1) 0 1 1 32) (xs:=[Y]) (by simp[ds,fA,SM,as1]) (by simp[fA]) (by omega) (by omega) (by rw[lK]; simp; omega);obtain⟨qb,rfl⟩:∃ qb,gg=aY.cells 2 [aD g.ids,bC g.ops] ::qb:=HH (by rw[f4 0 (by simp) (by omega)]; rfl);have Uh:Yk≠.aH:=fun h=>by have:=(f6.1 h).2; cases this
      have apa:vX<qb.length+1:=by have:=f2.lt.resolve_left Uh; simpa using this
      have cO:=aT.frame (l':=aY.cells 2 [aD g.ids,bC g.ops] ::qb) (fun h=>f4 vW h (Ne.symm t3));have Bi:=iH.frame (l':=aY.cells 2 [aD g.ids,bC g.ops] ::qb) (fun h=>f4 lQ h (Ne.symm t2));obtain⟨p,oY,Bf,Bg,alI,asG,N0⟩:=V4 (k:=i) (x:=true) (X:=.bool true) (enc:=nX) rfl Bi (fun _ _=>rfl) (by rw[BX]; exact cZ) rfl;simp[f1];refine c8.cb ?_;simp[Bf,Bg];have JR:vX=jA\/dU.length+1<=vX:=by simpa using f5
      have aoC:rest.length+3<=dU.length+1:=by rw[Tz] at aZ; simpa using aZ
      have gA:1<=vX:=by rcases JR with h | h<;>omega
      have fU:vX≠lQ:=by rcases JR with h | h<;>omega
      have uG:vW≠vX:=by rcases JR with h | h<;>omega
      obtain⟨M3,rfl⟩:∃ M3,oY=aY.cells 2 [aD g.ids,bC g.ops] ::M3:=HH (by rw[N0 0 (by omega)]; rfl);have ka:jU g.ids.l g.ops.l out=some i:=aid cZ (by rw[CK]; simp[ob]) ak;have r8:fT g.ids.l g.ops.l (k+1)=out++[i] :=by rw[D8 (by rw[<-kb]; exact ka),<-kb]
      have aK:k<g.ops.l.length:=by
       have gE:=(D7 g.ids.l g.ops.l al ai (k+1)).1;rw[r8] at gE;have:=ux (b:=List.range g.ops.l.length) gE (fun x ag=>atA.2 (by
        rw[atU,atX] at ag;rcases ag with ag | rfl
        ·exact (z2 x ag).1
        ·exact cZ))
       simp at this; omega
      have fc:(out++[i]).map hP=out.map hP++[hP i] :=by simp
      have qG:((out++[i]).map (bT g.ids.l)).map a1=(out.map (bT g.ids.l)).map a1++[Y] :=by
       have aeg:bT g.ids.l i=y:=fB aJ;rw[atn,atn,List.map_singleton,List.map_singleton,aeg,gX]
      refine⟨g.ops.l.length - (k+1)+1,by omega,k+1,M3,rfl,?_,by rw[r8]; simp[ar],rfl⟩;rw[r8];refine⟨⟨vW,vX,lQ,?_,?_,?_,a6,DY,?_,?_,.inr ⟨KO.1,gA,uG,KO.2,fU⟩⟩⟩
      ·rw[fc]; exact cO.frame (fun h=>N0 vW KO.2)
      ·rw[qG]; exact f2.frame (fun h=>N0 vX fU)
      ·rw[<-aa5 cZ]; exact alI
      ·cases ap:cD Yj with
       | true=>exact absurd (kK.1 ap) Ug
       | false=>simp
      ·cases ap:cD Yk with
       | true=>exact absurd (kK.1 ap) Uh
       | false=>simp
     ·rw[au3] at gY;rw[gY] at CK;simp[gY,cZ,aQ];refine⟨rfl,fun j ai=>?_⟩;by_cases jw:j=i
      ·subst jw; rw[CK]; simp
      ·exact ak j (by omega)
   ·have ao8:i=g.ops.l.length:=by omega
    simp[bX,cV,cZ];have cU:jU g.ids.l g.ops.l out=none:=aie fun j ai=>ak j (by omega)
    refine⟨0,by omega,k,by rw[<-kb]; exact nf,by rw[<-kb]; exact cU,by omega,rfl⟩
  ·obtain⟨σ,rfl⟩:=lo aO aZ bi bm cw;clear aO aZ bi bm cw;simp;obtain⟨kg,jA,lQ,o0,km,wd,a6,DY,yr,rq,bb⟩:=nf;have b3:o4 g.ids.l g.ops.l=out:=by
    unfold o4;have:=MP (k:=k) (by rw[<-kb]; exact cU) (g.ops.l.length - k);rw[show k+(g.ops.l.length - k)=g.ops.l.length by omega,<-kb] at this;exact this
   rw[b3];exact o0.q.AZ (fun x=>rfl) (dk out) (by rw[yr,sP]) (ey _)
 ·refine⟨0,_,rfl,by simp,?_,.inl ⟨by simp,rfl,rfl⟩⟩;simp;refine⟨⟨0,0,1,.nil 0,.nil 0,?_,by omega,rfl,rfl,rfl,.inl rfl⟩⟩;show bO _ _ _ _ ((qF g.ops.l.length []).map nX);have:(qF g.ops.l.length []).map nX=List.replicate g.ops.l.length [U.bool false] :=by rw[aa4,avj]; rfl
  rw[this];exact kB
def wi (ids:List (List B)) (ops:List bp) :Bool:=decide (∀ o∈ops,mr ids o.bh.l=true)
def nI (ids:List (List B)) (ops:List bp) :Int:=if dA ids=true then (if wi ids ops=true then (if (o4 ids ops).length=ops.length then 0 else 36) else 40) else 32
theorem ajC (g:bt) (aw:g8 g) (al:g.ids.l.length=g.ops.l.length) :bA Tryz.prog GS 132 [c4 g] (.int .i64 (nI g.ids.l g.ops.l)) :=by
 refine bW Tryz.checked.mixed bl ?_;apply bq Tryz.func132 [[],[[0],[3],[4],[5],[1,4],[2]]];have fW:=dw g.ids;have eg:=lz g.ops;have k3:=te g;have cV:cv (.aq 11) (bC g.ops)=some (.int .i64 g.ops.l.length) :=by simp[bC]
 have bD:=aw.cG;have GY:=WL g.ids aw.ids aw.li;simp[c4,bX,cV];refine a4 GY (by simp[a5,fW]) ?_;by_cases ay:dA g.ids.l=true
 ·have ai:=vS ay;have kE:=ajv g aw al ai;unfold c4 bX at kE k3;simp[ay];refine cB g.ops.l.length (fun k σ l=>l=[.cells 2 [aD g.ids,bC g.ops]]/\σ 1=.ptr 0 0 2/\σ 3=.int .i64 k/\∀ (j:Nat) (o:bp),j<k->g.ops.l[j]? = some o->mr g.ids.l o.bh.l=true) ?_ (by simp);rintro k σ l ar ⟨rfl,aO,aZ,ak⟩;obtain⟨σ,rfl⟩:=qm aO aZ;clear aO aZ;by_cases bB:k<g.ops.l.length
  ·obtain⟨o,au,eF⟩:=bP bB;have aQ:IntKind.i64.wrap ((k:Int)+1)=((k+1:Nat) :Int) :=by rw[IntKind.wrap_i64]; omega
   have bZ:cN (.aq 11) (bC g.ops) (.int .i64 (k:Int))=some (.bK (a9 o) 0) :=by simp[bC,au]
   have dL:=M4 g.ids aw.ids aw.li o.bh (aw.ops o eF).ids (aw.ops o eF).len;have mG:=dw o.bh;simp[cV,bB,bZ,a9];refine a4 dL (by simp[a5,fW,mG]) ?_;by_cases gY:mr g.ids.l o.bh.l=true
   ·simp[gY,bB,aQ];intro j dt fp dE;by_cases gG:j=k
    ·subst gG; rw[au] at dE; obtain rfl:=Option.some.inj dE; exact gY
    ·exact ak j dt (by omega) dE
   ·rw[au3] at gY;simp[gY];refine aP (congrArg (U.int .i64) ?_) rfl;have cU:¬ wi g.ids.l g.ops.l=true:=fun h=>by
     have:=of_decide_eq_true h o eF;rw[gY] at this; cases this
    unfold nI;rw[if_pos ay,if_neg cU]
  ·have mI:k=g.ops.l.length:=by omega
   have iD:wi g.ids.l g.ops.l=true:=decide_eq_true fun o eF=>by
    obtain⟨j,fp⟩:=atc.1 eF;exact ak j o (by rw[mI]; exact (as0.1 fp).1) fp
   have dY:(o4 g.ids.l g.ops.l).length<=g.ops.l.length:=(D7 g.ids.l g.ops.l al ai _).2.1;have z8:cv (.aq 1) (JK (dk (o4 g.ids.l g.ops.l)))=some (.int .i64 (o4 g.ids.l g.ops.l).length) :=by unfold JK; rw[sx,ey]
   simp[cV,bB];refine a4 kE (by simp[a5,k3]) ?_;by_cases aK:(o4 g.ids.l g.ops.l).length<g.ops.l.length
   ·simp[cV,z8,aK];refine aP (congrArg (U.int .i64) ?_) rfl;unfold nI;rw[if_pos ay,if_pos iD,if_neg (by omega)]
   ·simp[cV,z8,aK];refine aP (congrArg (U.int .i64) ?_) rfl;unfold nI;rw[if_pos ay,if_pos iD,if_pos (by omega)]
 ·rw[au3] at ay;simp[ay];refine aP (congrArg (U.int .i64) ?_) rfl;unfold nI;rw[ay]; rfl
def mB (g:bt) (k:Nat) :Bool:=match g.ops.l[k]?,g.ids.l[k]? with
 | some o,some x=>decide (rH o=0)&&decide (mO o=x)
 | _,_=>true
def xw (g:bt) :Bool:=decide (∀ k,k<g.ops.l.length->mB g k=true)
theorem zK (g:bt) :xw g=true<->∀ k,k<g.ops.l.length->mB g k=true:=by unfold xw; rw[decide_eq_true_eq]
def hz (g:bt) :Int:=if 60<g.ops.l.length then 4 else if g.ids.l.length=g.ops.l.length then (if xw g=true then nI g.ids.l g.ops.l else 8) else 8
theorem FM {g:bt} {k:Nat} {o:bp} {x:List B} (au:g.ops.l[k]? = some o) (ag:g.ids.l[k]? = some x) :mB g k=(decide (rH o=0)&&decide (mO o=x)) :=by
 unfold mB; rw[au,ag]
theorem Io {o:bp} (h:rH o=0) :hh o=0:=by
 unfold rH at h;by_cases aI:hh o=0
 ·exact aI
 ·rw[if_neg aI] at h; exact h
theorem LS (o:bp) :(mO o).length=32:=by
 unfold mO;split
 ·exact wB _
 ·simp
set_option maxHeartbeats 4000000 in
theorem ajk (g:bt) (aw:g8 g) :bA Tryz.prog GS 91 [c4 g] (.int .i64 (hz g)) :=by
 refine bW Tryz.checked.mixed bl ?_;apply bq Tryz.func91 [[[0],[1],[2],[3],[4],[5],[6],[7],[8],[9],[10],[11],[12],[14],[15],[16],[17],[18],[13,18,15]]];have fW:=dw g.ids;have eg:=lz g.ops;have k3:=te g;have cV:cv (.aq 11) (bC g.ops)=some (.int .i64 g.ops.l.length) :=by simp[bC]
 have cT:cv (.aq 32) (aD g.ids)=some (.int .i64 g.ids.l.length) :=by simp[aD]
 have bD:=aw.cG;by_cases qN:60<(g.ops.l.length:Int)
 ·simp[c4,bX,cV,qN];refine aP (congrArg (U.int .i64) ?_) rfl;unfold hz; rw[if_pos (by omega)]
 by_cases al:g.ids.l.length=g.ops.l.length
 ·have oV:=ajC g aw al;unfold c4 bX at oV k3;have dj:(g.ids.l.length:Int)=(g.ops.l.length:Int) :=by omega
  simp[c4,bX,cV,cT,qN,dj];refine cB g.ops.l.length (fun k σ l=>l=[.cells 2 [aD g.ids,bC g.ops]]/\σ 1=.ptr 0 0 2/\σ 3=.int .i64 k/\∀ j,j<k->mB g j=true) ?_ (by simp);rintro k σ l ar ⟨rfl,aO,aZ,ak⟩;obtain⟨σ,rfl⟩:=qm aO aZ;clear aO aZ;by_cases bB:k<g.ops.l.length
  ·obtain⟨o,au,eF⟩:=bP bB;obtain⟨x,ag,dp⟩:=bP (l:=g.ids.l) (k:=k) (by omega);have k4:=FM au ag;have aQ:IntKind.i64.wrap ((k:Int)+1)=((k+1:Nat) :Int) :=by rw[IntKind.wrap_i64]; omega
   have bZ:cN (.aq 11) (bC g.ops) (.int .i64 (k:Int))=some (.bK (a9 o) 0) :=by simp[bC,au]
   have xO:cN (.aq 32) (aD g.ids) (.int .i64 (k:Int))=some (.bK (a1 x) 0) :=by simp[aD,ag]
   have ap:=ajL o (aw.ops o eF);have n5:=l3 o;have bn:=de (aw.ids x dp);have dF:(a9 o).length=11:=rfl;have h5:¬ mB g k=true->hz g=8:=fun h=>by
    unfold hz;rw[if_neg (by omega),if_pos al,if_neg fun aR=>h ((zK g).1 aR k bB)]
   by_cases oh:rH o=0
   ·have aI:=Io oh;have tP:=ajt o (aw.ops o eF) (by have:=yu aI; omega);have hV:mO o=iM (iJ o) :=by unfold mO; rw[if_pos aI]
    rw[<-hV] at tP;have heq:=yc (LS o) (aw.ids x dp);change bA Tryz.prog GS 131 [.aG (a9 o)] (.aG (a1 (mO o))) at tP;obtain⟨I,nf⟩:∃ I,I=a1 (mO o) :=⟨_,rfl⟩
    rw[<-nf] at tP heq;rw[oh] at ap;obtain⟨O,eD⟩:∃ O,O=a9 o:=⟨_,rfl⟩
    obtain⟨X,cM⟩:∃ X,X=a1 x:=⟨_,rfl⟩
    rw[<-eD] at bZ ap tP n5 dF;rw[<-cM] at xO bn heq;simp[cV,bB,bZ,dF,as1];refine a4 ap (by simp[a5,U.closed,n5]) ?_;simp[dF,xO,bn,bZ,as1];refine a4 tP (by simp[a5,U.closed,n5]) ?_;by_cases dP:mO o=x
    ·simp[heq,dP,bB,aQ,bn,as1];intro j ai;by_cases gG:j=k
     ·subst gG; rw[k4]; simp[oh,dP]
     ·exact ak j (by omega)
    ·have af:¬ mB g k=true:=fun h=>by rw[k4] at h; simp[dP] at h
     simp[heq,dP,bn,as1];exact aP (congrArg (U.int .i64) (h5 af).symm) rfl
   ·have af:¬ mB g k=true:=fun h=>by rw[k4] at h; simp[oh] at h
    simp[cV,bB,bZ,dF,as1];refine a4 ap (by simp[a5,U.closed,n5]) ?_;simp[oh];exact aP (congrArg (U.int .i64) (h5 af).symm) rfl
  ·have mI:k=g.ops.l.length:=by omega
   simp[cV,bB];refine a4 oV (by simp[a5,k3]) ?_;simp;refine aP (congrArg (U.int .i64) ?_) rfl;unfold hz;rw[if_neg (by omega),if_pos al,if_pos ((zK g).2 fun j ai=>ak j (by omega))]
 ·have dj:¬ (g.ids.l.length:Int)=(g.ops.l.length:Int) :=by omega
  simp[c4,bX,cV,cT,qN,dj];refine aP (congrArg (U.int .i64) ?_) rfl;unfold hz; rw[if_neg (by omega),if_neg al]
def oT (ids:List (List B)) (D:List Nat) (p:List B) :Nat:=(D.map fun a=>if p == bT ids a then 1 else 0).sum
def jl (ids:List (List B)) (D:List Nat) (L:List (List B)) :Nat:=(D.map fun a=>L.count (bT ids a)).sum
theorem alb (ids:List (List B)) (D:List Nat) :jl ids D []=0:=by
 unfold jl
 induction D with
 | nil=>rfl
 | cons a D aS=>rw[atr,auP,aS]; rfl
theorem XS (ids:List (List B)) (p:List B) (L:List (List B)) :∀ D,jl ids D (p::L)=jl ids D L+oT ids D p
 | []=>rfl
 | a::D=>by
  have aS:=XS ids p L D;unfold jl oT at aS ⊢;rw[atr,auP,atr,auP,atr,auP,aS,List.count_cons];omega
theorem NK (ids:List (List B)) (D:List Nat) (a:Nat) (L:List (List B)) :jl ids (D++[a]) L=jl ids D L+L.count (bT ids a) :=by
 unfold jl; rw[atn,List.sum_append]; simp
theorem O2 {ids:List (List B)} (ai:nO ids) {i j:Nat} (az:i<ids.length) (eO:j<ids.length) (h:bT ids i=bT ids j) :i=j:=by
 obtain⟨x,ag,_⟩:=bP az;obtain⟨y,aJ,_⟩:=bP eO;rw[fB ag,fB aJ] at h;subst h;exact ai i j x ag aJ
theorem Tr {ids:List (List B)} {p:List B}:∀ {D:List Nat},(∀ a∈D,bT ids a≠p)->oT ids D p=0
 | [],_=>rfl
 | a::D,h=>by
  have aS:=Tr (ids:=ids) (p:=p) (D:=D) fun b af=>h b (by simp[af])
  have aB:(p == bT ids a)=false:=by rw[beq_eq_false_iff_ne]; exact Ne.symm (h a (by simp))
  unfold oT at aS ⊢;rw[atr,auP,aS,aB]; rfl
theorem Tq {ids:List (List B)} (ai:nO ids) {p:List B}:∀ {D:List Nat},D.Nodup->(∀ a∈D,a<ids.length)->oT ids D p<=1/\(oT ids D p=1<->∃ a∈D,bT ids a=p)
 | [],_,_=>⟨auc _,Iff.intro (fun h=>(by cases h)) (fun ⟨a,aB,_⟩=>(by cases aB))⟩
 | a::D,aC,af=>by
  rw[av1] at aC;obtain⟨cP,dT⟩:=Tq (p:=p) ai aC.2 (fun b bJ=>af b (by simp[bJ]));by_cases h:bT ids a=p
  ·have ax:oT ids D p=0:=Tr fun b SU Gc=>aC.1 (by rw[O2 ai (af a (by simp)) (af b (by simp[SU])) (h.trans Gc.symm)]; exact SU)
   have aB:(p == bT ids a)=true:=by rw[h]; simp
   have e:oT ids (a::D) p=1:=by
    unfold oT at ax ⊢;rw[atr,auP,ax,aB]; rfl
   rw[e];exact⟨as3 _,fun _=>⟨a,by simp,h⟩,fun _=>rfl⟩
  ·have aB:(p == bT ids a)=false:=by rw[beq_eq_false_iff_ne]; exact Ne.symm h
   have e:oT ids (a::D) p=oT ids D p:=by
    unfold oT;rw[atr,auP,aB]; simp
   rw[e];refine⟨cP,dT.trans ⟨fun ⟨b,gd,dX⟩=>⟨b,by simp[gd],dX⟩,fun ⟨b,gd,dX⟩=>?_⟩⟩;rw[at0] at gd;rcases gd with rfl | gd
   ·exact absurd dX h
   ·exact⟨b,gd,dX⟩
theorem NL {ids:List (List B)} (ai:nO ids) {D:List Nat} (aC:D.Nodup) (af:∀ a∈D,a<ids.length) :∀ L:List (List B),jl ids D L<=L.length/\(jl ids D L=L.length<->∀ p∈L,∃ a∈D,bT ids a=p)
 | []=>by rw[alb]; exact⟨as3 _,Iff.intro (fun _ p av=>by cases av) (fun _=>rfl)⟩
 | p::L=>by
  obtain⟨cP,dT⟩:=NL ai aC af L;obtain⟨ad,ae⟩:=Tq (p:=p) ai aC af;rw[XS,atk];refine⟨by omega,fun h=>?_,fun h=>?_⟩
  ·have aQ:jl ids D L=L.length:=by omega
   have bx:oT ids D p=1:=by omega
   intro q bj;rw[at0] at bj;rcases bj with rfl | bj
   ·exact ae.1 bx
   ·exact dT.1 aQ q bj
  ·have aQ:=dT.2 fun q bj=>h q (by simp[bj])
   have bx:=ae.2 (h p (by simp));omega
structure IH (ids:List (List B)) (ops:List bp) (cl:List (List Nat)) :Prop where
 len:cl.length=ops.length
 cnt:∀ (a:Nat) (row:List Nat),cl[a]? = some row->∀ k,k<ops.length->row.count k=(eR ops k).count (bT ids a)
 lt:∀ (a:Nat) (row:List Nat),cl[a]? = some row->∀ k∈row,k<ops.length
structure rP (ids:List (List B)) (ops:List bp) (row:List Nat) (d j:Nat) (R:List Nat) (W:List Int) :Prop where
 sC:R.Nodup
 oK:∀ k∈R,k<ops.length/\qr ids ops k
 dl:d<=R.length
 wl:W.length=ops.length
 w:∀ k,k<ops.length->W[k]? = some (((eR ops k).length:Int) - jl ids (R.take d) (eR ops k) - (row.take j).count k)
 r:∀ k,k<ops.length->(k∈R<->W[k]? = some 0)
theorem ag3 {ids:List (List B)} {ops:List bp} (al:ids.length=ops.length) (ai:nO ids) {cl:List (List Nat)} (af:IH ids ops cl) {a:Nat} {row:List Nat} {d j:Nat} {R:List Nat} {W:List Int}
  (h:rP ids ops row d j R W) (aB:R[d]? = some a) (cJ:cl[a]? = some row) {k:Nat} (ar:row[j]? = some k) :
  ∃ x:Int,W[k]? = some x/\1<=x/\x<=(eR ops k).length/\rP ids ops row d (j+1) (if x - 1=0 then R++[k] else R) (W.set k (x - 1)) :=by
 have e5:=af.lt a row cJ k (ata ar);have Gh:=af.cnt a row cJ k e5;have e3:=(as0.1 aB).1;have iZ:R.take (d+1)=R.take d++[a] :=by rw[atu,aB]; rfl
 have aeK:(R.take (d+1)).Nodup:=List.Sublist.nodup (avM _ _) h.sC;have pR:∀ b∈R.take (d+1),b<ids.length:=fun b bJ=>by have:=(h.oK b (atw bJ)).1; omega
 obtain⟨cQ,ie⟩:=NL ai aeK pR (eR ops k);rw[iZ,NK,<-Gh] at cQ;have mD:(row.take (j+1)).count k=(row.take j).count k+1:=by
  rw[atu,ar,auX]; simp
 have l9:(row.take (j+1)).count k<=row.count k:=List.Sublist.count_le _ (avM _ _);have aW:=h.w k e5;obtain⟨x,ag⟩:∃ x:Int,x=((eR ops k).length:Int) - jl ids (R.take d) (eR ops k) - (row.take j).count k:=⟨_,rfl⟩
 rw[<-ag] at aW;have Ao:1<=x:=by omega
 have Tw:k∉R:=fun hm=>by
  have:=(h.r k e5).1 hm;rw[aW] at this;have:=Option.some.inj this;omega
 refine⟨x,aW,Ao,by omega,?_⟩;have Tx:k<W.length:=by rw[h.wl]; exact e5
 have Dn:(if x - 1=0 then R++[k] else R).take d=R.take d:=by
  split
  ·rw[atG (by omega)]
  ·rfl
 have xY:x - 1=0->qr ids ops k:=fun aI=>by
  have heq:jl ids (R.take (d+1)) (eR ops k)=(eR ops k).length:=by rw[iZ,NK,<-Gh]; omega
  have dL:=ie.1 heq;have fI:∀ t,t<ids.length->ids[t]? = some (bT ids t) :=fun t aV=>by
   obtain⟨y,aJ,_⟩:=bP (l:=ids) aV;rw[aJ,fB aJ]
  refine .mk k (by omega) (fun p av=>?_) fun p av mc gF=>?_
  ·obtain⟨t,aV,rfl⟩:=dL p av;exact ata (fI t (pR t aV))
  ·obtain⟨t,aV,rfl⟩:=dL p av;rw[ai mc t _ gF (fI t (pR t aV))];exact (h.oK t (atw aV)).2
 refine⟨?_,fun y aJ=>?_,?_,by simpa using h.wl,fun y aJ=>?_,fun y aJ=>?_⟩
 ·split
  ·rw[List.nodup_append];refine⟨h.sC,by simp,fun u aL v ap e=>?_⟩;rw[atX] at ap;subst e;rw[ap] at aL;exact Tw aL
  ·exact h.sC
 ·split at aJ
  ·rename_i aI;rw[atU,atX] at aJ;rcases aJ with aJ | rfl
   ·exact h.oK y aJ
   ·exact⟨e5,xY aI⟩
  ·exact h.oK y aJ
 ·split
  ·simp; have:=h.dl; omega
  ·exact h.dl
 ·rw[Dn,at9];by_cases xS:k=y
  ·subst xS;rw[if_pos rfl,if_pos Tx,mD];congr 1;omega
  ·rw[if_neg xS,h.w y aJ,atu,ar,auX];have:([k] :List Nat).count y=0:=by rw[au4]; simp[xS]
   simp only[Option.toList_some,this,ave]
 ·rw[at9];by_cases xS:k=y
  ·subst xS;rw[if_pos rfl,if_pos Tx];by_cases aI:x - 1=0
   ·rw[if_pos aI]; simp[aI]
   ·rw[if_neg aI];exact⟨fun hm=>absurd hm Tw,fun aR=>absurd (Option.some.inj aR) aI⟩
  ·rw[if_neg xS,<-h.r y aJ];split
   ·rw[atU,atX];exact⟨fun h=>h.resolve_right (Ne.symm xS),.inl⟩
   ·exact Iff.rfl
theorem ag0 {ids:List (List B)} {ops:List bp} {cl:List (List Nat)} (af:IH ids ops cl) {a:Nat} {row uu:List Nat} {d:Nat} {R:List Nat} {W:List Int}
  (h:rP ids ops row d row.length R W) (aB:R[d]? = some a) (cJ:cl[a]? = some row) :rP ids ops uu (d+1) 0 R W:=by
 have iZ:R.take (d+1)=R.take d++[a] :=by rw[atu,aB]; rfl
 refine⟨h.sC,h.oK,(as0.1 aB).1,h.wl,fun k ar=>?_,h.r⟩;rw[h.w k ar,iZ,NK,aty,af.cnt a row cJ k ar,aui,List.count_nil];congr 1;omega
theorem ag1 {ids:List (List B)} {ops:List bp} {row uu:List Nat} {d:Nat} {R:List Nat} {W:List Int} (h:rP ids ops row d 0 R W) :rP ids ops uu d 0 R W:=
 ⟨h.sC,h.oK,h.dl,h.wl,fun k ar=>by rw[h.w k ar,aui,aui],h.r⟩
theorem ag2 {ids:List (List B)} {ops:List bp} (al:ids.length=ops.length) :rP ids ops [] 0 0 ((List.range ops.length).filter fun k=>(eR ops k).isEmpty) ((List.range ops.length).map fun k=>((eR ops k).length:Int)) :=by
 refine⟨List.Sublist.nodup List.filter_sublist avV,fun k ar=>?_,auc _,by simp,fun k ar=>?_,fun k ar=>?_⟩
 ·rw[at6,atA] at ar;have aI:eR ops k=[] :=List.isEmpty_iff.1 ar.2;exact⟨ar.1,.mk k (by omega) (fun p av=>by rw[aI] at av; cases av) fun p av=>by rw[aI] at av; cases av⟩
 ·rw[as5,atC ar];simp[jl]
 ·rw[at6,atA,as5,atC ar];simp only[as9,Option.some.injEq,ar,true_and,List.isEmpty_iff];constructor
  ·intro h; rw[h]; rfl
  ·intro h; exact atI.1 (by omega)
theorem agZ {ids:List (List B)} {ops:List bp} (al:ids.length=ops.length) (ai:nO ids) {row:List Nat} {R:List Nat} {W:List Int} (h:rP ids ops row R.length 0 R W) :
  R.length<=ops.length/\(R.length=ops.length<->(o4 ids ops).length=ops.length) :=by
 have dY:R.length<=ops.length:=by
  have:=ux (b:=List.range ops.length) h.sC fun x ag=>atA.2 (h.oK x ag).1
  simpa using this
 refine⟨dY,?_⟩;rw[V1 al ai];constructor
 ·intro am i az;exact (h.oK i (VK h.sC am (fun i az=>(h.oK i az).1) i az)).2
 ·intro dL;have cZ:∀ i,qr ids ops i->i<ops.length->i∈R:=by
   intro i aw
   induction aw with
   | mk i az av aw aS=>
    intro aK;rw[h.r i aK,h.w i aK,aty];have F1:=(NL ai h.sC (fun a aB=>by have:=(h.oK a aB).1; omega) (eR ops i)).2.2 fun p x4=>by
     obtain⟨cn,fp⟩:=atc.1 (av p x4);exact⟨cn,aS p x4 cn fp (by have:=(as0.1 fp).1; omega),fB fp⟩
    rw[F1];simp
  have:=ux (a:=List.range ops.length) (b:=R) avV fun i az=>cZ i (dL i (atA.1 az)) (atA.1 az)
  simp at this;omega
structure lr (l:ao) (vs:List U) (cl:List (List Nat)) (bf:Nat->Nat) :Prop where
 qn:vs.length=cl.length
 own:∀ (a:Nat) (v:U) (row:List Nat),vs[a]? = some v->cl[a]? = some row->bO 1 l v (bf a) (row.map hP)/\cD v=row.isEmpty/\(row=[]\/3<=bf a)
 apart:∀ (a b:Nat) (mh nB:List Nat),a≠b->cl[a]? = some mh->cl[b]? = some nB->mh≠[]->nB≠[]->bf a≠bf b
def oB (cl:List (List Nat)) (bf:Nat->Nat) (b:Nat) :Prop:=∀ (a:Nat) (row:List Nat),cl[a]? = some row->row≠[]->bf a≠b
theorem lr.lt {l:ao} {vs:List U} {cl:List (List Nat)} {bf:Nat->Nat} (h:lr l vs cl bf) {a:Nat} {row:List Nat} (ay:cl[a]? = some row) (bV:row≠[]) :bf a<l.length:=by
 have aB:a<vs.length:=by rw[h.qn]; exact (as0.1 ay).1
 obtain⟨o,n,_⟩:=h.own a vs[a] row (as4 aB) ay;rcases o.lt with ad | ad
 ·rw[ad] at n;cases row with
  | nil=>exact absurd rfl bV
  | cons=>cases n
 ·exact ad
theorem lr.frame {l l' : ao} {vs:List U} {cl:List (List Nat)} {bf:Nat->Nat} (h:lr l vs cl bf) (aE:∀ b,b<l.length->(∃ a row,cl[a]? = some row/\row≠[]/\bf a=b)->l'[b]? = l[b]?) :lr l' vs cl bf:=by
 refine⟨h.qn,fun a v row ap ay=>?_,h.apart⟩;obtain⟨o,n,t⟩:=h.own a v row ap ay;refine⟨?_,n,t⟩;by_cases bV:row=[]
 ·subst bV;have:=kK.1 n;subst this;exact .nil _
 ·exact o.frame fun al=>aE _ al ⟨a,row,ay,bV,rfl⟩
theorem lr.more {l:ao} {vs:List U} {cl:List (List Nat)} {bf:Nat->Nat} (h:lr l vs cl bf) (x:ao) :lr (l++x) vs cl bf:=h.frame fun b af _=>as2 af
theorem lr.app {l:ao} {vs:List U} {cl:List (List Nat)} {bf:Nat->Nat} (h:lr l vs cl bf) {a k b:Nat} {v:U} {row:List Nat} (ap:vs[a]? = some v) (ay:cl[a]? = some row) (af:l[b]? = some (.cells 1 [.int .i64 (k:Int)])) (aj:3<=l.length) (dy:(row.length+1)*8<=ct) :
  ∃ a3 l' DI,gT l 1 8 v (.aq 1 b 0 1 1 1)=some (a3,l')/\lr l' (vs.set a a3) (cl.set a (row++[k])) DI/\l.length<=l'.length/\a3.cells=some [a3] ∧
   ∀ c,c<l.length->oB cl bf c->l'[c]? = l[c]?/\oB (cl.set a (row++[k])) DI c:=by
 obtain⟨o,n,t⟩:=h.own a v row ap ay;have hT:a<cl.length:=(as0.1 ay).1;obtain⟨j,VR,kg,Ma,UI⟩:∃ j,bO 1 l v j (row.map hP)/\3<=j/\(∀ c9 uu,c9≠a->cl[c9]? = some uu->uu≠[]->bf c9≠j)/\∀ c,c<l.length->oB cl bf c->j≠c:=by
  by_cases bV:row=[]
  ·subst bV;have:=kK.1 n;subst this;exact⟨l.length,.nil _,aj,fun c9 uu _ oU qY=>by have:=h.lt oU qY; omega,fun c ah _=>by omega⟩
  ·exact⟨bf a,o,t.resolve_left bV,fun c9 uu TM oU qY=>h.apart c9 a uu row TM oU ay qY bV,fun c _ au=>au a row ay bV⟩
 obtain⟨a3,cn,l',aO,aT,aZ,bi,bm,cw⟩:=oE (by_:=8) VR (x:=.aq 1 b 0 1 1 1) (xs:=[hP k]) (by simp[ds,af,hP]) (by simp[hP]) (by omega) (by omega) (by simpa using dy);have fr:cD a3=false:=by
  cases aR:cD a3 with
  | true=>have:=(cw.1 (kK.1 aR)).2; cases this
  | false=>rfl
 refine⟨a3,l',fun x=>if x=a then cn else bf x,aO,⟨by simp[h.qn],fun x w Ns aW oU=>?_,fun x y wu Xn lO ag aJ ka K7=>?_⟩,aZ,aT.cells,fun c ah au=>⟨bi c ah (fun e=>UI c ah au e.symm),fun x wu ag ka=>?_⟩⟩
 ·by_cases kH:x=a
  ·subst kH;rw[atj (by rw[h.qn]; exact hT)] at aW;rw[atj hT] at oU;obtain rfl:=Option.some.inj aW;obtain rfl:=Option.some.inj oU;simp only[if_true];refine⟨by rw[atn]; exact aT,by rw[fr]; simp,.inr ?_⟩;rcases bm with e | e<;>omega
  ·rw[ato (Ne.symm kH)] at aW oU;simp only[if_neg kH];obtain⟨dt,hs,gx⟩:=h.own x w Ns aW oU;refine⟨?_,hs,gx⟩;by_cases bV:Ns=[]
   ·subst bV;have:=kK.1 hs;subst this;exact .nil _
   ·exact dt.frame fun al=>bi _ al (Ma x Ns kH oU bV)
 ·by_cases kH:x=a
  ·subst kH;rw[ato lO] at aJ;simp only[if_true,if_neg (Ne.symm lO)];have:=h.lt aJ K7;have:=Ma y Xn (Ne.symm lO) aJ K7;rcases bm with e | e<;>omega
  ·rw[ato (Ne.symm kH)] at ag;simp only[if_neg kH];by_cases LL:y=a
   ·subst LL;simp only[if_true];have:=h.lt ag ka;have:=Ma x wu kH ag ka;rcases bm with e | e<;>omega
   ·rw[ato (Ne.symm LL)] at aJ;simp only[if_neg LL];exact h.apart x y wu Xn lO ag aJ ka K7
 ·by_cases kH:x=a
  ·subst kH;simp only[if_true];have:=UI c ah au;rcases bm with e | e<;>omega
  ·rw[ato (Ne.symm kH)] at ag;simp only[if_neg kH];exact au x wu ag ka
def xi (ids:List (List B)) (ops:List bp) (m q a k:Nat) :Nat:=if k<m then (eR ops k).count (bT ids a) else if k=m then ((eR ops m).take q).count (bT ids a) else 0
structure uK (ids:List (List B)) (ops:List bp) (m q:Nat) (cl:List (List Nat)) :Prop where
 len:cl.length=ops.length
 cnt:∀ (a:Nat) (row:List Nat),cl[a]? = some row->∀ k,row.count k=xi ids ops m q a k
 Eo:∀ (a:Nat) (row:List Nat),cl[a]? = some row->row.length<=5*m+q
theorem aiX (ids:List (List B)) (ops:List bp) :uK ids ops 0 0 (List.replicate ops.length []) :=by
 refine⟨by simp,fun a row h k=>?_,fun a row h=>?_⟩
 ·have:=aum (ata h);subst this;simp[xi]
 ·have:=aum (ata h);subst this;simp
theorem aiY {ids:List (List B)} {ops:List bp} (ai:nO ids) (al:ids.length=ops.length) {m q a:Nat} {cl:List (List Nat)} {row:List Nat} {p:List B} (h:uK ids ops m q cl) (av:(eR ops m)[q]? = some p) (aB:ids[a]? = some p) (ay:cl[a]? = some row) :
  uK ids ops m (q+1) (cl.set a (row++[m])) :=by
 have hT:=(as0.1 ay).1;have vv:=(as0.1 aB).1;have iZ:(eR ops m).take (q+1)=(eR ops m).take q++[p] :=by rw[atu,av]; rfl
 refine⟨by simp[h.len],fun x wu ag k=>?_,fun x wu ag=>?_⟩
 ·by_cases kH:x=a
  ·subst kH;rw[atj hT] at ag;obtain rfl:=Option.some.inj ag;rw[auX,h.cnt x row ay k];unfold xi;by_cases ad:k<m
   ·rw[if_pos ad,if_pos ad,au4];have:(m == k)=false:=by rw[beq_eq_false_iff_ne]; omega
    simp[this]
   ·rw[if_neg ad,if_neg ad];by_cases ae:k=m
    ·subst ae;rw[if_pos rfl,if_pos rfl,iZ,auX,fB aB]; simp
    ·rw[if_neg ae,if_neg ae,au4];have:(m == k)=false:=by rw[beq_eq_false_iff_ne]; omega
     simp[this]
  ·rw[ato (Ne.symm kH)] at ag;rw[h.cnt x wu ag k];unfold xi;by_cases ad:k<m
   ·rw[if_pos ad,if_pos ad]
   ·rw[if_neg ad,if_neg ad];by_cases ae:k=m
    ·subst ae;rw[if_pos rfl,if_pos rfl,iZ,auX,au4];have bn:x<ids.length:=by rw[al,<-h.len]; exact (as0.1 ag).1
     have:(p == bT ids x)=false:=by
      rw[beq_eq_false_iff_ne];intro e;rw[<-fB aB] at e;exact kH (O2 ai vv bn e).symm
     rw[this]; simp
    ·rw[if_neg ae,if_neg ae]
 ·by_cases kH:x=a
  ·subst kH;rw[atj hT] at ag;obtain rfl:=Option.some.inj ag;have:=h.Eo x row ay;simp; omega
  ·rw[ato (Ne.symm kH)] at ag;have:=h.Eo x wu ag;omega
theorem aiW {ids:List (List B)} {ops:List bp} {m:Nat} {cl:List (List Nat)} (h:uK ids ops m (eR ops m).length cl) (aF:(eR ops m).length<=4) :uK ids ops (m+1) 0 cl:=by
 refine⟨h.len,fun a row ay k=>?_,fun a row ay=>by have:=h.Eo a row ay; omega⟩;rw[h.cnt a row ay k];unfold xi;by_cases ad:k<m
 ·rw[if_pos ad,if_pos (by omega)]
 ·rw[if_neg ad];by_cases ae:k=m
  ·subst ae;rw[if_pos rfl,if_pos (by omega),aty]
  ·rw[if_neg ae,if_neg (by omega)];by_cases aj:k=m+1
   ·rw[if_pos aj]; simp
   ·rw[if_neg aj]
theorem aiV {ids:List (List B)} {ops:List bp} {cl:List (List Nat)} (h:uK ids ops ops.length 0 cl) :IH ids ops cl:=by
 refine⟨h.len,fun a row ay k ar=>?_,fun a row ay k ar=>?_⟩
 ·rw[h.cnt a row ay k]; unfold xi; rw[if_pos ar]
 ·have ad:0<row.count k:=List.count_pos_iff.2 ar;rw[h.cnt a row ay k] at ad;unfold xi at ad;by_cases ae:k<ops.length
  ·exact ae
  ·rw[if_neg ae] at ad;split at ad<;>simp at ad
def eT (ops:List bp) (m:Nat) :List Int:=(List.range ops.length).map fun k=>if k<m then ((eR ops k).length:Int) else 0
def jk (ops:List bp) (m:Nat) :List Nat:=(List.range m).filter fun k=>(eR ops k).isEmpty
theorem YK (ops:List bp) (m:Nat) :(eT ops m).length=ops.length:=by simp[eT]
theorem ID {ops:List bp} {m k:Nat} (h:k<ops.length) :(eT ops m)[k]? = some (if k<m then ((eR ops k).length:Int) else 0) :=by
 unfold eT; rw[as5,atC h]; rfl
theorem amJ {ops:List bp} {m:Nat} (h:m<ops.length) :(eT ops m).set m ((eR ops m).length:Int)=eT ops (m+1) :=by
 apply atO;intro j;by_cases ai:j<ops.length
 ·rw[ID ai,at9];by_cases TI:m=j
  ·subst TI;rw[if_pos rfl,if_pos (by rw[YK]; exact ai),if_pos (by omega)]
  ·rw[if_neg TI,ID ai];by_cases ad:j<m
   ·rw[if_pos ad,if_pos (by omega)]
   ·rw[if_neg ad,if_neg (by omega)]
 ·rw[atd (by simp[eT]; omega),atd (by simp[eT]; omega)]
theorem amI (ops:List bp) :eT ops ops.length=(List.range ops.length).map fun k=>((eR ops k).length:Int) :=by
 unfold eT;apply aup;intro k ar;rw[if_pos (atA.1 ar)]
theorem amK (ops:List bp) :eT ops 0=List.replicate ops.length 0:=by
 apply atO;intro j;by_cases ai:j<ops.length
 ·rw[ID ai]; simp[ai]
 ·rw[atd (by simp[eT]; omega),atd (by simp; omega)]
theorem WU (ops:List bp) (m:Nat) :jk ops (m+1)=jk ops m++(if (eR ops m).isEmpty then [m] else []) :=by
 unfold jk;rw[auT,auv];congr 1;by_cases h:(eR ops m).isEmpty=true
 ·simp[h]
 ·simp[h]
end Op

end Go.bY

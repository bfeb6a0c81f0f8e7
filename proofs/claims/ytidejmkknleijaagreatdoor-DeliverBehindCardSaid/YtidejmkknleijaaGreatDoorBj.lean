/-
  The predecessors that a store lacks: the function that a loop ranges over, walked to its end or to the first one.
-/
import Derived.Test.YtidejmkknleijaaGreatDoorBi
import Derived.Shelf.Abstract
set_option linter.unusedVariables false
set_option linter.unusedSimpArgs false
set_option linter.unnecessarySimpa false
namespace Go.b0
open Go Go.Proofs Go.RowKit
set_option maxRecDepth 100000
namespace Op
open hl
abbrev aiO:List dn:=[fM 0 6 (.p1 1 (dr 1)),fM 1 7 (.nR (dr 6)),fM 2 8 (.len (.aq 32) (dr 7)),fM 3 9 (.fR (.const (.int .i64 0)))]
abbrev aiP:List dn:=[fM 0 10 (.bin .lss 3 (dr 9) (dr 8))]
abbrev aiQ:List dn:=[fM 0 11 (.wx (.aq 32) (dr 7) (dr 9)),fM 1 12 (.l6 32 (dr 11)),fM 2 5 (.alloc (rep 32 (.int .u8 0))),E2 3 (.st 32 (dr 5) (dr 12))]
abbrev aiR:List dn:=[fM 0 13 (.p1 4 (dr 2)),fM 1 14 (.nR (dr 13)),fM 2 15 (.l6 32 (dr 5)),sc 3 16 48 [(dr 14),(dr 15)],fM 4 17 (.un .not (dr 16)),ni 5 18 17,BA 6 19 18 true (.fR (dr 0)),BA 7 20 18 true (.l6 32 (dr 5))]
abbrev aiS:List dn:=[BA 9 22 18 true (.un .not (dr 21)),fM 10 23 (.pick (dr 18) (dr 22) (.const (.bool false)))]
theorem B8 {P:Program} {ops:Array Oper}:∀ {idx:List Nat} {qG:List dn} {os:List Oper},idx.mapM (fun i=>BE P ops i [] false)=some qG->os.map some=idx.map (fun i=>ops[i]?)->od P ops qG os:=by
 intro idx qG os ad ae;exact JG (fun i x af=>by obtain⟨o,ae,aj,_⟩:=E8 af; exact⟨o,ae,aj⟩) ad ae.symm
def M3:fB:=(.seq (.lz [fM 0 10 (.bin .lss 3 (dr 9) (dr 8))]) (.seq (.cond (dr 10) .skip (.exit 0)) (.seq (.block 1 (.seq (.lz [fM 0 11 (.wx (.aq 32) (dr 7) (dr 9)),fM 1 12 (.l6 32 (dr 11)),fM 2 5 (.alloc (rep 32 (.int .u8 0))),E2 3 (.st 32 (dr 5) (dr 12))]) (.seq (.lz [fM 0 13 (.p1 4 (dr 2)),fM 1 14 (.nR (dr 13)),fM 2 15 (.l6 32 (dr 5)),sc 3 16 48 [(dr 14),(dr 15)],fM 4 17 (.un .not (dr 16)),ni 5 18 17,BA 6 19 18 true (.fR (dr 0)),BA 7 20 18 true (.l6 32 (dr 5)),⟨8,(some 21),(some ((some 18),true)),.mQ (dr 19) [(dr 20)],[],false⟩,BA 9 22 18 true (.un .not (dr 21)),fM 10 23 (.pick (dr 18) (dr 22) (.const (.bool false)))]) (.cond (dr 23) .ret .skip)))) (.lz [fM 0 24 (.bin .add 3 (dr 9) (.const (.int .i64 1))),ni 1 9 24]))))
structure Z3 (zC qW qX jY sk:Array Oper) (rY:Oper) :Prop where
 body:Tryz.f163.body=some (.seq (.region 0 zC false) (.block 0 (.loop (BV qW qX jY sk))))
 tR:comp Tryz.prog 25 (.region 0 zC false)=some (.lz aiO)
 b3:comp Tryz.prog 25 (.region 1 qW false)=some (.lz aiP)
 b9:comp Tryz.prog 25 (.region 2 qX false)=some (.lz aiQ)
 RH:comp Tryz.prog 25 (BV qW qX jY sk)=some M3
 split:jY.toList=jY.toList.take 8++(rY::(jY.toList.drop 9++[]))
 ajM:od Tryz.prog jY aiR (jY.toList.take 8)
 ajN:od Tryz.prog jY aiS (jY.toList.drop 9)
 Sf:∀ (i:Nat) (o:Oper),jY[i]? = some o->jZ 25 o.dst=true
 ajI:rY.op=.call { callee:=.value (.tmp 19),args:=#[.tmp 20],argTypes:=#[61] }
 ajG:rY.dst=some 21
 ajH:rY.guard=some (5,true)
 ajF:(jY[5]?).bind (·.dst)=some 18
theorem acg {R:Array Oper} (dV:(R.toList.all fun o=>jZ 25 o.dst)=true) (i:Nat) (o:Oper) (h:R[i]? = some o) :jZ 25 o.dst=true:=by
 exact ava.1 dV o (by rw[<-avJ] at h; exact aut h)
theorem We:∃ zC qW qX jY sk rY,Z3 zC qW qX jY sk rY:=
 ⟨nd (kF ((Tryz.f163.body).getD .skip) [false]),
  nd (kF ((Tryz.f163.body).getD .skip) [true,false,false,false]),
  nd (kF ((Tryz.f163.body).getD .skip) [true,false,false,true,true,false,false,false]),
  nd (kF ((Tryz.f163.body).getD .skip) [true,false,false,true,true,false,false,true,false]),
  nd (kF ((Tryz.f163.body).getD .skip) [true,false,false,true,true,true]),
  ((nd (kF ((Tryz.f163.body).getD .skip) [true,false,false,true,true,false,false,true,false])).toList.drop 8).headD { op:=.move (.tmp 0),dst:=none,type:=0,pos:= "",after:=#[],guard:=none },
  ⟨by kernel_rfl,by kernel_rfl,by kernel_rfl,by kernel_rfl,by kernel_rfl,by kernel_rfl,B8 (idx:=[0,1,2,3,4,5,6,7]) (by kernel_rfl) (by kernel_rfl),B8 (idx:=[9,10]) (by kernel_rfl) (by kernel_rfl),
  acg (by kernel_rfl),by kernel_rfl,by kernel_rfl,by kernel_rfl,by kernel_rfl⟩⟩
theorem Fg {σ:bc} {N:Nat} {W:World} {R:Nat->Prop} {h:aN} {μ:ck} {a:Go.Act} (s:iH N W R h μ σ a) {t:Nat} {b:Bool} (aW:σ t=.bool b) :a.tmps.getD t undef=.bool b:=by
 have:=s.val t; rw[aW] at this; generalize a.tmps.getD t undef=v at this ⊢; cases this; rfl
theorem an2 {σ:bc} {N:Nat} {W:World} {R:Nat->Prop} {h:aN} {μ:ck} {a:Go.Act} (s:iH N W R h μ σ a) {t l:Nat} (aW:σ t=.hz l) :a.tmps.getD t undef=.func (.yield l) #[] #[] :=by
 have:=s.val t; rw[aW] at this; generalize a.tmps.getD t undef=v at this ⊢; cases this; rfl
theorem N7 (E:List U) (ps:dv) (S:List U) (e0 k:Nat) :mE E ps S e0 k 0=.hz e0:=by simp[mE]
theorem N8 (E:List U) (ps:dv) (S:List U) (e0 k:Nat) :mE E ps S e0 k 1=.bM (E) 0:=by simp[mE]
theorem N9 (E:List U) (ps:dv) (S:List U) (e0 k:Nat) :mE E ps S e0 k 2=.bM S 0:=by simp[mE]
theorem Oa (E:List U) (ps:dv) (S:List U) (e0 k:Nat) :mE E ps S e0 k 7=aB ps:=by simp[mE]
theorem IM (E:List U) (ps:dv) (S:List U) (e0 k:Nat) :mE E ps S e0 k 8=.int .i64 ps.l.length:=by simp[mE]
theorem IP (E:List U) (ps:dv) (S:List U) (e0 k:Nat) :mE E ps S e0 k 9=.int .i64 k:=by simp[mE]
set_option maxHeartbeats 2000000 in
theorem ai9 (E:List U) (ps:dv) (Di:a5 E=true) (rh:E.length=11) (kN:∀ h:1<E.length,E[1]'h=aB ps) (hD:eQ ps) (gE:ps.l.length<=1000000) (ord:dv) (kS:eQ ord) (cS:ord.l.length<=1000000) (cap eg:Int) (parts dB:U) (av:parts.closed=true) (aS:dB.closed=true) {n e0:Nat} {cG:World} {A:Nat->Prop} {iS jr:Value}
  (ad:ed cG A (.bM (E) 0) iS) (ae:ed cG A (.bM (z5 cap eg parts dB ord) 0) jr) (aw:∀ g,ed cG A (GS g) (.pointer (some ⟨g,0,none⟩)))
  {Z:World->World->Prop} {m:Nat} (fY:∀ (x:Value) (W:World),fW cG W->YieldAt Fence.wide m Tryz.prog e0 #[x] W fun e e2=>e=.returned (.bool false)/\Z W e2)
  (Db:∀ W e2,fW cG W->Z W e2->∃ A,∀ g,ed e2 A (GS g) (.pointer (some ⟨g,0,none⟩))) :
  CallsIn Fence.wide n Tryz.prog 163 (#[.func (.yield e0) #[] #[]]++#[iS,jr]) cG fun e dP=>(∃ v,e=.returned v) ∧
   (((∀ x∈ps.l,x∈ord.l)/\fW cG dP)\/((¬ ∀ x∈ps.l,x∈ord.l)/\∃ W e2,fW cG W/\Z W e2/\fW e2 dP)) :=by
 obtain⟨zC,qW,qX,jY,sk,rY,M⟩:=We;obtain⟨S,h6⟩:∃ S,S=z5 cap eg parts dB ord:=⟨_,rfl⟩
 have GQ:a5 S=true:=by rw[h6]; exact RT av aS
 have uj:S.length=5:=by rw[h6]; rfl
 have ji:S[4]? = some (aB ord) :=by rw[h6]; rfl
 have Tt:∀ h:4<S.length,S[4]'h=aB ord:=fun h=>(auk.1 ji).2
 rw[<-h6] at ae;have fH:Tryz.prog.follows .mixedOrders=true:=Tryz.checked.mixed;have Un:ce (.aq 32) (aB ps)=some (.int .i64 ps.l.length) :=by simp[aB]
 refine callsIn_of_wp (fn:=Tryz.f163) Tryz.func163 M.body trivial ?_ rfl;obtain⟨mK,yb⟩:∃ mK,mK=bodyPost Tryz.prog Tryz.f163 (fun e dP=>(∃ v,e=Ending.returned v) ∧
   (((∀ x∈ps.l,x∈ord.l)/\fW cG dP)\/((¬ ∀ x∈ps.l,x∈ord.l)/\∃ W e2,fW cG W/\Z W e2/\fW e2 dP))) :=⟨_,rfl⟩
 rw[<-yb];have uC:∀ (a:Go.Act) (W:World),(results Tryz.f163 a.tmps).run Tryz.prog W=.ok (.tuple #[]) W:=fun a W=>results_none rfl _ _ _
 -- the start
 have Ho:Tryz.f163.ntmps=25:=by kernel_rfl
 obtain⟨vn,Ar⟩:∃ vn:Array Value,vn=#[.func (.yield e0) #[] #[]]++#[iS,jr]++Array.replicate (Tryz.f163.ntmps - (#[.func (.yield e0) #[] #[]]++#[iS,jr] :Array Value).size) undef:=⟨_,rfl⟩
 rw[<-Ar];rw[Ho] at Ar;have ad3:vn.size=25:=by rw[Ar]; simp
 have C9:vn=#[.func (.yield e0) #[] #[],iS,jr]++Array.replicate 22 undef:=by rw[Ar]; rfl
 have up:∀ {c:U} {v:Value},ed cG A c v->aO cG (fun k=>A k\/cG.heap.size<=k) aN.empty (fun _=>none) c v:=fun ah=>ah.up (fun k _ ar=>⟨.inl ar,qz _ k⟩)
 have Ds:vn.getD 0 undef=.func (.yield e0) #[] #[] :=by rw[C9,auM]; simp
 have ae0:vn.getD (0+1) undef=iS:=by rw[C9,auM]; simp
 have ae1:vn.getD (0+1+1) undef=jr:=by rw[C9,auM]; simp
 have ae2:∀ t,vn.getD (t+1+1+1) undef=undef:=fun t=>by
  rw[C9,auM,avN (by simp),awC];split<;>rfl
 obtain⟨O0,apZ⟩:∃ O0,O0=U.bM (E) 0:=⟨_,rfl⟩
 obtain⟨O1,ap0⟩:∃ O1,O1=U.bM S 0:=⟨_,rfl⟩
 have ad8:lG [.hz e0,.bM (E) 0,.bM S 0] 0=.hz e0:=by simp[lG]
 have Dc:lG [.hz e0,.bM (E) 0,.bM S 0] (0+1)=.bM (E) 0:=by simp[lG]
 have KT:lG [.hz e0,.bM (E) 0,.bM S 0] (0+1+1)=.bM S 0:=by simp[lG]
 have KU:∀ t,lG [.hz e0,.bM (E) 0,.bM S 0] (t+1+1+1)=gL:=fun t=>by simp[lG,List.getD]
 clear Ar C9 Ho;refine wpIn_seq (tU (σ:=lG [.hz e0,.bM (E) 0,.bM S 0]) (l:=[]) (K:=fun e σ l=>e=.normal/\σ 0=.hz e0/\σ 1=.bM (E) 0/\σ 2=.bM S 0/\σ 7=aB ps/\σ 8=.int .i64 ps.l.length/\σ 9=.int .i64 (0:Nat))
  fH bn M.tR ?_ (Bv cG (fun k=>A k\/cG.heap.size<=k) fun k ar=>.inr ar) (fun g=>⟨bn g,up (aw g)⟩) ⟨ad3,rfl,fun t=>?_⟩ ?_)
 ·simp[lG,rh,kN,Un]
 ·rcases t with _ | _ | _ | t
  ·rw[Ds,ad8]; exact .hz _
  ·rw[ae0,Dc]; exact up ad
  ·rw[ae1,KT]; exact up ae
  ·rw[ae2 t,KU t]; exact Fb
 rintro e a0 q2 tz OZ fk ⟨rfl,hu,bZ,cc,uN,A4,wD⟩ o4 nZ s0;have cb:mI GS cG (fun k=>A k\/cG.heap.size<=k) aN.empty (fun _=>none) :=fun g=>⟨bn g,up (aw g)⟩
 have ZY:tD E ps S e0 cG 0 a0 q2:=tD.mk' Di GQ (aaS cG) o4 (cb.ext o4) s0 hu bZ cc uN A4 wD;clear hu bZ cc uN A4 wD s0 nZ o4 cb;show (Code.block 0 (.loop (BV qW qX jY sk))).wpIn Fence.wide n Tryz.prog mK a0 q2;refine wpIn_block (wpIn_loop (fun a W=>∃ k,k<=ps.l.length/\tD E ps S e0 cG k a W/\∀ x∈ps.l.take k,x∈ord.l) (fun a _=>match a.tmps.getD 9 undef with | .int _ k=>ps.l.length - k.toNat | _=>0) ⟨0,by omega,ZY,by simp⟩ ?_);rintro a W ⟨k,ar,H,dV⟩;obtain⟨R,rel,x4,E6⟩:=H.E6;by_cases bv:k<ps.l.length
 ·obtain⟨x,af,cT⟩:=bI (l:=ps.l) (k:=k) bv;have AX:=hD x cT;have bd:=c2 AX;have aP:IntKind.i64.wrap ((k:Int)+1)=((k+1:Nat) :Int) :=by rw[IntKind.wrap_i64]; omega
  have bY:cL (.aq 32) (aB ps) (.int .i64 (k:Int))=some (.bM (aY x) 0) :=by simp[aB,af]
  have cQ:=Fj ord kS cS x AX;have Dl:=dd ord;have lP:=fE x;have b5:ps.l.take (k+1)=ps.l.take k++[x] :=by rw[auP,af]; rfl
  obtain⟨X,cn⟩:∃ X,X=aY x:=⟨_,rfl⟩
  rw[<-cn] at bd bY cQ lP;have hE:a8 (rep 32 (.int .u8 0)) 0 X=X:=gq (by rw[bd]; rfl);by_cases hc:x∈ord.l
  ·rw[decide_eq_true hc] at cQ;refine tU (σ:=mE E ps S e0 k) (l:=[]) (K:=fun e σ l=>e=.normal/\σ 0=.hz e0/\σ 1=.bM (E) 0/\σ 2=.bM S 0/\σ 7=aB ps/\σ 8=.int .i64 ps.l.length/\σ 9=.int .i64 ((k+1:Nat) :Int)) fH bn M.RH ?_ rel x4 E6 ?_
   ·unfold M3;simp[N7,N8,N9,Oa,IM,IP,bv,bY,bd,hE,uj,Tt,aul];refine a4 cQ (by simp[a5,U.closed,Dl,lP]) ?_;simp[N7,N8,N9,Oa,IM,IP,aP]
   ·rintro e a9 dP oT zz bj ⟨rfl,hu,bZ,cc,uN,A4,wD⟩ o5 r4 hX;have O8:tD E ps S e0 cG (k+1) a9 dP:=tD.mk' Di GQ H.oh o5 (x4.ext o5) hX hu bZ cc uN A4 wD;refine⟨⟨k+1,by omega,O8,fun y aJ=>?_⟩,?_⟩
    ·rw[b5,avi,avk] at aJ;exact aJ.elim (dV y) fun e=>by rw[e]; exact hc
    ·show (match a9.tmps.getD 9 undef with | .int _ k=>ps.l.length - k.toNat | _=>0)<(match a.tmps.getD 9 undef with | .int _ k=>ps.l.length - k.toNat | _=>0)
     rw[O8.t9,H.t9];simp only[auS];omega
  ·rw[decide_eq_false hc] at cQ;have cR:¬ ∀ y∈ps.l,y∈ord.l:=fun h=>hc (h x cT)
   suffices ak:(BV qW qX jY sk).wpIn Fence.wide n Tryz.prog (fun e a W=>e=.ret/\mK .ret a W) a W from wpIn_mono ak fun e a w ⟨am,h⟩=>by subst am; exact h
   unfold BV;refine wpIn_seq (tU (σ:=mE E ps S e0 k) (l:=[]) (K:=fun e σ l=>e=.normal/\l=[]/\σ 0=.hz e0/\σ 2=.bM S 0/\σ 7=aB ps/\σ 9=.int .i64 k/\σ 10=.bool true) fH bn M.b3 ?_ rel x4 E6 ?_)
   ·simp[N7,N8,N9,Oa,IM,IP,bv]
   rintro e a2 dP g5 ie l1 ⟨rfl,rfl,hu,cc,uN,wD,ahS⟩ oq mD cY;have aK:=x4.ext oq;refine wpIn_seq (wpIn_cond_true (Fg cY ahS) (wpIn_skip ?_));refine wpIn_seq (wpIn_block (wpIn_seq ?_));refine tU (σ:=ie) (l:=[]) (K:=fun e σ l=>e=.normal/\l=[.cells 32 X]/\σ 0=.hz e0/\σ 2=.bM S 0/\σ 5=.ptr 0 0 32) fH bn M.b9 ?_ mD aK cY ?_
   ·simp[hu,cc,uN,wD,bY,bd,hE,aul]
   rintro e a9 km oT zz bj ⟨rfl,rfl,Vm,eE,l3⟩ o5 r4 hX;refine wpIn_seq (wpIn_region_list ?_);rw[M.split];refine WX (σ:=zz) fH bn M.Sf M.ajM (K:=fun σ l=>σ 18=.bool true/\σ 19=.hz e0) ?_ r4 (aK.ext o5) hX ?_
   ·simp[Vm,eE,l3,bd,uj,Tt,aul];refine a4 cQ (by simp[a5,U.closed,Dl,lP]) ?_;simp[Vm,l3,bd,aul]
   rintro bV zE zy ZM eY ⟨ag8,ag9⟩ CB Bu kD;have Df:fW cG zE:=sq H.oh (zJ ((oq.trans o5).trans CB));have t18:=Fg kD ag8;have t19:=an2 kD ag9;have sS:Region.wanted rY (yielded jY bV.tmps)=true:=by
    unfold Region.wanted yielded;rw[M.ajH];simp only[M.ajF];have aL:18<bV.tmps.size:=by rw[kD.size]; omega
    have adn:bV.tmps[18]? = some (.bool true) :=by
     rw[auM,avs aL] at t18;rw[avs aL]; simpa using t18
    simp[adn]
   unfold wpListIn;rw[if_pos sS];obtain⟨fn,tmps,assign,body,aJ,i5⟩:=fY (bV.tmps[20]?.getD undef) zE Df;have fQ:(rY.semAt Fence.wide.round bV.eval).run Tryz.prog zE=.ok (.round e0 fn tmps assign body) zE:=by
    rw[Fence.wide_round,Oper.semAt_none];unfold execOp;rw[M.ajI];have amw:bV.tmps[19]?.getD undef=.func (.yield e0) #[] #[] :=by rw[<-auM]; exact t19
    simp[go_sem,amw,aJ]
    skip; done
   refine⟨fun _ _=>trivial,?_⟩;rw[fQ,Oper.uponIn_round];refine⟨fun bf=>(by cases bf),alA (i5.mono ?_)⟩;rintro e q3 ⟨rfl,ax⟩;show wpListIn Fence.wide n Tryz.prog jY _ (jY.toList.drop 9++[]) (bV.put rY.dst (.bool false)) q3;rw[M.ajG];obtain⟨Jk,ae3⟩:=Db zE q3 Df ax;have am4:∀ {c:U} {v:Value},ed q3 Jk c v->aO q3 (fun k=>Jk k\/q3.heap.size<=k) aN.empty (fun _=>none) c v:=fun ah=>ah.up (fun k _ ar=>⟨.inl ar,qz _ k⟩)
   refine WX (σ:=bB (bB (fun _=>U.bad) 18 (.bool true)) 21 (.bool false)) (l:=[]) fH bn M.Sf M.ajN (K:=fun σ l=>σ 23=.bool true) ?_ (Bv q3 (fun k=>Jk k\/q3.heap.size<=k) fun k ar=>.inr ar) (fun g=>⟨bn g,am4 (ae3 g)⟩) ⟨by simp[Act.put,kD.size],kD.defers,fun t=>?_⟩ ?_
   ·simp
   ·by_cases Kf:t=21
    ·subst Kf;rw[hP];have:(bV.put (some 21) (.bool false)).tmps.getD 21 undef=.bool false:=by simp[Act.put,auM,kD.size]
     rw[this]; exact .bool _
    ·rw[b2 _ _ _ _ Kf];have bw:(bV.put (some 21) (.bool false)).tmps.getD t undef=bV.tmps.getD t undef:=by
      simp only[Act.put,auM,awM (Ne.symm Kf)]
     rw[bw];by_cases Sh:t=18
     ·subst Sh; rw[hP,t18]; exact .bool _
     ·rw[b2 _ _ _ _ Sh]; exact .bad _
   rintro g6 oZ vj ZO Er aha CC IB Bz;refine wpListIn_nil ?_;refine wpIn_cond_true (Fg Bz aha) (wpIn_ret ?_);refine⟨rfl,?_⟩;rw[yb];exact⟨Bz.defers,_,uC _ _,⟨_,rfl⟩,.inr ⟨cR,zE,q3,Df,ax,zJ CC⟩⟩
 ·have lU:k=ps.l.length:=by omega
  rw[lU,auU] at dV;refine tU (σ:=mE E ps S e0 k) (l:=[]) (K:=fun e σ l=>e=.exit 0) fH bn M.RH ?_ rel x4 E6 ?_
  ·unfold M3;simp[IM,IP,bv]
  ·rintro e a9 dP oT zz bj rfl o5 r4 hX;show mK .normal a9 dP;rw[yb];exact⟨hX.defers,_,uC _ _,⟨_,rfl⟩,.inl ⟨dV,sq H.oh (zJ o5)⟩⟩
end Op

end Go.b0

namespace Go.b0
open Go Go.Proofs Go.RowKit
set_option maxRecDepth 100000
section
variable {P:Program} {n:Nat}
theorem Bq (D:List Deferred) (a:Go.Act) (d:Option Tmp) (v:Value) :({ a with defers:=a.defers++D }:Go.Act).put d v={ a.put d v with defers:=(a.put d v).defers++D }:=by cases d<;>rfl
theorem ajU {D:List Deferred} {o:Oper} {a:Go.Act} {w:World} {K fb:Go.Act->World->Prop} {Q xI:Exit->Go.Act->World->Prop} (aT:∀ a w,K a w->fb { a with defers:=a.defers++D } w)
  (jh:∀ e a w,e≠.normal->Q e a w->xI e { a with defers:=a.defers++D } w) (h:o.wp P a w K Q) :o.wpIn Fence.wide n P { a with defers:=a.defers++D } w fb xI:=by
 unfold Oper.wp at h;refine⟨fun _ _=>trivial,?_⟩;show o.uponIn Fence.wide n P _ fb xI ((execOp a.eval o).run P w);cases af:(execOp a.eval o).run P w with
 | ok x w'=>
  rw[af] at h;cases x with
  | value v=>show fb (Go.Act.put _ _ _) _; rw[Bq]; exact aT _ _ h
  | skip=>show fb (Go.Act.put _ _ _) _; rw[Bq]; exact aT _ _ h
  | defer d=>
   show fb (Go.Act.put { tmps:=a.tmps,defers:=d::(a.defers++D) } _ _) _;have:=Bq D { tmps:=a.tmps,defers:=d::a.defers } o.dst undef;have ae:({ tmps:=a.tmps,defers:=d::(a.defers++D) }:Go.Act).put o.dst undef=_:=this;rw[ae]; exact aT _ _ h
  | enter f args=>
   refine⟨fun bf=>(by cases bf),(callsIn_wide.2 h).mono ?_⟩;rintro (v | Cj | _) w2 ae
   ·show fb (Go.Act.put _ _ _) _; rw[Bq]; exact aT _ _ ae
   ·exact jh _ _ _ (by simp) ae
   ·obtain⟨a0,fU,aS⟩:=ae;exact⟨_,fU,jh _ _ _ (by simp) aS⟩
  | row r args=>exact⟨fun bf=>(by cases bf),fun c cs _=>let ⟨v,w',r,s⟩:=h c cs; ⟨v,w',(by show fb (Go.Act.put _ _ _) _; rw[Bq]; exact aT _ _ r),stepsIn_wide.2 s⟩⟩
  | _=>exact h.elim
 | halt e w'=>
  rw[af] at h;cases e<;>first | exact jh _ _ _ (by simp) h | exact h.elim
theorem MW {D:List Deferred} {all:Array Oper} {Q:Exit->Go.Act->World->Prop}:∀ {l:List Oper} {a:Go.Act} {w:World},
  wpList P all (fun e a w=>match e with | .normal=>Q .normal { a with defers:=a.defers++D } w | _=>False) l a w->wpListIn Fence.wide n P all Q l { a with defers:=a.defers++D } w
 | [],a,w,h=>wpListIn_nil h
 | o::l,a,w,h=>by
  unfold wpList at h;unfold wpListIn;split
  ·rename_i aX;rw[if_pos aX] at h;rcases h with h | ⟨_,a0,fU,aS⟩
   ·refine ajU (fun a w aS=>MW aS) (fun e a w am aS=>?_) h;cases e<;>first | exact absurd rfl am | exact aS.elim
   ·exact aS.elim
  ·rename_i aX;rw[if_neg aX] at h;refine⟨fun _ _=>trivial,?_⟩;rw[Bq];exact MW h
variable {G:Nat->U}
theorem Nt (fH:P.follows .mixedOrders=true) (ij:∀ g,(G g).closed=true) {N n:Nat} {ops:Array Oper} (fe:∀ (i:Nat) (o:Oper),ops[i]? = some o->jZ N o.dst=true) {qG:List dn} (dV:od P ops qG ops.toList) {id:Nat}
  {σ:bc} {l:ao} {K:bc->ao->Prop} (fQ:i9 P G qG σ l K) {D:List Deferred}
  {R:Nat->Prop} {B:Nat} {w:World} {μ:ck} {a:Go.Act} {Q:Exit->Go.Act->World->Prop} (rel:bN R B w (bb l) μ) (g:mI G w R (bb l) μ) (s:iH N w R (bb l) μ σ { a with defers:=[] }) (bf:a.defers=D)
  (jh:∀ dj w' μ' bD l',K bD l'->df w (bb l) μ w' (bb l') μ'->bN R B w' (bb l') μ'->iH N w' R (bb l') μ' bD { dj with defers:=[] }->dj.defers=D->Q .normal dj w') :(Code.region id ops false).wpIn Fence.wide n P Q a w:=by
 obtain⟨bD,l',sD,_,ar⟩:=E0 fe dV fQ;obtain⟨dr,abZ⟩:=a;subst bf;refine wpIn_region_list ?_;have:=MW (P:=P) (n:=n) (D:=abZ) (all:=ops) (Q:=Q) (l:=ops.toList) (a:={ tmps:=dr,defers:=[] }) (w:=w)
  (E5 fH ij sD R B w μ _ _ rel g s fun dj w' μ' aP dh cY=>?_)
 ·exact this
 ·show Q .normal _ _;obtain⟨atV,ab0⟩:=dj;have bf:ab0=[] :=cY.defers;subst bf;exact jh _ w' μ' bD l' ar aP dh cY rfl
theorem Kr {R:Nat->Prop} {B:Nat} {w:World} {l:ao} {μ:ck} (rel:bN R B w (bb l) μ) {b t:Nat} {v:Int} (ag:l[b]? = some (.cells 1 [.int .u8 v])) {tmps:Array Value} (av:aO w R (bb l) μ (.ptr b 0 1) (tmps.getD t undef))
  {w' : World} (aX:∀ k,B<=k->(∃ arr e fa,w.heap[k]? = some (.cells arr e fa))->w'.heap[k]? = w.heap[k]?) (ak:w.heap.size<=w'.heap.size) {fn:Func} (az:Bx P (bb [.cells 1 [.int .u8 v]]) (bB (fun _=>U.bad) t (.ptr 0 0 1)) fn=some (.int .u8 v)) :
  (results fn tmps).run P w'=.ok (.int .u8 v) w':=by
 have aE:(bb l).f b=.cells 1 [.int .u8 v] :=lD.2 ag;generalize agl:tmps.getD t undef=u2 at av;cases av with
 | nf _ _ _ a aw=>
  rcases aw with h | ⟨n,hO,h,aL⟩
  ·rw[aE] at h; cases h
  ·rw[aE] at h; injection h with ad ae; omega
 | ptr _ _ _ hO m dW hm=>
  clear dW hO;have eA:=rel.blk b m hm;have j0:B<=m.r:=rel.base b m (by rw[aE]; rfl) hm;rw[aE] at eA;obtain⟨ad,ae,arr,e,fa,aj,aG,bh,bF⟩:=eA;have TW:(bb [.cells 1 [.int .u8 v]]).f 0=.cells 1 [.int .u8 v] :=lD.2 rfl;have bC:∀ b,1<=b->(bb [.cells 1 [.int .u8 v]]).f b=.none:=fun b ag=>by rw[kH,auC (by simpa using ag)]
  have alp:bN (fun k=>B<=k) B w' (bb [.cells 1 [.int .u8 v]]) (fun b=>if b=0 then some m else none) :=by
   refine⟨fun bg cm bW=>?_,fun c1 dx eo ej hR i7 aP bw _=>?_,fun bg cm al bW=>?_,fun bg bO=>bC bg bO,fun k ar=>ar,au7 rel.size ak,fun bg bO=>?_⟩
   ·by_cases fu:bg=0
    ·subst fu;simp only[if_true,Option.some.injEq] at bW;subst bW;rw[TW];refine⟨ad,ae,arr,e,fa,(aX _ j0 ⟨_,_,_,aj⟩).trans aj,aG,bh,fun j c ai=>?_⟩;obtain⟨x,a2,a9,bV⟩:=bF j c ai;refine⟨x,a2,a9,?_⟩;rcases j with _ | j
     ·simp only[auN,Option.some.injEq] at ai;subst ai;cases bV;exact .int _ _
     ·simp at ai
    ·simp[fu] at bW
   ·by_cases b3:c1=0
    ·by_cases b9:dx=0
     ·omega
     ·simp[b9] at bw
    ·simp[b3] at aP
   ·by_cases fu:bg=0
    ·simp only[fu,if_true,Option.some.injEq] at bW;subst bW;exact j0
    ·simp[fu] at bW
   ·have:bg≠0:=fun e=>by subst e; exact absurd bO (by show ¬ (1<=0); omega)
    simp[this]
  have gl:iH tmps.size w' (fun k=>B<=k) (bb [.cells 1 [.int .u8 v]]) (fun b=>if b=0 then some m else none) (bB (fun _=>U.bad) t (.ptr 0 0 1)) { tmps:=tmps,defers:=[] }:=by
   refine⟨rfl,rfl,fun i=>?_⟩;by_cases Sl:i=t
   ·subst Sl;rw[hP];show aO _ _ _ _ _ (tmps.getD i undef);rw[agl];exact .ptr 0 0 1 _ m TW rfl
   ·rw[b2 _ _ _ _ Sl]; exact .bad _
  obtain⟨x,bZ,cc⟩:=XT (P:=P) alp gl az;cases cc;exact bZ
end
def fA (B:Nat) (a b:World) :Prop:=RowKit.Below B a b/\a.drawn<=b.drawn
theorem fA.wS {B:Nat} {a b:World} (h:fW a b) (j0:B<=a.heap.size) :fA B a b:=⟨h.toBelow.mono j0,h.drawn⟩
theorem fA.tr {B:Nat} {a b c:World} (h:fA B a b) (k:fA B b c) :fA B a c:=⟨h.1.trans k.1,au7 h.2 k.2⟩
theorem fA.put {B:Nat} (W:World) {l:Nat} (o:Obj) (al:B<=l) (j0:B<=W.heap.size) :fA B W (W.putObj l o) :=
 ⟨(RowKit.Below.refl B W).grown (grownBy_putObj' W l o) j0 (fun k e=>by cases e; exact al),aun _⟩
theorem fA.ext {R:Nat->Prop} {B:Nat} {w w' : World} {h h' : aN} {μ μ' : ck} (rel:bN R B w h μ) (e:df w h μ w' h' μ') :fA B w w':=
 ⟨⟨e.os,e.tape,e.output,e.size,fun k ar=>e.cd k (avU ar rel.size) fun ⟨b,m,ad,ae,aj⟩=>by have:=rel.base b m ad ae; omega⟩,e.drawn⟩
theorem fA.alloc {B:Nat} {a:World} (j0:B<=a.heap.size) (o:Obj) :fA B a (a.alloc o) :=⟨(RowKit.Below.refl B a).alloc j0 o,aun _⟩
theorem fA.oh {a b:World} (h:fA a.heap.size a b) :fW a b:=⟨h.1,h.2⟩
theorem aj6 {R:Nat->Prop} {B:Nat} {w:World} {l:ao} {μ:ck} (rel:bN R B w (bb l) μ) (al:∀ (b:Nat) (c:aV),l[b]? = some c->∃ n cs,c=aV.cells n cs) {k:Nat} (au:Own (bb l) μ k) :∃ arr e fa,w.heap[k]? = some (.cells arr e fa) :=by
 obtain⟨b,m,ad,ae,rfl⟩:=au;have ag:=rel.blk b m ae;rw[kH] at ag ad;cases j5:l[b]? with
 | none=>rw[j5] at ad; cases ad
 | some c=>
  rw[j5] at ag;obtain⟨n,cs,rfl⟩:=al b c j5;obtain⟨_,_,arr,e,fa,aj,_⟩:=ag;exact⟨arr,e,fa,aj⟩
theorem Ko {R:Nat->Prop} {B:Nat} {w w' : World} {l:ao} {h' : aN} {μ μ' : ck} (rel:bN R B w (bb l) μ) (al:∀ (b:Nat) (c:aV),l[b]? = some c->∃ n cs,c=aV.cells n cs) (e:df w (bb l) μ w' h' μ') :KeepsOthers w w':=by
 refine⟨e.size,fun k o ar au=>?_⟩;rw[e.cd k (auO.1 ar).1 fun aX=>?_]
 ·exact ar
 ·obtain⟨arr,t,fa,aj⟩:=aj6 rel al aX;rw[ar] at aj;cases aj;cases au
namespace Op
open hl
abbrev anc:List dn:=[fM 0 3 (.box (dr 0)),fM 1 4 (.box (dr 1)),fM 2 5 (.box (dr 2)),fM 3 6 (.alloc [.int .u8 0])]
abbrev am8:fB:=.seq (.lz [fM 0 7 (.p1 4 (dr 3)),fM 1 8 (.nR (dr 7)),fM 2 9 (.l6 32 (dr 5)),sc 3 10 48 [(dr 8),(dr 9)]]) (.cond (dr 10) (.seq (.lz [E2 0 (.st 1 (dr 6) (.const (.int .u8 5)))]) .ret) .skip)
abbrev ane:List dn:=[fM 0 11 (.l6 5 (dr 3)),fM 1 12 (.l6 11 (dr 4)),sc 2 13 119 [(dr 11),(dr 12)]]
abbrev anf:List dn:=[fM 0 15 (.p1 1 (dr 3)),fM 1 16 (.p1 2 (dr 15)),fM 2 17 (.nR (dr 16)),fM 3 18 (.p1 0 (dr 3)),fM 4 19 (.nR (dr 18)),fM 5 20 (.bin .eql 3 (dr 17) (dr 19))]
abbrev ang:List dn:=[E2 0 (.st 1 (dr 6) (.const (.int .u8 8)))]
abbrev anh:List dn:=[E2 0 (.st 1 (dr 6) (.const (.int .u8 1)))]
def im (S E X:List U) (v:Int) :ao:=[.cells 5 S,.cells 11 E,.cells 32 X,.cells 1 [.int .u8 v],.cells 5 S,.cells 11 E]
structure Pc (xL vp vq vr oY sm qZ q0:Array Oper) (ke:Oper) (t4:TypeId) :Prop where
 body:Tryz.f87.body=some (.seq (.region 0 xL false) (.seq (.seq (.region 1 vp false) (.cond (.tmp 10) (.seq (.region 2 vq false) .ret) .skip)) (.seq (.seq (.region 3 vr false) (.block 0 (.rangeFunc (.tmp 13) #[14] .skip (.block 1 (.seq (.region 4 oY false) .ret)))))
  (.seq (.seq (.region 5 sm false) (.cond (.tmp 20) (.seq (.region 6 qZ false) .ret) .skip)) (.seq (.region 7 q0 false) .ret)))))
 tR:comp Tryz.prog 21 (.region 0 xL false)=some (.lz anc)
 b3:comp Tryz.prog 21 (.seq (.region 1 vp false) (.cond (.tmp 10) (.seq (.region 2 vq false) .ret) .skip))=some am8
 ho:comp Tryz.prog 21 (.region 3 vr false)=some (.lz ane)
 po:oY.toList=[ke]
 WA:ke.op=.store t4 (.tmp 6) (.const (.int .u8 6))
 ajD:ke.dst=none
 ajE:ke.guard=none
 ajO:od Tryz.prog sm anf sm.toList
 ajP:od Tryz.prog qZ ang qZ.toList
 ajQ:od Tryz.prog q0 anh q0.toList
 acd:∀ (i:Nat) (o:Oper),sm[i]? = some o->jZ 21 o.dst=true
 ace:∀ (i:Nat) (o:Oper),qZ[i]? = some o->jZ 21 o.dst=true
 acf:∀ (i:Nat) (o:Oper),q0[i]? = some o->jZ 21 o.dst=true
 al4:cz Tryz.prog t4=some 1
theorem Kc {R:Array Oper} (dV:(R.toList.all fun o=>jZ 21 o.dst)=true) (i:Nat) (o:Oper) (h:R[i]? = some o) :jZ 21 o.dst=true:=by
 exact ava.1 dV o (by rw[<-avJ] at h; exact aut h)
theorem anb:∃ xL vp vq vr oY sm qZ q0 ke t4,Pc xL vp vq vr oY sm qZ q0 ke t4:=
 ⟨nd (kF ((Tryz.f87.body).getD .skip) [false]),
  nd (kF ((Tryz.f87.body).getD .skip) [true,false,false]),
  nd (kF ((Tryz.f87.body).getD .skip) [true,false,true,false,false]),
  nd (kF ((Tryz.f87.body).getD .skip) [true,true,false,false]),
  nd (kF ((Tryz.f87.body).getD .skip) [true,true,false,true,false,true,false,false]),
  nd (kF ((Tryz.f87.body).getD .skip) [true,true,true,false,false]),
  nd (kF ((Tryz.f87.body).getD .skip) [true,true,true,false,true,false,false]),
  nd (kF ((Tryz.f87.body).getD .skip) [true,true,true,true,false]),
  ((nd (kF ((Tryz.f87.body).getD .skip) [true,true,false,true,false,true,false,false])).toList).headD { op:=.move (.tmp 0),dst:=none,type:=0,pos:= "",after:=#[],guard:=none },
  (match (((nd (kF ((Tryz.f87.body).getD .skip) [true,true,false,true,false,true,false,false])).toList).headD { op:=.move (.tmp 0),dst:=none,type:=0,pos:= "",after:=#[],guard:=none }).op with | .store t _ _=>t | _=>0),
  ⟨by kernel_rfl,by kernel_rfl,by kernel_rfl,by kernel_rfl,by kernel_rfl,by kernel_rfl,by kernel_rfl,by kernel_rfl,
  B8 (idx:=[0,1,2,3,4,5]) (by kernel_rfl) (by kernel_rfl),B8 (idx:=[0]) (by kernel_rfl) (by kernel_rfl),B8 (idx:=[0]) (by kernel_rfl) (by kernel_rfl),
  Kc (by kernel_rfl),Kc (by kernel_rfl),Kc (by kernel_rfl),by kernel_rfl⟩⟩
theorem ajd (S E:List U) (h6:S.length=5) (c5:E.length=11) {l:ao} {K:U->ao->Prop} (aT:K (.fn 163 [] [.ptr (l.length+1) 0 11,.ptr l.length 0 5]) (l++[.cells 5 S,.cells 11 E])) :
  c0 Tryz.prog GS 119 [.aF S,.aF E] l (c:=⟨K⟩) :=by
 apply bq Tryz.func119 [];simp[h6,c5];exact aT
theorem OL (v:Int) :Bx Tryz.prog (bb [.cells 1 [.int .u8 v]]) (bB (fun _=>U.bad) 6 (.ptr 0 0 1)) Tryz.f87=some (.int .u8 v) :=by kernel_rfl
end Op

end Go.b0

namespace Go.b0
open Go Go.Proofs Go.RowKit
set_option maxRecDepth 100000
namespace Op
open hl
theorem Lu (S E X:List U) (v:Int) :∀ (b:Nat) (c:aV),(im S E X v)[b]? = some c->∃ n cs,c=aV.cells n cs:=by
 intro b c h;have hm:=aut h;simp only[im,avn,List.not_mem_nil,or_false] at hm;rcases hm with rfl | rfl | rfl | rfl | rfl | rfl<;>exact⟨_,_,rfl⟩
theorem alz {xL vp vq vr oY sm qZ q0:Array Oper} {ke:Oper} {t4:TypeId} (M:Pc xL vp vq vr oY sm qZ q0 ke t4) {S E X:List U} {F:Fence} (ot:∀ f,F.fn f) {n:Nat} {R:Nat->Prop} {B:Nat} {W:World} {μ:ck} {a:Go.Act}
  (rel:bN R B W (bb (im S E X 0)) μ) (bF:aO W R (bb (im S E X 0)) μ (.ptr 3 0 1) (a.tmps.getD 6 undef)) :
  (Code.block 1 (.seq (.region 4 oY false) .ret)).wpIn F n Tryz.prog (fun e _ e2=>e=.ret/\df W (bb (im S E X 0)) μ e2 (bb (im S E X 6)) μ/\bN R B e2 (bb (im S E X 6)) μ) a W:=by
 refine wpIn_block (wpIn_seq (wpIn_region_list ?_));rw[M.po];have b5:xf Tryz.prog (bb (im S E X 0)) t4 (.ptr 3 0 1) (.int .u8 6)=some (bb (im S E X 6)) :=by
  unfold xf;rw[M.al4];have aE:(bb (im S E X 0)).f 3=.cells 1 [.int .u8 0] :=lD.2 rfl;simp only[U.cells,aE];rw[if_pos (by simp),pO _ (by simp[im])];rfl
 obtain⟨w',ad,ae,aj⟩:=Yx (P:=Tryz.prog) rel b5 bF (.int .u8 6);unfold wpListIn;have aX:Region.wanted ke (yielded oY a.tmps)=true:=by unfold Region.wanted; rw[M.ajE]
 rw[if_pos aX];refine⟨fun f _=>ot f,?_⟩;have fQ:(execOp a.eval ke).run Tryz.prog W=.ok .skip w':=by
  have am:a.eval (.tmp 6)=a.tmps.getD 6 undef:=rfl;rw[<-am] at ad;have ef:(Instr.storeAt t4 (a.eval (.tmp 6)) (a.eval (.const (.int .u8 6)))).run Tryz.prog W=.ok () w':=ad;simp[execOp,M.WA,ef]
 rw[Oper.semAt_eq _ _ _ (fun c=>by rw[M.WA]; exact fun h=>by cases h),fQ,Oper.uponIn_skip,M.ajD];exact wpListIn_nil (wpIn_ret ⟨rfl,ae,aj⟩)
def xv (x:List B) (ord:dv) (ps:List (List B)) (cap eg:Int) :Int:=if x∈ord.l then 5 else if ∀ p∈ps,p∈ord.l then (if eg=cap then 8 else 1) else 6
theorem acW {w:World} {R:Nat->Prop} {h:aN} {μ:ck} {f:FuncId} {b3 b9:U} {v:Value} (ap:aO w R h μ (.fn f [] [b3,b9]) v) :∃ iS jr,v=.func (.func f) #[] #[iS,jr]/\aO w R h μ b3 iS/\aO w R h μ b9 jr:=by
 cases ap with
 | fn _ _ _ fs cs aE ah ad ae=>
  have aP:fs=#[] :=by apply awO; simpa using aE
  subst aP;obtain⟨cs⟩:=cs;rcases cs with _ | ⟨iS,_ | ⟨jr,_ | ⟨y7,cs⟩⟩⟩
  ·simp at ah
  ·simp at ah
  ·exact⟨iS,jr,rfl,ae 0 b3 iS rfl rfl,ae 1 b9 jr rfl rfl⟩
  ·simp at ah
theorem ada {l:List U} {t:Nat} (h:t<l.length) :l.getD t gL=l[t] :=by simp[List.getD,h]
theorem adb {l:List U} {t:Nat} (h:l.length<=t) :l.getD t gL=gL:=by simp[List.getD,auC h]
theorem aja:Enters Tryz.prog 163:=by
 obtain⟨zC,qW,qX,jY,sk,rY,M⟩:=We;exact enters_of Tryz.func163 (by kernel_rfl) M.body
theorem JV {cO W:World} {l:Nat} (o:Obj) (ag:fW cO W) (al:cO.heap.size<=l) :fW cO (W.putObj l o) :=
 fA.oh ((fA.wS ag (aun _)).tr (fA.put W o al ag.toBelow.size))
set_option maxHeartbeats 4000000 in
theorem ann (E:List U) (ps:dv) (Di:a5 E=true) (rh:E.length=11) (kN:∀ h:1<E.length,E[1]'h=aB ps) (hD:eQ ps) (gE:ps.l.length<=1000000) (x:List B) (af:x.length=32) (ord:dv) (kS:eQ ord) (cS:ord.l.length<=1000000) (cap eg:Int) (parts dB:U) (av:parts.closed=true) (aS:dB.closed=true) :
  bz Tryz.prog GS 87 [.aF (z5 cap eg parts dB ord),.aF E,.aF (aY x)] (.int .u8 (xv x ord ps.l cap eg)) :=by
 intro w A vs aw jm ap;obtain⟨xL,vp,vq,vr,oY,sm,qZ,q0,ke,t4,M⟩:=anb;obtain⟨S,h6⟩:∃ S,S=z5 cap eg parts dB ord:=⟨_,rfl⟩
 have GQ:a5 S=true:=by rw[h6]; exact RT av aS
 have uj:S.length=5:=by rw[h6]; rfl
 have fO:∀ h:0<S.length,S[0]'h=.int .i64 cap:=fun h=>by simp only[h6]; rfl
 have C8:∀ h:3<S.length,S[3]'h=.int .i64 eg:=fun h=>by simp only[h6]; rfl
 have ji:∀ h:4<S.length,S[4]'h=aB ord:=fun h=>by simp only[h6]; rfl
 obtain⟨X,cn⟩:∃ X,X=aY x:=⟨_,rfl⟩
 have At:X.length=32:=by rw[cn]; exact c2 af
 have TG:a5 X=true:=by rw[cn]; exact fE x
 have cQ:=Fj ord kS cS x af;rw[<-cn] at cQ ap;rw[<-h6] at ap;have fH:Tryz.prog.follows .mixedOrders=true:=Tryz.checked.mixed;have Dl:=dd ord;obtain⟨xG,v5⟩:∃ xG,xG=xv x ord ps.l cap eg:=⟨_,rfl⟩
 rw[<-v5];refine (callsIn_wide (n:=0)).1 (callsIn_of_wp_marks (fn:=Tryz.f87) Tryz.func87 M.body trivial ?_ rfl);obtain⟨mK,yb⟩:∃ mK,mK=bodyPostM Fence.wide 0 Tryz.prog Tryz.f87 (fun e w'=>∃ v,e=Ending.returned v/\fW w w'/\ed w' (fun k=>A k\/w.heap.size<=k) (.int .u8 xG) v) :=⟨_,rfl⟩
 rw[<-yb];have Dq:∀ (a:Go.Act) (W:World) (v:Int),a.defers=[]->(results Tryz.f87 a.tmps).run Tryz.prog W=.ok (.int .u8 v) W->v=xG->fW w W->mK .ret a W:=by
  intro a W v bf az jl ag;rw[yb];show LeavesInM _ _ _ _ _ _ a.defers _ _;rw[bf];exact⟨_,az,_,rfl,ag,by rw[jl]; exact .int _ _⟩
 have TU:∀ (a:Go.Act) (W:World) (D:Nat) (v:Int),a.defers=[{ target:=.collected D,args:=#[] }]->W.heap[D]? = some (.deferred (some []))->(results Tryz.f87 a.tmps).run Tryz.prog (W.putObj D (.deferred none))=.ok (.int .u8 v) (W.putObj D (.deferred none))->v=xG->fW w (W.putObj D (.deferred none))->mK .ret a W:=by
  intro a W D v bf aT az jl ag;rw[yb];show LeavesInM _ _ _ _ _ _ a.defers _ _;rw[bf];exact⟨by simp,.inl ⟨_,_,rfl,run_takeDeferred aT,_,az,_,rfl,ag,by rw[jl]; exact .int _ _⟩⟩
 have up:∀ {c:U} {v:Value},ed w A c v->aO w (fun k=>A k\/w.heap.size<=k) aN.empty (fun _=>none) c v:=fun ah=>ah.up (fun k _ ar=>⟨.inl ar,qz _ k⟩)
 have g:mI GS w (fun k=>A k\/w.heap.size<=k) aN.empty (fun _=>none) :=fun i=>⟨bn i,up (aw i)⟩
 have Ho:Tryz.f87.ntmps=21:=by kernel_rfl
 have rel:=Bv w (fun k=>A k\/w.heap.size<=k) fun k ar=>.inr ar
 refine wpIn_seq (tU (σ:=lG [.aF S,.aF E,.aF X]) (l:=[]) (K:=fun e σ l=>e=.normal/\l=[.cells 5 S,.cells 11 E,.cells 32 X,.cells 1 [.int .u8 0]]/\σ 3=.ptr 0 0 5/\σ 4=.ptr 1 0 11/\σ 5=.ptr 2 0 32/\σ 6=.ptr 3 0 1)
  fH bn M.tR ?_ rel g ⟨by rw[Ho]; simp[jm],rfl,fun t=>?_⟩ ?_)
 ·simp[lG,uj,rh,At]
 ·by_cases aW:t<([.aF S,.aF E,.aF X] :List U).length
  ·have aC:=ada aW;have DW:(vs++Array.replicate (Tryz.f87.ntmps - vs.size) undef).getD t undef=vs[t]'(by rw[jm]; exact aW) :=by
    rw[auM,avw (by rw[jm]; exact aW)];simp[show t<vs.size by rw[jm]; exact aW]
   show aO _ _ _ _ (([.aF S,.aF E,.aF X] :List U).getD t gL) _;rw[aC,DW];exact up (ap t _ _ (auo aW) (by simp))
  ·have aC:=adb (aws aW);have DW:(vs++Array.replicate (Tryz.f87.ntmps - vs.size) undef).getD t undef=undef:=by
    rw[auM,avN (by rw[jm]; exact aws aW),awC];split<;>rfl
   show aO _ _ _ _ (([.aF S,.aF E,.aF X] :List U).getD t gL) _;rw[aC,DW];exact Fb
 rintro e a0 fU tz OZ fk ⟨rfl,rfl,eF,hv,iO,yQ⟩ o4 nZ s0;have cb:=g.ext o4;by_cases hc:x∈ord.l
 ·rw[decide_eq_true hc] at cQ;have fe:(5:Int)=xG:=by rw[v5]; unfold xv; rw[if_pos hc]
  suffices ak:(Code.seq (.region 1 vp false) (.cond (.tmp 10) (.seq (.region 2 vq false) .ret) .skip)).wpIn Fence.wide 0 Tryz.prog (fun e a W=>e=.ret/\mK .ret a W) a0 fU from wpIn_seq (wpIn_mono ak fun e a w ⟨am,h⟩=>by subst am; exact h)
  refine tU (σ:=OZ) (K:=fun e σ l=>e=.ret/\l=[.cells 5 S,.cells 11 E,.cells 32 X,.cells 1 [.int .u8 5]]/\σ 6=.ptr 3 0 1) fH bn M.b3 ?_ nZ cb s0 ?_
  ·simp[eF,iO,yQ,uj,ji,At,aul];refine a4 cQ (by simp[a5,U.closed,Dl,TG]) ?_;simp[yQ]
  ·rintro e a2 bL g5 ie l1 ⟨rfl,rfl,mx⟩ oq mD cY;have bF:=cY.val 6;rw[mx] at bF;exact⟨rfl,Dq a2 bL 5 cY.defers (Kr mD rfl bF (fun _ _ _=>rfl) (aun _) (OL 5)) fe (zJ (o4.trans oq))⟩
 ·rw[decide_eq_false hc] at cQ;refine wpIn_seq (tU (σ:=OZ) (K:=fun e σ l=>e=.normal/\l=[.cells 5 S,.cells 11 E,.cells 32 X,.cells 1 [.int .u8 0]]/\σ 3=.ptr 0 0 5/\σ 4=.ptr 1 0 11/\σ 6=.ptr 3 0 1) fH bn M.b3 ?_ nZ cb s0 ?_)
  ·simp[eF,iO,yQ,uj,ji,At,aul];refine a4 cQ (by simp[a5,U.closed,Dl,TG]) ?_;simp[eF,hv,yQ]
  rintro e a2 bL g5 ie l1 ⟨rfl,rfl,ky,jQ,mx⟩ oq mD cY;have aK:=cb.ext oq;show (Code.seq (.seq (.region 3 vr false) (.block 0 (.rangeFunc (.tmp 13) #[14] .skip (.block 1 (.seq (.region 4 oY false) .ret))))) _).wpIn Fence.wide 0 Tryz.prog mK a2 bL;refine wpIn_seq (wpIn_seq (tU (σ:=ie) (K:=fun e σ l=>e=.normal/\l=im S E X 0/\σ 3=.ptr 0 0 5/\σ 6=.ptr 3 0 1/\σ 13=.fn 163 [] [.ptr 5 0 11,.ptr 4 0 5]) fH bn M.ho ?_ mD aK cY ?_))
  ·simp[ky,jQ,uj,rh,aul];refine ajd S E uj rh ?_;simp[ky,mx,im]
  rintro e bV cO zy ZM eY ⟨rfl,rfl,gT,jO,ag7⟩ CB Bu kD;have a1:=aK.ext CB;have GN:fW w cO:=zJ ((o4.trans oq).trans CB);clear eF hv iO yQ ky jQ mx s0 cY nZ mD o4 oq CB cb aK;have bF:=kD.val 6;rw[jO] at bF;have CY:=kD.val 13;rw[ag7] at CY;obtain⟨iS,jr,ae7,oD,rA⟩:=acW CY;have kx:=Xf Bu (cs:=E) (by rfl) Di oD;have nM:=Xf Bu (cs:=S) (by rfl) GQ rA;have DU:w.heap.size<=cO.heap.size:=GN.toBelow.size;have Gw:∀ {s9:Obj} {cG:World},cG=(cO.alloc (.deferred (some []))).alloc s9->fW cO cG/\cG.heap[cO.heap.size]? = some (.deferred (some []))/\cG.heap.size=cO.heap.size+2:=by
   intro s9 cG e;subst e;refine⟨fA.oh ((fA.alloc (aun _) _).tr (fA.alloc (by simp) _)),?_,by simp⟩;exact (((RowKit.Below.refl (cO.heap.size+1) (cO.alloc (.deferred (some [])))).alloc (by simp) s9).block cO.heap.size (by omega)).trans (World.alloc_heap_new _ _)
  show (Code.block 0 _).wpIn Fence.wide 0 Tryz.prog _ bV cO;refine wpIn_block (ak7 (gf:=163) (lb:=#[iS,jr]) (A:=∀ p∈ps.l,p∈ord.l) (B:=¬ ∀ p∈ps.l,p∈ord.l) ae7 aja rfl
   (fun Jv e2=>bN (fun k=>A k\/w.heap.size<=k) w.heap.size Jv (bb (im S E X 0)) zy/\df Jv (bb (im S E X 0)) zy e2 (bb (im S E X 6)) zy/\bN (fun k=>A k\/w.heap.size<=k) w.heap.size e2 (bb (im S E X 6)) zy)
   (fun Jv e2 h=>Ko h.1 (Lu S E X 0) h.2.1) ?_ ?_ ?_ ?_)
  ·intro fn y W ag;obtain⟨c1,_,_⟩:=Gw rfl;obtain⟨vW,zb⟩:=w0 Bu (JV (l:=cO.heap.size+1) (.loop (hW fn bV.tmps #[14] (.block 1 (.seq (.region 4 oY false) .ret)) cO.heap.size .busy none)) (sq c1 ag) (by omega));refine wpIn_mono (alz M (S:=S) (E:=E) (X:=X) (fun _=>trivial) zb ?_) ?_
   ·have o8:=aO.ext vW bF;have aW:(bV.tmps.setIfInBounds 14 y).getD 6 undef=bV.tmps.getD 6 undef:=by simp only[auM,awM (show 14≠6 by omega)]
    rw[<-aW] at o8;have dI:∀ T:Array Value,T=bV.tmps.setIfInBounds 14 y->aO (W.putObj (cO.heap.size+1) (.loop (hW fn bV.tmps #[14] (.block 1 (.seq (.region 4 oY false) .ret)) cO.heap.size .busy none))) (fun k=>A k\/w.heap.size<=k) (bb (im S E X 0)) zy (.ptr 3 0 1) (T.getD 6 undef) :=fun T e=>by rw[e]; exact o8
    exact dI _ (by simp)
   ·rintro e dj e2 ⟨am,ad,ae⟩;exact⟨am,zb,ad,ae⟩
  ·intro fn cG pb fY;obtain⟨c1,d1,gw⟩:=Gw pb;rw[h6] at nM;refine (ai9 E ps Di rh kN hD gE ord kS cS cap eg parts dB av aS (kx.oh c1) (nM.oh c1) (fun i=>ed.oh ((sv (a1 i).2 (a1 i).1).up fun k _ ar=>⟨ar.1,qz _ k⟩) c1) fY ?_).mono ?_
   ·rintro W e2 ag ⟨km,⟨dh,aP,dY⟩,rfl⟩;have ad6:=(sq c1 ag).toBelow.size;refine⟨A,fun i=>(aw i).oh (fA.oh ((((fA.wS GN (aun _)).tr (fA.wS (sq c1 ag) DU)).tr (fA.put W _ (by omega) (by omega))).tr ((fA.ext dh aP).tr (fA.put km _ (by omega) dY.size))))⟩
   ·rintro e dP ⟨ap,du | ⟨aD,W,e2,ag,⟨km,aW,rfl⟩,dW⟩⟩
    ·exact⟨ap,.inl du⟩
    ·exact⟨ap,.inr ⟨aD,W,km,ag,aW,dW⟩⟩
  ·intro fn cG dP pb du ag;obtain⟨c1,d1,gw⟩:=Gw pb;generalize Gv:dP.putObj _ _=e2;have bO:fW cO e2:=by rw[<-Gv]; exact JV _ (sq c1 ag) (by omega)
   have Am:e2.heap[cO.heap.size]? = some (.deferred (some [])) :=by rw[<-Gv,World.putObj_heap_other (by omega)]; exact (ag.toBelow.block _ (by omega)).trans d1
   obtain⟨vW,zb⟩:=w0 Bu bO;have X9:=kD.ext vW;have bo:=a1.ext vW;have G2:∀ (g6:Go.Act) (oZ:World) (vj:ck) (v:Int),df e2 (bb (im S E X 0)) zy oZ (bb (im S E X v)) vj->bN (fun k=>A k\/w.heap.size<=k) w.heap.size oZ (bb (im S E X v)) vj->
     aO oZ (fun k=>A k\/w.heap.size<=k) (bb (im S E X v)) vj (.ptr 3 0 1) (g6.tmps.getD 6 undef)->g6.defers=[{ target:=.collected cO.heap.size,args:=#[] }]->v=xG->mK .ret g6 oZ:=by
    intro g6 oZ vj v F4 Xq o8 bf jl;have Tc:oZ.heap[cO.heap.size]? = some (.deferred (some [])) :=(Ko zb (Lu S E X 0) F4).same _ _ Am rfl;refine TU g6 oZ cO.heap.size v bf Tc (Kr Xq (b:=3) rfl o8 (fun k ar ah=>World.putObj_heap_other (fun Lr=>by obtain⟨arr,e,fa,ah⟩:=ah; rw[Lr,Tc] at ah; cases ah)) (by simp) (OL v)) jl ?_;exact fA.oh ((((fA.wS GN (aun _)).tr (fA.wS bO DU)).tr (fA.ext zb F4)).tr (fA.put oZ _ DU Xq.size))
   show (Code.seq (.seq (.region 5 sm false) (.cond (.tmp 20) (.seq (.region 6 qZ false) .ret) .skip)) (.seq (.region 7 q0 false) .ret)).wpIn Fence.wide 0 Tryz.prog mK { tmps:=bV.tmps,defers:={ target:=.collected cO.heap.size,args:=#[] }::bV.defers } e2;refine wpIn_seq (wpIn_seq (Nt (σ:=ZM) (D:=[{ target:=.collected cO.heap.size,args:=#[] }]) fH bn M.acd M.ajO (K:=fun σ l=>l=im S E X 0/\σ 6=.ptr 3 0 1/\σ 20=.bool (decide (eg=cap))) ?_ zb bo ⟨X9.size,rfl,X9.val⟩ (by rw[kD.defers]) ?_))
   ·simp[gT,jO,im,uj,fO,C8]
   rintro go q3 auj ZN MU ⟨rfl,mx,HR⟩ F9 XJ IK TN;show (Code.cond (.tmp 20) (.seq (.region 6 qZ false) .ret) .skip).wpIn Fence.wide 0 Tryz.prog _ go q3;by_cases rI:eg=cap
   ·rw[decide_eq_true rI] at HR;refine wpIn_cond_true (Fg IK HR) (wpIn_seq (Nt (σ:=ZN) fH bn M.ace M.ajP (K:=fun σ l=>l=im S E X 8/\σ 6=.ptr 3 0 1) ?_ XJ (bo.ext F9) IK TN ?_))
    ·simp[mx,im]
    rintro g6 oZ vj ZO Er ⟨rfl,yX⟩ CC IB Bz K5;refine wpIn_ret (G2 g6 oZ vj 8 (F9.trans CC) IB (by have:=Bz.val 6; rwa [yX] at this) K5 ?_);rw[v5]; unfold xv; rw[if_neg hc,if_pos du,if_pos rI]
   ·rw[decide_eq_false rI] at HR;refine wpIn_cond_false (Fg IK HR) (wpIn_skip ?_);show (Code.seq (.region 7 q0 false) .ret).wpIn Fence.wide 0 Tryz.prog mK go q3;refine wpIn_seq (Nt (σ:=ZN) fH bn M.acf M.ajQ (K:=fun σ l=>l=im S E X 1/\σ 6=.ptr 3 0 1) ?_ XJ (bo.ext F9) IK TN ?_)
    ·simp[mx,im]
    rintro g6 oZ vj ZO Er ⟨rfl,yX⟩ CC IB Bz K5;refine wpIn_ret (G2 g6 oZ vj 1 (F9.trans CC) IB (by have:=Bz.val 6; rwa [yX] at this) K5 ?_);rw[v5]; unfold xv; rw[if_neg hc,if_pos du,if_neg rI]
  ·rintro fn cG W km dP pb j0 ag ⟨dh,aP,dY⟩ dW;obtain⟨c1,d1,gw⟩:=Gw pb;have ad6:=(sq c1 ag).toBelow.size;have adN:cO.heap.size+1<W.heap.size:=by have:=ag.toBelow.size; omega
   obtain⟨vW,zb⟩:=w0 Bu (JV (l:=cO.heap.size+1) (.loop (hW fn bV.tmps #[14] (.block 1 (.seq (.region 4 oY false) .ret)) cO.heap.size .busy none)) (sq c1 ag) (by omega));have sG:=Ko dh (Lu S E X 0) aP;have adB:W.heap[cO.heap.size]? = some (.deferred (some [])) :=(ag.toBelow.block _ (by omega)).trans d1;have KI:km.heap[cO.heap.size]? = some (.deferred (some [])) :=sG.same _ _ (by rw[World.putObj_heap_other (by omega)]; exact adB) rfl;have adM:=sG.same _ _ (World.putObj_heap_same adN) rfl;have adz:=(auO.1 KI).1;have TB:=dW.toBelow.size;simp only[World.putObj_size] at TB;have C1:dP.heap[cO.heap.size]? = some (.deferred (some [])) :=(dW.toBelow.block _ (by simpa using adz)).trans (by rw[World.putObj_heap_other (by omega)]; exact KI);show mK .ret { tmps:=bV.tmps,defers:={ target:=.collected cO.heap.size,args:=#[] }::bV.defers } _;refine TU _ _ cO.heap.size 6 (by rw[kD.defers]) (by rw[World.putObj_heap_other (by omega)]; exact C1) (Kr dY (b:=3) rfl (aO.ext (vW.trans aP) bF) (fun k ar ah=>?_) (by simpa using TB) (OL 6)) ?_ ?_
   ·obtain⟨arr,e,fa,ah⟩:=ah;have Lr:k≠cO.heap.size:=fun h=>by rw[h,KI] at ah; cases ah
    have Ue:k≠cO.heap.size+1:=fun h=>by rw[h,adM] at ah; cases ah
    have sH:=(auO.1 ah).1;rw[World.putObj_heap_other Lr,World.putObj_heap_other Ue,dW.toBelow.block k (by simpa using sH),World.putObj_heap_other Ue]
   ·rw[v5]; unfold xv; rw[if_neg hc,if_neg j0]
   ·have aj:fA w.heap.size w km:=(((fA.wS GN (aun _)).tr (fA.wS (sq c1 ag) DU)).tr (fA.put W _ (by omega) (by omega))).tr (fA.ext dh aP);have wm:=dY.size;exact fA.oh (((aj.tr (fA.put km _ (by omega) wm)).tr (fA.wS dW (by simpa using wm))).tr ((fA.put dP _ (by omega) (by omega)).tr (fA.put _ _ DU (by simp; omega))))
end Op

end Go.b0

namespace Go.b0
open Go Go.Proofs
set_option maxRecDepth 100000
open hl Op
def D3:List U->Option (List B)
 | []=>some []
 | .int .u8 n::r=>match decide (0<=n)&&decide (n<256) with
  | true=>match D3 r with | some l=>some (BitVec.ofNat 8 n.toNat::l) | none=>none
  | false=>none
 | _=>none
theorem Mp:∀ {e:List U} {i:List B},D3 e=some i->e=aY i
 | [],i,h=>by cases h; rfl
 | c::r,i,h=>by
  unfold D3 at h;split at h
  ·rename_i aP; cases aP
  ·rename_i n cB aP;cases aP;split at h
   ·rename_i ag;split at h
    ·rename_i l al;cases h;simp only[aus,decide_eq_true_eq] at ag;rw[Mp al];have:((BitVec.ofNat 8 n.toNat).toNat:Int)=n:=by
      rw[auK,aux (by omega)]; omega
     simp only[aY,auL,bA,u,this]
    ·cases h
   ·cases h
  ·cases h
def HO:List (List U)->Option (List (List B))
 | []=>some []
 | e::r=>match D3 e with
  | some i=>match Nat.beq i.length 32 with
   | true=>match HO r with | some l=>some (i::l) | none=>none
   | false=>none
  | none=>none
theorem Vf:∀ {es:List (List U)} {l:List (List B)},HO es=some l->es=l.map aY/\∀ i∈l,i.length=32
 | [],l,h=>by cases h; exact⟨rfl,fun i ay=>by cases ay⟩
 | e::r,l,h=>by
  unfold HO at h;split at h
  ·rename_i i ay;split at h
   ·rename_i ag;split at h
    ·rename_i l' al;cases h;obtain⟨ad,ae⟩:=Vf al;refine⟨by rw[Mp ay,ad]; rfl,fun x af=>?_⟩;rcases avn.1 af with aj | aj
     ·rw[aj]; exact auW ag
     ·exact ae x aj
    ·cases h
   ·cases h
  ·cases h
def HN:U->Option dv
 | .aH=>some none
 | .aZ 32 es=>match HO es with | some l=>(match Nat.ble l.length 100000 with | true=>some (some l) | false=>none) | none=>none
 | _=>none
theorem Ve {c:U} {s:dv} (h:HN c=some s) :c=aB s/\eQ s/\s.l.length<=1000000:=by
 unfold HN at h;split at h
 ·cases h; exact⟨rfl,fun i ay=>(by cases ay),by simp[db.l]⟩
 ·split at h
  ·rename_i l al;split at h
   ·rename_i ag;cases h;obtain⟨ad,ae⟩:=Vf al;have:=avq ag;exact⟨by rw[ad]; rfl,ae,by show l.length<=_; omega⟩
   ·cases h
  ·cases h
 ·cases h
def xQ:List B->List B->Bool
 | [],[]=>true
 | x::a,y::b=>match Nat.beq x.toNat y.toNat with | true=>xQ a b | false=>false
 | _,_=>false
theorem JO:∀ a b:List B,xQ a b=true<->a=b
 | [],[]=>by simp[xQ]
 | [],y::b=>by simp[xQ]
 | x::a,[]=>by simp[xQ]
 | x::a,y::b=>by
  unfold xQ;split
  ·rename_i h;have ad:=auW h;rw[JO a b,List.cons.injEq];exact Iff.intro (fun h=>And.intro (auD ad) h) (fun h=>h.2)
  ·rename_i h;refine Iff.intro (fun h=>(by cases h)) (fun aS=>?_);injection aS with ad ae
   rw[ad,awN] at h;cases h
def A1 (x:List B) :List (List B)->Bool
 | []=>false
 | y::r=>match xQ x y with | true=>true | false=>A1 x r
theorem D4 (x:List B) :∀ l,A1 x l=true<->x∈l
 | []=>by simp[A1]
 | y::r=>by
  unfold A1;split
  ·rename_i h; simp[(JO x y).1 h]
  ·rename_i h;have bP:x≠y:=fun e=>by rw[(JO x y).2 e] at h; cases h
   rw[D4 x r]; simp[bP]
def B7 (ord:List (List B)) :List (List B)->Bool
 | []=>true
 | p::r=>match A1 p ord with | true=>B7 ord r | false=>false
theorem JF (ord:List (List B)) :∀ ps,B7 ord ps=true<->∀ p∈ps,p∈ord
 | []=>by simp[B7]
 | p::r=>by
  unfold B7;split
  ·rename_i h; rw[JF ord r]; simp[(D4 p ord).1 h]
  ·rename_i h;have aD:¬ p∈ord:=fun e=>by rw[(D4 p ord).2 e] at h; cases h
   simp[aD]
def OK (x:List B) (ord ps:List (List B)) (cap eg:Int) :Int:=match A1 x ord with
 | true=>5
 | false=>match B7 ord ps with
  | true=>(match decide (eg=cap) with | true=>8 | false=>1)
  | false=>6
theorem anl (x:List B) (ord:dv) (ps:List (List B)) (cap eg:Int) :OK x ord.l ps cap eg=xv x ord ps cap eg:=by
 unfold OK xv;split
 ·rename_i h; rw[if_pos ((D4 _ _).1 h)]
 ·rename_i h;rw[if_neg fun e=>by rw[(D4 _ _).2 e] at h; cases h];split
  ·rename_i ae;rw[if_pos ((JF _ _).1 ae)];split
   ·rename_i aj; rw[if_pos (of_decide_eq_true aj)]
   ·rename_i aj; rw[if_neg (of_decide_eq_false aj)]
  ·rename_i ae;rw[if_neg fun e=>by rw[(JF _ _).2 e] at ae; cases ae]
def Ze:List U->Option U
 | [.aF [.int .i64 cap,parts,dB,.int .i64 eg,WL],.aF (fu::It::bw),.aF x]=>match Nat.beq bw.length 9&&(parts.closed&&(dB.closed&&(fu.closed&&a5 bw))) with
  | true=>match HN WL with
   | some ord=>match HN It with
    | some ps=>match D3 x with
     | some i=>match Nat.beq i.length 32 with
      | true=>some (.int .u8 (OK i ord.l ps.l cap eg))
      | false=>none
     | none=>none
    | none=>none
   | none=>none
  | false=>none
 | _=>none
abbrev Zf:FuncId × Bool × (List U->Option U) :=(87,false,Ze)
theorem anm:tH Tryz.prog GS Zf:=by
 intro args r h;refine⟨?_,fun h=>by cases h⟩;simp only[Ze] at h;split at h
 ·rename_i cap parts dB eg WL fu It bw x;split at h
  ·rename_i ah;simp only[aus] at ah;obtain⟨b3,b9,ho,fD,Q7⟩:=ah;split at h
   ·rename_i ord au;split at h
    ·rename_i ps av;split at h
     ·rename_i i ay;split at h
      ·rename_i ag;cases h;obtain⟨hS,gI,oO⟩:=Ve au;obtain⟨q1,cV,fy⟩:=Ve av;have af:=Mp ay;rw[anl,af,hS];have i6:It.closed=true:=by rw[q1]; exact dd ps
       exact ann (fu::It::bw) ps (by simp[a5,fD,Q7,i6]) (by have:=auW b3; simp[this]) (fun _=>q1) cV fy i (auW ag) ord gI oO cap eg parts dB b9 ho
      ·cases h
     ·cases h
    ·cases h
   ·cases h
  ·cases h
 ·cases h
end Go.b0

namespace Go.b0
open Go Go.Proofs
set_option maxRecDepth 100000
namespace Op
open hl
theorem zc (s:dv) (au:eQ s) (al:s.l.length<=1000000) (x:List B) (af:x.length=32) :bz Tryz.prog GS 41 [aB s,.aF (aY x)] (.int .i64 (g3 x s.l 0)) :=by
 refine bX Tryz.checked.mixed bn ?_;apply bq Tryz.func41 [];simp[aB];refine cl s.l.length (fun k σ l=>l=[.cells 32 (aY x)]/\σ 0=cE 32 aY s/\σ 3=.ptr 0 0 32/\σ 5=.int .i64 k/\∀ (j:Nat) (z:List B),j<k->s.l[j]? = some z->z≠x) ?_ (by simp[aB,c2 af]);rintro k σ l ar ⟨rfl,cb,a1,bo,ak⟩;obtain⟨σ,rfl⟩:=lB cb a1 bo;clear cb a1 bo;simp;refine pm (fun h=>?_) (fun h=>?_)
 ·simp only[decide_eq_true_eq] at h;obtain⟨y,aJ,eL⟩:=bI (l:=s.l) (k:=k) (by omega);have aP:IntKind.i64.wrap ((k:Int)+1)=((k+1:Nat) :Int) :=by rw[IntKind.wrap_i64]; omega
  simp[aJ,c2 (au y eL),c2 af,aul,Mo (au y eL) af];by_cases am:y=x
  ·have ds:=Ee (n:=0) aJ ak am;simp[am];exact aQ (by rw[ds]; simp) rfl
  ·simp[am,aP];refine⟨by omega,fun j z ai ax=>?_⟩;by_cases gR:j=k
   ·subst gR; rw[aJ] at ax; obtain rfl:=Option.some.inj ax; exact fun h=>am h
   ·exact ak j z (by omega) ax
 ·simp[h];have rq:k=s.l.length:=by simp at h; omega
  exact aQ (by rw[MF fun j z ax=>ak j z (by rw[rq]; exact (auk.1 ax).1) ax]) rfl
def k9 (l ps:List (List B)) :Bool:=decide (∀ p∈ps,p∈l)
theorem NG (s:dv) (au:eQ s) (al:s.l.length<=1000000) (t:dv) (aW:eQ t) (lY:t.l.length<=1000000) :bz Tryz.prog GS 59 [aB s,aB t] (.bool (k9 s.l t.l)) :=by
 refine bX Tryz.checked.mixed bn ?_;apply bq Tryz.func59 [];have cW:=dd s;have aL:ce (.aq 32) (aB t)=some (.int .i64 t.l.length) :=by simp[aB]
 simp;refine cl t.l.length (fun k σ l=>σ 0=aB s/\σ 1=aB t/\σ 5=.int .i64 k/\∀ (j:Nat) (z:List B),j<k->t.l[j]? = some z->z∈s.l) ?_ (by simp);rintro k σ l ar ⟨cb,aK,bo,ak⟩;obtain⟨σ,rfl⟩:=lB cb aK bo;clear cb aK bo;by_cases bv:k<t.l.length
 ·obtain⟨y,aJ,eL⟩:=bI bv;have aP:IntKind.i64.wrap ((k:Int)+1)=((k+1:Nat) :Int) :=by rw[IntKind.wrap_i64]; omega
  have bY:cL (.aq 32) (aB t) (.int .i64 (k:Int))=some (.bM (aY y) 0) :=by simp[aB,aJ]
  have oz:=fE y;have ez:=zc s au al y (aW y eL);have fI:=c2 (aW y eL);have Uy:=uL y s.l 0;obtain⟨Y,fY⟩:∃ Y,Y=aY y:=⟨_,rfl⟩
  rw[<-fY] at bY oz ez fI;simp[aL,bv,bY,fI,aul];refine a4 ez (by simp[a5,U.closed,cW,oz]) ?_;by_cases hm:y∈s.l
  ·have ae:¬ g3 y s.l 0<0:=by have:=Uy.2 hm; omega
   simp[ae,bv,aP];intro j z ai ax;by_cases gR:j=k
   ·subst gR; rw[aJ] at ax; obtain rfl:=Option.some.inj ax; exact hm
   ·exact ak j z (by omega) ax
  ·have ae:g3 y s.l 0<0:=by
    rcases Int.lt_or_le (g3 y s.l 0) 0 with h | h
    ·exact h
    ·exact absurd (Uy.1 h) hm
   simp[ae];exact aQ (congrArg U.bool (decide_eq_false fun h=>hm (h y eL)).symm) rfl
 ·have rq:k=t.l.length:=by omega
  simp[aL,bv];refine aQ (congrArg U.bool (decide_eq_true fun p av=>?_).symm) rfl;obtain⟨j,ai⟩:=aur.1 av;exact ak j p (by rw[rq]; exact (auk.1 ai).1) ai
theorem qD {l:List (List B)} (h:di l=true) :∀ {i j:Nat} {a b:List B},i<j->l[i]? = some a->l[j]? = some b->cg a b<0:=by
 have aI:=of_decide_eq_true h;intro i j
 induction j with
 | zero=>intro a b mo; omega
 | succ j aR=>
  intro a b mo aC ag;have eK:=(auk.1 ag).1;have ad:=aI (j+1) eK (by omega);obtain⟨c,ah,_⟩:=bI (l:=l) (k:=j) (by omega);rw[show j+1 - 1=j by omega,gi ah,gi ag] at ad;by_cases aff:i=j
  ·subst aff;rw[aC] at ah;obtain rfl:=Option.some.inj ah;exact ad
  ·exact zY _ _ _ (aR (by omega) aC ah) ad
theorem als {l:List (List B)} (h:di l=true) {i j:Nat} {a:List B} (aC:l[i]? = some a) (ag:l[j]? = some a) :i=j:=by
 rcases avI i j with ad | ad | ad
 ·have:=qD h ad aC ag; rw[q7] at this; omega
 ·exact ad
 ·have:=qD h ad ag aC; rw[q7] at this; omega
def i2 (l:List (List B)) (x:List B) :Nat:=(l.takeWhile fun t=>decide (cg t x<0)).length
theorem J4 (x:List B) :∀ {l:List (List B)} {p:Nat},p<=l.length->(∀ (t:Nat) (y:List B),t<p->l[t]? = some y->cg y x<0)->(∀ y,l[p]? = some y->¬ cg y x<0)->i2 l x=p
 | [],p,av,_,_=>by simp at av; subst av; rfl
 | y::l,0,_,_,ae=>by
  have:=ae y (by simp);unfold i2;rw[awv,decide_eq_false this]; rfl
 | y::l,p+1,av,ad,ae=>by
  have aJ:=ad 0 y (by omega) (by simp);have aR:=J4 x (l:=l) (p:=p) (by simpa using av) (fun t z aW ax=>ad (t+1) z (by omega) (by simpa using ax)) (fun z ax=>ae z (by simpa using ax));unfold i2 at aR ⊢;rw[awv,decide_eq_true aJ];simpa using aR
theorem al2 (n:Nat) (h:n<9223372036854775808) :ct .shr .u64 (n:Int) .u64 1=some (.int .u64 ((n / 2:Nat) :Int)) :=by
 have:=vD (BitVec.ofNat 64 n) .u64 1;have aM:(u (BitVec.ofNat 64 n) :Int)=n:=by unfold u; rw[auK,aux (by omega)]
 have ap:(u (BitVec.ofNat 64 n >>> 1) :Int)=((n / 2:Nat) :Int) :=by
  unfold u; rw[avd,auK,aux (by omega),auQ]
 rw[aM,ap] at this;exact this
structure ZT (s:dv) (X:List U) (x:List B) (m:Nat) (σ:bc) (l:ao) :Prop where
 ex:∃ (i j:Nat),j - i=m/\i<=j/\j<=s.l.length/\l=[.cells 32 X]/\σ 0=aB s/\σ 2=.fn 75 [] []/\σ 4=.ptr 0 0 32/\σ 8=.int .i64 s.l.length/\σ 9=.int .i64 i/\σ 10=.int .i64 j ∧
  (∀ (t:Nat) (y:List B),t<i->s.l[t]? = some y->cg y x<0)/\(∀ (t:Nat) (y:List B),j<=t->s.l[t]? = some y->¬ cg y x<0)
theorem Yd (s:dv) (au:eQ s) (al:s.l.length<=1000000) (x:List B) (af:x.length=32) (hm:di s.l=true) :
  bz Tryz.prog GS 96 [aB s,.aF (aY x),.fn 75 [] []] (.bt [.int .i64 (i2 s.l x),.bool (decide (x∈s.l))]) :=by
 refine bX Tryz.checked.mixed bn ?_;apply bq Tryz.func96 [];have bC:ce (.aq 32) (aB s)=some (.int .i64 s.l.length) :=by simp[aB]
 have bd:=c2 af;have eX:=fE x;have fp:∀ y∈s.l,bz Tryz.prog GS 75 [.aF (aY y),.aF (aY x)] (.int .i64 (cg y x)) :=fun y aJ=>vN y x (au y aJ) af
 obtain⟨X,cn⟩:∃ X,X=aY x:=⟨_,rfl⟩
 rw[<-cn] at bd eX fp ⊢;simp[bC];refine Eu (ZT s X x) ?_ s.l.length _ _ ⟨0,s.l.length,by omega,by omega,by omega,by simp[bd],by simp,by simp,by simp[bd],by simp,by simp,by simp,fun t y h=>by omega,fun t y h ae=>by rw[auC h] at ae; cases ae⟩;rintro m σ l ⟨i,j,hC,mo,eK,rfl,cb,aU,bl,e4,gZ,jg,ad,ae⟩;obtain⟨σ,rfl⟩:=xm cb aU bl e4 gZ jg;clear cb aU bl e4 gZ jg;by_cases aL:i<j
 ·obtain⟨h,aS⟩:∃ h,h=(i+j) / 2:=⟨_,rfl⟩
  have bL:IntKind.i64.wrap ((i:Int)+j)=((i+j:Nat) :Int) :=by rw[IntKind.wrap_i64]; omega
  have w2:IntKind.u64.wrap ((i+j:Nat) :Int)=((i+j:Nat) :Int) :=by rw[zr,avZ]; unfold u; rw[auK,aux (by omega)]
  have cO:=al2 (i+j) (by omega);have pJ:IntKind.i64.wrap (h:Int)=(h:Int) :=by rw[IntKind.wrap_i64]; omega
  have BO:IntKind.i64.wrap ((h:Int)+1)=((h+1:Nat) :Int) :=by rw[IntKind.wrap_i64]; omega
  have kQ:(i:Int)<(j:Int) :=by omega
  rw[<-aS] at cO;obtain⟨y,aJ,eL⟩:=bI (l:=s.l) (k:=h) (by omega);have fI:=c2 (au y eL);have kX:=fE y;have bY:cL (.aq 32) (aB s) (.int .i64 (h:Int))=some (.bM (aY y) 0) :=by simp[aB,aJ]
  have oz:=fp y eL;obtain⟨Y,fY⟩:∃ Y,Y=aY y:=⟨_,rfl⟩
  rw[<-fY] at fI kX bY oz;obtain⟨N,fe⟩:∃ N,N=i+j:=⟨_,rfl⟩
  rw[<-fe] at bL w2 cO;simp[aL,bL,w2,cO,pJ,bY,fI,bd,aul];refine⟨Kt,a4 oz (by simp[a5,U.closed,kX,eX]) ?_⟩;by_cases bF:cg y x<0
  ·simp[bF,BO];refine⟨j - (h+1),by omega,h+1,j,rfl,by omega,by omega,by simp,by simp,by simp,by simp,by simp,by simp,by simp,fun t z aW ax=>?_,ae⟩;by_cases L7:t=h
   ·subst L7; rw[aJ] at ax; obtain rfl:=Option.some.inj ax; exact bF
   ·exact zY _ _ _ (qD hm (by omega) ax aJ) bF
  ·simp[bF];refine⟨h - i,by omega,i,h,rfl,by omega,by omega,by simp,by simp,by simp,by simp,by simp,by simp,by simp,ad,fun t z aW ax dz=>bF ?_⟩;by_cases L7:t=h
   ·subst L7; rw[aJ] at ax; obtain rfl:=Option.some.inj ax; exact dz
   ·exact zY _ _ _ (qD hm (by omega) aJ ax) dz
 ·have kQ:¬ (i:Int)<(j:Int) :=by omega
  obtain rfl:i=j:=by omega
  have ah:=J4 x (l:=s.l) (p:=i) eK ad (fun y aJ=>ae i y (aun _) aJ);have hc:∀ {y:List B},s.l[i]? = some y->(y=x<->x∈s.l) :=fun {y} aJ=>by
   constructor
   ·rintro rfl; exact aut aJ
   ·intro yO;obtain⟨t,aW⟩:=aur.1 yO;rcases avI t i with aj | aj | aj
    ·have:=ad t x aj aW; rw[q7] at this; omega
    ·subst aj; rw[aJ] at aW; exact Option.some.inj aW
    ·exact absurd (qD hm aj aJ aW) (ae i y (aun _) aJ)
  by_cases dH:i<s.l.length
  ·have afg:(i:Int)<(s.l.length:Int) :=by omega
   obtain⟨y,aJ,eL⟩:=bI (l:=s.l) (k:=i) dH;have fI:=c2 (au y eL);have kX:=fE y;have bY:cL (.aq 32) (aB s) (.int .i64 (i:Int))=some (.bM (aY y) 0) :=by simp[aB,aJ]
   have oz:=fp y eL;have aeA:cg y x=0<->x∈s.l:=by
    rw[<-hc aJ];exact⟨zX,fun h=>by rw[h]; exact q7 _⟩
   obtain⟨Y,fY⟩:∃ Y,Y=aY y:=⟨_,rfl⟩
   rw[<-fY] at fI kX bY oz;simp[dH,bY,fI,bd,aul];refine⟨Kt,a4 oz (by simp[a5,U.closed,kX,eX]) ?_⟩;simp;refine aQ ?_ rfl;rw[ah];simp[aeA]
  ·have afg:¬ (i:Int)<(s.l.length:Int) :=by omega
   simp[dH];refine aQ ?_ rfl;have cR:¬ x∈s.l:=fun yO=>by
    obtain⟨t,aW⟩:=aur.1 yO;have:=ad t x (by have:=(auk.1 aW).1; omega) aW;rw[q7] at this; omega
   rw[ah,decide_eq_false cR]
theorem Cr {l:List (List B)} (hm:di l=true) {k:Nat} {x:List B} (h:l[k]? = some x) :i2 l x=k:=
 J4 x (avY (auk.1 h).1) (fun t y aW aJ=>qD hm aW aJ h) (fun y aJ=>by rw[h] at aJ; obtain rfl:=Option.some.inj aJ; rw[q7]; omega)
structure bp where
 ids:dv
 ops:db br
def bx (s:db br) :U:=cE 11 a3 s
def bR (g:bp) :List U:=[aB g.ids,bx g.ops]
def cH (g:bp) :U:=.aF (bR g)
structure gn (g:bp) :Prop where
 ids:eQ g.ids
 ops:∀ o∈g.ops.l,iY o
 li:g.ids.l.length<=1000000
 cJ:g.ops.l.length<=1000000
theorem jE (s:db br) :(bx s).closed=true:=Co kM s
theorem zV (g:bp) :a5 (bR g)=true:=by have:=dd g.ids; have:=jE g.ops; simp[bR,a5, *]
theorem su (g:bp) :(cH g).closed=true:=by simp[cH,U.closed,zV]
def eO (ops:List br) (i:Nat) :List (List B) :=match ops[i]? with | some o=>o.bi.l | none=>[]
theorem tf {ops:List br} {i:Nat} {o:br} (h:ops[i]? = some o) :eO ops i=o.bi.l:=by unfold eO; rw[h]
inductive pN (ids:List (List B)) (ops:List br) :Nat->Prop
 | mk (i:Nat) (ay:i<ids.length) (av:∀ p∈eO ops i,p∈ids) (aw:∀ p∈eO ops i,∀ j,ids[j]? = some p->pN ids ops j) :pN ids ops i
theorem pN.lt {ids:List (List B)} {ops:List br} {i:Nat} (h:pN ids ops i) :i<ids.length:=by cases h; assumption
def mJ (ids:List (List B)) :Prop:=∀ (i j:Nat) (x:List B),ids[i]? = some x->ids[j]? = some x->i=j
theorem qs {ids:List (List B)} (h:di ids=true) :mJ ids:=fun _ _ _ ad ae=>als h ad ae
theorem u9:∀ {a b:List Nat},a.Nodup->(∀ x∈a,x∈b)->a.length<=b.length
 | [],_,_,_=>avu _
 | x::a,b,aD,ak=>by
  rw[awR] at aD;have af:=ak x (by simp);have aR:=u9 (b:=b.erase x) aD.2 (fun y aJ=>(List.mem_erase_of_ne (fun e=>aD.1 (by rw[<-e]; exact aJ))).2 (ak y (by simp[aJ])));rw[axg af] at aR;have:=List.length_pos_of_mem af;simp; omega
def pW (ids:List (List B)) (ops:List br) (out:List Nat) (i:Nat) :Bool:=decide (i∉out)&&k9 (out.map (b1 ids)) (eO ops i)
def kb (ids:List (List B)) (ops:List br) (out:List Nat) :Option Nat:=(List.range ops.length).find? (pW ids ops out)
def gg (ids:List (List B)) (ops:List br) :Nat->List Nat
 | 0=>[]
 | k+1=>match kb ids ops (gg ids ops k) with | some i=>gg ids ops k++[i] | none=>gg ids ops k
def pt (ids:List (List B)) (ops:List br) :List Nat:=gg ids ops ops.length
theorem ajB {ids:List (List B)} {ops:List br} {out:List Nat} {i:Nat} (h:kb ids ops out=some i) :i<ops.length/\i∉out/\∀ p∈eO ops i,p∈out.map (b1 ids) :=by
 have ad:=List.find?_some h;have ae:=aw7 h;unfold pW at ad;rw[aus,decide_eq_true_eq] at ad;exact⟨auZ.1 ae,ad.1,of_decide_eq_true ad.2⟩
theorem ajA {ids:List (List B)} {ops:List br} {out:List Nat} (h:kb ids ops out=none) {i:Nat} (ay:i<ops.length) (au:i∉out) :¬ ∀ p∈eO ops i,p∈out.map (b1 ids) :=by
 intro aS;have:=List.find?_eq_none.1 h i (auZ.2 ay);apply this;unfold pW;rw[aus];exact⟨decide_eq_true au,decide_eq_true aS⟩
theorem ajy {ids:List (List B)} {ops:List br} {out:List Nat} {i:Nat} (ay:i<ops.length) (h:pW ids ops out i=true) (ag:∀ j,j<i->pW ids ops out j=false) :kb ids ops out=some i:=by
 unfold kb;rw[axh];exact⟨h,by simpa using ay,fun j ai=>by rw[ag j ai]; rfl⟩
theorem ajz {ids:List (List B)} {ops:List br} {out:List Nat} (ag:∀ j,j<ops.length->pW ids ops out j=false) :kb ids ops out=none:=by
 unfold kb;rw[List.find?_eq_none];intro j ai;rw[ag j (auZ.1 ai)]; simp
theorem EI {ids:List (List B)} {ops:List br} {k i:Nat} (h:kb ids ops (gg ids ops k)=some i) :gg ids ops (k+1)=gg ids ops k++[i] :=by
 show (match kb ids ops (gg ids ops k) with | some i=>gg ids ops k++[i] | none=>gg ids ops k)=_;rw[h]
theorem In {ids:List (List B)} {ops:List br} {k:Nat} (h:kb ids ops (gg ids ops k)=none) :gg ids ops (k+1)=gg ids ops k:=by
 show (match kb ids ops (gg ids ops k) with | some i=>gg ids ops k++[i] | none=>gg ids ops k)=_;rw[h]
theorem EH (ids:List (List B)) (ops:List br) (aD:ids.length=ops.length) (ai:mJ ids) :∀ k,(gg ids ops k).Nodup/\(gg ids ops k).length<=k/\∀ i∈gg ids ops k,i<ops.length/\pN ids ops i
 | 0=>⟨List.nodup_nil,aun _,fun i ay=>by cases ay⟩
 | k+1=>by
  obtain⟨ad,ae,aj⟩:=EH ids ops aD ai k;cases af:kb ids ops (gg ids ops k) with
  | none=>rw[In af]; exact⟨ad,by omega,aj⟩
  | some i=>
   rw[EI af];obtain⟨a2,a9,bV⟩:=ajB af;refine⟨?_,by simp; omega,fun j yq=>?_⟩
   ·rw[List.nodup_append];refine⟨ad,by simp,fun x af y aJ e=>?_⟩;rw[avk] at aJ;subst e;rw[aJ] at af;exact a9 af
   ·rw[avi,avk] at yq;rcases yq with yq | rfl
    ·exact aj j yq
    ·have ez:∀ t,t<ids.length->ids[t]? = some (b1 ids t) :=fun t aW=>by
      obtain⟨x,af,_⟩:=bI (l:=ids) aW;rw[af,gi af]
     refine⟨a2,.mk j (by omega) (fun p av=>?_) fun p av mw gQ=>?_⟩
     ·obtain⟨t,aW,rfl⟩:=auR.1 (bV p av);exact aut (ez t (by have:=(aj t aW).1; omega))
     ·obtain⟨t,aW,rfl⟩:=auR.1 (bV p av);obtain⟨c1,dx⟩:=aj t aW;rw[ai mw t _ gQ (ez t (by omega))];exact dx
theorem No {ids:List (List B)} {ops:List br} {k:Nat} (h:kb ids ops (gg ids ops k)=none) :∀ m,gg ids ops (k+m)=gg ids ops k
 | 0=>rfl
 | m+1=>by
  have aR:=No h m;rw[<-av1,In (by rw[aR]; exact h),aR]
theorem Wv {n:Nat} {l:List Nat} (aD:l.Nodup) (al:l.length=n) (ag:∀ i∈l,i<n) :∀ i,i<n->i∈l:=by
 intro i ay;apply Classical.byContradiction;intro cR;have:=u9 (a:=i::l) (b:=List.range n) (awR.2 ⟨cR,aD⟩) (fun x af=>by
  rw[avn] at af;rcases af with rfl | af
  ·exact auZ.2 ay
  ·exact auZ.2 (ag x af))
 simp[al] at this;omega
theorem Np {ids:List (List B)} {ops:List br} (aD:ids.length=ops.length) (ai:mJ ids) :(pt ids ops).length=ops.length<->∀ i,i<ops.length->pN ids ops i:=by
 obtain⟨ad,ae,aj⟩:=EH ids ops aD ai ops.length;constructor
 ·intro h i ay;exact (aj i (Wv ad h (fun i ay=>(aj i ay).1) i ay)).2
 ·intro h;have hq:∀ k,k<=ops.length->(gg ids ops k).length=k\/∃ m,m<=k/\kb ids ops (gg ids ops m)=none:=by
   intro k
   induction k with
   | zero=>intro _; exact .inl rfl
   | succ k aR=>
    intro ar;rcases aR (by omega) with aG | ⟨m,hm,aG⟩
    ·cases af:kb ids ops (gg ids ops k) with
     | none=>exact .inr ⟨k,by omega,af⟩
     | some i=>left; rw[EI af]; simp[aG]
    ·exact .inr ⟨m,by omega,aG⟩
  rcases hq ops.length (aun _) with aG | ⟨m,hm,aG⟩
  ·exact aG
  ·have b5:gg ids ops ops.length=gg ids ops m:=by
    have:=No aG (ops.length - m)
    rwa [show m+(ops.length - m)=ops.length by omega] at this
   have dV:∀ i,pN ids ops i->i<ops.length->i∈gg ids ops m:=by
    intro i aw
    induction aw with
    | mk i ay av aw aR=>
     intro aL;apply Classical.byContradiction;intro cR;refine ajA aG aL cR fun p yH=>?_
     obtain⟨j,yp⟩:=aur.1 (av p yH);exact auR.2 ⟨j,aR p yH j yp (by have:=(auk.1 yp).1; omega),gi yp⟩
   show (gg ids ops ops.length).length=ops.length;rw[b5];have bh:=u9 (a:=List.range ops.length) (b:=gg ids ops m) axi fun i ay=>dV i (h i (auZ.1 ay)) (auZ.1 ay)
   rw[List.length_range] at bh;rw[b5] at ae;omega
theorem SA (g:bp) (aw:gn g) (az:di g.ids.l=true) (x:List B) (af:x.length=32) :bz Tryz.prog GS 69 [cH g,.aF (aY x)] (.bt [.int .i64 (i2 g.ids.l x),.bool (decide (x∈g.ids.l))]) :=by
 refine bX Tryz.checked.mixed bn ?_;apply bq Tryz.func69 [];have fj:=dd g.ids;have dJ:=jE g.ops;have lP:=fE x;have bd:=c2 af;have ak:=Yd g.ids aw.ids aw.li x af az;obtain⟨X,cn⟩:∃ X,X=aY x:=⟨_,rfl⟩
 rw[<-cn] at ak lP bd ⊢;simp[cH,bR,bd,aul];refine a4 ak (by simp[a5,U.closed,fj,lP]) ?_;simp;exact aQ rfl rfl
def h3 (n:Nat) :List U:=[.int .i64 (n:Int)]
def oo (b:Bool) :List U:=[.bool b]
def dm {α:Type} (l:List α) :db α:=match l with | []=>none | x::r=>some (x::r)
theorem ec {α:Type} (l:List α) :(dm l).l=l:=by cases l<;>rfl
theorem qI {α:Type} (l:List α) :(dm l).isNone=l.isEmpty:=by cases l<;>rfl
def Ki (l:db Nat) :U:=cE 1 h3 l
theorem XN {α:Type} (zero:U) (n:Nat) :dC [zero] n=List.replicate n zero:=by
 rw[EU]
 induction n with
 | zero=>rfl
 | succ n aR=>rw[avc,au9,aR,avc]; rfl
theorem Ew {z by_ n:Nat} {k k' : IntKind} {zero:List U} {l:ao} (ax:zero.length=z) (ad:n<9223372036854775808) (ae:by_*n<=cw) :
  rU z by_ zero l (.int k (n:Int)) (.int k' (n:Int))=some (.aq z l.length 0 n n (n*z),l++[.cells (n*z) (dC zero n)])/\bK z (l++[.cells (n*z) (dC zero n)]) (.aq z l.length 0 n n (n*z)) l.length (List.replicate n zero) :=by
 constructor
 ·have aj:(by_:Int)*(n:Int)<=(cw:Int) :=by rw[<-Int.natCast_mul]; omega
  simp only[rU,auS];rw[if_pos ⟨by omega,by omega,by omega,aj⟩]
 ·refine .aq l.length n n (n*z) (dC zero n) _ (by rw[auJ (aun _)]; simp) (by rw[Bw,ax]) (by simp) (fun e am=>by rw[avK am]; exact ax) (aun _) (aun _) ?_;rw[aul (by rw[Bw,ax]; omega),EU]
def q8 (n:Nat) (out:List Nat) :List Bool:=(List.range n).map fun i=>decide (i∈out)
theorem F2 {n:Nat} {out:List Nat} {i:Nat} (h:i<n) :(q8 n out)[i]? = some (decide (i∈out)) :=by
 unfold q8; rw[auq,auX h]; rfl
theorem Cv (n:Nat) (out:List Nat) :(q8 n out).length=n:=by simp[q8]
theorem ab4 {n:Nat} {out:List Nat} {i:Nat} (h:i<n) :(q8 n out).set i true=q8 n (out++[i]) :=by
 apply avf;intro j;by_cases ai:j<n
 ·rw[F2 ai,avv];by_cases mo:i=j
  ·subst mo; simp[Cv,h]
  ·rw[if_neg mo,F2 ai];simp[Ne.symm mo]
 ·rw[auC (by simp[Cv]; omega),auC (by simp[Cv]; omega)]
theorem ab3 (n:Nat) :q8 n []=List.replicate n false:=by
 apply avf;intro j;by_cases ai:j<n
 ·rw[F2 ai]; simp[ai]
 ·rw[auC (by simp[Cv]; omega),auC (by simp; omega)]
theorem Nk {cs:List U} {o:Nat} {c:U} (h:(cs.drop o).take 1=[c]) :cs[o]? = some c:=by
 have ad:((cs.drop o).take 1)[0]? = some c:=by rw[h]; rfl
 rw[auI (by omega),auY] at ad;exact ad
structure aac (g:bp) (out:List Nat) (e8 gW hZ:U) (rest:ao) :Prop where
 ex:∃ ky jQ l3,bK 1 (.cells 2 (bR g) ::rest) e8 ky (out.map h3)/\bK 32 (.cells 2 (bR g) ::rest) gW jQ ((out.map (b1 g.ids.l)).map aY)/\bK 1 (.cells 2 (bR g) ::rest) hZ l3 ((q8 g.ops.l.length out).map oo) ∧
  1<=l3/\cF hZ=false/\cF e8=out.isEmpty/\cF gW=out.isEmpty/\(out=[]\/(1<=ky/\1<=jQ/\ky≠jQ/\ky≠l3/\jQ≠l3))
set_option maxHeartbeats 4000000 in
theorem akQ (g:bp) (aw:gn g) (al:g.ids.l.length=g.ops.l.length) (ai:mJ g.ids.l) :bz Tryz.prog GS 174 [cH g] (Ki (dm (pt g.ids.l g.ops.l))) :=by
 refine bX Tryz.checked.mixed bn ?_;apply bq Tryz.func174 [[[0],[1],[2],[3],[4],[6],[7],[8],[9],[10],[11],[12],[5,12,11,8]]];have lW:cw=140737488355328:=rfl;have fj:=dd g.ids;have dJ:=jE g.ops;have cM:ce (.aq 11) (bx g.ops)=some (.int .i64 g.ops.l.length) :=by simp[bx]
 have bC:=aw.cJ;obtain⟨hC,ku⟩:=Ew (z:=1) (by_:=1) (n:=g.ops.l.length) (k:=.i64) (k':=.i64) (zero:=[U.bool false]) (l:=[aV.cells 2 (bR g)]) rfl (by omega) (by rw[lW]; omega);simp only[bR,avX,XN (α:=Nat)] at hC ku;simp[cH,bR,cM,hC];refine Eu (fun m σ l=>∃ (k:Nat) (rest:ao),l=.cells 2 (bR g) ::rest/\σ 1=.ptr 0 0 2/\aac g (gg g.ids.l g.ops.l k) (σ 3) (σ 4) (σ 5) rest ∧
  ((σ 6=.bool true/\(gg g.ids.l g.ops.l k).length=k/\m=g.ops.l.length - k+1)\/(σ 6=.bool false/\kb g.ids.l g.ops.l (gg g.ids.l g.ops.l k)=none/\k<=g.ops.l.length/\m=0))) ?_ (g.ops.l.length+1) _ _ ?_
 ·rintro m σ l ⟨k,rest,rfl,aK,nE,ak⟩;obtain⟨e8,a1⟩:∃ v,σ 3=v:=⟨_,rfl⟩
  obtain⟨gW,bl⟩:∃ v,σ 4=v:=⟨_,rfl⟩
  obtain⟨hZ,bo⟩:∃ v,σ 5=v:=⟨_,rfl⟩
  rw[a1,bl,bo] at nE;obtain⟨out,kw⟩:∃ out,out=gg g.ids.l g.ops.l k:=⟨_,rfl⟩
  rw[<-kw] at nE ak;obtain⟨yA,c4,wb⟩:=EH g.ids.l g.ops.l al ai k;rw[<-kw] at yA c4 wb;have cS:out.length<=g.ops.l.length:=by
   have:=u9 (b:=List.range g.ops.l.length) yA (fun x af=>auZ.2 (wb x af).1);simpa using this
  rcases ak with ⟨cu,ar,rfl⟩ | ⟨cu,cR,dK,rfl⟩
  ·obtain⟨σ,rfl⟩:=lC aK a1 bl bo cu;clear aK a1 bl bo cu;simp;refine cl g.ops.l.length (fun i σ l=>l=.cells 2 (bR g) ::rest/\σ 1=.ptr 0 0 2/\σ 3=e8/\σ 4=gW/\σ 5=hZ/\σ 6=.bool false/\σ 7=.int .i64 i/\∀ j,j<i->pW g.ids.l g.ops.l out j=false) ?_ (by simp);rintro i σ l ay ⟨rfl,aK,a1,bl,bo,cu,dU,ak⟩;obtain⟨σ,rfl⟩:=xm aK a1 bl bo cu dU;clear aK a1 bl bo cu dU;by_cases cQ:i<g.ops.l.length
   ·obtain⟨o,au,en⟩:=bI cQ;have aP:IntKind.i64.wrap ((i:Int)+1)=((i+1:Nat) :Int) :=by rw[IntKind.wrap_i64]; omega
    have bY:cL (.aq 11) (bx g.ops) (.int .i64 (i:Int))=some (.bM (a3 o) 0) :=by simp[bx,au]
    obtain⟨ky,jQ,l3,oO,ke,uX,bh,Ey,y3,rW,bf⟩:=nE;obtain⟨aka,Q7,sb,a2,a9,bV,ey⟩:=uX.q.get (k:=.i64) (i:=i) (e:=oo (decide (i∈out))) (by rw[auq,F2 cQ]; rfl);have go:=Nk (c:=.bool (decide (i∈out))) (by simpa [oo] using ey);have m6:=ke.wZ (enc:=aY) (xs:=out.map (b1 g.ids.l)) (fun x=>fE x) (dm (out.map (b1 g.ids.l))) (by rw[rW,qI]; simp) (ec _);have agb:eQ (dm (out.map (b1 g.ids.l))) :=fun x af=>by
     rw[ec] at af;obtain⟨t,aW,rfl⟩:=auR.1 af;obtain⟨y,aJ,eL⟩:=bI (l:=g.ids.l) (k:=t) (by have:=(wb t aW).1; omega);rw[gi aJ]; exact aw.ids y eL
    have dV:=NG (dm (out.map (b1 g.ids.l))) agb (by rw[ec]; simp; omega) o.bi (aw.ops o en).ids (aw.ops o en).len;rw[ec] at dV;have i6:=dd o.bi;have Dj:pW g.ids.l g.ops.l out i=(decide (i∉out)&&k9 (out.map (b1 g.ids.l)) o.bi.l) :=by unfold pW; rw[tf au]
    simp only[bR] at a9 oO ke uX m6;by_cases mq:i∈out
    ·simp[bR,cM,cQ,a2,a9,go,mq,aP];intro j ai;by_cases jL:j=i
     ·subst jL; rw[Dj]; simp[mq]
     ·exact ak j (by omega)
    ·simp[bR,cM,cQ,a2,a9,go,mq,aP,bY,a3];refine l7 dV (.cons m6 (.cons (.same _ i6) .nil)) rfl ?_;by_cases ha:k9 (out.map (b1 g.ids.l)) o.bi.l=true
     ·rw[ha] at Dj;obtain⟨y,aJ,eL⟩:=bI (l:=g.ids.l) (k:=i) (by omega);have lp:cL (.aq 32) (aB g.ids) (.int .i64 (i:Int))=some (.bM (aY y) 0) :=by simp[aB,aJ]
      have fI:=c2 (aw.ids y eL);obtain⟨Y,fY⟩:∃ Y,Y=aY y:=⟨_,rfl⟩
      rw[<-fY] at lp fI;have agQ:a8 (rep 32 (.int .u8 0)) 0 Y=Y:=gq (by rw[fI]; rfl);obtain⟨l1,hR⟩:∃ l1,l1=aV.cells 2 [aB g.ids,bx g.ops] ::(rest++[aV.cells 1 [U.int IntKind.i64 (i:Int)],aV.cells 32 Y]) :=⟨_,rfl⟩
      have Uh:l1.length=rest.length+3:=by rw[hR]; simp
      have qv:bK 1 l1 e8 ky (out.map h3) :=by rw[hR]; exact oO.more _
      have yW:bK 32 l1 gW jQ ((out.map (b1 g.ids.l)).map aY) :=by rw[hR]; exact ke.more _
      have aiN:bK 1 l1 hZ l3 ((q8 g.ops.l.length out).map oo) :=by rw[hR]; exact uX.more _
      have sK:out=[]->e8=.aH/\gW=.aH:=fun h=>by rw[h] at y3 rW; exact⟨kZ.1 y3,kZ.1 rW⟩
      have asm:l3<rest.length+1:=by
       rcases uX.lt with h | h
       ·rw[h] at Ey; cases Ey
       ·simpa using h
      obtain⟨ky,qv,q1,cV,fy,pz⟩:∃ ky,bK 1 l1 e8 ky (out.map h3)/\1<=ky/\ky≠l3/\(out=[]\/ky≠jQ)/\(ky<rest.length+1\/l1.length<=ky) :=by
       by_cases h:out=[]
       ·have ap:=(sK h).1;rw[ap,h];exact⟨l1.length,.nil _,by omega,by omega,.inl rfl,.inr (aun _)⟩
       ·obtain⟨ad,ae,aj,aG,bh⟩:=bf.resolve_left h;refine⟨ky,qv,ad,aG,.inr aj,.inl ?_⟩;rcases oO.lt with gP | gP
        ·rw[gP] at y3;cases out with
         | nil=>exact absurd rfl h
         | cons=>cases y3
        ·simpa using gP
      obtain⟨Y9,wA,bj,aK,aU,a1,bl,bo,cu⟩:=o0 (by_:=8) qv (x:=.aq 1 (rest.length+1) 0 1 1 1) (xs:=[h3 i]) (by rw[hR]; simp[dD,h3]) (by simp[h3]) (by omega) (by omega) (by rw[lW]; simp; omega);obtain⟨dY,rfl⟩:∃ dY,bj=aV.cells 2 [aB g.ids,bx g.ops] ::dY:=Ij (by rw[bl 0 (by omega) (by omega),hR]; rfl);have KS:(aV.cells 2 [aB g.ids,bx g.ops] ::dY)[rest.length+2]? = some (.cells 32 Y) :=by rw[bl (rest.length+2) (by omega) (by omega),hR]; simp
      have dW:(aV.cells 2 [aB g.ids,bx g.ops] ::dY)[rest.length+1]? = some (.cells 1 [.int .i64 (i:Int)]) :=by rw[bl (rest.length+1) (by omega) (by omega),hR]; simp
      have iO:=aiN.frame (l':=aV.cells 2 [aB g.ids,bx g.ops] ::dY) (fun h=>bl l3 h (Ne.symm cV));rw[hR] at aK;simp[ha,lp,fI,agQ,aul,aK];refine c7.cd ?_;simp;have Tw:dY[rest.length+1]? = some (.cells 32 Y) :=by simpa using KS
      refine⟨⟨Tw,by omega,aul (by omega)⟩,?_⟩;have UZ:Y9≠.aH:=fun h=>by have:=(cu.1 h).2; cases this
      have aqr:wA<dY.length+1:=by have:=aU.lt.resolve_left UZ; simpa using this
      have Lm:1<=wA/\wA≠l3:=by rcases bo with h | h<;>omega
      obtain⟨jQ,yW,t1,t2,t3,t4⟩:∃ jQ,bK 32 (aV.cells 2 [aB g.ids,bx g.ops] ::dY) gW jQ ((out.map (b1 g.ids.l)).map aY)/\1<=jQ/\jQ≠l3/\jQ≠wA/\(jQ<dY.length+1\/dY.length+1<=jQ) :=by
       by_cases h:out=[]
       ·have ap:=(sK h).2;rw[ap,h];simp at a1;exact⟨dY.length+1,.nil _,by omega,by omega,by omega,.inr (aun _)⟩
       ·obtain⟨ad,ae,aj,aG,bh⟩:=bf.resolve_left h;have bF:jQ<rest.length+1:=by
         rcases ke.lt with gP | gP
         ·rw[gP] at rW;cases out with
          | nil=>exact absurd rfl h
          | cons=>cases rW
         ·simpa using gP
        have dz:=fy.resolve_left h;refine⟨jQ,yW.frame (fun h=>bl jQ h (Ne.symm dz)),ae,bh,by rcases bo with h | h<;>omega,.inl (by simp at a1; omega)⟩
      obtain⟨Za,wB,eY,f1,f2,f3,f4,f5,f6⟩:=o0 (by_:=32) yW (x:=.aq 32 (rest.length+1+1) 0 1 1 32) (xs:=[Y]) (by simp[dD,fI,Tw,aul]) (by simp[fI]) (by omega) (by omega) (by rw[lW]; simp; omega);obtain⟨nX,rfl⟩:∃ nX,eY=aV.cells 2 [aB g.ids,bx g.ops] ::nX:=Ij (by rw[f4 0 (by simp) (by omega)]; rfl);have U0:Za≠.aH:=fun h=>by have:=(f6.1 h).2; cases this
      have aqs:wB<nX.length+1:=by have:=f2.lt.resolve_left U0; simpa using this
      have cO:=aU.frame (l':=aV.cells 2 [aB g.ids,bx g.ops] ::nX) (fun h=>f4 wA h (Ne.symm t3));have BO:=iO.frame (l':=aV.cells 2 [aB g.ids,bx g.ops] ::nX) (fun h=>f4 l3 h (Ne.symm t2));obtain⟨p,po,BK,BL,am0,atZ,OG⟩:=WP (k:=i) (x:=true) (X:=.bool true) (enc:=oo) rfl BO (fun _ _=>rfl) (by rw[Cv]; exact cQ) rfl;simp[f1];refine c7.cd ?_;simp[BK,BL];have Kp:wB=jQ\/dY.length+1<=wB:=by simpa using f5
      have apS:rest.length+3<=dY.length+1:=by rw[Uh] at a1; simpa using a1
      have gw:1<=wB:=by rcases Kp with h | h<;>omega
      have fV:wB≠l3:=by rcases Kp with h | h<;>omega
      have tw:wA≠wB:=by rcases Kp with h | h<;>omega
      obtain⟨wX,rfl⟩:∃ wX,po=aV.cells 2 [aB g.ids,bx g.ops] ::wX:=Ij (by rw[OG 0 (by omega)]; rfl);have kv:kb g.ids.l g.ops.l out=some i:=ajy cQ (by rw[Dj]; simp[mq]) ak;have sH:gg g.ids.l g.ops.l (k+1)=out++[i] :=by rw[EI (by rw[<-kw]; exact kv),<-kw]
      have aL:k<g.ops.l.length:=by
       have gP:=(EH g.ids.l g.ops.l al ai (k+1)).1;rw[sH] at gP;have:=u9 (b:=List.range g.ops.l.length) gP (fun x af=>auZ.2 (by
        rw[avi,avk] at af;rcases af with af | rfl
        ·exact (wb x af).1
        ·exact cQ))
       simp at this; omega
      have e3:(out++[i]).map h3=out.map h3++[h3 i] :=by simp
      have nz:((out++[i]).map (b1 g.ids.l)).map aY=(out.map (b1 g.ids.l)).map aY++[Y] :=by
       have afm:b1 g.ids.l i=y:=gi aJ;rw[auH,auH,List.map_singleton,List.map_singleton,afm,fY]
      refine⟨g.ops.l.length - (k+1)+1,by omega,k+1,wX,rfl,?_,by rw[sH]; simp[ar],rfl⟩;rw[sH];refine⟨⟨wA,wB,l3,?_,?_,?_,bh,Ey,?_,?_,.inr ⟨Lm.1,gw,tw,Lm.2,fV⟩⟩⟩
      ·rw[e3]; exact cO.frame (fun h=>OG wA Lm.2)
      ·rw[nz]; exact f2.frame (fun h=>OG wB fV)
      ·rw[<-ab4 cQ]; exact am0
      ·cases ap:cF Y9 with
       | true=>exact absurd (kZ.1 ap) UZ
       | false=>simp
      ·cases ap:cF Za with
       | true=>exact absurd (kZ.1 ap) U0
       | false=>simp
     ·rw[awt] at ha;rw[ha] at Dj;simp[ha,cQ,aP];refine⟨rfl,fun j ai=>?_⟩;by_cases jL:j=i
      ·subst jL; rw[Dj]; simp
      ·exact ak j (by omega)
   ·have aqq:i=g.ops.l.length:=by omega
    simp[bR,cM,cQ];have cR:kb g.ids.l g.ops.l out=none:=ajz fun j ai=>ak j (by omega)
    refine⟨0,by omega,k,by rw[<-kw]; exact nE,by rw[<-kw]; exact cR,by omega,rfl⟩
  ·obtain⟨σ,rfl⟩:=lC aK a1 bl bo cu;clear aK a1 bl bo cu;simp;obtain⟨ky,jQ,l3,oO,ke,uX,bh,Ey,y3,rW,bf⟩:=nE;have b5:pt g.ids.l g.ops.l=out:=by
    unfold pt;have:=No (k:=k) (by rw[<-kw]; exact cR) (g.ops.l.length - k);rw[show k+(g.ops.l.length - k)=g.ops.l.length by omega,<-kw] at this;exact this
   rw[b5];exact oO.q.u5 (fun x=>rfl) (dm out) (by rw[y3,qI]) (ec _)
 ·refine⟨0,_,rfl,by simp,?_,.inl ⟨by simp,rfl,rfl⟩⟩;simp;refine⟨⟨0,0,1,.nil 0,.nil 0,?_,by omega,rfl,rfl,rfl,.inl rfl⟩⟩;show bK _ _ _ _ ((q8 g.ops.l.length []).map oo);have:(q8 g.ops.l.length []).map oo=List.replicate g.ops.l.length [U.bool false] :=by rw[ab3,awE]; rfl
  rw[this];exact ku
def uZ (ids:List (List B)) (ops:List br) :Bool:=decide (∀ o∈ops,k9 ids o.bi.l=true)
def mF (ids:List (List B)) (ops:List br) :Int:=if di ids=true then (if uZ ids ops=true then (if (pt ids ops).length=ops.length then 0 else 36) else 40) else 32
theorem akX (g:bp) (aw:gn g) (al:g.ids.l.length=g.ops.l.length) :bz Tryz.prog GS 132 [cH g] (.int .i64 (mF g.ids.l g.ops.l)) :=by
 refine bX Tryz.checked.mixed bn ?_;apply bq Tryz.func132 [[],[[0],[3],[4],[5],[1,4],[2]]];have fj:=dd g.ids;have dJ:=jE g.ops;have ln:=su g;have cM:ce (.aq 11) (bx g.ops)=some (.int .i64 g.ops.l.length) :=by simp[bx]
 have bC:=aw.cJ;have yJ:=Xv g.ids aw.ids aw.li;simp[cH,bR,cM];refine a4 yJ (by simp[a5,fj]) ?_;by_cases az:di g.ids.l=true
 ·have ai:=qs az;have kS:=akQ g aw al ai;unfold cH bR at kS ln;simp[az];refine cl g.ops.l.length (fun k σ l=>l=[.cells 2 [aB g.ids,bx g.ops]]/\σ 1=.ptr 0 0 2/\σ 3=.int .i64 k/\∀ (j:Nat) (o:br),j<k->g.ops.l[j]? = some o->k9 g.ids.l o.bi.l=true) ?_ (by simp);rintro k σ l ar ⟨rfl,aK,a1,ak⟩;obtain⟨σ,rfl⟩:=pG aK a1;clear aK a1;by_cases bv:k<g.ops.l.length
  ·obtain⟨o,au,en⟩:=bI bv;have aP:IntKind.i64.wrap ((k:Int)+1)=((k+1:Nat) :Int) :=by rw[IntKind.wrap_i64]; omega
   have bY:cL (.aq 11) (bx g.ops) (.int .i64 (k:Int))=some (.bM (a3 o) 0) :=by simp[bx,au]
   have dV:=NG g.ids aw.ids aw.li o.bi (aw.ops o en).ids (aw.ops o en).len;have i6:=dd o.bi;simp[cM,bv,bY,a3];refine a4 dV (by simp[a5,fj,i6]) ?_;by_cases ha:k9 g.ids.l o.bi.l=true
   ·simp[ha,bv,aP];intro j dw eD dE;by_cases gR:j=k
    ·subst gR; rw[au] at dE; obtain rfl:=Option.some.inj dE; exact ha
    ·exact ak j dw (by omega) dE
   ·rw[awt] at ha;simp[ha];refine aQ (congrArg (U.int .i64) ?_) rfl;have cR:¬ uZ g.ids.l g.ops.l=true:=fun h=>by
     have:=of_decide_eq_true h o en;rw[ha] at this; cases this
    unfold mF;rw[if_pos az,if_neg cR]
  ·have lU:k=g.ops.l.length:=by omega
   have iK:uZ g.ids.l g.ops.l=true:=decide_eq_true fun o en=>by
    obtain⟨j,eD⟩:=aur.1 en;exact ak j o (by rw[lU]; exact (auk.1 eD).1) eD
   have dO:(pt g.ids.l g.ops.l).length<=g.ops.l.length:=(EH g.ids.l g.ops.l al ai _).2.1;have yw:ce (.aq 1) (Ki (dm (pt g.ids.l g.ops.l)))=some (.int .i64 (pt g.ids.l g.ops.l).length) :=by unfold Ki; rw[s5,ec]
   simp[cM,bv];refine a4 kS (by simp[a5,ln]) ?_;by_cases aL:(pt g.ids.l g.ops.l).length<g.ops.l.length
   ·simp[cM,yw,aL];refine aQ (congrArg (U.int .i64) ?_) rfl;unfold mF;rw[if_pos az,if_pos iK,if_neg (by omega)]
   ·simp[cM,yw,aL];refine aQ (congrArg (U.int .i64) ?_) rfl;unfold mF;rw[if_pos az,if_pos iK,if_pos (by omega)]
 ·rw[awt] at az;simp[az];refine aQ (congrArg (U.int .i64) ?_) rfl;unfold mF;rw[az]; rfl
def mX (g:bp) (k:Nat) :Bool:=match g.ops.l[k]?,g.ids.l[k]? with
 | some o,some x=>decide (sa o=0)&&decide (m8 o=x)
 | _,_=>true
def x5 (g:bp) :Bool:=decide (∀ k,k<g.ops.l.length->mX g k=true)
theorem x6 (g:bp) :x5 g=true<->∀ k,k<g.ops.l.length->mX g k=true:=by unfold x5; rw[decide_eq_true_eq]
def gp (g:bp) :Int:=if 60<g.ops.l.length then 4 else if g.ids.l.length=g.ops.l.length then (if x5 g=true then mF g.ids.l g.ops.l else 8) else 8
theorem CV {g:bp} {k:Nat} {o:br} {x:List B} (au:g.ops.l[k]? = some o) (af:g.ids.l[k]? = some x) :mX g k=(decide (sa o=0)&&decide (m8 o=x)) :=by
 unfold mX; rw[au,af]
theorem I5 {o:br} (h:sa o=0) :hw o=0:=by
 unfold sa at h;by_cases aI:hw o=0
 ·exact aI
 ·rw[if_neg aI] at h; exact h
theorem Mq (o:br) :(m8 o).length=32:=by
 unfold m8;split
 ·exact xb _
 ·simp
set_option maxHeartbeats 4000000 in
theorem akF (g:bp) (aw:gn g) :bz Tryz.prog GS 91 [cH g] (.int .i64 (gp g)) :=by
 refine bX Tryz.checked.mixed bn ?_;apply bq Tryz.func91 [[[0],[1],[2],[3],[4],[5],[6],[7],[8],[9],[10],[11],[12],[14],[15],[16],[17],[18],[13,18,15]]];have fj:=dd g.ids;have dJ:=jE g.ops;have ln:=su g;have cM:ce (.aq 11) (bx g.ops)=some (.int .i64 g.ops.l.length) :=by simp[bx]
 have dp:ce (.aq 32) (aB g.ids)=some (.int .i64 g.ids.l.length) :=by simp[aB]
 have bC:=aw.cJ;by_cases o9:60<(g.ops.l.length:Int)
 ·simp[cH,bR,cM,o9];refine aQ (congrArg (U.int .i64) ?_) rfl;unfold gp; rw[if_pos (by omega)]
 by_cases al:g.ids.l.length=g.ops.l.length
 ·have pj:=akX g aw al;unfold cH bR at pj ln;have dt:(g.ids.l.length:Int)=(g.ops.l.length:Int) :=by omega
  simp[cH,bR,cM,dp,o9,dt];refine cl g.ops.l.length (fun k σ l=>l=[.cells 2 [aB g.ids,bx g.ops]]/\σ 1=.ptr 0 0 2/\σ 3=.int .i64 k/\∀ j,j<k->mX g j=true) ?_ (by simp);rintro k σ l ar ⟨rfl,aK,a1,ak⟩;obtain⟨σ,rfl⟩:=pG aK a1;clear aK a1;by_cases bv:k<g.ops.l.length
  ·obtain⟨o,au,en⟩:=bI bv;obtain⟨x,af,cT⟩:=bI (l:=g.ids.l) (k:=k) (by omega);have lo:=CV au af;have aP:IntKind.i64.wrap ((k:Int)+1)=((k+1:Nat) :Int) :=by rw[IntKind.wrap_i64]; omega
   have bY:cL (.aq 11) (bx g.ops) (.int .i64 (k:Int))=some (.bM (a3 o) 0) :=by simp[bx,au]
   have yn:cL (.aq 32) (aB g.ids) (.int .i64 (k:Int))=some (.bM (aY x) 0) :=by simp[aB,af]
   have ap:=ak6 o (aw.ops o en);have oy:=kM o;have bd:=c2 (aw.ids x cT);have cS:(a3 o).length=11:=rfl;have ik:¬ mX g k=true->gp g=8:=fun h=>by
    unfold gp;rw[if_neg (by omega),if_pos al,if_neg fun aS=>h ((x6 g).1 aS k bv)]
   by_cases oF:sa o=0
   ·have aI:=I5 oF;have uA:=akO o (aw.ops o en) (by have:=y6 aI; omega);have kt:m8 o=iU (iR o) :=by unfold m8; rw[if_pos aI]
    rw[<-kt] at uA;have heq:=wy (Mq o) (aw.ids x cT);change bz Tryz.prog GS 131 [.aF (a3 o)] (.aF (aY (m8 o))) at uA;obtain⟨I,nE⟩:∃ I,I=aY (m8 o) :=⟨_,rfl⟩
    rw[<-nE] at uA heq;rw[oF] at ap;obtain⟨O,eu⟩:∃ O,O=a3 o:=⟨_,rfl⟩
    obtain⟨X,cn⟩:∃ X,X=aY x:=⟨_,rfl⟩
    rw[<-eu] at bY ap uA oy cS;rw[<-cn] at yn bd heq;simp[cM,bv,bY,cS,aul];refine a4 ap (by simp[a5,U.closed,oy]) ?_;simp[cS,yn,bd,bY,aul];refine a4 uA (by simp[a5,U.closed,oy]) ?_;by_cases ds:m8 o=x
    ·simp[heq,ds,bv,aP,bd,aul];intro j ai;by_cases gR:j=k
     ·subst gR; rw[lo]; simp[oF,ds]
     ·exact ak j (by omega)
    ·have ag:¬ mX g k=true:=fun h=>by rw[lo] at h; simp[ds] at h
     simp[heq,ds,bd,aul];exact aQ (congrArg (U.int .i64) (ik ag).symm) rfl
   ·have ag:¬ mX g k=true:=fun h=>by rw[lo] at h; simp[oF] at h
    simp[cM,bv,bY,cS,aul];refine a4 ap (by simp[a5,U.closed,oy]) ?_;simp[oF];exact aQ (congrArg (U.int .i64) (ik ag).symm) rfl
  ·have lU:k=g.ops.l.length:=by omega
   simp[cM,bv];refine a4 pj (by simp[a5,ln]) ?_;simp;refine aQ (congrArg (U.int .i64) ?_) rfl;unfold gp;rw[if_neg (by omega),if_pos al,if_pos ((x6 g).2 fun j ai=>ak j (by omega))]
 ·have dt:¬ (g.ids.l.length:Int)=(g.ops.l.length:Int) :=by omega
  simp[cH,bR,cM,dp,o9,dt];refine aQ (congrArg (U.int .i64) ?_) rfl;unfold gp; rw[if_neg (by omega),if_neg al]
def pf (ids:List (List B)) (D:List Nat) (p:List B) :Nat:=(D.map fun a=>if p == b1 ids a then 1 else 0).sum
def ju (ids:List (List B)) (D:List Nat) (L:List (List B)) :Nat:=(D.map fun a=>L.count (b1 ids a)).sum
theorem amt (ids:List (List B)) (D:List Nat) :ju ids D []=0:=by
 unfold ju
 induction D with
 | nil=>rfl
 | cons a D aR=>rw[auL,awg,aR]; rfl
theorem YK (ids:List (List B)) (p:List B) (L:List (List B)) :∀ D,ju ids D (p::L)=ju ids D L+pf ids D p
 | []=>rfl
 | a::D=>by
  have aR:=YK ids p L D;unfold ju pf at aR ⊢;rw[auL,awg,auL,awg,auL,awg,aR,List.count_cons];omega
theorem Oo (ids:List (List B)) (D:List Nat) (a:Nat) (L:List (List B)) :ju ids (D++[a]) L=ju ids D L+L.count (b1 ids a) :=by
 unfold ju; rw[auH,List.sum_append]; simp
theorem PI {ids:List (List B)} (ai:mJ ids) {i j:Nat} (ay:i<ids.length) (eK:j<ids.length) (h:b1 ids i=b1 ids j) :i=j:=by
 obtain⟨x,af,_⟩:=bI ay;obtain⟨y,aJ,_⟩:=bI eK;rw[gi af,gi aJ] at h;subst h;exact ai i j x af aJ
theorem Ua {ids:List (List B)} {p:List B}:∀ {D:List Nat},(∀ a∈D,b1 ids a≠p)->pf ids D p=0
 | [],_=>rfl
 | a::D,h=>by
  have aR:=Ua (ids:=ids) (p:=p) (D:=D) fun b ag=>h b (by simp[ag])
  have aC:(p == b1 ids a)=false:=by rw[beq_eq_false_iff_ne]; exact Ne.symm (h a (by simp))
  unfold pf at aR ⊢;rw[auL,awg,aR,aC]; rfl
theorem T9 {ids:List (List B)} (ai:mJ ids) {p:List B}:∀ {D:List Nat},D.Nodup->(∀ a∈D,a<ids.length)->pf ids D p<=1/\(pf ids D p=1<->∃ a∈D,b1 ids a=p)
 | [],_,_=>⟨avu _,Iff.intro (fun h=>(by cases h)) (fun ⟨a,aC,_⟩=>(by cases aC))⟩
 | a::D,aD,ag=>by
  rw[awR] at aD;obtain⟨cU,dX⟩:=T9 (p:=p) ai aD.2 (fun b bO=>ag b (by simp[bO]));by_cases h:b1 ids a=p
  ·have ax:pf ids D p=0:=Ua fun b TD GM=>aD.1 (by rw[PI ai (ag a (by simp)) (ag b (by simp[TD])) (h.trans GM.symm)]; exact TD)
   have aC:(p == b1 ids a)=true:=by rw[h]; simp
   have e:pf ids (a::D) p=1:=by
    unfold pf at ax ⊢;rw[auL,awg,ax,aC]; rfl
   rw[e];exact⟨aun _,fun _=>⟨a,by simp,h⟩,fun _=>rfl⟩
  ·have aC:(p == b1 ids a)=false:=by rw[beq_eq_false_iff_ne]; exact Ne.symm h
   have e:pf ids (a::D) p=pf ids D p:=by
    unfold pf;rw[auL,awg,aC]; simp
   rw[e];refine⟨cU,dX.trans ⟨fun ⟨b,fZ,dW⟩=>⟨b,by simp[fZ],dW⟩,fun ⟨b,fZ,dW⟩=>?_⟩⟩;rw[avn] at fZ;rcases fZ with rfl | fZ
   ·exact absurd dW h
   ·exact⟨b,fZ,dW⟩
theorem Oq {ids:List (List B)} (ai:mJ ids) {D:List Nat} (aD:D.Nodup) (ag:∀ a∈D,a<ids.length) :∀ L:List (List B),ju ids D L<=L.length/\(ju ids D L=L.length<->∀ p∈L,∃ a∈D,b1 ids a=p)
 | []=>by rw[amt]; exact⟨aun _,Iff.intro (fun _ p av=>by cases av) (fun _=>rfl)⟩
 | p::L=>by
  obtain⟨cU,dX⟩:=Oq ai aD ag L;obtain⟨ad,ae⟩:=T9 (p:=p) ai aD ag;rw[YK,auF];refine⟨by omega,fun h=>?_,fun h=>?_⟩
  ·have aP:ju ids D L=L.length:=by omega
   have bw:pf ids D p=1:=by omega
   intro q a7;rw[avn] at a7;rcases a7 with rfl | a7
   ·exact ae.1 bw
   ·exact dX.1 aP q a7
  ·have aP:=dX.2 fun q a7=>h q (by simp[a7])
   have bw:=ae.2 (h p (by simp));omega
structure Jl (ids:List (List B)) (ops:List br) (cr:List (List Nat)) :Prop where
 len:cr.length=ops.length
 cnt:∀ (a:Nat) (row:List Nat),cr[a]? = some row->∀ k,k<ops.length->row.count k=(eO ops k).count (b1 ids a)
 lt:∀ (a:Nat) (row:List Nat),cr[a]? = some row->∀ k∈row,k<ops.length
structure sj (ids:List (List B)) (ops:List br) (row:List Nat) (d j:Nat) (R:List Nat) (W:List Int) :Prop where
 nU:R.Nodup
 o7:∀ k∈R,k<ops.length/\pN ids ops k
 dl:d<=R.length
 wl:W.length=ops.length
 w:∀ k,k<ops.length->W[k]? = some (((eO ops k).length:Int) - ju ids (R.take d) (eO ops k) - (row.take j).count k)
 r:∀ k,k<ops.length->(k∈R<->W[k]? = some 0)
theorem ail {ids:List (List B)} {ops:List br} (al:ids.length=ops.length) (ai:mJ ids) {cr:List (List Nat)} (ag:Jl ids ops cr) {a:Nat} {row:List Nat} {d j:Nat} {R:List Nat} {W:List Int}
  (h:sj ids ops row d j R W) (aC:R[d]? = some a) (cA:cr[a]? = some row) {k:Nat} (ar:row[j]? = some k) :
  ∃ x:Int,W[k]? = some x/\1<=x/\x<=(eO ops k).length/\sj ids ops row d (j+1) (if x - 1=0 then R++[k] else R) (W.set k (x - 1)) :=by
 have dK:=ag.lt a row cA k (aut ar);have GR:=ag.cnt a row cA k dK;have iJ:=(auk.1 aC).1;have ls:R.take (d+1)=R.take d++[a] :=by rw[auP,aC]; rfl
 have afT:(R.take (d+1)).Nodup:=List.Sublist.nodup (awH _ _) h.nU;have qg:∀ b∈R.take (d+1),b<ids.length:=fun b bO=>by have:=(h.o7 b (auG bO)).1; omega
 obtain⟨cY,hX⟩:=Oq ai afT qg (eO ops k);rw[ls,Oo,<-GR] at cY;have mZ:(row.take (j+1)).count k=(row.take j).count k+1:=by
  rw[auP,ar,awo]; simp
 have ml:(row.take (j+1)).count k<=row.count k:=List.Sublist.count_le _ (awH _ _);have aX:=h.w k dK;obtain⟨x,af⟩:∃ x:Int,x=((eO ops k).length:Int) - ju ids (R.take d) (eO ops k) - (row.take j).count k:=⟨_,rfl⟩
 rw[<-af] at aX;have AW:1<=x:=by omega
 have Uf:k∉R:=fun hm=>by
  have:=(h.r k dK).1 hm;rw[aX] at this;have:=Option.some.inj this;omega
 refine⟨x,aX,AW,by omega,?_⟩;have Ug:k<W.length:=by rw[h.wl]; exact dK
 have DV:(if x - 1=0 then R++[k] else R).take d=R.take d:=by
  split
  ·rw[auT (by omega)]
  ·rfl
 have yB:x - 1=0->pN ids ops k:=fun aI=>by
  have heq:ju ids (R.take (d+1)) (eO ops k)=(eO ops k).length:=by rw[ls,Oo,<-GR]; omega
  have dV:=hX.1 heq;have fv:∀ t,t<ids.length->ids[t]? = some (b1 ids t) :=fun t aW=>by
   obtain⟨y,aJ,_⟩:=bI (l:=ids) aW;rw[aJ,gi aJ]
  refine .mk k (by omega) (fun p av=>?_) fun p av mw gQ=>?_
  ·obtain⟨t,aW,rfl⟩:=dV p av;exact aut (fv t (qg t aW))
  ·obtain⟨t,aW,rfl⟩:=dV p av;rw[ai mw t _ gQ (fv t (qg t aW))];exact (h.o7 t (auG aW)).2
 refine⟨?_,fun y aJ=>?_,?_,by simpa using h.wl,fun y aJ=>?_,fun y aJ=>?_⟩
 ·split
  ·rw[List.nodup_append];refine⟨h.nU,by simp,fun u aM v ap e=>?_⟩;rw[avk] at ap;subst e;rw[ap] at aM;exact Uf aM
  ·exact h.nU
 ·split at aJ
  ·rename_i aI;rw[avi,avk] at aJ;rcases aJ with aJ | rfl
   ·exact h.o7 y aJ
   ·exact⟨dK,yB aI⟩
  ·exact h.o7 y aJ
 ·split
  ·simp; have:=h.dl; omega
  ·exact h.dl
 ·rw[DV,avv];by_cases ys:k=y
  ·subst ys;rw[if_pos rfl,if_pos Ug,mZ];congr 1;omega
  ·rw[if_neg ys,h.w y aJ,auP,ar,awo];have:([k] :List Nat).count y=0:=by rw[awu]; simp[ys]
   simp only[Option.toList_some,this,awA]
 ·rw[avv];by_cases ys:k=y
  ·subst ys;rw[if_pos rfl,if_pos Ug];by_cases aI:x - 1=0
   ·rw[if_pos aI]; simp[aI]
   ·rw[if_neg aI];exact⟨fun hm=>absurd hm Uf,fun aS=>absurd (Option.some.inj aS) aI⟩
  ·rw[if_neg ys,<-h.r y aJ];split
   ·rw[avi,avk];exact⟨fun h=>h.resolve_right (Ne.symm ys),.inl⟩
   ·exact Iff.rfl
theorem aii {ids:List (List B)} {ops:List br} {cr:List (List Nat)} (ag:Jl ids ops cr) {a:Nat} {row u6:List Nat} {d:Nat} {R:List Nat} {W:List Int}
  (h:sj ids ops row d row.length R W) (aC:R[d]? = some a) (cA:cr[a]? = some row) :sj ids ops u6 (d+1) 0 R W:=by
 have ls:R.take (d+1)=R.take d++[a] :=by rw[auP,aC]; rfl
 refine⟨h.nU,h.o7,(auk.1 aC).1,h.wl,fun k ar=>?_,h.r⟩;rw[h.w k ar,ls,Oo,auU,ag.cnt a row cA k ar,avG,List.count_nil];congr 1;omega
theorem aij {ids:List (List B)} {ops:List br} {row u6:List Nat} {d:Nat} {R:List Nat} {W:List Int} (h:sj ids ops row d 0 R W) :sj ids ops u6 d 0 R W:=
 ⟨h.nU,h.o7,h.dl,h.wl,fun k ar=>by rw[h.w k ar,avG,avG],h.r⟩
theorem aik {ids:List (List B)} {ops:List br} (al:ids.length=ops.length) :sj ids ops [] 0 0 ((List.range ops.length).filter fun k=>(eO ops k).isEmpty) ((List.range ops.length).map fun k=>((eO ops k).length:Int)) :=by
 refine⟨List.Sublist.nodup awW axi,fun k ar=>?_,avu _,by simp,fun k ar=>?_,fun k ar=>?_⟩
 ·rw[ave,auZ] at ar;have aI:eO ops k=[] :=List.isEmpty_iff.1 ar.2;exact⟨ar.1,.mk k (by omega) (fun p av=>by rw[aI] at av; cases av) fun p av=>by rw[aI] at av; cases av⟩
 ·rw[auq,auX ar];simp[ju]
 ·rw[ave,auZ,auq,auX ar];simp only[auv,Option.some.injEq,ar,true_and,List.isEmpty_iff];constructor
  ·intro h; rw[h]; rfl
  ·intro h; exact au4.1 (by omega)
theorem aih {ids:List (List B)} {ops:List br} (al:ids.length=ops.length) (ai:mJ ids) {row:List Nat} {R:List Nat} {W:List Int} (h:sj ids ops row R.length 0 R W) :
  R.length<=ops.length/\(R.length=ops.length<->(pt ids ops).length=ops.length) :=by
 have dO:R.length<=ops.length:=by
  have:=u9 (b:=List.range ops.length) h.nU fun x af=>auZ.2 (h.o7 x af).1
  simpa using this
 refine⟨dO,?_⟩;rw[Np al ai];constructor
 ·intro am i ay;exact (h.o7 i (Wv h.nU am (fun i ay=>(h.o7 i ay).1) i ay)).2
 ·intro dV;have cQ:∀ i,pN ids ops i->i<ops.length->i∈R:=by
   intro i aw
   induction aw with
   | mk i ay av aw aR=>
    intro aL;rw[h.r i aL,h.w i aL,auU];have Gy:=(Oq ai h.nU (fun a aC=>by have:=(h.o7 a aC).1; omega) (eO ops i)).2.2 fun p yH=>by
     obtain⟨b7,eD⟩:=aur.1 (av p yH);exact⟨b7,aR p yH b7 eD (by have:=(auk.1 eD).1; omega),gi eD⟩
    rw[Gy];simp
  have:=u9 (a:=List.range ops.length) (b:=R) axi fun i ay=>cQ i (dV i (auZ.1 ay)) (auZ.1 ay)
  simp at this;omega
structure lE (l:ao) (vs:List U) (cr:List (List Nat)) (bm:Nat->Nat) :Prop where
 qO:vs.length=cr.length
 own:∀ (a:Nat) (v:U) (row:List Nat),vs[a]? = some v->cr[a]? = some row->bK 1 l v (bm a) (row.map h3)/\cF v=row.isEmpty/\(row=[]\/3<=bm a)
 apart:∀ (a b:Nat) (mC nY:List Nat),a≠b->cr[a]? = some mC->cr[b]? = some nY->mC≠[]->nY≠[]->bm a≠bm b
def oW (cr:List (List Nat)) (bm:Nat->Nat) (b:Nat) :Prop:=∀ (a:Nat) (row:List Nat),cr[a]? = some row->row≠[]->bm a≠b
theorem lE.lt {l:ao} {vs:List U} {cr:List (List Nat)} {bm:Nat->Nat} (h:lE l vs cr bm) {a:Nat} {row:List Nat} (az:cr[a]? = some row) (bP:row≠[]) :bm a<l.length:=by
 have aC:a<vs.length:=by rw[h.qO]; exact (auk.1 az).1
 obtain⟨o,n,_⟩:=h.own a vs[a] row (auo aC) az;rcases o.lt with ad | ad
 ·rw[ad] at n;cases row with
  | nil=>exact absurd rfl bP
  | cons=>cases n
 ·exact ad
theorem lE.frame {l l' : ao} {vs:List U} {cr:List (List Nat)} {bm:Nat->Nat} (h:lE l vs cr bm) (aE:∀ b,b<l.length->(∃ a row,cr[a]? = some row/\row≠[]/\bm a=b)->l'[b]? = l[b]?) :lE l' vs cr bm:=by
 refine⟨h.qO,fun a v row ap az=>?_,h.apart⟩;obtain⟨o,n,t⟩:=h.own a v row ap az;refine⟨?_,n,t⟩;by_cases bP:row=[]
 ·subst bP;have:=kZ.1 n;subst this;exact .nil _
 ·exact o.frame fun al=>aE _ al ⟨a,row,az,bP,rfl⟩
theorem lE.more {l:ao} {vs:List U} {cr:List (List Nat)} {bm:Nat->Nat} (h:lE l vs cr bm) (x:ao) :lE (l++x) vs cr bm:=h.frame fun b ag _=>aum ag
theorem lE.app {l:ao} {vs:List U} {cr:List (List Nat)} {bm:Nat->Nat} (h:lE l vs cr bm) {a k b:Nat} {v:U} {row:List Nat} (ap:vs[a]? = some v) (az:cr[a]? = some row) (ag:l[b]? = some (.cells 1 [.int .i64 (k:Int)])) (aj:3<=l.length) (dL:(row.length+1)*8<=cw) :
  ∃ a6 l' Eh,gX l 1 8 v (.aq 1 b 0 1 1 1)=some (a6,l')/\lE l' (vs.set a a6) (cr.set a (row++[k])) Eh/\l.length<=l'.length/\a6.cells=some [a6] ∧
   ∀ c,c<l.length->oW cr bm c->l'[c]? = l[c]?/\oW (cr.set a (row++[k])) Eh c:=by
 obtain⟨o,n,t⟩:=h.own a v row ap az;have hb:a<cr.length:=(auk.1 az).1;obtain⟨j,WC,ky,MJ,Vn⟩:∃ j,bK 1 l v j (row.map h3)/\3<=j/\(∀ dj u6,dj≠a->cr[dj]? = some u6->u6≠[]->bm dj≠j)/\∀ c,c<l.length->oW cr bm c->j≠c:=by
  by_cases bP:row=[]
  ·subst bP;have:=kZ.1 n;subst this;exact⟨l.length,.nil _,aj,fun dj u6 _ ph ry=>by have:=h.lt ph ry; omega,fun c ah _=>by omega⟩
  ·exact⟨bm a,o,t.resolve_left bP,fun dj u6 Uv ph ry=>h.apart dj a u6 row Uv ph az ry bP,fun c _ au=>au a row az bP⟩
 obtain⟨a6,b7,l',aK,aU,a1,bl,bo,cu⟩:=o0 (by_:=8) WC (x:=.aq 1 b 0 1 1 1) (xs:=[h3 k]) (by simp[dD,ag,h3]) (by simp[h3]) (by omega) (by omega) (by simpa using dL);have fw:cF a6=false:=by
  cases aS:cF a6 with
  | true=>have:=(cu.1 (kZ.1 aS)).2; cases this
  | false=>rfl
 refine⟨a6,l',fun x=>if x=a then b7 else bm x,aK,⟨by simp[h.qO],fun x w N2 aX ph=>?_,fun x y w4 X8 l0 af aJ kv LF=>?_⟩,a1,aU.cells,fun c ah au=>⟨bl c ah (fun e=>Vn c ah au e.symm),fun x w4 af kv=>?_⟩⟩
 ·by_cases kW:x=a
  ·subst kW;rw[auz (by rw[h.qO]; exact hb)] at aX;rw[auz hb] at ph;obtain rfl:=Option.some.inj aX;obtain rfl:=Option.some.inj ph;simp only[if_true];refine⟨by rw[auH]; exact aU,by rw[fw]; simp,.inr ?_⟩;rcases bo with e | e<;>omega
  ·rw[auy (Ne.symm kW)] at aX ph;simp only[if_neg kW];obtain⟨dw,hH,gK⟩:=h.own x w N2 aX ph;refine⟨?_,hH,gK⟩;by_cases bP:N2=[]
   ·subst bP;have:=kZ.1 hH;subst this;exact .nil _
   ·exact dw.frame fun al=>bl _ al (MJ x N2 kW ph bP)
 ·by_cases kW:x=a
  ·subst kW;rw[auy l0] at aJ;simp only[if_true,if_neg (Ne.symm l0)];have:=h.lt aJ LF;have:=MJ y X8 (Ne.symm l0) aJ LF;rcases bo with e | e<;>omega
  ·rw[auy (Ne.symm kW)] at af;simp only[if_neg kW];by_cases Mi:y=a
   ·subst Mi;simp only[if_true];have:=h.lt af kv;have:=MJ x w4 kW af kv;rcases bo with e | e<;>omega
   ·rw[auy (Ne.symm Mi)] at aJ;simp only[if_neg Mi];exact h.apart x y w4 X8 l0 af aJ kv LF
 ·by_cases kW:x=a
  ·subst kW;simp only[if_true];have:=Vn c ah au;rcases bo with e | e<;>omega
  ·rw[auy (Ne.symm kW)] at af;simp only[if_neg kW];exact au x w4 af kv
def xS (ids:List (List B)) (ops:List br) (m q a k:Nat) :Nat:=if k<m then (eO ops k).count (b1 ids a) else if k=m then ((eO ops m).take q).count (b1 ids a) else 0
structure vl (ids:List (List B)) (ops:List br) (m q:Nat) (cr:List (List Nat)) :Prop where
 len:cr.length=ops.length
 cnt:∀ (a:Nat) (row:List Nat),cr[a]? = some row->∀ k,row.count k=xS ids ops m q a k
 EX:∀ (a:Nat) (row:List Nat),cr[a]? = some row->row.length<=5*m+q
theorem akj (ids:List (List B)) (ops:List br) :vl ids ops 0 0 (List.replicate ops.length []) :=by
 refine⟨by simp,fun a row h k=>?_,fun a row h=>?_⟩
 ·have:=avK (aut h);subst this;simp[xS]
 ·have:=avK (aut h);subst this;simp
theorem akk {ids:List (List B)} {ops:List br} (ai:mJ ids) (al:ids.length=ops.length) {m q a:Nat} {cr:List (List Nat)} {row:List Nat} {p:List B} (h:vl ids ops m q cr) (av:(eO ops m)[q]? = some p) (aC:ids[a]? = some p) (az:cr[a]? = some row) :
  vl ids ops m (q+1) (cr.set a (row++[m])) :=by
 have hb:=(auk.1 az).1;have v9:=(auk.1 aC).1;have ls:(eO ops m).take (q+1)=(eO ops m).take q++[p] :=by rw[auP,av]; rfl
 refine⟨by simp[h.len],fun x w4 af k=>?_,fun x w4 af=>?_⟩
 ·by_cases kW:x=a
  ·subst kW;rw[auz hb] at af;obtain rfl:=Option.some.inj af;rw[awo,h.cnt x row az k];unfold xS;by_cases ad:k<m
   ·rw[if_pos ad,if_pos ad,awu];have:(m == k)=false:=by rw[beq_eq_false_iff_ne]; omega
    simp[this]
   ·rw[if_neg ad,if_neg ad];by_cases ae:k=m
    ·subst ae;rw[if_pos rfl,if_pos rfl,ls,awo,gi aC]; simp
    ·rw[if_neg ae,if_neg ae,awu];have:(m == k)=false:=by rw[beq_eq_false_iff_ne]; omega
     simp[this]
  ·rw[auy (Ne.symm kW)] at af;rw[h.cnt x w4 af k];unfold xS;by_cases ad:k<m
   ·rw[if_pos ad,if_pos ad]
   ·rw[if_neg ad,if_neg ad];by_cases ae:k=m
    ·subst ae;rw[if_pos rfl,if_pos rfl,ls,awo,awu];have bd:x<ids.length:=by rw[al,<-h.len]; exact (auk.1 af).1
     have:(p == b1 ids x)=false:=by
      rw[beq_eq_false_iff_ne];intro e;rw[<-gi aC] at e;exact kW (PI ai v9 bd e).symm
     rw[this]; simp
    ·rw[if_neg ae,if_neg ae]
 ·by_cases kW:x=a
  ·subst kW;rw[auz hb] at af;obtain rfl:=Option.some.inj af;have:=h.EX x row az;simp; omega
  ·rw[auy (Ne.symm kW)] at af;have:=h.EX x w4 af;omega
theorem aki {ids:List (List B)} {ops:List br} {m:Nat} {cr:List (List Nat)} (h:vl ids ops m (eO ops m).length cr) (aG:(eO ops m).length<=4) :vl ids ops (m+1) 0 cr:=by
 refine⟨h.len,fun a row az k=>?_,fun a row az=>by have:=h.EX a row az; omega⟩;rw[h.cnt a row az k];unfold xS;by_cases ad:k<m
 ·rw[if_pos ad,if_pos (by omega)]
 ·rw[if_neg ad];by_cases ae:k=m
  ·subst ae;rw[if_pos rfl,if_pos (by omega),auU]
  ·rw[if_neg ae,if_neg (by omega)];by_cases aj:k=m+1
   ·rw[if_pos aj]; simp
   ·rw[if_neg aj]
theorem akh {ids:List (List B)} {ops:List br} {cr:List (List Nat)} (h:vl ids ops ops.length 0 cr) :Jl ids ops cr:=by
 refine⟨h.len,fun a row az k ar=>?_,fun a row az k ar=>?_⟩
 ·rw[h.cnt a row az k]; unfold xS; rw[if_pos ar]
 ·have ad:0<row.count k:=List.count_pos_iff.2 ar;rw[h.cnt a row az k] at ad;unfold xS at ad;by_cases ae:k<ops.length
  ·exact ae
  ·rw[if_neg ae] at ad;split at ad<;>simp at ad
def e9 (ops:List br) (m:Nat) :List Int:=(List.range ops.length).map fun k=>if k<m then ((eO ops k).length:Int) else 0
def jt (ops:List br) (m:Nat) :List Nat:=(List.range m).filter fun k=>(eO ops k).isEmpty
theorem ZC (ops:List br) (m:Nat) :(e9 ops m).length=ops.length:=by simp[e9]
theorem Jf {ops:List br} {m k:Nat} (h:k<ops.length) :(e9 ops m)[k]? = some (if k<m then ((eO ops k).length:Int) else 0) :=by
 unfold e9; rw[auq,auX h]; rfl
theorem anZ {ops:List br} {m:Nat} (h:m<ops.length) :(e9 ops m).set m ((eO ops m).length:Int)=e9 ops (m+1) :=by
 apply avf;intro j;by_cases ai:j<ops.length
 ·rw[Jf ai,avv];by_cases Ur:m=j
  ·subst Ur;rw[if_pos rfl,if_pos (by rw[ZC]; exact ai),if_pos (by omega)]
  ·rw[if_neg Ur,Jf ai];by_cases ad:j<m
   ·rw[if_pos ad,if_pos (by omega)]
   ·rw[if_neg ad,if_neg (by omega)]
 ·rw[auC (by simp[e9]; omega),auC (by simp[e9]; omega)]
theorem anY (ops:List br) :e9 ops ops.length=(List.range ops.length).map fun k=>((eO ops k).length:Int) :=by
 unfold e9;apply avO;intro k ar;rw[if_pos (auZ.1 ar)]
theorem an0 (ops:List br) :e9 ops 0=List.replicate ops.length 0:=by
 apply avf;intro j;by_cases ai:j<ops.length
 ·rw[Jf ai]; simp[ai]
 ·rw[auC (by simp[e9]; omega),auC (by simp; omega)]
theorem XF (ops:List br) (m:Nat) :jt ops (m+1)=jt ops m++(if (eO ops m).isEmpty then [m] else []) :=by
 unfold jt;rw[awk,avV];congr 1;by_cases h:(eO ops m).isEmpty=true
 ·simp[h]
 ·simp[h]
end Op

end Go.b0

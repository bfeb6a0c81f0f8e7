/-
  The canonical machine, part N: a region that draws its order.
-/
import Derived.Test.YtboebmmklamaeaaGreatDoorSc
import Derived.ProofKit
set_option linter.unusedVariables false
set_option linter.unusedSimpArgs false
set_option linter.unnecessarySimpa false
namespace Go.cl
open Go
section
variable {P:Program} {G:Nat->ae}
theorem vO {ops:Array Oper} {t i:Nat} (h:ir ops t=some i) :∃ o,ops[i]? = some o/\o.dst=some t:=by
 unfold ir at h;have:=List.find?_some h;cases ay:ops[i]? with
 | none=>simp[ay] at this
 | some o=>exact⟨o,rfl,by simpa [ay] using this⟩
def qB (ops:Array Oper) (val ah:Nat->ae) (c1:Array Bool) :Nat->ae:=fun t=>
 match ir ops t with
 | some i=>if c1.getD i false then val i else ah t
 | none=>ah t
theorem adE {ops:Array Oper} {pre:Nat->Nat->Bool} (gu:qK ops pre) {c1:Array Bool}
  (down:∀ (i:Nat) (o:Oper) (e:Edge),ops[i]? = some o->c1.getD i false=true->e∈o.after->Region.binds .any e=true->c1.getD e.on false=true)
  (d2:∀ i,c1.getD i false=true->∃ o,ops[i]? = some o) :∀ (i:Nat),c1.getD i false=true->∀ j,pre i j=true->c1.getD j false=true:=by
 intro i
 induction i using Nat.strongRecOn with
 | _ i aK=>
  intro aA j am;obtain⟨o,ay⟩:=d2 i aA;obtain⟨e,aw,ai,lv⟩:=gu.chain i o j ay am;have dv:=down i o e ay aA aw ai;rcases lv with rfl | lv
  ·exact dv
  ·exact aK e.on (gu.yo i o e ay aw ai) dv j lv
theorem uy (c1:Array Bool) (i j:Nat) (aA:i<c1.size) :(c1.setIfInBounds i true).getD j false=if j=i then true else c1.getD j false:=by
 rw[Array.getD_eq_getD_getElem?,Array.getElem?_setIfInBounds];by_cases h:i=j
 ·subst h; simp[aA]
 ·rw[if_neg h,if_neg (Ne.symm h),Array.getD_eq_getD_getElem?]
theorem DC {ops:Array Oper} {pre:Nat->Nat->Bool} (gu:qK ops pre) {val ah:Nat->ae} {c1:Array Bool} {i:Nat} {o:Oper} (ay:ops[i]? = some o) (aA:i<c1.size) :
  qB ops val ah (c1.setIfInBounds i true)=gp (qB ops val ah c1) o.dst (val i) :=by
 funext t;unfold qB gp;cases bJ:o.dst with
 | none=>
  simp only;cases bt:ir ops t with
  | none=>rfl
  | some j=>
   have b0:j≠i:=fun aR=>by
    obtain⟨ci,dr,nL⟩:=vO bt;rw[aR,ay] at dr; cases dr;rw[bJ] at nL; cases nL
   simp only[uy _ _ _ aA,if_neg b0]
 | some d=>
  simp only;by_cases aU:t=d
  ·subst aU;rw[gu.one i o t ay bJ];simp[uy _ _ _ aA]
  ·rw[cb _ _ _ _ aU];cases bt:ir ops t with
   | none=>rfl
   | some j=>
    have b0:j≠i:=fun aR=>by
     obtain⟨ci,dr,nL⟩:=vO bt;rw[aR,ay] at dr; cases dr;rw[bJ] at nL; cases nL;exact aU rfl
    simp only[uy _ _ _ aA,if_neg b0]
structure Inv (P:Program) (ops:Array Oper) (val ah:Nat->ae) (W:Nat->Bool) (cls:Nat->Ay) (m:Nat) (ar:Nat->Nat) (e1:Nat->aM) (fC:Nat->Nat) (N:Nat)
  (R:Nat->Prop) (B:Nat) (mx:World) (h:aM) (ps:cG) (c1:Array Bool) (k:Nat) (a:Act) (w:World) (μ:cG) :Prop where
 size:c1.size=ops.size
 down:∀ (i:Nat) (o:Oper) (e:Edge),ops[i]? = some o->c1.getD i false=true->e∈o.after->Region.binds .any e=true->c1.getD e.on false=true
 zB:k<=m
 done:∀ q,q<m->(c1.getD (ar q) false=true<->q<k)
 ext:Ext0 mx h ps w (e1 k) μ
 oi:∀ b,b<h.n->ps b=none->μ b=none
 rel:b5 R B w (e1 k) μ
 tP:lg N w R (e1 k) μ (qB ops val ah c1) a
 zN:∀ (i:Nat) (o:Oper),ops[i]? = some o->W i=true->cls i=.new->c1.getD i false=false->μ (fC i)=none
theorem aiQ {ops:Array Oper} {c1:Array Bool} (gH:c1.size=ops.size) (i:Nat) (aA:c1.getD i false=true) :∃ o,ops[i]? = some o:=by
 have:i<ops.size:=by
  rcases Nat.lt_or_ge i c1.size with h1 | h1
  ·omega
  ·simp[Array.getD_eq_getD_getElem?,Array.getElem?_eq_none h1] at aA
 exact⟨ops[i],by simp[this]⟩
theorem ab0 {ops:Array Oper} {pre:Nat->Nat->Bool} (gu:qK ops pre) {c1:Array Bool} (gH:c1.size=ops.size) (aC:Region.ready .any ops c1=[]) :∀ i,i<ops.size->c1.getD i false=true:=by
 intro i
 induction i using Nat.strongRecOn with
 | _ i aK=>
  intro aA;cases aq:c1.getD i false with
  | true=>rfl
  | false=>
   exfalso;have kT:i∈Region.ready .any ops c1:=by
    refine mem_ready.2 ⟨?_,ops[i],by simp[aA],fun e aw ai=>aK e.on (gu.yo i ops[i] e (by simp[aA]) aw ai) (by
     have:=gu.yo i ops[i] e (by simp[aA]) aw ai;omega)⟩
    have aN:i<c1.size:=by omega
    simpa [Array.getD_eq_getD_getElem?,aN] using aq
   rw[aC] at kT;cases kT
theorem adH (kp:P.follows .mixedOrders=true) (jn:∀ g,(G g).closed=true) :NC P G:=by
 intro id ops N ah h bY h' pre val W cls m ar e1 px fC cells gu nM aQ hm CJ uQ yP lz gk tb CA Cs nT BT BU nN kO;refine⟨0,fun R B mx ps a0 Q r4 cP s0 iF=>wp_region_any kp ?_⟩;obtain⟨gM,ob⟩:=z1 r4 ⟨(RowKit.Below.refl mx.heap.size mx).drew,Nat.le_succ _⟩;obtain⟨a1,qy⟩:=aQ.rel ob;have Rz:=gM.trans a1
 -- the end
 have fin:∀ (c1:Array Bool) (k:Nat) (a:Act) (w:World) (μ:cG),Inv P ops val ah W cls m ar e1 fC N R B mx h ps c1 k a w μ->(∀ i,i<ops.size->c1.getD i false=true)->Q .normal a w:=by
  intro c1 k a w μ inv eP;have aE:k=m:=by
   rcases Nat.lt_or_ge k m with aN | wQ
   ·obtain⟨o,ay,_⟩:=yP k aN;have aq:=eP (ar k) ((Array.getElem?_eq_some_iff.1 ay).1);have:=(inv.done k aN).1 aq;omega
   ·have:=inv.zB; omega
  subst aE;have ahl:qB ops val ah c1=bY:=by
   rw[CJ];funext t;unfold qB;cases bt:ir ops t with
   | none=>rfl
   | some i=>
    obtain⟨o,ay,_⟩:=vO bt;simp only[eP i ((Array.getElem?_eq_some_iff.1 ay).1),if_true]
  subst hm;have e7:=inv.tP;rw[ahl] at e7;exact iF a w μ ⟨inv.ext,inv.oi⟩ inv.rel e7
 have key:∀ (fuel:Nat) (c1:Array Bool) (k:Nat) (a:Act) (w:World) (μ:cG),Inv P ops val ah W cls m ar e1 fC N R B mx h ps c1 k a w μ->c1.toList.count false=fuel->wpAny P .any ops Q fuel c1 a w:=by
  intro fuel
  induction fuel with
  | zero=>
   intro c1 k a w μ inv S3;have eP:∀ i,i<ops.size->c1.getD i false=true:=by
    intro i aA;have aN:i<c1.size:=by rw[inv.size]; exact aA
    cases aq:c1[i] with
    | true=>simp[Array.getD_eq_getD_getElem?,aN,aq]
    | false=>
     exfalso;have kT:false∈c1.toList:=by rw[<-aq]; simp
     have:=List.count_pos_iff.2 kT;omega
   refine⟨?_,fin c1 k a w μ inv eP⟩;cases aC:Region.ready .any ops c1 with
   | nil=>rfl
   | cons i l=>
    exfalso;have kT:i∈Region.ready .any ops c1:=by rw[aC]; simp
    obtain⟨h1,o,ay,_⟩:=mem_ready.1 kT;have aA:=(Array.getElem?_eq_some_iff.1 ay).1;have af:=eP i aA;have aN:i<c1.size:=by rw[inv.size]; exact aA
    simp[Array.getD_eq_getD_getElem?,aN] at h1 af;rw[h1] at af; cases af
  | succ fuel aK=>
   intro c1 k a w μ inv S3;refine⟨fun aC=>fin c1 k a w μ inv (ab0 gu inv.size aC),fun i aA=>?_⟩;obtain⟨h1,o,ay,Ta⟩:=mem_ready.1 aA;have aN:i<c1.size:=by rw[inv.size]; exact (Array.getElem?_eq_some_iff.1 ay).1
   have ly:c1.getD i false=false:=by simpa [Array.getD_eq_getD_getElem?,aN] using h1
   have BF:=adE gu inv.down (aiQ inv.size)
   -- what comes before i is done
   have ID:∀ j,pre i j=true->c1.getD j false=true:=by
    intro j am;obtain⟨e,aw,ai,lv⟩:=gu.chain i o j ay am;have dv:=Ta e aw ai;rcases lv with rfl | lv
    ·exact dv
    ·exact BF e.on dv j lv
   have T9:∀ j,c1.getD j false=true->pre j i=true->False:=fun j am aF=>by
    have:=BF j am i aF;rw[ly] at this; cases this
   have Td:wt pre m ar i k:=⟨inv.zB,fun q bp aF=>(inv.done q bp).1 (ID _ aF),fun q bp aF=>by
    rcases Nat.lt_or_ge q k with jN | wQ
    ·exact (T9 _ ((inv.done q bp).2 jN) aF).elim
    ·exact wQ⟩
   -- what i sees
   have Tc:∀ t,aP w R (e1 k) μ (ln ops pre val ah i o t) (a.tmps.getD t undef) :=by
    intro t;unfold ln;split
    ·rename_i aU;have CE:t∈o.looksAt ops:=by simpa using aU
     have ax:=inv.tP.val t;unfold qB at ax;cases bt:ir ops t with
     | none=>rw[bt] at ax; exact ax
     | some j=>
      rw[bt] at ax;simp only at ax ⊢;by_cases aF:pre i j=true
      ·rw[if_pos aF];rw[if_pos (ID j aF)] at ax;exact ax
      ·rw[if_neg aF];have agI:c1.getD j false=false:=by
        rcases gu.acc i o t j ay CE bt with aR | aR | rfl
        ·exact absurd aR aF
        ·cases s6:c1.getD j false with
         | false=>rfl
         | true=>exact (T9 j s6 aR).elim
        ·exact ly
       rw[agI] at ax;exact ax
    ·exact .bad _
   have Tk:qM G w R (e1 k) μ:=fun g=>⟨jn g,(cP g).2.lo inv.ext⟩
   have cX:∀ x,aP w R (e1 k) μ (cU G (ln ops pre val ah i o) x) (a.eval x) :=by
    intro x;cases x with
    | tmp t=>exact Tc t
    | const v=>exact aP.tv v
    | global g=>exact (Tk g).2
    | func f=>exact .fn f [] [] #[] #[] rfl rfl (fun _ _ _ aR=>by simp at aR) (fun _ _ _ aR=>by simp at aR)
   have Us:=Nv (w:=w) (R:=R) (h:=e1 k) (μ:=μ) (tmps:=a.tmps) (tb i o ay) (fun d _=>Tc d);have B2:(c1.setIfInBounds i true).toList.count false=fuel:=by
    have ai:c1.toList[i]'(by simpa using aN)=false:=by
     have:c1[i]=false:=by simpa [Array.getD_eq_getD_getElem?,aN] using h1
     simpa using this
    rw[Array.toList_setIfInBounds,List.count_set (by simpa using aN)];simp[ai,S3]
   have Cz:(c1.setIfInBounds i true).size=ops.size:=by simp[inv.size]
   have B6:∀ (j:Nat) (ci:Oper) (e:Edge),ops[j]? = some ci->(c1.setIfInBounds i true).getD j false=true->e∈ci.after->Region.binds .any e=true->(c1.setIfInBounds i true).getD e.on false=true:=by
    intro j ci e dr am aw ai;rw[uy _ _ _ aN] at am ⊢;by_cases l6:j=i
    ·subst l6;rw[ay] at dr; cases dr;rw[Ta e aw ai]; split<;>rfl
    ·rw[if_neg l6] at am;rw[inv.down j ci e dr am aw ai]; split<;>rfl
   -- the next state,when no block of others' is turned
   have ta:(W i=true->cls i≠.fv)->∀ q,q<m->((c1.setIfInBounds i true).getD (ar q) false=true<->q<k) :=by
    intro b0 q bp;obtain⟨ci,dr,eO,ak⟩:=yP q bp;have:ar q≠i:=fun aR=>by
     rw[aR] at eO ak;exact b0 eO ak
    rw[uy _ _ _ aN,if_neg this];exact inv.done q bp
   have Cq:∀ (j:Nat),(c1.setIfInBounds i true).getD j false=false->j≠i/\c1.getD j false=false:=by
    intro j am;rw[uy _ _ _ aN] at am;by_cases l6:j=i
    ·rw[if_pos l6] at am; cases am
    ·rw[if_neg l6] at am; exact⟨l6,am⟩
   unfold wpOp;simp only[ay];cases eO:W i with
   | false=>
    rw[Us,eO];simp only[Bool.false_eq_true,if_false];refine aK _ k _ w μ ⟨Cz,B6,inv.zB,ta (fun aR=>by rw[eO] at aR; cases aR),inv.ext,inv.oi,inv.rel,?_,fun j ci dr pS oJ am=>inv.zN j ci dr pS oJ (Cq j am).2⟩ B2;rw[DC gu ay aN];exact inv.tP.put (nM i o ay) (by rw[CA i o ay eO]; exact Np)
   | true=>
    rw[Us,eO];simp only[if_true];left;cases ak:cls i with
    | pure=>
     have cm:=Cs i o ay eO ak k Td;obtain⟨v,w',μ',aC,e,r,ax⟩:=M6 (P:=P) inv.rel cX o cm;have TU:wpAny P .any ops Q fuel (c1.setIfInBounds i true) (a.put o.dst v) w':=by
      refine aK _ k _ w' μ' ⟨Cz,B6,inv.zB,ta (fun _ aR=>by rw[ak] at aR; cases aR),inv.ext.trans e.toExt0,fun b ai ik=>e.oi b (Nat.lt_of_lt_of_le ai inv.ext.n) (inv.oi b ai ik),r,?_,fun j ci dr pS oJ am=>?_⟩ B2
      ·rw[DC gu ay aN];exact (inv.tP.ext e).put (nM i o ay) ax
      ·have aI:=inv.zN j ci dr pS oJ (Cq j am).2;rcases Nat.lt_or_ge (fC j) (e1 k).n with ai | ai
       ·exact e.oi _ ai aI
       ·exact r.jC _ ai
     unfold Oper.wp;rcases aC with aC | ⟨aC,rfl⟩
     ·rw[aC]; exact TU
     ·rw[aC]; exact TU
    | new=>
     obtain⟨mk,aI,xa,mO,f8⟩:=nT i o ay eO ak;obtain⟨v,arr,t,aC,cB,wU⟩:=Wn (P:=P) cX o aI;have dZ:=f8 k Td;have afq:=inv.zN i o ay eO ak ly;have ap7:fC i<(e1 k).n:=by
      rcases Nat.lt_or_ge (fC i) (e1 k).n with ai | ai
      ·exact ai
      ·rw[inv.rel.fresh _ ai] at dZ; cases dZ
     have nW:∀ b cf,μ b=some cf->b≠fC i:=fun b cf ai aR=>by rw[aR,afq] at ai; cases ai
     have e:Ext0 w (e1 k) μ (w.alloc (.cells arr t)) (e1 k) (bO μ (fC i) (some ⟨w.heap.size,0,arr.size⟩)) :=by
      refine⟨rfl,rfl,rfl,by simp,fun x aj _=>?_,?_,fun b sz cs cf ai hm=>.inl ⟨cs,ai,by rw[cb _ _ _ _ (nW b cf hm)]; exact hm⟩,fun _ _ az=>az,fun b k cf ai hm=>⟨ai,by rw[cb _ _ _ _ (nW b cf hm)]; exact hm⟩,Nat.le_refl _,Nat.le_refl _⟩
      ·exact RowKit.Below.heap_alloc w _ x aj
      ·rintro x ⟨b,cf,aq,hm,rfl⟩;by_cases ai:b=fC i
       ·subst ai; simp at hm; subst hm; exact .inr (Nat.le_refl _)
       ·rw[cb _ _ _ _ ai] at hm;exact .inl ⟨b,cf,aq,hm,rfl⟩
     have r:b5 R B (w.alloc (.cells arr t)) (e1 k) (bO μ (fC i) (some ⟨w.heap.size,0,arr.size⟩)) :=by
      refine inv.rel.se e (fC i) (fun b ai aq=>⟨rfl,cb _ _ _ _ ai,fun cf hm=>RowKit.Below.heap_alloc w _ _ (inv.rel.lt aq hm)⟩) (fun cf hm=>?_) (fun b cf as8 ai aq _ hm bZ=>?_) (fun cf _ hm=>?_) inv.rel.fresh (fun b ai=>?_)
      ·simp at hm; subst hm;rw[dZ];refine⟨rfl,by simp[cB.1],arr,t,(0,0),heap_alloc_new w _,rfl,.inl rfl,fun j c am=>?_⟩;obtain⟨u,bn,bA,a3⟩:=cB.2 j c am;exact⟨u,by simpa using bn,bA,a3.lo e⟩
      ·simp at bZ; subst bZ;have:=inv.rel.lt aq hm;simp only[ne_eq]; omega
      ·simp at hm; subst hm;exact inv.rel.size
      ·rw[cb _ _ _ _ (by omega)];exact inv.rel.jC b ai
     have ax:aP (w.alloc (.cells arr t)) R (e1 k) (bO μ (fC i) (some ⟨w.heap.size,0,arr.size⟩)) (val i) v:=by
      rw[xa];exact wU _ _ _ _ _ dZ (by simp)
     unfold Oper.wp;rw[aC];refine aK _ k _ _ _ ⟨Cz,B6,inv.zB,ta (fun _ aR=>by rw[ak] at aR; cases aR),inv.ext.trans e,fun b ai ik=>by rw[cb _ _ _ _ (by omega)]; exact inv.oi b ai ik,r,?_,fun j ci dr pS oJ am=>?_⟩ B2
     ·rw[DC gu ay aN];have IQ:lg N (w.alloc (.cells arr t)) R (e1 k) (bO μ (fC i) (some ⟨w.heap.size,0,arr.size⟩)) (qB ops val ah c1) a:=⟨inv.tP.size,inv.tP.defers,fun fo=>(inv.tP.val fo).lo e⟩
      exact IQ.put (nM i o ay) ax
     ·obtain⟨l6,s6⟩:=Cq j am;rw[cb _ _ _ _ (fun aR=>l6 (BT j i ci o dr ay pS eO oJ ak aR))];exact inv.zN j ci dr pS oJ s6
    | fv=>
     obtain⟨q,bp,rfl⟩:=uQ i o ay eO ak;have zc:q=k:=by
      have af:¬ q<k:=fun aR=>by
       have:=(inv.done q bp).2 aR;rw[ly] at this; cases this
      rcases Nat.lt_or_ge k q with jN | wQ
      ·have ko:k<m:=by omega
       have:=ID (ar k) (lz k q ko bp jN);have:=(inv.done k ko).1 this;omega
      ·omega
     subst zc;refine kO q o bp ay R B w μ a o _ Q rfl inv.rel Tk cX fun v w' μ' e r ax=>?_
     obtain⟨b7,e8⟩:=(nN q bp).rel r;have dO:=e.trans b7;refine aK _ (q+1) _ w' μ' ⟨Cz,B6,by omega,fun eT mZ=>?_,inv.ext.trans dO.toExt0,fun b ai ik=>dO.oi b (Nat.lt_of_lt_of_le ai inv.ext.n) (inv.oi b ai ik),e8,?_,fun j ci dr pS oJ am=>?_⟩ B2
     ·rw[uy _ _ _ aN];by_cases Ct:eT=q
      ·subst Ct; simp
      ·rw[if_neg (fun aR=>Ct (gk eT q mZ bp aR)),inv.done eT mZ];omega
     ·rw[DC gu ay aN];exact (inv.tP.ext dO).put (nM _ o ay) (ax.ext b7)
     ·have aI:=inv.zN j ci dr pS oJ (Cq j am).2;rcases BU j ci q dr pS oJ bp with ai | ai
      ·exact e.oi _ ai aI
      ·exact r.jC _ ai
 have agc:Inv P ops val ah W cls m ar e1 fC N R B mx h ps (Array.replicate ops.size false) 0 a0 mx.drew ps:=by
  have aJ:∀ i,(Array.replicate ops.size false).getD i false=false:=by
   intro i;rw[Array.getD_eq_getD_getElem?,Array.getElem?_replicate];split<;>rfl
  refine⟨by simp,(fun i o e _ aA _ _=>by rw[aJ] at aA; cases aA),Nat.zero_le _,(fun q bp=>by rw[aJ]; simp),Rz.toExt0,fun b ai ik=>ik,qy,?_,fun i o ay eO ak _=>?_⟩
  ·have e7:qB ops val ah (Array.replicate ops.size false)=ah:=by
    funext t;unfold qB;cases bt:ir ops t with
    | none=>rfl
    | some i=>simp only[aJ]; simp
   rw[e7];exact s0.ext Rz
  ·obtain⟨mk,aI,xa,mO,f8⟩:=nT i o ay eO ak;exact r4.jC _ mO
 exact key _ _ 0 a0 mx.drew ps agc (by simp)
theorem alY (kp:P.follows .mixedOrders=true) (jn:∀ g,(G g).closed=true) {j:J} (am:dd P G j) :uf P G j:=alZ (adH kp jn) am
end
section
variable {P:Program} {G:Nat->ae}
theorem J9 {aD dD:Operand->ae} (cx:Array (Nat × Operand)) (h:∀ x∈(cx.toList.map (·.2)),aD x=dD x) :(cx.toList.map fun p=>(p.1,aD p.2))=(cx.toList.map fun p=>(p.1,dD p.2)) :=
 List.map_congr_left fun p aF=>by rw[h p.2 (List.mem_map.2 ⟨p,aF,rfl⟩)]
theorem JM {aD dD:Operand->ae} (xs:Array Operand) (h:∀ x∈xs,aD x=dD x) :xs.toList.map aD=xs.toList.map dD:=
 List.map_congr_left fun x aj=>h x (by simpa using aj)
theorem J1 {aD dD:Operand->ae} (o:Option Operand) (h:∀ x∈o.toArray,aD x=dD x) :o.map aD=o.map dD:=by
 cases o with
 | none=>rfl
 | some x=>simp[h x (by simp)]
theorem M5 {aD dD:Operand->ae} (h:aM) (op:Op) (aj:∀ x∈op.operands,aD x=dD x) :cV P h aD op=cV P h dD op:=by
 cases op<;>simp only[Op.operands] at aj<;>try rfl
 case build t cx=>simp only[cV]; rw[J9 cx (fun x hm=>aj x (by simpa using hm))]
 case buildSlice t n cx=>simp only[cV]; rw[J9 cx (fun x hm=>aj x (by simpa using hm))]
 case makeFunc fn first e5=>
  cases fn<;>simp only[cV];rw[JM first (fun x hm=>aj x (by simp[hm])),JM e5 (fun x hm=>aj x (by simp[hm]))]
 case slice t x cI aA cF=>
  simp only[cV];rw[aj x (by simp),J1 cI (fun y hm=>aj y (by simp at hm ⊢; simp[hm])),J1 aA (fun y hm=>aj y (by simp at hm ⊢; simp[hm])),J1 cF (fun y hm=>aj y (by simp at hm ⊢; simp[hm]))]
 case call c=>
  have aG:c.args.toList.map aD=c.args.toList.map dD:=JM c.args (fun x hm=>aj x (by simp[Call.operands,hm]));simp only[cV,sv,aG];cases ak:c.callee with
  | value f=>dsimp only; rw[aj f (by simp[Call.operands,ak])]
  | invoke x name=>dsimp only; rw[aj x (by simp[Call.operands,ak])]
  | _=>rfl
 case makeMap t r=>
  cases r with
  | none=>rfl
  | some x=>simp only[cV]; rw[aj x (by simp)]
 case next it b=>
  cases b with
  | false=>rfl
  | true=>simp only[cV]; rw[aj it (by simp)]
 all_goals (simp only[cV]; simp_all)
theorem ajb {aD dD:Operand->ae} (op:Op) (aj:∀ x∈op.operands,aD x=dD x) :lE P aD op=lE P dD op:=by
 cases op<;>simp only[Op.operands] at aj<;>try rfl
 case box t x=>simp only[lE]; rw[aj x (by simp)]
 case buildSlice t n cx=>simp only[lE]; rw[J9 cx (fun x hm=>aj x (by simpa using hm))]
 case makeSlice t l c=>simp only[lE]; rw[aj l (by simp),aj c (by simp)]
theorem ad4 {ah bY:Nat->ae} {h h' : aM} {v:ae} {op:Op} (aj:∀ x∈op.operands,cU G ah x=cU G bY x) (aw:dd P G (.op op ah h v h')) :dd P G (.op op bY h v h') :=by
 generalize am:J.op op ah h v h'=j at aw
 induction aw generalizing v h'<;>cases am
 case Da ar=>exact .Da (by rw[<-M5 h op aj]; exact ar)
 case xw=>exact .xw (by rw[<-M5 h op aj]; assumption) (by assumption)
 case DV=>exact .DV (by first | (rename_i aK; exact aK rfl) | (rename_i aK _; exact aK rfl) | (rename_i aK _ _; exact aK rfl)) (by assumption) (by assumption)
inductive bN where
 | skip (i:Nat)
 | pure (i:Nat) (v:ae)
 | new (i:Nat) (v:ae) (cs:List ae)
 | fv (i:Nat) (v:ae) (h1:aM)
def bN.idx:bN->Nat
 | .skip i | .pure i _ | .new i _ _ | .fv i _ _=>i
def bN.val:bN->ae
 | .skip _=>gv
 | .pure _ v | .new _ v _ | .fv _ v _=>v
def bN.h8:bN->Bool
 | .fv ..=>true
 | _=>false
def bN.rK:bN->Bool
 | .skip _=>true
 | _=>false
def bN.cls:bN->Ay
 | .skip _ | .pure ..=>.pure
 | .new ..=>.new
 | .fv ..=>.fv
def bN.cs:bN->List ae
 | .new _ _ cs=>cs
 | _=>[]
structure iw where
 ah:Nat->ae
 h:aM
def us (ops:Array Oper) (i:Nat) :Option Tmp:=(ops[i]?).bind (·.dst)
def n7 (h:aM) :bN->aM
 | .skip _ | .pure ..=>h
 | .new _ _ cs=>h.push (.cells cs.length cs)
 | .fv _ _ h1=>h1
def kw (ops:Array Oper) (s:iw) (t:bN) :iw:=⟨gp s.ah (us ops t.idx) t.val,n7 s.h t⟩
def fO (ops:Array Oper) (s0:iw) (tr:List bN) (p:Nat) :iw:=(tr.take p).foldl (kw ops) s0
theorem xH {ops:Array Oper} {s0:iw} {tr:List bN} {p:Nat} {t:bN} (h:tr[p]? = some t) :fO ops s0 tr (p+1)=kw ops (fO ops s0 tr p) t:=by
 unfold fO;have aN:p<tr.length:=(List.getElem?_eq_some_iff.1 h).1;rw[List.take_succ_eq_append_getElem aN,List.foldl_append];have:tr[p]=t:=(List.getElem?_eq_some_iff.1 h).2;simp[this]
def ug (P:Program) (G:Nat->ae) (ops:Array Oper) (s:iw) :bN->Prop
 | .skip i=>∃ o,ops[i]? = some o/\je ops s.ah o=some false
 | .pure i v=>∃ o,ops[i]? = some o/\je ops s.ah o=some true
 | .new i v cs=>∃ o mk,ops[i]? = some o/\je ops s.ah o=some true/\lE P (cU G s.ah) o.op=some (cs,mk)/\v=mk s.h.n
 | .fv i v h1=>∃ o,ops[i]? = some o/\je ops s.ah o=some true/\dd P G (.op o.op s.ah s.h v h1)/\s.h.n<=h1.n
def D9 (P:Program) (G:Nat->ae) (ops:Array Oper) (s:iw) (h:aM) :bN->Prop
 | .pure i v=>∀ o,ops[i]? = some o->cV P h (cU G s.ah) o.op=some (.val v h)
 | .new _ _ cs=>h.f s.h.n=.cells cs.length cs
 | _=>True
structure vU (ops:Array Oper) (pre:Nat->Nat->Bool) (tr:List bN) :Prop where
 gu:qK ops pre
 all:∀ i,i<ops.size->∃ (p:Nat) (t:bN),tr[p]? = some t/\t.idx=i
 inj:∀ (p bV:Nat) (t fo:bN),tr[p]? = some t->tr[bV]? = some fo->t.idx=fo.idx->p=bV
 Dy:∀ (p:Nat) (t:bN),tr[p]? = some t->t.idx<ops.size
 aaK:∀ (p bV:Nat) (t fo:bN),tr[p]? = some t->tr[bV]? = some fo->p<bV->pre t.idx fo.idx=false
 eager:∀ (p bV:Nat) (t fo:bN),tr[p]? = some t->tr[bV]? = some fo->p<bV->t.h8=true->pre fo.idx t.idx=true
structure Ea (P:Program) (G:Nat->ae) (ops:Array Oper) (pre:Nat->Nat->Bool) (s0:iw) (tr:List bN) :Prop where
 step:∀ (p:Nat) (t:bN),tr[p]? = some t->ug P G ops (fO ops s0 tr p) t
 still:∀ (q:Nat),(q=tr.length\/∃ t:bN,tr[q]? = some t/\t.h8=true)->∀ (p:Nat) (t:bN),p<q->tr[p]? = some t->
  (∀ (bV:Nat) (fo:bN),bV<q->tr[bV]? = some fo->fo.h8=true->pre fo.idx t.idx=false)->D9 P G ops (fO ops s0 tr p) (fO ops s0 tr q).h t
def dI (tr:List bN) (i:Nat) :Nat:=tr.findIdx fun t=>t.idx == i
theorem vv {ops:Array Oper} {pre:Nat->Nat->Bool} {tr:List bN} (fl:vU ops pre tr) {i:Nat} (aA:i<ops.size) :∃ t,tr[dI tr i]? = some t/\t.idx=i:=by
 obtain⟨p,t,aF,aU⟩:=fl.all i aA;have aN:p<tr.length:=(List.getElem?_eq_some_iff.1 aF).1;have kT:∃ x∈tr,(x.idx == i)=true:=⟨t,List.mem_of_getElem? aF,by simpa using aU⟩
 have wO:dI tr i<tr.length:=List.findIdx_lt_length_of_exists kT;have:=List.findIdx_getElem (w:=wO);exact⟨tr[dI tr i],by simp[wO],by unfold dI; simpa using this⟩
theorem Di {ops:Array Oper} {pre:Nat->Nat->Bool} {tr:List bN} (fl:vU ops pre tr) {p:Nat} {t:bN} (aF:tr[p]? = some t) :dI tr t.idx=p:=by
 obtain⟨fo,h1,af⟩:=vv fl (fl.Dy p t aF);exact fl.inj _ _ _ _ h1 aF af
theorem aag {ops:Array Oper} {pre:Nat->Nat->Bool} {tr:List bN} (fl:vU ops pre tr) (s0:iw) :∀ p,p<=tr.length->∀ t,
  (fO ops s0 tr p).ah t=match ir ops t with | some j=>(if dI tr j<p then ((tr[dI tr j]?).map bN.val).getD .bad else s0.ah t) | none=>s0.ah t:=by
 intro p
 induction p with
 | zero=>
  intro _ t;simp only[fO,List.take_zero,List.foldl_nil];cases ir ops t<;>simp
 | succ p aK=>
  intro aF t;have aN:p<tr.length:=by omega
  have eB:tr[p]? = some tr[p] :=List.getElem?_eq_getElem aN;rw[xH eB];simp only[kw];have y8:=aK (by omega) t;have kq:=Di fl eB;have ahc:=fl.Dy p _ eB;have f9:ops[tr[p].idx]? = some ops[tr[p].idx] :=by simp[ahc]
  cases bJ:us ops tr[p].idx with
  | none=>
   simp only[gp,y8];cases bt:ir ops t with
   | none=>rfl
   | some j=>
    simp only;obtain⟨o,ay,Iw⟩:=vO bt;have b0:dI tr j≠p:=by
     intro aR;obtain⟨Nh,h1,af⟩:=vv fl ((Array.getElem?_eq_some_iff.1 ay).1);rw[aR,eB] at h1;cases h1;rw[<-af] at ay;simp only[us,ay,Option.bind_some] at bJ;rw[Iw] at bJ; cases bJ
    by_cases jN:dI tr j<p
    ·rw[if_pos jN,if_pos (by omega)]
    ·rw[if_neg jN,if_neg (by omega)]
  | some d=>
   simp only[gp];by_cases aU:t=d
   ·subst aU;have nM:ops[tr[p].idx].dst=some t:=by simpa [us,f9] using bJ
    rw[iA,fl.gu.one _ _ t f9 nM];simp[kq,eB]
   ·rw[cb _ _ _ _ aU,y8];cases bt:ir ops t with
    | none=>rfl
    | some j=>
     simp only;obtain⟨o,ay,Iw⟩:=vO bt;have b0:dI tr j≠p:=by
      intro aR;obtain⟨Nh,h1,af⟩:=vv fl ((Array.getElem?_eq_some_iff.1 ay).1);rw[aR,eB] at h1;cases h1;rw[<-af] at ay;simp only[us,ay,Option.bind_some] at bJ;rw[Iw] at bJ; cases bJ;exact aU rfl
     by_cases jN:dI tr j<p
     ·rw[if_pos jN,if_pos (by omega)]
     ·rw[if_neg jN,if_neg (by omega)]
theorem ajY {ops:Array Oper} {pre:Nat->Nat->Bool} (gu:qK ops pre) (d2:∀ (i:Nat) (o:Oper) (e:Edge),ops[i]? = some o->e∈o.after->Region.binds .any e=true->∃ ci,ops[e.on]? = some ci) :∀ (i:Nat) (o:Oper),ops[i]? = some o->∀ j,pre i j=true->j<i:=by
 intro i
 induction i using Nat.strongRecOn with
 | _ i aK=>
  intro o ay j am;obtain⟨e,aw,ai,lv⟩:=gu.chain i o j ay am;have aN:=gu.yo i o e ay aw ai;rcases lv with rfl | lv
  ·exact aN
  ·obtain⟨ci,dr⟩:=d2 i o e ay aw ai;have:=aK e.on aN ci dr j lv;omega
theorem ajl {ops:Array Oper} {pre:Nat->Nat->Bool} (gu:qK ops pre) (i:Nat) (o:Oper) (ay:ops[i]? = some o) (aF:pre i i=true) :False:=by
 have:=ajY gu (fun i o e ay aw ai=>by
  have h1:=gu.yo i o e ay aw ai;have af:=(Array.getElem?_eq_some_iff.1 ay).1;exact⟨ops[e.on]'(by omega),by simp⟩) i o ay i aF
 omega
theorem RF {ops:Array Oper} {pre:Nat->Nat->Bool} {tr:List bN} (fl:vU ops pre tr) (s0:iw) {i:Nat} {o:Oper} (ay:ops[i]? = some o) {t:Nat} (aU:t∈o.looksAt ops) :
  ln ops pre (fun j=>((tr[dI tr j]?).map bN.val).getD .bad) s0.ah i o t=(fO ops s0 tr (dI tr i)).ah t:=by
 have aA:i<ops.size:=(Array.getElem?_eq_some_iff.1 ay).1;obtain⟨c3,h1,af⟩:=vv fl aA;have dv:dI tr i<=tr.length:=Nat.le_of_lt (List.getElem?_eq_some_iff.1 h1).1;rw[aag fl s0 _ dv];unfold ln;rw[if_pos (by simpa using aU)];cases bt:ir ops t with
 | none=>rfl
 | some j=>
  simp only;obtain⟨WA,agT,_⟩:=vO bt;obtain⟨Nh,ap,aH⟩:=vv fl ((Array.getElem?_eq_some_iff.1 agT).1);have key:pre i j=true<->dI tr j<dI tr i:=by
   constructor
   ·intro aF;rcases Nat.lt_trichotomy (dI tr j) (dI tr i) with h | h | h
    ·exact h
    ·exfalso;rw[h,h1] at ap;cases ap;have iD:i=j:=by rw[<-af,<-aH]
     subst iD;exact ajl fl.gu i o ay aF
    ·have:=fl.aaK _ _ _ _ h1 ap h;rw[af,aH] at this;rw[this] at aF; cases aF
   ·intro aN;rcases fl.gu.acc i o t j ay aU bt with aR | aR | rfl
    ·exact aR
    ·have:=fl.aaK _ _ _ _ ap h1 aN;rw[af,aH] at this;rw[this] at aR; cases aR
    ·omega
  by_cases aF:pre i j=true
  ·rw[if_pos aF,if_pos (key.1 aF)]
  ·rw[if_neg aF,if_neg (fun aR=>aF (key.2 aR))]
def ep (tr:List bN) :List Nat:=(List.range tr.length).filter fun p=>((tr[p]?).map bN.h8).getD false
theorem C0 {tr:List bN} {p:Nat}:p∈ep tr<->∃ t,tr[p]? = some t/\t.h8=true:=by
 unfold ep;rw[List.mem_filter,List.mem_range];constructor
 ·rintro⟨h1,af⟩;refine⟨tr[p],by simp[h1],?_⟩;simpa [h1] using af
 ·rintro⟨t,h1,af⟩;exact⟨(List.getElem?_eq_some_iff.1 h1).1,by simp[h1,af]⟩
theorem sL {tr:List bN} {q eT:Nat} (bp:q<eT) (mZ:eT<(ep tr).length) :(ep tr).getD q 0<(ep tr).getD eT 0:=by
 have aF:(ep tr).Pairwise (· < ·) :=List.Pairwise.filter _ List.pairwise_lt_range;have:=List.pairwise_iff_getElem.1 aF q eT (by omega) mZ bp;simpa [List.getD,mZ,show q<(ep tr).length by omega] using this
theorem RD {tr:List bN} {q:Nat} (bp:q<(ep tr).length) :∃ t,tr[(ep tr).getD q 0]? = some t/\t.h8=true:=by
 apply C0.1;simp[List.getD,bp]
theorem Bg {tr:List bN} {p:Nat} (aF:p∈ep tr) :∃ q,q<(ep tr).length/\(ep tr).getD q 0=p:=by
 obtain⟨q,bp,rfl⟩:=List.getElem_of_mem aF;exact⟨q,bp,by simp[List.getD,bp]⟩
theorem zF {ops:Array Oper} {pre:Nat->Nat->Bool} {s0:iw} {tr:List bN} (oe:Ea P G ops pre s0 tr) :∀ (k p:Nat),p+k<=tr.length->(fO ops s0 tr p).h.n<=(fO ops s0 tr (p+k)).h.n
 | 0,p,_=>Nat.le_refl _
 | k+1,p,aF=>by
  have aK:=zF oe k p (by omega);have aN:p+k<tr.length:=by omega
  have eB:tr[p+k]? = some tr[p+k] :=List.getElem?_eq_getElem aN;have ar:=oe.step _ _ eB;rw[show p+(k+1)=(p+k)+1 from rfl,xH eB];refine Nat.le_trans aK ?_;cases aU:tr[p+k] with
  | skip i=>simp[kw,n7]
  | pure i v=>simp[kw,n7]
  | new i v cs=>simp[kw,n7,eK]
  | fv i v h1=>
   rw[aU] at ar;obtain⟨o,_,_,_,aI⟩:=ar;simpa [kw,n7] using aI
theorem Hy {ops:Array Oper} {s0:iw} {tr:List bN}:∀ (k p:Nat),p+k<=tr.length->(∀ r,p<=r->r<p+k->r∉ep tr)->mB (fO ops s0 tr p).h (fO ops s0 tr (p+k)).h
 | 0,p,_,_=>⟨[],rfl⟩
 | k+1,p,aF,eG=>by
  obtain⟨l,aq⟩:=Hy (ops:=ops) (s0:=s0) (tr:=tr) k p (by omega) (fun r h1 af=>eG r h1 (by omega));have aN:p+k<tr.length:=by omega
  have eB:tr[p+k]? = some tr[p+k] :=List.getElem?_eq_getElem aN;have b0:tr[p+k].h8≠true:=fun aR=>eG (p+k) (by omega) (by omega) (C0.2 ⟨_,eB,aR⟩)
  rw[show p+(k+1)=(p+k)+1 from rfl,xH eB];cases aU:tr[p+k] with
  | skip i=>exact⟨l,by simp[kw,n7,aq]⟩
  | pure i v=>exact⟨l,by simp[kw,n7,aq]⟩
  | new i v cs=>exact⟨l++[cs],by simp[kw,n7,aq,tB]⟩
  | fv i v h1=>rw[aU] at b0; exact absurd rfl b0
theorem dd.adF {id:Nat} {ops:Array Oper} {pre:Nat->Nat->Bool} {N:Nat} {s0:iw} {tr:List bN} (fl:vU ops pre tr) (bJ:∀ (i:Nat) (o:Oper),ops[i]? = some o->nE N o.dst=true) (oe:Ea P G ops pre s0 tr) :
  dd P G (.code (.region id ops true) N s0.ah s0.h .normal (fO ops s0 tr tr.length).ah (fO ops s0 tr tr.length).h) :=by
 -- the step that carries out operation i
 have gU:∀ (i:Nat) (o:Oper),ops[i]? = some o->∃ t,tr[dI tr i]? = some t/\t.idx=i/\ug P G ops (fO ops s0 tr (dI tr i)) t:=fun i o ay=>by
  obtain⟨t,h1,af⟩:=vv fl ((Array.getElem?_eq_some_iff.1 ay).1);exact⟨t,h1,af,oe.step _ _ h1⟩
 have ano:∀ (i:Nat) (o:Oper),ops[i]? = some o->je ops (ln ops pre (fun j=>((tr[dI tr j]?).map bN.val).getD .bad) s0.ah i o) o=je ops (fO ops s0 tr (dI tr i)).ah o:=fun i o ay=>by
  unfold je;cases az:o.guard with
  | none=>rfl
  | some n2=>
   obtain⟨j,xQ⟩:=n2;simp only;cases afH:(ops[j]?).bind (·.dst) with
   | none=>rfl
   | some d=>
    simp only;rw[RF fl s0 ay (t:=d) (by simp[Oper.looksAt,az,afH])]
 have JX:∀ (i:Nat) (o:Oper),ops[i]? = some o->∀ x∈o.op.operands,cU G (fO ops s0 tr (dI tr i)).ah x=cU G (ln ops pre (fun j=>((tr[dI tr j]?).map bN.val).getD .bad) s0.ah i o) x:=fun i o ay x aj=>by
  cases x with
  | tmp t=>
   refine (RF fl s0 ay (t:=t) ?_).symm;simp only[Oper.looksAt,List.mem_append,List.mem_filterMap];exact .inl ⟨.tmp t,by simpa using aj,rfl⟩
  | _=>rfl
 -- the moment ahead of effect k,or the end
 have Ni:∀ k,k<=(ep tr).length->∃ T,T<=tr.length/\(T=tr.length\/∃ t,tr[T]? = some t/\t.h8=true)/\(T=if k<(ep tr).length then (ep tr).getD k 0 else tr.length) :=fun k aE=>by
  by_cases aN:k<(ep tr).length
  ·obtain⟨t,h1,af⟩:=RD aN;exact⟨_,Nat.le_of_lt (List.getElem?_eq_some_iff.1 h1).1,.inr ⟨t,h1,af⟩,by rw[if_pos aN]⟩
  ·exact⟨_,Nat.le_refl _,.inl rfl,by rw[if_neg aN]⟩
 have fV:∀ q,q<(ep tr).length->∃ t,tr[(ep tr).getD q 0]? = some t/\t.h8=true/\((tr[(ep tr).getD q 0]?).map bN.idx).getD 0=t.idx:=fun q bp=>by
  obtain⟨t,h1,af⟩:=RD bp;exact⟨t,h1,af,by rw[h1]; rfl⟩
 have aam:∀ (i:Nat) (o:Oper) (t:bN),ops[i]? = some o->tr[dI tr i]? = some t->t.idx=i->t.h8=false->∀ k,wt pre (ep tr).length (fun q=>((tr[(ep tr).getD q 0]?).map bN.idx).getD 0) i k->
   D9 P G ops (fO ops s0 tr (dI tr i)) (fO ops s0 tr (if k<(ep tr).length then (ep tr).getD k 0 else tr.length)).h t:=by
  intro i o t ay aU Um b0 k aJ;obtain⟨ko,afR,afS⟩:=aJ;obtain⟨T,SJ,HL,mM⟩:=Ni k ko;rw[<-mM];have aqH:dI tr i<tr.length:=(List.getElem?_eq_some_iff.1 aU).1;have agZ:dI tr i<T:=by
   by_cases aN:k<(ep tr).length
   ·rw[if_pos aN] at mM;obtain⟨amt,h1,af,ap⟩:=fV k aN;rw[<-mM] at h1;rcases Nat.lt_trichotomy (dI tr i) T with h | h | h
    ·exact h
    ·rw[h,h1] at aU;cases aU;rw[b0] at af; cases af
    ·have aw:=fl.eager T (dI tr i) amt t h1 aU h af;have:=afR k aN (by (try simp only); rw[ap,<-Um]; exact aw);omega
   ·rw[if_neg aN] at mM;omega
  refine oe.still T HL _ t agZ aU (fun bV fo fz CE fy=>?_);obtain⟨q,bp,nY⟩:=Bg (C0.2 ⟨fo,CE,fy⟩);obtain⟨at0,h1,af,ap⟩:=fV q bp;rw[nY,CE] at h1;cases h1;have zc:q<k:=by
   by_cases aN:k<(ep tr).length
   ·rw[if_pos aN] at mM;rcases Nat.lt_or_ge q k with h | h
    ·exact h
    ·rcases Nat.eq_or_lt_of_le h with h | h
     ·subst h; omega
     ·have:=sL (tr:=tr) h bp;omega
   ·omega
  cases aF:pre fo.idx t.idx with
  | false=>rfl
  | true=>
   have:=afS q bp (by (try simp only); rw[ap,<-Um]; exact aF);omega
 refine dd.draw pre (fun j=>((tr[dI tr j]?).map bN.val).getD .bad) (fun j=>((tr[dI tr j]?).map fun t=>!t.rK).getD false) (fun j=>((tr[dI tr j]?).map bN.cls).getD .pure) (ep tr).length
  (fun q=>((tr[(ep tr).getD q 0]?).map bN.idx).getD 0) (fun k=>(fO ops s0 tr (if k<(ep tr).length then (ep tr).getD k 0 else tr.length)).h) (fun q=>(fO ops s0 tr ((ep tr).getD q 0+1)).h)
  (fun j=>(fO ops s0 tr (dI tr j)).h.n) (fun j=>((tr[dI tr j]?).map bN.cs).getD []) fl.gu bJ ?_ ?_ ?_ ?_ ?_ ?_ ?_ ?_ ?_ ?_ ?_ ?_ ?_ ?_ ?_
 ·-- h0
  obtain⟨T,SJ,HL,mM⟩:=Ni 0 (Nat.zero_le _)
  try simp only
  rw[<-mM];have:=Hy (ops:=ops) (s0:=s0) (tr:=tr) T 0 (by omega) (fun r _ aC kT=>by
   obtain⟨q,bp,nY⟩:=Bg kT;rw[if_pos (by omega)] at mM;rcases Nat.eq_or_lt_of_le (Nat.zero_le q) with h | h
   ·subst h; omega
   ·have:=sL (tr:=tr) h bp;omega)
  simpa [fO] using this
 ·simp
 ·-- hσ
  funext t;rw[aag fl s0 _ (Nat.le_refl _)];cases bt:ir ops t with
  | none=>rfl
  | some j=>
   obtain⟨o,ay,_⟩:=vO bt;obtain⟨Nh,h1,_⟩:=vv fl ((Array.getElem?_eq_some_iff.1 ay).1);simp only;rw[if_pos ((List.getElem?_eq_some_iff.1 h1).1)]
 ·-- heff
  intro i o ay eO ak;obtain⟨t,h1,af,_⟩:=gU i o ay;simp only[h1,Option.map_some,Option.getD_some] at ak;have aw:t.h8=true:=by cases t<;>simp_all [bN.cls,bN.h8]
  obtain⟨q,bp,nY⟩:=Bg (C0.2 ⟨t,h1,aw⟩);exact⟨q,bp,by rw[nY,h1]; exact af⟩
 ·-- heff'
  intro q bp;obtain⟨t,h1,af,ap⟩:=fV q bp;refine⟨ops[t.idx]'(fl.Dy _ _ h1),by rw[ap]; simp[fl.Dy _ _ h1],?_,?_⟩
  ·simp only[ap,Di fl h1,h1,Option.map_some,Option.getD_some];cases t<;>simp_all [bN.rK,bN.h8]
  ·simp only[ap,Di fl h1,h1,Option.map_some,Option.getD_some];cases t<;>simp_all [bN.cls,bN.h8]
 ·-- hord
  intro q eT bp mZ aN;obtain⟨t,h1,af,ap⟩:=fV q bp;obtain⟨fo,d8,f3,sO⟩:=fV eT mZ;simp only[ap,sO];exact fl.eager _ _ t fo h1 d8 (sL aN mZ) af
 ·-- hinj
  intro q eT bp mZ aw;obtain⟨t,h1,af,ap⟩:=fV q bp;obtain⟨fo,d8,f3,sO⟩:=fV eT mZ;simp only[ap,sO] at aw;have:=fl.inj _ _ t fo h1 d8 aw;rcases Nat.lt_trichotomy q eT with h | h | h
  ·have:=sL (tr:=tr) h mZ; omega
  ·exact h
  ·have:=sL (tr:=tr) h bp; omega
 ·-- hwant
  intro i o ay;rw[ano i o ay];obtain⟨t,h1,af,ap⟩:=gU i o ay;simp only[h1,Option.map_some,Option.getD_some];cases t with
  | skip j=>obtain⟨ci,dr,bt⟩:=ap; simp only[bN.idx] at af; subst af; rw[ay] at dr; cases dr; exact bt
  | pure j v=>obtain⟨ci,dr,bt⟩:=ap; simp only[bN.idx] at af; subst af; rw[ay] at dr; cases dr; exact bt
  | new j v cs=>obtain⟨ci,mk,dr,bt,_⟩:=ap; simp only[bN.idx] at af; subst af; rw[ay] at dr; cases dr; exact bt
  | fv j v d8=>obtain⟨ci,dr,bt,_⟩:=ap; simp only[bN.idx] at af; subst af; rw[ay] at dr; cases dr; exact bt
 ·-- hskip
  intro i o ay eO;obtain⟨t,h1,af,ap⟩:=gU i o ay;simp only[h1,Option.map_some,Option.getD_some] at eO ⊢;cases t<;>simp_all [bN.rK,bN.val]
 ·-- hpure
  intro i o ay eO ak k aJ;obtain⟨t,h1,af,ap⟩:=gU i o ay;simp only[h1,Option.map_some,Option.getD_some] at eO ak;have cm:=aam i o t ay h1 af (by cases t<;>simp_all [bN.cls,bN.h8]) k aJ;cases t with
  | pure j v=>
   simp only[bN.idx] at af;subst af;have:=cm o ay;rw[M5 _ _ (JX j o ay)] at this;simpa [h1,bN.val] using this
  | skip j=>simp[bN.rK] at eO
  | new j v cs=>simp[bN.cls] at ak
  | fv j v d8=>simp[bN.cls] at ak
 ·-- hnew
  intro i o ay eO ak;obtain⟨t,h1,af,ap⟩:=gU i o ay;simp only[h1,Option.map_some,Option.getD_some] at eO ak;cases t with
  | new j v cs=>
   obtain⟨ci,mk,dr,_,aI,ax⟩:=ap;simp only[bN.idx] at af;subst af;rw[ay] at dr; cases dr;rw[ajb _ (JX j o ay)] at aI;refine⟨mk,by simpa [h1,bN.cs] using aI,by simpa [h1,bN.val] using ax,?_,fun k aJ=>?_⟩
   ·have dv:dI tr j<=tr.length:=Nat.le_of_lt (List.getElem?_eq_some_iff.1 h1).1;have:=zF oe (dI tr j) 0 (by omega);simpa [fO] using this
   ·have cm:=aam j o _ ay h1 rfl rfl k aJ;simpa [D9,h1,bN.cs] using cm
  | skip j=>simp[bN.rK] at eO
  | pure j v=>simp[bN.cls] at ak
  | fv j v d8=>simp[bN.cls] at ak
 ·-- hbid
  intro i j o ci ay dr sU pS eA oJ ai;have Sr:∀ (i:Nat) (o:Oper),ops[i]? = some o->((tr[dI tr i]?).map bN.cls).getD .pure=.new->∀ p,dI tr i<p->p<=tr.length->(fO ops s0 tr (dI tr i)).h.n<(fO ops s0 tr p).h.n:=by
   intro i o ay ak p aF fU;obtain⟨t,h1,af,_⟩:=gU i o ay;simp only[h1,Option.map_some,Option.getD_some] at ak;have aH:=zF oe (p - (dI tr i+1)) (dI tr i+1) (by omega);rw[show dI tr i+1+(p - (dI tr i+1))=p by omega,xH h1] at aH;cases t with
   | new j v cs=>simp only[kw,n7,eK] at aH; omega
   | skip j=>simp[bN.cls] at ak
   | pure j v=>simp[bN.cls] at ak
   | fv j v d8=>simp[bN.cls] at ak
  obtain⟨t,h1,af,_⟩:=gU i o ay;obtain⟨fo,d8,f3,_⟩:=gU j ci dr;have aq:=(List.getElem?_eq_some_iff.1 h1).1;have cZ:=(List.getElem?_eq_some_iff.1 d8).1;rcases Nat.lt_trichotomy (dI tr i) (dI tr j) with h | h | h
  ·have:=Sr i o ay eA _ h (Nat.le_of_lt cZ); (try simp only at ai); omega
  ·rw[h,d8] at h1; cases h1; rw[<-af,<-f3]
  ·have:=Sr j ci dr oJ _ h (Nat.le_of_lt aq); (try simp only at ai); omega
 ·-- hbid'
  intro i o q ay eO ak bp;obtain⟨t,h1,af,_⟩:=gU i o ay;obtain⟨Nf,aV,aY,bd⟩:=fV q bp;simp only[h1,Option.map_some,Option.getD_some] at ak;have aq:=(List.getElem?_eq_some_iff.1 h1).1;have cZ:=(List.getElem?_eq_some_iff.1 aV).1;simp only[if_pos bp];rcases Nat.lt_trichotomy (dI tr i) ((ep tr).getD q 0) with h | h | h
  ·left;have aH:=zF oe ((ep tr).getD q 0 - (dI tr i+1)) (dI tr i+1) (by omega);rw[show dI tr i+1+((ep tr).getD q 0 - (dI tr i+1))=(ep tr).getD q 0 by omega,xH h1] at aH;cases t with
   | new j v cs=>simp only[kw,n7,eK] at aH; omega
   | skip j=>simp[bN.cls] at ak
   | pure j v=>simp[bN.cls] at ak
   | fv j v d8=>simp[bN.cls] at ak
  ·rw[h,aV] at h1; cases h1;cases t<;>simp_all [bN.cls,bN.h8]
  ·right;have aH:=zF oe (dI tr i - ((ep tr).getD q 0+1)) ((ep tr).getD q 0+1) (by omega)
   rwa [show (ep tr).getD q 0+1+(dI tr i - ((ep tr).getD q 0+1))=dI tr i by omega] at aH
 ·-- hgrow
  intro q bp;obtain⟨Nf,aV,aY,bd⟩:=fV q bp;have cZ:=(List.getElem?_eq_some_iff.1 aV).1;obtain⟨T,SJ,HL,mM⟩:=Ni (q+1) (by omega)
  try simp only
  rw[<-mM];have aN:(ep tr).getD q 0<T:=by
   by_cases h:q+1<(ep tr).length
   ·rw[if_pos h] at mM;have:=sL (tr:=tr) (show q<q+1 by omega) h;omega
   ·rw[if_neg h] at mM; omega
  have:=Hy (ops:=ops) (s0:=s0) (tr:=tr) (T - ((ep tr).getD q 0+1)) ((ep tr).getD q 0+1) (by omega) (fun r jw kW kT=>by
   obtain⟨eT,mZ,nY⟩:=Bg kT;have Ct:q<eT:=by
    rcases Nat.lt_trichotomy q eT with h | h | h
    ·exact h
    ·subst h; omega
    ·have:=sL (tr:=tr) h bp; omega
   by_cases h:q+1<(ep tr).length
   ·rw[if_pos h] at mM;rcases Nat.eq_or_lt_of_le (show q+1<=eT from Ct) with h' | h'
    ·subst h'; omega
    ·have:=sL (tr:=tr) h' mZ; omega
   ·omega)
  rwa [show (ep tr).getD q 0+1+(T - ((ep tr).getD q 0+1))=T by omega] at this
 ·-- hcall
  intro q o bp ay;obtain⟨Nf,aV,aY,bd⟩:=fV q bp;have kq:=Di fl aV;simp only[bd] at ay ⊢;have ar:=oe.step _ _ aV;cases Nf with
  | fv j v h1=>
   obtain⟨ci,dr,_,aw,_⟩:=ar;simp only[bN.idx] at ay kq ⊢;rw[ay] at dr; cases dr;have mP:=JX j o ay;rw[kq] at mP;have:=ad4 mP aw;simp only[kq,aV,if_pos bp,Option.map_some,Option.getD_some,bN.val];rw[xH aV];exact this
  | skip j=>simp[bN.h8] at aY
  | pure j v=>simp[bN.h8] at aY
  | new j v cs=>simp[bN.h8] at aY
end
abbrev f0:=cy ae
def look (s:f0) (t:Nat) :ae:=match s.get t with | some v=>v | none=>gv
theorem V9 (s:f0) (t:Nat) (v:ae) :look (s.set t v)=bO (look s) t v:=by
 funext u;simp only[look,cy.Bu,bO];by_cases h:u=t
 ·simp[h]
 ·simp[h]
def zS (s:f0) (dst:Option Tmp) (v:ae) :f0:=match dst with | some d=>s.set d v | none=>s
theorem CU (s:f0) (dst:Option Tmp) (v:ae) :look (zS s dst v)=gp (look s) dst v:=by
 cases dst with
 | none=>rfl
 | some d=>exact V9 s d v
def xt:Nat->f0->List ae->f0
 | _,s,[]=>s
 | k,s,v::vs=>xt (k+1) (s.set k v) vs
theorem V8:∀ (vs:List ae) (k:Nat) (s:f0),look (xt k s vs)=fun t=>if k<=t/\t<k+vs.length then vs.getD (t - k) gv else look s t
 | [],k,s=>by funext t; simp only[xt,List.length_nil]; rw[if_neg (by omega)]
 | v::vs,k,s=>by
  funext t;rw[xt,V8 vs (k+1),V9];simp only[List.length_cons,bO];by_cases h1:k+1<=t/\t<k+1+vs.length
  ·rw[if_pos h1,if_pos (by omega),show t - k=(t - (k+1))+1 by omega];simp
  ·rw[if_neg h1];by_cases af:t=k
   ·subst af; rw[if_pos rfl,if_pos (by omega)]; simp
   ·rw[if_neg af,if_neg (by omega)]
def xM (m i:Nat) :Bool:=Nat.testBit m i
def sK (ms:List Nat) :List Edge->Nat
 | []=>0
 | e::es=>match Region.binds .any e with
  | true=>Nat.lor (Nat.lor (2 ^ e.on) (ms.getD e.on 0)) (sK ms es)
  | false=>sK ms es
def Wh (ms:List Nat) :List Oper->List Nat
 | []=>ms
 | o::os=>Wh (ms++[sK ms o.after.toList]) os
def hx (ops:Array Oper) :List Nat:=Wh [] ops.toList
def na (ms:List Nat) (i j:Nat) :Bool:=xM (ms.getD i 0) j
def i3:Op->Bool
 | .move _ | .assign _ | .pick .. | .alloc _ | .box .. | .build .. | .buildSlice .. | .load .. | .nilCheck _ | .binOp .. | .unOp .. | .convert .. | .makeInterface .. | .makeFunc .. | .makeSlice .. | .slice .. | .fieldAddr .. | .field .. | .indexAddr .. | .index .. | .extract ..=>false
 | .call c=>match c.callee with
  | .builtin .len | .builtin .cap | .builtin .min | .builtin .max=>false
  | _=>true
 | _=>true
def aig:Op->Bool
 | .move _ | .assign _ | .pick .. | .build .. | .load .. | .nilCheck _ | .binOp .. | .unOp .. | .convert .. | .makeInterface .. | .makeFunc .. | .slice .. | .fieldAddr .. | .field .. | .indexAddr .. | .index .. | .extract ..=>true
 | .call c=>match c.callee with
  | .builtin .len | .builtin .cap | .builtin .min | .builtin .max=>true
  | _=>false
 | _=>false
def Kc (done:Nat) (fv:Bool) :Nat->List Nat->List Oper->Option Nat
 | i,m::ms,o::os=>match !xM done i&&Nat.beq (Nat.land m done) m&&(i3 o.op == fv) with
  | true=>some i
  | false=>Kc done fv (i+1) ms os
 | _,_,_=>none
def MV (ms:List Nat) (os:List Oper) :Nat->Nat->List Nat
 | 0,_=>[]
 | k+1,done=>match Kc done false 0 ms os with
  | some i=>i::MV ms os k (Nat.lor done (2 ^ i))
  | none=>match Kc done true 0 ms os with
   | some i=>i::MV ms os k (Nat.lor done (2 ^ i))
   | none=>[]
def eV (ms:List Nat) (ops:Array Oper) :List Nat:=MV ms ops.toList ops.size 0
def AK (p:Nat->Oper->Bool) :Nat->List Oper->Bool
 | _,[]=>true
 | i,o::os=>p i o&&AK p (i+1) os
theorem NU {p:Nat->Oper->Bool}:∀ (l:List Oper) (i:Nat),AK p i l=true->∀ (j:Nat) (o:Oper),l[j]? = some o->p (i+j) o=true
 | [],i,_,j,o,h=>by simp at h
 | x::l,i,h,j,o,am=>by
  simp only[AK,Bool.and_eq_true] at h;cases j with
  | zero=>simp only[List.getElem?_cons_zero,Option.some.injEq] at am; subst am; exact h.1
  | succ j=>
   simp only[List.getElem?_cons_succ] at am;have:=NU l (i+1) h.2 j o am
   rwa [show i+1+j=i+(j+1) by omega] at this
def G5 (t:Nat) (o:Oper) :Bool:=match o.dst with | some d=>Nat.beq d t | none=>false
def vN (t:Nat) :Nat->List Oper->Option Nat
 | _,[]=>none
 | i,o::os=>match G5 t o with
  | true=>some i
  | false=>vN t (i+1) os
def G3 (ms:List Nat) (ops:Array Oper) :Bool:=
 AK (fun i o=>
  Nat.beq (ms.getD i 0) (sK ms o.after.toList) &&
  (o.after.toList.all fun e=>!Region.binds .any e||Nat.blt e.on i) &&
  (match o.dst with | some d=>(match vN d 0 ops.toList with | some j=>Nat.beq j i | none=>false) | none=>true) &&
  ((o.looksAt ops).all fun t=>match vN t 0 ops.toList with | some j=>na ms i j||na ms j i||Nat.beq j i | none=>true)) 0 ops.toList &&
 Region.noSelect ops
def Dc (ms:List Nat) :List Nat->Bool
 | []=>true
 | i::r=>(r.all fun j=>!Nat.beq i j&&!na ms i j)&&Dc ms r
def J4 (ms:List Nat) (ops:Array Oper) (iH:List Nat) :Bool:=
 G3 ms ops&&Dc ms iH&&Nat.beq iH.length ops.size&&(iH.all fun i=>Nat.blt i ops.size)&&(List.range ops.size).all fun i=>iH.contains i
structure abx where
 t:bN
 s:f0
 h:aM
section
variable (P:Program) (G:Nat->ae)
end
theorem Hb (ms:List Nat) (j:Nat) :∀ (es:List Edge),xM (sK ms es) j=true->∃ e∈es,Region.binds .any e=true/\(e.on=j\/na ms e.on j=true)
 | [],h=>by simp[sK,xM] at h
 | e::es,h=>by
  unfold sK at h;cases ai:Region.binds .any e with
  | false=>
   rw[ai] at h;obtain⟨eH,h1,af⟩:=Hb ms j es h;exact⟨eH,List.mem_cons_of_mem _ h1,af⟩
  | true=>
   rw[ai] at h;simp only[xM] at h;have h' : Nat.testBit ((2 ^ e.on ||| ms.getD e.on 0) ||| sK ms es) j=true:=h;rw[Nat.testBit_or,Nat.testBit_or,Bool.or_eq_true,Bool.or_eq_true,Nat.testBit_two_pow] at h';rcases h' with (h' | h') | h'
   ·exact⟨e,List.mem_cons_self,ai,.inl (by simpa using h')⟩
   ·exact⟨e,List.mem_cons_self,ai,.inr h'⟩
   ·obtain⟨eH,h1,af⟩:=Hb ms j es h';exact⟨eH,List.mem_cons_of_mem _ h1,af⟩
theorem abh (t:Nat) :∀ (l:List Oper) (i:Nat),vN t i l=((List.range l.length).find? fun j=>match l[j]? with | some o=>o.dst == some t | none=>false).map (·+i)
 | [],i=>by simp[vN]
 | o::l,i=>by
  unfold vN;have afG:G5 t o=(o.dst == some t) :=by
   unfold G5;cases o.dst with
   | none=>rfl
   | some d=>
    by_cases h:d=t
    ·subst h; simp
    ·have:Nat.beq d t=false:=io h;simp[this,h]
  rw[afG,List.length_cons,List.range_succ_eq_map,List.find?_cons];simp only[List.getElem?_cons_zero];cases ai:(o.dst == some t) with
  | true=>simp
  | false=>
   simp only[List.find?_map];rw[abh t l (i+1)];have:((fun j=>match (o::l)[j]? with | some o=>o.dst == some t | none=>false) ∘ Nat.succ)=fun j=>match l[j]? with | some o=>o.dst == some t | none=>false:=by
    funext j; simp
   rw[this];cases (List.range l.length).find? (fun j=>match l[j]? with | some o=>o.dst == some t | none=>false) with
   | none=>rfl
   | some j=>simp; omega
theorem abg (ops:Array Oper) (t:Nat) :vN t 0 ops.toList=ir ops t:=by
 rw[abh];unfold ir;simp only[Array.getElem?_toList,Array.length_toList,Nat.add_zero,Option.map_id_fun',id_eq];congr 1
theorem adG {ms:List Nat} {ops:Array Oper} (h:G3 ms ops=true) :qK ops (na ms) :=by
 unfold G3 at h;rw[Bool.and_eq_true] at h;obtain⟨h,ar⟩:=h;have key:∀ (i:Nat) (o:Oper),ops[i]? = some o->_:=fun i o ay=>NU _ 0 h i o (by simpa using ay)
 simp only[Nat.zero_add,Bool.and_eq_true] at key;refine⟨fun i o e ay aw ai=>?_,fun i o j ay aF=>?_,fun i o t ay bJ=>?_,fun i o t j ay aU bt=>?_,ar⟩
 ·have:=(key i o ay).1.1.2;rw[List.all_eq_true] at this;have:=this e (by simpa using aw);rw[ai] at this;simp only[Bool.not_true,Bool.false_or] at this;simpa [Nat.blt_eq] using this
 ·have:=i7 (key i o ay).1.1.1;have fz:xM (ms.getD i 0) j=true:=aF;rw[this] at fz;obtain⟨e,h1,af⟩:=Hb ms j _ fz;exact⟨e,by simpa using h1,af⟩
 ·have:=(key i o ay).1.2;rw[bJ] at this;simp only at this;rw[abg] at this;cases bt:ir ops t with
  | none=>rw[bt] at this; cases this
  | some j=>rw[bt] at this; simp only at this; rw[i7 this]
 ·have:=(key i o ay).2;rw[List.all_eq_true] at this;have:=this t aU;rw[abg,bt] at this;simp only[Bool.or_eq_true] at this;rcases this with (h1 | h1) | h1
  ·exact .inl h1
  ·exact .inr (.inl h1)
  ·exact .inr (.inr (i7 h1))
theorem Dd {ms:List Nat}:∀ {l:List Nat},Dc ms l=true->∀ (p bV:Nat) (i j:Nat),l[p]? = some i->l[bV]? = some j->p<bV->i≠j/\na ms i j=false
 | [],_,p,bV,i,j,aA,_,_=>by simp at aA
 | x::l,h,p,bV,i,j,aA,am,aN=>by
  simp only[Dc,Bool.and_eq_true,List.all_eq_true] at h;cases bV with
  | zero=>omega
  | succ bV=>
   simp only[List.getElem?_cons_succ] at am;cases p with
   | zero=>
    simp only[List.getElem?_cons_zero,Option.some.injEq] at aA;subst aA;have:=h.1 j (List.mem_of_getElem? am);simp only[Bool.not_eq_true'] at this;refine⟨fun aw=>?_,this.2⟩;subst aw;rw[qm rfl] at this;cases this.1
   | succ p=>
    simp only[List.getElem?_cons_succ] at aA;exact Dd h.2 p bV i j aA am (by omega)
section
variable {P:Program} {G:Nat->ae}
structure anW (P:Program) (G:Nat->ae) (ops:Array Oper) (e:abx) :Prop where
 step:ug P G ops ⟨look e.s,e.h⟩ e.t
 pure:∀ i v,e.t=.pure i v->∃ o,ops[i]? = some o/\aig o.op=true/\cV P e.h (cU G (look e.s)) o.op=some (.val v e.h)
theorem DE {ops:Array Oper} {s0:iw} {t:bN} {tr:List bN} (p:Nat) :fO ops s0 (t::tr) (p+1)=fO ops (kw ops s0 t) tr p:=by
 simp[fO]
end
section
variable {P:Program} {G:Nat->ae}
theorem ak6 (w:World) (R:Nat->Prop) (iT:∀ k,w.heap.size<=k->R k) :b5 R w.heap.size w aM.empty (fun _=>none) where
 blk:=fun b m hm=>by cases hm
 inj:=fun b bo m cp aq=>by rw[Bi] at aq; cases aq
 base:=fun b m aq=>by rw[Bi] at aq; cases aq
 fresh:=fun b _=>Bi b
 up:=iT
 size:=Nat.le_refl _
 jC:=fun b _=>rfl
theorem Ws (μ:cG) (k:Nat) :¬ j6 aM.empty μ k:=by
 rintro⟨b,m,aq,_⟩;rw[Bi] at aq; cases aq
theorem Nj (kp:P.follows .mixedOrders=true) (jn:∀ g,(G g).closed=true) {f:FuncId} {args:List ae} {r:ae} {h' : aM} (aw:dd P G (.call f args aM.empty r h'))
  {w:World} {A:Nat->Prop} {vs:Array Value} (az:∀ g,eN w A (G g) (.pointer (some ⟨g,0,none⟩))) (aq:vs.size=args.length)
  (ax:∀ (j:Nat) (c:ae) (v:Value),args[j]? = some c->vs[j]? = some v->eN w A c v) :
  Calls P f vs w fun e w'=>∃ v μ',e=.returned v/\vS w w'/\b5 (fun k=>A k\/w.heap.size<=k) w.heap.size w' h' μ'/\aP w' (fun k=>A k\/w.heap.size<=k) h' μ' r v:=by
 have up:∀ {c:ae} {v:Value},eN w A c v->aP w (fun k=>A k\/w.heap.size<=k) aM.empty (fun _=>none) c v:=fun ak=>ak.up (fun k _ aE=>⟨.inl aE,Ws _ k⟩)
 refine (alY kp jn aw (fun k=>A k\/w.heap.size<=k) w.heap.size w (fun _=>none) vs (ak6 w _ fun k aE=>.inr aE) (fun g=>⟨jn g,up (az g)⟩) aq (fun j c v am eI=>up (ax j c v am eI))).mono ?_;rintro e w' ⟨v,μ',rfl,ex,rel,aC⟩;exact⟨v,μ',rfl,⟨⟨ex.os,ex.tape,ex.output,ex.size,fun k aE=>ex.cM k aE (Ws _ k)⟩,ex.drawn⟩,rel,aC⟩
theorem amv (kp:P.follows .mixedOrders=true) (jn:∀ g,(G g).closed=true) {f:FuncId} {args:List ae} {h' : aM} (aw:dd P G (.call f args aM.empty (.bool true) h'))
  {w:World} {A:Nat->Prop} {vs:Array Value} (az:∀ g,eN w A (G g) (.pointer (some ⟨g,0,none⟩))) (aq:vs.size=args.length)
  (ax:∀ (j:Nat) (c:ae) (v:Value),args[j]? = some c->vs[j]? = some v->eN w A c v) :
  Calls P f vs w fun e w'=>e=.returned (.bool true)/\RowKit.Below w.heap.size w w':=by
 refine (Nj kp jn aw az aq ax).mono ?_;rintro e w' ⟨v,μ',rfl,ai,_,aC⟩;cases aC;exact⟨rfl,ai.toBelow⟩
end
section
variable {α:Type}
theorem tN:∀ (k k' : Nat) (t:cy α) (n:Nat) (x:α),n<k->n<k'->t.jb k n x=t.jb k' n x
 | 0,_,_,_,_,h,_=>by omega
 | _+1,0,_,_,_,_,h=>by omega
 | k+1,k'+1,t,n,x,h,h'=>by
  by_cases aQ:n=0
  ·subst aQ;cases t<;>rfl
  ·have ai:Nat.beq n 0=false:=io aQ;cases t with
   | nil=>
    unfold cy.jb;simp only[ai];rw[tN k k' .nil (n / 2) x (by omega) (by omega),tN k k' .nil (n / 2 - 1) x (by omega) (by omega)]
   | node l v r=>
    unfold cy.jb;simp only[ai];rw[tN k k' l (n / 2) x (by omega) (by omega),tN k k' r (n / 2 - 1) x (by omega) (by omega)]
def cy.lt:cy α->cy α | .nil=>.nil | .node l _ _=>l
def cy.rt:cy α->cy α | .nil=>.nil | .node _ _ r=>r
def cy.mid:cy α->Option α | .nil=>none | .node _ v _=>v
theorem pk (t:cy α) (x:α) :t.set 0 x=.node t.lt (some x) t.rt:=by cases t<;>rfl
theorem lM (t:cy α) (m:Nat) (x:α) :t.set (2*m+1) x=.node (t.lt.set m x) t.mid t.rt:=by
 have h1:Nat.beq (2*m+1) 0=false:=io (by omega);have af:Nat.beq ((2*m+1) % 2) 1=true:=qm (by omega);have ap:(2*m+1) / 2=m:=by omega
 cases t with
 | nil=>show cy.jb (2*m+1+1) .nil (2*m+1) x=_; unfold cy.jb; simp only[h1,af,ap]; rw[tN _ (m+1) _ _ _ (by omega) (by omega)]; rfl
 | node l v r=>show cy.jb (2*m+1+1) (.node l v r) (2*m+1) x=_; unfold cy.jb; simp only[h1,af,ap]; rw[tN _ (m+1) _ _ _ (by omega) (by omega)]; rfl
theorem lL (t:cy α) (m:Nat) (x:α) :t.set (2*m+2) x=.node t.lt t.mid (t.rt.set m x) :=by
 have h1:Nat.beq (2*m+2) 0=false:=io (by omega);have af:Nat.beq ((2*m+2) % 2) 1=false:=io (by omega);have ap:(2*m+2) / 2 - 1=m:=by omega
 cases t with
 | nil=>show cy.jb (2*m+2+1) .nil (2*m+2) x=_; unfold cy.jb; simp only[h1,af,ap]; rw[tN _ (m+1) _ _ _ (by omega) (by omega)]; rfl
 | node l v r=>show cy.jb (2*m+2+1) (.node l v r) (2*m+2) x=_; unfold cy.jb; simp only[h1,af,ap]; rw[tN _ (m+1) _ _ _ (by omega) (by omega)]; rfl
theorem JU (n:Nat) :n=0\/(∃ m,m<n/\n=2*m+1)\/∃ m,m<n/\n=2*m+2:=by
 rcases Nat.eq_zero_or_pos n with h | h
 ·exact .inl h
 ·rcases Nat.mod_two_eq_zero_or_one n with af | af
  ·exact .inr (.inr ⟨n / 2 - 1,by omega,by omega⟩)
  ·exact .inr (.inl ⟨n / 2,by omega,by omega⟩)
theorem alD (n:Nat) :∀ (t:cy α) (x y:α),(t.set n x).set n y=t.set n y:=by
 induction n using Nat.strongRecOn with
 | _ n aK=>
  intro t x y;rcases JU n with rfl | ⟨m,hm,rfl⟩ | ⟨m,hm,rfl⟩
  ·rw[pk t x,pk t y,pk]; rfl
  ·rw[lM t,lM t,lM]; simp only[cy.lt,cy.mid,cy.rt,aK m hm]
  ·rw[lL t,lL t,lL]; simp only[cy.lt,cy.mid,cy.rt,aK m hm]
theorem set_comm (n:Nat) :∀ (t:cy α) (k:Nat) (x y:α),n≠k->(t.set n x).set k y=(t.set k y).set n x:=by
 induction n using Nat.strongRecOn with
 | _ n aK=>
  intro t k x y b0;rcases JU n with rfl | ⟨m,hm,rfl⟩ | ⟨m,hm,rfl⟩<;>rcases JU k with rfl | ⟨j,am,rfl⟩ | ⟨j,am,rfl⟩
  ·exact absurd rfl b0
  ·rw[pk t,lM,lM t,pk]; rfl
  ·rw[pk t,lL,lL t,pk]; rfl
  ·rw[lM t,pk,pk t,lM]; rfl
  ·rw[lM t,lM,lM t,lM]; simp only[cy.lt,cy.mid,cy.rt]; rw[aK m hm _ j _ _ (by omega)]
  ·rw[lM t,lL,lL t,lM]; rfl
  ·rw[lL t,pk,pk t,lL]; rfl
  ·rw[lL t,lM,lM t,lL]; rfl
  ·rw[lL t,lL,lL t,lL]; simp only[cy.lt,cy.mid,cy.rt]; rw[aK m hm _ j _ _ (by omega)]
end
abbrev au:=List bg
def lx:Nat->cy bg->au->cy bg
 | _,t,[]=>t
 | i,t,c::cs=>lx (i+1) (t.set i c) cs
def bW (l:au) :aM:=⟨l.length,lx 0 .nil l⟩
@[simp] theorem Az (l:au) :(bW l).n=l.length:=rfl
theorem TF:∀ (l:au) (i:Nat) (t:cy bg) (c:bg),lx i t (l++[c])=(lx i t l).set (i+l.length) c
 | [],i,t,c=>rfl
 | x::l,i,t,c=>by
  simp only[List.cons_append,lx,List.length_cons];rw[TF l,show i+1+l.length=i+(l.length+1) by omega]
theorem lS (l:au) (c:bg) :(bW l).push c=bW (l++[c]) :=by
 unfold bW aM.push;rw[TF];simp
theorem TI:∀ (l:au) (i j:Nat) (t:cy bg) (c:bg),i<j->(lx j t l).set i c=lx j (t.set i c) l
 | [],_,_,_,_,_=>rfl
 | x::l,i,j,t,c,h=>by
  simp only[lx];rw[TI l i (j+1) _ c (by omega),set_comm j t i x c (by omega)]
theorem TH:∀ (l:au) (i b:Nat) (t:cy bg) (c:bg),b<l.length->(lx i t l).set (i+b) c=lx i t (l.set b c)
 | [],_,_,_,_,h=>by simp at h
 | x::l,i,0,t,c,_=>by
  simp only[lx,List.set_cons_zero,Nat.add_zero];rw[TI l i (i+1) _ c (by omega),alD]
 | x::l,i,b+1,t,c,h=>by
  simp only[lx,List.set_cons_succ];rw[<-TH l (i+1) b _ c (by simpa using h),show i+(b+1)=i+1+b by omega]
theorem nq {l:au} {b:Nat} (c:bg) (h:b<l.length) :(bW l).set b c=bW (l.set b c) :=by
 unfold bW aM.set;have:=TH l 0 b .nil c h;rw[Nat.zero_add] at this;simp only[this,List.length_set]
theorem TG:∀ (l:au) (i:Nat) (t:cy bg) (b:Nat),(lx i t l).get b=if i<=b/\b<i+l.length then l[b - i]? else t.get b
 | [],i,t,b=>by simp only[lx,List.length_nil]; rw[if_neg (by omega)]
 | x::l,i,t,b=>by
  simp only[lx,List.length_cons];rw[TG l,cy.Bu];by_cases h1:i+1<=b/\b<i+1+l.length
  ·rw[if_pos h1,if_pos (by omega),show b - i=(b - (i+1))+1 by omega,List.getElem?_cons_succ]
  ·rw[if_neg h1];by_cases af:b=i
   ·subst af; rw[if_pos rfl,if_pos (by omega)]; simp
   ·rw[if_neg af,if_neg (by omega)]
theorem la (l:au) (b:Nat) :(bW l).f b=match l[b]? with | some c=>c | none=>.none:=by
 unfold bW aM.f;simp only[TG,Nat.zero_le,true_and,Nat.zero_add,Nat.sub_zero];by_cases h:b<l.length
 ·rw[if_pos h]; cases l[b]?<;>rfl
 ·rw[if_neg h,List.getElem?_eq_none (by omega)]; rfl
theorem mC {l:au} {b n:Nat} {cs:List ae}:(bW l).f b=.cells n cs<->l[b]? = some (.cells n cs) :=by
 rw[la];cases h:l[b]? with
 | none=>simp
 | some c=>simp
theorem fg {l:au} {b:Nat} {c:bg} (h:l[b]? = some c) :b<l.length:=(List.getElem?_eq_some_iff.1 h).1
def d4 (l:au) :ae->Option (List ae × Nat)
 | .ptr b off sz=>match l[b]? with
  | some (.cells n cs)=>if n=sz then some (cs,off) else none
  | _=>none
 | .cn cs off=>some (cs,off)
 | _=>none
def qq (n:Nat) (cs:List ae) (off:Nat) :Option ae:=if off+n<=cs.length then some (.aS ((cs.drop off).take n)) else none
def iJ (n:Nat) (l:au) (p v:ae) :Option au:=
 match p,v.cells with
 | .ptr b off sz,some vs=>match l[b]? with
  | some (.cells m cs)=>if m=sz/\vs.length=n/\off+n<=m then some (l.set b (.cells m (bS cs off vs))) else none
  | _=>none
 | _,_=>none
def df (l:au) (z:Nat) :ae->Option (List ae × Nat)
 | .a6=>some ([],0)
 | .b6 db es=>if z=db then some (es.flatten,es.length) else none
 | .ao db b off len _ sz=>match l[b]? with
  | some (.cells n cs)=>if n=sz/\z=db then some ((cs.drop off).take (len*z),len) else none
  | _=>none
 | .str s=>if z=1 then some (s.map hZ,s.length) else none
 | _=>none
def hE (l:au) (z by_:Nat) (s:ae) (xs:List ae) (n:Nat) :Option (ae × au) :=
 if n=0 then (match s with | .a6 | .b6 .. | .ao ..=>some (s,l) | _=>none)
 else if z=0\/by_=0 then none else match s with
  | .a6=>if n*by_<=cJ then some (.ao z l.length 0 n n (n*z),l++[.cells (n*z) xs]) else none
  | .ao db b off len cap sz=>match l[b]? with
   | some (.cells m cs)=>
    if m=sz/\z=db/\(len+n)*by_<=cJ then
     if len+n<=cap then some (.ao z b off (len+n) cap sz,l.set b (.cells m (bS cs (off+len*z) xs)))
     else if off+cap*z<sz then some (.ao z l.length 0 (len+n) (len+n) ((len+n)*z),l++[.cells ((len+n)*z) ((cs.drop off).take (len*z)++xs)])
     else if off=0 then some (.ao z b 0 (len+n) (len+n) ((len+n)*z),l.set b (.cells ((len+n)*z) (cs.take (len*z)++xs)))
     else some (.ao z l.length 0 (len+n) (len+n) ((len+n)*z),l.set b .dead++[.cells ((len+n)*z) ((cs.drop off).take (len*z)++xs)])
    else none
   | _=>none
  | _=>none
def wj (z:Nat) (l:au) (d x:ae) :Option (ae × au) :=
 match df l z x with
 | none=>none
 | some (xs,n)=>match d with
  | .a6=>some (.int .i64 0,l)
  | .ao db b off len _ sz=>match l[b]? with
   | some (.cells m cs)=>if m=sz/\z=db then some (.int .i64 ((min n len:Nat) :Int),l.set b (.cells m (bS cs off (xs.take (min n len*z))))) else none
   | _=>none
  | _=>none
def qh (l:au) :ae->Option (List (ae × ae × Nat))
 | .gJ=>some []
 | .mp b=>match l[b]? with | some (.map es _)=>some es | _=>none
 | _=>none
def mH (l:au) (x:ae) :Option (List UInt8) :=match x with
 | .str s=>some s
 | x=>match df l 1 x with
  | some (cs,_)=>lj cs
  | none=>none
def cmpL (l:au) (x y:ae) :Option ae:=match mH l x,mH l y with
 | some a,some b=>some (.int .i64 (lX a b))
 | _,_=>none
def rV (l:au) (x:ae) :Option (ae × au) :=match x with
 | .it b=>match l[b]? with
  | some (.iter s pos)=>match Nat.blt pos s.length with
   | true=>some (.bU [.bool true,.int .i64 pos,.int .i32 (Utf8.decode ⟨s.toArray⟩ pos).1],l.set b (.iter s (pos+(Utf8.decode ⟨s.toArray⟩ pos).2)))
   | false=>some (.bU [.bool false],l)
  | _=>none
 | _=>none
def xC (l:au) (x:ae) :Option (ae × au) :=match x with
 | .str s=>some (.it l.length,l++[.iter s 0])
 | _=>none
def zC (l:au) (x:ae) :Option ae:=match x with
 | .gJ=>some (.int .i64 0)
 | .mp b=>match l[b]? with | some (.map es _)=>some (.int .i64 es.length) | _=>none
 | _=>none
def sD (zero:List ae) (l:au) :ae->Option au
 | .a6=>some l
 | .b6 _ []=>some l
 | .ao z b off len _ sz=>if len=0 then some l else match l[b]? with
  | some (.cells m cs)=>if m=sz/\zero.length=z then some (l.set b (.cells m (bS cs off (dp zero len)))) else none
  | _=>none
 | _=>none
theorem MB (l:au) (p:ae) :reach (bW l) p=d4 l p:=by
 cases p<;>try rfl
 rename_i b off sz;simp only[reach,d4,la];cases l[b]? with
 | none=>rfl
 | some c=>cases c<;>rfl
theorem yj (l:au) (z:Nat) (x:ae) :contents (bW l) z x=df l z x:=by
 cases x<;>try rfl
 rename_i db b off len cap sz;simp only[contents,df,la];cases l[b]? with
 | none=>rfl
 | some c=>cases c<;>rfl
section
variable (P:Program)
inductive ix where
 | arr (n z:Nat)
 | ao (z:Nat)
 | str
 deriving DecidableEq
def nh (t:TypeId) :Option ix:=match P.underlying t with
 | some (.array n e)=>(cv P e).map fun z=>.arr n z
 | some (.slice e)=>(cv P e).map fun z=>.ao z
 | some .string=>some .str
 | _=>none
inductive bb where
 | av (x:Operand)
 | pick (c a b:Operand)
 | alloc (zero:List ae)
 | box (x:Operand)
 | gA (zero:List ae) (cx:List (Nat × Nat × Operand))
 | c5 (z:Nat) (zero:List ae) (len:Nat) (cx:List (Nat × Operand))
 | ld1 (a:Operand)
 | bh (n:Nat) (a:Operand)
 | st (n:Nat) (a x:Operand)
 | lF (x:Operand)
 | bin (o:BinOp) (t:TypeId) (x y:Operand)
 | un (o:UnOp) (x:Operand)
 | cR (k:IntKind) (x:Operand)
 | wm (x:Operand)
 | qY (x:Operand)
 | pH (x:Operand)
 | rT (t:TypeId) (x:Operand)
 | xK (t:TypeId) (z:ae) (ok:Bool) (x:Operand)
 | qj (f:FuncId) (first e5:List Operand)
 | k2 (z by_:Nat) (zero:List ae) (l c:Operand)
 | slice (c3:ix) (x:Operand) (cI aA cF:Option Operand)
 | aW (off:Nat) (x:Operand)
 | yu (off:Nat) (x:Operand)
 | ww (n off:Nat) (x:Operand)
 | bq (c3:ix) (x i:Operand)
 | vf (n z:Nat) (x i:Operand)
 | zu (n z:Nat) (x i:Operand)
 | oZ (x i:Operand)
 | ext (x:Operand) (i:Nat)
 | len (c3:ix) (x:Operand)
 | cap (c3:ix) (x:Operand)
 | app (z by_:Nat) (s x:Operand)
 | pA (z by_:Nat) (zero:List ae) (s x:Operand)
 | sI (z:Nat) (d x:Operand)
 | qZ (zero:List ae) (x:Operand)
 | min (x y:Operand)
 | max (x y:Operand)
 | o9 (x:Option Operand)
 | rQ (cN:TypeId) (zero:ae) (ok:Bool) (m k:Operand)
 | qk (cN:TypeId) (m k x:Operand)
 | tn (x:Operand)
 | r5 (x:Operand)
 | rW (x:Operand)
 | cK (f:FuncId) (pM x y:Operand)
 | stop
def tp (l:au) (cN:TypeId) (zero:ae) (ok:Bool) (m k:ae) :Option ae:=
 match qh l m with
 | some es=>match jB P cN k with
  | false=>none
  | true=>match ig P cN k es 0 with
   | some (some (_,v))=>some (if ok then .bU [v,.bool true] else v)
   | some none=>some (if ok then .bU [zero,.bool false] else zero)
   | none=>none
 | none=>none
def qi (l:au) (cN:TypeId) (m k v:ae) :Option au:=
 match m with
 | .mp b=>match l[b]? with
  | some (.map es dW)=>match jB P cN k with
   | false=>none
   | true=>match ig P cN k es 0 with
    | some (some (i,_))=>some (l.set b (.map (es.modify i fun e=>(k,v,e.2.2)) dW))
    | some none=>some (l.set b (.map (es++[(k,v,dW)]) (dW+1)))
    | none=>none
  | _=>none
 | _=>none
def zs (f:FuncId) :ae->Bool | .fn g [] []=>Nat.beq g f | _=>false
def zO (c a b:ae) :Option ae:=match c with | .bool t=>some (if t then a else b) | _=>none
def vr (x:ae) :Option ae:=match x with | .ptr b o s=>some (.ptr b o s) | .cn c o=>some (.cn c o) | .fn f a b=>some (.fn f a b) | _=>none
def ny (zero:List ae) :List (Nat × Nat × ae)->Option (List ae)
 | []=>some zero
 | (off,size,v) ::r=>match v.cells with
  | some vs=>if vs.length=size/\off+size<=zero.length then ny (bS zero off vs) r else none
  | none=>none
def yc (k:IntKind) :ae->Option ae | .int _ n=>some (.int k (k.wrap n)) | _=>none
def Bd:ae->Option ae | .str s=>some (.str s) | _=>none
def sA (l:au) (x:ae) :Option ae:=match x with
 | .a6=>some (.str [])
 | .str _=>none
 | x=>match df l 1 x with | some (cs,_)=>(lj cs).map .str | none=>none
def sJ:ae->Option ae | .str s=>some (.b6 1 (s.map fun b=>[hZ b])) | _=>none
def pa (z by_:Nat) (zero:List ae) (aq:au) (l c:ae) :Option (ae × au) :=match l,c with
 | .int _ l,.int _ c=>if 0<=l/\l<=c/\c<9223372036854775808/\by_*c<=cJ then
   some (.ao z aq.length 0 l.toNat c.toNat (c.toNat*z),aq++[.cells (c.toNat*z) (dp zero c.toNat)]) else none
 | _,_=>none
def fN (c3:ix) (x:ae) (cI aA cF:Option ae) :Option ae:=
 match c3 with
 | .arr n z=>match f1 n n cI aA cF with
  | some (l,aR,m)=>match x with
   | .ptr b off sz=>if off+m*z<=sz then (if m=l then some (.b6 z []) else some (.ao z b (off+l*z) (aR - l) (m - l) sz)) else none
   | .cn cs off=>if off+n*z<=cs.length then some (.b6 z (ka z (aR - l) (cs.drop (off+l*z)))) else none
   | _=>none
  | none=>none
 | .ao z=>match x with
  | .ao db b off len cap sz=>if z=db then (f1 len cap cI aA cF).map fun (l,aR,m)=>if m=l then .ao z b (off+l*z) 0 0 sz else .ao z b (off+l*z) (aR - l) (m - l) sz else none
  | .b6 db es=>if z=db then (f1 es.length es.length cI aA cF).map fun (l,aR,_)=>.b6 z ((es.drop l).take (aR - l)) else none
  | .a6=>(f1 0 0 cI aA cF).map fun _=>.a6
  | _=>none
 | .str=>match x,cF with
  | .str s,none=>(f1 s.length s.length cI aA none).map fun (l,aR,_)=>.str ((s.drop l).take (aR - l))
  | _,_=>none
def yv (off:Nat) :ae->Option ae | .aS cs=>cs[off]? | _=>none
def wx (n off:Nat) :ae->Option ae | .aS cs=>qq n cs off | _=>none
def cO (c3:ix) (x hf:ae) :Option ae:=
 match hf with
 | .int _ i=>match c3 with
  | .arr n z=>if 0<=i/\i<n then lV x (i.toNat*z) else none
  | .ao z=>match x with
   | .ao db b off len _ sz=>if z=db/\0<=i/\i<len then some (.ptr b (off+i.toNat*z) sz) else none
   | .b6 db es=>if z=db/\0<=i then (es[i.toNat]?).map fun cs=>.cn cs 0 else none
   | _=>none
  | .str=>none
 | _=>none
def zw (n z:Nat) (x hf:ae) :Option ae:=match x,hf with
 | .aS cs,.int _ i=>if 0<=i/\i<n then cs[i.toNat*z]? else none
 | _,_=>none
def zx (n z:Nat) (x hf:ae) :Option ae:=match x,hf with
 | .aS cs,.int _ i=>if 0<=i/\i<n then qq z cs (i.toNat*z) else none
 | _,_=>none
def vg (x hf:ae) :Option ae:=match x,hf with
 | .str s,.int _ i=>if 0<=i then (s[i.toNat]?).map hZ else none
 | _,_=>none
def yt (x:ae) (i:Nat) :Option ae:=match x with | .bU vs=>vs[i]? | _=>none
def c9 (c3:ix) (x:ae) :Option ae:=match c3 with
 | .arr n _=>some (.int .i64 n)
 | .ao _=>match x with
  | .a6=>some (.int .i64 0)
  | .ao _ _ _ len _ _=>some (.int .i64 len)
  | .b6 _ es=>some (.int .i64 es.length)
  | _=>none
 | .str=>match x with | .str s=>some (.int .i64 s.length) | _=>none
def qX (c3:ix) (x:ae) :Option ae:=match c3 with
 | .arr n _=>some (.int .i64 n)
 | .ao _=>match x with | .a6=>some (.int .i64 0) | _=>none
 | .str=>none
def ie (l:au) (z by_:Nat) (s x:ae) :Option (ae × au) :=match df l z x with
 | none=>none
 | some (xs,n)=>hE l z by_ s xs n
def ow (l:au) (z by_:Nat) (zero:List ae) (s x:ae) :Option (ae × au) :=match x with
 | .int _ n=>if 0<=n/\n<9223372036854775808/\n.toNat*by_<=cJ then hE l z by_ s (dp zero n.toNat) n.toNat else none
 | _=>none
def di (l:au) (x:Option ae) :Option (ae × au) :=x.map fun v=>(v,l)
def bR (aD:Operand->ae) (l:au) :bb->Option (ae × au)
 | .av x=>some (aD x,l)
 | .pick c a b=>di l (zO (aD c) (aD a) (aD b))
 | .alloc zero=>some (.ptr l.length 0 zero.length,l++[.cells zero.length zero])
 | .box x=>(aD x).cells.map fun cs=>(.ptr l.length 0 cs.length,l++[.cells cs.length cs])
 | .gA zero cx=>di l ((ny zero (cx.map fun p=>(p.1,p.2.1,aD p.2.2))).map .aS)
 | .c5 z zero len cx=>(gF (fun i=>some (i*z,z)) (dp zero len) (cx.map fun p=>(p.1,aD p.2))).map fun cs=>(.ao z l.length 0 len len (len*z),l++[.cells (len*z) cs])
 | .ld1 a=>di l ((d4 l (aD a)).bind fun x=>x.1[x.2]?)
 | .bh n a=>di l ((d4 l (aD a)).bind fun x=>qq n x.1 x.2)
 | .st n a x=>(iJ n l (aD a) (aD x)).map fun l'=>(gv,l')
 | .lF x=>di l (vr (aD x))
 | .bin o t x y=>di l (fD P o t (aD x) (aD y))
 | .un o x=>di l (oh o (aD x))
 | .cR k x=>di l (yc k (aD x))
 | .wm x=>di l (Bd (aD x))
 | .qY x=>di l (sA l (aD x))
 | .pH x=>di l (sJ (aD x))
 | .rT t x=>some (.fH t (aD x),l)
 | .xK t z ok x=>di l (xL t z ok (aD x))
 | .qj f a b=>some (.fn f (a.map aD) (b.map aD),l)
 | .k2 z by_ zero a c=>pa z by_ zero l (aD a) (aD c)
 | .slice c3 x cI aA cF=>di l (fN c3 (aD x) (cI.map aD) (aA.map aD) (cF.map aD))
 | .aW off x=>di l (lV (aD x) off)
 | .yu off x=>di l (yv off (aD x))
 | .ww n off x=>di l (wx n off (aD x))
 | .bq c3 x i=>di l (cO c3 (aD x) (aD i))
 | .vf n z x i=>di l (zw n z (aD x) (aD i))
 | .zu n z x i=>di l (zx n z (aD x) (aD i))
 | .oZ x i=>di l (vg (aD x) (aD i))
 | .ext x i=>di l (yt (aD x) i)
 | .len c3 x=>di l (c9 c3 (aD x))
 | .cap c3 x=>di l (qX c3 (aD x))
 | .app z by_ s x=>ie l z by_ (aD s) (aD x)
 | .pA z by_ zero s x=>ow l z by_ zero (aD s) (aD x)
 | .sI z d x=>wj z l (aD d) (aD x)
 | .qZ zero x=>(sD zero l (aD x)).map fun l'=>(.bU [],l')
 | .min x y=>di l (xm (aD x) (aD y))
 | .max x y=>di l (rS (aD x) (aD y))
 | .o9 x=>match x with
  | none=>some (.mp l.length,l++[.map [] 0])
  | some o=>match asInt (aD o) with | some _=>some (.mp l.length,l++[.map [] 0]) | none=>none
 | .rQ cN zero ok m k=>di l (tp P l cN zero ok (aD m) (aD k))
 | .qk cN m k x=>(qi P l cN (aD m) (aD k) (aD x)).map fun l'=>(gv,l')
 | .tn x=>di l (zC l (aD x))
 | .r5 x=>xC l (aD x)
 | .rW x=>rV l (aD x)
 | .cK f pM x y=>match zs f (aD pM) with | true=>di l (cmpL l (aD x) (aD y)) | false=>none
 | .stop=>none
def Ex (t:TypeId) (cx:List (Nat × Operand)) :Option (List (Nat × Nat × Operand)) :=
 match P.underlying t with
 | some (.struct fs)=>if fs.toList.all fun f=>(cv P f.type).isSome then cx.mapM fun p=>(zP P fs p.1).map fun q=>(q.1,q.2,p.2) else none
 | some (.array _ e)=>(cv P e).map fun n=>cx.map fun p=>(p.1*n,n,p.2)
 | _=>none
def sF (b:Builtin) (ts:List TypeId) (args:List Operand) :Option bb:=
 match b,ts,args with
 | .len,[t],[x]=>match P.underlying t with
  | some (.map _ _)=>some (.tn x)
  | _=>(nh P t).map fun c3=>.len c3 x
 | .cap,[t],[x]=>(nh P t).map fun c3=>.cap c3 x
 | .append,[t,u],[s,x]=>match P.underlying u with
  | some (.int _)=>(hp P t).bind fun e=>(cv P e).bind fun z=>(iR P e).bind fun by_=>(gK P e).bind fun zero=>
    if zero.length=z/\qI P e=some z then some (.pA z by_ zero s x) else none
  | none=>none
  | _=>(hp P t).bind fun e=>(cv P e).bind fun z=>(iR P e).bind fun by_=>if qI P e=some z then some (.app z by_ s x) else none
 | .copy,[t,_],[d,x]=>(hp P t).bind fun e=>(cv P e).map fun z=>.sI z d x
 | .clear,[t],[x]=>match P.underlying t with
  | some (.slice e)=>(gK P e).map fun zero=>.qZ zero x
  | _=>none
 | .min,_,[x,y]=>some (.min x y)
 | .max,_,[x,y]=>some (.max x y)
 | _,_,_=>none
def lY:Op->Option bb
 | .move x | .assign x=>some (.av x)
 | .pick c a b=>some (.pick c a b)
 | .alloc t=>(gK P t).map .alloc
 | .box _ x=>some (.box x)
 | .build t cx=>(gK P t).bind fun zero=>(Ex P t cx.toList).map fun q=>.gA zero q
 | .buildSlice t len cx=>(hp P t).bind fun e=>(cv P e).bind fun z=>(gK P e).bind fun zero=>
   if zero.length=z/\len*z<=16777216 then some (.c5 z zero len cx.toList) else none
 | .load t a=>match dM P t,cv P t with
  | some true,some n=>some (.bh n a)
  | some false,_=>some (.ld1 a)
  | _,_=>none
 | .store t a x=>(cv P t).map fun n=>.st n a x
 | .nilCheck x=>some (.lF x)
 | .binOp o t x y _=>some (.bin o t x y)
 | .unOp o _ x=>some (.un o x)
 | .convert s d x=>match P.underlying s,P.underlying d with
  | some _,some (.int k)=>some (.cR k x)
  | some (.slice e),some .string=>match P.underlying e with
   | some (.int .u8)=>some (.qY x)
   | _=>none
  | some .string,some .string=>some (.wm x)
  | some .string,some (.slice e)=>match P.underlying e with
   | some (.int .u8)=>some (.pH x)
   | _=>none
  | _,_=>none
 | .makeInterface t x=>match P.underlying t with
  | some (.interface _) | none=>none
  | _=>some (.rT t x)
 | .makeFunc (.func f) a b=>some (.qj f a.toList b.toList)
 | .makeSlice t l c=>(hp P t).bind fun e=>(cv P e).bind fun z=>(iR P e).bind fun by_=>(gK P e).bind fun zero=>
   if zero.length=z then some (.k2 z by_ zero l c) else none
 | .slice t x cI aA cF=>(nh P t).map fun c3=>.slice c3 x cI aA cF
 | .fieldAddr s x f=>(uv P s f).bind fun fd=>match cv P fd.type with
  | some (_+1)=>some (.aW fd.offset x)
  | _=>none
 | .field t x f=>(uv P t f).bind fun fd=>match dM P fd.type,cv P fd.type with
  | some true,some n=>some (.ww n fd.offset x)
  | some false,_=>some (.yu fd.offset x)
  | _,_=>none
 | .indexAddr t x i=>match nh P t with
  | some (.arr n z)=>some (.bq (.arr n z) x i)
  | some (.ao z)=>some (.bq (.ao z) x i)
  | _=>none
 | .index t x i=>match P.underlying t with
  | some (.array n e)=>match cv P e,dM P e with
   | some z,some true=>some (.zu n z x i)
   | some z,some false=>some (.vf n z x i)
   | _,_=>none
  | some .string=>some (.oZ x i)
  | _=>none
 | .extract x i=>some (.ext x i)
 | .call c=>match c.callee with
  | .builtin b=>sF P b c.argTypes.toList c.args.toList
  | .value (.func f)=>match P.funcs[f]?,c.args.toList with
   | some fn,[x,y]=>if zr fn then some (.cK f (.func f) x y) else none
   | _,_=>none
  | _=>none
 | .makeMap t r=>match P.underlying t with | some (.map _ _)=>some (.o9 r) | _=>none
 | .lookup t m k ok=>match P.underlying t with | some (.map cN kK)=>(vQ P kK).map fun z=>.rQ cN z ok m k | _=>none
 | .mapUpdate t m k x | .insert t m k x=>match P.underlying t with | some (.map cN _)=>some (.qk cN m k x) | _=>none
 | .range t x=>match P.underlying t with | some .string=>some (.r5 x) | _=>none
 | .next it true=>some (.rW it)
 | .panic _=>some .stop
 | .typeAssert x _ t ok=>(DL P t).map fun z=>.xK t z ok x
 | _=>none
end
section
variable {P:Program}
theorem bind_some {α iu:Type} {x:Option α} {f:α->Option iu} {y:iu}:x.bind f=some y<->∃ a,x=some a/\f a=some y:=by cases x<;>simp
theorem map_some {α iu:Type} {x:Option α} {f:α->iu} {y:iu}:x.map f=some y<->∃ a,x=some a/\f a=y:=by cases x<;>simp
theorem fu {l l' : au} {x:Option ae} {v:ae}:di l x=some (v,l')<->x=some v/\l'=l:=by cases x<;>simp[di,eq_comm]
theorem he {α:Type} {p:Prop} [Decidable p] {x y:α}:(if p then some x else none)=some y<->p/\x=y:=by by_cases p<;>simp_all
theorem N6 {l l' : au} {e z by_ n:Nat} {s v:ae} {xs:List ae} (aB:qI P e=some z) (h:hE l z by_ s xs n=some (v,l')) :so P (bW l) e z by_ s xs n=some (v,bW l') :=by
 unfold hE at h;unfold so;by_cases aI:n=0
 ·rw[if_pos aI] at h ⊢;cases s<;>simp at h ⊢<;>simp[h]
 ·rw[if_neg aI] at h ⊢;by_cases aQ:z=0\/by_=0
  ·rw[if_pos aQ] at h; cases h
  ·rw[if_neg aQ] at h;rw[if_neg (by simp only[aB]; simpa using aQ)];cases s<;>simp only at h ⊢<;>try (cases h; done)
   case a6=>
    by_cases aC:n*by_<=cJ
    ·rw[if_pos aC] at h ⊢; cases h; rw[lS]; rfl
    ·rw[if_neg aC] at h; cases h
   case ao db b off len cap sz=>
    cases ai:l[b]? with
    | none=>rw[ai] at h; cases h
    | some c=>
     cases c<;>rw[ai] at h<;>(try simp only at h)<;>try (cases h; done)
     rename_i m cs;rw[mC.2 ai];simp only;by_cases h1:m=sz/\z=db/\(len+n)*by_<=cJ
     ·rw[if_pos h1] at h ⊢;by_cases af:len+n<=cap
      ·rw[if_pos af] at h ⊢; cases h; rw[nq _ (fg ai)]
      ·rw[if_neg af] at h ⊢;by_cases ap:off+cap*z<sz
       ·rw[if_pos ap] at h ⊢; cases h; rw[lS]; rfl
       ·rw[if_neg ap] at h ⊢;by_cases aH:off=0
        ·rw[if_pos aH] at h ⊢; cases h; rw[nq _ (fg ai)]
        ·rw[if_neg aH] at h ⊢; cases h;rw[nq _ (fg ai),lS]; rfl
     ·rw[if_neg h1] at h; cases h
theorem acq {t:TypeId} {cx:List (Nat × Operand)} {q:List (Nat × Nat × Operand)} (bp:Ex P t cx=some q) (aD:Operand->ae) (zero:List ae) (aB:gK P t=some zero) {cs:List ae}
  (ai:ny zero (q.map fun p=>(p.1,p.2.1,aD p.2.2))=some cs) :x7 P t (cx.map fun p=>(p.1,aD p.2))=some (.aS cs) :=by
 have fill:∀ (jF:Nat->Option (Nat × Nat)) (cx:List (Nat × Operand)) (q:List (Nat × Nat × Operand)) (zero:List ae),
   (cx.mapM fun p=>(jF p.1).map fun q=>(q.1,q.2,p.2))=some q->ny zero (q.map fun p=>(p.1,p.2.1,aD p.2.2))=some cs->gF jF zero (cx.map fun p=>(p.1,aD p.2))=some cs:=by
  intro jF cx
  induction cx with
  | nil=>intro q zero h1 af; simp at h1; subst h1; simpa [ny,gF] using af
  | cons p cx aK=>
   intro q zero h1 af;rw[List.mapM_cons] at h1;simp only[Option.bind_eq_bind,bind_some,map_some,Option.pure_def,Option.some.injEq] at h1;obtain⟨a,⟨eo,ap,rfl⟩,eT,aH,rfl⟩:=h1;simp only[List.map_cons,ny,gF,ap] at af ⊢;split at af
   ·rename_i vs ax;simp only[ax];split at af
    ·rename_i bc;rw[if_pos bc];exact aK _ _ aH af
    ·cases af
   ·cases af
 unfold Ex at bp;unfold x7;split at bp
 ·rename_i fs aL;rw[aB,aL];simp only;split at bp
  ·rename_i eP;rw[if_neg (by simp[eP])];rw[fill _ _ _ _ bp ai]; rfl
  ·cases bp
 ·rename_i n e aL;rw[map_some] at bp;obtain⟨ga,h1,rfl⟩:=bp;rw[aB,aL];simp only[h1];rw[fill (fun i=>some (i*ga,ga)) cx _ zero ?_ ai]; rfl;clear ai
  induction cx with
  | nil=>rfl
  | cons p cx aK=>rw[List.mapM_cons,aK]; rfl
 ·cases bp
theorem alK {t:TypeId} {c3:ix} (aU:nh P t=some c3) (x:ae) (cI aA cF:Option ae) :fN c3 x cI aA cF=Ae P t x cI aA cF:=by
 unfold nh at aU;unfold Ae;split at aU
 ·rename_i n e aL;rw[map_some] at aU;obtain⟨z,h1,rfl⟩:=aU;rw[aL]; simp only[h1,fN];cases f1 n n cI aA cF<;>rfl
 ·rename_i e aL;rw[map_some] at aU;obtain⟨z,h1,rfl⟩:=aU;rw[aL]; simp only[h1,fN];cases x<;>rfl
 ·rename_i aL;cases aU;rw[aL]; simp only[fN];cases x<;>cases cF<;>rfl
 ·cases aU
theorem aiM {t:TypeId} {c3:ix} (aU:nh P t=some c3) {x v:ae} (h:c9 c3 x=some v) :vk P t x=some v:=by
 unfold nh at aU;unfold vk;split at aU
 ·rename_i n e aL;rw[map_some] at aU;obtain⟨z,h1,rfl⟩:=aU;rw[aL]; simpa [c9] using h
 ·rename_i e aL;rw[map_some] at aU;obtain⟨z,h1,rfl⟩:=aU;rw[aL]; unfold c9 at h; cases x<;>simp_all
 ·rename_i aL;cases aU;rw[aL]; unfold c9 at h; cases x<;>simp_all
 ·cases aU
theorem acX {t:TypeId} {c3:ix} (aU:nh P t=some c3) {x v:ae} (h:qX c3 x=some v) :wa P t x=some v:=by
 unfold nh at aU;unfold wa;split at aU
 ·rename_i n e aL;rw[map_some] at aU;obtain⟨z,h1,rfl⟩:=aU;rw[aL]; simpa [qX] using h
 ·rename_i e aL;rw[map_some] at aU;obtain⟨z,h1,rfl⟩:=aU;rw[aL]; unfold qX at h; cases x<;>simp_all
 ·rename_i aL;cases aU;rw[aL]; unfold qX at h; cases x<;>simp_all
 ·cases aU
theorem UD {t:TypeId} {c3:ix} (aU:nh P t=some c3) {x i v:ae} (h:cO c3 x i=some v) :zp P t x i=some v:=by
 unfold nh at aU;unfold zp;unfold cO at h;cases i<;>(try simp only at h)<;>try (cases h; done)
 rename_i k i;split at aU
 ·rename_i n e aL;rw[map_some] at aU;obtain⟨z,h1,rfl⟩:=aU;rw[aL]; simpa [asInt,h1] using h
 ·rename_i e aL;rw[map_some] at aU;obtain⟨z,h1,rfl⟩:=aU;rw[aL]; simp only[asInt,h1]; simp only at h;cases x<;>simp only at h ⊢<;>first | exact h | cases h
 ·rename_i aL;cases aU;simp only at h;cases h
 ·cases aU
theorem ama {t:TypeId} {n:Nat} (ar:cv P t=some n) {l l' : au} {p v:ae} (h:iJ n l p v=some l') :xI P (bW l) t p v=some (bW l') :=by
 unfold iJ at h;unfold xI;cases p<;>(try simp only at h)<;>try (cases h; done)
 rename_i b off sz;cases ax:v.cells with
 | none=>rw[ax] at h; cases h
 | some vs=>
  rw[ax] at h;simp only[ar] at h ⊢;cases ai:l[b]? with
  | none=>rw[ai] at h; cases h
  | some c=>
   cases c<;>rw[ai] at h<;>(try simp only at h)<;>try (cases h; done)
   rename_i m cs;rw[mC.2 ai];simp only;rw[he] at h;obtain⟨h1,rfl⟩:=h;rw[if_pos h1,nq _ (fg ai)]
theorem adr {t e:TypeId} {z:Nat} (aw:hp P t=some e) (ar:cv P e=some z) {l l' : au} {d x v:ae} (h:wj z l d x=some (v,l')) :wi P (bW l) t d x=some (v,bW l') :=by
 unfold wj at h;unfold wi;rw[aw]; simp only[ar,yj];cases ak:df l z x with
 | none=>rw[ak] at h; cases h
 | some p=>
  obtain⟨xs,n⟩:=p;rw[ak] at h;simp only at h ⊢;cases d<;>simp only at h ⊢<;>try (cases h; done)
  case a6=>cases h; rfl
  case ao db b off len cap sz=>
   cases ai:l[b]? with
   | none=>rw[ai] at h; cases h
   | some c=>
    cases c<;>rw[ai] at h<;>(try simp only at h)<;>try (cases h; done)
    rename_i m cs;rw[mC.2 ai];simp only;rw[he] at h;obtain⟨h1,af⟩:=h;cases af;rw[if_pos h1,nq _ (fg ai)]
theorem ac9 {t e:TypeId} {zero:List ae} (aL:P.underlying t=some (.slice e)) (aB:gK P e=some zero) {l l' : au} {x:ae} (h:sD zero l x=some l') :wc P (bW l) t x=some (bW l') :=by
 unfold sD at h;unfold wc;rw[aL];cases x<;>(try simp only at h)<;>try (cases h; done)
 case a6=>cases h; rfl
 case b6 z es=>cases es<;>simp only at h<;>cases h; rfl
 case ao z b off len cap sz=>
  simp only;by_cases aQ:len=0
  ·rw[if_pos aQ] at h ⊢; cases h; rfl
  ·rw[if_neg aQ] at h ⊢;rw[aB];cases ai:l[b]? with
   | none=>rw[ai] at h; cases h
   | some c=>
    cases c<;>rw[ai] at h<;>(try simp only at h)<;>try (cases h; done)
    rename_i m cs;rw[mC.2 ai];simp only;rw[he] at h;obtain⟨h1,rfl⟩:=h;rw[if_pos h1,nq _ (fg ai)]
theorem We {t cN kK:TypeId} (aL:P.underlying t=some (.map cN kK)) {l l' : au} {m k x:ae} (h:qi P l cN m k x=some l') :vp P (bW l) t m k x=some (bW l') :=by
 unfold qi at h;unfold vp;rw[aL];cases m<;>(try simp only at h)<;>try (cases h; done)
 rename_i b;simp only[la];cases ai:l[b]? with
 | none=>rw[ai] at h; cases h
 | some c=>
  cases c<;>rw[ai] at h<;>simp only at h<;>try (cases h; done)
  rename_i es dW;simp only;cases aE:jB P cN k with
  | false=>rw[aE] at h; cases h
  | true=>
   rw[aE] at h;simp only at h ⊢;cases aJ:ig P cN k es 0 with
   | none=>rw[aJ] at h; cases h
   | some r=>
    rw[aJ] at h;cases r with
    | none=>cases h; simp only[nq _ (fg ai)]
    | some rL=>cases h; simp only[nq _ (fg ai)]
theorem aiR {t:TypeId} (h1:dM P t=some false) (h:aM) (p:ae) :qg P h t p=(reach h p).bind fun x=>x.1[x.2]?:=by
 unfold qg gR; rw[h1]; cases reach h p<;>rfl
theorem aiS {t:TypeId} {n:Nat} (h1:dM P t=some true) (af:cv P t=some n) (h:aM) (p:ae) :qg P h t p=(reach h p).bind fun x=>qq n x.1 x.2:=by
 unfold qg gR; rw[h1,af]; cases reach h p<;>rfl
theorem acG {b:Builtin} {ts:List TypeId} {args:List Operand} {m:bb} (hm:sF P b ts args=some m) {aD:Operand->ae} {l l' : au} {v:ae} (h:bR P aD l m=some (v,l')) :
  nz P (bW l) b ts (args.map aD)=some (.val v (bW l')) :=by
 unfold sF at hm;split at hm
 ·rename_i xS;split at hm
  ·rename_i k e aL;cases hm;simp only[bR,fu] at h;obtain⟨af,rfl⟩:=h;unfold zC at af;simp only[List.map_cons,List.map_nil,nz];cases aj:aD xS<;>rw[aj] at af<;>(try simp only at af)<;>try (cases af; done)
   ·cases af; simp[vk,vl,aL]
   ·rename_i b;cases ai:l'[b]? with
    | none=>rw[ai] at af; cases af
    | some c=>
     cases c<;>rw[ai] at af<;>simp only at af<;>try (cases af; done)
     cases af;simp[vl,aL,la,ai]
  ·rw[map_some] at hm;obtain⟨c3,h1,rfl⟩:=hm;simp only[bR,fu] at h;obtain⟨af,rfl⟩:=h;have ap:=aiM h1 af;have aH:∀ x,vl P (bW l') _ x=none:=fun x=>by
    unfold nh at h1;unfold vl;split at h1<;>first | (rename_i aL; rw[aL]; done) | (cases h1; done) | skip
    all_goals (rename_i aL; simp only[aL])
   simp only[List.map_cons,List.map_nil,nz,aH];simp[ap]
 ·rw[map_some] at hm;obtain⟨c3,h1,rfl⟩:=hm;simp only[bR,fu] at h;obtain⟨af,rfl⟩:=h;simp[nz,acX h1 af]
 ·rename_i t u s x;simp only[List.map_cons,List.map_nil,nz];split at hm
  ·rename_i aL;simp only[bind_some] at hm;obtain⟨e,h1,z,af,by_,ap,zero,aH,hm⟩:=hm;rw[he] at hm;obtain⟨⟨bc,bM⟩,rfl⟩:=hm;simp only[bR] at h;unfold ow at h;cases aj:aD x<;>rw[aj] at h<;>(try simp only at h)<;>try (cases h; done)
   rename_i k n;by_cases eE:0<=n/\n<9223372036854775808/\n.toNat*by_<=cJ
   ·rw[if_pos eE] at h;rw[aL];simp only[x3,h1,asInt,af,ap,aH];rw[if_pos ⟨bc,eE⟩,N6 bM h]; rfl
   ·rw[if_neg eE] at h; cases h
  ·cases hm
  ·rename_i aI aL;simp only[bind_some] at hm;obtain⟨e,h1,z,af,by_,ap,hm⟩:=hm;rw[he] at hm;obtain⟨bM,rfl⟩:=hm;simp only[bR] at h;unfold ie at h;cases ak:df l z (aD x) with
   | none=>rw[ak] at h; cases h
   | some p=>
    obtain⟨xs,n⟩:=p;rw[ak] at h;simp only at h;have:pB P (bW l) t (aD s) (aD x)=some (v,bW l') :=by
     simp only[pB,h1,af,ap,yj,ak];exact N6 bM h
    rw[this];cases bJ:P.underlying u with
    | none=>exact absurd bJ aL
    | some d=>
     cases d<;>first | rfl | (rename_i k; exact absurd bJ (aI k))
 ·simp only[bind_some,map_some] at hm;obtain⟨e,h1,z,af,rfl⟩:=hm;simp only[bR] at h;simp[nz,adr h1 af h]
 ·split at hm
  ·rename_i e aL;rw[map_some] at hm;obtain⟨zero,h1,rfl⟩:=hm;simp only[bR,map_some,Prod.mk.injEq] at h;obtain⟨cg,af,rfl,rfl⟩:=h;simp[nz,ac9 aL h1 af]
  ·cases hm
 ·cases hm;simp only[bR,fu] at h;obtain⟨af,rfl⟩:=h;simp[nz,af]
 ·cases hm;simp only[bR,fu] at h;obtain⟨af,rfl⟩:=h;simp[nz,af]
 ·cases hm
theorem J8 {t:TypeId} (h1:dM P t=some false) (cs:List ae) (off:Nat) :gR P t cs off=cs[off]?:=by unfold gR; rw[h1]
theorem WP {t:TypeId} {n:Nat} (h1:dM P t=some true) (af:cv P t=some n) (cs:List ae) (off:Nat) :gR P t cs off=qq n cs off:=by unfold gR; rw[h1,af]; rfl
theorem EC {s d:TypeId} {x:ae} (h:∀ e,P.underlying d=some (.slice e)->False) :v7 P s d x=none:=by
 unfold v7;split
 ·rename_i e ar bJ aj;exact (h e aj).elim
 ·rfl
theorem C2 {op:Op} {m:bb} (hm:lY P op=some m) {aD:Operand->ae} {l l' : au} {v:ae} (h:bR P aD l m=some (v,l')) :cV P (bW l) aD op=some (.val v (bW l')) :=by
 cases op<;>simp only[lY] at hm<;>try (cases hm; done)
 case move x=>cases hm; simp only[bR,Option.some.injEq,Prod.mk.injEq] at h; obtain⟨rfl,rfl⟩:=h; rfl
 case assign x=>cases hm; simp only[bR,Option.some.injEq,Prod.mk.injEq] at h; obtain⟨rfl,rfl⟩:=h; rfl
 case pick c a b=>
  cases hm; simp only[bR,fu] at h;obtain⟨af,rfl⟩:=h;simp only[cV];unfold zO at af;cases ak:aD c<;>rw[ak] at af<;>(try simp only at af)<;>try (cases af; done)
  cases af; rfl
 case alloc t=>
  rw[map_some] at hm;obtain⟨zero,h1,rfl⟩:=hm;simp only[bR,Option.some.injEq,Prod.mk.injEq] at h;obtain⟨rfl,rfl⟩:=h;simp only[cV,h1,lS]; rfl
 case box t x=>
  cases hm;simp only[bR,map_some,Prod.mk.injEq] at h;obtain⟨cs,h1,rfl,rfl⟩:=h;simp only[cV,h1,lS]; rfl
 case build t cx=>
  simp only[bind_some,map_some] at hm;obtain⟨zero,h1,q,af,rfl⟩:=hm;simp only[bR,fu,map_some] at h;obtain⟨⟨cs,ap,rfl⟩,rfl⟩:=h;simp only[cV,acq af aD zero h1 ap]; rfl
 case buildSlice t n cx=>
  simp only[bind_some] at hm;obtain⟨e,h1,z,af,zero,ap,hm⟩:=hm;rw[he] at hm;obtain⟨aH,rfl⟩:=hm;simp only[bR,map_some,Prod.mk.injEq] at h;obtain⟨cs,bc,rfl,rfl⟩:=h;simp only[cV,AW,h1,af,ap,if_pos aH,bc,lS]; rfl
 case load t a=>
  split at hm
  ·rename_i n h1 af;cases hm;simp only[bR,fu] at h;obtain⟨ap,rfl⟩:=h;simp only[cV,aiS h1 af,MB,ap]; rfl
  ·rename_i h1;cases hm;simp only[bR,fu] at h;obtain⟨ap,rfl⟩:=h;simp only[cV,aiR h1,MB,ap]; rfl
  ·cases hm
 case store t a x=>
  rw[map_some] at hm;obtain⟨n,h1,rfl⟩:=hm;simp only[bR,map_some,Prod.mk.injEq] at h;obtain⟨cg,af,rfl,rfl⟩:=h;simp only[cV,ama h1 af]; rfl
 case nilCheck x=>
  cases hm;simp only[bR,fu] at h;obtain⟨af,rfl⟩:=h;simp only[cV];unfold vr at af;cases ak:aD x<;>rw[ak] at af<;>simp only at af<;>first | (cases af; done) | (cases af; rfl)
 case binOp o t x y u=>
  cases hm;simp only[bR,fu] at h;obtain⟨af,rfl⟩:=h;simp only[cV,af]; rfl
 case unOp o t x=>
  cases hm;simp only[bR,fu] at h;obtain⟨af,rfl⟩:=h;simp only[cV,af]; rfl
 case convert s d x=>
  simp only[cV];split at hm
  ·rename_i g2 k ar bJ;cases hm;simp only[bR,fu] at h;obtain⟨af,rfl⟩:=h;rw[EC (fun e aw=>by rw[bJ] at aw; cases aw)];unfold yc at af;cases aj:aD x<;>rw[aj] at af<;>(try simp only at af)<;>try (cases af; done)
   cases af;simp only[ur,ar,bJ]; rfl
  ·rename_i e ar bJ;split at hm
   ·rename_i aw;cases hm;simp only[bR,fu] at h;obtain⟨af,rfl⟩:=h;rw[EC (fun e aw=>by rw[bJ] at aw; cases aw)];have:ur P (bW l') s d (aD x)=some v:=by
     rw[<-af];unfold ur sA;rw[ar,bJ];cases aj:aD x<;>(simp only[aw,yj])<;>(try rfl)<;>(rw[aj] at af; unfold sA at af; simp only at af)
     ·cases af
     all_goals (cases ak:df l' 1 _<;>rfl)
    rw[this]; rfl
   ·cases hm
  ·rename_i ar bJ;cases hm;simp only[bR,fu] at h;obtain⟨af,rfl⟩:=h;rw[EC (fun e aw=>by rw[bJ] at aw; cases aw)];unfold Bd at af;cases aj:aD x<;>rw[aj] at af<;>(try simp only at af)<;>try (cases af; done)
   cases af;simp only[ur,ar,bJ]; rfl
  ·rename_i e ar bJ;split at hm
   ·rename_i aw;cases hm;simp only[bR,fu] at h;obtain⟨af,rfl⟩:=h;unfold sJ at af;cases aj:aD x<;>rw[aj] at af<;>(try simp only at af)<;>try (cases af; done)
    cases af;simp only[v7,ar,bJ,aw]
   ·cases hm
  ·cases hm
 case makeInterface t x=>
  split at hm
  ·cases hm
  ·cases hm
  ·rename_i h1 af;cases hm;simp only[bR,Option.some.injEq,Prod.mk.injEq] at h;obtain⟨rfl,rfl⟩:=h;simp only[cV]
 case typeAssert x NA t ok=>
  rw[map_some] at hm;obtain⟨z,aB,rfl⟩:=hm;simp only[bR,fu] at h;obtain⟨af,rfl⟩:=h;simp only[cV,aB,af,Option.map_some]
 case makeFunc f a b=>
  cases f<;>simp only at hm<;>try (cases hm; done)
  cases hm;simp only[bR,Option.some.injEq,Prod.mk.injEq] at h;obtain⟨rfl,rfl⟩:=h;rfl
 case makeSlice t a c=>
  simp only[bind_some] at hm;obtain⟨e,h1,z,af,by_,ap,zero,aH,hm⟩:=hm;rw[he] at hm;obtain⟨bc,rfl⟩:=hm;simp only[bR] at h;unfold pa at h;cases aG:aD a<;>rw[aG] at h<;>(try simp only at h)<;>try (cases h; done)
  cases ak:aD c<;>rw[ak] at h<;>(try simp only at h)<;>try (cases h; done)
  rw[he] at h;obtain⟨bM,eE⟩:=h;cases eE;simp only[cV,aG,ak,CX,h1,asInt,af,ap,aH,if_pos (And.intro bc bM),lS]; rfl
 case slice t x cI aA cF=>
  rw[map_some] at hm;obtain⟨c3,h1,rfl⟩:=hm;simp only[bR,fu] at h;obtain⟨af,rfl⟩:=h;rw[alK h1] at af;simp only[cV,af]; rfl
 case fieldAddr s x f=>
  rw[bind_some] at hm;obtain⟨fd,h1,hm⟩:=hm;split at hm
  ·rename_i n af;cases hm;simp only[bR,fu] at h;obtain⟨ap,rfl⟩:=h;simp only[cV,Bn,h1,af,ap]; rfl
  ·cases hm
 case field t x f=>
  rw[bind_some] at hm;obtain⟨fd,h1,hm⟩:=hm;split at hm
  ·rename_i n af ap;cases hm;simp only[bR,fu] at h;obtain⟨aH,rfl⟩:=h;unfold wx at aH;cases aj:aD x<;>rw[aj] at aH<;>(try simp only at aH)<;>try (cases aH; done)
   simp only[cV,aj,h1,WP af ap,aH]; rfl
  ·rename_i af;cases hm;simp only[bR,fu] at h;obtain⟨aH,rfl⟩:=h;unfold yv at aH;cases aj:aD x<;>rw[aj] at aH<;>(try simp only at aH)<;>try (cases aH; done)
   simp only[cV,aj,h1,J8 af,aH]; rfl
  ·cases hm
 case indexAddr t x i=>
  split at hm
  ·rename_i n z h1;cases hm;simp only[bR,fu] at h;obtain⟨af,rfl⟩:=h;simp only[cV,UD h1 af]; rfl
  ·rename_i z h1;cases hm;simp only[bR,fu] at h;obtain⟨af,rfl⟩:=h;simp only[cV,UD h1 af]; rfl
  ·cases hm
 case index t x i=>
  split at hm
  ·rename_i n e aL;split at hm
   ·rename_i z h1 af;cases hm;simp only[bR,fu] at h;obtain⟨ap,rfl⟩:=h;unfold zx at ap;cases aj:aD x<;>rw[aj] at ap<;>(try simp only at ap)<;>try (cases ap; done)
    cases aA:aD i<;>rw[aA] at ap<;>(try simp only at ap)<;>try (cases ap; done)
    simp only[cV,xi,aj,aA,aL,asInt,h1,WP af h1,ap]; rfl
   ·rename_i z h1 af;cases hm;simp only[bR,fu] at h;obtain⟨ap,rfl⟩:=h;unfold zw at ap;cases aj:aD x<;>rw[aj] at ap<;>(try simp only at ap)<;>try (cases ap; done)
    cases aA:aD i<;>rw[aA] at ap<;>(try simp only at ap)<;>try (cases ap; done)
    simp only[cV,xi,aj,aA,aL,asInt,h1,J8 af,ap]; rfl
   ·cases hm
  ·rename_i aL;cases hm;simp only[bR,fu] at h;obtain⟨ap,rfl⟩:=h;unfold vg at ap;cases aj:aD x<;>rw[aj] at ap<;>(try simp only at ap)<;>try (cases ap; done)
   cases aA:aD i<;>rw[aA] at ap<;>(try simp only at ap)<;>try (cases ap; done)
   simp only[cV,xi,aj,aA,aL,asInt,ap]; rfl
  ·cases hm
 case extract x i=>
  cases hm;simp only[bR,fu] at h;obtain⟨af,rfl⟩:=h;unfold yt at af;cases aj:aD x<;>rw[aj] at af<;>(try simp only at af)<;>try (cases af; done)
  simp only[cV,aj,af]; rfl
 case call c=>
  split at hm
  ·rename_i b ai;simp only[cV,sv,ai];exact acG hm h
  ·rename_i f aJ;split at hm
   ·rename_i fn x y iW BO;rw[he] at hm;obtain⟨aA,rfl⟩:=hm;simp only[bR] at h;split at h
    case h_2=>cases h
    rename_i Cc;rw[fu] at h;obtain⟨af,rfl⟩:=h;unfold cmpL at af;have fi:∀ x,pE (bW l') x=mH l' x:=fun x=>by
     cases x<;>simp only[pE,mH,yj]<;>rfl
    have p2:¬(fn.body.isSome=true/\fn.name≠ "runtime.NumGoroutine") :=by
     rintro⟨a,_⟩;unfold zr at aA;simp only[Bool.and_eq_true] at aA;rw[Option.isNone_iff_eq_none.1 aA.1.1] at a; cases a
    have yQ:aD (.func f)=.fn f [] [] :=by
     unfold zs at Cc;split at Cc
     ·rename_i g az; rw[az,Nat.eq_of_beq_eq_true Cc]
     ·cases Cc
    simp only[cV,sv,aJ,yQ,iW,if_neg p2,if_pos aA,BO,List.map_cons,List.map_nil,List.nil_append,List.append_nil,yh,fi];cases aG:mH l' (aD x) with
    | none=>rw[aG] at af; cases af
    | some a=>
     cases ai:mH l' (aD y) with
     | none=>rw[aG,ai] at af; cases af
     | some b=>rw[aG,ai] at af; cases af; rfl
   ·cases hm
  ·cases hm
 case panic x=>cases hm; cases h
 case makeMap t r=>
  split at hm
  ·rename_i k e aL;cases hm;simp only[bR] at h;cases r with
   | none=>cases h; simp[cV,aL,lS]
   | some x=>
    simp only at h;cases aj:asInt (aD x) with
    | none=>rw[aj] at h; cases h
    | some n=>rw[aj] at h; cases h; simp[cV,aL,aj,lS]
  ·cases hm
 case lookup t m k ok=>
  split at hm
  ·rename_i cN kK aL;rw[map_some] at hm;obtain⟨z,aB,rfl⟩:=hm;simp only[bR,fu] at h;obtain⟨af,rfl⟩:=h;have y4:∀ x,mapOf (bW l') x=qh l' x:=fun x=>by
    cases x<;>try rfl
    rename_i b;simp only[mapOf,qh,la];cases l'[b]? with
    | none=>rfl
    | some c=>cases c<;>rfl
   unfold tp at af;simp only[cV,CV,aL,y4];cases ij:qh l' (aD m) with
   | none=>rw[ij] at af; cases af
   | some es=>
    rw[ij] at af;simp only at af ⊢;cases aE:jB P cN (aD k) with
    | false=>rw[aE] at af; cases af
    | true=>
     rw[aE] at af;simp only at af ⊢;cases aJ:ig P cN (aD k) es 0 with
     | none=>rw[aJ] at af; cases af
     | some r=>
      rw[aJ] at af;cases r with
      | none=>cases af; simp[aB]
      | some rL=>cases af; rfl
  ·cases hm
 case mapUpdate t m k x=>
  split at hm
  ·rename_i cN kK aL;cases hm;simp only[bR,map_some] at h;obtain⟨cg,af,ap⟩:=h;cases ap;simp only[cV,We aL af]; rfl
  ·cases hm
 case insert t m k x=>
  split at hm
  ·rename_i cN kK aL;cases hm;simp only[bR,map_some] at h;obtain⟨cg,af,ap⟩:=h;cases ap;simp only[cV,We aL af]; rfl
  ·cases hm
 case range t x=>
  split at hm
  ·rename_i aL;cases hm;simp only[bR] at h;unfold xC at h;cases aj:aD x<;>rw[aj] at h<;>(try simp only at h)<;>try (cases h; done)
   cases h;simp[cV,Dr,aL,aj,lS]
  ·cases hm
 case next it b=>
  cases b with
  | false=>cases hm
  | true=>
   cases hm;simp only[bR] at h;unfold rV at h;simp only[cV,xo];cases aj:aD it<;>rw[aj] at h<;>(try simp only at h)<;>try (cases h; done)
   rename_i b;simp only[la];cases ai:l[b]? with
   | none=>rw[ai] at h; cases h
   | some c=>
    cases c<;>rw[ai] at h<;>simp only at h<;>try (cases h; done)
    simp only;split at h
    ·rename_i aN; cases h; rw[aN]; simp only[Option.map_some,nq _ (fg ai)]
    ·rename_i aN; cases h; rw[aN]; rfl
end
abbrev bj:=Nat->ae
abbrev gg:=pu->bj->au->Prop
class NE (α:Type) where
 k:α->Prop
class xX where
 p:Prop
 q:Prop
class uc where
 k:ae->au->Prop
class D2 where
 k:gg
def W {α:Type} (o:Option α) [c:NE α] :Prop:=match o with | some v=>c.k v | none=>False
def o2 (b:Bool) [c:xX] :Prop:=match b with | true=>c.p | false=>c.q
def vj (x:ae) [c:xX] :Prop:=match x with | .bool b=>o2 b (c:=c) | _=>False
def o1 (x:ae) (w:Bool) [c:xX] :Prop:=match x with | .bool b=>o2 (b == w) (c:=c) | .bad=>False | _=>c.q
inductive oo where
 | c2 (m:bb)
 | dq (f:FuncId) (args:List Operand)
 | hn (x:Operand) (args:List Operand)
 | mI (x:Operand) (name:String) (args:List Operand)
structure dL where
 i:Nat
 dst:Option Tmp
 g:Option (Option Tmp × Bool)
 b:oo
 hG:List Nat
 cM:Bool
inductive aX where
 | skip
 | ret
 | exit (id:Nat)
 | al (s:List dL)
 | ho (s:List dL)
 | seq (a b:aX)
 | cond (c:Operand) (x y:aX)
 | block (id:Nat) (c:aX)
 | loop (c:aX)
section
variable (P:Program) (G:Nat->ae)
def iS (f:FuncId) :Bool:=match P.funcs[f]? with | some fn=>fn.body.isSome&&fn.name != "runtime.NumGoroutine" | none=>false
def dB (f:FuncId) (args:List ae) (l:au) [c:uc] :Prop:=∃ r l',dd P G (.call f args (bW l) r (bW l'))/\l.length<=l'.length/\c.k r l'
def sx (x:ae) (args:List ae) (l:au) [c:uc] :Prop:=match x with
 | .fn g first e5=>iS P g=true/\dB P G g (first++args++e5) l (c:=c)
 | _=>False
def sw (name:String) (x:ae) (args:List ae) (l:au) [c:uc] :Prop:=match x with
 | .fH t v=>match vq P t name with
  | some g=>iS P g=true/\dB P G g (v::args) l (c:=c)
  | none=>False
 | _=>False
def du (v:ae) (l:au) [c:uc] :Prop:=c.k v l\/∃ dx cg,ov (bW l) (bW cg)/\ou (bW l) (bW cg) v dx/\c.k dx cg
def dS (m:bb) (v:ae) (l:au) (K:ae->au->Prop) :Prop:=match m with
 | .app ..=>du v l (c:=⟨K⟩)
 | _=>K v l
def gU (b:oo) (ah:bj) (l:au) (K:ae->au->Prop) :Prop:=match b with
 | .c2 m=>W (bR P (cU G ah) l m) (c:=⟨fun x=>dS m x.1 x.2 K⟩)
 | .dq f args=>dB P G f (args.map (cU G ah)) l (c:=⟨K⟩)
 | .hn x args=>sx P G (cU G ah x) (args.map (cU G ah)) l (c:=⟨K⟩)
 | .mI x name args=>sw P G name (cU G ah x) (args.map (cU G ah)) l (c:=⟨K⟩)
def n3 (ah:bj) (g:Option (Option Tmp × Bool)) (p q:Prop) :Prop:=match g with
 | none=>p
 | some (some d,w)=>o1 (ah d) w (c:=⟨p,q⟩)
 | some (none,_)=>q
def ic:List dL->bj->au->(bj->au->Prop)->Prop
 | [],ah,l,K=>K ah l
 | s::r,ah,l,K=>n3 ah s.g (gU P G s.b ah l fun v l'=>ic r (gp ah s.dst v) l' K) (ic r (gp ah s.dst gv) l K)
abbrev hj:=List (Nat × (au->Prop))
def nB (ids:List Nat) :hj->au->Prop
 | [],_=>True
 | e::r,l=>(ids.contains e.1=true->e.2 l)/\nB ids r l
def bb.hP:bb->Bool
 | .alloc _ | .box _ | .c5 .. | .k2 ..=>true
 | _=>false
def jZ (b:oo) (ah:bj) (v:ae) (l l' l1:au) :Prop:=match b with
 | .c2 m=>match m.hP with
  | true=>l1[l.length]? = l'[l.length]?
  | false=>bR P (cU G ah) l1 m=some (v,l1)
 | _=>True
def pj (cM:Bool) (i:Nat) (p:au->Prop) (s:hj) :hj:=match cM with | true=>(i,p) ::s | false=>s
def iq:List dL->bj->au->hj->(bj->au->Prop)->Prop
 | [],ah,l,_,K=>K ah l
 | s::r,ah,l,seen,K=>n3 ah s.g (gU P G s.b ah l fun v l'=>nB s.hG seen l'/\iq r (gp ah s.dst v) l' (pj s.cM s.i (jZ P G s.b ah v l l') seen) K) (iq r (gp ah s.dst gv) l seen K)
def ml (k:bj->au->Prop) (K:gg) :gg:=fun e ah l=>match e with
 | .normal=>k ah l
 | .exit id=>K (.exit id) ah l
 | .ret=>K .ret ah l
def o0 (id:Nat) (K:gg) :gg:=fun e ah l=>match e with
 | .normal=>K .normal ah l
 | .exit qd=>match Nat.beq qd id with | true=>K .normal ah l | false=>K (.exit qd) ah l
 | .ret=>K .ret ah l
def xl (r:bj->au->gg->Prop) :Nat->bj->au->gg->Prop
 | 0=>fun _ _ _=>False
 | n+1=>fun ah l K=>r ah l (ml (fun ah l=>xl r n ah l K) K)
def AB (r:bj->au->gg->Prop) (ah:bj) (l:au) [c:D2] :Prop:=∃ n,xl r n ah l c.k
def run:aX->bj->au->gg->Prop
 | .skip,ah,l,K=>K .normal ah l
 | .ret,ah,l,K=>K .ret ah l
 | .exit id,ah,l,K=>K (.exit id) ah l
 | .al s,ah,l,K=>ic P G s ah l (K .normal)
 | .ho s,ah,l,K=>iq P G s ah l [] (K .normal)
 | .seq a b,ah,l,K=>run a ah l (ml (fun ah l=>run b ah l K) K)
 | .cond c x y,ah,l,K=>vj (cU G ah c) (c:=⟨run x ah l K,run y ah l K⟩)
 | .block id c,ah,l,K=>run c ah l (o0 id K)
 | .loop c,ah,l,K=>AB (run c) ah l (c:=⟨K⟩)
def Ag (ops:Array Oper) (i:Nat) (hG:List Nat) (cM:Bool) :Option dL:=(ops[i]?).bind fun o=>
 let g:=o.guard.map fun n2=>((ops[n2.1]?).bind (·.dst),n2.2)
 match lY P o.op with
 | some m=>some ⟨i,o.dst,g,.c2 m,hG,cM⟩
 | none=>match o.op with
  | .call c=>match c.callee with
   | .value (.func f)=>match iS P f with
    | true=>some ⟨i,o.dst,g,.dq f c.args.toList,hG,cM⟩
    | false=>none
   | .value x=>some ⟨i,o.dst,g,.hn x c.args.toList,hG,cM⟩
   | .invoke x name=>some ⟨i,o.dst,g,.mI x name c.args.toList,hG,cM⟩
   | _=>none
  | _=>none
def qF:Op->Bool
 | .load .. | .convert .. | .alloc _ | .box .. | .buildSlice .. | .makeSlice ..=>true
 | .call c=>match c.callee,c.argTypes.toList with
  | .builtin .len,[t]=>match P.underlying t with | some (.map _ _)=>true | _=>false
  | _,_=>false
 | _=>false
def ac5 (ms:List Nat) (ops:Array Oper) (done jl:List Nat) :List Nat:=
 done.filter fun j=>(match ops[j]? with | some o=>qF P o.op | none=>false)&&jl.all fun e=>!na ms e j
def mo (ms:List Nat) (ops:Array Oper) :List Nat->List Nat->List Nat->List (Nat × List Nat)
 | [],_,_=>[]
 | i::r,done,jl=>match ops[i]? with
  | none=>[]
  | some o=>match i3 o.op with
   | true=>(i,ac5 P ms ops done (i::jl)) ::mo ms ops r (i::done) (match o.guard with | none=>i::jl | some _=>jl)
   | false=>(i,[]) ::mo ms ops r (i::done) jl
def yn (ms:List Nat) (ops:Array Oper) :List Nat->Bool
 | []=>true
 | i::r=>(match ops[i]? with | some o=>!i3 o.op||r.all fun j=>na ms j i | none=>false)&&yn ms ops r
def G2 (N:Nat) (ops:Array Oper) (draw:Bool) :Option aX:=
 match ops.toList.all fun o=>nE N o.dst with
 | false=>none
 | true=>match draw with
  | false=>((List.range ops.size).mapM fun i=>Ag P ops i [] false).map .al
  | true=>
   let ms:=hx ops
   let iH:=eV ms ops
   match J4 ms ops iH&&yn ms ops iH with
   | false=>none
   | true=>
    let WU:=mo P ms ops iH [] []
    let ask:=WU.flatMap (·.2)
    match WU.mapM fun p=>Ag P ops p.1 p.2 (ask.contains p.1) with
    | none=>none
    | some s=>match ask with
     | []=>some (.al s)
     | _=>some (.ho s)
def comp (N:Nat) :Code->Option aX
 | .skip=>some .skip
 | .label _=>some .skip
 | .ret=>some .ret
 | .exit id=>some (.exit id)
 | .region _ ops draw=>G2 P N ops draw
 | .seq a b=>match comp N a,comp N b with
  | some .skip,some b=>some b
  | some a,some .skip=>some a
  | some a,some b=>some (.seq a b)
  | _,_=>none
 | .cond c x y=>match comp N x,comp N y with
  | some x,some y=>some (.cond c x y)
  | _,_=>none
 | .block id c=>(comp N c).map (.block id)
 | .loop c=>(comp N c).map .loop
 | .scope c=>comp N c
 | _=>none
def bB (f:FuncId) :Option aX:=match P.funcs[f]? with
 | some fn=>match fn.body with
  | some c=>comp P fn.ntmps c
  | none=>none
 | none=>none
end
section
variable {P:Program} {G:Nat->ae}
theorem N5 {l l' : au} {z by_ n:Nat} {s v:ae} {xs:List ae} (h:hE l z by_ s xs n=some (v,l')) :l.length<=l'.length:=by
 unfold hE at h
 repeat' split at h
 all_goals first | (cases h; done) | (cases h; simp)
theorem Wm {aD:Operand->ae} {l l' : au} {m:bb} {v:ae} (h:bR P aD l m=some (v,l')) :l.length<=l'.length:=by
 cases m<;>simp only[bR,fu,map_some,Option.some.injEq,Prod.mk.injEq] at h
 case av=>obtain⟨_,rfl⟩:=h; exact Nat.le_refl _
 case alloc=>obtain⟨_,rfl⟩:=h; simp
 case box=>obtain⟨_,_,_,rfl⟩:=h; simp
 case c5=>obtain⟨_,_,_,rfl⟩:=h; simp
 case st n a x=>
  obtain⟨_,h,_,rfl⟩:=h;unfold iJ at h
  repeat' split at h
  all_goals first | (cases h; done) | (cases h; simp)
 case rT=>obtain⟨_,rfl⟩:=h; exact Nat.le_refl _
 case qj=>obtain⟨_,rfl⟩:=h; exact Nat.le_refl _
 case k2=>
  unfold pa at h
  repeat' split at h
  all_goals first | (cases h; done) | (cases h; simp)
 case app=>
  unfold ie at h;split at h
  ·cases h
  ·exact N5 h
 case pA=>
  unfold ow at h
  repeat' split at h
  all_goals first | (cases h; done) | exact N5 h
 case sI=>
  unfold wj at h
  repeat' split at h
  all_goals first | (cases h; done) | (cases h; simp)
 case qZ=>
  obtain⟨_,h,_,rfl⟩:=h;unfold sD at h
  repeat' split at h
  all_goals first | (cases h; done) | (cases h; simp)
 case stop=>cases h
 case o9 x=>
  cases x with
  | none=>cases h; simp
  | some o=>
   simp only at h;split at h
   ·cases h; simp
   ·cases h
 case qk=>
  obtain⟨_,h,_,rfl⟩:=h;unfold qi at h
  repeat' split at h
  all_goals first | (cases h; done) | (cases h; simp)
 case r5=>
  unfold xC at h
  repeat' split at h
  all_goals first | (cases h; done) | (cases h; simp)
 case rW=>
  unfold rV at h
  repeat' split at h
  all_goals first | (cases h; done) | (cases h; simp)
 case cK=>
  split at h
  ·rw[fu] at h; obtain⟨_,rfl⟩:=h; exact Nat.le_refl _
  ·cases h
 all_goals (obtain⟨_,rfl⟩:=h; exact Nat.le_refl _)
theorem vX {α:Type} {o:Option α} {c:NE α}:W o (c:=c)<->∃ v,o=some v/\c.k v:=by
 unfold W; cases o<;>simp
theorem zz {b:Bool} {c:xX}:o2 b (c:=c)<->(b=true/\c.p)\/(b=false/\c.q) :=by cases b<;>simp[o2]
structure nu (P:Program) (ops:Array Oper) (s:dL) (o:Oper) :Prop where
 here:ops[s.i]? = some o
 dst:s.dst=o.dst
 g:s.g=o.guard.map fun n2=>((ops[n2.1]?).bind (·.dst),n2.2)
 c2:∀ m,s.b=.c2 m->lY P o.op=some m
 dq:∀ f args,s.b=.dq f args->∃ c:Call,o.op=.call c/\c.callee=.value (.func f)/\c.args.toList=args/\iS P f=true
 hn:∀ x args,s.b=.hn x args->∃ c:Call,o.op=.call c/\c.callee=.value x/\c.args.toList=args
 mI:∀ x name args,s.b=.mI x name args->∃ c:Call,o.op=.call c/\c.callee=.invoke x name/\c.args.toList=args
theorem DG {ops:Array Oper} {i:Nat} {hG:List Nat} {cM:Bool} {s:dL} (h:Ag P ops i hG cM=some s) :∃ o,nu P ops s o/\s.i=i/\s.hG=hG/\s.cM=cM:=by
 unfold Ag at h;rw[bind_some] at h;obtain⟨o,ay,h⟩:=h;refine⟨o,?_⟩;simp only at h;split at h
 ·rename_i m hm;cases h;exact⟨⟨ay,rfl,rfl,fun cp h=>(by cases h; exact hm),fun f a h=>(by cases h),fun x a h=>(by cases h),fun x n a h=>(by cases h)⟩,rfl,rfl,rfl⟩
 ·split at h
  ·rename_i c f9;split at h
   ·rename_i f ak;split at h
    ·rename_i aJ;cases h;exact⟨⟨ay,rfl,rfl,fun cp h=>(by cases h),fun f a h=>(by cases h; exact⟨c,f9,ak,rfl,aJ⟩),fun x a h=>(by cases h),fun x n a h=>(by cases h)⟩,rfl,rfl,rfl⟩
    ·cases h
   ·rename_i x aj ak;cases h;exact⟨⟨ay,rfl,rfl,fun cp h=>(by cases h),fun f a h=>(by cases h),fun x a h=>(by cases h; exact⟨c,f9,ak,rfl⟩),fun x n a h=>(by cases h)⟩,rfl,rfl,rfl⟩
   ·rename_i x name ak;cases h;exact⟨⟨ay,rfl,rfl,fun cp h=>(by cases h),fun f a h=>(by cases h),fun x a h=>(by cases h),fun x n a h=>by cases h; exact⟨c,f9,ak,rfl⟩⟩,rfl,rfl,rfl⟩
   ·cases h
  ·cases h
theorem R6 {g:FuncId} (aJ:iS P g=true) {h:aM} {aD:Operand->ae} {c:Call} {x:Operand} {first e5:List ae} (ak:c.callee=.value x) (aj:aD x=.fn g first e5) :
  cV P h aD (.call c)=some (.call g (first++c.args.toList.map aD++e5) h) :=by
 unfold iS at aJ;simp only[cV,sv,ak,aj];cases iW:P.funcs[g]? with
 | none=>rw[iW] at aJ; cases aJ
 | some fn=>
  rw[iW] at aJ;simp only[Bool.and_eq_true,bne_iff_ne] at aJ;simp only;rw[if_pos aJ]
theorem aeq {g:FuncId} (aJ:iS P g=true) {h:aM} {aD:Operand->ae} {c:Call} {x:Operand} {name:String} {t:TypeId} {v:ae} (ak:c.callee=.invoke x name) (aj:aD x=.fH t v) (hm:vq P t name=some g) :
  cV P h aD (.call c)=some (.call g (v::c.args.toList.map aD) h) :=by
 unfold iS at aJ;simp only[cV,sv,ak,aj,hm];cases iW:P.funcs[g]? with
 | none=>rw[iW] at aJ; cases aJ
 | some fn=>
  rw[iW] at aJ;simp only[Bool.and_eq_true,bne_iff_ne] at aJ;simp only;rw[if_pos aJ]
def bb.looks:bb->Bool
 | .alloc _ | .box _ | .c5 .. | .k2 .. | .st .. | .app .. | .pA .. | .sI .. | .qZ .. | .o9 _ | .rQ .. | .qk .. | .r5 _ | .rW _ | .cK .. | .xK .. | .stop=>false
 | _=>true
theorem aio {m:bb} {v:ae} {l:au} {K:ae->au->Prop} (h:dS m v l K) :K v l\/(m.looks=false/\m.hP=false/\∃ dx cg,ov (bW l) (bW cg)/\ou (bW l) (bW cg) v dx/\K dx cg) :=by
 cases m<;>first | exact .inl h | skip
 rcases h with h | h
 ·exact .inl h
 ·exact .inr ⟨rfl,rfl,h⟩
theorem UQ {m:bb} {v:ae} {l:au} {K fB:ae->au->Prop} (a7:∀ v l,K v l->fB v l) (h:dS m v l K) :dS m v l fB:=by
 cases m<;>first | exact a7 _ _ h | skip
 rcases h with h | ⟨dx,cg,h1,af,ap⟩
 ·exact .inl (a7 _ _ h)
 ·exact .inr ⟨dx,cg,h1,af,a7 _ _ ap⟩
theorem aaq {ops:Array Oper} {s:dL} {o:Oper} (ok:nu P ops s o) {ah:bj} {l:au} {K:ae->au->Prop} (h:gU P G s.b ah l K) :
  ∃ v l',dd P G (.op o.op ah (bW l) v (bW l'))/\l.length<=l'.length/\K v l'/\∀ m,s.b=.c2 m->(m.looks=true\/m.hP=true)->bR P (cU G ah) l m=some (v,l') :=by
 cases ai:s.b with
 | c2 m=>
  rw[ai] at h;simp only[gU,vX] at h;obtain⟨⟨v,l'⟩,h1,af⟩:=h;have aw:=dd.Da (G:=G) (C2 (ok.c2 m ai) h1);rcases aio af with af | ⟨lD,ql,dx,cg,cd,ce,dH⟩
  ·exact⟨v,l',aw,Wm h1,af,fun cp hm _=>by cases hm; exact h1⟩
  ·refine⟨dx,cg,.DV aw cd ce,Nat.le_trans (Wm h1) (Nat.le_of_eq cd.n.symm),dH,fun cp hm aq=>?_⟩;cases hm;rw[lD,ql] at aq;rcases aq with h | h<;>cases h
 | dq f args=>
  rw[ai] at h;obtain⟨r,l',h1,af,ap⟩:=h;obtain⟨c,f9,ak,aG,aJ⟩:=ok.dq f args ai;refine⟨r,l',?_,af,ap,fun cp hm _=>by cases hm⟩;rw[f9];refine .xw (R6 aJ ak rfl) ?_;simpa [aG] using h1
 | hn x args=>
  rw[ai] at h;simp only[gU] at h;obtain⟨c,f9,ak,aG⟩:=ok.hn x args ai;unfold sx at h;split at h
  ·rename_i g first e5 aj
   obtain⟨aJ,r,l',h1,af,ap⟩:=h;refine⟨r,l',?_,af,ap,fun cp hm _=>by cases hm⟩;rw[f9];refine .xw (R6 aJ ak aj) ?_;rw[aG]; exact h1
  ·cases h
 | mI x name args=>
  rw[ai] at h;simp only[gU] at h;obtain⟨c,f9,ak,aG⟩:=ok.mI x name args ai;unfold sw at h;split at h
  ·rename_i t v aj;split at h
   ·rename_i g hm;obtain⟨aJ,r,l',h1,af,ap⟩:=h;refine⟨r,l',?_,af,ap,fun cp hm _=>by cases hm⟩;rw[f9];refine .xw (aeq aJ ak aj hm) ?_;rw[aG]; exact h1
   ·cases h
  ·cases h
theorem UN {ops:Array Oper} {s:dL} {o:Oper} (ok:nu P ops s o) {ah:bj} {p q:Prop} (h:n3 ah s.g p q) :(je ops ah o=some true/\p)\/(je ops ah o=some false/\q) :=by
 rw[ok.g] at h;unfold je;cases az:o.guard with
 | none=>rw[az] at h; exact .inl ⟨rfl,h⟩
 | some n2=>
  obtain⟨j,w⟩:=n2;rw[az] at h;simp only[Option.map_some] at h ⊢;cases bJ:(ops[j]?).bind (·.dst) with
  | none=>rw[bJ] at h; exact .inr ⟨rfl,h⟩
  | some d=>
   rw[bJ] at h;simp only[n3,o1] at h ⊢;cases ar:ah d<;>rw[ar] at h<;>simp only at h ⊢<;>first | exact .inr ⟨trivial,h⟩ | (cases h; done) | skip
   rw[zz] at h;rcases h with ⟨h1,af⟩ | ⟨h1,af⟩
   ·exact .inl ⟨by rw[h1],af⟩
   ·exact .inr ⟨by rw[h1],af⟩
inductive vR (P:Program) (ops:Array Oper) :List dL->List Oper->Prop
 | nil:vR P ops [] []
 | cons {s o aal os}:nu P ops s o->vR P ops aal os->vR P ops (s::aal) (o::os)
theorem MO {ops:Array Oper} {N:Nat} (fh:∀ (i:Nat) (o:Oper),ops[i]? = some o->nE N o.dst=true) {K:bj->au->Prop}:∀ {s:List dL} {os:List Oper} {ah:bj} {l:au},
  vR P ops s os->ic P G s ah l K->∃ bY l',dd P G (.ops ops os N ah (bW l) bY (bW l'))/\l.length<=l'.length/\K bY l'
 | [],_,ah,l,aJ,h=>by cases aJ; exact⟨ah,l,.WE,Nat.le_refl _,h⟩
 | s::r,_,ah,l,aJ,h=>by
  cases aJ with
  | cons ok aJ=>
   rename_i o os;rcases UN ok h with ⟨bt,h⟩ | ⟨bt,h⟩
   ·obtain⟨v,l1,h1,af,ap,_⟩:=aaq ok h;obtain⟨bY,l',aH,bc,bM⟩:=MO fh aJ ap;exact⟨bY,l',.WF bt (fh _ _ ok.here) h1 (by rw[<-ok.dst]; exact aH),Nat.le_trans af bc,bM⟩
   ·obtain⟨bY,l',aH,bc,bM⟩:=MO fh aJ h;exact⟨bY,l',.WG bt (fh _ _ ok.here) (by rw[<-ok.dst]; exact aH),bc,bM⟩
theorem ZH {l x:au} {p:ae} {y:List ae × Nat} (h:d4 l p=some y) :d4 (l++x) p=some y:=by
 cases p<;>first | exact h | skip
 rename_i b off sz;simp only[d4] at h ⊢;cases ai:l[b]? with
 | none=>rw[ai] at h; cases h
 | some c=>rw[ai] at h; rw[List.getElem?_append_left (fg ai),ai]; exact h
theorem ado {l x:au} {z:Nat} {p:ae} {y:List ae × Nat} (h:df l z p=some y) :df (l++x) z p=some y:=by
 cases p<;>first | exact h | skip
 rename_i db b off len cap sz;simp only[df] at h ⊢;cases ai:l[b]? with
 | none=>rw[ai] at h; cases h
 | some c=>rw[ai] at h; rw[List.getElem?_append_left (fg ai),ai]; exact h
theorem ac1 {l x:au} {p v:ae} (h:sA l p=some v) :sA (l++x) p=some v:=by
 unfold sA at h ⊢;cases p<;>simp only at h ⊢<;>first | exact h | skip
 all_goals
  split at h
  ·rename_i cs n ak;rw[ado ak]; exact h
  ·cases h
def bb.reads:bb->Bool
 | .ld1 _ | .bh .. | .qY _ | .tn _=>true
 | _=>false
theorem Wa {aD:Operand->ae} {l l' : au} {m:bb} {v:ae} (hm:m.looks=true) (h:bR P aD l m=some (v,l')) :l'=l:=by
 cases m<;>simp only[bb.looks,Bool.true_eq,Bool.false_eq_true,reduceCtorEq] at hm<;>simp only[bR,fu,Option.some.injEq,Prod.mk.injEq] at h<;>first | exact h.2 | exact h.2.symm
theorem aiV {aD:Operand->ae} {l x:au} {m:bb} {v:ae} (hm:m.looks=true) (h:bR P aD l m=some (v,l)) :bR P aD (l++x) m=some (v,l++x) :=by
 cases m<;>simp only[bb.looks,Bool.true_eq,Bool.false_eq_true,reduceCtorEq] at hm<;>simp only[bR,fu,Option.some.injEq,Prod.mk.injEq,and_true] at h ⊢<;>try exact h
 case ld1 a=>
  rw[bind_some] at h ⊢;obtain⟨y,h1,af⟩:=h;exact⟨y,ZH h1,af⟩
 case bh n a=>
  rw[bind_some] at h ⊢;obtain⟨y,h1,af⟩:=h;exact⟨y,ZH h1,af⟩
 case qY x=>exact ac1 h
 case tn y=>
  unfold zC at h ⊢;cases aj:aD y<;>rw[aj] at h<;>(try simp only at h)<;>try (cases h; done)
  ·exact h
  ·rename_i b;cases ai:l[b]? with
   | none=>rw[ai] at h; cases h
   | some c=>simp only[List.getElem?_append_left (fg ai)]; exact h
theorem aiW {aD:Operand->ae} {l cg:au} {m:bb} {v:ae} (hm:m.looks=true) (aC:m.reads=false) (h:bR P aD l m=some (v,l)) :bR P aD cg m=some (v,cg) :=by
 cases m<;>simp only[bb.looks,Bool.true_eq,Bool.false_eq_true,reduceCtorEq] at hm<;>simp only[bb.reads,reduceCtorEq] at aC<;>simp only[bR,fu,Option.some.injEq,Prod.mk.injEq,and_true] at h ⊢<;>exact h
theorem MF (zero:List ae) :∀ n,(dp zero n).length=n*zero.length
 | 0=>by simp[dp]
 | n+1=>by rw[dp,List.length_append,MF zero n,Nat.succ_mul,Nat.add_comm]
theorem al2 {cs vs:List ae} {off:Nat} (h:off+vs.length<=cs.length) :(bS cs off vs).length=cs.length:=by
 simp only[bS,List.length_append,List.length_take,List.length_drop]; omega
theorem RQ {jF:Nat->Option (Nat × Nat)}:∀ {cx:List (Nat × ae)} {zero cs:List ae},gF jF zero cx=some cs->cs.length=zero.length
 | [],zero,cs,h=>by simp only[gF,Option.some.injEq] at h; rw[<-h]
 | (i,v) ::r,zero,cs,h=>by
  unfold gF at h;split at h
  ·rename_i off size vs _ _;split at h
   ·rename_i h1;rw[RQ h,al2 (by omega)]
   ·cases h
  ·cases h
theorem ajc {op:Op} {m:bb} (hm:lY P op=some m) (aI:m.hP=true) {aD:Operand->ae} {l l' : au} {v:ae} (h:bR P aD l m=some (v,l')) :
  ∃ cs mk,lE P aD op=some (cs,mk)/\v=mk l.length/\l'=l++[.cells cs.length cs] :=by
 cases op<;>simp only[lY] at hm<;>try (cases hm; done)
 case alloc t=>
  rw[map_some] at hm;obtain⟨zero,h1,rfl⟩:=hm;simp only[bR,Option.some.injEq,Prod.mk.injEq] at h;obtain⟨rfl,rfl⟩:=h;exact⟨zero,_,by simp only[lE,h1]; rfl,rfl,rfl⟩
 case box t x=>
  cases hm;simp only[bR,map_some,Prod.mk.injEq] at h;obtain⟨cs,h1,rfl,rfl⟩:=h;exact⟨cs,_,by simp only[lE,h1]; rfl,rfl,rfl⟩
 case buildSlice t n cx=>
  simp only[bind_some] at hm;obtain⟨e,h1,z,af,zero,ap,hm⟩:=hm;rw[he] at hm;obtain⟨aH,rfl⟩:=hm;simp only[bR,map_some,Prod.mk.injEq] at h;obtain⟨cs,bc,rfl,rfl⟩:=h;have bz:cs.length=n*z:=by rw[RQ bc,MF,aH.1]
  exact⟨cs,_,by simp only[lE,h1,af,ap,if_pos aH,bc]; rfl,rfl,by rw[bz]⟩
 case makeSlice t a c=>
  simp only[bind_some] at hm;obtain⟨e,h1,z,af,by_,ap,zero,aH,hm⟩:=hm;rw[he] at hm;obtain⟨bc,rfl⟩:=hm;simp only[bR] at h;unfold pa at h;cases aG:aD a<;>rw[aG] at h<;>(try simp only at h)<;>try (cases h; done)
  cases ak:aD c<;>rw[ak] at h<;>(try simp only at h)<;>try (cases h; done)
  rw[he] at h;obtain⟨bM,eE⟩:=h;cases eE;rename_i kc nc;have bz:(dp zero nc.toNat).length=nc.toNat*z:=by rw[MF,bc]
  exact⟨dp zero nc.toNat,_,by simp only[lE,aG,ak,h1,asInt,af,ap,aH]; rw[if_pos ⟨bc,bM⟩],rfl,by rw[bz]⟩
 case pick=>cases hm; cases aI
 case move=>cases hm; cases aI
 case assign=>cases hm; cases aI
 case nilCheck=>cases hm; cases aI
 case binOp=>cases hm; cases aI
 case unOp=>cases hm; cases aI
 case call c=>
  exfalso;split at hm
  ·unfold sF at hm
   repeat' split at hm
   all_goals first
    | (cases hm; done)
    | (cases hm; cases aI; done)
    | (simp only[bind_some,map_some] at hm; obtain⟨_,_,rfl⟩:=hm; cases aI; done)
    | (simp only[bind_some,map_some] at hm; obtain⟨_,_,_,_,rfl⟩:=hm; cases aI; done)
    | (simp only[bind_some,he] at hm; obtain⟨_,_,_,_,_,_,_,rfl⟩:=hm; cases aI; done)
    | (simp only[bind_some,he] at hm; obtain⟨_,_,_,_,_,_,_,_,_,rfl⟩:=hm; cases aI; done)
  ·split at hm
   ·rw[he] at hm; obtain⟨_,rfl⟩:=hm; cases aI
   ·cases hm
  ·cases hm
 case next it b=>exfalso; cases b<;>simp only[reduceCtorEq] at hm<;>cases hm<;>cases aI
 case panic=>cases hm; cases aI
 case lookup=>exfalso; split at hm<;>(try cases hm; done); rw[map_some] at hm; obtain⟨_,_,rfl⟩:=hm; cases aI
 case build=>exfalso; simp only[bind_some,map_some] at hm; obtain⟨_,_,_,_,rfl⟩:=hm; cases aI
 case typeAssert=>exfalso; rw[map_some] at hm; obtain⟨_,_,rfl⟩:=hm; cases aI
 case store=>exfalso; rw[map_some] at hm; obtain⟨_,_,rfl⟩:=hm; cases aI
 case slice=>exfalso; rw[map_some] at hm; obtain⟨_,_,rfl⟩:=hm; cases aI
 case fieldAddr=>exfalso; rw[bind_some] at hm; obtain⟨_,_,hm⟩:=hm; split at hm<;>cases hm; cases aI
 case field=>exfalso; rw[bind_some] at hm; obtain⟨_,_,hm⟩:=hm; split at hm<;>cases hm<;>cases aI
 case extract=>cases hm; cases aI
 case makeFunc f a b=>exfalso; cases f<;>simp only at hm<;>cases hm; cases aI
 all_goals
  exfalso
  repeat' split at hm
  all_goals first | (cases hm; done) | (cases hm; cases aI; done)
end
end Go.cl

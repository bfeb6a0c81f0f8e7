/-
  The canonical machine, part N: a region that draws its order.
-/
import Derived.Test.YtobphgccoalchaaGreatDoorDc
import Derived.ProofKit
set_option linter.unusedVariables false
set_option linter.unusedSimpArgs false
set_option linter.unnecessarySimpa false
namespace Go.ct
open Go
section
variable {P:Program} {G:Nat->ad}
theorem yQ {ops:Array Oper} {t i:Nat} (h:kq ops t=some i) :∃ o,ops[i]? = some o/\o.dst=some t:=by
 unfold kq at h;have:=List.find?_some h;cases ax:ops[i]? with
 | none=>simp[ax] at this
 | some o=>exact⟨o,rfl,by simpa [ax] using this⟩
def s8 (ops:Array Oper) (val ah:Nat->ad) (dJ:Array Bool) :Nat->ad:=fun t=>
 match kq ops t with
 | some i=>if dJ.getD i false then val i else ah t
 | none=>ah t
theorem aiT {ops:Array Oper} {pre:Nat->Nat->Bool} (hV:te ops pre) {dJ:Array Bool}
  (down:∀ (i:Nat) (o:Oper) (e:Edge),ops[i]? = some o->dJ.getD i false=true->e∈o.after->Region.binds .any e=true->dJ.getD e.on false=true)
  (ea:∀ i,dJ.getD i false=true->∃ o,ops[i]? = some o) :∀ (i:Nat),dJ.getD i false=true->∀ j,pre i j=true->dJ.getD j false=true:=by
 intro i
 induction i using Nat.strongRecOn with
 | _ i aY=>
  intro aB j am;obtain⟨o,ax⟩:=ea i aB;obtain⟨e,au,ai,nK⟩:=hV.chain i o j ax am;have eD:=down i o e ax aB au ai;rcases nK with rfl | nK
  ·exact eD
  ·exact aY e.on (hV.BK i o e ax au ai) eD j nK
theorem xh (dJ:Array Bool) (i j:Nat) (aB:i<dJ.size) :(dJ.setIfInBounds i true).getD j false=if j=i then true else dJ.getD j false:=by
 rw[aDR,aD8];by_cases h:i=j
 ·subst h; simp[aB]
 ·rw[if_neg h,if_neg (Ne.symm h),aDR]
theorem Hq {ops:Array Oper} {pre:Nat->Nat->Bool} (hV:te ops pre) {val ah:Nat->ad} {dJ:Array Bool} {i:Nat} {o:Oper} (ax:ops[i]? = some o) (aB:i<dJ.size) :
  s8 ops val ah (dJ.setIfInBounds i true)=h8 (s8 ops val ah dJ) o.dst (val i) :=by
 funext t;unfold s8 h8;cases bX:o.dst with
 | none=>
  simp only;cases hw:kq ops t with
  | none=>rfl
  | some j=>
   have b2:j≠i:=fun aR=>by
    obtain⟨eh,ev,vz⟩:=yQ hw;rw[aR,ax] at ev; cases ev;rw[bX] at vz; cases vz
   simp only[xh _ _ _ aB,if_neg b2]
 | some d=>
  simp only;by_cases aQ:t=d
  ·subst aQ;rw[hV.one i o t ax bX];simp[xh _ _ _ aB]
  ·rw[cB _ _ _ _ aQ];cases hw:kq ops t with
   | none=>rfl
   | some j=>
    have b2:j≠i:=fun aR=>by
     obtain⟨eh,ev,vz⟩:=yQ hw;rw[aR,ax] at ev; cases ev;rw[bX] at vz; cases vz;exact aQ rfl
    simp only[xh _ _ _ aB,if_neg b2]
structure Inv (P:Program) (ops:Array Oper) (val ah:Nat->ad) (W:Nat->Bool) (cls:Nat->Eg) (m:Nat) (ap:Nat->Nat) (gp:Nat->bh) (ha:Nat->Nat) (N:Nat)
  (R:Nat->Prop) (B:Nat) (oJ:World) (h:bh) (rR:dd) (dJ:Array Bool) (k:Nat) (a:Act) (w:World) (μ:dd) :Prop where
 size:dJ.size=ops.size
 down:∀ (i:Nat) (o:Oper) (e:Edge),ops[i]? = some o->dJ.getD i false=true->e∈o.after->Region.binds .any e=true->dJ.getD e.on false=true
 Di:k<=m
 done:∀ q,q<m->(dJ.getD (ap q) false=true<->q<k)
 ext:Ext0 oJ h rR w (gp k) μ
 qJ:∀ b,b<h.n->rR b=none->μ b=none
 rel:cp R B w (gp k) μ
 wA:ny N w R (gp k) μ (s8 ops val ah dJ) a
 DA:∀ (i:Nat) (o:Oper),ops[i]? = some o->W i=true->cls i=.new->dJ.getD i false=false->μ (ha i)=none
theorem aon {ops:Array Oper} {dJ:Array Bool} (h6:dJ.size=ops.size) (i:Nat) (aB:dJ.getD i false=true) :∃ o,ops[i]? = some o:=by
 have:i<ops.size:=by
  rcases aDK i dJ.size with h1 | h1
  ·omega
  ·simp[aDR,aEl h1] at aB
 exact⟨ops[i],by simp[this]⟩
theorem aed {ops:Array Oper} {pre:Nat->Nat->Bool} (hV:te ops pre) {dJ:Array Bool} (h6:dJ.size=ops.size) (aC:Region.ready .any ops dJ=[]) :∀ i,i<ops.size->dJ.getD i false=true:=by
 intro i
 induction i using Nat.strongRecOn with
 | _ i aY=>
  intro aB;cases ar:dJ.getD i false with
  | true=>rfl
  | false=>
   exfalso;have kC:i∈Region.ready .any ops dJ:=by
    refine mem_ready.2 ⟨?_,ops[i],by simp[aB],fun e au ai=>aY e.on (hV.BK i ops[i] e (by simp[aB]) au ai) (by
     have:=hV.BK i ops[i] e (by simp[aB]) au ai;omega)⟩
    have aP:i<dJ.size:=by omega
    simpa [aDR,aP] using ar
   rw[aC] at kC;cases kC
theorem aiW (nN:P.follows .mixedOrders=true) (lY:∀ g,(G g).closed=true) :ND P G:=by
 intro id ops N ah h ci h' pre val W cls m ap gp rW ha cells hV p6 aG hm Gi xJ Cp nP hO vO z8 F0 pf Fw Fx p7 jv;refine⟨0,fun R B oJ rR a0 Q uC cd s0 nk=>wp_region_any nN ?_⟩;obtain⟨ih,qE⟩:=DO uC ⟨(RowKit.Below.refl oJ.heap.size oJ).drew,Nat.le_succ _⟩;obtain⟨a2,s5⟩:=aG.rel qE;have Sk:=ih.trans a2
 -- the end
 have fin:∀ (dJ:Array Bool) (k:Nat) (a:Act) (w:World) (μ:dd),Inv P ops val ah W cls m ap gp ha N R B oJ h rR dJ k a w μ->(∀ i,i<ops.size->dJ.getD i false=true)->Q .normal a w:=by
  intro dJ k a w μ inv fS;have hk:k=m:=by
   rcases aDK k m with aP | sv
   ·obtain⟨o,ax,_⟩:=Cp k aP;have ar:=fS (ap k) ((aDn.1 ax).1);have:=(inv.done k aP).1 ar;omega
   ·have:=inv.Di; omega
  subst hk;have amM:s8 ops val ah dJ=ci:=by
   rw[Gi];funext t;unfold s8;cases hw:kq ops t with
   | none=>rfl
   | some i=>
    obtain⟨o,ax,_⟩:=yQ hw;simp only[fS i ((aDn.1 ax).1),if_true]
  subst hm;have dI:=inv.wA;rw[amM] at dI;exact nk a w μ ⟨inv.ext,inv.qJ⟩ inv.rel dI
 have key:∀ (fuel:Nat) (dJ:Array Bool) (k:Nat) (a:Act) (w:World) (μ:dd),Inv P ops val ah W cls m ap gp ha N R B oJ h rR dJ k a w μ->dJ.toList.count false=fuel->wpAny P .any ops Q fuel dJ a w:=by
  intro fuel
  induction fuel with
  | zero=>
   intro dJ k a w μ inv T0;have fS:∀ i,i<ops.size->dJ.getD i false=true:=by
    intro i aB;have aP:i<dJ.size:=by rw[inv.size]; exact aB
    cases ar:dJ[i] with
    | true=>simp[aDR,aP,ar]
    | false=>
     exfalso;have kC:false∈dJ.toList:=by rw[<-ar]; simp
     have:=aFC.2 kC;omega
   refine⟨?_,fin dJ k a w μ inv fS⟩;cases aC:Region.ready .any ops dJ with
   | nil=>rfl
   | cons i l=>
    exfalso;have kC:i∈Region.ready .any ops dJ:=by rw[aC]; simp
    obtain⟨h1,o,ax,_⟩:=mem_ready.1 kC;have aB:=(aDn.1 ax).1;have ag:=fS i aB;have aP:i<dJ.size:=by rw[inv.size]; exact aB
    simp[aDR,aP] at h1 ag;rw[h1] at ag; cases ag
  | succ fuel aY=>
   intro dJ k a w μ inv T0;refine⟨fun aC=>fin dJ k a w μ inv (aed hV inv.size aC),fun i aB=>?_⟩;obtain⟨h1,o,ax,T5⟩:=mem_ready.1 aB;have aP:i<dJ.size:=by rw[inv.size]; exact (aDn.1 ax).1
   have nO:dJ.getD i false=false:=by simpa [aDR,aP] using h1
   have ja:=aiT hV inv.down (aon inv.size)
   -- what comes before i is done
   have Ku:∀ j,pre i j=true->dJ.getD j false=true:=by
    intro j am;obtain⟨e,au,ai,nK⟩:=hV.chain i o j ax am;have eD:=T5 e au ai;rcases nK with rfl | nK
    ·exact eD
    ·exact ja e.on eD j nK
   have UX:∀ j,dJ.getD j false=true->pre j i=true->False:=fun j am aF=>by
    have:=ja j am i aF;rw[nO] at this; cases this
   have T9:zk pre m ap i k:=⟨inv.Di,fun q bD aF=>(inv.done q bD).1 (Ku _ aF),fun q bD aF=>by
    rcases aDK q k with h4 | sv
    ·exact (UX _ ((inv.done q bD).2 h4) aF).elim
    ·exact sv⟩
   -- what i sees
   have T7:∀ t,aZ w R (gp k) μ (nD ops pre val ah i o t) (a.tmps.getD t undef) :=by
    intro t;unfold nD;split
    ·rename_i aQ;have Ga:t∈o.looksAt ops:=by simpa using aQ
     have ay:=inv.wA.val t;unfold s8 at ay;cases hw:kq ops t with
     | none=>rw[hw] at ay; exact ay
     | some j=>
      rw[hw] at ay;simp only at ay ⊢;by_cases aF:pre i j=true
      ·rw[if_pos aF];rw[if_pos (Ku j aF)] at ay;exact ay
      ·rw[if_neg aF];have amc:dJ.getD j false=false:=by
        rcases hV.acc i o t j ax Ga hw with aR | aR | rfl
        ·exact absurd aR aF
        ·cases vE:dJ.getD j false with
         | false=>rfl
         | true=>exact (UX j vE aR).elim
        ·exact nO
       rw[amc] at ay;exact ay
    ·exact .bad _
   have Ud:tg G w R (gp k) μ:=fun g=>⟨lY g,(cd g).2.nE inv.ext⟩
   have dy:∀ x,aZ w R (gp k) μ (ek G (nD ops pre val ah i o) x) (a.eval x) :=by
    intro x;cases x with
    | tmp t=>exact T7 t
    | const v=>exact aZ.wb v
    | global g=>exact (Ud g).2
    | func f=>exact .fn f [] [] #[] #[] rfl rfl (fun _ _ _ aR=>by simp at aR) (fun _ _ _ aR=>by simp at aR)
   have Vj:=Nv (w:=w) (R:=R) (h:=gp k) (μ:=μ) (tmps:=a.tmps) (vO i o ax) (fun d _=>T7 d);have FD:(dJ.setIfInBounds i true).toList.count false=fuel:=by
    have ai:dJ.toList[i]'(by simpa using aP)=false:=by
     have:dJ[i]=false:=by simpa [aDR,aP] using h1
     simpa using this
    rw[Array.toList_setIfInBounds,List.count_set (by simpa using aP)];simp[ai,T0]
   have F6:(dJ.setIfInBounds i true).size=ops.size:=by simp[inv.size]
   have FF:∀ (j:Nat) (eh:Oper) (e:Edge),ops[j]? = some eh->(dJ.setIfInBounds i true).getD j false=true->e∈eh.after->Region.binds .any e=true->(dJ.setIfInBounds i true).getD e.on false=true:=by
    intro j eh e ev am au ai;rw[xh _ _ _ aP] at am ⊢;by_cases ou:j=i
    ·subst ou;rw[ax] at ev; cases ev;rw[T5 e au ai]; split<;>rfl
    ·rw[if_neg ou] at am;rw[inv.down j eh e ev am au ai]; split<;>rfl
   -- the next state,when no block of others' is turned
   have l5:(W i=true->cls i≠.g0)->∀ q,q<m->((dJ.setIfInBounds i true).getD (ap q) false=true<->q<k) :=by
    intro b2 q bD;obtain⟨eh,ev,gv,ak⟩:=Cp q bD;have:ap q≠i:=fun aR=>by
     rw[aR] at gv ak;exact b2 gv ak
    rw[xh _ _ _ aP,if_neg this];exact inv.done q bD
   have FY:∀ (j:Nat),(dJ.setIfInBounds i true).getD j false=false->j≠i/\dJ.getD j false=false:=by
    intro j am;rw[xh _ _ _ aP] at am;by_cases ou:j=i
    ·rw[if_pos ou] at am; cases am
    ·rw[if_neg ou] at am; exact⟨ou,am⟩
   unfold wpOp;simp only[ax];cases gv:W i with
   | false=>
    rw[Vj,gv];simp only[aDV,if_false];refine aY _ k _ w μ ⟨F6,FF,inv.Di,l5 (fun aR=>by rw[gv] at aR; cases aR),inv.ext,inv.qJ,inv.rel,?_,fun j eh ev sp q8 am=>inv.DA j eh ev sp q8 (FY j am).2⟩ FD;rw[Hq hV ax aP];exact inv.wA.put (p6 i o ax) (by rw[z8 i o ax gv]; exact Ng)
   | true=>
    rw[Vj,gv];simp only[if_true];left;cases ak:cls i with
    | pure=>
     have cL:=F0 i o ax gv ak k T9;obtain⟨v,w',μ',aC,e,r,ay⟩:=MP (P:=P) inv.rel dy o cL;have UL:wpAny P .any ops Q fuel (dJ.setIfInBounds i true) (a.put o.dst v) w':=by
      refine aY _ k _ w' μ' ⟨F6,FF,inv.Di,l5 (fun _ aR=>by rw[ak] at aR; cases aR),inv.ext.trans e.toExt0,fun b ai kg=>e.qJ b (aEs ai inv.ext.n) (inv.qJ b ai kg),r,?_,fun j eh ev sp q8 am=>?_⟩ FD
      ·rw[Hq hV ax aP];exact (inv.wA.ext e).put (p6 i o ax) ay
      ·have aI:=inv.DA j eh ev sp q8 (FY j am).2;rcases aDK (ha j) (gp k).n with ai | ai
       ·exact e.qJ _ ai aI
       ·exact r.lL _ ai
     unfold Oper.wp;rcases aC with aC | ⟨aC,rfl⟩
     ·rw[aC]; exact UL
     ·rw[aC]; exact UL
    | new=>
     obtain⟨mk,aI,Af,o4,hblk⟩:=pf i o ax gv ak;obtain⟨v,arr,t,aC,cW,zV⟩:=aoK (P:=P) dy o aI;have fe:=hblk k T9;have akW:=inv.DA i o ax gv ak nO;have ayC:ha i<(gp k).n:=by
      rcases aDK (ha i) (gp k).n with ai | ai
      ·exact ai
      ·rw[inv.rel.fresh _ ai] at fe; cases fe
     have qh:∀ b cF,μ b=some cF->b≠ha i:=fun b cF ai aR=>by rw[aR,akW] at ai; cases ai
     have e:Ext0 w (gp k) μ (w.alloc (.cells arr t)) (gp k) (ck μ (ha i) (some ⟨w.heap.size,0,arr.size⟩)) :=by
      refine⟨rfl,rfl,rfl,by simp,fun x al _=>?_,?_,fun b sz cs cF ai hm=>.inl ⟨cs,ai,by rw[cB _ _ _ _ (qh b cF hm)]; exact hm⟩,fun _ _ aA=>aA,fun b k cF ai hm=>⟨ai,by rw[cB _ _ _ _ (qh b cF hm)]; exact hm⟩,aCL _,aCL _⟩
      ·exact RowKit.Below.heap_alloc w _ x al
      ·rintro x ⟨b,cF,ar,hm,rfl⟩;by_cases ai:b=ha i
       ·subst ai; simp at hm; subst hm; exact .inr (aCL _)
       ·rw[cB _ _ _ _ ai] at hm;exact .inl ⟨b,cF,ar,hm,rfl⟩
     have r:cp R B (w.alloc (.cells arr t)) (gp k) (ck μ (ha i) (some ⟨w.heap.size,0,arr.size⟩)) :=by
      refine inv.rel.uM e (ha i) (fun b ai ar=>⟨rfl,cB _ _ _ _ ai,fun cF hm=>RowKit.Below.heap_alloc w _ _ (inv.rel.lt ar hm)⟩) (fun cF hm=>?_) (fun b cF aBw ai ar _ hm cl=>?_) (fun cF _ hm=>?_) inv.rel.fresh (fun b ai=>?_)
      ·simp at hm; subst hm;rw[fe];refine⟨rfl,by simp[cW.1],arr,t,(0,0),heap_alloc_new w _,rfl,.inl rfl,fun j c am=>?_⟩;obtain⟨u,br,bI,a3⟩:=cW.2 j c am;exact⟨u,by simpa using br,bI,a3.nE e⟩
      ·simp at cl; subst cl;have:=inv.rel.lt ar hm;simp only[ne_eq]; omega
      ·simp at hm; subst hm;exact inv.rel.size
      ·rw[cB _ _ _ _ (by omega)];exact inv.rel.lL b ai
     have ay:aZ (w.alloc (.cells arr t)) R (gp k) (ck μ (ha i) (some ⟨w.heap.size,0,arr.size⟩)) (val i) v:=by
      rw[Af];exact zV _ _ _ _ _ fe (by simp)
     unfold Oper.wp;rw[aC];refine aY _ k _ _ _ ⟨F6,FF,inv.Di,l5 (fun _ aR=>by rw[ak] at aR; cases aR),inv.ext.trans e,fun b ai kg=>by rw[cB _ _ _ _ (by omega)]; exact inv.qJ b ai kg,r,?_,fun j eh ev sp q8 am=>?_⟩ FD
     ·rw[Hq hV ax aP];have CV:ny N (w.alloc (.cells arr t)) R (gp k) (ck μ (ha i) (some ⟨w.heap.size,0,arr.size⟩)) (s8 ops val ah dJ) a:=⟨inv.wA.size,inv.wA.defers,fun gP=>(inv.wA.val gP).nE e⟩
      exact CV.put (p6 i o ax) ay
     ·obtain⟨ou,vE⟩:=FY j am;rw[cB _ _ _ _ (fun aR=>ou (Fw j i eh o ev ax sp gv q8 ak aR))];exact inv.DA j eh ev sp q8 vE
    | g0=>
     obtain⟨q,bD,rfl⟩:=xJ i o ax gv ak;have vJ:q=k:=by
      have ag:¬ q<k:=fun aR=>by
       have:=(inv.done q bD).2 aR;rw[nO] at this; cases this
      rcases aDK k q with h4 | sv
      ·have rf:k<m:=by omega
       have:=Ku (ap k) (nP k q rf bD h4);have:=(inv.done k rf).1 this;omega
      ·omega
     subst vJ;refine jv q o bD ax R B w μ a o _ Q rfl inv.rel Ud dy fun v w' μ' e r ay=>?_
     obtain⟨b7,gg⟩:=(p7 q bD).rel r;have dG:=e.trans b7;refine aY _ (q+1) _ w' μ' ⟨F6,FF,by omega,fun gf ph=>?_,inv.ext.trans dG.toExt0,fun b ai kg=>dG.qJ b (aEs ai inv.ext.n) (inv.qJ b ai kg),gg,?_,fun j eh ev sp q8 am=>?_⟩ FD
     ·rw[xh _ _ _ aP];by_cases F1:gf=q
      ·subst F1; simp
      ·rw[if_neg (fun aR=>F1 (hO gf q ph bD aR)),inv.done gf ph];omega
     ·rw[Hq hV ax aP];exact (inv.wA.ext dG).put (p6 _ o ax) (ay.ext b7)
     ·have aI:=inv.DA j eh ev sp q8 (FY j am).2;rcases Fx j eh q ev sp q8 bD with ai | ai
      ·exact e.qJ _ ai aI
      ·exact r.lL _ ai
 have alI:Inv P ops val ah W cls m ap gp ha N R B oJ h rR (Array.replicate ops.size false) 0 a0 oJ.drew rR:=by
  have aL:∀ i,(Array.replicate ops.size false).getD i false=false:=by
   intro i;rw[aDR,Array.getElem?_replicate];split<;>rfl
  refine⟨by simp,(fun i o e _ aB _ _=>by rw[aL] at aB; cases aB),aD5 _,(fun q bD=>by rw[aL]; simp),Sk.toExt0,fun b ai kg=>kg,s5,?_,fun i o ax gv ak _=>?_⟩
  ·have dI:s8 ops val ah (Array.replicate ops.size false)=ah:=by
    funext t;unfold s8;cases hw:kq ops t with
    | none=>rfl
    | some i=>simp only[aL]; simp
   rw[dI];exact s0.ext Sk
  ·obtain⟨mk,aI,Af,o4,hblk⟩:=pf i o ax gv ak;exact uC.lL _ o4
 exact key _ _ 0 a0 oJ.drew rR alI (by simp)
theorem auD (nN:P.follows .mixedOrders=true) (lY:∀ g,(G g).closed=true) {j:J} (am:dW P G j) :wU P G j:=auE (aiW nN lY) am
end

section
variable {P:Program} {G:Nat->ad}
theorem L2 {aN eM:Operand->ad} (di:Array (Nat × Operand)) (h:∀ x∈(di.toList.map (·.2)),aN x=eM x) :(di.toList.map fun p=>(p.1,aN p.2))=(di.toList.map fun p=>(p.1,eM p.2)) :=
 aEy fun p aF=>by rw[h p.2 (aC9.2 ⟨p,aF,rfl⟩)]
theorem LH {aN eM:Operand->ad} (xs:Array Operand) (h:∀ x∈xs,aN x=eM x) :xs.toList.map aN=xs.toList.map eM:=
 aEy fun x al=>h x (by simpa using al)
theorem LS {aN eM:Operand->ad} (o:Option Operand) (h:∀ x∈o.toArray,aN x=eM x) :o.map aN=o.map eM:=by
 cases o with
 | none=>rfl
 | some x=>simp[h x (by simp)]
theorem MO {aN eM:Operand->ad} (h:bh) (op:Op) (al:∀ x∈op.operands,aN x=eM x) :dw P h aN op=dw P h eM op:=by
 cases op<;>simp only[Op.operands] at al<;>try rfl
 case build t di=>simp only[dw]; rw[L2 di (fun x hm=>al x (by simpa using hm))]
 case buildSlice t n di=>simp only[dw]; rw[L2 di (fun x hm=>al x (by simpa using hm))]
 case makeFunc fn first gQ=>
  cases fn<;>simp only[dw];rw[LH first (fun x hm=>al x (by simp[hm])),LH gQ (fun x hm=>al x (by simp[hm]))]
 case slice t x dn aB dg=>
  simp only[dw];rw[al x (by simp),LS dn (fun y hm=>al y (by simp at hm ⊢; simp[hm])),LS aB (fun y hm=>al y (by simp at hm ⊢; simp[hm])),LS dg (fun y hm=>al y (by simp at hm ⊢; simp[hm]))]
 case call c=>
  have aD:c.args.toList.map aN=c.args.toList.map eM:=LH c.args (fun x hm=>al x (by simp[Call.operands,hm]));simp only[dw,va,aD];cases ak:c.callee with
  | value f=>dsimp only; rw[al f (by simp[Call.operands,ak])]
  | invoke x name=>dsimp only; rw[al x (by simp[Call.operands,ak])]
  | _=>rfl
 case makeMap t r=>
  cases r with
  | none=>rfl
  | some x=>simp only[dw]; rw[al x (by simp)]
 case next it b=>
  cases b with
  | false=>rfl
  | true=>simp only[dw]; rw[al it (by simp)]
 all_goals (simp only[dw]; simp_all)
theorem aoJ {aN eM:Operand->ad} (op:Op) (al:∀ x∈op.operands,aN x=eM x) :nW P aN op=nW P eM op:=by
 cases op<;>simp only[Op.operands] at al<;>try rfl
 case box t x=>simp only[nW]; rw[al x (by simp)]
 case buildSlice t n di=>simp only[nW]; rw[L2 di (fun x hm=>al x (by simpa using hm))]
 case makeSlice t l c=>simp only[nW]; rw[al l (by simp),al c (by simp)]
theorem ajn {ah ci:Nat->ad} {h h' : bh} {v:ad} {op:Op} (al:∀ x∈op.operands,ek G ah x=ek G ci x) (au:dW P G (.op op ah h v h')) :dW P G (.op op ci h v h') :=by
 generalize am:J.op op ah h v h'=j at au
 induction au generalizing v h'<;>cases am
 case GY ap=>exact .GY (by rw[<-MO h op al]; exact ap)
 case AM=>exact .AM (by rw[<-MO h op al]; assumption) (by assumption)
 case HI=>exact .HI (by first | (rename_i aY; exact aY rfl) | (rename_i aY _; exact aY rfl) | (rename_i aY _ _; exact aY rfl)) (by assumption) (by assumption)
inductive b9 where
 | skip (i:Nat)
 | pure (i:Nat) (v:ad)
 | new (i:Nat) (v:ad) (cs:List ad)
 | g0 (i:Nat) (v:ad) (h1:bh)
def b9.idx:b9->Nat
 | .skip i | .pure i _ | .new i _ _ | .g0 i _ _=>i
def b9.val:b9->ad
 | .skip _=>jk
 | .pure _ v | .new _ v _ | .g0 _ v _=>v
def b9.j2:b9->Bool
 | .g0 ..=>true
 | _=>false
def b9.uj:b9->Bool
 | .skip _=>true
 | _=>false
def b9.cls:b9->Eg
 | .skip _ | .pure ..=>.pure
 | .new ..=>.new
 | .g0 ..=>.g0
def b9.cs:b9->List ad
 | .new _ _ cs=>cs
 | _=>[]
structure kt where
 ah:Nat->ad
 h:bh
def w8 (ops:Array Oper) (i:Nat) :Option Tmp:=(ops[i]?).bind (·.dst)
def qy (h:bh) :b9->bh
 | .skip _ | .pure ..=>h
 | .new _ _ cs=>h.push (.cells cs.length cs)
 | .g0 _ _ h1=>h1
def mI (ops:Array Oper) (s:kt) (t:b9) :kt:=⟨h8 s.ah (w8 ops t.idx) t.val,qy s.h t⟩
def hl (ops:Array Oper) (s0:kt) (tr:List b9) (p:Nat) :kt:=(tr.take p).foldl (mI ops) s0
theorem A1 {ops:Array Oper} {s0:kt} {tr:List b9} {p:Nat} {t:b9} (h:tr[p]? = some t) :hl ops s0 tr (p+1)=mI ops (hl ops s0 tr p) t:=by
 unfold hl;have aP:p<tr.length:=(aCJ.1 h).1;rw[List.take_succ_eq_append_getElem aP,aFf];have:tr[p]=t:=(aCJ.1 h).2;simp[this]
def wV (P:Program) (G:Nat->ad) (ops:Array Oper) (s:kt) :b9->Prop
 | .skip i=>∃ o,ops[i]? = some o/\ll ops s.ah o=some false
 | .pure i v=>∃ o,ops[i]? = some o/\ll ops s.ah o=some true
 | .new i v cs=>∃ o mk,ops[i]? = some o/\ll ops s.ah o=some true/\nW P (ek G s.ah) o.op=some (cs,mk)/\v=mk s.h.n
 | .g0 i v h1=>∃ o,ops[i]? = some o/\ll ops s.ah o=some true/\dW P G (.op o.op s.ah s.h v h1)/\s.h.n<=h1.n
def HY (P:Program) (G:Nat->ad) (ops:Array Oper) (s:kt) (h:bh) :b9->Prop
 | .pure i v=>∀ o,ops[i]? = some o->dw P h (ek G s.ah) o.op=some (.val v h)
 | .new _ _ cs=>h.f s.h.n=.cells cs.length cs
 | _=>True
structure yW (ops:Array Oper) (pre:Nat->Nat->Bool) (tr:List b9) :Prop where
 hV:te ops pre
 all:∀ i,i<ops.size->∃ (p:Nat) (t:b9),tr[p]? = some t/\t.idx=i
 inj:∀ (p ch:Nat) (t gP:b9),tr[p]? = some t->tr[ch]? = some gP->t.idx=gP.idx->p=ch
 Hl:∀ (p:Nat) (t:b9),tr[p]? = some t->t.idx<ops.size
 acS:∀ (p ch:Nat) (t gP:b9),tr[p]? = some t->tr[ch]? = some gP->p<ch->pre t.idx gP.idx=false
 eager:∀ (p ch:Nat) (t gP:b9),tr[p]? = some t->tr[ch]? = some gP->p<ch->t.j2=true->pre gP.idx t.idx=true
structure H0 (P:Program) (G:Nat->ad) (ops:Array Oper) (pre:Nat->Nat->Bool) (s0:kt) (tr:List b9) :Prop where
 step:∀ (p:Nat) (t:b9),tr[p]? = some t->wV P G ops (hl ops s0 tr p) t
 still:∀ (q:Nat),(q=tr.length\/∃ t:b9,tr[q]? = some t/\t.j2=true)->∀ (p:Nat) (t:b9),p<q->tr[p]? = some t->
  (∀ (ch:Nat) (gP:b9),ch<q->tr[ch]? = some gP->gP.j2=true->pre gP.idx t.idx=false)->HY P G ops (hl ops s0 tr p) (hl ops s0 tr q).h t
def eR (tr:List b9) (i:Nat) :Nat:=tr.findIdx fun t=>t.idx == i
theorem yp {ops:Array Oper} {pre:Nat->Nat->Bool} {tr:List b9} (gA:yW ops pre tr) {i:Nat} (aB:i<ops.size) :∃ t,tr[eR tr i]? = some t/\t.idx=i:=by
 obtain⟨p,t,aF,aQ⟩:=gA.all i aB;have aP:p<tr.length:=(aCJ.1 aF).1;have kC:∃ x∈tr,(x.idx == i)=true:=⟨t,aCP aF,by simpa using aQ⟩
 have tS:eR tr i<tr.length:=List.findIdx_lt_length_of_exists kC;have:=List.findIdx_getElem (w:=tS);exact⟨tr[eR tr i],by simp[tS],by unfold eR; simpa using this⟩
theorem G6 {ops:Array Oper} {pre:Nat->Nat->Bool} {tr:List b9} (gA:yW ops pre tr) {p:Nat} {t:b9} (aF:tr[p]? = some t) :eR tr t.idx=p:=by
 obtain⟨gP,h1,ag⟩:=yp gA (gA.Hl p t aF);exact gA.inj _ _ _ _ h1 aF ag
theorem acw {ops:Array Oper} {pre:Nat->Nat->Bool} {tr:List b9} (gA:yW ops pre tr) (s0:kt) :∀ p,p<=tr.length->∀ t,
  (hl ops s0 tr p).ah t=match kq ops t with | some j=>(if eR tr j<p then ((tr[eR tr j]?).map b9.val).getD .bad else s0.ah t) | none=>s0.ah t:=by
 intro p
 induction p with
 | zero=>
  intro _ t;simp only[hl,aD1,List.foldl_nil];cases kq ops t<;>simp
 | succ p aY=>
  intro aF t;have aP:p<tr.length:=by omega
  have eK:tr[p]? = some tr[p] :=aCM aP;rw[A1 eK];simp only[mI];have CL:=aY (by omega) t;have h5:=G6 gA eK;have amF:=gA.Hl p _ eK;have gN:ops[tr[p].idx]? = some ops[tr[p].idx] :=by simp[amF]
  cases bX:w8 ops tr[p].idx with
  | none=>
   simp only[h8,CL];cases hw:kq ops t with
   | none=>rfl
   | some j=>
    simp only;obtain⟨o,ax,Kp⟩:=yQ hw;have b2:eR tr j≠p:=by
     intro aR;obtain⟨M2,h1,ag⟩:=yp gA ((aDn.1 ax).1);rw[aR,eK] at h1;cases h1;rw[<-ag] at ax;simp only[w8,ax,aEp] at bX;rw[Kp] at bX; cases bX
    by_cases h4:eR tr j<p
    ·rw[if_pos h4,if_pos (by omega)]
    ·rw[if_neg h4,if_neg (by omega)]
  | some d=>
   simp only[h8];by_cases aQ:t=d
   ·subst aQ;have p6:ops[tr[p].idx].dst=some t:=by simpa [w8,gN] using bX
    rw[kz,gA.hV.one _ _ t gN p6];simp[h5,eK]
   ·rw[cB _ _ _ _ aQ,CL];cases hw:kq ops t with
    | none=>rfl
    | some j=>
     simp only;obtain⟨o,ax,Kp⟩:=yQ hw;have b2:eR tr j≠p:=by
      intro aR;obtain⟨M2,h1,ag⟩:=yp gA ((aDn.1 ax).1);rw[aR,eK] at h1;cases h1;rw[<-ag] at ax;simp only[w8,ax,aEp] at bX;rw[Kp] at bX; cases bX;exact aQ rfl
     by_cases h4:eR tr j<p
     ·rw[if_pos h4,if_pos (by omega)]
     ·rw[if_neg h4,if_neg (by omega)]
theorem apr {ops:Array Oper} {pre:Nat->Nat->Bool} (hV:te ops pre) (ea:∀ (i:Nat) (o:Oper) (e:Edge),ops[i]? = some o->e∈o.after->Region.binds .any e=true->∃ eh,ops[e.on]? = some eh) :∀ (i:Nat) (o:Oper),ops[i]? = some o->∀ j,pre i j=true->j<i:=by
 intro i
 induction i using Nat.strongRecOn with
 | _ i aY=>
  intro o ax j am;obtain⟨e,au,ai,nK⟩:=hV.chain i o j ax am;have aP:=hV.BK i o e ax au ai;rcases nK with rfl | nK
  ·exact aP
  ·obtain⟨eh,ev⟩:=ea i o e ax au ai;have:=aY e.on aP eh ev j nK;omega
theorem aoT {ops:Array Oper} {pre:Nat->Nat->Bool} (hV:te ops pre) (i:Nat) (o:Oper) (ax:ops[i]? = some o) (aF:pre i i=true) :False:=by
 have:=apr hV (fun i o e ax au ai=>by
  have h1:=hV.BK i o e ax au ai;have ag:=(aDn.1 ax).1;exact⟨ops[e.on]'(by omega),by simp⟩) i o ax i aF
 omega
theorem Sr {ops:Array Oper} {pre:Nat->Nat->Bool} {tr:List b9} (gA:yW ops pre tr) (s0:kt) {i:Nat} {o:Oper} (ax:ops[i]? = some o) {t:Nat} (aQ:t∈o.looksAt ops) :
  nD ops pre (fun j=>((tr[eR tr j]?).map b9.val).getD .bad) s0.ah i o t=(hl ops s0 tr (eR tr i)).ah t:=by
 have aB:i<ops.size:=(aDn.1 ax).1;obtain⟨ep,h1,ag⟩:=yp gA aB;have eD:eR tr i<=tr.length:=aD4 (aCJ.1 h1).1;rw[acw gA s0 _ eD];unfold nD;rw[if_pos (by simpa using aQ)];cases hw:kq ops t with
 | none=>rfl
 | some j=>
  simp only;obtain⟨XS,aml,_⟩:=yQ hw;obtain⟨M2,aq,aH⟩:=yp gA ((aDn.1 aml).1);have key:pre i j=true<->eR tr j<eR tr i:=by
   constructor
   ·intro aF;rcases aEb (eR tr j) (eR tr i) with h | h | h
    ·exact h
    ·exfalso;rw[h,h1] at aq;cases aq;have jx:i=j:=by rw[<-ag,<-aH]
     subst jx;exact aoT gA.hV i o ax aF
    ·have:=gA.acS _ _ _ _ h1 aq h;rw[ag,aH] at this;rw[this] at aF; cases aF
   ·intro aP;rcases gA.hV.acc i o t j ax aQ hw with aR | aR | rfl
    ·exact aR
    ·have:=gA.acS _ _ _ _ aq h1 aP;rw[ag,aH] at this;rw[this] at aR; cases aR
    ·omega
  by_cases aF:pre i j=true
  ·rw[if_pos aF,if_pos (key.1 aF)]
  ·rw[if_neg aF,if_neg (fun aR=>aF (key.2 aR))]
def fB (tr:List b9) :List Nat:=(List.range tr.length).filter fun p=>((tr[p]?).map b9.j2).getD false
theorem GI {tr:List b9} {p:Nat}:p∈fB tr<->∃ t,tr[p]? = some t/\t.j2=true:=by
 unfold fB;rw[aEd,aDw];constructor
 ·rintro⟨h1,ag⟩;refine⟨tr[p],by simp[h1],?_⟩;simpa [h1] using ag
 ·rintro⟨t,h1,ag⟩;exact⟨(aCJ.1 h1).1,by simp[h1,ag]⟩
theorem vl {tr:List b9} {q gf:Nat} (bD:q<gf) (ph:gf<(fB tr).length) :(fB tr).getD q 0<(fB tr).getD gf 0:=by
 have aF:(fB tr).Pairwise (· < ·) :=List.Pairwise.filter _ List.pairwise_lt_range;have:=aFO.1 aF q gf (by omega) ph bD;simpa [List.getD,ph,show q<(fB tr).length by omega] using this
theorem Sp {tr:List b9} {q:Nat} (bD:q<(fB tr).length) :∃ t,tr[(fB tr).getD q 0]? = some t/\t.j2=true:=by
 apply GI.1;simp[List.getD,bD]
theorem EL {tr:List b9} {p:Nat} (aF:p∈fB tr) :∃ q,q<(fB tr).length/\(fB tr).getD q 0=p:=by
 obtain⟨q,bD,rfl⟩:=List.getElem_of_mem aF;exact⟨q,bD,by simp[List.getD,bD]⟩
theorem Dm {ops:Array Oper} {pre:Nat->Nat->Bool} {s0:kt} {tr:List b9} (qH:H0 P G ops pre s0 tr) :∀ (k p:Nat),p+k<=tr.length->(hl ops s0 tr p).h.n<=(hl ops s0 tr (p+k)).h.n
 | 0,p,_=>aCL _
 | k+1,p,aF=>by
  have aY:=Dm qH k p (by omega);have aP:p+k<tr.length:=by omega
  have eK:tr[p+k]? = some tr[p+k] :=aCM aP;have ap:=qH.step _ _ eK;rw[show p+(k+1)=(p+k)+1 from rfl,A1 eK];refine aD2 aY ?_;cases aQ:tr[p+k] with
  | skip i=>simp[mI,qy]
  | pure i v=>simp[mI,qy]
  | new i v cs=>simp[mI,qy,ga]
  | g0 i v h1=>
   rw[aQ] at ap;obtain⟨o,_,_,_,aI⟩:=ap;simpa [mI,qy] using aI
theorem Jd {ops:Array Oper} {s0:kt} {tr:List b9}:∀ (k p:Nat),p+k<=tr.length->(∀ r,p<=r->r<p+k->r∉fB tr)->oL (hl ops s0 tr p).h (hl ops s0 tr (p+k)).h
 | 0,p,_,_=>⟨[],rfl⟩
 | k+1,p,aF,fT=>by
  obtain⟨l,ar⟩:=Jd (ops:=ops) (s0:=s0) (tr:=tr) k p (by omega) (fun r h1 ag=>fT r h1 (by omega));have aP:p+k<tr.length:=by omega
  have eK:tr[p+k]? = some tr[p+k] :=aCM aP;have b2:tr[p+k].j2≠true:=fun aR=>fT (p+k) (by omega) (by omega) (GI.2 ⟨_,eK,aR⟩)
  rw[show p+(k+1)=(p+k)+1 from rfl,A1 eK];cases aQ:tr[p+k] with
  | skip i=>exact⟨l,by simp[mI,qy,ar]⟩
  | pure i v=>exact⟨l,by simp[mI,qy,ar]⟩
  | new i v cs=>exact⟨l++[cs],by simp[mI,qy,ar,wi]⟩
  | g0 i v h1=>rw[aQ] at b2; exact absurd rfl b2
theorem dW.aiU {id:Nat} {ops:Array Oper} {pre:Nat->Nat->Bool} {N:Nat} {s0:kt} {tr:List b9} (gA:yW ops pre tr) (bX:∀ (i:Nat) (o:Oper),ops[i]? = some o->pU N o.dst=true) (qH:H0 P G ops pre s0 tr) :
  dW P G (.code (.region id ops true) N s0.ah s0.h .normal (hl ops s0 tr tr.length).ah (hl ops s0 tr tr.length).h) :=by
 -- the step that carries out operation i
 have iS:∀ (i:Nat) (o:Oper),ops[i]? = some o->∃ t,tr[eR tr i]? = some t/\t.idx=i/\wV P G ops (hl ops s0 tr (eR tr i)) t:=fun i o ax=>by
  obtain⟨t,h1,ag⟩:=yp gA ((aDn.1 ax).1);exact⟨t,h1,ag,qH.step _ _ h1⟩
 have awd:∀ (i:Nat) (o:Oper),ops[i]? = some o->ll ops (nD ops pre (fun j=>((tr[eR tr j]?).map b9.val).getD .bad) s0.ah i o) o=ll ops (hl ops s0 tr (eR tr i)).ah o:=fun i o ax=>by
  unfold ll;cases aA:o.guard with
  | none=>rfl
  | some qr=>
   obtain⟨j,Ba⟩:=qr;simp only;cases ale:(ops[j]?).bind (·.dst) with
   | none=>rfl
   | some d=>
    simp only;rw[Sr gA s0 ax (t:=d) (by simp[Oper.looksAt,aA,ale])]
 have LQ:∀ (i:Nat) (o:Oper),ops[i]? = some o->∀ x∈o.op.operands,ek G (hl ops s0 tr (eR tr i)).ah x=ek G (nD ops pre (fun j=>((tr[eR tr j]?).map b9.val).getD .bad) s0.ah i o) x:=fun i o ax x al=>by
  cases x with
  | tmp t=>
   refine (Sr gA s0 ax (t:=t) ?_).symm;simp only[Oper.looksAt,aDr,List.mem_filterMap];exact .inl ⟨.tmp t,by simpa using al,rfl⟩
  | _=>rfl
 -- the moment ahead of effect k,or the end
 have M3:∀ k,k<=(fB tr).length->∃ T,T<=tr.length/\(T=tr.length\/∃ t,tr[T]? = some t/\t.j2=true)/\(T=if k<(fB tr).length then (fB tr).getD k 0 else tr.length) :=fun k hk=>by
  by_cases aP:k<(fB tr).length
  ·obtain⟨t,h1,ag⟩:=Sp aP;exact⟨_,aD4 (aCJ.1 h1).1,.inr ⟨t,h1,ag⟩,by rw[if_pos aP]⟩
  ·exact⟨_,aCL _,.inl rfl,by rw[if_neg aP]⟩
 have hv:∀ q,q<(fB tr).length->∃ t,tr[(fB tr).getD q 0]? = some t/\t.j2=true/\((tr[(fB tr).getD q 0]?).map b9.idx).getD 0=t.idx:=fun q bD=>by
  obtain⟨t,h1,ag⟩:=Sp bD;exact⟨t,h1,ag,by rw[h1]; rfl⟩
 have acD:∀ (i:Nat) (o:Oper) (t:b9),ops[i]? = some o->tr[eR tr i]? = some t->t.idx=i->t.j2=false->∀ k,zk pre (fB tr).length (fun q=>((tr[(fB tr).getD q 0]?).map b9.idx).getD 0) i k->
   HY P G ops (hl ops s0 tr (eR tr i)) (hl ops s0 tr (if k<(fB tr).length then (fB tr).getD k 0 else tr.length)).h t:=by
  intro i o t ax aQ Gc b2 k aL;obtain⟨rf,xL,ss⟩:=aL;obtain⟨T,Tx,Jv,o0⟩:=M3 k rf;rw[<-o0];have azb:eR tr i<tr.length:=(aCJ.1 aQ).1;have amq:eR tr i<T:=by
   by_cases aP:k<(fB tr).length
   ·rw[if_pos aP] at o0;obtain⟨au8,h1,ag,aq⟩:=hv k aP;rw[<-o0] at h1;rcases aEb (eR tr i) T with h | h | h
    ·exact h
    ·rw[h,h1] at aQ;cases aQ;rw[b2] at ag; cases ag
    ·have au:=gA.eager T (eR tr i) au8 t h1 aQ h ag;have:=xL k aP (by (try simp only); rw[aq,<-Gc]; exact au);omega
   ·rw[if_neg aP] at o0;omega
  refine qH.still T Jv _ t amq aQ (fun ch gP gX Ga gM=>?_);obtain⟨q,bD,qk⟩:=EL (GI.2 ⟨gP,Ga,gM⟩);obtain⟨aCm,h1,ag,aq⟩:=hv q bD;rw[qk,Ga] at h1;cases h1;have vJ:q<k:=by
   by_cases aP:k<(fB tr).length
   ·rw[if_pos aP] at o0;rcases aDK q k with h | h
    ·exact h
    ·rcases aFD h with h | h
     ·subst h; omega
     ·have:=vl (tr:=tr) h bD;omega
   ·omega
  cases aF:pre gP.idx t.idx with
  | false=>rfl
  | true=>
   have:=ss q bD (by (try simp only); rw[aq,<-Gc]; exact aF);omega
 refine dW.draw pre (fun j=>((tr[eR tr j]?).map b9.val).getD .bad) (fun j=>((tr[eR tr j]?).map fun t=>!t.uj).getD false) (fun j=>((tr[eR tr j]?).map b9.cls).getD .pure) (fB tr).length
  (fun q=>((tr[(fB tr).getD q 0]?).map b9.idx).getD 0) (fun k=>(hl ops s0 tr (if k<(fB tr).length then (fB tr).getD k 0 else tr.length)).h) (fun q=>(hl ops s0 tr ((fB tr).getD q 0+1)).h)
  (fun j=>(hl ops s0 tr (eR tr j)).h.n) (fun j=>((tr[eR tr j]?).map b9.cs).getD []) gA.hV bX ?_ ?_ ?_ ?_ ?_ ?_ ?_ ?_ ?_ ?_ ?_ ?_ ?_ ?_ ?_
 ·-- h0
  obtain⟨T,Tx,Jv,o0⟩:=M3 0 (aD5 _)
  try simp only
  rw[<-o0];have:=Jd (ops:=ops) (s0:=s0) (tr:=tr) T 0 (by omega) (fun r _ aC kC=>by
   obtain⟨q,bD,qk⟩:=EL kC;rw[if_pos (by omega)] at o0;rcases aFD (aD5 q) with h | h
   ·subst h; omega
   ·have:=vl (tr:=tr) h bD;omega)
  simpa [hl] using this
 ·simp
 ·-- hσ
  funext t;rw[acw gA s0 _ (aCL _)];cases hw:kq ops t with
  | none=>rfl
  | some j=>
   obtain⟨o,ax,_⟩:=yQ hw;obtain⟨M2,h1,_⟩:=yp gA ((aDn.1 ax).1);simp only;rw[if_pos ((aCJ.1 h1).1)]
 ·-- heff
  intro i o ax gv ak;obtain⟨t,h1,ag,_⟩:=iS i o ax;simp only[h1,aCR,aDA] at ak;have au:t.j2=true:=by cases t<;>simp_all [b9.cls,b9.j2]
  obtain⟨q,bD,qk⟩:=EL (GI.2 ⟨t,h1,au⟩);exact⟨q,bD,by rw[qk,h1]; exact ag⟩
 ·-- heff'
  intro q bD;obtain⟨t,h1,ag,aq⟩:=hv q bD;refine⟨ops[t.idx]'(gA.Hl _ _ h1),by rw[aq]; simp[gA.Hl _ _ h1],?_,?_⟩
  ·simp only[aq,G6 gA h1,h1,aCR,aDA];cases t<;>simp_all [b9.uj,b9.j2]
  ·simp only[aq,G6 gA h1,h1,aCR,aDA];cases t<;>simp_all [b9.cls,b9.j2]
 ·-- hord
  intro q gf bD ph aP;obtain⟨t,h1,ag,aq⟩:=hv q bD;obtain⟨gP,du,eV,mu⟩:=hv gf ph;simp only[aq,mu];exact gA.eager _ _ t gP h1 du (vl aP ph) ag
 ·-- hinj
  intro q gf bD ph au;obtain⟨t,h1,ag,aq⟩:=hv q bD;obtain⟨gP,du,eV,mu⟩:=hv gf ph;simp only[aq,mu] at au;have:=gA.inj _ _ t gP h1 du au;rcases aEb q gf with h | h | h
  ·have:=vl (tr:=tr) h ph; omega
  ·exact h
  ·have:=vl (tr:=tr) h bD; omega
 ·-- hwant
  intro i o ax;rw[awd i o ax];obtain⟨t,h1,ag,aq⟩:=iS i o ax;simp only[h1,aCR,aDA];cases t with
  | skip j=>obtain⟨eh,ev,hw⟩:=aq; simp only[b9.idx] at ag; subst ag; rw[ax] at ev; cases ev; exact hw
  | pure j v=>obtain⟨eh,ev,hw⟩:=aq; simp only[b9.idx] at ag; subst ag; rw[ax] at ev; cases ev; exact hw
  | new j v cs=>obtain⟨eh,mk,ev,hw,_⟩:=aq; simp only[b9.idx] at ag; subst ag; rw[ax] at ev; cases ev; exact hw
  | g0 j v du=>obtain⟨eh,ev,hw,_⟩:=aq; simp only[b9.idx] at ag; subst ag; rw[ax] at ev; cases ev; exact hw
 ·-- hskip
  intro i o ax gv;obtain⟨t,h1,ag,aq⟩:=iS i o ax;simp only[h1,aCR,aDA] at gv ⊢;cases t<;>simp_all [b9.uj,b9.val]
 ·-- hpure
  intro i o ax gv ak k aL;obtain⟨t,h1,ag,aq⟩:=iS i o ax;simp only[h1,aCR,aDA] at gv ak;have cL:=acD i o t ax h1 ag (by cases t<;>simp_all [b9.cls,b9.j2]) k aL;cases t with
  | pure j v=>
   simp only[b9.idx] at ag;subst ag;have:=cL o ax;rw[MO _ _ (LQ j o ax)] at this;simpa [h1,b9.val] using this
  | skip j=>simp[b9.uj] at gv
  | new j v cs=>simp[b9.cls] at ak
  | g0 j v du=>simp[b9.cls] at ak
 ·-- hnew
  intro i o ax gv ak;obtain⟨t,h1,ag,aq⟩:=iS i o ax;simp only[h1,aCR,aDA] at gv ak;cases t with
  | new j v cs=>
   obtain⟨eh,mk,ev,_,aI,ay⟩:=aq;simp only[b9.idx] at ag;subst ag;rw[ax] at ev; cases ev;rw[aoJ _ (LQ j o ax)] at aI;refine⟨mk,by simpa [h1,b9.cs] using aI,by simpa [h1,b9.val] using ay,?_,fun k aL=>?_⟩
   ·have eD:eR tr j<=tr.length:=aD4 (aCJ.1 h1).1;have:=Dm qH (eR tr j) 0 (by omega);simpa [hl] using this
   ·have cL:=acD j o _ ax h1 rfl rfl k aL;simpa [HY,h1,b9.cs] using cL
  | skip j=>simp[b9.uj] at gv
  | pure j v=>simp[b9.cls] at ak
  | g0 j v du=>simp[b9.cls] at ak
 ·-- hbid
  intro i j o eh ax ev vu sp dY q8 ai;have Tj:∀ (i:Nat) (o:Oper),ops[i]? = some o->((tr[eR tr i]?).map b9.cls).getD .pure=.new->∀ p,eR tr i<p->p<=tr.length->(hl ops s0 tr (eR tr i)).h.n<(hl ops s0 tr p).h.n:=by
   intro i o ax ak p aF hu;obtain⟨t,h1,ag,_⟩:=iS i o ax;simp only[h1,aCR,aDA] at ak;have aH:=Dm qH (p - (eR tr i+1)) (eR tr i+1) (by omega);rw[show eR tr i+1+(p - (eR tr i+1))=p by omega,A1 h1] at aH;cases t with
   | new j v cs=>simp only[mI,qy,ga] at aH; omega
   | skip j=>simp[b9.cls] at ak
   | pure j v=>simp[b9.cls] at ak
   | g0 j v du=>simp[b9.cls] at ak
  obtain⟨t,h1,ag,_⟩:=iS i o ax;obtain⟨gP,du,eV,_⟩:=iS j eh ev;have ar:=(aCJ.1 h1).1;have dN:=(aCJ.1 du).1;rcases aEb (eR tr i) (eR tr j) with h | h | h
  ·have:=Tj i o ax dY _ h (aD4 dN); (try simp only at ai); omega
  ·rw[h,du] at h1; cases h1; rw[<-ag,<-eV]
  ·have:=Tj j eh ev q8 _ h (aD4 ar); (try simp only at ai); omega
 ·-- hbid'
  intro i o q ax gv ak bD;obtain⟨t,h1,ag,_⟩:=iS i o ax;obtain⟨M0,aW,bg,bj⟩:=hv q bD;simp only[h1,aCR,aDA] at ak;have ar:=(aCJ.1 h1).1;have dN:=(aCJ.1 aW).1;simp only[if_pos bD];rcases aEb (eR tr i) ((fB tr).getD q 0) with h | h | h
  ·left;have aH:=Dm qH ((fB tr).getD q 0 - (eR tr i+1)) (eR tr i+1) (by omega);rw[show eR tr i+1+((fB tr).getD q 0 - (eR tr i+1))=(fB tr).getD q 0 by omega,A1 h1] at aH;cases t with
   | new j v cs=>simp only[mI,qy,ga] at aH; omega
   | skip j=>simp[b9.cls] at ak
   | pure j v=>simp[b9.cls] at ak
   | g0 j v du=>simp[b9.cls] at ak
  ·rw[h,aW] at h1; cases h1;cases t<;>simp_all [b9.cls,b9.j2]
  ·right;have aH:=Dm qH (eR tr i - ((fB tr).getD q 0+1)) ((fB tr).getD q 0+1) (by omega)
   rwa [show (fB tr).getD q 0+1+(eR tr i - ((fB tr).getD q 0+1))=eR tr i by omega] at aH
 ·-- hgrow
  intro q bD;obtain⟨M0,aW,bg,bj⟩:=hv q bD;have dN:=(aCJ.1 aW).1;obtain⟨T,Tx,Jv,o0⟩:=M3 (q+1) (by omega)
  try simp only
  rw[<-o0];have aP:(fB tr).getD q 0<T:=by
   by_cases h:q+1<(fB tr).length
   ·rw[if_pos h] at o0;have:=vl (tr:=tr) (show q<q+1 by omega) h;omega
   ·rw[if_neg h] at o0; omega
  have:=Jd (ops:=ops) (s0:=s0) (tr:=tr) (T - ((fB tr).getD q 0+1)) ((fB tr).getD q 0+1) (by omega) (fun r lI l4 kC=>by
   obtain⟨gf,ph,qk⟩:=EL kC;have F1:q<gf:=by
    rcases aEb q gf with h | h | h
    ·exact h
    ·subst h; omega
    ·have:=vl (tr:=tr) h bD; omega
   by_cases h:q+1<(fB tr).length
   ·rw[if_pos h] at o0;rcases aFD (show q+1<=gf from F1) with h' | h'
    ·subst h'; omega
    ·have:=vl (tr:=tr) h' ph; omega
   ·omega)
  rwa [show (fB tr).getD q 0+1+(T - ((fB tr).getD q 0+1))=T by omega] at this
 ·-- hcall
  intro q o bD ax;obtain⟨M0,aW,bg,bj⟩:=hv q bD;have h5:=G6 gA aW;simp only[bj] at ax ⊢;have ap:=qH.step _ _ aW;cases M0 with
  | g0 j v h1=>
   obtain⟨eh,ev,_,au,_⟩:=ap;simp only[b9.idx] at ax h5 ⊢;rw[ax] at ev; cases ev;have jw:=LQ j o ax;rw[h5] at jw;have:=ajn jw au;simp only[h5,aW,if_pos bD,aCR,aDA,b9.val];rw[A1 aW];exact this
  | skip j=>simp[b9.j2] at bg
  | pure j v=>simp[b9.j2] at bg
  | new j v cs=>simp[b9.j2] at bg
end
abbrev NK:=dk ad
def look (s:NK) (t:Nat) :ad:=match s.get t with | some v=>v | none=>jk
def A4 (m i:Nat) :Bool:=Nat.testBit m i
def vk (ms:List Nat) :List Edge->Nat
 | []=>0
 | e::es=>match Region.binds .any e with
  | true=>Nat.lor (Nat.lor (2 ^ e.on) (ms.getD e.on 0)) (vk ms es)
  | false=>vk ms es
def Xy (ms:List Nat) :List Oper->List Nat
 | []=>ms
 | o::os=>Xy (ms++[vk ms o.after.toList]) os
def jh (ops:Array Oper) :List Nat:=Xy [] ops.toList
def pu (ms:List Nat) (i j:Nat) :Bool:=A4 (ms.getD i 0) j
def k7:Op->Bool
 | .move _ | .assign _ | .pick .. | .alloc _ | .box .. | .build .. | .buildSlice .. | .load .. | .nilCheck _ | .binOp .. | .unOp .. | .convert .. | .makeInterface .. | .makeFunc .. | .makeSlice .. | .slice .. | .fieldAddr .. | .field .. | .indexAddr .. | .index .. | .extract ..=>false
 | .call c=>match c.callee with
  | .builtin .len | .builtin .cap | .builtin .min | .builtin .max=>false
  | _=>true
 | _=>true
def anK:Op->Bool
 | .move _ | .assign _ | .pick .. | .build .. | .load .. | .nilCheck _ | .binOp .. | .unOp .. | .convert .. | .makeInterface .. | .makeFunc .. | .slice .. | .fieldAddr .. | .field .. | .indexAddr .. | .index .. | .extract ..=>true
 | .call c=>match c.callee with
  | .builtin .len | .builtin .cap | .builtin .min | .builtin .max=>true
  | _=>false
 | _=>false
def L4 (done:Nat) (g0:Bool) :Nat->List Nat->List Oper->Option Nat
 | i,m::ms,o::os=>match !A4 done i&&Nat.beq (Nat.land m done) m&&(k7 o.op == g0) with
  | true=>some i
  | false=>L4 done g0 (i+1) ms os
 | _,_,_=>none
def MH (ms:List Nat) (os:List Oper) :Nat->Nat->List Nat
 | 0,_=>[]
 | k+1,done=>match L4 done false 0 ms os with
  | some i=>i::MH ms os k (Nat.lor done (2 ^ i))
  | none=>match L4 done true 0 ms os with
   | some i=>i::MH ms os k (Nat.lor done (2 ^ i))
   | none=>[]
def gi (ms:List Nat) (ops:Array Oper) :List Nat:=MH ms ops.toList ops.size 0
def Em (p:Nat->Oper->Bool) :Nat->List Oper->Bool
 | _,[]=>true
 | i,o::os=>p i o&&Em p (i+1) os
theorem NW {p:Nat->Oper->Bool}:∀ (l:List Oper) (i:Nat),Em p i l=true->∀ (j:Nat) (o:Oper),l[j]? = some o->p (i+j) o=true
 | [],i,_,j,o,h=>by simp at h
 | x::l,i,h,j,o,am=>by
  simp only[Em,aCQ] at h;cases j with
  | zero=>simp only[aDd,Option.some.injEq] at am; subst am; exact h.1
  | succ j=>
   simp only[aDz] at am;have:=NW l (i+1) h.2 j o am
   rwa [show i+1+j=i+(j+1) by omega] at this
def ID (t:Nat) (o:Oper) :Bool:=match o.dst with | some d=>Nat.beq d t | none=>false
def yP (t:Nat) :Nat->List Oper->Option Nat
 | _,[]=>none
 | i,o::os=>match ID t o with
  | true=>some i
  | false=>yP t (i+1) os
def IB (ms:List Nat) (ops:Array Oper) :Bool:=
 Em (fun i o=>
  Nat.beq (ms.getD i 0) (vk ms o.after.toList) &&
  (o.after.toList.all fun e=>!Region.binds .any e||Nat.blt e.on i) &&
  (match o.dst with | some d=>(match yP d 0 ops.toList with | some j=>Nat.beq j i | none=>false) | none=>true) &&
  ((o.looksAt ops).all fun t=>match yP t 0 ops.toList with | some j=>pu ms i j||pu ms j i||Nat.beq j i | none=>true)) 0 ops.toList &&
 Region.noSelect ops
def GZ (ms:List Nat) :List Nat->Bool
 | []=>true
 | i::r=>(r.all fun j=>!Nat.beq i j&&!pu ms i j)&&GZ ms r
def LW (ms:List Nat) (ops:Array Oper) (kF:List Nat) :Bool:=
 IB ms ops&&GZ ms kF&&Nat.beq kF.length ops.size&&(kF.all fun i=>Nat.blt i ops.size)&&(List.range ops.size).all fun i=>kF.contains i
structure adH where
 t:b9
 s:NK
 h:bh
section
variable (P:Program) (G:Nat->ad)
end
theorem IJ (ms:List Nat) (j:Nat) :∀ (es:List Edge),A4 (vk ms es) j=true->∃ e∈es,Region.binds .any e=true/\(e.on=j\/pu ms e.on j=true)
 | [],h=>by simp[vk,A4] at h
 | e::es,h=>by
  unfold vk at h;cases ai:Region.binds .any e with
  | false=>
   rw[ai] at h;obtain⟨fV,h1,ag⟩:=IJ ms j es h;exact⟨fV,aFs _ h1,ag⟩
  | true=>
   rw[ai] at h;simp only[A4] at h;have h' : Nat.testBit ((2 ^ e.on ||| ms.getD e.on 0) ||| vk ms es) j=true:=h;rw[Nat.testBit_or,Nat.testBit_or,aE7,aE7,Nat.testBit_two_pow] at h';rcases h' with (h' | h') | h'
   ·exact⟨e,aFE,ai,.inl (by simpa using h')⟩
   ·exact⟨e,aFE,ai,.inr h'⟩
   ·obtain⟨fV,h1,ag⟩:=IJ ms j es h';exact⟨fV,aFs _ h1,ag⟩
theorem adk (t:Nat) :∀ (l:List Oper) (i:Nat),yP t i l=((List.range l.length).find? fun j=>match l[j]? with | some o=>o.dst == some t | none=>false).map (·+i)
 | [],i=>by simp[yP]
 | o::l,i=>by
  unfold yP;have ald:ID t o=(o.dst == some t) :=by
   unfold ID;cases o.dst with
   | none=>rfl
   | some d=>
    by_cases h:d=t
    ·subst h; simp
    ·have:Nat.beq d t=false:=lb h;simp[this,h]
  rw[ald,aC6,List.range_succ_eq_map,aFr];simp only[aDd];cases ai:(o.dst == some t) with
  | true=>simp
  | false=>
   simp only[List.find?_map];rw[adk t l (i+1)];have:((fun j=>match (o::l)[j]? with | some o=>o.dst == some t | none=>false) ∘ Nat.succ)=fun j=>match l[j]? with | some o=>o.dst == some t | none=>false:=by
    funext j; simp
   rw[this];cases (List.range l.length).find? (fun j=>match l[j]? with | some o=>o.dst == some t | none=>false) with
   | none=>rfl
   | some j=>simp; omega
theorem adj (ops:Array Oper) (t:Nat) :yP t 0 ops.toList=kq ops t:=by
 rw[adk];unfold kq;simp only[aEC,aEK,aFq,Option.map_id_fun',id_eq];congr 1
theorem aiV {ms:List Nat} {ops:Array Oper} (h:IB ms ops=true) :te ops (pu ms) :=by
 unfold IB at h;rw[aCQ] at h;obtain⟨h,ap⟩:=h;have key:∀ (i:Nat) (o:Oper),ops[i]? = some o->_:=fun i o ax=>NW _ 0 h i o (by simpa using ax)
 simp only[aDT,aCQ] at key;refine⟨fun i o e ax au ai=>?_,fun i o j ax aF=>?_,fun i o t ax bX=>?_,fun i o t j ax aQ hw=>?_,ap⟩
 ·have:=(key i o ax).1.1.2;rw[aDO] at this;have:=this e (by simpa using au);rw[ai] at this;simp only[Bool.not_true,aEF] at this;simpa [aF8] using this
 ·have:=la (key i o ax).1.1.1;have gX:A4 (ms.getD i 0) j=true:=aF;rw[this] at gX;obtain⟨e,h1,ag⟩:=IJ ms j _ gX;exact⟨e,by simpa using h1,ag⟩
 ·have:=(key i o ax).1.2;rw[bX] at this;simp only at this;rw[adj] at this;cases hw:kq ops t with
  | none=>rw[hw] at this; cases this
  | some j=>rw[hw] at this; simp only at this; rw[la this]
 ·have:=(key i o ax).2;rw[aDO] at this;have:=this t aQ;rw[adj,hw] at this;simp only[aE7] at this;rcases this with (h1 | h1) | h1
  ·exact .inl h1
  ·exact .inr (.inl h1)
  ·exact .inr (.inr (la h1))
theorem G0 {ms:List Nat}:∀ {l:List Nat},GZ ms l=true->∀ (p ch:Nat) (i j:Nat),l[p]? = some i->l[ch]? = some j->p<ch->i≠j/\pu ms i j=false
 | [],_,p,ch,i,j,aB,_,_=>by simp at aB
 | x::l,h,p,ch,i,j,aB,am,aP=>by
  simp only[GZ,aCQ,aDO] at h;cases ch with
  | zero=>omega
  | succ ch=>
   simp only[aDz] at am;cases p with
   | zero=>
    simp only[aDd,Option.some.injEq] at aB;subst aB;have:=h.1 j (aCP am);simp only[aET] at this;refine⟨fun au=>?_,this.2⟩;subst au;rw[ut rfl] at this;cases this.1
   | succ p=>
    simp only[aDz] at aB;exact G0 h.2 p ch i j aB am (by omega)
section
variable {P:Program} {G:Nat->ad}
structure awE (P:Program) (G:Nat->ad) (ops:Array Oper) (e:adH) :Prop where
 step:wV P G ops ⟨look e.s,e.h⟩ e.t
 pure:∀ i v,e.t=.pure i v->∃ o,ops[i]? = some o/\anK o.op=true/\dw P e.h (ek G (look e.s)) o.op=some (.val v e.h)
theorem Hs {ops:Array Oper} {s0:kt} {t:b9} {tr:List b9} (p:Nat) :hl ops s0 (t::tr) (p+1)=hl ops (mI ops s0 t) tr p:=by
 simp[hl]
end

section
variable {P:Program} {G:Nat->ad}
theorem atJ (w:World) (R:Nat->Prop) (fR:∀ k,w.heap.size<=k->R k) :cp R w.heap.size w bh.empty (fun _=>none) where
 blk:=fun b m hm=>by cases hm
 inj:=fun b bK m cV ar=>by rw[EN] at ar; cases ar
 base:=fun b m ar=>by rw[EN] at ar; cases ar
 fresh:=fun b _=>EN b
 up:=fR
 size:=aCL _
 lL:=fun b _=>rfl
theorem XL (μ:dd) (k:Nat) :¬ mh bh.empty μ k:=by
 rintro⟨b,m,ar,_⟩;rw[EN] at ar; cases ar
theorem M4 (nN:P.follows .mixedOrders=true) (lY:∀ g,(G g).closed=true) {f:FuncId} {args:List ad} {r:ad} {h' : bh} (au:dW P G (.call f args bh.empty r h'))
  {w:World} {A:Nat->Prop} {vs:Array Value} (aA:∀ g,gc w A (G g) (.pointer (some ⟨g,0,none⟩))) (ar:vs.size=args.length)
  (ay:∀ (j:Nat) (c:ad) (v:Value),args[j]? = some c->vs[j]? = some v->gc w A c v) :
  Calls P f vs w fun e w'=>∃ v μ',e=.returned v/\yT w w'/\cp (fun k=>A k\/w.heap.size<=k) w.heap.size w' h' μ'/\aZ w' (fun k=>A k\/w.heap.size<=k) h' μ' r v:=by
 have up:∀ {c:ad} {v:Value},gc w A c v->aZ w (fun k=>A k\/w.heap.size<=k) bh.empty (fun _=>none) c v:=fun ak=>ak.up (fun k _ hk=>⟨.inl hk,XL _ k⟩)
 refine (auD nN lY au (fun k=>A k\/w.heap.size<=k) w.heap.size w (fun _=>none) vs (atJ w _ fun k hk=>.inr hk) (fun g=>⟨lY g,up (aA g)⟩) ar (fun j c v am fX=>up (ay j c v am fX))).mono ?_;rintro e w' ⟨v,μ',rfl,ex,rel,aC⟩;exact⟨v,μ',rfl,⟨⟨ex.os,ex.tape,ex.output,ex.size,fun k hk=>ex.c6 k hk (XL _ k)⟩,ex.drawn⟩,rel,aC⟩
theorem au9 (nN:P.follows .mixedOrders=true) (lY:∀ g,(G g).closed=true) {f:FuncId} {args:List ad} {h' : bh} (au:dW P G (.call f args bh.empty (.bool true) h'))
  {w:World} {A:Nat->Prop} {vs:Array Value} (aA:∀ g,gc w A (G g) (.pointer (some ⟨g,0,none⟩))) (ar:vs.size=args.length)
  (ay:∀ (j:Nat) (c:ad) (v:Value),args[j]? = some c->vs[j]? = some v->gc w A c v) :
  Calls P f vs w fun e w'=>e=.returned (.bool true)/\RowKit.Below w.heap.size w w':=by
 refine (M4 nN lY au aA ar ay).mono ?_;rintro e w' ⟨v,μ',rfl,ai,_,aC⟩;cases aC;exact⟨rfl,ai.toBelow⟩
end

section
variable {α:Type}
theorem wz:∀ (k k' : Nat) (t:dk α) (n:Nat) (x:α),n<k->n<k'->t.lj k n x=t.lj k' n x
 | 0,_,_,_,_,h,_=>by omega
 | _+1,0,_,_,_,_,h=>by omega
 | k+1,k'+1,t,n,x,h,h'=>by
  by_cases aG:n=0
  ·subst aG;cases t<;>rfl
  ·have ai:Nat.beq n 0=false:=lb aG;cases t with
   | nil=>
    unfold dk.lj;simp only[ai];rw[wz k k' .nil (n / 2) x (by omega) (by omega),wz k k' .nil (n / 2 - 1) x (by omega) (by omega)]
   | node l v r=>
    unfold dk.lj;simp only[ai];rw[wz k k' l (n / 2) x (by omega) (by omega),wz k k' r (n / 2 - 1) x (by omega) (by omega)]
def dk.lt:dk α->dk α | .nil=>.nil | .node l _ _=>l
def dk.rt:dk α->dk α | .nil=>.nil | .node _ _ r=>r
def dk.mid:dk α->Option α | .nil=>none | .node _ v _=>v
theorem rI (t:dk α) (x:α) :t.set 0 x=.node t.lt (some x) t.rt:=by cases t<;>rfl
theorem n0 (t:dk α) (m:Nat) (x:α) :t.set (2*m+1) x=.node (t.lt.set m x) t.mid t.rt:=by
 have h1:Nat.beq (2*m+1) 0=false:=lb (by omega);have ag:Nat.beq ((2*m+1) % 2) 1=true:=ut (by omega);have aq:(2*m+1) / 2=m:=by omega
 cases t with
 | nil=>show dk.lj (2*m+1+1) .nil (2*m+1) x=_; unfold dk.lj; simp only[h1,ag,aq]; rw[wz _ (m+1) _ _ _ (by omega) (by omega)]; rfl
 | node l v r=>show dk.lj (2*m+1+1) (.node l v r) (2*m+1) x=_; unfold dk.lj; simp only[h1,ag,aq]; rw[wz _ (m+1) _ _ _ (by omega) (by omega)]; rfl
theorem nZ (t:dk α) (m:Nat) (x:α) :t.set (2*m+2) x=.node t.lt t.mid (t.rt.set m x) :=by
 have h1:Nat.beq (2*m+2) 0=false:=lb (by omega);have ag:Nat.beq ((2*m+2) % 2) 1=false:=lb (by omega);have aq:(2*m+2) / 2 - 1=m:=by omega
 cases t with
 | nil=>show dk.lj (2*m+2+1) .nil (2*m+2) x=_; unfold dk.lj; simp only[h1,ag,aq]; rw[wz _ (m+1) _ _ _ (by omega) (by omega)]; rfl
 | node l v r=>show dk.lj (2*m+2+1) (.node l v r) (2*m+2) x=_; unfold dk.lj; simp only[h1,ag,aq]; rw[wz _ (m+1) _ _ _ (by omega) (by omega)]; rfl
theorem LN (n:Nat) :n=0\/(∃ m,m<n/\n=2*m+1)\/∃ m,m<n/\n=2*m+2:=by
 rcases Nat.eq_zero_or_pos n with h | h
 ·exact .inl h
 ·rcases Nat.mod_two_eq_zero_or_one n with ag | ag
  ·exact .inr (.inr ⟨n / 2 - 1,by omega,by omega⟩)
  ·exact .inr (.inl ⟨n / 2,by omega,by omega⟩)
theorem aug (n:Nat) :∀ (t:dk α) (x y:α),(t.set n x).set n y=t.set n y:=by
 induction n using Nat.strongRecOn with
 | _ n aY=>
  intro t x y;rcases LN n with rfl | ⟨m,hm,rfl⟩ | ⟨m,hm,rfl⟩
  ·rw[rI t x,rI t y,rI]; rfl
  ·rw[n0 t,n0 t,n0]; simp only[dk.lt,dk.mid,dk.rt,aY m hm]
  ·rw[nZ t,nZ t,nZ]; simp only[dk.lt,dk.mid,dk.rt,aY m hm]
theorem set_comm (n:Nat) :∀ (t:dk α) (k:Nat) (x y:α),n≠k->(t.set n x).set k y=(t.set k y).set n x:=by
 induction n using Nat.strongRecOn with
 | _ n aY=>
  intro t k x y b2;rcases LN n with rfl | ⟨m,hm,rfl⟩ | ⟨m,hm,rfl⟩<;>rcases LN k with rfl | ⟨j,am,rfl⟩ | ⟨j,am,rfl⟩
  ·exact absurd rfl b2
  ·rw[rI t,n0,n0 t,rI]; rfl
  ·rw[rI t,nZ,nZ t,rI]; rfl
  ·rw[n0 t,rI,rI t,n0]; rfl
  ·rw[n0 t,n0,n0 t,n0]; simp only[dk.lt,dk.mid,dk.rt]; rw[aY m hm _ j _ _ (by omega)]
  ·rw[n0 t,nZ,nZ t,n0]; rfl
  ·rw[nZ t,rI,rI t,nZ]; rfl
  ·rw[nZ t,n0,n0 t,nZ]; rfl
  ·rw[nZ t,nZ,nZ t,nZ]; simp only[dk.lt,dk.mid,dk.rt]; rw[aY m hm _ j _ _ (by omega)]
end
abbrev aw:=List bp
def nM:Nat->dk bp->aw->dk bp
 | _,t,[]=>t
 | i,t,c::cs=>nM (i+1) (t.set i c) cs
def cj (l:aw) :bh:=⟨l.length,nM 0 .nil l⟩
@[simp] theorem yU (l:aw) :(cj l).n=l.length:=rfl
theorem Ux:∀ (l:aw) (i:Nat) (t:dk bp) (c:bp),nM i t (l++[c])=(nM i t l).set (i+l.length) c
 | [],i,t,c=>rfl
 | x::l,i,t,c=>by
  simp only[aDG,nM,aC6];rw[Ux l,show i+1+l.length=i+(l.length+1) by omega]
theorem mU (l:aw) (c:bp) :(cj l).push c=cj (l++[c]) :=by
 unfold cj bh.push;rw[Ux];simp
theorem UA:∀ (l:aw) (i j:Nat) (t:dk bp) (c:bp),i<j->(nM j t l).set i c=nM j (t.set i c) l
 | [],_,_,_,_,_=>rfl
 | x::l,i,j,t,c,h=>by
  simp only[nM];rw[UA l i (j+1) _ c (by omega),set_comm j t i x c (by omega)]
theorem Uz:∀ (l:aw) (i b:Nat) (t:dk bp) (c:bp),b<l.length->(nM i t l).set (i+b) c=nM i t (l.set b c)
 | [],_,_,_,_,h=>by simp at h
 | x::l,i,0,t,c,_=>by
  simp only[nM,aEP,aFq];rw[UA l i (i+1) _ c (by omega),aug]
 | x::l,i,b+1,t,c,h=>by
  simp only[nM,aFF];rw[<-Uz l (i+1) b _ c (by simpa using h),show i+(b+1)=i+1+b by omega]
theorem oN {l:aw} {b:Nat} (c:bp) (h:b<l.length) :(cj l).set b c=cj (l.set b c) :=by
 unfold cj bh.set;have:=Uz l 0 b .nil c h;rw[aDT] at this;simp only[this,List.length_set]
theorem Uy:∀ (l:aw) (i:Nat) (t:dk bp) (b:Nat),(nM i t l).get b=if i<=b/\b<i+l.length then l[b - i]? else t.get b
 | [],i,t,b=>by simp only[nM,aDx]; rw[if_neg (by omega)]
 | x::l,i,t,b=>by
  simp only[nM,aC6];rw[Uy l,dk.I8];by_cases h1:i+1<=b/\b<i+1+l.length
  ·rw[if_pos h1,if_pos (by omega),show b - i=(b - (i+1))+1 by omega,aDz]
  ·rw[if_neg h1];by_cases ag:b=i
   ·subst ag; rw[if_pos rfl,if_pos (by omega)]; simp
   ·rw[if_neg ag,if_neg (by omega)]
theorem oM (l:aw) (b:Nat) :(cj l).f b=match l[b]? with | some c=>c | none=>.none:=by
 unfold cj bh.f;simp only[Uy,aD5,true_and,aDT,aFt];by_cases h:b<l.length
 ·rw[if_pos h]; cases l[b]?<;>rfl
 ·rw[if_neg h,aC0 (by omega)]; rfl
theorem ln {l:aw} {b n:Nat} {cs:List ad}:(cj l).f b=.cells n cs<->l[b]? = some (.cells n cs) :=by
 rw[oM];cases h:l[b]? with
 | none=>simp
 | some c=>simp
theorem fW {l:aw} {b:Nat} {c:bp} (h:l[b]? = some c) :b<l.length:=(aCJ.1 h).1
def e4 (l:aw) :ad->Option (List ad × Nat)
 | .ptr b off sz=>match l[b]? with
  | some (.cells n cs)=>if n=sz then some (cs,off) else none
  | _=>none
 | .cm cs off=>some (cs,off)
 | _=>none
def uz (n:Nat) (cs:List ad) (off:Nat) :Option ad:=if off+n<=cs.length then some (.aM ((cs.drop off).take n)) else none
def kI (n:Nat) (l:aw) (p v:ad) :Option aw:=
 match p,v.cells with
 | .ptr b off sz,some vs=>match l[b]? with
  | some (.cells m cs)=>if m=sz/\vs.length=n/\off+n<=m then some (l.set b (.cells m (bO cs off vs))) else none
  | _=>none
 | _,_=>none
def dL (l:aw) (z:Nat) :ad->Option (List ad × Nat)
 | .aK=>some ([],0)
 | .cr eG es=>if z=eG then some (es.flatten,es.length) else none
 | .av eG b off len _ sz=>match l[b]? with
  | some (.cells n cs)=>if n=sz/\z=eG then some ((cs.drop off).take (len*z),len) else none
  | _=>none
 | .str s=>if z=1 then some (s.map jR,s.length) else none
 | _=>none
def iW (l:aw) (z by_:Nat) (s:ad) (xs:List ad) (n:Nat) :Option (ad × aw) :=
 if n=0 then (match s with | .aK | .cr .. | .av ..=>some (s,l) | _=>none)
 else if z=0\/by_=0 then none else match s with
  | .aK=>if n*by_<=c4 then some (.av z l.length 0 n n (n*z),l++[.cells (n*z) xs]) else none
  | .av eG b off len cap sz=>match l[b]? with
   | some (.cells m cs)=>
    if m=sz/\z=eG/\(len+n)*by_<=c4 then
     if len+n<=cap then some (.av z b off (len+n) cap sz,l.set b (.cells m (bO cs (off+len*z) xs)))
     else if off+cap*z<sz then some (.av z l.length 0 (len+n) (len+n) ((len+n)*z),l++[.cells ((len+n)*z) ((cs.drop off).take (len*z)++xs)])
     else if off=0 then some (.av z b 0 (len+n) (len+n) ((len+n)*z),l.set b (.cells ((len+n)*z) (cs.take (len*z)++xs)))
     else some (.av z l.length 0 (len+n) (len+n) ((len+n)*z),l.set b .dead++[.cells ((len+n)*z) ((cs.drop off).take (len*z)++xs)])
    else none
   | _=>none
  | _=>none
def BD (z:Nat) (l:aw) (d x:ad) :Option (ad × aw) :=
 match dL l z x with
 | none=>none
 | some (xs,n)=>match d with
  | .aK=>some (.int .i64 0,l)
  | .av eG b off len _ sz=>match l[b]? with
   | some (.cells m cs)=>if m=sz/\z=eG then some (.int .i64 ((min n len:Nat) :Int),l.set b (.cells m (bO cs off (xs.take (min n len*z))))) else none
   | _=>none
  | _=>none
def v1 (l:aw) :ad->Option (List (ad × ad × Nat))
 | .iq=>some []
 | .mp b=>match l[b]? with | some (.map es _)=>some es | _=>none
 | _=>none
def qU (l:aw) (x:ad) :Option (List UInt8) :=match x with
 | .str s=>some s
 | x=>match dL l 1 x with
  | some (cs,_)=>oc cs
  | none=>none
def cmpL (l:aw) (x y:ad) :Option ad:=match qU l x,qU l y with
 | some a,some b=>some (.int .i64 (oV a b))
 | _,_=>none
def wa (l:aw) (x:ad) :Option (ad × aw) :=match x with
 | .it b=>match l[b]? with
  | some (.iter s pos)=>match Nat.blt pos s.length with
   | true=>some (.b5 [.bool true,.int .i64 pos,.int .i32 (Utf8.decode ⟨s.toArray⟩ pos).1],l.set b (.iter s (pos+(Utf8.decode ⟨s.toArray⟩ pos).2)))
   | false=>some (.b5 [.bool false],l)
  | _=>none
 | _=>none
def DK (l:aw) (x:ad) :Option (ad × aw) :=match x with
 | .str s=>some (.it l.length,l++[.iter s 0])
 | _=>none
def Gv (l:aw) (x:ad) :Option ad:=match x with
 | .iq=>some (.int .i64 0)
 | .mp b=>match l[b]? with | some (.map es _)=>some (.int .i64 es.length) | _=>none
 | _=>none
def tu (zero:List ad) (l:aw) :ad->Option aw
 | .aK=>some l
 | .cr _ []=>some l
 | .av z b off len _ sz=>if len=0 then some l else match l[b]? with
  | some (.cells m cs)=>if m=sz/\zero.length=z then some (l.set b (.cells m (bO cs off (ey zero len)))) else none
  | _=>none
 | _=>none
theorem Mn (l:aw) (p:ad) :reach (cj l) p=e4 l p:=by
 cases p<;>try rfl
 rename_i b off sz;simp only[reach,e4,oM];cases l[b]? with
 | none=>rfl
 | some c=>cases c<;>rfl
theorem BC (l:aw) (z:Nat) (x:ad) :contents (cj l) z x=dL l z x:=by
 cases x<;>try rfl
 rename_i eG b off len cap sz;simp only[contents,dL,oM];cases l[b]? with
 | none=>rfl
 | some c=>cases c<;>rfl
section
variable (P:Program)
inductive ku where
 | arr (n z:Nat)
 | av (z:Nat)
 | str
 deriving DecidableEq
def pA (t:TypeId) :Option ku:=match P.underlying t with
 | some (.array n e)=>(c5 P e).map fun z=>.arr n z
 | some (.slice e)=>(c5 P e).map fun z=>.av z
 | some .string=>some .str
 | _=>none
inductive bf where
 | aO (x:Operand)
 | pick (c a b:Operand)
 | alloc (zero:List ad)
 | box (x:Operand)
 | dp (zero:List ad) (di:List (Nat × Nat × Operand))
 | dh (z:Nat) (zero:List ad) (len:Nat) (di:List (Nat × Operand))
 | ld1 (a:Operand)
 | eg (n:Nat) (a:Operand)
 | st (n:Nat) (a x:Operand)
 | oE (x:Operand)
 | bin (o:BinOp) (t:TypeId) (x y:Operand)
 | un (o:UnOp) (x:Operand)
 | ds (k:IntKind) (x:Operand)
 | BE (x:Operand)
 | wZ (x:Operand)
 | tw (x:Operand)
 | yk (t:TypeId) (x:Operand)
 | D3 (t:TypeId) (z:ad) (ok:Bool) (x:Operand)
 | sT (f:FuncId) (first gQ:List Operand)
 | pn (z by_:Nat) (zero:List ad) (l c:Operand)
 | slice (ep:ku) (x:Operand) (dn aB dg:Option Operand)
 | zj (off:Nat) (x:Operand)
 | EY (off:Nat) (x:Operand)
 | BQ (n off:Nat) (x:Operand)
 | ff (ep:ku) (x i:Operand)
 | Ax (n z:Nat) (x i:Operand)
 | Gn (n z:Nat) (x i:Operand)
 | uk (x i:Operand)
 | ext (x:Operand) (i:Nat)
 | len (ep:ku) (x:Operand)
 | cap (ep:ku) (x:Operand)
 | app (z by_:Nat) (s x:Operand)
 | u1 (z by_:Nat) (zero:List ad) (s x:Operand)
 | zb (z:Nat) (d x:Operand)
 | tv (zero:List ad) (x:Operand)
 | min (x y:Operand)
 | max (x y:Operand)
 | v7 (x:Option Operand)
 | AC (dQ:TypeId) (zero:ad) (ok:Bool) (m k:Operand)
 | yl (dQ:TypeId) (m k x:Operand)
 | AB (x:Operand)
 | yw (x:Operand)
 | ym (x:Operand)
 | cI (f:FuncId) (xf x y:Operand)
 | stop
def Dk (l:aw) (dQ:TypeId) (zero:ad) (ok:Bool) (m k:ad) :Option ad:=
 match v1 l m with
 | some es=>match nU P dQ k with
  | false=>none
  | true=>match m0 P dQ k es 0 with
   | some (some (_,v))=>some (if ok then .b5 [v,.bool true] else v)
   | some none=>some (if ok then .b5 [zero,.bool false] else zero)
   | none=>none
 | none=>none
def yj (l:aw) (dQ:TypeId) (m k v:ad) :Option aw:=
 match m with
 | .mp b=>match l[b]? with
  | some (.map es gS)=>match nU P dQ k with
   | false=>none
   | true=>match m0 P dQ k es 0 with
    | some (some (i,_))=>some (l.set b (.map (es.modify i fun e=>(k,v,e.2.2)) gS))
    | some none=>some (l.set b (.map (es++[(k,v,gS)]) (gS+1)))
    | none=>none
  | _=>none
 | _=>none
def Gm (f:FuncId) :ad->Bool | .fn g [] []=>Nat.beq g f | _=>false
def G4 (c a b:ad) :Option ad:=match c with | .bool t=>some (if t then a else b) | _=>none
def AG (x:ad) :Option ad:=match x with | .ptr b o s=>some (.ptr b o s) | .cm c o=>some (.cm c o) | .fn f a b=>some (.fn f a b) | _=>none
def qT (zero:List ad) :List (Nat × Nat × ad)->Option (List ad)
 | []=>some zero
 | (off,size,v) ::r=>match v.cells with
  | some vs=>if vs.length=size/\off+size<=zero.length then qT (bO zero off vs) r else none
  | none=>none
def EE (k:IntKind) :ad->Option ad | .int _ n=>some (.int k (k.wrap n)) | _=>none
def IA:ad->Option ad | .str s=>some (.str s) | _=>none
def w0 (l:aw) (x:ad) :Option ad:=match x with
 | .aK=>some (.str [])
 | .str _=>none
 | x=>match dL l 1 x with | some (cs,_)=>(oc cs).map .str | none=>none
def w7:ad->Option ad | .str s=>some (.cr 1 (s.map fun b=>[jR b])) | _=>none
def us (z by_:Nat) (zero:List ad) (ar:aw) (l c:ad) :Option (ad × aw) :=match l,c with
 | .int _ l,.int _ c=>if 0<=l/\l<=c/\c<9223372036854775808/\by_*c<=c4 then
   some (.av z ar.length 0 l.toNat c.toNat (c.toNat*z),ar++[.cells (c.toNat*z) (ey zero c.toNat)]) else none
 | _,_=>none
def g5 (ep:ku) (x:ad) (dn aB dg:Option ad) :Option ad:=
 match ep with
 | .arr n z=>match hb n n dn aB dg with
  | some (l,aR,m)=>match x with
   | .ptr b off sz=>if off+m*z<=sz then (if m=l then some (.cr z []) else some (.av z b (off+l*z) (aR - l) (m - l) sz)) else none
   | .cm cs off=>if off+n*z<=cs.length then some (.cr z (oT z (aR - l) (cs.drop (off+l*z)))) else none
   | _=>none
  | none=>none
 | .av z=>match x with
  | .av eG b off len cap sz=>if z=eG then (hb len cap dn aB dg).map fun (l,aR,m)=>if m=l then .av z b (off+l*z) 0 0 sz else .av z b (off+l*z) (aR - l) (m - l) sz else none
  | .cr eG es=>if z=eG then (hb es.length es.length dn aB dg).map fun (l,aR,_)=>.cr z ((es.drop l).take (aR - l)) else none
  | .aK=>(hb 0 0 dn aB dg).map fun _=>.aK
  | _=>none
 | .str=>match x,dg with
  | .str s,none=>(hb s.length s.length dn aB none).map fun (l,aR,_)=>.str ((s.drop l).take (aR - l))
  | _,_=>none
def EZ (off:Nat) :ad->Option ad | .aM cs=>cs[off]? | _=>none
def BR (n off:Nat) :ad->Option ad | .aM cs=>uz n cs off | _=>none
def cC (ep:ku) (x h7:ad) :Option ad:=
 match h7 with
 | .int _ i=>match ep with
  | .arr n z=>if 0<=i/\i<n then od x (i.toNat*z) else none
  | .av z=>match x with
   | .av eG b off len _ sz=>if z=eG/\0<=i/\i<len then some (.ptr b (off+i.toNat*z) sz) else none
   | .cr eG es=>if z=eG/\0<=i then (es[i.toNat]?).map fun cs=>.cm cs 0 else none
   | _=>none
  | .str=>none
 | _=>none
def Gp (n z:Nat) (x h7:ad) :Option ad:=match x,h7 with
 | .aM cs,.int _ i=>if 0<=i/\i<n then cs[i.toNat*z]? else none
 | _,_=>none
def Gq (n z:Nat) (x h7:ad) :Option ad:=match x,h7 with
 | .aM cs,.int _ i=>if 0<=i/\i<n then uz z cs (i.toNat*z) else none
 | _,_=>none
def Ay (x h7:ad) :Option ad:=match x,h7 with
 | .str s,.int _ i=>if 0<=i then (s[i.toNat]?).map jR else none
 | _,_=>none
def ER (x:ad) (i:Nat) :Option ad:=match x with | .b5 vs=>vs[i]? | _=>none
def c1 (ep:ku) (x:ad) :Option ad:=match ep with
 | .arr n _=>some (.int .i64 n)
 | .av _=>match x with
  | .aK=>some (.int .i64 0)
  | .av _ _ _ len _ _=>some (.int .i64 len)
  | .cr _ es=>some (.int .i64 es.length)
  | _=>none
 | .str=>match x with | .str s=>some (.int .i64 s.length) | _=>none
def vb (ep:ku) (x:ad) :Option ad:=match ep with
 | .arr n _=>some (.int .i64 n)
 | .av _=>match x with | .aK=>some (.int .i64 0) | _=>none
 | .str=>none
def g8 (l:aw) (z by_:Nat) (s x:ad) :Option (ad × aw) :=match dL l z x with
 | none=>none
 | some (xs,n)=>iW l z by_ s xs n
def r0 (l:aw) (z by_:Nat) (zero:List ad) (s x:ad) :Option (ad × aw) :=match x with
 | .int _ n=>if 0<=n/\n<9223372036854775808/\n.toNat*by_<=c4 then iW l z by_ s (ey zero n.toNat) n.toNat else none
 | _=>none
def eo (l:aw) (x:Option ad) :Option (ad × aw) :=x.map fun v=>(v,l)
def cg (aN:Operand->ad) (l:aw) :bf->Option (ad × aw)
 | .aO x=>some (aN x,l)
 | .pick c a b=>eo l (G4 (aN c) (aN a) (aN b))
 | .alloc zero=>some (.ptr l.length 0 zero.length,l++[.cells zero.length zero])
 | .box x=>(aN x).cells.map fun cs=>(.ptr l.length 0 cs.length,l++[.cells cs.length cs])
 | .dp zero di=>eo l ((qT zero (di.map fun p=>(p.1,p.2.1,aN p.2.2))).map .aM)
 | .dh z zero len di=>(ii (fun i=>some (i*z,z)) (ey zero len) (di.map fun p=>(p.1,aN p.2))).map fun cs=>(.av z l.length 0 len len (len*z),l++[.cells (len*z) cs])
 | .ld1 a=>eo l ((e4 l (aN a)).bind fun x=>x.1[x.2]?)
 | .eg n a=>eo l ((e4 l (aN a)).bind fun x=>uz n x.1 x.2)
 | .st n a x=>(kI n l (aN a) (aN x)).map fun l'=>(jk,l')
 | .oE x=>eo l (AG (aN x))
 | .bin o t x y=>eo l (gu P o t (aN x) (aN y))
 | .un o x=>eo l (rL o (aN x))
 | .ds k x=>eo l (EE k (aN x))
 | .BE x=>eo l (IA (aN x))
 | .wZ x=>eo l (w0 l (aN x))
 | .tw x=>eo l (w7 (aN x))
 | .yk t x=>some (.hD t (aN x),l)
 | .D3 t z ok x=>eo l (D4 t z ok (aN x))
 | .sT f a b=>some (.fn f (a.map aN) (b.map aN),l)
 | .pn z by_ zero a c=>us z by_ zero l (aN a) (aN c)
 | .slice ep x dn aB dg=>eo l (g5 ep (aN x) (dn.map aN) (aB.map aN) (dg.map aN))
 | .zj off x=>eo l (od (aN x) off)
 | .EY off x=>eo l (EZ off (aN x))
 | .BQ n off x=>eo l (BR n off (aN x))
 | .ff ep x i=>eo l (cC ep (aN x) (aN i))
 | .Ax n z x i=>eo l (Gp n z (aN x) (aN i))
 | .Gn n z x i=>eo l (Gq n z (aN x) (aN i))
 | .uk x i=>eo l (Ay (aN x) (aN i))
 | .ext x i=>eo l (ER (aN x) i)
 | .len ep x=>eo l (c1 ep (aN x))
 | .cap ep x=>eo l (vb ep (aN x))
 | .app z by_ s x=>g8 l z by_ (aN s) (aN x)
 | .u1 z by_ zero s x=>r0 l z by_ zero (aN s) (aN x)
 | .zb z d x=>BD z l (aN d) (aN x)
 | .tv zero x=>(tu zero l (aN x)).map fun l'=>(.b5 [],l')
 | .min x y=>eo l (Dl (aN x) (aN y))
 | .max x y=>eo l (v2 (aN x) (aN y))
 | .v7 x=>match x with
  | none=>some (.mp l.length,l++[.map [] 0])
  | some o=>match asInt (aN o) with | some _=>some (.mp l.length,l++[.map [] 0]) | none=>none
 | .AC dQ zero ok m k=>eo l (Dk P l dQ zero ok (aN m) (aN k))
 | .yl dQ m k x=>(yj P l dQ (aN m) (aN k) (aN x)).map fun l'=>(jk,l')
 | .AB x=>eo l (Gv l (aN x))
 | .yw x=>DK l (aN x)
 | .ym x=>wa l (aN x)
 | .cI f xf x y=>match Gm f (aN xf) with | true=>eo l (cmpL l (aN x) (aN y)) | false=>none
 | .stop=>none
def Ii (t:TypeId) (di:List (Nat × Operand)) :Option (List (Nat × Nat × Operand)) :=
 match P.underlying t with
 | some (.struct fs)=>if fs.toList.all fun f=>(c5 P f.type).isSome then di.mapM fun p=>(DB P fs p.1).map fun q=>(q.1,q.2,p.2) else none
 | some (.array _ e)=>(c5 P e).map fun n=>di.map fun p=>(p.1*n,n,p.2)
 | _=>none
def vh (b:Builtin) (ts:List TypeId) (args:List Operand) :Option bf:=
 match b,ts,args with
 | .len,[t],[x]=>match P.underlying t with
  | some (.map _ _)=>some (.AB x)
  | _=>(pA P t).map fun ep=>.len ep x
 | .cap,[t],[x]=>(pA P t).map fun ep=>.cap ep x
 | .append,[t,u],[s,x]=>match P.underlying u with
  | some (.int _)=>(i7 P t).bind fun e=>(c5 P e).bind fun z=>(jp P e).bind fun by_=>(ia P e).bind fun zero=>
    if zero.length=z/\td P e=some z then some (.u1 z by_ zero s x) else none
  | none=>none
  | _=>(i7 P t).bind fun e=>(c5 P e).bind fun z=>(jp P e).bind fun by_=>if td P e=some z then some (.app z by_ s x) else none
 | .copy,[t,_],[d,x]=>(i7 P t).bind fun e=>(c5 P e).map fun z=>.zb z d x
 | .clear,[t],[x]=>match P.underlying t with
  | some (.slice e)=>(ia P e).map fun zero=>.tv zero x
  | _=>none
 | .min,_,[x,y]=>some (.min x y)
 | .max,_,[x,y]=>some (.max x y)
 | _,_,_=>none
def oe:Op->Option bf
 | .move x | .assign x=>some (.aO x)
 | .pick c a b=>some (.pick c a b)
 | .alloc t=>(ia P t).map .alloc
 | .box _ x=>some (.box x)
 | .build t di=>(ia P t).bind fun zero=>(Ii P t di.toList).map fun q=>.dp zero q
 | .buildSlice t len di=>(i7 P t).bind fun e=>(c5 P e).bind fun z=>(ia P e).bind fun zero=>
   if zero.length=z/\len*z<=16777216 then some (.dh z zero len di.toList) else none
 | .load t a=>match e8 P t,c5 P t with
  | some true,some n=>some (.eg n a)
  | some false,_=>some (.ld1 a)
  | _,_=>none
 | .store t a x=>(c5 P t).map fun n=>.st n a x
 | .nilCheck x=>some (.oE x)
 | .binOp o t x y _=>some (.bin o t x y)
 | .unOp o _ x=>some (.un o x)
 | .convert s d x=>match P.underlying s,P.underlying d with
  | some _,some (.int k)=>some (.ds k x)
  | some (.slice e),some .string=>match P.underlying e with
   | some (.int .u8)=>some (.wZ x)
   | _=>none
  | some .string,some .string=>some (.BE x)
  | some .string,some (.slice e)=>match P.underlying e with
   | some (.int .u8)=>some (.tw x)
   | _=>none
  | _,_=>none
 | .makeInterface t x=>match P.underlying t with
  | some (.interface _) | none=>none
  | _=>some (.yk t x)
 | .makeFunc (.func f) a b=>some (.sT f a.toList b.toList)
 | .makeSlice t l c=>(i7 P t).bind fun e=>(c5 P e).bind fun z=>(jp P e).bind fun by_=>(ia P e).bind fun zero=>
   if zero.length=z then some (.pn z by_ zero l c) else none
 | .slice t x dn aB dg=>(pA P t).map fun ep=>.slice ep x dn aB dg
 | .fieldAddr s x f=>(xe P s f).bind fun fd=>match c5 P fd.type with
  | some (_+1)=>some (.zj fd.offset x)
  | _=>none
 | .field t x f=>(xe P t f).bind fun fd=>match e8 P fd.type,c5 P fd.type with
  | some true,some n=>some (.BQ n fd.offset x)
  | some false,_=>some (.EY fd.offset x)
  | _,_=>none
 | .indexAddr t x i=>match pA P t with
  | some (.arr n z)=>some (.ff (.arr n z) x i)
  | some (.av z)=>some (.ff (.av z) x i)
  | _=>none
 | .index t x i=>match P.underlying t with
  | some (.array n e)=>match c5 P e,e8 P e with
   | some z,some true=>some (.Gn n z x i)
   | some z,some false=>some (.Ax n z x i)
   | _,_=>none
  | some .string=>some (.uk x i)
  | _=>none
 | .extract x i=>some (.ext x i)
 | .call c=>match c.callee with
  | .builtin b=>vh P b c.argTypes.toList c.args.toList
  | .value (.func f)=>match P.funcs[f]?,c.args.toList with
   | some fn,[x,y]=>if Db fn then some (.cI f (.func f) x y) else none
   | _,_=>none
  | _=>none
 | .makeMap t r=>match P.underlying t with | some (.map _ _)=>some (.v7 r) | _=>none
 | .lookup t m k ok=>match P.underlying t with | some (.map dQ mZ)=>(yR P mZ).map fun z=>.AC dQ z ok m k | _=>none
 | .mapUpdate t m k x | .insert t m k x=>match P.underlying t with | some (.map dQ _)=>some (.yl dQ m k x) | _=>none
 | .range t x=>match P.underlying t with | some .string=>some (.yw x) | _=>none
 | .next it true=>some (.ym it)
 | .panic _=>some .stop
 | .typeAssert x _ t ok=>(Hy P t).map fun z=>.D3 t z ok x
 | _=>none
end

section
variable {P:Program}
theorem bind_some {α kr:Type} {x:Option α} {f:α->Option kr} {y:kr}:x.bind f=some y<->∃ a,x=some a/\f a=some y:=by cases x<;>simp
theorem map_some {α kr:Type} {x:Option α} {f:α->kr} {y:kr}:x.map f=some y<->∃ a,x=some a/\f a=y:=by cases x<;>simp
theorem gZ {l l' : aw} {x:Option ad} {v:ad}:eo l x=some (v,l')<->x=some v/\l'=l:=by cases x<;>simp[eo,eq_comm]
theorem i1 {α:Type} {p:Prop} [Decidable p] {x y:α}:(if p then some x else none)=some y<->p/\x=y:=by by_cases p<;>simp_all
theorem N7 {l l' : aw} {e z by_ n:Nat} {s v:ad} {xs:List ad} (az:td P e=some z) (h:iW l z by_ s xs n=some (v,l')) :u2 P (cj l) e z by_ s xs n=some (v,cj l') :=by
 unfold iW at h;unfold u2;by_cases aI:n=0
 ·rw[if_pos aI] at h ⊢;cases s<;>simp at h ⊢<;>simp[h]
 ·rw[if_neg aI] at h ⊢;by_cases aG:z=0\/by_=0
  ·rw[if_pos aG] at h; cases h
  ·rw[if_neg aG] at h;rw[if_neg (by simp only[az]; simpa using aG)];cases s<;>simp only at h ⊢<;>try (cases h; done)
   case aK=>
    by_cases aC:n*by_<=c4
    ·rw[if_pos aC] at h ⊢; cases h; rw[mU]; rfl
    ·rw[if_neg aC] at h; cases h
   case av eG b off len cap sz=>
    cases ai:l[b]? with
    | none=>rw[ai] at h; cases h
    | some c=>
     cases c<;>rw[ai] at h<;>(try simp only at h)<;>try (cases h; done)
     rename_i m cs;rw[ln.2 ai];simp only;by_cases h1:m=sz/\z=eG/\(len+n)*by_<=c4
     ·rw[if_pos h1] at h ⊢;by_cases ag:len+n<=cap
      ·rw[if_pos ag] at h ⊢; cases h; rw[oN _ (fW ai)]
      ·rw[if_neg ag] at h ⊢;by_cases aq:off+cap*z<sz
       ·rw[if_pos aq] at h ⊢; cases h; rw[mU]; rfl
       ·rw[if_neg aq] at h ⊢;by_cases aH:off=0
        ·rw[if_pos aH] at h ⊢; cases h; rw[oN _ (fW ai)]
        ·rw[if_neg aH] at h ⊢; cases h;rw[oN _ (fW ai),mU]; rfl
     ·rw[if_neg h1] at h; cases h
theorem aeH {t:TypeId} {di:List (Nat × Operand)} {q:List (Nat × Nat × Operand)} (bD:Ii P t di=some q) (aN:Operand->ad) (zero:List ad) (az:ia P t=some zero) {cs:List ad}
  (ai:qT zero (q.map fun p=>(p.1,p.2.1,aN p.2.2))=some cs) :Bs P t (di.map fun p=>(p.1,aN p.2))=some (.aM cs) :=by
 have fill:∀ (lO:Nat->Option (Nat × Nat)) (di:List (Nat × Operand)) (q:List (Nat × Nat × Operand)) (zero:List ad),
   (di.mapM fun p=>(lO p.1).map fun q=>(q.1,q.2,p.2))=some q->qT zero (q.map fun p=>(p.1,p.2.1,aN p.2.2))=some cs->ii lO zero (di.map fun p=>(p.1,aN p.2))=some cs:=by
  intro lO di
  induction di with
  | nil=>intro q zero h1 ag; simp at h1; subst h1; simpa [qT,ii] using ag
  | cons p di aY=>
   intro q zero h1 ag;rw[aEr] at h1;simp only[Option.bind_eq_bind,bind_some,map_some,aEE,Option.some.injEq] at h1;obtain⟨a,⟨fA,aq,rfl⟩,gf,aH,rfl⟩:=h1;simp only[aDc,qT,ii,aq] at ag ⊢;split at ag
   ·rename_i vs ay;simp only[ay];split at ag
    ·rename_i bd;rw[if_pos bd];exact aY _ _ aH ag
    ·cases ag
   ·cases ag
 unfold Ii at bD;unfold Bs;split at bD
 ·rename_i fs aS;rw[az,aS];simp only;split at bD
  ·rename_i fS;rw[if_neg (by simp[fS])];rw[fill _ _ _ _ bD ai]; rfl
  ·cases bD
 ·rename_i n e aS;rw[map_some] at bD;obtain⟨hE,h1,rfl⟩:=bD;rw[az,aS];simp only[h1];rw[fill (fun i=>some (i*hE,hE)) di _ zero ?_ ai]; rfl;clear ai
  induction di with
  | nil=>rfl
  | cons p di aY=>rw[aEr,aY]; rfl
 ·cases bD
theorem aun {t:TypeId} {ep:ku} (aQ:pA P t=some ep) (x:ad) (dn aB dg:Option ad) :g5 ep x dn aB dg=DW P t x dn aB dg:=by
 unfold pA at aQ;unfold DW;split at aQ
 ·rename_i n e aS;rw[map_some] at aQ;obtain⟨z,h1,rfl⟩:=aQ;rw[aS]; simp only[h1,g5];cases hb n n dn aB dg<;>rfl
 ·rename_i e aS;rw[map_some] at aQ;obtain⟨z,h1,rfl⟩:=aQ;rw[aS]; simp only[h1,g5];cases x<;>rfl
 ·rename_i aS;cases aQ;rw[aS]; simp only[g5];cases x<;>cases dg<;>rfl
 ·cases aQ
theorem aok {t:TypeId} {ep:ku} (aQ:pA P t=some ep) {x v:ad} (h:c1 ep x=some v) :ye P t x=some v:=by
 unfold pA at aQ;unfold ye;split at aQ
 ·rename_i n e aS;rw[map_some] at aQ;obtain⟨z,h1,rfl⟩:=aQ;rw[aS]; simpa [c1] using h
 ·rename_i e aS;rw[map_some] at aQ;obtain⟨z,h1,rfl⟩:=aQ;rw[aS]; unfold c1 at h; cases x<;>simp_all
 ·rename_i aS;cases aQ;rw[aS]; unfold c1 at h; cases x<;>simp_all
 ·cases aQ
theorem ah9 {t:TypeId} {ep:ku} (aQ:pA P t=some ep) {x v:ad} (h:vb ep x=some v) :y6 P t x=some v:=by
 unfold pA at aQ;unfold y6;split at aQ
 ·rename_i n e aS;rw[map_some] at aQ;obtain⟨z,h1,rfl⟩:=aQ;rw[aS]; simpa [vb] using h
 ·rename_i e aS;rw[map_some] at aQ;obtain⟨z,h1,rfl⟩:=aQ;rw[aS]; unfold vb at h; cases x<;>simp_all
 ·rename_i aS;cases aQ;rw[aS]; unfold vb at h; cases x<;>simp_all
 ·cases aQ
theorem Vt {t:TypeId} {ep:ku} (aQ:pA P t=some ep) {x i v:ad} (h:cC ep x i=some v) :Da P t x i=some v:=by
 unfold pA at aQ;unfold Da;unfold cC at h;cases i<;>(try simp only at h)<;>try (cases h; done)
 rename_i k i;split at aQ
 ·rename_i n e aS;rw[map_some] at aQ;obtain⟨z,h1,rfl⟩:=aQ;rw[aS]; simpa [asInt,h1] using h
 ·rename_i e aS;rw[map_some] at aQ;obtain⟨z,h1,rfl⟩:=aQ;rw[aS]; simp only[asInt,h1]; simp only at h;cases x<;>simp only at h ⊢<;>first | exact h | cases h
 ·rename_i aS;cases aQ;simp only at h;cases h
 ·cases aQ
theorem auQ {t:TypeId} {n:Nat} (ap:c5 P t=some n) {l l' : aw} {p v:ad} (h:kI n l p v=some l') :A2 P (cj l) t p v=some (cj l') :=by
 unfold kI at h;unfold A2;cases p<;>(try simp only at h)<;>try (cases h; done)
 rename_i b off sz;cases ay:v.cells with
 | none=>rw[ay] at h; cases h
 | some vs=>
  rw[ay] at h;simp only[ap] at h ⊢;cases ai:l[b]? with
  | none=>rw[ai] at h; cases h
  | some c=>
   cases c<;>rw[ai] at h<;>(try simp only at h)<;>try (cases h; done)
   rename_i m cs;rw[ln.2 ai];simp only;rw[i1] at h;obtain⟨h1,rfl⟩:=h;rw[if_pos h1,oN _ (fW ai)]
theorem aiF {t e:TypeId} {z:Nat} (au:i7 P t=some e) (ap:c5 P e=some z) {l l' : aw} {d x v:ad} (h:BD z l d x=some (v,l')) :za P (cj l) t d x=some (v,cj l') :=by
 unfold BD at h;unfold za;rw[au]; simp only[ap,BC];cases ak:dL l z x with
 | none=>rw[ak] at h; cases h
 | some p=>
  obtain⟨xs,n⟩:=p;rw[ak] at h;simp only at h ⊢;cases d<;>simp only at h ⊢<;>try (cases h; done)
  case aK=>cases h; rfl
  case av eG b off len cap sz=>
   cases ai:l[b]? with
   | none=>rw[ai] at h; cases h
   | some c=>
    cases c<;>rw[ai] at h<;>(try simp only at h)<;>try (cases h; done)
    rename_i m cs;rw[ln.2 ai];simp only;rw[i1] at h;obtain⟨h1,ag⟩:=h;cases ag;rw[if_pos h1,oN _ (fW ai)]
theorem aik {t e:TypeId} {zero:List ad} (aS:P.underlying t=some (.slice e)) (az:ia P e=some zero) {l l' : aw} {x:ad} (h:tu zero l x=some l') :y8 P (cj l) t x=some (cj l') :=by
 unfold tu at h;unfold y8;rw[aS];cases x<;>(try simp only at h)<;>try (cases h; done)
 case aK=>cases h; rfl
 case cr z es=>cases es<;>simp only at h<;>cases h; rfl
 case av z b off len cap sz=>
  simp only;by_cases aG:len=0
  ·rw[if_pos aG] at h ⊢; cases h; rfl
  ·rw[if_neg aG] at h ⊢;rw[az];cases ai:l[b]? with
   | none=>rw[ai] at h; cases h
   | some c=>
    cases c<;>rw[ai] at h<;>(try simp only at h)<;>try (cases h; done)
    rename_i m cs;rw[ln.2 ai];simp only;rw[i1] at h;obtain⟨h1,rfl⟩:=h;rw[if_pos h1,oN _ (fW ai)]
theorem Xv {t dQ mZ:TypeId} (aS:P.underlying t=some (.map dQ mZ)) {l l' : aw} {m k x:ad} (h:yj P l dQ m k x=some l') :yi P (cj l) t m k x=some (cj l') :=by
 unfold yj at h;unfold yi;rw[aS];cases m<;>(try simp only at h)<;>try (cases h; done)
 rename_i b;simp only[oM];cases ai:l[b]? with
 | none=>rw[ai] at h; cases h
 | some c=>
  cases c<;>rw[ai] at h<;>simp only at h<;>try (cases h; done)
  rename_i es gS;simp only;cases hk:nU P dQ k with
  | false=>rw[hk] at h; cases h
  | true=>
   rw[hk] at h;simp only at h ⊢;cases aL:m0 P dQ k es 0 with
   | none=>rw[aL] at h; cases h
   | some r=>
    rw[aL] at h;cases r with
    | none=>cases h; simp only[oN _ (fW ai)]
    | some yb=>cases h; simp only[oN _ (fW ai)]
theorem aoo {t:TypeId} (h1:e8 P t=some false) (h:bh) (p:ad) :sQ P h t p=(reach h p).bind fun x=>x.1[x.2]?:=by
 unfold sQ iv; rw[h1]; cases reach h p<;>rfl
theorem aop {t:TypeId} {n:Nat} (h1:e8 P t=some true) (ag:c5 P t=some n) (h:bh) (p:ad) :sQ P h t p=(reach h p).bind fun x=>uz n x.1 x.2:=by
 unfold sQ iv; rw[h1,ag]; cases reach h p<;>rfl
theorem aeW {b:Builtin} {ts:List TypeId} {args:List Operand} {m:bf} (hm:vh P b ts args=some m) {aN:Operand->ad} {l l' : aw} {v:ad} (h:cg P aN l m=some (v,l')) :
  pL P (cj l) b ts (args.map aN)=some (.val v (cj l')) :=by
 unfold vh at hm;split at hm
 ·rename_i Bc;split at hm
  ·rename_i k e aS;cases hm;simp only[cg,gZ] at h;obtain⟨ag,rfl⟩:=h;unfold Gv at ag;simp only[aDc,aEB,pL];cases al:aN Bc<;>rw[al] at ag<;>(try simp only at ag)<;>try (cases ag; done)
   ·cases ag; simp[ye,yf,aS]
   ·rename_i b;cases ai:l'[b]? with
    | none=>rw[ai] at ag; cases ag
    | some c=>
     cases c<;>rw[ai] at ag<;>simp only at ag<;>try (cases ag; done)
     cases ag;simp[yf,aS,oM,ai]
  ·rw[map_some] at hm;obtain⟨ep,h1,rfl⟩:=hm;simp only[cg,gZ] at h;obtain⟨ag,rfl⟩:=h;have aq:=aok h1 ag;have aH:∀ x,yf P (cj l') _ x=none:=fun x=>by
    unfold pA at h1;unfold yf;split at h1<;>first | (rename_i aS; rw[aS]; done) | (cases h1; done) | skip
    all_goals (rename_i aS; simp only[aS])
   simp only[aDc,aEB,pL,aH];simp[aq]
 ·rw[map_some] at hm;obtain⟨ep,h1,rfl⟩:=hm;simp only[cg,gZ] at h;obtain⟨ag,rfl⟩:=h;simp[pL,ah9 h1 ag]
 ·rename_i t u s x;simp only[aDc,aEB,pL];split at hm
  ·rename_i aS;simp only[bind_some] at hm;obtain⟨e,h1,z,ag,by_,aq,zero,aH,hm⟩:=hm;rw[i1] at hm;obtain⟨⟨bd,bM⟩,rfl⟩:=hm;simp only[cg] at h;unfold r0 at h;cases al:aN x<;>rw[al] at h<;>(try simp only at h)<;>try (cases h; done)
   rename_i k n;by_cases dq:0<=n/\n<9223372036854775808/\n.toNat*by_<=c4
   ·rw[if_pos dq] at h;rw[aS];simp only[Bn,h1,asInt,ag,aq,aH];rw[if_pos ⟨bd,dq⟩,N7 bM h]; rfl
   ·rw[if_neg dq] at h; cases h
  ·cases hm
  ·rename_i aI aS;simp only[bind_some] at hm;obtain⟨e,h1,z,ag,by_,aq,hm⟩:=hm;rw[i1] at hm;obtain⟨bM,rfl⟩:=hm;simp only[cg] at h;unfold g8 at h;cases ak:dL l z (aN x) with
   | none=>rw[ak] at h; cases h
   | some p=>
    obtain⟨xs,n⟩:=p;rw[ak] at h;simp only at h;have:r2 P (cj l) t (aN s) (aN x)=some (v,cj l') :=by
     simp only[r2,h1,ag,aq,BC,ak];exact N7 bM h
    rw[this];cases bX:P.underlying u with
    | none=>exact absurd bX aS
    | some d=>
     cases d<;>first | rfl | (rename_i k; exact absurd bX (aI k))
 ·simp only[bind_some,map_some] at hm;obtain⟨e,h1,z,ag,rfl⟩:=hm;simp only[cg] at h;simp[pL,aiF h1 ag h]
 ·split at hm
  ·rename_i e aS;rw[map_some] at hm;obtain⟨zero,h1,rfl⟩:=hm;simp only[cg,map_some,Prod.mk.injEq] at h;obtain⟨cf,ag,rfl,rfl⟩:=h;simp[pL,aik aS h1 ag]
  ·cases hm
 ·cases hm;simp only[cg,gZ] at h;obtain⟨ag,rfl⟩:=h;simp[pL,ag]
 ·cases hm;simp only[cg,gZ] at h;obtain⟨ag,rfl⟩:=h;simp[pL,ag]
 ·cases hm
theorem L1 {t:TypeId} (h1:e8 P t=some false) (cs:List ad) (off:Nat) :iv P t cs off=cs[off]?:=by unfold iv; rw[h1]
theorem Yc {t:TypeId} {n:Nat} (h1:e8 P t=some true) (ag:c5 P t=some n) (cs:List ad) (off:Nat) :iv P t cs off=uz n cs off:=by unfold iv; rw[h1,ag]; rfl
theorem In {s d:TypeId} {x:ad} (h:∀ e,P.underlying d=some (.slice e)->False) :y1 P s d x=none:=by
 unfold y1;split
 ·rename_i e ap bX al;exact (h e al).elim
 ·rfl
theorem GL {op:Op} {m:bf} (hm:oe P op=some m) {aN:Operand->ad} {l l' : aw} {v:ad} (h:cg P aN l m=some (v,l')) :dw P (cj l) aN op=some (.val v (cj l')) :=by
 cases op<;>simp only[oe] at hm<;>try (cases hm; done)
 case move x=>cases hm; simp only[cg,Option.some.injEq,Prod.mk.injEq] at h; obtain⟨rfl,rfl⟩:=h; rfl
 case assign x=>cases hm; simp only[cg,Option.some.injEq,Prod.mk.injEq] at h; obtain⟨rfl,rfl⟩:=h; rfl
 case pick c a b=>
  cases hm; simp only[cg,gZ] at h;obtain⟨ag,rfl⟩:=h;simp only[dw];unfold G4 at ag;cases ak:aN c<;>rw[ak] at ag<;>(try simp only at ag)<;>try (cases ag; done)
  cases ag; rfl
 case alloc t=>
  rw[map_some] at hm;obtain⟨zero,h1,rfl⟩:=hm;simp only[cg,Option.some.injEq,Prod.mk.injEq] at h;obtain⟨rfl,rfl⟩:=h;simp only[dw,h1,mU]; rfl
 case box t x=>
  cases hm;simp only[cg,map_some,Prod.mk.injEq] at h;obtain⟨cs,h1,rfl,rfl⟩:=h;simp only[dw,h1,mU]; rfl
 case build t di=>
  simp only[bind_some,map_some] at hm;obtain⟨zero,h1,q,ag,rfl⟩:=hm;simp only[cg,gZ,map_some] at h;obtain⟨⟨cs,aq,rfl⟩,rfl⟩:=h;simp only[dw,aeH ag aN zero h1 aq]; rfl
 case buildSlice t n di=>
  simp only[bind_some] at hm;obtain⟨e,h1,z,ag,zero,aq,hm⟩:=hm;rw[i1] at hm;obtain⟨aH,rfl⟩:=hm;simp only[cg,map_some,Prod.mk.injEq] at h;obtain⟨cs,bd,rfl,rfl⟩:=h;simp only[dw,Ex,h1,ag,aq,if_pos aH,bd,mU]; rfl
 case load t a=>
  split at hm
  ·rename_i n h1 ag;cases hm;simp only[cg,gZ] at h;obtain⟨aq,rfl⟩:=h;simp only[dw,aop h1 ag,Mn,aq]; rfl
  ·rename_i h1;cases hm;simp only[cg,gZ] at h;obtain⟨aq,rfl⟩:=h;simp only[dw,aoo h1,Mn,aq]; rfl
  ·cases hm
 case store t a x=>
  rw[map_some] at hm;obtain⟨n,h1,rfl⟩:=hm;simp only[cg,map_some,Prod.mk.injEq] at h;obtain⟨cf,ag,rfl,rfl⟩:=h;simp only[dw,auQ h1 ag]; rfl
 case nilCheck x=>
  cases hm;simp only[cg,gZ] at h;obtain⟨ag,rfl⟩:=h;simp only[dw];unfold AG at ag;cases ak:aN x<;>rw[ak] at ag<;>simp only at ag<;>first | (cases ag; done) | (cases ag; rfl)
 case binOp o t x y u=>
  cases hm;simp only[cg,gZ] at h;obtain⟨ag,rfl⟩:=h;simp only[dw,ag]; rfl
 case unOp o t x=>
  cases hm;simp only[cg,gZ] at h;obtain⟨ag,rfl⟩:=h;simp only[dw,ag]; rfl
 case convert s d x=>
  simp only[dw];split at hm
  ·rename_i iH k ap bX;cases hm;simp only[cg,gZ] at h;obtain⟨ag,rfl⟩:=h;rw[In (fun e au=>by rw[bX] at au; cases au)];unfold EE at ag;cases al:aN x<;>rw[al] at ag<;>(try simp only at ag)<;>try (cases ag; done)
   cases ag;simp only[w5,ap,bX]; rfl
  ·rename_i e ap bX;split at hm
   ·rename_i au;cases hm;simp only[cg,gZ] at h;obtain⟨ag,rfl⟩:=h;rw[In (fun e au=>by rw[bX] at au; cases au)];have:w5 P (cj l') s d (aN x)=some v:=by
     rw[<-ag];unfold w5 w0;rw[ap,bX];cases al:aN x<;>(simp only[au,BC])<;>(try rfl)<;>(rw[al] at ag; unfold w0 at ag; simp only at ag)
     ·cases ag
     all_goals (cases ak:dL l' 1 _<;>rfl)
    rw[this]; rfl
   ·cases hm
  ·rename_i ap bX;cases hm;simp only[cg,gZ] at h;obtain⟨ag,rfl⟩:=h;rw[In (fun e au=>by rw[bX] at au; cases au)];unfold IA at ag;cases al:aN x<;>rw[al] at ag<;>(try simp only at ag)<;>try (cases ag; done)
   cases ag;simp only[w5,ap,bX]; rfl
  ·rename_i e ap bX;split at hm
   ·rename_i au;cases hm;simp only[cg,gZ] at h;obtain⟨ag,rfl⟩:=h;unfold w7 at ag;cases al:aN x<;>rw[al] at ag<;>(try simp only at ag)<;>try (cases ag; done)
    cases ag;simp only[y1,ap,bX,au]
   ·cases hm
  ·cases hm
 case makeInterface t x=>
  split at hm
  ·cases hm
  ·cases hm
  ·rename_i h1 ag;cases hm;simp only[cg,Option.some.injEq,Prod.mk.injEq] at h;obtain⟨rfl,rfl⟩:=h;simp only[dw]
 case typeAssert x NB t ok=>
  rw[map_some] at hm;obtain⟨z,az,rfl⟩:=hm;simp only[cg,gZ] at h;obtain⟨ag,rfl⟩:=h;simp only[dw,az,ag,aCR]
 case makeFunc f a b=>
  cases f<;>simp only at hm<;>try (cases hm; done)
  cases hm;simp only[cg,Option.some.injEq,Prod.mk.injEq] at h;obtain⟨rfl,rfl⟩:=h;rfl
 case makeSlice t a c=>
  simp only[bind_some] at hm;obtain⟨e,h1,z,ag,by_,aq,zero,aH,hm⟩:=hm;rw[i1] at hm;obtain⟨bd,rfl⟩:=hm;simp only[cg] at h;unfold us at h;cases aD:aN a<;>rw[aD] at h<;>(try simp only at h)<;>try (cases h; done)
  cases ak:aN c<;>rw[ak] at h<;>(try simp only at h)<;>try (cases h; done)
  rw[i1] at h;obtain⟨bM,dq⟩:=h;cases dq;simp only[dw,aD,ak,GF,h1,asInt,ag,aq,aH,if_pos (And.intro bd bM),mU]; rfl
 case slice t x dn aB dg=>
  rw[map_some] at hm;obtain⟨ep,h1,rfl⟩:=hm;simp only[cg,gZ] at h;obtain⟨ag,rfl⟩:=h;rw[aun h1] at ag;simp only[dw,ag]; rfl
 case fieldAddr s x f=>
  rw[bind_some] at hm;obtain⟨fd,h1,hm⟩:=hm;split at hm
  ·rename_i n ag;cases hm;simp only[cg,gZ] at h;obtain⟨aq,rfl⟩:=h;simp only[dw,ET,h1,ag,aq]; rfl
  ·cases hm
 case field t x f=>
  rw[bind_some] at hm;obtain⟨fd,h1,hm⟩:=hm;split at hm
  ·rename_i n ag aq;cases hm;simp only[cg,gZ] at h;obtain⟨aH,rfl⟩:=h;unfold BR at aH;cases al:aN x<;>rw[al] at aH<;>(try simp only at aH)<;>try (cases aH; done)
   simp only[dw,al,h1,Yc ag aq,aH]; rfl
  ·rename_i ag;cases hm;simp only[cg,gZ] at h;obtain⟨aH,rfl⟩:=h;unfold EZ at aH;cases al:aN x<;>rw[al] at aH<;>(try simp only at aH)<;>try (cases aH; done)
   simp only[dw,al,h1,L1 ag,aH]; rfl
  ·cases hm
 case indexAddr t x i=>
  split at hm
  ·rename_i n z h1;cases hm;simp only[cg,gZ] at h;obtain⟨ag,rfl⟩:=h;simp only[dw,Vt h1 ag]; rfl
  ·rename_i z h1;cases hm;simp only[cg,gZ] at h;obtain⟨ag,rfl⟩:=h;simp only[dw,Vt h1 ag]; rfl
  ·cases hm
 case index t x i=>
  split at hm
  ·rename_i n e aS;split at hm
   ·rename_i z h1 ag;cases hm;simp only[cg,gZ] at h;obtain⟨aq,rfl⟩:=h;unfold Gq at aq;cases al:aN x<;>rw[al] at aq<;>(try simp only at aq)<;>try (cases aq; done)
    cases aB:aN i<;>rw[aB] at aq<;>(try simp only at aq)<;>try (cases aq; done)
    simp only[dw,Au,al,aB,aS,asInt,h1,Yc ag h1,aq]; rfl
   ·rename_i z h1 ag;cases hm;simp only[cg,gZ] at h;obtain⟨aq,rfl⟩:=h;unfold Gp at aq;cases al:aN x<;>rw[al] at aq<;>(try simp only at aq)<;>try (cases aq; done)
    cases aB:aN i<;>rw[aB] at aq<;>(try simp only at aq)<;>try (cases aq; done)
    simp only[dw,Au,al,aB,aS,asInt,h1,L1 ag,aq]; rfl
   ·cases hm
  ·rename_i aS;cases hm;simp only[cg,gZ] at h;obtain⟨aq,rfl⟩:=h;unfold Ay at aq;cases al:aN x<;>rw[al] at aq<;>(try simp only at aq)<;>try (cases aq; done)
   cases aB:aN i<;>rw[aB] at aq<;>(try simp only at aq)<;>try (cases aq; done)
   simp only[dw,Au,al,aB,aS,asInt,aq]; rfl
  ·cases hm
 case extract x i=>
  cases hm;simp only[cg,gZ] at h;obtain⟨ag,rfl⟩:=h;unfold ER at ag;cases al:aN x<;>rw[al] at ag<;>(try simp only at ag)<;>try (cases ag; done)
  simp only[dw,al,ag]; rfl
 case call c=>
  split at hm
  ·rename_i b ai;simp only[dw,va,ai];exact aeW hm h
  ·rename_i f aL;split at hm
   ·rename_i fn x y m6 Fq;rw[i1] at hm;obtain⟨aB,rfl⟩:=hm;simp only[cg] at h;split at h
    case h_2=>cases h
    rename_i FJ;rw[gZ] at h;obtain⟨ag,rfl⟩:=h;unfold cmpL at ag;have fo:∀ x,u7 (cj l') x=qU l' x:=fun x=>by
     cases x<;>simp only[u7,qU,BC]<;>rfl
    have sB:¬(fn.body.isSome=true/\fn.name≠ "runtime.NumGoroutine") :=by
     rintro⟨a,_⟩;unfold Db at aB;simp only[aCQ] at aB;rw[aFN.1 aB.1.1] at a; cases a
    have xM:aN (.func f)=.fn f [] [] :=by
     unfold Gm at FJ;split at FJ
     ·rename_i g aA; rw[aA,aDP FJ]
     ·cases FJ
    simp only[dw,va,aL,xM,m6,if_neg sB,if_pos aB,Fq,aDc,aEB,aDq,aDl,BA,fo];cases aD:qU l' (aN x) with
    | none=>rw[aD] at ag; cases ag
    | some a=>
     cases ai:qU l' (aN y) with
     | none=>rw[aD,ai] at ag; cases ag
     | some b=>rw[aD,ai] at ag; cases ag; rfl
   ·cases hm
  ·cases hm
 case panic x=>cases hm; cases h
 case makeMap t r=>
  split at hm
  ·rename_i k e aS;cases hm;simp only[cg] at h;cases r with
   | none=>cases h; simp[dw,aS,mU]
   | some x=>
    simp only at h;cases al:asInt (aN x) with
    | none=>rw[al] at h; cases h
    | some n=>rw[al] at h; cases h; simp[dw,aS,al,mU]
  ·cases hm
 case lookup t m k ok=>
  split at hm
  ·rename_i dQ mZ aS;rw[map_some] at hm;obtain⟨z,az,rfl⟩:=hm;simp only[cg,gZ] at h;obtain⟨ag,rfl⟩:=h;have sy:∀ x,mapOf (cj l') x=v1 l' x:=fun x=>by
    cases x<;>try rfl
    rename_i b;simp only[mapOf,v1,oM];cases l'[b]? with
    | none=>rfl
    | some c=>cases c<;>rfl
   unfold Dk at ag;simp only[dw,Gz,aS,sy];cases lC:v1 l' (aN m) with
   | none=>rw[lC] at ag; cases ag
   | some es=>
    rw[lC] at ag;simp only at ag ⊢;cases hk:nU P dQ (aN k) with
    | false=>rw[hk] at ag; cases ag
    | true=>
     rw[hk] at ag;simp only at ag ⊢;cases aL:m0 P dQ (aN k) es 0 with
     | none=>rw[aL] at ag; cases ag
     | some r=>
      rw[aL] at ag;cases r with
      | none=>cases ag; simp[az]
      | some yb=>cases ag; rfl
  ·cases hm
 case mapUpdate t m k x=>
  split at hm
  ·rename_i dQ mZ aS;cases hm;simp only[cg,map_some] at h;obtain⟨cf,ag,aq⟩:=h;cases aq;simp only[dw,Xv aS ag]; rfl
  ·cases hm
 case insert t m k x=>
  split at hm
  ·rename_i dQ mZ aS;cases hm;simp only[cg,map_some] at h;obtain⟨cf,ag,aq⟩:=h;cases aq;simp only[dw,Xv aS ag]; rfl
  ·cases hm
 case range t x=>
  split at hm
  ·rename_i aS;cases hm;simp only[cg] at h;unfold DK at h;cases al:aN x<;>rw[al] at h<;>(try simp only at h)<;>try (cases h; done)
   cases h;simp[dw,He,aS,al,mU]
  ·cases hm
 case next it b=>
  cases b with
  | false=>cases hm
  | true=>
   cases hm;simp only[cg] at h;unfold wa at h;simp only[dw,GM];cases al:aN it<;>rw[al] at h<;>(try simp only at h)<;>try (cases h; done)
   rename_i b;simp only[oM];cases ai:l[b]? with
   | none=>rw[ai] at h; cases h
   | some c=>
    cases c<;>rw[ai] at h<;>simp only at h<;>try (cases h; done)
    simp only;split at h
    ·rename_i aP; cases h; rw[aP]; simp only[aCR,oN _ (fW ai)]
    ·rename_i aP; cases h; rw[aP]; rfl
end
abbrev bB:=Nat->ad
abbrev hX:=uR->bB->aw->Prop
class NG (α:Type) where
 k:α->Prop
class Bh where
 p:Prop
 q:Prop
class wQ where
 k:ad->aw->Prop
class HR where
 k:hX
def W {α:Type} (o:Option α) [c:NG α] :Prop:=match o with | some v=>c.k v | none=>False
def sP (b:Bool) [c:Bh] :Prop:=match b with | true=>c.p | false=>c.q
def Df (x:ad) [c:Bh] :Prop:=match x with | .bool b=>sP b (c:=c) | _=>False
def sN (x:ad) (w:Bool) [c:Bh] :Prop:=match x with | .bool b=>sP (b == w) (c:=c) | .bad=>False | _=>c.q
inductive wN where
 | cM (m:bf)
 | cO (f:FuncId) (args:List Operand)
 | ig (x:Operand) (args:List Operand)
 | qV (x:Operand) (name:String) (args:List Operand)
structure dD where
 i:Nat
 dst:Option Tmp
 g:Option (Option Tmp × Bool)
 b:wN
 jS:List Nat
 c6:Bool
inductive aT where
 | skip
 | ret
 | exit (id:Nat)
 | bH (s:List dD)
 | hc (s:List dD)
 | seq (a b:aT)
 | cond (c:Operand) (x y:aT)
 | block (id:Nat) (c:aT)
 | loop (c:aT)
section
variable (P:Program) (G:Nat->ad)
def js (f:FuncId) :Bool:=match P.funcs[f]? with | some fn=>fn.body.isSome&&fn.name != "runtime.NumGoroutine" | none=>false
def dS (f:FuncId) (args:List ad) (l:aw) [c:wQ] :Prop:=∃ r l',dW P G (.call f args (cj l) r (cj l'))/\l.length<=l'.length/\c.k r l'
def y5 (x:ad) (args:List ad) (l:aw) [c:wQ] :Prop:=match x with
 | .fn g first gQ=>js P g=true/\dS P G g (first++args++gQ) l (c:=c)
 | _=>False
def y4 (name:String) (x:ad) (args:List ad) (l:aw) [c:wQ] :Prop:=match x with
 | .hD t v=>match AE P t name with
  | some g=>js P g=true/\dS P G g (v::args) l (c:=c)
  | none=>False
 | _=>False
def dx (v:ad) (l:aw) [c:wQ] :Prop:=c.k v l\/∃ ei cf,qQ (cj l) (cj cf)/\qP (cj l) (cj cf) v ei/\c.k ei cf
def fg (m:bf) (v:ad) (l:aw) (K:ad->aw->Prop) :Prop:=match m with
 | .app ..=>dx v l (c:=⟨K⟩)
 | _=>K v l
def iS (b:wN) (ah:bB) (l:aw) (K:ad->aw->Prop) :Prop:=match b with
 | .cM m=>W (cg P (ek G ah) l m) (c:=⟨fun x=>fg m x.1 x.2 K⟩)
 | .cO f args=>dS P G f (args.map (ek G ah)) l (c:=⟨K⟩)
 | .ig x args=>y5 P G (ek G ah x) (args.map (ek G ah)) l (c:=⟨K⟩)
 | .qV x name args=>y4 P G name (ek G ah x) (args.map (ek G ah)) l (c:=⟨K⟩)
def sO (ah:bB) (g:Option (Option Tmp × Bool)) (p q:Prop) :Prop:=match g with
 | none=>p
 | some (some d,w)=>sN (ah d) w (c:=⟨p,q⟩)
 | some (none,_)=>q
def lh:List dD->bB->aw->(bB->aw->Prop)->Prop
 | [],ah,l,K=>K ah l
 | s::r,ah,l,K=>sO ah s.g (iS P G s.b ah l fun v l'=>lh r (h8 ah s.dst v) l' K) (lh r (h8 ah s.dst jk) l K)
abbrev jP:=List (Nat × (aw->Prop))
def r5 (ids:List Nat) :jP->aw->Prop
 | [],_=>True
 | e::r,l=>(ids.contains e.1=true->e.2 l)/\r5 ids r l
def bf.lJ:bf->Bool
 | .alloc _ | .box _ | .dh .. | .pn ..=>true
 | _=>false
def n3 (b:wN) (ah:bB) (v:ad) (l l' l1:aw) :Prop:=match b with
 | .cM m=>match m.lJ with
  | true=>l1[l.length]? = l'[l.length]?
  | false=>cg P (ek G ah) l1 m=some (v,l1)
 | _=>True
def s7 (c6:Bool) (i:Nat) (p:aw->Prop) (s:jP) :jP:=match c6 with | true=>(i,p) ::s | false=>s
def lQ:List dD->bB->aw->jP->(bB->aw->Prop)->Prop
 | [],ah,l,_,K=>K ah l
 | s::r,ah,l,seen,K=>sO ah s.g (iS P G s.b ah l fun v l'=>r5 s.jS seen l'/\lQ r (h8 ah s.dst v) l' (s7 s.c6 s.i (n3 P G s.b ah v l l') seen) K) (lQ r (h8 ah s.dst jk) l seen K)
def qv (k:bB->aw->Prop) (K:hX) :hX:=fun e ah l=>match e with
 | .normal=>k ah l
 | .exit id=>K (.exit id) ah l
 | .ret=>K .ret ah l
def vY (id:Nat) (K:hX) :hX:=fun e ah l=>match e with
 | .normal=>K .normal ah l
 | .exit Aq=>match Nat.beq Aq id with | true=>K .normal ah l | false=>K (.exit Aq) ah l
 | .ret=>K .ret ah l
def AD (r:bB->aw->hX->Prop) :Nat->bB->aw->hX->Prop
 | 0=>fun _ _ _=>False
 | n+1=>fun ah l K=>r ah l (qv (fun ah l=>AD r n ah l K) K)
def Eh (r:bB->aw->hX->Prop) (ah:bB) (l:aw) [c:HR] :Prop:=∃ n,AD r n ah l c.k
def run:aT->bB->aw->hX->Prop
 | .skip,ah,l,K=>K .normal ah l
 | .ret,ah,l,K=>K .ret ah l
 | .exit id,ah,l,K=>K (.exit id) ah l
 | .bH s,ah,l,K=>lh P G s ah l (K .normal)
 | .hc s,ah,l,K=>lQ P G s ah l [] (K .normal)
 | .seq a b,ah,l,K=>run a ah l (qv (fun ah l=>run b ah l K) K)
 | .cond c x y,ah,l,K=>Df (ek G ah c) (c:=⟨run x ah l K,run y ah l K⟩)
 | .block id c,ah,l,K=>run c ah l (vY id K)
 | .loop c,ah,l,K=>Eh (run c) ah l (c:=⟨K⟩)
def D0 (ops:Array Oper) (i:Nat) (jS:List Nat) (c6:Bool) :Option dD:=(ops[i]?).bind fun o=>
 let g:=o.guard.map fun qr=>((ops[qr.1]?).bind (·.dst),qr.2)
 match oe P o.op with
 | some m=>some ⟨i,o.dst,g,.cM m,jS,c6⟩
 | none=>match o.op with
  | .call c=>match c.callee with
   | .value (.func f)=>match js P f with
    | true=>some ⟨i,o.dst,g,.cO f c.args.toList,jS,c6⟩
    | false=>none
   | .value x=>some ⟨i,o.dst,g,.ig x c.args.toList,jS,c6⟩
   | .invoke x name=>some ⟨i,o.dst,g,.qV x name c.args.toList,jS,c6⟩
   | _=>none
  | _=>none
def ta:Op->Bool
 | .load .. | .convert .. | .alloc _ | .box .. | .buildSlice .. | .makeSlice ..=>true
 | .call c=>match c.callee,c.argTypes.toList with
  | .builtin .len,[t]=>match P.underlying t with | some (.map _ _)=>true | _=>false
  | _,_=>false
 | _=>false
def aig (ms:List Nat) (ops:Array Oper) (done lx:List Nat) :List Nat:=
 done.filter fun j=>(match ops[j]? with | some o=>ta P o.op | none=>false)&&lx.all fun e=>!pu ms e j
def oF (ms:List Nat) (ops:Array Oper) :List Nat->List Nat->List Nat->List (Nat × List Nat)
 | [],_,_=>[]
 | i::r,done,lx=>match ops[i]? with
  | none=>[]
  | some o=>match k7 o.op with
   | true=>(i,aig P ms ops done (i::lx)) ::oF ms ops r (i::done) (match o.guard with | none=>i::lx | some _=>lx)
   | false=>(i,[]) ::oF ms ops r (i::done) lx
def BJ (ms:List Nat) (ops:Array Oper) :List Nat->Bool
 | []=>true
 | i::r=>(match ops[i]? with | some o=>!k7 o.op||r.all fun j=>pu ms j i | none=>false)&&BJ ms ops r
def Iz (N:Nat) (ops:Array Oper) (draw:Bool) :Option aT:=
 match ops.toList.all fun o=>pU N o.dst with
 | false=>none
 | true=>match draw with
  | false=>((List.range ops.size).mapM fun i=>D0 P ops i [] false).map .bH
  | true=>
   let ms:=jh ops
   let kF:=gi ms ops
   match LW ms ops kF&&BJ ms ops kF with
   | false=>none
   | true=>
    let Yh:=oF P ms ops kF [] []
    let ask:=Yh.flatMap (·.2)
    match Yh.mapM fun p=>D0 P ops p.1 p.2 (ask.contains p.1) with
    | none=>none
    | some s=>match ask with
     | []=>some (.bH s)
     | _=>some (.hc s)
def comp (N:Nat) :Code->Option aT
 | .skip=>some .skip
 | .label _=>some .skip
 | .ret=>some .ret
 | .exit id=>some (.exit id)
 | .region _ ops draw=>Iz P N ops draw
 | .seq a b=>match comp N a,comp N b with
  | some .skip,some b=>some b
  | some a,some .skip=>some a
  | some a,some b=>some (.seq a b)
  | _,_=>none
 | .cond c x y=>match comp N x,comp N y with
  | some x,some y=>some (.cond c x y)
  | _,_=>none
 | .block id c=>(comp N c).map (.block id)
 | .loop c=>(comp N c).map .loop
 | .scope c=>comp N c
 | _=>none
def bx (f:FuncId) :Option aT:=match P.funcs[f]? with
 | some fn=>match fn.body with
  | some c=>comp P fn.ntmps c
  | none=>none
 | none=>none
end

section
variable {P:Program} {G:Nat->ad}
theorem N6 {l l' : aw} {z by_ n:Nat} {s v:ad} {xs:List ad} (h:iW l z by_ s xs n=some (v,l')) :l.length<=l'.length:=by
 unfold iW at h
 repeat' split at h
 all_goals first | (cases h; done) | (cases h; simp)
theorem XE {aN:Operand->ad} {l l' : aw} {m:bf} {v:ad} (h:cg P aN l m=some (v,l')) :l.length<=l'.length:=by
 cases m<;>simp only[cg,gZ,map_some,Option.some.injEq,Prod.mk.injEq] at h
 case aO=>obtain⟨_,rfl⟩:=h; exact aCL _
 case alloc=>obtain⟨_,rfl⟩:=h; simp
 case box=>obtain⟨_,_,_,rfl⟩:=h; simp
 case dh=>obtain⟨_,_,_,rfl⟩:=h; simp
 case st n a x=>
  obtain⟨_,h,_,rfl⟩:=h;unfold kI at h
  repeat' split at h
  all_goals first | (cases h; done) | (cases h; simp)
 case yk=>obtain⟨_,rfl⟩:=h; exact aCL _
 case sT=>obtain⟨_,rfl⟩:=h; exact aCL _
 case pn=>
  unfold us at h
  repeat' split at h
  all_goals first | (cases h; done) | (cases h; simp)
 case app=>
  unfold g8 at h;split at h
  ·cases h
  ·exact N6 h
 case u1=>
  unfold r0 at h
  repeat' split at h
  all_goals first | (cases h; done) | exact N6 h
 case zb=>
  unfold BD at h
  repeat' split at h
  all_goals first | (cases h; done) | (cases h; simp)
 case tv=>
  obtain⟨_,h,_,rfl⟩:=h;unfold tu at h
  repeat' split at h
  all_goals first | (cases h; done) | (cases h; simp)
 case stop=>cases h
 case v7 x=>
  cases x with
  | none=>cases h; simp
  | some o=>
   simp only at h;split at h
   ·cases h; simp
   ·cases h
 case yl=>
  obtain⟨_,h,_,rfl⟩:=h;unfold yj at h
  repeat' split at h
  all_goals first | (cases h; done) | (cases h; simp)
 case yw=>
  unfold DK at h
  repeat' split at h
  all_goals first | (cases h; done) | (cases h; simp)
 case ym=>
  unfold wa at h
  repeat' split at h
  all_goals first | (cases h; done) | (cases h; simp)
 case cI=>
  split at h
  ·rw[gZ] at h; obtain⟨_,rfl⟩:=h; exact aCL _
  ·cases h
 all_goals (obtain⟨_,rfl⟩:=h; exact aCL _)
theorem Ej {α:Type} {o:Option α} {c:NG α}:W o (c:=c)<->∃ v,o=some v/\c.k v:=by
 unfold W; cases o<;>simp
theorem Dg {b:Bool} {c:Bh}:sP b (c:=c)<->(b=true/\c.p)\/(b=false/\c.q) :=by cases b<;>simp[sP]
structure pI (P:Program) (ops:Array Oper) (s:dD) (o:Oper) :Prop where
 here:ops[s.i]? = some o
 dst:s.dst=o.dst
 g:s.g=o.guard.map fun qr=>((ops[qr.1]?).bind (·.dst),qr.2)
 cM:∀ m,s.b=.cM m->oe P o.op=some m
 cO:∀ f args,s.b=.cO f args->∃ c:Call,o.op=.call c/\c.callee=.value (.func f)/\c.args.toList=args/\js P f=true
 ig:∀ x args,s.b=.ig x args->∃ c:Call,o.op=.call c/\c.callee=.value x/\c.args.toList=args
 qV:∀ x name args,s.b=.qV x name args->∃ c:Call,o.op=.call c/\c.callee=.invoke x name/\c.args.toList=args
theorem Hu {ops:Array Oper} {i:Nat} {jS:List Nat} {c6:Bool} {s:dD} (h:D0 P ops i jS c6=some s) :∃ o,pI P ops s o/\s.i=i/\s.jS=jS/\s.c6=c6:=by
 unfold D0 at h;rw[bind_some] at h;obtain⟨o,ax,h⟩:=h;refine⟨o,?_⟩;simp only at h;split at h
 ·rename_i m hm;cases h;exact⟨⟨ax,rfl,rfl,fun cV h=>(by cases h; exact hm),fun f a h=>(by cases h),fun x a h=>(by cases h),fun x n a h=>(by cases h)⟩,rfl,rfl,rfl⟩
 ·split at h
  ·rename_i c gN;split at h
   ·rename_i f ak;split at h
    ·rename_i aL;cases h;exact⟨⟨ax,rfl,rfl,fun cV h=>(by cases h),fun f a h=>(by cases h; exact⟨c,gN,ak,rfl,aL⟩),fun x a h=>(by cases h),fun x n a h=>(by cases h)⟩,rfl,rfl,rfl⟩
    ·cases h
   ·rename_i x al ak;cases h;exact⟨⟨ax,rfl,rfl,fun cV h=>(by cases h),fun f a h=>(by cases h),fun x a h=>(by cases h; exact⟨c,gN,ak,rfl⟩),fun x n a h=>(by cases h)⟩,rfl,rfl,rfl⟩
   ·rename_i x name ak;cases h;exact⟨⟨ax,rfl,rfl,fun cV h=>(by cases h),fun f a h=>(by cases h),fun x a h=>(by cases h),fun x n a h=>by cases h; exact⟨c,gN,ak,rfl⟩⟩,rfl,rfl,rfl⟩
   ·cases h
  ·cases h
theorem SZ {g:FuncId} (aL:js P g=true) {h:bh} {aN:Operand->ad} {c:Call} {x:Operand} {first gQ:List ad} (ak:c.callee=.value x) (al:aN x=.fn g first gQ) :
  dw P h aN (.call c)=some (.call g (first++c.args.toList.map aN++gQ) h) :=by
 unfold js at aL;simp only[dw,va,ak,al];cases m6:P.funcs[g]? with
 | none=>rw[m6] at aL; cases aL
 | some fn=>
  rw[m6] at aL;simp only[aCQ,bne_iff_ne] at aL;simp only;rw[if_pos aL]
theorem ajT {g:FuncId} (aL:js P g=true) {h:bh} {aN:Operand->ad} {c:Call} {x:Operand} {name:String} {t:TypeId} {v:ad} (ak:c.callee=.invoke x name) (al:aN x=.hD t v) (hm:AE P t name=some g) :
  dw P h aN (.call c)=some (.call g (v::c.args.toList.map aN) h) :=by
 unfold js at aL;simp only[dw,va,ak,al,hm];cases m6:P.funcs[g]? with
 | none=>rw[m6] at aL; cases aL
 | some fn=>
  rw[m6] at aL;simp only[aCQ,bne_iff_ne] at aL;simp only;rw[if_pos aL]
def bf.looks:bf->Bool
 | .alloc _ | .box _ | .dh .. | .pn .. | .st .. | .app .. | .u1 .. | .zb .. | .tv .. | .v7 _ | .AC .. | .yl .. | .yw _ | .ym _ | .cI .. | .D3 .. | .stop=>false
 | _=>true
theorem anS {m:bf} {v:ad} {l:aw} {K:ad->aw->Prop} (h:fg m v l K) :K v l\/(m.looks=false/\m.lJ=false/\∃ ei cf,qQ (cj l) (cj cf)/\qP (cj l) (cj cf) v ei/\K ei cf) :=by
 cases m<;>first | exact .inl h | skip
 rcases h with h | h
 ·exact .inl h
 ·exact .inr ⟨rfl,rfl,h⟩
theorem VM {m:bf} {v:ad} {l:aw} {K g6:ad->aw->Prop} (bA:∀ v l,K v l->g6 v l) (h:fg m v l K) :fg m v l g6:=by
 cases m<;>first | exact bA _ _ h | skip
 rcases h with h | ⟨ei,cf,h1,ag,aq⟩
 ·exact .inl (bA _ _ h)
 ·exact .inr ⟨ei,cf,h1,ag,bA _ _ aq⟩
theorem acG {ops:Array Oper} {s:dD} {o:Oper} (ok:pI P ops s o) {ah:bB} {l:aw} {K:ad->aw->Prop} (h:iS P G s.b ah l K) :
  ∃ v l',dW P G (.op o.op ah (cj l) v (cj l'))/\l.length<=l'.length/\K v l'/\∀ m,s.b=.cM m->(m.looks=true\/m.lJ=true)->cg P (ek G ah) l m=some (v,l') :=by
 cases ai:s.b with
 | cM m=>
  rw[ai] at h;simp only[iS,Ej] at h;obtain⟨⟨v,l'⟩,h1,ag⟩:=h;have au:=dW.GY (G:=G) (GL (ok.cM m ai) h1);rcases anS ag with ag | ⟨lM,nl,ei,cf,cn,cc,dP⟩
  ·exact⟨v,l',au,XE h1,ag,fun cV hm _=>by cases hm; exact h1⟩
  ·refine⟨ei,cf,.HI au cn cc,aD2 (XE h1) (Nat.le_of_eq cn.n.symm),dP,fun cV hm ar=>?_⟩;cases hm;rw[lM,nl] at ar;rcases ar with h | h<;>cases h
 | cO f args=>
  rw[ai] at h;obtain⟨r,l',h1,ag,aq⟩:=h;obtain⟨c,gN,ak,aD,aL⟩:=ok.cO f args ai;refine⟨r,l',?_,ag,aq,fun cV hm _=>by cases hm⟩;rw[gN];refine .AM (SZ aL ak rfl) ?_;simpa [aD] using h1
 | ig x args=>
  rw[ai] at h;simp only[iS] at h;obtain⟨c,gN,ak,aD⟩:=ok.ig x args ai;unfold y5 at h;split at h
  ·rename_i g first gQ al
   obtain⟨aL,r,l',h1,ag,aq⟩:=h;refine⟨r,l',?_,ag,aq,fun cV hm _=>by cases hm⟩;rw[gN];refine .AM (SZ aL ak al) ?_;rw[aD]; exact h1
  ·cases h
 | qV x name args=>
  rw[ai] at h;simp only[iS] at h;obtain⟨c,gN,ak,aD⟩:=ok.qV x name args ai;unfold y4 at h;split at h
  ·rename_i t v al;split at h
   ·rename_i g hm;obtain⟨aL,r,l',h1,ag,aq⟩:=h;refine⟨r,l',?_,ag,aq,fun cV hm _=>by cases hm⟩;rw[gN];refine .AM (ajT aL ak al hm) ?_;rw[aD]; exact h1
   ·cases h
  ·cases h
theorem VK {ops:Array Oper} {s:dD} {o:Oper} (ok:pI P ops s o) {ah:bB} {p q:Prop} (h:sO ah s.g p q) :(ll ops ah o=some true/\p)\/(ll ops ah o=some false/\q) :=by
 rw[ok.g] at h;unfold ll;cases aA:o.guard with
 | none=>rw[aA] at h; exact .inl ⟨rfl,h⟩
 | some qr=>
  obtain⟨j,w⟩:=qr;rw[aA] at h;simp only[aCR] at h ⊢;cases bX:(ops[j]?).bind (·.dst) with
  | none=>rw[bX] at h; exact .inr ⟨rfl,h⟩
  | some d=>
   rw[bX] at h;simp only[sO,sN] at h ⊢;cases ap:ah d<;>rw[ap] at h<;>simp only at h ⊢<;>first | exact .inr ⟨trivial,h⟩ | (cases h; done) | skip
   rw[Dg] at h;rcases h with ⟨h1,ag⟩ | ⟨h1,ag⟩
   ·exact .inl ⟨by rw[h1],ag⟩
   ·exact .inr ⟨by rw[h1],ag⟩
inductive yS (P:Program) (ops:Array Oper) :List dD->List Oper->Prop
 | nil:yS P ops [] []
 | cons {s o acC os}:pI P ops s o->yS P ops acC os->yS P ops (s::acC) (o::os)
theorem My {ops:Array Oper} {N:Nat} (fu:∀ (i:Nat) (o:Oper),ops[i]? = some o->pU N o.dst=true) {K:bB->aw->Prop}:∀ {s:List dD} {os:List Oper} {ah:bB} {l:aw},
  yS P ops s os->lh P G s ah l K->∃ ci l',dW P G (.ops ops os N ah (cj l) ci (cj l'))/\l.length<=l'.length/\K ci l'
 | [],_,ah,l,aL,h=>by cases aL; exact⟨ah,l,.XZ,aCL _,h⟩
 | s::r,_,ah,l,aL,h=>by
  cases aL with
  | cons ok aL=>
   rename_i o os;rcases VK ok h with ⟨hw,h⟩ | ⟨hw,h⟩
   ·obtain⟨v,l1,h1,ag,aq,_⟩:=acG ok h;obtain⟨ci,l',aH,bd,bM⟩:=My fu aL aq;exact⟨ci,l',.X0 hw (fu _ _ ok.here) h1 (by rw[<-ok.dst]; exact aH),aD2 ag bd,bM⟩
   ·obtain⟨ci,l',aH,bd,bM⟩:=My fu aL h;exact⟨ci,l',.X1 hw (fu _ _ ok.here) (by rw[<-ok.dst]; exact aH),bd,bM⟩
theorem abX {l x:aw} {p:ad} {y:List ad × Nat} (h:e4 l p=some y) :e4 (l++x) p=some y:=by
 cases p<;>first | exact h | skip
 rename_i b off sz;simp only[e4] at h ⊢;cases ai:l[b]? with
 | none=>rw[ai] at h; cases h
 | some c=>rw[ai] at h; rw[aCK (fW ai),ai]; exact h
theorem aiC {l x:aw} {z:Nat} {p:ad} {y:List ad × Nat} (h:dL l z p=some y) :dL (l++x) z p=some y:=by
 cases p<;>first | exact h | skip
 rename_i eG b off len cap sz;simp only[dL] at h ⊢;cases ai:l[b]? with
 | none=>rw[ai] at h; cases h
 | some c=>rw[ai] at h; rw[aCK (fW ai),ai]; exact h
theorem aid {l x:aw} {p v:ad} (h:w0 l p=some v) :w0 (l++x) p=some v:=by
 unfold w0 at h ⊢;cases p<;>simp only at h ⊢<;>first | exact h | skip
 all_goals
  split at h
  ·rename_i cs n ak;rw[aiC ak]; exact h
  ·cases h
def bf.reads:bf->Bool
 | .ld1 _ | .eg .. | .wZ _ | .AB _=>true
 | _=>false
theorem aou {aN:Operand->ad} {l l' : aw} {m:bf} {v:ad} (hm:m.looks=true) (h:cg P aN l m=some (v,l')) :l'=l:=by
 cases m<;>simp only[bf.looks,Bool.true_eq,aDV,reduceCtorEq] at hm<;>simp only[cg,gZ,Option.some.injEq,Prod.mk.injEq] at h<;>first | exact h.2 | exact h.2.symm
theorem aos {aN:Operand->ad} {l x:aw} {m:bf} {v:ad} (hm:m.looks=true) (h:cg P aN l m=some (v,l)) :cg P aN (l++x) m=some (v,l++x) :=by
 cases m<;>simp only[bf.looks,Bool.true_eq,aDV,reduceCtorEq] at hm<;>simp only[cg,gZ,Option.some.injEq,Prod.mk.injEq,and_true] at h ⊢<;>try exact h
 case ld1 a=>
  rw[bind_some] at h ⊢;obtain⟨y,h1,ag⟩:=h;exact⟨y,abX h1,ag⟩
 case eg n a=>
  rw[bind_some] at h ⊢;obtain⟨y,h1,ag⟩:=h;exact⟨y,abX h1,ag⟩
 case wZ x=>exact aid h
 case AB y=>
  unfold Gv at h ⊢;cases al:aN y<;>rw[al] at h<;>(try simp only at h)<;>try (cases h; done)
  ·exact h
  ·rename_i b;cases ai:l[b]? with
   | none=>rw[ai] at h; cases h
   | some c=>simp only[aCK (fW ai)]; exact h
theorem aot {aN:Operand->ad} {l cf:aw} {m:bf} {v:ad} (hm:m.looks=true) (aC:m.reads=false) (h:cg P aN l m=some (v,l)) :cg P aN cf m=some (v,cf) :=by
 cases m<;>simp only[bf.looks,Bool.true_eq,aDV,reduceCtorEq] at hm<;>simp only[bf.reads,reduceCtorEq] at aC<;>simp only[cg,gZ,Option.some.injEq,Prod.mk.injEq,and_true] at h ⊢<;>exact h
theorem Ms (zero:List ad) :∀ n,(ey zero n).length=n*zero.length
 | 0=>by simp[ey]
 | n+1=>by rw[ey,aCS,Ms zero n,aDj,aFQ]
theorem acA {cs vs:List ad} {off:Nat} (h:off+vs.length<=cs.length) :(bO cs off vs).length=cs.length:=by
 simp only[bO,aCS,aCX,aDS]; omega
theorem SB {lO:Nat->Option (Nat × Nat)}:∀ {di:List (Nat × ad)} {zero cs:List ad},ii lO zero di=some cs->cs.length=zero.length
 | [],zero,cs,h=>by simp only[ii,Option.some.injEq] at h; rw[<-h]
 | (i,v) ::r,zero,cs,h=>by
  unfold ii at h;split at h
  ·rename_i off size vs _ _;split at h
   ·rename_i h1;rw[SB h,acA (by omega)]
   ·cases h
  ·cases h
theorem aoL {op:Op} {m:bf} (hm:oe P op=some m) (aI:m.lJ=true) {aN:Operand->ad} {l l' : aw} {v:ad} (h:cg P aN l m=some (v,l')) :
  ∃ cs mk,nW P aN op=some (cs,mk)/\v=mk l.length/\l'=l++[.cells cs.length cs] :=by
 cases op<;>simp only[oe] at hm<;>try (cases hm; done)
 case alloc t=>
  rw[map_some] at hm;obtain⟨zero,h1,rfl⟩:=hm;simp only[cg,Option.some.injEq,Prod.mk.injEq] at h;obtain⟨rfl,rfl⟩:=h;exact⟨zero,_,by simp only[nW,h1]; rfl,rfl,rfl⟩
 case box t x=>
  cases hm;simp only[cg,map_some,Prod.mk.injEq] at h;obtain⟨cs,h1,rfl,rfl⟩:=h;exact⟨cs,_,by simp only[nW,h1]; rfl,rfl,rfl⟩
 case buildSlice t n di=>
  simp only[bind_some] at hm;obtain⟨e,h1,z,ag,zero,aq,hm⟩:=hm;rw[i1] at hm;obtain⟨aH,rfl⟩:=hm;simp only[cg,map_some,Prod.mk.injEq] at h;obtain⟨cs,bd,rfl,rfl⟩:=h;have bu:cs.length=n*z:=by rw[SB bd,Ms,aH.1]
  exact⟨cs,_,by simp only[nW,h1,ag,aq,if_pos aH,bd]; rfl,rfl,by rw[bu]⟩
 case makeSlice t a c=>
  simp only[bind_some] at hm;obtain⟨e,h1,z,ag,by_,aq,zero,aH,hm⟩:=hm;rw[i1] at hm;obtain⟨bd,rfl⟩:=hm;simp only[cg] at h;unfold us at h;cases aD:aN a<;>rw[aD] at h<;>(try simp only at h)<;>try (cases h; done)
  cases ak:aN c<;>rw[ak] at h<;>(try simp only at h)<;>try (cases h; done)
  rw[i1] at h;obtain⟨bM,dq⟩:=h;cases dq;rename_i kc nc;have bu:(ey zero nc.toNat).length=nc.toNat*z:=by rw[Ms,bd]
  exact⟨ey zero nc.toNat,_,by simp only[nW,aD,ak,h1,asInt,ag,aq,aH]; rw[if_pos ⟨bd,bM⟩],rfl,by rw[bu]⟩
 case pick=>cases hm; cases aI
 case move=>cases hm; cases aI
 case assign=>cases hm; cases aI
 case nilCheck=>cases hm; cases aI
 case binOp=>cases hm; cases aI
 case unOp=>cases hm; cases aI
 case call c=>
  exfalso;split at hm
  ·unfold vh at hm
   repeat' split at hm
   all_goals first
    | (cases hm; done)
    | (cases hm; cases aI; done)
    | (simp only[bind_some,map_some] at hm; obtain⟨_,_,rfl⟩:=hm; cases aI; done)
    | (simp only[bind_some,map_some] at hm; obtain⟨_,_,_,_,rfl⟩:=hm; cases aI; done)
    | (simp only[bind_some,i1] at hm; obtain⟨_,_,_,_,_,_,_,rfl⟩:=hm; cases aI; done)
    | (simp only[bind_some,i1] at hm; obtain⟨_,_,_,_,_,_,_,_,_,rfl⟩:=hm; cases aI; done)
  ·split at hm
   ·rw[i1] at hm; obtain⟨_,rfl⟩:=hm; cases aI
   ·cases hm
  ·cases hm
 case next it b=>exfalso; cases b<;>simp only[reduceCtorEq] at hm<;>cases hm<;>cases aI
 case panic=>cases hm; cases aI
 case lookup=>exfalso; split at hm<;>(try cases hm; done); rw[map_some] at hm; obtain⟨_,_,rfl⟩:=hm; cases aI
 case build=>exfalso; simp only[bind_some,map_some] at hm; obtain⟨_,_,_,_,rfl⟩:=hm; cases aI
 case typeAssert=>exfalso; rw[map_some] at hm; obtain⟨_,_,rfl⟩:=hm; cases aI
 case store=>exfalso; rw[map_some] at hm; obtain⟨_,_,rfl⟩:=hm; cases aI
 case slice=>exfalso; rw[map_some] at hm; obtain⟨_,_,rfl⟩:=hm; cases aI
 case fieldAddr=>exfalso; rw[bind_some] at hm; obtain⟨_,_,hm⟩:=hm; split at hm<;>cases hm; cases aI
 case field=>exfalso; rw[bind_some] at hm; obtain⟨_,_,hm⟩:=hm; split at hm<;>cases hm<;>cases aI
 case extract=>cases hm; cases aI
 case makeFunc f a b=>exfalso; cases f<;>simp only at hm<;>cases hm; cases aI
 all_goals
  exfalso
  repeat' split at hm
  all_goals first | (cases hm; done) | (cases hm; cases aI; done)
end

end Go.ct

/-
  The canonical machine, part N: a region that draws its order.
-/
import Derived.Test.YtidejmkknleijaaGreatDoorHc
import Derived.ProofKit
set_option linter.unusedVariables false
set_option linter.unusedSimpArgs false
set_option linter.unnecessarySimpa false
namespace Go.bV
open Go
section
variable {P:Program} {G:Nat->U}
theorem AC {ops:Array Oper} {t i:Nat} (h:kA ops t=some i) :∃ o,ops[i]? = some o/\o.dst=some t:=by
 unfold kA at h;have:=List.find?_some h;cases av:ops[i]? with
 | none=>simp[av] at this
 | some o=>exact⟨o,rfl,by simpa [av] using this⟩
def uo (ops:Array Oper) (val σ:Nat->U) (dm:Array Bool) :Nat->U:=fun t=>
 match kA ops t with
 | some i=>if dm.getD i false then val i else σ t
 | none=>σ t
theorem aea {ops:Array Oper} {pre:Nat->Nat->Bool} (h4:uz ops pre) {dm:Array Bool}
  (down:∀ (i:Nat) (o:Oper) (e:Edge),ops[i]? = some o->dm.getD i false=true->e∈o.after->Region.binds .any e=true->dm.getD e.on false=true)
  (c7:∀ i,dm.getD i false=true->∃ o,ops[i]? = some o) :∀ (i:Nat),dm.getD i false=true->∀ j,pre i j=true->dm.getD j false=true:=by
 intro i
 induction i using Nat.strongRecOn with
 | _ i aR=>
  intro ay j ai;obtain⟨o,av⟩:=c7 i ay;obtain⟨e,am,af,oa⟩:=h4.chain i o j av ai;have dN:=down i o e av ay am af;rcases oa with rfl | oa
  ·exact dN
  ·exact aR e.on (h4.DJ i o e av am af) dN j oa
theorem y2 (dm:Array Bool) (i j:Nat) (ay:i<dm.size) :(dm.setIfInBounds i true).getD j false=if j=i then true else dm.getD j false:=by
 rw[axj,ax6];by_cases h:i=j
 ·subst h; simp[ay]
 ·rw[if_neg h,if_neg (Ne.symm h),axj]
theorem Kq {ops:Array Oper} {pre:Nat->Nat->Bool} (h4:uz ops pre) {val σ:Nat->U} {dm:Array Bool} {i:Nat} {o:Oper} (av:ops[i]? = some o) (ay:i<dm.size) :
  uo ops val σ (dm.setIfInBounds i true)=h1 (uo ops val σ dm) o.dst (val i) :=by
 funext t;unfold uo h1;cases bg:o.dst with
 | none=>
  simp only;cases aP:kA ops t with
  | none=>rfl
  | some j=>
   have bY:j≠i:=fun aT=>by
    obtain⟨dG,dT,vg⟩:=AC aP;rw[aT,av] at dT; cases dT;rw[bg] at vg; cases vg
   simp only[y2 _ _ _ ay,if_neg bY]
 | some d=>
  simp only;by_cases aX:t=d
  ·subst aX;rw[h4.one i o t av bg];simp[y2 _ _ _ ay]
  ·rw[b5 _ _ _ _ aX];cases aP:kA ops t with
   | none=>rfl
   | some j=>
    have bY:j≠i:=fun aT=>by
     obtain⟨dG,dT,vg⟩:=AC aP;rw[aT,av] at dT; cases dT;rw[bg] at vg; cases vg;exact aX rfl
    simp only[y2 _ _ _ ay,if_neg bY]
structure Inv (P:Program) (ops:Array Oper) (val σ:Nat->U) (W:Nat->Bool) (cls:Nat->GV) (m:Nat) (ak:Nat->Nat) (gc:Nat->aO) (hb:Nat->Nat) (N:Nat)
  (R:Nat->Prop) (B:Nat) (g9:World) (h:aO) (uy:cr) (dm:Array Bool) (k:Nat) (a:Act) (w:World) (μ:cr) :Prop where
 size:dm.size=ops.size
 down:∀ (i:Nat) (o:Oper) (e:Edge),ops[i]? = some o->dm.getD i false=true->e∈o.after->Region.binds .any e=true->dm.getD e.on false=true
 FF:k<=m
 done:∀ q,q<m->(dm.getD (ak q) false=true<->q<k)
 ext:Ext0 g9 h uy w (gc k) μ
 rC:∀ b,b<h.n->uy b=none->μ b=none
 rel:bP R B w (gc k) μ
 yf:iP N w R (gc k) μ (uo ops val σ dm) a
 F3:∀ (i:Nat) (o:Oper),ops[i]? = some o->W i=true->cls i=.new->dm.getD i false=false->μ (hb i)=none
theorem akj {ops:Array Oper} {dm:Array Bool} (hL:dm.size=ops.size) (i:Nat) (ay:dm.getD i false=true) :∃ o,ops[i]? = some o:=by
 have:i<ops.size:=by
  rcases ax1 i dm.size with ad | ad
  ·omega
  ·simp[axj,ayQ ad] at ay
 exact⟨ops[i],by simp[this]⟩
theorem ack {ops:Array Oper} {pre:Nat->Nat->Bool} (h4:uz ops pre) {dm:Array Bool} (hL:dm.size=ops.size) (az:Region.ready .any ops dm=[]) :∀ i,i<ops.size->dm.getD i false=true:=by
 intro i
 induction i using Nat.strongRecOn with
 | _ i aR=>
  intro ay;cases al:dm.getD i false with
  | true=>rfl
  | false=>
   exfalso;have iv:i∈Region.ready .any ops dm:=by
    refine mem_ready.2 ⟨?_,ops[i],by simp[ay],fun e am af=>aR e.on (h4.DJ i ops[i] e (by simp[ay]) am af) (by
     have:=h4.DJ i ops[i] e (by simp[ay]) am af;omega)⟩
    have aL:i<dm.size:=by omega
    simpa [axj,aL] using al
   rw[az] at iv;cases iv
theorem aed (fO:P.follows .mixedOrders=true) (ir:∀ g,(G g).closed=true) :QN P G:=by
 intro id ops N σ h bG h' pre val W cls m ak gc s7 hb cells h4 qZ aJ hm Jh zf EC lk sd tN xn I4 pT Ie Ig q2 xd;refine⟨0,fun R B g9 uy a0 Q oB ck s0 nF=>wp_region_any fO ?_⟩;obtain⟨fA,m1⟩:=x4 oB ⟨(RowKit.Below.refl g9.heap.size g9).drew,Nat.le_succ _⟩;obtain⟨aS,sQ⟩:=aJ.rel m1;have TX:=fA.trans aS
 -- the end
 have fin:∀ (dm:Array Bool) (k:Nat) (a:Act) (w:World) (μ:cr),Inv P ops val σ W cls m ak gc hb N R B g9 h uy dm k a w μ->(∀ i,i<ops.size->dm.getD i false=true)->Q .normal a w:=by
  intro dm k a w μ inv dE;have ar:k=m:=by
   rcases ax1 k m with aL | vk
   ·obtain⟨o,av,_⟩:=EC k aL;have al:=dE (ak k) ((axl.1 av).1);have:=(inv.done k aL).1 al;omega
   ·have:=inv.FF; omega
  subst ar;have aiq:uo ops val σ dm=bG:=by
   rw[Jh];funext t;unfold uo;cases aP:kA ops t with
   | none=>rfl
   | some i=>
    obtain⟨o,av,_⟩:=AC aP;simp only[dE i ((axl.1 av).1),if_true]
  subst hm;have bW:=inv.yf;rw[aiq] at bW;exact nF a w μ ⟨inv.ext,inv.rC⟩ inv.rel bW
 have key:∀ (fuel:Nat) (dm:Array Bool) (k:Nat) (a:Act) (w:World) (μ:cr),Inv P ops val σ W cls m ak gc hb N R B g9 h uy dm k a w μ->dm.toList.count false=fuel->wpAny P .any ops Q fuel dm a w:=by
  intro fuel
  induction fuel with
  | zero=>
   intro dm k a w μ inv Vy;have dE:∀ i,i<ops.size->dm.getD i false=true:=by
    intro i ay;have aL:i<dm.size:=by rw[inv.size]; exact ay
    cases al:dm[i] with
    | true=>simp[axj,aL,al]
    | false=>
     exfalso;have iv:false∈dm.toList:=by rw[<-al]; simp
     have:=List.count_pos_iff.2 iv;omega
   refine⟨?_,fin dm k a w μ inv dE⟩;cases az:Region.ready .any ops dm with
   | nil=>rfl
   | cons i l=>
    exfalso;have iv:i∈Region.ready .any ops dm:=by rw[az]; simp
    obtain⟨ad,o,av,_⟩:=mem_ready.1 iv;have ay:=(axl.1 av).1;have ae:=dE i ay;have aL:i<dm.size:=by rw[inv.size]; exact ay
    simp[axj,aL] at ad ae;rw[ad] at ae; cases ae
  | succ fuel aR=>
   intro dm k a w μ inv Vy;refine⟨fun az=>fin dm k a w μ inv (ack h4 inv.size az),fun i ay=>?_⟩;obtain⟨ad,o,av,VE⟩:=mem_ready.1 ay;have aL:i<dm.size:=by rw[inv.size]; exact (axl.1 av).1
   have km:dm.getD i false=false:=by simpa [axj,aL] using ad
   have Bs:=aea h4 inv.down (akj inv.size)
   -- what comes before i is done
   have Nt:∀ j,pre i j=true->dm.getD j false=true:=by
    intro j ai;obtain⟨e,am,af,oa⟩:=h4.chain i o j av ai;have dN:=VE e am af;rcases oa with rfl | oa
    ·exact dN
    ·exact Bs e.on dN j oa
   have Ww:∀ j,dm.getD j false=true->pre j i=true->False:=fun j ai au=>by
    have:=Bs j ai i au;rw[km] at this; cases this
   have VI:Bf pre m ak i k:=⟨inv.FF,fun q aN au=>(inv.done q aN).1 (Nt _ au),fun q aN au=>by
    rcases ax1 q k with lh | vk
    ·exact (Ww _ ((inv.done q aN).2 lh) au).elim
    ·exact vk⟩
   -- what i sees
   have VG:∀ t,aQ w R (gc k) μ (n1 ops pre val σ i o t) (a.tmps.getD t undef) :=by
    intro t;unfold n1;split
    ·rename_i aX;have Jb:t∈o.looksAt ops:=by simpa using aX
     have ao:=inv.yf.val t;unfold uo at ao;cases aP:kA ops t with
     | none=>rw[aP] at ao; exact ao
     | some j=>
      rw[aP] at ao;simp only at ao ⊢;by_cases au:pre i j=true
      ·rw[if_pos au];rw[if_pos (Nt j au)] at ao;exact ao
      ·rw[if_neg au];have ahN:dm.getD j false=false:=by
        rcases h4.acc i o t j av Jb aP with aT | aT | rfl
        ·exact absurd aT au
        ·cases xh:dm.getD j false with
         | false=>rfl
         | true=>exact (Ww j xh aT).elim
        ·exact km
       rw[ahN] at ao;exact ao
    ·exact .bad _
   have VM:m5 G w R (gc k) μ:=fun g=>⟨ir g,(ck g).2.nk inv.ext⟩
   have c9:∀ x,aQ w R (gc k) μ (c2 G (n1 ops pre val σ i o) x) (a.eval x) :=by
    intro x;cases x with
    | tmp t=>exact VG t
    | const v=>exact aQ.xV v
    | global g=>exact (VM g).2
    | func f=>exact .fn f [] [] #[] #[] rfl rfl (fun _ _ _ aT=>by simp at aT) (fun _ _ _ aT=>by simp at aT)
   have WQ:=Qy (w:=w) (R:=R) (h:=gc k) (μ:=μ) (tmps:=a.tmps) (tN i o av) (fun d _=>VG d);have Ip:(dm.setIfInBounds i true).toList.count false=fuel:=by
    have af:dm.toList[i]'(by simpa using aL)=false:=by
     have:dm[i]=false:=by simpa [axj,aL] using ad
     simpa using this
    rw[Array.toList_setIfInBounds,List.count_set (by simpa using aL)];simp[af,Vy]
   have I9:(dm.setIfInBounds i true).size=ops.size:=by simp[inv.size]
   have It:∀ (j:Nat) (dG:Oper) (e:Edge),ops[j]? = some dG->(dm.setIfInBounds i true).getD j false=true->e∈dG.after->Region.binds .any e=true->(dm.setIfInBounds i true).getD e.on false=true:=by
    intro j dG e dT ai am af;rw[y2 _ _ _ aL] at ai ⊢;by_cases jW:j=i
    ·subst jW;rw[av] at dT; cases dT;rw[VE e am af]; split<;>rfl
    ·rw[if_neg jW] at ai;rw[inv.down j dG e dT ai am af]; split<;>rfl
   -- the next state,when no block of others' is turned
   have pd:(W i=true->cls i≠.g3)->∀ q,q<m->((dm.setIfInBounds i true).getD (ak q) false=true<->q<k) :=by
    intro bY q aN;obtain⟨dG,dT,eY,ah⟩:=EC q aN;have:ak q≠i:=fun aT=>by
     rw[aT] at eY ah;exact bY eY ah
    rw[y2 _ _ _ aL,if_neg this];exact inv.done q aN
   have I2:∀ (j:Nat),(dm.setIfInBounds i true).getD j false=false->j≠i/\dm.getD j false=false:=by
    intro j ai;rw[y2 _ _ _ aL] at ai;by_cases jW:j=i
    ·rw[if_pos jW] at ai; cases ai
    ·rw[if_neg jW] at ai; exact⟨jW,ai⟩
   unfold wpOp;simp only[av];cases eY:W i with
   | false=>
    rw[WQ,eY];simp only[ax8,if_false];refine aR _ k _ w μ ⟨I9,It,inv.FF,pd (fun aT=>by rw[eY] at aT; cases aT),inv.ext,inv.rC,inv.rel,?_,fun j dG dT tw nq ai=>inv.F3 j dG dT tw nq (I2 j ai).2⟩ Ip;rw[Kq h4 av aL];exact inv.yf.put (qZ i o av) (by rw[xn i o av eY]; exact Gz)
   | true=>
    rw[WQ,eY];simp only[if_true];left;cases ah:cls i with
    | pure=>
     have bE:=I4 i o av eY ah k VI;obtain⟨v,w',μ',az,e,r,ao⟩:=P8 (P:=P) inv.rel c9 o bE;have Wi:wpAny P .any ops Q fuel (dm.setIfInBounds i true) (a.put o.dst v) w':=by
      refine aR _ k _ w' μ' ⟨I9,It,inv.FF,pd (fun _ aT=>by rw[ah] at aT; cases aT),inv.ext.trans e.toExt0,fun b af mR=>e.rC b (ayy af inv.ext.n) (inv.rC b af mR),r,?_,fun j dG dT tw nq ai=>?_⟩ Ip
      ·rw[Kq h4 av aL];exact (inv.yf.ext e).put (qZ i o av) ao
      ·have aC:=inv.F3 j dG dT tw nq (I2 j ai).2;rcases ax1 (hb j) (gc k).n with af | af
       ·exact e.rC _ af aC
       ·exact r.lX _ af
     unfold Oper.wp;rcases az with az | ⟨az,rfl⟩
     ·rw[az]; exact Wi
     ·rw[az]; exact Wi
    | new=>
     obtain⟨mk,aC,B5,pQ,iQ⟩:=pT i o av eY ah;obtain⟨v,arr,t,az,b0,Na⟩:=OT (P:=P) c9 o aC;have ey:=iQ k VI;have agm:=inv.F3 i o av eY ah km;have asP:hb i<(gc k).n:=by
      rcases ax1 (hb i) (gc k).n with af | af
      ·exact af
      ·rw[inv.rel.fresh _ af] at ey; cases ey
     have q8:∀ b ch,μ b=some ch->b≠hb i:=fun b ch af aT=>by rw[aT,agm] at af; cases af
     have e:Ext0 w (gc k) μ (w.alloc (.cells arr t)) (gc k) (bB μ (hb i) (some ⟨w.heap.size,0,arr.size⟩)) :=by
      refine⟨rfl,rfl,rfl,by simp,fun x ag _=>?_,?_,fun b sz cs ch af hm=>.inl ⟨cs,af,by rw[b5 _ _ _ _ (q8 b ch hm)]; exact hm⟩,fun _ _ ax=>ax,fun b k ch af hm=>⟨af,by rw[b5 _ _ _ _ (q8 b ch hm)]; exact hm⟩,awU _,awU _⟩
      ·exact RowKit.Below.heap_alloc w _ x ag
      ·rintro x ⟨b,ch,al,hm,rfl⟩;by_cases af:b=hb i
       ·subst af; simp at hm; subst hm; exact .inr (awU _)
       ·rw[b5 _ _ _ _ af] at hm;exact .inl ⟨b,ch,al,hm,rfl⟩
     have r:bP R B (w.alloc (.cells arr t)) (gc k) (bB μ (hb i) (some ⟨w.heap.size,0,arr.size⟩)) :=by
      refine inv.rel.oL e (hb i) (fun b af al=>⟨rfl,b5 _ _ _ _ af,fun ch hm=>RowKit.Below.heap_alloc w _ _ (inv.rel.lt al hm)⟩) (fun ch hm=>?_) (fun b ch avA af al _ hm bX=>?_) (fun ch _ hm=>?_) inv.rel.fresh (fun b af=>?_)
      ·simp at hm; subst hm;rw[ey];refine⟨rfl,by simp[b0.1],arr,t,(0,0),heap_alloc_new w _,rfl,.inl rfl,fun j c ai=>?_⟩;obtain⟨u,a8,bh,b6⟩:=b0.2 j c ai;exact⟨u,by simpa using a8,bh,b6.nk e⟩
      ·simp at bX; subst bX;have:=inv.rel.lt al hm;simp only[ne_eq]; omega
      ·simp at hm; subst hm;exact inv.rel.size
      ·rw[b5 _ _ _ _ (by omega)];exact inv.rel.lX b af
     have ao:aQ (w.alloc (.cells arr t)) R (gc k) (bB μ (hb i) (some ⟨w.heap.size,0,arr.size⟩)) (val i) v:=by
      rw[B5];exact Na _ _ _ _ _ ey (by simp)
     unfold Oper.wp;rw[az];refine aR _ k _ _ _ ⟨I9,It,inv.FF,pd (fun _ aT=>by rw[ah] at aT; cases aT),inv.ext.trans e,fun b af mR=>by rw[b5 _ _ _ _ (by omega)]; exact inv.rC b af mR,r,?_,fun j dG dT tw nq ai=>?_⟩ Ip
     ·rw[Kq h4 av aL];have BX:iP N (w.alloc (.cells arr t)) R (gc k) (bB μ (hb i) (some ⟨w.heap.size,0,arr.size⟩)) (uo ops val σ dm) a:=⟨inv.yf.size,inv.yf.defers,fun gT=>(inv.yf.val gT).nk e⟩
      exact BX.put (qZ i o av) ao
     ·obtain⟨jW,xh⟩:=I2 j ai;rw[b5 _ _ _ _ (fun aT=>jW (Ie j i dG o dT av tw eY nq ah aT))];exact inv.F3 j dG dT tw nq xh
    | g3=>
     obtain⟨q,aN,rfl⟩:=zf i o av eY ah;have vx:q=k:=by
      have ae:¬ q<k:=fun aT=>by
       have:=(inv.done q aN).2 aT;rw[km] at this; cases this
      rcases ax1 k q with lh | vk
      ·have iS:k<m:=by omega
       have:=Nt (ak k) (lk k q iS aN lh);have:=(inv.done k iS).1 this;omega
      ·omega
     subst vx;refine xd q o aN av R B w μ a o _ Q rfl inv.rel VM c9 fun v w' μ' e r ao=>?_
     obtain⟨bt,dj⟩:=(q2 q aN).rel r;have er:=e.trans bt;refine aR _ (q+1) _ w' μ' ⟨I9,It,by omega,fun q' gN=>?_,inv.ext.trans er.toExt0,fun b af mR=>er.rC b (ayy af inv.ext.n) (inv.rC b af mR),dj,?_,fun j dG dT tw nq ai=>?_⟩ Ip
     ·rw[y2 _ _ _ aL];by_cases vy:q'=q
      ·subst vy; simp
      ·rw[if_neg (fun aT=>vy (sd q' q gN aN aT)),inv.done q' gN];omega
     ·rw[Kq h4 av aL];exact (inv.yf.ext er).put (qZ _ o av) (ao.ext bt)
     ·have aC:=inv.F3 j dG dT tw nq (I2 j ai).2;rcases Ig j dG q dT tw nq aN with af | af
      ·exact e.rC _ af aC
      ·exact r.lX _ af
 have ahf:Inv P ops val σ W cls m ak gc hb N R B g9 h uy (Array.replicate ops.size false) 0 a0 g9.drew uy:=by
  have aF:∀ i,(Array.replicate ops.size false).getD i false=false:=by
   intro i;rw[axj,aza];split<;>rfl
  refine⟨by simp,(fun i o e _ ay _ _=>by rw[aF] at ay; cases ay),ax2 _,(fun q aN=>by rw[aF]; simp),TX.toExt0,fun b af mR=>mR,sQ,?_,fun i o av eY ah _=>?_⟩
  ·have bW:uo ops val σ (Array.replicate ops.size false)=σ:=by
    funext t;unfold uo;cases aP:kA ops t with
    | none=>rfl
    | some i=>simp only[aF]; simp
   rw[bW];exact s0.ext TX
  ·obtain⟨mk,aC,B5,pQ,iQ⟩:=pT i o av eY ah;exact oB.lX _ pQ
 exact key _ _ 0 a0 g9.drew uy ahf (by simp)
theorem Gr (fO:P.follows .mixedOrders=true) (ir:∀ g,(G g).closed=true) {j:J} (ai:dJ P G j) :yJ P G j:=aoC (aed fO ir) ai
end

section
variable {P:Program} {G:Nat->U}
theorem Pb {aB ek:Operand->U} (ps:Array (Nat × Operand)) (h:∀ x∈(ps.toList.map (·.2)),aB x=ek x) :(ps.toList.map fun p=>(p.1,aB p.2))=(ps.toList.map fun p=>(p.1,ek p.2)) :=
 ayi fun p au=>by rw[h p.2 (axi.2 ⟨p,au,rfl⟩)]
theorem OJ {aB ek:Operand->U} (xs:Array Operand) (h:∀ x∈xs,aB x=ek x) :xs.toList.map aB=xs.toList.map ek:=
 ayi fun x ag=>h x (by simpa using ag)
theorem O2 {aB ek:Operand->U} (o:Option Operand) (h:∀ x∈o.toArray,aB x=ek x) :o.map aB=o.map ek:=by
 cases o with
 | none=>rfl
 | some x=>simp[h x (by simp)]
theorem P7 {aB ek:Operand->U} (h:aO) (op:Op) (ag:∀ x∈op.operands,aB x=ek x) :c4 P h aB op=c4 P h ek op:=by
 cases op<;>simp only[Op.operands] at ag<;>try rfl
 case build t ps=>simp only[c4]; rw[Pb ps (fun x hm=>ag x (by simpa using hm))]
 case buildSlice t n ps=>simp only[c4]; rw[Pb ps (fun x hm=>ag x (by simpa using hm))]
 case makeFunc fn first gL=>
  cases fn<;>simp only[c4];rw[OJ first (fun x hm=>ag x (by simp[hm])),OJ gL (fun x hm=>ag x (by simp[hm]))]
 case slice t x cK ay cL=>
  simp only[c4];rw[ag x (by simp),O2 cK (fun y hm=>ag y (by simp at hm ⊢; simp[hm])),O2 ay (fun y hm=>ag y (by simp at hm ⊢; simp[hm])),O2 cL (fun y hm=>ag y (by simp at hm ⊢; simp[hm]))]
 case call c=>
  have aE:c.args.toList.map aB=c.args.toList.map ek:=OJ c.args (fun x hm=>ag x (by simp[Call.operands,hm]));simp only[c4,wG,aE];cases ah:c.callee with
  | value f=>dsimp only; rw[ag f (by simp[Call.operands,ah])]
  | invoke x name=>dsimp only; rw[ag x (by simp[Call.operands,ah])]
  | _=>rfl
 case makeMap t r=>
  cases r with
  | none=>rfl
  | some x=>simp only[c4]; rw[ag x (by simp)]
 case next it b=>
  cases b with
  | false=>rfl
  | true=>simp only[c4]; rw[ag it (by simp)]
 all_goals (simp only[c4]; simp_all)
theorem alc {aB ek:Operand->U} (op:Op) (ag:∀ x∈op.operands,aB x=ek x) :ow P aB op=ow P ek op:=by
 cases op<;>simp only[Op.operands] at ag<;>try rfl
 case box t x=>simp only[ow]; rw[ag x (by simp)]
 case buildSlice t n ps=>simp only[ow]; rw[Pb ps (fun x hm=>ag x (by simpa using hm))]
 case makeSlice t l c=>simp only[ow]; rw[ag l (by simp),ag c (by simp)]
theorem aeF {σ bG:Nat->U} {h h' : aO} {v:U} {op:Op} (ag:∀ x∈op.operands,c2 G σ x=c2 G bG x) (am:dJ P G (.op op σ h v h')) :dJ P G (.op op bG h v h') :=by
 generalize ai:J.op op σ h v h'=j at am
 induction am generalizing v h'<;>cases ai
 case JP ak=>exact .JP (by rw[<-P7 h op ag]; exact ak)
 case Cu=>exact .Cu (by rw[<-P7 h op ag]; assumption) (by assumption)
 case KI=>exact .KI (by first | (rename_i aR; exact aR rfl) | (rename_i aR _; exact aR rfl) | (rename_i aR _ _; exact aR rfl)) (by assumption) (by assumption)
inductive bR where
 | skip (i:Nat)
 | pure (i:Nat) (v:U)
 | new (i:Nat) (v:U) (cs:List U)
 | g3 (i:Nat) (v:U) (ad:aO)
def bR.idx:bR->Nat
 | .skip i | .pure i _ | .new i _ _ | .g3 i _ _=>i
def bR.val:bR->U
 | .skip _=>gU
 | .pure _ v | .new _ v _ | .g3 _ v _=>v
def bR.j3:bR->Bool
 | .g3 ..=>true
 | _=>false
def bR.vL:bR->Bool
 | .skip _=>true
 | _=>false
def bR.cls:bR->GV
 | .skip _ | .pure ..=>.pure
 | .new ..=>.new
 | .g3 ..=>.g3
def bR.cs:bR->List U
 | .new _ _ cs=>cs
 | _=>[]
structure oR where
 σ:Nat->U
 h:aO
def yX (ops:Array Oper) (i:Nat) :Option Tmp:=(ops[i]?).bind (·.dst)
def rl (h:aO) :bR->aO
 | .skip _ | .pure ..=>h
 | .new _ _ cs=>h.push (.cells cs.length cs)
 | .g3 _ _ ad=>ad
def mY (ops:Array Oper) (s:oR) (t:bR) :oR:=⟨h1 s.σ (yX ops t.idx) t.val,rl s.h t⟩
def hl (ops:Array Oper) (s0:oR) (tr:List bR) (p:Nat) :oR:=(tr.take p).foldl (mY ops) s0
theorem CP {ops:Array Oper} {s0:oR} {tr:List bR} {p:Nat} {t:bR} (h:tr[p]? = some t) :hl ops s0 tr (p+1)=mY ops (hl ops s0 tr p) t:=by
 unfold hl;have aL:p<tr.length:=(awQ.1 h).1;rw[List.take_succ_eq_append_getElem aL,ayE];have:tr[p]=t:=(awQ.1 h).2;simp[this]
def yK (P:Program) (G:Nat->U) (ops:Array Oper) (s:oR) :bR->Prop
 | .skip i=>∃ o,ops[i]? = some o/\lE ops s.σ o=some false
 | .pure i v=>∃ o,ops[i]? = some o/\lE ops s.σ o=some true
 | .new i v cs=>∃ o mk,ops[i]? = some o/\lE ops s.σ o=some true/\ow P (c2 G s.σ) o.op=some (cs,mk)/\v=mk s.h.n
 | .g3 i v ad=>∃ o,ops[i]? = some o/\lE ops s.σ o=some true/\dJ P G (.op o.op s.σ s.h v ad)/\s.h.n<=ad.n
def KX (P:Program) (G:Nat->U) (ops:Array Oper) (s:oR) (h:aO) :bR->Prop
 | .pure i v=>∀ o,ops[i]? = some o->c4 P h (c2 G s.σ) o.op=some (.val v h)
 | .new _ _ cs=>h.f s.h.n=.cells cs.length cs
 | _=>True
structure AH (ops:Array Oper) (pre:Nat->Nat->Bool) (tr:List bR) :Prop where
 h4:uz ops pre
 all:∀ i,i<ops.size->∃ (p:Nat) (t:bR),tr[p]? = some t/\t.idx=i
 inj:∀ (p cv:Nat) (t gT:bR),tr[p]? = some t->tr[cv]? = some gT->t.idx=gT.idx->p=cv
 Kf:∀ (p:Nat) (t:bR),tr[p]? = some t->t.idx<ops.size
 aaR:∀ (p cv:Nat) (t gT:bR),tr[p]? = some t->tr[cv]? = some gT->p<cv->pre t.idx gT.idx=false
 eager:∀ (p cv:Nat) (t gT:bR),tr[p]? = some t->tr[cv]? = some gT->p<cv->t.j3=true->pre gT.idx t.idx=true
structure KY (P:Program) (G:Nat->U) (ops:Array Oper) (pre:Nat->Nat->Bool) (s0:oR) (tr:List bR) :Prop where
 step:∀ (p:Nat) (t:bR),tr[p]? = some t->yK P G ops (hl ops s0 tr p) t
 still:∀ (q:Nat),(q=tr.length\/∃ t:bR,tr[q]? = some t/\t.j3=true)->∀ (p:Nat) (t:bR),p<q->tr[p]? = some t->
  (∀ (cv:Nat) (gT:bR),cv<q->tr[cv]? = some gT->gT.j3=true->pre gT.idx t.idx=false)->KX P G ops (hl ops s0 tr p) (hl ops s0 tr q).h t
def eo (tr:List bR) (i:Nat) :Nat:=tr.findIdx fun t=>t.idx == i
theorem z9 {ops:Array Oper} {pre:Nat->Nat->Bool} {tr:List bR} (gS:AH ops pre tr) {i:Nat} (ay:i<ops.size) :∃ t,tr[eo tr i]? = some t/\t.idx=i:=by
 obtain⟨p,t,au,aX⟩:=gS.all i ay;have aL:p<tr.length:=(awQ.1 au).1;have iv:∃ x∈tr,(x.idx == i)=true:=⟨t,awY au,by simpa using aX⟩
 have BH:eo tr i<tr.length:=List.findIdx_lt_length_of_exists iv;have:=List.findIdx_getElem (w:=BH);exact⟨tr[eo tr i],by simp[BH],by unfold eo; simpa using this⟩
theorem JV {ops:Array Oper} {pre:Nat->Nat->Bool} {tr:List bR} (gS:AH ops pre tr) {p:Nat} {t:bR} (au:tr[p]? = some t) :eo tr t.idx=p:=by
 obtain⟨gT,ad,ae⟩:=z9 gS (gS.Kf p t au);exact gS.inj _ _ _ _ ad au ae
theorem aaf {ops:Array Oper} {pre:Nat->Nat->Bool} {tr:List bR} (gS:AH ops pre tr) (s0:oR) :∀ p,p<=tr.length->∀ t,
  (hl ops s0 tr p).σ t=match kA ops t with | some j=>(if eo tr j<p then ((tr[eo tr j]?).map bR.val).getD .bad else s0.σ t) | none=>s0.σ t:=by
 intro p
 induction p with
 | zero=>
  intro _ t;simp only[hl,ayb,List.foldl_nil];cases kA ops t<;>simp
 | succ p aR=>
  intro au t;have aL:p<tr.length:=by omega
  have fG:tr[p]? = some tr[p] :=awT aL;rw[CP fG];simp only[mY];have EY:=aR (by omega) t;have ny:=JV gS fG;have aif:=gS.Kf p _ fG;have iT:ops[tr[p].idx]? = some ops[tr[p].idx] :=by simp[aif]
  cases bg:yX ops tr[p].idx with
  | none=>
   simp only[h1,EY];cases aP:kA ops t with
   | none=>rfl
   | some j=>
    simp only;obtain⟨o,av,Nk⟩:=AC aP;have bY:eo tr j≠p:=by
     intro aT;obtain⟨Qh,ad,ae⟩:=z9 gS ((axl.1 av).1);rw[aT,fG] at ad;cases ad;rw[<-ae] at av;simp only[yX,av,ayG] at bg;rw[Nk] at bg; cases bg
    by_cases lh:eo tr j<p
    ·rw[if_pos lh,if_pos (by omega)]
    ·rw[if_neg lh,if_neg (by omega)]
  | some d=>
   simp only[h1];by_cases aX:t=d
   ·subst aX;have qZ:ops[tr[p].idx].dst=some t:=by simpa [yX,iT] using bg
    rw[hV,gS.h4.one _ _ t iT qZ];simp[ny,fG]
   ·rw[b5 _ _ _ _ aX,EY];cases aP:kA ops t with
    | none=>rfl
    | some j=>
     simp only;obtain⟨o,av,Nk⟩:=AC aP;have bY:eo tr j≠p:=by
      intro aT;obtain⟨Qh,ad,ae⟩:=z9 gS ((axl.1 av).1);rw[aT,fG] at ad;cases ad;rw[<-ae] at av;simp only[yX,av,ayG] at bg;rw[Nk] at bg; cases bg;exact aX rfl
     by_cases lh:eo tr j<p
     ·rw[if_pos lh,if_pos (by omega)]
     ·rw[if_neg lh,if_neg (by omega)]
theorem amr {ops:Array Oper} {pre:Nat->Nat->Bool} (h4:uz ops pre) (c7:∀ (i:Nat) (o:Oper) (e:Edge),ops[i]? = some o->e∈o.after->Region.binds .any e=true->∃ dG,ops[e.on]? = some dG) :∀ (i:Nat) (o:Oper),ops[i]? = some o->∀ j,pre i j=true->j<i:=by
 intro i
 induction i using Nat.strongRecOn with
 | _ i aR=>
  intro o av j ai;obtain⟨e,am,af,oa⟩:=h4.chain i o j av ai;have aL:=h4.DJ i o e av am af;rcases oa with rfl | oa
  ·exact aL
  ·obtain⟨dG,dT⟩:=c7 i o e av am af;have:=aR e.on aL dG dT j oa;omega
theorem alo {ops:Array Oper} {pre:Nat->Nat->Bool} (h4:uz ops pre) (i:Nat) (o:Oper) (av:ops[i]? = some o) (au:pre i i=true) :False:=by
 have:=amr h4 (fun i o e av am af=>by
  have ad:=h4.DJ i o e av am af;have ae:=(axl.1 av).1;exact⟨ops[e.on]'(by omega),by simp⟩) i o av i au
 omega
theorem T4 {ops:Array Oper} {pre:Nat->Nat->Bool} {tr:List bR} (gS:AH ops pre tr) (s0:oR) {i:Nat} {o:Oper} (av:ops[i]? = some o) {t:Nat} (aX:t∈o.looksAt ops) :
  n1 ops pre (fun j=>((tr[eo tr j]?).map bR.val).getD .bad) s0.σ i o t=(hl ops s0 tr (eo tr i)).σ t:=by
 have ay:i<ops.size:=(axl.1 av).1;obtain⟨dt,ad,ae⟩:=z9 gS ay;have dN:eo tr i<=tr.length:=ayz (awQ.1 ad).1;rw[aaf gS s0 _ dN];unfold n1;rw[if_pos (by simpa using aX)];cases aP:kA ops t with
 | none=>rfl
 | some j=>
  simp only;obtain⟨Yq,ahZ,_⟩:=AC aP;obtain⟨Qh,aj,aD⟩:=z9 gS ((axl.1 ahZ).1);have key:pre i j=true<->eo tr j<eo tr i:=by
   constructor
   ·intro au;rcases ayc (eo tr j) (eo tr i) with h | h | h
    ·exact h
    ·exfalso;rw[h,ad] at aj;cases aj;have hf:i=j:=by rw[<-ae,<-aD]
     subst hf;exact alo gS.h4 i o av au
    ·have:=gS.aaR _ _ _ _ ad aj h;rw[ae,aD] at this;rw[this] at au; cases au
   ·intro aL;rcases gS.h4.acc i o t j av aX aP with aT | aT | rfl
    ·exact aT
    ·have:=gS.aaR _ _ _ _ aj ad aL;rw[ae,aD] at this;rw[this] at aT; cases aT
    ·omega
  by_cases au:pre i j=true
  ·rw[if_pos au,if_pos (key.1 au)]
  ·rw[if_neg au,if_neg (fun aT=>au (key.2 aT))]
def fb (tr:List bR) :List Nat:=(List.range tr.length).filter fun p=>((tr[p]?).map bR.j3).getD false
theorem JF {tr:List bR} {p:Nat}:p∈fb tr<->∃ t,tr[p]? = some t/\t.j3=true:=by
 unfold fb;rw[ax0,axz];constructor
 ·rintro⟨ad,ae⟩;refine⟨tr[p],by simp[ad],?_⟩;simpa [ad] using ae
 ·rintro⟨t,ad,ae⟩;exact⟨(awQ.1 ad).1,by simp[ad,ae]⟩
theorem w1 {tr:List bR} {q q' : Nat} (aN:q<q') (gN:q'<(fb tr).length) :(fb tr).getD q 0<(fb tr).getD q' 0:=by
 have au:(fb tr).Pairwise (· < ·) :=List.Pairwise.filter _ List.pairwise_lt_range;have:=ay5.1 au q q' (by omega) gN aN;simpa [List.getD,gN,show q<(fb tr).length by omega] using this
theorem T2 {tr:List bR} {q:Nat} (aN:q<(fb tr).length) :∃ t,tr[(fb tr).getD q 0]? = some t/\t.j3=true:=by
 apply JF.1;simp[List.getD,aN]
theorem HE {tr:List bR} {p:Nat} (au:p∈fb tr) :∃ q,q<(fb tr).length/\(fb tr).getD q 0=p:=by
 obtain⟨q,aN,rfl⟩:=List.getElem_of_mem au;exact⟨q,aN,by simp[List.getD,aN]⟩
theorem FO {ops:Array Oper} {pre:Nat->Nat->Bool} {s0:oR} {tr:List bR} (mE:KY P G ops pre s0 tr) :∀ (k p:Nat),p+k<=tr.length->(hl ops s0 tr p).h.n<=(hl ops s0 tr (p+k)).h.n
 | 0,p,_=>awU _
 | k+1,p,au=>by
  have aR:=FO mE k p (by omega);have aL:p+k<tr.length:=by omega
  have fG:tr[p+k]? = some tr[p+k] :=awT aL;have ak:=mE.step _ _ fG;rw[show p+(k+1)=(p+k)+1 from rfl,CP fG];refine axy aR ?_;cases aX:tr[p+k] with
  | skip i=>simp[mY,rl]
  | pure i v=>simp[mY,rl]
  | new i v cs=>simp[mY,rl,fJ]
  | g3 i v ad=>
   rw[aX] at ak;obtain⟨o,_,_,_,aC⟩:=ak;simpa [mY,rl] using aC
theorem Mc {ops:Array Oper} {s0:oR} {tr:List bR}:∀ (k p:Nat),p+k<=tr.length->(∀ r,p<=r->r<p+k->r∉fb tr)->px (hl ops s0 tr p).h (hl ops s0 tr (p+k)).h
 | 0,p,_,_=>⟨[],rfl⟩
 | k+1,p,au,cR=>by
  obtain⟨l,al⟩:=Mc (ops:=ops) (s0:=s0) (tr:=tr) k p (by omega) (fun r ad ae=>cR r ad (by omega));have aL:p+k<tr.length:=by omega
  have fG:tr[p+k]? = some tr[p+k] :=awT aL;have bY:tr[p+k].j3≠true:=fun aT=>cR (p+k) (by omega) (by omega) (JF.2 ⟨_,fG,aT⟩)
  rw[show p+(k+1)=(p+k)+1 from rfl,CP fG];cases aX:tr[p+k] with
  | skip i=>exact⟨l,by simp[mY,rl,al]⟩
  | pure i v=>exact⟨l,by simp[mY,rl,al]⟩
  | new i v cs=>exact⟨l++[cs],by simp[mY,rl,al,x1]⟩
  | g3 i v ad=>rw[aX] at bY; exact absurd rfl bY
theorem dJ.aeb {id:Nat} {ops:Array Oper} {pre:Nat->Nat->Bool} {N:Nat} {s0:oR} {tr:List bR} (gS:AH ops pre tr) (bg:∀ (i:Nat) (o:Oper),ops[i]? = some o->kf N o.dst=true) (mE:KY P G ops pre s0 tr) :
  dJ P G (.code (.region id ops true) N s0.σ s0.h .normal (hl ops s0 tr tr.length).σ (hl ops s0 tr tr.length).h) :=by
 -- the step that carries out operation i
 have iE:∀ (i:Nat) (o:Oper),ops[i]? = some o->∃ t,tr[eo tr i]? = some t/\t.idx=i/\yK P G ops (hl ops s0 tr (eo tr i)) t:=fun i o av=>by
  obtain⟨t,ad,ae⟩:=z9 gS ((axl.1 av).1);exact⟨t,ad,ae,mE.step _ _ ad⟩
 have aqf:∀ (i:Nat) (o:Oper),ops[i]? = some o->lE ops (n1 ops pre (fun j=>((tr[eo tr j]?).map bR.val).getD .bad) s0.σ i o) o=lE ops (hl ops s0 tr (eo tr i)).σ o:=fun i o av=>by
  unfold lE;cases ax:o.guard with
  | none=>rfl
  | some fE=>
   obtain⟨j,C2⟩:=fE;simp only;cases agG:(ops[j]?).bind (·.dst) with
   | none=>rfl
   | some d=>
    simp only;rw[T4 gS s0 av (t:=d) (by simp[Oper.looksAt,ax,agG])]
 have OY:∀ (i:Nat) (o:Oper),ops[i]? = some o->∀ x∈o.op.operands,c2 G (hl ops s0 tr (eo tr i)).σ x=c2 G (n1 ops pre (fun j=>((tr[eo tr j]?).map bR.val).getD .bad) s0.σ i o) x:=fun i o av x ag=>by
  cases x with
  | tmp t=>
   refine (T4 gS s0 av (t:=t) ?_).symm;simp only[Oper.looksAt,axN,List.mem_filterMap];exact .inl ⟨.tmp t,by simpa using ag,rfl⟩
  | _=>rfl
 -- the moment ahead of effect k,or the end
 have Qj:∀ k,k<=(fb tr).length->∃ T,T<=tr.length/\(T=tr.length\/∃ t,tr[T]? = some t/\t.j3=true)/\(T=if k<(fb tr).length then (fb tr).getD k 0 else tr.length) :=fun k ar=>by
  by_cases aL:k<(fb tr).length
  ·obtain⟨t,ad,ae⟩:=T2 aL;exact⟨_,ayz (awQ.1 ad).1,.inr ⟨t,ad,ae⟩,by rw[if_pos aL]⟩
  ·exact⟨_,awU _,.inl rfl,by rw[if_neg aL]⟩
 have gO:∀ q,q<(fb tr).length->∃ t,tr[(fb tr).getD q 0]? = some t/\t.j3=true/\((tr[(fb tr).getD q 0]?).map bR.idx).getD 0=t.idx:=fun q aN=>by
  obtain⟨t,ad,ae⟩:=T2 aN;exact⟨t,ad,ae,by rw[ad]; rfl⟩
 have aan:∀ (i:Nat) (o:Oper) (t:bR),ops[i]? = some o->tr[eo tr i]? = some t->t.idx=i->t.j3=false->∀ k,Bf pre (fb tr).length (fun q=>((tr[(fb tr).getD q 0]?).map bR.idx).getD 0) i k->
   KX P G ops (hl ops s0 tr (eo tr i)) (hl ops s0 tr (if k<(fb tr).length then (fb tr).getD k 0 else tr.length)).h t:=by
  intro i o t av aX WJ bY k aF;obtain⟨iS,ML,agQ⟩:=aF;obtain⟨T,Ve,Mt,o4⟩:=Qj k iS;rw[<-o4];have ath:eo tr i<tr.length:=(awQ.1 aX).1;have ah4:eo tr i<T:=by
   by_cases aL:k<(fb tr).length
   ·rw[if_pos aL] at o4;obtain⟨ao9,ad,ae,aj⟩:=gO k aL;rw[<-o4] at ad;rcases ayc (eo tr i) T with h | h | h
    ·exact h
    ·rw[h,ad] at aX;cases aX;rw[bY] at ae; cases ae
    ·have am:=gS.eager T (eo tr i) ao9 t ad aX h ae;have:=ML k aL (by (try simp only); rw[aj,<-WJ]; exact am);omega
   ·rw[if_neg aL] at o4;omega
  refine mE.still T Mt _ t ah4 aX (fun cv gT iL Jb g6=>?_);obtain⟨q,aN,tJ⟩:=HE (JF.2 ⟨gT,Jb,g6⟩);obtain⟨awr,ad,ae,aj⟩:=gO q aN;rw[tJ,Jb] at ad;cases ad;have vx:q<k:=by
   by_cases aL:k<(fb tr).length
   ·rw[if_pos aL] at o4;rcases ax1 q k with h | h
    ·exact h
    ·rcases azw h with h | h
     ·subst h; omega
     ·have:=w1 (tr:=tr) h aN;omega
   ·omega
  cases au:pre gT.idx t.idx with
  | false=>rfl
  | true=>
   have:=agQ q aN (by (try simp only); rw[aj,<-WJ]; exact au);omega
 refine dJ.draw pre (fun j=>((tr[eo tr j]?).map bR.val).getD .bad) (fun j=>((tr[eo tr j]?).map fun t=>!t.vL).getD false) (fun j=>((tr[eo tr j]?).map bR.cls).getD .pure) (fb tr).length
  (fun q=>((tr[(fb tr).getD q 0]?).map bR.idx).getD 0) (fun k=>(hl ops s0 tr (if k<(fb tr).length then (fb tr).getD k 0 else tr.length)).h) (fun q=>(hl ops s0 tr ((fb tr).getD q 0+1)).h)
  (fun j=>(hl ops s0 tr (eo tr j)).h.n) (fun j=>((tr[eo tr j]?).map bR.cs).getD []) gS.h4 bg ?_ ?_ ?_ ?_ ?_ ?_ ?_ ?_ ?_ ?_ ?_ ?_ ?_ ?_ ?_
 ·-- h0
  obtain⟨T,Ve,Mt,o4⟩:=Qj 0 (ax2 _)
  try simp only
  rw[<-o4];have:=Mc (ops:=ops) (s0:=s0) (tr:=tr) T 0 (by omega) (fun r _ az iv=>by
   obtain⟨q,aN,tJ⟩:=HE iv;rw[if_pos (by omega)] at o4;rcases azw (ax2 q) with h | h
   ·subst h; omega
   ·have:=w1 (tr:=tr) h aN;omega)
  simpa [hl] using this
 ·simp
 ·-- hσ
  funext t;rw[aaf gS s0 _ (awU _)];cases aP:kA ops t with
  | none=>rfl
  | some j=>
   obtain⟨o,av,_⟩:=AC aP;obtain⟨Qh,ad,_⟩:=z9 gS ((axl.1 av).1);simp only;rw[if_pos ((awQ.1 ad).1)]
 ·-- heff
  intro i o av eY ah;obtain⟨t,ad,ae,_⟩:=iE i o av;simp only[ad,aw0,axI] at ah;have am:t.j3=true:=by cases t<;>simp_all [bR.cls,bR.j3]
  obtain⟨q,aN,tJ⟩:=HE (JF.2 ⟨t,ad,am⟩);exact⟨q,aN,by rw[tJ,ad]; exact ae⟩
 ·-- heff'
  intro q aN;obtain⟨t,ad,ae,aj⟩:=gO q aN;refine⟨ops[t.idx]'(gS.Kf _ _ ad),by rw[aj]; simp[gS.Kf _ _ ad],?_,?_⟩
  ·simp only[aj,JV gS ad,ad,aw0,axI];cases t<;>simp_all [bR.vL,bR.j3]
  ·simp only[aj,JV gS ad,ad,aw0,axI];cases t<;>simp_all [bR.cls,bR.j3]
 ·-- hord
  intro q q' aN gN aL;obtain⟨t,ad,ae,aj⟩:=gO q aN;obtain⟨gT,dX,e5,k9⟩:=gO q' gN;simp only[aj,k9];exact gS.eager _ _ t gT ad dX (w1 aL gN) ae
 ·-- hinj
  intro q q' aN gN am;obtain⟨t,ad,ae,aj⟩:=gO q aN;obtain⟨gT,dX,e5,k9⟩:=gO q' gN;simp only[aj,k9] at am;have:=gS.inj _ _ t gT ad dX am;rcases ayc q q' with h | h | h
  ·have:=w1 (tr:=tr) h gN; omega
  ·exact h
  ·have:=w1 (tr:=tr) h aN; omega
 ·-- hwant
  intro i o av;rw[aqf i o av];obtain⟨t,ad,ae,aj⟩:=iE i o av;simp only[ad,aw0,axI];cases t with
  | skip j=>obtain⟨dG,dT,aP⟩:=aj; simp only[bR.idx] at ae; subst ae; rw[av] at dT; cases dT; exact aP
  | pure j v=>obtain⟨dG,dT,aP⟩:=aj; simp only[bR.idx] at ae; subst ae; rw[av] at dT; cases dT; exact aP
  | new j v cs=>obtain⟨dG,mk,dT,aP,_⟩:=aj; simp only[bR.idx] at ae; subst ae; rw[av] at dT; cases dT; exact aP
  | g3 j v dX=>obtain⟨dG,dT,aP,_⟩:=aj; simp only[bR.idx] at ae; subst ae; rw[av] at dT; cases dT; exact aP
 ·-- hskip
  intro i o av eY;obtain⟨t,ad,ae,aj⟩:=iE i o av;simp only[ad,aw0,axI] at eY ⊢;cases t<;>simp_all [bR.vL,bR.val]
 ·-- hpure
  intro i o av eY ah k aF;obtain⟨t,ad,ae,aj⟩:=iE i o av;simp only[ad,aw0,axI] at eY ah;have bE:=aan i o t av ad ae (by cases t<;>simp_all [bR.cls,bR.j3]) k aF;cases t with
  | pure j v=>
   simp only[bR.idx] at ae;subst ae;have:=bE o av;rw[P7 _ _ (OY j o av)] at this;simpa [ad,bR.val] using this
  | skip j=>simp[bR.vL] at eY
  | new j v cs=>simp[bR.cls] at ah
  | g3 j v dX=>simp[bR.cls] at ah
 ·-- hnew
  intro i o av eY ah;obtain⟨t,ad,ae,aj⟩:=iE i o av;simp only[ad,aw0,axI] at eY ah;cases t with
  | new j v cs=>
   obtain⟨dG,mk,dT,_,aC,ao⟩:=aj;simp only[bR.idx] at ae;subst ae;rw[av] at dT; cases dT;rw[alc _ (OY j o av)] at aC;refine⟨mk,by simpa [ad,bR.cs] using aC,by simpa [ad,bR.val] using ao,?_,fun k aF=>?_⟩
   ·have dN:eo tr j<=tr.length:=ayz (awQ.1 ad).1;have:=FO mE (eo tr j) 0 (by omega);simpa [hl] using this
   ·have bE:=aan j o _ av ad rfl rfl k aF;simpa [KX,ad,bR.cs] using bE
  | skip j=>simp[bR.vL] at eY
  | pure j v=>simp[bR.cls] at ah
  | g3 j v dX=>simp[bR.cls] at ah
 ·-- hbid
  intro i j o dG av dT asJ tw fF nq af;have UN:∀ (i:Nat) (o:Oper),ops[i]? = some o->((tr[eo tr i]?).map bR.cls).getD .pure=.new->∀ p,eo tr i<p->p<=tr.length->(hl ops s0 tr (eo tr i)).h.n<(hl ops s0 tr p).h.n:=by
   intro i o av ah p au fv;obtain⟨t,ad,ae,_⟩:=iE i o av;simp only[ad,aw0,axI] at ah;have aD:=FO mE (p - (eo tr i+1)) (eo tr i+1) (by omega);rw[show eo tr i+1+(p - (eo tr i+1))=p by omega,CP ad] at aD;cases t with
   | new j v cs=>simp only[mY,rl,fJ] at aD; omega
   | skip j=>simp[bR.cls] at ah
   | pure j v=>simp[bR.cls] at ah
   | g3 j v dX=>simp[bR.cls] at ah
  obtain⟨t,ad,ae,_⟩:=iE i o av;obtain⟨gT,dX,e5,_⟩:=iE j dG dT;have al:=(awQ.1 ad).1;have dx:=(awQ.1 dX).1;rcases ayc (eo tr i) (eo tr j) with h | h | h
  ·have:=UN i o av fF _ h (ayz dx); (try simp only at af); omega
  ·rw[h,dX] at ad; cases ad; rw[<-ae,<-e5]
  ·have:=UN j dG dT nq _ h (ayz al); (try simp only at af); omega
 ·-- hbid'
  intro i o q av eY ah aN;obtain⟨t,ad,ae,_⟩:=iE i o av;obtain⟨qj,aK,aW,a6⟩:=gO q aN;simp only[ad,aw0,axI] at ah;have al:=(awQ.1 ad).1;have dx:=(awQ.1 aK).1;simp only[if_pos aN];rcases ayc (eo tr i) ((fb tr).getD q 0) with h | h | h
  ·left;have aD:=FO mE ((fb tr).getD q 0 - (eo tr i+1)) (eo tr i+1) (by omega);rw[show eo tr i+1+((fb tr).getD q 0 - (eo tr i+1))=(fb tr).getD q 0 by omega,CP ad] at aD;cases t with
   | new j v cs=>simp only[mY,rl,fJ] at aD; omega
   | skip j=>simp[bR.cls] at ah
   | pure j v=>simp[bR.cls] at ah
   | g3 j v dX=>simp[bR.cls] at ah
  ·rw[h,aK] at ad; cases ad;cases t<;>simp_all [bR.cls,bR.j3]
  ·right;have aD:=FO mE (eo tr i - ((fb tr).getD q 0+1)) ((fb tr).getD q 0+1) (by omega)
   rwa [show (fb tr).getD q 0+1+(eo tr i - ((fb tr).getD q 0+1))=eo tr i by omega] at aD
 ·-- hgrow
  intro q aN;obtain⟨qj,aK,aW,a6⟩:=gO q aN;have dx:=(awQ.1 aK).1;obtain⟨T,Ve,Mt,o4⟩:=Qj (q+1) (by omega)
  try simp only
  rw[<-o4];have aL:(fb tr).getD q 0<T:=by
   by_cases h:q+1<(fb tr).length
   ·rw[if_pos h] at o4;have:=w1 (tr:=tr) (show q<q+1 by omega) h;omega
   ·rw[if_neg h] at o4; omega
  have:=Mc (ops:=ops) (s0:=s0) (tr:=tr) (T - ((fb tr).getD q 0+1)) ((fb tr).getD q 0+1) (by omega) (fun r kQ mm iv=>by
   obtain⟨q',gN,tJ⟩:=HE iv;have vy:q<q':=by
    rcases ayc q q' with h | h | h
    ·exact h
    ·subst h; omega
    ·have:=w1 (tr:=tr) h aN; omega
   by_cases h:q+1<(fb tr).length
   ·rw[if_pos h] at o4;rcases azw (show q+1<=q' from vy) with h' | h'
    ·subst h'; omega
    ·have:=w1 (tr:=tr) h' gN; omega
   ·omega)
  rwa [show (fb tr).getD q 0+1+(T - ((fb tr).getD q 0+1))=T by omega] at this
 ·-- hcall
  intro q o aN av;obtain⟨qj,aK,aW,a6⟩:=gO q aN;have ny:=JV gS aK;simp only[a6] at av ⊢;have ak:=mE.step _ _ aK;cases qj with
  | g3 j v ad=>
   obtain⟨dG,dT,_,am,_⟩:=ak;simp only[bR.idx] at av ny ⊢;rw[av] at dT; cases dT;have lQ:=OY j o av;rw[ny] at lQ;have:=aeF lQ am;simp only[ny,aK,if_pos aN,aw0,axI,bR.val];rw[CP aK];exact this
  | skip j=>simp[bR.j3] at aW
  | pure j v=>simp[bR.j3] at aW
  | new j v cs=>simp[bR.j3] at aW
end
abbrev hG:=cE U
def look (s:hG) (t:Nat) :U:=match s.get t with | some v=>v | none=>gU
theorem XY (s:hG) (t:Nat) (v:U) :look (s.set t v)=bB (look s) t v:=by
 funext u;simp only[look,cE.w6,bB];by_cases h:u=t
 ·simp[h]
 ·simp[h]
def F7 (s:hG) (dst:Option Tmp) (v:U) :hG:=match dst with | some d=>s.set d v | none=>s
theorem Jw (s:hG) (dst:Option Tmp) (v:U) :look (F7 s dst v)=h1 (look s) dst v:=by
 cases dst with
 | none=>rfl
 | some d=>exact XY s d v
def Cs:Nat->hG->List U->hG
 | _,s,[]=>s
 | k,s,v::vs=>Cs (k+1) (s.set k v) vs
theorem XX:∀ (vs:List U) (k:Nat) (s:hG),look (Cs k s vs)=fun t=>if k<=t/\t<k+vs.length then vs.getD (t - k) gU else look s t
 | [],k,s=>by funext t; simp only[Cs,axB]; rw[if_neg (by omega)]
 | v::vs,k,s=>by
  funext t;rw[Cs,XX vs (k+1),XY];simp only[axa,bB];by_cases ad:k+1<=t/\t<k+1+vs.length
  ·rw[if_pos ad,if_pos (by omega),show t - k=(t - (k+1))+1 by omega];simp
  ·rw[if_neg ad];by_cases ae:t=k
   ·subst ae; rw[if_pos rfl,if_pos (by omega)]; simp
   ·rw[if_neg ae,if_neg (by omega)]
def CU (m i:Nat) :Bool:=Nat.testBit m i
def w0 (ms:List Nat) :List Edge->Nat
 | []=>0
 | e::es=>match Region.binds .any e with
  | true=>Nat.lor (Nat.lor (2 ^ e.on) (ms.getD e.on 0)) (w0 ms es)
  | false=>w0 ms es
def Ya (ms:List Nat) :List Oper->List Nat
 | []=>ms
 | o::os=>Ya (ms++[w0 ms o.after.toList]) os
def jm (ops:Array Oper) :List Nat:=Ya [] ops.toList
def qc (ms:List Nat) (i j:Nat) :Bool:=CU (ms.getD i 0) j
def lq:Op->Bool
 | .move _ | .assign _ | .pick .. | .alloc _ | .box .. | .build .. | .buildSlice .. | .load .. | .nilCheck _ | .binOp .. | .unOp .. | .convert .. | .makeInterface .. | .makeFunc .. | .makeSlice .. | .slice .. | .fieldAddr .. | .field .. | .indexAddr .. | .index .. | .extract ..=>false
 | .call c=>match c.callee with
  | .builtin .len | .builtin .cap | .builtin .min | .builtin .max=>false
  | _=>true
 | _=>true
def ajy:Op->Bool
 | .move _ | .assign _ | .pick .. | .build .. | .load .. | .nilCheck _ | .binOp .. | .unOp .. | .convert .. | .makeInterface .. | .makeFunc .. | .slice .. | .fieldAddr .. | .field .. | .indexAddr .. | .index .. | .extract ..=>true
 | .call c=>match c.callee with
  | .builtin .len | .builtin .cap | .builtin .min | .builtin .max=>true
  | _=>false
 | _=>false
def Pd (done:Nat) (g3:Bool) :Nat->List Nat->List Oper->Option Nat
 | i,m::ms,o::os=>match !CU done i&&Nat.beq (Nat.land m done) m&&(lq o.op == g3) with
  | true=>some i
  | false=>Pd done g3 (i+1) ms os
 | _,_,_=>none
def PU (ms:List Nat) (os:List Oper) :Nat->Nat->List Nat
 | 0,_=>[]
 | k+1,done=>match Pd done false 0 ms os with
  | some i=>i::PU ms os k (Nat.lor done (2 ^ i))
  | none=>match Pd done true 0 ms os with
   | some i=>i::PU ms os k (Nat.lor done (2 ^ i))
   | none=>[]
def fR (ms:List Nat) (ops:Array Oper) :List Nat:=PU ms ops.toList ops.size 0
def ju (p:Nat->Oper->Bool) :Nat->List Oper->Bool
 | _,[]=>true
 | i,o::os=>p i o&&ju p (i+1) os
theorem Q7 {p:Nat->Oper->Bool}:∀ (l:List Oper) (i:Nat),ju p i l=true->∀ (j:Nat) (o:Oper),l[j]? = some o->p (i+j) o=true
 | [],i,_,j,o,h=>by simp at h
 | x::l,i,h,j,o,ai=>by
  simp only[ju,awZ] at h;cases j with
  | zero=>simp only[axh,Option.some.injEq] at ai; subst ai; exact h.1
  | succ j=>
   simp only[axG] at ai;have:=Q7 l (i+1) h.2 j o ai
   rwa [show i+1+j=i+(j+1) by omega] at this
def LL (t:Nat) (o:Oper) :Bool:=match o.dst with | some d=>Nat.beq d t | none=>false
def AB (t:Nat) :Nat->List Oper->Option Nat
 | _,[]=>none
 | i,o::os=>match LL t o with
  | true=>some i
  | false=>AB t (i+1) os
def LK (ms:List Nat) (ops:Array Oper) :Bool:=
 ju (fun i o=>
  Nat.beq (ms.getD i 0) (w0 ms o.after.toList) &&
  (o.after.toList.all fun e=>!Region.binds .any e||Nat.blt e.on i) &&
  (match o.dst with | some d=>(match AB d 0 ops.toList with | some j=>Nat.beq j i | none=>false) | none=>true) &&
  ((o.looksAt ops).all fun t=>match AB t 0 ops.toList with | some j=>qc ms i j||qc ms j i||Nat.beq j i | none=>true)) 0 ops.toList &&
 Region.noSelect ops
def JQ (ms:List Nat) :List Nat->Bool
 | []=>true
 | i::r=>(r.all fun j=>!Nat.beq i j&&!qc ms i j)&&JQ ms r
def O5 (ms:List Nat) (ops:Array Oper) (ord:List Nat) :Bool:=
 LK ms ops&&JQ ms ord&&Nat.beq ord.length ops.size&&(ord.all fun i=>Nat.blt i ops.size)&&(List.range ops.size).all fun i=>ord.contains i
structure abT where
 t:bR
 s:hG
 h:aO
section
variable (P:Program) (G:Nat->U)
end
theorem LQ (ms:List Nat) (j:Nat) :∀ (es:List Edge),CU (w0 ms es) j=true->∃ e∈es,Region.binds .any e=true/\(e.on=j\/qc ms e.on j=true)
 | [],h=>by simp[w0,CU] at h
 | e::es,h=>by
  unfold w0 at h;cases af:Region.binds .any e with
  | false=>
   rw[af] at h;obtain⟨fr,ad,ae⟩:=LQ ms j es h;exact⟨fr,azn _ ad,ae⟩
  | true=>
   rw[af] at h;simp only[CU] at h;have h' : Nat.testBit ((2 ^ e.on ||| ms.getD e.on 0) ||| w0 ms es) j=true:=h;rw[Nat.testBit_or,Nat.testBit_or,ayN,ayN,Nat.testBit_two_pow] at h';rcases h' with (h' | h') | h'
   ·exact⟨e,azx,af,.inl (by simpa using h')⟩
   ·exact⟨e,azx,af,.inr h'⟩
   ·obtain⟨fr,ad,ae⟩:=LQ ms j es h';exact⟨fr,azn _ ad,ae⟩
theorem abz (t:Nat) :∀ (l:List Oper) (i:Nat),AB t i l=((List.range l.length).find? fun j=>match l[j]? with | some o=>o.dst == some t | none=>false).map (·+i)
 | [],i=>by simp[AB]
 | o::l,i=>by
  unfold AB;have agF:LL t o=(o.dst == some t) :=by
   unfold LL;cases o.dst with
   | none=>rfl
   | some d=>
    by_cases h:d=t
    ·subst h; simp
    ·have:Nat.beq d t=false:=kt h;simp[this,h]
  rw[agF,axa,List.range_succ_eq_map,azm];simp only[axh];cases af:(o.dst == some t) with
  | true=>simp
  | false=>
   simp only[List.find?_map];rw[abz t l (i+1)];have:((fun j=>match (o::l)[j]? with | some o=>o.dst == some t | none=>false) ∘ Nat.succ)=fun j=>match l[j]? with | some o=>o.dst == some t | none=>false:=by
    funext j; simp
   rw[this];cases (List.range l.length).find? (fun j=>match l[j]? with | some o=>o.dst == some t | none=>false) with
   | none=>rfl
   | some j=>simp; omega
theorem aby (ops:Array Oper) (t:Nat) :AB t 0 ops.toList=kA ops t:=by
 rw[abz];unfold kA;simp only[ayd,ayK,ayW,Option.map_id_fun',id_eq];congr 1
theorem aec {ms:List Nat} {ops:Array Oper} (h:LK ms ops=true) :uz ops (qc ms) :=by
 unfold LK at h;rw[awZ] at h;obtain⟨h,ak⟩:=h;have key:∀ (i:Nat) (o:Oper),ops[i]? = some o->_:=fun i o av=>Q7 _ 0 h i o (by simpa using av)
 simp only[axV,awZ] at key;refine⟨fun i o e av am af=>?_,fun i o j av au=>?_,fun i o t av bg=>?_,fun i o t j av aX aP=>?_,ak⟩
 ·have:=(key i o av).1.1.2;rw[axx] at this;have:=this e (by simpa using am);rw[af] at this;simp only[Bool.not_true,Bool.false_or] at this;simpa [azW] using this
 ·have:=lv (key i o av).1.1.1;have iL:CU (ms.getD i 0) j=true:=au;rw[this] at iL;obtain⟨e,ad,ae⟩:=LQ ms j _ iL;exact⟨e,by simpa using ad,ae⟩
 ·have:=(key i o av).1.2;rw[bg] at this;simp only at this;rw[aby] at this;cases aP:kA ops t with
  | none=>rw[aP] at this; cases this
  | some j=>rw[aP] at this; simp only at this; rw[lv this]
 ·have:=(key i o av).2;rw[axx] at this;have:=this t aX;rw[aby,aP] at this;simp only[ayN] at this;rcases this with (ad | ad) | ad
  ·exact .inl ad
  ·exact .inr (.inl ad)
  ·exact .inr (.inr (lv ad))
theorem JR {ms:List Nat}:∀ {l:List Nat},JQ ms l=true->∀ (p cv:Nat) (i j:Nat),l[p]? = some i->l[cv]? = some j->p<cv->i≠j/\qc ms i j=false
 | [],_,p,cv,i,j,ay,_,_=>by simp at ay
 | x::l,h,p,cv,i,j,ay,ai,aL=>by
  simp only[JQ,awZ,axx] at h;cases cv with
  | zero=>omega
  | succ cv=>
   simp only[axG] at ai;cases p with
   | zero=>
    simp only[axh,Option.some.injEq] at ay;subst ay;have:=h.1 j (awY ai);simp only[ayD] at this;refine⟨fun am=>?_,this.2⟩;subst am;rw[ua rfl] at this;cases this.1
   | succ p=>
    simp only[axG] at ay;exact JR h.2 p cv i j ay ai (by omega)
section
variable {P:Program} {G:Nat->U}
structure aqI (P:Program) (G:Nat->U) (ops:Array Oper) (e:abT) :Prop where
 step:yK P G ops ⟨look e.s,e.h⟩ e.t
 pure:∀ i v,e.t=.pure i v->∃ o,ops[i]? = some o/\ajy o.op=true/\c4 P e.h (c2 G (look e.s)) o.op=some (.val v e.h)
theorem Ks {ops:Array Oper} {s0:oR} {t:bR} {tr:List bR} (p:Nat) :hl ops s0 (t::tr) (p+1)=hl ops (mY ops s0 t) tr p:=by
 simp[hl]
end

section
variable {P:Program} {G:Nat->U}
theorem CI (w:World) (R:Nat->Prop) (jg:∀ k,w.heap.size<=k->R k) :bP R w.heap.size w aO.empty (fun _=>none) where
 blk:=fun b m hm=>by cases hm
 inj:=fun b aZ m ct al=>by rw[HG] at al; cases al
 base:=fun b m al=>by rw[HG] at al; cases al
 fresh:=fun b _=>HG b
 up:=jg
 size:=awU _
 lX:=fun b _=>rfl
theorem rm (μ:cr) (k:Nat) :¬ Own aO.empty μ k:=by
 rintro⟨b,m,al,_⟩;rw[HG] at al; cases al
theorem Qk (fO:P.follows .mixedOrders=true) (ir:∀ g,(G g).closed=true) {f:FuncId} {args:List U} {r:U} {h' : aO} (am:dJ P G (.call f args aO.empty r h'))
  {w:World} {A:Nat->Prop} {vs:Array Value} (ax:∀ g,eh w A (G g) (.pointer (some ⟨g,0,none⟩))) (al:vs.size=args.length)
  (ao:∀ (j:Nat) (c:U) (v:Value),args[j]? = some c->vs[j]? = some v->eh w A c v) :
  Calls P f vs w fun e w'=>∃ v μ',e=.returned v/\gb w w'/\bP (fun k=>A k\/w.heap.size<=k) w.heap.size w' h' μ'/\aQ w' (fun k=>A k\/w.heap.size<=k) h' μ' r v:=by
 have up:∀ {c:U} {v:Value},eh w A c v->aQ w (fun k=>A k\/w.heap.size<=k) aO.empty (fun _=>none) c v:=fun ah=>ah.up (fun k _ ar=>⟨.inl ar,rm _ k⟩)
 refine (Gr fO ir am (fun k=>A k\/w.heap.size<=k) w.heap.size w (fun _=>none) vs (CI w _ fun k ar=>.inr ar) (fun g=>⟨ir g,up (ax g)⟩) al (fun j c v ai gi=>up (ao j c v ai gi))).mono ?_;rintro e w' ⟨v,μ',rfl,ex,rel,az⟩;exact⟨v,μ',rfl,⟨⟨ex.os,ex.tape,ex.output,ex.size,fun k ar=>ex.b1 k ar (rm _ k)⟩,ex.drawn⟩,rel,az⟩
theorem apb (fO:P.follows .mixedOrders=true) (ir:∀ g,(G g).closed=true) {f:FuncId} {args:List U} {h' : aO} (am:dJ P G (.call f args aO.empty (.bool true) h'))
  {w:World} {A:Nat->Prop} {vs:Array Value} (ax:∀ g,eh w A (G g) (.pointer (some ⟨g,0,none⟩))) (al:vs.size=args.length)
  (ao:∀ (j:Nat) (c:U) (v:Value),args[j]? = some c->vs[j]? = some v->eh w A c v) :
  Calls P f vs w fun e w'=>e=.returned (.bool true)/\RowKit.Below w.heap.size w w':=by
 refine (Qk fO ir am ax al ao).mono ?_;rintro e w' ⟨v,μ',rfl,af,_,az⟩;cases az;exact⟨rfl,af.toBelow⟩
end

section
variable {α:Type}
theorem yd:∀ (k k' : Nat) (t:cE α) (n:Nat) (x:α),n<k->n<k'->t.lB k n x=t.lB k' n x
 | 0,_,_,_,_,h,_=>by omega
 | _+1,0,_,_,_,_,h=>by omega
 | k+1,k'+1,t,n,x,h,h'=>by
  by_cases aJ:n=0
  ·subst aJ;cases t<;>rfl
  ·have af:Nat.beq n 0=false:=kt aJ;cases t with
   | nil=>
    unfold cE.lB;simp only[af];rw[yd k k' .nil (n / 2) x (by omega) (by omega),yd k k' .nil (n / 2 - 1) x (by omega) (by omega)]
   | node l v r=>
    unfold cE.lB;simp only[af];rw[yd k k' l (n / 2) x (by omega) (by omega),yd k k' r (n / 2 - 1) x (by omega) (by omega)]
def cE.lt:cE α->cE α | .nil=>.nil | .node l _ _=>l
def cE.rt:cE α->cE α | .nil=>.nil | .node _ _ r=>r
def cE.mid:cE α->Option α | .nil=>none | .node _ v _=>v
theorem sU (t:cE α) (x:α) :t.set 0 x=.node t.lt (some x) t.rt:=by cases t<;>rfl
theorem oF (t:cE α) (m:Nat) (x:α) :t.set (2*m+1) x=.node (t.lt.set m x) t.mid t.rt:=by
 have ad:Nat.beq (2*m+1) 0=false:=kt (by omega);have ae:Nat.beq ((2*m+1) % 2) 1=true:=ua (by omega);have aj:(2*m+1) / 2=m:=by omega
 cases t with
 | nil=>show cE.lB (2*m+1+1) .nil (2*m+1) x=_; unfold cE.lB; simp only[ad,ae,aj]; rw[yd _ (m+1) _ _ _ (by omega) (by omega)]; rfl
 | node l v r=>show cE.lB (2*m+1+1) (.node l v r) (2*m+1) x=_; unfold cE.lB; simp only[ad,ae,aj]; rw[yd _ (m+1) _ _ _ (by omega) (by omega)]; rfl
theorem oE (t:cE α) (m:Nat) (x:α) :t.set (2*m+2) x=.node t.lt t.mid (t.rt.set m x) :=by
 have ad:Nat.beq (2*m+2) 0=false:=kt (by omega);have ae:Nat.beq ((2*m+2) % 2) 1=false:=kt (by omega);have aj:(2*m+2) / 2 - 1=m:=by omega
 cases t with
 | nil=>show cE.lB (2*m+2+1) .nil (2*m+2) x=_; unfold cE.lB; simp only[ad,ae,aj]; rw[yd _ (m+1) _ _ _ (by omega) (by omega)]; rfl
 | node l v r=>show cE.lB (2*m+2+1) (.node l v r) (2*m+2) x=_; unfold cE.lB; simp only[ad,ae,aj]; rw[yd _ (m+1) _ _ _ (by omega) (by omega)]; rfl
theorem OS (n:Nat) :n=0\/(∃ m,m<n/\n=2*m+1)\/∃ m,m<n/\n=2*m+2:=by
 rcases Nat.eq_zero_or_pos n with h | h
 ·exact .inl h
 ·rcases Nat.mod_two_eq_zero_or_one n with ae | ae
  ·exact .inr (.inr ⟨n / 2 - 1,by omega,by omega⟩)
  ·exact .inr (.inl ⟨n / 2,by omega,by omega⟩)
theorem aol (n:Nat) :∀ (t:cE α) (x y:α),(t.set n x).set n y=t.set n y:=by
 induction n using Nat.strongRecOn with
 | _ n aR=>
  intro t x y;rcases OS n with rfl | ⟨m,hm,rfl⟩ | ⟨m,hm,rfl⟩
  ·rw[sU t x,sU t y,sU]; rfl
  ·rw[oF t,oF t,oF]; simp only[cE.lt,cE.mid,cE.rt,aR m hm]
  ·rw[oE t,oE t,oE]; simp only[cE.lt,cE.mid,cE.rt,aR m hm]
theorem set_comm (n:Nat) :∀ (t:cE α) (k:Nat) (x y:α),n≠k->(t.set n x).set k y=(t.set k y).set n x:=by
 induction n using Nat.strongRecOn with
 | _ n aR=>
  intro t k x y bY;rcases OS n with rfl | ⟨m,hm,rfl⟩ | ⟨m,hm,rfl⟩<;>rcases OS k with rfl | ⟨j,ai,rfl⟩ | ⟨j,ai,rfl⟩
  ·exact absurd rfl bY
  ·rw[sU t,oF,oF t,sU]; rfl
  ·rw[sU t,oE,oE t,sU]; rfl
  ·rw[oF t,sU,sU t,oF]; rfl
  ·rw[oF t,oF,oF t,oF]; simp only[cE.lt,cE.mid,cE.rt]; rw[aR m hm _ j _ _ (by omega)]
  ·rw[oF t,oE,oE t,oF]; rfl
  ·rw[oE t,sU,sU t,oE]; rfl
  ·rw[oE t,oF,oF t,oE]; rfl
  ·rw[oE t,oE,oE t,oE]; simp only[cE.lt,cE.mid,cE.rt]; rw[aR m hm _ j _ _ (by omega)]
end
abbrev ap:=List aV
def od:Nat->cE aV->ap->cE aV
 | _,t,[]=>t
 | i,t,c::cs=>od (i+1) (t.set i c) cs
def bb (l:ap) :aO:=⟨l.length,od 0 .nil l⟩
@[simp] theorem GZ (l:ap) :(bb l).n=l.length:=rfl
theorem V4:∀ (l:ap) (i:Nat) (t:cE aV) (c:aV),od i t (l++[c])=(od i t l).set (i+l.length) c
 | [],i,t,c=>rfl
 | x::l,i,t,c=>by
  simp only[axK,od,axa];rw[V4 l,show i+1+l.length=i+(l.length+1) by omega]
theorem oN (l:ap) (c:aV) :(bb l).push c=bb (l++[c]) :=by
 unfold bb aO.push;rw[V4];simp
theorem V7:∀ (l:ap) (i j:Nat) (t:cE aV) (c:aV),i<j->(od j t l).set i c=od j (t.set i c) l
 | [],_,_,_,_,_=>rfl
 | x::l,i,j,t,c,h=>by
  simp only[od];rw[V7 l i (j+1) _ c (by omega),set_comm j t i x c (by omega)]
theorem V6:∀ (l:ap) (i b:Nat) (t:cE aV) (c:aV),b<l.length->(od i t l).set (i+b) c=od i t (l.set b c)
 | [],_,_,_,_,h=>by simp at h
 | x::l,i,0,t,c,_=>by
  simp only[od,ayA,ayW];rw[V7 l i (i+1) _ c (by omega),aol]
 | x::l,i,b+1,t,c,h=>by
  simp only[od,azb];rw[<-V6 l (i+1) b _ c (by simpa using h),show i+(b+1)=i+1+b by omega]
theorem qu {l:ap} {b:Nat} (c:aV) (h:b<l.length) :(bb l).set b c=bb (l.set b c) :=by
 unfold bb aO.set;have:=V6 l 0 b .nil c h;rw[axV] at this;simp only[this,azR]
theorem V5:∀ (l:ap) (i:Nat) (t:cE aV) (b:Nat),(od i t l).get b=if i<=b/\b<i+l.length then l[b - i]? else t.get b
 | [],i,t,b=>by simp only[od,axB]; rw[if_neg (by omega)]
 | x::l,i,t,b=>by
  simp only[od,axa];rw[V5 l,cE.w6];by_cases ad:i+1<=b/\b<i+1+l.length
  ·rw[if_pos ad,if_pos (by omega),show b - i=(b - (i+1))+1 by omega,axG]
  ·rw[if_neg ad];by_cases ae:b=i
   ·subst ae; rw[if_pos rfl,if_pos (by omega)]; simp
   ·rw[if_neg ae,if_neg (by omega)]
theorem k2 (l:ap) (b:Nat) :(bb l).f b=match l[b]? with | some c=>c | none=>.none:=by
 unfold bb aO.f;simp only[V5,ax2,true_and,axV,azc];by_cases h:b<l.length
 ·rw[if_pos h]; cases l[b]?<;>rfl
 ·rw[if_neg h,aw5 (by omega)]; rfl
theorem l5 {l:ap} {b n:Nat} {cs:List U}:(bb l).f b=.cells n cs<->l[b]? = some (.cells n cs) :=by
 rw[k2];cases h:l[b]? with
 | none=>simp
 | some c=>simp
theorem cd {l:ap} {b:Nat} {c:aV} (h:l[b]? = some c) :b<l.length:=(awQ.1 h).1
def hj (l:ap) :U->Option (List U × Nat)
 | .ptr b off sz=>match l[b]? with
  | some (.cells n cs)=>if n=sz then some (cs,off) else none
  | _=>none
 | .bM cs off=>some (cs,off)
 | _=>none
def ug (n:Nat) (cs:List U) (off:Nat) :Option U:=if off+n<=cs.length then some (.aH ((cs.drop off).take n)) else none
def mD (n:Nat) (l:ap) (p v:U) :Option ap:=
 match p,v.cells with
 | .ptr b off sz,some vs=>match l[b]? with
  | some (.cells m cs)=>if m=sz/\vs.length=n/\off+n<=m then some (l.set b (.cells m (bf cs off vs))) else none
  | _=>none
 | _,_=>none
def de (l:ap) (z:Nat) :U->Option (List U × Nat)
 | .aG=>some ([],0)
 | .a1 dI es=>if z=dI then some (es.flatten,es.length) else none
 | .aq dI b off len _ sz=>match l[b]? with
  | some (.cells n cs)=>if n=sz/\z=dI then some ((cs.drop off).take (len*z),len) else none
  | _=>none
 | .str s=>if z=1 then some (s.map jP,s.length) else none
 | _=>none
def ja (l:ap) (z by_:Nat) (s:U) (xs:List U) (n:Nat) :Option (U × ap) :=
 if n=0 then (match s with | .aG | .a1 .. | .aq ..=>some (s,l) | _=>none)
 else if z=0\/by_=0 then none else match s with
  | .aG=>if n*by_<=ci then some (.aq z l.length 0 n n (n*z),l++[.cells (n*z) xs]) else none
  | .aq dI b off len cap sz=>match l[b]? with
   | some (.cells m cs)=>
    if m=sz/\z=dI/\(len+n)*by_<=ci then
     if len+n<=cap then some (.aq z b off (len+n) cap sz,l.set b (.cells m (bf cs (off+len*z) xs)))
     else if off+cap*z<sz then some (.aq z l.length 0 (len+n) (len+n) ((len+n)*z),l++[.cells ((len+n)*z) ((cs.drop off).take (len*z)++xs)])
     else if off=0 then some (.aq z b 0 (len+n) (len+n) ((len+n)*z),l.set b (.cells ((len+n)*z) (cs.take (len*z)++xs)))
     else some (.aq z l.length 0 (len+n) (len+n) ((len+n)*z),l.set b .dead++[.cells ((len+n)*z) ((cs.drop off).take (len*z)++xs)])
    else none
   | _=>none
  | _=>none
def A5 (z:Nat) (l:ap) (d x:U) :Option (U × ap) :=
 match de l z x with
 | none=>none
 | some (xs,n)=>match d with
  | .aG=>some (.int .i64 0,l)
  | .aq dI b off len _ sz=>match l[b]? with
   | some (.cells m cs)=>if m=sz/\z=dI then some (.int .i64 ((min n len:Nat) :Int),l.set b (.cells m (bf cs off (xs.take (min n len*z))))) else none
   | _=>none
  | _=>none
def xL (l:ap) :U->Option (List (U × U × Nat))
 | .iY=>some []
 | .mp b=>match l[b]? with | some (.map es _)=>some es | _=>none
 | _=>none
def pC (l:ap) (x:U) :Option (List UInt8) :=match x with
 | .str s=>some s
 | x=>match de l 1 x with
  | some (cs,_)=>nV cs
  | none=>none
def cmpL (l:ap) (x y:U) :Option U:=match pC l x,pC l y with
 | some a,some b=>some (.int .i64 (oW a b))
 | _,_=>none
def vV (l:ap) (x:U) :Option (U × ap) :=match x with
 | .it b=>match l[b]? with
  | some (.iter s pos)=>match Nat.blt pos s.length with
   | true=>some (.bq [.bool true,.int .i64 pos,.int .i32 (Utf8.decode ⟨s.toArray⟩ pos).1],l.set b (.iter s (pos+(Utf8.decode ⟨s.toArray⟩ pos).2)))
   | false=>some (.bq [.bool false],l)
  | _=>none
 | _=>none
def CC (l:ap) (x:U) :Option (U × ap) :=match x with
 | .str s=>some (.it l.length,l++[.iter s 0])
 | _=>none
def FH (l:ap) (x:U) :Option U:=match x with
 | .iY=>some (.int .i64 0)
 | .mp b=>match l[b]? with | some (.map es _)=>some (.int .i64 es.length) | _=>none
 | _=>none
def wO (zero:List U) (l:ap) :U->Option ap
 | .aG=>some l
 | .a1 _ []=>some l
 | .aq z b off len _ sz=>if len=0 then some l else match l[b]? with
  | some (.cells m cs)=>if m=sz/\zero.length=z then some (l.set b (.cells m (bf cs off (dH zero len)))) else none
  | _=>none
 | _=>none
theorem Px (l:ap) (p:U) :reach (bb l) p=hj l p:=by
 cases p<;>try rfl
 rename_i b off sz;simp only[reach,hj,k2];cases l[b]? with
 | none=>rfl
 | some c=>cases c<;>rfl
theorem DE (l:ap) (z:Nat) (x:U) :contents (bb l) z x=de l z x:=by
 cases x<;>try rfl
 rename_i dI b off len cap sz;simp only[contents,de,k2];cases l[b]? with
 | none=>rfl
 | some c=>cases c<;>rfl
section
variable (P:Program)
inductive kC where
 | arr (n z:Nat)
 | aq (z:Nat)
 | str
 deriving DecidableEq
def qk (t:TypeId) :Option kC:=match P.underlying t with
 | some (.array n e)=>(cC P e).map fun z=>.arr n z
 | some (.slice e)=>(cC P e).map fun z=>.aq z
 | some .string=>some .str
 | _=>none
inductive db where
 | fX (x:Operand)
 | pick (c a b:Operand)
 | alloc (zero:List U)
 | box (x:Operand)
 | Dp (zero:List U) (ps:List (Nat × Nat × Operand))
 | rX (z:Nat) (zero:List U) (len:Nat) (ps:List (Nat × Operand))
 | ot (a:Operand)
 | mz (n:Nat) (a:Operand)
 | st (n:Nat) (a x:Operand)
 | FP (x:Operand)
 | bin (o:BinOp) (t:TypeId) (x y:Operand)
 | un (o:UnOp) (x:Operand)
 | AX (k:IntKind) (x:Operand)
 | A7 (x:Operand)
 | uP (x:Operand)
 | A6 (x:Operand)
 | z1 (t:TypeId) (x:Operand)
 | CS (t:TypeId) (z:U) (ok:Bool) (x:Operand)
 | z0 (f:FuncId) (first gL:List Operand)
 | sC (z by_:Nat) (zero:List U) (l c:Operand)
 | slice (dt:kC) (x:Operand) (cK ay cL:Option Operand)
 | qL (off:Nat) (x:Operand)
 | DT (off:Nat) (x:Operand)
 | DU (n off:Nat) (x:Operand)
 | xw (dt:kC) (x i:Operand)
 | Fr (n z:Nat) (x i:Operand)
 | Fs (n z:Nat) (x i:Operand)
 | Fw (x i:Operand)
 | ext (x:Operand) (i:Nat)
 | len (dt:kC) (x:Operand)
 | cap (dt:kC) (x:Operand)
 | app (z by_:Nat) (s x:Operand)
 | wy (z by_:Nat) (zero:List U) (s x:Operand)
 | wX (z:Nat) (d x:Operand)
 | wP (zero:List U) (x:Operand)
 | min (x y:Operand)
 | max (x y:Operand)
 | vU (x:Option Operand)
 | zV (cS:TypeId) (zero:U) (ok:Bool) (m k:Operand)
 | xP (cS:TypeId) (m k x:Operand)
 | xH (x:Operand)
 | x6 (x:Operand)
 | xT (x:Operand)
 | cj (f:FuncId) (tt x y:Operand)
 | stop
def Ck (l:ap) (cS:TypeId) (zero:U) (ok:Bool) (m k:U) :Option U:=
 match xL l m with
 | some es=>match mx P cS k with
  | false=>none
  | true=>match lJ P cS k es 0 with
   | some (some (_,v))=>some (if ok then .bq [v,.bool true] else v)
   | some none=>some (if ok then .bq [zero,.bool false] else zero)
   | none=>none
 | none=>none
def xM (l:ap) (cS:TypeId) (m k v:U) :Option ap:=
 match m with
 | .mp b=>match l[b]? with
  | some (.map es fq)=>match mx P cS k with
   | false=>none
   | true=>match lJ P cS k es 0 with
    | some (some (i,_))=>some (l.set b (.map (es.modify i fun e=>(k,v,e.2.2)) fq))
    | some none=>some (l.set b (.map (es++[(k,v,fq)]) (fq+1)))
    | none=>none
  | _=>none
 | _=>none
def Fp (f:FuncId) :U->Bool | .fn g [] []=>Nat.beq g f | _=>false
def F4 (c a b:U) :Option U:=match c with | .bool t=>some (if t then a else b) | _=>none
def z3 (x:U) :Option U:=match x with | .ptr b o s=>some (.ptr b o s) | .bM c o=>some (.bM c o) | .fn f a b=>some (.fn f a b) | _=>none
def qC (zero:List U) :List (Nat × Nat × U)->Option (List U)
 | []=>some zero
 | (off,size,v) ::r=>match v.cells with
  | some vs=>if vs.length=size/\off+size<=zero.length then qC (bf zero off vs) r else none
  | none=>none
def AY (k:IntKind) :U->Option U | .int _ n=>some (.int k (k.wrap n)) | _=>none
def HB:U->Option U | .str s=>some (.str s) | _=>none
def wK (l:ap) (x:U) :Option U:=match x with
 | .aG=>some (.str [])
 | .str _=>none
 | x=>match de l 1 x with | some (cs,_)=>(nV cs).map .str | none=>none
def wY:U->Option U | .str s=>some (.a1 1 (s.map fun b=>[jP b])) | _=>none
def sD (z by_:Nat) (zero:List U) (al:ap) (l c:U) :Option (U × ap) :=match l,c with
 | .int _ l,.int _ c=>if 0<=l/\l<=c/\c<9223372036854775808/\by_*c<=ci then
   some (.aq z al.length 0 l.toNat c.toNat (c.toNat*z),al++[.cells (c.toNat*z) (dH zero c.toNat)]) else none
 | _,_=>none
def fm (dt:kC) (x:U) (cK ay cL:Option U) :Option U:=
 match dt with
 | .arr n z=>match hc n n cK ay cL with
  | some (l,aT,m)=>match x with
   | .ptr b off sz=>if off+m*z<=sz then (if m=l then some (.a1 z []) else some (.aq z b (off+l*z) (aT - l) (m - l) sz)) else none
   | .bM cs off=>if off+n*z<=cs.length then some (.a1 z (mJ z (aT - l) (cs.drop (off+l*z)))) else none
   | _=>none
  | none=>none
 | .aq z=>match x with
  | .aq dI b off len cap sz=>if z=dI then (hc len cap cK ay cL).map fun (l,aT,m)=>if m=l then .aq z b (off+l*z) 0 0 sz else .aq z b (off+l*z) (aT - l) (m - l) sz else none
  | .a1 dI es=>if z=dI then (hc es.length es.length cK ay cL).map fun (l,aT,_)=>.a1 z ((es.drop l).take (aT - l)) else none
  | .aG=>(hc 0 0 cK ay cL).map fun _=>.aG
  | _=>none
 | .str=>match x,cL with
  | .str s,none=>(hc s.length s.length cK ay none).map fun (l,aT,_)=>.str ((s.drop l).take (aT - l))
  | _,_=>none
def DV (off:Nat) :U->Option U | .aH cs=>cs[off]? | _=>none
def Bi (n off:Nat) :U->Option U | .aH cs=>ug n cs off | _=>none
def cN (dt:kC) (x eZ:U) :Option U:=
 match eZ with
 | .int _ i=>match dt with
  | .arr n z=>if 0<=i/\i<n then nX x (i.toNat*z) else none
  | .aq z=>match x with
   | .aq dI b off len _ sz=>if z=dI/\0<=i/\i<len then some (.ptr b (off+i.toNat*z) sz) else none
   | .a1 dI es=>if z=dI/\0<=i then (es[i.toNat]?).map fun cs=>.bM cs 0 else none
   | _=>none
  | .str=>none
 | _=>none
def Ft (n z:Nat) (x eZ:U) :Option U:=match x,eZ with
 | .aH cs,.int _ i=>if 0<=i/\i<n then cs[i.toNat*z]? else none
 | _,_=>none
def Fu (n z:Nat) (x eZ:U) :Option U:=match x,eZ with
 | .aH cs,.int _ i=>if 0<=i/\i<n then ug z cs (i.toNat*z) else none
 | _,_=>none
def zN (x eZ:U) :Option U:=match x,eZ with
 | .str s,.int _ i=>if 0<=i then (s[i.toNat]?).map jP else none
 | _,_=>none
def DR (x:U) (i:Nat) :Option U:=match x with | .bq vs=>vs[i]? | _=>none
def cp (dt:kC) (x:U) :Option U:=match dt with
 | .arr n _=>some (.int .i64 n)
 | .aq _=>match x with
  | .aG=>some (.int .i64 0)
  | .aq _ _ _ len _ _=>some (.int .i64 len)
  | .a1 _ es=>some (.int .i64 es.length)
  | _=>none
 | .str=>match x with | .str s=>some (.int .i64 s.length) | _=>none
def uO (dt:kC) (x:U) :Option U:=match dt with
 | .arr n _=>some (.int .i64 n)
 | .aq _=>match x with | .aG=>some (.int .i64 0) | _=>none
 | .str=>none
def gK (l:ap) (z by_:Nat) (s x:U) :Option (U × ap) :=match de l z x with
 | none=>none
 | some (xs,n)=>ja l z by_ s xs n
def rV (l:ap) (z by_:Nat) (zero:List U) (s x:U) :Option (U × ap) :=match x with
 | .int _ n=>if 0<=n/\n<9223372036854775808/\n.toNat*by_<=ci then ja l z by_ s (dH zero n.toNat) n.toNat else none
 | _=>none
def dQ (l:ap) (x:Option U) :Option (U × ap) :=x.map fun v=>(v,l)
def bU (aB:Operand->U) (l:ap) :db->Option (U × ap)
 | .fX x=>some (aB x,l)
 | .pick c a b=>dQ l (F4 (aB c) (aB a) (aB b))
 | .alloc zero=>some (.ptr l.length 0 zero.length,l++[.cells zero.length zero])
 | .box x=>(aB x).cells.map fun cs=>(.ptr l.length 0 cs.length,l++[.cells cs.length cs])
 | .Dp zero ps=>dQ l ((qC zero (ps.map fun p=>(p.1,p.2.1,aB p.2.2))).map .aH)
 | .rX z zero len ps=>(hU (fun i=>some (i*z,z)) (dH zero len) (ps.map fun p=>(p.1,aB p.2))).map fun cs=>(.aq z l.length 0 len len (len*z),l++[.cells (len*z) cs])
 | .ot a=>dQ l ((hj l (aB a)).bind fun x=>x.1[x.2]?)
 | .mz n a=>dQ l ((hj l (aB a)).bind fun x=>ug n x.1 x.2)
 | .st n a x=>(mD n l (aB a) (aB x)).map fun l'=>(gU,l')
 | .FP x=>dQ l (z3 (aB x))
 | .bin o t x y=>dQ l (fz P o t (aB x) (aB y))
 | .un o x=>dQ l (rB o (aB x))
 | .AX k x=>dQ l (AY k (aB x))
 | .A7 x=>dQ l (HB (aB x))
 | .uP x=>dQ l (wK l (aB x))
 | .A6 x=>dQ l (wY (aB x))
 | .z1 t x=>some (.hM t (aB x),l)
 | .CS t z ok x=>dQ l (CT t z ok (aB x))
 | .z0 f a b=>some (.fn f (a.map aB) (b.map aB),l)
 | .sC z by_ zero a c=>sD z by_ zero l (aB a) (aB c)
 | .slice dt x cK ay cL=>dQ l (fm dt (aB x) (cK.map aB) (ay.map aB) (cL.map aB))
 | .qL off x=>dQ l (nX (aB x) off)
 | .DT off x=>dQ l (DV off (aB x))
 | .DU n off x=>dQ l (Bi n off (aB x))
 | .xw dt x i=>dQ l (cN dt (aB x) (aB i))
 | .Fr n z x i=>dQ l (Ft n z (aB x) (aB i))
 | .Fs n z x i=>dQ l (Fu n z (aB x) (aB i))
 | .Fw x i=>dQ l (zN (aB x) (aB i))
 | .ext x i=>dQ l (DR (aB x) i)
 | .len dt x=>dQ l (cp dt (aB x))
 | .cap dt x=>dQ l (uO dt (aB x))
 | .app z by_ s x=>gK l z by_ (aB s) (aB x)
 | .wy z by_ zero s x=>rV l z by_ zero (aB s) (aB x)
 | .wX z d x=>A5 z l (aB d) (aB x)
 | .wP zero x=>(wO zero l (aB x)).map fun l'=>(.bq [],l')
 | .min x y=>dQ l (xO (aB x) (aB y))
 | .max x y=>dQ l (vS (aB x) (aB y))
 | .vU x=>match x with
  | none=>some (.mp l.length,l++[.map [] 0])
  | some o=>match asInt (aB o) with | some _=>some (.mp l.length,l++[.map [] 0]) | none=>none
 | .zV cS zero ok m k=>dQ l (Ck P l cS zero ok (aB m) (aB k))
 | .xP cS m k x=>(xM P l cS (aB m) (aB k) (aB x)).map fun l'=>(gU,l')
 | .xH x=>dQ l (FH l (aB x))
 | .x6 x=>CC l (aB x)
 | .xT x=>vV l (aB x)
 | .cj f tt x y=>match Fp f (aB tt) with | true=>dQ l (cmpL l (aB x) (aB y)) | false=>none
 | .stop=>none
def Ln (t:TypeId) (ps:List (Nat × Operand)) :Option (List (Nat × Nat × Operand)) :=
 match P.underlying t with
 | some (.struct fs)=>if fs.toList.all fun f=>(cC P f.type).isSome then ps.mapM fun p=>(F5 P fs p.1).map fun q=>(q.1,q.2,p.2) else none
 | some (.array _ e)=>(cC P e).map fun n=>ps.map fun p=>(p.1*n,n,p.2)
 | _=>none
def wR (b:Builtin) (ts:List TypeId) (args:List Operand) :Option db:=
 match b,ts,args with
 | .len,[t],[x]=>match P.underlying t with
  | some (.map _ _)=>some (.xH x)
  | _=>(qk P t).map fun dt=>.len dt x
 | .cap,[t],[x]=>(qk P t).map fun dt=>.cap dt x
 | .append,[t,u],[s,x]=>match P.underlying u with
  | some (.int _)=>(jc P t).bind fun e=>(cC P e).bind fun z=>(k7 P e).bind fun by_=>(ik P e).bind fun zero=>
    if zero.length=z/\ux P e=some z then some (.wy z by_ zero s x) else none
  | none=>none
  | _=>(jc P t).bind fun e=>(cC P e).bind fun z=>(k7 P e).bind fun by_=>if ux P e=some z then some (.app z by_ s x) else none
 | .copy,[t,_],[d,x]=>(jc P t).bind fun e=>(cC P e).map fun z=>.wX z d x
 | .clear,[t],[x]=>match P.underlying t with
  | some (.slice e)=>(ik P e).map fun zero=>.wP zero x
  | _=>none
 | .min,_,[x,y]=>some (.min x y)
 | .max,_,[x,y]=>some (.max x y)
 | _,_,_=>none
def nY:Op->Option db
 | .move x | .assign x=>some (.fX x)
 | .pick c a b=>some (.pick c a b)
 | .alloc t=>(ik P t).map .alloc
 | .box _ x=>some (.box x)
 | .build t ps=>(ik P t).bind fun zero=>(Ln P t ps.toList).map fun q=>.Dp zero q
 | .buildSlice t len ps=>(jc P t).bind fun e=>(cC P e).bind fun z=>(ik P e).bind fun zero=>
   if zero.length=z/\len*z<=16777216 then some (.rX z zero len ps.toList) else none
 | .load t a=>match ev P t,cC P t with
  | some true,some n=>some (.mz n a)
  | some false,_=>some (.ot a)
  | _,_=>none
 | .store t a x=>(cC P t).map fun n=>.st n a x
 | .nilCheck x=>some (.FP x)
 | .binOp o t x y _=>some (.bin o t x y)
 | .unOp o _ x=>some (.un o x)
 | .convert s d x=>match P.underlying s,P.underlying d with
  | some _,some (.int k)=>some (.AX k x)
  | some (.slice e),some .string=>match P.underlying e with
   | some (.int .u8)=>some (.uP x)
   | _=>none
  | some .string,some .string=>some (.A7 x)
  | some .string,some (.slice e)=>match P.underlying e with
   | some (.int .u8)=>some (.A6 x)
   | _=>none
  | _,_=>none
 | .makeInterface t x=>match P.underlying t with
  | some (.interface _) | none=>none
  | _=>some (.z1 t x)
 | .makeFunc (.func f) a b=>some (.z0 f a.toList b.toList)
 | .makeSlice t l c=>(jc P t).bind fun e=>(cC P e).bind fun z=>(k7 P e).bind fun by_=>(ik P e).bind fun zero=>
   if zero.length=z then some (.sC z by_ zero l c) else none
 | .slice t x cK ay cL=>(qk P t).map fun dt=>.slice dt x cK ay cL
 | .fieldAddr s x f=>(y1 P s f).bind fun fd=>match cC P fd.type with
  | some (_+1)=>some (.qL fd.offset x)
  | _=>none
 | .field t x f=>(y1 P t f).bind fun fd=>match ev P fd.type,cC P fd.type with
  | some true,some n=>some (.DU n fd.offset x)
  | some false,_=>some (.DT fd.offset x)
  | _,_=>none
 | .indexAddr t x i=>match qk P t with
  | some (.arr n z)=>some (.xw (.arr n z) x i)
  | some (.aq z)=>some (.xw (.aq z) x i)
  | _=>none
 | .index t x i=>match P.underlying t with
  | some (.array n e)=>match cC P e,ev P e with
   | some z,some true=>some (.Fs n z x i)
   | some z,some false=>some (.Fr n z x i)
   | _,_=>none
  | some .string=>some (.Fw x i)
  | _=>none
 | .extract x i=>some (.ext x i)
 | .call c=>match c.callee with
  | .builtin b=>wR P b c.argTypes.toList c.args.toList
  | .value (.func f)=>match P.funcs[f]?,c.args.toList with
   | some fn,[x,y]=>if Fo fn then some (.cj f (.func f) x y) else none
   | _,_=>none
  | _=>none
 | .makeMap t r=>match P.underlying t with | some (.map _ _)=>some (.vU r) | _=>none
 | .lookup t m k ok=>match P.underlying t with | some (.map cS nj)=>(AD P nj).map fun z=>.zV cS z ok m k | _=>none
 | .mapUpdate t m k x | .insert t m k x=>match P.underlying t with | some (.map cS _)=>some (.xP cS m k x) | _=>none
 | .range t x=>match P.underlying t with | some .string=>some (.x6 x) | _=>none
 | .next it true=>some (.xT it)
 | .panic _=>some .stop
 | .typeAssert x _ t ok=>(Kw P t).map fun z=>.CS t z ok x
 | _=>none
end

section
variable {P:Program}
theorem bind_some {α kB:Type} {x:Option α} {f:α->Option kB} {y:kB}:x.bind f=some y<->∃ a,x=some a/\f a=some y:=by cases x<;>simp
theorem map_some {α kB:Type} {x:Option α} {f:α->kB} {y:kB}:x.map f=some y<->∃ a,x=some a/\f a=y:=by cases x<;>simp
theorem gZ {l l' : ap} {x:Option U} {v:U}:dQ l x=some (v,l')<->x=some v/\l'=l:=by cases x<;>simp[dQ,eq_comm]
theorem iW {α:Type} {p:Prop} [Decidable p] {x y:α}:(if p then some x else none)=some y<->p/\x=y:=by by_cases p<;>simp_all
theorem Rh {l l' : ap} {e z by_ n:Nat} {s v:U} {xs:List U} (aw:ux P e=some z) (h:ja l z by_ s xs n=some (v,l')) :wA P (bb l) e z by_ s xs n=some (v,bb l') :=by
 unfold ja at h;unfold wA;by_cases aC:n=0
 ·rw[if_pos aC] at h ⊢;cases s<;>simp at h ⊢<;>simp[h]
 ·rw[if_neg aC] at h ⊢;by_cases aJ:z=0\/by_=0
  ·rw[if_pos aJ] at h; cases h
  ·rw[if_neg aJ] at h;rw[if_neg (by simp only[aw]; simpa using aJ)];cases s<;>simp only at h ⊢<;>try (cases h; done)
   case aG=>
    by_cases az:n*by_<=ci
    ·rw[if_pos az] at h ⊢; cases h; rw[oN]; rfl
    ·rw[if_neg az] at h; cases h
   case aq dI b off len cap sz=>
    cases af:l[b]? with
    | none=>rw[af] at h; cases h
    | some c=>
     cases c<;>rw[af] at h<;>(try simp only at h)<;>try (cases h; done)
     rename_i m cs;rw[l5.2 af];simp only;by_cases ad:m=sz/\z=dI/\(len+n)*by_<=ci
     ·rw[if_pos ad] at h ⊢;by_cases ae:len+n<=cap
      ·rw[if_pos ae] at h ⊢; cases h; rw[qu _ (cd af)]
      ·rw[if_neg ae] at h ⊢;by_cases aj:off+cap*z<sz
       ·rw[if_pos aj] at h ⊢; cases h; rw[oN]; rfl
       ·rw[if_neg aj] at h ⊢;by_cases aD:off=0
        ·rw[if_pos aD] at h ⊢; cases h; rw[qu _ (cd af)]
        ·rw[if_neg aD] at h ⊢; cases h;rw[qu _ (cd af),oN]; rfl
     ·rw[if_neg ad] at h; cases h
theorem acO {t:TypeId} {ps:List (Nat × Operand)} {q:List (Nat × Nat × Operand)} (aN:Ln P t ps=some q) (aB:Operand->U) (zero:List U) (aw:ik P t=some zero) {cs:List U}
  (af:qC zero (q.map fun p=>(p.1,p.2.1,aB p.2.2))=some cs) :Dr P t (ps.map fun p=>(p.1,aB p.2))=some (.aH cs) :=by
 have fill:∀ (lZ:Nat->Option (Nat × Nat)) (ps:List (Nat × Operand)) (q:List (Nat × Nat × Operand)) (zero:List U),
   (ps.mapM fun p=>(lZ p.1).map fun q=>(q.1,q.2,p.2))=some q->qC zero (q.map fun p=>(p.1,p.2.1,aB p.2.2))=some cs->hU lZ zero (ps.map fun p=>(p.1,aB p.2))=some cs:=by
  intro lZ ps
  induction ps with
  | nil=>intro q zero ad ae; simp at ad; subst ad; simpa [qC,hU] using ae
  | cons p ps aR=>
   intro q zero ad ae;rw[ayp] at ad;simp only[Option.bind_eq_bind,bind_some,map_some,ayC,Option.some.injEq] at ad;obtain⟨a,⟨cV,aj,rfl⟩,q',aD,rfl⟩:=ad;simp only[axk,qC,hU,aj] at ae ⊢;split at ae
   ·rename_i vs ao;simp only[ao];split at ae
    ·rename_i a2;rw[if_pos a2];exact aR _ _ aD ae
    ·cases ae
   ·cases ae
 unfold Ln at aN;unfold Dr;split at aN
 ·rename_i fs aM;rw[aw,aM];simp only;split at aN
  ·rename_i dE;rw[if_neg (by simp[dE])];rw[fill _ _ _ _ aN af]; rfl
  ·cases aN
 ·rename_i n e aM;rw[map_some] at aN;obtain⟨fY,ad,rfl⟩:=aN;rw[aw,aM];simp only[ad];rw[fill (fun i=>some (i*fY,fY)) ps _ zero ?_ af]; rfl;clear af
  induction ps with
  | nil=>rfl
  | cons p ps aR=>rw[ayp,aR]; rfl
 ·cases aN
theorem aow {t:TypeId} {dt:kC} (aX:qk P t=some dt) (x:U) (cK ay cL:Option U) :fm dt x cK ay cL=Gp P t x cK ay cL:=by
 unfold qk at aX;unfold Gp;split at aX
 ·rename_i n e aM;rw[map_some] at aX;obtain⟨z,ad,rfl⟩:=aX;rw[aM]; simp only[ad,fm];cases hc n n cK ay cL<;>rfl
 ·rename_i e aM;rw[map_some] at aX;obtain⟨z,ad,rfl⟩:=aX;rw[aM]; simp only[ad,fm];cases x<;>rfl
 ·rename_i aM;cases aX;rw[aM]; simp only[fm];cases x<;>cases cL<;>rfl
 ·cases aX
theorem akf {t:TypeId} {dt:kC} (aX:qk P t=some dt) {x v:U} (h:cp dt x=some v) :zS P t x=some v:=by
 unfold qk at aX;unfold zS;split at aX
 ·rename_i n e aM;rw[map_some] at aX;obtain⟨z,ad,rfl⟩:=aX;rw[aM]; simpa [cp] using h
 ·rename_i e aM;rw[map_some] at aX;obtain⟨z,ad,rfl⟩:=aX;rw[aM]; unfold cp at h; cases x<;>simp_all
 ·rename_i aM;cases aX;rw[aM]; unfold cp at h; cases x<;>simp_all
 ·cases aX
theorem adi {t:TypeId} {dt:kC} (aX:qk P t=some dt) {x v:U} (h:uO dt x=some v) :AV P t x=some v:=by
 unfold qk at aX;unfold AV;split at aX
 ·rename_i n e aM;rw[map_some] at aX;obtain⟨z,ad,rfl⟩:=aX;rw[aM]; simpa [uO] using h
 ·rename_i e aM;rw[map_some] at aX;obtain⟨z,ad,rfl⟩:=aX;rw[aM]; unfold uO at h; cases x<;>simp_all
 ·rename_i aM;cases aX;rw[aM]; unfold uO at h; cases x<;>simp_all
 ·cases aX
theorem W0 {t:TypeId} {dt:kC} (aX:qk P t=some dt) {x i v:U} (h:cN dt x i=some v) :Fl P t x i=some v:=by
 unfold qk at aX;unfold Fl;unfold cN at h;cases i<;>(try simp only at h)<;>try (cases h; done)
 rename_i k i;split at aX
 ·rename_i n e aM;rw[map_some] at aX;obtain⟨z,ad,rfl⟩:=aX;rw[aM]; simpa [asInt,ad] using h
 ·rename_i e aM;rw[map_some] at aX;obtain⟨z,ad,rfl⟩:=aX;rw[aM]; simp only[asInt,ad]; simp only at h;cases x<;>simp only at h ⊢<;>first | exact h | cases h
 ·rename_i aM;cases aX;simp only at h;cases h
 ·cases aX
theorem aoR {t:TypeId} {n:Nat} (ak:cC P t=some n) {l l' : ap} {p v:U} (h:mD n l p v=some l') :yh P (bb l) t p v=some (bb l') :=by
 unfold mD at h;unfold yh;cases p<;>(try simp only at h)<;>try (cases h; done)
 rename_i b off sz;cases ao:v.cells with
 | none=>rw[ao] at h; cases h
 | some vs=>
  rw[ao] at h;simp only[ak] at h ⊢;cases af:l[b]? with
  | none=>rw[af] at h; cases h
  | some c=>
   cases c<;>rw[af] at h<;>(try simp only at h)<;>try (cases h; done)
   rename_i m cs;rw[l5.2 af];simp only;rw[iW] at h;obtain⟨ad,rfl⟩:=h;rw[if_pos ad,qu _ (cd af)]
theorem adR {t e:TypeId} {z:Nat} (am:jc P t=some e) (ak:cC P e=some z) {l l' : ap} {d x v:U} (h:A5 z l d x=some (v,l')) :A4 P (bb l) t d x=some (v,bb l') :=by
 unfold A5 at h;unfold A4;rw[am]; simp only[ak,DE];cases ah:de l z x with
 | none=>rw[ah] at h; cases h
 | some p=>
  obtain⟨xs,n⟩:=p;rw[ah] at h;simp only at h ⊢;cases d<;>simp only at h ⊢<;>try (cases h; done)
  case aG=>cases h; rfl
  case aq dI b off len cap sz=>
   cases af:l[b]? with
   | none=>rw[af] at h; cases h
   | some c=>
    cases c<;>rw[af] at h<;>(try simp only at h)<;>try (cases h; done)
    rename_i m cs;rw[l5.2 af];simp only;rw[iW] at h;obtain⟨ad,ae⟩:=h;cases ae;rw[if_pos ad,qu _ (cd af)]
theorem adx {t e:TypeId} {zero:List U} (aM:P.underlying t=some (.slice e)) (aw:ik P e=some zero) {l l' : ap} {x:U} (h:wO zero l x=some l') :AZ P (bb l) t x=some (bb l') :=by
 unfold wO at h;unfold AZ;rw[aM];cases x<;>(try simp only at h)<;>try (cases h; done)
 case aG=>cases h; rfl
 case a1 z es=>cases es<;>simp only at h<;>cases h; rfl
 case aq z b off len cap sz=>
  simp only;by_cases aJ:len=0
  ·rw[if_pos aJ] at h ⊢; cases h; rfl
  ·rw[if_neg aJ] at h ⊢;rw[aw];cases af:l[b]? with
   | none=>rw[af] at h; cases h
   | some c=>
    cases c<;>rw[af] at h<;>(try simp only at h)<;>try (cases h; done)
    rename_i m cs;rw[l5.2 af];simp only;rw[iW] at h;obtain⟨ad,rfl⟩:=h;rw[if_pos ad,qu _ (cd af)]
theorem X7 {t cS nj:TypeId} (aM:P.underlying t=some (.map cS nj)) {l l' : ap} {m k x:U} (h:xM P l cS m k x=some l') :zX P (bb l) t m k x=some (bb l') :=by
 unfold xM at h;unfold zX;rw[aM];cases m<;>(try simp only at h)<;>try (cases h; done)
 rename_i b;simp only[k2];cases af:l[b]? with
 | none=>rw[af] at h; cases h
 | some c=>
  cases c<;>rw[af] at h<;>simp only at h<;>try (cases h; done)
  rename_i es fq;simp only;cases ar:mx P cS k with
  | false=>rw[ar] at h; cases h
  | true=>
   rw[ar] at h;simp only at h ⊢;cases aF:lJ P cS k es 0 with
   | none=>rw[aF] at h; cases h
   | some r=>
    rw[aF] at h;cases r with
    | none=>cases h; simp only[qu _ (cd af)]
    | some xD=>cases h; simp only[qu _ (cd af)]
theorem ako {t:TypeId} (ad:ev P t=some false) (h:aO) (p:U) :tZ P h t p=(reach h p).bind fun x=>x.1[x.2]?:=by
 unfold tZ iB; rw[ad]; cases reach h p<;>rfl
theorem akp {t:TypeId} {n:Nat} (ad:ev P t=some true) (ae:cC P t=some n) (h:aO) (p:U) :tZ P h t p=(reach h p).bind fun x=>ug n x.1 x.2:=by
 unfold tZ iB; rw[ad,ae]; cases reach h p<;>rfl
theorem ac5 {b:Builtin} {ts:List TypeId} {args:List Operand} {m:db} (hm:wR P b ts args=some m) {aB:Operand->U} {l l' : ap} {v:U} (h:bU P aB l m=some (v,l')) :
  qE P (bb l) b ts (args.map aB)=some (.val v (bb l')) :=by
 unfold wR at hm;split at hm
 ·rename_i i5;split at hm
  ·rename_i k e aM;cases hm;simp only[bU,gZ] at h;obtain⟨ae,rfl⟩:=h;unfold FH at ae;simp only[axk,ayj,qE];cases ag:aB i5<;>rw[ag] at ae<;>(try simp only at ae)<;>try (cases ae; done)
   ·cases ae; simp[zS,zT,aM]
   ·rename_i b;cases af:l'[b]? with
    | none=>rw[af] at ae; cases ae
    | some c=>
     cases c<;>rw[af] at ae<;>simp only at ae<;>try (cases ae; done)
     cases ae;simp[zT,aM,k2,af]
  ·rw[map_some] at hm;obtain⟨dt,ad,rfl⟩:=hm;simp only[bU,gZ] at h;obtain⟨ae,rfl⟩:=h;have aj:=akf ad ae;have aD:∀ x,zT P (bb l') _ x=none:=fun x=>by
    unfold qk at ad;unfold zT;split at ad<;>first | (rename_i aM; rw[aM]; done) | (cases ad; done) | skip
    all_goals (rename_i aM; simp only[aM])
   simp only[axk,ayj,qE,aD];simp[aj]
 ·rw[map_some] at hm;obtain⟨dt,ad,rfl⟩:=hm;simp only[bU,gZ] at h;obtain⟨ae,rfl⟩:=h;simp[qE,adi ad ae]
 ·rename_i t u s x;simp only[axk,ayj,qE];split at hm
  ·rename_i aM;simp only[bind_some] at hm;obtain⟨e,ad,z,ae,by_,aj,zero,aD,hm⟩:=hm;rw[iW] at hm;obtain⟨⟨a2,bv⟩,rfl⟩:=hm;simp only[bU] at h;unfold rV at h;cases ag:aB x<;>rw[ag] at h<;>(try simp only at h)<;>try (cases h; done)
   rename_i k n;by_cases dr:0<=n/\n<9223372036854775808/\n.toNat*by_<=ci
   ·rw[if_pos dr] at h;rw[aM];simp only[Dl,ad,asInt,ae,aj,aD];rw[if_pos ⟨a2,dr⟩,Rh bv h]; rfl
   ·rw[if_neg dr] at h; cases h
  ·cases hm
  ·rename_i aC aM;simp only[bind_some] at hm;obtain⟨e,ad,z,ae,by_,aj,hm⟩:=hm;rw[iW] at hm;obtain⟨bv,rfl⟩:=hm;simp only[bU] at h;unfold gK at h;cases ah:de l z (aB x) with
   | none=>rw[ah] at h; cases h
   | some p=>
    obtain⟨xs,n⟩:=p;rw[ah] at h;simp only at h;have:tf P (bb l) t (aB s) (aB x)=some (v,bb l') :=by
     simp only[tf,ad,ae,aj,DE,ah];exact Rh bv h
    rw[this];cases bg:P.underlying u with
    | none=>exact absurd bg aM
    | some d=>
     cases d<;>first | rfl | (rename_i k; exact absurd bg (aC k))
 ·simp only[bind_some,map_some] at hm;obtain⟨e,ad,z,ae,rfl⟩:=hm;simp only[bU] at h;simp[qE,adR ad ae h]
 ·split at hm
  ·rename_i e aM;rw[map_some] at hm;obtain⟨zero,ad,rfl⟩:=hm;simp only[bU,map_some,Prod.mk.injEq] at h;obtain⟨br,ae,rfl,rfl⟩:=h;simp[qE,adx aM ad ae]
  ·cases hm
 ·cases hm;simp only[bU,gZ] at h;obtain⟨ae,rfl⟩:=h;simp[qE,ae]
 ·cases hm;simp only[bU,gZ] at h;obtain⟨ae,rfl⟩:=h;simp[qE,ae]
 ·cases hm
theorem O8 {t:TypeId} (ad:ev P t=some false) (cs:List U) (off:Nat) :iB P t cs off=cs[off]?:=by unfold iB; rw[ad]
theorem YL {t:TypeId} {n:Nat} (ad:ev P t=some true) (ae:cC P t=some n) (cs:List U) (off:Nat) :iB P t cs off=ug n cs off:=by unfold iB; rw[ad,ae]; rfl
theorem Lt {s d:TypeId} {x:U} (h:∀ e,P.underlying d=some (.slice e)->False) :AR P s d x=none:=by
 unfold AR;split
 ·rename_i e ak bg ag;exact (h e ag).elim
 ·rfl
theorem JG {op:Op} {m:db} (hm:nY P op=some m) {aB:Operand->U} {l l' : ap} {v:U} (h:bU P aB l m=some (v,l')) :c4 P (bb l) aB op=some (.val v (bb l')) :=by
 cases op<;>simp only[nY] at hm<;>try (cases hm; done)
 case move x=>cases hm; simp only[bU,Option.some.injEq,Prod.mk.injEq] at h; obtain⟨rfl,rfl⟩:=h; rfl
 case assign x=>cases hm; simp only[bU,Option.some.injEq,Prod.mk.injEq] at h; obtain⟨rfl,rfl⟩:=h; rfl
 case pick c a b=>
  cases hm; simp only[bU,gZ] at h;obtain⟨ae,rfl⟩:=h;simp only[c4];unfold F4 at ae;cases ah:aB c<;>rw[ah] at ae<;>(try simp only at ae)<;>try (cases ae; done)
  cases ae; rfl
 case alloc t=>
  rw[map_some] at hm;obtain⟨zero,ad,rfl⟩:=hm;simp only[bU,Option.some.injEq,Prod.mk.injEq] at h;obtain⟨rfl,rfl⟩:=h;simp only[c4,ad,oN]; rfl
 case box t x=>
  cases hm;simp only[bU,map_some,Prod.mk.injEq] at h;obtain⟨cs,ad,rfl,rfl⟩:=h;simp only[c4,ad,oN]; rfl
 case build t ps=>
  simp only[bind_some,map_some] at hm;obtain⟨zero,ad,q,ae,rfl⟩:=hm;simp only[bU,gZ,map_some] at h;obtain⟨⟨cs,aj,rfl⟩,rfl⟩:=h;simp only[c4,acO ae aB zero ad aj]; rfl
 case buildSlice t n ps=>
  simp only[bind_some] at hm;obtain⟨e,ad,z,ae,zero,aj,hm⟩:=hm;rw[iW] at hm;obtain⟨aD,rfl⟩:=hm;simp only[bU,map_some,Prod.mk.injEq] at h;obtain⟨cs,a2,rfl,rfl⟩:=h;simp only[c4,Hm,ad,ae,aj,if_pos aD,a2,oN]; rfl
 case load t a=>
  split at hm
  ·rename_i n ad ae;cases hm;simp only[bU,gZ] at h;obtain⟨aj,rfl⟩:=h;simp only[c4,akp ad ae,Px,aj]; rfl
  ·rename_i ad;cases hm;simp only[bU,gZ] at h;obtain⟨aj,rfl⟩:=h;simp only[c4,ako ad,Px,aj]; rfl
  ·cases hm
 case store t a x=>
  rw[map_some] at hm;obtain⟨n,ad,rfl⟩:=hm;simp only[bU,map_some,Prod.mk.injEq] at h;obtain⟨br,ae,rfl,rfl⟩:=h;simp only[c4,aoR ad ae]; rfl
 case nilCheck x=>
  cases hm;simp only[bU,gZ] at h;obtain⟨ae,rfl⟩:=h;simp only[c4];unfold z3 at ae;cases ah:aB x<;>rw[ah] at ae<;>simp only at ae<;>first | (cases ae; done) | (cases ae; rfl)
 case binOp o t x y u=>
  cases hm;simp only[bU,gZ] at h;obtain⟨ae,rfl⟩:=h;simp only[c4,ae]; rfl
 case unOp o t x=>
  cases hm;simp only[bU,gZ] at h;obtain⟨ae,rfl⟩:=h;simp only[c4,ae]; rfl
 case convert s d x=>
  simp only[c4];split at hm
  ·rename_i iH k ak bg;cases hm;simp only[bU,gZ] at h;obtain⟨ae,rfl⟩:=h;rw[Lt (fun e am=>by rw[bg] at am; cases am)];unfold AY at ae;cases ag:aB x<;>rw[ag] at ae<;>(try simp only at ae)<;>try (cases ae; done)
   cases ae;simp only[yU,ak,bg]; rfl
  ·rename_i e ak bg;split at hm
   ·rename_i am;cases hm;simp only[bU,gZ] at h;obtain⟨ae,rfl⟩:=h;rw[Lt (fun e am=>by rw[bg] at am; cases am)];have:yU P (bb l') s d (aB x)=some v:=by
     rw[<-ae];unfold yU wK;rw[ak,bg];cases ag:aB x<;>(simp only[am,DE])<;>(try rfl)<;>(rw[ag] at ae; unfold wK at ae; simp only at ae)
     ·cases ae
     all_goals (cases ah:de l' 1 _<;>rfl)
    rw[this]; rfl
   ·cases hm
  ·rename_i ak bg;cases hm;simp only[bU,gZ] at h;obtain⟨ae,rfl⟩:=h;rw[Lt (fun e am=>by rw[bg] at am; cases am)];unfold HB at ae;cases ag:aB x<;>rw[ag] at ae<;>(try simp only at ae)<;>try (cases ae; done)
   cases ae;simp only[yU,ak,bg]; rfl
  ·rename_i e ak bg;split at hm
   ·rename_i am;cases hm;simp only[bU,gZ] at h;obtain⟨ae,rfl⟩:=h;unfold wY at ae;cases ag:aB x<;>rw[ag] at ae<;>(try simp only at ae)<;>try (cases ae; done)
    cases ae;simp only[AR,ak,bg,am]
   ·cases hm
  ·cases hm
 case makeInterface t x=>
  split at hm
  ·cases hm
  ·cases hm
  ·rename_i ad ae;cases hm;simp only[bU,Option.some.injEq,Prod.mk.injEq] at h;obtain⟨rfl,rfl⟩:=h;simp only[c4]
 case typeAssert x QG t ok=>
  rw[map_some] at hm;obtain⟨z,aw,rfl⟩:=hm;simp only[bU,gZ] at h;obtain⟨ae,rfl⟩:=h;simp only[c4,aw,ae,aw0]
 case makeFunc f a b=>
  cases f<;>simp only at hm<;>try (cases hm; done)
  cases hm;simp only[bU,Option.some.injEq,Prod.mk.injEq] at h;obtain⟨rfl,rfl⟩:=h;rfl
 case makeSlice t a c=>
  simp only[bind_some] at hm;obtain⟨e,ad,z,ae,by_,aj,zero,aD,hm⟩:=hm;rw[iW] at hm;obtain⟨a2,rfl⟩:=hm;simp only[bU] at h;unfold sD at h;cases aE:aB a<;>rw[aE] at h<;>(try simp only at h)<;>try (cases h; done)
  cases ah:aB c<;>rw[ah] at h<;>(try simp only at h)<;>try (cases h; done)
  rw[iW] at h;obtain⟨bv,dr⟩:=h;cases dr;simp only[c4,aE,ah,JB,ad,asInt,ae,aj,aD,if_pos (And.intro a2 bv),oN]; rfl
 case slice t x cK ay cL=>
  rw[map_some] at hm;obtain⟨dt,ad,rfl⟩:=hm;simp only[bU,gZ] at h;obtain⟨ae,rfl⟩:=h;rw[aow ad] at ae;simp only[c4,ae]; rfl
 case fieldAddr s x f=>
  rw[bind_some] at hm;obtain⟨fd,ad,hm⟩:=hm;split at hm
  ·rename_i n ae;cases hm;simp only[bU,gZ] at h;obtain⟨aj,rfl⟩:=h;simp only[c4,HK,ad,ae,aj]; rfl
  ·cases hm
 case field t x f=>
  rw[bind_some] at hm;obtain⟨fd,ad,hm⟩:=hm;split at hm
  ·rename_i n ae aj;cases hm;simp only[bU,gZ] at h;obtain⟨aD,rfl⟩:=h;unfold Bi at aD;cases ag:aB x<;>rw[ag] at aD<;>(try simp only at aD)<;>try (cases aD; done)
   simp only[c4,ag,ad,YL ae aj,aD]; rfl
  ·rename_i ae;cases hm;simp only[bU,gZ] at h;obtain⟨aD,rfl⟩:=h;unfold DV at aD;cases ag:aB x<;>rw[ag] at aD<;>(try simp only at aD)<;>try (cases aD; done)
   simp only[c4,ag,ad,O8 ae,aD]; rfl
  ·cases hm
 case indexAddr t x i=>
  split at hm
  ·rename_i n z ad;cases hm;simp only[bU,gZ] at h;obtain⟨ae,rfl⟩:=h;simp only[c4,W0 ad ae]; rfl
  ·rename_i z ad;cases hm;simp only[bU,gZ] at h;obtain⟨ae,rfl⟩:=h;simp only[c4,W0 ad ae]; rfl
  ·cases hm
 case index t x i=>
  split at hm
  ·rename_i n e aM;split at hm
   ·rename_i z ad ae;cases hm;simp only[bU,gZ] at h;obtain⟨aj,rfl⟩:=h;unfold Fu at aj;cases ag:aB x<;>rw[ag] at aj<;>(try simp only at aj)<;>try (cases aj; done)
    cases ay:aB i<;>rw[ay] at aj<;>(try simp only at aj)<;>try (cases aj; done)
    simp only[c4,Cd,ag,ay,aM,asInt,ad,YL ae ad,aj]; rfl
   ·rename_i z ad ae;cases hm;simp only[bU,gZ] at h;obtain⟨aj,rfl⟩:=h;unfold Ft at aj;cases ag:aB x<;>rw[ag] at aj<;>(try simp only at aj)<;>try (cases aj; done)
    cases ay:aB i<;>rw[ay] at aj<;>(try simp only at aj)<;>try (cases aj; done)
    simp only[c4,Cd,ag,ay,aM,asInt,ad,O8 ae,aj]; rfl
   ·cases hm
  ·rename_i aM;cases hm;simp only[bU,gZ] at h;obtain⟨aj,rfl⟩:=h;unfold zN at aj;cases ag:aB x<;>rw[ag] at aj<;>(try simp only at aj)<;>try (cases aj; done)
   cases ay:aB i<;>rw[ay] at aj<;>(try simp only at aj)<;>try (cases aj; done)
   simp only[c4,Cd,ag,ay,aM,asInt,aj]; rfl
  ·cases hm
 case extract x i=>
  cases hm;simp only[bU,gZ] at h;obtain⟨ae,rfl⟩:=h;unfold DR at ae;cases ag:aB x<;>rw[ag] at ae<;>(try simp only at ae)<;>try (cases ae; done)
  simp only[c4,ag,ae]; rfl
 case call c=>
  split at hm
  ·rename_i b af;simp only[c4,wG,af];exact ac5 hm h
  ·rename_i f aF;split at hm
   ·rename_i fn x y iR H8;rw[iW] at hm;obtain⟨ay,rfl⟩:=hm;simp only[bU] at h;split at h
    case h_2=>cases h
    rename_i Ix;rw[gZ] at h;obtain⟨ae,rfl⟩:=h;unfold cmpL at ae;have gq:∀ x,tk (bb l') x=pC l' x:=fun x=>by
     cases x<;>simp only[tk,pC,DE]<;>rfl
    have tH:¬(fn.body.isSome=true/\fn.name≠ "runtime.NumGoroutine") :=by
     rintro⟨a,_⟩;unfold Fo at ay;simp only[awZ] at ay;rw[azE.1 ay.1.1] at a; cases a
    have zh:aB (.func f)=.fn f [] [] :=by
     unfold Fp at Ix;split at Ix
     ·rename_i g ax; rw[ax,axt Ix]
     ·cases Ix
    simp only[c4,wG,aF,zh,iR,if_neg tH,if_pos ay,H8,axk,ayj,axT,axr,DD,gq];cases aE:pC l' (aB x) with
    | none=>rw[aE] at ae; cases ae
    | some a=>
     cases af:pC l' (aB y) with
     | none=>rw[aE,af] at ae; cases ae
     | some b=>rw[aE,af] at ae; cases ae; rfl
   ·cases hm
  ·cases hm
 case panic x=>cases hm; cases h
 case makeMap t r=>
  split at hm
  ·rename_i k e aM;cases hm;simp only[bU] at h;cases r with
   | none=>cases h; simp[c4,aM,oN]
   | some x=>
    simp only at h;cases ag:asInt (aB x) with
    | none=>rw[ag] at h; cases h
    | some n=>rw[ag] at h; cases h; simp[c4,aM,ag,oN]
  ·cases hm
 case lookup t m k ok=>
  split at hm
  ·rename_i cS nj aM;rw[map_some] at hm;obtain⟨z,aw,rfl⟩:=hm;simp only[bU,gZ] at h;obtain⟨ae,rfl⟩:=h;have EV:∀ x,mapOf (bb l') x=xL l' x:=fun x=>by
    cases x<;>try rfl
    rename_i b;simp only[mapOf,xL,k2];cases l'[b]? with
    | none=>rfl
    | some c=>cases c<;>rfl
   unfold Ck at ae;simp only[c4,Jx,aM,EV];cases mj:xL l' (aB m) with
   | none=>rw[mj] at ae; cases ae
   | some es=>
    rw[mj] at ae;simp only at ae ⊢;cases ar:mx P cS (aB k) with
    | false=>rw[ar] at ae; cases ae
    | true=>
     rw[ar] at ae;simp only at ae ⊢;cases aF:lJ P cS (aB k) es 0 with
     | none=>rw[aF] at ae; cases ae
     | some r=>
      rw[aF] at ae;cases r with
      | none=>cases ae; simp[aw]
      | some xD=>cases ae; rfl
  ·cases hm
 case mapUpdate t m k x=>
  split at hm
  ·rename_i cS nj aM;cases hm;simp only[bU,map_some] at h;obtain⟨br,ae,aj⟩:=h;cases aj;simp only[c4,X7 aM ae]; rfl
  ·cases hm
 case insert t m k x=>
  split at hm
  ·rename_i cS nj aM;cases hm;simp only[bU,map_some] at h;obtain⟨br,ae,aj⟩:=h;cases aj;simp only[c4,X7 aM ae]; rfl
  ·cases hm
 case range t x=>
  split at hm
  ·rename_i aM;cases hm;simp only[bU] at h;unfold CC at h;cases ag:aB x<;>rw[ag] at h<;>(try simp only at h)<;>try (cases h; done)
   cases h;simp[c4,J4,aM,ag,oN]
  ·cases hm
 case next it b=>
  cases b with
  | false=>cases hm
  | true=>
   cases hm;simp only[bU] at h;unfold vV at h;simp only[c4,Co];cases ag:aB it<;>rw[ag] at h<;>(try simp only at h)<;>try (cases h; done)
   rename_i b;simp only[k2];cases af:l[b]? with
   | none=>rw[af] at h; cases h
   | some c=>
    cases c<;>rw[af] at h<;>simp only at h<;>try (cases h; done)
    simp only;split at h
    ·rename_i aL; cases h; rw[aL]; simp only[aw0,qu _ (cd af)]
    ·rename_i aL; cases h; rw[aL]; rfl
end
abbrev bc:=Nat->U
abbrev hF:=s4->bc->ap->Prop
class QT (α:Type) where
 k:α->Prop
class Db where
 p:Prop
 q:Prop
class uD where
 k:U->ap->Prop
class KS where
 k:hF
def W {α:Type} (o:Option α) [c:QT α] :Prop:=match o with | some v=>c.k v | none=>False
def sw (b:Bool) [c:Db] :Prop:=match b with | true=>c.p | false=>c.q
def zR (x:U) [c:Db] :Prop:=match x with | .bool b=>sw b (c:=c) | _=>False
def sv (x:U) (w:Bool) [c:Db] :Prop:=match x with | .bool b=>sw (b == w) (c:=c) | .bad=>False | _=>c.q
inductive rH where
 | gR (m:db)
 | nb (f:FuncId) (args:List Operand)
 | nd (x:Operand) (args:List Operand)
 | oV (x:Operand) (name:String) (args:List Operand)
structure dp where
 i:Nat
 dst:Option Tmp
 g:Option (Option Tmp × Bool)
 b:rH
 dK:List Nat
 b1:Bool
inductive fM where
 | skip
 | ret
 | exit (id:Nat)
 | l3 (s:List dp)
 | yW (s:List dp)
 | seq (a b:fM)
 | cond (c:Operand) (x y:fM)
 | block (id:Nat) (c:fM)
 | loop (c:fM)
section
variable (P:Program) (G:Nat->U)
def kK (f:FuncId) :Bool:=match P.funcs[f]? with | some fn=>fn.body.isSome&&fn.name != "runtime.NumGoroutine" | none=>false
def c5 (f:FuncId) (args:List U) (l:ap) [c:uD] :Prop:=∃ r l',dJ P G (.call f args (bb l) r (bb l'))/\l.length<=l'.length/\c.k r l'
def wI (x:U) (args:List U) (l:ap) [c:uD] :Prop:=match x with
 | .fn g first gL=>kK P g=true/\c5 P G g (first++args++gL) l (c:=c)
 | _=>False
def wH (name:String) (x:U) (args:List U) (l:ap) [c:uD] :Prop:=match x with
 | .hM t v=>match zY P t name with
  | some g=>kK P g=true/\c5 P G g (v::args) l (c:=c)
  | none=>False
 | _=>False
def cU (v:U) (l:ap) [c:uD] :Prop:=c.k v l\/∃ b4 br,nS (bb l) (bb br)/\nQ (bb l) (bb br) v b4/\c.k b4 br
def eC (m:db) (v:U) (l:ap) (K:U->ap->Prop) :Prop:=match m with
 | .app ..=>cU v l (c:=⟨K⟩)
 | _=>K v l
def iE (b:rH) (σ:bc) (l:ap) (K:U->ap->Prop) :Prop:=match b with
 | .gR m=>W (bU P (c2 G σ) l m) (c:=⟨fun x=>eC m x.1 x.2 K⟩)
 | .nb f args=>c5 P G f (args.map (c2 G σ)) l (c:=⟨K⟩)
 | .nd x args=>wI P G (c2 G σ x) (args.map (c2 G σ)) l (c:=⟨K⟩)
 | .oV x name args=>wH P G name (c2 G σ x) (args.map (c2 G σ)) l (c:=⟨K⟩)
def rh (σ:bc) (g:Option (Option Tmp × Bool)) (p q:Prop) :Prop:=match g with
 | none=>p
 | some (some d,w)=>sv (σ d) w (c:=⟨p,q⟩)
 | some (none,_)=>q
def jp:List dp->bc->ap->(bc->ap->Prop)->Prop
 | [],σ,l,K=>K σ l
 | s::r,σ,l,K=>rh σ s.g (iE P G s.b σ l fun v l'=>jp r (h1 σ s.dst v) l' K) (jp r (h1 σ s.dst gU) l K)
abbrev i8:=List (Nat × (ap->Prop))
def qG (ids:List Nat) :i8->ap->Prop
 | [],_=>True
 | e::r,l=>(ids.contains e.1=true->e.2 l)/\qG ids r l
def db.jC:db->Bool
 | .alloc _ | .box _ | .rX .. | .sC ..=>true
 | _=>false
def mB (b:rH) (σ:bc) (v:U) (l l' l1:ap) :Prop:=match b with
 | .gR m=>match m.jC with
  | true=>l1[l.length]? = l'[l.length]?
  | false=>bU P (c2 G σ) l1 m=some (v,l1)
 | _=>True
def sT (b1:Bool) (i:Nat) (p:ap->Prop) (s:i8) :i8:=match b1 with | true=>(i,p) ::s | false=>s
def ky:List dp->bc->ap->i8->(bc->ap->Prop)->Prop
 | [],σ,l,_,K=>K σ l
 | s::r,σ,l,seen,K=>rh σ s.g (iE P G s.b σ l fun v l'=>qG s.dK seen l'/\ky r (h1 σ s.dst v) l' (sT s.b1 s.i (mB P G s.b σ v l l') seen) K) (ky r (h1 σ s.dst gU) l seen K)
def pk (k:bc->ap->Prop) (K:hF) :hF:=fun e σ l=>match e with
 | .normal=>k σ l
 | .exit id=>K (.exit id) σ l
 | .ret=>K .ret σ l
def su (id:Nat) (K:hF) :hF:=fun e σ l=>match e with
 | .normal=>K .normal σ l
 | .exit tS=>match Nat.beq tS id with | true=>K .normal σ l | false=>K (.exit tS) σ l
 | .ret=>K .ret σ l
def Cl (r:bc->ap->hF->Prop) :Nat->bc->ap->hF->Prop
 | 0=>fun _ _ _=>False
 | n+1=>fun σ l K=>r σ l (pk (fun σ l=>Cl r n σ l K) K)
def G0 (r:bc->ap->hF->Prop) (σ:bc) (l:ap) [c:KS] :Prop:=∃ n,Cl r n σ l c.k
def run:fM->bc->ap->hF->Prop
 | .skip,σ,l,K=>K .normal σ l
 | .ret,σ,l,K=>K .ret σ l
 | .exit id,σ,l,K=>K (.exit id) σ l
 | .l3 s,σ,l,K=>jp P G s σ l (K .normal)
 | .yW s,σ,l,K=>ky P G s σ l [] (K .normal)
 | .seq a b,σ,l,K=>run a σ l (pk (fun σ l=>run b σ l K) K)
 | .cond c x y,σ,l,K=>zR (c2 G σ c) (c:=⟨run x σ l K,run y σ l K⟩)
 | .block id c,σ,l,K=>run c σ l (su id K)
 | .loop c,σ,l,K=>G0 (run c) σ l (c:=⟨K⟩)
def CQ (ops:Array Oper) (i:Nat) (dK:List Nat) (b1:Bool) :Option dp:=(ops[i]?).bind fun o=>
 let g:=o.guard.map fun fE=>((ops[fE.1]?).bind (·.dst),fE.2)
 match nY P o.op with
 | some m=>some ⟨i,o.dst,g,.gR m,dK,b1⟩
 | none=>match o.op with
  | .call c=>match c.callee with
   | .value (.func f)=>match kK P f with
    | true=>some ⟨i,o.dst,g,.nb f c.args.toList,dK,b1⟩
    | false=>none
   | .value x=>some ⟨i,o.dst,g,.nd x c.args.toList,dK,b1⟩
   | .invoke x name=>some ⟨i,o.dst,g,.oV x name c.args.toList,dK,b1⟩
   | _=>none
  | _=>none
def uu:Op->Bool
 | .load .. | .convert .. | .alloc _ | .box .. | .buildSlice .. | .makeSlice ..=>true
 | .call c=>match c.callee,c.argTypes.toList with
  | .builtin .len,[t]=>match P.underlying t with | some (.map _ _)=>true | _=>false
  | _,_=>false
 | _=>false
def adr (ms:List Nat) (ops:Array Oper) (done lI:List Nat) :List Nat:=
 done.filter fun j=>(match ops[j]? with | some o=>uu P o.op | none=>false)&&lI.all fun e=>!qc ms e j
def po (ms:List Nat) (ops:Array Oper) :List Nat->List Nat->List Nat->List (Nat × List Nat)
 | [],_,_=>[]
 | i::r,done,lI=>match ops[i]? with
  | none=>[]
  | some o=>match lq o.op with
   | true=>(i,adr P ms ops done (i::lI)) ::po ms ops r (i::done) (match o.guard with | none=>i::lI | some _=>lI)
   | false=>(i,[]) ::po ms ops r (i::done) lI
def DI (ms:List Nat) (ops:Array Oper) :List Nat->Bool
 | []=>true
 | i::r=>(match ops[i]? with | some o=>!lq o.op||r.all fun j=>qc ms j i | none=>false)&&DI ms ops r
def LJ (N:Nat) (ops:Array Oper) (draw:Bool) :Option fM:=
 match ops.toList.all fun o=>kf N o.dst with
 | false=>none
 | true=>match draw with
  | false=>((List.range ops.size).mapM fun i=>CQ P ops i [] false).map .l3
  | true=>
   let ms:=jm ops
   let ord:=fR ms ops
   match O5 ms ops ord&&DI ms ops ord with
   | false=>none
   | true=>
    let YQ:=po P ms ops ord [] []
    let ask:=YQ.flatMap (·.2)
    match YQ.mapM fun p=>CQ P ops p.1 p.2 (ask.contains p.1) with
    | none=>none
    | some s=>match ask with
     | []=>some (.l3 s)
     | _=>some (.yW s)
def comp (N:Nat) :Code->Option fM
 | .skip=>some .skip
 | .label _=>some .skip
 | .ret=>some .ret
 | .exit id=>some (.exit id)
 | .region _ ops draw=>LJ P N ops draw
 | .seq a b=>match comp N a,comp N b with
  | some .skip,some b=>some b
  | some a,some .skip=>some a
  | some a,some b=>some (.seq a b)
  | _,_=>none
 | .cond c x y=>match comp N x,comp N y with
  | some x,some y=>some (.cond c x y)
  | _,_=>none
 | .block id c=>(comp N c).map (.block id)
 | .loop c=>(comp N c).map .loop
 | .scope c=>comp N c
 | _=>none
def wS (f:FuncId) :Option fM:=match P.funcs[f]? with
 | some fn=>match fn.body with
  | some c=>comp P fn.ntmps c
  | none=>none
 | none=>none
end

section
variable {P:Program} {G:Nat->U}
theorem Rg {l l' : ap} {z by_ n:Nat} {s v:U} {xs:List U} (h:ja l z by_ s xs n=some (v,l')) :l.length<=l'.length:=by
 unfold ja at h
 repeat' split at h
 all_goals first | (cases h; done) | (cases h; simp)
theorem Yg {aB:Operand->U} {l l' : ap} {m:db} {v:U} (h:bU P aB l m=some (v,l')) :l.length<=l'.length:=by
 cases m<;>simp only[bU,gZ,map_some,Option.some.injEq,Prod.mk.injEq] at h
 case fX=>obtain⟨_,rfl⟩:=h; exact awU _
 case alloc=>obtain⟨_,rfl⟩:=h; simp
 case box=>obtain⟨_,_,_,rfl⟩:=h; simp
 case rX=>obtain⟨_,_,_,rfl⟩:=h; simp
 case st n a x=>
  obtain⟨_,h,_,rfl⟩:=h;unfold mD at h
  repeat' split at h
  all_goals first | (cases h; done) | (cases h; simp)
 case z1=>obtain⟨_,rfl⟩:=h; exact awU _
 case z0=>obtain⟨_,rfl⟩:=h; exact awU _
 case sC=>
  unfold sD at h
  repeat' split at h
  all_goals first | (cases h; done) | (cases h; simp)
 case app=>
  unfold gK at h;split at h
  ·cases h
  ·exact Rg h
 case wy=>
  unfold rV at h
  repeat' split at h
  all_goals first | (cases h; done) | exact Rg h
 case wX=>
  unfold A5 at h
  repeat' split at h
  all_goals first | (cases h; done) | (cases h; simp)
 case wP=>
  obtain⟨_,h,_,rfl⟩:=h;unfold wO at h
  repeat' split at h
  all_goals first | (cases h; done) | (cases h; simp)
 case stop=>cases h
 case vU x=>
  cases x with
  | none=>cases h; simp
  | some o=>
   simp only at h;split at h
   ·cases h; simp
   ·cases h
 case xP=>
  obtain⟨_,h,_,rfl⟩:=h;unfold xM at h
  repeat' split at h
  all_goals first | (cases h; done) | (cases h; simp)
 case x6=>
  unfold CC at h
  repeat' split at h
  all_goals first | (cases h; done) | (cases h; simp)
 case xT=>
  unfold vV at h
  repeat' split at h
  all_goals first | (cases h; done) | (cases h; simp)
 case cj=>
  split at h
  ·rw[gZ] at h; obtain⟨_,rfl⟩:=h; exact awU _
  ·cases h
 all_goals (obtain⟨_,rfl⟩:=h; exact awU _)
theorem AL {α:Type} {o:Option α} {c:QT α}:W o (c:=c)<->∃ v,o=some v/\c.k v:=by
 unfold W; cases o<;>simp
theorem Fz {b:Bool} {c:Db}:sw b (c:=c)<->(b=true/\c.p)\/(b=false/\c.q) :=by cases b<;>simp[sw]
structure qx (P:Program) (ops:Array Oper) (s:dp) (o:Oper) :Prop where
 here:ops[s.i]? = some o
 dst:s.dst=o.dst
 g:s.g=o.guard.map fun fE=>((ops[fE.1]?).bind (·.dst),fE.2)
 gR:∀ m,s.b=.gR m->nY P o.op=some m
 nb:∀ f args,s.b=.nb f args->∃ c:Call,o.op=.call c/\c.callee=.value (.func f)/\c.args.toList=args/\kK P f=true
 nd:∀ x args,s.b=.nd x args->∃ c:Call,o.op=.call c/\c.callee=.value x/\c.args.toList=args
 oV:∀ x name args,s.b=.oV x name args->∃ c:Call,o.op=.call c/\c.callee=.invoke x name/\c.args.toList=args
theorem Gu {ops:Array Oper} {i:Nat} {dK:List Nat} {b1:Bool} {s:dp} (h:CQ P ops i dK b1=some s) :∃ o,qx P ops s o/\s.i=i/\s.dK=dK/\s.b1=b1:=by
 unfold CQ at h;rw[bind_some] at h;obtain⟨o,av,h⟩:=h;refine⟨o,?_⟩;simp only at h;split at h
 ·rename_i m hm;cases h;exact⟨⟨av,rfl,rfl,fun ct h=>(by cases h; exact hm),fun f a h=>(by cases h),fun x a h=>(by cases h),fun x n a h=>(by cases h)⟩,rfl,rfl,rfl⟩
 ·split at h
  ·rename_i c iT;split at h
   ·rename_i f ah;split at h
    ·rename_i aF;cases h;exact⟨⟨av,rfl,rfl,fun ct h=>(by cases h),fun f a h=>(by cases h; exact⟨c,iT,ah,rfl,aF⟩),fun x a h=>(by cases h),fun x n a h=>(by cases h)⟩,rfl,rfl,rfl⟩
    ·cases h
   ·rename_i x ag ah;cases h;exact⟨⟨av,rfl,rfl,fun ct h=>(by cases h),fun f a h=>(by cases h),fun x a h=>(by cases h; exact⟨c,iT,ah,rfl⟩),fun x n a h=>(by cases h)⟩,rfl,rfl,rfl⟩
   ·rename_i x name ah;cases h;exact⟨⟨av,rfl,rfl,fun ct h=>(by cases h),fun f a h=>(by cases h),fun x a h=>(by cases h),fun x n a h=>by cases h; exact⟨c,iT,ah,rfl⟩⟩,rfl,rfl,rfl⟩
   ·cases h
  ·cases h
theorem Uv {g:FuncId} (aF:kK P g=true) {h:aO} {aB:Operand->U} {c:Call} {x:Operand} {first gL:List U} (ah:c.callee=.value x) (ag:aB x=.fn g first gL) :
  c4 P h aB (.call c)=some (.call g (first++c.args.toList.map aB++gL) h) :=by
 unfold kK at aF;simp only[c4,wG,ah,ag];cases iR:P.funcs[g]? with
 | none=>rw[iR] at aF; cases aF
 | some fn=>
  rw[iR] at aF;simp only[awZ,bne_iff_ne] at aF;simp only;rw[if_pos aF]
theorem ae7 {g:FuncId} (aF:kK P g=true) {h:aO} {aB:Operand->U} {c:Call} {x:Operand} {name:String} {t:TypeId} {v:U} (ah:c.callee=.invoke x name) (ag:aB x=.hM t v) (hm:zY P t name=some g) :
  c4 P h aB (.call c)=some (.call g (v::c.args.toList.map aB) h) :=by
 unfold kK at aF;simp only[c4,wG,ah,ag,hm];cases iR:P.funcs[g]? with
 | none=>rw[iR] at aF; cases aF
 | some fn=>
  rw[iR] at aF;simp only[awZ,bne_iff_ne] at aF;simp only;rw[if_pos aF]
def db.looks:db->Bool
 | .alloc _ | .box _ | .rX .. | .sC .. | .st .. | .app .. | .wy .. | .wX .. | .wP .. | .vU _ | .zV .. | .xP .. | .x6 _ | .xT _ | .cj .. | .CS .. | .stop=>false
 | _=>true
theorem ajW {m:db} {v:U} {l:ap} {K:U->ap->Prop} (h:eC m v l K) :K v l\/(m.looks=false/\m.jC=false/\∃ b4 br,nS (bb l) (bb br)/\nQ (bb l) (bb br) v b4/\K b4 br) :=by
 cases m<;>first | exact .inl h | skip
 rcases h with h | h
 ·exact .inl h
 ·exact .inr ⟨rfl,rfl,h⟩
theorem XP {m:db} {v:U} {l:ap} {K fa:U->ap->Prop} (aY:∀ v l,K v l->fa v l) (h:eC m v l K) :eC m v l fa:=by
 cases m<;>first | exact aY _ _ h | skip
 rcases h with h | ⟨b4,br,ad,ae,aj⟩
 ·exact .inl (aY _ _ h)
 ·exact .inr ⟨b4,br,ad,ae,aY _ _ aj⟩
theorem aav {ops:Array Oper} {s:dp} {o:Oper} (ok:qx P ops s o) {σ:bc} {l:ap} {K:U->ap->Prop} (h:iE P G s.b σ l K) :
  ∃ v l',dJ P G (.op o.op σ (bb l) v (bb l'))/\l.length<=l'.length/\K v l'/\∀ m,s.b=.gR m->(m.looks=true\/m.jC=true)->bU P (c2 G σ) l m=some (v,l') :=by
 cases af:s.b with
 | gR m=>
  rw[af] at h;simp only[iE,AL] at h;obtain⟨⟨v,l'⟩,ad,ae⟩:=h;have am:=dJ.JP (G:=G) (JG (ok.gR m af) ad);rcases ajW ae with ae | ⟨jn,rj,b4,br,bZ,ce,eB⟩
  ·exact⟨v,l',am,Yg ad,ae,fun ct hm _=>by cases hm; exact ad⟩
  ·refine⟨b4,br,.KI am bZ ce,axy (Yg ad) (Nat.le_of_eq bZ.n.symm),eB,fun ct hm al=>?_⟩;cases hm;rw[jn,rj] at al;rcases al with h | h<;>cases h
 | nb f args=>
  rw[af] at h;obtain⟨r,l',ad,ae,aj⟩:=h;obtain⟨c,iT,ah,aE,aF⟩:=ok.nb f args af;refine⟨r,l',?_,ae,aj,fun ct hm _=>by cases hm⟩;rw[iT];refine .Cu (Uv aF ah rfl) ?_;simpa [aE] using ad
 | nd x args=>
  rw[af] at h;simp only[iE] at h;obtain⟨c,iT,ah,aE⟩:=ok.nd x args af;unfold wI at h;split at h
  ·rename_i g first gL ag
   obtain⟨aF,r,l',ad,ae,aj⟩:=h;refine⟨r,l',?_,ae,aj,fun ct hm _=>by cases hm⟩;rw[iT];refine .Cu (Uv aF ah ag) ?_;rw[aE]; exact ad
  ·cases h
 | oV x name args=>
  rw[af] at h;simp only[iE] at h;obtain⟨c,iT,ah,aE⟩:=ok.oV x name args af;unfold wH at h;split at h
  ·rename_i t v ag;split at h
   ·rename_i g hm;obtain⟨aF,r,l',ad,ae,aj⟩:=h;refine⟨r,l',?_,ae,aj,fun ct hm _=>by cases hm⟩;rw[iT];refine .Cu (ae7 aF ah ag hm) ?_;rw[aE]; exact ad
   ·cases h
  ·cases h
theorem Xi {ops:Array Oper} {s:dp} {o:Oper} (ok:qx P ops s o) {σ:bc} {p q:Prop} (h:rh σ s.g p q) :(lE ops σ o=some true/\p)\/(lE ops σ o=some false/\q) :=by
 rw[ok.g] at h;unfold lE;cases ax:o.guard with
 | none=>rw[ax] at h; exact .inl ⟨rfl,h⟩
 | some fE=>
  obtain⟨j,w⟩:=fE;rw[ax] at h;simp only[aw0] at h ⊢;cases bg:(ops[j]?).bind (·.dst) with
  | none=>rw[bg] at h; exact .inr ⟨rfl,h⟩
  | some d=>
   rw[bg] at h;simp only[rh,sv] at h ⊢;cases ak:σ d<;>rw[ak] at h<;>simp only at h ⊢<;>first | exact .inr ⟨trivial,h⟩ | (cases h; done) | skip
   rw[Fz] at h;rcases h with ⟨ad,ae⟩ | ⟨ad,ae⟩
   ·exact .inl ⟨by rw[ad],ae⟩
   ·exact .inr ⟨by rw[ad],ae⟩
inductive oM (P:Program) (ops:Array Oper) :List dp->List Oper->Prop
 | nil:oM P ops [] []
 | cons {s o rx os}:qx P ops s o->oM P ops rx os->oM P ops (s::rx) (o::os)
theorem Gj {ops:Array Oper} {N:Nat} (fB:∀ (i:Nat) (o:Oper),ops[i]? = some o->kf N o.dst=true) {K:bc->ap->Prop}:∀ {s:List dp} {os:List Oper} {σ:bc} {l:ap},
  oM P ops s os->jp P G s σ l K->∃ bG l',dJ P G (.ops ops os N σ (bb l) bG (bb l'))/\l.length<=l'.length/\K bG l'
 | [],_,σ,l,aF,h=>by cases aF; exact⟨σ,l,.Yx,awU _,h⟩
 | s::r,_,σ,l,aF,h=>by
  cases aF with
  | cons ok aF=>
   rename_i o os;rcases Xi ok h with ⟨aP,h⟩ | ⟨aP,h⟩
   ·obtain⟨v,l1,ad,ae,aj,_⟩:=aav ok h;obtain⟨bG,l',aD,a2,bv⟩:=Gj fB aF aj;exact⟨bG,l',.Yy aP (fB _ _ ok.here) ad (by rw[<-ok.dst]; exact aD),axy ae a2,bv⟩
   ·obtain⟨bG,l',aD,a2,bv⟩:=Gj fB aF h;exact⟨bG,l',.Yz aP (fB _ _ ok.here) (by rw[<-ok.dst]; exact aD),a2,bv⟩
theorem Zy {l x:ap} {p:U} {y:List U × Nat} (h:hj l p=some y) :hj (l++x) p=some y:=by
 cases p<;>first | exact h | skip
 rename_i b off sz;simp only[hj] at h ⊢;cases af:l[b]? with
 | none=>rw[af] at h; cases h
 | some c=>rw[af] at h; rw[awS (cd af),af]; exact h
theorem adP {l x:ap} {z:Nat} {p:U} {y:List U × Nat} (h:de l z p=some y) :de (l++x) z p=some y:=by
 cases p<;>first | exact h | skip
 rename_i dI b off len cap sz;simp only[de] at h ⊢;cases af:l[b]? with
 | none=>rw[af] at h; cases h
 | some c=>rw[af] at h; rw[awS (cd af),af]; exact h
theorem adm {l x:ap} {p v:U} (h:wK l p=some v) :wK (l++x) p=some v:=by
 unfold wK at h ⊢;cases p<;>simp only at h ⊢<;>first | exact h | skip
 all_goals
  split at h
  ·rename_i cs n ah;rw[adP ah]; exact h
  ·cases h
def db.reads:db->Bool
 | .ot _ | .mz .. | .uP _ | .xH _=>true
 | _=>false
theorem XZ {aB:Operand->U} {l l' : ap} {m:db} {v:U} (hm:m.looks=true) (h:bU P aB l m=some (v,l')) :l'=l:=by
 cases m<;>simp only[db.looks,Bool.true_eq,ax8,reduceCtorEq] at hm<;>simp only[bU,gZ,Option.some.injEq,Prod.mk.injEq] at h<;>first | exact h.2 | exact h.2.symm
theorem akr {aB:Operand->U} {l x:ap} {m:db} {v:U} (hm:m.looks=true) (h:bU P aB l m=some (v,l)) :bU P aB (l++x) m=some (v,l++x) :=by
 cases m<;>simp only[db.looks,Bool.true_eq,ax8,reduceCtorEq] at hm<;>simp only[bU,gZ,Option.some.injEq,Prod.mk.injEq,and_true] at h ⊢<;>try exact h
 case ot a=>
  rw[bind_some] at h ⊢;obtain⟨y,ad,ae⟩:=h;exact⟨y,Zy ad,ae⟩
 case mz n a=>
  rw[bind_some] at h ⊢;obtain⟨y,ad,ae⟩:=h;exact⟨y,Zy ad,ae⟩
 case uP x=>exact adm h
 case xH y=>
  unfold FH at h ⊢;cases ag:aB y<;>rw[ag] at h<;>(try simp only at h)<;>try (cases h; done)
  ·exact h
  ·rename_i b;cases af:l[b]? with
   | none=>rw[af] at h; cases h
   | some c=>simp only[awS (cd af)]; exact h
theorem aks {aB:Operand->U} {l br:ap} {m:db} {v:U} (hm:m.looks=true) (az:m.reads=false) (h:bU P aB l m=some (v,l)) :bU P aB br m=some (v,br) :=by
 cases m<;>simp only[db.looks,Bool.true_eq,ax8,reduceCtorEq] at hm<;>simp only[db.reads,reduceCtorEq] at az<;>simp only[bU,gZ,Option.some.injEq,Prod.mk.injEq,and_true] at h ⊢<;>exact h
theorem PB (zero:List U) :∀ n,(dH zero n).length=n*zero.length
 | 0=>by simp[dH]
 | n+1=>by rw[dH,awW,PB zero n,axw,ay6]
theorem aoG {cs vs:List U} {off:Nat} (h:off+vs.length<=cs.length) :(bf cs off vs).length=cs.length:=by
 simp only[bf,awW,axd,axP]; omega
theorem Ue {lZ:Nat->Option (Nat × Nat)}:∀ {ps:List (Nat × U)} {zero cs:List U},hU lZ zero ps=some cs->cs.length=zero.length
 | [],zero,cs,h=>by simp only[hU,Option.some.injEq] at h; rw[<-h]
 | (i,v) ::r,zero,cs,h=>by
  unfold hU at h;split at h
  ·rename_i off size vs _ _;split at h
   ·rename_i ad;rw[Ue h,aoG (by omega)]
   ·cases h
  ·cases h
theorem ald {op:Op} {m:db} (hm:nY P op=some m) (aC:m.jC=true) {aB:Operand->U} {l l' : ap} {v:U} (h:bU P aB l m=some (v,l')) :
  ∃ cs mk,ow P aB op=some (cs,mk)/\v=mk l.length/\l'=l++[.cells cs.length cs] :=by
 cases op<;>simp only[nY] at hm<;>try (cases hm; done)
 case alloc t=>
  rw[map_some] at hm;obtain⟨zero,ad,rfl⟩:=hm;simp only[bU,Option.some.injEq,Prod.mk.injEq] at h;obtain⟨rfl,rfl⟩:=h;exact⟨zero,_,by simp only[ow,ad]; rfl,rfl,rfl⟩
 case box t x=>
  cases hm;simp only[bU,map_some,Prod.mk.injEq] at h;obtain⟨cs,ad,rfl,rfl⟩:=h;exact⟨cs,_,by simp only[ow,ad]; rfl,rfl,rfl⟩
 case buildSlice t n ps=>
  simp only[bind_some] at hm;obtain⟨e,ad,z,ae,zero,aj,hm⟩:=hm;rw[iW] at hm;obtain⟨aD,rfl⟩:=hm;simp only[bU,map_some,Prod.mk.injEq] at h;obtain⟨cs,a2,rfl,rfl⟩:=h;have bA:cs.length=n*z:=by rw[Ue a2,PB,aD.1]
  exact⟨cs,_,by simp only[ow,ad,ae,aj,if_pos aD,a2]; rfl,rfl,by rw[bA]⟩
 case makeSlice t a c=>
  simp only[bind_some] at hm;obtain⟨e,ad,z,ae,by_,aj,zero,aD,hm⟩:=hm;rw[iW] at hm;obtain⟨a2,rfl⟩:=hm;simp only[bU] at h;unfold sD at h;cases aE:aB a<;>rw[aE] at h<;>(try simp only at h)<;>try (cases h; done)
  cases ah:aB c<;>rw[ah] at h<;>(try simp only at h)<;>try (cases h; done)
  rw[iW] at h;obtain⟨bv,dr⟩:=h;cases dr;rename_i kc nc;have bA:(dH zero nc.toNat).length=nc.toNat*z:=by rw[PB,a2]
  exact⟨dH zero nc.toNat,_,by simp only[ow,aE,ah,ad,asInt,ae,aj,aD]; rw[if_pos ⟨a2,bv⟩],rfl,by rw[bA]⟩
 case pick=>cases hm; cases aC
 case move=>cases hm; cases aC
 case assign=>cases hm; cases aC
 case nilCheck=>cases hm; cases aC
 case binOp=>cases hm; cases aC
 case unOp=>cases hm; cases aC
 case call c=>
  exfalso;split at hm
  ·unfold wR at hm
   repeat' split at hm
   all_goals first
    | (cases hm; done)
    | (cases hm; cases aC; done)
    | (simp only[bind_some,map_some] at hm; obtain⟨_,_,rfl⟩:=hm; cases aC; done)
    | (simp only[bind_some,map_some] at hm; obtain⟨_,_,_,_,rfl⟩:=hm; cases aC; done)
    | (simp only[bind_some,iW] at hm; obtain⟨_,_,_,_,_,_,_,rfl⟩:=hm; cases aC; done)
    | (simp only[bind_some,iW] at hm; obtain⟨_,_,_,_,_,_,_,_,_,rfl⟩:=hm; cases aC; done)
  ·split at hm
   ·rw[iW] at hm; obtain⟨_,rfl⟩:=hm; cases aC
   ·cases hm
  ·cases hm
 case next it b=>exfalso; cases b<;>simp only[reduceCtorEq] at hm<;>cases hm<;>cases aC
 case panic=>cases hm; cases aC
 case lookup=>exfalso; split at hm<;>(try cases hm; done); rw[map_some] at hm; obtain⟨_,_,rfl⟩:=hm; cases aC
 case build=>exfalso; simp only[bind_some,map_some] at hm; obtain⟨_,_,_,_,rfl⟩:=hm; cases aC
 case typeAssert=>exfalso; rw[map_some] at hm; obtain⟨_,_,rfl⟩:=hm; cases aC
 case store=>exfalso; rw[map_some] at hm; obtain⟨_,_,rfl⟩:=hm; cases aC
 case slice=>exfalso; rw[map_some] at hm; obtain⟨_,_,rfl⟩:=hm; cases aC
 case fieldAddr=>exfalso; rw[bind_some] at hm; obtain⟨_,_,hm⟩:=hm; split at hm<;>cases hm; cases aC
 case field=>exfalso; rw[bind_some] at hm; obtain⟨_,_,hm⟩:=hm; split at hm<;>cases hm<;>cases aC
 case extract=>cases hm; cases aC
 case makeFunc f a b=>exfalso; cases f<;>simp only at hm<;>cases hm; cases aC
 all_goals
  exfalso
  repeat' split at hm
  all_goals first | (cases hm; done) | (cases hm; cases aC; done)
end

end Go.bV

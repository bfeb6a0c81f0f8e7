/-
  The canonical machine, part N: a region that draws its order.
-/
import Derived.Test.YtidejmkknleijaaGreatDoorFc
import Derived.ProofKit
set_option linter.unusedVariables false
set_option linter.unusedSimpArgs false
set_option linter.unnecessarySimpa false
namespace Go.bY
open Go
section
variable {P:Program} {G:Nat->U}
theorem yT {ops:Array Oper} {t i:Nat} (h:jZ ops t=some i) :∃ o,ops[i]? = some o/\o.dst=some t:=by
 unfold jZ at h;have:=List.find?_some h;cases au:ops[i]? with
 | none=>simp[au] at this
 | some o=>exact⟨o,rfl,by simpa [au] using this⟩
def sO (ops:Array Oper) (val σ:Nat->U) (da:Array Bool) :Nat->U:=fun t=>
 match jZ ops t with
 | some i=>if da.getD i false then val i else σ t
 | none=>σ t
theorem aa7 {ops:Array Oper} {pre:Nat->Nat->Bool} (hJ:sW ops pre) {da:Array Bool}
  (down:∀ (i:Nat) (o:Oper) (e:Edge),ops[i]? = some o->da.getD i false=true->e∈o.after->Region.binds .any e=true->da.getD e.on false=true)
  (cZ:∀ i,da.getD i false=true->∃ o,ops[i]? = some o) :∀ (i:Nat),da.getD i false=true->∀ j,pre i j=true->da.getD j false=true:=by
 intro i
 induction i using Nat.strongRecOn with
 | _ i aS=>
  intro az j ai;obtain⟨o,au⟩:=cZ i az;obtain⟨e,am,af,nj⟩:=hJ.chain i o j au ai;have dY:=down i o e au az am af;rcases nj with rfl | nj
  ·exact dY
  ·exact aS e.on (hJ.B0 i o e au am af) dY j nj
theorem xu (da:Array Bool) (i j:Nat) (az:i<da.size) :(da.setIfInBounds i true).getD j false=if j=i then true else da.getD j false:=by
 rw[atq,aug];by_cases h:i=j
 ·subst h; simp[az]
 ·rw[if_neg h,if_neg (Ne.symm h),atq]
theorem Ih {ops:Array Oper} {pre:Nat->Nat->Bool} (hJ:sW ops pre) {val σ:Nat->U} {da:Array Bool} {i:Nat} {o:Oper} (au:ops[i]? = some o) (az:i<da.size) :
  sO ops val σ (da.setIfInBounds i true)=hG (sO ops val σ da) o.dst (val i) :=by
 funext t;unfold sO hG;cases bb:o.dst with
 | none=>
  simp only;cases aW:jZ ops t with
  | none=>rfl
  | some j=>
   have bV:j≠i:=fun aR=>by
    obtain⟨dt,dE,tB⟩:=yT aW;rw[aR,au] at dE; cases dE;rw[bb] at tB; cases tB
   simp only[xu _ _ _ az,if_neg bV]
 | some d=>
  simp only;by_cases aV:t=d
  ·subst aV;rw[hJ.one i o t au bb];simp[xu _ _ _ az]
  ·rw[b1 _ _ _ _ aV];cases aW:jZ ops t with
   | none=>rfl
   | some j=>
    have bV:j≠i:=fun aR=>by
     obtain⟨dt,dE,tB⟩:=yT aW;rw[aR,au] at dE; cases dE;rw[bb] at tB; cases tB;exact aV rfl
    simp only[xu _ _ _ az,if_neg bV]
structure Inv (P:Program) (ops:Array Oper) (val σ:Nat->U) (W:Nat->Bool) (cls:Nat->ET) (m:Nat) (ak:Nat->Nat) (fP:Nat->aM) (gU:Nat->Nat) (N:Nat)
  (R:Nat->Prop) (B:Nat) (gQ:World) (h:aM) (sV:cg) (da:Array Bool) (k:Nat) (a:Act) (w:World) (μ:cg) :Prop where
 size:da.size=ops.size
 down:∀ (i:Nat) (o:Oper) (e:Edge),ops[i]? = some o->da.getD i false=true->e∈o.after->Region.binds .any e=true->da.getD e.on false=true
 DQ:k<=m
 done:∀ q,q<m->(da.getD (ak q) false=true<->q<k)
 ext:Ext0 gQ h sV w (fP k) μ
 ql:∀ b,b<h.n->sV b=none->μ b=none
 rel:bI R B w (fP k) μ
 wC:iy N w R (fP k) μ (sO ops val σ da) a
 Ec:∀ (i:Nat) (o:Oper),ops[i]? = some o->W i=true->cls i=.new->da.getD i false=false->μ (gU i)=none
theorem ahg {ops:Array Oper} {da:Array Bool} (hX:da.size=ops.size) (i:Nat) (az:da.getD i false=true) :∃ o,ops[i]? = some o:=by
 have:i<ops.size:=by
  rcases aub i da.size with ad | ad
  ·omega
  ·simp[atq,auU ad] at az
 exact⟨ops[i],by simp[this]⟩
theorem Zs {ops:Array Oper} {pre:Nat->Nat->Bool} (hJ:sW ops pre) {da:Array Bool} (hX:da.size=ops.size) (ay:Region.ready .any ops da=[]) :∀ i,i<ops.size->da.getD i false=true:=by
 intro i
 induction i using Nat.strongRecOn with
 | _ i aS=>
  intro az;cases al:da.getD i false with
  | true=>rfl
  | false=>
   exfalso;have h7:i∈Region.ready .any ops da:=by
    refine mem_ready.2 ⟨?_,ops[i],by simp[az],fun e am af=>aS e.on (hJ.B0 i ops[i] e (by simp[az]) am af) (by
     have:=hJ.B0 i ops[i] e (by simp[az]) am af;omega)⟩
    have aK:i<da.size:=by omega
    simpa [atq,aK] using al
   rw[ay] at h7;cases h7
theorem abb (fz:P.follows .mixedOrders=true) (h4:∀ g,(G g).closed=true) :On P G:=by
 intro id ops N σ h bE h' pre val W cls m ak fP rO gU cells hJ pO aI hm Ha xJ CQ kE qU sj G3 GU xY F8 F9 pP vw;refine⟨0,fun R B gQ sV a0 Q nC ce s0 mQ=>wp_region_any fz ?_⟩;obtain⟨fm,mi⟩:=wq nC ⟨(RowKit.Below.refl gQ.heap.size gQ).drew,Nat.le_succ _⟩;obtain⟨aQ,rA⟩:=aI.rel mi;have Rv:=fm.trans aQ
 -- the end
 have fin:∀ (da:Array Bool) (k:Nat) (a:Act) (w:World) (μ:cg),Inv P ops val σ W cls m ak fP gU N R B gQ h sV da k a w μ->(∀ i,i<ops.size->da.getD i false=true)->Q .normal a w:=by
  intro da k a w μ inv dL;have ar:k=m:=by
   rcases aub k m with aK | vz
   ·obtain⟨o,au,_⟩:=CQ k aK;have al:=dL (ak k) ((att.1 au).1);have:=(inv.done k aK).1 al;omega
   ·have:=inv.DQ; omega
  subst ar;have afr:sO ops val σ da=bE:=by
   rw[Ha];funext t;unfold sO;cases aW:jZ ops t with
   | none=>rfl
   | some i=>
    obtain⟨o,au,_⟩:=yT aW;simp only[dL i ((att.1 au).1),if_true]
  subst hm;have bS:=inv.wC;rw[afr] at bS;exact mQ a w μ ⟨inv.ext,inv.ql⟩ inv.rel bS
 have key:∀ (fuel:Nat) (da:Array Bool) (k:Nat) (a:Act) (w:World) (μ:cg),Inv P ops val σ W cls m ak fP gU N R B gQ h sV da k a w μ->da.toList.count false=fuel->wpAny P .any ops Q fuel da a w:=by
  intro fuel
  induction fuel with
  | zero=>
   intro da k a w μ inv S3;have dL:∀ i,i<ops.size->da.getD i false=true:=by
    intro i az;have aK:i<da.size:=by rw[inv.size]; exact az
    cases al:da[i] with
    | true=>simp[atq,aK,al]
    | false=>
     exfalso;have h7:false∈da.toList:=by rw[<-al]; simp
     have:=List.count_pos_iff.2 h7;omega
   refine⟨?_,fin da k a w μ inv dL⟩;cases ay:Region.ready .any ops da with
   | nil=>rfl
   | cons i l=>
    exfalso;have h7:i∈Region.ready .any ops da:=by rw[ay]; simp
    obtain⟨ad,o,au,_⟩:=mem_ready.1 h7;have az:=(att.1 au).1;have ae:=dL i az;have aK:i<da.size:=by rw[inv.size]; exact az
    simp[atq,aK] at ad ae;rw[ad] at ae; cases ae
  | succ fuel aS=>
   intro da k a w μ inv S3;refine⟨fun ay=>fin da k a w μ inv (Zs hJ inv.size ay),fun i az=>?_⟩;obtain⟨ad,o,au,S9⟩:=mem_ready.1 az;have aK:i<da.size:=by rw[inv.size]; exact (att.1 au).1
   have kD:da.getD i false=false:=by simpa [atq,aK] using ad
   have zN:=aa7 hJ inv.down (ahg inv.size)
   -- what comes before i is done
   have Lh:∀ j,pre i j=true->da.getD j false=true:=by
    intro j ai;obtain⟨e,am,af,nj⟩:=hJ.chain i o j au ai;have dY:=S9 e am af;rcases nj with rfl | nj
    ·exact dY
    ·exact zN e.on dY j nj
   have T0:∀ j,da.getD j false=true->pre j i=true->False:=fun j ai av=>by
    have:=zN j ai i av;rw[kD] at this; cases this
   have Te:zy pre m ak i k:=⟨inv.DQ,fun q bj av=>(inv.done q bj).1 (Lh _ av),fun q bj av=>by
    rcases aub q k with kA | vz
    ·exact (T0 _ ((inv.done q bj).2 kA) av).elim
    ·exact vz⟩
   -- what i sees
   have Tc:∀ t,aN w R (fP k) μ (nb ops pre val σ i o t) (a.tmps.getD t undef) :=by
    intro t;unfold nb;split
    ·rename_i aV;have G4:t∈o.looksAt ops:=by simpa using aV
     have ap:=inv.wC.val t;unfold sO at ap;cases aW:jZ ops t with
     | none=>rw[aW] at ap; exact ap
     | some j=>
      rw[aW] at ap;simp only at ap ⊢;by_cases av:pre i j=true
      ·rw[if_pos av];rw[if_pos (Lh j av)] at ap;exact ap
      ·rw[if_neg av];have aeL:da.getD j false=false:=by
        rcases hJ.acc i o t j au G4 aW with aR | aR | rfl
        ·exact absurd aR av
        ·cases vB:da.getD j false with
         | false=>rfl
         | true=>exact (T0 j vB aR).elim
        ·exact kD
       rw[aeL] at ap;exact ap
    ·exact .bad _
   have Ti:mm G w R (fP k) μ:=fun g=>⟨h4 g,(ce g).2.mA inv.ext⟩
   have c1:∀ x,aN w R (fP k) μ (cS G (nb ops pre val σ i o) x) (a.eval x) :=by
    intro x;cases x with
    | tmp t=>exact Tc t
    | const v=>exact aN.we v
    | global g=>exact (Ti g).2
    | func f=>exact .fn f [] [] #[] #[] rfl rfl (fun _ _ _ aR=>by simp at aR) (fun _ _ _ aR=>by simp at aR)
   have Ui:=N7 (w:=w) (R:=R) (h:=fP k) (μ:=μ) (tmps:=a.tmps) (sj i o au) (fun d _=>Tc d);have Gi:(da.setIfInBounds i true).toList.count false=fuel:=by
    have af:da.toList[i]'(by simpa using aK)=false:=by
     have:da[i]=false:=by simpa [atq,aK] using ad
     simpa using this
    rw[Array.toList_setIfInBounds,List.count_set (by simpa using aK)];simp[af,S3]
   have G2:(da.setIfInBounds i true).size=ops.size:=by simp[inv.size]
   have Gl:∀ (j:Nat) (dt:Oper) (e:Edge),ops[j]? = some dt->(da.setIfInBounds i true).getD j false=true->e∈dt.after->Region.binds .any e=true->(da.setIfInBounds i true).getD e.on false=true:=by
    intro j dt e dE ai am af;rw[xu _ _ _ aK] at ai ⊢;by_cases jw:j=i
    ·subst jw;rw[au] at dE; cases dE;rw[S9 e am af]; split<;>rfl
    ·rw[if_neg jw] at ai;rw[inv.down j dt e dE ai am af]; split<;>rfl
   -- the next state,when no block of others' is turned
   have sg:(W i=true->cls i≠.gL)->∀ q,q<m->((da.setIfInBounds i true).getD (ak q) false=true<->q<k) :=by
    intro bV q bj;obtain⟨dt,dE,eN,ah⟩:=CQ q bj;have:ak q≠i:=fun aR=>by
     rw[aR] at eN ah;exact bV eN ah
    rw[xu _ _ _ aK,if_neg this];exact inv.done q bj
   have GR:∀ (j:Nat),(da.setIfInBounds i true).getD j false=false->j≠i/\da.getD j false=false:=by
    intro j ai;rw[xu _ _ _ aK] at ai;by_cases jw:j=i
    ·rw[if_pos jw] at ai; cases ai
    ·rw[if_neg jw] at ai; exact⟨jw,ai⟩
   unfold wpOp;simp only[au];cases eN:W i with
   | false=>
    rw[Ui,eN];simp only[auh,if_false];refine aS _ k _ w μ ⟨G2,Gl,inv.DQ,sg (fun aR=>by rw[eN] at aR; cases aR),inv.ext,inv.ql,inv.rel,?_,fun j dt dE r4 mF ai=>inv.Ec j dt dE r4 mF (GR j ai).2⟩ Gi;rw[Ih hJ au aK];exact inv.wC.put (pO i o au) (by rw[G3 i o au eN]; exact EG)
   | true=>
    rw[Ui,eN];simp only[if_true];left;cases ah:cls i with
    | pure=>
     have b3:=GU i o au eN ah k Te;obtain⟨v,w',μ',ay,e,r,ap⟩:=NH (P:=P) inv.rel c1 o b3;have TN:wpAny P .any ops Q fuel (da.setIfInBounds i true) (a.put o.dst v) w':=by
      refine aS _ k _ w' μ' ⟨G2,Gl,inv.DQ,sg (fun _ aR=>by rw[ah] at aR; cases aR),inv.ext.trans e.toExt0,fun b af mb=>e.ql b (auB af inv.ext.n) (inv.ql b af mb),r,?_,fun j dt dE r4 mF ai=>?_⟩ Gi
      ·rw[Ih hJ au aK];exact (inv.wC.ext e).put (pO i o au) ap
      ·have aC:=inv.Ec j dt dE r4 mF (GR j ai).2;rcases aub (gU j) (fP k).n with af | af
       ·exact e.ql _ af aC
       ·exact r.lf _ af
     unfold Oper.wp;rcases ay with ay | ⟨ay,rfl⟩
     ·rw[ay]; exact TN
     ·rw[ay]; exact TN
    | new=>
     obtain⟨mk,aC,Al,oR,iA⟩:=xY i o au eN ah;obtain⟨v,arr,t,ay,cJ,K2⟩:=ahX (P:=P) c1 o aC;have ed:=iA k Te;have adj:=inv.Ec i o au eN ah kD;have aoW:gU i<(fP k).n:=by
      rcases aub (gU i) (fP k).n with af | af
      ·exact af
      ·rw[inv.rel.fresh _ af] at ed; cases ed
     have pW:∀ b b9,μ b=some b9->b≠gU i:=fun b b9 af aR=>by rw[aR,adj] at af; cases af
     have e:Ext0 w (fP k) μ (w.alloc (.cells arr t)) (fP k) (bw μ (gU i) (some ⟨w.heap.size,0,arr.size⟩)) :=by
      refine⟨rfl,rfl,rfl,by simp,fun x ag _=>?_,?_,fun b sz cs b9 af hm=>.inl ⟨cs,af,by rw[b1 _ _ _ _ (pW b b9 hm)]; exact hm⟩,fun _ _ aw=>aw,fun b k b9 af hm=>⟨af,by rw[b1 _ _ _ _ (pW b b9 hm)]; exact hm⟩,as3 _,as3 _⟩
      ·exact RowKit.Below.heap_alloc w _ x ag
      ·rintro x ⟨b,b9,al,hm,rfl⟩;by_cases af:b=gU i
       ·subst af; simp at hm; subst hm; exact .inr (as3 _)
       ·rw[b1 _ _ _ _ af] at hm;exact .inl ⟨b,b9,al,hm,rfl⟩
     have r:bI R B (w.alloc (.cells arr t)) (fP k) (bw μ (gU i) (some ⟨w.heap.size,0,arr.size⟩)) :=by
      refine inv.rel.uC e (gU i) (fun b af al=>⟨rfl,b1 _ _ _ _ af,fun b9 hm=>RowKit.Below.heap_alloc w _ _ (inv.rel.lt al hm)⟩) (fun b9 hm=>?_) (fun b b9 arL af al _ hm bR=>?_) (fun b9 _ hm=>?_) inv.rel.fresh (fun b af=>?_)
      ·simp at hm; subst hm;rw[ed];refine⟨rfl,by simp[cJ.1],arr,t,(0,0),heap_alloc_new w _,rfl,.inl rfl,fun j c ai=>?_⟩;obtain⟨u,a2,bd,b4⟩:=cJ.2 j c ai;exact⟨u,by simpa using a2,bd,b4.mA e⟩
      ·simp at bR; subst bR;have:=inv.rel.lt al hm;simp only[ne_eq]; omega
      ·simp at hm; subst hm;exact inv.rel.size
      ·rw[b1 _ _ _ _ (by omega)];exact inv.rel.lf b af
     have ap:aN (w.alloc (.cells arr t)) R (fP k) (bw μ (gU i) (some ⟨w.heap.size,0,arr.size⟩)) (val i) v:=by
      rw[Al];exact K2 _ _ _ _ _ ed (by simp)
     unfold Oper.wp;rw[ay];refine aS _ k _ _ _ ⟨G2,Gl,inv.DQ,sg (fun _ aR=>by rw[ah] at aR; cases aR),inv.ext.trans e,fun b af mb=>by rw[b1 _ _ _ _ (by omega)]; exact inv.ql b af mb,r,?_,fun j dt dE r4 mF ai=>?_⟩ Gi
     ·rw[Ih hJ au aK];have Lr:iy N (w.alloc (.cells arr t)) R (fP k) (bw μ (gU i) (some ⟨w.heap.size,0,arr.size⟩)) (sO ops val σ da) a:=⟨inv.wC.size,inv.wC.defers,fun gx=>(inv.wC.val gx).mA e⟩
      exact Lr.put (pO i o au) ap
     ·obtain⟨jw,vB⟩:=GR j ai;rw[b1 _ _ _ _ (fun aR=>jw (F8 j i dt o dE au r4 eN mF ah aR))];exact inv.Ec j dt dE r4 mF vB
    | gL=>
     obtain⟨q,bj,rfl⟩:=xJ i o au eN ah;have Dg:q=k:=by
      have ae:¬ q<k:=fun aR=>by
       have:=(inv.done q bj).2 aR;rw[kD] at this; cases this
      rcases aub k q with kA | vz
      ·have qW:k<m:=by omega
       have:=Lh (ak k) (kE k q qW bj kA);have:=(inv.done k qW).1 this;omega
      ·omega
     subst Dg;refine vw q o bj au R B w μ a o _ Q rfl inv.rel Ti c1 fun v w' μ' e r ap=>?_
     obtain⟨bx,dU⟩:=(pP q bj).rel r;have fc:=e.trans bx;refine aS _ (q+1) _ w' μ' ⟨G2,Gl,by omega,fun dQ k7=>?_,inv.ext.trans fc.toExt0,fun b af mb=>fc.ql b (auB af inv.ext.n) (inv.ql b af mb),dU,?_,fun j dt dE r4 mF ai=>?_⟩ Gi
     ·rw[xu _ _ _ aK];by_cases GV:dQ=q
      ·subst GV; simp
      ·rw[if_neg (fun aR=>GV (qU dQ q k7 bj aR)),inv.done dQ k7];omega
     ·rw[Ih hJ au aK];exact (inv.wC.ext fc).put (pO _ o au) (ap.ext bx)
     ·have aC:=inv.Ec j dt dE r4 mF (GR j ai).2;rcases F9 j dt q dE r4 mF bj with af | af
      ·exact e.ql _ af aC
      ·exact r.lf _ af
 have aed:Inv P ops val σ W cls m ak fP gU N R B gQ h sV (Array.replicate ops.size false) 0 a0 gQ.drew sV:=by
  have aE:∀ i,(Array.replicate ops.size false).getD i false=false:=by
   intro i;rw[atq,avg];split<;>rfl
  refine⟨by simp,(fun i o e _ az _ _=>by rw[aE] at az; cases az),auc _,(fun q bj=>by rw[aE]; simp),Rv.toExt0,fun b af mb=>mb,rA,?_,fun i o au eN ah _=>?_⟩
  ·have bS:sO ops val σ (Array.replicate ops.size false)=σ:=by
    funext t;unfold sO;cases aW:jZ ops t with
    | none=>rfl
    | some i=>simp only[aE]; simp
   rw[bS];exact s0.ext Rv
  ·obtain⟨mk,aC,Al,oR,iA⟩:=xY i o au eN ah;exact nC.lf _ oR
 exact key _ _ 0 a0 gQ.drew sV aed (by simp)
theorem Ey (fz:P.follows .mixedOrders=true) (h4:∀ g,(G g).closed=true) {j:J} (ai:dv P G j) :w8 P G j:=akS (abb fz h4) ai
end

section
variable {P:Program} {G:Nat->U}
theorem MT {aA dZ:Operand->U} (ps:Array (Nat × Operand)) (h:∀ x∈(ps.toList.map (·.2)),aA x=dZ x) :(ps.toList.map fun p=>(p.1,aA p.2))=(ps.toList.map fun p=>(p.1,dZ p.2)) :=
 aup fun p av=>by rw[h p.2 (atx.2 ⟨p,av,rfl⟩)]
theorem Mv {aA dZ:Operand->U} (xs:Array Operand) (h:∀ x∈xs,aA x=dZ x) :xs.toList.map aA=xs.toList.map dZ:=
 aup fun x ag=>h x (by simpa using ag)
theorem MN {aA dZ:Operand->U} (o:Option Operand) (h:∀ x∈o.toArray,aA x=dZ x) :o.map aA=o.map dZ:=by
 cases o with
 | none=>rfl
 | some x=>simp[h x (by simp)]
theorem NG {aA dZ:Operand->U} (h:aM) (op:Op) (ag:∀ x∈op.operands,aA x=dZ x) :cW P h aA op=cW P h dZ op:=by
 cases op<;>simp only[Op.operands] at ag<;>try rfl
 case build t ps=>simp only[cW]; rw[MT ps (fun x hm=>ag x (by simpa using hm))]
 case buildSlice t n ps=>simp only[cW]; rw[MT ps (fun x hm=>ag x (by simpa using hm))]
 case makeFunc fn first gn=>
  cases fn<;>simp only[cW];rw[Mv first (fun x hm=>ag x (by simp[hm])),Mv gn (fun x hm=>ag x (by simp[hm]))]
 case slice t x cG az cH=>
  simp only[cW];rw[ag x (by simp),MN cG (fun y hm=>ag y (by simp at hm ⊢; simp[hm])),MN az (fun y hm=>ag y (by simp at hm ⊢; simp[hm])),MN cH (fun y hm=>ag y (by simp at hm ⊢; simp[hm]))]
 case call c=>
  have aB:c.args.toList.map aA=c.args.toList.map dZ:=Mv c.args (fun x hm=>ag x (by simp[Call.operands,hm]));simp only[cW,u1,aB];cases ah:c.callee with
  | value f=>dsimp only; rw[ag f (by simp[Call.operands,ah])]
  | invoke x name=>dsimp only; rw[ag x (by simp[Call.operands,ah])]
  | _=>rfl
 case makeMap t r=>
  cases r with
  | none=>rfl
  | some x=>simp only[cW]; rw[ag x (by simp)]
 case next it b=>
  cases b with
  | false=>rfl
  | true=>simp only[cW]; rw[ag it (by simp)]
 all_goals (simp only[cW]; simp_all)
theorem ahW {aA dZ:Operand->U} (op:Op) (ag:∀ x∈op.operands,aA x=dZ x) :nA P aA op=nA P dZ op:=by
 cases op<;>simp only[Op.operands] at ag<;>try rfl
 case box t x=>simp only[nA]; rw[ag x (by simp)]
 case buildSlice t n ps=>simp only[nA]; rw[MT ps (fun x hm=>ag x (by simpa using hm))]
 case makeSlice t l c=>simp only[nA]; rw[ag l (by simp),ag c (by simp)]
theorem abE {σ bE:Nat->U} {h h' : aM} {v:U} {op:Op} (ag:∀ x∈op.operands,cS G σ x=cS G bE x) (am:dv P G (.op op σ h v h')) :dv P G (.op op bE h v h') :=by
 generalize ai:J.op op σ h v h'=j at am
 induction am generalizing v h'<;>cases ai
 case HI ak=>exact .HI (by rw[<-NG h op ag]; exact ak)
 case AM=>exact .AM (by rw[<-NG h op ag]; assumption) (by assumption)
 case Iv=>exact .Iv (by first | (rename_i aS; exact aS rfl) | (rename_i aS _; exact aS rfl) | (rename_i aS _ _; exact aS rfl)) (by assumption) (by assumption)
inductive bM where
 | skip (i:Nat)
 | pure (i:Nat) (v:U)
 | new (i:Nat) (v:U) (cs:List U)
 | gL (i:Nat) (v:U) (ad:aM)
def bM.idx:bM->Nat
 | .skip i | .pure i _ | .new i _ _ | .gL i _ _=>i
def bM.val:bM->U
 | .skip _=>gy
 | .pure _ v | .new _ v _ | .gL _ v _=>v
def bM.jz:bM->Bool
 | .gL ..=>true
 | _=>false
def bM.tY:bM->Bool
 | .skip _=>true
 | _=>false
def bM.cls:bM->ET
 | .skip _ | .pure ..=>.pure
 | .new ..=>.new
 | .gL ..=>.gL
def bM.cs:bM->List U
 | .new _ _ cs=>cs
 | _=>[]
structure nQ where
 σ:Nat->U
 h:aM
def xn (ops:Array Oper) (i:Nat) :Option Tmp:=(ops[i]?).bind (·.dst)
def p6 (h:aM) :bM->aM
 | .skip _ | .pure ..=>h
 | .new _ _ cs=>h.push (.cells cs.length cs)
 | .gL _ _ ad=>ad
def mf (ops:Array Oper) (s:nQ) (t:bM) :nQ:=⟨hG s.σ (xn ops t.idx) t.val,p6 s.h t⟩
def g6 (ops:Array Oper) (s0:nQ) (tr:List bM) (p:Nat) :nQ:=(tr.take p).foldl (mf ops) s0
theorem A8 {ops:Array Oper} {s0:nQ} {tr:List bM} {p:Nat} {t:bM} (h:tr[p]? = some t) :g6 ops s0 tr (p+1)=mf ops (g6 ops s0 tr p) t:=by
 unfold g6;have aK:p<tr.length:=(as0.1 h).1;rw[List.take_succ_eq_append_getElem aK,avm];have:tr[p]=t:=(as0.1 h).2;simp[this]
def w9 (P:Program) (G:Nat->U) (ops:Array Oper) (s:nQ) :bM->Prop
 | .skip i=>∃ o,ops[i]? = some o/\kT ops s.σ o=some false
 | .pure i v=>∃ o,ops[i]? = some o/\kT ops s.σ o=some true
 | .new i v cs=>∃ o mk,ops[i]? = some o/\kT ops s.σ o=some true/\nA P (cS G s.σ) o.op=some (cs,mk)/\v=mk s.h.n
 | .gL i v ad=>∃ o,ops[i]? = some o/\kT ops s.σ o=some true/\dv P G (.op o.op s.σ s.h v ad)/\s.h.n<=ad.n
def IQ (P:Program) (G:Nat->U) (ops:Array Oper) (s:nQ) (h:aM) :bM->Prop
 | .pure i v=>∀ o,ops[i]? = some o->cW P h (cS G s.σ) o.op=some (.val v h)
 | .new _ _ cs=>h.f s.h.n=.cells cs.length cs
 | _=>True
structure yY (ops:Array Oper) (pre:Nat->Nat->Bool) (tr:List bM) :Prop where
 hJ:sW ops pre
 all:∀ i,i<ops.size->∃ (p:Nat) (t:bM),tr[p]? = some t/\t.idx=i
 inj:∀ (p ci:Nat) (t gx:bM),tr[p]? = some t->tr[ci]? = some gx->t.idx=gx.idx->p=ci
 H6:∀ (p:Nat) (t:bM),tr[p]? = some t->t.idx<ops.size
 X3:∀ (p ci:Nat) (t gx:bM),tr[p]? = some t->tr[ci]? = some gx->p<ci->pre t.idx gx.idx=false
 eager:∀ (p ci:Nat) (t gx:bM),tr[p]? = some t->tr[ci]? = some gx->p<ci->t.jz=true->pre gx.idx t.idx=true
structure IR (P:Program) (G:Nat->U) (ops:Array Oper) (pre:Nat->Nat->Bool) (s0:nQ) (tr:List bM) :Prop where
 step:∀ (p:Nat) (t:bM),tr[p]? = some t->w9 P G ops (g6 ops s0 tr p) t
 still:∀ (q:Nat),(q=tr.length\/∃ t:bM,tr[q]? = some t/\t.jz=true)->∀ (p:Nat) (t:bM),p<q->tr[p]? = some t->
  (∀ (ci:Nat) (gx:bM),ci<q->tr[ci]? = some gx->gx.jz=true->pre gx.idx t.idx=false)->IQ P G ops (g6 ops s0 tr p) (g6 ops s0 tr q).h t
def ea (tr:List bM) (i:Nat) :Nat:=tr.findIdx fun t=>t.idx == i
theorem yy {ops:Array Oper} {pre:Nat->Nat->Bool} {tr:List bM} (gv:yY ops pre tr) {i:Nat} (az:i<ops.size) :∃ t,tr[ea tr i]? = some t/\t.idx=i:=by
 obtain⟨p,t,av,aV⟩:=gv.all i az;have aK:p<tr.length:=(as0.1 av).1;have h7:∃ x∈tr,(x.idx == i)=true:=⟨t,ata av,by simpa using aV⟩
 have tE:ea tr i<tr.length:=List.findIdx_lt_length_of_exists h7;have:=List.findIdx_getElem (w:=tE);exact⟨tr[ea tr i],by simp[tE],by unfold ea; simpa using this⟩
theorem HO {ops:Array Oper} {pre:Nat->Nat->Bool} {tr:List bM} (gv:yY ops pre tr) {p:Nat} {t:bM} (av:tr[p]? = some t) :ea tr t.idx=p:=by
 obtain⟨gx,ad,ae⟩:=yy gv (gv.H6 p t av);exact gv.inj _ _ _ _ ad av ae
theorem Xx {ops:Array Oper} {pre:Nat->Nat->Bool} {tr:List bM} (gv:yY ops pre tr) (s0:nQ) :∀ p,p<=tr.length->∀ t,
  (g6 ops s0 tr p).σ t=match jZ ops t with | some j=>(if ea tr j<p then ((tr[ea tr j]?).map bM.val).getD .bad else s0.σ t) | none=>s0.σ t:=by
 intro p
 induction p with
 | zero=>
  intro _ t;simp only[g6,aui,List.foldl_nil];cases jZ ops t<;>simp
 | succ p aS=>
  intro av t;have aK:p<tr.length:=by omega
  have fI:tr[p]? = some tr[p] :=as4 aK;rw[A8 fI];simp only[mf];have Da:=aS (by omega) t;have q3:=HO gv fI;have afi:=gv.H6 p _ fI;have iD:ops[tr[p].idx]? = some ops[tr[p].idx] :=by simp[afi]
  cases bb:xn ops tr[p].idx with
  | none=>
   simp only[hG,Da];cases aW:jZ ops t with
   | none=>rfl
   | some j=>
    simp only;obtain⟨o,au,K8⟩:=yT aW;have bV:ea tr j≠p:=by
     intro aR;obtain⟨NR,ad,ae⟩:=yy gv ((att.1 au).1);rw[aR,fI] at ad;cases ad;rw[<-ae] at au;simp only[xn,au,auI] at bb;rw[K8] at bb; cases bb
    by_cases kA:ea tr j<p
    ·rw[if_pos kA,if_pos (by omega)]
    ·rw[if_neg kA,if_neg (by omega)]
  | some d=>
   simp only[hG];by_cases aV:t=d
   ·subst aV;have pO:ops[tr[p].idx].dst=some t:=by simpa [xn,iD] using bb
    rw[hB,gv.hJ.one _ _ t iD pO];simp[q3,fI]
   ·rw[b1 _ _ _ _ aV,Da];cases aW:jZ ops t with
    | none=>rfl
    | some j=>
     simp only;obtain⟨o,au,K8⟩:=yT aW;have bV:ea tr j≠p:=by
      intro aR;obtain⟨NR,ad,ae⟩:=yy gv ((att.1 au).1);rw[aR,fI] at ad;cases ad;rw[<-ae] at au;simp only[xn,au,auI] at bb;rw[K8] at bb; cases bb;exact aV rfl
     by_cases kA:ea tr j<p
     ·rw[if_pos kA,if_pos (by omega)]
     ·rw[if_neg kA,if_neg (by omega)]
theorem ai2 {ops:Array Oper} {pre:Nat->Nat->Bool} (hJ:sW ops pre) (cZ:∀ (i:Nat) (o:Oper) (e:Edge),ops[i]? = some o->e∈o.after->Region.binds .any e=true->∃ dt,ops[e.on]? = some dt) :∀ (i:Nat) (o:Oper),ops[i]? = some o->∀ j,pre i j=true->j<i:=by
 intro i
 induction i using Nat.strongRecOn with
 | _ i aS=>
  intro o au j ai;obtain⟨e,am,af,nj⟩:=hJ.chain i o j au ai;have aK:=hJ.B0 i o e au am af;rcases nj with rfl | nj
  ·exact aK
  ·obtain⟨dt,dE⟩:=cZ i o e au am af;have:=aS e.on aK dt dE j nj;omega
theorem ah8 {ops:Array Oper} {pre:Nat->Nat->Bool} (hJ:sW ops pre) (i:Nat) (o:Oper) (au:ops[i]? = some o) (av:pre i i=true) :False:=by
 have:=ai2 hJ (fun i o e au am af=>by
  have ad:=hJ.B0 i o e au am af;have ae:=(att.1 au).1;exact⟨ops[e.on]'(by omega),by simp⟩) i o au i av
 omega
theorem RC {ops:Array Oper} {pre:Nat->Nat->Bool} {tr:List bM} (gv:yY ops pre tr) (s0:nQ) {i:Nat} {o:Oper} (au:ops[i]? = some o) {t:Nat} (aV:t∈o.looksAt ops) :
  nb ops pre (fun j=>((tr[ea tr j]?).map bM.val).getD .bad) s0.σ i o t=(g6 ops s0 tr (ea tr i)).σ t:=by
 have az:i<ops.size:=(att.1 au).1;obtain⟨df,ad,ae⟩:=yy gv az;have dY:ea tr i<=tr.length:=auC (as0.1 ad).1;rw[Xx gv s0 _ dY];unfold nb;rw[if_pos (by simpa using aV)];cases aW:jZ ops t with
 | none=>rfl
 | some j=>
  simp only;obtain⟨VR,aeZ,_⟩:=yT aW;obtain⟨NR,aj,aF⟩:=yy gv ((att.1 aeZ).1);have key:pre i j=true<->ea tr j<ea tr i:=by
   constructor
   ·intro av;rcases auj (ea tr j) (ea tr i) with h | h | h
    ·exact h
    ·exfalso;rw[h,ad] at aj;cases aj;have nk:i=j:=by rw[<-ae,<-aF]
     subst nk;exact ah8 gv.hJ i o au av
    ·have:=gv.X3 _ _ _ _ ad aj h;rw[ae,aF] at this;rw[this] at av; cases av
   ·intro aK;rcases gv.hJ.acc i o t j au aV aW with aR | aR | rfl
    ·exact aR
    ·have:=gv.X3 _ _ _ _ aj ad aK;rw[ae,aF] at this;rw[this] at aR; cases aR
    ·omega
  by_cases av:pre i j=true
  ·rw[if_pos av,if_pos (key.1 av)]
  ·rw[if_neg av,if_neg (fun aR=>av (key.2 aR))]
def e1 (tr:List bM) :List Nat:=(List.range tr.length).filter fun p=>((tr[p]?).map bM.jz).getD false
theorem HA {tr:List bM} {p:Nat}:p∈e1 tr<->∃ t,tr[p]? = some t/\t.jz=true:=by
 unfold e1;rw[at6,atA];constructor
 ·rintro⟨ad,ae⟩;refine⟨tr[p],by simp[ad],?_⟩;simpa [ad] using ae
 ·rintro⟨t,ad,ae⟩;exact⟨(as0.1 ad).1,by simp[ad,ae]⟩
theorem vm {tr:List bM} {q dQ:Nat} (bj:q<dQ) (k7:dQ<(e1 tr).length) :(e1 tr).getD q 0<(e1 tr).getD dQ 0:=by
 have av:(e1 tr).Pairwise (· < ·) :=List.Pairwise.filter _ List.pairwise_lt_range;have:=au9.1 av q dQ (by omega) k7 bj;simpa [List.getD,k7,show q<(e1 tr).length by omega] using this
theorem RA {tr:List bM} {q:Nat} (bj:q<(e1 tr).length) :∃ t,tr[(e1 tr).getD q 0]? = some t/\t.jz=true:=by
 apply HA.1;simp[List.getD,bj]
theorem Fz {tr:List bM} {p:Nat} (av:p∈e1 tr) :∃ q,q<(e1 tr).length/\(e1 tr).getD q 0=p:=by
 obtain⟨q,bj,rfl⟩:=List.getElem_of_mem av;exact⟨q,bj,by simp[List.getD,bj]⟩
theorem DZ {ops:Array Oper} {pre:Nat->Nat->Bool} {s0:nQ} {tr:List bM} (qi:IR P G ops pre s0 tr) :∀ (k p:Nat),p+k<=tr.length->(g6 ops s0 tr p).h.n<=(g6 ops s0 tr (p+k)).h.n
 | 0,p,_=>as3 _
 | k+1,p,av=>by
  have aS:=DZ qi k p (by omega);have aK:p+k<tr.length:=by omega
  have fI:tr[p+k]? = some tr[p+k] :=as4 aK;have ak:=qi.step _ _ fI;rw[show p+(k+1)=(p+k)+1 from rfl,A8 fI];refine atR aS ?_;cases aV:tr[p+k] with
  | skip i=>simp[mf,p6]
  | pure i v=>simp[mf,p6]
  | new i v cs=>simp[mf,p6,ft]
  | gL i v ad=>
   rw[aV] at ak;obtain⟨o,_,_,_,aC⟩:=ak;simpa [mf,p6] using aC
theorem J2 {ops:Array Oper} {s0:nQ} {tr:List bM}:∀ (k p:Nat),p+k<=tr.length->(∀ r,p<=r->r<p+k->r∉e1 tr)->oA (g6 ops s0 tr p).h (g6 ops s0 tr (p+k)).h
 | 0,p,_,_=>⟨[],rfl⟩
 | k+1,p,av,cU=>by
  obtain⟨l,al⟩:=J2 (ops:=ops) (s0:=s0) (tr:=tr) k p (by omega) (fun r ad ae=>cU r ad (by omega));have aK:p+k<tr.length:=by omega
  have fI:tr[p+k]? = some tr[p+k] :=as4 aK;have bV:tr[p+k].jz≠true:=fun aR=>cU (p+k) (by omega) (by omega) (HA.2 ⟨_,fI,aR⟩)
  rw[show p+(k+1)=(p+k)+1 from rfl,A8 fI];cases aV:tr[p+k] with
  | skip i=>exact⟨l,by simp[mf,p6,al]⟩
  | pure i v=>exact⟨l,by simp[mf,p6,al]⟩
  | new i v cs=>exact⟨l++[cs],by simp[mf,p6,al,wm]⟩
  | gL i v ad=>rw[aV] at bV; exact absurd rfl bV
theorem dv.aa8 {id:Nat} {ops:Array Oper} {pre:Nat->Nat->Bool} {N:Nat} {s0:nQ} {tr:List bM} (gv:yY ops pre tr) (bb:∀ (i:Nat) (o:Oper),ops[i]? = some o->jH N o.dst=true) (qi:IR P G ops pre s0 tr) :
  dv P G (.code (.region id ops true) N s0.σ s0.h .normal (g6 ops s0 tr tr.length).σ (g6 ops s0 tr tr.length).h) :=by
 -- the step that carries out operation i
 have ih:∀ (i:Nat) (o:Oper),ops[i]? = some o->∃ t,tr[ea tr i]? = some t/\t.idx=i/\w9 P G ops (g6 ops s0 tr (ea tr i)) t:=fun i o au=>by
  obtain⟨t,ad,ae⟩:=yy gv ((att.1 au).1);exact⟨t,ad,ae,qi.step _ _ ad⟩
 have amp:∀ (i:Nat) (o:Oper),ops[i]? = some o->kT ops (nb ops pre (fun j=>((tr[ea tr j]?).map bM.val).getD .bad) s0.σ i o) o=kT ops (g6 ops s0 tr (ea tr i)).σ o:=fun i o au=>by
  unfold kT;cases aw:o.guard with
  | none=>rfl
  | some fS=>
   obtain⟨j,Bj⟩:=fS;simp only;cases adD:(ops[j]?).bind (·.dst) with
   | none=>rfl
   | some d=>
    simp only;rw[RC gv s0 au (t:=d) (by simp[Oper.looksAt,aw,adD])]
 have MJ:∀ (i:Nat) (o:Oper),ops[i]? = some o->∀ x∈o.op.operands,cS G (g6 ops s0 tr (ea tr i)).σ x=cS G (nb ops pre (fun j=>((tr[ea tr j]?).map bM.val).getD .bad) s0.σ i o) x:=fun i o au x ag=>by
  cases x with
  | tmp t=>
   refine (RC gv s0 au (t:=t) ?_).symm;simp only[Oper.looksAt,atU,List.mem_filterMap];exact .inl ⟨.tmp t,by simpa using ag,rfl⟩
  | _=>rfl
 -- the moment ahead of effect k,or the end
 have NT:∀ k,k<=(e1 tr).length->∃ T,T<=tr.length/\(T=tr.length\/∃ t,tr[T]? = some t/\t.jz=true)/\(T=if k<(e1 tr).length then (e1 tr).getD k 0 else tr.length) :=fun k ar=>by
  by_cases aK:k<(e1 tr).length
  ·obtain⟨t,ad,ae⟩:=RA aK;exact⟨_,auC (as0.1 ad).1,.inr ⟨t,ad,ae⟩,by rw[if_pos aK]⟩
  ·exact⟨_,as3 _,.inl rfl,by rw[if_neg aK]⟩
 have hd:∀ q,q<(e1 tr).length->∃ t,tr[(e1 tr).getD q 0]? = some t/\t.jz=true/\((tr[(e1 tr).getD q 0]?).map bM.idx).getD 0=t.idx:=fun q bj=>by
  obtain⟨t,ad,ae⟩:=RA bj;exact⟨t,ad,ae,by rw[ad]; rfl⟩
 have XF:∀ (i:Nat) (o:Oper) (t:bM),ops[i]? = some o->tr[ea tr i]? = some t->t.idx=i->t.jz=false->∀ k,zy pre (e1 tr).length (fun q=>((tr[(e1 tr).getD q 0]?).map bM.idx).getD 0) i k->
   IQ P G ops (g6 ops s0 tr (ea tr i)) (g6 ops s0 tr (if k<(e1 tr).length then (e1 tr).getD k 0 else tr.length)).h t:=by
  intro i o t au aV Uc bV k aE;obtain⟨qW,KC,adN⟩:=aE;obtain⟨T,SJ,Kj,n3⟩:=NT k qW;rw[<-n3];have apo:ea tr i<tr.length:=(as0.1 aV).1;have ae5:ea tr i<T:=by
   by_cases aK:k<(e1 tr).length
   ·rw[if_pos aK] at n3;obtain⟨alm,ad,ae,aj⟩:=hd k aK;rw[<-n3] at ad;rcases auj (ea tr i) T with h | h | h
    ·exact h
    ·rw[h,ad] at aV;cases aV;rw[bV] at ae; cases ae
    ·have am:=gv.eager T (ea tr i) alm t ad aV h ae;have:=KC k aK (by (try simp only); rw[aj,<-Uc]; exact am);omega
   ·rw[if_neg aK] at n3;omega
  refine qi.still T Kj _ t ae5 aV (fun ci gx ir G4 gN=>?_);obtain⟨q,bj,vG⟩:=Fz (HA.2 ⟨gx,G4,gN⟩);obtain⟨asB,ad,ae,aj⟩:=hd q bj;rw[vG,G4] at ad;cases ad;have Dg:q<k:=by
   by_cases aK:k<(e1 tr).length
   ·rw[if_pos aK] at n3;rcases aub q k with h | h
    ·exact h
    ·rcases avF h with h | h
     ·subst h; omega
     ·have:=vm (tr:=tr) h bj;omega
   ·omega
  cases av:pre gx.idx t.idx with
  | false=>rfl
  | true=>
   have:=adN q bj (by (try simp only); rw[aj,<-Uc]; exact av);omega
 refine dv.draw pre (fun j=>((tr[ea tr j]?).map bM.val).getD .bad) (fun j=>((tr[ea tr j]?).map fun t=>!t.tY).getD false) (fun j=>((tr[ea tr j]?).map bM.cls).getD .pure) (e1 tr).length
  (fun q=>((tr[(e1 tr).getD q 0]?).map bM.idx).getD 0) (fun k=>(g6 ops s0 tr (if k<(e1 tr).length then (e1 tr).getD k 0 else tr.length)).h) (fun q=>(g6 ops s0 tr ((e1 tr).getD q 0+1)).h)
  (fun j=>(g6 ops s0 tr (ea tr j)).h.n) (fun j=>((tr[ea tr j]?).map bM.cs).getD []) gv.hJ bb ?_ ?_ ?_ ?_ ?_ ?_ ?_ ?_ ?_ ?_ ?_ ?_ ?_ ?_ ?_
 ·-- h0
  obtain⟨T,SJ,Kj,n3⟩:=NT 0 (auc _)
  try simp only
  rw[<-n3];have:=J2 (ops:=ops) (s0:=s0) (tr:=tr) T 0 (by omega) (fun r _ ay h7=>by
   obtain⟨q,bj,vG⟩:=Fz h7;rw[if_pos (by omega)] at n3;rcases avF (auc q) with h | h
   ·subst h; omega
   ·have:=vm (tr:=tr) h bj;omega)
  simpa [g6] using this
 ·simp
 ·-- hσ
  funext t;rw[Xx gv s0 _ (as3 _)];cases aW:jZ ops t with
  | none=>rfl
  | some j=>
   obtain⟨o,au,_⟩:=yT aW;obtain⟨NR,ad,_⟩:=yy gv ((att.1 au).1);simp only;rw[if_pos ((as0.1 ad).1)]
 ·-- heff
  intro i o au eN ah;obtain⟨t,ad,ae,_⟩:=ih i o au;simp only[ad,as9,atM] at ah;have am:t.jz=true:=by cases t<;>simp_all [bM.cls,bM.jz]
  obtain⟨q,bj,vG⟩:=Fz (HA.2 ⟨t,ad,am⟩);exact⟨q,bj,by rw[vG,ad]; exact ae⟩
 ·-- heff'
  intro q bj;obtain⟨t,ad,ae,aj⟩:=hd q bj;refine⟨ops[t.idx]'(gv.H6 _ _ ad),by rw[aj]; simp[gv.H6 _ _ ad],?_,?_⟩
  ·simp only[aj,HO gv ad,ad,as9,atM];cases t<;>simp_all [bM.tY,bM.jz]
  ·simp only[aj,HO gv ad,ad,as9,atM];cases t<;>simp_all [bM.cls,bM.jz]
 ·-- hord
  intro q dQ bj k7 aK;obtain⟨t,ad,ae,aj⟩:=hd q bj;obtain⟨gx,dH,go,mC⟩:=hd dQ k7;simp only[aj,mC];exact gv.eager _ _ t gx ad dH (vm aK k7) ae
 ·-- hinj
  intro q dQ bj k7 am;obtain⟨t,ad,ae,aj⟩:=hd q bj;obtain⟨gx,dH,go,mC⟩:=hd dQ k7;simp only[aj,mC] at am;have:=gv.inj _ _ t gx ad dH am;rcases auj q dQ with h | h | h
  ·have:=vm (tr:=tr) h k7; omega
  ·exact h
  ·have:=vm (tr:=tr) h bj; omega
 ·-- hwant
  intro i o au;rw[amp i o au];obtain⟨t,ad,ae,aj⟩:=ih i o au;simp only[ad,as9,atM];cases t with
  | skip j=>obtain⟨dt,dE,aW⟩:=aj; simp only[bM.idx] at ae; subst ae; rw[au] at dE; cases dE; exact aW
  | pure j v=>obtain⟨dt,dE,aW⟩:=aj; simp only[bM.idx] at ae; subst ae; rw[au] at dE; cases dE; exact aW
  | new j v cs=>obtain⟨dt,mk,dE,aW,_⟩:=aj; simp only[bM.idx] at ae; subst ae; rw[au] at dE; cases dE; exact aW
  | gL j v dH=>obtain⟨dt,dE,aW,_⟩:=aj; simp only[bM.idx] at ae; subst ae; rw[au] at dE; cases dE; exact aW
 ·-- hskip
  intro i o au eN;obtain⟨t,ad,ae,aj⟩:=ih i o au;simp only[ad,as9,atM] at eN ⊢;cases t<;>simp_all [bM.tY,bM.val]
 ·-- hpure
  intro i o au eN ah k aE;obtain⟨t,ad,ae,aj⟩:=ih i o au;simp only[ad,as9,atM] at eN ah;have b3:=XF i o t au ad ae (by cases t<;>simp_all [bM.cls,bM.jz]) k aE;cases t with
  | pure j v=>
   simp only[bM.idx] at ae;subst ae;have:=b3 o au;rw[NG _ _ (MJ j o au)] at this;simpa [ad,bM.val] using this
  | skip j=>simp[bM.tY] at eN
  | new j v cs=>simp[bM.cls] at ah
  | gL j v dH=>simp[bM.cls] at ah
 ·-- hnew
  intro i o au eN ah;obtain⟨t,ad,ae,aj⟩:=ih i o au;simp only[ad,as9,atM] at eN ah;cases t with
  | new j v cs=>
   obtain⟨dt,mk,dE,_,aC,ap⟩:=aj;simp only[bM.idx] at ae;subst ae;rw[au] at dE; cases dE;rw[ahW _ (MJ j o au)] at aC;refine⟨mk,by simpa [ad,bM.cs] using aC,by simpa [ad,bM.val] using ap,?_,fun k aE=>?_⟩
   ·have dY:ea tr j<=tr.length:=auC (as0.1 ad).1;have:=DZ qi (ea tr j) 0 (by omega);simpa [g6] using this
   ·have b3:=XF j o _ au ad rfl rfl k aE;simpa [IQ,ad,bM.cs] using b3
  | skip j=>simp[bM.tY] at eN
  | pure j v=>simp[bM.cls] at ah
  | gL j v dH=>simp[bM.cls] at ah
 ·-- hbid
  intro i j o dt au dE aoQ r4 fW mF af;have Si:∀ (i:Nat) (o:Oper),ops[i]? = some o->((tr[ea tr i]?).map bM.cls).getD .pure=.new->∀ p,ea tr i<p->p<=tr.length->(g6 ops s0 tr (ea tr i)).h.n<(g6 ops s0 tr p).h.n:=by
   intro i o au ah p av gZ;obtain⟨t,ad,ae,_⟩:=ih i o au;simp only[ad,as9,atM] at ah;have aF:=DZ qi (p - (ea tr i+1)) (ea tr i+1) (by omega);rw[show ea tr i+1+(p - (ea tr i+1))=p by omega,A8 ad] at aF;cases t with
   | new j v cs=>simp only[mf,p6,ft] at aF; omega
   | skip j=>simp[bM.cls] at ah
   | pure j v=>simp[bM.cls] at ah
   | gL j v dH=>simp[bM.cls] at ah
  obtain⟨t,ad,ae,_⟩:=ih i o au;obtain⟨gx,dH,go,_⟩:=ih j dt dE;have al:=(as0.1 ad).1;have dj:=(as0.1 dH).1;rcases auj (ea tr i) (ea tr j) with h | h | h
  ·have:=Si i o au fW _ h (auC dj); (try simp only at af); omega
  ·rw[h,dH] at ad; cases ad; rw[<-ae,<-go]
  ·have:=Si j dt dE mF _ h (auC al); (try simp only at af); omega
 ·-- hbid'
  intro i o q au eN ah bj;obtain⟨t,ad,ae,_⟩:=ih i o au;obtain⟨NQ,aO,aT,aZ⟩:=hd q bj;simp only[ad,as9,atM] at ah;have al:=(as0.1 ad).1;have dj:=(as0.1 aO).1;simp only[if_pos bj];rcases auj (ea tr i) ((e1 tr).getD q 0) with h | h | h
  ·left;have aF:=DZ qi ((e1 tr).getD q 0 - (ea tr i+1)) (ea tr i+1) (by omega);rw[show ea tr i+1+((e1 tr).getD q 0 - (ea tr i+1))=(e1 tr).getD q 0 by omega,A8 ad] at aF;cases t with
   | new j v cs=>simp only[mf,p6,ft] at aF; omega
   | skip j=>simp[bM.cls] at ah
   | pure j v=>simp[bM.cls] at ah
   | gL j v dH=>simp[bM.cls] at ah
  ·rw[h,aO] at ad; cases ad;cases t<;>simp_all [bM.cls,bM.jz]
  ·right;have aF:=DZ qi (ea tr i - ((e1 tr).getD q 0+1)) ((e1 tr).getD q 0+1) (by omega)
   rwa [show (e1 tr).getD q 0+1+(ea tr i - ((e1 tr).getD q 0+1))=ea tr i by omega] at aF
 ·-- hgrow
  intro q bj;obtain⟨NQ,aO,aT,aZ⟩:=hd q bj;have dj:=(as0.1 aO).1;obtain⟨T,SJ,Kj,n3⟩:=NT (q+1) (by omega)
  try simp only
  rw[<-n3];have aK:(e1 tr).getD q 0<T:=by
   by_cases h:q+1<(e1 tr).length
   ·rw[if_pos h] at n3;have:=vm (tr:=tr) (show q<q+1 by omega) h;omega
   ·rw[if_neg h] at n3; omega
  have:=J2 (ops:=ops) (s0:=s0) (tr:=tr) (T - ((e1 tr).getD q 0+1)) ((e1 tr).getD q 0+1) (by omega) (fun r ke nr h7=>by
   obtain⟨dQ,k7,vG⟩:=Fz h7;have GV:q<dQ:=by
    rcases auj q dQ with h | h | h
    ·exact h
    ·subst h; omega
    ·have:=vm (tr:=tr) h bj; omega
   by_cases h:q+1<(e1 tr).length
   ·rw[if_pos h] at n3;rcases avF (show q+1<=dQ from GV) with h' | h'
    ·subst h'; omega
    ·have:=vm (tr:=tr) h' k7; omega
   ·omega)
  rwa [show (e1 tr).getD q 0+1+(T - ((e1 tr).getD q 0+1))=T by omega] at this
 ·-- hcall
  intro q o bj au;obtain⟨NQ,aO,aT,aZ⟩:=hd q bj;have q3:=HO gv aO;simp only[aZ] at au ⊢;have ak:=qi.step _ _ aO;cases NQ with
  | gL j v ad=>
   obtain⟨dt,dE,_,am,_⟩:=ak;simp only[bM.idx] at au q3 ⊢;rw[au] at dE; cases dE;have k3:=MJ j o au;rw[q3] at k3;have:=abE k3 am;simp only[q3,aO,if_pos bj,as9,atM,bM.val];rw[A8 aO];exact this
  | skip j=>simp[bM.jz] at aT
  | pure j v=>simp[bM.jz] at aT
  | new j v cs=>simp[bM.jz] at aT
end
abbrev hn:=cy U
def look (s:hn) (t:Nat) :U:=match s.get t with | some v=>v | none=>gy
theorem Vp (s:hn) (t:Nat) (v:U) :look (s.set t v)=bw (look s) t v:=by
 funext u;simp only[look,cy.FJ,bw];by_cases h:u=t
 ·simp[h]
 ·simp[h]
def Eg (s:hn) (dst:Option Tmp) (v:U) :hn:=match dst with | some d=>s.set d v | none=>s
theorem Hq (s:hn) (dst:Option Tmp) (v:U) :look (Eg s dst v)=hG (look s) dst v:=by
 cases dst with
 | none=>rfl
 | some d=>exact Vp s d v
def AK:Nat->hn->List U->hn
 | _,s,[]=>s
 | k,s,v::vs=>AK (k+1) (s.set k v) vs
theorem Vo:∀ (vs:List U) (k:Nat) (s:hn),look (AK k s vs)=fun t=>if k<=t/\t<k+vs.length then vs.getD (t - k) gy else look s t
 | [],k,s=>by funext t; simp only[AK,atF]; rw[if_neg (by omega)]
 | v::vs,k,s=>by
  funext t;rw[AK,Vo vs (k+1),Vp];simp only[atk,bw];by_cases ad:k+1<=t/\t<k+1+vs.length
  ·rw[if_pos ad,if_pos (by omega),show t - k=(t - (k+1))+1 by omega];simp
  ·rw[if_neg ad];by_cases ae:t=k
   ·subst ae; rw[if_pos rfl,if_pos (by omega)]; simp
   ·rw[if_neg ae,if_neg (by omega)]
def Bc (m i:Nat) :Bool:=Nat.testBit m i
def vl (ms:List Nat) :List Edge->Nat
 | []=>0
 | e::es=>match Region.binds .any e with
  | true=>Nat.lor (Nat.lor (2 ^ e.on) (ms.getD e.on 0)) (vl ms es)
  | false=>vl ms es
def VB (ms:List Nat) :List Oper->List Nat
 | []=>ms
 | o::os=>VB (ms++[vl ms o.after.toList]) os
def i0 (ops:Array Oper) :List Nat:=VB [] ops.toList
def o6 (ms:List Nat) (i j:Nat) :Bool:=Bc (ms.getD i 0) j
def kJ:Op->Bool
 | .move _ | .assign _ | .pick .. | .alloc _ | .box .. | .build .. | .buildSlice .. | .load .. | .nilCheck _ | .binOp .. | .unOp .. | .convert .. | .makeInterface .. | .makeFunc .. | .makeSlice .. | .slice .. | .fieldAddr .. | .field .. | .indexAddr .. | .index .. | .extract ..=>false
 | .call c=>match c.callee with
  | .builtin .len | .builtin .cap | .builtin .min | .builtin .max=>false
  | _=>true
 | _=>true
def agw:Op->Bool
 | .move _ | .assign _ | .pick .. | .build .. | .load .. | .nilCheck _ | .binOp .. | .unOp .. | .convert .. | .makeInterface .. | .makeFunc .. | .slice .. | .fieldAddr .. | .field .. | .indexAddr .. | .index .. | .extract ..=>true
 | .call c=>match c.callee with
  | .builtin .len | .builtin .cap | .builtin .min | .builtin .max=>true
  | _=>false
 | _=>false
def MV (done:Nat) (gL:Bool) :Nat->List Nat->List Oper->Option Nat
 | i,m::ms,o::os=>match !Bc done i&&Nat.beq (Nat.land m done) m&&(kJ o.op == gL) with
  | true=>some i
  | false=>MV done gL (i+1) ms os
 | _,_,_=>none
def Nu (ms:List Nat) (os:List Oper) :Nat->Nat->List Nat
 | 0,_=>[]
 | k+1,done=>match MV done false 0 ms os with
  | some i=>i::Nu ms os k (Nat.lor done (2 ^ i))
  | none=>match MV done true 0 ms os with
   | some i=>i::Nu ms os k (Nat.lor done (2 ^ i))
   | none=>[]
def fE (ms:List Nat) (ops:Array Oper) :List Nat:=Nu ms ops.toList ops.size 0
def i5 (p:Nat->Oper->Bool) :Nat->List Oper->Bool
 | _,[]=>true
 | i,o::os=>p i o&&i5 p (i+1) os
theorem OJ {p:Nat->Oper->Bool}:∀ (l:List Oper) (i:Nat),i5 p i l=true->∀ (j:Nat) (o:Oper),l[j]? = some o->p (i+j) o=true
 | [],i,_,j,o,h=>by simp at h
 | x::l,i,h,j,o,ai=>by
  simp only[i5,as7] at h;cases j with
  | zero=>simp only[ats,Option.some.injEq] at ai; subst ai; exact h.1
  | succ j=>
   simp only[atJ] at ai;have:=OJ l (i+1) h.2 j o ai
   rwa [show i+1+j=i+(j+1) by omega] at this
def JD (t:Nat) (o:Oper) :Bool:=match o.dst with | some d=>Nat.beq d t | none=>false
def yS (t:Nat) :Nat->List Oper->Option Nat
 | _,[]=>none
 | i,o::os=>match JD t o with
  | true=>some i
  | false=>yS t (i+1) os
def JC (ms:List Nat) (ops:Array Oper) :Bool:=
 i5 (fun i o=>
  Nat.beq (ms.getD i 0) (vl ms o.after.toList) &&
  (o.after.toList.all fun e=>!Region.binds .any e||Nat.blt e.on i) &&
  (match o.dst with | some d=>(match yS d 0 ops.toList with | some j=>Nat.beq j i | none=>false) | none=>true) &&
  ((o.looksAt ops).all fun t=>match yS t 0 ops.toList with | some j=>o6 ms i j||o6 ms j i||Nat.beq j i | none=>true)) 0 ops.toList &&
 Region.noSelect ops
def HJ (ms:List Nat) :List Nat->Bool
 | []=>true
 | i::r=>(r.all fun j=>!Nat.beq i j&&!o6 ms i j)&&HJ ms r
def MQ (ms:List Nat) (ops:Array Oper) (ord:List Nat) :Bool:=
 JC ms ops&&HJ ms ord&&Nat.beq ord.length ops.size&&(ord.all fun i=>Nat.blt i ops.size)&&(List.range ops.size).all fun i=>ord.contains i
structure Y2 where
 t:bM
 s:hn
 h:aM
section
variable (P:Program) (G:Nat->U)
end
theorem JI (ms:List Nat) (j:Nat) :∀ (es:List Edge),Bc (vl ms es) j=true->∃ e∈es,Region.binds .any e=true/\(e.on=j\/o6 ms e.on j=true)
 | [],h=>by simp[vl,Bc] at h
 | e::es,h=>by
  unfold vl at h;cases af:Region.binds .any e with
  | false=>
   rw[af] at h;obtain⟨fy,ad,ae⟩:=JI ms j es h;exact⟨fy,avv _ ad,ae⟩
  | true=>
   rw[af] at h;simp only[Bc] at h;have h' : Nat.testBit ((2 ^ e.on ||| ms.getD e.on 0) ||| vl ms es) j=true:=h;rw[Nat.testBit_or,Nat.testBit_or,auQ,auQ,Nat.testBit_two_pow] at h';rcases h' with (h' | h') | h'
   ·exact⟨e,avG,af,.inl (by simpa using h')⟩
   ·exact⟨e,avG,af,.inr h'⟩
   ·obtain⟨fy,ad,ae⟩:=JI ms j es h';exact⟨fy,avv _ ad,ae⟩
theorem YI (t:Nat) :∀ (l:List Oper) (i:Nat),yS t i l=((List.range l.length).find? fun j=>match l[j]? with | some o=>o.dst == some t | none=>false).map (·+i)
 | [],i=>by simp[yS]
 | o::l,i=>by
  unfold yS;have adC:JD t o=(o.dst == some t) :=by
   unfold JD;cases o.dst with
   | none=>rfl
   | some d=>
    by_cases h:d=t
    ·subst h; simp
    ·have:Nat.beq d t=false:=jT h;simp[this,h]
  rw[adC,atk,List.range_succ_eq_map,avu];simp only[ats];cases af:(o.dst == some t) with
  | true=>simp
  | false=>
   simp only[List.find?_map];rw[YI t l (i+1)];have:((fun j=>match (o::l)[j]? with | some o=>o.dst == some t | none=>false) ∘ Nat.succ)=fun j=>match l[j]? with | some o=>o.dst == some t | none=>false:=by
    funext j; simp
   rw[this];cases (List.range l.length).find? (fun j=>match l[j]? with | some o=>o.dst == some t | none=>false) with
   | none=>rfl
   | some j=>simp; omega
theorem YH (ops:Array Oper) (t:Nat) :yS t 0 ops.toList=jZ ops t:=by
 rw[YI];unfold jZ;simp only[auk,auN,ave,Option.map_id_fun',id_eq];congr 1
theorem aa9 {ms:List Nat} {ops:Array Oper} (h:JC ms ops=true) :sW ops (o6 ms) :=by
 unfold JC at h;rw[as7] at h;obtain⟨h,ak⟩:=h;have key:∀ (i:Nat) (o:Oper),ops[i]? = some o->_:=fun i o au=>OJ _ 0 h i o (by simpa using au)
 simp only[aue,as7] at key;refine⟨fun i o e au am af=>?_,fun i o j au av=>?_,fun i o t au bb=>?_,fun i o t j au aV aW=>?_,ak⟩
 ·have:=(key i o au).1.1.2;rw[atN] at this;have:=this e (by simpa using am);rw[af] at this;simp only[Bool.not_true,Bool.false_or] at this;simpa [av3] using this
 ·have:=kM (key i o au).1.1.1;have ir:Bc (ms.getD i 0) j=true:=av;rw[this] at ir;obtain⟨e,ad,ae⟩:=JI ms j _ ir;exact⟨e,by simpa using ad,ae⟩
 ·have:=(key i o au).1.2;rw[bb] at this;simp only at this;rw[YH] at this;cases aW:jZ ops t with
  | none=>rw[aW] at this; cases this
  | some j=>rw[aW] at this; simp only at this; rw[kM this]
 ·have:=(key i o au).2;rw[atN] at this;have:=this t aV;rw[YH,aW] at this;simp only[auQ] at this;rcases this with (ad | ad) | ad
  ·exact .inl ad
  ·exact .inr (.inl ad)
  ·exact .inr (.inr (kM ad))
theorem HK {ms:List Nat}:∀ {l:List Nat},HJ ms l=true->∀ (p ci:Nat) (i j:Nat),l[p]? = some i->l[ci]? = some j->p<ci->i≠j/\o6 ms i j=false
 | [],_,p,ci,i,j,az,_,_=>by simp at az
 | x::l,h,p,ci,i,j,az,ai,aK=>by
  simp only[HJ,as7,atN] at h;cases ci with
  | zero=>omega
  | succ ci=>
   simp only[atJ] at ai;cases p with
   | zero=>
    simp only[ats,Option.some.injEq] at az;subst az;have:=h.1 j (ata ai);simp only[auE] at this;refine⟨fun am=>?_,this.2⟩;subst am;rw[sB rfl] at this;cases this.1
   | succ p=>
    simp only[atJ] at az;exact HK h.2 p ci i j az ai (by omega)
section
variable {P:Program} {G:Nat->U}
structure amS (P:Program) (G:Nat->U) (ops:Array Oper) (e:Y2) :Prop where
 step:w9 P G ops ⟨look e.s,e.h⟩ e.t
 pure:∀ i v,e.t=.pure i v->∃ o,ops[i]? = some o/\agw o.op=true/\cW P e.h (cS G (look e.s)) o.op=some (.val v e.h)
theorem Ii {ops:Array Oper} {s0:nQ} {t:bM} {tr:List bM} (p:Nat) :g6 ops s0 (t::tr) (p+1)=g6 ops (mf ops s0 t) tr p:=by
 simp[g6]
end

section
variable {P:Program} {G:Nat->U}
theorem A1 (w:World) (R:Nat->Prop) (iW:∀ k,w.heap.size<=k->R k) :bI R w.heap.size w aM.empty (fun _=>none) where
 blk:=fun b m hm=>by cases hm
 inj:=fun b bc m ch al=>by rw[FB] at al; cases al
 base:=fun b m al=>by rw[FB] at al; cases al
 fresh:=fun b _=>FB b
 up:=iW
 size:=as3 _
 lf:=fun b _=>rfl
theorem p7 (μ:cg) (k:Nat) :¬ Own aM.empty μ k:=by
 rintro⟨b,m,al,_⟩;rw[FB] at al; cases al
theorem NU (fz:P.follows .mixedOrders=true) (h4:∀ g,(G g).closed=true) {f:FuncId} {args:List U} {r:U} {h' : aM} (am:dv P G (.call f args aM.empty r h'))
  {w:World} {A:Nat->Prop} {vs:Array Value} (aw:∀ g,dV w A (G g) (.pointer (some ⟨g,0,none⟩))) (al:vs.size=args.length)
  (ap:∀ (j:Nat) (c:U) (v:Value),args[j]? = some c->vs[j]? = some v->dV w A c v) :
  Calls P f vs w fun e w'=>∃ v μ',e=.returned v/\fO w w'/\bI (fun k=>A k\/w.heap.size<=k) w.heap.size w' h' μ'/\aN w' (fun k=>A k\/w.heap.size<=k) h' μ' r v:=by
 have up:∀ {c:U} {v:Value},dV w A c v->aN w (fun k=>A k\/w.heap.size<=k) aM.empty (fun _=>none) c v:=fun ah=>ah.up (fun k _ ar=>⟨.inl ar,p7 _ k⟩)
 refine (Ey fz h4 am (fun k=>A k\/w.heap.size<=k) w.heap.size w (fun _=>none) vs (A1 w _ fun k ar=>.inr ar) (fun g=>⟨h4 g,up (aw g)⟩) al (fun j c v ai fQ=>up (ap j c v ai fQ))).mono ?_;rintro e w' ⟨v,μ',rfl,ex,rel,ay⟩;exact⟨v,μ',rfl,⟨⟨ex.os,ex.tape,ex.output,ex.size,fun k ar=>ex.cb k ar (p7 _ k)⟩,ex.drawn⟩,rel,ay⟩
theorem alo (fz:P.follows .mixedOrders=true) (h4:∀ g,(G g).closed=true) {f:FuncId} {args:List U} {h' : aM} (am:dv P G (.call f args aM.empty (.bool true) h'))
  {w:World} {A:Nat->Prop} {vs:Array Value} (aw:∀ g,dV w A (G g) (.pointer (some ⟨g,0,none⟩))) (al:vs.size=args.length)
  (ap:∀ (j:Nat) (c:U) (v:Value),args[j]? = some c->vs[j]? = some v->dV w A c v) :
  Calls P f vs w fun e w'=>e=.returned (.bool true)/\RowKit.Below w.heap.size w w':=by
 refine (NU fz h4 am aw al ap).mono ?_;rintro e w' ⟨v,μ',rfl,af,_,ay⟩;cases ay;exact⟨rfl,af.toBelow⟩
end

section
variable {α:Type}
theorem wA:∀ (k k' : Nat) (t:cy α) (n:Nat) (x:α),n<k->n<k'->t.kR k n x=t.kR k' n x
 | 0,_,_,_,_,h,_=>by omega
 | _+1,0,_,_,_,_,h=>by omega
 | k+1,k'+1,t,n,x,h,h'=>by
  by_cases aI:n=0
  ·subst aI;cases t<;>rfl
  ·have af:Nat.beq n 0=false:=jT aI;cases t with
   | nil=>
    unfold cy.kR;simp only[af];rw[wA k k' .nil (n / 2) x (by omega) (by omega),wA k k' .nil (n / 2 - 1) x (by omega) (by omega)]
   | node l v r=>
    unfold cy.kR;simp only[af];rw[wA k k' l (n / 2) x (by omega) (by omega),wA k k' r (n / 2 - 1) x (by omega) (by omega)]
def cy.lt:cy α->cy α | .nil=>.nil | .node l _ _=>l
def cy.rt:cy α->cy α | .nil=>.nil | .node _ _ r=>r
def cy.mid:cy α->Option α | .nil=>none | .node _ v _=>v
theorem rD (t:cy α) (x:α) :t.set 0 x=.node t.lt (some x) t.rt:=by cases t<;>rfl
theorem nG (t:cy α) (m:Nat) (x:α) :t.set (2*m+1) x=.node (t.lt.set m x) t.mid t.rt:=by
 have ad:Nat.beq (2*m+1) 0=false:=jT (by omega);have ae:Nat.beq ((2*m+1) % 2) 1=true:=sB (by omega);have aj:(2*m+1) / 2=m:=by omega
 cases t with
 | nil=>show cy.kR (2*m+1+1) .nil (2*m+1) x=_; unfold cy.kR; simp only[ad,ae,aj]; rw[wA _ (m+1) _ _ _ (by omega) (by omega)]; rfl
 | node l v r=>show cy.kR (2*m+1+1) (.node l v r) (2*m+1) x=_; unfold cy.kR; simp only[ad,ae,aj]; rw[wA _ (m+1) _ _ _ (by omega) (by omega)]; rfl
theorem nF (t:cy α) (m:Nat) (x:α) :t.set (2*m+2) x=.node t.lt t.mid (t.rt.set m x) :=by
 have ad:Nat.beq (2*m+2) 0=false:=jT (by omega);have ae:Nat.beq ((2*m+2) % 2) 1=false:=jT (by omega);have aj:(2*m+2) / 2 - 1=m:=by omega
 cases t with
 | nil=>show cy.kR (2*m+2+1) .nil (2*m+2) x=_; unfold cy.kR; simp only[ad,ae,aj]; rw[wA _ (m+1) _ _ _ (by omega) (by omega)]; rfl
 | node l v r=>show cy.kR (2*m+2+1) (.node l v r) (2*m+2) x=_; unfold cy.kR; simp only[ad,ae,aj]; rw[wA _ (m+1) _ _ _ (by omega) (by omega)]; rfl
theorem ME (n:Nat) :n=0\/(∃ m,m<n/\n=2*m+1)\/∃ m,m<n/\n=2*m+2:=by
 rcases Nat.eq_zero_or_pos n with h | h
 ·exact .inl h
 ·rcases Nat.mod_two_eq_zero_or_one n with ae | ae
  ·exact .inr (.inr ⟨n / 2 - 1,by omega,by omega⟩)
  ·exact .inr (.inl ⟨n / 2,by omega,by omega⟩)
theorem akB (n:Nat) :∀ (t:cy α) (x y:α),(t.set n x).set n y=t.set n y:=by
 induction n using Nat.strongRecOn with
 | _ n aS=>
  intro t x y;rcases ME n with rfl | ⟨m,hm,rfl⟩ | ⟨m,hm,rfl⟩
  ·rw[rD t x,rD t y,rD]; rfl
  ·rw[nG t,nG t,nG]; simp only[cy.lt,cy.mid,cy.rt,aS m hm]
  ·rw[nF t,nF t,nF]; simp only[cy.lt,cy.mid,cy.rt,aS m hm]
theorem set_comm (n:Nat) :∀ (t:cy α) (k:Nat) (x y:α),n≠k->(t.set n x).set k y=(t.set k y).set n x:=by
 induction n using Nat.strongRecOn with
 | _ n aS=>
  intro t k x y bV;rcases ME n with rfl | ⟨m,hm,rfl⟩ | ⟨m,hm,rfl⟩<;>rcases ME k with rfl | ⟨j,ai,rfl⟩ | ⟨j,ai,rfl⟩
  ·exact absurd rfl bV
  ·rw[rD t,nG,nG t,rD]; rfl
  ·rw[rD t,nF,nF t,rD]; rfl
  ·rw[nG t,rD,rD t,nG]; rfl
  ·rw[nG t,nG,nG t,nG]; simp only[cy.lt,cy.mid,cy.rt]; rw[aS m hm _ j _ _ (by omega)]
  ·rw[nG t,nF,nF t,nG]; rfl
  ·rw[nF t,rD,rD t,nF]; rfl
  ·rw[nF t,nG,nG t,nF]; rfl
  ·rw[nF t,nF,nF t,nF]; simp only[cy.lt,cy.mid,cy.rt]; rw[aS m hm _ j _ _ (by omega)]
end
abbrev ao:=List aY
def nn:Nat->cy aY->ao->cy aY
 | _,t,[]=>t
 | i,t,c::cs=>nn (i+1) (t.set i c) cs
def a7 (l:ao) :aM:=⟨l.length,nn 0 .nil l⟩
@[simp] theorem EW (l:ao) :(a7 l).n=l.length:=rfl
theorem TA:∀ (l:ao) (i:Nat) (t:cy aY) (c:aY),nn i t (l++[c])=(nn i t l).set (i+l.length) c
 | [],i,t,c=>rfl
 | x::l,i,t,c=>by
  simp only[atV,nn,atk];rw[TA l,show i+1+l.length=i+(l.length+1) by omega]
theorem nN (l:ao) (c:aY) :(a7 l).push c=a7 (l++[c]) :=by
 unfold a7 aM.push;rw[TA];simp
theorem TD:∀ (l:ao) (i j:Nat) (t:cy aY) (c:aY),i<j->(nn j t l).set i c=nn j (t.set i c) l
 | [],_,_,_,_,_=>rfl
 | x::l,i,j,t,c,h=>by
  simp only[nn];rw[TD l i (j+1) _ c (by omega),set_comm j t i x c (by omega)]
theorem TC:∀ (l:ao) (i b:Nat) (t:cy aY) (c:aY),b<l.length->(nn i t l).set (i+b) c=nn i t (l.set b c)
 | [],_,_,_,_,h=>by simp at h
 | x::l,i,0,t,c,_=>by
  simp only[nn,auR,ave];rw[TD l i (i+1) _ c (by omega),akB]
 | x::l,i,b+1,t,c,h=>by
  simp only[nn,avH];rw[<-TC l (i+1) b _ c (by simpa using h),show i+(b+1)=i+1+b by omega]
theorem pl {l:ao} {b:Nat} (c:aY) (h:b<l.length) :(a7 l).set b c=a7 (l.set b c) :=by
 unfold a7 aM.set;have:=TC l 0 b .nil c h;rw[aue] at this;simp only[this,List.length_set]
theorem TB:∀ (l:ao) (i:Nat) (t:cy aY) (b:Nat),(nn i t l).get b=if i<=b/\b<i+l.length then l[b - i]? else t.get b
 | [],i,t,b=>by simp only[nn,atF]; rw[if_neg (by omega)]
 | x::l,i,t,b=>by
  simp only[nn,atk];rw[TB l,cy.FJ];by_cases ad:i+1<=b/\b<i+1+l.length
  ·rw[if_pos ad,if_pos (by omega),show b - i=(b - (i+1))+1 by omega,atJ]
  ·rw[if_neg ad];by_cases ae:b=i
   ·subst ae; rw[if_pos rfl,if_pos (by omega)]; simp
   ·rw[if_neg ae,if_neg (by omega)]
theorem kr (l:ao) (b:Nat) :(a7 l).f b=match l[b]? with | some c=>c | none=>.none:=by
 unfold a7 aM.f;simp only[TB,auc,true_and,aue,avh];by_cases h:b<l.length
 ·rw[if_pos h]; cases l[b]?<;>rfl
 ·rw[if_neg h,atd (by omega)]; rfl
theorem lq {l:ao} {b n:Nat} {cs:List U}:(a7 l).f b=.cells n cs<->l[b]? = some (.cells n cs) :=by
 rw[kr];cases h:l[b]? with
 | none=>simp
 | some c=>simp
theorem cp {l:ao} {b:Nat} {c:aY} (h:l[b]? = some c) :b<l.length:=(as0.1 h).1
def g4 (l:ao) :U->Option (List U × Nat)
 | .ptr b off sz=>match l[b]? with
  | some (.cells n cs)=>if n=sz then some (cs,off) else none
  | _=>none
 | .bK cs off=>some (cs,off)
 | _=>none
def sH (n:Nat) (cs:List U) (off:Nat) :Option U:=if off+n<=cs.length then some (.aG ((cs.drop off).take n)) else none
def lX (n:Nat) (l:ao) (p v:U) :Option ao:=
 match p,v.cells with
 | .ptr b off sz,some vs=>match l[b]? with
  | some (.cells m cs)=>if m=sz/\vs.length=n/\off+n<=m then some (l.set b (.cells m (bg cs off vs))) else none
  | _=>none
 | _,_=>none
def ds (l:ao) (z:Nat) :U->Option (List U × Nat)
 | .aH=>some ([],0)
 | .aX du es=>if z=du then some (es.flatten,es.length) else none
 | .aq du b off len _ sz=>match l[b]? with
  | some (.cells n cs)=>if n=sz/\z=du then some ((cs.drop off).take (len*z),len) else none
  | _=>none
 | .str s=>if z=1 then some (s.map jr,s.length) else none
 | _=>none
def jq (l:ao) (z by_:Nat) (s:U) (xs:List U) (n:Nat) :Option (U × ao) :=
 if n=0 then (match s with | .aH | .aX .. | .aq ..=>some (s,l) | _=>none)
 else if z=0\/by_=0 then none else match s with
  | .aH=>if n*by_<=ct then some (.aq z l.length 0 n n (n*z),l++[.cells (n*z) xs]) else none
  | .aq du b off len cap sz=>match l[b]? with
   | some (.cells m cs)=>
    if m=sz/\z=du/\(len+n)*by_<=ct then
     if len+n<=cap then some (.aq z b off (len+n) cap sz,l.set b (.cells m (bg cs (off+len*z) xs)))
     else if off+cap*z<sz then some (.aq z l.length 0 (len+n) (len+n) ((len+n)*z),l++[.cells ((len+n)*z) ((cs.drop off).take (len*z)++xs)])
     else if off=0 then some (.aq z b 0 (len+n) (len+n) ((len+n)*z),l.set b (.cells ((len+n)*z) (cs.take (len*z)++xs)))
     else some (.aq z l.length 0 (len+n) (len+n) ((len+n)*z),l.set b .dead++[.cells ((len+n)*z) ((cs.drop off).take (len*z)++xs)])
    else none
   | _=>none
  | _=>none
def zo (z:Nat) (l:ao) (d x:U) :Option (U × ao) :=
 match ds l z x with
 | none=>none
 | some (xs,n)=>match d with
  | .aH=>some (.int .i64 0,l)
  | .aq du b off len _ sz=>match l[b]? with
   | some (.cells m cs)=>if m=sz/\z=du then some (.int .i64 ((min n len:Nat) :Int),l.set b (.cells m (bg cs off (xs.take (min n len*z))))) else none
   | _=>none
  | _=>none
def v5 (l:ao) :U->Option (List (U × U × Nat))
 | .iI=>some []
 | .mp b=>match l[b]? with | some (.map es _)=>some es | _=>none
 | _=>none
def oH (l:ao) (x:U) :Option (List UInt8) :=match x with
 | .str s=>some s
 | x=>match ds l 1 x with
  | some (cs,_)=>m5 cs
  | none=>none
def cmpL (l:ao) (x y:U) :Option U:=match oH l x,oH l y with
 | some a,some b=>some (.int .i64 (nV a b))
 | _,_=>none
def uj (l:ao) (x:U) :Option (U × ao) :=match x with
 | .it b=>match l[b]? with
  | some (.iter s pos)=>match Nat.blt pos s.length with
   | true=>some (.bv [.bool true,.int .i64 pos,.int .i32 (Utf8.decode ⟨s.toArray⟩ pos).1],l.set b (.iter s (pos+(Utf8.decode ⟨s.toArray⟩ pos).2)))
   | false=>some (.bv [.bool false],l)
  | _=>none
 | _=>none
def AW (l:ao) (x:U) :Option (U × ao) :=match x with
 | .str s=>some (.it l.length,l++[.iter s 0])
 | _=>none
def DS (l:ao) (x:U) :Option U:=match x with
 | .iI=>some (.int .i64 0)
 | .mp b=>match l[b]? with | some (.map es _)=>some (.int .i64 es.length) | _=>none
 | _=>none
def va (zero:List U) (l:ao) :U->Option ao
 | .aH=>some l
 | .aX _ []=>some l
 | .aq z b off len _ sz=>if len=0 then some l else match l[b]? with
  | some (.cells m cs)=>if m=sz/\zero.length=z then some (l.set b (.cells m (bg cs off (dx zero len)))) else none
  | _=>none
 | _=>none
theorem M7 (l:ao) (p:U) :reach (a7 l) p=g4 l p:=by
 cases p<;>try rfl
 rename_i b off sz;simp only[reach,g4,kr];cases l[b]? with
 | none=>rfl
 | some c=>cases c<;>rfl
theorem BU (l:ao) (z:Nat) (x:U) :contents (a7 l) z x=ds l z x:=by
 cases x<;>try rfl
 rename_i du b off len cap sz;simp only[contents,ds,kr];cases l[b]? with
 | none=>rfl
 | some c=>cases c<;>rfl
section
variable (P:Program)
inductive j1 where
 | arr (n z:Nat)
 | aq (z:Nat)
 | str
 deriving DecidableEq
def pc (t:TypeId) :Option j1:=match P.underlying t with
 | some (.array n e)=>(cu P e).map fun z=>.arr n z
 | some (.slice e)=>(cu P e).map fun z=>.aq z
 | some .string=>some .str
 | _=>none
inductive c2 where
 | fL (x:Operand)
 | pick (c a b:Operand)
 | alloc (zero:List U)
 | box (x:Operand)
 | BF (zero:List U) (ps:List (Nat × Nat × Operand))
 | qD (z:Nat) (zero:List U) (len:Nat) (ps:List (Nat × Operand))
 | nx (a:Operand)
 | lU (n:Nat) (a:Operand)
 | st (n:Nat) (a x:Operand)
 | D0 (x:Operand)
 | bin (o:BinOp) (t:TypeId) (x y:Operand)
 | un (o:UnOp) (x:Operand)
 | ze (k:IntKind) (x:Operand)
 | zq (x:Operand)
 | td (x:Operand)
 | zp (x:Operand)
 | yq (t:TypeId) (x:Operand)
 | Ba (t:TypeId) (z:U) (ok:Bool) (x:Operand)
 | yp (f:FuncId) (first gn:List Operand)
 | rm (z by_:Nat) (zero:List U) (l c:Operand)
 | slice (df:j1) (x:Operand) (cG az cH:Option Operand)
 | pB (off:Nat) (x:Operand)
 | B8 (off:Nat) (x:Operand)
 | B9 (n off:Nat) (x:Operand)
 | vR (df:j1) (x i:Operand)
 | DC (n z:Nat) (x i:Operand)
 | DD (n z:Nat) (x i:Operand)
 | DH (x i:Operand)
 | ext (x:Operand) (i:Nat)
 | len (df:j1) (x:Operand)
 | cap (df:j1) (x:Operand)
 | app (z by_:Nat) (s x:Operand)
 | uU (z by_:Nat) (zero:List U) (s x:Operand)
 | vj (z:Nat) (d x:Operand)
 | vb (zero:List U) (x:Operand)
 | min (x y:Operand)
 | max (x y:Operand)
 | ui (x:Option Operand)
 | yk (cK:TypeId) (zero:U) (ok:Bool) (m k:Operand)
 | v8 (cK:TypeId) (m k x:Operand)
 | v1 (x:Operand)
 | ws (x:Operand)
 | wc (x:Operand)
 | ca (f:FuncId) (r2 x y:Operand)
 | stop
def AC (l:ao) (cK:TypeId) (zero:U) (ok:Bool) (m k:U) :Option U:=
 match v5 l m with
 | some es=>match lS P cK k with
  | false=>none
  | true=>match kY P cK k es 0 with
   | some (some (_,v))=>some (if ok then .bv [v,.bool true] else v)
   | some none=>some (if ok then .bv [zero,.bool false] else zero)
   | none=>none
 | none=>none
def v6 (l:ao) (cK:TypeId) (m k v:U) :Option ao:=
 match m with
 | .mp b=>match l[b]? with
  | some (.map es fb)=>match lS P cK k with
   | false=>none
   | true=>match kY P cK k es 0 with
    | some (some (i,_))=>some (l.set b (.map (es.modify i fun e=>(k,v,e.2.2)) fb))
    | some none=>some (l.set b (.map (es++[(k,v,fb)]) (fb+1)))
    | none=>none
  | _=>none
 | _=>none
def DA (f:FuncId) :U->Bool | .fn g [] []=>Nat.beq g f | _=>false
def Ed (c a b:U) :Option U:=match c with | .bool t=>some (if t then a else b) | _=>none
def ys (x:U) :Option U:=match x with | .ptr b o s=>some (.ptr b o s) | .bK c o=>some (.bK c o) | .fn f a b=>some (.fn f a b) | _=>none
def pt (zero:List U) :List (Nat × Nat × U)->Option (List U)
 | []=>some zero
 | (off,size,v) ::r=>match v.cells with
  | some vs=>if vs.length=size/\off+size<=zero.length then pt (bg zero off vs) r else none
  | none=>none
def zf (k:IntKind) :U->Option U | .int _ n=>some (.int k (k.wrap n)) | _=>none
def Fw:U->Option U | .str s=>some (.str s) | _=>none
def u5 (l:ao) (x:U) :Option U:=match x with
 | .aH=>some (.str [])
 | .str _=>none
 | x=>match ds l 1 x with | some (cs,_)=>(m5 cs).map .str | none=>none
def vk:U->Option U | .str s=>some (.aX 1 (s.map fun b=>[jr b])) | _=>none
def rn (z by_:Nat) (zero:List U) (al:ao) (l c:U) :Option (U × ao) :=match l,c with
 | .int _ l,.int _ c=>if 0<=l/\l<=c/\c<9223372036854775808/\by_*c<=ct then
   some (.aq z al.length 0 l.toNat c.toNat (c.toNat*z),al++[.cells (c.toNat*z) (dx zero c.toNat)]) else none
 | _,_=>none
def fF (df:j1) (x:U) (cG az cH:Option U) :Option U:=
 match df with
 | .arr n z=>match gV n n cG az cH with
  | some (l,aR,m)=>match x with
   | .ptr b off sz=>if off+m*z<=sz then (if m=l then some (.aX z []) else some (.aq z b (off+l*z) (aR - l) (m - l) sz)) else none
   | .bK cs off=>if off+n*z<=cs.length then some (.aX z (l2 z (aR - l) (cs.drop (off+l*z)))) else none
   | _=>none
  | none=>none
 | .aq z=>match x with
  | .aq du b off len cap sz=>if z=du then (gV len cap cG az cH).map fun (l,aR,m)=>if m=l then .aq z b (off+l*z) 0 0 sz else .aq z b (off+l*z) (aR - l) (m - l) sz else none
  | .aX du es=>if z=du then (gV es.length es.length cG az cH).map fun (l,aR,_)=>.aX z ((es.drop l).take (aR - l)) else none
  | .aH=>(gV 0 0 cG az cH).map fun _=>.aH
  | _=>none
 | .str=>match x,cH with
  | .str s,none=>(gV s.length s.length cG az none).map fun (l,aR,_)=>.str ((s.drop l).take (aR - l))
  | _,_=>none
def Ca (off:Nat) :U->Option U | .aG cs=>cs[off]? | _=>none
def zC (n off:Nat) :U->Option U | .aG cs=>sH n cs off | _=>none
def cN (df:j1) (x eP:U) :Option U:=
 match eP with
 | .int _ i=>match df with
  | .arr n z=>if 0<=i/\i<n then m7 x (i.toNat*z) else none
  | .aq z=>match x with
   | .aq du b off len _ sz=>if z=du/\0<=i/\i<len then some (.ptr b (off+i.toNat*z) sz) else none
   | .aX du es=>if z=du/\0<=i then (es[i.toNat]?).map fun cs=>.bK cs 0 else none
   | _=>none
  | .str=>none
 | _=>none
def DE (n z:Nat) (x eP:U) :Option U:=match x,eP with
 | .aG cs,.int _ i=>if 0<=i/\i<n then cs[i.toNat*z]? else none
 | _,_=>none
def DF (n z:Nat) (x eP:U) :Option U:=match x,eP with
 | .aG cs,.int _ i=>if 0<=i/\i<n then sH z cs (i.toNat*z) else none
 | _,_=>none
def yd (x eP:U) :Option U:=match x,eP with
 | .str s,.int _ i=>if 0<=i then (s[i.toNat]?).map jr else none
 | _,_=>none
def B6 (x:U) (i:Nat) :Option U:=match x with | .bv vs=>vs[i]? | _=>none
def cv (df:j1) (x:U) :Option U:=match df with
 | .arr n _=>some (.int .i64 n)
 | .aq _=>match x with
  | .aH=>some (.int .i64 0)
  | .aq _ _ _ len _ _=>some (.int .i64 len)
  | .aX _ es=>some (.int .i64 es.length)
  | _=>none
 | .str=>match x with | .str s=>some (.int .i64 s.length) | _=>none
def tc (df:j1) (x:U) :Option U:=match df with
 | .arr n _=>some (.int .i64 n)
 | .aq _=>match x with | .aH=>some (.int .i64 0) | _=>none
 | .str=>none
def gT (l:ao) (z by_:Nat) (s x:U) :Option (U × ao) :=match ds l z x with
 | none=>none
 | some (xs,n)=>jq l z by_ s xs n
def qB (l:ao) (z by_:Nat) (zero:List U) (s x:U) :Option (U × ao) :=match x with
 | .int _ n=>if 0<=n/\n<9223372036854775808/\n.toNat*by_<=ct then jq l z by_ s (dx zero n.toNat) n.toNat else none
 | _=>none
def dz (l:ao) (x:Option U) :Option (U × ao) :=x.map fun v=>(v,l)
def bN (aA:Operand->U) (l:ao) :c2->Option (U × ao)
 | .fL x=>some (aA x,l)
 | .pick c a b=>dz l (Ed (aA c) (aA a) (aA b))
 | .alloc zero=>some (.ptr l.length 0 zero.length,l++[.cells zero.length zero])
 | .box x=>(aA x).cells.map fun cs=>(.ptr l.length 0 cs.length,l++[.cells cs.length cs])
 | .BF zero ps=>dz l ((pt zero (ps.map fun p=>(p.1,p.2.1,aA p.2.2))).map .aG)
 | .qD z zero len ps=>(hQ (fun i=>some (i*z,z)) (dx zero len) (ps.map fun p=>(p.1,aA p.2))).map fun cs=>(.aq z l.length 0 len len (len*z),l++[.cells (len*z) cs])
 | .nx a=>dz l ((g4 l (aA a)).bind fun x=>x.1[x.2]?)
 | .lU n a=>dz l ((g4 l (aA a)).bind fun x=>sH n x.1 x.2)
 | .st n a x=>(lX n l (aA a) (aA x)).map fun l'=>(gy,l')
 | .D0 x=>dz l (ys (aA x))
 | .bin o t x y=>dz l (gD P o t (aA x) (aA y))
 | .un o x=>dz l (qk o (aA x))
 | .ze k x=>dz l (zf k (aA x))
 | .zq x=>dz l (Fw (aA x))
 | .td x=>dz l (u5 l (aA x))
 | .zp x=>dz l (vk (aA x))
 | .yq t x=>some (.hq t (aA x),l)
 | .Ba t z ok x=>dz l (Bb t z ok (aA x))
 | .yp f a b=>some (.fn f (a.map aA) (b.map aA),l)
 | .rm z by_ zero a c=>rn z by_ zero l (aA a) (aA c)
 | .slice df x cG az cH=>dz l (fF df (aA x) (cG.map aA) (az.map aA) (cH.map aA))
 | .pB off x=>dz l (m7 (aA x) off)
 | .B8 off x=>dz l (Ca off (aA x))
 | .B9 n off x=>dz l (zC n off (aA x))
 | .vR df x i=>dz l (cN df (aA x) (aA i))
 | .DC n z x i=>dz l (DE n z (aA x) (aA i))
 | .DD n z x i=>dz l (DF n z (aA x) (aA i))
 | .DH x i=>dz l (yd (aA x) (aA i))
 | .ext x i=>dz l (B6 (aA x) i)
 | .len df x=>dz l (cv df (aA x))
 | .cap df x=>dz l (tc df (aA x))
 | .app z by_ s x=>gT l z by_ (aA s) (aA x)
 | .uU z by_ zero s x=>qB l z by_ zero (aA s) (aA x)
 | .vj z d x=>zo z l (aA d) (aA x)
 | .vb zero x=>(va zero l (aA x)).map fun l'=>(.bv [],l')
 | .min x y=>dz l (sA (aA x) (aA y))
 | .max x y=>dz l (ug (aA x) (aA y))
 | .ui x=>match x with
  | none=>some (.mp l.length,l++[.map [] 0])
  | some o=>match asInt (aA o) with | some _=>some (.mp l.length,l++[.map [] 0]) | none=>none
 | .yk cK zero ok m k=>dz l (AC P l cK zero ok (aA m) (aA k))
 | .v8 cK m k x=>(v6 P l cK (aA m) (aA k) (aA x)).map fun l'=>(gy,l')
 | .v1 x=>dz l (DS l (aA x))
 | .ws x=>AW l (aA x)
 | .wc x=>uj l (aA x)
 | .ca f r2 x y=>match DA f (aA r2) with | true=>dz l (cmpL l (aA x) (aA y)) | false=>none
 | .stop=>none
def Jj (t:TypeId) (ps:List (Nat × Operand)) :Option (List (Nat × Nat × Operand)) :=
 match P.underlying t with
 | some (.struct fs)=>if fs.toList.all fun f=>(cu P f.type).isSome then ps.mapM fun p=>(Ee P fs p.1).map fun q=>(q.1,q.2,p.2) else none
 | some (.array _ e)=>(cu P e).map fun n=>ps.map fun p=>(p.1*n,n,p.2)
 | _=>none
def vd (b:Builtin) (ts:List TypeId) (args:List Operand) :Option c2:=
 match b,ts,args with
 | .len,[t],[x]=>match P.underlying t with
  | some (.map _ _)=>some (.v1 x)
  | _=>(pc P t).map fun df=>.len df x
 | .cap,[t],[x]=>(pc P t).map fun df=>.cap df x
 | .append,[t,u],[s,x]=>match P.underlying u with
  | some (.int _)=>(iT P t).bind fun e=>(cu P e).bind fun z=>(kv P e).bind fun by_=>(hY P e).bind fun zero=>
    if zero.length=z/\sU P e=some z then some (.uU z by_ zero s x) else none
  | none=>none
  | _=>(iT P t).bind fun e=>(cu P e).bind fun z=>(kv P e).bind fun by_=>if sU P e=some z then some (.app z by_ s x) else none
 | .copy,[t,_],[d,x]=>(iT P t).bind fun e=>(cu P e).map fun z=>.vj z d x
 | .clear,[t],[x]=>match P.underlying t with
  | some (.slice e)=>(hY P e).map fun zero=>.vb zero x
  | _=>none
 | .min,_,[x,y]=>some (.min x y)
 | .max,_,[x,y]=>some (.max x y)
 | _,_,_=>none
def m8:Op->Option c2
 | .move x | .assign x=>some (.fL x)
 | .pick c a b=>some (.pick c a b)
 | .alloc t=>(hY P t).map .alloc
 | .box _ x=>some (.box x)
 | .build t ps=>(hY P t).bind fun zero=>(Jj P t ps.toList).map fun q=>.BF zero q
 | .buildSlice t len ps=>(iT P t).bind fun e=>(cu P e).bind fun z=>(hY P e).bind fun zero=>
   if zero.length=z/\len*z<=16777216 then some (.qD z zero len ps.toList) else none
 | .load t a=>match eo P t,cu P t with
  | some true,some n=>some (.lU n a)
  | some false,_=>some (.nx a)
  | _,_=>none
 | .store t a x=>(cu P t).map fun n=>.st n a x
 | .nilCheck x=>some (.D0 x)
 | .binOp o t x y _=>some (.bin o t x y)
 | .unOp o _ x=>some (.un o x)
 | .convert s d x=>match P.underlying s,P.underlying d with
  | some _,some (.int k)=>some (.ze k x)
  | some (.slice e),some .string=>match P.underlying e with
   | some (.int .u8)=>some (.td x)
   | _=>none
  | some .string,some .string=>some (.zq x)
  | some .string,some (.slice e)=>match P.underlying e with
   | some (.int .u8)=>some (.zp x)
   | _=>none
  | _,_=>none
 | .makeInterface t x=>match P.underlying t with
  | some (.interface _) | none=>none
  | _=>some (.yq t x)
 | .makeFunc (.func f) a b=>some (.yp f a.toList b.toList)
 | .makeSlice t l c=>(iT P t).bind fun e=>(cu P e).bind fun z=>(kv P e).bind fun by_=>(hY P e).bind fun zero=>
   if zero.length=z then some (.rm z by_ zero l c) else none
 | .slice t x cG az cH=>(pc P t).map fun df=>.slice df x cG az cH
 | .fieldAddr s x f=>(xr P s f).bind fun fd=>match cu P fd.type with
  | some (_+1)=>some (.pB fd.offset x)
  | _=>none
 | .field t x f=>(xr P t f).bind fun fd=>match eo P fd.type,cu P fd.type with
  | some true,some n=>some (.B9 n fd.offset x)
  | some false,_=>some (.B8 fd.offset x)
  | _,_=>none
 | .indexAddr t x i=>match pc P t with
  | some (.arr n z)=>some (.vR (.arr n z) x i)
  | some (.aq z)=>some (.vR (.aq z) x i)
  | _=>none
 | .index t x i=>match P.underlying t with
  | some (.array n e)=>match cu P e,eo P e with
   | some z,some true=>some (.DD n z x i)
   | some z,some false=>some (.DC n z x i)
   | _,_=>none
  | some .string=>some (.DH x i)
  | _=>none
 | .extract x i=>some (.ext x i)
 | .call c=>match c.callee with
  | .builtin b=>vd P b c.argTypes.toList c.args.toList
  | .value (.func f)=>match P.funcs[f]?,c.args.toList with
   | some fn,[x,y]=>if Dz fn then some (.ca f (.func f) x y) else none
   | _,_=>none
  | _=>none
 | .makeMap t r=>match P.underlying t with | some (.map _ _)=>some (.ui r) | _=>none
 | .lookup t m k ok=>match P.underlying t with | some (.map cK mz)=>(yU P mz).map fun z=>.yk cK z ok m k | _=>none
 | .mapUpdate t m k x | .insert t m k x=>match P.underlying t with | some (.map cK _)=>some (.v8 cK m k x) | _=>none
 | .range t x=>match P.underlying t with | some .string=>some (.ws x) | _=>none
 | .next it true=>some (.wc it)
 | .panic _=>some .stop
 | .typeAssert x _ t ok=>(Im P t).map fun z=>.Ba t z ok x
 | _=>none
end

section
variable {P:Program}
theorem bind_some {α j0:Type} {x:Option α} {f:α->Option j0} {y:j0}:x.bind f=some y<->∃ a,x=some a/\f a=some y:=by cases x<;>simp
theorem map_some {α j0:Type} {x:Option α} {f:α->j0} {y:j0}:x.map f=some y<->∃ a,x=some a/\f a=y:=by cases x<;>simp
theorem gH {l l' : ao} {x:Option U} {v:U}:dz l x=some (v,l')<->x=some v/\l'=l:=by cases x<;>simp[dz,eq_comm]
theorem iG {α:Type} {p:Prop} [Decidable p] {x y:α}:(if p then some x else none)=some y<->p/\x=y:=by by_cases p<;>simp_all
theorem OU {l l' : ao} {e z by_ n:Nat} {s v:U} {xs:List U} (ax:sU P e=some z) (h:jq l z by_ s xs n=some (v,l')) :uV P (a7 l) e z by_ s xs n=some (v,a7 l') :=by
 unfold jq at h;unfold uV;by_cases aC:n=0
 ·rw[if_pos aC] at h ⊢;cases s<;>simp at h ⊢<;>simp[h]
 ·rw[if_neg aC] at h ⊢;by_cases aI:z=0\/by_=0
  ·rw[if_pos aI] at h; cases h
  ·rw[if_neg aI] at h;rw[if_neg (by simp only[ax]; simpa using aI)];cases s<;>simp only at h ⊢<;>try (cases h; done)
   case aH=>
    by_cases ay:n*by_<=ct
    ·rw[if_pos ay] at h ⊢; cases h; rw[nN]; rfl
    ·rw[if_neg ay] at h; cases h
   case aq du b off len cap sz=>
    cases af:l[b]? with
    | none=>rw[af] at h; cases h
    | some c=>
     cases c<;>rw[af] at h<;>(try simp only at h)<;>try (cases h; done)
     rename_i m cs;rw[lq.2 af];simp only;by_cases ad:m=sz/\z=du/\(len+n)*by_<=ct
     ·rw[if_pos ad] at h ⊢;by_cases ae:len+n<=cap
      ·rw[if_pos ae] at h ⊢; cases h; rw[pl _ (cp af)]
      ·rw[if_neg ae] at h ⊢;by_cases aj:off+cap*z<sz
       ·rw[if_pos aj] at h ⊢; cases h; rw[nN]; rfl
       ·rw[if_neg aj] at h ⊢;by_cases aF:off=0
        ·rw[if_pos aF] at h ⊢; cases h; rw[pl _ (cp af)]
        ·rw[if_neg aF] at h ⊢; cases h;rw[pl _ (cp af),nN]; rfl
     ·rw[if_neg ad] at h; cases h
theorem ZS {t:TypeId} {ps:List (Nat × Operand)} {q:List (Nat × Nat × Operand)} (bj:Jj P t ps=some q) (aA:Operand->U) (zero:List U) (ax:hY P t=some zero) {cs:List U}
  (af:pt zero (q.map fun p=>(p.1,p.2.1,aA p.2.2))=some cs) :BH P t (ps.map fun p=>(p.1,aA p.2))=some (.aG cs) :=by
 have fill:∀ (lh:Nat->Option (Nat × Nat)) (ps:List (Nat × Operand)) (q:List (Nat × Nat × Operand)) (zero:List U),
   (ps.mapM fun p=>(lh p.1).map fun q=>(q.1,q.2,p.2))=some q->pt zero (q.map fun p=>(p.1,p.2.1,aA p.2.2))=some cs->hQ lh zero (ps.map fun p=>(p.1,aA p.2))=some cs:=by
  intro lh ps
  induction ps with
  | nil=>intro q zero ad ae; simp at ad; subst ad; simpa [pt,hQ] using ae
  | cons p ps aS=>
   intro q zero ad ae;rw[auu] at ad;simp only[Option.bind_eq_bind,bind_some,map_some,auD,Option.some.injEq] at ad;obtain⟨a,⟨c9,aj,rfl⟩,dQ,aF,rfl⟩:=ad;simp only[atr,pt,hQ,aj] at ae ⊢;split at ae
   ·rename_i vs ap;simp only[ap];split at ae
    ·rename_i a6;rw[if_pos a6];exact aS _ _ aF ae
    ·cases ae
   ·cases ae
 unfold Jj at bj;unfold BH;split at bj
 ·rename_i fs aL;rw[ax,aL];simp only;split at bj
  ·rename_i dL;rw[if_neg (by simp[dL])];rw[fill _ _ _ _ bj af]; rfl
  ·cases bj
 ·rename_i n e aL;rw[map_some] at bj;obtain⟨hs,ad,rfl⟩:=bj;rw[ax,aL];simp only[ad];rw[fill (fun i=>some (i*hs,hs)) ps _ zero ?_ af]; rfl;clear af
  induction ps with
  | nil=>rfl
  | cons p ps aS=>rw[auu,aS]; rfl
 ·cases bj
theorem akM {t:TypeId} {df:j1} (aV:pc P t=some df) (x:U) (cG az cH:Option U) :fF df x cG az cH=Ew P t x cG az cH:=by
 unfold pc at aV;unfold Ew;split at aV
 ·rename_i n e aL;rw[map_some] at aV;obtain⟨z,ad,rfl⟩:=aV;rw[aL]; simp only[ad,fF];cases gV n n cG az cH<;>rfl
 ·rename_i e aL;rw[map_some] at aV;obtain⟨z,ad,rfl⟩:=aV;rw[aL]; simp only[ad,fF];cases x<;>rfl
 ·rename_i aL;cases aV;rw[aL]; simp only[fF];cases x<;>cases cH<;>rfl
 ·cases aV
theorem ahd {t:TypeId} {df:j1} (aV:pc P t=some df) {x v:U} (h:cv df x=some v) :yh P t x=some v:=by
 unfold pc at aV;unfold yh;split at aV
 ·rename_i n e aL;rw[map_some] at aV;obtain⟨z,ad,rfl⟩:=aV;rw[aL]; simpa [cv] using h
 ·rename_i e aL;rw[map_some] at aV;obtain⟨z,ad,rfl⟩:=aV;rw[aL]; unfold cv at h; cases x<;>simp_all
 ·rename_i aL;cases aV;rw[aL]; unfold cv at h; cases x<;>simp_all
 ·cases aV
theorem aal {t:TypeId} {df:j1} (aV:pc P t=some df) {x v:U} (h:tc df x=some v) :zc P t x=some v:=by
 unfold pc at aV;unfold zc;split at aV
 ·rename_i n e aL;rw[map_some] at aV;obtain⟨z,ad,rfl⟩:=aV;rw[aL]; simpa [tc] using h
 ·rename_i e aL;rw[map_some] at aV;obtain⟨z,ad,rfl⟩:=aV;rw[aL]; unfold tc at h; cases x<;>simp_all
 ·rename_i aL;cases aV;rw[aL]; unfold tc at h; cases x<;>simp_all
 ·cases aV
theorem Ut {t:TypeId} {df:j1} (aV:pc P t=some df) {x i v:U} (h:cN df x i=some v) :Dx P t x i=some v:=by
 unfold pc at aV;unfold Dx;unfold cN at h;cases i<;>(try simp only at h)<;>try (cases h; done)
 rename_i k i;split at aV
 ·rename_i n e aL;rw[map_some] at aV;obtain⟨z,ad,rfl⟩:=aV;rw[aL]; simpa [asInt,ad] using h
 ·rename_i e aL;rw[map_some] at aV;obtain⟨z,ad,rfl⟩:=aV;rw[aL]; simp only[asInt,ad]; simp only at h;cases x<;>simp only at h ⊢<;>first | exact h | cases h
 ·rename_i aL;cases aV;simp only at h;cases h
 ·cases aV
theorem ak6 {t:TypeId} {n:Nat} (ak:cu P t=some n) {l l' : ao} {p v:U} (h:lX n l p v=some l') :wE P (a7 l) t p v=some (a7 l') :=by
 unfold lX at h;unfold wE;cases p<;>(try simp only at h)<;>try (cases h; done)
 rename_i b off sz;cases ap:v.cells with
 | none=>rw[ap] at h; cases h
 | some vs=>
  rw[ap] at h;simp only[ak] at h ⊢;cases af:l[b]? with
  | none=>rw[af] at h; cases h
  | some c=>
   cases c<;>rw[af] at h<;>(try simp only at h)<;>try (cases h; done)
   rename_i m cs;rw[lq.2 af];simp only;rw[iG] at h;obtain⟨ad,rfl⟩:=h;rw[if_pos ad,pl _ (cp af)]
theorem aaO {t e:TypeId} {z:Nat} (am:iT P t=some e) (ak:cu P e=some z) {l l' : ao} {d x v:U} (h:zo z l d x=some (v,l')) :zn P (a7 l) t d x=some (v,a7 l') :=by
 unfold zo at h;unfold zn;rw[am]; simp only[ak,BU];cases ah:ds l z x with
 | none=>rw[ah] at h; cases h
 | some p=>
  obtain⟨xs,n⟩:=p;rw[ah] at h;simp only at h ⊢;cases d<;>simp only at h ⊢<;>try (cases h; done)
  case aH=>cases h; rfl
  case aq du b off len cap sz=>
   cases af:l[b]? with
   | none=>rw[af] at h; cases h
   | some c=>
    cases c<;>rw[af] at h<;>(try simp only at h)<;>try (cases h; done)
    rename_i m cs;rw[lq.2 af];simp only;rw[iG] at h;obtain⟨ad,ae⟩:=h;cases ae;rw[if_pos ad,pl _ (cp af)]
theorem aay {t e:TypeId} {zero:List U} (aL:P.underlying t=some (.slice e)) (ax:hY P e=some zero) {l l' : ao} {x:U} (h:va zero l x=some l') :zg P (a7 l) t x=some (a7 l') :=by
 unfold va at h;unfold zg;rw[aL];cases x<;>(try simp only at h)<;>try (cases h; done)
 case aH=>cases h; rfl
 case aX z es=>cases es<;>simp only at h<;>cases h; rfl
 case aq z b off len cap sz=>
  simp only;by_cases aI:len=0
  ·rw[if_pos aI] at h ⊢; cases h; rfl
  ·rw[if_neg aI] at h ⊢;rw[ax];cases af:l[b]? with
   | none=>rw[af] at h; cases h
   | some c=>
    cases c<;>rw[af] at h<;>(try simp only at h)<;>try (cases h; done)
    rename_i m cs;rw[lq.2 af];simp only;rw[iG] at h;obtain⟨ad,rfl⟩:=h;rw[if_pos ad,pl _ (cp af)]
theorem Vy {t cK mz:TypeId} (aL:P.underlying t=some (.map cK mz)) {l l' : ao} {m k x:U} (h:v6 P l cK m k x=some l') :ym P (a7 l) t m k x=some (a7 l') :=by
 unfold v6 at h;unfold ym;rw[aL];cases m<;>(try simp only at h)<;>try (cases h; done)
 rename_i b;simp only[kr];cases af:l[b]? with
 | none=>rw[af] at h; cases h
 | some c=>
  cases c<;>rw[af] at h<;>simp only at h<;>try (cases h; done)
  rename_i es fb;simp only;cases ar:lS P cK k with
  | false=>rw[ar] at h; cases h
  | true=>
   rw[ar] at h;simp only at h ⊢;cases aE:kY P cK k es 0 with
   | none=>rw[aE] at h; cases h
   | some r=>
    rw[aE] at h;cases r with
    | none=>cases h; simp only[pl _ (cp af)]
    | some vY=>cases h; simp only[pl _ (cp af)]
theorem ahh {t:TypeId} (ad:eo P t=some false) (h:aM) (p:U) :sy P h t p=(reach h p).bind fun x=>x.1[x.2]?:=by
 unfold sy ic; rw[ad]; cases reach h p<;>rfl
theorem ahi {t:TypeId} {n:Nat} (ad:eo P t=some true) (ae:cu P t=some n) (h:aM) (p:U) :sy P h t p=(reach h p).bind fun x=>sH n x.1 x.2:=by
 unfold sy ic; rw[ad,ae]; cases reach h p<;>rfl
theorem Z8 {b:Builtin} {ts:List TypeId} {args:List Operand} {m:c2} (hm:vd P b ts args=some m) {aA:Operand->U} {l l' : ao} {v:U} (h:bN P aA l m=some (v,l')) :
  pu P (a7 l) b ts (args.map aA)=some (.val v (a7 l')) :=by
 unfold vd at hm;split at hm
 ·rename_i Bm;split at hm
  ·rename_i k e aL;cases hm;simp only[bN,gH] at h;obtain⟨ae,rfl⟩:=h;unfold DS at ae;simp only[atr,auq,pu];cases ag:aA Bm<;>rw[ag] at ae<;>(try simp only at ae)<;>try (cases ae; done)
   ·cases ae; simp[yh,yi,aL]
   ·rename_i b;cases af:l'[b]? with
    | none=>rw[af] at ae; cases ae
    | some c=>
     cases c<;>rw[af] at ae<;>simp only at ae<;>try (cases ae; done)
     cases ae;simp[yi,aL,kr,af]
  ·rw[map_some] at hm;obtain⟨df,ad,rfl⟩:=hm;simp only[bN,gH] at h;obtain⟨ae,rfl⟩:=h;have aj:=ahd ad ae;have aF:∀ x,yi P (a7 l') _ x=none:=fun x=>by
    unfold pc at ad;unfold yi;split at ad<;>first | (rename_i aL; rw[aL]; done) | (cases ad; done) | skip
    all_goals (rename_i aL; simp only[aL])
   simp only[atr,auq,pu,aF];simp[aj]
 ·rw[map_some] at hm;obtain⟨df,ad,rfl⟩:=hm;simp only[bN,gH] at h;obtain⟨ae,rfl⟩:=h;simp[pu,aal ad ae]
 ·rename_i t u s x;simp only[atr,auq,pu];split at hm
  ·rename_i aL;simp only[bind_some] at hm;obtain⟨e,ad,z,ae,by_,aj,zero,aF,hm⟩:=hm;rw[iG] at hm;obtain⟨⟨a6,bu⟩,rfl⟩:=hm;simp only[bN] at h;unfold qB at h;cases ag:aA x<;>rw[ag] at h<;>(try simp only at h)<;>try (cases h; done)
   rename_i k n;by_cases cL:0<=n/\n<9223372036854775808/\n.toNat*by_<=ct
   ·rw[if_pos cL] at h;rw[aL];simp only[BC,ad,asInt,ae,aj,aF];rw[if_pos ⟨a6,cL⟩,OU bu h]; rfl
   ·rw[if_neg cL] at h; cases h
  ·cases hm
  ·rename_i aC aL;simp only[bind_some] at hm;obtain⟨e,ad,z,ae,by_,aj,hm⟩:=hm;rw[iG] at hm;obtain⟨bu,rfl⟩:=hm;simp only[bN] at h;unfold gT at h;cases ah:ds l z (aA x) with
   | none=>rw[ah] at h; cases h
   | some p=>
    obtain⟨xs,n⟩:=p;rw[ah] at h;simp only at h;have:rV P (a7 l) t (aA s) (aA x)=some (v,a7 l') :=by
     simp only[rV,ad,ae,aj,BU,ah];exact OU bu h
    rw[this];cases bb:P.underlying u with
    | none=>exact absurd bb aL
    | some d=>
     cases d<;>first | rfl | (rename_i k; exact absurd bb (aC k))
 ·simp only[bind_some,map_some] at hm;obtain⟨e,ad,z,ae,rfl⟩:=hm;simp only[bN] at h;simp[pu,aaO ad ae h]
 ·split at hm
  ·rename_i e aL;rw[map_some] at hm;obtain⟨zero,ad,rfl⟩:=hm;simp only[bN,map_some,Prod.mk.injEq] at h;obtain⟨bo,ae,rfl,rfl⟩:=h;simp[pu,aay aL ad ae]
  ·cases hm
 ·cases hm;simp only[bN,gH] at h;obtain⟨ae,rfl⟩:=h;simp[pu,ae]
 ·cases hm;simp only[bN,gH] at h;obtain⟨ae,rfl⟩:=h;simp[pu,ae]
 ·cases hm
theorem MR {t:TypeId} (ad:eo P t=some false) (cs:List U) (off:Nat) :ic P t cs off=cs[off]?:=by unfold ic; rw[ad]
theorem V9 {t:TypeId} {n:Nat} (ad:eo P t=some true) (ae:cu P t=some n) (cs:List U) (off:Nat) :ic P t cs off=sH n cs off:=by unfold ic; rw[ad,ae]; rfl
theorem Jp {s d:TypeId} {x:U} (h:∀ e,P.underlying d=some (.slice e)->False) :za P s d x=none:=by
 unfold za;split
 ·rename_i e ak bb ag;exact (h e ag).elim
 ·rfl
theorem HB {op:Op} {m:c2} (hm:m8 P op=some m) {aA:Operand->U} {l l' : ao} {v:U} (h:bN P aA l m=some (v,l')) :cW P (a7 l) aA op=some (.val v (a7 l')) :=by
 cases op<;>simp only[m8] at hm<;>try (cases hm; done)
 case move x=>cases hm; simp only[bN,Option.some.injEq,Prod.mk.injEq] at h; obtain⟨rfl,rfl⟩:=h; rfl
 case assign x=>cases hm; simp only[bN,Option.some.injEq,Prod.mk.injEq] at h; obtain⟨rfl,rfl⟩:=h; rfl
 case pick c a b=>
  cases hm; simp only[bN,gH] at h;obtain⟨ae,rfl⟩:=h;simp only[cW];unfold Ed at ae;cases ah:aA c<;>rw[ah] at ae<;>(try simp only at ae)<;>try (cases ae; done)
  cases ae; rfl
 case alloc t=>
  rw[map_some] at hm;obtain⟨zero,ad,rfl⟩:=hm;simp only[bN,Option.some.injEq,Prod.mk.injEq] at h;obtain⟨rfl,rfl⟩:=h;simp only[cW,ad,nN]; rfl
 case box t x=>
  cases hm;simp only[bN,map_some,Prod.mk.injEq] at h;obtain⟨cs,ad,rfl,rfl⟩:=h;simp only[cW,ad,nN]; rfl
 case build t ps=>
  simp only[bind_some,map_some] at hm;obtain⟨zero,ad,q,ae,rfl⟩:=hm;simp only[bN,gH,map_some] at h;obtain⟨⟨cs,aj,rfl⟩,rfl⟩:=h;simp only[cW,ZS ae aA zero ad aj]; rfl
 case buildSlice t n ps=>
  simp only[bind_some] at hm;obtain⟨e,ad,z,ae,zero,aj,hm⟩:=hm;rw[iG] at hm;obtain⟨aF,rfl⟩:=hm;simp only[bN,map_some,Prod.mk.injEq] at h;obtain⟨cs,a6,rfl,rfl⟩:=h;simp only[cW,Fi,ad,ae,aj,if_pos aF,a6,nN]; rfl
 case load t a=>
  split at hm
  ·rename_i n ad ae;cases hm;simp only[bN,gH] at h;obtain⟨aj,rfl⟩:=h;simp only[cW,ahi ad ae,M7,aj]; rfl
  ·rename_i ad;cases hm;simp only[bN,gH] at h;obtain⟨aj,rfl⟩:=h;simp only[cW,ahh ad,M7,aj]; rfl
  ·cases hm
 case store t a x=>
  rw[map_some] at hm;obtain⟨n,ad,rfl⟩:=hm;simp only[bN,map_some,Prod.mk.injEq] at h;obtain⟨bo,ae,rfl,rfl⟩:=h;simp only[cW,ak6 ad ae]; rfl
 case nilCheck x=>
  cases hm;simp only[bN,gH] at h;obtain⟨ae,rfl⟩:=h;simp only[cW];unfold ys at ae;cases ah:aA x<;>rw[ah] at ae<;>simp only at ae<;>first | (cases ae; done) | (cases ae; rfl)
 case binOp o t x y u=>
  cases hm;simp only[bN,gH] at h;obtain⟨ae,rfl⟩:=h;simp only[cW,ae]; rfl
 case unOp o t x=>
  cases hm;simp only[bN,gH] at h;obtain⟨ae,rfl⟩:=h;simp only[cW,ae]; rfl
 case convert s d x=>
  simp only[cW];split at hm
  ·rename_i im k ak bb;cases hm;simp only[bN,gH] at h;obtain⟨ae,rfl⟩:=h;rw[Jp (fun e am=>by rw[bb] at am; cases am)];unfold zf at ae;cases ag:aA x<;>rw[ag] at ae<;>(try simp only at ae)<;>try (cases ae; done)
   cases ae;simp only[xj,ak,bb]; rfl
  ·rename_i e ak bb;split at hm
   ·rename_i am;cases hm;simp only[bN,gH] at h;obtain⟨ae,rfl⟩:=h;rw[Jp (fun e am=>by rw[bb] at am; cases am)];have:xj P (a7 l') s d (aA x)=some v:=by
     rw[<-ae];unfold xj u5;rw[ak,bb];cases ag:aA x<;>(simp only[am,BU])<;>(try rfl)<;>(rw[ag] at ae; unfold u5 at ae; simp only at ae)
     ·cases ae
     all_goals (cases ah:ds l' 1 _<;>rfl)
    rw[this]; rfl
   ·cases hm
  ·rename_i ak bb;cases hm;simp only[bN,gH] at h;obtain⟨ae,rfl⟩:=h;rw[Jp (fun e am=>by rw[bb] at am; cases am)];unfold Fw at ae;cases ag:aA x<;>rw[ag] at ae<;>(try simp only at ae)<;>try (cases ae; done)
   cases ae;simp only[xj,ak,bb]; rfl
  ·rename_i e ak bb;split at hm
   ·rename_i am;cases hm;simp only[bN,gH] at h;obtain⟨ae,rfl⟩:=h;unfold vk at ae;cases ag:aA x<;>rw[ag] at ae<;>(try simp only at ae)<;>try (cases ae; done)
    cases ae;simp only[za,ak,bb,am]
   ·cases hm
  ·cases hm
 case makeInterface t x=>
  split at hm
  ·cases hm
  ·cases hm
  ·rename_i ad ae;cases hm;simp only[bN,Option.some.injEq,Prod.mk.injEq] at h;obtain⟨rfl,rfl⟩:=h;simp only[cW]
 case typeAssert x Og t ok=>
  rw[map_some] at hm;obtain⟨z,ax,rfl⟩:=hm;simp only[bN,gH] at h;obtain⟨ae,rfl⟩:=h;simp only[cW,ax,ae,as9]
 case makeFunc f a b=>
  cases f<;>simp only at hm<;>try (cases hm; done)
  cases hm;simp only[bN,Option.some.injEq,Prod.mk.injEq] at h;obtain⟨rfl,rfl⟩:=h;rfl
 case makeSlice t a c=>
  simp only[bind_some] at hm;obtain⟨e,ad,z,ae,by_,aj,zero,aF,hm⟩:=hm;rw[iG] at hm;obtain⟨a6,rfl⟩:=hm;simp only[bN] at h;unfold rn at h;cases aB:aA a<;>rw[aB] at h<;>(try simp only at h)<;>try (cases h; done)
  cases ah:aA c<;>rw[ah] at h<;>(try simp only at h)<;>try (cases h; done)
  rw[iG] at h;obtain⟨bu,cL⟩:=h;cases cL;simp only[cW,aB,ah,Hv,ad,asInt,ae,aj,aF,if_pos (And.intro a6 bu),nN]; rfl
 case slice t x cG az cH=>
  rw[map_some] at hm;obtain⟨df,ad,rfl⟩:=hm;simp only[bN,gH] at h;obtain⟨ae,rfl⟩:=h;rw[akM ad] at ae;simp only[cW,ae]; rfl
 case fieldAddr s x f=>
  rw[bind_some] at hm;obtain⟨fd,ad,hm⟩:=hm;split at hm
  ·rename_i n ae;cases hm;simp only[bN,gH] at h;obtain⟨aj,rfl⟩:=h;simp only[cW,FF,ad,ae,aj]; rfl
  ·cases hm
 case field t x f=>
  rw[bind_some] at hm;obtain⟨fd,ad,hm⟩:=hm;split at hm
  ·rename_i n ae aj;cases hm;simp only[bN,gH] at h;obtain⟨aF,rfl⟩:=h;unfold zC at aF;cases ag:aA x<;>rw[ag] at aF<;>(try simp only at aF)<;>try (cases aF; done)
   simp only[cW,ag,ad,V9 ae aj,aF]; rfl
  ·rename_i ae;cases hm;simp only[bN,gH] at h;obtain⟨aF,rfl⟩:=h;unfold Ca at aF;cases ag:aA x<;>rw[ag] at aF<;>(try simp only at aF)<;>try (cases aF; done)
   simp only[cW,ag,ad,MR ae,aF]; rfl
  ·cases hm
 case indexAddr t x i=>
  split at hm
  ·rename_i n z ad;cases hm;simp only[bN,gH] at h;obtain⟨ae,rfl⟩:=h;simp only[cW,Ut ad ae]; rfl
  ·rename_i z ad;cases hm;simp only[bN,gH] at h;obtain⟨ae,rfl⟩:=h;simp only[cW,Ut ad ae]; rfl
  ·cases hm
 case index t x i=>
  split at hm
  ·rename_i n e aL;split at hm
   ·rename_i z ad ae;cases hm;simp only[bN,gH] at h;obtain⟨aj,rfl⟩:=h;unfold DF at aj;cases ag:aA x<;>rw[ag] at aj<;>(try simp only at aj)<;>try (cases aj; done)
    cases az:aA i<;>rw[az] at aj<;>(try simp only at aj)<;>try (cases aj; done)
    simp only[cW,At,ag,az,aL,asInt,ad,V9 ae ad,aj]; rfl
   ·rename_i z ad ae;cases hm;simp only[bN,gH] at h;obtain⟨aj,rfl⟩:=h;unfold DE at aj;cases ag:aA x<;>rw[ag] at aj<;>(try simp only at aj)<;>try (cases aj; done)
    cases az:aA i<;>rw[az] at aj<;>(try simp only at aj)<;>try (cases aj; done)
    simp only[cW,At,ag,az,aL,asInt,ad,MR ae,aj]; rfl
   ·cases hm
  ·rename_i aL;cases hm;simp only[bN,gH] at h;obtain⟨aj,rfl⟩:=h;unfold yd at aj;cases ag:aA x<;>rw[ag] at aj<;>(try simp only at aj)<;>try (cases aj; done)
   cases az:aA i<;>rw[az] at aj<;>(try simp only at aj)<;>try (cases aj; done)
   simp only[cW,At,ag,az,aL,asInt,aj]; rfl
  ·cases hm
 case extract x i=>
  cases hm;simp only[bN,gH] at h;obtain⟨ae,rfl⟩:=h;unfold B6 at ae;cases ag:aA x<;>rw[ag] at ae<;>(try simp only at ae)<;>try (cases ae; done)
  simp only[cW,ag,ae]; rfl
 case call c=>
  split at hm
  ·rename_i b af;simp only[cW,u1,af];exact Z8 hm h
  ·rename_i f aE;split at hm
   ·rename_i fn x y iB F3;rw[iG] at hm;obtain⟨az,rfl⟩:=hm;simp only[bN] at h;split at h
    case h_2=>cases h
    rename_i Gq;rw[gH] at h;obtain⟨ae,rfl⟩:=h;unfold cmpL at ae;have fV:∀ x,rY (a7 l') x=oH l' x:=fun x=>by
     cases x<;>simp only[rY,oH,BU]<;>rfl
    have sf:¬(fn.body.isSome=true/\fn.name≠ "runtime.NumGoroutine") :=by
     rintro⟨a,_⟩;unfold Dz at az;simp only[as7] at az;rw[avO.1 az.1.1] at a; cases a
    have xM:aA (.func f)=.fn f [] [] :=by
     unfold DA at Gq;split at Gq
     ·rename_i g aw; rw[aw,atz Gq]
     ·cases Gq
    simp only[cW,u1,aE,xM,iB,if_neg sf,if_pos az,F3,atr,auq,at1,atB,BT,fV];cases aB:oH l' (aA x) with
    | none=>rw[aB] at ae; cases ae
    | some a=>
     cases af:oH l' (aA y) with
     | none=>rw[aB,af] at ae; cases ae
     | some b=>rw[aB,af] at ae; cases ae; rfl
   ·cases hm
  ·cases hm
 case panic x=>cases hm; cases h
 case makeMap t r=>
  split at hm
  ·rename_i k e aL;cases hm;simp only[bN] at h;cases r with
   | none=>cases h; simp[cW,aL,nN]
   | some x=>
    simp only at h;cases ag:asInt (aA x) with
    | none=>rw[ag] at h; cases h
    | some n=>rw[ag] at h; cases h; simp[cW,aL,ag,nN]
  ·cases hm
 case lookup t m k ok=>
  split at hm
  ·rename_i cK mz aL;rw[map_some] at hm;obtain⟨z,ax,rfl⟩:=hm;simp only[bN,gH] at h;obtain⟨ae,rfl⟩:=h;have C7:∀ x,mapOf (a7 l') x=v5 l' x:=fun x=>by
    cases x<;>try rfl
    rename_i b;simp only[mapOf,v5,kr];cases l'[b]? with
    | none=>rfl
    | some c=>cases c<;>rfl
   unfold AC at ae;simp only[cW,Hr,aL,C7];cases lI:v5 l' (aA m) with
   | none=>rw[lI] at ae; cases ae
   | some es=>
    rw[lI] at ae;simp only at ae ⊢;cases ar:lS P cK (aA k) with
    | false=>rw[ar] at ae; cases ae
    | true=>
     rw[ar] at ae;simp only at ae ⊢;cases aE:kY P cK (aA k) es 0 with
     | none=>rw[aE] at ae; cases ae
     | some r=>
      rw[aE] at ae;cases r with
      | none=>cases ae; simp[ax]
      | some vY=>cases ae; rfl
  ·cases hm
 case mapUpdate t m k x=>
  split at hm
  ·rename_i cK mz aL;cases hm;simp only[bN,map_some] at h;obtain⟨bo,ae,aj⟩:=h;cases aj;simp only[cW,Vy aL ae]; rfl
  ·cases hm
 case insert t m k x=>
  split at hm
  ·rename_i cK mz aL;cases hm;simp only[bN,map_some] at h;obtain⟨bo,ae,aj⟩:=h;cases aj;simp only[cW,Vy aL ae]; rfl
  ·cases hm
 case range t x=>
  split at hm
  ·rename_i aL;cases hm;simp only[bN] at h;unfold AW at h;cases ag:aA x<;>rw[ag] at h<;>(try simp only at h)<;>try (cases h; done)
   cases h;simp[cW,HV,aL,ag,nN]
  ·cases hm
 case next it b=>
  cases b with
  | false=>cases hm
  | true=>
   cases hm;simp only[bN] at h;unfold uj at h;simp only[cW,AG];cases ag:aA it<;>rw[ag] at h<;>(try simp only at h)<;>try (cases h; done)
   rename_i b;simp only[kr];cases af:l[b]? with
   | none=>rw[af] at h; cases h
   | some c=>
    cases c<;>rw[af] at h<;>simp only at h<;>try (cases h; done)
    simp only;split at h
    ·rename_i aK; cases h; rw[aK]; simp only[as9,pl _ (cp af)]
    ·rename_i aK; cases h; rw[aK]; rfl
end
abbrev a8:=Nat->U
abbrev hk:=rL->a8->ao->Prop
class Ov (α:Type) where
 k:α->Prop
class Bu where
 p:Prop
 q:Prop
class s1 where
 k:U->ao->Prop
class II where
 k:hk
def W {α:Type} (o:Option α) [c:Ov α] :Prop:=match o with | some v=>c.k v | none=>False
def ri (b:Bool) [c:Bu] :Prop:=match b with | true=>c.p | false=>c.q
def yg (x:U) [c:Bu] :Prop:=match x with | .bool b=>ri b (c:=c) | _=>False
def rh (x:U) (w:Bool) [c:Bu] :Prop:=match x with | .bool b=>ri (b == w) (c:=c) | .bad=>False | _=>c.q
inductive qp where
 | gu (m:c2)
 | mu (f:FuncId) (args:List Operand)
 | mv (x:Operand) (args:List Operand)
 | nT (x:Operand) (name:String) (args:List Operand)
structure dd where
 i:Nat
 dst:Option Tmp
 g:Option (Option Tmp × Bool)
 b:qp
 hN:List Nat
 cb:Bool
inductive fw where
 | skip
 | ret
 | exit (id:Nat)
 | lk (s:List dd)
 | xm (s:List dd)
 | seq (a b:fw)
 | cond (c:Operand) (x y:fw)
 | block (id:Nat) (c:fw)
 | loop (c:fw)
section
variable (P:Program) (G:Nat->U)
def j8 (f:FuncId) :Bool:=match P.funcs[f]? with | some fn=>fn.body.isSome&&fn.name != "runtime.NumGoroutine" | none=>false
def dh (f:FuncId) (args:List U) (l:ao) [c:s1] :Prop:=∃ r l',dv P G (.call f args (a7 l) r (a7 l'))/\l.length<=l'.length/\c.k r l'
def u3 (x:U) (args:List U) (l:ao) [c:s1] :Prop:=match x with
 | .fn g first gn=>j8 P g=true/\dh P G g (first++args++gn) l (c:=c)
 | _=>False
def u2 (name:String) (x:U) (args:List U) (l:ao) [c:s1] :Prop:=match x with
 | .hq t v=>match yn P t name with
  | some g=>j8 P g=true/\dh P G g (v::args) l (c:=c)
  | none=>False
 | _=>False
def c8 (v:U) (l:ao) [c:s1] :Prop:=c.k v l\/∃ b2 bo,m2 (a7 l) (a7 bo)/\m0 (a7 l) (a7 bo) v b2/\c.k b2 bo
def ej (m:c2) (v:U) (l:ao) (K:U->ao->Prop) :Prop:=match m with
 | .app ..=>c8 v l (c:=⟨K⟩)
 | _=>K v l
def ih (b:qp) (σ:a8) (l:ao) (K:U->ao->Prop) :Prop:=match b with
 | .gu m=>W (bN P (cS G σ) l m) (c:=⟨fun x=>ej m x.1 x.2 K⟩)
 | .mu f args=>dh P G f (args.map (cS G σ)) l (c:=⟨K⟩)
 | .mv x args=>u3 P G (cS G σ x) (args.map (cS G σ)) l (c:=⟨K⟩)
 | .nT x name args=>u2 P G name (cS G σ x) (args.map (cS G σ)) l (c:=⟨K⟩)
def p3 (σ:a8) (g:Option (Option Tmp × Bool)) (p q:Prop) :Prop:=match g with
 | none=>p
 | some (some d,w)=>rh (σ d) w (c:=⟨p,q⟩)
 | some (none,_)=>q
def i1:List dd->a8->ao->(a8->ao->Prop)->Prop
 | [],σ,l,K=>K σ l
 | s::r,σ,l,K=>p3 σ s.g (ih P G s.b σ l fun v l'=>i1 r (hG σ s.dst v) l' K) (i1 r (hG σ s.dst gy) l K)
abbrev iQ:=List (Nat × (ao->Prop))
def pw (ids:List Nat) :iQ->ao->Prop
 | [],_=>True
 | e::r,l=>(ids.contains e.1=true->e.2 l)/\pw ids r l
def c2.je:c2->Bool
 | .alloc _ | .box _ | .qD .. | .rm ..=>true
 | _=>false
def lW (b:qp) (σ:a8) (v:U) (l l' l1:ao) :Prop:=match b with
 | .gu m=>match m.je with
  | true=>l1[l.length]? = l'[l.length]?
  | false=>bN P (cS G σ) l1 m=some (v,l1)
 | _=>True
def rC (cb:Bool) (i:Nat) (p:ao->Prop) (s:iQ) :iQ:=match cb with | true=>(i,p) ::s | false=>s
def jY:List dd->a8->ao->iQ->(a8->ao->Prop)->Prop
 | [],σ,l,_,K=>K σ l
 | s::r,σ,l,seen,K=>p3 σ s.g (ih P G s.b σ l fun v l'=>pw s.hN seen l'/\jY r (hG σ s.dst v) l' (rC s.cb s.i (lW P G s.b σ v l l') seen) K) (jY r (hG σ s.dst gy) l seen K)
def oo (k:a8->ao->Prop) (K:hk) :hk:=fun e σ l=>match e with
 | .normal=>k σ l
 | .exit id=>K (.exit id) σ l
 | .ret=>K .ret σ l
def rg (id:Nat) (K:hk) :hk:=fun e σ l=>match e with
 | .normal=>K .normal σ l
 | .exit sp=>match Nat.beq sp id with | true=>K .normal σ l | false=>K (.exit sp) σ l
 | .ret=>K .ret σ l
def AD (r:a8->ao->hk->Prop) :Nat->a8->ao->hk->Prop
 | 0=>fun _ _ _=>False
 | n+1=>fun σ l K=>r σ l (oo (fun σ l=>AD r n σ l K) K)
def EX (r:a8->ao->hk->Prop) (σ:a8) (l:ao) [c:II] :Prop:=∃ n,AD r n σ l c.k
def run:fw->a8->ao->hk->Prop
 | .skip,σ,l,K=>K .normal σ l
 | .ret,σ,l,K=>K .ret σ l
 | .exit id,σ,l,K=>K (.exit id) σ l
 | .lk s,σ,l,K=>i1 P G s σ l (K .normal)
 | .xm s,σ,l,K=>jY P G s σ l [] (K .normal)
 | .seq a b,σ,l,K=>run a σ l (oo (fun σ l=>run b σ l K) K)
 | .cond c x y,σ,l,K=>yg (cS G σ c) (c:=⟨run x σ l K,run y σ l K⟩)
 | .block id c,σ,l,K=>run c σ l (rg id K)
 | .loop c,σ,l,K=>EX (run c) σ l (c:=⟨K⟩)
def A9 (ops:Array Oper) (i:Nat) (hN:List Nat) (cb:Bool) :Option dd:=(ops[i]?).bind fun o=>
 let g:=o.guard.map fun fS=>((ops[fS.1]?).bind (·.dst),fS.2)
 match m8 P o.op with
 | some m=>some ⟨i,o.dst,g,.gu m,hN,cb⟩
 | none=>match o.op with
  | .call c=>match c.callee with
   | .value (.func f)=>match j8 P f with
    | true=>some ⟨i,o.dst,g,.mu f c.args.toList,hN,cb⟩
    | false=>none
   | .value x=>some ⟨i,o.dst,g,.mv x c.args.toList,hN,cb⟩
   | .invoke x name=>some ⟨i,o.dst,g,.nT x name c.args.toList,hN,cb⟩
   | _=>none
  | _=>none
def sR:Op->Bool
 | .load .. | .convert .. | .alloc _ | .box .. | .buildSlice .. | .makeSlice ..=>true
 | .call c=>match c.callee,c.argTypes.toList with
  | .builtin .len,[t]=>match P.underlying t with | some (.map _ _)=>true | _=>false
  | _,_=>false
 | _=>false
def aat (ms:List Nat) (ops:Array Oper) (done kX:List Nat) :List Nat:=
 done.filter fun j=>(match ops[j]? with | some o=>sR P o.op | none=>false)&&kX.all fun e=>!o6 ms e j
def ou (ms:List Nat) (ops:Array Oper) :List Nat->List Nat->List Nat->List (Nat × List Nat)
 | [],_,_=>[]
 | i::r,done,kX=>match ops[i]? with
  | none=>[]
  | some o=>match kJ o.op with
   | true=>(i,aat P ms ops done (i::kX)) ::ou ms ops r (i::done) (match o.guard with | none=>i::kX | some _=>kX)
   | false=>(i,[]) ::ou ms ops r (i::done) kX
def BZ (ms:List Nat) (ops:Array Oper) :List Nat->Bool
 | []=>true
 | i::r=>(match ops[i]? with | some o=>!kJ o.op||r.all fun j=>o6 ms j i | none=>false)&&BZ ms ops r
def Jx (N:Nat) (ops:Array Oper) (draw:Bool) :Option fw:=
 match ops.toList.all fun o=>jH N o.dst with
 | false=>none
 | true=>match draw with
  | false=>((List.range ops.size).mapM fun i=>A9 P ops i [] false).map .lk
  | true=>
   let ms:=i0 ops
   let ord:=fE ms ops
   match MQ ms ops ord&&BZ ms ops ord with
   | false=>none
   | true=>
    let We:=ou P ms ops ord [] []
    let ask:=We.flatMap (·.2)
    match We.mapM fun p=>A9 P ops p.1 p.2 (ask.contains p.1) with
    | none=>none
    | some s=>match ask with
     | []=>some (.lk s)
     | _=>some (.xm s)
def comp (N:Nat) :Code->Option fw
 | .skip=>some .skip
 | .label _=>some .skip
 | .ret=>some .ret
 | .exit id=>some (.exit id)
 | .region _ ops draw=>Jx P N ops draw
 | .seq a b=>match comp N a,comp N b with
  | some .skip,some b=>some b
  | some a,some .skip=>some a
  | some a,some b=>some (.seq a b)
  | _,_=>none
 | .cond c x y=>match comp N x,comp N y with
  | some x,some y=>some (.cond c x y)
  | _,_=>none
 | .block id c=>(comp N c).map (.block id)
 | .loop c=>(comp N c).map .loop
 | .scope c=>comp N c
 | _=>none
def ve (f:FuncId) :Option fw:=match P.funcs[f]? with
 | some fn=>match fn.body with
  | some c=>comp P fn.ntmps c
  | none=>none
 | none=>none
end

section
variable {P:Program} {G:Nat->U}
theorem OT {l l' : ao} {z by_ n:Nat} {s v:U} {xs:List U} (h:jq l z by_ s xs n=some (v,l')) :l.length<=l'.length:=by
 unfold jq at h
 repeat' split at h
 all_goals first | (cases h; done) | (cases h; simp)
theorem VH {aA:Operand->U} {l l' : ao} {m:c2} {v:U} (h:bN P aA l m=some (v,l')) :l.length<=l'.length:=by
 cases m<;>simp only[bN,gH,map_some,Option.some.injEq,Prod.mk.injEq] at h
 case fL=>obtain⟨_,rfl⟩:=h; exact as3 _
 case alloc=>obtain⟨_,rfl⟩:=h; simp
 case box=>obtain⟨_,_,_,rfl⟩:=h; simp
 case qD=>obtain⟨_,_,_,rfl⟩:=h; simp
 case st n a x=>
  obtain⟨_,h,_,rfl⟩:=h;unfold lX at h
  repeat' split at h
  all_goals first | (cases h; done) | (cases h; simp)
 case yq=>obtain⟨_,rfl⟩:=h; exact as3 _
 case yp=>obtain⟨_,rfl⟩:=h; exact as3 _
 case rm=>
  unfold rn at h
  repeat' split at h
  all_goals first | (cases h; done) | (cases h; simp)
 case app=>
  unfold gT at h;split at h
  ·cases h
  ·exact OT h
 case uU=>
  unfold qB at h
  repeat' split at h
  all_goals first | (cases h; done) | exact OT h
 case vj=>
  unfold zo at h
  repeat' split at h
  all_goals first | (cases h; done) | (cases h; simp)
 case vb=>
  obtain⟨_,h,_,rfl⟩:=h;unfold va at h
  repeat' split at h
  all_goals first | (cases h; done) | (cases h; simp)
 case stop=>cases h
 case ui x=>
  cases x with
  | none=>cases h; simp
  | some o=>
   simp only at h;split at h
   ·cases h; simp
   ·cases h
 case v8=>
  obtain⟨_,h,_,rfl⟩:=h;unfold v6 at h
  repeat' split at h
  all_goals first | (cases h; done) | (cases h; simp)
 case ws=>
  unfold AW at h
  repeat' split at h
  all_goals first | (cases h; done) | (cases h; simp)
 case wc=>
  unfold uj at h
  repeat' split at h
  all_goals first | (cases h; done) | (cases h; simp)
 case ca=>
  split at h
  ·rw[gH] at h; obtain⟨_,rfl⟩:=h; exact as3 _
  ·cases h
 all_goals (obtain⟨_,rfl⟩:=h; exact as3 _)
theorem y2 {α:Type} {o:Option α} {c:Ov α}:W o (c:=c)<->∃ v,o=some v/\c.k v:=by
 unfold W; cases o<;>simp
theorem DK {b:Bool} {c:Bu}:ri b (c:=c)<->(b=true/\c.p)\/(b=false/\c.q) :=by cases b<;>simp[ri]
structure po (P:Program) (ops:Array Oper) (s:dd) (o:Oper) :Prop where
 here:ops[s.i]? = some o
 dst:s.dst=o.dst
 g:s.g=o.guard.map fun fS=>((ops[fS.1]?).bind (·.dst),fS.2)
 gu:∀ m,s.b=.gu m->m8 P o.op=some m
 mu:∀ f args,s.b=.mu f args->∃ c:Call,o.op=.call c/\c.callee=.value (.func f)/\c.args.toList=args/\j8 P f=true
 mv:∀ x args,s.b=.mv x args->∃ c:Call,o.op=.call c/\c.callee=.value x/\c.args.toList=args
 nT:∀ x name args,s.b=.nT x name args->∃ c:Call,o.op=.call c/\c.callee=.invoke x name/\c.args.toList=args
theorem EA {ops:Array Oper} {i:Nat} {hN:List Nat} {cb:Bool} {s:dd} (h:A9 P ops i hN cb=some s) :∃ o,po P ops s o/\s.i=i/\s.hN=hN/\s.cb=cb:=by
 unfold A9 at h;rw[bind_some] at h;obtain⟨o,au,h⟩:=h;refine⟨o,?_⟩;simp only at h;split at h
 ·rename_i m hm;cases h;exact⟨⟨au,rfl,rfl,fun ch h=>(by cases h; exact hm),fun f a h=>(by cases h),fun x a h=>(by cases h),fun x n a h=>(by cases h)⟩,rfl,rfl,rfl⟩
 ·split at h
  ·rename_i c iD;split at h
   ·rename_i f ah;split at h
    ·rename_i aE;cases h;exact⟨⟨au,rfl,rfl,fun ch h=>(by cases h),fun f a h=>(by cases h; exact⟨c,iD,ah,rfl,aE⟩),fun x a h=>(by cases h),fun x n a h=>(by cases h)⟩,rfl,rfl,rfl⟩
    ·cases h
   ·rename_i x ag ah;cases h;exact⟨⟨au,rfl,rfl,fun ch h=>(by cases h),fun f a h=>(by cases h),fun x a h=>(by cases h; exact⟨c,iD,ah,rfl⟩),fun x n a h=>(by cases h)⟩,rfl,rfl,rfl⟩
   ·rename_i x name ah;cases h;exact⟨⟨au,rfl,rfl,fun ch h=>(by cases h),fun f a h=>(by cases h),fun x a h=>(by cases h),fun x n a h=>by cases h; exact⟨c,iD,ah,rfl⟩⟩,rfl,rfl,rfl⟩
   ·cases h
  ·cases h
theorem R2 {g:FuncId} (aE:j8 P g=true) {h:aM} {aA:Operand->U} {c:Call} {x:Operand} {first gn:List U} (ah:c.callee=.value x) (ag:aA x=.fn g first gn) :
  cW P h aA (.call c)=some (.call g (first++c.args.toList.map aA++gn) h) :=by
 unfold j8 at aE;simp only[cW,u1,ah,ag];cases iB:P.funcs[g]? with
 | none=>rw[iB] at aE; cases aE
 | some fn=>
  rw[iB] at aE;simp only[as7,bne_iff_ne] at aE;simp only;rw[if_pos aE]
theorem ab5 {g:FuncId} (aE:j8 P g=true) {h:aM} {aA:Operand->U} {c:Call} {x:Operand} {name:String} {t:TypeId} {v:U} (ah:c.callee=.invoke x name) (ag:aA x=.hq t v) (hm:yn P t name=some g) :
  cW P h aA (.call c)=some (.call g (v::c.args.toList.map aA) h) :=by
 unfold j8 at aE;simp only[cW,u1,ah,ag,hm];cases iB:P.funcs[g]? with
 | none=>rw[iB] at aE; cases aE
 | some fn=>
  rw[iB] at aE;simp only[as7,bne_iff_ne] at aE;simp only;rw[if_pos aE]
def c2.looks:c2->Bool
 | .alloc _ | .box _ | .qD .. | .rm .. | .st .. | .app .. | .uU .. | .vj .. | .vb .. | .ui _ | .yk .. | .v8 .. | .ws _ | .wc _ | .ca .. | .Ba .. | .stop=>false
 | _=>true
theorem agU {m:c2} {v:U} {l:ao} {K:U->ao->Prop} (h:ej m v l K) :K v l\/(m.looks=false/\m.je=false/\∃ b2 bo,m2 (a7 l) (a7 bo)/\m0 (a7 l) (a7 bo) v b2/\K b2 bo) :=by
 cases m<;>first | exact .inl h | skip
 rcases h with h | h
 ·exact .inl h
 ·exact .inr ⟨rfl,rfl,h⟩
theorem Vh {m:c2} {v:U} {l:ao} {K eZ:U->ao->Prop} (aU:∀ v l,K v l->eZ v l) (h:ej m v l K) :ej m v l eZ:=by
 cases m<;>first | exact aU _ _ h | skip
 rcases h with h | ⟨b2,bo,ad,ae,aj⟩
 ·exact .inl (aU _ _ h)
 ·exact .inr ⟨b2,bo,ad,ae,aU _ _ aj⟩
theorem XL {ops:Array Oper} {s:dd} {o:Oper} (ok:po P ops s o) {σ:a8} {l:ao} {K:U->ao->Prop} (h:ih P G s.b σ l K) :
  ∃ v l',dv P G (.op o.op σ (a7 l) v (a7 l'))/\l.length<=l'.length/\K v l'/\∀ m,s.b=.gu m->(m.looks=true\/m.je=true)->bN P (cS G σ) l m=some (v,l') :=by
 cases af:s.b with
 | gu m=>
  rw[af] at h;simp only[ih,y2] at h;obtain⟨⟨v,l'⟩,ad,ae⟩:=h;have am:=dv.HI (G:=G) (HB (ok.gu m af) ad);rcases agU ae with ae | ⟨kh,p5,b2,bo,bU,b8,ei⟩
  ·exact⟨v,l',am,VH ad,ae,fun ch hm _=>by cases hm; exact ad⟩
  ·refine⟨b2,bo,.Iv am bU b8,atR (VH ad) (Nat.le_of_eq bU.n.symm),ei,fun ch hm al=>?_⟩;cases hm;rw[kh,p5] at al;rcases al with h | h<;>cases h
 | mu f args=>
  rw[af] at h;obtain⟨r,l',ad,ae,aj⟩:=h;obtain⟨c,iD,ah,aB,aE⟩:=ok.mu f args af;refine⟨r,l',?_,ae,aj,fun ch hm _=>by cases hm⟩;rw[iD];refine .AM (R2 aE ah rfl) ?_;simpa [aB] using ad
 | mv x args=>
  rw[af] at h;simp only[ih] at h;obtain⟨c,iD,ah,aB⟩:=ok.mv x args af;unfold u3 at h;split at h
  ·rename_i g first gn ag
   obtain⟨aE,r,l',ad,ae,aj⟩:=h;refine⟨r,l',?_,ae,aj,fun ch hm _=>by cases hm⟩;rw[iD];refine .AM (R2 aE ah ag) ?_;rw[aB]; exact ad
  ·cases h
 | nT x name args=>
  rw[af] at h;simp only[ih] at h;obtain⟨c,iD,ah,aB⟩:=ok.nT x name args af;unfold u2 at h;split at h
  ·rename_i t v ag;split at h
   ·rename_i g hm;obtain⟨aE,r,l',ad,ae,aj⟩:=h;refine⟨r,l',?_,ae,aj,fun ch hm _=>by cases hm⟩;rw[iD];refine .AM (ab5 aE ah ag hm) ?_;rw[aB]; exact ad
   ·cases h
  ·cases h
theorem UK {ops:Array Oper} {s:dd} {o:Oper} (ok:po P ops s o) {σ:a8} {p q:Prop} (h:p3 σ s.g p q) :(kT ops σ o=some true/\p)\/(kT ops σ o=some false/\q) :=by
 rw[ok.g] at h;unfold kT;cases aw:o.guard with
 | none=>rw[aw] at h; exact .inl ⟨rfl,h⟩
 | some fS=>
  obtain⟨j,w⟩:=fS;rw[aw] at h;simp only[as9] at h ⊢;cases bb:(ops[j]?).bind (·.dst) with
  | none=>rw[bb] at h; exact .inr ⟨rfl,h⟩
  | some d=>
   rw[bb] at h;simp only[p3,rh] at h ⊢;cases ak:σ d<;>rw[ak] at h<;>simp only at h ⊢<;>first | exact .inr ⟨trivial,h⟩ | (cases h; done) | skip
   rw[DK] at h;rcases h with ⟨ad,ae⟩ | ⟨ad,ae⟩
   ·exact .inl ⟨by rw[ad],ae⟩
   ·exact .inr ⟨by rw[ad],ae⟩
inductive nM (P:Program) (ops:Array Oper) :List dd->List Oper->Prop
 | nil:nM P ops [] []
 | cons {s o qe os}:po P ops s o->nM P ops qe os->nM P ops (s::qe) (o::os)
theorem Es {ops:Array Oper} {N:Nat} (fo:∀ (i:Nat) (o:Oper),ops[i]? = some o->jH N o.dst=true) {K:a8->ao->Prop}:∀ {s:List dd} {os:List Oper} {σ:a8} {l:ao},
  nM P ops s os->i1 P G s σ l K->∃ bE l',dv P G (.ops ops os N σ (a7 l) bE (a7 l'))/\l.length<=l'.length/\K bE l'
 | [],_,σ,l,aE,h=>by cases aE; exact⟨σ,l,.VW,as3 _,h⟩
 | s::r,_,σ,l,aE,h=>by
  cases aE with
  | cons ok aE=>
   rename_i o os;rcases UK ok h with ⟨aW,h⟩ | ⟨aW,h⟩
   ·obtain⟨v,l1,ad,ae,aj,_⟩:=XL ok h;obtain⟨bE,l',aF,a6,bu⟩:=Es fo aE aj;exact⟨bE,l',.VX aW (fo _ _ ok.here) ad (by rw[<-ok.dst]; exact aF),atR ae a6,bu⟩
   ·obtain⟨bE,l',aF,a6,bu⟩:=Es fo aE h;exact⟨bE,l',.VY aW (fo _ _ ok.here) (by rw[<-ok.dst]; exact aF),a6,bu⟩
theorem WV {l x:ao} {p:U} {y:List U × Nat} (h:g4 l p=some y) :g4 (l++x) p=some y:=by
 cases p<;>first | exact h | skip
 rename_i b off sz;simp only[g4] at h ⊢;cases af:l[b]? with
 | none=>rw[af] at h; cases h
 | some c=>rw[af] at h; rw[as2 (cp af),af]; exact h
theorem aaM {l x:ao} {z:Nat} {p:U} {y:List U × Nat} (h:ds l z p=some y) :ds (l++x) z p=some y:=by
 cases p<;>first | exact h | skip
 rename_i du b off len cap sz;simp only[ds] at h ⊢;cases af:l[b]? with
 | none=>rw[af] at h; cases h
 | some c=>rw[af] at h; rw[as2 (cp af),af]; exact h
theorem aap {l x:ao} {p v:U} (h:u5 l p=some v) :u5 (l++x) p=some v:=by
 unfold u5 at h ⊢;cases p<;>simp only at h ⊢<;>first | exact h | skip
 all_goals
  split at h
  ·rename_i cs n ah;rw[aaM ah]; exact h
  ·cases h
def c2.reads:c2->Bool
 | .nx _ | .lU .. | .td _ | .v1 _=>true
 | _=>false
theorem Vq {aA:Operand->U} {l l' : ao} {m:c2} {v:U} (hm:m.looks=true) (h:bN P aA l m=some (v,l')) :l'=l:=by
 cases m<;>simp only[c2.looks,Bool.true_eq,auh,reduceCtorEq] at hm<;>simp only[bN,gH,Option.some.injEq,Prod.mk.injEq] at h<;>first | exact h.2 | exact h.2.symm
theorem ahk {aA:Operand->U} {l x:ao} {m:c2} {v:U} (hm:m.looks=true) (h:bN P aA l m=some (v,l)) :bN P aA (l++x) m=some (v,l++x) :=by
 cases m<;>simp only[c2.looks,Bool.true_eq,auh,reduceCtorEq] at hm<;>simp only[bN,gH,Option.some.injEq,Prod.mk.injEq,and_true] at h ⊢<;>try exact h
 case nx a=>
  rw[bind_some] at h ⊢;obtain⟨y,ad,ae⟩:=h;exact⟨y,WV ad,ae⟩
 case lU n a=>
  rw[bind_some] at h ⊢;obtain⟨y,ad,ae⟩:=h;exact⟨y,WV ad,ae⟩
 case td x=>exact aap h
 case v1 y=>
  unfold DS at h ⊢;cases ag:aA y<;>rw[ag] at h<;>(try simp only at h)<;>try (cases h; done)
  ·exact h
  ·rename_i b;cases af:l[b]? with
   | none=>rw[af] at h; cases h
   | some c=>simp only[as2 (cp af)]; exact h
theorem ahl {aA:Operand->U} {l bo:ao} {m:c2} {v:U} (hm:m.looks=true) (ay:m.reads=false) (h:bN P aA l m=some (v,l)) :bN P aA bo m=some (v,bo) :=by
 cases m<;>simp only[c2.looks,Bool.true_eq,auh,reduceCtorEq] at hm<;>simp only[c2.reads,reduceCtorEq] at ay<;>simp only[bN,gH,Option.some.injEq,Prod.mk.injEq,and_true] at h ⊢<;>exact h
theorem Nb (zero:List U) :∀ n,(dx zero n).length=n*zero.length
 | 0=>by simp[dx]
 | n+1=>by rw[dx,as8,Nb zero n,atL,Nat.add_comm]
theorem akW {cs vs:List U} {off:Nat} (h:off+vs.length<=cs.length) :(bg cs off vs).length=cs.length:=by
 simp only[bg,as8,ati,at7]; omega
theorem RM {lh:Nat->Option (Nat × Nat)}:∀ {ps:List (Nat × U)} {zero cs:List U},hQ lh zero ps=some cs->cs.length=zero.length
 | [],zero,cs,h=>by simp only[hQ,Option.some.injEq] at h; rw[<-h]
 | (i,v) ::r,zero,cs,h=>by
  unfold hQ at h;split at h
  ·rename_i off size vs _ _;split at h
   ·rename_i ad;rw[RM h,akW (by omega)]
   ·cases h
  ·cases h
theorem ahY {op:Op} {m:c2} (hm:m8 P op=some m) (aC:m.je=true) {aA:Operand->U} {l l' : ao} {v:U} (h:bN P aA l m=some (v,l')) :
  ∃ cs mk,nA P aA op=some (cs,mk)/\v=mk l.length/\l'=l++[.cells cs.length cs] :=by
 cases op<;>simp only[m8] at hm<;>try (cases hm; done)
 case alloc t=>
  rw[map_some] at hm;obtain⟨zero,ad,rfl⟩:=hm;simp only[bN,Option.some.injEq,Prod.mk.injEq] at h;obtain⟨rfl,rfl⟩:=h;exact⟨zero,_,by simp only[nA,ad]; rfl,rfl,rfl⟩
 case box t x=>
  cases hm;simp only[bN,map_some,Prod.mk.injEq] at h;obtain⟨cs,ad,rfl,rfl⟩:=h;exact⟨cs,_,by simp only[nA,ad]; rfl,rfl,rfl⟩
 case buildSlice t n ps=>
  simp only[bind_some] at hm;obtain⟨e,ad,z,ae,zero,aj,hm⟩:=hm;rw[iG] at hm;obtain⟨aF,rfl⟩:=hm;simp only[bN,map_some,Prod.mk.injEq] at h;obtain⟨cs,a6,rfl,rfl⟩:=h;have bD:cs.length=n*z:=by rw[RM a6,Nb,aF.1]
  exact⟨cs,_,by simp only[nA,ad,ae,aj,if_pos aF,a6]; rfl,rfl,by rw[bD]⟩
 case makeSlice t a c=>
  simp only[bind_some] at hm;obtain⟨e,ad,z,ae,by_,aj,zero,aF,hm⟩:=hm;rw[iG] at hm;obtain⟨a6,rfl⟩:=hm;simp only[bN] at h;unfold rn at h;cases aB:aA a<;>rw[aB] at h<;>(try simp only at h)<;>try (cases h; done)
  cases ah:aA c<;>rw[ah] at h<;>(try simp only at h)<;>try (cases h; done)
  rw[iG] at h;obtain⟨bu,cL⟩:=h;cases cL;rename_i kc nc;have bD:(dx zero nc.toNat).length=nc.toNat*z:=by rw[Nb,a6]
  exact⟨dx zero nc.toNat,_,by simp only[nA,aB,ah,ad,asInt,ae,aj,aF]; rw[if_pos ⟨a6,bu⟩],rfl,by rw[bD]⟩
 case pick=>cases hm; cases aC
 case move=>cases hm; cases aC
 case assign=>cases hm; cases aC
 case nilCheck=>cases hm; cases aC
 case binOp=>cases hm; cases aC
 case unOp=>cases hm; cases aC
 case call c=>
  exfalso;split at hm
  ·unfold vd at hm
   repeat' split at hm
   all_goals first
    | (cases hm; done)
    | (cases hm; cases aC; done)
    | (simp only[bind_some,map_some] at hm; obtain⟨_,_,rfl⟩:=hm; cases aC; done)
    | (simp only[bind_some,map_some] at hm; obtain⟨_,_,_,_,rfl⟩:=hm; cases aC; done)
    | (simp only[bind_some,iG] at hm; obtain⟨_,_,_,_,_,_,_,rfl⟩:=hm; cases aC; done)
    | (simp only[bind_some,iG] at hm; obtain⟨_,_,_,_,_,_,_,_,_,rfl⟩:=hm; cases aC; done)
  ·split at hm
   ·rw[iG] at hm; obtain⟨_,rfl⟩:=hm; cases aC
   ·cases hm
  ·cases hm
 case next it b=>exfalso; cases b<;>simp only[reduceCtorEq] at hm<;>cases hm<;>cases aC
 case panic=>cases hm; cases aC
 case lookup=>exfalso; split at hm<;>(try cases hm; done); rw[map_some] at hm; obtain⟨_,_,rfl⟩:=hm; cases aC
 case build=>exfalso; simp only[bind_some,map_some] at hm; obtain⟨_,_,_,_,rfl⟩:=hm; cases aC
 case typeAssert=>exfalso; rw[map_some] at hm; obtain⟨_,_,rfl⟩:=hm; cases aC
 case store=>exfalso; rw[map_some] at hm; obtain⟨_,_,rfl⟩:=hm; cases aC
 case slice=>exfalso; rw[map_some] at hm; obtain⟨_,_,rfl⟩:=hm; cases aC
 case fieldAddr=>exfalso; rw[bind_some] at hm; obtain⟨_,_,hm⟩:=hm; split at hm<;>cases hm; cases aC
 case field=>exfalso; rw[bind_some] at hm; obtain⟨_,_,hm⟩:=hm; split at hm<;>cases hm<;>cases aC
 case extract=>cases hm; cases aC
 case makeFunc f a b=>exfalso; cases f<;>simp only at hm<;>cases hm; cases aC
 all_goals
  exfalso
  repeat' split at hm
  all_goals first | (cases hm; done) | (cases hm; cases aC; done)
end

end Go.bY

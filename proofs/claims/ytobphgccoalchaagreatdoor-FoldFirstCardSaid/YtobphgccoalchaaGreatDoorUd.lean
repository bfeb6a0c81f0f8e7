/-
  The canonical machine, part N: a region that draws its order.
-/
import Derived.Test.YtobphgccoalchaaGreatDoorUc
import Derived.ProofKit
set_option linter.unusedVariables false
set_option linter.unusedSimpArgs false
set_option linter.unnecessarySimpa false
namespace Go.cb
open Go
section
variable {P:Program} {G:Nat->U}
theorem zX {ops:Array Oper} {t i:Nat} (h:km ops t=some i) :∃ o,ops[i]? = some o/\o.dst=some t:=by
 unfold km at h;have:=List.find?_some h;cases ap:ops[i]? with
 | none=>simp[ap] at this
 | some o=>exact⟨o,rfl,by simpa [ap] using this⟩
def tZ (ops:Array Oper) (val ae:Nat->U) (dx:Array Bool) :Nat->U:=fun t=>
 match km ops t with
 | some i=>if dx.getD i false then val i else ae t
 | none=>ae t
theorem adp {ops:Array Oper} {pre:Nat->Nat->Bool} (hE:uh ops pre) {dx:Array Bool}
  (down:∀ (i:Nat) (o:Oper) (e:Edge),ops[i]? = some o->dx.getD i false=true->e∈o.after->Region.binds .any e=true->dx.getD e.on false=true)
  (ec:∀ i,dx.getD i false=true->∃ o,ops[i]? = some o) :∀ (i:Nat),dx.getD i false=true->∀ j,pre i j=true->dx.getD j false=true:=by
 intro i
 induction i using Nat.strongRecOn with
 | _ i aJ=>
  intro av j ai;obtain⟨o,ap⟩:=ec i av;obtain⟨e,ao,ag,oa⟩:=hE.chain i o j ap ai;have dw:=down i o e ap av ao ag;rcases oa with rfl | oa
  ·exact dw
  ·exact aJ e.on (hE.CZ i o e ap ao ag) dw j oa
theorem yr (dx:Array Bool) (i j:Nat) (av:i<dx.size) :(dx.setIfInBounds i true).getD j false=if j=i then true else dx.getD j false:=by
 rw[awO,axb];by_cases h:i=j
 ·subst h; simp[av]
 ·rw[if_neg h,if_neg (Ne.symm h),awO]
theorem I6 {ops:Array Oper} {pre:Nat->Nat->Bool} (hE:uh ops pre) {val ae:Nat->U} {dx:Array Bool} {i:Nat} {o:Oper} (ap:ops[i]? = some o) (av:i<dx.size) :
  tZ ops val ae (dx.setIfInBounds i true)=hD (tZ ops val ae dx) o.dst (val i) :=by
 funext t;unfold tZ hD;cases bC:o.dst with
 | none=>
  simp only;cases hw:km ops t with
  | none=>rfl
  | some j=>
   have bI:j≠i:=fun aG=>by
    obtain⟨cO,en,qA⟩:=zX hw;rw[aG,ap] at en; cases en;rw[bC] at qA; cases qA
   simp only[yr _ _ _ av,if_neg bI]
 | some d=>
  simp only;by_cases aI:t=d
  ·subst aI;rw[hE.one i o t ap bC];simp[yr _ _ _ av]
  ·rw[cm _ _ _ _ aI];cases hw:km ops t with
   | none=>rfl
   | some j=>
    have bI:j≠i:=fun aG=>by
     obtain⟨cO,en,qA⟩:=zX hw;rw[aG,ap] at en; cases en;rw[bC] at qA; cases qA;exact aI rfl
    simp only[yr _ _ _ av,if_neg bI]
structure Inv (P:Program) (ops:Array Oper) (val ae:Nat->U) (W:Nat->Bool) (cls:Nat->FB) (m:Nat) (ak:Nat->Nat) (fZ:Nat->aQ) (gV:Nat->Nat) (N:Nat)
  (R:Nat->Prop) (B:Nat) (kk:World) (h:aQ) (sD:cX) (dx:Array Bool) (k:Nat) (a:Act) (w:World) (μ:cX) :Prop where
 size:dx.size=ops.size
 down:∀ (i:Nat) (o:Oper) (e:Edge),ops[i]? = some o->dx.getD i false=true->e∈o.after->Region.binds .any e=true->dx.getD e.on false=true
 Eu:k<=m
 done:∀ q,q<m->(dx.getD (ak q) false=true<->q<k)
 ext:Ext0 kk h sD w (fZ k) μ
 rh:∀ b,b<h.n->sD b=none->μ b=none
 rel:cc R B w (fZ k) μ
 xP:nN N w R (fZ k) μ (tZ ops val ae dx) a
 EQ:∀ (i:Nat) (o:Oper),ops[i]? = some o->W i=true->cls i=.new->dx.getD i false=false->μ (gV i)=none
theorem ajQ {ops:Array Oper} {dx:Array Bool} (hh:dx.size=ops.size) (i:Nat) (av:dx.getD i false=true) :∃ o,ops[i]? = some o:=by
 have:i<ops.size:=by
  rcases aw6 i dx.size with h1 | h1
  ·omega
  ·simp[awO,axs h1] at av
 exact⟨ops[i],by simp[this]⟩
theorem abG {ops:Array Oper} {pre:Nat->Nat->Bool} (hE:uh ops pre) {dx:Array Bool} (hh:dx.size=ops.size) (az:Region.ready .any ops dx=[]) :∀ i,i<ops.size->dx.getD i false=true:=by
 intro i
 induction i using Nat.strongRecOn with
 | _ i aJ=>
  intro av;cases al:dx.getD i false with
  | true=>rfl
  | false=>
   exfalso;have ly:i∈Region.ready .any ops dx:=by
    refine mem_ready.2 ⟨?_,ops[i],by simp[av],fun e ao ag=>aJ e.on (hE.CZ i ops[i] e (by simp[av]) ao ag) (by
     have:=hE.CZ i ops[i] e (by simp[av]) ao ag;omega)⟩
    have aM:i<dx.size:=by omega
    simpa [awO,aM] using al
   rw[az] at ly;cases ly
theorem ads (mQ:P.follows .mixedOrders=true) (kT:∀ g,(G g).closed=true) :PM P G:=by
 intro id ops N ae h b6 h' pre val W cls m ak fZ sJ gV cells hE qB aD hm HU yL DD oi dz w6 HK HD l4 G6 G7 qF j6;refine⟨0,fun R B kk sD a0 Q vF cf s0 nt=>wp_region_any mQ ?_⟩;obtain⟨h2,q7⟩:=E3 vF ⟨(RowKit.Below.refl kk.heap.size kk).drew,Nat.le_succ _⟩;obtain⟨aR,tV⟩:=aD.rel q7;have Tk:=h2.trans aR
 -- the end
 have fin:∀ (dx:Array Bool) (k:Nat) (a:Act) (w:World) (μ:cX),Inv P ops val ae W cls m ak fZ gV N R B kk h sD dx k a w μ->(∀ i,i<ops.size->dx.getD i false=true)->Q .normal a w:=by
  intro dx k a w μ inv eQ;have hk:k=m:=by
   rcases aw6 k m with aM | qE
   ·obtain⟨o,ap,_⟩:=DD k aM;have al:=eQ (ak k) ((awq.1 ap).1);have:=(inv.done k aM).1 al;omega
   ·have:=inv.Eu; omega
  subst hk;have ah9:tZ ops val ae dx=b6:=by
   rw[HU];funext t;unfold tZ;cases hw:km ops t with
   | none=>rfl
   | some i=>
    obtain⟨o,ap,_⟩:=zX hw;simp only[eQ i ((awq.1 ap).1),if_true]
  subst hm;have ef:=inv.xP;rw[ah9] at ef;exact nt a w μ ⟨inv.ext,inv.rh⟩ inv.rel ef
 have key:∀ (fuel:Nat) (dx:Array Bool) (k:Nat) (a:Act) (w:World) (μ:cX),Inv P ops val ae W cls m ak fZ gV N R B kk h sD dx k a w μ->dx.toList.count false=fuel->wpAny P .any ops Q fuel dx a w:=by
  intro fuel
  induction fuel with
  | zero=>
   intro dx k a w μ inv U9;have eQ:∀ i,i<ops.size->dx.getD i false=true:=by
    intro i av;have aM:i<dx.size:=by rw[inv.size]; exact av
    cases al:dx[i] with
    | true=>simp[awO,aM,al]
    | false=>
     exfalso;have ly:false∈dx.toList:=by rw[<-al]; simp
     have:=ayD.2 ly;omega
   refine⟨?_,fin dx k a w μ inv eQ⟩;cases az:Region.ready .any ops dx with
   | nil=>rfl
   | cons i l=>
    exfalso;have ly:i∈Region.ready .any ops dx:=by rw[az]; simp
    obtain⟨h1,o,ap,_⟩:=mem_ready.1 ly;have av:=(awq.1 ap).1;have ad:=eQ i av;have aM:i<dx.size:=by rw[inv.size]; exact av
    simp[awO,aM] at h1 ad;rw[h1] at ad; cases ad
  | succ fuel aJ=>
   intro dx k a w μ inv U9;refine⟨fun az=>fin dx k a w μ inv (abG hE inv.size az),fun i av=>?_⟩;obtain⟨h1,o,ap,Ve⟩:=mem_ready.1 av;have aM:i<dx.size:=by rw[inv.size]; exact (awq.1 ap).1
   have l5:dx.getD i false=false:=by simpa [awO,aM] using h1
   have jD:=adp hE inv.down (ajQ inv.size)
   -- what comes before i is done
   have Mw:∀ j,pre i j=true->dx.getD j false=true:=by
    intro j ai;obtain⟨e,ao,ag,oa⟩:=hE.chain i o j ap ai;have dw:=Ve e ao ag;rcases oa with rfl | oa
    ·exact dw
    ·exact jD e.on dw j oa
   have Wa:∀ j,dx.getD j false=true->pre j i=true->False:=fun j ai ay=>by
    have:=jD j ai i ay;rw[l5] at this; cases this
   have Vh:AB pre m ak i k:=⟨inv.Eu,fun q aW ay=>(inv.done q aW).1 (Mw _ ay),fun q aW ay=>by
    rcases aw6 q k with jd | qE
    ·exact (Wa _ ((inv.done q aW).2 jd) ay).elim
    ·exact qE⟩
   -- what i sees
   have Vg:∀ t,aS w R (fZ k) μ (nX ops pre val ae i o t) (a.tmps.getD t undef) :=by
    intro t;unfold nX;split
    ·rename_i aI;have y9:t∈o.looksAt ops:=by simpa using aI
     have au:=inv.xP.val t;unfold tZ at au;cases hw:km ops t with
     | none=>rw[hw] at au; exact au
     | some j=>
      rw[hw] at au;simp only at au ⊢;by_cases ay:pre i j=true
      ·rw[if_pos ay];rw[if_pos (Mw j ay)] at au;exact au
      ·rw[if_neg ay];have ahs:dx.getD j false=false:=by
        rcases hE.acc i o t j ap y9 hw with aG | aG | rfl
        ·exact absurd aG ay
        ·cases wZ:dx.getD j false with
         | false=>rfl
         | true=>exact (Wa j wZ aG).elim
        ·exact l5
       rw[ahs] at au;exact au
    ·exact .bad _
   have Vm:uj G w R (fZ k) μ:=fun g=>⟨kT g,(cf g).2.nY inv.ext⟩
   have dm:∀ x,aS w R (fZ k) μ (da G (nX ops pre val ae i o) x) (a.eval x) :=by
    intro x;cases x with
    | tmp t=>exact Vg t
    | const v=>exact aS.xu v
    | global g=>exact (Vm g).2
    | func f=>exact .fn f [] [] #[] #[] rfl rfl (fun _ _ _ aG=>by simp at aG) (fun _ _ _ aG=>by simp at aG)
   have Wu:=PD (w:=w) (R:=R) (h:=fZ k) (μ:=μ) (tmps:=a.tmps) (w6 i o ap) (fun d _=>Vg d);have Hd:(dx.setIfInBounds i true).toList.count false=fuel:=by
    have ag:dx.toList[i]'(by simpa using aM)=false:=by
     have:dx[i]=false:=by simpa [awO,aM] using h1
     simpa using this
    rw[Array.toList_setIfInBounds,List.count_set (by simpa using aM)];simp[ag,U9]
   have HJ:(dx.setIfInBounds i true).size=ops.size:=by simp[inv.size]
   have Hf:∀ (j:Nat) (cO:Oper) (e:Edge),ops[j]? = some cO->(dx.setIfInBounds i true).getD j false=true->e∈cO.after->Region.binds .any e=true->(dx.setIfInBounds i true).getD e.on false=true:=by
    intro j cO e en ai ao ag;rw[yr _ _ _ aM] at ai ⊢;by_cases oU:j=i
    ·subst oU;rw[ap] at en; cases en;rw[Ve e ao ag]; split<;>rfl
    ·rw[if_neg oU] at ai;rw[inv.down j cO e en ai ao ag]; split<;>rfl
   -- the next state,when no block of others' is turned
   have mc:(W i=true->cls i≠.gO)->∀ q,q<m->((dx.setIfInBounds i true).getD (ak q) false=true<->q<k) :=by
    intro bI q aW;obtain⟨cO,en,dT,ah⟩:=DD q aW;have:ak q≠i:=fun aG=>by
     rw[aG] at dT ah;exact bI dT ah
    rw[yr _ _ _ aM,if_neg this];exact inv.done q aW
   have HB:∀ (j:Nat),(dx.setIfInBounds i true).getD j false=false->j≠i/\dx.getD j false=false:=by
    intro j ai;rw[yr _ _ _ aM] at ai;by_cases oU:j=i
    ·rw[if_pos oU] at ai; cases ai
    ·rw[if_neg oU] at ai; exact⟨oU,ai⟩
   unfold wpOp;simp only[ap];cases dT:W i with
   | false=>
    rw[Wu,dT];simp only[axf,if_false];refine aJ _ k _ w μ ⟨HJ,Hf,inv.Eu,mc (fun aG=>by rw[dT] at aG; cases aG),inv.ext,inv.rh,inv.rel,?_,fun j cO en ta rO ai=>inv.EQ j cO en ta rO (HB j ai).2⟩ Hd;rw[I6 hE ap aM];exact inv.xP.put (qB i o ap) (by rw[HK i o ap dT]; exact Pv)
   | true=>
    rw[Wu,dT];simp only[if_true];left;cases ah:cls i with
    | pure=>
     have ci:=HD i o ap dT ah k Vh;obtain⟨v,w',μ',az,e,r,au⟩:=O5 (P:=P) inv.rel dm o ci;have VX:wpAny P .any ops Q fuel (dx.setIfInBounds i true) (a.put o.dst v) w':=by
      refine aJ _ k _ w' μ' ⟨HJ,Hf,inv.Eu,mc (fun _ aG=>by rw[ah] at aG; cases aG),inv.ext.trans e.toExt0,fun b ag je=>e.rh b (ayf ag inv.ext.n) (inv.rh b ag je),r,?_,fun j cO en ta rO ai=>?_⟩ Hd
      ·rw[I6 hE ap aM];exact (inv.xP.ext e).put (qB i o ap) au
      ·have aC:=inv.EQ j cO en ta rO (HB j ai).2;rcases aw6 (gV j) (fZ k).n with ag | ag
       ·exact e.rh _ ag aC
       ·exact r.lD _ ag
     unfold Oper.wp;rcases az with az | ⟨az,rfl⟩
     ·rw[az]; exact VX
     ·rw[az]; exact VX
    | new=>
     obtain⟨mk,aC,Bk,pw,hblk⟩:=l4 i o ap dT ah;obtain⟨v,arr,t,az,cJ,w0⟩:=ake (P:=P) dm o aC;have e0:=hblk k Vh;have af2:=inv.EQ i o ap dT ah l5;have arL:gV i<(fZ k).n:=by
      rcases aw6 (gV i) (fZ k).n with ag | ag
      ·exact ag
      ·rw[inv.rel.fresh _ ag] at e0; cases e0
     have qM:∀ b cn,μ b=some cn->b≠gV i:=fun b cn ag aG=>by rw[aG,af2] at ag; cases ag
     have e:Ext0 w (fZ k) μ (w.alloc (.cells arr t)) (fZ k) (bS μ (gV i) (some ⟨w.heap.size,0,arr.size⟩)) :=by
      refine⟨rfl,rfl,rfl,by simp,fun x af _=>?_,?_,fun b sz cs cn ag hm=>.inl ⟨cs,ag,by rw[cm _ _ _ _ (qM b cn hm)]; exact hm⟩,fun _ _ aq=>aq,fun b k cn ag hm=>⟨ag,by rw[cm _ _ _ _ (qM b cn hm)]; exact hm⟩,avR _,avR _⟩
      ·exact RowKit.Below.heap_alloc w _ x af
      ·rintro x ⟨b,cn,al,hm,rfl⟩;by_cases ag:b=gV i
       ·subst ag; simp at hm; subst hm; exact .inr (avR _)
       ·rw[cm _ _ _ _ ag] at hm;exact .inl ⟨b,cn,al,hm,rfl⟩
     have r:cc R B (w.alloc (.cells arr t)) (fZ k) (bS μ (gV i) (some ⟨w.heap.size,0,arr.size⟩)) :=by
      refine inv.rel.vO e (gV i) (fun b ag al=>⟨rfl,cm _ _ _ _ ag,fun cn hm=>RowKit.Below.heap_alloc w _ _ (inv.rel.lt al hm)⟩) (fun cn hm=>?_) (fun b cn auF ag al _ hm b7=>?_) (fun cn _ hm=>?_) inv.rel.fresh (fun b ag=>?_)
      ·simp at hm; subst hm;rw[e0];refine⟨rfl,by simp[cJ.1],arr,t,(0,0),heap_alloc_new w _,rfl,.inl rfl,fun j c ai=>?_⟩;obtain⟨u,aV,a1,a3⟩:=cJ.2 j c ai;exact⟨u,by simpa using aV,a1,a3.nY e⟩
      ·simp at b7; subst b7;have:=inv.rel.lt al hm;simp only[ne_eq]; omega
      ·simp at hm; subst hm;exact inv.rel.size
      ·rw[cm _ _ _ _ (by omega)];exact inv.rel.lD b ag
     have au:aS (w.alloc (.cells arr t)) R (fZ k) (bS μ (gV i) (some ⟨w.heap.size,0,arr.size⟩)) (val i) v:=by
      rw[Bk];exact w0 _ _ _ _ _ e0 (by simp)
     unfold Oper.wp;rw[az];refine aJ _ k _ _ _ ⟨HJ,Hf,inv.Eu,mc (fun _ aG=>by rw[ah] at aG; cases aG),inv.ext.trans e,fun b ag je=>by rw[cm _ _ _ _ (by omega)]; exact inv.rh b ag je,r,?_,fun j cO en ta rO ai=>?_⟩ Hd
     ·rw[I6 hE ap aM];have D3:nN N (w.alloc (.cells arr t)) R (fZ k) (bS μ (gV i) (some ⟨w.heap.size,0,arr.size⟩)) (tZ ops val ae dx) a:=⟨inv.xP.size,inv.xP.defers,fun gf=>(inv.xP.val gf).nY e⟩
      exact D3.put (qB i o ap) au
     ·obtain⟨oU,wZ⟩:=HB j ai;rw[cm _ _ _ _ (fun aG=>oU (G6 j i cO o en ap ta dT rO ah aG))];exact inv.EQ j cO en ta rO wZ
    | gO=>
     obtain⟨q,aW,rfl⟩:=yL i o ap dT ah;have vb:q=k:=by
      have ad:¬ q<k:=fun aG=>by
       have:=(inv.done q aW).2 aG;rw[l5] at this; cases this
      rcases aw6 k q with jd | qE
      ·have lw:k<m:=by omega
       have:=Mw (ak k) (oi k q lw aW jd);have:=(inv.done k lw).1 this;omega
      ·omega
     subst vb;refine j6 q o aW ap R B w μ a o _ Q rfl inv.rel Vm dm fun v w' μ' e r au=>?_
     obtain⟨bJ,fu⟩:=(qF q aW).rel r;have dF:=e.trans bJ;refine aJ _ (q+1) _ w' μ' ⟨HJ,Hf,by omega,fun fR nn=>?_,inv.ext.trans dF.toExt0,fun b ag je=>dF.rh b (ayf ag inv.ext.n) (inv.rh b ag je),fu,?_,fun j cO en ta rO ai=>?_⟩ Hd
     ·rw[yr _ _ _ aM];by_cases HE:fR=q
      ·subst HE; simp
      ·rw[if_neg (fun aG=>HE (dz fR q nn aW aG)),inv.done fR nn];omega
     ·rw[I6 hE ap aM];exact (inv.xP.ext dF).put (qB _ o ap) (au.ext bJ)
     ·have aC:=inv.EQ j cO en ta rO (HB j ai).2;rcases G7 j cO q en ta rO aW with ag | ag
      ·exact e.rh _ ag aC
      ·exact r.lD _ ag
 have agS:Inv P ops val ae W cls m ak fZ gV N R B kk h sD (Array.replicate ops.size false) 0 a0 kk.drew sD:=by
  have aF:∀ i,(Array.replicate ops.size false).getD i false=false:=by
   intro i;rw[awO,Array.getElem?_replicate];split<;>rfl
  refine⟨by simp,(fun i o e _ av _ _=>by rw[aF] at av; cases av),aw4 _,(fun q aW=>by rw[aF]; simp),Tk.toExt0,fun b ag je=>je,tV,?_,fun i o ap dT ah _=>?_⟩
  ·have ef:tZ ops val ae (Array.replicate ops.size false)=ae:=by
    funext t;unfold tZ;cases hw:km ops t with
    | none=>rfl
    | some i=>simp only[aF]; simp
   rw[ef];exact s0.ext Tk
  ·obtain⟨mk,aC,Bk,pw,hblk⟩:=l4 i o ap dT ah;exact vF.lD _ pw
 exact key _ _ 0 a0 kk.drew sD agS (by simp)
theorem ana (mQ:P.follows .mixedOrders=true) (kT:∀ g,(G g).closed=true) {j:J} (ai:dP P G j) :x6 P G j:=anb (ads mQ kT) ai
end

section
variable {P:Program} {G:Nat->U}
theorem N0 {aB ey:Operand->U} (cU:Array (Nat × Operand)) (h:∀ x∈(cU.toList.map (·.2)),aB x=ey x) :(cU.toList.map fun p=>(p.1,aB p.2))=(cU.toList.map fun p=>(p.1,ey p.2)) :=
 axr fun p ay=>by rw[h p.2 (awf.2 ⟨p,ay,rfl⟩)]
theorem ND {aB ey:Operand->U} (xs:Array Operand) (h:∀ x∈xs,aB x=ey x) :xs.toList.map aB=xs.toList.map ey:=
 axr fun x af=>h x (by simpa using af)
theorem NQ {aB ey:Operand->U} (o:Option Operand) (h:∀ x∈o.toArray,aB x=ey x) :o.map aB=o.map ey:=by
 cases o with
 | none=>rfl
 | some x=>simp[h x (by simp)]
theorem O4 {aB ey:Operand->U} (h:aQ) (op:Op) (af:∀ x∈op.operands,aB x=ey x) :di P h aB op=di P h ey op:=by
 cases op<;>simp only[Op.operands] at af<;>try rfl
 case build t cU=>simp only[di]; rw[N0 cU (fun x hm=>af x (by simpa using hm))]
 case buildSlice t n cU=>simp only[di]; rw[N0 cU (fun x hm=>af x (by simpa using hm))]
 case makeFunc fn first gi=>
  cases fn<;>simp only[di];rw[ND first (fun x hm=>af x (by simp[hm])),ND gi (fun x hm=>af x (by simp[hm]))]
 case slice t x cV av cW=>
  simp only[di];rw[af x (by simp),NQ cV (fun y hm=>af y (by simp at hm ⊢; simp[hm])),NQ av (fun y hm=>af y (by simp at hm ⊢; simp[hm])),NQ cW (fun y hm=>af y (by simp at hm ⊢; simp[hm]))]
 case call c=>
  have aA:c.args.toList.map aB=c.args.toList.map ey:=ND c.args (fun x hm=>af x (by simp[Call.operands,hm]));simp only[di,wh,aA];cases ah:c.callee with
  | value f=>dsimp only; rw[af f (by simp[Call.operands,ah])]
  | invoke x name=>dsimp only; rw[af x (by simp[Call.operands,ah])]
  | _=>rfl
 case makeMap t r=>
  cases r with
  | none=>rfl
  | some x=>simp only[di]; rw[af x (by simp)]
 case next it b=>
  cases b with
  | false=>rfl
  | true=>simp only[di]; rw[af it (by simp)]
 all_goals (simp only[di]; simp_all)
theorem akd {aB ey:Operand->U} (op:Op) (af:∀ x∈op.operands,aB x=ey x) :ot P aB op=ot P ey op:=by
 cases op<;>simp only[Op.operands] at af<;>try rfl
 case box t x=>simp only[ot]; rw[af x (by simp)]
 case buildSlice t n cU=>simp only[ot]; rw[N0 cU (fun x hm=>af x (by simpa using hm))]
 case makeSlice t l c=>simp only[ot]; rw[af l (by simp),af c (by simp)]
theorem adS {ae b6:Nat->U} {h h' : aQ} {v:U} {op:Op} (af:∀ x∈op.operands,da G ae x=da G b6 x) (ao:dP P G (.op op ae h v h')) :dP P G (.op op b6 h v h') :=by
 generalize ai:J.op op ae h v h'=j at ao
 induction ao generalizing v h'<;>cases ai
 case Iu ak=>exact .Iu (by rw[<-O4 h op af]; exact ak)
 case BF=>exact .BF (by rw[<-O4 h op af]; assumption) (by assumption)
 case Jr=>exact .Jr (by first | (rename_i aJ; exact aJ rfl) | (rename_i aJ _; exact aJ rfl) | (rename_i aJ _ _; exact aJ rfl)) (by assumption) (by assumption)
inductive bR where
 | skip (i:Nat)
 | pure (i:Nat) (v:U)
 | new (i:Nat) (v:U) (cs:List U)
 | gO (i:Nat) (v:U) (h1:aQ)
def bR.idx:bR->Nat
 | .skip i | .pure i _ | .new i _ _ | .gO i _ _=>i
def bR.val:bR->U
 | .skip _=>hF
 | .pure _ v | .new _ v _ | .gO _ v _=>v
def bR.jQ:bR->Bool
 | .gO ..=>true
 | _=>false
def bR.vl:bR->Bool
 | .skip _=>true
 | _=>false
def bR.cls:bR->FB
 | .skip _ | .pure ..=>.pure
 | .new ..=>.new
 | .gO ..=>.gO
def bR.cs:bR->List U
 | .new _ _ cs=>cs
 | _=>[]
structure kp where
 ae:Nat->U
 h:aQ
def yj (ops:Array Oper) (i:Nat) :Option Tmp:=(ops[i]?).bind (·.dst)
def q2 (h:aQ) :bR->aQ
 | .skip _ | .pure ..=>h
 | .new _ _ cs=>h.push (.cells cs.length cs)
 | .gO _ _ h1=>h1
def mZ (ops:Array Oper) (s:kp) (t:bR) :kp:=⟨hD s.ae (yj ops t.idx) t.val,q2 s.h t⟩
def g8 (ops:Array Oper) (s0:kp) (tr:List bR) (p:Nat) :kp:=(tr.take p).foldl (mZ ops) s0
theorem BW {ops:Array Oper} {s0:kp} {tr:List bR} {p:Nat} {t:bR} (h:tr[p]? = some t) :g8 ops s0 tr (p+1)=mZ ops (g8 ops s0 tr p) t:=by
 unfold g8;have aM:p<tr.length:=(avP.1 h).1;rw[List.take_succ_eq_append_getElem aM,ayi];have:tr[p]=t:=(avP.1 h).2;simp[this]
def x8 (P:Program) (G:Nat->U) (ops:Array Oper) (s:kp) :bR->Prop
 | .skip i=>∃ o,ops[i]? = some o/\ll ops s.ae o=some false
 | .pure i v=>∃ o,ops[i]? = some o/\ll ops s.ae o=some true
 | .new i v cs=>∃ o mk,ops[i]? = some o/\ll ops s.ae o=some true/\ot P (da G s.ae) o.op=some (cs,mk)/\v=mk s.h.n
 | .gO i v h1=>∃ o,ops[i]? = some o/\ll ops s.ae o=some true/\dP P G (.op o.op s.ae s.h v h1)/\s.h.n<=h1.n
def JG (P:Program) (G:Nat->U) (ops:Array Oper) (s:kp) (h:aQ) :bR->Prop
 | .pure i v=>∀ o,ops[i]? = some o->di P h (da G s.ae) o.op=some (.val v h)
 | .new _ _ cs=>h.f s.h.n=.cells cs.length cs
 | _=>True
structure z7 (ops:Array Oper) (pre:Nat->Nat->Bool) (tr:List bR) :Prop where
 hE:uh ops pre
 all:∀ i,i<ops.size->∃ (p:Nat) (t:bR),tr[p]? = some t/\t.idx=i
 inj:∀ (p bV:Nat) (t gf:bR),tr[p]? = some t->tr[bV]? = some gf->t.idx=gf.idx->p=bV
 I1:∀ (p:Nat) (t:bR),tr[p]? = some t->t.idx<ops.size
 Z9:∀ (p bV:Nat) (t gf:bR),tr[p]? = some t->tr[bV]? = some gf->p<bV->pre t.idx gf.idx=false
 eager:∀ (p bV:Nat) (t gf:bR),tr[p]? = some t->tr[bV]? = some gf->p<bV->t.jQ=true->pre gf.idx t.idx=true
structure JH (P:Program) (G:Nat->U) (ops:Array Oper) (pre:Nat->Nat->Bool) (s0:kp) (tr:List bR) :Prop where
 step:∀ (p:Nat) (t:bR),tr[p]? = some t->x8 P G ops (g8 ops s0 tr p) t
 still:∀ (q:Nat),(q=tr.length\/∃ t:bR,tr[q]? = some t/\t.jQ=true)->∀ (p:Nat) (t:bR),p<q->tr[p]? = some t->
  (∀ (bV:Nat) (gf:bR),bV<q->tr[bV]? = some gf->gf.jQ=true->pre gf.idx t.idx=false)->JG P G ops (g8 ops s0 tr p) (g8 ops s0 tr q).h t
def eF (tr:List bR) (i:Nat) :Nat:=tr.findIdx fun t=>t.idx == i
theorem zC {ops:Array Oper} {pre:Nat->Nat->Bool} {tr:List bR} (gF:z7 ops pre tr) {i:Nat} (av:i<ops.size) :∃ t,tr[eF tr i]? = some t/\t.idx=i:=by
 obtain⟨p,t,ay,aI⟩:=gF.all i av;have aM:p<tr.length:=(avP.1 ay).1;have ly:∃ x∈tr,(x.idx == i)=true:=⟨t,avY ay,by simpa using aI⟩
 have u4:eF tr i<tr.length:=List.findIdx_lt_length_of_exists ly;have:=List.findIdx_getElem (w:=u4);exact⟨tr[eF tr i],by simp[u4],by unfold eF; simpa using this⟩
theorem ID {ops:Array Oper} {pre:Nat->Nat->Bool} {tr:List bR} (gF:z7 ops pre tr) {p:Nat} {t:bR} (ay:tr[p]? = some t) :eF tr t.idx=p:=by
 obtain⟨gf,h1,ad⟩:=zC gF (gF.I1 p t ay);exact gF.inj _ _ _ _ h1 ay ad
theorem Zz {ops:Array Oper} {pre:Nat->Nat->Bool} {tr:List bR} (gF:z7 ops pre tr) (s0:kp) :∀ p,p<=tr.length->∀ t,
  (g8 ops s0 tr p).ae t=match km ops t with | some j=>(if eF tr j<p then ((tr[eF tr j]?).map bR.val).getD .bad else s0.ae t) | none=>s0.ae t:=by
 intro p
 induction p with
 | zero=>
  intro _ t;simp only[g8,aw9,List.foldl_nil];cases km ops t<;>simp
 | succ p aJ=>
  intro ay t;have aM:p<tr.length:=by omega
  have ed:tr[p]? = some tr[p] :=avS aM;rw[BW ed];simp only[mZ];have DS:=aJ (by omega) t;have jL:=ID gF ed;have ah1:=gF.I1 p _ ed;have gk:ops[tr[p].idx]? = some ops[tr[p].idx] :=by simp[ah1]
  cases bC:yj ops tr[p].idx with
  | none=>
   simp only[hD,DS];cases hw:km ops t with
   | none=>rfl
   | some j=>
    simp only;obtain⟨o,ap,Mo⟩:=zX hw;have bI:eF tr j≠p:=by
     intro aG;obtain⟨Pl,h1,ad⟩:=zC gF ((awq.1 ap).1);rw[aG,ed] at h1;cases h1;rw[<-ad] at ap;simp only[yj,ap,axv] at bC;rw[Mo] at bC; cases bC
    by_cases jd:eF tr j<p
    ·rw[if_pos jd,if_pos (by omega)]
    ·rw[if_neg jd,if_neg (by omega)]
  | some d=>
   simp only[hD];by_cases aI:t=d
   ·subst aI;have qB:ops[tr[p].idx].dst=some t:=by simpa [yj,gk] using bC
    rw[kw,gF.hE.one _ _ t gk qB];simp[jL,ed]
   ·rw[cm _ _ _ _ aI,DS];cases hw:km ops t with
    | none=>rfl
    | some j=>
     simp only;obtain⟨o,ap,Mo⟩:=zX hw;have bI:eF tr j≠p:=by
      intro aG;obtain⟨Pl,h1,ad⟩:=zC gF ((awq.1 ap).1);rw[aG,ed] at h1;cases h1;rw[<-ad] at ap;simp only[yj,ap,axv] at bC;rw[Mo] at bC; cases bC;exact aI rfl
     by_cases jd:eF tr j<p
     ·rw[if_pos jd,if_pos (by omega)]
     ·rw[if_neg jd,if_neg (by omega)]
theorem ak5 {ops:Array Oper} {pre:Nat->Nat->Bool} (hE:uh ops pre) (ec:∀ (i:Nat) (o:Oper) (e:Edge),ops[i]? = some o->e∈o.after->Region.binds .any e=true->∃ cO,ops[e.on]? = some cO) :∀ (i:Nat) (o:Oper),ops[i]? = some o->∀ j,pre i j=true->j<i:=by
 intro i
 induction i using Nat.strongRecOn with
 | _ i aJ=>
  intro o ap j ai;obtain⟨e,ao,ag,oa⟩:=hE.chain i o j ap ai;have aM:=hE.CZ i o e ap ao ag;rcases oa with rfl | oa
  ·exact aM
  ·obtain⟨cO,en⟩:=ec i o e ap ao ag;have:=aJ e.on aM cO en j oa;omega
theorem akn {ops:Array Oper} {pre:Nat->Nat->Bool} (hE:uh ops pre) (i:Nat) (o:Oper) (ap:ops[i]? = some o) (ay:pre i i=true) :False:=by
 have:=ak5 hE (fun i o e ap ao ag=>by
  have h1:=hE.CZ i o e ap ao ag;have ad:=(awq.1 ap).1;exact⟨ops[e.on]'(by omega),by simp⟩) i o ap i ay
 omega
theorem Tr {ops:Array Oper} {pre:Nat->Nat->Bool} {tr:List bR} (gF:z7 ops pre tr) (s0:kp) {i:Nat} {o:Oper} (ap:ops[i]? = some o) {t:Nat} (aI:t∈o.looksAt ops) :
  nX ops pre (fun j=>((tr[eF tr j]?).map bR.val).getD .bad) s0.ae i o t=(g8 ops s0 tr (eF tr i)).ae t:=by
 have av:i<ops.size:=(awq.1 ap).1;obtain⟨dB,h1,ad⟩:=zC gF av;have dw:eF tr i<=tr.length:=axZ (avP.1 h1).1;rw[Zz gF s0 _ dw];unfold nX;rw[if_pos (by simpa using aI)];cases hw:km ops t with
 | none=>rfl
 | some j=>
  simp only;obtain⟨XQ,y0,_⟩:=zX hw;obtain⟨Pl,aj,aE⟩:=zC gF ((awq.1 y0).1);have key:pre i j=true<->eF tr j<eF tr i:=by
   constructor
   ·intro ay;rcases awY (eF tr j) (eF tr i) with h | h | h
    ·exact h
    ·exfalso;rw[h,h1] at aj;cases aj;have hu:i=j:=by rw[<-ad,<-aE]
     subst hu;exact akn gF.hE i o ap ay
    ·have:=gF.Z9 _ _ _ _ h1 aj h;rw[ad,aE] at this;rw[this] at ay; cases ay
   ·intro aM;rcases gF.hE.acc i o t j ap aI hw with aG | aG | rfl
    ·exact aG
    ·have:=gF.Z9 _ _ _ _ aj h1 aM;rw[ad,aE] at this;rw[this] at aG; cases aG
    ·omega
  by_cases ay:pre i j=true
  ·rw[if_pos ay,if_pos (key.1 ay)]
  ·rw[if_neg ay,if_neg (fun aG=>ay (key.2 aG))]
def fm (tr:List bR) :List Nat:=(List.range tr.length).filter fun p=>((tr[p]?).map bR.jQ).getD false
theorem Ij {tr:List bR} {p:Nat}:p∈fm tr<->∃ t,tr[p]? = some t/\t.jQ=true:=by
 unfold fm;rw[awP,aws];constructor
 ·rintro⟨h1,ad⟩;refine⟨tr[p],by simp[h1],?_⟩;simpa [h1] using ad
 ·rintro⟨t,h1,ad⟩;exact⟨(avP.1 h1).1,by simp[h1,ad]⟩
theorem wG {tr:List bR} {q fR:Nat} (aW:q<fR) (nn:fR<(fm tr).length) :(fm tr).getD q 0<(fm tr).getD fR 0:=by
 have ay:(fm tr).Pairwise (· < ·) :=List.Pairwise.filter _ List.pairwise_lt_range;have:=aww.1 ay q fR (by omega) nn aW;simpa [List.getD,nn,show q<(fm tr).length by omega] using this
theorem Tn {tr:List bR} {q:Nat} (aW:q<(fm tr).length) :∃ t,tr[(fm tr).getD q 0]? = some t/\t.jQ=true:=by
 apply Ij.1;simp[List.getD,aW]
theorem Ge {tr:List bR} {p:Nat} (ay:p∈fm tr) :∃ q,q<(fm tr).length/\(fm tr).getD q 0=p:=by
 obtain⟨q,aW,rfl⟩:=List.getElem_of_mem ay;exact⟨q,aW,by simp[List.getD,aW]⟩
theorem EB {ops:Array Oper} {pre:Nat->Nat->Bool} {s0:kp} {tr:List bR} (rc:JH P G ops pre s0 tr) :∀ (k p:Nat),p+k<=tr.length->(g8 ops s0 tr p).h.n<=(g8 ops s0 tr (p+k)).h.n
 | 0,p,_=>avR _
 | k+1,p,ay=>by
  have aJ:=EB rc k p (by omega);have aM:p+k<tr.length:=by omega
  have ed:tr[p+k]? = some tr[p+k] :=avS aM;have ak:=rc.step _ _ ed;rw[show p+(k+1)=(p+k)+1 from rfl,BW ed];refine axc aJ ?_;cases aI:tr[p+k] with
  | skip i=>simp[mZ,q2]
  | pure i v=>simp[mZ,q2]
  | new i v cs=>simp[mZ,q2,fN]
  | gO i v h1=>
   rw[aI] at ak;obtain⟨o,_,_,_,aC⟩:=ak;simpa [mZ,q2] using aC
theorem K4 {ops:Array Oper} {s0:kp} {tr:List bR}:∀ (k p:Nat),p+k<=tr.length->(∀ r,p<=r->r<p+k->r∉fm tr)->pi (g8 ops s0 tr p).h (g8 ops s0 tr (p+k)).h
 | 0,p,_,_=>⟨[],rfl⟩
 | k+1,p,ay,dM=>by
  obtain⟨l,al⟩:=K4 (ops:=ops) (s0:=s0) (tr:=tr) k p (by omega) (fun r h1 ad=>dM r h1 (by omega));have aM:p+k<tr.length:=by omega
  have ed:tr[p+k]? = some tr[p+k] :=avS aM;have bI:tr[p+k].jQ≠true:=fun aG=>dM (p+k) (by omega) (by omega) (Ij.2 ⟨_,ed,aG⟩)
  rw[show p+(k+1)=(p+k)+1 from rfl,BW ed];cases aI:tr[p+k] with
  | skip i=>exact⟨l,by simp[mZ,q2,al]⟩
  | pure i v=>exact⟨l,by simp[mZ,q2,al]⟩
  | new i v cs=>exact⟨l++[cs],by simp[mZ,q2,al,xy]⟩
  | gO i v h1=>rw[aI] at bI; exact absurd rfl bI
theorem dP.adq {id:Nat} {ops:Array Oper} {pre:Nat->Nat->Bool} {N:Nat} {s0:kp} {tr:List bR} (gF:z7 ops pre tr) (bC:∀ (i:Nat) (o:Oper),ops[i]? = some o->qm N o.dst=true) (rc:JH P G ops pre s0 tr) :
  dP P G (.code (.region id ops true) N s0.ae s0.h .normal (g8 ops s0 tr tr.length).ae (g8 ops s0 tr tr.length).h) :=by
 -- the step that carries out operation i
 have ih:∀ (i:Nat) (o:Oper),ops[i]? = some o->∃ t,tr[eF tr i]? = some t/\t.idx=i/\x8 P G ops (g8 ops s0 tr (eF tr i)) t:=fun i o ap=>by
  obtain⟨t,h1,ad⟩:=zC gF ((awq.1 ap).1);exact⟨t,h1,ad,rc.step _ _ h1⟩
 have aoX:∀ (i:Nat) (o:Oper),ops[i]? = some o->ll ops (nX ops pre (fun j=>((tr[eF tr j]?).map bR.val).getD .bad) s0.ae i o) o=ll ops (g8 ops s0 tr (eF tr i)).ae o:=fun i o ap=>by
  unfold ll;cases aq:o.guard with
  | none=>rfl
  | some k8=>
   obtain⟨j,B7⟩:=k8;simp only;cases agn:(ops[j]?).bind (·.dst) with
   | none=>rfl
   | some d=>
    simp only;rw[Tr gF s0 ap (t:=d) (by simp[Oper.looksAt,aq,agn])]
 have NN:∀ (i:Nat) (o:Oper),ops[i]? = some o->∀ x∈o.op.operands,da G (g8 ops s0 tr (eF tr i)).ae x=da G (nX ops pre (fun j=>((tr[eF tr j]?).map bR.val).getD .bad) s0.ae i o) x:=fun i o ap x af=>by
  cases x with
  | tmp t=>
   refine (Tr gF s0 ap (t:=t) ?_).symm;simp only[Oper.looksAt,awl,List.mem_filterMap];exact .inl ⟨.tmp t,by simpa using af,rfl⟩
  | _=>rfl
 -- the moment ahead of effect k,or the end
 have Pn:∀ k,k<=(fm tr).length->∃ T,T<=tr.length/\(T=tr.length\/∃ t,tr[T]? = some t/\t.jQ=true)/\(T=if k<(fm tr).length then (fm tr).getD k 0 else tr.length) :=fun k hk=>by
  by_cases aM:k<(fm tr).length
  ·obtain⟨t,h1,ad⟩:=Tn aM;exact⟨_,axZ (avP.1 h1).1,.inr ⟨t,h1,ad⟩,by rw[if_pos aM]⟩
  ·exact⟨_,avR _,.inl rfl,by rw[if_neg aM]⟩
 have ha:∀ q,q<(fm tr).length->∃ t,tr[(fm tr).getD q 0]? = some t/\t.jQ=true/\((tr[(fm tr).getD q 0]?).map bR.idx).getD 0=t.idx:=fun q aW=>by
  obtain⟨t,h1,ad⟩:=Tn aW;exact⟨t,h1,ad,by rw[h1]; rfl⟩
 have ZH:∀ (i:Nat) (o:Oper) (t:bR),ops[i]? = some o->tr[eF tr i]? = some t->t.idx=i->t.jQ=false->∀ k,AB pre (fm tr).length (fun q=>((tr[(fm tr).getD q 0]?).map bR.idx).getD 0) i k->
   JG P G ops (g8 ops s0 tr (eF tr i)) (g8 ops s0 tr (if k<(fm tr).length then (fm tr).getD k 0 else tr.length)).h t:=by
  intro i o t ap aI HO bI k aF;obtain⟨lw,yM,A0⟩:=aF;obtain⟨T,uX,Dt,n4⟩:=Pn k lw;rw[<-n4];have asj:eF tr i<tr.length:=(avP.1 aI).1;have ahK:eF tr i<T:=by
   by_cases aM:k<(fm tr).length
   ·rw[if_pos aM] at n4;obtain⟨anT,h1,ad,aj⟩:=ha k aM;rw[<-n4] at h1;rcases awY (eF tr i) T with h | h | h
    ·exact h
    ·rw[h,h1] at aI;cases aI;rw[bI] at ad; cases ad
    ·have ao:=gF.eager T (eF tr i) anT t h1 aI h ad;have:=yM k aM (by (try simp only); rw[aj,<-HO]; exact ao);omega
   ·rw[if_neg aM] at n4;omega
  refine rc.still T Dt _ t ahK aI (fun bV gf gp y9 gn=>?_);obtain⟨q,aW,qP⟩:=Ge (Ij.2 ⟨gf,y9,gn⟩);obtain⟨avr,h1,ad,aj⟩:=ha q aW;rw[qP,y9] at h1;cases h1;have vb:q<k:=by
   by_cases aM:k<(fm tr).length
   ·rw[if_pos aM] at n4;rcases aw6 q k with h | h
    ·exact h
    ·rcases ayE h with h | h
     ·subst h; omega
     ·have:=wG (tr:=tr) h aW;omega
   ·omega
  cases ay:pre gf.idx t.idx with
  | false=>rfl
  | true=>
   have:=A0 q aW (by (try simp only); rw[aj,<-HO]; exact ay);omega
 refine dP.draw pre (fun j=>((tr[eF tr j]?).map bR.val).getD .bad) (fun j=>((tr[eF tr j]?).map fun t=>!t.vl).getD false) (fun j=>((tr[eF tr j]?).map bR.cls).getD .pure) (fm tr).length
  (fun q=>((tr[(fm tr).getD q 0]?).map bR.idx).getD 0) (fun k=>(g8 ops s0 tr (if k<(fm tr).length then (fm tr).getD k 0 else tr.length)).h) (fun q=>(g8 ops s0 tr ((fm tr).getD q 0+1)).h)
  (fun j=>(g8 ops s0 tr (eF tr j)).h.n) (fun j=>((tr[eF tr j]?).map bR.cs).getD []) gF.hE bC ?_ ?_ ?_ ?_ ?_ ?_ ?_ ?_ ?_ ?_ ?_ ?_ ?_ ?_ ?_
 ·-- h0
  obtain⟨T,uX,Dt,n4⟩:=Pn 0 (aw4 _)
  try simp only
  rw[<-n4];have:=K4 (ops:=ops) (s0:=s0) (tr:=tr) T 0 (by omega) (fun r _ az ly=>by
   obtain⟨q,aW,qP⟩:=Ge ly;rw[if_pos (by omega)] at n4;rcases ayE (aw4 q) with h | h
   ·subst h; omega
   ·have:=wG (tr:=tr) h aW;omega)
  simpa [g8] using this
 ·simp
 ·-- hσ
  funext t;rw[Zz gF s0 _ (avR _)];cases hw:km ops t with
  | none=>rfl
  | some j=>
   obtain⟨o,ap,_⟩:=zX hw;obtain⟨Pl,h1,_⟩:=zC gF ((awq.1 ap).1);simp only;rw[if_pos ((avP.1 h1).1)]
 ·-- heff
  intro i o ap dT ah;obtain⟨t,h1,ad,_⟩:=ih i o ap;simp only[h1,avZ,awF] at ah;have ao:t.jQ=true:=by cases t<;>simp_all [bR.cls,bR.jQ]
  obtain⟨q,aW,qP⟩:=Ge (Ij.2 ⟨t,h1,ao⟩);exact⟨q,aW,by rw[qP,h1]; exact ad⟩
 ·-- heff'
  intro q aW;obtain⟨t,h1,ad,aj⟩:=ha q aW;refine⟨ops[t.idx]'(gF.I1 _ _ h1),by rw[aj]; simp[gF.I1 _ _ h1],?_,?_⟩
  ·simp only[aj,ID gF h1,h1,avZ,awF];cases t<;>simp_all [bR.vl,bR.jQ]
  ·simp only[aj,ID gF h1,h1,avZ,awF];cases t<;>simp_all [bR.cls,bR.jQ]
 ·-- hord
  intro q fR aW nn aM;obtain⟨t,h1,ad,aj⟩:=ha q aW;obtain⟨gf,dg,gP,wN⟩:=ha fR nn;simp only[aj,wN];exact gF.eager _ _ t gf h1 dg (wG aM nn) ad
 ·-- hinj
  intro q fR aW nn ao;obtain⟨t,h1,ad,aj⟩:=ha q aW;obtain⟨gf,dg,gP,wN⟩:=ha fR nn;simp only[aj,wN] at ao;have:=gF.inj _ _ t gf h1 dg ao;rcases awY q fR with h | h | h
  ·have:=wG (tr:=tr) h nn; omega
  ·exact h
  ·have:=wG (tr:=tr) h aW; omega
 ·-- hwant
  intro i o ap;rw[aoX i o ap];obtain⟨t,h1,ad,aj⟩:=ih i o ap;simp only[h1,avZ,awF];cases t with
  | skip j=>obtain⟨cO,en,hw⟩:=aj; simp only[bR.idx] at ad; subst ad; rw[ap] at en; cases en; exact hw
  | pure j v=>obtain⟨cO,en,hw⟩:=aj; simp only[bR.idx] at ad; subst ad; rw[ap] at en; cases en; exact hw
  | new j v cs=>obtain⟨cO,mk,en,hw,_⟩:=aj; simp only[bR.idx] at ad; subst ad; rw[ap] at en; cases en; exact hw
  | gO j v dg=>obtain⟨cO,en,hw,_⟩:=aj; simp only[bR.idx] at ad; subst ad; rw[ap] at en; cases en; exact hw
 ·-- hskip
  intro i o ap dT;obtain⟨t,h1,ad,aj⟩:=ih i o ap;simp only[h1,avZ,awF] at dT ⊢;cases t<;>simp_all [bR.vl,bR.val]
 ·-- hpure
  intro i o ap dT ah k aF;obtain⟨t,h1,ad,aj⟩:=ih i o ap;simp only[h1,avZ,awF] at dT ah;have ci:=ZH i o t ap h1 ad (by cases t<;>simp_all [bR.cls,bR.jQ]) k aF;cases t with
  | pure j v=>
   simp only[bR.idx] at ad;subst ad;have:=ci o ap;rw[O4 _ _ (NN j o ap)] at this;simpa [h1,bR.val] using this
  | skip j=>simp[bR.vl] at dT
  | new j v cs=>simp[bR.cls] at ah
  | gO j v dg=>simp[bR.cls] at ah
 ·-- hnew
  intro i o ap dT ah;obtain⟨t,h1,ad,aj⟩:=ih i o ap;simp only[h1,avZ,awF] at dT ah;cases t with
  | new j v cs=>
   obtain⟨cO,mk,en,_,aC,au⟩:=aj;simp only[bR.idx] at ad;subst ad;rw[ap] at en; cases en;rw[akd _ (NN j o ap)] at aC;refine⟨mk,by simpa [h1,bR.cs] using aC,by simpa [h1,bR.val] using au,?_,fun k aF=>?_⟩
   ·have dw:eF tr j<=tr.length:=axZ (avP.1 h1).1;have:=EB rc (eF tr j) 0 (by omega);simpa [g8] using this
   ·have ci:=ZH j o _ ap h1 rfl rfl k aF;simpa [JG,h1,bR.cs] using ci
  | skip j=>simp[bR.vl] at dT
  | pure j v=>simp[bR.cls] at ah
  | gO j v dg=>simp[bR.cls] at ah
 ·-- hbid
  intro i j o cO ap en wS ta dh rO ag;have Uq:∀ (i:Nat) (o:Oper),ops[i]? = some o->((tr[eF tr i]?).map bR.cls).getD .pure=.new->∀ p,eF tr i<p->p<=tr.length->(g8 ops s0 tr (eF tr i)).h.n<(g8 ops s0 tr p).h.n:=by
   intro i o ap ah p ay gq;obtain⟨t,h1,ad,_⟩:=ih i o ap;simp only[h1,avZ,awF] at ah;have aE:=EB rc (p - (eF tr i+1)) (eF tr i+1) (by omega);rw[show eF tr i+1+(p - (eF tr i+1))=p by omega,BW h1] at aE;cases t with
   | new j v cs=>simp only[mZ,q2,fN] at aE; omega
   | skip j=>simp[bR.cls] at ah
   | pure j v=>simp[bR.cls] at ah
   | gO j v dg=>simp[bR.cls] at ah
  obtain⟨t,h1,ad,_⟩:=ih i o ap;obtain⟨gf,dg,gP,_⟩:=ih j cO en;have al:=(avP.1 h1).1;have dr:=(avP.1 dg).1;rcases awY (eF tr i) (eF tr j) with h | h | h
  ·have:=Uq i o ap dh _ h (axZ dr); (try simp only at ag); omega
  ·rw[h,dg] at h1; cases h1; rw[<-ad,<-gP]
  ·have:=Uq j cO en rO _ h (axZ al); (try simp only at ag); omega
 ·-- hbid'
  intro i o q ap dT ah aW;obtain⟨t,h1,ad,_⟩:=ih i o ap;obtain⟨Pj,aP,aU,a8⟩:=ha q aW;simp only[h1,avZ,awF] at ah;have al:=(avP.1 h1).1;have dr:=(avP.1 aP).1;simp only[if_pos aW];rcases awY (eF tr i) ((fm tr).getD q 0) with h | h | h
  ·left;have aE:=EB rc ((fm tr).getD q 0 - (eF tr i+1)) (eF tr i+1) (by omega);rw[show eF tr i+1+((fm tr).getD q 0 - (eF tr i+1))=(fm tr).getD q 0 by omega,BW h1] at aE;cases t with
   | new j v cs=>simp only[mZ,q2,fN] at aE; omega
   | skip j=>simp[bR.cls] at ah
   | pure j v=>simp[bR.cls] at ah
   | gO j v dg=>simp[bR.cls] at ah
  ·rw[h,aP] at h1; cases h1;cases t<;>simp_all [bR.cls,bR.jQ]
  ·right;have aE:=EB rc (eF tr i - ((fm tr).getD q 0+1)) ((fm tr).getD q 0+1) (by omega)
   rwa [show (fm tr).getD q 0+1+(eF tr i - ((fm tr).getD q 0+1))=eF tr i by omega] at aE
 ·-- hgrow
  intro q aW;obtain⟨Pj,aP,aU,a8⟩:=ha q aW;have dr:=(avP.1 aP).1;obtain⟨T,uX,Dt,n4⟩:=Pn (q+1) (by omega)
  try simp only
  rw[<-n4];have aM:(fm tr).getD q 0<T:=by
   by_cases h:q+1<(fm tr).length
   ·rw[if_pos h] at n4;have:=wG (tr:=tr) (show q<q+1 by omega) h;omega
   ·rw[if_neg h] at n4; omega
  have:=K4 (ops:=ops) (s0:=s0) (tr:=tr) (T - ((fm tr).getD q 0+1)) ((fm tr).getD q 0+1) (by omega) (fun r lz ma ly=>by
   obtain⟨fR,nn,qP⟩:=Ge ly;have HE:q<fR:=by
    rcases awY q fR with h | h | h
    ·exact h
    ·subst h; omega
    ·have:=wG (tr:=tr) h aW; omega
   by_cases h:q+1<(fm tr).length
   ·rw[if_pos h] at n4;rcases ayE (show q+1<=fR from HE) with h' | h'
    ·subst h'; omega
    ·have:=wG (tr:=tr) h' nn; omega
   ·omega)
  rwa [show (fm tr).getD q 0+1+(T - ((fm tr).getD q 0+1))=T by omega] at this
 ·-- hcall
  intro q o aW ap;obtain⟨Pj,aP,aU,a8⟩:=ha q aW;have jL:=ID gF aP;simp only[a8] at ap ⊢;have ak:=rc.step _ _ aP;cases Pj with
  | gO j v h1=>
   obtain⟨cO,en,_,ao,_⟩:=ak;simp only[bR.idx] at ap jL ⊢;rw[ap] at en; cases en;have lW:=NN j o ap;rw[jL] at lW;have:=adS lW ao;simp only[jL,aP,if_pos aW,avZ,awF,bR.val];rw[BW aP];exact this
  | skip j=>simp[bR.jQ] at aU
  | pure j v=>simp[bR.jQ] at aU
  | new j v cs=>simp[bR.jQ] at aU
end
abbrev he:=cR U
def look (s:he) (t:Nat) :U:=match s.get t with | some v=>v | none=>hF
theorem Xm (s:he) (t:Nat) (v:U) :look (s.set t v)=bS (look s) t v:=by
 funext u;simp only[look,cR.Gu,bS];by_cases h:u=t
 ·simp[h]
 ·simp[h]
def EV (s:he) (dst:Option Tmp) (v:U) :he:=match dst with | some d=>s.set d v | none=>s
theorem H8 (s:he) (dst:Option Tmp) (v:U) :look (EV s dst v)=hD (look s) dst v:=by
 cases dst with
 | none=>rfl
 | some d=>exact Xm s d v
def BE:Nat->he->List U->he
 | _,s,[]=>s
 | k,s,v::vs=>BE (k+1) (s.set k v) vs
theorem Xl:∀ (vs:List U) (k:Nat) (s:he),look (BE k s vs)=fun t=>if k<=t/\t<k+vs.length then vs.getD (t - k) hF else look s t
 | [],k,s=>by funext t; simp only[BE,awu]; rw[if_neg (by omega)]
 | v::vs,k,s=>by
  funext t;rw[BE,Xl vs (k+1),Xm];simp only[awa,bS];by_cases h1:k+1<=t/\t<k+1+vs.length
  ·rw[if_pos h1,if_pos (by omega),show t - k=(t - (k+1))+1 by omega];simp
  ·rw[if_neg h1];by_cases ad:t=k
   ·subst ad; rw[if_pos rfl,if_pos (by omega)]; simp
   ·rw[if_neg ad,if_neg (by omega)]
def B3 (m i:Nat) :Bool:=Nat.testBit m i
def wF (ms:List Nat) :List Edge->Nat
 | []=>0
 | e::es=>match Region.binds .any e with
  | true=>Nat.lor (Nat.lor (2 ^ e.on) (ms.getD e.on 0)) (wF ms es)
  | false=>wF ms es
def Xy (ms:List Nat) :List Oper->List Nat
 | []=>ms
 | o::os=>Xy (ms++[wF ms o.after.toList]) os
def iW (ops:Array Oper) :List Nat:=Xy [] ops.toList
def pS (ms:List Nat) (i j:Nat) :Bool:=B3 (ms.getD i 0) j
def k6:Op->Bool
 | .move _ | .assign _ | .pick .. | .alloc _ | .box .. | .build .. | .buildSlice .. | .load .. | .nilCheck _ | .binOp .. | .unOp .. | .convert .. | .makeInterface .. | .makeFunc .. | .makeSlice .. | .slice .. | .fieldAddr .. | .field .. | .indexAddr .. | .index .. | .extract ..=>false
 | .call c=>match c.callee with
  | .builtin .len | .builtin .cap | .builtin .min | .builtin .max=>false
  | _=>true
 | _=>true
def aja:Op->Bool
 | .move _ | .assign _ | .pick .. | .build .. | .load .. | .nilCheck _ | .binOp .. | .unOp .. | .convert .. | .makeInterface .. | .makeFunc .. | .slice .. | .fieldAddr .. | .field .. | .indexAddr .. | .index .. | .extract ..=>true
 | .call c=>match c.callee with
  | .builtin .len | .builtin .cap | .builtin .min | .builtin .max=>true
  | _=>false
 | _=>false
def N2 (done:Nat) (gO:Bool) :Nat->List Nat->List Oper->Option Nat
 | i,m::ms,o::os=>match !B3 done i&&Nat.beq (Nat.land m done) m&&(k6 o.op == gO) with
  | true=>some i
  | false=>N2 done gO (i+1) ms os
 | _,_,_=>none
def OS (ms:List Nat) (os:List Oper) :Nat->Nat->List Nat
 | 0,_=>[]
 | k+1,done=>match N2 done false 0 ms os with
  | some i=>i::OS ms os k (Nat.lor done (2 ^ i))
  | none=>match N2 done true 0 ms os with
   | some i=>i::OS ms os k (Nat.lor done (2 ^ i))
   | none=>[]
def fT (ms:List Nat) (ops:Array Oper) :List Nat:=OS ms ops.toList ops.size 0
def FI (p:Nat->Oper->Bool) :Nat->List Oper->Bool
 | _,[]=>true
 | i,o::os=>p i o&&FI p (i+1) os
theorem P5 {p:Nat->Oper->Bool}:∀ (l:List Oper) (i:Nat),FI p i l=true->∀ (j:Nat) (o:Oper),l[j]? = some o->p (i+j) o=true
 | [],i,_,j,o,h=>by simp at h
 | x::l,i,h,j,o,ai=>by
  simp only[FI,avU] at h;cases j with
  | zero=>simp only[awk,Option.some.injEq] at ai; subst ai; exact h.1
  | succ j=>
   simp only[awx] at ai;have:=P5 l (i+1) h.2 j o ai
   rwa [show i+1+j=i+(j+1) by omega] at this
def Kv (t:Nat) (o:Oper) :Bool:=match o.dst with | some d=>Nat.beq d t | none=>false
def zW (t:Nat) :Nat->List Oper->Option Nat
 | _,[]=>none
 | i,o::os=>match Kv t o with
  | true=>some i
  | false=>zW t (i+1) os
def Kt (ms:List Nat) (ops:Array Oper) :Bool:=
 FI (fun i o=>
  Nat.beq (ms.getD i 0) (wF ms o.after.toList) &&
  (o.after.toList.all fun e=>!Region.binds .any e||Nat.blt e.on i) &&
  (match o.dst with | some d=>(match zW d 0 ops.toList with | some j=>Nat.beq j i | none=>false) | none=>true) &&
  ((o.looksAt ops).all fun t=>match zW t 0 ops.toList with | some j=>pS ms i j||pS ms j i||Nat.beq j i | none=>true)) 0 ops.toList &&
 Region.noSelect ops
def Iw (ms:List Nat) :List Nat->Bool
 | []=>true
 | i::r=>(r.all fun j=>!Nat.beq i j&&!pS ms i j)&&Iw ms r
def NV (ms:List Nat) (ops:Array Oper) (kF:List Nat) :Bool:=
 Kt ms ops&&Iw ms kF&&Nat.beq kF.length ops.size&&(kF.all fun i=>Nat.blt i ops.size)&&(List.range ops.size).all fun i=>kF.contains i
structure aa0 where
 t:bR
 s:he
 h:aQ
section
variable (P:Program) (G:Nat->U)
end
theorem Kz (ms:List Nat) (j:Nat) :∀ (es:List Edge),B3 (wF ms es) j=true->∃ e∈es,Region.binds .any e=true/\(e.on=j\/pS ms e.on j=true)
 | [],h=>by simp[wF,B3] at h
 | e::es,h=>by
  unfold wF at h;cases ag:Region.binds .any e with
  | false=>
   rw[ag] at h;obtain⟨fH,h1,ad⟩:=Kz ms j es h;exact⟨fH,ays _ h1,ad⟩
  | true=>
   rw[ag] at h;simp only[B3] at h;have h' : Nat.testBit ((2 ^ e.on ||| ms.getD e.on 0) ||| wF ms es) j=true:=h;rw[Nat.testBit_or,Nat.testBit_or,axT,axT,Nat.testBit_two_pow] at h';rcases h' with (h' | h') | h'
   ·exact⟨e,ayF,ag,.inl (by simpa using h')⟩
   ·exact⟨e,ayF,ag,.inr h'⟩
   ·obtain⟨fH,h1,ad⟩:=Kz ms j es h';exact⟨fH,ays _ h1,ad⟩
theorem aaH (t:Nat) :∀ (l:List Oper) (i:Nat),zW t i l=((List.range l.length).find? fun j=>match l[j]? with | some o=>o.dst == some t | none=>false).map (·+i)
 | [],i=>by simp[zW]
 | o::l,i=>by
  unfold zW;have agm:Kv t o=(o.dst == some t) :=by
   unfold Kv;cases o.dst with
   | none=>rfl
   | some d=>
    by_cases h:d=t
    ·subst h; simp
    ·have:Nat.beq d t=false:=kh h;simp[this,h]
  rw[agm,awa,List.range_succ_eq_map,ayr];simp only[awk];cases ag:(o.dst == some t) with
  | true=>simp
  | false=>
   simp only[List.find?_map];rw[aaH t l (i+1)];have:((fun j=>match (o::l)[j]? with | some o=>o.dst == some t | none=>false) ∘ Nat.succ)=fun j=>match l[j]? with | some o=>o.dst == some t | none=>false:=by
    funext j; simp
   rw[this];cases (List.range l.length).find? (fun j=>match l[j]? with | some o=>o.dst == some t | none=>false) with
   | none=>rfl
   | some j=>simp; omega
theorem aaG (ops:Array Oper) (t:Nat) :zW t 0 ops.toList=km ops t:=by
 rw[aaH];unfold km;simp only[axG,axO,ayd,Option.map_id_fun',id_eq];congr 1
theorem adr {ms:List Nat} {ops:Array Oper} (h:Kt ms ops=true) :uh ops (pS ms) :=by
 unfold Kt at h;rw[avU] at h;obtain⟨h,ak⟩:=h;have key:∀ (i:Nat) (o:Oper),ops[i]? = some o->_:=fun i o ap=>P5 _ 0 h i o (by simpa using ap)
 simp only[axa,avU] at key;refine⟨fun i o e ap ao ag=>?_,fun i o j ap ay=>?_,fun i o t ap bC=>?_,fun i o t j ap aI hw=>?_,ak⟩
 ·have:=(key i o ap).1.1.2;rw[awG] at this;have:=this e (by simpa using ao);rw[ag] at this;simp only[Bool.not_true,ax5] at this;simpa [ay8] using this
 ·have:=lb (key i o ap).1.1.1;have gp:B3 (ms.getD i 0) j=true:=ay;rw[this] at gp;obtain⟨e,h1,ad⟩:=Kz ms j _ gp;exact⟨e,by simpa using h1,ad⟩
 ·have:=(key i o ap).1.2;rw[bC] at this;simp only at this;rw[aaG] at this;cases hw:km ops t with
  | none=>rw[hw] at this; cases this
  | some j=>rw[hw] at this; simp only at this; rw[lb this]
 ·have:=(key i o ap).2;rw[awG] at this;have:=this t aI;rw[aaG,hw] at this;simp only[axT] at this;rcases this with (h1 | h1) | h1
  ·exact .inl h1
  ·exact .inr (.inl h1)
  ·exact .inr (.inr (lb h1))
theorem Ix {ms:List Nat}:∀ {l:List Nat},Iw ms l=true->∀ (p bV:Nat) (i j:Nat),l[p]? = some i->l[bV]? = some j->p<bV->i≠j/\pS ms i j=false
 | [],_,p,bV,i,j,av,_,_=>by simp at av
 | x::l,h,p,bV,i,j,av,ai,aM=>by
  simp only[Iw,avU,awG] at h;cases bV with
  | zero=>omega
  | succ bV=>
   simp only[awx] at ai;cases p with
   | zero=>
    simp only[awk,Option.some.injEq] at av;subst av;have:=h.1 j (avY ai);simp only[aw5] at this;refine⟨fun ao=>?_,this.2⟩;subst ao;rw[tF rfl] at this;cases this.1
   | succ p=>
    simp only[awx] at av;exact Ix h.2 p bV i j av ai (by omega)
section
variable {P:Program} {G:Nat->U}
structure apC (P:Program) (G:Nat->U) (ops:Array Oper) (e:aa0) :Prop where
 step:x8 P G ops ⟨look e.s,e.h⟩ e.t
 pure:∀ i v,e.t=.pure i v->∃ o,ops[i]? = some o/\aja o.op=true/\di P e.h (da G (look e.s)) o.op=some (.val v e.h)
theorem I8 {ops:Array Oper} {s0:kp} {t:bR} {tr:List bR} (p:Nat) :g8 ops s0 (t::tr) (p+1)=g8 ops (mZ ops s0 t) tr p:=by
 simp[g8]
end

section
variable {P:Program} {G:Nat->U}
theorem al9 (w:World) (R:Nat->Prop) (gA:∀ k,w.heap.size<=k->R k) :cc R w.heap.size w aQ.empty (fun _=>none) where
 blk:=fun b m hm=>by cases hm
 inj:=fun b bu m cF al=>by rw[Gg] at al; cases al
 base:=fun b m al=>by rw[Gg] at al; cases al
 fresh:=fun b _=>Gg b
 up:=gA
 size:=avR _
 lD:=fun b _=>rfl
theorem XL (μ:cX) (k:Nat) :¬ mw aQ.empty μ k:=by
 rintro⟨b,m,al,_⟩;rw[Gg] at al; cases al
theorem Pq (mQ:P.follows .mixedOrders=true) (kT:∀ g,(G g).closed=true) {f:FuncId} {args:List U} {r:U} {h' : aQ} (ao:dP P G (.call f args aQ.empty r h'))
  {w:World} {A:Nat->Prop} {vs:Array Value} (aq:∀ g,fP w A (G g) (.pointer (some ⟨g,0,none⟩))) (al:vs.size=args.length)
  (au:∀ (j:Nat) (c:U) (v:Value),args[j]? = some c->vs[j]? = some v->fP w A c v) :
  Calls P f vs w fun e w'=>∃ v μ',e=.returned v/\z1 w w'/\cc (fun k=>A k\/w.heap.size<=k) w.heap.size w' h' μ'/\aS w' (fun k=>A k\/w.heap.size<=k) h' μ' r v:=by
 have up:∀ {c:U} {v:Value},fP w A c v->aS w (fun k=>A k\/w.heap.size<=k) aQ.empty (fun _=>none) c v:=fun ah=>ah.up (fun k _ hk=>⟨.inl hk,XL _ k⟩)
 refine (ana mQ kT ao (fun k=>A k\/w.heap.size<=k) w.heap.size w (fun _=>none) vs (al9 w _ fun k hk=>.inr hk) (fun g=>⟨kT g,up (aq g)⟩) al (fun j c v ai fK=>up (au j c v ai fK))).mono ?_;rintro e w' ⟨v,μ',rfl,ex,rel,az⟩;exact⟨v,μ',rfl,⟨⟨ex.os,ex.tape,ex.output,ex.size,fun k hk=>ex.cx k hk (XL _ k)⟩,ex.drawn⟩,rel,az⟩
theorem anV (mQ:P.follows .mixedOrders=true) (kT:∀ g,(G g).closed=true) {f:FuncId} {args:List U} {h' : aQ} (ao:dP P G (.call f args aQ.empty (.bool true) h'))
  {w:World} {A:Nat->Prop} {vs:Array Value} (aq:∀ g,fP w A (G g) (.pointer (some ⟨g,0,none⟩))) (al:vs.size=args.length)
  (au:∀ (j:Nat) (c:U) (v:Value),args[j]? = some c->vs[j]? = some v->fP w A c v) :
  Calls P f vs w fun e w'=>e=.returned (.bool true)/\RowKit.Below w.heap.size w w':=by
 refine (Pq mQ kT ao aq al au).mono ?_;rintro e w' ⟨v,μ',rfl,ag,_,az⟩;cases az;exact⟨rfl,ag.toBelow⟩
end

section
variable {α:Type}
theorem xN:∀ (k k' : Nat) (t:cR α) (n:Nat) (x:α),n<k->n<k'->t.lh k n x=t.lh k' n x
 | 0,_,_,_,_,h,_=>by omega
 | _+1,0,_,_,_,_,h=>by omega
 | k+1,k'+1,t,n,x,h,h'=>by
  by_cases aD:n=0
  ·subst aD;cases t<;>rfl
  ·have ag:Nat.beq n 0=false:=kh aD;cases t with
   | nil=>
    unfold cR.lh;simp only[ag];rw[xN k k' .nil (n / 2) x (by omega) (by omega),xN k k' .nil (n / 2 - 1) x (by omega) (by omega)]
   | node l v r=>
    unfold cR.lh;simp only[ag];rw[xN k k' l (n / 2) x (by omega) (by omega),xN k k' r (n / 2 - 1) x (by omega) (by omega)]
def cR.lt:cR α->cR α | .nil=>.nil | .node l _ _=>l
def cR.rt:cR α->cR α | .nil=>.nil | .node _ _ r=>r
def cR.mid:cR α->Option α | .nil=>none | .node _ v _=>v
theorem ss (t:cR α) (x:α) :t.set 0 x=.node t.lt (some x) t.rt:=by cases t<;>rfl
theorem oB (t:cR α) (m:Nat) (x:α) :t.set (2*m+1) x=.node (t.lt.set m x) t.mid t.rt:=by
 have h1:Nat.beq (2*m+1) 0=false:=kh (by omega);have ad:Nat.beq ((2*m+1) % 2) 1=true:=tF (by omega);have aj:(2*m+1) / 2=m:=by omega
 cases t with
 | nil=>show cR.lh (2*m+1+1) .nil (2*m+1) x=_; unfold cR.lh; simp only[h1,ad,aj]; rw[xN _ (m+1) _ _ _ (by omega) (by omega)]; rfl
 | node l v r=>show cR.lh (2*m+1+1) (.node l v r) (2*m+1) x=_; unfold cR.lh; simp only[h1,ad,aj]; rw[xN _ (m+1) _ _ _ (by omega) (by omega)]; rfl
theorem oA (t:cR α) (m:Nat) (x:α) :t.set (2*m+2) x=.node t.lt t.mid (t.rt.set m x) :=by
 have h1:Nat.beq (2*m+2) 0=false:=kh (by omega);have ad:Nat.beq ((2*m+2) % 2) 1=false:=kh (by omega);have aj:(2*m+2) / 2 - 1=m:=by omega
 cases t with
 | nil=>show cR.lh (2*m+2+1) .nil (2*m+2) x=_; unfold cR.lh; simp only[h1,ad,aj]; rw[xN _ (m+1) _ _ _ (by omega) (by omega)]; rfl
 | node l v r=>show cR.lh (2*m+2+1) (.node l v r) (2*m+2) x=_; unfold cR.lh; simp only[h1,ad,aj]; rw[xN _ (m+1) _ _ _ (by omega) (by omega)]; rfl
theorem NJ (n:Nat) :n=0\/(∃ m,m<n/\n=2*m+1)\/∃ m,m<n/\n=2*m+2:=by
 rcases Nat.eq_zero_or_pos n with h | h
 ·exact .inl h
 ·rcases Nat.mod_two_eq_zero_or_one n with ad | ad
  ·exact .inr (.inr ⟨n / 2 - 1,by omega,by omega⟩)
  ·exact .inr (.inl ⟨n / 2,by omega,by omega⟩)
theorem amL (n:Nat) :∀ (t:cR α) (x y:α),(t.set n x).set n y=t.set n y:=by
 induction n using Nat.strongRecOn with
 | _ n aJ=>
  intro t x y;rcases NJ n with rfl | ⟨m,hm,rfl⟩ | ⟨m,hm,rfl⟩
  ·rw[ss t x,ss t y,ss]; rfl
  ·rw[oB t,oB t,oB]; simp only[cR.lt,cR.mid,cR.rt,aJ m hm]
  ·rw[oA t,oA t,oA]; simp only[cR.lt,cR.mid,cR.rt,aJ m hm]
theorem set_comm (n:Nat) :∀ (t:cR α) (k:Nat) (x y:α),n≠k->(t.set n x).set k y=(t.set k y).set n x:=by
 induction n using Nat.strongRecOn with
 | _ n aJ=>
  intro t k x y bI;rcases NJ n with rfl | ⟨m,hm,rfl⟩ | ⟨m,hm,rfl⟩<;>rcases NJ k with rfl | ⟨j,ai,rfl⟩ | ⟨j,ai,rfl⟩
  ·exact absurd rfl bI
  ·rw[ss t,oB,oB t,ss]; rfl
  ·rw[ss t,oA,oA t,ss]; rfl
  ·rw[oB t,ss,ss t,oB]; rfl
  ·rw[oB t,oB,oB t,oB]; simp only[cR.lt,cR.mid,cR.rt]; rw[aJ m hm _ j _ _ (by omega)]
  ·rw[oB t,oA,oA t,oB]; rfl
  ·rw[oA t,ss,ss t,oA]; rfl
  ·rw[oA t,oB,oB t,oA]; rfl
  ·rw[oA t,oA,oA t,oA]; simp only[cR.lt,cR.mid,cR.rt]; rw[aJ m hm _ j _ _ (by omega)]
end
abbrev am:=List a7
def oc:Nat->cR a7->am->cR a7
 | _,t,[]=>t
 | i,t,c::cs=>oc (i+1) (t.set i c) cs
def bW (l:am) :aQ:=⟨l.length,oc 0 .nil l⟩
@[simp] theorem vU (l:am) :(bW l).n=l.length:=rfl
theorem VK:∀ (l:am) (i:Nat) (t:cR a7) (c:a7),oc i t (l++[c])=(oc i t l).set (i+l.length) c
 | [],i,t,c=>rfl
 | x::l,i,t,c=>by
  simp only[awN,oc,awa];rw[VK l,show i+1+l.length=i+(l.length+1) by omega]
theorem lO (l:am) (c:a7) :(bW l).push c=bW (l++[c]) :=by
 unfold bW aQ.push;rw[VK];simp
theorem VN:∀ (l:am) (i j:Nat) (t:cR a7) (c:a7),i<j->(oc j t l).set i c=oc j (t.set i c) l
 | [],_,_,_,_,_=>rfl
 | x::l,i,j,t,c,h=>by
  simp only[oc];rw[VN l i (j+1) _ c (by omega),set_comm j t i x c (by omega)]
theorem VM:∀ (l:am) (i b:Nat) (t:cR a7) (c:a7),b<l.length->(oc i t l).set (i+b) c=oc i t (l.set b c)
 | [],_,_,_,_,h=>by simp at h
 | x::l,i,0,t,c,_=>by
  simp only[oc,axy,ayd];rw[VN l i (i+1) _ c (by omega),amL]
 | x::l,i,b+1,t,c,h=>by
  simp only[oc,axU];rw[<-VM l (i+1) b _ c (by simpa using h),show i+(b+1)=i+1+b by omega]
theorem oK {l:am} {b:Nat} (c:a7) (h:b<l.length) :(bW l).set b c=bW (l.set b c) :=by
 unfold bW aQ.set;have:=VM l 0 b .nil c h;rw[axa] at this;simp only[this,ax9]
theorem VL:∀ (l:am) (i:Nat) (t:cR a7) (b:Nat),(oc i t l).get b=if i<=b/\b<i+l.length then l[b - i]? else t.get b
 | [],i,t,b=>by simp only[oc,awu]; rw[if_neg (by omega)]
 | x::l,i,t,b=>by
  simp only[oc,awa];rw[VL l,cR.Gu];by_cases h1:i+1<=b/\b<i+1+l.length
  ·rw[if_pos h1,if_pos (by omega),show b - i=(b - (i+1))+1 by omega,awx]
  ·rw[if_neg h1];by_cases ad:b=i
   ·subst ad; rw[if_pos rfl,if_pos (by omega)]; simp
   ·rw[if_neg ad,if_neg (by omega)]
theorem nI (l:am) (b:Nat) :(bW l).f b=match l[b]? with | some c=>c | none=>.none:=by
 unfold bW aQ.f;simp only[VL,aw4,true_and,axa,ayt];by_cases h:b<l.length
 ·rw[if_pos h]; cases l[b]?<;>rfl
 ·rw[if_neg h,av5 (by omega)]; rfl
theorem ln {l:am} {b n:Nat} {cs:List U}:(bW l).f b=.cells n cs<->l[b]? = some (.cells n cs) :=by
 rw[nI];cases h:l[b]? with
 | none=>simp
 | some c=>simp
theorem eu {l:am} {b:Nat} {c:a7} (h:l[b]? = some c) :b<l.length:=(avP.1 h).1
def eW (l:am) :U->Option (List U × Nat)
 | .ptr b off sz=>match l[b]? with
  | some (.cells n cs)=>if n=sz then some (cs,off) else none
  | _=>none
 | .b3 cs off=>some (cs,off)
 | _=>none
def tN (n:Nat) (cs:List U) (off:Nat) :Option U:=if off+n<=cs.length then some (.aH ((cs.drop off).take n)) else none
def kH (n:Nat) (l:am) (p v:U) :Option am:=
 match p,v.cells with
 | .ptr b off sz,some vs=>match l[b]? with
  | some (.cells m cs)=>if m=sz/\vs.length=n/\off+n<=m then some (l.set b (.cells m (bt cs off vs))) else none
  | _=>none
 | _,_=>none
def dE (l:am) (z:Nat) :U->Option (List U × Nat)
 | .aT=>some ([],0)
 | .bQ dO es=>if z=dO then some (es.flatten,es.length) else none
 | .ar dO b off len _ sz=>match l[b]? with
  | some (.cells n cs)=>if n=sz/\z=dO then some ((cs.drop off).take (len*z),len) else none
  | _=>none
 | .str s=>if z=1 then some (s.map jx,s.length) else none
 | _=>none
def hJ (l:am) (z by_:Nat) (s:U) (xs:List U) (n:Nat) :Option (U × am) :=
 if n=0 then (match s with | .aT | .bQ .. | .ar ..=>some (s,l) | _=>none)
 else if z=0\/by_=0 then none else match s with
  | .aT=>if n*by_<=cy then some (.ar z l.length 0 n n (n*z),l++[.cells (n*z) xs]) else none
  | .ar dO b off len cap sz=>match l[b]? with
   | some (.cells m cs)=>
    if m=sz/\z=dO/\(len+n)*by_<=cy then
     if len+n<=cap then some (.ar z b off (len+n) cap sz,l.set b (.cells m (bt cs (off+len*z) xs)))
     else if off+cap*z<sz then some (.ar z l.length 0 (len+n) (len+n) ((len+n)*z),l++[.cells ((len+n)*z) ((cs.drop off).take (len*z)++xs)])
     else if off=0 then some (.ar z b 0 (len+n) (len+n) ((len+n)*z),l.set b (.cells ((len+n)*z) (cs.take (len*z)++xs)))
     else some (.ar z l.length 0 (len+n) (len+n) ((len+n)*z),l.set b .dead++[.cells ((len+n)*z) ((cs.drop off).take (len*z)++xs)])
    else none
   | _=>none
  | _=>none
def As (z:Nat) (l:am) (d x:U) :Option (U × am) :=
 match dE l z x with
 | none=>none
 | some (xs,n)=>match d with
  | .aT=>some (.int .i64 0,l)
  | .ar dO b off len _ sz=>match l[b]? with
   | some (.cells m cs)=>if m=sz/\z=dO then some (.int .i64 ((min n len:Nat) :Int),l.set b (.cells m (bt cs off (xs.take (min n len*z))))) else none
   | _=>none
  | _=>none
def tC (l:am) :U->Option (List (U × U × Nat))
 | .ia=>some []
 | .mp b=>match l[b]? with | some (.map es _)=>some es | _=>none
 | _=>none
def po (l:am) (x:U) :Option (List UInt8) :=match x with
 | .str s=>some s
 | x=>match dE l 1 x with
  | some (cs,_)=>nQ cs
  | none=>none
def cmpL (l:am) (x y:U) :Option U:=match po l x,po l y with
 | some a,some b=>some (.int .i64 (oN a b))
 | _,_=>none
def vx (l:am) (x:U) :Option (U × am) :=match x with
 | .it b=>match l[b]? with
  | some (.iter s pos)=>match Nat.blt pos s.length with
   | true=>some (.bG [.bool true,.int .i64 pos,.int .i32 (Utf8.decode ⟨s.toArray⟩ pos).1],l.set b (.iter s (pos+(Utf8.decode ⟨s.toArray⟩ pos).2)))
   | false=>some (.bG [.bool false],l)
  | _=>none
 | _=>none
def BO (l:am) (x:U) :Option (U × am) :=match x with
 | .str s=>some (.it l.length,l++[.iter s 0])
 | _=>none
def Ev (l:am) (x:U) :Option U:=match x with
 | .ia=>some (.int .i64 0)
 | .mp b=>match l[b]? with | some (.map es _)=>some (.int .i64 es.length) | _=>none
 | _=>none
def sV (zero:List U) (l:am) :U->Option am
 | .aT=>some l
 | .bQ _ []=>some l
 | .ar z b off len _ sz=>if len=0 then some l else match l[b]? with
  | some (.cells m cs)=>if m=sz/\zero.length=z then some (l.set b (.cells m (bt cs off (dN zero len)))) else none
  | _=>none
 | _=>none
theorem Om (l:am) (p:U) :reach (bW l) p=eW l p:=by
 cases p<;>try rfl
 rename_i b off sz;simp only[reach,eW,nI];cases l[b]? with
 | none=>rfl
 | some c=>cases c<;>rfl
theorem CQ (l:am) (z:Nat) (x:U) :contents (bW l) z x=dE l z x:=by
 cases x<;>try rfl
 rename_i dO b off len cap sz;simp only[contents,dE,nI];cases l[b]? with
 | none=>rfl
 | some c=>cases c<;>rfl
section
variable (P:Program)
inductive kq where
 | arr (n z:Nat)
 | ar (z:Nat)
 | str
 deriving DecidableEq
def p0 (t:TypeId) :Option kq:=match P.underlying t with
 | some (.array n e)=>(cM P e).map fun z=>.arr n z
 | some (.slice e)=>(cM P e).map fun z=>.ar z
 | some .string=>some .str
 | _=>none
inductive dy where
 | gu (x:Operand)
 | pick (c a b:Operand)
 | alloc (zero:List U)
 | box (x:Operand)
 | Cy (zero:List U) (cU:List (Nat × Nat × Operand))
 | ry (z:Nat) (zero:List U) (len:Nat) (cU:List (Nat × Operand))
 | ld1 (a:Operand)
 | vo (n:Nat) (a:Operand)
 | st (n:Nat) (a x:Operand)
 | ED (x:Operand)
 | bin (o:BinOp) (t:TypeId) (x y:Operand)
 | un (o:UnOp) (x:Operand)
 | Ao (k:IntKind) (x:Operand)
 | Av (x:Operand)
 | uD (x:Operand)
 | Au (x:Operand)
 | zt (t:TypeId) (x:Operand)
 | B1 (t:TypeId) (z:U) (ok:Bool) (x:Operand)
 | zs (f:FuncId) (first gi:List Operand)
 | se (z by_:Nat) (zero:List U) (l c:Operand)
 | slice (dB:kq) (x:Operand) (cV av cW:Option Operand)
 | C4 (off:Nat) (x:Operand)
 | C8 (off:Nat) (x:Operand)
 | C9 (n off:Nat) (x:Operand)
 | Br (dB:kq) (x i:Operand)
 | Ek (n z:Nat) (x i:Operand)
 | El (n z:Nat) (x i:Operand)
 | Eo (x i:Operand)
 | ext (x:Operand) (i:Nat)
 | len (dB:kq) (x:Operand)
 | cap (dB:kq) (x:Operand)
 | app (z by_:Nat) (s x:Operand)
 | wb (z by_:Nat) (zero:List U) (s x:Operand)
 | wC (z:Nat) (d x:Operand)
 | wu (zero:List U) (x:Operand)
 | min (x y:Operand)
 | max (x y:Operand)
 | vv (x:Option Operand)
 | zm (c2:TypeId) (zero:U) (ok:Bool) (m k:Operand)
 | xq (c2:TypeId) (m k x:Operand)
 | xj (x:Operand)
 | xI (x:Operand)
 | xt (x:Operand)
 | cj (f:FuncId) (s3 x y:Operand)
 | stop
def xm (l:am) (c2:TypeId) (zero:U) (ok:Bool) (m k:U) :Option U:=
 match tC l m with
 | some es=>match lB P c2 k with
  | false=>none
  | true=>match j1 P c2 k es 0 with
   | some (some (_,v))=>some (if ok then .bG [v,.bool true] else v)
   | some none=>some (if ok then .bG [zero,.bool false] else zero)
   | none=>none
 | none=>none
def tD (l:am) (c2:TypeId) (m k v:U) :Option am:=
 match m with
 | .mp b=>match l[b]? with
  | some (.map es eX)=>match lB P c2 k with
   | false=>none
   | true=>match j1 P c2 k es 0 with
    | some (some (i,_))=>some (l.set b (.map (es.modify i fun e=>(k,v,e.2.2)) eX))
    | some none=>some (l.set b (.map (es++[(k,v,eX)]) (eX+1)))
    | none=>none
  | _=>none
 | _=>none
def Ei (f:FuncId) :U->Bool | .fn g [] []=>Nat.beq g f | _=>false
def ER (c a b:U) :Option U:=match c with | .bool t=>some (if t then a else b) | _=>none
def zu (x:U) :Option U:=match x with | .ptr b o s=>some (.ptr b o s) | .b3 c o=>some (.b3 c o) | .fn f a b=>some (.fn f a b) | _=>none
def qf (zero:List U) :List (Nat × Nat × U)->Option (List U)
 | []=>some zero
 | (off,size,v) ::r=>match v.cells with
  | some vs=>if vs.length=size/\off+size<=zero.length then qf (bt zero off vs) r else none
  | none=>none
def CJ (k:IntKind) :U->Option U | .int _ n=>some (.int k (k.wrap n)) | _=>none
def Ga:U->Option U | .str s=>some (.str s) | _=>none
def wm (l:am) (x:U) :Option U:=match x with
 | .aT=>some (.str [])
 | .str _=>none
 | x=>match dE l 1 x with | some (cs,_)=>(nQ cs).map .str | none=>none
def wE:U->Option U | .str s=>some (.bQ 1 (s.map fun b=>[jx b])) | _=>none
def sf (z by_:Nat) (zero:List U) (al:am) (l c:U) :Option (U × am) :=match l,c with
 | .int _ l,.int _ c=>if 0<=l/\l<=c/\c<9223372036854775808/\by_*c<=cy then
   some (.ar z al.length 0 l.toNat c.toNat (c.toNat*z),al++[.cells (c.toNat*z) (dN zero c.toNat)]) else none
 | _,_=>none
def fG (dB:kq) (x:U) (cV av cW:Option U) :Option U:=
 match dB with
 | .arr n z=>match gW n n cV av cW with
  | some (l,aG,m)=>match x with
   | .ptr b off sz=>if off+m*z<=sz then (if m=l then some (.bQ z []) else some (.ar z b (off+l*z) (aG - l) (m - l) sz)) else none
   | .b3 cs off=>if off+n*z<=cs.length then some (.bQ z (mz z (aG - l) (cs.drop (off+l*z)))) else none
   | _=>none
  | none=>none
 | .ar z=>match x with
  | .ar dO b off len cap sz=>if z=dO then (gW len cap cV av cW).map fun (l,aG,m)=>if m=l then .ar z b (off+l*z) 0 0 sz else .ar z b (off+l*z) (aG - l) (m - l) sz else none
  | .bQ dO es=>if z=dO then (gW es.length es.length cV av cW).map fun (l,aG,_)=>.bQ z ((es.drop l).take (aG - l)) else none
  | .aT=>(gW 0 0 cV av cW).map fun _=>.aT
  | _=>none
 | .str=>match x,cW with
  | .str s,none=>(gW s.length s.length cV av none).map fun (l,aG,_)=>.str ((s.drop l).take (aG - l))
  | _,_=>none
def Da (off:Nat) :U->Option U | .aH cs=>cs[off]? | _=>none
def AE (n off:Nat) :U->Option U | .aH cs=>tN n cs off | _=>none
def ck (dB:kq) (x hc:U) :Option U:=
 match hc with
 | .int _ i=>match dB with
  | .arr n z=>if 0<=i/\i<n then nU x (i.toNat*z) else none
  | .ar z=>match x with
   | .ar dO b off len _ sz=>if z=dO/\0<=i/\i<len then some (.ptr b (off+i.toNat*z) sz) else none
   | .bQ dO es=>if z=dO/\0<=i then (es[i.toNat]?).map fun cs=>.b3 cs 0 else none
   | _=>none
  | .str=>none
 | _=>none
def Em (n z:Nat) (x hc:U) :Option U:=match x,hc with
 | .aH cs,.int _ i=>if 0<=i/\i<n then cs[i.toNat*z]? else none
 | _,_=>none
def En (n z:Nat) (x hc:U) :Option U:=match x,hc with
 | .aH cs,.int _ i=>if 0<=i/\i<n then tN z cs (i.toNat*z) else none
 | _,_=>none
def ze (x hc:U) :Option U:=match x,hc with
 | .str s,.int _ i=>if 0<=i then (s[i.toNat]?).map jx else none
 | _,_=>none
def C3 (x:U) (i:Nat) :Option U:=match x with | .bG vs=>vs[i]? | _=>none
def cK (dB:kq) (x:U) :Option U:=match dB with
 | .arr n _=>some (.int .i64 n)
 | .ar _=>match x with
  | .aT=>some (.int .i64 0)
  | .ar _ _ _ len _ _=>some (.int .i64 len)
  | .bQ _ es=>some (.int .i64 es.length)
  | _=>none
 | .str=>match x with | .str s=>some (.int .i64 s.length) | _=>none
def uC (dB:kq) (x:U) :Option U:=match dB with
 | .arr n _=>some (.int .i64 n)
 | .ar _=>match x with | .aT=>some (.int .i64 0) | _=>none
 | .str=>none
def gx (l:am) (z by_:Nat) (s x:U) :Option (U × am) :=match dE l z x with
 | none=>none
 | some (xs,n)=>hJ l z by_ s xs n
def rx (l:am) (z by_:Nat) (zero:List U) (s x:U) :Option (U × am) :=match x with
 | .int _ n=>if 0<=n/\n<9223372036854775808/\n.toNat*by_<=cy then hJ l z by_ s (dN zero n.toNat) n.toNat else none
 | _=>none
def dU (l:am) (x:Option U) :Option (U × am) :=x.map fun v=>(v,l)
def bU (aB:Operand->U) (l:am) :dy->Option (U × am)
 | .gu x=>some (aB x,l)
 | .pick c a b=>dU l (ER (aB c) (aB a) (aB b))
 | .alloc zero=>some (.ptr l.length 0 zero.length,l++[.cells zero.length zero])
 | .box x=>(aB x).cells.map fun cs=>(.ptr l.length 0 cs.length,l++[.cells cs.length cs])
 | .Cy zero cU=>dU l ((qf zero (cU.map fun p=>(p.1,p.2.1,aB p.2.2))).map .aH)
 | .ry z zero len cU=>(hP (fun i=>some (i*z,z)) (dN zero len) (cU.map fun p=>(p.1,aB p.2))).map fun cs=>(.ar z l.length 0 len len (len*z),l++[.cells (len*z) cs])
 | .ld1 a=>dU l ((eW l (aB a)).bind fun x=>x.1[x.2]?)
 | .vo n a=>dU l ((eW l (aB a)).bind fun x=>tN n x.1 x.2)
 | .st n a x=>(kH n l (aB a) (aB x)).map fun l'=>(hF,l')
 | .ED x=>dU l (zu (aB x))
 | .bin o t x y=>dU l (gH P o t (aB x) (aB y))
 | .un o x=>dU l (rg o (aB x))
 | .Ao k x=>dU l (CJ k (aB x))
 | .Av x=>dU l (Ga (aB x))
 | .uD x=>dU l (wm l (aB x))
 | .Au x=>dU l (wE (aB x))
 | .zt t x=>some (.g0 t (aB x),l)
 | .B1 t z ok x=>dU l (B2 t z ok (aB x))
 | .zs f a b=>some (.fn f (a.map aB) (b.map aB),l)
 | .se z by_ zero a c=>sf z by_ zero l (aB a) (aB c)
 | .slice dB x cV av cW=>dU l (fG dB (aB x) (cV.map aB) (av.map aB) (cW.map aB))
 | .C4 off x=>dU l (nU (aB x) off)
 | .C8 off x=>dU l (Da off (aB x))
 | .C9 n off x=>dU l (AE n off (aB x))
 | .Br dB x i=>dU l (ck dB (aB x) (aB i))
 | .Ek n z x i=>dU l (Em n z (aB x) (aB i))
 | .El n z x i=>dU l (En n z (aB x) (aB i))
 | .Eo x i=>dU l (ze (aB x) (aB i))
 | .ext x i=>dU l (C3 (aB x) i)
 | .len dB x=>dU l (cK dB (aB x))
 | .cap dB x=>dU l (uC dB (aB x))
 | .app z by_ s x=>gx l z by_ (aB s) (aB x)
 | .wb z by_ zero s x=>rx l z by_ zero (aB s) (aB x)
 | .wC z d x=>As z l (aB d) (aB x)
 | .wu zero x=>(sV zero l (aB x)).map fun l'=>(.bG [],l')
 | .min x y=>dU l (By (aB x) (aB y))
 | .max x y=>dU l (vu (aB x) (aB y))
 | .vv x=>match x with
  | none=>some (.mp l.length,l++[.map [] 0])
  | some o=>match asInt (aB o) with | some _=>some (.mp l.length,l++[.map [] 0]) | none=>none
 | .zm c2 zero ok m k=>dU l (xm P l c2 zero ok (aB m) (aB k))
 | .xq c2 m k x=>(tD P l c2 (aB m) (aB k) (aB x)).map fun l'=>(hF,l')
 | .xj x=>dU l (Ev l (aB x))
 | .xI x=>BO l (aB x)
 | .xt x=>vx l (aB x)
 | .cj f s3 x y=>match Ei f (aB s3) with | true=>dU l (cmpL l (aB x) (aB y)) | false=>none
 | .stop=>none
def J4 (t:TypeId) (cU:List (Nat × Operand)) :Option (List (Nat × Nat × Operand)) :=
 match P.underlying t with
 | some (.struct fs)=>if fs.toList.all fun f=>(cM P f.type).isSome then cU.mapM fun p=>(ES P fs p.1).map fun q=>(q.1,q.2,p.2) else none
 | some (.array _ e)=>(cM P e).map fun n=>cU.map fun p=>(p.1*n,n,p.2)
 | _=>none
def wx (b:Builtin) (ts:List TypeId) (args:List Operand) :Option dy:=
 match b,ts,args with
 | .len,[t],[x]=>match P.underlying t with
  | some (.map _ _)=>some (.xj x)
  | _=>(p0 P t).map fun dB=>.len dB x
 | .cap,[t],[x]=>(p0 P t).map fun dB=>.cap dB x
 | .append,[t,u],[s,x]=>match P.underlying u with
  | some (.int _)=>(iR P t).bind fun e=>(cM P e).bind fun z=>(i5 P e).bind fun by_=>(hV P e).bind fun zero=>
    if zero.length=z/\ug P e=some z then some (.wb z by_ zero s x) else none
  | none=>none
  | _=>(iR P t).bind fun e=>(cM P e).bind fun z=>(i5 P e).bind fun by_=>if ug P e=some z then some (.app z by_ s x) else none
 | .copy,[t,_],[d,x]=>(iR P t).bind fun e=>(cM P e).map fun z=>.wC z d x
 | .clear,[t],[x]=>match P.underlying t with
  | some (.slice e)=>(hV P e).map fun zero=>.wu zero x
  | _=>none
 | .min,_,[x,y]=>some (.min x y)
 | .max,_,[x,y]=>some (.max x y)
 | _,_,_=>none
def nV:Op->Option dy
 | .move x | .assign x=>some (.gu x)
 | .pick c a b=>some (.pick c a b)
 | .alloc t=>(hV P t).map .alloc
 | .box _ x=>some (.box x)
 | .build t cU=>(hV P t).bind fun zero=>(J4 P t cU.toList).map fun q=>.Cy zero q
 | .buildSlice t len cU=>(iR P t).bind fun e=>(cM P e).bind fun z=>(hV P e).bind fun zero=>
   if zero.length=z/\len*z<=16777216 then some (.ry z zero len cU.toList) else none
 | .load t a=>match eB P t,cM P t with
  | some true,some n=>some (.vo n a)
  | some false,_=>some (.ld1 a)
  | _,_=>none
 | .store t a x=>(cM P t).map fun n=>.st n a x
 | .nilCheck x=>some (.ED x)
 | .binOp o t x y _=>some (.bin o t x y)
 | .unOp o _ x=>some (.un o x)
 | .convert s d x=>match P.underlying s,P.underlying d with
  | some _,some (.int k)=>some (.Ao k x)
  | some (.slice e),some .string=>match P.underlying e with
   | some (.int .u8)=>some (.uD x)
   | _=>none
  | some .string,some .string=>some (.Av x)
  | some .string,some (.slice e)=>match P.underlying e with
   | some (.int .u8)=>some (.Au x)
   | _=>none
  | _,_=>none
 | .makeInterface t x=>match P.underlying t with
  | some (.interface _) | none=>none
  | _=>some (.zt t x)
 | .makeFunc (.func f) a b=>some (.zs f a.toList b.toList)
 | .makeSlice t l c=>(iR P t).bind fun e=>(cM P e).bind fun z=>(i5 P e).bind fun by_=>(hV P e).bind fun zero=>
   if zero.length=z then some (.se z by_ zero l c) else none
 | .slice t x cV av cW=>(p0 P t).map fun dB=>.slice dB x cV av cW
 | .fieldAddr s x f=>(yp P s f).bind fun fd=>match cM P fd.type with
  | some (_+1)=>some (.C4 fd.offset x)
  | _=>none
 | .field t x f=>(yp P t f).bind fun fd=>match eB P fd.type,cM P fd.type with
  | some true,some n=>some (.C9 n fd.offset x)
  | some false,_=>some (.C8 fd.offset x)
  | _,_=>none
 | .indexAddr t x i=>match p0 P t with
  | some (.arr n z)=>some (.Br (.arr n z) x i)
  | some (.ar z)=>some (.Br (.ar z) x i)
  | _=>none
 | .index t x i=>match P.underlying t with
  | some (.array n e)=>match cM P e,eB P e with
   | some z,some true=>some (.El n z x i)
   | some z,some false=>some (.Ek n z x i)
   | _,_=>none
  | some .string=>some (.Eo x i)
  | _=>none
 | .extract x i=>some (.ext x i)
 | .call c=>match c.callee with
  | .builtin b=>wx P b c.argTypes.toList c.args.toList
  | .value (.func f)=>match P.funcs[f]?,c.args.toList with
   | some fn,[x,y]=>if Eh fn then some (.cj f (.func f) x y) else none
   | _,_=>none
  | _=>none
 | .makeMap t r=>match P.underlying t with | some (.map _ _)=>some (.vv r) | _=>none
 | .lookup t m k ok=>match P.underlying t with | some (.map c2 nb)=>(zY P nb).map fun z=>.zm c2 z ok m k | _=>none
 | .mapUpdate t m k x | .insert t m k x=>match P.underlying t with | some (.map c2 _)=>some (.xq c2 m k x) | _=>none
 | .range t x=>match P.underlying t with | some .string=>some (.xI x) | _=>none
 | .next it true=>some (.xt it)
 | .panic _=>some .stop
 | .typeAssert x _ t ok=>(Jd P t).map fun z=>.B1 t z ok x
 | _=>none
end

section
variable {P:Program}
theorem bind_some {α ko:Type} {x:Option α} {f:α->Option ko} {y:ko}:x.bind f=some y<->∃ a,x=some a/\f a=some y:=by cases x<;>simp
theorem map_some {α ko:Type} {x:Option α} {f:α->ko} {y:ko}:x.map f=some y<->∃ a,x=some a/\f a=y:=by cases x<;>simp
theorem gN {l l' : am} {x:Option U} {v:U}:dU l x=some (v,l')<->x=some v/\l'=l:=by cases x<;>simp[dU,eq_comm]
theorem iI {α:Type} {p:Prop} [Decidable p] {x y:α}:(if p then some x else none)=some y<->p/\x=y:=by by_cases p<;>simp_all
theorem Qk {l l' : am} {e z by_ n:Nat} {s v:U} {xs:List U} (aw:ug P e=some z) (h:hJ l z by_ s xs n=some (v,l')) :wc P (bW l) e z by_ s xs n=some (v,bW l') :=by
 unfold hJ at h;unfold wc;by_cases aC:n=0
 ·rw[if_pos aC] at h ⊢;cases s<;>simp at h ⊢<;>simp[h]
 ·rw[if_neg aC] at h ⊢;by_cases aD:z=0\/by_=0
  ·rw[if_pos aD] at h; cases h
  ·rw[if_neg aD] at h;rw[if_neg (by simp only[aw]; simpa using aD)];cases s<;>simp only at h ⊢<;>try (cases h; done)
   case aT=>
    by_cases az:n*by_<=cy
    ·rw[if_pos az] at h ⊢; cases h; rw[lO]; rfl
    ·rw[if_neg az] at h; cases h
   case ar dO b off len cap sz=>
    cases ag:l[b]? with
    | none=>rw[ag] at h; cases h
    | some c=>
     cases c<;>rw[ag] at h<;>(try simp only at h)<;>try (cases h; done)
     rename_i m cs;rw[ln.2 ag];simp only;by_cases h1:m=sz/\z=dO/\(len+n)*by_<=cy
     ·rw[if_pos h1] at h ⊢;by_cases ad:len+n<=cap
      ·rw[if_pos ad] at h ⊢; cases h; rw[oK _ (eu ag)]
      ·rw[if_neg ad] at h ⊢;by_cases aj:off+cap*z<sz
       ·rw[if_pos aj] at h ⊢; cases h; rw[lO]; rfl
       ·rw[if_neg aj] at h ⊢;by_cases aE:off=0
        ·rw[if_pos aE] at h ⊢; cases h; rw[oK _ (eu ag)]
        ·rw[if_neg aE] at h ⊢; cases h;rw[oK _ (eu ag),lO]; rfl
     ·rw[if_neg h1] at h; cases h
theorem ace {t:TypeId} {cU:List (Nat × Operand)} {q:List (Nat × Nat × Operand)} (aW:J4 P t cU=some q) (aB:Operand->U) (zero:List U) (aw:hV P t=some zero) {cs:List U}
  (ag:qf zero (q.map fun p=>(p.1,p.2.1,aB p.2.2))=some cs) :CB P t (cU.map fun p=>(p.1,aB p.2))=some (.aH cs) :=by
 have fill:∀ (lH:Nat->Option (Nat × Nat)) (cU:List (Nat × Operand)) (q:List (Nat × Nat × Operand)) (zero:List U),
   (cU.mapM fun p=>(lH p.1).map fun q=>(q.1,q.2,p.2))=some q->qf zero (q.map fun p=>(p.1,p.2.1,aB p.2.2))=some cs->hP lH zero (cU.map fun p=>(p.1,aB p.2))=some cs:=by
  intro lH cU
  induction cU with
  | nil=>intro q zero h1 ad; simp at h1; subst h1; simpa [qf,hP] using ad
  | cons p cU aJ=>
   intro q zero h1 ad;rw[axx] at h1;simp only[Option.bind_eq_bind,bind_some,map_some,axH,Option.some.injEq] at h1;obtain⟨a,⟨fl,aj,rfl⟩,fR,aE,rfl⟩:=h1;simp only[awn,qf,hP,aj] at ad ⊢;split at ad
   ·rename_i vs au;simp only[au];split at ad
    ·rename_i aX;rw[if_pos aX];exact aJ _ _ aE ad
    ·cases ad
   ·cases ad
 unfold J4 at aW;unfold CB;split at aW
 ·rename_i fs aN;rw[aw,aN];simp only;split at aW
  ·rename_i eQ;rw[if_neg (by simp[eQ])];rw[fill _ _ _ _ aW ag]; rfl
  ·cases aW
 ·rename_i n e aN;rw[map_some] at aW;obtain⟨hi,h1,rfl⟩:=aW;rw[aw,aN];simp only[h1];rw[fill (fun i=>some (i*hi,hi)) cU _ zero ?_ ag]; rfl;clear ag
  induction cU with
  | nil=>rfl
  | cons p cU aJ=>rw[axx,aJ]; rfl
 ·cases aW
theorem amS {t:TypeId} {dB:kq} (aI:p0 P t=some dB) (x:U) (cV av cW:Option U) :fG dB x cV av cW=Fc P t x cV av cW:=by
 unfold p0 at aI;unfold Fc;split at aI
 ·rename_i n e aN;rw[map_some] at aI;obtain⟨z,h1,rfl⟩:=aI;rw[aN]; simp only[h1,fG];cases gW n n cV av cW<;>rfl
 ·rename_i e aN;rw[map_some] at aI;obtain⟨z,h1,rfl⟩:=aI;rw[aN]; simp only[h1,fG];cases x<;>rfl
 ·rename_i aN;cases aI;rw[aN]; simp only[fG];cases x<;>cases cW<;>rfl
 ·cases aI
theorem ajM {t:TypeId} {dB:kq} (aI:p0 P t=some dB) {x v:U} (h:cK dB x=some v) :zk P t x=some v:=by
 unfold p0 at aI;unfold zk;split at aI
 ·rename_i n e aN;rw[map_some] at aI;obtain⟨z,h1,rfl⟩:=aI;rw[aN]; simpa [cK] using h
 ·rename_i e aN;rw[map_some] at aI;obtain⟨z,h1,rfl⟩:=aI;rw[aN]; unfold cK at h; cases x<;>simp_all
 ·rename_i aN;cases aI;rw[aN]; unfold cK at h; cases x<;>simp_all
 ·cases aI
theorem acE {t:TypeId} {dB:kq} (aI:p0 P t=some dB) {x v:U} (h:uC dB x=some v) :Al P t x=some v:=by
 unfold p0 at aI;unfold Al;split at aI
 ·rename_i n e aN;rw[map_some] at aI;obtain⟨z,h1,rfl⟩:=aI;rw[aN]; simpa [uC] using h
 ·rename_i e aN;rw[map_some] at aI;obtain⟨z,h1,rfl⟩:=aI;rw[aN]; unfold uC at h; cases x<;>simp_all
 ·rename_i aN;cases aI;rw[aN]; unfold uC at h; cases x<;>simp_all
 ·cases aI
theorem WG {t:TypeId} {dB:kq} (aI:p0 P t=some dB) {x i v:U} (h:ck dB x i=some v) :Ef P t x i=some v:=by
 unfold p0 at aI;unfold Ef;unfold ck at h;cases i<;>(try simp only at h)<;>try (cases h; done)
 rename_i k i;split at aI
 ·rename_i n e aN;rw[map_some] at aI;obtain⟨z,h1,rfl⟩:=aI;rw[aN]; simpa [asInt,h1] using h
 ·rename_i e aN;rw[map_some] at aI;obtain⟨z,h1,rfl⟩:=aI;rw[aN]; simp only[asInt,h1]; simp only at h;cases x<;>simp only at h ⊢<;>first | exact h | cases h
 ·rename_i aN;cases aI;simp only at h;cases h
 ·cases aI
theorem anx {t:TypeId} {n:Nat} (ak:cM P t=some n) {l l' : am} {p v:U} (h:kH n l p v=some l') :BZ P (bW l) t p v=some (bW l') :=by
 unfold kH at h;unfold BZ;cases p<;>(try simp only at h)<;>try (cases h; done)
 rename_i b off sz;cases au:v.cells with
 | none=>rw[au] at h; cases h
 | some vs=>
  rw[au] at h;simp only[ak] at h ⊢;cases ag:l[b]? with
  | none=>rw[ag] at h; cases h
  | some c=>
   cases c<;>rw[ag] at h<;>(try simp only at h)<;>try (cases h; done)
   rename_i m cs;rw[ln.2 ag];simp only;rw[iI] at h;obtain⟨h1,rfl⟩:=h;rw[if_pos h1,oK _ (eu ag)]
theorem adb {t e:TypeId} {z:Nat} (ao:iR P t=some e) (ak:cM P e=some z) {l l' : am} {d x v:U} (h:As z l d x=some (v,l')) :Ar P (bW l) t d x=some (v,bW l') :=by
 unfold As at h;unfold Ar;rw[ao]; simp only[ak,CQ];cases ah:dE l z x with
 | none=>rw[ah] at h; cases h
 | some p=>
  obtain⟨xs,n⟩:=p;rw[ah] at h;simp only at h ⊢;cases d<;>simp only at h ⊢<;>try (cases h; done)
  case aT=>cases h; rfl
  case ar dO b off len cap sz=>
   cases ag:l[b]? with
   | none=>rw[ag] at h; cases h
   | some c=>
    cases c<;>rw[ag] at h<;>(try simp only at h)<;>try (cases h; done)
    rename_i m cs;rw[ln.2 ag];simp only;rw[iI] at h;obtain⟨h1,ad⟩:=h;cases ad;rw[if_pos h1,oK _ (eu ag)]
theorem acQ {t e:TypeId} {zero:List U} (aN:P.underlying t=some (.slice e)) (aw:hV P e=some zero) {l l' : am} {x:U} (h:sV zero l x=some l') :Ap P (bW l) t x=some (bW l') :=by
 unfold sV at h;unfold Ap;rw[aN];cases x<;>(try simp only at h)<;>try (cases h; done)
 case aT=>cases h; rfl
 case bQ z es=>cases es<;>simp only at h<;>cases h; rfl
 case ar z b off len cap sz=>
  simp only;by_cases aD:len=0
  ·rw[if_pos aD] at h ⊢; cases h; rfl
  ·rw[if_neg aD] at h ⊢;rw[aw];cases ag:l[b]? with
   | none=>rw[ag] at h; cases h
   | some c=>
    cases c<;>rw[ag] at h<;>(try simp only at h)<;>try (cases h; done)
    rename_i m cs;rw[ln.2 ag];simp only;rw[iI] at h;obtain⟨h1,rfl⟩:=h;rw[if_pos h1,oK _ (eu ag)]
theorem Xv {t c2 nb:TypeId} (aN:P.underlying t=some (.map c2 nb)) {l l' : am} {m k x:U} (h:tD P l c2 m k x=some l') :zp P (bW l) t m k x=some (bW l') :=by
 unfold tD at h;unfold zp;rw[aN];cases m<;>(try simp only at h)<;>try (cases h; done)
 rename_i b;simp only[nI];cases ag:l[b]? with
 | none=>rw[ag] at h; cases h
 | some c=>
  cases c<;>rw[ag] at h<;>simp only at h<;>try (cases h; done)
  rename_i es eX;simp only;cases hk:lB P c2 k with
  | false=>rw[hk] at h; cases h
  | true=>
   rw[hk] at h;simp only at h ⊢;cases aF:j1 P c2 k es 0 with
   | none=>rw[aF] at h; cases h
   | some r=>
    rw[aF] at h;cases r with
    | none=>cases h; simp only[oK _ (eu ag)]
    | some xh=>cases h; simp only[oK _ (eu ag)]
theorem ajR {t:TypeId} (h1:eB P t=some false) (h:aQ) (p:U) :tB P h t p=(reach h p).bind fun x=>x.1[x.2]?:=by
 unfold tB ic; rw[h1]; cases reach h p<;>rfl
theorem ajS {t:TypeId} {n:Nat} (h1:eB P t=some true) (ad:cM P t=some n) (h:aQ) (p:U) :tB P h t p=(reach h p).bind fun x=>tN n x.1 x.2:=by
 unfold tB ic; rw[h1,ad]; cases reach h p<;>rfl
theorem acu {b:Builtin} {ts:List TypeId} {args:List Operand} {m:dy} (hm:wx P b ts args=some m) {aB:Operand->U} {l l' : am} {v:U} (h:bU P aB l m=some (v,l')) :
  qg P (bW l) b ts (args.map aB)=some (.val v (bW l')) :=by
 unfold wx at hm;split at hm
 ·rename_i B9;split at hm
  ·rename_i k e aN;cases hm;simp only[bU,gN] at h;obtain⟨ad,rfl⟩:=h;unfold Ev at ad;simp only[awn,ax0,qg];cases af:aB B9<;>rw[af] at ad<;>(try simp only at ad)<;>try (cases ad; done)
   ·cases ad; simp[zk,zl,aN]
   ·rename_i b;cases ag:l'[b]? with
    | none=>rw[ag] at ad; cases ad
    | some c=>
     cases c<;>rw[ag] at ad<;>simp only at ad<;>try (cases ad; done)
     cases ad;simp[zl,aN,nI,ag]
  ·rw[map_some] at hm;obtain⟨dB,h1,rfl⟩:=hm;simp only[bU,gN] at h;obtain⟨ad,rfl⟩:=h;have aj:=ajM h1 ad;have aE:∀ x,zl P (bW l') _ x=none:=fun x=>by
    unfold p0 at h1;unfold zl;split at h1<;>first | (rename_i aN; rw[aN]; done) | (cases h1; done) | skip
    all_goals (rename_i aN; simp only[aN])
   simp only[awn,ax0,qg,aE];simp[aj]
 ·rw[map_some] at hm;obtain⟨dB,h1,rfl⟩:=hm;simp only[bU,gN] at h;obtain⟨ad,rfl⟩:=h;simp[qg,acE h1 ad]
 ·rename_i t u s x;simp only[awn,ax0,qg];split at hm
  ·rename_i aN;simp only[bind_some] at hm;obtain⟨e,h1,z,ad,by_,aj,zero,aE,hm⟩:=hm;rw[iI] at hm;obtain⟨⟨aX,bw⟩,rfl⟩:=hm;simp only[bU] at h;unfold rx at h;cases af:aB x<;>rw[af] at h<;>(try simp only at h)<;>try (cases h; done)
   rename_i k n;by_cases c5:0<=n/\n<9223372036854775808/\n.toNat*by_<=cy
   ·rw[if_pos c5] at h;rw[aN];simp only[Cu,h1,asInt,ad,aj,aE];rw[if_pos ⟨aX,c5⟩,Qk bw h]; rfl
   ·rw[if_neg c5] at h; cases h
  ·cases hm
  ·rename_i aC aN;simp only[bind_some] at hm;obtain⟨e,h1,z,ad,by_,aj,hm⟩:=hm;rw[iI] at hm;obtain⟨bw,rfl⟩:=hm;simp only[bU] at h;unfold gx at h;cases ah:dE l z (aB x) with
   | none=>rw[ah] at h; cases h
   | some p=>
    obtain⟨xs,n⟩:=p;rw[ah] at h;simp only at h;have:sP P (bW l) t (aB s) (aB x)=some (v,bW l') :=by
     simp only[sP,h1,ad,aj,CQ,ah];exact Qk bw h
    rw[this];cases bC:P.underlying u with
    | none=>exact absurd bC aN
    | some d=>
     cases d<;>first | rfl | (rename_i k; exact absurd bC (aC k))
 ·simp only[bind_some,map_some] at hm;obtain⟨e,h1,z,ad,rfl⟩:=hm;simp only[bU] at h;simp[qg,adb h1 ad h]
 ·split at hm
  ·rename_i e aN;rw[map_some] at hm;obtain⟨zero,h1,rfl⟩:=hm;simp only[bU,map_some,Prod.mk.injEq] at h;obtain⟨b1,ad,rfl,rfl⟩:=h;simp[qg,acQ aN h1 ad]
  ·cases hm
 ·cases hm;simp only[bU,gN] at h;obtain⟨ad,rfl⟩:=h;simp[qg,ad]
 ·cases hm;simp only[bU,gN] at h;obtain⟨ad,rfl⟩:=h;simp[qg,ad]
 ·cases hm
theorem NZ {t:TypeId} (h1:eB P t=some false) (cs:List U) (off:Nat) :ic P t cs off=cs[off]?:=by unfold ic; rw[h1]
theorem X7 {t:TypeId} {n:Nat} (h1:eB P t=some true) (ad:cM P t=some n) (cs:List U) (off:Nat) :ic P t cs off=tN n cs off:=by unfold ic; rw[h1,ad]; rfl
theorem Ka {s d:TypeId} {x:U} (h:∀ e,P.underlying d=some (.slice e)->False) :Aj P s d x=none:=by
 unfold Aj;split
 ·rename_i e ak bC af;exact (h e af).elim
 ·rfl
theorem In {op:Op} {m:dy} (hm:nV P op=some m) {aB:Operand->U} {l l' : am} {v:U} (h:bU P aB l m=some (v,l')) :di P (bW l) aB op=some (.val v (bW l')) :=by
 cases op<;>simp only[nV] at hm<;>try (cases hm; done)
 case move x=>cases hm; simp only[bU,Option.some.injEq,Prod.mk.injEq] at h; obtain⟨rfl,rfl⟩:=h; rfl
 case assign x=>cases hm; simp only[bU,Option.some.injEq,Prod.mk.injEq] at h; obtain⟨rfl,rfl⟩:=h; rfl
 case pick c a b=>
  cases hm; simp only[bU,gN] at h;obtain⟨ad,rfl⟩:=h;simp only[di];unfold ER at ad;cases ah:aB c<;>rw[ah] at ad<;>(try simp only at ad)<;>try (cases ad; done)
  cases ad; rfl
 case alloc t=>
  rw[map_some] at hm;obtain⟨zero,h1,rfl⟩:=hm;simp only[bU,Option.some.injEq,Prod.mk.injEq] at h;obtain⟨rfl,rfl⟩:=h;simp only[di,h1,lO]; rfl
 case box t x=>
  cases hm;simp only[bU,map_some,Prod.mk.injEq] at h;obtain⟨cs,h1,rfl,rfl⟩:=h;simp only[di,h1,lO]; rfl
 case build t cU=>
  simp only[bind_some,map_some] at hm;obtain⟨zero,h1,q,ad,rfl⟩:=hm;simp only[bU,gN,map_some] at h;obtain⟨⟨cs,aj,rfl⟩,rfl⟩:=h;simp only[di,ace ad aB zero h1 aj]; rfl
 case buildSlice t n cU=>
  simp only[bind_some] at hm;obtain⟨e,h1,z,ad,zero,aj,hm⟩:=hm;rw[iI] at hm;obtain⟨aE,rfl⟩:=hm;simp only[bU,map_some,Prod.mk.injEq] at h;obtain⟨cs,aX,rfl,rfl⟩:=h;simp only[di,FW,h1,ad,aj,if_pos aE,aX,lO]; rfl
 case load t a=>
  split at hm
  ·rename_i n h1 ad;cases hm;simp only[bU,gN] at h;obtain⟨aj,rfl⟩:=h;simp only[di,ajS h1 ad,Om,aj]; rfl
  ·rename_i h1;cases hm;simp only[bU,gN] at h;obtain⟨aj,rfl⟩:=h;simp only[di,ajR h1,Om,aj]; rfl
  ·cases hm
 case store t a x=>
  rw[map_some] at hm;obtain⟨n,h1,rfl⟩:=hm;simp only[bU,map_some,Prod.mk.injEq] at h;obtain⟨b1,ad,rfl,rfl⟩:=h;simp only[di,anx h1 ad]; rfl
 case nilCheck x=>
  cases hm;simp only[bU,gN] at h;obtain⟨ad,rfl⟩:=h;simp only[di];unfold zu at ad;cases ah:aB x<;>rw[ah] at ad<;>simp only at ad<;>first | (cases ad; done) | (cases ad; rfl)
 case binOp o t x y u=>
  cases hm;simp only[bU,gN] at h;obtain⟨ad,rfl⟩:=h;simp only[di,ad]; rfl
 case unOp o t x=>
  cases hm;simp only[bU,gN] at h;obtain⟨ad,rfl⟩:=h;simp only[di,ad]; rfl
 case convert s d x=>
  simp only[di];split at hm
  ·rename_i io k ak bC;cases hm;simp only[bU,gN] at h;obtain⟨ad,rfl⟩:=h;rw[Ka (fun e ao=>by rw[bC] at ao; cases ao)];unfold CJ at ad;cases af:aB x<;>rw[af] at ad<;>(try simp only at ad)<;>try (cases ad; done)
   cases ad;simp only[yh,ak,bC]; rfl
  ·rename_i e ak bC;split at hm
   ·rename_i ao;cases hm;simp only[bU,gN] at h;obtain⟨ad,rfl⟩:=h;rw[Ka (fun e ao=>by rw[bC] at ao; cases ao)];have:yh P (bW l') s d (aB x)=some v:=by
     rw[<-ad];unfold yh wm;rw[ak,bC];cases af:aB x<;>(simp only[ao,CQ])<;>(try rfl)<;>(rw[af] at ad; unfold wm at ad; simp only at ad)
     ·cases ad
     all_goals (cases ah:dE l' 1 _<;>rfl)
    rw[this]; rfl
   ·cases hm
  ·rename_i ak bC;cases hm;simp only[bU,gN] at h;obtain⟨ad,rfl⟩:=h;rw[Ka (fun e ao=>by rw[bC] at ao; cases ao)];unfold Ga at ad;cases af:aB x<;>rw[af] at ad<;>(try simp only at ad)<;>try (cases ad; done)
   cases ad;simp only[yh,ak,bC]; rfl
  ·rename_i e ak bC;split at hm
   ·rename_i ao;cases hm;simp only[bU,gN] at h;obtain⟨ad,rfl⟩:=h;unfold wE at ad;cases af:aB x<;>rw[af] at ad<;>(try simp only at ad)<;>try (cases ad; done)
    cases ad;simp only[Aj,ak,bC,ao]
   ·cases hm
  ·cases hm
 case makeInterface t x=>
  split at hm
  ·cases hm
  ·cases hm
  ·rename_i h1 ad;cases hm;simp only[bU,Option.some.injEq,Prod.mk.injEq] at h;obtain⟨rfl,rfl⟩:=h;simp only[di]
 case typeAssert x PJ t ok=>
  rw[map_some] at hm;obtain⟨z,aw,rfl⟩:=hm;simp only[bU,gN] at h;obtain⟨ad,rfl⟩:=h;simp only[di,aw,ad,avZ]
 case makeFunc f a b=>
  cases f<;>simp only at hm<;>try (cases hm; done)
  cases hm;simp only[bU,Option.some.injEq,Prod.mk.injEq] at h;obtain⟨rfl,rfl⟩:=h;rfl
 case makeSlice t a c=>
  simp only[bind_some] at hm;obtain⟨e,h1,z,ad,by_,aj,zero,aE,hm⟩:=hm;rw[iI] at hm;obtain⟨aX,rfl⟩:=hm;simp only[bU] at h;unfold sf at h;cases aA:aB a<;>rw[aA] at h<;>(try simp only at h)<;>try (cases h; done)
  cases ah:aB c<;>rw[ah] at h<;>(try simp only at h)<;>try (cases h; done)
  rw[iI] at h;obtain⟨bw,c5⟩:=h;cases c5;simp only[di,aA,ah,Ig,h1,asInt,ad,aj,aE,if_pos (And.intro aX bw),lO]; rfl
 case slice t x cV av cW=>
  rw[map_some] at hm;obtain⟨dB,h1,rfl⟩:=hm;simp only[bU,gN] at h;obtain⟨ad,rfl⟩:=h;rw[amS h1] at ad;simp only[di,ad]; rfl
 case fieldAddr s x f=>
  rw[bind_some] at hm;obtain⟨fd,h1,hm⟩:=hm;split at hm
  ·rename_i n ad;cases hm;simp only[bU,gN] at h;obtain⟨aj,rfl⟩:=h;simp only[di,Gm,h1,ad,aj]; rfl
  ·cases hm
 case field t x f=>
  rw[bind_some] at hm;obtain⟨fd,h1,hm⟩:=hm;split at hm
  ·rename_i n ad aj;cases hm;simp only[bU,gN] at h;obtain⟨aE,rfl⟩:=h;unfold AE at aE;cases af:aB x<;>rw[af] at aE<;>(try simp only at aE)<;>try (cases aE; done)
   simp only[di,af,h1,X7 ad aj,aE]; rfl
  ·rename_i ad;cases hm;simp only[bU,gN] at h;obtain⟨aE,rfl⟩:=h;unfold Da at aE;cases af:aB x<;>rw[af] at aE<;>(try simp only at aE)<;>try (cases aE; done)
   simp only[di,af,h1,NZ ad,aE]; rfl
  ·cases hm
 case indexAddr t x i=>
  split at hm
  ·rename_i n z h1;cases hm;simp only[bU,gN] at h;obtain⟨ad,rfl⟩:=h;simp only[di,WG h1 ad]; rfl
  ·rename_i z h1;cases hm;simp only[bU,gN] at h;obtain⟨ad,rfl⟩:=h;simp only[di,WG h1 ad]; rfl
  ·cases hm
 case index t x i=>
  split at hm
  ·rename_i n e aN;split at hm
   ·rename_i z h1 ad;cases hm;simp only[bU,gN] at h;obtain⟨aj,rfl⟩:=h;unfold En at aj;cases af:aB x<;>rw[af] at aj<;>(try simp only at aj)<;>try (cases aj; done)
    cases av:aB i<;>rw[av] at aj<;>(try simp only at aj)<;>try (cases aj; done)
    simp only[di,Bt,af,av,aN,asInt,h1,X7 ad h1,aj]; rfl
   ·rename_i z h1 ad;cases hm;simp only[bU,gN] at h;obtain⟨aj,rfl⟩:=h;unfold Em at aj;cases af:aB x<;>rw[af] at aj<;>(try simp only at aj)<;>try (cases aj; done)
    cases av:aB i<;>rw[av] at aj<;>(try simp only at aj)<;>try (cases aj; done)
    simp only[di,Bt,af,av,aN,asInt,h1,NZ ad,aj]; rfl
   ·cases hm
  ·rename_i aN;cases hm;simp only[bU,gN] at h;obtain⟨aj,rfl⟩:=h;unfold ze at aj;cases af:aB x<;>rw[af] at aj<;>(try simp only at aj)<;>try (cases aj; done)
   cases av:aB i<;>rw[av] at aj<;>(try simp only at aj)<;>try (cases aj; done)
   simp only[di,Bt,af,av,aN,asInt,aj]; rfl
  ·cases hm
 case extract x i=>
  cases hm;simp only[bU,gN] at h;obtain⟨ad,rfl⟩:=h;unfold C3 at ad;cases af:aB x<;>rw[af] at ad<;>(try simp only at ad)<;>try (cases ad; done)
  simp only[di,af,ad]; rfl
 case call c=>
  split at hm
  ·rename_i b ag;simp only[di,wh,ag];exact acu hm h
  ·rename_i f aF;split at hm
   ·rename_i fn x y kV G1;rw[iI] at hm;obtain⟨av,rfl⟩:=hm;simp only[bU] at h;split at h
    case h_2=>cases h
    rename_i Hj;rw[gN] at h;obtain⟨ad,rfl⟩:=h;unfold cmpL at ad;have eU:∀ x,sT (bW l') x=po l' x:=fun x=>by
     cases x<;>simp only[sT,po,CQ]<;>rfl
    have tl:¬(fn.body.isSome=true/\fn.name≠ "runtime.NumGoroutine") :=by
     rintro⟨a,_⟩;unfold Eh at av;simp only[avU] at av;rw[ayL.1 av.1.1] at a; cases a
    have yN:aB (.func f)=.fn f [] [] :=by
     unfold Ei at Hj;split at Hj
     ·rename_i g aq; rw[aq,awK Hj]
     ·cases Hj
    simp only[di,wh,aF,yN,kV,if_neg tl,if_pos av,G1,awn,ax0,awI,awp,CO,eU];cases aA:po l' (aB x) with
    | none=>rw[aA] at ad; cases ad
    | some a=>
     cases ag:po l' (aB y) with
     | none=>rw[aA,ag] at ad; cases ad
     | some b=>rw[aA,ag] at ad; cases ad; rfl
   ·cases hm
  ·cases hm
 case panic x=>cases hm; cases h
 case makeMap t r=>
  split at hm
  ·rename_i k e aN;cases hm;simp only[bU] at h;cases r with
   | none=>cases h; simp[di,aN,lO]
   | some x=>
    simp only at h;cases af:asInt (aB x) with
    | none=>rw[af] at h; cases h
    | some n=>rw[af] at h; cases h; simp[di,aN,af,lO]
  ·cases hm
 case lookup t m k ok=>
  split at hm
  ·rename_i c2 nb aN;rw[map_some] at hm;obtain⟨z,aw,rfl⟩:=hm;simp only[bU,gN] at h;obtain⟨ad,rfl⟩:=h;have tj:∀ x,mapOf (bW l') x=tC l' x:=fun x=>by
    cases x<;>try rfl
    rename_i b;simp only[mapOf,tC,nI];cases l'[b]? with
    | none=>rfl
    | some c=>cases c<;>rfl
   unfold xm at ad;simp only[di,H9,aN,tj];cases jH:tC l' (aB m) with
   | none=>rw[jH] at ad; cases ad
   | some es=>
    rw[jH] at ad;simp only at ad ⊢;cases hk:lB P c2 (aB k) with
    | false=>rw[hk] at ad; cases ad
    | true=>
     rw[hk] at ad;simp only at ad ⊢;cases aF:j1 P c2 (aB k) es 0 with
     | none=>rw[aF] at ad; cases ad
     | some r=>
      rw[aF] at ad;cases r with
      | none=>cases ad; simp[aw]
      | some xh=>cases ad; rfl
  ·cases hm
 case mapUpdate t m k x=>
  split at hm
  ·rename_i c2 nb aN;cases hm;simp only[bU,map_some] at h;obtain⟨b1,ad,aj⟩:=h;cases aj;simp only[di,Xv aN ad]; rfl
  ·cases hm
 case insert t m k x=>
  split at hm
  ·rename_i c2 nb aN;cases hm;simp only[bU,map_some] at h;obtain⟨b1,ad,aj⟩:=h;cases aj;simp only[di,Xv aN ad]; rfl
  ·cases hm
 case range t x=>
  split at hm
  ·rename_i aN;cases hm;simp only[bU] at h;unfold BO at h;cases af:aB x<;>rw[af] at h<;>(try simp only at h)<;>try (cases h; done)
   cases h;simp[di,IL,aN,af,lO]
  ·cases hm
 case next it b=>
  cases b with
  | false=>cases hm
  | true=>
   cases hm;simp only[bU] at h;unfold vx at h;simp only[di,BA];cases af:aB it<;>rw[af] at h<;>(try simp only at h)<;>try (cases h; done)
   rename_i b;simp only[nI];cases ag:l[b]? with
   | none=>rw[ag] at h; cases h
   | some c=>
    cases c<;>rw[ag] at h<;>simp only at h<;>try (cases h; done)
    simp only;split at h
    ·rename_i aM; cases h; rw[aM]; simp only[avZ,oK _ (eu ag)]
    ·rename_i aM; cases h; rw[aM]; rfl
end
abbrev bg:=Nat->U
abbrev hq:=sF->bg->am->Prop
class PS (α:Type) where
 k:α->Prop
class Cn where
 p:Prop
 q:Prop
class uk where
 k:U->am->Prop
class JA where
 k:hq
def W {α:Type} (o:Option α) [c:PS α] :Prop:=match o with | some v=>c.k v | none=>False
def r5 (b:Bool) [c:Cn] :Prop:=match b with | true=>c.p | false=>c.q
def zg (x:U) [c:Cn] :Prop:=match x with | .bool b=>r5 b (c:=c) | _=>False
def r4 (x:U) (w:Bool) [c:Cn] :Prop:=match x with | .bool b=>r5 (b == w) (c:=c) | .bad=>False | _=>c.q
inductive rl where
 | g5 (m:dy)
 | m8 (f:FuncId) (args:List Operand)
 | nR (x:Operand) (args:List Operand)
 | oM (x:Operand) (name:String) (args:List Operand)
structure eJ where
 i:Nat
 dst:Option Tmp
 g:Option (Option Tmp × Bool)
 b:rl
 hL:List Nat
 cx:Bool
inductive gg where
 | skip
 | ret
 | exit (id:Nat)
 | xE (s:List eJ)
 | yi (s:List eJ)
 | seq (a b:gg)
 | cond (c:Operand) (x y:gg)
 | block (id:Nat) (c:gg)
 | loop (c:gg)
section
variable (P:Program) (G:Nat->U)
def hQ (f:FuncId) :Bool:=match P.funcs[f]? with | some fn=>fn.body.isSome&&fn.name != "runtime.NumGoroutine" | none=>false
def c7 (f:FuncId) (args:List U) (l:am) [c:uk] :Prop:=∃ r l',dP P G (.call f args (bW l) r (bW l'))/\l.length<=l'.length/\c.k r l'
def wj (x:U) (args:List U) (l:am) [c:uk] :Prop:=match x with
 | .fn g first gi=>hQ P g=true/\c7 P G g (first++args++gi) l (c:=c)
 | _=>False
def wi (name:String) (x:U) (args:List U) (l:am) [c:uk] :Prop:=match x with
 | .g0 t v=>match zq P t name with
  | some g=>hQ P g=true/\c7 P G g (v::args) l (c:=c)
  | none=>False
 | _=>False
def dp (v:U) (l:am) [c:uk] :Prop:=c.k v l\/∃ dS b1,rs (bW l) (bW b1)/\rr (bW l) (bW b1) v dS/\c.k dS b1
def eR (m:dy) (v:U) (l:am) (K:U->am->Prop) :Prop:=match m with
 | .app ..=>dp v l (c:=⟨K⟩)
 | _=>K v l
def ih (b:rl) (ae:bg) (l:am) (K:U->am->Prop) :Prop:=match b with
 | .g5 m=>W (bU P (da G ae) l m) (c:=⟨fun x=>eR m x.1 x.2 K⟩)
 | .m8 f args=>c7 P G f (args.map (da G ae)) l (c:=⟨K⟩)
 | .nR x args=>wj P G (da G ae x) (args.map (da G ae)) l (c:=⟨K⟩)
 | .oM x name args=>wi P G name (da G ae x) (args.map (da G ae)) l (c:=⟨K⟩)
def qZ (ae:bg) (g:Option (Option Tmp × Bool)) (p q:Prop) :Prop:=match g with
 | none=>p
 | some (some d,w)=>r4 (ae d) w (c:=⟨p,q⟩)
 | some (none,_)=>q
def jV:List eJ->bg->am->(bg->am->Prop)->Prop
 | [],ae,l,K=>K ae l
 | s::r,ae,l,K=>qZ ae s.g (ih P G s.b ae l fun v l'=>jV r (hD ae s.dst v) l' K) (jV r (hD ae s.dst hF) l K)
abbrev iN:=List (Nat × (am->Prop))
def qi (ids:List Nat) :iN->am->Prop
 | [],_=>True
 | e::r,l=>(ids.contains e.1=true->e.2 l)/\qi ids r l
def dy.jl:dy->Bool
 | .alloc _ | .box _ | .ry .. | .se ..=>true
 | _=>false
def mr (b:rl) (ae:bg) (v:U) (l l' l1:am) :Prop:=match b with
 | .g5 m=>match m.jl with
  | true=>l1[l.length]? = l'[l.length]?
  | false=>bU P (da G ae) l1 m=some (v,l1)
 | _=>True
def sr (cx:Bool) (i:Nat) (p:am->Prop) (s:iN) :iN:=match cx with | true=>(i,p) ::s | false=>s
def ki:List eJ->bg->am->iN->(bg->am->Prop)->Prop
 | [],ae,l,_,K=>K ae l
 | s::r,ae,l,seen,K=>qZ ae s.g (ih P G s.b ae l fun v l'=>qi s.hL seen l'/\ki r (hD ae s.dst v) l' (sr s.cx s.i (mr P G s.b ae v l l') seen) K) (ki r (hD ae s.dst hF) l seen K)
def o2 (k:bg->am->Prop) (K:hq) :hq:=fun e ae l=>match e with
 | .normal=>k ae l
 | .exit id=>K (.exit id) ae l
 | .ret=>K .ret ae l
def r3 (id:Nat) (K:hq) :hq:=fun e ae l=>match e with
 | .normal=>K .normal ae l
 | .exit tv=>match Nat.beq tv id with | true=>K .normal ae l | false=>K (.exit tv) ae l
 | .ret=>K .ret ae l
def Bw (r:bg->am->hq->Prop) :Nat->bg->am->hq->Prop
 | 0=>fun _ _ _=>False
 | n+1=>fun ae l K=>r ae l (o2 (fun ae l=>Bw r n ae l K) K)
def FD (r:bg->am->hq->Prop) (ae:bg) (l:am) [c:JA] :Prop:=∃ n,Bw r n ae l c.k
def run:gg->bg->am->hq->Prop
 | .skip,ae,l,K=>K .normal ae l
 | .ret,ae,l,K=>K .ret ae l
 | .exit id,ae,l,K=>K (.exit id) ae l
 | .xE s,ae,l,K=>jV P G s ae l (K .normal)
 | .yi s,ae,l,K=>ki P G s ae l [] (K .normal)
 | .seq a b,ae,l,K=>run a ae l (o2 (fun ae l=>run b ae l K) K)
 | .cond c x y,ae,l,K=>zg (da G ae c) (c:=⟨run x ae l K,run y ae l K⟩)
 | .block id c,ae,l,K=>run c ae l (r3 id K)
 | .loop c,ae,l,K=>FD (run c) ae l (c:=⟨K⟩)
def Fh (ops:Array Oper) (i:Nat) (hL:List Nat) (cx:Bool) :Option eJ:=(ops[i]?).bind fun o=>
 let g:=o.guard.map fun k8=>((ops[k8.1]?).bind (·.dst),k8.2)
 match nV P o.op with
 | some m=>some ⟨i,o.dst,g,.g5 m,hL,cx⟩
 | none=>match o.op with
  | .call c=>match c.callee with
   | .value (.func f)=>match hQ P f with
    | true=>some ⟨i,o.dst,g,.m8 f c.args.toList,hL,cx⟩
    | false=>none
   | .value x=>some ⟨i,o.dst,g,.nR x c.args.toList,hL,cx⟩
   | .invoke x name=>some ⟨i,o.dst,g,.oM x name c.args.toList,hL,cx⟩
   | _=>none
  | _=>none
def ud:Op->Bool
 | .load .. | .convert .. | .alloc _ | .box .. | .buildSlice .. | .makeSlice ..=>true
 | .call c=>match c.callee,c.argTypes.toList with
  | .builtin .len,[t]=>match P.underlying t with | some (.map _ _)=>true | _=>false
  | _,_=>false
 | _=>false
def acM (ms:List Nat) (ops:Array Oper) (done lr:List Nat) :List Nat:=
 done.filter fun j=>(match ops[j]? with | some o=>ud P o.op | none=>false)&&lr.all fun e=>!pS ms e j
def o7 (ms:List Nat) (ops:Array Oper) :List Nat->List Nat->List Nat->List (Nat × List Nat)
 | [],_,_=>[]
 | i::r,done,lr=>match ops[i]? with
  | none=>[]
  | some o=>match k6 o.op with
   | true=>(i,acM P ms ops done (i::lr)) ::o7 ms ops r (i::done) (match o.guard with | none=>i::lr | some _=>lr)
   | false=>(i,[]) ::o7 ms ops r (i::done) lr
def CY (ms:List Nat) (ops:Array Oper) :List Nat->Bool
 | []=>true
 | i::r=>(match ops[i]? with | some o=>!k6 o.op||r.all fun j=>pS ms j i | none=>false)&&CY ms ops r
def Ks (N:Nat) (ops:Array Oper) (draw:Bool) :Option gg:=
 match ops.toList.all fun o=>qm N o.dst with
 | false=>none
 | true=>match draw with
  | false=>((List.range ops.size).mapM fun i=>Fh P ops i [] false).map .xE
  | true=>
   let ms:=iW ops
   let kF:=fT ms ops
   match NV ms ops kF&&CY ms ops kF with
   | false=>none
   | true=>
    let Ye:=o7 P ms ops kF [] []
    let ask:=Ye.flatMap (·.2)
    match Ye.mapM fun p=>Fh P ops p.1 p.2 (ask.contains p.1) with
    | none=>none
    | some s=>match ask with
     | []=>some (.xE s)
     | _=>some (.yi s)
def comp (N:Nat) :Code->Option gg
 | .skip=>some .skip
 | .label _=>some .skip
 | .ret=>some .ret
 | .exit id=>some (.exit id)
 | .region _ ops draw=>Ks P N ops draw
 | .seq a b=>match comp N a,comp N b with
  | some .skip,some b=>some b
  | some a,some .skip=>some a
  | some a,some b=>some (.seq a b)
  | _,_=>none
 | .cond c x y=>match comp N x,comp N y with
  | some x,some y=>some (.cond c x y)
  | _,_=>none
 | .block id c=>(comp N c).map (.block id)
 | .loop c=>(comp N c).map .loop
 | .scope c=>comp N c
 | _=>none
def wy (f:FuncId) :Option gg:=match P.funcs[f]? with
 | some fn=>match fn.body with
  | some c=>comp P fn.ntmps c
  | none=>none
 | none=>none
end

section
variable {P:Program} {G:Nat->U}
theorem Qj {l l' : am} {z by_ n:Nat} {s v:U} {xs:List U} (h:hJ l z by_ s xs n=some (v,l')) :l.length<=l'.length:=by
 unfold hJ at h
 repeat' split at h
 all_goals first | (cases h; done) | (cases h; simp)
theorem XE {aB:Operand->U} {l l' : am} {m:dy} {v:U} (h:bU P aB l m=some (v,l')) :l.length<=l'.length:=by
 cases m<;>simp only[bU,gN,map_some,Option.some.injEq,Prod.mk.injEq] at h
 case gu=>obtain⟨_,rfl⟩:=h; exact avR _
 case alloc=>obtain⟨_,rfl⟩:=h; simp
 case box=>obtain⟨_,_,_,rfl⟩:=h; simp
 case ry=>obtain⟨_,_,_,rfl⟩:=h; simp
 case st n a x=>
  obtain⟨_,h,_,rfl⟩:=h;unfold kH at h
  repeat' split at h
  all_goals first | (cases h; done) | (cases h; simp)
 case zt=>obtain⟨_,rfl⟩:=h; exact avR _
 case zs=>obtain⟨_,rfl⟩:=h; exact avR _
 case se=>
  unfold sf at h
  repeat' split at h
  all_goals first | (cases h; done) | (cases h; simp)
 case app=>
  unfold gx at h;split at h
  ·cases h
  ·exact Qj h
 case wb=>
  unfold rx at h
  repeat' split at h
  all_goals first | (cases h; done) | exact Qj h
 case wC=>
  unfold As at h
  repeat' split at h
  all_goals first | (cases h; done) | (cases h; simp)
 case wu=>
  obtain⟨_,h,_,rfl⟩:=h;unfold sV at h
  repeat' split at h
  all_goals first | (cases h; done) | (cases h; simp)
 case stop=>cases h
 case vv x=>
  cases x with
  | none=>cases h; simp
  | some o=>
   simp only at h;split at h
   ·cases h; simp
   ·cases h
 case xq=>
  obtain⟨_,h,_,rfl⟩:=h;unfold tD at h
  repeat' split at h
  all_goals first | (cases h; done) | (cases h; simp)
 case xI=>
  unfold BO at h
  repeat' split at h
  all_goals first | (cases h; done) | (cases h; simp)
 case xt=>
  unfold vx at h
  repeat' split at h
  all_goals first | (cases h; done) | (cases h; simp)
 case cj=>
  split at h
  ·rw[gN] at h; obtain⟨_,rfl⟩:=h; exact avR _
  ·cases h
 all_goals (obtain⟨_,rfl⟩:=h; exact avR _)
theorem Ac {α:Type} {o:Option α} {c:PS α}:W o (c:=c)<->∃ v,o=some v/\c.k v:=by
 unfold W; cases o<;>simp
theorem Es {b:Bool} {c:Cn}:r5 b (c:=c)<->(b=true/\c.p)\/(b=false/\c.q) :=by cases b<;>simp[r5]
structure qc (P:Program) (ops:Array Oper) (s:eJ) (o:Oper) :Prop where
 here:ops[s.i]? = some o
 dst:s.dst=o.dst
 g:s.g=o.guard.map fun k8=>((ops[k8.1]?).bind (·.dst),k8.2)
 g5:∀ m,s.b=.g5 m->nV P o.op=some m
 m8:∀ f args,s.b=.m8 f args->∃ c:Call,o.op=.call c/\c.callee=.value (.func f)/\c.args.toList=args/\hQ P f=true
 nR:∀ x args,s.b=.nR x args->∃ c:Call,o.op=.call c/\c.callee=.value x/\c.args.toList=args
 oM:∀ x name args,s.b=.oM x name args->∃ c:Call,o.op=.call c/\c.callee=.invoke x name/\c.args.toList=args
theorem Ja {ops:Array Oper} {i:Nat} {hL:List Nat} {cx:Bool} {s:eJ} (h:Fh P ops i hL cx=some s) :∃ o,qc P ops s o/\s.i=i/\s.hL=hL/\s.cx=cx:=by
 unfold Fh at h;rw[bind_some] at h;obtain⟨o,ap,h⟩:=h;refine⟨o,?_⟩;simp only at h;split at h
 ·rename_i m hm;cases h;exact⟨⟨ap,rfl,rfl,fun cF h=>(by cases h; exact hm),fun f a h=>(by cases h),fun x a h=>(by cases h),fun x n a h=>(by cases h)⟩,rfl,rfl,rfl⟩
 ·split at h
  ·rename_i c gk;split at h
   ·rename_i f ah;split at h
    ·rename_i aF;cases h;exact⟨⟨ap,rfl,rfl,fun cF h=>(by cases h),fun f a h=>(by cases h; exact⟨c,gk,ah,rfl,aF⟩),fun x a h=>(by cases h),fun x n a h=>(by cases h)⟩,rfl,rfl,rfl⟩
    ·cases h
   ·rename_i x af ah;cases h;exact⟨⟨ap,rfl,rfl,fun cF h=>(by cases h),fun f a h=>(by cases h),fun x a h=>(by cases h; exact⟨c,gk,ah,rfl⟩),fun x n a h=>(by cases h)⟩,rfl,rfl,rfl⟩
   ·rename_i x name ah;cases h;exact⟨⟨ap,rfl,rfl,fun cF h=>(by cases h),fun f a h=>(by cases h),fun x a h=>(by cases h),fun x n a h=>by cases h; exact⟨c,gk,ah,rfl⟩⟩,rfl,rfl,rfl⟩
   ·cases h
  ·cases h
theorem T5 {g:FuncId} (aF:hQ P g=true) {h:aQ} {aB:Operand->U} {c:Call} {x:Operand} {first gi:List U} (ah:c.callee=.value x) (af:aB x=.fn g first gi) :
  di P h aB (.call c)=some (.call g (first++c.args.toList.map aB++gi) h) :=by
 unfold hQ at aF;simp only[di,wh,ah,af];cases kV:P.funcs[g]? with
 | none=>rw[kV] at aF; cases aF
 | some fn=>
  rw[kV] at aF;simp only[avU,bne_iff_ne] at aF;simp only;rw[if_pos aF]
theorem aex {g:FuncId} (aF:hQ P g=true) {h:aQ} {aB:Operand->U} {c:Call} {x:Operand} {name:String} {t:TypeId} {v:U} (ah:c.callee=.invoke x name) (af:aB x=.g0 t v) (hm:zq P t name=some g) :
  di P h aB (.call c)=some (.call g (v::c.args.toList.map aB) h) :=by
 unfold hQ at aF;simp only[di,wh,ah,af,hm];cases kV:P.funcs[g]? with
 | none=>rw[kV] at aF; cases aF
 | some fn=>
  rw[kV] at aF;simp only[avU,bne_iff_ne] at aF;simp only;rw[if_pos aF]
def dy.looks:dy->Bool
 | .alloc _ | .box _ | .ry .. | .se .. | .st .. | .app .. | .wb .. | .wC .. | .wu .. | .vv _ | .zm .. | .xq .. | .xI _ | .xt _ | .cj .. | .B1 .. | .stop=>false
 | _=>true
theorem ajq {m:dy} {v:U} {l:am} {K:U->am->Prop} (h:eR m v l K) :K v l\/(m.looks=false/\m.jl=false/\∃ dS b1,rs (bW l) (bW b1)/\rr (bW l) (bW b1) v dS/\K dS b1) :=by
 cases m<;>first | exact .inl h | skip
 rcases h with h | h
 ·exact .inl h
 ·exact .inr ⟨rfl,rfl,h⟩
theorem Xb {m:dy} {v:U} {l:am} {K gS:U->am->Prop} (aY:∀ v l,K v l->gS v l) (h:eR m v l K) :eR m v l gS:=by
 cases m<;>first | exact aY _ _ h | skip
 rcases h with h | ⟨dS,b1,h1,ad,aj⟩
 ·exact .inl (aY _ _ h)
 ·exact .inr ⟨dS,b1,h1,ad,aY _ _ aj⟩
theorem ZM {ops:Array Oper} {s:eJ} {o:Oper} (ok:qc P ops s o) {ae:bg} {l:am} {K:U->am->Prop} (h:ih P G s.b ae l K) :
  ∃ v l',dP P G (.op o.op ae (bW l) v (bW l'))/\l.length<=l'.length/\K v l'/\∀ m,s.b=.g5 m->(m.looks=true\/m.jl=true)->bU P (da G ae) l m=some (v,l') :=by
 cases ag:s.b with
 | g5 m=>
  rw[ag] at h;simp only[ih,Ac] at h;obtain⟨⟨v,l'⟩,h1,ad⟩:=h;have ao:=dP.Iu (G:=G) (In (ok.g5 m ag) h1);rcases ajq ad with ad | ⟨mj,o5,dS,b1,ce,bP,dn⟩
  ·exact⟨v,l',ao,XE h1,ad,fun cF hm _=>by cases hm; exact h1⟩
  ·refine⟨dS,b1,.Jr ao ce bP,axc (XE h1) (Nat.le_of_eq ce.n.symm),dn,fun cF hm al=>?_⟩;cases hm;rw[mj,o5] at al;rcases al with h | h<;>cases h
 | m8 f args=>
  rw[ag] at h;obtain⟨r,l',h1,ad,aj⟩:=h;obtain⟨c,gk,ah,aA,aF⟩:=ok.m8 f args ag;refine⟨r,l',?_,ad,aj,fun cF hm _=>by cases hm⟩;rw[gk];refine .BF (T5 aF ah rfl) ?_;simpa [aA] using h1
 | nR x args=>
  rw[ag] at h;simp only[ih] at h;obtain⟨c,gk,ah,aA⟩:=ok.nR x args ag;unfold wj at h;split at h
  ·rename_i g first gi af
   obtain⟨aF,r,l',h1,ad,aj⟩:=h;refine⟨r,l',?_,ad,aj,fun cF hm _=>by cases hm⟩;rw[gk];refine .BF (T5 aF ah af) ?_;rw[aA]; exact h1
  ·cases h
 | oM x name args=>
  rw[ag] at h;simp only[ih] at h;obtain⟨c,gk,ah,aA⟩:=ok.oM x name args ag;unfold wi at h;split at h
  ·rename_i t v af;split at h
   ·rename_i g hm;obtain⟨aF,r,l',h1,ad,aj⟩:=h;refine⟨r,l',?_,ad,aj,fun cF hm _=>by cases hm⟩;rw[gk];refine .BF (aex aF ah af hm) ?_;rw[aA]; exact h1
   ·cases h
  ·cases h
theorem WW {ops:Array Oper} {s:eJ} {o:Oper} (ok:qc P ops s o) {ae:bg} {p q:Prop} (h:qZ ae s.g p q) :(ll ops ae o=some true/\p)\/(ll ops ae o=some false/\q) :=by
 rw[ok.g] at h;unfold ll;cases aq:o.guard with
 | none=>rw[aq] at h; exact .inl ⟨rfl,h⟩
 | some k8=>
  obtain⟨j,w⟩:=k8;rw[aq] at h;simp only[avZ] at h ⊢;cases bC:(ops[j]?).bind (·.dst) with
  | none=>rw[bC] at h; exact .inr ⟨rfl,h⟩
  | some d=>
   rw[bC] at h;simp only[qZ,r4] at h ⊢;cases ak:ae d<;>rw[ak] at h<;>simp only at h ⊢<;>first | exact .inr ⟨trivial,h⟩ | (cases h; done) | skip
   rw[Es] at h;rcases h with ⟨h1,ad⟩ | ⟨h1,ad⟩
   ·exact .inl ⟨by rw[h1],ad⟩
   ·exact .inr ⟨by rw[h1],ad⟩
inductive zZ (P:Program) (ops:Array Oper) :List eJ->List Oper->Prop
 | nil:zZ P ops [] []
 | cons {s o ZG os}:qc P ops s o->zZ P ops ZG os->zZ P ops (s::ZG) (o::os)
theorem OH {ops:Array Oper} {N:Nat} (fy:∀ (i:Nat) (o:Oper),ops[i]? = some o->qm N o.dst=true) {K:bg->am->Prop}:∀ {s:List eJ} {os:List Oper} {ae:bg} {l:am},
  zZ P ops s os->jV P G s ae l K->∃ b6 l',dP P G (.ops ops os N ae (bW l) b6 (bW l'))/\l.length<=l'.length/\K b6 l'
 | [],_,ae,l,aF,h=>by cases aF; exact⟨ae,l,.XW,avR _,h⟩
 | s::r,_,ae,l,aF,h=>by
  cases aF with
  | cons ok aF=>
   rename_i o os;rcases WW ok h with ⟨hw,h⟩ | ⟨hw,h⟩
   ·obtain⟨v,l1,h1,ad,aj,_⟩:=ZM ok h;obtain⟨b6,l',aE,aX,bw⟩:=OH fy aF aj;exact⟨b6,l',.XX hw (fy _ _ ok.here) h1 (by rw[<-ok.dst]; exact aE),axc ad aX,bw⟩
   ·obtain⟨b6,l',aE,aX,bw⟩:=OH fy aF h;exact⟨b6,l',.XY hw (fy _ _ ok.here) (by rw[<-ok.dst]; exact aE),aX,bw⟩
theorem YW {l x:am} {p:U} {y:List U × Nat} (h:eW l p=some y) :eW (l++x) p=some y:=by
 cases p<;>first | exact h | skip
 rename_i b off sz;simp only[eW] at h ⊢;cases ag:l[b]? with
 | none=>rw[ag] at h; cases h
 | some c=>rw[ag] at h; rw[avQ (eu ag),ag]; exact h
theorem ac9 {l x:am} {z:Nat} {p:U} {y:List U × Nat} (h:dE l z p=some y) :dE (l++x) z p=some y:=by
 cases p<;>first | exact h | skip
 rename_i dO b off len cap sz;simp only[dE] at h ⊢;cases ag:l[b]? with
 | none=>rw[ag] at h; cases h
 | some c=>rw[ag] at h; rw[avQ (eu ag),ag]; exact h
theorem acI {l x:am} {p v:U} (h:wm l p=some v) :wm (l++x) p=some v:=by
 unfold wm at h ⊢;cases p<;>simp only at h ⊢<;>first | exact h | skip
 all_goals
  split at h
  ·rename_i cs n ah;rw[ac9 ah]; exact h
  ·cases h
def dy.reads:dy->Bool
 | .ld1 _ | .vo .. | .uD _ | .xj _=>true
 | _=>false
theorem Xn {aB:Operand->U} {l l' : am} {m:dy} {v:U} (hm:m.looks=true) (h:bU P aB l m=some (v,l')) :l'=l:=by
 cases m<;>simp only[dy.looks,Bool.true_eq,axf,reduceCtorEq] at hm<;>simp only[bU,gN,Option.some.injEq,Prod.mk.injEq] at h<;>first | exact h.2 | exact h.2.symm
theorem ajV {aB:Operand->U} {l x:am} {m:dy} {v:U} (hm:m.looks=true) (h:bU P aB l m=some (v,l)) :bU P aB (l++x) m=some (v,l++x) :=by
 cases m<;>simp only[dy.looks,Bool.true_eq,axf,reduceCtorEq] at hm<;>simp only[bU,gN,Option.some.injEq,Prod.mk.injEq,and_true] at h ⊢<;>try exact h
 case ld1 a=>
  rw[bind_some] at h ⊢;obtain⟨y,h1,ad⟩:=h;exact⟨y,YW h1,ad⟩
 case vo n a=>
  rw[bind_some] at h ⊢;obtain⟨y,h1,ad⟩:=h;exact⟨y,YW h1,ad⟩
 case uD x=>exact acI h
 case xj y=>
  unfold Ev at h ⊢;cases af:aB y<;>rw[af] at h<;>(try simp only at h)<;>try (cases h; done)
  ·exact h
  ·rename_i b;cases ag:l[b]? with
   | none=>rw[ag] at h; cases h
   | some c=>simp only[avQ (eu ag)]; exact h
theorem ajW {aB:Operand->U} {l b1:am} {m:dy} {v:U} (hm:m.looks=true) (az:m.reads=false) (h:bU P aB l m=some (v,l)) :bU P aB b1 m=some (v,b1) :=by
 cases m<;>simp only[dy.looks,Bool.true_eq,axf,reduceCtorEq] at hm<;>simp only[dy.reads,reduceCtorEq] at az<;>simp only[bU,gN,Option.some.injEq,Prod.mk.injEq,and_true] at h ⊢<;>exact h
theorem Ov (zero:List U) :∀ n,(dN zero n).length=n*zero.length
 | 0=>by simp[dN]
 | n+1=>by rw[dN,avW,Ov zero n,awD,Nat.add_comm]
theorem anf {cs vs:List U} {off:Nat} (h:off+vs.length<=cs.length) :(bt cs off vs).length=cs.length:=by
 simp only[bt,avW,av1,awW]; omega
theorem TE {lH:Nat->Option (Nat × Nat)}:∀ {cU:List (Nat × U)} {zero cs:List U},hP lH zero cU=some cs->cs.length=zero.length
 | [],zero,cs,h=>by simp only[hP,Option.some.injEq] at h; rw[<-h]
 | (i,v) ::r,zero,cs,h=>by
  unfold hP at h;split at h
  ·rename_i off size vs _ _;split at h
   ·rename_i h1;rw[TE h,anf (by omega)]
   ·cases h
  ·cases h
theorem akf {op:Op} {m:dy} (hm:nV P op=some m) (aC:m.jl=true) {aB:Operand->U} {l l' : am} {v:U} (h:bU P aB l m=some (v,l')) :
  ∃ cs mk,ot P aB op=some (cs,mk)/\v=mk l.length/\l'=l++[.cells cs.length cs] :=by
 cases op<;>simp only[nV] at hm<;>try (cases hm; done)
 case alloc t=>
  rw[map_some] at hm;obtain⟨zero,h1,rfl⟩:=hm;simp only[bU,Option.some.injEq,Prod.mk.injEq] at h;obtain⟨rfl,rfl⟩:=h;exact⟨zero,_,by simp only[ot,h1]; rfl,rfl,rfl⟩
 case box t x=>
  cases hm;simp only[bU,map_some,Prod.mk.injEq] at h;obtain⟨cs,h1,rfl,rfl⟩:=h;exact⟨cs,_,by simp only[ot,h1]; rfl,rfl,rfl⟩
 case buildSlice t n cU=>
  simp only[bind_some] at hm;obtain⟨e,h1,z,ad,zero,aj,hm⟩:=hm;rw[iI] at hm;obtain⟨aE,rfl⟩:=hm;simp only[bU,map_some,Prod.mk.injEq] at h;obtain⟨cs,aX,rfl,rfl⟩:=h;have bn:cs.length=n*z:=by rw[TE aX,Ov,aE.1]
  exact⟨cs,_,by simp only[ot,h1,ad,aj,if_pos aE,aX]; rfl,rfl,by rw[bn]⟩
 case makeSlice t a c=>
  simp only[bind_some] at hm;obtain⟨e,h1,z,ad,by_,aj,zero,aE,hm⟩:=hm;rw[iI] at hm;obtain⟨aX,rfl⟩:=hm;simp only[bU] at h;unfold sf at h;cases aA:aB a<;>rw[aA] at h<;>(try simp only at h)<;>try (cases h; done)
  cases ah:aB c<;>rw[ah] at h<;>(try simp only at h)<;>try (cases h; done)
  rw[iI] at h;obtain⟨bw,c5⟩:=h;cases c5;rename_i kc nc;have bn:(dN zero nc.toNat).length=nc.toNat*z:=by rw[Ov,aX]
  exact⟨dN zero nc.toNat,_,by simp only[ot,aA,ah,h1,asInt,ad,aj,aE]; rw[if_pos ⟨aX,bw⟩],rfl,by rw[bn]⟩
 case pick=>cases hm; cases aC
 case move=>cases hm; cases aC
 case assign=>cases hm; cases aC
 case nilCheck=>cases hm; cases aC
 case binOp=>cases hm; cases aC
 case unOp=>cases hm; cases aC
 case call c=>
  exfalso;split at hm
  ·unfold wx at hm
   repeat' split at hm
   all_goals first
    | (cases hm; done)
    | (cases hm; cases aC; done)
    | (simp only[bind_some,map_some] at hm; obtain⟨_,_,rfl⟩:=hm; cases aC; done)
    | (simp only[bind_some,map_some] at hm; obtain⟨_,_,_,_,rfl⟩:=hm; cases aC; done)
    | (simp only[bind_some,iI] at hm; obtain⟨_,_,_,_,_,_,_,rfl⟩:=hm; cases aC; done)
    | (simp only[bind_some,iI] at hm; obtain⟨_,_,_,_,_,_,_,_,_,rfl⟩:=hm; cases aC; done)
  ·split at hm
   ·rw[iI] at hm; obtain⟨_,rfl⟩:=hm; cases aC
   ·cases hm
  ·cases hm
 case next it b=>exfalso; cases b<;>simp only[reduceCtorEq] at hm<;>cases hm<;>cases aC
 case panic=>cases hm; cases aC
 case lookup=>exfalso; split at hm<;>(try cases hm; done); rw[map_some] at hm; obtain⟨_,_,rfl⟩:=hm; cases aC
 case build=>exfalso; simp only[bind_some,map_some] at hm; obtain⟨_,_,_,_,rfl⟩:=hm; cases aC
 case typeAssert=>exfalso; rw[map_some] at hm; obtain⟨_,_,rfl⟩:=hm; cases aC
 case store=>exfalso; rw[map_some] at hm; obtain⟨_,_,rfl⟩:=hm; cases aC
 case slice=>exfalso; rw[map_some] at hm; obtain⟨_,_,rfl⟩:=hm; cases aC
 case fieldAddr=>exfalso; rw[bind_some] at hm; obtain⟨_,_,hm⟩:=hm; split at hm<;>cases hm; cases aC
 case field=>exfalso; rw[bind_some] at hm; obtain⟨_,_,hm⟩:=hm; split at hm<;>cases hm<;>cases aC
 case extract=>cases hm; cases aC
 case makeFunc f a b=>exfalso; cases f<;>simp only at hm<;>cases hm; cases aC
 all_goals
  exfalso
  repeat' split at hm
  all_goals first | (cases hm; done) | (cases hm; cases aC; done)
end

end Go.cb

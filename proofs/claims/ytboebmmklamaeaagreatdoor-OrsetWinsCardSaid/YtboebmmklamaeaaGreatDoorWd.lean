/-
  The canonical machine, part N: a region that draws its order.
-/
import Derived.Test.YtboebmmklamaeaaGreatDoorWc
import Derived.ProofKit
set_option linter.unusedVariables false
set_option linter.unusedSimpArgs false
set_option linter.unnecessarySimpa false
namespace Go.cj
open Go
section
variable {P:Program} {G:Nat->ae}
theorem vY {ops:Array Oper} {t i:Nat} (h:ip ops t=some i) :∃ o,ops[i]? = some o/\o.dst=some t:=by
 unfold ip at h;have:=List.find?_some h;cases az:ops[i]? with
 | none=>simp[az] at this
 | some o=>exact⟨o,rfl,by simpa [az] using this⟩
def qZ (ops:Array Oper) (val ah:Nat->ae) (c3:Array Bool) :Nat->ae:=fun t=>
 match ip ops t with
 | some i=>if c3.getD i false then val i else ah t
 | none=>ah t
theorem afC {ops:Array Oper} {pre:Nat->Nat->Bool} (go:q8 ops pre) {c3:Array Bool}
  (down:∀ (i:Nat) (o:Oper) (e:Edge),ops[i]? = some o->c3.getD i false=true->e∈o.after->Region.binds .any e=true->c3.getD e.on false=true)
  (ec:∀ i,c3.getD i false=true->∃ o,ops[i]? = some o) :∀ (i:Nat),c3.getD i false=true->∀ j,pre i j=true->c3.getD j false=true:=by
 intro i
 induction i using Nat.strongRecOn with
 | _ i aM=>
  intro aA j am;obtain⟨o,az⟩:=ec i aA;obtain⟨e,aw,aj,lu⟩:=go.chain i o j az am;have dO:=down i o e az aA aw aj;rcases lu with rfl | lu
  ·exact dO
  ·exact aM e.on (go.yO i o e az aw aj) dO j lu
theorem uR (c3:Array Bool) (i j:Nat) (aA:i<c3.size) :(c3.setIfInBounds i true).getD j false=if j=i then true else c3.getD j false:=by
 rw[Array.getD_eq_getD_getElem?,Array.getElem?_setIfInBounds];by_cases h:i=j
 ·subst h; simp[aA]
 ·rw[if_neg h,if_neg (Ne.symm h),Array.getD_eq_getD_getElem?]
theorem DR {ops:Array Oper} {pre:Nat->Nat->Bool} (go:q8 ops pre) {val ah:Nat->ae} {c3:Array Bool} {i:Nat} {o:Oper} (az:ops[i]? = some o) (aA:i<c3.size) :
  qZ ops val ah (c3.setIfInBounds i true)=gn (qZ ops val ah c3) o.dst (val i) :=by
 funext t;unfold qZ gn;cases bD:o.dst with
 | none=>
  simp only;cases bx:ip ops t with
  | none=>rfl
  | some j=>
   have b7:j≠i:=fun aQ=>by
    obtain⟨cC,dw,nP⟩:=vY bx;rw[aQ,az] at dw; cases dw;rw[bD] at nP; cases nP
   simp only[uR _ _ _ aA,if_neg b7]
 | some d=>
  simp only;by_cases aW:t=d
  ·subst aW;rw[go.one i o t az bD];simp[uR _ _ _ aA]
  ·rw[ca _ _ _ _ aW];cases bx:ip ops t with
   | none=>rfl
   | some j=>
    have b7:j≠i:=fun aQ=>by
     obtain⟨cC,dw,nP⟩:=vY bx;rw[aQ,az] at dw; cases dw;rw[bD] at nP; cases nP;exact aW rfl
    simp only[uR _ _ _ aA,if_neg b7]
structure Inv (P:Program) (ops:Array Oper) (val ah:Nat->ae) (W:Nat->Bool) (cls:Nat->AU) (m:Nat) (au:Nat->Nat) (e2:Nat->aR) (fG:Nat->Nat) (N:Nat)
  (R:Nat->Prop) (B:Nat) (mh:World) (h:aR) (pI:cD) (c3:Array Bool) (k:Nat) (a:Act) (w:World) (μ:cD) :Prop where
 size:c3.size=ops.size
 down:∀ (i:Nat) (o:Oper) (e:Edge),ops[i]? = some o->c3.getD i false=true->e∈o.after->Region.binds .any e=true->c3.getD e.on false=true
 zX:k<=m
 done:∀ q,q<m->(c3.getD (au q) false=true<->q<k)
 ext:Ext0 mh h pI w (e2 k) μ
 ou:∀ b,b<h.n->pI b=none->μ b=none
 rel:b6 R B w (e2 k) μ
 uf:ld N w R (e2 k) μ (qZ ops val ah c3) a
 Af:∀ (i:Nat) (o:Oper),ops[i]? = some o->W i=true->cls i=.new->c3.getD i false=false->μ (fG i)=none
theorem alb {ops:Array Oper} {c3:Array Bool} (gE:c3.size=ops.size) (i:Nat) (aA:c3.getD i false=true) :∃ o,ops[i]? = some o:=by
 have:i<ops.size:=by
  rcases Nat.lt_or_ge i c3.size with h1 | h1
  ·omega
  ·simp[Array.getD_eq_getD_getElem?,Array.getElem?_eq_none h1] at aA
 exact⟨ops[i],by simp[this]⟩
theorem adv {ops:Array Oper} {pre:Nat->Nat->Bool} (go:q8 ops pre) {c3:Array Bool} (gE:c3.size=ops.size) (aD:Region.ready .any ops c3=[]) :∀ i,i<ops.size->c3.getD i false=true:=by
 intro i
 induction i using Nat.strongRecOn with
 | _ i aM=>
  intro aA;cases ar:c3.getD i false with
  | true=>rfl
  | false=>
   exfalso;have kS:i∈Region.ready .any ops c3:=by
    refine mem_ready.2 ⟨?_,ops[i],by simp[aA],fun e aw aj=>aM e.on (go.yO i ops[i] e (by simp[aA]) aw aj) (by
     have:=go.yO i ops[i] e (by simp[aA]) aw aj;omega)⟩
    have aS:i<c3.size:=by omega
    simpa [Array.getD_eq_getD_getElem?,aS] using ar
   rw[aD] at kS;cases kS
theorem afF (kq:P.follows .mixedOrders=true) (jt:∀ g,(G g).closed=true) :N1 P G:=by
 intro id ops N ah h bZ h' pre val W cls m au e2 pN fG cells go nQ aO hm CX u9 zd lx gg tA CO CG nW B8 B9 nR kN;refine⟨0,fun R B mh pI a0 Q sq cz s0 iE=>wp_region_any kq ?_⟩;obtain⟨gL,oh⟩:=Au sq ⟨(RowKit.Below.refl mh.heap.size mh).drew,Nat.le_succ _⟩;obtain⟨a1,qW⟩:=aO.rel oh;have Sk:=gL.trans a1
 -- the end
 have fin:∀ (c3:Array Bool) (k:Nat) (a:Act) (w:World) (μ:cD),Inv P ops val ah W cls m au e2 fG N R B mh h pI c3 k a w μ->(∀ i,i<ops.size->c3.getD i false=true)->Q .normal a w:=by
  intro c3 k a w μ inv eS;have aF:k=m:=by
   rcases Nat.lt_or_ge k m with aS | wX
   ·obtain⟨o,az,_⟩:=zd k aS;have ar:=eS (au k) ((Array.getElem?_eq_some_iff.1 az).1);have:=(inv.done k aS).1 ar;omega
   ·have:=inv.zX; omega
  subst aF;have ajk:qZ ops val ah c3=bZ:=by
   rw[CX];funext t;unfold qZ;cases bx:ip ops t with
   | none=>rfl
   | some i=>
    obtain⟨o,az,_⟩:=vY bx;simp only[eS i ((Array.getElem?_eq_some_iff.1 az).1),if_true]
  subst hm;have e8:=inv.uf;rw[ajk] at e8;exact iE a w μ ⟨inv.ext,inv.ou⟩ inv.rel e8
 have key:∀ (fuel:Nat) (c3:Array Bool) (k:Nat) (a:Act) (w:World) (μ:cD),Inv P ops val ah W cls m au e2 fG N R B mh h pI c3 k a w μ->c3.toList.count false=fuel->wpAny P .any ops Q fuel c3 a w:=by
  intro fuel
  induction fuel with
  | zero=>
   intro c3 k a w μ inv TQ;have eS:∀ i,i<ops.size->c3.getD i false=true:=by
    intro i aA;have aS:i<c3.size:=by rw[inv.size]; exact aA
    cases ar:c3[i] with
    | true=>simp[Array.getD_eq_getD_getElem?,aS,ar]
    | false=>
     exfalso;have kS:false∈c3.toList:=by rw[<-ar]; simp
     have:=List.count_pos_iff.2 kS;omega
   refine⟨?_,fin c3 k a w μ inv eS⟩;cases aD:Region.ready .any ops c3 with
   | nil=>rfl
   | cons i l=>
    exfalso;have kS:i∈Region.ready .any ops c3:=by rw[aD]; simp
    obtain⟨h1,o,az,_⟩:=mem_ready.1 kS;have aA:=(Array.getElem?_eq_some_iff.1 az).1;have ag:=eS i aA;have aS:i<c3.size:=by rw[inv.size]; exact aA
    simp[Array.getD_eq_getD_getElem?,aS] at h1 ag;rw[h1] at ag; cases ag
  | succ fuel aM=>
   intro c3 k a w μ inv TQ;refine⟨fun aD=>fin c3 k a w μ inv (adv go inv.size aD),fun i aA=>?_⟩;obtain⟨h1,o,az,TW⟩:=mem_ready.1 aA;have aS:i<c3.size:=by rw[inv.size]; exact (Array.getElem?_eq_some_iff.1 az).1
   have lw:c3.getD i false=false:=by simpa [Array.getD_eq_getD_getElem?,aS] using h1
   have BS:=afC go inv.down (alb inv.size)
   -- what comes before i is done
   have IR:∀ j,pre i j=true->c3.getD j false=true:=by
    intro j am;obtain⟨e,aw,aj,lu⟩:=go.chain i o j az am;have dO:=TW e aw aj;rcases lu with rfl | lu
    ·exact dO
    ·exact BS e.on dO j lu
   have UT:∀ j,c3.getD j false=true->pre j i=true->False:=fun j am aG=>by
    have:=BS j am i aG;rw[lw] at this; cases this
   have TZ:wB pre m au i k:=⟨inv.zX,fun q bp aG=>(inv.done q bp).1 (IR _ aG),fun q bp aG=>by
    rcases Nat.lt_or_ge q k with hU | wX
    ·exact (UT _ ((inv.done q bp).2 hU) aG).elim
    ·exact wX⟩
   -- what i sees
   have TY:∀ t,aU w R (e2 k) μ (lm ops pre val ah i o t) (a.tmps.getD t undef) :=by
    intro t;unfold lm;split
    ·rename_i aW;have CR:t∈o.looksAt ops:=by simpa using aW
     have ax:=inv.uf.val t;unfold qZ at ax;cases bx:ip ops t with
     | none=>rw[bx] at ax; exact ax
     | some j=>
      rw[bx] at ax;simp only at ax ⊢;by_cases aG:pre i j=true
      ·rw[if_pos aG];rw[if_pos (IR j aG)] at ax;exact ax
      ·rw[if_neg aG];have aiL:c3.getD j false=false:=by
        rcases go.acc i o t j az CR bx with aQ | aQ | rfl
        ·exact absurd aQ aG
        ·cases tu:c3.getD j false with
         | false=>rfl
         | true=>exact (UT j tu aQ).elim
        ·exact lw
       rw[aiL] at ax;exact ax
    ·exact .bad _
   have T3:ra G w R (e2 k) μ:=fun g=>⟨jt g,(cz g).2.ln inv.ext⟩
   have cZ:∀ x,aU w R (e2 k) μ (cT G (lm ops pre val ah i o) x) (a.eval x) :=by
    intro x;cases x with
    | tmp t=>exact TY t
    | const v=>exact aU.tS v
    | global g=>exact (T3 g).2
    | func f=>exact .fn f [] [] #[] #[] rfl rfl (fun _ _ _ aQ=>by simp at aQ) (fun _ _ _ aQ=>by simp at aQ)
   have Vb:=NS (w:=w) (R:=R) (h:=e2 k) (μ:=μ) (tmps:=a.tmps) (tA i o az) (fun d _=>TY d);have Cf:(c3.setIfInBounds i true).toList.count false=fuel:=by
    have aj:c3.toList[i]'(by simpa using aS)=false:=by
     have:c3[i]=false:=by simpa [Array.getD_eq_getD_getElem?,aS] using h1
     simpa using this
    rw[Array.toList_setIfInBounds,List.count_set (by simpa using aS)];simp[aj,TQ]
   have CN:(c3.setIfInBounds i true).size=ops.size:=by simp[inv.size]
   have Cj:∀ (j:Nat) (cC:Oper) (e:Edge),ops[j]? = some cC->(c3.setIfInBounds i true).getD j false=true->e∈cC.after->Region.binds .any e=true->(c3.setIfInBounds i true).getD e.on false=true:=by
    intro j cC e dw am aw aj;rw[uR _ _ _ aS] at am ⊢;by_cases l0:j=i
    ·subst l0;rw[az] at dw; cases dw;rw[TW e aw aj]; split<;>rfl
    ·rw[if_neg l0] at am;rw[inv.down j cC e dw am aw aj]; split<;>rfl
   -- the next state,when no block of others' is turned
   have mW:(W i=true->cls i≠.fx)->∀ q,q<m->((c3.setIfInBounds i true).getD (au q) false=true<->q<k) :=by
    intro b7 q bp;obtain⟨cC,dw,eR,al⟩:=zd q bp;have:au q≠i:=fun aQ=>by
     rw[aQ] at eR al;exact b7 eR al
    rw[uR _ _ _ aS,if_neg this];exact inv.done q bp
   have CE:∀ (j:Nat),(c3.setIfInBounds i true).getD j false=false->j≠i/\c3.getD j false=false:=by
    intro j am;rw[uR _ _ _ aS] at am;by_cases l0:j=i
    ·rw[if_pos l0] at am; cases am
    ·rw[if_neg l0] at am; exact⟨l0,am⟩
   unfold wpOp;simp only[az];cases eR:W i with
   | false=>
    rw[Vb,eR];simp only[Bool.false_eq_true,if_false];refine aM _ k _ w μ ⟨CN,Cj,inv.zX,mW (fun aQ=>by rw[eR] at aQ; cases aQ),inv.ext,inv.ou,inv.rel,?_,fun j cC dw p7 oQ am=>inv.Af j cC dw p7 oQ (CE j am).2⟩ Cf;rw[DR go az aS];exact inv.uf.put (nQ i o az) (by rw[CO i o az eR]; exact NJ)
   | true=>
    rw[Vb,eR];simp only[if_true];left;cases al:cls i with
    | pure=>
     have cI:=CG i o az eR al k TZ;obtain⟨v,w',μ',aD,e,r,ax⟩:=Nq (P:=P) inv.rel cZ o cI;have UF:wpAny P .any ops Q fuel (c3.setIfInBounds i true) (a.put o.dst v) w':=by
      refine aM _ k _ w' μ' ⟨CN,Cj,inv.zX,mW (fun _ aQ=>by rw[al] at aQ; cases aQ),inv.ext.trans e.toExt0,fun b aj ig=>e.ou b (Nat.lt_of_lt_of_le aj inv.ext.n) (inv.ou b aj ig),r,?_,fun j cC dw p7 oQ am=>?_⟩ Cf
      ·rw[DR go az aS];exact (inv.uf.ext e).put (nQ i o az) ax
      ·have aH:=inv.Af j cC dw p7 oQ (CE j am).2;rcases Nat.lt_or_ge (fG j) (e2 k).n with aj | aj
       ·exact e.ou _ aj aH
       ·exact r.jJ _ aj
     unfold Oper.wp;rcases aD with aD | ⟨aD,rfl⟩
     ·rw[aD]; exact UF
     ·rw[aD]; exact UF
    | new=>
     obtain⟨mk,aH,xg,mI,f0⟩:=nW i o az eR al;obtain⟨v,arr,t,aD,cA,w3⟩:=Xm (P:=P) cZ o aH;have dY:=f0 k TZ;have aht:=inv.Af i o az eR al lw;have asP:fG i<(e2 k).n:=by
      rcases Nat.lt_or_ge (fG i) (e2 k).n with aj | aj
      ·exact aj
      ·rw[inv.rel.fresh _ aj] at dY; cases dY
     have nZ:∀ b cf,μ b=some cf->b≠fG i:=fun b cf aj aQ=>by rw[aQ,aht] at aj; cases aj
     have e:Ext0 w (e2 k) μ (w.alloc (.cells arr t)) (e2 k) (bM μ (fG i) (some ⟨w.heap.size,0,arr.size⟩)) :=by
      refine⟨rfl,rfl,rfl,by simp,fun x ak _=>?_,?_,fun b sz cs cf aj hm=>.inl ⟨cs,aj,by rw[ca _ _ _ _ (nZ b cf hm)]; exact hm⟩,fun _ _ ay=>ay,fun b k cf aj hm=>⟨aj,by rw[ca _ _ _ _ (nZ b cf hm)]; exact hm⟩,Nat.le_refl _,Nat.le_refl _⟩
      ·exact RowKit.Below.heap_alloc w _ x ak
      ·rintro x ⟨b,cf,ar,hm,rfl⟩;by_cases aj:b=fG i
       ·subst aj; simp at hm; subst hm; exact .inr (Nat.le_refl _)
       ·rw[ca _ _ _ _ aj] at hm;exact .inl ⟨b,cf,ar,hm,rfl⟩
     have r:b6 R B (w.alloc (.cells arr t)) (e2 k) (bM μ (fG i) (some ⟨w.heap.size,0,arr.size⟩)) :=by
      refine inv.rel.sA e (fG i) (fun b aj ar=>⟨rfl,ca _ _ _ _ aj,fun cf hm=>RowKit.Below.heap_alloc w _ _ (inv.rel.lt ar hm)⟩) (fun cf hm=>?_) (fun b cf avI aj ar _ hm b1=>?_) (fun cf _ hm=>?_) inv.rel.fresh (fun b aj=>?_)
      ·simp at hm; subst hm;rw[dY];refine⟨rfl,by simp[cA.1],arr,t,(0,0),heap_alloc_new w _,rfl,.inl rfl,fun j c am=>?_⟩;obtain⟨u,bt,bE,a3⟩:=cA.2 j c am;exact⟨u,by simpa using bt,bE,a3.ln e⟩
      ·simp at b1; subst b1;have:=inv.rel.lt ar hm;simp only[ne_eq]; omega
      ·simp at hm; subst hm;exact inv.rel.size
      ·rw[ca _ _ _ _ (by omega)];exact inv.rel.jJ b aj
     have ax:aU (w.alloc (.cells arr t)) R (e2 k) (bM μ (fG i) (some ⟨w.heap.size,0,arr.size⟩)) (val i) v:=by
      rw[xg];exact w3 _ _ _ _ _ dY (by simp)
     unfold Oper.wp;rw[aD];refine aM _ k _ _ _ ⟨CN,Cj,inv.zX,mW (fun _ aQ=>by rw[al] at aQ; cases aQ),inv.ext.trans e,fun b aj ig=>by rw[ca _ _ _ _ (by omega)]; exact inv.ou b aj ig,r,?_,fun j cC dw p7 oQ am=>?_⟩ Cf
     ·rw[DR go az aS];have I4:ld N (w.alloc (.cells arr t)) R (e2 k) (bM μ (fG i) (some ⟨w.heap.size,0,arr.size⟩)) (qZ ops val ah c3) a:=⟨inv.uf.size,inv.uf.defers,fun fp=>(inv.uf.val fp).ln e⟩
      exact I4.put (nQ i o az) ax
     ·obtain⟨l0,tu⟩:=CE j am;rw[ca _ _ _ _ (fun aQ=>l0 (B8 j i cC o dw az p7 eR oQ al aQ))];exact inv.Af j cC dw p7 oQ tu
    | fx=>
     obtain⟨q,bp,rfl⟩:=u9 i o az eR al;have xa:q=k:=by
      have ag:¬ q<k:=fun aQ=>by
       have:=(inv.done q bp).2 aQ;rw[lw] at this; cases this
      rcases Nat.lt_or_ge k q with hU | wX
      ·have kp:k<m:=by omega
       have:=IR (au k) (lx k q kp bp hU);have:=(inv.done k kp).1 this;omega
      ·omega
     subst xa;refine kN q o bp az R B w μ a o _ Q rfl inv.rel T3 cZ fun v w' μ' e r ax=>?_
     obtain⟨b3,e9⟩:=(nR q bp).rel r;have dD:=e.trans b3;refine aM _ (q+1) _ w' μ' ⟨CN,Cj,by omega,fun eU mV=>?_,inv.ext.trans dD.toExt0,fun b aj ig=>dD.ou b (Nat.lt_of_lt_of_le aj inv.ext.n) (inv.ou b aj ig),e9,?_,fun j cC dw p7 oQ am=>?_⟩ Cf
     ·rw[uR _ _ _ aS];by_cases CH:eU=q
      ·subst CH; simp
      ·rw[if_neg (fun aQ=>CH (gg eU q mV bp aQ)),inv.done eU mV];omega
     ·rw[DR go az aS];exact (inv.uf.ext dD).put (nQ _ o az) (ax.ext b3)
     ·have aH:=inv.Af j cC dw p7 oQ (CE j am).2;rcases B9 j cC q dw p7 oQ bp with aj | aj
      ·exact e.ou _ aj aH
      ·exact r.jJ _ aj
 have aig:Inv P ops val ah W cls m au e2 fG N R B mh h pI (Array.replicate ops.size false) 0 a0 mh.drew pI:=by
  have aJ:∀ i,(Array.replicate ops.size false).getD i false=false:=by
   intro i;rw[Array.getD_eq_getD_getElem?,Array.getElem?_replicate];split<;>rfl
  refine⟨by simp,(fun i o e _ aA _ _=>by rw[aJ] at aA; cases aA),Nat.zero_le _,(fun q bp=>by rw[aJ]; simp),Sk.toExt0,fun b aj ig=>ig,qW,?_,fun i o az eR al _=>?_⟩
  ·have e8:qZ ops val ah (Array.replicate ops.size false)=ah:=by
    funext t;unfold qZ;cases bx:ip ops t with
    | none=>rfl
    | some i=>simp only[aJ]; simp
   rw[e8];exact s0.ext Sk
  ·obtain⟨mk,aH,xg,mI,f0⟩:=nW i o az eR al;exact sq.jJ _ mI
 exact key _ _ 0 a0 mh.drew pI aig (by simp)
theorem aoE (kq:P.follows .mixedOrders=true) (jt:∀ g,(G g).closed=true) {j:J} (am:da P G j) :uA P G j:=aoF (afF kq jt) am
end
section
variable {P:Program} {G:Nat->ae}
theorem Kr {aB dA:Operand->ae} (cy:Array (Nat × Operand)) (h:∀ x∈(cy.toList.map (·.2)),aB x=dA x) :(cy.toList.map fun p=>(p.1,aB p.2))=(cy.toList.map fun p=>(p.1,dA p.2)) :=
 List.map_congr_left fun p aG=>by rw[h p.2 (List.mem_map.2 ⟨p,aG,rfl⟩)]
theorem J2 {aB dA:Operand->ae} (xs:Array Operand) (h:∀ x∈xs,aB x=dA x) :xs.toList.map aB=xs.toList.map dA:=
 List.map_congr_left fun x ak=>h x (by simpa using ak)
theorem Ki {aB dA:Operand->ae} (o:Option Operand) (h:∀ x∈o.toArray,aB x=dA x) :o.map aB=o.map dA:=by
 cases o with
 | none=>rfl
 | some x=>simp[h x (by simp)]
theorem Np {aB dA:Operand->ae} (h:aR) (op:Op) (ak:∀ x∈op.operands,aB x=dA x) :cW P h aB op=cW P h dA op:=by
 cases op<;>simp only[Op.operands] at ak<;>try rfl
 case build t cy=>simp only[cW]; rw[Kr cy (fun x hm=>ak x (by simpa using hm))]
 case buildSlice t n cy=>simp only[cW]; rw[Kr cy (fun x hm=>ak x (by simpa using hm))]
 case makeFunc fn first e6=>
  cases fn<;>simp only[cW];rw[J2 first (fun x hm=>ak x (by simp[hm])),J2 e6 (fun x hm=>ak x (by simp[hm]))]
 case slice t x cP aA cB=>
  simp only[cW];rw[ak x (by simp),Ki cP (fun y hm=>ak y (by simp at hm ⊢; simp[hm])),Ki aA (fun y hm=>ak y (by simp at hm ⊢; simp[hm])),Ki cB (fun y hm=>ak y (by simp at hm ⊢; simp[hm]))]
 case call c=>
  have aI:c.args.toList.map aB=c.args.toList.map dA:=J2 c.args (fun x hm=>ak x (by simp[Call.operands,hm]));simp only[cW,sQ,aI];cases al:c.callee with
  | value f=>dsimp only; rw[ak f (by simp[Call.operands,al])]
  | invoke x name=>dsimp only; rw[ak x (by simp[Call.operands,al])]
  | _=>rfl
 case makeMap t r=>
  cases r with
  | none=>rfl
  | some x=>simp only[cW]; rw[ak x (by simp)]
 case next it b=>
  cases b with
  | false=>rfl
  | true=>simp only[cW]; rw[ak it (by simp)]
 all_goals (simp only[cW]; simp_all)
theorem alx {aB dA:Operand->ae} (op:Op) (ak:∀ x∈op.operands,aB x=dA x) :lF P aB op=lF P dA op:=by
 cases op<;>simp only[Op.operands] at ak<;>try rfl
 case box t x=>simp only[lF]; rw[ak x (by simp)]
 case buildSlice t n cy=>simp only[lF]; rw[Kr cy (fun x hm=>ak x (by simpa using hm))]
 case makeSlice t l c=>simp only[lF]; rw[ak l (by simp),ak c (by simp)]
theorem af3 {ah bZ:Nat->ae} {h h' : aR} {v:ae} {op:Op} (ak:∀ x∈op.operands,cT G ah x=cT G bZ x) (aw:da P G (.op op ah h v h')) :da P G (.op op bZ h v h') :=by
 generalize am:J.op op ah h v h'=j at aw
 induction aw generalizing v h'<;>cases am
 case Dp au=>exact .Dp (by rw[<-Np h op ak]; exact au)
 case xG=>exact .xG (by rw[<-Np h op ak]; assumption) (by assumption)
 case Ea=>exact .Ea (by first | (rename_i aM; exact aM rfl) | (rename_i aM _; exact aM rfl) | (rename_i aM _ _; exact aM rfl)) (by assumption) (by assumption)
inductive bN where
 | skip (i:Nat)
 | pure (i:Nat) (v:ae)
 | new (i:Nat) (v:ae) (cs:List ae)
 | fx (i:Nat) (v:ae) (h1:aR)
def bN.idx:bN->Nat
 | .skip i | .pure i _ | .new i _ _ | .fx i _ _=>i
def bN.val:bN->ae
 | .skip _=>gp
 | .pure _ v | .new _ v _ | .fx _ v _=>v
def bN.hX:bN->Bool
 | .fx ..=>true
 | _=>false
def bN.r5:bN->Bool
 | .skip _=>true
 | _=>false
def bN.cls:bN->AU
 | .skip _ | .pure ..=>.pure
 | .new ..=>.new
 | .fx ..=>.fx
def bN.cs:bN->List ae
 | .new _ _ cs=>cs
 | _=>[]
structure ir where
 ah:Nat->ae
 h:aR
def uN (ops:Array Oper) (i:Nat) :Option Tmp:=(ops[i]?).bind (·.dst)
def ob (h:aR) :bN->aR
 | .skip _ | .pure ..=>h
 | .new _ _ cs=>h.push (.cells cs.length cs)
 | .fx _ _ h1=>h1
def kw (ops:Array Oper) (s:ir) (t:bN) :ir:=⟨gn s.ah (uN ops t.idx) t.val,ob s.h t⟩
def fR (ops:Array Oper) (s0:ir) (tr:List bN) (p:Nat) :ir:=(tr.take p).foldl (kw ops) s0
theorem xU {ops:Array Oper} {s0:ir} {tr:List bN} {p:Nat} {t:bN} (h:tr[p]? = some t) :fR ops s0 tr (p+1)=kw ops (fR ops s0 tr p) t:=by
 unfold fR;have aS:p<tr.length:=(List.getElem?_eq_some_iff.1 h).1;rw[List.take_succ_eq_append_getElem aS,List.foldl_append];have:tr[p]=t:=(List.getElem?_eq_some_iff.1 h).2;simp[this]
def uB (P:Program) (G:Nat->ae) (ops:Array Oper) (s:ir) :bN->Prop
 | .skip i=>∃ o,ops[i]? = some o/\jh ops s.ah o=some false
 | .pure i v=>∃ o,ops[i]? = some o/\jh ops s.ah o=some true
 | .new i v cs=>∃ o mk,ops[i]? = some o/\jh ops s.ah o=some true/\lF P (cT G s.ah) o.op=some (cs,mk)/\v=mk s.h.n
 | .fx i v h1=>∃ o,ops[i]? = some o/\jh ops s.ah o=some true/\da P G (.op o.op s.ah s.h v h1)/\s.h.n<=h1.n
def Ep (P:Program) (G:Nat->ae) (ops:Array Oper) (s:ir) (h:aR) :bN->Prop
 | .pure i v=>∀ o,ops[i]? = some o->cW P h (cT G s.ah) o.op=some (.val v h)
 | .new _ _ cs=>h.f s.h.n=.cells cs.length cs
 | _=>True
structure wa (ops:Array Oper) (pre:Nat->Nat->Bool) (tr:List bN) :Prop where
 go:q8 ops pre
 all:∀ i,i<ops.size->∃ (p:Nat) (t:bN),tr[p]? = some t/\t.idx=i
 inj:∀ (p bX:Nat) (t fp:bN),tr[p]? = some t->tr[bX]? = some fp->t.idx=fp.idx->p=bX
 DL:∀ (p:Nat) (t:bN),tr[p]? = some t->t.idx<ops.size
 ab8:∀ (p bX:Nat) (t fp:bN),tr[p]? = some t->tr[bX]? = some fp->p<bX->pre t.idx fp.idx=false
 eager:∀ (p bX:Nat) (t fp:bN),tr[p]? = some t->tr[bX]? = some fp->p<bX->t.hX=true->pre fp.idx t.idx=true
structure Er (P:Program) (G:Nat->ae) (ops:Array Oper) (pre:Nat->Nat->Bool) (s0:ir) (tr:List bN) :Prop where
 step:∀ (p:Nat) (t:bN),tr[p]? = some t->uB P G ops (fR ops s0 tr p) t
 still:∀ (q:Nat),(q=tr.length\/∃ t:bN,tr[q]? = some t/\t.hX=true)->∀ (p:Nat) (t:bN),p<q->tr[p]? = some t->
  (∀ (bX:Nat) (fp:bN),bX<q->tr[bX]? = some fp->fp.hX=true->pre fp.idx t.idx=false)->Ep P G ops (fR ops s0 tr p) (fR ops s0 tr q).h t
def dG (tr:List bN) (i:Nat) :Nat:=tr.findIdx fun t=>t.idx == i
theorem vF {ops:Array Oper} {pre:Nat->Nat->Bool} {tr:List bN} (fm:wa ops pre tr) {i:Nat} (aA:i<ops.size) :∃ t,tr[dG tr i]? = some t/\t.idx=i:=by
 obtain⟨p,t,aG,aW⟩:=fm.all i aA;have aS:p<tr.length:=(List.getElem?_eq_some_iff.1 aG).1;have kS:∃ x∈tr,(x.idx == i)=true:=⟨t,List.mem_of_getElem? aG,by simpa using aW⟩
 have wV:dG tr i<tr.length:=List.findIdx_lt_length_of_exists kS;have:=List.findIdx_getElem (w:=wV);exact⟨tr[dG tr i],by simp[wV],by unfold dG; simpa using this⟩
theorem Dv {ops:Array Oper} {pre:Nat->Nat->Bool} {tr:List bN} (fm:wa ops pre tr) {p:Nat} {t:bN} (aG:tr[p]? = some t) :dG tr t.idx=p:=by
 obtain⟨fp,h1,ag⟩:=vF fm (fm.DL p t aG);exact fm.inj _ _ _ _ h1 aG ag
theorem abC {ops:Array Oper} {pre:Nat->Nat->Bool} {tr:List bN} (fm:wa ops pre tr) (s0:ir) :∀ p,p<=tr.length->∀ t,
  (fR ops s0 tr p).ah t=match ip ops t with | some j=>(if dG tr j<p then ((tr[dG tr j]?).map bN.val).getD .bad else s0.ah t) | none=>s0.ah t:=by
 intro p
 induction p with
 | zero=>
  intro _ t;simp only[fR,List.take_zero,List.foldl_nil];cases ip ops t<;>simp
 | succ p aM=>
  intro aG t;have aS:p<tr.length:=by omega
  have ez:tr[p]? = some tr[p] :=List.getElem?_eq_getElem aS;rw[xU ez];simp only[kw];have zw:=aM (by omega) t;have kr:=Dv fm ez;have ajd:=fm.DL p _ ez;have f1:ops[tr[p].idx]? = some ops[tr[p].idx] :=by simp[ajd]
  cases bD:uN ops tr[p].idx with
  | none=>
   simp only[gn,zw];cases bx:ip ops t with
   | none=>rfl
   | some j=>
    simp only;obtain⟨o,az,II⟩:=vY bx;have b7:dG tr j≠p:=by
     intro aQ;obtain⟨NA,h1,ag⟩:=vF fm ((Array.getElem?_eq_some_iff.1 az).1);rw[aQ,ez] at h1;cases h1;rw[<-ag] at az;simp only[uN,az,Option.bind_some] at bD;rw[II] at bD; cases bD
    by_cases hU:dG tr j<p
    ·rw[if_pos hU,if_pos (by omega)]
    ·rw[if_neg hU,if_neg (by omega)]
  | some d=>
   simp only[gn];by_cases aW:t=d
   ·subst aW;have nQ:ops[tr[p].idx].dst=some t:=by simpa [uN,f1] using bD
    rw[iy,fm.go.one _ _ t f1 nQ];simp[kr,ez]
   ·rw[ca _ _ _ _ aW,zw];cases bx:ip ops t with
    | none=>rfl
    | some j=>
     simp only;obtain⟨o,az,II⟩:=vY bx;have b7:dG tr j≠p:=by
      intro aQ;obtain⟨NA,h1,ag⟩:=vF fm ((Array.getElem?_eq_some_iff.1 az).1);rw[aQ,ez] at h1;cases h1;rw[<-ag] at az;simp only[uN,az,Option.bind_some] at bD;rw[II] at bD; cases bD;exact aW rfl
     by_cases hU:dG tr j<p
     ·rw[if_pos hU,if_pos (by omega)]
     ·rw[if_neg hU,if_neg (by omega)]
theorem aml {ops:Array Oper} {pre:Nat->Nat->Bool} (go:q8 ops pre) (ec:∀ (i:Nat) (o:Oper) (e:Edge),ops[i]? = some o->e∈o.after->Region.binds .any e=true->∃ cC,ops[e.on]? = some cC) :∀ (i:Nat) (o:Oper),ops[i]? = some o->∀ j,pre i j=true->j<i:=by
 intro i
 induction i using Nat.strongRecOn with
 | _ i aM=>
  intro o az j am;obtain⟨e,aw,aj,lu⟩:=go.chain i o j az am;have aS:=go.yO i o e az aw aj;rcases lu with rfl | lu
  ·exact aS
  ·obtain⟨cC,dw⟩:=ec i o e az aw aj;have:=aM e.on aS cC dw j lu;omega
theorem alH {ops:Array Oper} {pre:Nat->Nat->Bool} (go:q8 ops pre) (i:Nat) (o:Oper) (az:ops[i]? = some o) (aG:pre i i=true) :False:=by
 have:=aml go (fun i o e az aw aj=>by
  have h1:=go.yO i o e az aw aj;have ag:=(Array.getElem?_eq_some_iff.1 az).1;exact⟨ops[e.on]'(by omega),by simp⟩) i o az i aG
 omega
theorem Sr {ops:Array Oper} {pre:Nat->Nat->Bool} {tr:List bN} (fm:wa ops pre tr) (s0:ir) {i:Nat} {o:Oper} (az:ops[i]? = some o) {t:Nat} (aW:t∈o.looksAt ops) :
  lm ops pre (fun j=>((tr[dG tr j]?).map bN.val).getD .bad) s0.ah i o t=(fR ops s0 tr (dG tr i)).ah t:=by
 have aA:i<ops.size:=(Array.getElem?_eq_some_iff.1 az).1;obtain⟨c6,h1,ag⟩:=vF fm aA;have dO:dG tr i<=tr.length:=Nat.le_of_lt (List.getElem?_eq_some_iff.1 h1).1;rw[abC fm s0 _ dO];unfold lm;rw[if_pos (by simpa using aW)];cases bx:ip ops t with
 | none=>rfl
 | some j=>
  simp only;obtain⟨Xx,aiV,_⟩:=vY bx;obtain⟨NA,aq,aK⟩:=vF fm ((Array.getElem?_eq_some_iff.1 aiV).1);have key:pre i j=true<->dG tr j<dG tr i:=by
   constructor
   ·intro aG;rcases Nat.lt_trichotomy (dG tr j) (dG tr i) with h | h | h
    ·exact h
    ·exfalso;rw[h,h1] at aq;cases aq;have iA:i=j:=by rw[<-ag,<-aK]
     subst iA;exact alH fm.go i o az aG
    ·have:=fm.ab8 _ _ _ _ h1 aq h;rw[ag,aK] at this;rw[this] at aG; cases aG
   ·intro aS;rcases fm.go.acc i o t j az aW bx with aQ | aQ | rfl
    ·exact aQ
    ·have:=fm.ab8 _ _ _ _ aq h1 aS;rw[ag,aK] at this;rw[this] at aQ; cases aQ
    ·omega
  by_cases aG:pre i j=true
  ·rw[if_pos aG,if_pos (key.1 aG)]
  ·rw[if_neg aG,if_neg (fun aQ=>aG (key.2 aQ))]
def eo (tr:List bN) :List Nat:=(List.range tr.length).filter fun p=>((tr[p]?).map bN.hX).getD false
theorem Dh {tr:List bN} {p:Nat}:p∈eo tr<->∃ t,tr[p]? = some t/\t.hX=true:=by
 unfold eo;rw[List.mem_filter,List.mem_range];constructor
 ·rintro⟨h1,ag⟩;refine⟨tr[p],by simp[h1],?_⟩;simpa [h1] using ag
 ·rintro⟨t,h1,ag⟩;exact⟨(List.getElem?_eq_some_iff.1 h1).1,by simp[h1,ag]⟩
theorem s5 {tr:List bN} {q eU:Nat} (bp:q<eU) (mV:eU<(eo tr).length) :(eo tr).getD q 0<(eo tr).getD eU 0:=by
 have aG:(eo tr).Pairwise (· < ·) :=List.Pairwise.filter _ List.pairwise_lt_range;have:=List.pairwise_iff_getElem.1 aG q eU (by omega) mV bp;simpa [List.getD,mV,show q<(eo tr).length by omega] using this
theorem Sp {tr:List bN} {q:Nat} (bp:q<(eo tr).length) :∃ t,tr[(eo tr).getD q 0]? = some t/\t.hX=true:=by
 apply Dh.1;simp[List.getD,bp]
theorem Bw {tr:List bN} {p:Nat} (aG:p∈eo tr) :∃ q,q<(eo tr).length/\(eo tr).getD q 0=p:=by
 obtain⟨q,bp,rfl⟩:=List.getElem_of_mem aG;exact⟨q,bp,by simp[List.getD,bp]⟩
theorem z2 {ops:Array Oper} {pre:Nat->Nat->Bool} {s0:ir} {tr:List bN} (oo:Er P G ops pre s0 tr) :∀ (k p:Nat),p+k<=tr.length->(fR ops s0 tr p).h.n<=(fR ops s0 tr (p+k)).h.n
 | 0,p,_=>Nat.le_refl _
 | k+1,p,aG=>by
  have aM:=z2 oo k p (by omega);have aS:p+k<tr.length:=by omega
  have ez:tr[p+k]? = some tr[p+k] :=List.getElem?_eq_getElem aS;have au:=oo.step _ _ ez;rw[show p+(k+1)=(p+k)+1 from rfl,xU ez];refine Nat.le_trans aM ?_;cases aW:tr[p+k] with
  | skip i=>simp[kw,ob]
  | pure i v=>simp[kw,ob]
  | new i v cs=>simp[kw,ob,eK]
  | fx i v h1=>
   rw[aW] at au;obtain⟨o,_,_,_,aH⟩:=au;simpa [kw,ob] using aH
theorem HL {ops:Array Oper} {s0:ir} {tr:List bN}:∀ (k p:Nat),p+k<=tr.length->(∀ r,p<=r->r<p+k->r∉eo tr)->mn (fR ops s0 tr p).h (fR ops s0 tr (p+k)).h
 | 0,p,_,_=>⟨[],rfl⟩
 | k+1,p,aG,eE=>by
  obtain⟨l,ar⟩:=HL (ops:=ops) (s0:=s0) (tr:=tr) k p (by omega) (fun r h1 ag=>eE r h1 (by omega));have aS:p+k<tr.length:=by omega
  have ez:tr[p+k]? = some tr[p+k] :=List.getElem?_eq_getElem aS;have b7:tr[p+k].hX≠true:=fun aQ=>eE (p+k) (by omega) (by omega) (Dh.2 ⟨_,ez,aQ⟩)
  rw[show p+(k+1)=(p+k)+1 from rfl,xU ez];cases aW:tr[p+k] with
  | skip i=>exact⟨l,by simp[kw,ob,ar]⟩
  | pure i v=>exact⟨l,by simp[kw,ob,ar]⟩
  | new i v cs=>exact⟨l++[cs],by simp[kw,ob,ar,tU]⟩
  | fx i v h1=>rw[aW] at b7; exact absurd rfl b7
theorem da.afD {id:Nat} {ops:Array Oper} {pre:Nat->Nat->Bool} {N:Nat} {s0:ir} {tr:List bN} (fm:wa ops pre tr) (bD:∀ (i:Nat) (o:Oper),ops[i]? = some o->nI N o.dst=true) (oo:Er P G ops pre s0 tr) :
  da P G (.code (.region id ops true) N s0.ah s0.h .normal (fR ops s0 tr tr.length).ah (fR ops s0 tr tr.length).h) :=by
 -- the step that carries out operation i
 have gS:∀ (i:Nat) (o:Oper),ops[i]? = some o->∃ t,tr[dG tr i]? = some t/\t.idx=i/\uB P G ops (fR ops s0 tr (dG tr i)) t:=fun i o az=>by
  obtain⟨t,h1,ag⟩:=vF fm ((Array.getElem?_eq_some_iff.1 az).1);exact⟨t,h1,ag,oo.step _ _ h1⟩
 have ap3:∀ (i:Nat) (o:Oper),ops[i]? = some o->jh ops (lm ops pre (fun j=>((tr[dG tr j]?).map bN.val).getD .bad) s0.ah i o) o=jh ops (fR ops s0 tr (dG tr i)).ah o:=fun i o az=>by
  unfold jh;cases ay:o.guard with
  | none=>rfl
  | some n8=>
   obtain⟨j,x4⟩:=n8;simp only;cases ahJ:(ops[j]?).bind (·.dst) with
   | none=>rfl
   | some d=>
    simp only;rw[Sr fm s0 az (t:=d) (by simp[Oper.looksAt,ay,ahJ])]
 have Kd:∀ (i:Nat) (o:Oper),ops[i]? = some o->∀ x∈o.op.operands,cT G (fR ops s0 tr (dG tr i)).ah x=cT G (lm ops pre (fun j=>((tr[dG tr j]?).map bN.val).getD .bad) s0.ah i o) x:=fun i o az x ak=>by
  cases x with
  | tmp t=>
   refine (Sr fm s0 az (t:=t) ?_).symm;simp only[Oper.looksAt,List.mem_append,List.mem_filterMap];exact .inl ⟨.tmp t,by simpa using ak,rfl⟩
  | _=>rfl
 -- the moment ahead of effect k,or the end
 have NC:∀ k,k<=(eo tr).length->∃ T,T<=tr.length/\(T=tr.length\/∃ t,tr[T]? = some t/\t.hX=true)/\(T=if k<(eo tr).length then (eo tr).getD k 0 else tr.length) :=fun k aF=>by
  by_cases aS:k<(eo tr).length
  ·obtain⟨t,h1,ag⟩:=Sp aS;exact⟨_,Nat.le_of_lt (List.getElem?_eq_some_iff.1 h1).1,.inr ⟨t,h1,ag⟩,by rw[if_pos aS]⟩
  ·exact⟨_,Nat.le_refl _,.inl rfl,by rw[if_neg aS]⟩
 have fU:∀ q,q<(eo tr).length->∃ t,tr[(eo tr).getD q 0]? = some t/\t.hX=true/\((tr[(eo tr).getD q 0]?).map bN.idx).getD 0=t.idx:=fun q bp=>by
  obtain⟨t,h1,ag⟩:=Sp bp;exact⟨t,h1,ag,by rw[h1]; rfl⟩
 have abI:∀ (i:Nat) (o:Oper) (t:bN),ops[i]? = some o->tr[dG tr i]? = some t->t.idx=i->t.hX=false->∀ k,wB pre (eo tr).length (fun q=>((tr[(eo tr).getD q 0]?).map bN.idx).getD 0) i k->
   Ep P G ops (fR ops s0 tr (dG tr i)) (fR ops s0 tr (if k<(eo tr).length then (eo tr).getD k 0 else tr.length)).h t:=by
  intro i o t az aW U6 b7 k aJ;obtain⟨kp,ahT,ahU⟩:=aJ;obtain⟨T,Tw,H0,mG⟩:=NC k kp;rw[<-mG];have atl:dG tr i<tr.length:=(List.getElem?_eq_some_iff.1 aW).1;have ai0:dG tr i<T:=by
   by_cases aS:k<(eo tr).length
   ·rw[if_pos aS] at mG;obtain⟨ao5,h1,ag,aq⟩:=fU k aS;rw[<-mG] at h1;rcases Nat.lt_trichotomy (dG tr i) T with h | h | h
    ·exact h
    ·rw[h,h1] at aW;cases aW;rw[b7] at ag; cases ag
    ·have aw:=fm.eager T (dG tr i) ao5 t h1 aW h ag;have:=ahT k aS (by (try simp only); rw[aq,<-U6]; exact aw);omega
   ·rw[if_neg aS] at mG;omega
  refine oo.still T H0 _ t ai0 aW (fun bX fp fD CR fB=>?_);obtain⟨q,bp,n0⟩:=Bw (Dh.2 ⟨fp,CR,fB⟩);obtain⟨awA,h1,ag,aq⟩:=fU q bp;rw[n0,CR] at h1;cases h1;have xa:q<k:=by
   by_cases aS:k<(eo tr).length
   ·rw[if_pos aS] at mG;rcases Nat.lt_or_ge q k with h | h
    ·exact h
    ·rcases Nat.eq_or_lt_of_le h with h | h
     ·subst h; omega
     ·have:=s5 (tr:=tr) h bp;omega
   ·omega
  cases aG:pre fp.idx t.idx with
  | false=>rfl
  | true=>
   have:=ahU q bp (by (try simp only); rw[aq,<-U6]; exact aG);omega
 refine da.draw pre (fun j=>((tr[dG tr j]?).map bN.val).getD .bad) (fun j=>((tr[dG tr j]?).map fun t=>!t.r5).getD false) (fun j=>((tr[dG tr j]?).map bN.cls).getD .pure) (eo tr).length
  (fun q=>((tr[(eo tr).getD q 0]?).map bN.idx).getD 0) (fun k=>(fR ops s0 tr (if k<(eo tr).length then (eo tr).getD k 0 else tr.length)).h) (fun q=>(fR ops s0 tr ((eo tr).getD q 0+1)).h)
  (fun j=>(fR ops s0 tr (dG tr j)).h.n) (fun j=>((tr[dG tr j]?).map bN.cs).getD []) fm.go bD ?_ ?_ ?_ ?_ ?_ ?_ ?_ ?_ ?_ ?_ ?_ ?_ ?_ ?_ ?_
 ·-- h0
  obtain⟨T,Tw,H0,mG⟩:=NC 0 (Nat.zero_le _)
  try simp only
  rw[<-mG];have:=HL (ops:=ops) (s0:=s0) (tr:=tr) T 0 (by omega) (fun r _ aD kS=>by
   obtain⟨q,bp,n0⟩:=Bw kS;rw[if_pos (by omega)] at mG;rcases Nat.eq_or_lt_of_le (Nat.zero_le q) with h | h
   ·subst h; omega
   ·have:=s5 (tr:=tr) h bp;omega)
  simpa [fR] using this
 ·simp
 ·-- hσ
  funext t;rw[abC fm s0 _ (Nat.le_refl _)];cases bx:ip ops t with
  | none=>rfl
  | some j=>
   obtain⟨o,az,_⟩:=vY bx;obtain⟨NA,h1,_⟩:=vF fm ((Array.getElem?_eq_some_iff.1 az).1);simp only;rw[if_pos ((List.getElem?_eq_some_iff.1 h1).1)]
 ·-- heff
  intro i o az eR al;obtain⟨t,h1,ag,_⟩:=gS i o az;simp only[h1,Option.map_some,Option.getD_some] at al;have aw:t.hX=true:=by cases t<;>simp_all [bN.cls,bN.hX]
  obtain⟨q,bp,n0⟩:=Bw (Dh.2 ⟨t,h1,aw⟩);exact⟨q,bp,by rw[n0,h1]; exact ag⟩
 ·-- heff'
  intro q bp;obtain⟨t,h1,ag,aq⟩:=fU q bp;refine⟨ops[t.idx]'(fm.DL _ _ h1),by rw[aq]; simp[fm.DL _ _ h1],?_,?_⟩
  ·simp only[aq,Dv fm h1,h1,Option.map_some,Option.getD_some];cases t<;>simp_all [bN.r5,bN.hX]
  ·simp only[aq,Dv fm h1,h1,Option.map_some,Option.getD_some];cases t<;>simp_all [bN.cls,bN.hX]
 ·-- hord
  intro q eU bp mV aS;obtain⟨t,h1,ag,aq⟩:=fU q bp;obtain⟨fp,er,fX,s9⟩:=fU eU mV;simp only[aq,s9];exact fm.eager _ _ t fp h1 er (s5 aS mV) ag
 ·-- hinj
  intro q eU bp mV aw;obtain⟨t,h1,ag,aq⟩:=fU q bp;obtain⟨fp,er,fX,s9⟩:=fU eU mV;simp only[aq,s9] at aw;have:=fm.inj _ _ t fp h1 er aw;rcases Nat.lt_trichotomy q eU with h | h | h
  ·have:=s5 (tr:=tr) h mV; omega
  ·exact h
  ·have:=s5 (tr:=tr) h bp; omega
 ·-- hwant
  intro i o az;rw[ap3 i o az];obtain⟨t,h1,ag,aq⟩:=gS i o az;simp only[h1,Option.map_some,Option.getD_some];cases t with
  | skip j=>obtain⟨cC,dw,bx⟩:=aq; simp only[bN.idx] at ag; subst ag; rw[az] at dw; cases dw; exact bx
  | pure j v=>obtain⟨cC,dw,bx⟩:=aq; simp only[bN.idx] at ag; subst ag; rw[az] at dw; cases dw; exact bx
  | new j v cs=>obtain⟨cC,mk,dw,bx,_⟩:=aq; simp only[bN.idx] at ag; subst ag; rw[az] at dw; cases dw; exact bx
  | fx j v er=>obtain⟨cC,dw,bx,_⟩:=aq; simp only[bN.idx] at ag; subst ag; rw[az] at dw; cases dw; exact bx
 ·-- hskip
  intro i o az eR;obtain⟨t,h1,ag,aq⟩:=gS i o az;simp only[h1,Option.map_some,Option.getD_some] at eR ⊢;cases t<;>simp_all [bN.r5,bN.val]
 ·-- hpure
  intro i o az eR al k aJ;obtain⟨t,h1,ag,aq⟩:=gS i o az;simp only[h1,Option.map_some,Option.getD_some] at eR al;have cI:=abI i o t az h1 ag (by cases t<;>simp_all [bN.cls,bN.hX]) k aJ;cases t with
  | pure j v=>
   simp only[bN.idx] at ag;subst ag;have:=cI o az;rw[Np _ _ (Kd j o az)] at this;simpa [h1,bN.val] using this
  | skip j=>simp[bN.r5] at eR
  | new j v cs=>simp[bN.cls] at al
  | fx j v er=>simp[bN.cls] at al
 ·-- hnew
  intro i o az eR al;obtain⟨t,h1,ag,aq⟩:=gS i o az;simp only[h1,Option.map_some,Option.getD_some] at eR al;cases t with
  | new j v cs=>
   obtain⟨cC,mk,dw,_,aH,ax⟩:=aq;simp only[bN.idx] at ag;subst ag;rw[az] at dw; cases dw;rw[alx _ (Kd j o az)] at aH;refine⟨mk,by simpa [h1,bN.cs] using aH,by simpa [h1,bN.val] using ax,?_,fun k aJ=>?_⟩
   ·have dO:dG tr j<=tr.length:=Nat.le_of_lt (List.getElem?_eq_some_iff.1 h1).1;have:=z2 oo (dG tr j) 0 (by omega);simpa [fR] using this
   ·have cI:=abI j o _ az h1 rfl rfl k aJ;simpa [Ep,h1,bN.cs] using cI
  | skip j=>simp[bN.r5] at eR
  | pure j v=>simp[bN.cls] at al
  | fx j v er=>simp[bN.cls] at al
 ·-- hbid
  intro i j o cC az dw tf p7 e4 oQ aj;have Td:∀ (i:Nat) (o:Oper),ops[i]? = some o->((tr[dG tr i]?).map bN.cls).getD .pure=.new->∀ p,dG tr i<p->p<=tr.length->(fR ops s0 tr (dG tr i)).h.n<(fR ops s0 tr p).h.n:=by
   intro i o az al p aG gD;obtain⟨t,h1,ag,_⟩:=gS i o az;simp only[h1,Option.map_some,Option.getD_some] at al;have aK:=z2 oo (p - (dG tr i+1)) (dG tr i+1) (by omega);rw[show dG tr i+1+(p - (dG tr i+1))=p by omega,xU h1] at aK;cases t with
   | new j v cs=>simp only[kw,ob,eK] at aK; omega
   | skip j=>simp[bN.cls] at al
   | pure j v=>simp[bN.cls] at al
   | fx j v er=>simp[bN.cls] at al
  obtain⟨t,h1,ag,_⟩:=gS i o az;obtain⟨fp,er,fX,_⟩:=gS j cC dw;have ar:=(List.getElem?_eq_some_iff.1 h1).1;have c1:=(List.getElem?_eq_some_iff.1 er).1;rcases Nat.lt_trichotomy (dG tr i) (dG tr j) with h | h | h
  ·have:=Td i o az e4 _ h (Nat.le_of_lt c1); (try simp only at aj); omega
  ·rw[h,er] at h1; cases h1; rw[<-ag,<-fX]
  ·have:=Td j cC dw oQ _ h (Nat.le_of_lt ar); (try simp only at aj); omega
 ·-- hbid'
  intro i o q az eR al bp;obtain⟨t,h1,ag,_⟩:=gS i o az;obtain⟨Ny,aY,a6,bi⟩:=fU q bp;simp only[h1,Option.map_some,Option.getD_some] at al;have ar:=(List.getElem?_eq_some_iff.1 h1).1;have c1:=(List.getElem?_eq_some_iff.1 aY).1;simp only[if_pos bp];rcases Nat.lt_trichotomy (dG tr i) ((eo tr).getD q 0) with h | h | h
  ·left;have aK:=z2 oo ((eo tr).getD q 0 - (dG tr i+1)) (dG tr i+1) (by omega);rw[show dG tr i+1+((eo tr).getD q 0 - (dG tr i+1))=(eo tr).getD q 0 by omega,xU h1] at aK;cases t with
   | new j v cs=>simp only[kw,ob,eK] at aK; omega
   | skip j=>simp[bN.cls] at al
   | pure j v=>simp[bN.cls] at al
   | fx j v er=>simp[bN.cls] at al
  ·rw[h,aY] at h1; cases h1;cases t<;>simp_all [bN.cls,bN.hX]
  ·right;have aK:=z2 oo (dG tr i - ((eo tr).getD q 0+1)) ((eo tr).getD q 0+1) (by omega)
   rwa [show (eo tr).getD q 0+1+(dG tr i - ((eo tr).getD q 0+1))=dG tr i by omega] at aK
 ·-- hgrow
  intro q bp;obtain⟨Ny,aY,a6,bi⟩:=fU q bp;have c1:=(List.getElem?_eq_some_iff.1 aY).1;obtain⟨T,Tw,H0,mG⟩:=NC (q+1) (by omega)
  try simp only
  rw[<-mG];have aS:(eo tr).getD q 0<T:=by
   by_cases h:q+1<(eo tr).length
   ·rw[if_pos h] at mG;have:=s5 (tr:=tr) (show q<q+1 by omega) h;omega
   ·rw[if_neg h] at mG; omega
  have:=HL (ops:=ops) (s0:=s0) (tr:=tr) (T - ((eo tr).getD q 0+1)) ((eo tr).getD q 0+1) (by omega) (fun r jE kV kS=>by
   obtain⟨eU,mV,n0⟩:=Bw kS;have CH:q<eU:=by
    rcases Nat.lt_trichotomy q eU with h | h | h
    ·exact h
    ·subst h; omega
    ·have:=s5 (tr:=tr) h bp; omega
   by_cases h:q+1<(eo tr).length
   ·rw[if_pos h] at mG;rcases Nat.eq_or_lt_of_le (show q+1<=eU from CH) with h' | h'
    ·subst h'; omega
    ·have:=s5 (tr:=tr) h' mV; omega
   ·omega)
  rwa [show (eo tr).getD q 0+1+(T - ((eo tr).getD q 0+1))=T by omega] at this
 ·-- hcall
  intro q o bp az;obtain⟨Ny,aY,a6,bi⟩:=fU q bp;have kr:=Dv fm aY;simp only[bi] at az ⊢;have au:=oo.step _ _ aY;cases Ny with
  | fx j v h1=>
   obtain⟨cC,dw,_,aw,_⟩:=au;simp only[bN.idx] at az kr ⊢;rw[az] at dw; cases dw;have mJ:=Kd j o az;rw[kr] at mJ;have:=af3 mJ aw;simp only[kr,aY,if_pos bp,Option.map_some,Option.getD_some,bN.val];rw[xU aY];exact this
  | skip j=>simp[bN.hX] at a6
  | pure j v=>simp[bN.hX] at a6
  | new j v cs=>simp[bN.hX] at a6
end
abbrev fW:=cu ae
def look (s:fW) (t:Nat) :ae:=match s.get t with | some v=>v | none=>gp
theorem W6 (s:fW) (t:Nat) (v:ae) :look (s.set t v)=bM (look s) t v:=by
 funext u;simp only[look,cu.BI,bM];by_cases h:u=t
 ·simp[h]
 ·simp[h]
def Al (s:fW) (dst:Option Tmp) (v:ae) :fW:=match dst with | some d=>s.set d v | none=>s
theorem Da (s:fW) (dst:Option Tmp) (v:ae) :look (Al s dst v)=gn (look s) dst v:=by
 cases dst with
 | none=>rfl
 | some d=>exact W6 s d v
def xD:Nat->fW->List ae->fW
 | _,s,[]=>s
 | k,s,v::vs=>xD (k+1) (s.set k v) vs
theorem W5:∀ (vs:List ae) (k:Nat) (s:fW),look (xD k s vs)=fun t=>if k<=t/\t<k+vs.length then vs.getD (t - k) gp else look s t
 | [],k,s=>by funext t; simp only[xD,List.length_nil]; rw[if_neg (by omega)]
 | v::vs,k,s=>by
  funext t;rw[xD,W5 vs (k+1),W6];simp only[List.length_cons,bM];by_cases h1:k+1<=t/\t<k+1+vs.length
  ·rw[if_pos h1,if_pos (by omega),show t - k=(t - (k+1))+1 by omega];simp
  ·rw[if_neg h1];by_cases ag:t=k
   ·subst ag; rw[if_pos rfl,if_pos (by omega)]; simp
   ·rw[if_neg ag,if_neg (by omega)]
def xY (m i:Nat) :Bool:=Nat.testBit m i
def s4 (ms:List Nat) :List Edge->Nat
 | []=>0
 | e::es=>match Region.binds .any e with
  | true=>Nat.lor (Nat.lor (2 ^ e.on) (ms.getD e.on 0)) (s4 ms es)
  | false=>s4 ms es
def Xf (ms:List Nat) :List Oper->List Nat
 | []=>ms
 | o::os=>Xf (ms++[s4 ms o.after.toList]) os
def hr (ops:Array Oper) :List Nat:=Xf [] ops.toList
def m8 (ms:List Nat) (i j:Nat) :Bool:=xY (ms.getD i 0) j
def i5:Op->Bool
 | .move _ | .assign _ | .pick .. | .alloc _ | .box .. | .build .. | .buildSlice .. | .load .. | .nilCheck _ | .binOp .. | .unOp .. | .convert .. | .makeInterface .. | .makeFunc .. | .makeSlice .. | .slice .. | .fieldAddr .. | .field .. | .indexAddr .. | .index .. | .extract ..=>false
 | .call c=>match c.callee with
  | .builtin .len | .builtin .cap | .builtin .min | .builtin .max=>false
  | _=>true
 | _=>true
def akc:Op->Bool
 | .move _ | .assign _ | .pick .. | .build .. | .load .. | .nilCheck _ | .binOp .. | .unOp .. | .convert .. | .makeInterface .. | .makeFunc .. | .slice .. | .fieldAddr .. | .field .. | .indexAddr .. | .index .. | .extract ..=>true
 | .call c=>match c.callee with
  | .builtin .len | .builtin .cap | .builtin .min | .builtin .max=>true
  | _=>false
 | _=>false
def Ku (done:Nat) (fx:Bool) :Nat->List Nat->List Oper->Option Nat
 | i,m::ms,o::os=>match !xY done i&&Nat.beq (Nat.land m done) m&&(i5 o.op == fx) with
  | true=>some i
  | false=>Ku done fx (i+1) ms os
 | _,_,_=>none
def Nd (ms:List Nat) (os:List Oper) :Nat->Nat->List Nat
 | 0,_=>[]
 | k+1,done=>match Ku done false 0 ms os with
  | some i=>i::Nd ms os k (Nat.lor done (2 ^ i))
  | none=>match Ku done true 0 ms os with
   | some i=>i::Nd ms os k (Nat.lor done (2 ^ i))
   | none=>[]
def eW (ms:List Nat) (ops:Array Oper) :List Nat:=Nd ms ops.toList ops.size 0
def A0 (p:Nat->Oper->Bool) :Nat->List Oper->Bool
 | _,[]=>true
 | i,o::os=>p i o&&A0 p (i+1) os
theorem Oi {p:Nat->Oper->Bool}:∀ (l:List Oper) (i:Nat),A0 p i l=true->∀ (j:Nat) (o:Oper),l[j]? = some o->p (i+j) o=true
 | [],i,_,j,o,h=>by simp at h
 | x::l,i,h,j,o,am=>by
  simp only[A0,Bool.and_eq_true] at h;cases j with
  | zero=>simp only[List.getElem?_cons_zero,Option.some.injEq] at am; subst am; exact h.1
  | succ j=>
   simp only[List.getElem?_cons_succ] at am;have:=Oi l (i+1) h.2 j o am
   rwa [show i+1+j=i+(j+1) by omega] at this
def Hh (t:Nat) (o:Oper) :Bool:=match o.dst with | some d=>Nat.beq d t | none=>false
def vX (t:Nat) :Nat->List Oper->Option Nat
 | _,[]=>none
 | i,o::os=>match Hh t o with
  | true=>some i
  | false=>vX t (i+1) os
def Hf (ms:List Nat) (ops:Array Oper) :Bool:=
 A0 (fun i o=>
  Nat.beq (ms.getD i 0) (s4 ms o.after.toList) &&
  (o.after.toList.all fun e=>!Region.binds .any e||Nat.blt e.on i) &&
  (match o.dst with | some d=>(match vX d 0 ops.toList with | some j=>Nat.beq j i | none=>false) | none=>true) &&
  ((o.looksAt ops).all fun t=>match vX t 0 ops.toList with | some j=>m8 ms i j||m8 ms j i||Nat.beq j i | none=>true)) 0 ops.toList &&
 Region.noSelect ops
def Dr (ms:List Nat) :List Nat->Bool
 | []=>true
 | i::r=>(r.all fun j=>!Nat.beq i j&&!m8 ms i j)&&Dr ms r
def Km (ms:List Nat) (ops:Array Oper) (iH:List Nat) :Bool:=
 Hf ms ops&&Dr ms iH&&Nat.beq iH.length ops.size&&(iH.all fun i=>Nat.blt i ops.size)&&(List.range ops.size).all fun i=>iH.contains i
structure acZ where
 t:bN
 s:fW
 h:aR
section
variable (P:Program) (G:Nat->ae)
end
theorem Hm (ms:List Nat) (j:Nat) :∀ (es:List Edge),xY (s4 ms es) j=true->∃ e∈es,Region.binds .any e=true/\(e.on=j\/m8 ms e.on j=true)
 | [],h=>by simp[s4,xY] at h
 | e::es,h=>by
  unfold s4 at h;cases aj:Region.binds .any e with
  | false=>
   rw[aj] at h;obtain⟨eG,h1,ag⟩:=Hm ms j es h;exact⟨eG,List.mem_cons_of_mem _ h1,ag⟩
  | true=>
   rw[aj] at h;simp only[xY] at h;have h' : Nat.testBit ((2 ^ e.on ||| ms.getD e.on 0) ||| s4 ms es) j=true:=h;rw[Nat.testBit_or,Nat.testBit_or,Bool.or_eq_true,Bool.or_eq_true,Nat.testBit_two_pow] at h';rcases h' with (h' | h') | h'
   ·exact⟨e,List.mem_cons_self,aj,.inl (by simpa using h')⟩
   ·exact⟨e,List.mem_cons_self,aj,.inr h'⟩
   ·obtain⟨eG,h1,ag⟩:=Hm ms j es h';exact⟨eG,List.mem_cons_of_mem _ h1,ag⟩
theorem acG (t:Nat) :∀ (l:List Oper) (i:Nat),vX t i l=((List.range l.length).find? fun j=>match l[j]? with | some o=>o.dst == some t | none=>false).map (·+i)
 | [],i=>by simp[vX]
 | o::l,i=>by
  unfold vX;have ahI:Hh t o=(o.dst == some t) :=by
   unfold Hh;cases o.dst with
   | none=>rfl
   | some d=>
    by_cases h:d=t
    ·subst h; simp
    ·have:Nat.beq d t=false:=ij h;simp[this,h]
  rw[ahI,List.length_cons,List.range_succ_eq_map,List.find?_cons];simp only[List.getElem?_cons_zero];cases aj:(o.dst == some t) with
  | true=>simp
  | false=>
   simp only[List.find?_map];rw[acG t l (i+1)];have:((fun j=>match (o::l)[j]? with | some o=>o.dst == some t | none=>false) ∘ Nat.succ)=fun j=>match l[j]? with | some o=>o.dst == some t | none=>false:=by
    funext j; simp
   rw[this];cases (List.range l.length).find? (fun j=>match l[j]? with | some o=>o.dst == some t | none=>false) with
   | none=>rfl
   | some j=>simp; omega
theorem acF (ops:Array Oper) (t:Nat) :vX t 0 ops.toList=ip ops t:=by
 rw[acG];unfold ip;simp only[Array.getElem?_toList,Array.length_toList,Nat.add_zero,Option.map_id_fun',id_eq];congr 1
theorem afE {ms:List Nat} {ops:Array Oper} (h:Hf ms ops=true) :q8 ops (m8 ms) :=by
 unfold Hf at h;rw[Bool.and_eq_true] at h;obtain⟨h,au⟩:=h;have key:∀ (i:Nat) (o:Oper),ops[i]? = some o->_:=fun i o az=>Oi _ 0 h i o (by simpa using az)
 simp only[Nat.zero_add,Bool.and_eq_true] at key;refine⟨fun i o e az aw aj=>?_,fun i o j az aG=>?_,fun i o t az bD=>?_,fun i o t j az aW bx=>?_,au⟩
 ·have:=(key i o az).1.1.2;rw[List.all_eq_true] at this;have:=this e (by simpa using aw);rw[aj] at this;simp only[Bool.not_true,Bool.false_or] at this;simpa [Nat.blt_eq] using this
 ·have:=i9 (key i o az).1.1.1;have fD:xY (ms.getD i 0) j=true:=aG;rw[this] at fD;obtain⟨e,h1,ag⟩:=Hm ms j _ fD;exact⟨e,by simpa using h1,ag⟩
 ·have:=(key i o az).1.2;rw[bD] at this;simp only at this;rw[acF] at this;cases bx:ip ops t with
  | none=>rw[bx] at this; cases this
  | some j=>rw[bx] at this; simp only at this; rw[i9 this]
 ·have:=(key i o az).2;rw[List.all_eq_true] at this;have:=this t aW;rw[acF,bx] at this;simp only[Bool.or_eq_true] at this;rcases this with (h1 | h1) | h1
  ·exact .inl h1
  ·exact .inr (.inl h1)
  ·exact .inr (.inr (i9 h1))
theorem Ds {ms:List Nat}:∀ {l:List Nat},Dr ms l=true->∀ (p bX:Nat) (i j:Nat),l[p]? = some i->l[bX]? = some j->p<bX->i≠j/\m8 ms i j=false
 | [],_,p,bX,i,j,aA,_,_=>by simp at aA
 | x::l,h,p,bX,i,j,aA,am,aS=>by
  simp only[Dr,Bool.and_eq_true,List.all_eq_true] at h;cases bX with
  | zero=>omega
  | succ bX=>
   simp only[List.getElem?_cons_succ] at am;cases p with
   | zero=>
    simp only[List.getElem?_cons_zero,Option.some.injEq] at aA;subst aA;have:=h.1 j (List.mem_of_getElem? am);simp only[Bool.not_eq_true'] at this;refine⟨fun aw=>?_,this.2⟩;subst aw;rw[qI rfl] at this;cases this.1
   | succ p=>
    simp only[List.getElem?_cons_succ] at aA;exact Ds h.2 p bX i j aA am (by omega)
section
variable {P:Program} {G:Nat->ae}
structure aqC (P:Program) (G:Nat->ae) (ops:Array Oper) (e:acZ) :Prop where
 step:uB P G ops ⟨look e.s,e.h⟩ e.t
 pure:∀ i v,e.t=.pure i v->∃ o,ops[i]? = some o/\akc o.op=true/\cW P e.h (cT G (look e.s)) o.op=some (.val v e.h)
theorem DS {ops:Array Oper} {s0:ir} {t:bN} {tr:List bN} (p:Nat) :fR ops s0 (t::tr) (p+1)=fR ops (kw ops s0 t) tr p:=by
 simp[fR]
end
section
variable {P:Program} {G:Nat->ae}
theorem anT (w:World) (R:Nat->Prop) (jS:∀ k,w.heap.size<=k->R k) :b6 R w.heap.size w aR.empty (fun _=>none) where
 blk:=fun b m hm=>by cases hm
 inj:=fun b bu m ck ar=>by rw[By] at ar; cases ar
 base:=fun b m ar=>by rw[By] at ar; cases ar
 fresh:=fun b _=>By b
 up:=jS
 size:=Nat.le_refl _
 jJ:=fun b _=>rfl
theorem Xr (μ:cD) (k:Nat) :¬ ka aR.empty μ k:=by
 rintro⟨b,m,ar,_⟩;rw[By] at ar; cases ar
theorem ND (kq:P.follows .mixedOrders=true) (jt:∀ g,(G g).closed=true) {f:FuncId} {args:List ae} {r:ae} {h' : aR} (aw:da P G (.call f args aR.empty r h'))
  {w:World} {A:Nat->Prop} {vs:Array Value} (ay:∀ g,eN w A (G g) (.pointer (some ⟨g,0,none⟩))) (ar:vs.size=args.length)
  (ax:∀ (j:Nat) (c:ae) (v:Value),args[j]? = some c->vs[j]? = some v->eN w A c v) :
  Calls P f vs w fun e w'=>∃ v μ',e=.returned v/\v6 w w'/\b6 (fun k=>A k\/w.heap.size<=k) w.heap.size w' h' μ'/\aU w' (fun k=>A k\/w.heap.size<=k) h' μ' r v:=by
 have up:∀ {c:ae} {v:Value},eN w A c v->aU w (fun k=>A k\/w.heap.size<=k) aR.empty (fun _=>none) c v:=fun al=>al.up (fun k _ aF=>⟨.inl aF,Xr _ k⟩)
 refine (aoE kq jt aw (fun k=>A k\/w.heap.size<=k) w.heap.size w (fun _=>none) vs (anT w _ fun k aF=>.inr aF) (fun g=>⟨jt g,up (ay g)⟩) ar (fun j c v am eH=>up (ax j c v am eH))).mono ?_;rintro e w' ⟨v,μ',rfl,ex,rel,aD⟩;exact⟨v,μ',rfl,⟨⟨ex.os,ex.tape,ex.output,ex.size,fun k aF=>ex.cM k aF (Xr _ k)⟩,ex.drawn⟩,rel,aD⟩
theorem ao6 (kq:P.follows .mixedOrders=true) (jt:∀ g,(G g).closed=true) {f:FuncId} {args:List ae} {h' : aR} (aw:da P G (.call f args aR.empty (.bool true) h'))
  {w:World} {A:Nat->Prop} {vs:Array Value} (ay:∀ g,eN w A (G g) (.pointer (some ⟨g,0,none⟩))) (ar:vs.size=args.length)
  (ax:∀ (j:Nat) (c:ae) (v:Value),args[j]? = some c->vs[j]? = some v->eN w A c v) :
  Calls P f vs w fun e w'=>e=.returned (.bool true)/\RowKit.Below w.heap.size w w':=by
 refine (ND kq jt aw ay ar ax).mono ?_;rintro e w' ⟨v,μ',rfl,aj,_,aD⟩;cases aD;exact⟨rfl,aj.toBelow⟩
end
section
variable {α:Type}
theorem uc:∀ (k k' : Nat) (t:cu α) (n:Nat) (x:α),n<k->n<k'->t.jd k n x=t.jd k' n x
 | 0,_,_,_,_,h,_=>by omega
 | _+1,0,_,_,_,_,h=>by omega
 | k+1,k'+1,t,n,x,h,h'=>by
  by_cases aO:n=0
  ·subst aO;cases t<;>rfl
  ·have aj:Nat.beq n 0=false:=ij aO;cases t with
   | nil=>
    unfold cu.jd;simp only[aj];rw[uc k k' .nil (n / 2) x (by omega) (by omega),uc k k' .nil (n / 2 - 1) x (by omega) (by omega)]
   | node l v r=>
    unfold cu.jd;simp only[aj];rw[uc k k' l (n / 2) x (by omega) (by omega),uc k k' r (n / 2 - 1) x (by omega) (by omega)]
def cu.lt:cu α->cu α | .nil=>.nil | .node l _ _=>l
def cu.rt:cu α->cu α | .nil=>.nil | .node _ _ r=>r
def cu.mid:cu α->Option α | .nil=>none | .node _ v _=>v
theorem pz (t:cu α) (x:α) :t.set 0 x=.node t.lt (some x) t.rt:=by cases t<;>rfl
theorem lM (t:cu α) (m:Nat) (x:α) :t.set (2*m+1) x=.node (t.lt.set m x) t.mid t.rt:=by
 have h1:Nat.beq (2*m+1) 0=false:=ij (by omega);have ag:Nat.beq ((2*m+1) % 2) 1=true:=qI (by omega);have aq:(2*m+1) / 2=m:=by omega
 cases t with
 | nil=>show cu.jd (2*m+1+1) .nil (2*m+1) x=_; unfold cu.jd; simp only[h1,ag,aq]; rw[uc _ (m+1) _ _ _ (by omega) (by omega)]; rfl
 | node l v r=>show cu.jd (2*m+1+1) (.node l v r) (2*m+1) x=_; unfold cu.jd; simp only[h1,ag,aq]; rw[uc _ (m+1) _ _ _ (by omega) (by omega)]; rfl
theorem lL (t:cu α) (m:Nat) (x:α) :t.set (2*m+2) x=.node t.lt t.mid (t.rt.set m x) :=by
 have h1:Nat.beq (2*m+2) 0=false:=ij (by omega);have ag:Nat.beq ((2*m+2) % 2) 1=false:=ij (by omega);have aq:(2*m+2) / 2 - 1=m:=by omega
 cases t with
 | nil=>show cu.jd (2*m+2+1) .nil (2*m+2) x=_; unfold cu.jd; simp only[h1,ag,aq]; rw[uc _ (m+1) _ _ _ (by omega) (by omega)]; rfl
 | node l v r=>show cu.jd (2*m+2+1) (.node l v r) (2*m+2) x=_; unfold cu.jd; simp only[h1,ag,aq]; rw[uc _ (m+1) _ _ _ (by omega) (by omega)]; rfl
theorem Ka (n:Nat) :n=0\/(∃ m,m<n/\n=2*m+1)\/∃ m,m<n/\n=2*m+2:=by
 rcases Nat.eq_zero_or_pos n with h | h
 ·exact .inl h
 ·rcases Nat.mod_two_eq_zero_or_one n with ag | ag
  ·exact .inr (.inr ⟨n / 2 - 1,by omega,by omega⟩)
  ·exact .inr (.inl ⟨n / 2,by omega,by omega⟩)
theorem aoj (n:Nat) :∀ (t:cu α) (x y:α),(t.set n x).set n y=t.set n y:=by
 induction n using Nat.strongRecOn with
 | _ n aM=>
  intro t x y;rcases Ka n with rfl | ⟨m,hm,rfl⟩ | ⟨m,hm,rfl⟩
  ·rw[pz t x,pz t y,pz]; rfl
  ·rw[lM t,lM t,lM]; simp only[cu.lt,cu.mid,cu.rt,aM m hm]
  ·rw[lL t,lL t,lL]; simp only[cu.lt,cu.mid,cu.rt,aM m hm]
theorem set_comm (n:Nat) :∀ (t:cu α) (k:Nat) (x y:α),n≠k->(t.set n x).set k y=(t.set k y).set n x:=by
 induction n using Nat.strongRecOn with
 | _ n aM=>
  intro t k x y b7;rcases Ka n with rfl | ⟨m,hm,rfl⟩ | ⟨m,hm,rfl⟩<;>rcases Ka k with rfl | ⟨j,am,rfl⟩ | ⟨j,am,rfl⟩
  ·exact absurd rfl b7
  ·rw[pz t,lM,lM t,pz]; rfl
  ·rw[pz t,lL,lL t,pz]; rfl
  ·rw[lM t,pz,pz t,lM]; rfl
  ·rw[lM t,lM,lM t,lM]; simp only[cu.lt,cu.mid,cu.rt]; rw[aM m hm _ j _ _ (by omega)]
  ·rw[lM t,lL,lL t,lM]; rfl
  ·rw[lL t,pz,pz t,lL]; rfl
  ·rw[lL t,lM,lM t,lL]; rfl
  ·rw[lL t,lL,lL t,lL]; simp only[cu.lt,cu.mid,cu.rt]; rw[aM m hm _ j _ _ (by omega)]
end
abbrev av:=List bv
def lv:Nat->cu bv->av->cu bv
 | _,t,[]=>t
 | i,t,c::cs=>lv (i+1) (t.set i c) cs
def bY (l:av) :aR:=⟨l.length,lv 0 .nil l⟩
@[simp] theorem AV (l:av) :(bY l).n=l.length:=rfl
theorem Uq:∀ (l:av) (i:Nat) (t:cu bv) (c:bv),lv i t (l++[c])=(lv i t l).set (i+l.length) c
 | [],i,t,c=>rfl
 | x::l,i,t,c=>by
  simp only[List.cons_append,lv,List.length_cons];rw[Uq l,show i+1+l.length=i+(l.length+1) by omega]
theorem lQ (l:av) (c:bv) :(bY l).push c=bY (l++[c]) :=by
 unfold bY aR.push;rw[Uq];simp
theorem Ut:∀ (l:av) (i j:Nat) (t:cu bv) (c:bv),i<j->(lv j t l).set i c=lv j (t.set i c) l
 | [],_,_,_,_,_=>rfl
 | x::l,i,j,t,c,h=>by
  simp only[lv];rw[Ut l i (j+1) _ c (by omega),set_comm j t i x c (by omega)]
theorem Us:∀ (l:av) (i b:Nat) (t:cu bv) (c:bv),b<l.length->(lv i t l).set (i+b) c=lv i t (l.set b c)
 | [],_,_,_,_,h=>by simp at h
 | x::l,i,0,t,c,_=>by
  simp only[lv,List.set_cons_zero,Nat.add_zero];rw[Ut l i (i+1) _ c (by omega),aoj]
 | x::l,i,b+1,t,c,h=>by
  simp only[lv,List.set_cons_succ];rw[<-Us l (i+1) b _ c (by simpa using h),show i+(b+1)=i+1+b by omega]
theorem nq {l:av} {b:Nat} (c:bv) (h:b<l.length) :(bY l).set b c=bY (l.set b c) :=by
 unfold bY aR.set;have:=Us l 0 b .nil c h;rw[Nat.zero_add] at this;simp only[this,List.length_set]
theorem Ur:∀ (l:av) (i:Nat) (t:cu bv) (b:Nat),(lv i t l).get b=if i<=b/\b<i+l.length then l[b - i]? else t.get b
 | [],i,t,b=>by simp only[lv,List.length_nil]; rw[if_neg (by omega)]
 | x::l,i,t,b=>by
  simp only[lv,List.length_cons];rw[Ur l,cu.BI];by_cases h1:i+1<=b/\b<i+1+l.length
  ·rw[if_pos h1,if_pos (by omega),show b - i=(b - (i+1))+1 by omega,List.getElem?_cons_succ]
  ·rw[if_neg h1];by_cases ag:b=i
   ·subst ag; rw[if_pos rfl,if_pos (by omega)]; simp
   ·rw[if_neg ag,if_neg (by omega)]
theorem np (l:av) (b:Nat) :(bY l).f b=match l[b]? with | some c=>c | none=>.none:=by
 unfold bY aR.f;simp only[Ur,Nat.zero_le,true_and,Nat.zero_add,Nat.sub_zero];by_cases h:b<l.length
 ·rw[if_pos h]; cases l[b]?<;>rfl
 ·rw[if_neg h,List.getElem?_eq_none (by omega)]; rfl
theorem oB {l:av} {b n:Nat} {cs:List ae}:(bY l).f b=.cells n cs<->l[b]? = some (.cells n cs) :=by
 rw[np];cases h:l[b]? with
 | none=>simp
 | some c=>simp
theorem fi {l:av} {b:Nat} {c:bv} (h:l[b]? = some c) :b<l.length:=(List.getElem?_eq_some_iff.1 h).1
def d1 (l:av) :ae->Option (List ae × Nat)
 | .ptr b off sz=>match l[b]? with
  | some (.cells n cs)=>if n=sz then some (cs,off) else none
  | _=>none
 | .cp cs off=>some (cs,off)
 | _=>none
def qO (n:Nat) (cs:List ae) (off:Nat) :Option ae:=if off+n<=cs.length then some (.aV ((cs.drop off).take n)) else none
def je (n:Nat) (l:av) (p v:ae) :Option av:=
 match p,v.cells with
 | .ptr b off sz,some vs=>match l[b]? with
  | some (.cells m cs)=>if m=sz/\vs.length=n/\off+n<=m then some (l.set b (.cells m (bU cs off vs))) else none
  | _=>none
 | _,_=>none
def dj (l:av) (z:Nat) :ae->Option (List ae × Nat)
 | .aZ=>some ([],0)
 | .bW c9 es=>if z=c9 then some (es.flatten,es.length) else none
 | .ao c9 b off len _ sz=>match l[b]? with
  | some (.cells n cs)=>if n=sz/\z=c9 then some ((cs.drop off).take (len*z),len) else none
  | _=>none
 | .str s=>if z=1 then some (s.map hL,s.length) else none
 | _=>none
def hK (l:av) (z by_:Nat) (s:ae) (xs:List ae) (n:Nat) :Option (ae × av) :=
 if n=0 then (match s with | .aZ | .bW .. | .ao ..=>some (s,l) | _=>none)
 else if z=0\/by_=0 then none else match s with
  | .aZ=>if n*by_<=cQ then some (.ao z l.length 0 n n (n*z),l++[.cells (n*z) xs]) else none
  | .ao c9 b off len cap sz=>match l[b]? with
   | some (.cells m cs)=>
    if m=sz/\z=c9/\(len+n)*by_<=cQ then
     if len+n<=cap then some (.ao z b off (len+n) cap sz,l.set b (.cells m (bU cs (off+len*z) xs)))
     else if off+cap*z<sz then some (.ao z l.length 0 (len+n) (len+n) ((len+n)*z),l++[.cells ((len+n)*z) ((cs.drop off).take (len*z)++xs)])
     else if off=0 then some (.ao z b 0 (len+n) (len+n) ((len+n)*z),l.set b (.cells ((len+n)*z) (cs.take (len*z)++xs)))
     else some (.ao z l.length 0 (len+n) (len+n) ((len+n)*z),l.set b .dead++[.cells ((len+n)*z) ((cs.drop off).take (len*z)++xs)])
    else none
   | _=>none
  | _=>none
def ws (z:Nat) (l:av) (d x:ae) :Option (ae × av) :=
 match dj l z x with
 | none=>none
 | some (xs,n)=>match d with
  | .aZ=>some (.int .i64 0,l)
  | .ao c9 b off len _ sz=>match l[b]? with
   | some (.cells m cs)=>if m=sz/\z=c9 then some (.int .i64 ((min n len:Nat) :Int),l.set b (.cells m (bU cs off (xs.take (min n len*z))))) else none
   | _=>none
  | _=>none
def qE (l:av) :ae->Option (List (ae × ae × Nat))
 | .gG=>some []
 | .mp b=>match l[b]? with | some (.map es _)=>some es | _=>none
 | _=>none
def mw (l:av) (x:ae) :Option (List UInt8) :=match x with
 | .str s=>some s
 | x=>match dj l 1 x with
  | some (cs,_)=>lh cs
  | none=>none
def cmpL (l:av) (x y:ae) :Option ae:=match mw l x,mw l y with
 | some a,some b=>some (.int .i64 (lT a b))
 | _,_=>none
def sg (l:av) (x:ae) :Option (ae × av) :=match x with
 | .it b=>match l[b]? with
  | some (.iter s pos)=>match Nat.blt pos s.length with
   | true=>some (.bP [.bool true,.int .i64 pos,.int .i32 (Utf8.decode ⟨s.toArray⟩ pos).1],l.set b (.iter s (pos+(Utf8.decode ⟨s.toArray⟩ pos).2)))
   | false=>some (.bP [.bool false],l)
  | _=>none
 | _=>none
def xN (l:av) (x:ae) :Option (ae × av) :=match x with
 | .str s=>some (.it l.length,l++[.iter s 0])
 | _=>none
def zY (l:av) (x:ae) :Option ae:=match x with
 | .gG=>some (.int .i64 0)
 | .mp b=>match l[b]? with | some (.map es _)=>some (.int .i64 es.length) | _=>none
 | _=>none
def pW (zero:List ae) (l:av) :ae->Option av
 | .aZ=>some l
 | .bW _ []=>some l
 | .ao z b off len _ sz=>if len=0 then some l else match l[b]? with
  | some (.cells m cs)=>if m=sz/\zero.length=z then some (l.set b (.cells m (bU cs off (dd zero len)))) else none
  | _=>none
 | _=>none
theorem MT (l:av) (p:ae) :reach (bY l) p=d1 l p:=by
 cases p<;>try rfl
 rename_i b off sz;simp only[reach,d1,np];cases l[b]? with
 | none=>rfl
 | some c=>cases c<;>rfl
theorem yI (l:av) (z:Nat) (x:ae) :contents (bY l) z x=dj l z x:=by
 cases x<;>try rfl
 rename_i c9 b off len cap sz;simp only[contents,dj,np];cases l[b]? with
 | none=>rfl
 | some c=>cases c<;>rfl
section
variable (P:Program)
inductive iu where
 | arr (n z:Nat)
 | ao (z:Nat)
 | str
 deriving DecidableEq
def ng (t:TypeId) :Option iu:=match P.underlying t with
 | some (.array n e)=>(cr P e).map fun z=>.arr n z
 | some (.slice e)=>(cr P e).map fun z=>.ao z
 | some .string=>some .str
 | _=>none
inductive a2 where
 | ap (x:Operand)
 | pick (c a b:Operand)
 | alloc (zero:List ae)
 | box (x:Operand)
 | dW (zero:List ae) (cy:List (Nat × Nat × Operand))
 | cL (z:Nat) (zero:List ae) (len:Nat) (cy:List (Nat × Operand))
 | ld1 (a:Operand)
 | aX (n:Nat) (a:Operand)
 | st (n:Nat) (a x:Operand)
 | lG (x:Operand)
 | bin (o:BinOp) (t:TypeId) (x y:Operand)
 | un (o:UnOp) (x:Operand)
 | ct (k:IntKind) (x:Operand)
 | wt (x:Operand)
 | rq (x:Operand)
 | pY (x:Operand)
 | se (t:TypeId) (x:Operand)
 | xW (t:TypeId) (z:ae) (ok:Bool) (x:Operand)
 | pm (f:FuncId) (first e6:List Operand)
 | kZ (z by_:Nat) (zero:List ae) (l c:Operand)
 | slice (c6:iu) (x:Operand) (cP aA cB:Option Operand)
 | aN (off:Nat) (x:Operand)
 | wE (off:Nat) (x:Operand)
 | wF (n off:Nat) (x:Operand)
 | bf (c6:iu) (x i:Operand)
 | vt (n z:Nat) (x i:Operand)
 | zR (n z:Nat) (x i:Operand)
 | pb (x i:Operand)
 | ext (x:Operand) (i:Nat)
 | len (c6:iu) (x:Operand)
 | cap (c6:iu) (x:Operand)
 | app (z by_:Nat) (s x:Operand)
 | pQ (z by_:Nat) (zero:List ae) (s x:Operand)
 | s2 (z:Nat) (d x:Operand)
 | oH (zero:List ae) (x:Operand)
 | min (x y:Operand)
 | max (x y:Operand)
 | pn (x:Option Operand)
 | sa (cK:TypeId) (zero:ae) (ok:Bool) (m k:Operand)
 | qG (cK:TypeId) (m k x:Operand)
 | tN (x:Operand)
 | sr (x:Operand)
 | sh (x:Operand)
 | cG (f:FuncId) (p3 x y:Operand)
 | stop
def tO (l:av) (cK:TypeId) (zero:ae) (ok:Bool) (m k:ae) :Option ae:=
 match qE l m with
 | some es=>match jI P cK k with
  | false=>none
  | true=>match ia P cK k es 0 with
   | some (some (_,v))=>some (if ok then .bP [v,.bool true] else v)
   | some none=>some (if ok then .bP [zero,.bool false] else zero)
   | none=>none
 | none=>none
def qF (l:av) (cK:TypeId) (m k v:ae) :Option av:=
 match m with
 | .mp b=>match l[b]? with
  | some (.map es dX)=>match jI P cK k with
   | false=>none
   | true=>match ia P cK k es 0 with
    | some (some (i,_))=>some (l.set b (.map (es.modify i fun e=>(k,v,e.2.2)) dX))
    | some none=>some (l.set b (.map (es++[(k,v,dX)]) (dX+1)))
    | none=>none
  | _=>none
 | _=>none
def zP (f:FuncId) :ae->Bool | .fn g [] []=>Nat.beq g f | _=>false
def Ah (c a b:ae) :Option ae:=match c with | .bool t=>some (if t then a else b) | _=>none
def vB (x:ae) :Option ae:=match x with | .ptr b o s=>some (.ptr b o s) | .cp c o=>some (.cp c o) | .fn f a b=>some (.fn f a b) | _=>none
def nA (zero:List ae) :List (Nat × Nat × ae)->Option (List ae)
 | []=>some zero
 | (off,size,v) ::r=>match v.cells with
  | some vs=>if vs.length=size/\off+size<=zero.length then nA (bU zero off vs) r else none
  | none=>none
def yB (k:IntKind) :ae->Option ae | .int _ n=>some (.int k (k.wrap n)) | _=>none
def Bs:ae->Option ae | .str s=>some (.str s) | _=>none
def sU (l:av) (x:ae) :Option ae:=match x with
 | .aZ=>some (.str [])
 | .str _=>none
 | x=>match dj l 1 x with | some (cs,_)=>(lh cs).map .str | none=>none
def s3:ae->Option ae | .str s=>some (.bW 1 (s.map fun b=>[hL b])) | _=>none
def po (z by_:Nat) (zero:List ae) (ar:av) (l c:ae) :Option (ae × av) :=match l,c with
 | .int _ l,.int _ c=>if 0<=l/\l<=c/\c<9223372036854775808/\by_*c<=cQ then
   some (.ao z ar.length 0 l.toNat c.toNat (c.toNat*z),ar++[.cells (c.toNat*z) (dd zero c.toNat)]) else none
 | _,_=>none
def fu (c6:iu) (x:ae) (cP aA cB:Option ae) :Option ae:=
 match c6 with
 | .arr n z=>match fH n n cP aA cB with
  | some (l,aQ,m)=>match x with
   | .ptr b off sz=>if off+m*z<=sz then (if m=l then some (.bW z []) else some (.ao z b (off+l*z) (aQ - l) (m - l) sz)) else none
   | .cp cs off=>if off+n*z<=cs.length then some (.bW z (kf z (aQ - l) (cs.drop (off+l*z)))) else none
   | _=>none
  | none=>none
 | .ao z=>match x with
  | .ao c9 b off len cap sz=>if z=c9 then (fH len cap cP aA cB).map fun (l,aQ,m)=>if m=l then .ao z b (off+l*z) 0 0 sz else .ao z b (off+l*z) (aQ - l) (m - l) sz else none
  | .bW c9 es=>if z=c9 then (fH es.length es.length cP aA cB).map fun (l,aQ,_)=>.bW z ((es.drop l).take (aQ - l)) else none
  | .aZ=>(fH 0 0 cP aA cB).map fun _=>.aZ
  | _=>none
 | .str=>match x,cB with
  | .str s,none=>(fH s.length s.length cP aA none).map fun (l,aQ,_)=>.str ((s.drop l).take (aQ - l))
  | _,_=>none
def yT (off:Nat) :ae->Option ae | .aV cs=>cs[off]? | _=>none
def wG (n off:Nat) :ae->Option ae | .aV cs=>qO n cs off | _=>none
def cU (c6:iu) (x he:ae) :Option ae:=
 match he with
 | .int _ i=>match c6 with
  | .arr n z=>if 0<=i/\i<n then lS x (i.toNat*z) else none
  | .ao z=>match x with
   | .ao c9 b off len _ sz=>if z=c9/\0<=i/\i<len then some (.ptr b (off+i.toNat*z) sz) else none
   | .bW c9 es=>if z=c9/\0<=i then (es[i.toNat]?).map fun cs=>.cp cs 0 else none
   | _=>none
  | .str=>none
 | _=>none
def zS (n z:Nat) (x he:ae) :Option ae:=match x,he with
 | .aV cs,.int _ i=>if 0<=i/\i<n then cs[i.toNat*z]? else none
 | _,_=>none
def zT (n z:Nat) (x he:ae) :Option ae:=match x,he with
 | .aV cs,.int _ i=>if 0<=i/\i<n then qO z cs (i.toNat*z) else none
 | _,_=>none
def vu (x he:ae) :Option ae:=match x,he with
 | .str s,.int _ i=>if 0<=i then (s[i.toNat]?).map hL else none
 | _,_=>none
def yS (x:ae) (i:Nat) :Option ae:=match x with | .bP vs=>vs[i]? | _=>none
def db (c6:iu) (x:ae) :Option ae:=match c6 with
 | .arr n _=>some (.int .i64 n)
 | .ao _=>match x with
  | .aZ=>some (.int .i64 0)
  | .ao _ _ _ len _ _=>some (.int .i64 len)
  | .bW _ es=>some (.int .i64 es.length)
  | _=>none
 | .str=>match x with | .str s=>some (.int .i64 s.length) | _=>none
def rp (c6:iu) (x:ae) :Option ae:=match c6 with
 | .arr n _=>some (.int .i64 n)
 | .ao _=>match x with | .aZ=>some (.int .i64 0) | _=>none
 | .str=>none
def iR (l:av) (z by_:Nat) (s x:ae) :Option (ae × av) :=match dj l z x with
 | none=>none
 | some (xs,n)=>hK l z by_ s xs n
def oF (l:av) (z by_:Nat) (zero:List ae) (s x:ae) :Option (ae × av) :=match x with
 | .int _ n=>if 0<=n/\n<9223372036854775808/\n.toNat*by_<=cQ then hK l z by_ s (dd zero n.toNat) n.toNat else none
 | _=>none
def dg (l:av) (x:Option ae) :Option (ae × av) :=x.map fun v=>(v,l)
def bR (aB:Operand->ae) (l:av) :a2->Option (ae × av)
 | .ap x=>some (aB x,l)
 | .pick c a b=>dg l (Ah (aB c) (aB a) (aB b))
 | .alloc zero=>some (.ptr l.length 0 zero.length,l++[.cells zero.length zero])
 | .box x=>(aB x).cells.map fun cs=>(.ptr l.length 0 cs.length,l++[.cells cs.length cs])
 | .dW zero cy=>dg l ((nA zero (cy.map fun p=>(p.1,p.2.1,aB p.2.2))).map .aV)
 | .cL z zero len cy=>(gB (fun i=>some (i*z,z)) (dd zero len) (cy.map fun p=>(p.1,aB p.2))).map fun cs=>(.ao z l.length 0 len len (len*z),l++[.cells (len*z) cs])
 | .ld1 a=>dg l ((d1 l (aB a)).bind fun x=>x.1[x.2]?)
 | .aX n a=>dg l ((d1 l (aB a)).bind fun x=>qO n x.1 x.2)
 | .st n a x=>(je n l (aB a) (aB x)).map fun l'=>(gp,l')
 | .lG x=>dg l (vB (aB x))
 | .bin o t x y=>dg l (fw P o t (aB x) (aB y))
 | .un o x=>dg l (ot o (aB x))
 | .ct k x=>dg l (yB k (aB x))
 | .wt x=>dg l (Bs (aB x))
 | .rq x=>dg l (sU l (aB x))
 | .pY x=>dg l (s3 (aB x))
 | .se t x=>some (.fK t (aB x),l)
 | .xW t z ok x=>dg l (xX t z ok (aB x))
 | .pm f a b=>some (.fn f (a.map aB) (b.map aB),l)
 | .kZ z by_ zero a c=>po z by_ zero l (aB a) (aB c)
 | .slice c6 x cP aA cB=>dg l (fu c6 (aB x) (cP.map aB) (aA.map aB) (cB.map aB))
 | .aN off x=>dg l (lS (aB x) off)
 | .wE off x=>dg l (yT off (aB x))
 | .wF n off x=>dg l (wG n off (aB x))
 | .bf c6 x i=>dg l (cU c6 (aB x) (aB i))
 | .vt n z x i=>dg l (zS n z (aB x) (aB i))
 | .zR n z x i=>dg l (zT n z (aB x) (aB i))
 | .pb x i=>dg l (vu (aB x) (aB i))
 | .ext x i=>dg l (yS (aB x) i)
 | .len c6 x=>dg l (db c6 (aB x))
 | .cap c6 x=>dg l (rp c6 (aB x))
 | .app z by_ s x=>iR l z by_ (aB s) (aB x)
 | .pQ z by_ zero s x=>oF l z by_ zero (aB s) (aB x)
 | .s2 z d x=>ws z l (aB d) (aB x)
 | .oH zero x=>(pW zero l (aB x)).map fun l'=>(.bP [],l')
 | .min x y=>dg l (xw (aB x) (aB y))
 | .max x y=>dg l (sd (aB x) (aB y))
 | .pn x=>match x with
  | none=>some (.mp l.length,l++[.map [] 0])
  | some o=>match asInt (aB o) with | some _=>some (.mp l.length,l++[.map [] 0]) | none=>none
 | .sa cK zero ok m k=>dg l (tO P l cK zero ok (aB m) (aB k))
 | .qG cK m k x=>(qF P l cK (aB m) (aB k) (aB x)).map fun l'=>(gp,l')
 | .tN x=>dg l (zY l (aB x))
 | .sr x=>xN l (aB x)
 | .sh x=>sg l (aB x)
 | .cG f p3 x y=>match zP f (aB p3) with | true=>dg l (cmpL l (aB x) (aB y)) | false=>none
 | .stop=>none
def EK (t:TypeId) (cy:List (Nat × Operand)) :Option (List (Nat × Nat × Operand)) :=
 match P.underlying t with
 | some (.struct fs)=>if fs.toList.all fun f=>(cr P f.type).isSome then cy.mapM fun p=>(Ai P fs p.1).map fun q=>(q.1,q.2,p.2) else none
 | some (.array _ e)=>(cr P e).map fun n=>cy.map fun p=>(p.1*n,n,p.2)
 | _=>none
def sY (b:Builtin) (ts:List TypeId) (args:List Operand) :Option a2:=
 match b,ts,args with
 | .len,[t],[x]=>match P.underlying t with
  | some (.map _ _)=>some (.tN x)
  | _=>(ng P t).map fun c6=>.len c6 x
 | .cap,[t],[x]=>(ng P t).map fun c6=>.cap c6 x
 | .append,[t,u],[s,x]=>match P.underlying u with
  | some (.int _)=>(hl P t).bind fun e=>(cr P e).bind fun z=>(iT P e).bind fun by_=>(gH P e).bind fun zero=>
    if zero.length=z/\q6 P e=some z then some (.pQ z by_ zero s x) else none
  | none=>none
  | _=>(hl P t).bind fun e=>(cr P e).bind fun z=>(iT P e).bind fun by_=>if q6 P e=some z then some (.app z by_ s x) else none
 | .copy,[t,_],[d,x]=>(hl P t).bind fun e=>(cr P e).map fun z=>.s2 z d x
 | .clear,[t],[x]=>match P.underlying t with
  | some (.slice e)=>(gH P e).map fun zero=>.oH zero x
  | _=>none
 | .min,_,[x,y]=>some (.min x y)
 | .max,_,[x,y]=>some (.max x y)
 | _,_,_=>none
def lU:Op->Option a2
 | .move x | .assign x=>some (.ap x)
 | .pick c a b=>some (.pick c a b)
 | .alloc t=>(gH P t).map .alloc
 | .box _ x=>some (.box x)
 | .build t cy=>(gH P t).bind fun zero=>(EK P t cy.toList).map fun q=>.dW zero q
 | .buildSlice t len cy=>(hl P t).bind fun e=>(cr P e).bind fun z=>(gH P e).bind fun zero=>
   if zero.length=z/\len*z<=16777216 then some (.cL z zero len cy.toList) else none
 | .load t a=>match dC P t,cr P t with
  | some true,some n=>some (.aX n a)
  | some false,_=>some (.ld1 a)
  | _,_=>none
 | .store t a x=>(cr P t).map fun n=>.st n a x
 | .nilCheck x=>some (.lG x)
 | .binOp o t x y _=>some (.bin o t x y)
 | .unOp o _ x=>some (.un o x)
 | .convert s d x=>match P.underlying s,P.underlying d with
  | some _,some (.int k)=>some (.ct k x)
  | some (.slice e),some .string=>match P.underlying e with
   | some (.int .u8)=>some (.rq x)
   | _=>none
  | some .string,some .string=>some (.wt x)
  | some .string,some (.slice e)=>match P.underlying e with
   | some (.int .u8)=>some (.pY x)
   | _=>none
  | _,_=>none
 | .makeInterface t x=>match P.underlying t with
  | some (.interface _) | none=>none
  | _=>some (.se t x)
 | .makeFunc (.func f) a b=>some (.pm f a.toList b.toList)
 | .makeSlice t l c=>(hl P t).bind fun e=>(cr P e).bind fun z=>(iT P e).bind fun by_=>(gH P e).bind fun zero=>
   if zero.length=z then some (.kZ z by_ zero l c) else none
 | .slice t x cP aA cB=>(ng P t).map fun c6=>.slice c6 x cP aA cB
 | .fieldAddr s x f=>(uP P s f).bind fun fd=>match cr P fd.type with
  | some (_+1)=>some (.aN fd.offset x)
  | _=>none
 | .field t x f=>(uP P t f).bind fun fd=>match dC P fd.type,cr P fd.type with
  | some true,some n=>some (.wF n fd.offset x)
  | some false,_=>some (.wE fd.offset x)
  | _,_=>none
 | .indexAddr t x i=>match ng P t with
  | some (.arr n z)=>some (.bf (.arr n z) x i)
  | some (.ao z)=>some (.bf (.ao z) x i)
  | _=>none
 | .index t x i=>match P.underlying t with
  | some (.array n e)=>match cr P e,dC P e with
   | some z,some true=>some (.zR n z x i)
   | some z,some false=>some (.vt n z x i)
   | _,_=>none
  | some .string=>some (.pb x i)
  | _=>none
 | .extract x i=>some (.ext x i)
 | .call c=>match c.callee with
  | .builtin b=>sY P b c.argTypes.toList c.args.toList
  | .value (.func f)=>match P.funcs[f]?,c.args.toList with
   | some fn,[x,y]=>if zO fn then some (.cG f (.func f) x y) else none
   | _,_=>none
  | _=>none
 | .makeMap t r=>match P.underlying t with | some (.map _ _)=>some (.pn r) | _=>none
 | .lookup t m k ok=>match P.underlying t with | some (.map cK kK)=>(v1 P kK).map fun z=>.sa cK z ok m k | _=>none
 | .mapUpdate t m k x | .insert t m k x=>match P.underlying t with | some (.map cK _)=>some (.qG cK m k x) | _=>none
 | .range t x=>match P.underlying t with | some .string=>some (.sr x) | _=>none
 | .next it true=>some (.sh it)
 | .panic _=>some .stop
 | .typeAssert x _ t ok=>(D0 P t).map fun z=>.xW t z ok x
 | _=>none
end
section
variable {P:Program}
theorem bind_some {α iq:Type} {x:Option α} {f:α->Option iq} {y:iq}:x.bind f=some y<->∃ a,x=some a/\f a=some y:=by cases x<;>simp
theorem map_some {α iq:Type} {x:Option α} {f:α->iq} {y:iq}:x.map f=some y<->∃ a,x=some a/\f a=y:=by cases x<;>simp
theorem ft {l l' : av} {x:Option ae} {v:ae}:dg l x=some (v,l')<->x=some v/\l'=l:=by cases x<;>simp[dg,eq_comm]
theorem hd {α:Type} {p:Prop} [Decidable p] {x y:α}:(if p then some x else none)=some y<->p/\x=y:=by by_cases p<;>simp_all
theorem Ox {l l' : av} {e z by_ n:Nat} {s v:ae} {xs:List ae} (aC:q6 P e=some z) (h:hK l z by_ s xs n=some (v,l')) :sL P (bY l) e z by_ s xs n=some (v,bY l') :=by
 unfold hK at h;unfold sL;by_cases aH:n=0
 ·rw[if_pos aH] at h ⊢;cases s<;>simp at h ⊢<;>simp[h]
 ·rw[if_neg aH] at h ⊢;by_cases aO:z=0\/by_=0
  ·rw[if_pos aO] at h; cases h
  ·rw[if_neg aO] at h;rw[if_neg (by simp only[aC]; simpa using aO)];cases s<;>simp only at h ⊢<;>try (cases h; done)
   case aZ=>
    by_cases aD:n*by_<=cQ
    ·rw[if_pos aD] at h ⊢; cases h; rw[lQ]; rfl
    ·rw[if_neg aD] at h; cases h
   case ao c9 b off len cap sz=>
    cases aj:l[b]? with
    | none=>rw[aj] at h; cases h
    | some c=>
     cases c<;>rw[aj] at h<;>(try simp only at h)<;>try (cases h; done)
     rename_i m cs;rw[oB.2 aj];simp only;by_cases h1:m=sz/\z=c9/\(len+n)*by_<=cQ
     ·rw[if_pos h1] at h ⊢;by_cases ag:len+n<=cap
      ·rw[if_pos ag] at h ⊢; cases h; rw[nq _ (fi aj)]
      ·rw[if_neg ag] at h ⊢;by_cases aq:off+cap*z<sz
       ·rw[if_pos aq] at h ⊢; cases h; rw[lQ]; rfl
       ·rw[if_neg aq] at h ⊢;by_cases aK:off=0
        ·rw[if_pos aK] at h ⊢; cases h; rw[nq _ (fi aj)]
        ·rw[if_neg aK] at h ⊢; cases h;rw[nq _ (fi aj),lQ]; rfl
     ·rw[if_neg h1] at h; cases h
theorem adY {t:TypeId} {cy:List (Nat × Operand)} {q:List (Nat × Nat × Operand)} (bp:EK P t cy=some q) (aB:Operand->ae) (zero:List ae) (aC:gH P t=some zero) {cs:List ae}
  (aj:nA zero (q.map fun p=>(p.1,p.2.1,aB p.2.2))=some cs) :yr P t (cy.map fun p=>(p.1,aB p.2))=some (.aV cs) :=by
 have fill:∀ (jL:Nat->Option (Nat × Nat)) (cy:List (Nat × Operand)) (q:List (Nat × Nat × Operand)) (zero:List ae),
   (cy.mapM fun p=>(jL p.1).map fun q=>(q.1,q.2,p.2))=some q->nA zero (q.map fun p=>(p.1,p.2.1,aB p.2.2))=some cs->gB jL zero (cy.map fun p=>(p.1,aB p.2))=some cs:=by
  intro jL cy
  induction cy with
  | nil=>intro q zero h1 ag; simp at h1; subst h1; simpa [nA,gB] using ag
  | cons p cy aM=>
   intro q zero h1 ag;rw[List.mapM_cons] at h1;simp only[Option.bind_eq_bind,bind_some,map_some,Option.pure_def,Option.some.injEq] at h1;obtain⟨a,⟨en,aq,rfl⟩,eU,aK,rfl⟩:=h1;simp only[List.map_cons,nA,gB,aq] at ag ⊢;split at ag
   ·rename_i vs ax;simp only[ax];split at ag
    ·rename_i bg;rw[if_pos bg];exact aM _ _ aK ag
    ·cases ag
   ·cases ag
 unfold EK at bp;unfold yr;split at bp
 ·rename_i fs aL;rw[aC,aL];simp only;split at bp
  ·rename_i eS;rw[if_neg (by simp[eS])];rw[fill _ _ _ _ bp aj]; rfl
  ·cases bp
 ·rename_i n e aL;rw[map_some] at bp;obtain⟨f3,h1,rfl⟩:=bp;rw[aC,aL];simp only[h1];rw[fill (fun i=>some (i*f3,f3)) cy _ zero ?_ aj]; rfl;clear aj
  induction cy with
  | nil=>rfl
  | cons p cy aM=>rw[List.mapM_cons,aM]; rfl
 ·cases bp
theorem aop {t:TypeId} {c6:iu} (aW:ng P t=some c6) (x:ae) (cP aA cB:Option ae) :fu c6 x cP aA cB=AD P t x cP aA cB:=by
 unfold ng at aW;unfold AD;split at aW
 ·rename_i n e aL;rw[map_some] at aW;obtain⟨z,h1,rfl⟩:=aW;rw[aL]; simp only[h1,fu];cases fH n n cP aA cB<;>rfl
 ·rename_i e aL;rw[map_some] at aW;obtain⟨z,h1,rfl⟩:=aW;rw[aL]; simp only[h1,fu];cases x<;>rfl
 ·rename_i aL;cases aW;rw[aL]; simp only[fu];cases x<;>cases cB<;>rfl
 ·cases aW
theorem ak8 {t:TypeId} {c6:iu} (aW:ng P t=some c6) {x v:ae} (h:db c6 x=some v) :vw P t x=some v:=by
 unfold ng at aW;unfold vw;split at aW
 ·rename_i n e aL;rw[map_some] at aW;obtain⟨z,h1,rfl⟩:=aW;rw[aL]; simpa [db] using h
 ·rename_i e aL;rw[map_some] at aW;obtain⟨z,h1,rfl⟩:=aW;rw[aL]; unfold db at h; cases x<;>simp_all
 ·rename_i aL;cases aW;rw[aL]; unfold db at h; cases x<;>simp_all
 ·cases aW
theorem aeW {t:TypeId} {c6:iu} (aW:ng P t=some c6) {x v:ae} (h:rp c6 x=some v) :wm P t x=some v:=by
 unfold ng at aW;unfold wm;split at aW
 ·rename_i n e aL;rw[map_some] at aW;obtain⟨z,h1,rfl⟩:=aW;rw[aL]; simpa [rp] using h
 ·rename_i e aL;rw[map_some] at aW;obtain⟨z,h1,rfl⟩:=aW;rw[aL]; unfold rp at h; cases x<;>simp_all
 ·rename_i aL;cases aW;rw[aL]; unfold rp at h; cases x<;>simp_all
 ·cases aW
theorem Vm {t:TypeId} {c6:iu} (aW:ng P t=some c6) {x i v:ae} (h:cU c6 x i=some v) :zM P t x i=some v:=by
 unfold ng at aW;unfold zM;unfold cU at h;cases i<;>(try simp only at h)<;>try (cases h; done)
 rename_i k i;split at aW
 ·rename_i n e aL;rw[map_some] at aW;obtain⟨z,h1,rfl⟩:=aW;rw[aL]; simpa [asInt,h1] using h
 ·rename_i e aL;rw[map_some] at aW;obtain⟨z,h1,rfl⟩:=aW;rw[aL]; simp only[asInt,h1]; simp only at h;cases x<;>simp only at h ⊢<;>first | exact h | cases h
 ·rename_i aL;cases aW;simp only at h;cases h
 ·cases aW
theorem aoQ {t:TypeId} {n:Nat} (au:cr P t=some n) {l l' : av} {p v:ae} (h:je n l p v=some l') :xV P (bY l) t p v=some (bY l') :=by
 unfold je at h;unfold xV;cases p<;>(try simp only at h)<;>try (cases h; done)
 rename_i b off sz;cases ax:v.cells with
 | none=>rw[ax] at h; cases h
 | some vs=>
  rw[ax] at h;simp only[au] at h ⊢;cases aj:l[b]? with
  | none=>rw[aj] at h; cases h
  | some c=>
   cases c<;>rw[aj] at h<;>(try simp only at h)<;>try (cases h; done)
   rename_i m cs;rw[oB.2 aj];simp only;rw[hd] at h;obtain⟨h1,rfl⟩:=h;rw[if_pos h1,nq _ (fi aj)]
theorem afp {t e:TypeId} {z:Nat} (aw:hl P t=some e) (au:cr P e=some z) {l l' : av} {d x v:ae} (h:ws z l d x=some (v,l')) :wr P (bY l) t d x=some (v,bY l') :=by
 unfold ws at h;unfold wr;rw[aw]; simp only[au,yI];cases al:dj l z x with
 | none=>rw[al] at h; cases h
 | some p=>
  obtain⟨xs,n⟩:=p;rw[al] at h;simp only at h ⊢;cases d<;>simp only at h ⊢<;>try (cases h; done)
  case aZ=>cases h; rfl
  case ao c9 b off len cap sz=>
   cases aj:l[b]? with
   | none=>rw[aj] at h; cases h
   | some c=>
    cases c<;>rw[aj] at h<;>(try simp only at h)<;>try (cases h; done)
    rename_i m cs;rw[oB.2 aj];simp only;rw[hd] at h;obtain⟨h1,ag⟩:=h;cases ag;rw[if_pos h1,nq _ (fi aj)]
theorem ae9 {t e:TypeId} {zero:List ae} (aL:P.underlying t=some (.slice e)) (aC:gH P e=some zero) {l l' : av} {x:ae} (h:pW zero l x=some l') :wo P (bY l) t x=some (bY l') :=by
 unfold pW at h;unfold wo;rw[aL];cases x<;>(try simp only at h)<;>try (cases h; done)
 case aZ=>cases h; rfl
 case bW z es=>cases es<;>simp only at h<;>cases h; rfl
 case ao z b off len cap sz=>
  simp only;by_cases aO:len=0
  ·rw[if_pos aO] at h ⊢; cases h; rfl
  ·rw[if_neg aO] at h ⊢;rw[aC];cases aj:l[b]? with
   | none=>rw[aj] at h; cases h
   | some c=>
    cases c<;>rw[aj] at h<;>(try simp only at h)<;>try (cases h; done)
    rename_i m cs;rw[oB.2 aj];simp only;rw[hd] at h;obtain⟨h1,rfl⟩:=h;rw[if_pos h1,nq _ (fi aj)]
theorem Xc {t cK kK:TypeId} (aL:P.underlying t=some (.map cK kK)) {l l' : av} {m k x:ae} (h:qF P l cK m k x=some l') :vz P (bY l) t m k x=some (bY l') :=by
 unfold qF at h;unfold vz;rw[aL];cases m<;>(try simp only at h)<;>try (cases h; done)
 rename_i b;simp only[np];cases aj:l[b]? with
 | none=>rw[aj] at h; cases h
 | some c=>
  cases c<;>rw[aj] at h<;>simp only at h<;>try (cases h; done)
  rename_i es dX;simp only;cases aF:jI P cK k with
  | false=>rw[aF] at h; cases h
  | true=>
   rw[aF] at h;simp only at h ⊢;cases aJ:ia P cK k es 0 with
   | none=>rw[aJ] at h; cases h
   | some r=>
    rw[aJ] at h;cases r with
    | none=>cases h; simp only[nq _ (fi aj)]
    | some r6=>cases h; simp only[nq _ (fi aj)]
theorem alc {t:TypeId} (h1:dC P t=some false) (h:aR) (p:ae) :qD P h t p=(reach h p).bind fun x=>x.1[x.2]?:=by
 unfold qD gQ; rw[h1]; cases reach h p<;>rfl
theorem ald {t:TypeId} {n:Nat} (h1:dC P t=some true) (ag:cr P t=some n) (h:aR) (p:ae) :qD P h t p=(reach h p).bind fun x=>qO n x.1 x.2:=by
 unfold qD gQ; rw[h1,ag]; cases reach h p<;>rfl
theorem aed {b:Builtin} {ts:List TypeId} {args:List Operand} {m:a2} (hm:sY P b ts args=some m) {aB:Operand->ae} {l l' : av} {v:ae} (h:bR P aB l m=some (v,l')) :
  nB P (bY l) b ts (args.map aB)=some (.val v (bY l')) :=by
 unfold sY at hm;split at hm
 ·rename_i x6;split at hm
  ·rename_i k e aL;cases hm;simp only[bR,ft] at h;obtain⟨ag,rfl⟩:=h;unfold zY at ag;simp only[List.map_cons,List.map_nil,nB];cases ak:aB x6<;>rw[ak] at ag<;>(try simp only at ag)<;>try (cases ag; done)
   ·cases ag; simp[vw,vx,aL]
   ·rename_i b;cases aj:l'[b]? with
    | none=>rw[aj] at ag; cases ag
    | some c=>
     cases c<;>rw[aj] at ag<;>simp only at ag<;>try (cases ag; done)
     cases ag;simp[vx,aL,np,aj]
  ·rw[map_some] at hm;obtain⟨c6,h1,rfl⟩:=hm;simp only[bR,ft] at h;obtain⟨ag,rfl⟩:=h;have aq:=ak8 h1 ag;have aK:∀ x,vx P (bY l') _ x=none:=fun x=>by
    unfold ng at h1;unfold vx;split at h1<;>first | (rename_i aL; rw[aL]; done) | (cases h1; done) | skip
    all_goals (rename_i aL; simp only[aL])
   simp only[List.map_cons,List.map_nil,nB,aK];simp[aq]
 ·rw[map_some] at hm;obtain⟨c6,h1,rfl⟩:=hm;simp only[bR,ft] at h;obtain⟨ag,rfl⟩:=h;simp[nB,aeW h1 ag]
 ·rename_i t u s x;simp only[List.map_cons,List.map_nil,nB];split at hm
  ·rename_i aL;simp only[bind_some] at hm;obtain⟨e,h1,z,ag,by_,aq,zero,aK,hm⟩:=hm;rw[hd] at hm;obtain⟨⟨bg,bL⟩,rfl⟩:=hm;simp only[bR] at h;unfold oF at h;cases ak:aB x<;>rw[ak] at h<;>(try simp only at h)<;>try (cases h; done)
   rename_i k n;by_cases et:0<=n/\n<9223372036854775808/\n.toNat*by_<=cQ
   ·rw[if_pos et] at h;rw[aL];simp only[yn,h1,asInt,ag,aq,aK];rw[if_pos ⟨bg,et⟩,Ox bL h]; rfl
   ·rw[if_neg et] at h; cases h
  ·cases hm
  ·rename_i aH aL;simp only[bind_some] at hm;obtain⟨e,h1,z,ag,by_,aq,hm⟩:=hm;rw[hd] at hm;obtain⟨bL,rfl⟩:=hm;simp only[bR] at h;unfold iR at h;cases al:dj l z (aB x) with
   | none=>rw[al] at h; cases h
   | some p=>
    obtain⟨xs,n⟩:=p;rw[al] at h;simp only at h;have:pR P (bY l) t (aB s) (aB x)=some (v,bY l') :=by
     simp only[pR,h1,ag,aq,yI,al];exact Ox bL h
    rw[this];cases bD:P.underlying u with
    | none=>exact absurd bD aL
    | some d=>
     cases d<;>first | rfl | (rename_i k; exact absurd bD (aH k))
 ·simp only[bind_some,map_some] at hm;obtain⟨e,h1,z,ag,rfl⟩:=hm;simp only[bR] at h;simp[nB,afp h1 ag h]
 ·split at hm
  ·rename_i e aL;rw[map_some] at hm;obtain⟨zero,h1,rfl⟩:=hm;simp only[bR,map_some,Prod.mk.injEq] at h;obtain⟨ce,ag,rfl,rfl⟩:=h;simp[nB,ae9 aL h1 ag]
  ·cases hm
 ·cases hm;simp only[bR,ft] at h;obtain⟨ag,rfl⟩:=h;simp[nB,ag]
 ·cases hm;simp only[bR,ft] at h;obtain⟨ag,rfl⟩:=h;simp[nB,ag]
 ·cases hm
theorem Kq {t:TypeId} (h1:dC P t=some false) (cs:List ae) (off:Nat) :gQ P t cs off=cs[off]?:=by unfold gQ; rw[h1]
theorem XM {t:TypeId} {n:Nat} (h1:dC P t=some true) (ag:cr P t=some n) (cs:List ae) (off:Nat) :gQ P t cs off=qO n cs off:=by unfold gQ; rw[h1,ag]; rfl
theorem EQ {s d:TypeId} {x:ae} (h:∀ e,P.underlying d=some (.slice e)->False) :wj P s d x=none:=by
 unfold wj;split
 ·rename_i e au bD ak;exact (h e ak).elim
 ·rfl
theorem Dj {op:Op} {m:a2} (hm:lU P op=some m) {aB:Operand->ae} {l l' : av} {v:ae} (h:bR P aB l m=some (v,l')) :cW P (bY l) aB op=some (.val v (bY l')) :=by
 cases op<;>simp only[lU] at hm<;>try (cases hm; done)
 case move x=>cases hm; simp only[bR,Option.some.injEq,Prod.mk.injEq] at h; obtain⟨rfl,rfl⟩:=h; rfl
 case assign x=>cases hm; simp only[bR,Option.some.injEq,Prod.mk.injEq] at h; obtain⟨rfl,rfl⟩:=h; rfl
 case pick c a b=>
  cases hm; simp only[bR,ft] at h;obtain⟨ag,rfl⟩:=h;simp only[cW];unfold Ah at ag;cases al:aB c<;>rw[al] at ag<;>(try simp only at ag)<;>try (cases ag; done)
  cases ag; rfl
 case alloc t=>
  rw[map_some] at hm;obtain⟨zero,h1,rfl⟩:=hm;simp only[bR,Option.some.injEq,Prod.mk.injEq] at h;obtain⟨rfl,rfl⟩:=h;simp only[cW,h1,lQ]; rfl
 case box t x=>
  cases hm;simp only[bR,map_some,Prod.mk.injEq] at h;obtain⟨cs,h1,rfl,rfl⟩:=h;simp only[cW,h1,lQ]; rfl
 case build t cy=>
  simp only[bind_some,map_some] at hm;obtain⟨zero,h1,q,ag,rfl⟩:=hm;simp only[bR,ft,map_some] at h;obtain⟨⟨cs,aq,rfl⟩,rfl⟩:=h;simp only[cW,adY ag aB zero h1 aq]; rfl
 case buildSlice t n cy=>
  simp only[bind_some] at hm;obtain⟨e,h1,z,ag,zero,aq,hm⟩:=hm;rw[hd] at hm;obtain⟨aK,rfl⟩:=hm;simp only[bR,map_some,Prod.mk.injEq] at h;obtain⟨cs,bg,rfl,rfl⟩:=h;simp only[cW,Ba,h1,ag,aq,if_pos aK,bg,lQ]; rfl
 case load t a=>
  split at hm
  ·rename_i n h1 ag;cases hm;simp only[bR,ft] at h;obtain⟨aq,rfl⟩:=h;simp only[cW,ald h1 ag,MT,aq]; rfl
  ·rename_i h1;cases hm;simp only[bR,ft] at h;obtain⟨aq,rfl⟩:=h;simp only[cW,alc h1,MT,aq]; rfl
  ·cases hm
 case store t a x=>
  rw[map_some] at hm;obtain⟨n,h1,rfl⟩:=hm;simp only[bR,map_some,Prod.mk.injEq] at h;obtain⟨ce,ag,rfl,rfl⟩:=h;simp only[cW,aoQ h1 ag]; rfl
 case nilCheck x=>
  cases hm;simp only[bR,ft] at h;obtain⟨ag,rfl⟩:=h;simp only[cW];unfold vB at ag;cases al:aB x<;>rw[al] at ag<;>simp only at ag<;>first | (cases ag; done) | (cases ag; rfl)
 case binOp o t x y u=>
  cases hm;simp only[bR,ft] at h;obtain⟨ag,rfl⟩:=h;simp only[cW,ag]; rfl
 case unOp o t x=>
  cases hm;simp only[bR,ft] at h;obtain⟨ag,rfl⟩:=h;simp only[cW,ag]; rfl
 case convert s d x=>
  simp only[cW];split at hm
  ·rename_i gY k au bD;cases hm;simp only[bR,ft] at h;obtain⟨ag,rfl⟩:=h;rw[EQ (fun e aw=>by rw[bD] at aw; cases aw)];unfold yB at ag;cases ak:aB x<;>rw[ak] at ag<;>(try simp only at ag)<;>try (cases ag; done)
   cases ag;simp only[uJ,au,bD]; rfl
  ·rename_i e au bD;split at hm
   ·rename_i aw;cases hm;simp only[bR,ft] at h;obtain⟨ag,rfl⟩:=h;rw[EQ (fun e aw=>by rw[bD] at aw; cases aw)];have:uJ P (bY l') s d (aB x)=some v:=by
     rw[<-ag];unfold uJ sU;rw[au,bD];cases ak:aB x<;>(simp only[aw,yI])<;>(try rfl)<;>(rw[ak] at ag; unfold sU at ag; simp only at ag)
     ·cases ag
     all_goals (cases al:dj l' 1 _<;>rfl)
    rw[this]; rfl
   ·cases hm
  ·rename_i au bD;cases hm;simp only[bR,ft] at h;obtain⟨ag,rfl⟩:=h;rw[EQ (fun e aw=>by rw[bD] at aw; cases aw)];unfold Bs at ag;cases ak:aB x<;>rw[ak] at ag<;>(try simp only at ag)<;>try (cases ag; done)
   cases ag;simp only[uJ,au,bD]; rfl
  ·rename_i e au bD;split at hm
   ·rename_i aw;cases hm;simp only[bR,ft] at h;obtain⟨ag,rfl⟩:=h;unfold s3 at ag;cases ak:aB x<;>rw[ak] at ag<;>(try simp only at ag)<;>try (cases ag; done)
    cases ag;simp only[wj,au,bD,aw]
   ·cases hm
  ·cases hm
 case makeInterface t x=>
  split at hm
  ·cases hm
  ·cases hm
  ·rename_i h1 ag;cases hm;simp only[bR,Option.some.injEq,Prod.mk.injEq] at h;obtain⟨rfl,rfl⟩:=h;simp only[cW]
 case typeAssert x NY t ok=>
  rw[map_some] at hm;obtain⟨z,aC,rfl⟩:=hm;simp only[bR,ft] at h;obtain⟨ag,rfl⟩:=h;simp only[cW,aC,ag,Option.map_some]
 case makeFunc f a b=>
  cases f<;>simp only at hm<;>try (cases hm; done)
  cases hm;simp only[bR,Option.some.injEq,Prod.mk.injEq] at h;obtain⟨rfl,rfl⟩:=h;rfl
 case makeSlice t a c=>
  simp only[bind_some] at hm;obtain⟨e,h1,z,ag,by_,aq,zero,aK,hm⟩:=hm;rw[hd] at hm;obtain⟨bg,rfl⟩:=hm;simp only[bR] at h;unfold po at h;cases aI:aB a<;>rw[aI] at h<;>(try simp only at h)<;>try (cases h; done)
  cases al:aB c<;>rw[al] at h<;>(try simp only at h)<;>try (cases h; done)
  rw[hd] at h;obtain⟨bL,et⟩:=h;cases et;simp only[cW,aI,al,De,h1,asInt,ag,aq,aK,if_pos (And.intro bg bL),lQ]; rfl
 case slice t x cP aA cB=>
  rw[map_some] at hm;obtain⟨c6,h1,rfl⟩:=hm;simp only[bR,ft] at h;obtain⟨ag,rfl⟩:=h;rw[aop h1] at ag;simp only[cW,ag]; rfl
 case fieldAddr s x f=>
  rw[bind_some] at hm;obtain⟨fd,h1,hm⟩:=hm;split at hm
  ·rename_i n ag;cases hm;simp only[bR,ft] at h;obtain⟨aq,rfl⟩:=h;simp only[cW,BD,h1,ag,aq]; rfl
  ·cases hm
 case field t x f=>
  rw[bind_some] at hm;obtain⟨fd,h1,hm⟩:=hm;split at hm
  ·rename_i n ag aq;cases hm;simp only[bR,ft] at h;obtain⟨aK,rfl⟩:=h;unfold wG at aK;cases ak:aB x<;>rw[ak] at aK<;>(try simp only at aK)<;>try (cases aK; done)
   simp only[cW,ak,h1,XM ag aq,aK]; rfl
  ·rename_i ag;cases hm;simp only[bR,ft] at h;obtain⟨aK,rfl⟩:=h;unfold yT at aK;cases ak:aB x<;>rw[ak] at aK<;>(try simp only at aK)<;>try (cases aK; done)
   simp only[cW,ak,h1,Kq ag,aK]; rfl
  ·cases hm
 case indexAddr t x i=>
  split at hm
  ·rename_i n z h1;cases hm;simp only[bR,ft] at h;obtain⟨ag,rfl⟩:=h;simp only[cW,Vm h1 ag]; rfl
  ·rename_i z h1;cases hm;simp only[bR,ft] at h;obtain⟨ag,rfl⟩:=h;simp only[cW,Vm h1 ag]; rfl
  ·cases hm
 case index t x i=>
  split at hm
  ·rename_i n e aL;split at hm
   ·rename_i z h1 ag;cases hm;simp only[bR,ft] at h;obtain⟨aq,rfl⟩:=h;unfold zT at aq;cases ak:aB x<;>rw[ak] at aq<;>(try simp only at aq)<;>try (cases aq; done)
    cases aA:aB i<;>rw[aA] at aq<;>(try simp only at aq)<;>try (cases aq; done)
    simp only[cW,xp,ak,aA,aL,asInt,h1,XM ag h1,aq]; rfl
   ·rename_i z h1 ag;cases hm;simp only[bR,ft] at h;obtain⟨aq,rfl⟩:=h;unfold zS at aq;cases ak:aB x<;>rw[ak] at aq<;>(try simp only at aq)<;>try (cases aq; done)
    cases aA:aB i<;>rw[aA] at aq<;>(try simp only at aq)<;>try (cases aq; done)
    simp only[cW,xp,ak,aA,aL,asInt,h1,Kq ag,aq]; rfl
   ·cases hm
  ·rename_i aL;cases hm;simp only[bR,ft] at h;obtain⟨aq,rfl⟩:=h;unfold vu at aq;cases ak:aB x<;>rw[ak] at aq<;>(try simp only at aq)<;>try (cases aq; done)
   cases aA:aB i<;>rw[aA] at aq<;>(try simp only at aq)<;>try (cases aq; done)
   simp only[cW,xp,ak,aA,aL,asInt,aq]; rfl
  ·cases hm
 case extract x i=>
  cases hm;simp only[bR,ft] at h;obtain⟨ag,rfl⟩:=h;unfold yS at ag;cases ak:aB x<;>rw[ak] at ag<;>(try simp only at ag)<;>try (cases ag; done)
  simp only[cW,ak,ag]; rfl
 case call c=>
  split at hm
  ·rename_i b aj;simp only[cW,sQ,aj];exact aed hm h
  ·rename_i f aJ;split at hm
   ·rename_i fn x y iX B3;rw[hd] at hm;obtain⟨aA,rfl⟩:=hm;simp only[bR] at h;split at h
    case h_2=>cases h
    rename_i Co;rw[ft] at h;obtain⟨ag,rfl⟩:=h;unfold cmpL at ag;have fA:∀ x,pU (bY l') x=mw l' x:=fun x=>by
     cases x<;>simp only[pU,mw,yI]<;>rfl
    have ql:¬(fn.body.isSome=true/\fn.name≠ "runtime.NumGoroutine") :=by
     rintro⟨a,_⟩;unfold zO at aA;simp only[Bool.and_eq_true] at aA;rw[Option.isNone_iff_eq_none.1 aA.1.1] at a; cases a
    have zf:aB (.func f)=.fn f [] [] :=by
     unfold zP at Co;split at Co
     ·rename_i g ay; rw[ay,Nat.eq_of_beq_eq_true Co]
     ·cases Co
    simp only[cW,sQ,aJ,zf,iX,if_neg ql,if_pos aA,B3,List.map_cons,List.map_nil,List.nil_append,List.append_nil,yG,fA];cases aI:mw l' (aB x) with
    | none=>rw[aI] at ag; cases ag
    | some a=>
     cases aj:mw l' (aB y) with
     | none=>rw[aI,aj] at ag; cases ag
     | some b=>rw[aI,aj] at ag; cases ag; rfl
   ·cases hm
  ·cases hm
 case panic x=>cases hm; cases h
 case makeMap t r=>
  split at hm
  ·rename_i k e aL;cases hm;simp only[bR] at h;cases r with
   | none=>cases h; simp[cW,aL,lQ]
   | some x=>
    simp only at h;cases ak:asInt (aB x) with
    | none=>rw[ak] at h; cases h
    | some n=>rw[ak] at h; cases h; simp[cW,aL,ak,lQ]
  ·cases hm
 case lookup t m k ok=>
  split at hm
  ·rename_i cK kK aL;rw[map_some] at hm;obtain⟨z,aC,rfl⟩:=hm;simp only[bR,ft] at h;obtain⟨ag,rfl⟩:=h;have zs:∀ x,mapOf (bY l') x=qE l' x:=fun x=>by
    cases x<;>try rfl
    rename_i b;simp only[mapOf,qE,np];cases l'[b]? with
    | none=>rfl
    | some c=>cases c<;>rfl
   unfold tO at ag;simp only[cW,Db,aL,zs];cases ie:qE l' (aB m) with
   | none=>rw[ie] at ag; cases ag
   | some es=>
    rw[ie] at ag;simp only at ag ⊢;cases aF:jI P cK (aB k) with
    | false=>rw[aF] at ag; cases ag
    | true=>
     rw[aF] at ag;simp only at ag ⊢;cases aJ:ia P cK (aB k) es 0 with
     | none=>rw[aJ] at ag; cases ag
     | some r=>
      rw[aJ] at ag;cases r with
      | none=>cases ag; simp[aC]
      | some r6=>cases ag; rfl
  ·cases hm
 case mapUpdate t m k x=>
  split at hm
  ·rename_i cK kK aL;cases hm;simp only[bR,map_some] at h;obtain⟨ce,ag,aq⟩:=h;cases aq;simp only[cW,Xc aL ag]; rfl
  ·cases hm
 case insert t m k x=>
  split at hm
  ·rename_i cK kK aL;cases hm;simp only[bR,map_some] at h;obtain⟨ce,ag,aq⟩:=h;cases aq;simp only[cW,Xc aL ag]; rfl
  ·cases hm
 case range t x=>
  split at hm
  ·rename_i aL;cases hm;simp only[bR] at h;unfold xN at h;cases ak:aB x<;>rw[ak] at h<;>(try simp only at h)<;>try (cases h; done)
   cases h;simp[cW,DD,aL,ak,lQ]
  ·cases hm
 case next it b=>
  cases b with
  | false=>cases hm
  | true=>
   cases hm;simp only[bR] at h;unfold sg at h;simp only[cW,xy];cases ak:aB it<;>rw[ak] at h<;>(try simp only at h)<;>try (cases h; done)
   rename_i b;simp only[np];cases aj:l[b]? with
   | none=>rw[aj] at h; cases h
   | some c=>
    cases c<;>rw[aj] at h<;>simp only at h<;>try (cases h; done)
    simp only;split at h
    ·rename_i aS; cases h; rw[aS]; simp only[Option.map_some,nq _ (fi aj)]
    ·rename_i aS; cases h; rw[aS]; rfl
end
abbrev bj:=Nat->ae
abbrev f9:=pK->bj->av->Prop
class N3 (α:Type) where
 k:α->Prop
class yc where
 p:Prop
 q:Prop
class uy where
 k:ae->av->Prop
class Ei where
 k:f9
def W {α:Type} (o:Option α) [c:N3 α] :Prop:=match o with | some v=>c.k v | none=>False
def pe (b:Bool) [c:yc] :Prop:=match b with | true=>c.p | false=>c.q
def vv (x:ae) [c:yc] :Prop:=match x with | .bool b=>pe b (c:=c) | _=>False
def pd (x:ae) (w:Bool) [c:yc] :Prop:=match x with | .bool b=>pe (b == w) (c:=c) | .bad=>False | _=>c.q
inductive oy where
 | cF (m:a2)
 | cV (f:FuncId) (args:List Operand)
 | gw (x:Operand) (args:List Operand)
 | mx (x:Operand) (name:String) (args:List Operand)
structure dJ where
 i:Nat
 dst:Option Tmp
 g:Option (Option Tmp × Bool)
 b:oy
 ht:List Nat
 cM:Bool
inductive aT where
 | skip
 | ret
 | exit (id:Nat)
 | ai (s:List dJ)
 | gy (s:List dJ)
 | seq (a b:aT)
 | cond (c:Operand) (x y:aT)
 | block (id:Nat) (c:aT)
 | loop (c:aT)
section
variable (P:Program) (G:Nat->ae)
def iU (f:FuncId) :Bool:=match P.funcs[f]? with | some fn=>fn.body.isSome&&fn.name != "runtime.NumGoroutine" | none=>false
def dp (f:FuncId) (args:List ae) (l:av) [c:uy] :Prop:=∃ r l',da P G (.call f args (bY l) r (bY l'))/\l.length<=l'.length/\c.k r l'
def sS (x:ae) (args:List ae) (l:av) [c:uy] :Prop:=match x with
 | .fn g first e6=>iU P g=true/\dp P G g (first++args++e6) l (c:=c)
 | _=>False
def sR (name:String) (x:ae) (args:List ae) (l:av) [c:uy] :Prop:=match x with
 | .fK t v=>match vA P t name with
  | some g=>iU P g=true/\dp P G g (v::args) l (c:=c)
  | none=>False
 | _=>False
def dM (v:ae) (l:av) [c:uy] :Prop:=c.k v l\/∃ dt ce,oE (bY l) (bY ce)/\oD (bY l) (bY ce) v dt/\c.k dt ce
def dR (m:a2) (v:ae) (l:av) (K:ae->av->Prop) :Prop:=match m with
 | .app ..=>dM v l (c:=⟨K⟩)
 | _=>K v l
def gS (b:oy) (ah:bj) (l:av) (K:ae->av->Prop) :Prop:=match b with
 | .cF m=>W (bR P (cT G ah) l m) (c:=⟨fun x=>dR m x.1 x.2 K⟩)
 | .cV f args=>dp P G f (args.map (cT G ah)) l (c:=⟨K⟩)
 | .gw x args=>sS P G (cT G ah x) (args.map (cT G ah)) l (c:=⟨K⟩)
 | .mx x name args=>sR P G name (cT G ah x) (args.map (cT G ah)) l (c:=⟨K⟩)
def n9 (ah:bj) (g:Option (Option Tmp × Bool)) (p q:Prop) :Prop:=match g with
 | none=>p
 | some (some d,w)=>pd (ah d) w (c:=⟨p,q⟩)
 | some (none,_)=>q
def h2:List dJ->bj->av->(bj->av->Prop)->Prop
 | [],ah,l,K=>K ah l
 | s::r,ah,l,K=>n9 ah s.g (gS P G s.b ah l fun v l'=>h2 r (gn ah s.dst v) l' K) (h2 r (gn ah s.dst gp) l K)
abbrev hi:=List (Nat × (av->Prop))
def nC (ids:List Nat) :hi->av->Prop
 | [],_=>True
 | e::r,l=>(ids.contains e.1=true->e.2 l)/\nC ids r l
def a2.hB:a2->Bool
 | .alloc _ | .box _ | .cL .. | .kZ ..=>true
 | _=>false
def j6 (b:oy) (ah:bj) (v:ae) (l l' l1:av) :Prop:=match b with
 | .cF m=>match m.hB with
  | true=>l1[l.length]? = l'[l.length]?
  | false=>bR P (cT G ah) l1 m=some (v,l1)
 | _=>True
def py (cM:Bool) (i:Nat) (p:av->Prop) (s:hi) :hi:=match cM with | true=>(i,p) ::s | false=>s
def io:List dJ->bj->av->hi->(bj->av->Prop)->Prop
 | [],ah,l,_,K=>K ah l
 | s::r,ah,l,seen,K=>n9 ah s.g (gS P G s.b ah l fun v l'=>nC s.ht seen l'/\io r (gn ah s.dst v) l' (py s.cM s.i (j6 P G s.b ah v l l') seen) K) (io r (gn ah s.dst gp) l seen K)
def l9 (k:bj->av->Prop) (K:f9) :f9:=fun e ah l=>match e with
 | .normal=>k ah l
 | .exit id=>K (.exit id) ah l
 | .ret=>K .ret ah l
def pc (id:Nat) (K:f9) :f9:=fun e ah l=>match e with
 | .normal=>K .normal ah l
 | .exit qx=>match Nat.beq qx id with | true=>K .normal ah l | false=>K (.exit qx) ah l
 | .ret=>K .ret ah l
def xt (r:bj->av->f9->Prop) :Nat->bj->av->f9->Prop
 | 0=>fun _ _ _=>False
 | n+1=>fun ah l K=>r ah l (l9 (fun ah l=>xt r n ah l K) K)
def AX (r:bj->av->f9->Prop) (ah:bj) (l:av) [c:Ei] :Prop:=∃ n,xt r n ah l c.k
def run:aT->bj->av->f9->Prop
 | .skip,ah,l,K=>K .normal ah l
 | .ret,ah,l,K=>K .ret ah l
 | .exit id,ah,l,K=>K (.exit id) ah l
 | .ai s,ah,l,K=>h2 P G s ah l (K .normal)
 | .gy s,ah,l,K=>io P G s ah l [] (K .normal)
 | .seq a b,ah,l,K=>run a ah l (l9 (fun ah l=>run b ah l K) K)
 | .cond c x y,ah,l,K=>vv (cT G ah c) (c:=⟨run x ah l K,run y ah l K⟩)
 | .block id c,ah,l,K=>run c ah l (pc id K)
 | .loop c,ah,l,K=>AX (run c) ah l (c:=⟨K⟩)
def AE (ops:Array Oper) (i:Nat) (ht:List Nat) (cM:Bool) :Option dJ:=(ops[i]?).bind fun o=>
 let g:=o.guard.map fun n8=>((ops[n8.1]?).bind (·.dst),n8.2)
 match lU P o.op with
 | some m=>some ⟨i,o.dst,g,.cF m,ht,cM⟩
 | none=>match o.op with
  | .call c=>match c.callee with
   | .value (.func f)=>match iU P f with
    | true=>some ⟨i,o.dst,g,.cV f c.args.toList,ht,cM⟩
    | false=>none
   | .value x=>some ⟨i,o.dst,g,.gw x c.args.toList,ht,cM⟩
   | .invoke x name=>some ⟨i,o.dst,g,.mx x name c.args.toList,ht,cM⟩
   | _=>none
  | _=>none
def q3:Op->Bool
 | .load .. | .convert .. | .alloc _ | .box .. | .buildSlice .. | .makeSlice ..=>true
 | .call c=>match c.callee,c.argTypes.toList with
  | .builtin .len,[t]=>match P.underlying t with | some (.map _ _)=>true | _=>false
  | _,_=>false
 | _=>false
def ae5 (ms:List Nat) (ops:Array Oper) (done jq:List Nat) :List Nat:=
 done.filter fun j=>(match ops[j]? with | some o=>q3 P o.op | none=>false)&&jq.all fun e=>!m8 ms e j
def mc (ms:List Nat) (ops:Array Oper) :List Nat->List Nat->List Nat->List (Nat × List Nat)
 | [],_,_=>[]
 | i::r,done,jq=>match ops[i]? with
  | none=>[]
  | some o=>match i5 o.op with
   | true=>(i,ae5 P ms ops done (i::jq)) ::mc ms ops r (i::done) (match o.guard with | none=>i::jq | some _=>jq)
   | false=>(i,[]) ::mc ms ops r (i::done) jq
def yN (ms:List Nat) (ops:Array Oper) :List Nat->Bool
 | []=>true
 | i::r=>(match ops[i]? with | some o=>!i5 o.op||r.all fun j=>m8 ms j i | none=>false)&&yN ms ops r
def He (N:Nat) (ops:Array Oper) (draw:Bool) :Option aT:=
 match ops.toList.all fun o=>nI N o.dst with
 | false=>none
 | true=>match draw with
  | false=>((List.range ops.size).mapM fun i=>AE P ops i [] false).map .ai
  | true=>
   let ms:=hr ops
   let iH:=eW ms ops
   match Km ms ops iH&&yN ms ops iH with
   | false=>none
   | true=>
    let XS:=mc P ms ops iH [] []
    let ask:=XS.flatMap (·.2)
    match XS.mapM fun p=>AE P ops p.1 p.2 (ask.contains p.1) with
    | none=>none
    | some s=>match ask with
     | []=>some (.ai s)
     | _=>some (.gy s)
def comp (N:Nat) :Code->Option aT
 | .skip=>some .skip
 | .label _=>some .skip
 | .ret=>some .ret
 | .exit id=>some (.exit id)
 | .region _ ops draw=>He P N ops draw
 | .seq a b=>match comp N a,comp N b with
  | some .skip,some b=>some b
  | some a,some .skip=>some a
  | some a,some b=>some (.seq a b)
  | _,_=>none
 | .cond c x y=>match comp N x,comp N y with
  | some x,some y=>some (.cond c x y)
  | _,_=>none
 | .block id c=>(comp N c).map (.block id)
 | .loop c=>(comp N c).map .loop
 | .scope c=>comp N c
 | _=>none
def bm (f:FuncId) :Option aT:=match P.funcs[f]? with
 | some fn=>match fn.body with
  | some c=>comp P fn.ntmps c
  | none=>none
 | none=>none
end
section
variable {P:Program} {G:Nat->ae}
theorem Ow {l l' : av} {z by_ n:Nat} {s v:ae} {xs:List ae} (h:hK l z by_ s xs n=some (v,l')) :l.length<=l'.length:=by
 unfold hK at h
 repeat' split at h
 all_goals first | (cases h; done) | (cases h; simp)
theorem Xl {aB:Operand->ae} {l l' : av} {m:a2} {v:ae} (h:bR P aB l m=some (v,l')) :l.length<=l'.length:=by
 cases m<;>simp only[bR,ft,map_some,Option.some.injEq,Prod.mk.injEq] at h
 case ap=>obtain⟨_,rfl⟩:=h; exact Nat.le_refl _
 case alloc=>obtain⟨_,rfl⟩:=h; simp
 case box=>obtain⟨_,_,_,rfl⟩:=h; simp
 case cL=>obtain⟨_,_,_,rfl⟩:=h; simp
 case st n a x=>
  obtain⟨_,h,_,rfl⟩:=h;unfold je at h
  repeat' split at h
  all_goals first | (cases h; done) | (cases h; simp)
 case se=>obtain⟨_,rfl⟩:=h; exact Nat.le_refl _
 case pm=>obtain⟨_,rfl⟩:=h; exact Nat.le_refl _
 case kZ=>
  unfold po at h
  repeat' split at h
  all_goals first | (cases h; done) | (cases h; simp)
 case app=>
  unfold iR at h;split at h
  ·cases h
  ·exact Ow h
 case pQ=>
  unfold oF at h
  repeat' split at h
  all_goals first | (cases h; done) | exact Ow h
 case s2=>
  unfold ws at h
  repeat' split at h
  all_goals first | (cases h; done) | (cases h; simp)
 case oH=>
  obtain⟨_,h,_,rfl⟩:=h;unfold pW at h
  repeat' split at h
  all_goals first | (cases h; done) | (cases h; simp)
 case stop=>cases h
 case pn x=>
  cases x with
  | none=>cases h; simp
  | some o=>
   simp only at h;split at h
   ·cases h; simp
   ·cases h
 case qG=>
  obtain⟨_,h,_,rfl⟩:=h;unfold qF at h
  repeat' split at h
  all_goals first | (cases h; done) | (cases h; simp)
 case sr=>
  unfold xN at h
  repeat' split at h
  all_goals first | (cases h; done) | (cases h; simp)
 case sh=>
  unfold sg at h
  repeat' split at h
  all_goals first | (cases h; done) | (cases h; simp)
 case cG=>
  split at h
  ·rw[ft] at h; obtain⟨_,rfl⟩:=h; exact Nat.le_refl _
  ·cases h
 all_goals (obtain⟨_,rfl⟩:=h; exact Nat.le_refl _)
theorem wc {α:Type} {o:Option α} {c:N3 α}:W o (c:=c)<->∃ v,o=some v/\c.k v:=by
 unfold W; cases o<;>simp
theorem zV {b:Bool} {c:yc}:pe b (c:=c)<->(b=true/\c.p)\/(b=false/\c.q) :=by cases b<;>simp[pe]
structure nv (P:Program) (ops:Array Oper) (s:dJ) (o:Oper) :Prop where
 here:ops[s.i]? = some o
 dst:s.dst=o.dst
 g:s.g=o.guard.map fun n8=>((ops[n8.1]?).bind (·.dst),n8.2)
 cF:∀ m,s.b=.cF m->lU P o.op=some m
 cV:∀ f args,s.b=.cV f args->∃ c:Call,o.op=.call c/\c.callee=.value (.func f)/\c.args.toList=args/\iU P f=true
 gw:∀ x args,s.b=.gw x args->∃ c:Call,o.op=.call c/\c.callee=.value x/\c.args.toList=args
 mx:∀ x name args,s.b=.mx x name args->∃ c:Call,o.op=.call c/\c.callee=.invoke x name/\c.args.toList=args
theorem DU {ops:Array Oper} {i:Nat} {ht:List Nat} {cM:Bool} {s:dJ} (h:AE P ops i ht cM=some s) :∃ o,nv P ops s o/\s.i=i/\s.ht=ht/\s.cM=cM:=by
 unfold AE at h;rw[bind_some] at h;obtain⟨o,az,h⟩:=h;refine⟨o,?_⟩;simp only at h;split at h
 ·rename_i m hm;cases h;exact⟨⟨az,rfl,rfl,fun ck h=>(by cases h; exact hm),fun f a h=>(by cases h),fun x a h=>(by cases h),fun x n a h=>(by cases h)⟩,rfl,rfl,rfl⟩
 ·split at h
  ·rename_i c f1;split at h
   ·rename_i f al;split at h
    ·rename_i aJ;cases h;exact⟨⟨az,rfl,rfl,fun ck h=>(by cases h),fun f a h=>(by cases h; exact⟨c,f1,al,rfl,aJ⟩),fun x a h=>(by cases h),fun x n a h=>(by cases h)⟩,rfl,rfl,rfl⟩
    ·cases h
   ·rename_i x ak al;cases h;exact⟨⟨az,rfl,rfl,fun ck h=>(by cases h),fun f a h=>(by cases h),fun x a h=>(by cases h; exact⟨c,f1,al,rfl⟩),fun x n a h=>(by cases h)⟩,rfl,rfl,rfl⟩
   ·rename_i x name al;cases h;exact⟨⟨az,rfl,rfl,fun ck h=>(by cases h),fun f a h=>(by cases h),fun x a h=>(by cases h),fun x n a h=>by cases h; exact⟨c,f1,al,rfl⟩⟩,rfl,rfl,rfl⟩
   ·cases h
  ·cases h
theorem SS {g:FuncId} (aJ:iU P g=true) {h:aR} {aB:Operand->ae} {c:Call} {x:Operand} {first e6:List ae} (al:c.callee=.value x) (ak:aB x=.fn g first e6) :
  cW P h aB (.call c)=some (.call g (first++c.args.toList.map aB++e6) h) :=by
 unfold iU at aJ;simp only[cW,sQ,al,ak];cases iX:P.funcs[g]? with
 | none=>rw[iX] at aJ; cases aJ
 | some fn=>
  rw[iX] at aJ;simp only[Bool.and_eq_true,bne_iff_ne] at aJ;simp only;rw[if_pos aJ]
theorem agp {g:FuncId} (aJ:iU P g=true) {h:aR} {aB:Operand->ae} {c:Call} {x:Operand} {name:String} {t:TypeId} {v:ae} (al:c.callee=.invoke x name) (ak:aB x=.fK t v) (hm:vA P t name=some g) :
  cW P h aB (.call c)=some (.call g (v::c.args.toList.map aB) h) :=by
 unfold iU at aJ;simp only[cW,sQ,al,ak,hm];cases iX:P.funcs[g]? with
 | none=>rw[iX] at aJ; cases aJ
 | some fn=>
  rw[iX] at aJ;simp only[Bool.and_eq_true,bne_iff_ne] at aJ;simp only;rw[if_pos aJ]
def a2.looks:a2->Bool
 | .alloc _ | .box _ | .cL .. | .kZ .. | .st .. | .app .. | .pQ .. | .s2 .. | .oH .. | .pn _ | .sa .. | .qG .. | .sr _ | .sh _ | .cG .. | .xW .. | .stop=>false
 | _=>true
theorem akq {m:a2} {v:ae} {l:av} {K:ae->av->Prop} (h:dR m v l K) :K v l\/(m.looks=false/\m.hB=false/\∃ dt ce,oE (bY l) (bY ce)/\oD (bY l) (bY ce) v dt/\K dt ce) :=by
 cases m<;>first | exact .inl h | skip
 rcases h with h | h
 ·exact .inl h
 ·exact .inr ⟨rfl,rfl,h⟩
theorem VI {m:a2} {v:ae} {l:av} {K fF:ae->av->Prop} (a8:∀ v l,K v l->fF v l) (h:dR m v l K) :dR m v l fF:=by
 cases m<;>first | exact a8 _ _ h | skip
 rcases h with h | ⟨dt,ce,h1,ag,aq⟩
 ·exact .inl (a8 _ _ h)
 ·exact .inr ⟨dt,ce,h1,ag,a8 _ _ aq⟩
theorem abM {ops:Array Oper} {s:dJ} {o:Oper} (ok:nv P ops s o) {ah:bj} {l:av} {K:ae->av->Prop} (h:gS P G s.b ah l K) :
  ∃ v l',da P G (.op o.op ah (bY l) v (bY l'))/\l.length<=l'.length/\K v l'/\∀ m,s.b=.cF m->(m.looks=true\/m.hB=true)->bR P (cT G ah) l m=some (v,l') :=by
 cases aj:s.b with
 | cF m=>
  rw[aj] at h;simp only[gS,wc] at h;obtain⟨⟨v,l'⟩,h1,ag⟩:=h;have aw:=da.Dp (G:=G) (Dj (ok.cF m aj) h1);rcases akq ag with ag | ⟨lE,qH,dt,ce,cc,ch,dz⟩
  ·exact⟨v,l',aw,Xl h1,ag,fun ck hm _=>by cases hm; exact h1⟩
  ·refine⟨dt,ce,.Ea aw cc ch,Nat.le_trans (Xl h1) (Nat.le_of_eq cc.n.symm),dz,fun ck hm ar=>?_⟩;cases hm;rw[lE,qH] at ar;rcases ar with h | h<;>cases h
 | cV f args=>
  rw[aj] at h;obtain⟨r,l',h1,ag,aq⟩:=h;obtain⟨c,f1,al,aI,aJ⟩:=ok.cV f args aj;refine⟨r,l',?_,ag,aq,fun ck hm _=>by cases hm⟩;rw[f1];refine .xG (SS aJ al rfl) ?_;simpa [aI] using h1
 | gw x args=>
  rw[aj] at h;simp only[gS] at h;obtain⟨c,f1,al,aI⟩:=ok.gw x args aj;unfold sS at h;split at h
  ·rename_i g first e6 ak
   obtain⟨aJ,r,l',h1,ag,aq⟩:=h;refine⟨r,l',?_,ag,aq,fun ck hm _=>by cases hm⟩;rw[f1];refine .xG (SS aJ al ak) ?_;rw[aI]; exact h1
  ·cases h
 | mx x name args=>
  rw[aj] at h;simp only[gS] at h;obtain⟨c,f1,al,aI⟩:=ok.mx x name args aj;unfold sR at h;split at h
  ·rename_i t v ak;split at h
   ·rename_i g hm;obtain⟨aJ,r,l',h1,ag,aq⟩:=h;refine⟨r,l',?_,ag,aq,fun ck hm _=>by cases hm⟩;rw[f1];refine .xG (agp aJ al ak hm) ?_;rw[aI]; exact h1
   ·cases h
  ·cases h
theorem Vv {ops:Array Oper} {s:dJ} {o:Oper} (ok:nv P ops s o) {ah:bj} {p q:Prop} (h:n9 ah s.g p q) :(jh ops ah o=some true/\p)\/(jh ops ah o=some false/\q) :=by
 rw[ok.g] at h;unfold jh;cases ay:o.guard with
 | none=>rw[ay] at h; exact .inl ⟨rfl,h⟩
 | some n8=>
  obtain⟨j,w⟩:=n8;rw[ay] at h;simp only[Option.map_some] at h ⊢;cases bD:(ops[j]?).bind (·.dst) with
  | none=>rw[bD] at h; exact .inr ⟨rfl,h⟩
  | some d=>
   rw[bD] at h;simp only[n9,pd] at h ⊢;cases au:ah d<;>rw[au] at h<;>simp only at h ⊢<;>first | exact .inr ⟨trivial,h⟩ | (cases h; done) | skip
   rw[zV] at h;rcases h with ⟨h1,ag⟩ | ⟨h1,ag⟩
   ·exact .inl ⟨by rw[h1],ag⟩
   ·exact .inr ⟨by rw[h1],ag⟩
inductive v2 (P:Program) (ops:Array Oper) :List dJ->List Oper->Prop
 | nil:v2 P ops [] []
 | cons {s o abH os}:nv P ops s o->v2 P ops abH os->v2 P ops (s::abH) (o::os)
theorem M7 {ops:Array Oper} {N:Nat} (fj:∀ (i:Nat) (o:Oper),ops[i]? = some o->nI N o.dst=true) {K:bj->av->Prop}:∀ {s:List dJ} {os:List Oper} {ah:bj} {l:av},
  v2 P ops s os->h2 P G s ah l K->∃ bZ l',da P G (.ops ops os N ah (bY l) bZ (bY l'))/\l.length<=l'.length/\K bZ l'
 | [],_,ah,l,aJ,h=>by cases aJ; exact⟨ah,l,.XC,Nat.le_refl _,h⟩
 | s::r,_,ah,l,aJ,h=>by
  cases aJ with
  | cons ok aJ=>
   rename_i o os;rcases Vv ok h with ⟨bx,h⟩ | ⟨bx,h⟩
   ·obtain⟨v,l1,h1,ag,aq,_⟩:=abM ok h;obtain⟨bZ,l',aK,bg,bL⟩:=M7 fj aJ aq;exact⟨bZ,l',.XD bx (fj _ _ ok.here) h1 (by rw[<-ok.dst]; exact aK),Nat.le_trans ag bg,bL⟩
   ·obtain⟨bZ,l',aK,bg,bL⟩:=M7 fj aJ h;exact⟨bZ,l',.XE bx (fj _ _ ok.here) (by rw[<-ok.dst]; exact aK),bg,bL⟩
theorem aa5 {l x:av} {p:ae} {y:List ae × Nat} (h:d1 l p=some y) :d1 (l++x) p=some y:=by
 cases p<;>first | exact h | skip
 rename_i b off sz;simp only[d1] at h ⊢;cases aj:l[b]? with
 | none=>rw[aj] at h; cases h
 | some c=>rw[aj] at h; rw[List.getElem?_append_left (fi aj),aj]; exact h
theorem afn {l x:av} {z:Nat} {p:ae} {y:List ae × Nat} (h:dj l z p=some y) :dj (l++x) z p=some y:=by
 cases p<;>first | exact h | skip
 rename_i c9 b off len cap sz;simp only[dj] at h ⊢;cases aj:l[b]? with
 | none=>rw[aj] at h; cases h
 | some c=>rw[aj] at h; rw[List.getElem?_append_left (fi aj),aj]; exact h
theorem ae0 {l x:av} {p v:ae} (h:sU l p=some v) :sU (l++x) p=some v:=by
 unfold sU at h ⊢;cases p<;>simp only at h ⊢<;>first | exact h | skip
 all_goals
  split at h
  ·rename_i cs n al;rw[afn al]; exact h
  ·cases h
def a2.reads:a2->Bool
 | .ld1 _ | .aX .. | .rq _ | .tN _=>true
 | _=>false
theorem W7 {aB:Operand->ae} {l l' : av} {m:a2} {v:ae} (hm:m.looks=true) (h:bR P aB l m=some (v,l')) :l'=l:=by
 cases m<;>simp only[a2.looks,Bool.true_eq,Bool.false_eq_true,reduceCtorEq] at hm<;>simp only[bR,ft,Option.some.injEq,Prod.mk.injEq] at h<;>first | exact h.2 | exact h.2.symm
theorem alg {aB:Operand->ae} {l x:av} {m:a2} {v:ae} (hm:m.looks=true) (h:bR P aB l m=some (v,l)) :bR P aB (l++x) m=some (v,l++x) :=by
 cases m<;>simp only[a2.looks,Bool.true_eq,Bool.false_eq_true,reduceCtorEq] at hm<;>simp only[bR,ft,Option.some.injEq,Prod.mk.injEq,and_true] at h ⊢<;>try exact h
 case ld1 a=>
  rw[bind_some] at h ⊢;obtain⟨y,h1,ag⟩:=h;exact⟨y,aa5 h1,ag⟩
 case aX n a=>
  rw[bind_some] at h ⊢;obtain⟨y,h1,ag⟩:=h;exact⟨y,aa5 h1,ag⟩
 case rq x=>exact ae0 h
 case tN y=>
  unfold zY at h ⊢;cases ak:aB y<;>rw[ak] at h<;>(try simp only at h)<;>try (cases h; done)
  ·exact h
  ·rename_i b;cases aj:l[b]? with
   | none=>rw[aj] at h; cases h
   | some c=>simp only[List.getElem?_append_left (fi aj)]; exact h
theorem alh {aB:Operand->ae} {l ce:av} {m:a2} {v:ae} (hm:m.looks=true) (aD:m.reads=false) (h:bR P aB l m=some (v,l)) :bR P aB ce m=some (v,ce) :=by
 cases m<;>simp only[a2.looks,Bool.true_eq,Bool.false_eq_true,reduceCtorEq] at hm<;>simp only[a2.reads,reduceCtorEq] at aD<;>simp only[bR,ft,Option.some.injEq,Prod.mk.injEq,and_true] at h ⊢<;>exact h
theorem MY (zero:List ae) :∀ n,(dd zero n).length=n*zero.length
 | 0=>by simp[dd]
 | n+1=>by rw[dd,List.length_append,MY zero n,Nat.succ_mul,Nat.add_comm]
theorem aoI {cs vs:List ae} {off:Nat} (h:off+vs.length<=cs.length) :(bU cs off vs).length=cs.length:=by
 simp only[bU,List.length_append,List.length_take,List.length_drop]; omega
theorem SC {jL:Nat->Option (Nat × Nat)}:∀ {cy:List (Nat × ae)} {zero cs:List ae},gB jL zero cy=some cs->cs.length=zero.length
 | [],zero,cs,h=>by simp only[gB,Option.some.injEq] at h; rw[<-h]
 | (i,v) ::r,zero,cs,h=>by
  unfold gB at h;split at h
  ·rename_i off size vs _ _;split at h
   ·rename_i h1;rw[SC h,aoI (by omega)]
   ·cases h
  ·cases h
theorem aly {op:Op} {m:a2} (hm:lU P op=some m) (aH:m.hB=true) {aB:Operand->ae} {l l' : av} {v:ae} (h:bR P aB l m=some (v,l')) :
  ∃ cs mk,lF P aB op=some (cs,mk)/\v=mk l.length/\l'=l++[.cells cs.length cs] :=by
 cases op<;>simp only[lU] at hm<;>try (cases hm; done)
 case alloc t=>
  rw[map_some] at hm;obtain⟨zero,h1,rfl⟩:=hm;simp only[bR,Option.some.injEq,Prod.mk.injEq] at h;obtain⟨rfl,rfl⟩:=h;exact⟨zero,_,by simp only[lF,h1]; rfl,rfl,rfl⟩
 case box t x=>
  cases hm;simp only[bR,map_some,Prod.mk.injEq] at h;obtain⟨cs,h1,rfl,rfl⟩:=h;exact⟨cs,_,by simp only[lF,h1]; rfl,rfl,rfl⟩
 case buildSlice t n cy=>
  simp only[bind_some] at hm;obtain⟨e,h1,z,ag,zero,aq,hm⟩:=hm;rw[hd] at hm;obtain⟨aK,rfl⟩:=hm;simp only[bR,map_some,Prod.mk.injEq] at h;obtain⟨cs,bg,rfl,rfl⟩:=h;have bw:cs.length=n*z:=by rw[SC bg,MY,aK.1]
  exact⟨cs,_,by simp only[lF,h1,ag,aq,if_pos aK,bg]; rfl,rfl,by rw[bw]⟩
 case makeSlice t a c=>
  simp only[bind_some] at hm;obtain⟨e,h1,z,ag,by_,aq,zero,aK,hm⟩:=hm;rw[hd] at hm;obtain⟨bg,rfl⟩:=hm;simp only[bR] at h;unfold po at h;cases aI:aB a<;>rw[aI] at h<;>(try simp only at h)<;>try (cases h; done)
  cases al:aB c<;>rw[al] at h<;>(try simp only at h)<;>try (cases h; done)
  rw[hd] at h;obtain⟨bL,et⟩:=h;cases et;rename_i kc nc;have bw:(dd zero nc.toNat).length=nc.toNat*z:=by rw[MY,bg]
  exact⟨dd zero nc.toNat,_,by simp only[lF,aI,al,h1,asInt,ag,aq,aK]; rw[if_pos ⟨bg,bL⟩],rfl,by rw[bw]⟩
 case pick=>cases hm; cases aH
 case move=>cases hm; cases aH
 case assign=>cases hm; cases aH
 case nilCheck=>cases hm; cases aH
 case binOp=>cases hm; cases aH
 case unOp=>cases hm; cases aH
 case call c=>
  exfalso;split at hm
  ·unfold sY at hm
   repeat' split at hm
   all_goals first
    | (cases hm; done)
    | (cases hm; cases aH; done)
    | (simp only[bind_some,map_some] at hm; obtain⟨_,_,rfl⟩:=hm; cases aH; done)
    | (simp only[bind_some,map_some] at hm; obtain⟨_,_,_,_,rfl⟩:=hm; cases aH; done)
    | (simp only[bind_some,hd] at hm; obtain⟨_,_,_,_,_,_,_,rfl⟩:=hm; cases aH; done)
    | (simp only[bind_some,hd] at hm; obtain⟨_,_,_,_,_,_,_,_,_,rfl⟩:=hm; cases aH; done)
  ·split at hm
   ·rw[hd] at hm; obtain⟨_,rfl⟩:=hm; cases aH
   ·cases hm
  ·cases hm
 case next it b=>exfalso; cases b<;>simp only[reduceCtorEq] at hm<;>cases hm<;>cases aH
 case panic=>cases hm; cases aH
 case lookup=>exfalso; split at hm<;>(try cases hm; done); rw[map_some] at hm; obtain⟨_,_,rfl⟩:=hm; cases aH
 case build=>exfalso; simp only[bind_some,map_some] at hm; obtain⟨_,_,_,_,rfl⟩:=hm; cases aH
 case typeAssert=>exfalso; rw[map_some] at hm; obtain⟨_,_,rfl⟩:=hm; cases aH
 case store=>exfalso; rw[map_some] at hm; obtain⟨_,_,rfl⟩:=hm; cases aH
 case slice=>exfalso; rw[map_some] at hm; obtain⟨_,_,rfl⟩:=hm; cases aH
 case fieldAddr=>exfalso; rw[bind_some] at hm; obtain⟨_,_,hm⟩:=hm; split at hm<;>cases hm; cases aH
 case field=>exfalso; rw[bind_some] at hm; obtain⟨_,_,hm⟩:=hm; split at hm<;>cases hm<;>cases aH
 case extract=>cases hm; cases aH
 case makeFunc f a b=>exfalso; cases f<;>simp only at hm<;>cases hm; cases aH
 all_goals
  exfalso
  repeat' split at hm
  all_goals first | (cases hm; done) | (cases hm; cases aH; done)
end
end Go.cj

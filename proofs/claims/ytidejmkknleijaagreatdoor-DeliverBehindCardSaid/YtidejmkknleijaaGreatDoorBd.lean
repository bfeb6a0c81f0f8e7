/-
  The canonical machine, part N: a region that draws its order.
-/
import Derived.Test.YtidejmkknleijaaGreatDoorBc
import Derived.ProofKit
set_option linter.unusedVariables false
set_option linter.unusedSimpArgs false
set_option linter.unnecessarySimpa false
namespace Go.b0
open Go
section
variable {P:Program} {G:Nat->U}
theorem zw {ops:Array Oper} {t i:Nat} (h:ki ops t=some i) :∃ o,ops[i]? = some o/\o.dst=some t:=by
 unfold ki at h;have:=List.find?_some h;cases au:ops[i]? with
 | none=>simp[au] at this
 | some o=>exact⟨o,rfl,by simpa [au] using this⟩
def tm (ops:Array Oper) (val σ:Nat->U) (dk:Array Bool) :Nat->U:=fun t=>
 match ki ops t with
 | some i=>if dk.getD i false then val i else σ t
 | none=>σ t
theorem ab6 {ops:Array Oper} {pre:Nat->Nat->Bool} (hY:tA ops pre) {dk:Array Bool}
  (down:∀ (i:Nat) (o:Oper) (e:Edge),ops[i]? = some o->dk.getD i false=true->e∈o.after->Region.binds .any e=true->dk.getD e.on false=true)
  (cQ:∀ i,dk.getD i false=true->∃ o,ops[i]? = some o) :∀ (i:Nat),dk.getD i false=true->∀ j,pre i j=true->dk.getD j false=true:=by
 intro i
 induction i using Nat.strongRecOn with
 | _ i aR=>
  intro ay j ai;obtain⟨o,au⟩:=cQ i ay;obtain⟨e,am,ag,nG⟩:=hY.chain i o j au ai;have dO:=down i o e au ay am ag;rcases nG with rfl | nG
  ·exact dO
  ·exact aR e.on (hY.Cx i o e au am ag) dO j nG
theorem x3 (dk:Array Bool) (i j:Nat) (ay:i<dk.size) :(dk.setIfInBounds i true).getD j false=if j=i then true else dk.getD j false:=by
 rw[auM,avD];by_cases h:i=j
 ·subst h; simp[ay]
 ·rw[if_neg h,if_neg (Ne.symm h),auM]
theorem IR {ops:Array Oper} {pre:Nat->Nat->Bool} (hY:tA ops pre) {val σ:Nat->U} {dk:Array Bool} {i:Nat} {o:Oper} (au:ops[i]? = some o) (ay:i<dk.size) :
  tm ops val σ (dk.setIfInBounds i true)=hV (tm ops val σ dk) o.dst (val i) :=by
 funext t;unfold tm hV;cases bf:o.dst with
 | none=>
  simp only;cases aX:ki ops t with
  | none=>rfl
  | some j=>
   have bP:j≠i:=fun aS=>by
    obtain⟨dw,dE,ur⟩:=zw aX;rw[aS,au] at dE; cases dE;rw[bf] at ur; cases ur
   simp only[x3 _ _ _ ay,if_neg bP]
 | some d=>
  simp only;by_cases aW:t=d
  ·subst aW;rw[hY.one i o t au bf];simp[x3 _ _ _ ay]
  ·rw[b2 _ _ _ _ aW];cases aX:ki ops t with
   | none=>rfl
   | some j=>
    have bP:j≠i:=fun aS=>by
     obtain⟨dw,dE,ur⟩:=zw aX;rw[aS,au] at dE; cases dE;rw[bf] at ur; cases ur;exact aW rfl
    simp only[x3 _ _ _ ay,if_neg bP]
structure Inv (P:Program) (ops:Array Oper) (val σ:Nat->U) (W:Nat->Bool) (cls:Nat->Fr) (m:Nat) (ak:Nat->Nat) (fX:Nat->aN) (g7:Nat->Nat) (N:Nat)
  (R:Nat->Prop) (B:Nat) (fU:World) (h:aN) (tz:ck) (dk:Array Bool) (k:Nat) (a:Act) (w:World) (μ:ck) :Prop where
 size:dk.size=ops.size
 down:∀ (i:Nat) (o:Oper) (e:Edge),ops[i]? = some o->dk.getD i false=true->e∈o.after->Region.binds .any e=true->dk.getD e.on false=true
 Ep:k<=m
 done:∀ q,q<m->(dk.getD (ak q) false=true<->q<k)
 ext:Ext0 fU h tz w (fX k) μ
 qN:∀ b,b<h.n->tz b=none->μ b=none
 rel:bN R B w (fX k) μ
 xc:iH N w R (fX k) μ (tm ops val σ dk) a
 EL:∀ (i:Nat) (o:Oper),ops[i]? = some o->W i=true->cls i=.new->dk.getD i false=false->μ (g7 i)=none
theorem aix {ops:Array Oper} {dk:Array Bool} (h9:dk.size=ops.size) (i:Nat) (ay:dk.getD i false=true) :∃ o,ops[i]? = some o:=by
 have:i<ops.size:=by
  rcases avy i dk.size with ad | ad
  ·omega
  ·simp[auM,awl ad] at ay
 exact⟨ops[i],by simp[this]⟩
theorem aaq {ops:Array Oper} {pre:Nat->Nat->Bool} (hY:tA ops pre) {dk:Array Bool} (h9:dk.size=ops.size) (az:Region.ready .any ops dk=[]) :∀ i,i<ops.size->dk.getD i false=true:=by
 intro i
 induction i using Nat.strongRecOn with
 | _ i aR=>
  intro ay;cases al:dk.getD i false with
  | true=>rfl
  | false=>
   exfalso;have hc:i∈Region.ready .any ops dk:=by
    refine mem_ready.2 ⟨?_,ops[i],by simp[ay],fun e am ag=>aR e.on (hY.Cx i ops[i] e (by simp[ay]) am ag) (by
     have:=hY.Cx i ops[i] e (by simp[ay]) am ag;omega)⟩
    have aL:i<dk.size:=by omega
    simpa [auM,aL] using al
   rw[az] at hc;cases hc
theorem ab9 (fH:P.follows .mixedOrders=true) (ij:∀ g,(G g).closed=true) :O2 P G:=by
 intro id ops N σ h bD h' pre val W cls m ak fX si g7 cells hY qd aI hm HK yi Dp kS nH sS HC Hu yB GI GJ qe ox;refine⟨0,fun R B fU tz a0 Q nZ cb s0 na=>wp_region_any fH ?_⟩;obtain⟨fu,mD⟩:=w0 nZ ⟨(RowKit.Below.refl fU.heap.size fU).drew,Nat.le_succ _⟩;obtain⟨aP,r4⟩:=aI.rel mD;have Sg:=fu.trans aP
 -- the end
 have fin:∀ (dk:Array Bool) (k:Nat) (a:Act) (w:World) (μ:ck),Inv P ops val σ W cls m ak fX g7 N R B fU h tz dk k a w μ->(∀ i,i<ops.size->dk.getD i false=true)->Q .normal a w:=by
  intro dk k a w μ inv dV;have ar:k=m:=by
   rcases avy k m with aL | m2
   ·obtain⟨o,au,_⟩:=Dp k aL;have al:=dV (ak k) ((auO.1 au).1);have:=(inv.done k aL).1 al;omega
   ·have:=inv.Ep; omega
  subst ar;have agG:tm ops val σ dk=bD:=by
   rw[HK];funext t;unfold tm;cases aX:ki ops t with
   | none=>rfl
   | some i=>
    obtain⟨o,au,_⟩:=zw aX;simp only[dV i ((auO.1 au).1),if_true]
  subst hm;have bS:=inv.xc;rw[agG] at bS;exact na a w μ ⟨inv.ext,inv.qN⟩ inv.rel bS
 have key:∀ (fuel:Nat) (dk:Array Bool) (k:Nat) (a:Act) (w:World) (μ:ck),Inv P ops val σ W cls m ak fX g7 N R B fU h tz dk k a w μ->dk.toList.count false=fuel->wpAny P .any ops Q fuel dk a w:=by
  intro fuel
  induction fuel with
  | zero=>
   intro dk k a w μ inv TM;have dV:∀ i,i<ops.size->dk.getD i false=true:=by
    intro i ay;have aL:i<dk.size:=by rw[inv.size]; exact ay
    cases al:dk[i] with
    | true=>simp[auM,aL,al]
    | false=>
     exfalso;have hc:false∈dk.toList:=by rw[<-al]; simp
     have:=List.count_pos_iff.2 hc;omega
   refine⟨?_,fin dk k a w μ inv dV⟩;cases az:Region.ready .any ops dk with
   | nil=>rfl
   | cons i l=>
    exfalso;have hc:i∈Region.ready .any ops dk:=by rw[az]; simp
    obtain⟨ad,o,au,_⟩:=mem_ready.1 hc;have ay:=(auO.1 au).1;have ae:=dV i ay;have aL:i<dk.size:=by rw[inv.size]; exact ay
    simp[auM,aL] at ad ae;rw[ad] at ae; cases ae
  | succ fuel aR=>
   intro dk k a w μ inv TM;refine⟨fun az=>fin dk k a w μ inv (aaq hY inv.size az),fun i ay=>?_⟩;obtain⟨ad,o,au,TS⟩:=mem_ready.1 ay;have aL:i<dk.size:=by rw[inv.size]; exact (auO.1 au).1
   have kR:dk.getD i false=false:=by simpa [auM,aL] using ad
   have Am:=ab6 hY inv.down (aix inv.size)
   -- what comes before i is done
   have LQ:∀ j,pre i j=true->dk.getD j false=true:=by
    intro j ai;obtain⟨e,am,ag,nG⟩:=hY.chain i o j au ai;have dO:=TS e am ag;rcases nG with rfl | nG
    ·exact dO
    ·exact Am e.on dO j nG
   have UI:∀ j,dk.getD j false=true->pre j i=true->False:=fun j ai av=>by
    have:=Am j ai i av;rw[kR] at this; cases this
   have TX:z7 pre m ak i k:=⟨inv.Ep,fun q a7 av=>(inv.done q a7).1 (LQ _ av),fun q a7 av=>by
    rcases avy q k with kQ | m2
    ·exact (UI _ ((inv.done q a7).2 kQ) av).elim
    ·exact m2⟩
   -- what i sees
   have TV:∀ t,aO w R (fX k) μ (nC ops pre val σ i o t) (a.tmps.getD t undef) :=by
    intro t;unfold nC;split
    ·rename_i aW;have HD:t∈o.looksAt ops:=by simpa using aW
     have ap:=inv.xc.val t;unfold tm at ap;cases aX:ki ops t with
     | none=>rw[aX] at ap; exact ap
     | some j=>
      rw[aX] at ap;simp only at ap ⊢;by_cases av:pre i j=true
      ·rw[if_pos av];rw[if_pos (LQ j av)] at ap;exact ap
      ·rw[if_neg av];have afU:dk.getD j false=false:=by
        rcases hY.acc i o t j au HD aX with aS | aS | rfl
        ·exact absurd aS av
        ·cases wd:dk.getD j false with
         | false=>rfl
         | true=>exact (UI j wd aS).elim
        ·exact kR
       rw[afU] at ap;exact ap
    ·exact .bad _
   have T1:mI G w R (fX k) μ:=fun g=>⟨ij g,(cb g).2.mW inv.ext⟩
   have c9:∀ x,aO w R (fX k) μ (c3 G (nC ops pre val σ i o) x) (a.eval x) :=by
    intro x;cases x with
    | tmp t=>exact TV t
    | const v=>exact aO.wR v
    | global g=>exact (T1 g).2
    | func f=>exact .fn f [] [] #[] #[] rfl rfl (fun _ _ _ aS=>by simp at aS) (fun _ _ _ aS=>by simp at aS)
   have U1:=ON (w:=w) (R:=R) (h:=fX k) (μ:=μ) (tmps:=a.tmps) (sS i o au) (fun d _=>TV d);have GU:(dk.setIfInBounds i true).toList.count false=fuel:=by
    have ag:dk.toList[i]'(by simpa using aL)=false:=by
     have:dk[i]=false:=by simpa [auM,aL] using ad
     simpa using this
    rw[Array.toList_setIfInBounds,List.count_set (by simpa using aL)];simp[ag,TM]
   have HB:(dk.setIfInBounds i true).size=ops.size:=by simp[inv.size]
   have GZ:∀ (j:Nat) (dw:Oper) (e:Edge),ops[j]? = some dw->(dk.setIfInBounds i true).getD j false=true->e∈dw.after->Region.binds .any e=true->(dk.setIfInBounds i true).getD e.on false=true:=by
    intro j dw e dE ai am ag;rw[x3 _ _ _ aL] at ai ⊢;by_cases jL:j=i
    ·subst jL;rw[au] at dE; cases dE;rw[TS e am ag]; split<;>rfl
    ·rw[if_neg jL] at ai;rw[inv.down j dw e dE ai am ag]; split<;>rfl
   -- the next state,when no block of others' is turned
   have sQ:(W i=true->cls i≠.gY)->∀ q,q<m->((dk.setIfInBounds i true).getD (ak q) false=true<->q<k) :=by
    intro bP q a7;obtain⟨dw,dE,e5,ah⟩:=Dp q a7;have:ak q≠i:=fun aS=>by
     rw[aS] at e5 ah;exact bP e5 ah
    rw[x3 _ _ _ aL,if_neg this];exact inv.done q a7
   have Ht:∀ (j:Nat),(dk.setIfInBounds i true).getD j false=false->j≠i/\dk.getD j false=false:=by
    intro j ai;rw[x3 _ _ _ aL] at ai;by_cases jL:j=i
    ·rw[if_pos jL] at ai; cases ai
    ·rw[if_neg jL] at ai; exact⟨jL,ai⟩
   unfold wpOp;simp only[au];cases e5:W i with
   | false=>
    rw[U1,e5];simp only[avF,if_false];refine aR _ k _ w μ ⟨HB,GZ,inv.Ep,sQ (fun aS=>by rw[e5] at aS; cases aS),inv.ext,inv.qN,inv.rel,?_,fun j dw dE sC m1 ai=>inv.EL j dw dE sC m1 (Ht j ai).2⟩ GU;rw[IR hY au aL];exact inv.xc.put (qd i o au) (by rw[HC i o au e5]; exact Fb)
   | true=>
    rw[U1,e5];simp only[if_true];left;cases ah:cls i with
    | pure=>
     have b5:=Hu i o au e5 ah k TX;obtain⟨v,w',μ',az,e,r,ap⟩:=Ol (P:=P) inv.rel c9 o b5;have Uw:wpAny P .any ops Q fuel (dk.setIfInBounds i true) (a.put o.dst v) w':=by
      refine aR _ k _ w' μ' ⟨HB,GZ,inv.Ep,sQ (fun _ aS=>by rw[ah] at aS; cases aS),inv.ext.trans e.toExt0,fun b ag mr=>e.qN b (avU ag inv.ext.n) (inv.qN b ag mr),r,?_,fun j dw dE sC m1 ai=>?_⟩ GU
      ·rw[IR hY au aL];exact (inv.xc.ext e).put (qd i o au) ap
      ·have aD:=inv.EL j dw dE sC m1 (Ht j ai).2;rcases avy (g7 j) (fX k).n with ag | ag
       ·exact e.qN _ ag aD
       ·exact r.lw _ ag
     unfold Oper.wp;rcases az with az | ⟨az,rfl⟩
     ·rw[az]; exact Uw
     ·rw[az]; exact Uw
    | new=>
     obtain⟨mk,aD,AR,pe,iI⟩:=yB i o au e5 ah;obtain⟨v,arr,t,az,cA,LA⟩:=aji (P:=P) c9 o aD;have eA:=iI k TX;have aep:=inv.EL i o au e5 ah kR;have aqe:g7 i<(fX k).n:=by
      rcases avy (g7 i) (fX k).n with ag | ag
      ·exact ag
      ·rw[inv.rel.fresh _ ag] at eA; cases eA
     have ql:∀ b cf,μ b=some cf->b≠g7 i:=fun b cf ag aS=>by rw[aS,aep] at ag; cases ag
     have e:Ext0 w (fX k) μ (w.alloc (.cells arr t)) (fX k) (bB μ (g7 i) (some ⟨w.heap.size,0,arr.size⟩)) :=by
      refine⟨rfl,rfl,rfl,by simp,fun x af _=>?_,?_,fun b sz cs cf ag hm=>.inl ⟨cs,ag,by rw[b2 _ _ _ _ (ql b cf hm)]; exact hm⟩,fun _ _ aw=>aw,fun b k cf ag hm=>⟨ag,by rw[b2 _ _ _ _ (ql b cf hm)]; exact hm⟩,aun _,aun _⟩
      ·exact RowKit.Below.heap_alloc w _ x af
      ·rintro x ⟨b,cf,al,hm,rfl⟩;by_cases ag:b=g7 i
       ·subst ag; simp at hm; subst hm; exact .inr (aun _)
       ·rw[b2 _ _ _ _ ag] at hm;exact .inl ⟨b,cf,al,hm,rfl⟩
     have r:bN R B (w.alloc (.cells arr t)) (fX k) (bB μ (g7 i) (some ⟨w.heap.size,0,arr.size⟩)) :=by
      refine inv.rel.vd e (g7 i) (fun b ag al=>⟨rfl,b2 _ _ _ _ ag,fun cf hm=>RowKit.Below.heap_alloc w _ _ (inv.rel.lt al hm)⟩) (fun cf hm=>?_) (fun b cf as5 ag al _ hm bW=>?_) (fun cf _ hm=>?_) inv.rel.fresh (fun b ag=>?_)
      ·simp at hm; subst hm;rw[eA];refine⟨rfl,by simp[cA.1],arr,t,(0,0),heap_alloc_new w _,rfl,.inl rfl,fun j c ai=>?_⟩;obtain⟨u,a2,a9,bV⟩:=cA.2 j c ai;exact⟨u,by simpa using a2,a9,bV.mW e⟩
      ·simp at bW; subst bW;have:=inv.rel.lt al hm;simp only[ne_eq]; omega
      ·simp at hm; subst hm;exact inv.rel.size
      ·rw[b2 _ _ _ _ (by omega)];exact inv.rel.lw b ag
     have ap:aO (w.alloc (.cells arr t)) R (fX k) (bB μ (g7 i) (some ⟨w.heap.size,0,arr.size⟩)) (val i) v:=by
      rw[AR];exact LA _ _ _ _ _ eA (by simp)
     unfold Oper.wp;rw[az];refine aR _ k _ _ _ ⟨HB,GZ,inv.Ep,sQ (fun _ aS=>by rw[ah] at aS; cases aS),inv.ext.trans e,fun b ag mr=>by rw[b2 _ _ _ _ (by omega)]; exact inv.qN b ag mr,r,?_,fun j dw dE sC m1 ai=>?_⟩ GU
     ·rw[IR hY au aL];have L0:iH N (w.alloc (.cells arr t)) R (fX k) (bB μ (g7 i) (some ⟨w.heap.size,0,arr.size⟩)) (tm ops val σ dk) a:=⟨inv.xc.size,inv.xc.defers,fun gK=>(inv.xc.val gK).mW e⟩
      exact L0.put (qd i o au) ap
     ·obtain⟨jL,wd⟩:=Ht j ai;rw[b2 _ _ _ _ (fun aS=>jL (GI j i dw o dE au sC e5 m1 ah aS))];exact inv.EL j dw dE sC m1 wd
    | gY=>
     obtain⟨q,a7,rfl⟩:=yi i o au e5 ah;have DO:q=k:=by
      have ae:¬ q<k:=fun aS=>by
       have:=(inv.done q a7).2 aS;rw[kR] at this; cases this
      rcases avy k q with kQ | m2
      ·have rr:k<m:=by omega
       have:=LQ (ak k) (kS k q rr a7 kQ);have:=(inv.done k rr).1 this;omega
      ·omega
     subst DO;refine ox q o a7 au R B w μ a o _ Q rfl inv.rel T1 c9 fun v w' μ' e r ap=>?_
     obtain⟨bw,dY⟩:=(qe q a7).rel r;have e3:=e.trans bw;refine aR _ (q+1) _ w' μ' ⟨HB,GZ,by omega,fun eb lq=>?_,inv.ext.trans e3.toExt0,fun b ag mr=>e3.qN b (avU ag inv.ext.n) (inv.qN b ag mr),dY,?_,fun j dw dE sC m1 ai=>?_⟩ GU
     ·rw[x3 _ _ _ aL];by_cases Hv:eb=q
      ·subst Hv; simp
      ·rw[if_neg (fun aS=>Hv (nH eb q lq a7 aS)),inv.done eb lq];omega
     ·rw[IR hY au aL];exact (inv.xc.ext e3).put (qd _ o au) (ap.ext bw)
     ·have aD:=inv.EL j dw dE sC m1 (Ht j ai).2;rcases GJ j dw q dE sC m1 a7 with ag | ag
      ·exact e.qN _ ag aD
      ·exact r.lw _ ag
 have afi:Inv P ops val σ W cls m ak fX g7 N R B fU h tz (Array.replicate ops.size false) 0 a0 fU.drew tz:=by
  have aE:∀ i,(Array.replicate ops.size false).getD i false=false:=by
   intro i;rw[auM,awC];split<;>rfl
  refine⟨by simp,(fun i o e _ ay _ _=>by rw[aE] at ay; cases ay),avu _,(fun q a7=>by rw[aE]; simp),Sg.toExt0,fun b ag mr=>mr,r4,?_,fun i o au e5 ah _=>?_⟩
  ·have bS:tm ops val σ (Array.replicate ops.size false)=σ:=by
    funext t;unfold tm;cases aX:ki ops t with
    | none=>rfl
    | some i=>simp only[aE]; simp
   rw[bS];exact s0.ext Sg
  ·obtain⟨mk,aD,AR,pe,iI⟩:=yB i o au e5 ah;exact nZ.lw _ pe
 exact key _ _ 0 a0 fU.drew tz afi (by simp)
theorem E5 (fH:P.follows .mixedOrders=true) (ij:∀ g,(G g).closed=true) {j:J} (ai:dG P G j) :xJ P G j:=ama (ab9 fH ij) ai
end

section
variable {P:Program} {G:Nat->U}
theorem Nu {aA ek:Operand->U} (ps:Array (Nat × Operand)) (h:∀ x∈(ps.toList.map (·.2)),aA x=ek x) :(ps.toList.map fun p=>(p.1,aA p.2))=(ps.toList.map fun p=>(p.1,ek p.2)) :=
 avO fun p av=>by rw[h p.2 (auR.2 ⟨p,av,rfl⟩)]
theorem M4 {aA ek:Operand->U} (xs:Array Operand) (h:∀ x∈xs,aA x=ek x) :xs.toList.map aA=xs.toList.map ek:=
 avO fun x af=>h x (by simpa using af)
theorem Nl {aA ek:Operand->U} (o:Option Operand) (h:∀ x∈o.toArray,aA x=ek x) :o.map aA=o.map ek:=by
 cases o with
 | none=>rfl
 | some x=>simp[h x (by simp)]
theorem Ok {aA ek:Operand->U} (h:aN) (op:Op) (af:∀ x∈op.operands,aA x=ek x) :c6 P h aA op=c6 P h ek op:=by
 cases op<;>simp only[Op.operands] at af<;>try rfl
 case build t ps=>simp only[c6]; rw[Nu ps (fun x hm=>af x (by simpa using hm))]
 case buildSlice t n ps=>simp only[c6]; rw[Nu ps (fun x hm=>af x (by simpa using hm))]
 case makeFunc fn first gB=>
  cases fn<;>simp only[c6];rw[M4 first (fun x hm=>af x (by simp[hm])),M4 gB (fun x hm=>af x (by simp[hm]))]
 case slice t x cJ ay cK=>
  simp only[c6];rw[af x (by simp),Nl cJ (fun y hm=>af y (by simp at hm ⊢; simp[hm])),Nl ay (fun y hm=>af y (by simp at hm ⊢; simp[hm])),Nl cK (fun y hm=>af y (by simp at hm ⊢; simp[hm]))]
 case call c=>
  have aC:c.args.toList.map aA=c.args.toList.map ek:=M4 c.args (fun x hm=>af x (by simp[Call.operands,hm]));simp only[c6,vF,aC];cases ah:c.callee with
  | value f=>dsimp only; rw[af f (by simp[Call.operands,ah])]
  | invoke x name=>dsimp only; rw[af x (by simp[Call.operands,ah])]
  | _=>rfl
 case makeMap t r=>
  cases r with
  | none=>rfl
  | some x=>simp only[c6]; rw[af x (by simp)]
 case next it b=>
  cases b with
  | false=>rfl
  | true=>simp only[c6]; rw[af it (by simp)]
 all_goals (simp only[c6]; simp_all)
theorem ajh {aA ek:Operand->U} (op:Op) (af:∀ x∈op.operands,aA x=ek x) :nV P aA op=nV P ek op:=by
 cases op<;>simp only[Op.operands] at af<;>try rfl
 case box t x=>simp only[nV]; rw[af x (by simp)]
 case buildSlice t n ps=>simp only[nV]; rw[Nu ps (fun x hm=>af x (by simpa using hm))]
 case makeSlice t l c=>simp only[nV]; rw[af l (by simp),af c (by simp)]
theorem acE {σ bD:Nat->U} {h h' : aN} {v:U} {op:Op} (af:∀ x∈op.operands,c3 G σ x=c3 G bD x) (am:dG P G (.op op σ h v h')) :dG P G (.op op bD h v h') :=by
 generalize ai:J.op op σ h v h'=j at am
 induction am generalizing v h'<;>cases ai
 case Ik ak=>exact .Ik (by rw[<-Ok h op af]; exact ak)
 case Bj=>exact .Bj (by rw[<-Ok h op af]; assumption) (by assumption)
 case Jb=>exact .Jb (by first | (rename_i aR; exact aR rfl) | (rename_i aR _; exact aR rfl) | (rename_i aR _ _; exact aR rfl)) (by assumption) (by assumption)
inductive bQ where
 | skip (i:Nat)
 | pure (i:Nat) (v:U)
 | new (i:Nat) (v:U) (cs:List U)
 | gY (i:Nat) (v:U) (ad:aN)
def bQ.idx:bQ->Nat
 | .skip i | .pure i _ | .new i _ _ | .gY i _ _=>i
def bQ.val:bQ->U
 | .skip _=>gL
 | .pure _ v | .new _ v _ | .gY _ v _=>v
def bQ.jP:bQ->Bool
 | .gY ..=>true
 | _=>false
def bQ.uK:bQ->Bool
 | .skip _=>true
 | _=>false
def bQ.cls:bQ->Fr
 | .skip _ | .pure ..=>.pure
 | .new ..=>.new
 | .gY ..=>.gY
def bQ.cs:bQ->List U
 | .new _ _ cs=>cs
 | _=>[]
structure og where
 σ:Nat->U
 h:aN
def xX (ops:Array Oper) (i:Nat) :Option Tmp:=(ops[i]?).bind (·.dst)
def qy (h:aN) :bQ->aN
 | .skip _ | .pure ..=>h
 | .new _ _ cs=>h.push (.cells cs.length cs)
 | .gY _ _ ad=>ad
def mA (ops:Array Oper) (s:og) (t:bQ) :og:=⟨hV s.σ (xX ops t.idx) t.val,qy s.h t⟩
def hi (ops:Array Oper) (s0:og) (tr:List bQ) (p:Nat) :og:=(tr.take p).foldl (mA ops) s0
theorem BD {ops:Array Oper} {s0:og} {tr:List bQ} {p:Nat} {t:bQ} (h:tr[p]? = some t) :hi ops s0 tr (p+1)=mA ops (hi ops s0 tr p) t:=by
 unfold hi;have aL:p<tr.length:=(auk.1 h).1;rw[List.take_succ_eq_append_getElem aL,awG];have:tr[p]=t:=(auk.1 h).2;simp[this]
def xK (P:Program) (G:Nat->U) (ops:Array Oper) (s:og) :bQ->Prop
 | .skip i=>∃ o,ops[i]? = some o/\k7 ops s.σ o=some false
 | .pure i v=>∃ o,ops[i]? = some o/\k7 ops s.σ o=some true
 | .new i v cs=>∃ o mk,ops[i]? = some o/\k7 ops s.σ o=some true/\nV P (c3 G s.σ) o.op=some (cs,mk)/\v=mk s.h.n
 | .gY i v ad=>∃ o,ops[i]? = some o/\k7 ops s.σ o=some true/\dG P G (.op o.op s.σ s.h v ad)/\s.h.n<=ad.n
def Jr (P:Program) (G:Nat->U) (ops:Array Oper) (s:og) (h:aN) :bQ->Prop
 | .pure i v=>∀ o,ops[i]? = some o->c6 P h (c3 G s.σ) o.op=some (.val v h)
 | .new _ _ cs=>h.f s.h.n=.cells cs.length cs
 | _=>True
structure zB (ops:Array Oper) (pre:Nat->Nat->Bool) (tr:List bQ) :Prop where
 hY:tA ops pre
 all:∀ i,i<ops.size->∃ (p:Nat) (t:bQ),tr[p]? = some t/\t.idx=i
 inj:∀ (p cp:Nat) (t gK:bQ),tr[p]? = some t->tr[cp]? = some gK->t.idx=gK.idx->p=cp
 IH:∀ (p:Nat) (t:bQ),tr[p]? = some t->t.idx<ops.size
 YU:∀ (p cp:Nat) (t gK:bQ),tr[p]? = some t->tr[cp]? = some gK->p<cp->pre t.idx gK.idx=false
 eager:∀ (p cp:Nat) (t gK:bQ),tr[p]? = some t->tr[cp]? = some gK->p<cp->t.jP=true->pre gK.idx t.idx=true
structure Js (P:Program) (G:Nat->U) (ops:Array Oper) (pre:Nat->Nat->Bool) (s0:og) (tr:List bQ) :Prop where
 step:∀ (p:Nat) (t:bQ),tr[p]? = some t->xK P G ops (hi ops s0 tr p) t
 still:∀ (q:Nat),(q=tr.length\/∃ t:bQ,tr[q]? = some t/\t.jP=true)->∀ (p:Nat) (t:bQ),p<q->tr[p]? = some t->
  (∀ (cp:Nat) (gK:bQ),cp<q->tr[cp]? = some gK->gK.jP=true->pre gK.idx t.idx=false)->Jr P G ops (hi ops s0 tr p) (hi ops s0 tr q).h t
def ep (tr:List bQ) (i:Nat) :Nat:=tr.findIdx fun t=>t.idx == i
theorem y9 {ops:Array Oper} {pre:Nat->Nat->Bool} {tr:List bQ} (gJ:zB ops pre tr) {i:Nat} (ay:i<ops.size) :∃ t,tr[ep tr i]? = some t/\t.idx=i:=by
 obtain⟨p,t,av,aW⟩:=gJ.all i ay;have aL:p<tr.length:=(auk.1 av).1;have hc:∃ x∈tr,(x.idx == i)=true:=⟨t,aut av,by simpa using aW⟩
 have AD:ep tr i<tr.length:=List.findIdx_lt_length_of_exists hc;have:=List.findIdx_getElem (w:=AD);exact⟨tr[ep tr i],by simp[AD],by unfold ep; simpa using this⟩
theorem Iq {ops:Array Oper} {pre:Nat->Nat->Bool} {tr:List bQ} (gJ:zB ops pre tr) {p:Nat} {t:bQ} (av:tr[p]? = some t) :ep tr t.idx=p:=by
 obtain⟨gK,ad,ae⟩:=y9 gJ (gJ.IH p t av);exact gJ.inj _ _ _ _ ad av ae
theorem Ym {ops:Array Oper} {pre:Nat->Nat->Bool} {tr:List bQ} (gJ:zB ops pre tr) (s0:og) :∀ p,p<=tr.length->∀ t,
  (hi ops s0 tr p).σ t=match ki ops t with | some j=>(if ep tr j<p then ((tr[ep tr j]?).map bQ.val).getD .bad else s0.σ t) | none=>s0.σ t:=by
 intro p
 induction p with
 | zero=>
  intro _ t;simp only[hi,avG,List.foldl_nil];cases ki ops t<;>simp
 | succ p aR=>
  intro av t;have aL:p<tr.length:=by omega
  have fv:tr[p]? = some tr[p] :=auo aL;rw[BD fv];simp only[mA];have DJ:=aR (by omega) t;have pg:=Iq gJ fv;have agv:=gJ.IH p _ fv;have iK:ops[tr[p].idx]? = some ops[tr[p].idx] :=by simp[agv]
  cases bf:xX ops tr[p].idx with
  | none=>
   simp only[hV,DJ];cases aX:ki ops t with
   | none=>rfl
   | some j=>
    simp only;obtain⟨o,au,LG⟩:=zw aX;have bP:ep tr j≠p:=by
     intro aS;obtain⟨Oy,ad,ae⟩:=y9 gJ ((auO.1 au).1);rw[aS,fv] at ad;cases ad;rw[<-ae] at au;simp only[xX,au,av8] at bf;rw[LG] at bf; cases bf
    by_cases kQ:ep tr j<p
    ·rw[if_pos kQ,if_pos (by omega)]
    ·rw[if_neg kQ,if_neg (by omega)]
  | some d=>
   simp only[hV];by_cases aW:t=d
   ·subst aW;have qd:ops[tr[p].idx].dst=some t:=by simpa [xX,iK] using bf
    rw[hP,gJ.hY.one _ _ t iK qd];simp[pg,fv]
   ·rw[b2 _ _ _ _ aW,DJ];cases aX:ki ops t with
    | none=>rfl
    | some j=>
     simp only;obtain⟨o,au,LG⟩:=zw aX;have bP:ep tr j≠p:=by
      intro aS;obtain⟨Oy,ad,ae⟩:=y9 gJ ((auO.1 au).1);rw[aS,fv] at ad;cases ad;rw[<-ae] at au;simp only[xX,au,av8] at bf;rw[LG] at bf; cases bf;exact aW rfl
     by_cases kQ:ep tr j<p
     ·rw[if_pos kQ,if_pos (by omega)]
     ·rw[if_neg kQ,if_neg (by omega)]
theorem akn {ops:Array Oper} {pre:Nat->Nat->Bool} (hY:tA ops pre) (cQ:∀ (i:Nat) (o:Oper) (e:Edge),ops[i]? = some o->e∈o.after->Region.binds .any e=true->∃ dw,ops[e.on]? = some dw) :∀ (i:Nat) (o:Oper),ops[i]? = some o->∀ j,pre i j=true->j<i:=by
 intro i
 induction i using Nat.strongRecOn with
 | _ i aR=>
  intro o au j ai;obtain⟨e,am,ag,nG⟩:=hY.chain i o j au ai;have aL:=hY.Cx i o e au am ag;rcases nG with rfl | nG
  ·exact aL
  ·obtain⟨dw,dE⟩:=cQ i o e au am ag;have:=aR e.on aL dw dE j nG;omega
theorem ajt {ops:Array Oper} {pre:Nat->Nat->Bool} (hY:tA ops pre) (i:Nat) (o:Oper) (au:ops[i]? = some o) (av:pre i i=true) :False:=by
 have:=akn hY (fun i o e au am ag=>by
  have ad:=hY.Cx i o e au am ag;have ae:=(auO.1 au).1;exact⟨ops[e.on]'(by omega),by simp⟩) i o au i av
 omega
theorem Sm {ops:Array Oper} {pre:Nat->Nat->Bool} {tr:List bQ} (gJ:zB ops pre tr) (s0:og) {i:Nat} {o:Oper} (au:ops[i]? = some o) {t:Nat} (aW:t∈o.looksAt ops) :
  nC ops pre (fun j=>((tr[ep tr j]?).map bQ.val).getD .bad) s0.σ i o t=(hi ops s0 tr (ep tr i)).σ t:=by
 have ay:i<ops.size:=(auO.1 au).1;obtain⟨dq,ad,ae⟩:=y9 gJ ay;have dO:ep tr i<=tr.length:=avY (auk.1 ad).1;rw[Ym gJ s0 _ dO];unfold nC;rw[if_pos (by simpa using aW)];cases aX:ki ops t with
 | none=>rfl
 | some j=>
  simp only;obtain⟨WC,aga,_⟩:=zw aX;obtain⟨Oy,aj,aG⟩:=y9 gJ ((auO.1 aga).1);have key:pre i j=true<->ep tr j<ep tr i:=by
   constructor
   ·intro av;rcases avI (ep tr j) (ep tr i) with h | h | h
    ·exact h
    ·exfalso;rw[h,ad] at aj;cases aj;have mo:i=j:=by rw[<-ae,<-aG]
     subst mo;exact ajt gJ.hY i o au av
    ·have:=gJ.YU _ _ _ _ ad aj h;rw[ae,aG] at this;rw[this] at av; cases av
   ·intro aL;rcases gJ.hY.acc i o t j au aW aX with aS | aS | rfl
    ·exact aS
    ·have:=gJ.YU _ _ _ _ aj ad aL;rw[ae,aG] at this;rw[this] at aS; cases aS
    ·omega
  by_cases av:pre i j=true
  ·rw[if_pos av,if_pos (key.1 av)]
  ·rw[if_neg av,if_neg (fun aS=>av (key.2 aS))]
def fc (tr:List bQ) :List Nat:=(List.range tr.length).filter fun p=>((tr[p]?).map bQ.jP).getD false
theorem H8 {tr:List bQ} {p:Nat}:p∈fc tr<->∃ t,tr[p]? = some t/\t.jP=true:=by
 unfold fc;rw[ave,auZ];constructor
 ·rintro⟨ad,ae⟩;refine⟨tr[p],by simp[ad],?_⟩;simpa [ad] using ae
 ·rintro⟨t,ad,ae⟩;exact⟨(auk.1 ad).1,by simp[ad,ae]⟩
theorem vZ {tr:List bQ} {q eb:Nat} (a7:q<eb) (lq:eb<(fc tr).length) :(fc tr).getD q 0<(fc tr).getD eb 0:=by
 have av:(fc tr).Pairwise (· < ·) :=List.Pairwise.filter _ List.pairwise_lt_range;have:=avW.1 av q eb (by omega) lq a7;simpa [List.getD,lq,show q<(fc tr).length by omega] using this
theorem Sk {tr:List bQ} {q:Nat} (a7:q<(fc tr).length) :∃ t,tr[(fc tr).getD q 0]? = some t/\t.jP=true:=by
 apply H8.1;simp[List.getD,a7]
theorem F5 {tr:List bQ} {p:Nat} (av:p∈fc tr) :∃ q,q<(fc tr).length/\(fc tr).getD q 0=p:=by
 obtain⟨q,a7,rfl⟩:=List.getElem_of_mem av;exact⟨q,a7,by simp[List.getD,a7]⟩
theorem Ez {ops:Array Oper} {pre:Nat->Nat->Bool} {s0:og} {tr:List bQ} (qK:Js P G ops pre s0 tr) :∀ (k p:Nat),p+k<=tr.length->(hi ops s0 tr p).h.n<=(hi ops s0 tr (p+k)).h.n
 | 0,p,_=>aun _
 | k+1,p,av=>by
  have aR:=Ez qK k p (by omega);have aL:p+k<tr.length:=by omega
  have fv:tr[p+k]? = some tr[p+k] :=auo aL;have ak:=qK.step _ _ fv;rw[show p+(k+1)=(p+k)+1 from rfl,BD fv];refine au7 aR ?_;cases aW:tr[p+k] with
  | skip i=>simp[mA,qy]
  | pure i v=>simp[mA,qy]
  | new i v cs=>simp[mA,qy,fx]
  | gY i v ad=>
   rw[aW] at ak;obtain⟨o,_,_,_,aD⟩:=ak;simpa [mA,qy] using aD
theorem Kz {ops:Array Oper} {s0:og} {tr:List bQ}:∀ (k p:Nat),p+k<=tr.length->(∀ r,p<=r->r<p+k->r∉fc tr)->oV (hi ops s0 tr p).h (hi ops s0 tr (p+k)).h
 | 0,p,_,_=>⟨[],rfl⟩
 | k+1,p,av,cR=>by
  obtain⟨l,al⟩:=Kz (ops:=ops) (s0:=s0) (tr:=tr) k p (by omega) (fun r ad ae=>cR r ad (by omega));have aL:p+k<tr.length:=by omega
  have fv:tr[p+k]? = some tr[p+k] :=auo aL;have bP:tr[p+k].jP≠true:=fun aS=>cR (p+k) (by omega) (by omega) (H8.2 ⟨_,fv,aS⟩)
  rw[show p+(k+1)=(p+k)+1 from rfl,BD fv];cases aW:tr[p+k] with
  | skip i=>exact⟨l,by simp[mA,qy,al]⟩
  | pure i v=>exact⟨l,by simp[mA,qy,al]⟩
  | new i v cs=>exact⟨l++[cs],by simp[mA,qy,al,wW]⟩
  | gY i v ad=>rw[aW] at bP; exact absurd rfl bP
theorem dG.ab7 {id:Nat} {ops:Array Oper} {pre:Nat->Nat->Bool} {N:Nat} {s0:og} {tr:List bQ} (gJ:zB ops pre tr) (bf:∀ (i:Nat) (o:Oper),ops[i]? = some o->jZ N o.dst=true) (qK:Js P G ops pre s0 tr) :
  dG P G (.code (.region id ops true) N s0.σ s0.h .normal (hi ops s0 tr tr.length).σ (hi ops s0 tr tr.length).h) :=by
 -- the step that carries out operation i
 have iu:∀ (i:Nat) (o:Oper),ops[i]? = some o->∃ t,tr[ep tr i]? = some t/\t.idx=i/\xK P G ops (hi ops s0 tr (ep tr i)) t:=fun i o au=>by
  obtain⟨t,ad,ae⟩:=y9 gJ ((auO.1 au).1);exact⟨t,ad,ae,qK.step _ _ ad⟩
 have anI:∀ (i:Nat) (o:Oper),ops[i]? = some o->k7 ops (nC ops pre (fun j=>((tr[ep tr j]?).map bQ.val).getD .bad) s0.σ i o) o=k7 ops (hi ops s0 tr (ep tr i)).σ o:=fun i o au=>by
  unfold k7;cases aw:o.guard with
  | none=>rfl
  | some gd=>
   obtain⟨j,BP⟩:=gd;simp only;cases aeJ:(ops[j]?).bind (·.dst) with
   | none=>rfl
   | some d=>
    simp only;rw[Sm gJ s0 au (t:=d) (by simp[Oper.looksAt,aw,aeJ])]
 have Ni:∀ (i:Nat) (o:Oper),ops[i]? = some o->∀ x∈o.op.operands,c3 G (hi ops s0 tr (ep tr i)).σ x=c3 G (nC ops pre (fun j=>((tr[ep tr j]?).map bQ.val).getD .bad) s0.σ i o) x:=fun i o au x af=>by
  cases x with
  | tmp t=>
   refine (Sm gJ s0 au (t:=t) ?_).symm;simp only[Oper.looksAt,avi,List.mem_filterMap];exact .inl ⟨.tmp t,by simpa using af,rfl⟩
  | _=>rfl
 -- the moment ahead of effect k,or the end
 have OA:∀ k,k<=(fc tr).length->∃ T,T<=tr.length/\(T=tr.length\/∃ t,tr[T]? = some t/\t.jP=true)/\(T=if k<(fc tr).length then (fc tr).getD k 0 else tr.length) :=fun k ar=>by
  by_cases aL:k<(fc tr).length
  ·obtain⟨t,ad,ae⟩:=Sk aL;exact⟨_,avY (auk.1 ad).1,.inr ⟨t,ad,ae⟩,by rw[if_pos aL]⟩
  ·exact⟨_,aun _,.inl rfl,by rw[if_neg aL]⟩
 have ht:∀ q,q<(fc tr).length->∃ t,tr[(fc tr).getD q 0]? = some t/\t.jP=true/\((tr[(fc tr).getD q 0]?).map bQ.idx).getD 0=t.idx:=fun q a7=>by
  obtain⟨t,ad,ae⟩:=Sk a7;exact⟨t,ad,ae,by rw[ad]; rfl⟩
 have Yv:∀ (i:Nat) (o:Oper) (t:bQ),ops[i]? = some o->tr[ep tr i]? = some t->t.idx=i->t.jP=false->∀ k,z7 pre (fc tr).length (fun q=>((tr[(fc tr).getD q 0]?).map bQ.idx).getD 0) i k->
   Jr P G ops (hi ops s0 tr (ep tr i)) (hi ops s0 tr (if k<(fc tr).length then (fc tr).getD k 0 else tr.length)).h t:=by
  intro i o t au aW UV bP k aE;obtain⟨rr,Lc,aeS⟩:=aE;obtain⟨T,Tu,KP,ov⟩:=OA k rr;rw[<-ov];have aqH:ep tr i<tr.length:=(auk.1 aW).1;have agh:ep tr i<T:=by
   by_cases aL:k<(fc tr).length
   ·rw[if_pos aL] at ov;obtain⟨amE,ad,ae,aj⟩:=ht k aL;rw[<-ov] at ad;rcases avI (ep tr i) T with h | h | h
    ·exact h
    ·rw[h,ad] at aW;cases aW;rw[bP] at ae; cases ae
    ·have am:=gJ.eager T (ep tr i) amE t ad aW h ae;have:=Lc k aL (by (try simp only); rw[aj,<-UV]; exact am);omega
   ·rw[if_neg aL] at ov;omega
  refine qK.still T KP _ t agh aW (fun cp gK iC HD g2=>?_);obtain⟨q,a7,wj⟩:=F5 (H8.2 ⟨gK,HD,g2⟩);obtain⟨atU,ad,ae,aj⟩:=ht q a7;rw[wj,HD] at ad;cases ad;have DO:q<k:=by
   by_cases aL:k<(fc tr).length
   ·rw[if_pos aL] at ov;rcases avy q k with h | h
    ·exact h
    ·rcases aw0 h with h | h
     ·subst h; omega
     ·have:=vZ (tr:=tr) h a7;omega
   ·omega
  cases av:pre gK.idx t.idx with
  | false=>rfl
  | true=>
   have:=aeS q a7 (by (try simp only); rw[aj,<-UV]; exact av);omega
 refine dG.draw pre (fun j=>((tr[ep tr j]?).map bQ.val).getD .bad) (fun j=>((tr[ep tr j]?).map fun t=>!t.uK).getD false) (fun j=>((tr[ep tr j]?).map bQ.cls).getD .pure) (fc tr).length
  (fun q=>((tr[(fc tr).getD q 0]?).map bQ.idx).getD 0) (fun k=>(hi ops s0 tr (if k<(fc tr).length then (fc tr).getD k 0 else tr.length)).h) (fun q=>(hi ops s0 tr ((fc tr).getD q 0+1)).h)
  (fun j=>(hi ops s0 tr (ep tr j)).h.n) (fun j=>((tr[ep tr j]?).map bQ.cs).getD []) gJ.hY bf ?_ ?_ ?_ ?_ ?_ ?_ ?_ ?_ ?_ ?_ ?_ ?_ ?_ ?_ ?_
 ·-- h0
  obtain⟨T,Tu,KP,ov⟩:=OA 0 (avu _)
  try simp only
  rw[<-ov];have:=Kz (ops:=ops) (s0:=s0) (tr:=tr) T 0 (by omega) (fun r _ az hc=>by
   obtain⟨q,a7,wj⟩:=F5 hc;rw[if_pos (by omega)] at ov;rcases aw0 (avu q) with h | h
   ·subst h; omega
   ·have:=vZ (tr:=tr) h a7;omega)
  simpa [hi] using this
 ·simp
 ·-- hσ
  funext t;rw[Ym gJ s0 _ (aun _)];cases aX:ki ops t with
  | none=>rfl
  | some j=>
   obtain⟨o,au,_⟩:=zw aX;obtain⟨Oy,ad,_⟩:=y9 gJ ((auO.1 au).1);simp only;rw[if_pos ((auk.1 ad).1)]
 ·-- heff
  intro i o au e5 ah;obtain⟨t,ad,ae,_⟩:=iu i o au;simp only[ad,auv,au6] at ah;have am:t.jP=true:=by cases t<;>simp_all [bQ.cls,bQ.jP]
  obtain⟨q,a7,wj⟩:=F5 (H8.2 ⟨t,ad,am⟩);exact⟨q,a7,by rw[wj,ad]; exact ae⟩
 ·-- heff'
  intro q a7;obtain⟨t,ad,ae,aj⟩:=ht q a7;refine⟨ops[t.idx]'(gJ.IH _ _ ad),by rw[aj]; simp[gJ.IH _ _ ad],?_,?_⟩
  ·simp only[aj,Iq gJ ad,ad,auv,au6];cases t<;>simp_all [bQ.uK,bQ.jP]
  ·simp only[aj,Iq gJ ad,ad,auv,au6];cases t<;>simp_all [bQ.cls,bQ.jP]
 ·-- hord
  intro q eb a7 lq aL;obtain⟨t,ad,ae,aj⟩:=ht q a7;obtain⟨gK,ef,gC,p8⟩:=ht eb lq;simp only[aj,p8];exact gJ.eager _ _ t gK ad ef (vZ aL lq) ae
 ·-- hinj
  intro q eb a7 lq am;obtain⟨t,ad,ae,aj⟩:=ht q a7;obtain⟨gK,ef,gC,p8⟩:=ht eb lq;simp only[aj,p8] at am;have:=gJ.inj _ _ t gK ad ef am;rcases avI q eb with h | h | h
  ·have:=vZ (tr:=tr) h lq; omega
  ·exact h
  ·have:=vZ (tr:=tr) h a7; omega
 ·-- hwant
  intro i o au;rw[anI i o au];obtain⟨t,ad,ae,aj⟩:=iu i o au;simp only[ad,auv,au6];cases t with
  | skip j=>obtain⟨dw,dE,aX⟩:=aj; simp only[bQ.idx] at ae; subst ae; rw[au] at dE; cases dE; exact aX
  | pure j v=>obtain⟨dw,dE,aX⟩:=aj; simp only[bQ.idx] at ae; subst ae; rw[au] at dE; cases dE; exact aX
  | new j v cs=>obtain⟨dw,mk,dE,aX,_⟩:=aj; simp only[bQ.idx] at ae; subst ae; rw[au] at dE; cases dE; exact aX
  | gY j v ef=>obtain⟨dw,dE,aX,_⟩:=aj; simp only[bQ.idx] at ae; subst ae; rw[au] at dE; cases dE; exact aX
 ·-- hskip
  intro i o au e5;obtain⟨t,ad,ae,aj⟩:=iu i o au;simp only[ad,auv,au6] at e5 ⊢;cases t<;>simp_all [bQ.uK,bQ.val]
 ·-- hpure
  intro i o au e5 ah k aE;obtain⟨t,ad,ae,aj⟩:=iu i o au;simp only[ad,auv,au6] at e5 ah;have b5:=Yv i o t au ad ae (by cases t<;>simp_all [bQ.cls,bQ.jP]) k aE;cases t with
  | pure j v=>
   simp only[bQ.idx] at ae;subst ae;have:=b5 o au;rw[Ok _ _ (Ni j o au)] at this;simpa [ad,bQ.val] using this
  | skip j=>simp[bQ.uK] at e5
  | new j v cs=>simp[bQ.cls] at ah
  | gY j v ef=>simp[bQ.cls] at ah
 ·-- hnew
  intro i o au e5 ah;obtain⟨t,ad,ae,aj⟩:=iu i o au;simp only[ad,auv,au6] at e5 ah;cases t with
  | new j v cs=>
   obtain⟨dw,mk,dE,_,aD,ap⟩:=aj;simp only[bQ.idx] at ae;subst ae;rw[au] at dE; cases dE;rw[ajh _ (Ni j o au)] at aD;refine⟨mk,by simpa [ad,bQ.cs] using aD,by simpa [ad,bQ.val] using ap,?_,fun k aE=>?_⟩
   ·have dO:ep tr j<=tr.length:=avY (auk.1 ad).1;have:=Ez qK (ep tr j) 0 (by omega);simpa [hi] using this
   ·have b5:=Yv j o _ au ad rfl rfl k aE;simpa [Jr,ad,bQ.cs] using b5
  | skip j=>simp[bQ.uK] at e5
  | pure j v=>simp[bQ.cls] at ah
  | gY j v ef=>simp[bQ.cls] at ah
 ·-- hbid
  intro i j o dw au dE ap8 sC fj m1 ag;have S5:∀ (i:Nat) (o:Oper),ops[i]? = some o->((tr[ep tr i]?).map bQ.cls).getD .pure=.new->∀ p,ep tr i<p->p<=tr.length->(hi ops s0 tr (ep tr i)).h.n<(hi ops s0 tr p).h.n:=by
   intro i o au ah p av gE;obtain⟨t,ad,ae,_⟩:=iu i o au;simp only[ad,auv,au6] at ah;have aG:=Ez qK (p - (ep tr i+1)) (ep tr i+1) (by omega);rw[show ep tr i+1+(p - (ep tr i+1))=p by omega,BD ad] at aG;cases t with
   | new j v cs=>simp only[mA,qy,fx] at aG; omega
   | skip j=>simp[bQ.cls] at ah
   | pure j v=>simp[bQ.cls] at ah
   | gY j v ef=>simp[bQ.cls] at ah
  obtain⟨t,ad,ae,_⟩:=iu i o au;obtain⟨gK,ef,gC,_⟩:=iu j dw dE;have al:=(auk.1 ad).1;have dt:=(auk.1 ef).1;rcases avI (ep tr i) (ep tr j) with h | h | h
  ·have:=S5 i o au fj _ h (avY dt); (try simp only at ag); omega
  ·rw[h,ef] at ad; cases ad; rw[<-ae,<-gC]
  ·have:=S5 j dw dE m1 _ h (avY al); (try simp only at ag); omega
 ·-- hbid'
  intro i o q au e5 ah a7;obtain⟨t,ad,ae,_⟩:=iu i o au;obtain⟨Ox,aK,aU,a1⟩:=ht q a7;simp only[ad,auv,au6] at ah;have al:=(auk.1 ad).1;have dt:=(auk.1 aK).1;simp only[if_pos a7];rcases avI (ep tr i) ((fc tr).getD q 0) with h | h | h
  ·left;have aG:=Ez qK ((fc tr).getD q 0 - (ep tr i+1)) (ep tr i+1) (by omega);rw[show ep tr i+1+((fc tr).getD q 0 - (ep tr i+1))=(fc tr).getD q 0 by omega,BD ad] at aG;cases t with
   | new j v cs=>simp only[mA,qy,fx] at aG; omega
   | skip j=>simp[bQ.cls] at ah
   | pure j v=>simp[bQ.cls] at ah
   | gY j v ef=>simp[bQ.cls] at ah
  ·rw[h,aK] at ad; cases ad;cases t<;>simp_all [bQ.cls,bQ.jP]
  ·right;have aG:=Ez qK (ep tr i - ((fc tr).getD q 0+1)) ((fc tr).getD q 0+1) (by omega)
   rwa [show (fc tr).getD q 0+1+(ep tr i - ((fc tr).getD q 0+1))=ep tr i by omega] at aG
 ·-- hgrow
  intro q a7;obtain⟨Ox,aK,aU,a1⟩:=ht q a7;have dt:=(auk.1 aK).1;obtain⟨T,Tu,KP,ov⟩:=OA (q+1) (by omega)
  try simp only
  rw[<-ov];have aL:(fc tr).getD q 0<T:=by
   by_cases h:q+1<(fc tr).length
   ·rw[if_pos h] at ov;have:=vZ (tr:=tr) (show q<q+1 by omega) h;omega
   ·rw[if_neg h] at ov; omega
  have:=Kz (ops:=ops) (s0:=s0) (tr:=tr) (T - ((fc tr).getD q 0+1)) ((fc tr).getD q 0+1) (by omega) (fun r kx nM hc=>by
   obtain⟨eb,lq,wj⟩:=F5 hc;have Hv:q<eb:=by
    rcases avI q eb with h | h | h
    ·exact h
    ·subst h; omega
    ·have:=vZ (tr:=tr) h a7; omega
   by_cases h:q+1<(fc tr).length
   ·rw[if_pos h] at ov;rcases aw0 (show q+1<=eb from Hv) with h' | h'
    ·subst h'; omega
    ·have:=vZ (tr:=tr) h' lq; omega
   ·omega)
  rwa [show (fc tr).getD q 0+1+(T - ((fc tr).getD q 0+1))=T by omega] at this
 ·-- hcall
  intro q o a7 au;obtain⟨Ox,aK,aU,a1⟩:=ht q a7;have pg:=Iq gJ aK;simp only[a1] at au ⊢;have ak:=qK.step _ _ aK;cases Ox with
  | gY j v ad=>
   obtain⟨dw,dE,_,am,_⟩:=ak;simp only[bQ.idx] at au pg ⊢;rw[au] at dE; cases dE;have ln:=Ni j o au;rw[pg] at ln;have:=acE ln am;simp only[pg,aK,if_pos a7,auv,au6,bQ.val];rw[BD aK];exact this
  | skip j=>simp[bQ.jP] at aU
  | pure j v=>simp[bQ.jP] at aU
  | new j v cs=>simp[bQ.jP] at aU
end
abbrev hB:=cC U
def look (s:hB) (t:Nat) :U:=match s.get t with | some v=>v | none=>gL
theorem V7 (s:hB) (t:Nat) (v:U) :look (s.set t v)=bB (look s) t v:=by
 funext u;simp only[look,cC.Gf,bB];by_cases h:u=t
 ·simp[h]
 ·simp[h]
def EP (s:hB) (dst:Option Tmp) (v:U) :hB:=match dst with | some d=>s.set d v | none=>s
theorem HZ (s:hB) (dst:Option Tmp) (v:U) :look (EP s dst v)=hV (look s) dst v:=by
 cases dst with
 | none=>rfl
 | some d=>exact V7 s d v
def Bi:Nat->hB->List U->hB
 | _,s,[]=>s
 | k,s,v::vs=>Bi (k+1) (s.set k v) vs
theorem V6:∀ (vs:List U) (k:Nat) (s:hB),look (Bi k s vs)=fun t=>if k<=t/\t<k+vs.length then vs.getD (t - k) gL else look s t
 | [],k,s=>by funext t; simp only[Bi,au1]; rw[if_neg (by omega)]
 | v::vs,k,s=>by
  funext t;rw[Bi,V6 vs (k+1),V7];simp only[auF,bB];by_cases ad:k+1<=t/\t<k+1+vs.length
  ·rw[if_pos ad,if_pos (by omega),show t - k=(t - (k+1))+1 by omega];simp
  ·rw[if_neg ad];by_cases ae:t=k
   ·subst ae; rw[if_pos rfl,if_pos (by omega)]; simp
   ·rw[if_neg ae,if_neg (by omega)]
def BH (m i:Nat) :Bool:=Nat.testBit m i
def vY (ms:List Nat) :List Edge->Nat
 | []=>0
 | e::es=>match Region.binds .any e with
  | true=>Nat.lor (Nat.lor (2 ^ e.on) (ms.getD e.on 0)) (vY ms es)
  | false=>vY ms es
def Wk (ms:List Nat) :List Oper->List Nat
 | []=>ms
 | o::os=>Wk (ms++[vY ms o.after.toList]) os
def i8 (ops:Array Oper) :List Nat:=Wk [] ops.toList
def pw (ms:List Nat) (i j:Nat) :Bool:=BH (ms.getD i 0) j
def kY:Op->Bool
 | .move _ | .assign _ | .pick .. | .alloc _ | .box .. | .build .. | .buildSlice .. | .load .. | .nilCheck _ | .binOp .. | .unOp .. | .convert .. | .makeInterface .. | .makeFunc .. | .makeSlice .. | .slice .. | .fieldAddr .. | .field .. | .indexAddr .. | .index .. | .extract ..=>false
 | .call c=>match c.callee with
  | .builtin .len | .builtin .cap | .builtin .min | .builtin .max=>false
  | _=>true
 | _=>true
def ahN:Op->Bool
 | .move _ | .assign _ | .pick .. | .build .. | .load .. | .nilCheck _ | .binOp .. | .unOp .. | .convert .. | .makeInterface .. | .makeFunc .. | .slice .. | .fieldAddr .. | .field .. | .indexAddr .. | .index .. | .extract ..=>true
 | .call c=>match c.callee with
  | .builtin .len | .builtin .cap | .builtin .min | .builtin .max=>true
  | _=>false
 | _=>false
def Nw (done:Nat) (gY:Bool) :Nat->List Nat->List Oper->Option Nat
 | i,m::ms,o::os=>match !BH done i&&Nat.beq (Nat.land m done) m&&(kY o.op == gY) with
  | true=>some i
  | false=>Nw done gY (i+1) ms os
 | _,_,_=>none
def N5 (ms:List Nat) (os:List Oper) :Nat->Nat->List Nat
 | 0,_=>[]
 | k+1,done=>match Nw done false 0 ms os with
  | some i=>i::N5 ms os k (Nat.lor done (2 ^ i))
  | none=>match Nw done true 0 ms os with
   | some i=>i::N5 ms os k (Nat.lor done (2 ^ i))
   | none=>[]
def fL (ms:List Nat) (ops:Array Oper) :List Nat:=N5 ms ops.toList ops.size 0
def jc (p:Nat->Oper->Bool) :Nat->List Oper->Bool
 | _,[]=>true
 | i,o::os=>p i o&&jc p (i+1) os
theorem Pp {p:Nat->Oper->Bool}:∀ (l:List Oper) (i:Nat),jc p i l=true->∀ (j:Nat) (o:Oper),l[j]? = some o->p (i+j) o=true
 | [],i,_,j,o,h=>by simp at h
 | x::l,i,h,j,o,ai=>by
  simp only[jc,aus] at h;cases j with
  | zero=>simp only[auN,Option.some.injEq] at ai; subst ai; exact h.1
  | succ j=>
   simp only[au5] at ai;have:=Pp l (i+1) h.2 j o ai
   rwa [show i+1+j=i+(j+1) by omega] at this
def Kb (t:Nat) (o:Oper) :Bool:=match o.dst with | some d=>Nat.beq d t | none=>false
def zu (t:Nat) :Nat->List Oper->Option Nat
 | _,[]=>none
 | i,o::os=>match Kb t o with
  | true=>some i
  | false=>zu t (i+1) os
def Ka (ms:List Nat) (ops:Array Oper) :Bool:=
 jc (fun i o=>
  Nat.beq (ms.getD i 0) (vY ms o.after.toList) &&
  (o.after.toList.all fun e=>!Region.binds .any e||Nat.blt e.on i) &&
  (match o.dst with | some d=>(match zu d 0 ops.toList with | some j=>Nat.beq j i | none=>false) | none=>true) &&
  ((o.looksAt ops).all fun t=>match zu t 0 ops.toList with | some j=>pw ms i j||pw ms j i||Nat.beq j i | none=>true)) 0 ops.toList &&
 Region.noSelect ops
def Il (ms:List Nat) :List Nat->Bool
 | []=>true
 | i::r=>(r.all fun j=>!Nat.beq i j&&!pw ms i j)&&Il ms r
def Nq (ms:List Nat) (ops:Array Oper) (ord:List Nat) :Bool:=
 Ka ms ops&&Il ms ord&&Nat.beq ord.length ops.size&&(ord.all fun i=>Nat.blt i ops.size)&&(List.range ops.size).all fun i=>ord.contains i
structure ZX where
 t:bQ
 s:hB
 h:aN
section
variable (P:Program) (G:Nat->U)
end
theorem Kg (ms:List Nat) (j:Nat) :∀ (es:List Edge),BH (vY ms es) j=true->∃ e∈es,Region.binds .any e=true/\(e.on=j\/pw ms e.on j=true)
 | [],h=>by simp[vY,BH] at h
 | e::es,h=>by
  unfold vY at h;cases ag:Region.binds .any e with
  | false=>
   rw[ag] at h;obtain⟨fF,ad,ae⟩:=Kg ms j es h;exact⟨fF,awr _ ad,ae⟩
  | true=>
   rw[ag] at h;simp only[BH] at h;have h' : Nat.testBit ((2 ^ e.on ||| ms.getD e.on 0) ||| vY ms es) j=true:=h;rw[Nat.testBit_or,Nat.testBit_or,awh,awh,Nat.testBit_two_pow] at h';rcases h' with (h' | h') | h'
   ·exact⟨e,aw1,ag,.inl (by simpa using h')⟩
   ·exact⟨e,aw1,ag,.inr h'⟩
   ·obtain⟨fF,ad,ae⟩:=Kg ms j es h';exact⟨fF,awr _ ad,ae⟩
theorem ZB (t:Nat) :∀ (l:List Oper) (i:Nat),zu t i l=((List.range l.length).find? fun j=>match l[j]? with | some o=>o.dst == some t | none=>false).map (·+i)
 | [],i=>by simp[zu]
 | o::l,i=>by
  unfold zu;have aeI:Kb t o=(o.dst == some t) :=by
   unfold Kb;cases o.dst with
   | none=>rfl
   | some d=>
    by_cases h:d=t
    ·subst h; simp
    ·have:Nat.beq d t=false:=ka h;simp[this,h]
  rw[aeI,auF,List.range_succ_eq_map,awP];simp only[auN];cases ag:(o.dst == some t) with
  | true=>simp
  | false=>
   simp only[List.find?_map];rw[ZB t l (i+1)];have:((fun j=>match (o::l)[j]? with | some o=>o.dst == some t | none=>false) ∘ Nat.succ)=fun j=>match l[j]? with | some o=>o.dst == some t | none=>false:=by
    funext j; simp
   rw[this];cases (List.range l.length).find? (fun j=>match l[j]? with | some o=>o.dst == some t | none=>false) with
   | none=>rfl
   | some j=>simp; omega
theorem ZA (ops:Array Oper) (t:Nat) :zu t 0 ops.toList=ki ops t:=by
 rw[ZB];unfold ki;simp only[avJ,awd,awA,Option.map_id_fun',id_eq];congr 1
theorem ab8 {ms:List Nat} {ops:Array Oper} (h:Ka ms ops=true) :tA ops (pw ms) :=by
 unfold Ka at h;rw[aus] at h;obtain⟨h,ak⟩:=h;have key:∀ (i:Nat) (o:Oper),ops[i]? = some o->_:=fun i o au=>Pp _ 0 h i o (by simpa using au)
 simp only[avz,aus] at key;refine⟨fun i o e au am ag=>?_,fun i o j au av=>?_,fun i o t au bf=>?_,fun i o t j au aW aX=>?_,ak⟩
 ·have:=(key i o au).1.1.2;rw[ava] at this;have:=this e (by simpa using am);rw[ag] at this;simp only[Bool.not_true,Bool.false_or] at this;simpa [axq] using this
 ·have:=k0 (key i o au).1.1.1;have iC:BH (ms.getD i 0) j=true:=av;rw[this] at iC;obtain⟨e,ad,ae⟩:=Kg ms j _ iC;exact⟨e,by simpa using ad,ae⟩
 ·have:=(key i o au).1.2;rw[bf] at this;simp only at this;rw[ZA] at this;cases aX:ki ops t with
  | none=>rw[aX] at this; cases this
  | some j=>rw[aX] at this; simp only at this; rw[k0 this]
 ·have:=(key i o au).2;rw[ava] at this;have:=this t aW;rw[ZA,aX] at this;simp only[awh] at this;rcases this with (ad | ad) | ad
  ·exact .inl ad
  ·exact .inr (.inl ad)
  ·exact .inr (.inr (k0 ad))
theorem Im {ms:List Nat}:∀ {l:List Nat},Il ms l=true->∀ (p cp:Nat) (i j:Nat),l[p]? = some i->l[cp]? = some j->p<cp->i≠j/\pw ms i j=false
 | [],_,p,cp,i,j,ay,_,_=>by simp at ay
 | x::l,h,p,cp,i,j,ay,ai,aL=>by
  simp only[Il,aus,ava] at h;cases cp with
  | zero=>omega
  | succ cp=>
   simp only[au5] at ai;cases p with
   | zero=>
    simp only[auN,Option.some.injEq] at ay;subst ay;have:=h.1 j (aut ai);simp only[av4] at this;refine⟨fun am=>?_,this.2⟩;subst am;rw[s8 rfl] at this;cases this.1
   | succ p=>
    simp only[au5] at ay;exact Im h.2 p cp i j ay ai (by omega)
section
variable {P:Program} {G:Nat->U}
structure an9 (P:Program) (G:Nat->U) (ops:Array Oper) (e:ZX) :Prop where
 step:xK P G ops ⟨look e.s,e.h⟩ e.t
 pure:∀ i v,e.t=.pure i v->∃ o,ops[i]? = some o/\ahN o.op=true/\c6 P e.h (c3 G (look e.s)) o.op=some (.val v e.h)
theorem IU {ops:Array Oper} {s0:og} {t:bQ} {tr:List bQ} (p:Nat) :hi ops s0 (t::tr) (p+1)=hi ops (mA ops s0 t) tr p:=by
 simp[hi]
end

section
variable {P:Program} {G:Nat->U}
theorem Bv (w:World) (R:Nat->Prop) (i5:∀ k,w.heap.size<=k->R k) :bN R w.heap.size w aN.empty (fun _=>none) where
 blk:=fun b m hm=>by cases hm
 inj:=fun b bg m cm al=>by rw[F7] at al; cases al
 base:=fun b m al=>by rw[F7] at al; cases al
 fresh:=fun b _=>F7 b
 up:=i5
 size:=aun _
 lw:=fun b _=>rfl
theorem qz (μ:ck) (k:Nat) :¬ Own aN.empty μ k:=by
 rintro⟨b,m,al,_⟩;rw[F7] at al; cases al
theorem OB (fH:P.follows .mixedOrders=true) (ij:∀ g,(G g).closed=true) {f:FuncId} {args:List U} {r:U} {h' : aN} (am:dG P G (.call f args aN.empty r h'))
  {w:World} {A:Nat->Prop} {vs:Array Value} (aw:∀ g,ed w A (G g) (.pointer (some ⟨g,0,none⟩))) (al:vs.size=args.length)
  (ap:∀ (j:Nat) (c:U) (v:Value),args[j]? = some c->vs[j]? = some v->ed w A c v) :
  Calls P f vs w fun e w'=>∃ v μ',e=.returned v/\fW w w'/\bN (fun k=>A k\/w.heap.size<=k) w.heap.size w' h' μ'/\aO w' (fun k=>A k\/w.heap.size<=k) h' μ' r v:=by
 have up:∀ {c:U} {v:Value},ed w A c v->aO w (fun k=>A k\/w.heap.size<=k) aN.empty (fun _=>none) c v:=fun ah=>ah.up (fun k _ ar=>⟨.inl ar,qz _ k⟩)
 refine (E5 fH ij am (fun k=>A k\/w.heap.size<=k) w.heap.size w (fun _=>none) vs (Bv w _ fun k ar=>.inr ar) (fun g=>⟨ij g,up (aw g)⟩) al (fun j c v ai ga=>up (ap j c v ai ga))).mono ?_;rintro e w' ⟨v,μ',rfl,ex,rel,az⟩;exact⟨v,μ',rfl,⟨⟨ex.os,ex.tape,ex.output,ex.size,fun k ar=>ex.cd k ar (qz _ k)⟩,ex.drawn⟩,rel,az⟩
theorem amH (fH:P.follows .mixedOrders=true) (ij:∀ g,(G g).closed=true) {f:FuncId} {args:List U} {h' : aN} (am:dG P G (.call f args aN.empty (.bool true) h'))
  {w:World} {A:Nat->Prop} {vs:Array Value} (aw:∀ g,ed w A (G g) (.pointer (some ⟨g,0,none⟩))) (al:vs.size=args.length)
  (ap:∀ (j:Nat) (c:U) (v:Value),args[j]? = some c->vs[j]? = some v->ed w A c v) :
  Calls P f vs w fun e w'=>e=.returned (.bool true)/\RowKit.Below w.heap.size w w':=by
 refine (OB fH ij am aw al ap).mono ?_;rintro e w' ⟨v,μ',rfl,ag,_,az⟩;cases az;exact⟨rfl,ag.toBelow⟩
end

section
variable {α:Type}
theorem xa:∀ (k k' : Nat) (t:cC α) (n:Nat) (x:α),n<k->n<k'->t.k5 k n x=t.k5 k' n x
 | 0,_,_,_,_,h,_=>by omega
 | _+1,0,_,_,_,_,h=>by omega
 | k+1,k'+1,t,n,x,h,h'=>by
  by_cases aI:n=0
  ·subst aI;cases t<;>rfl
  ·have ag:Nat.beq n 0=false:=ka aI;cases t with
   | nil=>
    unfold cC.k5;simp only[ag];rw[xa k k' .nil (n / 2) x (by omega) (by omega),xa k k' .nil (n / 2 - 1) x (by omega) (by omega)]
   | node l v r=>
    unfold cC.k5;simp only[ag];rw[xa k k' l (n / 2) x (by omega) (by omega),xa k k' r (n / 2 - 1) x (by omega) (by omega)]
def cC.lt:cC α->cC α | .nil=>.nil | .node l _ _=>l
def cC.rt:cC α->cC α | .nil=>.nil | .node _ _ r=>r
def cC.mid:cC α->Option α | .nil=>none | .node _ v _=>v
theorem r7 (t:cC α) (x:α) :t.set 0 x=.node t.lt (some x) t.rt:=by cases t<;>rfl
theorem n3 (t:cC α) (m:Nat) (x:α) :t.set (2*m+1) x=.node (t.lt.set m x) t.mid t.rt:=by
 have ad:Nat.beq (2*m+1) 0=false:=ka (by omega);have ae:Nat.beq ((2*m+1) % 2) 1=true:=s8 (by omega);have aj:(2*m+1) / 2=m:=by omega
 cases t with
 | nil=>show cC.k5 (2*m+1+1) .nil (2*m+1) x=_; unfold cC.k5; simp only[ad,ae,aj]; rw[xa _ (m+1) _ _ _ (by omega) (by omega)]; rfl
 | node l v r=>show cC.k5 (2*m+1+1) (.node l v r) (2*m+1) x=_; unfold cC.k5; simp only[ad,ae,aj]; rw[xa _ (m+1) _ _ _ (by omega) (by omega)]; rfl
theorem n2 (t:cC α) (m:Nat) (x:α) :t.set (2*m+2) x=.node t.lt t.mid (t.rt.set m x) :=by
 have ad:Nat.beq (2*m+2) 0=false:=ka (by omega);have ae:Nat.beq ((2*m+2) % 2) 1=false:=ka (by omega);have aj:(2*m+2) / 2 - 1=m:=by omega
 cases t with
 | nil=>show cC.k5 (2*m+2+1) .nil (2*m+2) x=_; unfold cC.k5; simp only[ad,ae,aj]; rw[xa _ (m+1) _ _ _ (by omega) (by omega)]; rfl
 | node l v r=>show cC.k5 (2*m+2+1) (.node l v r) (2*m+2) x=_; unfold cC.k5; simp only[ad,ae,aj]; rw[xa _ (m+1) _ _ _ (by omega) (by omega)]; rfl
theorem Nd (n:Nat) :n=0\/(∃ m,m<n/\n=2*m+1)\/∃ m,m<n/\n=2*m+2:=by
 rcases Nat.eq_zero_or_pos n with h | h
 ·exact .inl h
 ·rcases Nat.mod_two_eq_zero_or_one n with ae | ae
  ·exact .inr (.inr ⟨n / 2 - 1,by omega,by omega⟩)
  ·exact .inr (.inl ⟨n / 2,by omega,by omega⟩)
theorem alV (n:Nat) :∀ (t:cC α) (x y:α),(t.set n x).set n y=t.set n y:=by
 induction n using Nat.strongRecOn with
 | _ n aR=>
  intro t x y;rcases Nd n with rfl | ⟨m,hm,rfl⟩ | ⟨m,hm,rfl⟩
  ·rw[r7 t x,r7 t y,r7]; rfl
  ·rw[n3 t,n3 t,n3]; simp only[cC.lt,cC.mid,cC.rt,aR m hm]
  ·rw[n2 t,n2 t,n2]; simp only[cC.lt,cC.mid,cC.rt,aR m hm]
theorem set_comm (n:Nat) :∀ (t:cC α) (k:Nat) (x y:α),n≠k->(t.set n x).set k y=(t.set k y).set n x:=by
 induction n using Nat.strongRecOn with
 | _ n aR=>
  intro t k x y bP;rcases Nd n with rfl | ⟨m,hm,rfl⟩ | ⟨m,hm,rfl⟩<;>rcases Nd k with rfl | ⟨j,ai,rfl⟩ | ⟨j,ai,rfl⟩
  ·exact absurd rfl bP
  ·rw[r7 t,n3,n3 t,r7]; rfl
  ·rw[r7 t,n2,n2 t,r7]; rfl
  ·rw[n3 t,r7,r7 t,n3]; rfl
  ·rw[n3 t,n3,n3 t,n3]; simp only[cC.lt,cC.mid,cC.rt]; rw[aR m hm _ j _ _ (by omega)]
  ·rw[n3 t,n2,n2 t,n3]; rfl
  ·rw[n2 t,r7,r7 t,n2]; rfl
  ·rw[n2 t,n3,n3 t,n2]; rfl
  ·rw[n2 t,n2,n2 t,n2]; simp only[cC.lt,cC.mid,cC.rt]; rw[aR m hm _ j _ _ (by omega)]
end
abbrev ao:=List aV
def nI:Nat->cC aV->ao->cC aV
 | _,t,[]=>t
 | i,t,c::cs=>nI (i+1) (t.set i c) cs
def bb (l:ao) :aN:=⟨l.length,nI 0 .nil l⟩
@[simp] theorem Ft (l:ao) :(bb l).n=l.length:=rfl
theorem Ui:∀ (l:ao) (i:Nat) (t:cC aV) (c:aV),nI i t (l++[c])=(nI i t l).set (i+l.length) c
 | [],i,t,c=>rfl
 | x::l,i,t,c=>by
  simp only[avj,nI,auF];rw[Ui l,show i+1+l.length=i+(l.length+1) by omega]
theorem oe (l:ao) (c:aV) :(bb l).push c=bb (l++[c]) :=by
 unfold bb aN.push;rw[Ui];simp
theorem Ul:∀ (l:ao) (i j:Nat) (t:cC aV) (c:aV),i<j->(nI j t l).set i c=nI j (t.set i c) l
 | [],_,_,_,_,_=>rfl
 | x::l,i,j,t,c,h=>by
  simp only[nI];rw[Ul l i (j+1) _ c (by omega),set_comm j t i x c (by omega)]
theorem Uk:∀ (l:ao) (i b:Nat) (t:cC aV) (c:aV),b<l.length->(nI i t l).set (i+b) c=nI i t (l.set b c)
 | [],_,_,_,_,h=>by simp at h
 | x::l,i,0,t,c,_=>by
  simp only[nI,awi,awA];rw[Ul l i (i+1) _ c (by omega),alV]
 | x::l,i,b+1,t,c,h=>by
  simp only[nI,aw2];rw[<-Uk l (i+1) b _ c (by simpa using h),show i+(b+1)=i+1+b by omega]
theorem pO {l:ao} {b:Nat} (c:aV) (h:b<l.length) :(bb l).set b c=bb (l.set b c) :=by
 unfold bb aN.set;have:=Uk l 0 b .nil c h;rw[avz] at this;simp only[this,List.length_set]
theorem Uj:∀ (l:ao) (i:Nat) (t:cC aV) (b:Nat),(nI i t l).get b=if i<=b/\b<i+l.length then l[b - i]? else t.get b
 | [],i,t,b=>by simp only[nI,au1]; rw[if_neg (by omega)]
 | x::l,i,t,b=>by
  simp only[nI,auF];rw[Uj l,cC.Gf];by_cases ad:i+1<=b/\b<i+1+l.length
  ·rw[if_pos ad,if_pos (by omega),show b - i=(b - (i+1))+1 by omega,au5]
  ·rw[if_neg ad];by_cases ae:b=i
   ·subst ae; rw[if_pos rfl,if_pos (by omega)]; simp
   ·rw[if_neg ae,if_neg (by omega)]
theorem kH (l:ao) (b:Nat) :(bb l).f b=match l[b]? with | some c=>c | none=>.none:=by
 unfold bb aN.f;simp only[Uj,avu,true_and,avz,awD];by_cases h:b<l.length
 ·rw[if_pos h]; cases l[b]?<;>rfl
 ·rw[if_neg h,auC (by omega)]; rfl
theorem lD {l:ao} {b n:Nat} {cs:List U}:(bb l).f b=.cells n cs<->l[b]? = some (.cells n cs) :=by
 rw[kH];cases h:l[b]? with
 | none=>simp
 | some c=>simp
theorem b6 {l:ao} {b:Nat} {c:aV} (h:l[b]? = some c) :b<l.length:=(auk.1 h).1
def hg (l:ao) :U->Option (List U × Nat)
 | .ptr b off sz=>match l[b]? with
  | some (.cells n cs)=>if n=sz then some (cs,off) else none
  | _=>none
 | .bM cs off=>some (cs,off)
 | _=>none
def te (n:Nat) (cs:List U) (off:Nat) :Option U:=if off+n<=cs.length then some (.aF ((cs.drop off).take n)) else none
def l9 (n:Nat) (l:ao) (p v:U) :Option ao:=
 match p,v.cells with
 | .ptr b off sz,some vs=>match l[b]? with
  | some (.cells m cs)=>if m=sz/\vs.length=n/\off+n<=m then some (l.set b (.cells m (a8 cs off vs))) else none
  | _=>none
 | _,_=>none
def dD (l:ao) (z:Nat) :U->Option (List U × Nat)
 | .aH=>some ([],0)
 | .aZ dF es=>if z=dF then some (es.flatten,es.length) else none
 | .aq dF b off len _ sz=>match l[b]? with
  | some (.cells n cs)=>if n=sz/\z=dF then some ((cs.drop off).take (len*z),len) else none
  | _=>none
 | .str s=>if z=1 then some (s.map jD,s.length) else none
 | _=>none
def jB (l:ao) (z by_:Nat) (s:U) (xs:List U) (n:Nat) :Option (U × ao) :=
 if n=0 then (match s with | .aH | .aZ .. | .aq ..=>some (s,l) | _=>none)
 else if z=0\/by_=0 then none else match s with
  | .aH=>if n*by_<=cw then some (.aq z l.length 0 n n (n*z),l++[.cells (n*z) xs]) else none
  | .aq dF b off len cap sz=>match l[b]? with
   | some (.cells m cs)=>
    if m=sz/\z=dF/\(len+n)*by_<=cw then
     if len+n<=cap then some (.aq z b off (len+n) cap sz,l.set b (.cells m (a8 cs (off+len*z) xs)))
     else if off+cap*z<sz then some (.aq z l.length 0 (len+n) (len+n) ((len+n)*z),l++[.cells ((len+n)*z) ((cs.drop off).take (len*z)++xs)])
     else if off=0 then some (.aq z b 0 (len+n) (len+n) ((len+n)*z),l.set b (.cells ((len+n)*z) (cs.take (len*z)++xs)))
     else some (.aq z l.length 0 (len+n) (len+n) ((len+n)*z),l.set b .dead++[.cells ((len+n)*z) ((cs.drop off).take (len*z)++xs)])
    else none
   | _=>none
  | _=>none
def z0 (z:Nat) (l:ao) (d x:U) :Option (U × ao) :=
 match dD l z x with
 | none=>none
 | some (xs,n)=>match d with
  | .aH=>some (.int .i64 0,l)
  | .aq dF b off len _ sz=>match l[b]? with
   | some (.cells m cs)=>if m=sz/\z=dF then some (.int .i64 ((min n len:Nat) :Int),l.set b (.cells m (a8 cs off (xs.take (min n len*z))))) else none
   | _=>none
  | _=>none
def s7 (l:ao) :U->Option (List (U × U × Nat))
 | .iQ=>some []
 | .mp b=>match l[b]? with | some (.map es _)=>some es | _=>none
 | _=>none
def o2 (l:ao) (x:U) :Option (List UInt8) :=match x with
 | .str s=>some s
 | x=>match dD l 1 x with
  | some (cs,_)=>nv cs
  | none=>none
def cmpL (l:ao) (x y:U) :Option U:=match o2 l x,o2 l y with
 | some a,some b=>some (.int .i64 (ol a b))
 | _,_=>none
def uW (l:ao) (x:U) :Option (U × ao) :=match x with
 | .it b=>match l[b]? with
  | some (.iter s pos)=>match Nat.blt pos s.length with
   | true=>some (.bt [.bool true,.int .i64 pos,.int .i32 (Utf8.decode ⟨s.toArray⟩ pos).1],l.set b (.iter s (pos+(Utf8.decode ⟨s.toArray⟩ pos).2)))
   | false=>some (.bt [.bool false],l)
  | _=>none
 | _=>none
def Br (l:ao) (x:U) :Option (U × ao) :=match x with
 | .str s=>some (.it l.length,l++[.iter s 0])
 | _=>none
def Es (l:ao) (x:U) :Option U:=match x with
 | .iQ=>some (.int .i64 0)
 | .mp b=>match l[b]? with | some (.map es _)=>some (.int .i64 es.length) | _=>none
 | _=>none
def ss (zero:List U) (l:ao) :U->Option ao
 | .aH=>some l
 | .aZ _ []=>some l
 | .aq z b off len _ sz=>if len=0 then some l else match l[b]? with
  | some (.cells m cs)=>if m=sz/\zero.length=z then some (l.set b (.cells m (a8 cs off (dC zero len)))) else none
  | _=>none
 | _=>none
theorem NJ (l:ao) (p:U) :reach (bb l) p=hg l p:=by
 cases p<;>try rfl
 rename_i b off sz;simp only[reach,hg,kH];cases l[b]? with
 | none=>rfl
 | some c=>cases c<;>rfl
theorem Cs (l:ao) (z:Nat) (x:U) :contents (bb l) z x=dD l z x:=by
 cases x<;>try rfl
 rename_i dF b off len cap sz;simp only[contents,dD,kH];cases l[b]? with
 | none=>rfl
 | some c=>cases c<;>rfl
section
variable (P:Program)
inductive kk where
 | arr (n z:Nat)
 | aq (z:Nat)
 | str
 deriving DecidableEq
def pE (t:TypeId) :Option kk:=match P.underlying t with
 | some (.array n e)=>(cz P e).map fun z=>.arr n z
 | some (.slice e)=>(cz P e).map fun z=>.aq z
 | some .string=>some .str
 | _=>none
inductive da where
 | fR (x:Operand)
 | pick (c a b:Operand)
 | alloc (zero:List U)
 | box (x:Operand)
 | Cc (zero:List U) (ps:List (Nat × Nat × Operand))
 | q6 (z:Nat) (zero:List U) (len:Nat) (ps:List (Nat × Operand))
 | nR (a:Operand)
 | l6 (n:Nat) (a:Operand)
 | st (n:Nat) (a x:Operand)
 | EA (x:Operand)
 | bin (o:BinOp) (t:TypeId) (x y:Operand)
 | un (o:UnOp) (x:Operand)
 | zR (k:IntKind) (x:Operand)
 | z2 (x:Operand)
 | tT (x:Operand)
 | z1 (x:Operand)
 | y2 (t:TypeId) (x:Operand)
 | BF (t:TypeId) (z:U) (ok:Bool) (x:Operand)
 | y1 (f:FuncId) (first gB:List Operand)
 | rT (z by_:Nat) (zero:List U) (l c:Operand)
 | slice (dq:kk) (x:Operand) (cJ ay cK:Option Operand)
 | p1 (off:Nat) (x:Operand)
 | CF (off:Nat) (x:Operand)
 | CG (n off:Nat) (x:Operand)
 | wx (dq:kk) (x i:Operand)
 | Ea (n z:Nat) (x i:Operand)
 | Eb (n z:Nat) (x i:Operand)
 | Eg (x i:Operand)
 | ext (x:Operand) (i:Nat)
 | len (dq:kk) (x:Operand)
 | cap (dq:kk) (x:Operand)
 | app (z by_:Nat) (s x:Operand)
 | vx (z by_:Nat) (zero:List U) (s x:Operand)
 | vU (z:Nat) (d x:Operand)
 | vM (zero:List U) (x:Operand)
 | min (x y:Operand)
 | max (x y:Operand)
 | uV (x:Option Operand)
 | yV (cP:TypeId) (zero:U) (ok:Bool) (m k:Operand)
 | wM (cP:TypeId) (m k x:Operand)
 | wF (x:Operand)
 | w3 (x:Operand)
 | wQ (x:Operand)
 | cg (f:FuncId) (sA x y:Operand)
 | stop
def wI (l:ao) (cP:TypeId) (zero:U) (ok:Bool) (m k:U) :Option U:=
 match s7 l m with
 | some es=>match l4 P cP k with
  | false=>none
  | true=>match lf P cP k es 0 with
   | some (some (_,v))=>some (if ok then .bt [v,.bool true] else v)
   | some none=>some (if ok then .bt [zero,.bool false] else zero)
   | none=>none
 | none=>none
def wJ (l:ao) (cP:TypeId) (m k v:U) :Option ao:=
 match m with
 | .mp b=>match l[b]? with
  | some (.map es eh)=>match l4 P cP k with
   | false=>none
   | true=>match lf P cP k es 0 with
    | some (some (i,_))=>some (l.set b (.map (es.modify i fun e=>(k,v,e.2.2)) eh))
    | some none=>some (l.set b (.map (es++[(k,v,eh)]) (eh+1)))
    | none=>none
  | _=>none
 | _=>none
def D8 (f:FuncId) :U->Bool | .fn g [] []=>Nat.beq g f | _=>false
def EM (c a b:U) :Option U:=match c with | .bool t=>some (if t then a else b) | _=>none
def y4 (x:U) :Option U:=match x with | .ptr b o s=>some (.ptr b o s) | .bM c o=>some (.bM c o) | .fn f a b=>some (.fn f a b) | _=>none
def pU (zero:List U) :List (Nat × Nat × U)->Option (List U)
 | []=>some zero
 | (off,size,v) ::r=>match v.cells with
  | some vs=>if vs.length=size/\off+size<=zero.length then pU (a8 zero off vs) r else none
  | none=>none
def zS (k:IntKind) :U->Option U | .int _ n=>some (.int k (k.wrap n)) | _=>none
def F1:U->Option U | .str s=>some (.str s) | _=>none
def vI (l:ao) (x:U) :Option U:=match x with
 | .aH=>some (.str [])
 | .str _=>none
 | x=>match dD l 1 x with | some (cs,_)=>(nv cs).map .str | none=>none
def vV:U->Option U | .str s=>some (.aZ 1 (s.map fun b=>[jD b])) | _=>none
def rU (z by_:Nat) (zero:List U) (al:ao) (l c:U) :Option (U × ao) :=match l,c with
 | .int _ l,.int _ c=>if 0<=l/\l<=c/\c<9223372036854775808/\by_*c<=cw then
   some (.aq z al.length 0 l.toNat c.toNat (c.toNat*z),al++[.cells (c.toNat*z) (dC zero c.toNat)]) else none
 | _,_=>none
def fl (dq:kk) (x:U) (cJ ay cK:Option U) :Option U:=
 match dq with
 | .arr n z=>match gO n n cJ ay cK with
  | some (l,aS,m)=>match x with
   | .ptr b off sz=>if off+m*z<=sz then (if m=l then some (.aZ z []) else some (.aq z b (off+l*z) (aS - l) (m - l) sz)) else none
   | .bM cs off=>if off+n*z<=cs.length then some (.aZ z (me z (aS - l) (cs.drop (off+l*z)))) else none
   | _=>none
  | none=>none
 | .aq z=>match x with
  | .aq dF b off len cap sz=>if z=dF then (gO len cap cJ ay cK).map fun (l,aS,m)=>if m=l then .aq z b (off+l*z) 0 0 sz else .aq z b (off+l*z) (aS - l) (m - l) sz else none
  | .aZ dF es=>if z=dF then (gO es.length es.length cJ ay cK).map fun (l,aS,_)=>.aZ z ((es.drop l).take (aS - l)) else none
  | .aH=>(gO 0 0 cJ ay cK).map fun _=>.aH
  | _=>none
 | .str=>match x,cK with
  | .str s,none=>(gO s.length s.length cJ ay none).map fun (l,aS,_)=>.str ((s.drop l).take (aS - l))
  | _,_=>none
def CH (off:Nat) :U->Option U | .aF cs=>cs[off]? | _=>none
def Ab (n off:Nat) :U->Option U | .aF cs=>te n cs off | _=>none
def cL (dq:kk) (x e6:U) :Option U:=
 match e6 with
 | .int _ i=>match dq with
  | .arr n z=>if 0<=i/\i<n then nx x (i.toNat*z) else none
  | .aq z=>match x with
   | .aq dF b off len _ sz=>if z=dF/\0<=i/\i<len then some (.ptr b (off+i.toNat*z) sz) else none
   | .aZ dF es=>if z=dF/\0<=i then (es[i.toNat]?).map fun cs=>.bM cs 0 else none
   | _=>none
  | .str=>none
 | _=>none
def Ec (n z:Nat) (x e6:U) :Option U:=match x,e6 with
 | .aF cs,.int _ i=>if 0<=i/\i<n then cs[i.toNat*z]? else none
 | _,_=>none
def Ed (n z:Nat) (x e6:U) :Option U:=match x,e6 with
 | .aF cs,.int _ i=>if 0<=i/\i<n then te z cs (i.toNat*z) else none
 | _,_=>none
def yP (x e6:U) :Option U:=match x,e6 with
 | .str s,.int _ i=>if 0<=i then (s[i.toNat]?).map jD else none
 | _,_=>none
def CD (x:U) (i:Nat) :Option U:=match x with | .bt vs=>vs[i]? | _=>none
def ce (dq:kk) (x:U) :Option U:=match dq with
 | .arr n _=>some (.int .i64 n)
 | .aq _=>match x with
  | .aH=>some (.int .i64 0)
  | .aq _ _ _ len _ _=>some (.int .i64 len)
  | .aZ _ es=>some (.int .i64 es.length)
  | _=>none
 | .str=>match x with | .str s=>some (.int .i64 s.length) | _=>none
def tS (dq:kk) (x:U) :Option U:=match dq with
 | .arr n _=>some (.int .i64 n)
 | .aq _=>match x with | .aH=>some (.int .i64 0) | _=>none
 | .str=>none
def gX (l:ao) (z by_:Nat) (s x:U) :Option (U × ao) :=match dD l z x with
 | none=>none
 | some (xs,n)=>jB l z by_ s xs n
def q4 (l:ao) (z by_:Nat) (zero:List U) (s x:U) :Option (U × ao) :=match x with
 | .int _ n=>if 0<=n/\n<9223372036854775808/\n.toNat*by_<=cw then jB l z by_ s (dC zero n.toNat) n.toNat else none
 | _=>none
def dM (l:ao) (x:Option U) :Option (U × ao) :=x.map fun v=>(v,l)
def bT (aA:Operand->U) (l:ao) :da->Option (U × ao)
 | .fR x=>some (aA x,l)
 | .pick c a b=>dM l (EM (aA c) (aA a) (aA b))
 | .alloc zero=>some (.ptr l.length 0 zero.length,l++[.cells zero.length zero])
 | .box x=>(aA x).cells.map fun cs=>(.ptr l.length 0 cs.length,l++[.cells cs.length cs])
 | .Cc zero ps=>dM l ((pU zero (ps.map fun p=>(p.1,p.2.1,aA p.2.2))).map .aF)
 | .q6 z zero len ps=>(h4 (fun i=>some (i*z,z)) (dC zero len) (ps.map fun p=>(p.1,aA p.2))).map fun cs=>(.aq z l.length 0 len len (len*z),l++[.cells (len*z) cs])
 | .nR a=>dM l ((hg l (aA a)).bind fun x=>x.1[x.2]?)
 | .l6 n a=>dM l ((hg l (aA a)).bind fun x=>te n x.1 x.2)
 | .st n a x=>(l9 n l (aA a) (aA x)).map fun l'=>(gL,l')
 | .EA x=>dM l (y4 (aA x))
 | .bin o t x y=>dM l (gN P o t (aA x) (aA y))
 | .un o x=>dM l (qM o (aA x))
 | .zR k x=>dM l (zS k (aA x))
 | .z2 x=>dM l (F1 (aA x))
 | .tT x=>dM l (vI l (aA x))
 | .z1 x=>dM l (vV (aA x))
 | .y2 t x=>some (.hF t (aA x),l)
 | .BF t z ok x=>dM l (BG t z ok (aA x))
 | .y1 f a b=>some (.fn f (a.map aA) (b.map aA),l)
 | .rT z by_ zero a c=>rU z by_ zero l (aA a) (aA c)
 | .slice dq x cJ ay cK=>dM l (fl dq (aA x) (cJ.map aA) (ay.map aA) (cK.map aA))
 | .p1 off x=>dM l (nx (aA x) off)
 | .CF off x=>dM l (CH off (aA x))
 | .CG n off x=>dM l (Ab n off (aA x))
 | .wx dq x i=>dM l (cL dq (aA x) (aA i))
 | .Ea n z x i=>dM l (Ec n z (aA x) (aA i))
 | .Eb n z x i=>dM l (Ed n z (aA x) (aA i))
 | .Eg x i=>dM l (yP (aA x) (aA i))
 | .ext x i=>dM l (CD (aA x) i)
 | .len dq x=>dM l (ce dq (aA x))
 | .cap dq x=>dM l (tS dq (aA x))
 | .app z by_ s x=>gX l z by_ (aA s) (aA x)
 | .vx z by_ zero s x=>q4 l z by_ zero (aA s) (aA x)
 | .vU z d x=>z0 z l (aA d) (aA x)
 | .vM zero x=>(ss zero l (aA x)).map fun l'=>(.bt [],l')
 | .min x y=>dM l (wL (aA x) (aA y))
 | .max x y=>dM l (uT (aA x) (aA y))
 | .uV x=>match x with
  | none=>some (.mp l.length,l++[.map [] 0])
  | some o=>match asInt (aA o) with | some _=>some (.mp l.length,l++[.map [] 0]) | none=>none
 | .yV cP zero ok m k=>dM l (wI P l cP zero ok (aA m) (aA k))
 | .wM cP m k x=>(wJ P l cP (aA m) (aA k) (aA x)).map fun l'=>(gL,l')
 | .wF x=>dM l (Es l (aA x))
 | .w3 x=>Br l (aA x)
 | .wQ x=>uW l (aA x)
 | .cg f sA x y=>match D8 f (aA sA) with | true=>dM l (cmpL l (aA x) (aA y)) | false=>none
 | .stop=>none
def JT (t:TypeId) (ps:List (Nat × Operand)) :Option (List (Nat × Nat × Operand)) :=
 match P.underlying t with
 | some (.struct fs)=>if fs.toList.all fun f=>(cz P f.type).isSome then ps.mapM fun p=>(EN P fs p.1).map fun q=>(q.1,q.2,p.2) else none
 | some (.array _ e)=>(cz P e).map fun n=>ps.map fun p=>(p.1*n,n,p.2)
 | _=>none
def vO (b:Builtin) (ts:List TypeId) (args:List Operand) :Option da:=
 match b,ts,args with
 | .len,[t],[x]=>match P.underlying t with
  | some (.map _ _)=>some (.wF x)
  | _=>(pE P t).map fun dq=>.len dq x
 | .cap,[t],[x]=>(pE P t).map fun dq=>.cap dq x
 | .append,[t,u],[s,x]=>match P.underlying u with
  | some (.int _)=>(i3 P t).bind fun e=>(cz P e).bind fun z=>(kL P e).bind fun by_=>(ic P e).bind fun zero=>
    if zero.length=z/\tx P e=some z then some (.vx z by_ zero s x) else none
  | none=>none
  | _=>(i3 P t).bind fun e=>(cz P e).bind fun z=>(kL P e).bind fun by_=>if tx P e=some z then some (.app z by_ s x) else none
 | .copy,[t,_],[d,x]=>(i3 P t).bind fun e=>(cz P e).map fun z=>.vU z d x
 | .clear,[t],[x]=>match P.underlying t with
  | some (.slice e)=>(ic P e).map fun zero=>.vM zero x
  | _=>none
 | .min,_,[x,y]=>some (.min x y)
 | .max,_,[x,y]=>some (.max x y)
 | _,_,_=>none
def ny:Op->Option da
 | .move x | .assign x=>some (.fR x)
 | .pick c a b=>some (.pick c a b)
 | .alloc t=>(ic P t).map .alloc
 | .box _ x=>some (.box x)
 | .build t ps=>(ic P t).bind fun zero=>(JT P t ps.toList).map fun q=>.Cc zero q
 | .buildSlice t len ps=>(i3 P t).bind fun e=>(cz P e).bind fun z=>(ic P e).bind fun zero=>
   if zero.length=z/\len*z<=16777216 then some (.q6 z zero len ps.toList) else none
 | .load t a=>match eJ P t,cz P t with
  | some true,some n=>some (.l6 n a)
  | some false,_=>some (.nR a)
  | _,_=>none
 | .store t a x=>(cz P t).map fun n=>.st n a x
 | .nilCheck x=>some (.EA x)
 | .binOp o t x y _=>some (.bin o t x y)
 | .unOp o _ x=>some (.un o x)
 | .convert s d x=>match P.underlying s,P.underlying d with
  | some _,some (.int k)=>some (.zR k x)
  | some (.slice e),some .string=>match P.underlying e with
   | some (.int .u8)=>some (.tT x)
   | _=>none
  | some .string,some .string=>some (.z2 x)
  | some .string,some (.slice e)=>match P.underlying e with
   | some (.int .u8)=>some (.z1 x)
   | _=>none
  | _,_=>none
 | .makeInterface t x=>match P.underlying t with
  | some (.interface _) | none=>none
  | _=>some (.y2 t x)
 | .makeFunc (.func f) a b=>some (.y1 f a.toList b.toList)
 | .makeSlice t l c=>(i3 P t).bind fun e=>(cz P e).bind fun z=>(kL P e).bind fun by_=>(ic P e).bind fun zero=>
   if zero.length=z then some (.rT z by_ zero l c) else none
 | .slice t x cJ ay cK=>(pE P t).map fun dq=>.slice dq x cJ ay cK
 | .fieldAddr s x f=>(x1 P s f).bind fun fd=>match cz P fd.type with
  | some (_+1)=>some (.p1 fd.offset x)
  | _=>none
 | .field t x f=>(x1 P t f).bind fun fd=>match eJ P fd.type,cz P fd.type with
  | some true,some n=>some (.CG n fd.offset x)
  | some false,_=>some (.CF fd.offset x)
  | _,_=>none
 | .indexAddr t x i=>match pE P t with
  | some (.arr n z)=>some (.wx (.arr n z) x i)
  | some (.aq z)=>some (.wx (.aq z) x i)
  | _=>none
 | .index t x i=>match P.underlying t with
  | some (.array n e)=>match cz P e,eJ P e with
   | some z,some true=>some (.Eb n z x i)
   | some z,some false=>some (.Ea n z x i)
   | _,_=>none
  | some .string=>some (.Eg x i)
  | _=>none
 | .extract x i=>some (.ext x i)
 | .call c=>match c.callee with
  | .builtin b=>vO P b c.argTypes.toList c.args.toList
  | .value (.func f)=>match P.funcs[f]?,c.args.toList with
   | some fn,[x,y]=>if D7 fn then some (.cg f (.func f) x y) else none
   | _,_=>none
  | _=>none
 | .makeMap t r=>match P.underlying t with | some (.map _ _)=>some (.uV r) | _=>none
 | .lookup t m k ok=>match P.underlying t with | some (.map cP mV)=>(zx P mV).map fun z=>.yV cP z ok m k | _=>none
 | .mapUpdate t m k x | .insert t m k x=>match P.underlying t with | some (.map cP _)=>some (.wM cP m k x) | _=>none
 | .range t x=>match P.underlying t with | some .string=>some (.w3 x) | _=>none
 | .next it true=>some (.wQ it)
 | .panic _=>some .stop
 | .typeAssert x _ t ok=>(I0 P t).map fun z=>.BF t z ok x
 | _=>none
end

section
variable {P:Program}
theorem bind_some {α kj:Type} {x:Option α} {f:α->Option kj} {y:kj}:x.bind f=some y<->∃ a,x=some a/\f a=some y:=by cases x<;>simp
theorem map_some {α kj:Type} {x:Option α} {f:α->kj} {y:kj}:x.map f=some y<->∃ a,x=some a/\f a=y:=by cases x<;>simp
theorem gU {l l' : ao} {x:Option U} {v:U}:dM l x=some (v,l')<->x=some v/\l'=l:=by cases x<;>simp[dM,eq_comm]
theorem iN {α:Type} {p:Prop} [Decidable p] {x y:α}:(if p then some x else none)=some y<->p/\x=y:=by by_cases p<;>simp_all
theorem PA {l l' : ao} {e z by_ n:Nat} {s v:U} {xs:List U} (ax:tx P e=some z) (h:jB l z by_ s xs n=some (v,l')) :vy P (bb l) e z by_ s xs n=some (v,bb l') :=by
 unfold jB at h;unfold vy;by_cases aD:n=0
 ·rw[if_pos aD] at h ⊢;cases s<;>simp at h ⊢<;>simp[h]
 ·rw[if_neg aD] at h ⊢;by_cases aI:z=0\/by_=0
  ·rw[if_pos aI] at h; cases h
  ·rw[if_neg aI] at h;rw[if_neg (by simp only[ax]; simpa using aI)];cases s<;>simp only at h ⊢<;>try (cases h; done)
   case aH=>
    by_cases az:n*by_<=cw
    ·rw[if_pos az] at h ⊢; cases h; rw[oe]; rfl
    ·rw[if_neg az] at h; cases h
   case aq dF b off len cap sz=>
    cases ag:l[b]? with
    | none=>rw[ag] at h; cases h
    | some c=>
     cases c<;>rw[ag] at h<;>(try simp only at h)<;>try (cases h; done)
     rename_i m cs;rw[lD.2 ag];simp only;by_cases ad:m=sz/\z=dF/\(len+n)*by_<=cw
     ·rw[if_pos ad] at h ⊢;by_cases ae:len+n<=cap
      ·rw[if_pos ae] at h ⊢; cases h; rw[pO _ (b6 ag)]
      ·rw[if_neg ae] at h ⊢;by_cases aj:off+cap*z<sz
       ·rw[if_pos aj] at h ⊢; cases h; rw[oe]; rfl
       ·rw[if_neg aj] at h ⊢;by_cases aG:off=0
        ·rw[if_pos aG] at h ⊢; cases h; rw[pO _ (b6 ag)]
        ·rw[if_neg aG] at h ⊢; cases h;rw[pO _ (b6 ag),oe]; rfl
     ·rw[if_neg ad] at h; cases h
theorem aaP {t:TypeId} {ps:List (Nat × Operand)} {q:List (Nat × Nat × Operand)} (a7:JT P t ps=some q) (aA:Operand->U) (zero:List U) (ax:ic P t=some zero) {cs:List U}
  (ag:pU zero (q.map fun p=>(p.1,p.2.1,aA p.2.2))=some cs) :Ce P t (ps.map fun p=>(p.1,aA p.2))=some (.aF cs) :=by
 have fill:∀ (ly:Nat->Option (Nat × Nat)) (ps:List (Nat × Operand)) (q:List (Nat × Nat × Operand)) (zero:List U),
   (ps.mapM fun p=>(ly p.1).map fun q=>(q.1,q.2,p.2))=some q->pU zero (q.map fun p=>(p.1,p.2.1,aA p.2.2))=some cs->h4 ly zero (ps.map fun p=>(p.1,aA p.2))=some cs:=by
  intro ly ps
  induction ps with
  | nil=>intro q zero ad ae; simp at ad; subst ad; simpa [pU,h4] using ae
  | cons p ps aR=>
   intro q zero ad ae;rw[avT] at ad;simp only[Option.bind_eq_bind,bind_some,map_some,av3,Option.some.injEq] at ad;obtain⟨a,⟨dj,aj,rfl⟩,eb,aG,rfl⟩:=ad;simp only[auL,pU,h4,aj] at ae ⊢;split at ae
   ·rename_i vs ap;simp only[ap];split at ae
    ·rename_i bh;rw[if_pos bh];exact aR _ _ aG ae
    ·cases ae
   ·cases ae
 unfold JT at a7;unfold Ce;split at a7
 ·rename_i fs aM;rw[ax,aM];simp only;split at a7
  ·rename_i dV;rw[if_neg (by simp[dV])];rw[fill _ _ _ _ a7 ag]; rfl
  ·cases a7
 ·rename_i n e aM;rw[map_some] at a7;obtain⟨hH,ad,rfl⟩:=a7;rw[ax,aM];simp only[ad];rw[fill (fun i=>some (i*hH,hH)) ps _ zero ?_ ag]; rfl;clear ag
  induction ps with
  | nil=>rfl
  | cons p ps aR=>rw[avT,aR]; rfl
 ·cases a7
theorem al5 {t:TypeId} {dq:kk} (aW:pE P t=some dq) (x:U) (cJ ay cK:Option U) :fl dq x cJ ay cK=E4 P t x cJ ay cK:=by
 unfold pE at aW;unfold E4;split at aW
 ·rename_i n e aM;rw[map_some] at aW;obtain⟨z,ad,rfl⟩:=aW;rw[aM]; simp only[ad,fl];cases gO n n cJ ay cK<;>rfl
 ·rename_i e aM;rw[map_some] at aW;obtain⟨z,ad,rfl⟩:=aW;rw[aM]; simp only[ad,fl];cases x<;>rfl
 ·rename_i aM;cases aW;rw[aM]; simp only[fl];cases x<;>cases cK<;>rfl
 ·cases aW
theorem aiu {t:TypeId} {dq:kk} (aW:pE P t=some dq) {x v:U} (h:ce dq x=some v) :yS P t x=some v:=by
 unfold pE at aW;unfold yS;split at aW
 ·rename_i n e aM;rw[map_some] at aW;obtain⟨z,ad,rfl⟩:=aW;rw[aM]; simpa [ce] using h
 ·rename_i e aM;rw[map_some] at aW;obtain⟨z,ad,rfl⟩:=aW;rw[aM]; unfold ce at h; cases x<;>simp_all
 ·rename_i aM;cases aW;rw[aM]; unfold ce at h; cases x<;>simp_all
 ·cases aW
theorem abh {t:TypeId} {dq:kk} (aW:pE P t=some dq) {x v:U} (h:tS dq x=some v) :zP P t x=some v:=by
 unfold pE at aW;unfold zP;split at aW
 ·rename_i n e aM;rw[map_some] at aW;obtain⟨z,ad,rfl⟩:=aW;rw[aM]; simpa [tS] using h
 ·rename_i e aM;rw[map_some] at aW;obtain⟨z,ad,rfl⟩:=aW;rw[aM]; unfold tS at h; cases x<;>simp_all
 ·rename_i aM;cases aW;rw[aM]; unfold tS at h; cases x<;>simp_all
 ·cases aW
theorem Vb {t:TypeId} {dq:kk} (aW:pE P t=some dq) {x i v:U} (h:cL dq x i=some v) :D5 P t x i=some v:=by
 unfold pE at aW;unfold D5;unfold cL at h;cases i<;>(try simp only at h)<;>try (cases h; done)
 rename_i k i;split at aW
 ·rename_i n e aM;rw[map_some] at aW;obtain⟨z,ad,rfl⟩:=aW;rw[aM]; simpa [asInt,ad] using h
 ·rename_i e aM;rw[map_some] at aW;obtain⟨z,ad,rfl⟩:=aW;rw[aM]; simp only[asInt,ad]; simp only at h;cases x<;>simp only at h ⊢<;>first | exact h | cases h
 ·rename_i aM;cases aW;simp only at h;cases h
 ·cases aW
theorem amm {t:TypeId} {n:Nat} (ak:cz P t=some n) {l l' : ao} {p v:U} (h:l9 n l p v=some l') :xf P (bb l) t p v=some (bb l') :=by
 unfold l9 at h;unfold xf;cases p<;>(try simp only at h)<;>try (cases h; done)
 rename_i b off sz;cases ap:v.cells with
 | none=>rw[ap] at h; cases h
 | some vs=>
  rw[ap] at h;simp only[ak] at h ⊢;cases ag:l[b]? with
  | none=>rw[ag] at h; cases h
  | some c=>
   cases c<;>rw[ag] at h<;>(try simp only at h)<;>try (cases h; done)
   rename_i m cs;rw[lD.2 ag];simp only;rw[iN] at h;obtain⟨ad,rfl⟩:=h;rw[if_pos ad,pO _ (b6 ag)]
theorem abL {t e:TypeId} {z:Nat} (am:i3 P t=some e) (ak:cz P e=some z) {l l' : ao} {d x v:U} (h:z0 z l d x=some (v,l')) :zZ P (bb l) t d x=some (v,bb l') :=by
 unfold z0 at h;unfold zZ;rw[am]; simp only[ak,Cs];cases ah:dD l z x with
 | none=>rw[ah] at h; cases h
 | some p=>
  obtain⟨xs,n⟩:=p;rw[ah] at h;simp only at h ⊢;cases d<;>simp only at h ⊢<;>try (cases h; done)
  case aH=>cases h; rfl
  case aq dF b off len cap sz=>
   cases ag:l[b]? with
   | none=>rw[ag] at h; cases h
   | some c=>
    cases c<;>rw[ag] at h<;>(try simp only at h)<;>try (cases h; done)
    rename_i m cs;rw[lD.2 ag];simp only;rw[iN] at h;obtain⟨ad,ae⟩:=h;cases ae;rw[if_pos ad,pO _ (b6 ag)]
theorem abu {t e:TypeId} {zero:List U} (aM:P.underlying t=some (.slice e)) (ax:ic P e=some zero) {l l' : ao} {x:U} (h:ss zero l x=some l') :zT P (bb l) t x=some (bb l') :=by
 unfold ss at h;unfold zT;rw[aM];cases x<;>(try simp only at h)<;>try (cases h; done)
 case aH=>cases h; rfl
 case aZ z es=>cases es<;>simp only at h<;>cases h; rfl
 case aq z b off len cap sz=>
  simp only;by_cases aI:len=0
  ·rw[if_pos aI] at h ⊢; cases h; rfl
  ·rw[if_neg aI] at h ⊢;rw[ax];cases ag:l[b]? with
   | none=>rw[ag] at h; cases h
   | some c=>
    cases c<;>rw[ag] at h<;>(try simp only at h)<;>try (cases h; done)
    rename_i m cs;rw[lD.2 ag];simp only;rw[iN] at h;obtain⟨ad,rfl⟩:=h;rw[if_pos ad,pO _ (b6 ag)]
theorem Wh {t cP mV:TypeId} (aM:P.underlying t=some (.map cP mV)) {l l' : ao} {m k x:U} (h:wJ P l cP m k x=some l') :yY P (bb l) t m k x=some (bb l') :=by
 unfold wJ at h;unfold yY;rw[aM];cases m<;>(try simp only at h)<;>try (cases h; done)
 rename_i b;simp only[kH];cases ag:l[b]? with
 | none=>rw[ag] at h; cases h
 | some c=>
  cases c<;>rw[ag] at h<;>simp only at h<;>try (cases h; done)
  rename_i es eh;simp only;cases ar:l4 P cP k with
  | false=>rw[ar] at h; cases h
  | true=>
   rw[ar] at h;simp only at h ⊢;cases aE:lf P cP k es 0 with
   | none=>rw[aE] at h; cases h
   | some r=>
    rw[aE] at h;cases r with
    | none=>cases h; simp only[pO _ (b6 ag)]
    | some wC=>cases h; simp only[pO _ (b6 ag)]
theorem aiy {t:TypeId} (ad:eJ P t=some false) (h:aN) (p:U) :s6 P h t p=(reach h p).bind fun x=>x.1[x.2]?:=by
 unfold s6 iq; rw[ad]; cases reach h p<;>rfl
theorem aiz {t:TypeId} {n:Nat} (ad:eJ P t=some true) (ae:cz P t=some n) (h:aN) (p:U) :s6 P h t p=(reach h p).bind fun x=>te n x.1 x.2:=by
 unfold s6 iq; rw[ad,ae]; cases reach h p<;>rfl
theorem aa5 {b:Builtin} {ts:List TypeId} {args:List Operand} {m:da} (hm:vO P b ts args=some m) {aA:Operand->U} {l l' : ao} {v:U} (h:bT P aA l m=some (v,l')) :
  pV P (bb l) b ts (args.map aA)=some (.val v (bb l')) :=by
 unfold vO at hm;split at hm
 ·rename_i vh;split at hm
  ·rename_i k e aM;cases hm;simp only[bT,gU] at h;obtain⟨ae,rfl⟩:=h;unfold Es at ae;simp only[auL,avP,pV];cases af:aA vh<;>rw[af] at ae<;>(try simp only at ae)<;>try (cases ae; done)
   ·cases ae; simp[yS,yT,aM]
   ·rename_i b;cases ag:l'[b]? with
    | none=>rw[ag] at ae; cases ae
    | some c=>
     cases c<;>rw[ag] at ae<;>simp only at ae<;>try (cases ae; done)
     cases ae;simp[yT,aM,kH,ag]
  ·rw[map_some] at hm;obtain⟨dq,ad,rfl⟩:=hm;simp only[bT,gU] at h;obtain⟨ae,rfl⟩:=h;have aj:=aiu ad ae;have aG:∀ x,yT P (bb l') _ x=none:=fun x=>by
    unfold pE at ad;unfold yT;split at ad<;>first | (rename_i aM; rw[aM]; done) | (cases ad; done) | skip
    all_goals (rename_i aM; simp only[aM])
   simp only[auL,avP,pV,aG];simp[aj]
 ·rw[map_some] at hm;obtain⟨dq,ad,rfl⟩:=hm;simp only[bT,gU] at h;obtain⟨ae,rfl⟩:=h;simp[pV,abh ad ae]
 ·rename_i t u s x;simp only[auL,avP,pV];split at hm
  ·rename_i aM;simp only[bind_some] at hm;obtain⟨e,ad,z,ae,by_,aj,zero,aG,hm⟩:=hm;rw[iN] at hm;obtain⟨⟨bh,bF⟩,rfl⟩:=hm;simp only[bT] at h;unfold q4 at h;cases af:aA x<;>rw[af] at h<;>(try simp only at h)<;>try (cases h; done)
   rename_i k n;by_cases dz:0<=n/\n<9223372036854775808/\n.toNat*by_<=cw
   ·rw[if_pos dz] at h;rw[aM];simp only[B9,ad,asInt,ae,aj,aG];rw[if_pos ⟨bh,dz⟩,PA bF h]; rfl
   ·rw[if_neg dz] at h; cases h
  ·cases hm
  ·rename_i aD aM;simp only[bind_some] at hm;obtain⟨e,ad,z,ae,by_,aj,hm⟩:=hm;rw[iN] at hm;obtain⟨bF,rfl⟩:=hm;simp only[bT] at h;unfold gX at h;cases ah:dD l z (aA x) with
   | none=>rw[ah] at h; cases h
   | some p=>
    obtain⟨xs,n⟩:=p;rw[ah] at h;simp only at h;have:so P (bb l) t (aA s) (aA x)=some (v,bb l') :=by
     simp only[so,ad,ae,aj,Cs,ah];exact PA bF h
    rw[this];cases bf:P.underlying u with
    | none=>exact absurd bf aM
    | some d=>
     cases d<;>first | rfl | (rename_i k; exact absurd bf (aD k))
 ·simp only[bind_some,map_some] at hm;obtain⟨e,ad,z,ae,rfl⟩:=hm;simp only[bT] at h;simp[pV,abL ad ae h]
 ·split at hm
  ·rename_i e aM;rw[map_some] at hm;obtain⟨zero,ad,rfl⟩:=hm;simp only[bT,map_some,Prod.mk.injEq] at h;obtain⟨bj,ae,rfl,rfl⟩:=h;simp[pV,abu aM ad ae]
  ·cases hm
 ·cases hm;simp only[bT,gU] at h;obtain⟨ae,rfl⟩:=h;simp[pV,ae]
 ·cases hm;simp only[bT,gU] at h;obtain⟨ae,rfl⟩:=h;simp[pV,ae]
 ·cases hm
theorem Ns {t:TypeId} (ad:eJ P t=some false) (cs:List U) (off:Nat) :iq P t cs off=cs[off]?:=by unfold iq; rw[ad]
theorem WV {t:TypeId} {n:Nat} (ad:eJ P t=some true) (ae:cz P t=some n) (cs:List U) (off:Nat) :iq P t cs off=te n cs off:=by unfold iq; rw[ad,ae]; rfl
theorem JZ {s d:TypeId} {x:U} (h:∀ e,P.underlying d=some (.slice e)->False) :zN P s d x=none:=by
 unfold zN;split
 ·rename_i e ak bf af;exact (h e af).elim
 ·rfl
theorem H9 {op:Op} {m:da} (hm:ny P op=some m) {aA:Operand->U} {l l' : ao} {v:U} (h:bT P aA l m=some (v,l')) :c6 P (bb l) aA op=some (.val v (bb l')) :=by
 cases op<;>simp only[ny] at hm<;>try (cases hm; done)
 case move x=>cases hm; simp only[bT,Option.some.injEq,Prod.mk.injEq] at h; obtain⟨rfl,rfl⟩:=h; rfl
 case assign x=>cases hm; simp only[bT,Option.some.injEq,Prod.mk.injEq] at h; obtain⟨rfl,rfl⟩:=h; rfl
 case pick c a b=>
  cases hm; simp only[bT,gU] at h;obtain⟨ae,rfl⟩:=h;simp only[c6];unfold EM at ae;cases ah:aA c<;>rw[ah] at ae<;>(try simp only at ae)<;>try (cases ae; done)
  cases ae; rfl
 case alloc t=>
  rw[map_some] at hm;obtain⟨zero,ad,rfl⟩:=hm;simp only[bT,Option.some.injEq,Prod.mk.injEq] at h;obtain⟨rfl,rfl⟩:=h;simp only[c6,ad,oe]; rfl
 case box t x=>
  cases hm;simp only[bT,map_some,Prod.mk.injEq] at h;obtain⟨cs,ad,rfl,rfl⟩:=h;simp only[c6,ad,oe]; rfl
 case build t ps=>
  simp only[bind_some,map_some] at hm;obtain⟨zero,ad,q,ae,rfl⟩:=hm;simp only[bT,gU,map_some] at h;obtain⟨⟨cs,aj,rfl⟩,rfl⟩:=h;simp only[c6,aaP ae aA zero ad aj]; rfl
 case buildSlice t n ps=>
  simp only[bind_some] at hm;obtain⟨e,ad,z,ae,zero,aj,hm⟩:=hm;rw[iN] at hm;obtain⟨aG,rfl⟩:=hm;simp only[bT,map_some,Prod.mk.injEq] at h;obtain⟨cs,bh,rfl,rfl⟩:=h;simp only[c6,FN,ad,ae,aj,if_pos aG,bh,oe]; rfl
 case load t a=>
  split at hm
  ·rename_i n ad ae;cases hm;simp only[bT,gU] at h;obtain⟨aj,rfl⟩:=h;simp only[c6,aiz ad ae,NJ,aj]; rfl
  ·rename_i ad;cases hm;simp only[bT,gU] at h;obtain⟨aj,rfl⟩:=h;simp only[c6,aiy ad,NJ,aj]; rfl
  ·cases hm
 case store t a x=>
  rw[map_some] at hm;obtain⟨n,ad,rfl⟩:=hm;simp only[bT,map_some,Prod.mk.injEq] at h;obtain⟨bj,ae,rfl,rfl⟩:=h;simp only[c6,amm ad ae]; rfl
 case nilCheck x=>
  cases hm;simp only[bT,gU] at h;obtain⟨ae,rfl⟩:=h;simp only[c6];unfold y4 at ae;cases ah:aA x<;>rw[ah] at ae<;>simp only at ae<;>first | (cases ae; done) | (cases ae; rfl)
 case binOp o t x y u=>
  cases hm;simp only[bT,gU] at h;obtain⟨ae,rfl⟩:=h;simp only[c6,ae]; rfl
 case unOp o t x=>
  cases hm;simp only[bT,gU] at h;obtain⟨ae,rfl⟩:=h;simp only[c6,ae]; rfl
 case convert s d x=>
  simp only[c6];split at hm
  ·rename_i ix k ak bf;cases hm;simp only[bT,gU] at h;obtain⟨ae,rfl⟩:=h;rw[JZ (fun e am=>by rw[bf] at am; cases am)];unfold zS at ae;cases af:aA x<;>rw[af] at ae<;>(try simp only at ae)<;>try (cases ae; done)
   cases ae;simp only[xT,ak,bf]; rfl
  ·rename_i e ak bf;split at hm
   ·rename_i am;cases hm;simp only[bT,gU] at h;obtain⟨ae,rfl⟩:=h;rw[JZ (fun e am=>by rw[bf] at am; cases am)];have:xT P (bb l') s d (aA x)=some v:=by
     rw[<-ae];unfold xT vI;rw[ak,bf];cases af:aA x<;>(simp only[am,Cs])<;>(try rfl)<;>(rw[af] at ae; unfold vI at ae; simp only at ae)
     ·cases ae
     all_goals (cases ah:dD l' 1 _<;>rfl)
    rw[this]; rfl
   ·cases hm
  ·rename_i ak bf;cases hm;simp only[bT,gU] at h;obtain⟨ae,rfl⟩:=h;rw[JZ (fun e am=>by rw[bf] at am; cases am)];unfold F1 at ae;cases af:aA x<;>rw[af] at ae<;>(try simp only at ae)<;>try (cases ae; done)
   cases ae;simp only[xT,ak,bf]; rfl
  ·rename_i e ak bf;split at hm
   ·rename_i am;cases hm;simp only[bT,gU] at h;obtain⟨ae,rfl⟩:=h;unfold vV at ae;cases af:aA x<;>rw[af] at ae<;>(try simp only at ae)<;>try (cases ae; done)
    cases ae;simp only[zN,ak,bf,am]
   ·cases hm
  ·cases hm
 case makeInterface t x=>
  split at hm
  ·cases hm
  ·cases hm
  ·rename_i ad ae;cases hm;simp only[bT,Option.some.injEq,Prod.mk.injEq] at h;obtain⟨rfl,rfl⟩:=h;simp only[c6]
 case typeAssert x OW t ok=>
  rw[map_some] at hm;obtain⟨z,ax,rfl⟩:=hm;simp only[bT,gU] at h;obtain⟨ae,rfl⟩:=h;simp only[c6,ax,ae,auv]
 case makeFunc f a b=>
  cases f<;>simp only at hm<;>try (cases hm; done)
  cases hm;simp only[bT,Option.some.injEq,Prod.mk.injEq] at h;obtain⟨rfl,rfl⟩:=h;rfl
 case makeSlice t a c=>
  simp only[bind_some] at hm;obtain⟨e,ad,z,ae,by_,aj,zero,aG,hm⟩:=hm;rw[iN] at hm;obtain⟨bh,rfl⟩:=hm;simp only[bT] at h;unfold rU at h;cases aC:aA a<;>rw[aC] at h<;>(try simp only at h)<;>try (cases h; done)
  cases ah:aA c<;>rw[ah] at h<;>(try simp only at h)<;>try (cases h; done)
  rw[iN] at h;obtain⟨bF,dz⟩:=h;cases dz;simp only[c6,aC,ah,H4,ad,asInt,ae,aj,aG,if_pos (And.intro bh bF),oe]; rfl
 case slice t x cJ ay cK=>
  rw[map_some] at hm;obtain⟨dq,ad,rfl⟩:=hm;simp only[bT,gU] at h;obtain⟨ae,rfl⟩:=h;rw[al5 ad] at ae;simp only[c6,ae]; rfl
 case fieldAddr s x f=>
  rw[bind_some] at hm;obtain⟨fd,ad,hm⟩:=hm;split at hm
  ·rename_i n ae;cases hm;simp only[bT,gU] at h;obtain⟨aj,rfl⟩:=h;simp only[c6,Gb,ad,ae,aj]; rfl
  ·cases hm
 case field t x f=>
  rw[bind_some] at hm;obtain⟨fd,ad,hm⟩:=hm;split at hm
  ·rename_i n ae aj;cases hm;simp only[bT,gU] at h;obtain⟨aG,rfl⟩:=h;unfold Ab at aG;cases af:aA x<;>rw[af] at aG<;>(try simp only at aG)<;>try (cases aG; done)
   simp only[c6,af,ad,WV ae aj,aG]; rfl
  ·rename_i ae;cases hm;simp only[bT,gU] at h;obtain⟨aG,rfl⟩:=h;unfold CH at aG;cases af:aA x<;>rw[af] at aG<;>(try simp only at aG)<;>try (cases aG; done)
   simp only[c6,af,ad,Ns ae,aG]; rfl
  ·cases hm
 case indexAddr t x i=>
  split at hm
  ·rename_i n z ad;cases hm;simp only[bT,gU] at h;obtain⟨ae,rfl⟩:=h;simp only[c6,Vb ad ae]; rfl
  ·rename_i z ad;cases hm;simp only[bT,gU] at h;obtain⟨ae,rfl⟩:=h;simp only[c6,Vb ad ae]; rfl
  ·cases hm
 case index t x i=>
  split at hm
  ·rename_i n e aM;split at hm
   ·rename_i z ad ae;cases hm;simp only[bT,gU] at h;obtain⟨aj,rfl⟩:=h;unfold Ed at aj;cases af:aA x<;>rw[af] at aj<;>(try simp only at aj)<;>try (cases aj; done)
    cases ay:aA i<;>rw[ay] at aj<;>(try simp only at aj)<;>try (cases aj; done)
    simp only[c6,A2,af,ay,aM,asInt,ad,WV ae ad,aj]; rfl
   ·rename_i z ad ae;cases hm;simp only[bT,gU] at h;obtain⟨aj,rfl⟩:=h;unfold Ec at aj;cases af:aA x<;>rw[af] at aj<;>(try simp only at aj)<;>try (cases aj; done)
    cases ay:aA i<;>rw[ay] at aj<;>(try simp only at aj)<;>try (cases aj; done)
    simp only[c6,A2,af,ay,aM,asInt,ad,Ns ae,aj]; rfl
   ·cases hm
  ·rename_i aM;cases hm;simp only[bT,gU] at h;obtain⟨aj,rfl⟩:=h;unfold yP at aj;cases af:aA x<;>rw[af] at aj<;>(try simp only at aj)<;>try (cases aj; done)
   cases ay:aA i<;>rw[ay] at aj<;>(try simp only at aj)<;>try (cases aj; done)
   simp only[c6,A2,af,ay,aM,asInt,aj]; rfl
  ·cases hm
 case extract x i=>
  cases hm;simp only[bT,gU] at h;obtain⟨ae,rfl⟩:=h;unfold CD at ae;cases af:aA x<;>rw[af] at ae<;>(try simp only at ae)<;>try (cases ae; done)
  simp only[c6,af,ae]; rfl
 case call c=>
  split at hm
  ·rename_i b ag;simp only[c6,vF,ag];exact aa5 hm h
  ·rename_i f aE;split at hm
   ·rename_i fn x y il GC;rw[iN] at hm;obtain⟨ay,rfl⟩:=hm;simp only[bT] at h;split at h
    case h_2=>cases h
    rename_i G4;rw[gU] at h;obtain⟨ae,rfl⟩:=h;unfold cmpL at ae;have fP:∀ x,sr (bb l') x=o2 l' x:=fun x=>by
     cases x<;>simp only[sr,o2,Cs]<;>rfl
    have sO:¬(fn.body.isSome=true/\fn.name≠ "runtime.NumGoroutine") :=by
     rintro⟨a,_⟩;unfold D7 at ay;simp only[aus] at ay;rw[aw8.1 ay.1.1] at a; cases a
    have yl:aA (.func f)=.fn f [] [] :=by
     unfold D8 at G4;split at G4
     ·rename_i g aw; rw[aw,auW G4]
     ·cases G4
    simp only[c6,vF,aE,yl,il,if_neg sO,if_pos ay,GC,auL,avP,avp,auV,Cq,fP];cases aC:o2 l' (aA x) with
    | none=>rw[aC] at ae; cases ae
    | some a=>
     cases ag:o2 l' (aA y) with
     | none=>rw[aC,ag] at ae; cases ae
     | some b=>rw[aC,ag] at ae; cases ae; rfl
   ·cases hm
  ·cases hm
 case panic x=>cases hm; cases h
 case makeMap t r=>
  split at hm
  ·rename_i k e aM;cases hm;simp only[bT] at h;cases r with
   | none=>cases h; simp[c6,aM,oe]
   | some x=>
    simp only at h;cases af:asInt (aA x) with
    | none=>rw[af] at h; cases h
    | some n=>rw[af] at h; cases h; simp[c6,aM,af,oe]
  ·cases hm
 case lookup t m k ok=>
  split at hm
  ·rename_i cP mV aM;rw[map_some] at hm;obtain⟨z,ax,rfl⟩:=hm;simp only[bT,gU] at h;obtain⟨ae,rfl⟩:=h;have DG:∀ x,mapOf (bb l') x=s7 l' x:=fun x=>by
    cases x<;>try rfl
    rename_i b;simp only[mapOf,s7,kH];cases l'[b]? with
    | none=>rfl
    | some c=>cases c<;>rfl
   unfold wI at ae;simp only[c6,H0,aM,DG];cases lS:s7 l' (aA m) with
   | none=>rw[lS] at ae; cases ae
   | some es=>
    rw[lS] at ae;simp only at ae ⊢;cases ar:l4 P cP (aA k) with
    | false=>rw[ar] at ae; cases ae
    | true=>
     rw[ar] at ae;simp only at ae ⊢;cases aE:lf P cP (aA k) es 0 with
     | none=>rw[aE] at ae; cases ae
     | some r=>
      rw[aE] at ae;cases r with
      | none=>cases ae; simp[ax]
      | some wC=>cases ae; rfl
  ·cases hm
 case mapUpdate t m k x=>
  split at hm
  ·rename_i cP mV aM;cases hm;simp only[bT,map_some] at h;obtain⟨bj,ae,aj⟩:=h;cases aj;simp only[c6,Wh aM ae]; rfl
  ·cases hm
 case insert t m k x=>
  split at hm
  ·rename_i cP mV aM;cases hm;simp only[bT,map_some] at h;obtain⟨bj,ae,aj⟩:=h;cases aj;simp only[c6,Wh aM ae]; rfl
  ·cases hm
 case range t x=>
  split at hm
  ·rename_i aM;cases hm;simp only[bT] at h;unfold Br at h;cases af:aA x<;>rw[af] at h<;>(try simp only at h)<;>try (cases h; done)
   cases h;simp[c6,Iw,aM,af,oe]
  ·cases hm
 case next it b=>
  cases b with
  | false=>cases hm
  | true=>
   cases hm;simp only[bT] at h;unfold uW at h;simp only[c6,Be];cases af:aA it<;>rw[af] at h<;>(try simp only at h)<;>try (cases h; done)
   rename_i b;simp only[kH];cases ag:l[b]? with
   | none=>rw[ag] at h; cases h
   | some c=>
    cases c<;>rw[ag] at h<;>simp only at h<;>try (cases h; done)
    simp only;split at h
    ·rename_i aL; cases h; rw[aL]; simp only[auv,pO _ (b6 ag)]
    ·rename_i aL; cases h; rw[aL]; rfl
end
abbrev bc:=Nat->U
abbrev hA:=sf->bc->ao->Prop
class O9 (α:Type) where
 k:α->Prop
class BZ where
 p:Prop
 q:Prop
class tE where
 k:U->ao->Prop
class Jm where
 k:hA
def W {α:Type} (o:Option α) [c:O9 α] :Prop:=match o with | some v=>c.k v | none=>False
def rP (b:Bool) [c:BZ] :Prop:=match b with | true=>c.p | false=>c.q
def yR (x:U) [c:BZ] :Prop:=match x with | .bool b=>rP b (c:=c) | _=>False
def rO (x:U) (w:Bool) [c:BZ] :Prop:=match x with | .bool b=>rP (b == w) (c:=c) | .bad=>False | _=>c.q
inductive qR where
 | gH (m:da)
 | mP (f:FuncId) (args:List Operand)
 | mQ (x:Operand) (args:List Operand)
 | oj (x:Operand) (name:String) (args:List Operand)
structure dn where
 i:Nat
 dst:Option Tmp
 g:Option (Option Tmp × Bool)
 b:qR
 h1:List Nat
 cd:Bool
inductive fB where
 | skip
 | ret
 | exit (id:Nat)
 | lz (s:List dn)
 | xW (s:List dn)
 | seq (a b:fB)
 | cond (c:Operand) (x y:fB)
 | block (id:Nat) (c:fB)
 | loop (c:fB)
section
variable (P:Program) (G:Nat->U)
def jH (f:FuncId) :Bool:=match P.funcs[f]? with | some fn=>fn.body.isSome&&fn.name != "runtime.NumGoroutine" | none=>false
def c0 (f:FuncId) (args:List U) (l:ao) [c:tE] :Prop:=∃ r l',dG P G (.call f args (bb l) r (bb l'))/\l.length<=l'.length/\c.k r l'
def vH (x:U) (args:List U) (l:ao) [c:tE] :Prop:=match x with
 | .fn g first gB=>jH P g=true/\c0 P G g (first++args++gB) l (c:=c)
 | _=>False
def vG (name:String) (x:U) (args:List U) (l:ao) [c:tE] :Prop:=match x with
 | .hF t v=>match yZ P t name with
  | some g=>jH P g=true/\c0 P G g (v::args) l (c:=c)
  | none=>False
 | _=>False
def c7 (v:U) (l:ao) [c:tE] :Prop:=c.k v l\/∃ bU bj,nr (bb l) (bb bj)/\np (bb l) (bb bj) v bU/\c.k bU bj
def eG (m:da) (v:U) (l:ao) (K:U->ao->Prop) :Prop:=match m with
 | .app ..=>c7 v l (c:=⟨K⟩)
 | _=>K v l
def iu (b:qR) (σ:bc) (l:ao) (K:U->ao->Prop) :Prop:=match b with
 | .gH m=>W (bT P (c3 G σ) l m) (c:=⟨fun x=>eG m x.1 x.2 K⟩)
 | .mP f args=>c0 P G f (args.map (c3 G σ)) l (c:=⟨K⟩)
 | .mQ x args=>vH P G (c3 G σ x) (args.map (c3 G σ)) l (c:=⟨K⟩)
 | .oj x name args=>vG P G name (c3 G σ x) (args.map (c3 G σ)) l (c:=⟨K⟩)
def qu (σ:bc) (g:Option (Option Tmp × Bool)) (p q:Prop) :Prop:=match g with
 | none=>p
 | some (some d,w)=>rO (σ d) w (c:=⟨p,q⟩)
 | some (none,_)=>q
def i9:List dn->bc->ao->(bc->ao->Prop)->Prop
 | [],σ,l,K=>K σ l
 | s::r,σ,l,K=>qu σ s.g (iu P G s.b σ l fun v l'=>i9 r (hV σ s.dst v) l' K) (i9 r (hV σ s.dst gL) l K)
abbrev iZ:=List (Nat × (ao->Prop))
def pX (ids:List Nat) :iZ->ao->Prop
 | [],_=>True
 | e::r,l=>(ids.contains e.1=true->e.2 l)/\pX ids r l
def da.jo:da->Bool
 | .alloc _ | .box _ | .q6 .. | .rT ..=>true
 | _=>false
def l8 (b:qR) (σ:bc) (v:U) (l l' l1:ao) :Prop:=match b with
 | .gH m=>match m.jo with
  | true=>l1[l.length]? = l'[l.length]?
  | false=>bT P (c3 G σ) l1 m=some (v,l1)
 | _=>True
def r6 (cd:Bool) (i:Nat) (p:ao->Prop) (s:iZ) :iZ:=match cd with | true=>(i,p) ::s | false=>s
def kh:List dn->bc->ao->iZ->(bc->ao->Prop)->Prop
 | [],σ,l,_,K=>K σ l
 | s::r,σ,l,seen,K=>qu σ s.g (iu P G s.b σ l fun v l'=>pX s.h1 seen l'/\kh r (hV σ s.dst v) l' (r6 s.cd s.i (l8 P G s.b σ v l l') seen) K) (kh r (hV σ s.dst gL) l seen K)
def oL (k:bc->ao->Prop) (K:hA) :hA:=fun e σ l=>match e with
 | .normal=>k σ l
 | .exit id=>K (.exit id) σ l
 | .ret=>K .ret σ l
def rN (id:Nat) (K:hA) :hA:=fun e σ l=>match e with
 | .normal=>K .normal σ l
 | .exit sX=>match Nat.beq sX id with | true=>K .normal σ l | false=>K (.exit sX) σ l
 | .ret=>K .ret σ l
def Bb (r:bc->ao->hA->Prop) :Nat->bc->ao->hA->Prop
 | 0=>fun _ _ _=>False
 | n+1=>fun σ l K=>r σ l (oL (fun σ l=>Bb r n σ l K) K)
def Fu (r:bc->ao->hA->Prop) (σ:bc) (l:ao) [c:Jm] :Prop:=∃ n,Bb r n σ l c.k
def run:fB->bc->ao->hA->Prop
 | .skip,σ,l,K=>K .normal σ l
 | .ret,σ,l,K=>K .ret σ l
 | .exit id,σ,l,K=>K (.exit id) σ l
 | .lz s,σ,l,K=>i9 P G s σ l (K .normal)
 | .xW s,σ,l,K=>kh P G s σ l [] (K .normal)
 | .seq a b,σ,l,K=>run a σ l (oL (fun σ l=>run b σ l K) K)
 | .cond c x y,σ,l,K=>yR (c3 G σ c) (c:=⟨run x σ l K,run y σ l K⟩)
 | .block id c,σ,l,K=>run c σ l (rN id K)
 | .loop c,σ,l,K=>Fu (run c) σ l (c:=⟨K⟩)
def BE (ops:Array Oper) (i:Nat) (h1:List Nat) (cd:Bool) :Option dn:=(ops[i]?).bind fun o=>
 let g:=o.guard.map fun gd=>((ops[gd.1]?).bind (·.dst),gd.2)
 match ny P o.op with
 | some m=>some ⟨i,o.dst,g,.gH m,h1,cd⟩
 | none=>match o.op with
  | .call c=>match c.callee with
   | .value (.func f)=>match jH P f with
    | true=>some ⟨i,o.dst,g,.mP f c.args.toList,h1,cd⟩
    | false=>none
   | .value x=>some ⟨i,o.dst,g,.mQ x c.args.toList,h1,cd⟩
   | .invoke x name=>some ⟨i,o.dst,g,.oj x name c.args.toList,h1,cd⟩
   | _=>none
  | _=>none
def tq:Op->Bool
 | .load .. | .convert .. | .alloc _ | .box .. | .buildSlice .. | .makeSlice ..=>true
 | .call c=>match c.callee,c.argTypes.toList with
  | .builtin .len,[t]=>match P.underlying t with | some (.map _ _)=>true | _=>false
  | _,_=>false
 | _=>false
def abp (ms:List Nat) (ops:Array Oper) (done ld:List Nat) :List Nat:=
 done.filter fun j=>(match ops[j]? with | some o=>tq P o.op | none=>false)&&ld.all fun e=>!pw ms e j
def oQ (ms:List Nat) (ops:Array Oper) :List Nat->List Nat->List Nat->List (Nat × List Nat)
 | [],_,_=>[]
 | i::r,done,ld=>match ops[i]? with
  | none=>[]
  | some o=>match kY o.op with
   | true=>(i,abp P ms ops done (i::ld)) ::oQ ms ops r (i::done) (match o.guard with | none=>i::ld | some _=>ld)
   | false=>(i,[]) ::oQ ms ops r (i::done) ld
def Cw (ms:List Nat) (ops:Array Oper) :List Nat->Bool
 | []=>true
 | i::r=>(match ops[i]? with | some o=>!kY o.op||r.all fun j=>pw ms j i | none=>false)&&Cw ms ops r
def J6 (N:Nat) (ops:Array Oper) (draw:Bool) :Option fB:=
 match ops.toList.all fun o=>jZ N o.dst with
 | false=>none
 | true=>match draw with
  | false=>((List.range ops.size).mapM fun i=>BE P ops i [] false).map .lz
  | true=>
   let ms:=i8 ops
   let ord:=fL ms ops
   match Nq ms ops ord&&Cw ms ops ord with
   | false=>none
   | true=>
    let W1:=oQ P ms ops ord [] []
    let ask:=W1.flatMap (·.2)
    match W1.mapM fun p=>BE P ops p.1 p.2 (ask.contains p.1) with
    | none=>none
    | some s=>match ask with
     | []=>some (.lz s)
     | _=>some (.xW s)
def comp (N:Nat) :Code->Option fB
 | .skip=>some .skip
 | .label _=>some .skip
 | .ret=>some .ret
 | .exit id=>some (.exit id)
 | .region _ ops draw=>J6 P N ops draw
 | .seq a b=>match comp N a,comp N b with
  | some .skip,some b=>some b
  | some a,some .skip=>some a
  | some a,some b=>some (.seq a b)
  | _,_=>none
 | .cond c x y=>match comp N x,comp N y with
  | some x,some y=>some (.cond c x y)
  | _,_=>none
 | .block id c=>(comp N c).map (.block id)
 | .loop c=>(comp N c).map .loop
 | .scope c=>comp N c
 | _=>none
def vP (f:FuncId) :Option fB:=match P.funcs[f]? with
 | some fn=>match fn.body with
  | some c=>comp P fn.ntmps c
  | none=>none
 | none=>none
end

section
variable {P:Program} {G:Nat->U}
theorem Pz {l l' : ao} {z by_ n:Nat} {s v:U} {xs:List U} (h:jB l z by_ s xs n=some (v,l')) :l.length<=l'.length:=by
 unfold jB at h
 repeat' split at h
 all_goals first | (cases h; done) | (cases h; simp)
theorem Wq {aA:Operand->U} {l l' : ao} {m:da} {v:U} (h:bT P aA l m=some (v,l')) :l.length<=l'.length:=by
 cases m<;>simp only[bT,gU,map_some,Option.some.injEq,Prod.mk.injEq] at h
 case fR=>obtain⟨_,rfl⟩:=h; exact aun _
 case alloc=>obtain⟨_,rfl⟩:=h; simp
 case box=>obtain⟨_,_,_,rfl⟩:=h; simp
 case q6=>obtain⟨_,_,_,rfl⟩:=h; simp
 case st n a x=>
  obtain⟨_,h,_,rfl⟩:=h;unfold l9 at h
  repeat' split at h
  all_goals first | (cases h; done) | (cases h; simp)
 case y2=>obtain⟨_,rfl⟩:=h; exact aun _
 case y1=>obtain⟨_,rfl⟩:=h; exact aun _
 case rT=>
  unfold rU at h
  repeat' split at h
  all_goals first | (cases h; done) | (cases h; simp)
 case app=>
  unfold gX at h;split at h
  ·cases h
  ·exact Pz h
 case vx=>
  unfold q4 at h
  repeat' split at h
  all_goals first | (cases h; done) | exact Pz h
 case vU=>
  unfold z0 at h
  repeat' split at h
  all_goals first | (cases h; done) | (cases h; simp)
 case vM=>
  obtain⟨_,h,_,rfl⟩:=h;unfold ss at h
  repeat' split at h
  all_goals first | (cases h; done) | (cases h; simp)
 case stop=>cases h
 case uV x=>
  cases x with
  | none=>cases h; simp
  | some o=>
   simp only at h;split at h
   ·cases h; simp
   ·cases h
 case wM=>
  obtain⟨_,h,_,rfl⟩:=h;unfold wJ at h
  repeat' split at h
  all_goals first | (cases h; done) | (cases h; simp)
 case w3=>
  unfold Br at h
  repeat' split at h
  all_goals first | (cases h; done) | (cases h; simp)
 case wQ=>
  unfold uW at h
  repeat' split at h
  all_goals first | (cases h; done) | (cases h; simp)
 case cg=>
  split at h
  ·rw[gU] at h; obtain⟨_,rfl⟩:=h; exact aun _
  ·cases h
 all_goals (obtain⟨_,rfl⟩:=h; exact aun _)
theorem zF {α:Type} {o:Option α} {c:O9 α}:W o (c:=c)<->∃ v,o=some v/\c.k v:=by
 unfold W; cases o<;>simp
theorem Ej {b:Bool} {c:BZ}:rP b (c:=c)<->(b=true/\c.p)\/(b=false/\c.q) :=by cases b<;>simp[rP]
structure pR (P:Program) (ops:Array Oper) (s:dn) (o:Oper) :Prop where
 here:ops[s.i]? = some o
 dst:s.dst=o.dst
 g:s.g=o.guard.map fun gd=>((ops[gd.1]?).bind (·.dst),gd.2)
 gH:∀ m,s.b=.gH m->ny P o.op=some m
 mP:∀ f args,s.b=.mP f args->∃ c:Call,o.op=.call c/\c.callee=.value (.func f)/\c.args.toList=args/\jH P f=true
 mQ:∀ x args,s.b=.mQ x args->∃ c:Call,o.op=.call c/\c.callee=.value x/\c.args.toList=args
 oj:∀ x name args,s.b=.oj x name args->∃ c:Call,o.op=.call c/\c.callee=.invoke x name/\c.args.toList=args
theorem E8 {ops:Array Oper} {i:Nat} {h1:List Nat} {cd:Bool} {s:dn} (h:BE P ops i h1 cd=some s) :∃ o,pR P ops s o/\s.i=i/\s.h1=h1/\s.cd=cd:=by
 unfold BE at h;rw[bind_some] at h;obtain⟨o,au,h⟩:=h;refine⟨o,?_⟩;simp only at h;split at h
 ·rename_i m hm;cases h;exact⟨⟨au,rfl,rfl,fun cm h=>(by cases h; exact hm),fun f a h=>(by cases h),fun x a h=>(by cases h),fun x n a h=>(by cases h)⟩,rfl,rfl,rfl⟩
 ·split at h
  ·rename_i c iK;split at h
   ·rename_i f ah;split at h
    ·rename_i aE;cases h;exact⟨⟨au,rfl,rfl,fun cm h=>(by cases h),fun f a h=>(by cases h; exact⟨c,iK,ah,rfl,aE⟩),fun x a h=>(by cases h),fun x n a h=>(by cases h)⟩,rfl,rfl,rfl⟩
    ·cases h
   ·rename_i x af ah;cases h;exact⟨⟨au,rfl,rfl,fun cm h=>(by cases h),fun f a h=>(by cases h),fun x a h=>(by cases h; exact⟨c,iK,ah,rfl⟩),fun x n a h=>(by cases h)⟩,rfl,rfl,rfl⟩
   ·rename_i x name ah;cases h;exact⟨⟨au,rfl,rfl,fun cm h=>(by cases h),fun f a h=>(by cases h),fun x a h=>(by cases h),fun x n a h=>by cases h; exact⟨c,iK,ah,rfl⟩⟩,rfl,rfl,rfl⟩
   ·cases h
  ·cases h
theorem SN {g:FuncId} (aE:jH P g=true) {h:aN} {aA:Operand->U} {c:Call} {x:Operand} {first gB:List U} (ah:c.callee=.value x) (af:aA x=.fn g first gB) :
  c6 P h aA (.call c)=some (.call g (first++c.args.toList.map aA++gB) h) :=by
 unfold jH at aE;simp only[c6,vF,ah,af];cases il:P.funcs[g]? with
 | none=>rw[il] at aE; cases aE
 | some fn=>
  rw[il] at aE;simp only[aus,bne_iff_ne] at aE;simp only;rw[if_pos aE]
theorem ac6 {g:FuncId} (aE:jH P g=true) {h:aN} {aA:Operand->U} {c:Call} {x:Operand} {name:String} {t:TypeId} {v:U} (ah:c.callee=.invoke x name) (af:aA x=.hF t v) (hm:yZ P t name=some g) :
  c6 P h aA (.call c)=some (.call g (v::c.args.toList.map aA) h) :=by
 unfold jH at aE;simp only[c6,vF,ah,af,hm];cases il:P.funcs[g]? with
 | none=>rw[il] at aE; cases aE
 | some fn=>
  rw[il] at aE;simp only[aus,bne_iff_ne] at aE;simp only;rw[if_pos aE]
def da.looks:da->Bool
 | .alloc _ | .box _ | .q6 .. | .rT .. | .st .. | .app .. | .vx .. | .vU .. | .vM .. | .uV _ | .yV .. | .wM .. | .w3 _ | .wQ _ | .cg .. | .BF .. | .stop=>false
 | _=>true
theorem aia {m:da} {v:U} {l:ao} {K:U->ao->Prop} (h:eG m v l K) :K v l\/(m.looks=false/\m.jo=false/\∃ bU bj,nr (bb l) (bb bj)/\np (bb l) (bb bj) v bU/\K bU bj) :=by
 cases m<;>first | exact .inl h | skip
 rcases h with h | h
 ·exact .inl h
 ·exact .inr ⟨rfl,rfl,h⟩
theorem VW {m:da} {v:U} {l:ao} {K fb:U->ao->Prop} (aT:∀ v l,K v l->fb v l) (h:eG m v l K) :eG m v l fb:=by
 cases m<;>first | exact aT _ _ h | skip
 rcases h with h | ⟨bU,bj,ad,ae,aj⟩
 ·exact .inl (aT _ _ h)
 ·exact .inr ⟨bU,bj,ad,ae,aT _ _ aj⟩
theorem YA {ops:Array Oper} {s:dn} {o:Oper} (ok:pR P ops s o) {σ:bc} {l:ao} {K:U->ao->Prop} (h:iu P G s.b σ l K) :
  ∃ v l',dG P G (.op o.op σ (bb l) v (bb l'))/\l.length<=l'.length/\K v l'/\∀ m,s.b=.gH m->(m.looks=true\/m.jo=true)->bT P (c3 G σ) l m=some (v,l') :=by
 cases ag:s.b with
 | gH m=>
  rw[ag] at h;simp only[iu,zF] at h;obtain⟨⟨v,l'⟩,ad,ae⟩:=h;have am:=dG.Ik (G:=G) (H9 (ok.gH m ag) ad);rcases aia ae with ae | ⟨iP,mz,bU,bj,bZ,cc,eF⟩
  ·exact⟨v,l',am,Wq ad,ae,fun cm hm _=>by cases hm; exact ad⟩
  ·refine⟨bU,bj,.Jb am bZ cc,au7 (Wq ad) (Nat.le_of_eq bZ.n.symm),eF,fun cm hm al=>?_⟩;cases hm;rw[iP,mz] at al;rcases al with h | h<;>cases h
 | mP f args=>
  rw[ag] at h;obtain⟨r,l',ad,ae,aj⟩:=h;obtain⟨c,iK,ah,aC,aE⟩:=ok.mP f args ag;refine⟨r,l',?_,ae,aj,fun cm hm _=>by cases hm⟩;rw[iK];refine .Bj (SN aE ah rfl) ?_;simpa [aC] using ad
 | mQ x args=>
  rw[ag] at h;simp only[iu] at h;obtain⟨c,iK,ah,aC⟩:=ok.mQ x args ag;unfold vH at h;split at h
  ·rename_i g first gB af
   obtain⟨aE,r,l',ad,ae,aj⟩:=h;refine⟨r,l',?_,ae,aj,fun cm hm _=>by cases hm⟩;rw[iK];refine .Bj (SN aE ah af) ?_;rw[aC]; exact ad
  ·cases h
 | oj x name args=>
  rw[ag] at h;simp only[iu] at h;obtain⟨c,iK,ah,aC⟩:=ok.oj x name args ag;unfold vG at h;split at h
  ·rename_i t v af;split at h
   ·rename_i g hm;obtain⟨aE,r,l',ad,ae,aj⟩:=h;refine⟨r,l',?_,ae,aj,fun cm hm _=>by cases hm⟩;rw[iK];refine .Bj (ac6 aE ah af hm) ?_;rw[aC]; exact ad
   ·cases h
  ·cases h
theorem Vp {ops:Array Oper} {s:dn} {o:Oper} (ok:pR P ops s o) {σ:bc} {p q:Prop} (h:qu σ s.g p q) :(k7 ops σ o=some true/\p)\/(k7 ops σ o=some false/\q) :=by
 rw[ok.g] at h;unfold k7;cases aw:o.guard with
 | none=>rw[aw] at h; exact .inl ⟨rfl,h⟩
 | some gd=>
  obtain⟨j,w⟩:=gd;rw[aw] at h;simp only[auv] at h ⊢;cases bf:(ops[j]?).bind (·.dst) with
  | none=>rw[bf] at h; exact .inr ⟨rfl,h⟩
  | some d=>
   rw[bf] at h;simp only[qu,rO] at h ⊢;cases ak:σ d<;>rw[ak] at h<;>simp only at h ⊢<;>first | exact .inr ⟨trivial,h⟩ | (cases h; done) | skip
   rw[Ej] at h;rcases h with ⟨ad,ae⟩ | ⟨ad,ae⟩
   ·exact .inl ⟨by rw[ad],ae⟩
   ·exact .inr ⟨by rw[ad],ae⟩
inductive od (P:Program) (ops:Array Oper) :List dn->List Oper->Prop
 | nil:od P ops [] []
 | cons {s o qG os}:pR P ops s o->od P ops qG os->od P ops (s::qG) (o::os)
theorem E0 {ops:Array Oper} {N:Nat} (fe:∀ (i:Nat) (o:Oper),ops[i]? = some o->jZ N o.dst=true) {K:bc->ao->Prop}:∀ {s:List dn} {os:List Oper} {σ:bc} {l:ao},
  od P ops s os->i9 P G s σ l K->∃ bD l',dG P G (.ops ops os N σ (bb l) bD (bb l'))/\l.length<=l'.length/\K bD l'
 | [],_,σ,l,aE,h=>by cases aE; exact⟨σ,l,.WI,aun _,h⟩
 | s::r,_,σ,l,aE,h=>by
  cases aE with
  | cons ok aE=>
   rename_i o os;rcases Vp ok h with ⟨aX,h⟩ | ⟨aX,h⟩
   ·obtain⟨v,l1,ad,ae,aj,_⟩:=YA ok h;obtain⟨bD,l',aG,bh,bF⟩:=E0 fe aE aj;exact⟨bD,l',.WJ aX (fe _ _ ok.here) ad (by rw[<-ok.dst]; exact aG),au7 ae bh,bF⟩
   ·obtain⟨bD,l',aG,bh,bF⟩:=E0 fe aE h;exact⟨bD,l',.WK aX (fe _ _ ok.here) (by rw[<-ok.dst]; exact aG),bh,bF⟩
theorem XG {l x:ao} {p:U} {y:List U × Nat} (h:hg l p=some y) :hg (l++x) p=some y:=by
 cases p<;>first | exact h | skip
 rename_i b off sz;simp only[hg] at h ⊢;cases ag:l[b]? with
 | none=>rw[ag] at h; cases h
 | some c=>rw[ag] at h; rw[aum (b6 ag),ag]; exact h
theorem abJ {l x:ao} {z:Nat} {p:U} {y:List U × Nat} (h:dD l z p=some y) :dD (l++x) z p=some y:=by
 cases p<;>first | exact h | skip
 rename_i dF b off len cap sz;simp only[dD] at h ⊢;cases ag:l[b]? with
 | none=>rw[ag] at h; cases h
 | some c=>rw[ag] at h; rw[aum (b6 ag),ag]; exact h
theorem abl {l x:ao} {p v:U} (h:vI l p=some v) :vI (l++x) p=some v:=by
 unfold vI at h ⊢;cases p<;>simp only at h ⊢<;>first | exact h | skip
 all_goals
  split at h
  ·rename_i cs n ah;rw[abJ ah]; exact h
  ·cases h
def da.reads:da->Bool
 | .nR _ | .l6 .. | .tT _ | .wF _=>true
 | _=>false
theorem V8 {aA:Operand->U} {l l' : ao} {m:da} {v:U} (hm:m.looks=true) (h:bT P aA l m=some (v,l')) :l'=l:=by
 cases m<;>simp only[da.looks,Bool.true_eq,avF,reduceCtorEq] at hm<;>simp only[bT,gU,Option.some.injEq,Prod.mk.injEq] at h<;>first | exact h.2 | exact h.2.symm
theorem aiC {aA:Operand->U} {l x:ao} {m:da} {v:U} (hm:m.looks=true) (h:bT P aA l m=some (v,l)) :bT P aA (l++x) m=some (v,l++x) :=by
 cases m<;>simp only[da.looks,Bool.true_eq,avF,reduceCtorEq] at hm<;>simp only[bT,gU,Option.some.injEq,Prod.mk.injEq,and_true] at h ⊢<;>try exact h
 case nR a=>
  rw[bind_some] at h ⊢;obtain⟨y,ad,ae⟩:=h;exact⟨y,XG ad,ae⟩
 case l6 n a=>
  rw[bind_some] at h ⊢;obtain⟨y,ad,ae⟩:=h;exact⟨y,XG ad,ae⟩
 case tT x=>exact abl h
 case wF y=>
  unfold Es at h ⊢;cases af:aA y<;>rw[af] at h<;>(try simp only at h)<;>try (cases h; done)
  ·exact h
  ·rename_i b;cases ag:l[b]? with
   | none=>rw[ag] at h; cases h
   | some c=>simp only[aum (b6 ag)]; exact h
theorem aiD {aA:Operand->U} {l bj:ao} {m:da} {v:U} (hm:m.looks=true) (az:m.reads=false) (h:bT P aA l m=some (v,l)) :bT P aA bj m=some (v,bj) :=by
 cases m<;>simp only[da.looks,Bool.true_eq,avF,reduceCtorEq] at hm<;>simp only[da.reads,reduceCtorEq] at az<;>simp only[bT,gU,Option.some.injEq,Prod.mk.injEq,and_true] at h ⊢<;>exact h
theorem NN (zero:List U) :∀ n,(dC zero n).length=n*zero.length
 | 0=>by simp[dC]
 | n+1=>by rw[dC,auu,NN zero n,au2,aw9]
theorem amc {cs vs:List U} {off:Nat} (h:off+vs.length<=cs.length) :(a8 cs off vs).length=cs.length:=by
 simp only[a8,auu,auA,avh]; omega
theorem Sx {ly:Nat->Option (Nat × Nat)}:∀ {ps:List (Nat × U)} {zero cs:List U},h4 ly zero ps=some cs->cs.length=zero.length
 | [],zero,cs,h=>by simp only[h4,Option.some.injEq] at h; rw[<-h]
 | (i,v) ::r,zero,cs,h=>by
  unfold h4 at h;split at h
  ·rename_i off size vs _ _;split at h
   ·rename_i ad;rw[Sx h,amc (by omega)]
   ·cases h
  ·cases h
theorem ajj {op:Op} {m:da} (hm:ny P op=some m) (aD:m.jo=true) {aA:Operand->U} {l l' : ao} {v:U} (h:bT P aA l m=some (v,l')) :
  ∃ cs mk,nV P aA op=some (cs,mk)/\v=mk l.length/\l'=l++[.cells cs.length cs] :=by
 cases op<;>simp only[ny] at hm<;>try (cases hm; done)
 case alloc t=>
  rw[map_some] at hm;obtain⟨zero,ad,rfl⟩:=hm;simp only[bT,Option.some.injEq,Prod.mk.injEq] at h;obtain⟨rfl,rfl⟩:=h;exact⟨zero,_,by simp only[nV,ad]; rfl,rfl,rfl⟩
 case box t x=>
  cases hm;simp only[bT,map_some,Prod.mk.injEq] at h;obtain⟨cs,ad,rfl,rfl⟩:=h;exact⟨cs,_,by simp only[nV,ad]; rfl,rfl,rfl⟩
 case buildSlice t n ps=>
  simp only[bind_some] at hm;obtain⟨e,ad,z,ae,zero,aj,hm⟩:=hm;rw[iN] at hm;obtain⟨aG,rfl⟩:=hm;simp only[bT,map_some,Prod.mk.injEq] at h;obtain⟨cs,bh,rfl,rfl⟩:=h;have bC:cs.length=n*z:=by rw[Sx bh,NN,aG.1]
  exact⟨cs,_,by simp only[nV,ad,ae,aj,if_pos aG,bh]; rfl,rfl,by rw[bC]⟩
 case makeSlice t a c=>
  simp only[bind_some] at hm;obtain⟨e,ad,z,ae,by_,aj,zero,aG,hm⟩:=hm;rw[iN] at hm;obtain⟨bh,rfl⟩:=hm;simp only[bT] at h;unfold rU at h;cases aC:aA a<;>rw[aC] at h<;>(try simp only at h)<;>try (cases h; done)
  cases ah:aA c<;>rw[ah] at h<;>(try simp only at h)<;>try (cases h; done)
  rw[iN] at h;obtain⟨bF,dz⟩:=h;cases dz;rename_i kc nc;have bC:(dC zero nc.toNat).length=nc.toNat*z:=by rw[NN,bh]
  exact⟨dC zero nc.toNat,_,by simp only[nV,aC,ah,ad,asInt,ae,aj,aG]; rw[if_pos ⟨bh,bF⟩],rfl,by rw[bC]⟩
 case pick=>cases hm; cases aD
 case move=>cases hm; cases aD
 case assign=>cases hm; cases aD
 case nilCheck=>cases hm; cases aD
 case binOp=>cases hm; cases aD
 case unOp=>cases hm; cases aD
 case call c=>
  exfalso;split at hm
  ·unfold vO at hm
   repeat' split at hm
   all_goals first
    | (cases hm; done)
    | (cases hm; cases aD; done)
    | (simp only[bind_some,map_some] at hm; obtain⟨_,_,rfl⟩:=hm; cases aD; done)
    | (simp only[bind_some,map_some] at hm; obtain⟨_,_,_,_,rfl⟩:=hm; cases aD; done)
    | (simp only[bind_some,iN] at hm; obtain⟨_,_,_,_,_,_,_,rfl⟩:=hm; cases aD; done)
    | (simp only[bind_some,iN] at hm; obtain⟨_,_,_,_,_,_,_,_,_,rfl⟩:=hm; cases aD; done)
  ·split at hm
   ·rw[iN] at hm; obtain⟨_,rfl⟩:=hm; cases aD
   ·cases hm
  ·cases hm
 case next it b=>exfalso; cases b<;>simp only[reduceCtorEq] at hm<;>cases hm<;>cases aD
 case panic=>cases hm; cases aD
 case lookup=>exfalso; split at hm<;>(try cases hm; done); rw[map_some] at hm; obtain⟨_,_,rfl⟩:=hm; cases aD
 case build=>exfalso; simp only[bind_some,map_some] at hm; obtain⟨_,_,_,_,rfl⟩:=hm; cases aD
 case typeAssert=>exfalso; rw[map_some] at hm; obtain⟨_,_,rfl⟩:=hm; cases aD
 case store=>exfalso; rw[map_some] at hm; obtain⟨_,_,rfl⟩:=hm; cases aD
 case slice=>exfalso; rw[map_some] at hm; obtain⟨_,_,rfl⟩:=hm; cases aD
 case fieldAddr=>exfalso; rw[bind_some] at hm; obtain⟨_,_,hm⟩:=hm; split at hm<;>cases hm; cases aD
 case field=>exfalso; rw[bind_some] at hm; obtain⟨_,_,hm⟩:=hm; split at hm<;>cases hm<;>cases aD
 case extract=>cases hm; cases aD
 case makeFunc f a b=>exfalso; cases f<;>simp only at hm<;>cases hm; cases aD
 all_goals
  exfalso
  repeat' split at hm
  all_goals first | (cases hm; done) | (cases hm; cases aD; done)
end

end Go.b0

/-
  The canonical machine, part N: a region that draws its order.
-/
import Derived.Test.YtidejmkknleijaaGreatDoorKc
import Derived.ProofKit
set_option linter.unusedVariables false
set_option linter.unusedSimpArgs false
set_option linter.unnecessarySimpa false
namespace Go.ca
open Go
section
variable {P:Program} {G:Nat->U}
theorem wv {ops:Array Oper} {t i:Nat} (h:i5 ops t=some i) :∃ o,ops[i]? = some o/\o.dst=some t:=by
 unfold i5 at h;have:=List.find?_some h;cases au:ops[i]? with
 | none=>simp[au] at this
 | some o=>exact⟨o,rfl,by simpa [au] using this⟩
def q8 (ops:Array Oper) (val ae:Nat->U) (c1:Array Bool) :Nat->U:=fun t=>
 match i5 ops t with
 | some i=>if c1.getD i false then val i else ae t
 | none=>ae t
theorem T3 {ops:Array Oper} {pre:Nat->Nat->Bool} (g7:re ops pre) {c1:Array Bool}
  (down:∀ (i:Nat) (o:Oper) (e:Edge),ops[i]? = some o->c1.getD i false=true->e∈o.after->Region.binds .any e=true->c1.getD e.on false=true)
  (dj:∀ i,c1.getD i false=true->∃ o,ops[i]? = some o) :∀ (i:Nat),c1.getD i false=true->∀ j,pre i j=true->c1.getD j false=true:=by
 intro i
 induction i using Nat.strongRecOn with
 | _ i aQ=>
  intro aB j aj;obtain⟨o,au⟩:=dj i aB;obtain⟨e,ao,ag,l9⟩:=g7.chain i o j au aj;have er:=down i o e au aB ao ag;rcases l9 with rfl | l9
  ·exact er
  ·exact aQ e.on (g7.zf i o e au ao ag) er j l9
theorem vp (c1:Array Bool) (i j:Nat) (aB:i<c1.size) :(c1.setIfInBounds i true).getD j false=if j=i then true else c1.getD j false:=by
 rw[ak2,alt];by_cases h:i=j
 ·subst h; simp[aB]
 ·rw[if_neg h,if_neg (Ne.symm h),ak2]
theorem Et {ops:Array Oper} {pre:Nat->Nat->Bool} (g7:re ops pre) {val ae:Nat->U} {c1:Array Bool} {i:Nat} {o:Oper} (au:ops[i]? = some o) (aB:i<c1.size) :
  q8 ops val ae (c1.setIfInBounds i true)=hn (q8 ops val ae c1) o.dst (val i) :=by
 funext t;unfold q8 hn;cases bh:o.dst with
 | none=>
  simp only;cases aV:i5 ops t with
  | none=>rfl
  | some j=>
   have bW:j≠i:=fun aR=>by
    obtain⟨df,c6,zO⟩:=wv aV;rw[aR,au] at c6; cases c6;rw[bh] at zO; cases zO
   simp only[vp _ _ _ aB,if_neg bW]
 | some d=>
  simp only;by_cases a3:t=d
  ·subst a3;rw[g7.one i o t au bh];simp[vp _ _ _ aB]
  ·rw[b8 _ _ _ _ a3];cases aV:i5 ops t with
   | none=>rfl
   | some j=>
    have bW:j≠i:=fun aR=>by
     obtain⟨df,c6,zO⟩:=wv aV;rw[aR,au] at c6; cases c6;rw[bh] at zO; cases zO;exact a3 rfl
    simp only[vp _ _ _ aB,if_neg bW]
structure Inv (P:Program) (ops:Array Oper) (val ae:Nat->U) (W:Nat->Bool) (cls:Nat->Bx) (m:Nat) (ak:Nat->Nat) (fj:Nat->aW) (go:Nat->Nat) (N:Nat)
  (R:Nat->Prop) (B:Nat) (h2:World) (h:aW) (uP:cI) (c1:Array Bool) (k:Nat) (a:Act) (w:World) (μ:cI) :Prop where
 size:c1.size=ops.size
 down:∀ (i:Nat) (o:Oper) (e:Edge),ops[i]? = some o->c1.getD i false=true->e∈o.after->Region.binds .any e=true->c1.getD e.on false=true
 AD:k<=m
 done:∀ q,q<m->(c1.getD (ak q) false=true<->q<k)
 ext:Ext0 h2 h uP w (fj k) μ
 o5:∀ b,b<h.n->uP b=none->μ b=none
 rel:bZ R B w (fj k) μ
 ut:lR N w R (fj k) μ (q8 ops val ae c1) a
 A0:∀ (i:Nat) (o:Oper),ops[i]? = some o->W i=true->cls i=.new->c1.getD i false=false->μ (go i)=none
theorem Y6 {ops:Array Oper} {c1:Array Bool} (hv:c1.size=ops.size) (i:Nat) (aB:c1.getD i false=true) :∃ o,ops[i]? = some o:=by
 have:i<ops.size:=by
  rcases akX i c1.size with ad | ad
  ·omega
  ·simp[ak2,ame ad] at aB
 exact⟨ops[i],by simp[this]⟩
theorem Su {ops:Array Oper} {pre:Nat->Nat->Bool} (g7:re ops pre) {c1:Array Bool} (hv:c1.size=ops.size) (ay:Region.ready .any ops c1=[]) :∀ i,i<ops.size->c1.getD i false=true:=by
 intro i
 induction i using Nat.strongRecOn with
 | _ i aQ=>
  intro aB;cases am:c1.getD i false with
  | true=>rfl
  | false=>
   exfalso;have lB:i∈Region.ready .any ops c1:=by
    refine mem_ready.2 ⟨?_,ops[i],by simp[aB],fun e ao ag=>aQ e.on (g7.zf i ops[i] e (by simp[aB]) ao ag) (by
     have:=g7.zf i ops[i] e (by simp[aB]) ao ag;omega)⟩
    have aO:i<c1.size:=by omega
    simpa [ak2,aO] using am
   rw[ay] at lB;cases lB
theorem T6 (k4:P.follows .mixedOrders=true) (ky:∀ g,(G g).closed=true) :J1 P G:=by
 intro id ops N ae h bS h' pre val W cls m ak fj qc go cells g7 oA aF hm Ds vC zR me py tw Dl Dg vQ CF CG oC xq;refine⟨0,fun R B h2 uP a0 Q Qc cp s0 lH=>wp_region_any k4 ?_⟩;obtain⟨hr,aby⟩:=Eh Qc ⟨(RowKit.Below.refl h2.heap.size h2).drew,Nat.le_succ _⟩;obtain⟨aS,abz⟩:=aF.rel aby;have Lo:=hr.trans aS
 -- the end
 have l3:∀ (c1:Array Bool) (k:Nat) (a:Act) (w:World) (μ:cI),Inv P ops val ae W cls m ak fj go N R B h2 h uP c1 k a w μ->(∀ i,i<ops.size->c1.getD i false=true)->Q .normal a w:=by
  intro c1 k a w μ inv eA;have ax:k=m:=by
   rcases akX k m with aO | tf
   ·obtain⟨o,au,_⟩:=zR k aO;have am:=eA (ak k) ((akI.1 au).1);have:=(inv.done k aO).1 am;omega
   ·have:=inv.AD; omega
  subst ax;have XT:q8 ops val ae c1=bS:=by
   rw[Ds];funext t;unfold q8;cases aV:i5 ops t with
   | none=>rfl
   | some i=>
    obtain⟨o,au,_⟩:=wv aV;simp only[eA i ((akI.1 au).1),if_true]
  subst hm;have bq:=inv.ut;rw[XT] at bq;exact lH a w μ ⟨inv.ext,inv.o5⟩ inv.rel bq
 have key:∀ (fuel:Nat) (c1:Array Bool) (k:Nat) (a:Act) (w:World) (μ:cI),Inv P ops val ae W cls m ak fj go N R B h2 h uP c1 k a w μ->c1.toList.count false=fuel->wpAny P .any ops Q fuel c1 a w:=by
  intro fuel
  induction fuel with
  | zero=>
   intro c1 k a w μ inv ML;have eA:∀ i,i<ops.size->c1.getD i false=true:=by
    intro i aB;have aO:i<c1.size:=by rw[inv.size]; exact aB
    cases am:c1[i] with
    | true=>simp[ak2,aO,am]
    | false=>
     exfalso;have lB:false∈c1.toList:=by rw[<-am]; simp
     have:=List.count_pos_iff.2 lB;omega
   refine⟨?_,l3 c1 k a w μ inv eA⟩;cases ay:Region.ready .any ops c1 with
   | nil=>rfl
   | cons i l=>
    exfalso;have lB:i∈Region.ready .any ops c1:=by rw[ay]; simp
    obtain⟨ad,o,au,_⟩:=mem_ready.1 lB;have aB:=(akI.1 au).1;have af:=eA i aB;have aO:i<c1.size:=by rw[inv.size]; exact aB
    simp[ak2,aO] at ad af;rw[ad] at af; cases af
  | succ fuel aQ=>
   intro c1 k a w μ inv ML;refine⟨fun ay=>l3 c1 k a w μ inv (Su g7 inv.size ay),fun i aB=>?_⟩;obtain⟨ad,o,au,MR⟩:=mem_ready.1 aB;have aO:i<c1.size:=by rw[inv.size]; exact (akI.1 au).1
   have jB:c1.getD i false=false:=by simpa [ak2,aO] using ad
   have Mf:=T3 g7 inv.down (Y6 inv.size)
   -- what comes before i is done
   have He:∀ j,pre i j=true->c1.getD j false=true:=by
    intro j aj;obtain⟨e,ao,ag,l9⟩:=g7.chain i o j au aj;have er:=MR e ao ag;rcases l9 with rfl | l9
    ·exact er
    ·exact Mf e.on er j l9
   have NG:∀ j,c1.getD j false=true->pre j i=true->False:=fun j aj av=>by
    have:=Mf j aj i av;rw[jB] at this; cases this
   have MU:w0 pre m ak i k:=⟨inv.AD,fun q a8 av=>(inv.done q a8).1 (He _ av),fun q a8 av=>by
    rcases akX q k with jz | tf
    ·exact (NG _ ((inv.done q a8).2 jz) av).elim
    ·exact tf⟩
   -- what i sees
   have MT:∀ t,aP w R (fj k) μ (l0 ops pre val ae i o t) (a.tmps.getD t undef) :=by
    intro t;unfold l0;split
    ·rename_i a3;have Dm:t∈o.looksAt ops:=by simpa using a3
     have aq:=inv.ut.val t;unfold q8 at aq;cases aV:i5 ops t with
     | none=>rw[aV] at aq; exact aq
     | some j=>
      rw[aV] at aq;simp only at aq ⊢;by_cases av:pre i j=true
      ·rw[if_pos av];rw[if_pos (He j av)] at aq;exact aq
      ·rw[if_neg av];have Xb:c1.getD j false=false:=by
        rcases g7.acc i o t j au Dm aV with aR | aR | rfl
        ·exact absurd aR av
        ·cases ti:c1.getD j false with
         | false=>rfl
         | true=>exact (NG j ti aR).elim
        ·exact jB
       rw[Xb] at aq;exact aq
    ·exact .bad _
   have MX:rg G w R (fj k) μ:=fun g=>⟨ky g,(cp g).2.l2 inv.ext⟩
   have cU:∀ x,aP w R (fj k) μ (dv G (l0 ops pre val ae i o) x) (a.eval x) :=by
    intro x;cases x with
    | tmp t=>exact MT t
    | const v=>exact aP.tW v
    | global g=>exact (MX g).2
    | func f=>exact .fn f [] [] #[] #[] rfl rfl (fun _ _ _ aR=>by simp at aR) (fun _ _ _ aR=>by simp at aR)
   have N4:=JM (w:=w) (R:=R) (h:=fj k) (μ:=μ) (tmps:=a.tmps) (tw i o au) (fun d _=>MT d);have CL:(c1.setIfInBounds i true).toList.count false=fuel:=by
    have ag:c1.toList[i]'(by simpa using aO)=false:=by
     have:c1[i]=false:=by simpa [ak2,aO] using ad
     simpa using this
    rw[Array.toList_setIfInBounds,List.count_set (by simpa using aO)];simp[ag,ML]
   have Dk:(c1.setIfInBounds i true).size=ops.size:=by simp[inv.size]
   have CN:∀ (j:Nat) (df:Oper) (e:Edge),ops[j]? = some df->(c1.setIfInBounds i true).getD j false=true->e∈df.after->Region.binds .any e=true->(c1.setIfInBounds i true).getD e.on false=true:=by
    intro j df e c6 aj ao ag;rw[vp _ _ _ aO] at aj ⊢;by_cases h7:j=i
    ·subst h7;rw[au] at c6; cases c6;rw[MR e ao ag]; split<;>rfl
    ·rw[if_neg h7] at aj;rw[inv.down j df e c6 aj ao ag]; split<;>rfl
   -- the next state,when no block of others' is turned
   have qD:(W i=true->cls i≠.gf)->∀ q,q<m->((c1.setIfInBounds i true).getD (ak q) false=true<->q<k) :=by
    intro bW q a8;obtain⟨df,c6,eu,ah⟩:=zR q a8;have:ak q≠i:=fun aR=>by
     rw[aR] at eu ah;exact bW eu ah
    rw[vp _ _ _ aO,if_neg this];exact inv.done q a8
   have Df:∀ (j:Nat),(c1.setIfInBounds i true).getD j false=false->j≠i/\c1.getD j false=false:=by
    intro j aj;rw[vp _ _ _ aO] at aj;by_cases h7:j=i
    ·rw[if_pos h7] at aj; cases aj
    ·rw[if_neg h7] at aj; exact⟨h7,aj⟩
   unfold wpOp;simp only[au];cases eu:W i with
   | false=>
    rw[N4,eu];simp only[ala,if_false];refine aQ _ k _ w μ ⟨Dk,CN,inv.AD,qD (fun aR=>by rw[eu] at aR; cases aR),inv.ext,inv.o5,inv.rel,?_,fun j df c6 qs lx aj=>inv.A0 j df c6 qs lx (Df j aj).2⟩ CL;rw[Et g7 au aO];exact inv.ut.put (oA i o au) (by rw[Dl i o au eu]; exact JF)
   | true=>
    rw[N4,eu];simp only[if_true];left;cases ah:cls i with
    | pure=>
     have bY:=Dg i o au eu ah k MU;obtain⟨v,w',μ',ay,e,r,aq⟩:=Jo (P:=P) inv.rel cU o bY;have Nu:wpAny P .any ops Q fuel (c1.setIfInBounds i true) (a.put o.dst v) w':=by
      refine aQ _ k _ w' μ' ⟨Dk,CN,inv.AD,qD (fun _ aR=>by rw[ah] at aR; cases aR),inv.ext.trans e.toExt0,fun b ag lz=>e.o5 b (alv ag inv.ext.n) (inv.o5 b ag lz),r,?_,fun j df c6 qs lx aj=>?_⟩ CL
      ·rw[Et g7 au aO];exact (inv.ut.ext e).put (oA i o au) aq
      ·have aD:=inv.A0 j df c6 qs lx (Df j aj).2;rcases akX (go j) (fj k).n with ag | ag
       ·exact e.o5 _ ag aD
       ·exact r.km _ ag
     unfold Oper.wp;rcases ay with ay | ⟨ay,rfl⟩
     ·rw[ay]; exact Nu
     ·rw[ay]; exact Nu
    | new=>
     obtain⟨mk,aD,xO,td,hP⟩:=vQ i o au eu ah;obtain⟨v,arr,t,ay,cX,G0⟩:=ZF (P:=P) cU o aD;have gj:=hP k MU;have VP:=inv.A0 i o au eu ah jB;have af7:go i<(fj k).n:=by
      rcases akX (go i) (fj k).n with ag | ag
      ·exact ag
      ·rw[inv.rel.fresh _ ag] at gj; cases gj
     have oK:∀ b b2,μ b=some b2->b≠go i:=fun b b2 ag aR=>by rw[aR,VP] at ag; cases ag
     have e:Ext0 w (fj k) μ (w.alloc (.cells arr t)) (fj k) (bH μ (go i) (some ⟨w.heap.size,0,arr.size⟩)) :=by
      refine⟨rfl,rfl,rfl,by simp,fun x ai _=>?_,?_,fun b sz cs b2 ag hm=>.inl ⟨cs,ag,by rw[b8 _ _ _ _ (oK b b2 hm)]; exact hm⟩,fun _ _ aA=>aA,fun b k b2 ag hm=>⟨ag,by rw[b8 _ _ _ _ (oK b b2 hm)]; exact hm⟩,akb _,akb _⟩
      ·exact RowKit.Below.heap_alloc w _ x ai
      ·rintro x ⟨b,b2,am,hm,rfl⟩;by_cases ag:b=go i
       ·subst ag; simp at hm; subst hm; exact .inr (akb _)
       ·rw[b8 _ _ _ _ ag] at hm;exact .inl ⟨b,b2,am,hm,rfl⟩
     have r:bZ R B (w.alloc (.cells arr t)) (fj k) (bH μ (go i) (some ⟨w.heap.size,0,arr.size⟩)) :=by
      refine inv.rel.su e (go i) (fun b ag am=>⟨rfl,b8 _ _ _ _ ag,fun b2 hm=>RowKit.Below.heap_alloc w _ _ (inv.rel.lt am hm)⟩) (fun b2 hm=>?_) (fun b b2 aiR ag am _ hm bT=>?_) (fun b2 _ hm=>?_) inv.rel.fresh (fun b ag=>?_)
      ·simp at hm; subst hm;rw[gj];refine⟨rfl,by simp[cX.1],arr,t,(0,0),heap_alloc_new w _,rfl,.inl rfl,fun j c aj=>?_⟩;obtain⟨u,a2,bb,cr⟩:=cX.2 j c aj;exact⟨u,by simpa using a2,bb,cr.l2 e⟩
      ·simp at bT; subst bT;have:=inv.rel.lt am hm;simp only[ne_eq]; omega
      ·simp at hm; subst hm;exact inv.rel.size
      ·rw[b8 _ _ _ _ (by omega)];exact inv.rel.km b ag
     have aq:aP (w.alloc (.cells arr t)) R (fj k) (bH μ (go i) (some ⟨w.heap.size,0,arr.size⟩)) (val i) v:=by
      rw[xO];exact G0 _ _ _ _ _ gj (by simp)
     unfold Oper.wp;rw[ay];refine aQ _ k _ _ _ ⟨Dk,CN,inv.AD,qD (fun _ aR=>by rw[ah] at aR; cases aR),inv.ext.trans e,fun b ag lz=>by rw[b8 _ _ _ _ (by omega)]; exact inv.o5 b ag lz,r,?_,fun j df c6 qs lx aj=>?_⟩ CL
     ·rw[Et g7 au aO];have Hl:lR N (w.alloc (.cells arr t)) R (fj k) (bH μ (go i) (some ⟨w.heap.size,0,arr.size⟩)) (q8 ops val ae c1) a:=⟨inv.ut.size,inv.ut.defers,fun fQ=>(inv.ut.val fQ).l2 e⟩
      exact Hl.put (oA i o au) aq
     ·obtain⟨h7,ti⟩:=Df j aj;rw[b8 _ _ _ _ (fun aR=>h7 (CF j i df o c6 au qs eu lx ah aR))];exact inv.A0 j df c6 qs lx ti
    | gf=>
     obtain⟨q,a8,rfl⟩:=vC i o au eu ah;have Ab:q=k:=by
      have af:¬ q<k:=fun aR=>by
       have:=(inv.done q a8).2 aR;rw[jB] at this; cases this
      rcases akX k q with jz | tf
      ·have pA:k<m:=by omega
       have:=He (ak k) (me k q pA a8 jz);have:=(inv.done k pA).1 this;omega
      ·omega
     subst Ab;refine xq q o a8 au R B w μ a o _ Q rfl inv.rel MX cU fun v w' μ' e r aq=>?_
     obtain⟨bv,dU⟩:=(oC q a8).rel r;have eR:=e.trans bv;refine aQ _ (q+1) _ w' μ' ⟨Dk,CN,by omega,fun dE kb=>?_,inv.ext.trans eR.toExt0,fun b ag lz=>eR.o5 b (alv ag inv.ext.n) (inv.o5 b ag lz),dU,?_,fun j df c6 qs lx aj=>?_⟩ CL
     ·rw[vp _ _ _ aO];by_cases Dh:dE=q
      ·subst Dh; simp
      ·rw[if_neg (fun aR=>Dh (py dE q kb a8 aR)),inv.done dE kb];omega
     ·rw[Et g7 au aO];exact (inv.ut.ext eR).put (oA _ o au) (aq.ext bv)
     ·have aD:=inv.A0 j df c6 qs lx (Df j aj).2;rcases CG j df q c6 qs lx a8 with ag | ag
      ·exact e.o5 _ ag aD
      ·exact r.km _ ag
 have WD:Inv P ops val ae W cls m ak fj go N R B h2 h uP (Array.replicate ops.size false) 0 a0 h2.drew uP:=by
  have aI:∀ i,(Array.replicate ops.size false).getD i false=false:=by
   intro i;rw[ak2,Array.getElem?_replicate];split<;>rfl
  refine⟨by simp,(fun i o e _ aB _ _=>by rw[aI] at aB; cases aB),alj _,(fun q a8=>by rw[aI]; simp),Lo.toExt0,fun b ag lz=>lz,abz,?_,fun i o au eu ah _=>?_⟩
  ·have bq:q8 ops val ae (Array.replicate ops.size false)=ae:=by
    funext t;unfold q8;cases aV:i5 ops t with
    | none=>rfl
    | some i=>simp only[aI]; simp
   rw[bq];exact s0.ext Lo
  ·obtain⟨mk,aD,xO,td,hP⟩:=vQ i o au eu ah;exact Qc.km _ td
 exact key _ _ 0 a0 h2.drew uP WD (by simp)
theorem QN (k4:P.follows .mixedOrders=true) (ky:∀ g,(G g).closed=true) {j:J} (aj:dh P G j) :uY P G j:=acx (T6 k4 ky) aj
end

section
variable {P:Program} {G:Nat->U}
theorem Iz {aE dM:Operand->U} (ps:Array (Nat × Operand)) (h:∀ x∈(ps.toList.map (·.2)),aE x=dM x) :(ps.toList.map fun p=>(p.1,aE p.2))=(ps.toList.map fun p=>(p.1,dM p.2)) :=
 alD fun p av=>by rw[h p.2 (akz.2 ⟨p,av,rfl⟩)]
theorem Ib {aE dM:Operand->U} (xs:Array Operand) (h:∀ x∈xs,aE x=dM x) :xs.toList.map aE=xs.toList.map dM:=
 alD fun x ai=>h x (by simpa using ai)
theorem It {aE dM:Operand->U} (o:Option Operand) (h:∀ x∈o.toArray,aE x=dM x) :o.map aE=o.map dM:=by
 cases o with
 | none=>rfl
 | some x=>simp[h x (by simp)]
theorem Jn {aE dM:Operand->U} (h:aW) (op:Op) (ai:∀ x∈op.operands,aE x=dM x) :cQ P h aE op=cQ P h dM op:=by
 cases op<;>simp only[Op.operands] at ai<;>try rfl
 case build t ps=>simp only[cQ]; rw[Iz ps (fun x hm=>ai x (by simpa using hm))]
 case buildSlice t n ps=>simp only[cQ]; rw[Iz ps (fun x hm=>ai x (by simpa using hm))]
 case makeFunc fn first gq=>
  cases fn<;>simp only[cQ];rw[Ib first (fun x hm=>ai x (by simp[hm])),Ib gq (fun x hm=>ai x (by simp[hm]))]
 case slice t x cE aB cB=>
  simp only[cQ];rw[ai x (by simp),It cE (fun y hm=>ai y (by simp at hm ⊢; simp[hm])),It aB (fun y hm=>ai y (by simp at hm ⊢; simp[hm])),It cB (fun y hm=>ai y (by simp at hm ⊢; simp[hm]))]
 case call c=>
  have aC:c.args.toList.map aE=c.args.toList.map dM:=Ib c.args (fun x hm=>ai x (by simp[Call.operands,hm]));simp only[cQ,sR,aC];cases ah:c.callee with
  | value f=>dsimp only; rw[ai f (by simp[Call.operands,ah])]
  | invoke x name=>dsimp only; rw[ai x (by simp[Call.operands,ah])]
  | _=>rfl
 case makeMap t r=>
  cases r with
  | none=>rfl
  | some x=>simp only[cQ]; rw[ai x (by simp)]
 case next it b=>
  cases b with
  | false=>rfl
  | true=>simp only[cQ]; rw[ai it (by simp)]
 all_goals (simp only[cQ]; simp_all)
theorem ZE {aE dM:Operand->U} (op:Op) (ai:∀ x∈op.operands,aE x=dM x) :mo P aE op=mo P dM op:=by
 cases op<;>simp only[Op.operands] at ai<;>try rfl
 case box t x=>simp only[mo]; rw[ai x (by simp)]
 case buildSlice t n ps=>simp only[mo]; rw[Iz ps (fun x hm=>ai x (by simpa using hm))]
 case makeSlice t l c=>simp only[mo]; rw[ai l (by simp),ai c (by simp)]
theorem Ut {ae bS:Nat->U} {h h' : aW} {v:U} {op:Op} (ai:∀ x∈op.operands,dv G ae x=dv G bS x) (ao:dh P G (.op op ae h v h')) :dh P G (.op op bS h v h') :=by
 generalize aj:J.op op ae h v h'=j at ao
 induction ao generalizing v h'<;>cases aj
 case D3 ak=>exact .D3 (by rw[<-Jn h op ai]; exact ak)
 case ya=>exact .ya (by rw[<-Jn h op ai]; assumption) (by assumption)
 case EL=>exact .EL (by first | (rename_i aQ; exact aQ rfl) | (rename_i aQ _; exact aQ rfl) | (rename_i aQ _ _; exact aQ rfl)) (by assumption) (by assumption)
inductive bG where
 | skip (i:Nat)
 | pure (i:Nat) (v:U)
 | new (i:Nat) (v:U) (cs:List U)
 | gf (i:Nat) (v:U) (ad:aW)
def bG.idx:bG->Nat
 | .skip i | .pure i _ | .new i _ _ | .gf i _ _=>i
def bG.val:bG->U
 | .skip _=>ie
 | .pure _ v | .new _ v _ | .gf _ v _=>v
def bG.iQ:bG->Bool
 | .gf ..=>true
 | _=>false
def bG.r2:bG->Bool
 | .skip _=>true
 | _=>false
def bG.cls:bG->Bx
 | .skip _ | .pure ..=>.pure
 | .new ..=>.new
 | .gf ..=>.gf
def bG.cs:bG->List U
 | .new _ _ cs=>cs
 | _=>[]
structure mL where
 ae:Nat->U
 h:aW
def vh (ops:Array Oper) (i:Nat) :Option Tmp:=(ops[i]?).bind (·.dst)
def oR (h:aW) :bG->aW
 | .skip _ | .pure ..=>h
 | .new _ _ cs=>h.push (.cells cs.length cs)
 | .gf _ _ ad=>ad
def k9 (ops:Array Oper) (s:mL) (t:bG) :mL:=⟨hn s.ae (vh ops t.idx) t.val,oR s.h t⟩
def gD (ops:Array Oper) (s0:mL) (tr:List bG) (p:Nat) :mL:=(tr.take p).foldl (k9 ops) s0
theorem yo {ops:Array Oper} {s0:mL} {tr:List bG} {p:Nat} {t:bG} (h:tr[p]? = some t) :gD ops s0 tr (p+1)=k9 ops (gD ops s0 tr p) t:=by
 unfold gD;have aO:p<tr.length:=(aj7.1 h).1;rw[List.take_succ_eq_append_getElem aO,amB];have:tr[p]=t:=(aj7.1 h).2;simp[this]
def uZ (P:Program) (G:Nat->U) (ops:Array Oper) (s:mL) :bG->Prop
 | .skip i=>∃ o,ops[i]? = some o/\jV ops s.ae o=some false
 | .pure i v=>∃ o,ops[i]? = some o/\jV ops s.ae o=some true
 | .new i v cs=>∃ o mk,ops[i]? = some o/\jV ops s.ae o=some true/\mo P (dv G s.ae) o.op=some (cs,mk)/\v=mk s.h.n
 | .gf i v ad=>∃ o,ops[i]? = some o/\jV ops s.ae o=some true/\dh P G (.op o.op s.ae s.h v ad)/\s.h.n<=ad.n
def E0 (P:Program) (G:Nat->U) (ops:Array Oper) (s:mL) (h:aW) :bG->Prop
 | .pure i v=>∀ o,ops[i]? = some o->cQ P h (dv G s.ae) o.op=some (.val v h)
 | .new _ _ cs=>h.f s.h.n=.cells cs.length cs
 | _=>True
structure wz (ops:Array Oper) (pre:Nat->Nat->Bool) (tr:List bG) :Prop where
 g7:re ops pre
 all:∀ i,i<ops.size->∃ (p:Nat) (t:bG),tr[p]? = some t/\t.idx=i
 inj:∀ (p cf:Nat) (t fQ:bG),tr[p]? = some t->tr[cf]? = some fQ->t.idx=fQ.idx->p=cf
 Em:∀ (p:Nat) (t:bG),tr[p]? = some t->t.idx<ops.size
 Rb:∀ (p cf:Nat) (t fQ:bG),tr[p]? = some t->tr[cf]? = some fQ->p<cf->pre t.idx fQ.idx=false
 eager:∀ (p cf:Nat) (t fQ:bG),tr[p]? = some t->tr[cf]? = some fQ->p<cf->t.iQ=true->pre fQ.idx t.idx=true
structure E1 (P:Program) (G:Nat->U) (ops:Array Oper) (pre:Nat->Nat->Bool) (s0:mL) (tr:List bG) :Prop where
 step:∀ (p:Nat) (t:bG),tr[p]? = some t->uZ P G ops (gD ops s0 tr p) t
 still:∀ (q:Nat),(q=tr.length\/∃ t:bG,tr[q]? = some t/\t.iQ=true)->∀ (p:Nat) (t:bG),p<q->tr[p]? = some t->
  (∀ (cf:Nat) (fQ:bG),cf<q->tr[cf]? = some fQ->fQ.iQ=true->pre fQ.idx t.idx=false)->E0 P G ops (gD ops s0 tr p) (gD ops s0 tr q).h t
def dN (tr:List bG) (i:Nat) :Nat:=tr.findIdx fun t=>t.idx == i
theorem we {ops:Array Oper} {pre:Nat->Nat->Bool} {tr:List bG} (fN:wz ops pre tr) {i:Nat} (aB:i<ops.size) :∃ t,tr[dN tr i]? = some t/\t.idx=i:=by
 obtain⟨p,t,av,a3⟩:=fN.all i aB;have aO:p<tr.length:=(aj7.1 av).1;have lB:∃ x∈tr,(x.idx == i)=true:=⟨t,ake av,by simpa using a3⟩
 have CQ:dN tr i<tr.length:=List.findIdx_lt_length_of_exists lB;have:=List.findIdx_getElem (w:=CQ);exact⟨tr[dN tr i],by simp[CQ],by unfold dN; simpa using this⟩
theorem Eb {ops:Array Oper} {pre:Nat->Nat->Bool} {tr:List bG} (fN:wz ops pre tr) {p:Nat} {t:bG} (av:tr[p]? = some t) :dN tr t.idx=p:=by
 obtain⟨fQ,ad,af⟩:=we fN (fN.Em p t av);exact fN.inj _ _ _ _ ad av af
theorem QK {ops:Array Oper} {pre:Nat->Nat->Bool} {tr:List bG} (fN:wz ops pre tr) (s0:mL) :∀ p,p<=tr.length->∀ t,
  (gD ops s0 tr p).ae t=match i5 ops t with | some j=>(if dN tr j<p then ((tr[dN tr j]?).map bG.val).getD .bad else s0.ae t) | none=>s0.ae t:=by
 intro p
 induction p with
 | zero=>
  intro _ t;simp only[gD,als,List.foldl_nil];cases i5 ops t<;>simp
 | succ p aQ=>
  intro av t;have aO:p<tr.length:=by omega
  have fh:tr[p]? = some tr[p] :=aka aO;rw[yo fh];simp only[k9];have NA:=aQ (by omega) t;have pD:=Eb fN fh;have XI:=fN.Em p _ fh;have hT:ops[tr[p].idx]? = some ops[tr[p].idx] :=by simp[XI]
  cases bh:vh ops tr[p].idx with
  | none=>
   simp only[hn,NA];cases aV:i5 ops t with
   | none=>rfl
   | some j=>
    simp only;obtain⟨o,au,G5⟩:=wv aV;have bW:dN tr j≠p:=by
     intro aR;obtain⟨Jx,ad,af⟩:=we fN ((akI.1 au).1);rw[aR,fh] at ad;cases ad;rw[<-af] at au;simp only[vh,au,al1] at bh;rw[G5] at bh; cases bh
    by_cases jz:dN tr j<p
    ·rw[if_pos jz,if_pos (by omega)]
    ·rw[if_neg jz,if_neg (by omega)]
  | some d=>
   simp only[hn];by_cases a3:t=d
   ·subst a3;have oA:ops[tr[p].idx].dst=some t:=by simpa [vh,hT] using bh
    rw[nr,fN.g7.one _ _ t hT oA];simp[pD,fh]
   ·rw[b8 _ _ _ _ a3,NA];cases aV:i5 ops t with
    | none=>rfl
    | some j=>
     simp only;obtain⟨o,au,G5⟩:=wv aV;have bW:dN tr j≠p:=by
      intro aR;obtain⟨Jx,ad,af⟩:=we fN ((akI.1 au).1);rw[aR,fh] at ad;cases ad;rw[<-af] at au;simp only[vh,au,al1] at bh;rw[G5] at bh; cases bh;exact a3 rfl
     by_cases jz:dN tr j<p
     ·rw[if_pos jz,if_pos (by omega)]
     ·rw[if_neg jz,if_neg (by omega)]
theorem aax {ops:Array Oper} {pre:Nat->Nat->Bool} (g7:re ops pre) (dj:∀ (i:Nat) (o:Oper) (e:Edge),ops[i]? = some o->e∈o.after->Region.binds .any e=true->∃ df,ops[e.on]? = some df) :∀ (i:Nat) (o:Oper),ops[i]? = some o->∀ j,pre i j=true->j<i:=by
 intro i
 induction i using Nat.strongRecOn with
 | _ i aQ=>
  intro o au j aj;obtain⟨e,ao,ag,l9⟩:=g7.chain i o j au aj;have aO:=g7.zf i o e au ao ag;rcases l9 with rfl | l9
  ·exact aO
  ·obtain⟨df,c6⟩:=dj i o e au ao ag;have:=aQ e.on aO df c6 j l9;omega
theorem ZP {ops:Array Oper} {pre:Nat->Nat->Bool} (g7:re ops pre) (i:Nat) (o:Oper) (au:ops[i]? = some o) (av:pre i i=true) :False:=by
 have:=aax g7 (fun i o e au ao ag=>by
  have ad:=g7.zf i o e au ao ag;have af:=(akI.1 au).1;exact⟨ops[e.on]'(by omega),by simp⟩) i o au i av
 omega
theorem Lr {ops:Array Oper} {pre:Nat->Nat->Bool} {tr:List bG} (fN:wz ops pre tr) (s0:mL) {i:Nat} {o:Oper} (au:ops[i]? = some o) {t:Nat} (a3:t∈o.looksAt ops) :
  l0 ops pre (fun j=>((tr[dN tr j]?).map bG.val).getD .bad) s0.ae i o t=(gD ops s0 tr (dN tr i)).ae t:=by
 have aB:i<ops.size:=(akI.1 au).1;obtain⟨ds,ad,af⟩:=we fN aB;have er:dN tr i<=tr.length:=ali (aj7.1 ad).1;rw[QK fN s0 _ er];unfold l0;rw[if_pos (by simpa using a3)];cases aV:i5 ops t with
 | none=>rfl
 | some j=>
  simp only;obtain⟨O3,Xq,_⟩:=wv aV;obtain⟨Jx,al,aG⟩:=we fN ((akI.1 Xq).1);have key:pre i j=true<->dN tr j<dN tr i:=by
   constructor
   ·intro av;rcases aly (dN tr j) (dN tr i) with h | h | h
    ·exact h
    ·exfalso;rw[h,ad] at al;cases al;have ma:i=j:=by rw[<-af,<-aG]
     subst ma;exact ZP fN.g7 i o au av
    ·have:=fN.Rb _ _ _ _ ad al h;rw[af,aG] at this;rw[this] at av; cases av
   ·intro aO;rcases fN.g7.acc i o t j au a3 aV with aR | aR | rfl
    ·exact aR
    ·have:=fN.Rb _ _ _ _ al ad aO;rw[af,aG] at this;rw[this] at aR; cases aR
    ·omega
  by_cases av:pre i j=true
  ·rw[if_pos av,if_pos (key.1 av)]
  ·rw[if_neg av,if_neg (fun aR=>av (key.2 aR))]
def eF (tr:List bG) :List Nat:=(List.range tr.length).filter fun p=>((tr[p]?).map bG.iQ).getD false
theorem DP {tr:List bG} {p:Nat}:p∈eF tr<->∃ t,tr[p]? = some t/\t.iQ=true:=by
 unfold eF;rw[ak0,akM];constructor
 ·rintro⟨ad,af⟩;refine⟨tr[p],by simp[ad],?_⟩;simpa [ad] using af
 ·rintro⟨t,ad,af⟩;exact⟨(aj7.1 ad).1,by simp[ad,af]⟩
theorem s4 {tr:List bG} {q dE:Nat} (a8:q<dE) (kb:dE<(eF tr).length) :(eF tr).getD q 0<(eF tr).getD dE 0:=by
 have av:(eF tr).Pairwise (· < ·) :=List.Pairwise.filter _ List.pairwise_lt_range;have:=ams.1 av q dE (by omega) kb a8;simpa [List.getD,kb,show q<(eF tr).length by omega] using this
theorem Lq {tr:List bG} {q:Nat} (a8:q<(eF tr).length) :∃ t,tr[(eF tr).getD q 0]? = some t/\t.iQ=true:=by
 apply DP.1;simp[List.getD,a8]
theorem B6 {tr:List bG} {p:Nat} (av:p∈eF tr) :∃ q,q<(eF tr).length/\(eF tr).getD q 0=p:=by
 obtain⟨q,a8,rfl⟩:=List.getElem_of_mem av;exact⟨q,a8,by simp[List.getD,a8]⟩
theorem AN {ops:Array Oper} {pre:Nat->Nat->Bool} {s0:mL} {tr:List bG} (o1:E1 P G ops pre s0 tr) :∀ (k p:Nat),p+k<=tr.length->(gD ops s0 tr p).h.n<=(gD ops s0 tr (p+k)).h.n
 | 0,p,_=>akb _
 | k+1,p,av=>by
  have aQ:=AN o1 k p (by omega);have aO:p+k<tr.length:=by omega
  have fh:tr[p+k]? = some tr[p+k] :=aka aO;have ak:=o1.step _ _ fh;rw[show p+(k+1)=(p+k)+1 from rfl,yo fh];refine akV aQ ?_;cases a3:tr[p+k] with
  | skip i=>simp[k9,oR]
  | pure i v=>simp[k9,oR]
  | new i v cs=>simp[k9,oR,fv]
  | gf i v ad=>
   rw[a3] at ak;obtain⟨o,_,_,_,aD⟩:=ak;simpa [k9,oR] using aD
theorem FZ {ops:Array Oper} {s0:mL} {tr:List bG}:∀ (k p:Nat),p+k<=tr.length->(∀ r,p<=r->r<p+k->r∉eF tr)->na (gD ops s0 tr p).h (gD ops s0 tr (p+k)).h
 | 0,p,_,_=>⟨[],rfl⟩
 | k+1,p,av,cH=>by
  obtain⟨l,am⟩:=FZ (ops:=ops) (s0:=s0) (tr:=tr) k p (by omega) (fun r ad af=>cH r ad (by omega));have aO:p+k<tr.length:=by omega
  have fh:tr[p+k]? = some tr[p+k] :=aka aO;have bW:tr[p+k].iQ≠true:=fun aR=>cH (p+k) (by omega) (by omega) (DP.2 ⟨_,fh,aR⟩)
  rw[show p+(k+1)=(p+k)+1 from rfl,yo fh];cases a3:tr[p+k] with
  | skip i=>exact⟨l,by simp[k9,oR,am]⟩
  | pure i v=>exact⟨l,by simp[k9,oR,am]⟩
  | new i v cs=>exact⟨l++[cs],by simp[k9,oR,am,ub]⟩
  | gf i v ad=>rw[a3] at bW; exact absurd rfl bW
theorem dh.T4 {id:Nat} {ops:Array Oper} {pre:Nat->Nat->Bool} {N:Nat} {s0:mL} {tr:List bG} (fN:wz ops pre tr) (bh:∀ (i:Nat) (o:Oper),ops[i]? = some o->oj N o.dst=true) (o1:E1 P G ops pre s0 tr) :
  dh P G (.code (.region id ops true) N s0.ae s0.h .normal (gD ops s0 tr tr.length).ae (gD ops s0 tr tr.length).h) :=by
 -- the step that carries out operation i
 have hJ:∀ (i:Nat) (o:Oper),ops[i]? = some o->∃ t,tr[dN tr i]? = some t/\t.idx=i/\uZ P G ops (gD ops s0 tr (dN tr i)) t:=fun i o au=>by
  obtain⟨t,ad,af⟩:=we fN ((akI.1 au).1);exact⟨t,ad,af,o1.step _ _ ad⟩
 have adN:∀ (i:Nat) (o:Oper),ops[i]? = some o->jV ops (l0 ops pre (fun j=>((tr[dN tr j]?).map bG.val).getD .bad) s0.ae i o) o=jV ops (gD ops s0 tr (dN tr i)).ae o:=fun i o au=>by
  unfold jV;cases aA:o.guard with
  | none=>rfl
  | some fm=>
   obtain⟨j,yx⟩:=fm;simp only;cases V5:(ops[j]?).bind (·.dst) with
   | none=>rfl
   | some d=>
    simp only;rw[Lr fN s0 au (t:=d) (by simp[Oper.looksAt,aA,V5])]
 have Iq:∀ (i:Nat) (o:Oper),ops[i]? = some o->∀ x∈o.op.operands,dv G (gD ops s0 tr (dN tr i)).ae x=dv G (l0 ops pre (fun j=>((tr[dN tr j]?).map bG.val).getD .bad) s0.ae i o) x:=fun i o au x ai=>by
  cases x with
  | tmp t=>
   refine (Lr fN s0 au (t:=t) ?_).symm;simp only[Oper.looksAt,ak5,List.mem_filterMap];exact .inl ⟨.tmp t,by simpa using ai,rfl⟩
  | _=>rfl
 -- the moment ahead of effect k,or the end
 have Jz:∀ k,k<=(eF tr).length->∃ T,T<=tr.length/\(T=tr.length\/∃ t,tr[T]? = some t/\t.iQ=true)/\(T=if k<(eF tr).length then (eF tr).getD k 0 else tr.length) :=fun k ax=>by
  by_cases aO:k<(eF tr).length
  ·obtain⟨t,ad,af⟩:=Lq aO;exact⟨_,ali (aj7.1 ad).1,.inr ⟨t,ad,af⟩,by rw[if_pos aO]⟩
  ·exact⟨_,akb _,.inl rfl,by rw[if_neg aO]⟩
 have gL:∀ q,q<(eF tr).length->∃ t,tr[(eF tr).getD q 0]? = some t/\t.iQ=true/\((tr[(eF tr).getD q 0]?).map bG.idx).getD 0=t.idx:=fun q a8=>by
  obtain⟨t,ad,af⟩:=Lq a8;exact⟨t,ad,af,by rw[ad]; rfl⟩
 have QU:∀ (i:Nat) (o:Oper) (t:bG),ops[i]? = some o->tr[dN tr i]? = some t->t.idx=i->t.iQ=false->∀ k,w0 pre (eF tr).length (fun q=>((tr[(eF tr).getD q 0]?).map bG.idx).getD 0) i k->
   E0 P G ops (gD ops s0 tr (dN tr i)) (gD ops s0 tr (if k<(eF tr).length then (eF tr).getD k 0 else tr.length)).h t:=by
  intro i o t au a3 NY bW k aI;obtain⟨pA,GG,Wf⟩:=aI;obtain⟨T,Mu,Gh,mS⟩:=Jz k pA;rw[<-mS];have agx:dN tr i<tr.length:=(aj7.1 a3).1;have Xw:dN tr i<T:=by
   by_cases aO:k<(eF tr).length
   ·rw[if_pos aO] at mS;obtain⟨acY,ad,af,al⟩:=gL k aO;rw[<-mS] at ad;rcases aly (dN tr i) T with h | h | h
    ·exact h
    ·rw[h,ad] at a3;cases a3;rw[bW] at af; cases af
    ·have ao:=fN.eager T (dN tr i) acY t ad a3 h af;have:=GG k aO (by (try simp only); rw[al,<-NY]; exact ao);omega
   ·rw[if_neg aO] at mS;omega
  refine o1.still T Gh _ t Xw a3 (fun cf fQ i0 Dm gk=>?_);obtain⟨q,a8,tp⟩:=B6 (DP.2 ⟨fQ,Dm,gk⟩);obtain⟨ajH,ad,af,al⟩:=gL q a8;rw[tp,Dm] at ad;cases ad;have Ab:q<k:=by
   by_cases aO:k<(eF tr).length
   ·rw[if_pos aO] at mS;rcases akX q k with h | h
    ·exact h
    ·rcases amU h with h | h
     ·subst h; omega
     ·have:=s4 (tr:=tr) h a8;omega
   ·omega
  cases av:pre fQ.idx t.idx with
  | false=>rfl
  | true=>
   have:=Wf q a8 (by (try simp only); rw[al,<-NY]; exact av);omega
 refine dh.draw pre (fun j=>((tr[dN tr j]?).map bG.val).getD .bad) (fun j=>((tr[dN tr j]?).map fun t=>!t.r2).getD false) (fun j=>((tr[dN tr j]?).map bG.cls).getD .pure) (eF tr).length
  (fun q=>((tr[(eF tr).getD q 0]?).map bG.idx).getD 0) (fun k=>(gD ops s0 tr (if k<(eF tr).length then (eF tr).getD k 0 else tr.length)).h) (fun q=>(gD ops s0 tr ((eF tr).getD q 0+1)).h)
  (fun j=>(gD ops s0 tr (dN tr j)).h.n) (fun j=>((tr[dN tr j]?).map bG.cs).getD []) fN.g7 bh ?_ ?_ ?_ ?_ ?_ ?_ ?_ ?_ ?_ ?_ ?_ ?_ ?_ ?_ ?_
 ·-- h0
  obtain⟨T,Mu,Gh,mS⟩:=Jz 0 (alj _)
  try simp only
  rw[<-mS];have:=FZ (ops:=ops) (s0:=s0) (tr:=tr) T 0 (by omega) (fun r _ ay lB=>by
   obtain⟨q,a8,tp⟩:=B6 lB;rw[if_pos (by omega)] at mS;rcases amU (alj q) with h | h
   ·subst h; omega
   ·have:=s4 (tr:=tr) h a8;omega)
  simpa [gD] using this
 ·simp
 ·-- hσ
  funext t;rw[QK fN s0 _ (akb _)];cases aV:i5 ops t with
  | none=>rfl
  | some j=>
   obtain⟨o,au,_⟩:=wv aV;obtain⟨Jx,ad,_⟩:=we fN ((akI.1 au).1);simp only;rw[if_pos ((aj7.1 ad).1)]
 ·-- heff
  intro i o au eu ah;obtain⟨t,ad,af,_⟩:=hJ i o au;simp only[ad,akg,akO] at ah;have ao:t.iQ=true:=by cases t<;>simp_all [bG.cls,bG.iQ]
  obtain⟨q,a8,tp⟩:=B6 (DP.2 ⟨t,ad,ao⟩);exact⟨q,a8,by rw[tp,ad]; exact af⟩
 ·-- heff'
  intro q a8;obtain⟨t,ad,af,al⟩:=gL q a8;refine⟨ops[t.idx]'(fN.Em _ _ ad),by rw[al]; simp[fN.Em _ _ ad],?_,?_⟩
  ·simp only[al,Eb fN ad,ad,akg,akO];cases t<;>simp_all [bG.r2,bG.iQ]
  ·simp only[al,Eb fN ad,ad,akg,akO];cases t<;>simp_all [bG.cls,bG.iQ]
 ·-- hord
  intro q dE a8 kb aO;obtain⟨t,ad,af,al⟩:=gL q a8;obtain⟨fQ,dD,fI,lu⟩:=gL dE kb;simp only[al,lu];exact fN.eager _ _ t fQ ad dD (s4 aO kb) af
 ·-- hinj
  intro q dE a8 kb ao;obtain⟨t,ad,af,al⟩:=gL q a8;obtain⟨fQ,dD,fI,lu⟩:=gL dE kb;simp only[al,lu] at ao;have:=fN.inj _ _ t fQ ad dD ao;rcases aly q dE with h | h | h
  ·have:=s4 (tr:=tr) h kb; omega
  ·exact h
  ·have:=s4 (tr:=tr) h a8; omega
 ·-- hwant
  intro i o au;rw[adN i o au];obtain⟨t,ad,af,al⟩:=hJ i o au;simp only[ad,akg,akO];cases t with
  | skip j=>obtain⟨df,c6,aV⟩:=al; simp only[bG.idx] at af; subst af; rw[au] at c6; cases c6; exact aV
  | pure j v=>obtain⟨df,c6,aV⟩:=al; simp only[bG.idx] at af; subst af; rw[au] at c6; cases c6; exact aV
  | new j v cs=>obtain⟨df,mk,c6,aV,_⟩:=al; simp only[bG.idx] at af; subst af; rw[au] at c6; cases c6; exact aV
  | gf j v dD=>obtain⟨df,c6,aV,_⟩:=al; simp only[bG.idx] at af; subst af; rw[au] at c6; cases c6; exact aV
 ·-- hskip
  intro i o au eu;obtain⟨t,ad,af,al⟩:=hJ i o au;simp only[ad,akg,akO] at eu ⊢;cases t<;>simp_all [bG.r2,bG.val]
 ·-- hpure
  intro i o au eu ah k aI;obtain⟨t,ad,af,al⟩:=hJ i o au;simp only[ad,akg,akO] at eu ah;have bY:=QU i o t au ad af (by cases t<;>simp_all [bG.cls,bG.iQ]) k aI;cases t with
  | pure j v=>
   simp only[bG.idx] at af;subst af;have:=bY o au;rw[Jn _ _ (Iq j o au)] at this;simpa [ad,bG.val] using this
  | skip j=>simp[bG.r2] at eu
  | new j v cs=>simp[bG.cls] at ah
  | gf j v dD=>simp[bG.cls] at ah
 ·-- hnew
  intro i o au eu ah;obtain⟨t,ad,af,al⟩:=hJ i o au;simp only[ad,akg,akO] at eu ah;cases t with
  | new j v cs=>
   obtain⟨df,mk,c6,_,aD,aq⟩:=al;simp only[bG.idx] at af;subst af;rw[au] at c6; cases c6;rw[ZE _ (Iq j o au)] at aD;refine⟨mk,by simpa [ad,bG.cs] using aD,by simpa [ad,bG.val] using aq,?_,fun k aI=>?_⟩
   ·have er:dN tr j<=tr.length:=ali (aj7.1 ad).1;have:=AN o1 (dN tr j) 0 (by omega);simpa [gD] using this
   ·have bY:=QU j o _ au ad rfl rfl k aI;simpa [E0,ad,bG.cs] using bY
  | skip j=>simp[bG.r2] at eu
  | pure j v=>simp[bG.cls] at ah
  | gf j v dD=>simp[bG.cls] at ah
 ·-- hbid
  intro i j o df au c6 af2 qs fK lx ag;have L7:∀ (i:Nat) (o:Oper),ops[i]? = some o->((tr[dN tr i]?).map bG.cls).getD .pure=.new->∀ p,dN tr i<p->p<=tr.length->(gD ops s0 tr (dN tr i)).h.n<(gD ops s0 tr p).h.n:=by
   intro i o au ah p av gT;obtain⟨t,ad,af,_⟩:=hJ i o au;simp only[ad,akg,akO] at ah;have aG:=AN o1 (p - (dN tr i+1)) (dN tr i+1) (by omega);rw[show dN tr i+1+(p - (dN tr i+1))=p by omega,yo ad] at aG;cases t with
   | new j v cs=>simp only[k9,oR,fv] at aG; omega
   | skip j=>simp[bG.cls] at ah
   | pure j v=>simp[bG.cls] at ah
   | gf j v dD=>simp[bG.cls] at ah
  obtain⟨t,ad,af,_⟩:=hJ i o au;obtain⟨fQ,dD,fI,_⟩:=hJ j df c6;have am:=(aj7.1 ad).1;have c4:=(aj7.1 dD).1;rcases aly (dN tr i) (dN tr j) with h | h | h
  ·have:=L7 i o au fK _ h (ali c4); (try simp only at ag); omega
  ·rw[h,dD] at ad; cases ad; rw[<-af,<-fI]
  ·have:=L7 j df c6 lx _ h (ali am); (try simp only at ag); omega
 ·-- hbid'
  intro i o q au eu ah a8;obtain⟨t,ad,af,_⟩:=hJ i o au;obtain⟨Jw,aN,aT,aZ⟩:=gL q a8;simp only[ad,akg,akO] at ah;have am:=(aj7.1 ad).1;have c4:=(aj7.1 aN).1;simp only[if_pos a8];rcases aly (dN tr i) ((eF tr).getD q 0) with h | h | h
  ·left;have aG:=AN o1 ((eF tr).getD q 0 - (dN tr i+1)) (dN tr i+1) (by omega);rw[show dN tr i+1+((eF tr).getD q 0 - (dN tr i+1))=(eF tr).getD q 0 by omega,yo ad] at aG;cases t with
   | new j v cs=>simp only[k9,oR,fv] at aG; omega
   | skip j=>simp[bG.cls] at ah
   | pure j v=>simp[bG.cls] at ah
   | gf j v dD=>simp[bG.cls] at ah
  ·rw[h,aN] at ad; cases ad;cases t<;>simp_all [bG.cls,bG.iQ]
  ·right;have aG:=AN o1 (dN tr i - ((eF tr).getD q 0+1)) ((eF tr).getD q 0+1) (by omega)
   rwa [show (eF tr).getD q 0+1+(dN tr i - ((eF tr).getD q 0+1))=dN tr i by omega] at aG
 ·-- hgrow
  intro q a8;obtain⟨Jw,aN,aT,aZ⟩:=gL q a8;have c4:=(aj7.1 aN).1;obtain⟨T,Mu,Gh,mS⟩:=Jz (q+1) (by omega)
  try simp only
  rw[<-mS];have aO:(eF tr).getD q 0<T:=by
   by_cases h:q+1<(eF tr).length
   ·rw[if_pos h] at mS;have:=s4 (tr:=tr) (show q<q+1 by omega) h;omega
   ·rw[if_neg h] at mS; omega
  have:=FZ (ops:=ops) (s0:=s0) (tr:=tr) (T - ((eF tr).getD q 0+1)) ((eF tr).getD q 0+1) (by omega) (fun r ke oL lB=>by
   obtain⟨dE,kb,tp⟩:=B6 lB;have Dh:q<dE:=by
    rcases aly q dE with h | h | h
    ·exact h
    ·subst h; omega
    ·have:=s4 (tr:=tr) h a8; omega
   by_cases h:q+1<(eF tr).length
   ·rw[if_pos h] at mS;rcases amU (show q+1<=dE from Dh) with h' | h'
    ·subst h'; omega
    ·have:=s4 (tr:=tr) h' kb; omega
   ·omega)
  rwa [show (eF tr).getD q 0+1+(T - ((eF tr).getD q 0+1))=T by omega] at this
 ·-- hcall
  intro q o a8 au;obtain⟨Jw,aN,aT,aZ⟩:=gL q a8;have pD:=Eb fN aN;simp only[aZ] at au ⊢;have ak:=o1.step _ _ aN;cases Jw with
  | gf j v ad=>
   obtain⟨df,c6,_,ao,_⟩:=ak;simp only[bG.idx] at au pD ⊢;rw[au] at c6; cases c6;have j8:=Iq j o au;rw[pD] at j8;have:=Ut j8 ao;simp only[pD,aN,if_pos a8,akg,akO,bG.val];rw[yo aN];exact this
  | skip j=>simp[bG.iQ] at aT
  | pure j v=>simp[bG.iQ] at aT
  | new j v cs=>simp[bG.iQ] at aT
end
abbrev J8:=cJ U
def look (s:J8) (t:Nat) :U:=match s.get t with | some v=>v | none=>ie
def yq (m i:Nat) :Bool:=Nat.testBit m i
def s3 (ms:List Nat) :List Edge->Nat
 | []=>0
 | e::es=>match Region.binds .any e with
  | true=>Nat.lor (Nat.lor (2 ^ e.on) (ms.getD e.on 0)) (s3 ms es)
  | false=>s3 ms es
def OL (ms:List Nat) :List Oper->List Nat
 | []=>ms
 | o::os=>OL (ms++[s3 ms o.after.toList]) os
def h9 (ops:Array Oper) :List Nat:=OL [] ops.toList
def nL (ms:List Nat) (i j:Nat) :Bool:=yq (ms.getD i 0) j
def jG:Op->Bool
 | .move _ | .assign _ | .pick .. | .alloc _ | .box .. | .build .. | .buildSlice .. | .load .. | .nilCheck _ | .binOp .. | .unOp .. | .convert .. | .makeInterface .. | .makeFunc .. | .makeSlice .. | .slice .. | .fieldAddr .. | .field .. | .indexAddr .. | .index .. | .extract ..=>false
 | .call c=>match c.callee with
  | .builtin .len | .builtin .cap | .builtin .min | .builtin .max=>false
  | _=>true
 | _=>true
def YA:Op->Bool
 | .move _ | .assign _ | .pick .. | .build .. | .load .. | .nilCheck _ | .binOp .. | .unOp .. | .convert .. | .makeInterface .. | .makeFunc .. | .slice .. | .fieldAddr .. | .field .. | .indexAddr .. | .index .. | .extract ..=>true
 | .call c=>match c.callee with
  | .builtin .len | .builtin .cap | .builtin .min | .builtin .max=>true
  | _=>false
 | _=>false
def IB (done:Nat) (gf:Bool) :Nat->List Nat->List Oper->Option Nat
 | i,m::ms,o::os=>match !yq done i&&Nat.beq (Nat.land m done) m&&(jG o.op == gf) with
  | true=>some i
  | false=>IB done gf (i+1) ms os
 | _,_,_=>none
def Jc (ms:List Nat) (os:List Oper) :Nat->Nat->List Nat
 | 0,_=>[]
 | k+1,done=>match IB done false 0 ms os with
  | some i=>i::Jc ms os k (Nat.lor done (2 ^ i))
  | none=>match IB done true 0 ms os with
   | some i=>i::Jc ms os k (Nat.lor done (2 ^ i))
   | none=>[]
def e9 (ms:List Nat) (ops:Array Oper) :List Nat:=Jc ms ops.toList ops.size 0
def ik (p:Nat->Oper->Bool) :Nat->List Oper->Bool
 | _,[]=>true
 | i,o::os=>p i o&&ik p (i+1) os
theorem Kk {p:Nat->Oper->Bool}:∀ (l:List Oper) (i:Nat),ik p i l=true->∀ (j:Nat) (o:Oper),l[j]? = some o->p (i+j) o=true
 | [],i,_,j,o,h=>by simp at h
 | x::l,i,h,j,o,aj=>by
  simp only[ik,akh] at h;cases j with
  | zero=>simp only[akA,Option.some.injEq] at aj; subst aj; exact h.1
  | succ j=>
   simp only[akN] at aj;have:=Kk l (i+1) h.2 j o aj
   rwa [show i+1+j=i+(j+1) by omega] at this
def FE (t:Nat) (o:Oper) :Bool:=match o.dst with | some d=>Nat.beq d t | none=>false
def wu (t:Nat) :Nat->List Oper->Option Nat
 | _,[]=>none
 | i,o::os=>match FE t o with
  | true=>some i
  | false=>wu t (i+1) os
def FD (ms:List Nat) (ops:Array Oper) :Bool:=
 ik (fun i o=>
  Nat.beq (ms.getD i 0) (s3 ms o.after.toList) &&
  (o.after.toList.all fun e=>!Region.binds .any e||Nat.blt e.on i) &&
  (match o.dst with | some d=>(match wu d 0 ops.toList with | some j=>Nat.beq j i | none=>false) | none=>true) &&
  ((o.looksAt ops).all fun t=>match wu t 0 ops.toList with | some j=>nL ms i j||nL ms j i||Nat.beq j i | none=>true)) 0 ops.toList &&
 Region.noSelect ops
def D4 (ms:List Nat) :List Nat->Bool
 | []=>true
 | i::r=>(r.all fun j=>!Nat.beq i j&&!nL ms i j)&&D4 ms r
def Iw (ms:List Nat) (ops:Array Oper) (ord:List Nat) :Bool:=
 FD ms ops&&D4 ms ord&&Nat.beq ord.length ops.size&&(ord.all fun i=>Nat.blt i ops.size)&&(List.range ops.size).all fun i=>ord.contains i
structure R4 where
 t:bG
 s:J8
 h:aW
section
variable (P:Program) (G:Nat->U)
end
theorem FI (ms:List Nat) (j:Nat) :∀ (es:List Edge),yq (s3 ms es) j=true->∃ e∈es,Region.binds .any e=true/\(e.on=j\/nL ms e.on j=true)
 | [],h=>by simp[s3,yq] at h
 | e::es,h=>by
  unfold s3 at h;cases ag:Region.binds .any e with
  | false=>
   rw[ag] at h;obtain⟨e6,ad,af⟩:=FI ms j es h;exact⟨e6,amK _ ad,af⟩
  | true=>
   rw[ag] at h;simp only[yq] at h;have h' : Nat.testBit ((2 ^ e.on ||| ms.getD e.on 0) ||| s3 ms es) j=true:=h;rw[Nat.testBit_or,Nat.testBit_or,al8,al8,Nat.testBit_two_pow] at h';rcases h' with (h' | h') | h'
   ·exact⟨e,amV,ag,.inl (by simpa using h')⟩
   ·exact⟨e,amV,ag,.inr h'⟩
   ·obtain⟨e6,ad,af⟩:=FI ms j es h';exact⟨e6,amK _ ad,af⟩
theorem RN (t:Nat) :∀ (l:List Oper) (i:Nat),wu t i l=((List.range l.length).find? fun j=>match l[j]? with | some o=>o.dst == some t | none=>false).map (·+i)
 | [],i=>by simp[wu]
 | o::l,i=>by
  unfold wu;have V4:FE t o=(o.dst == some t) :=by
   unfold FE;cases o.dst with
   | none=>rfl
   | some d=>
    by_cases h:d=t
    ·subst h; simp
    ·have:Nat.beq d t=false:=jN h;simp[this,h]
  rw[V4,akv,List.range_succ_eq_map,amJ];simp only[akA];cases ag:(o.dst == some t) with
  | true=>simp
  | false=>
   simp only[List.find?_map];rw[RN t l (i+1)];have:((fun j=>match (o::l)[j]? with | some o=>o.dst == some t | none=>false) ∘ Nat.succ)=fun j=>match l[j]? with | some o=>o.dst == some t | none=>false:=by
    funext j; simp
   rw[this];cases (List.range l.length).find? (fun j=>match l[j]? with | some o=>o.dst == some t | none=>false) with
   | none=>rfl
   | some j=>simp; omega
theorem RM (ops:Array Oper) (t:Nat) :wu t 0 ops.toList=i5 ops t:=by
 rw[RN];unfold i5;simp only[alT,al5,amw,Option.map_id_fun',id_eq];congr 1
theorem T5 {ms:List Nat} {ops:Array Oper} (h:FD ms ops=true) :re ops (nL ms) :=by
 unfold FD at h;rw[akh] at h;obtain⟨h,ak⟩:=h;have key:∀ (i:Nat) (o:Oper),ops[i]? = some o->_:=fun i o au=>Kk _ 0 h i o (by simpa using au)
 simp only[alf,akh] at key;refine⟨fun i o e au ao ag=>?_,fun i o j au av=>?_,fun i o t au bh=>?_,fun i o t j au a3 aV=>?_,ak⟩
 ·have:=(key i o au).1.1.2;rw[ak4] at this;have:=this e (by simpa using ao);rw[ag] at this;simp only[Bool.not_true,Bool.false_or] at this;simpa [ank] using this
 ·have:=jM (key i o au).1.1.1;have i0:yq (ms.getD i 0) j=true:=av;rw[this] at i0;obtain⟨e,ad,af⟩:=FI ms j _ i0;exact⟨e,by simpa using ad,af⟩
 ·have:=(key i o au).1.2;rw[bh] at this;simp only at this;rw[RM] at this;cases aV:i5 ops t with
  | none=>rw[aV] at this; cases this
  | some j=>rw[aV] at this; simp only at this; rw[jM this]
 ·have:=(key i o au).2;rw[ak4] at this;have:=this t a3;rw[RM,aV] at this;simp only[al8] at this;rcases this with (ad | ad) | ad
  ·exact .inl ad
  ·exact .inr (.inl ad)
  ·exact .inr (.inr (jM ad))
theorem D5 {ms:List Nat}:∀ {l:List Nat},D4 ms l=true->∀ (p cf:Nat) (i j:Nat),l[p]? = some i->l[cf]? = some j->p<cf->i≠j/\nL ms i j=false
 | [],_,p,cf,i,j,aB,_,_=>by simp at aB
 | x::l,h,p,cf,i,j,aB,aj,aO=>by
  simp only[D4,akh,ak4] at h;cases cf with
  | zero=>omega
  | succ cf=>
   simp only[akN] at aj;cases p with
   | zero=>
    simp only[akA,Option.some.injEq] at aB;subst aB;have:=h.1 j (ake aj);simp only[alX] at this;refine⟨fun ao=>?_,this.2⟩;subst ao;rw[sd rfl] at this;cases this.1
   | succ p=>
    simp only[akN] at aB;exact D5 h.2 p cf i j aB aj (by omega)
section
variable {P:Program} {G:Nat->U}
structure aef (P:Program) (G:Nat->U) (ops:Array Oper) (e:R4) :Prop where
 step:uZ P G ops ⟨look e.s,e.h⟩ e.t
 pure:∀ i v,e.t=.pure i v->∃ o,ops[i]? = some o/\YA o.op=true/\cQ P e.h (dv G (look e.s)) o.op=some (.val v e.h)
theorem Eu {ops:Array Oper} {s0:mL} {t:bG} {tr:List bG} (p:Nat) :gD ops s0 (t::tr) (p+1)=gD ops (k9 ops s0 t) tr p:=by
 simp[gD]
end

section
variable {P:Program} {G:Nat->U}
theorem abA (w:World) (R:Nat->Prop) (je:∀ k,w.heap.size<=k->R k) :bZ R w.heap.size w aW.empty (fun _=>none) where
 blk:=fun b m hm=>by cases hm
 inj:=fun b bc m ck am=>by rw[B8] at am; cases am
 base:=fun b m am=>by rw[B8] at am; cases am
 fresh:=fun b _=>B8 b
 up:=je
 size:=akb _
 km:=fun b _=>rfl
theorem OX (μ:cI) (k:Nat) :¬ nc aW.empty μ k:=by
 rintro⟨b,m,am,_⟩;rw[B8] at am; cases am
theorem JA (k4:P.follows .mixedOrders=true) (ky:∀ g,(G g).closed=true) {f:FuncId} {args:List U} {r:U} {h' : aW} (ao:dh P G (.call f args aW.empty r h'))
  {w:World} {A:Nat->Prop} {vs:Array Value} (aA:∀ g,fA w A (G g) (.pointer (some ⟨g,0,none⟩))) (am:vs.size=args.length)
  (aq:∀ (j:Nat) (c:U) (v:Value),args[j]? = some c->vs[j]? = some v->fA w A c v) :
  Calls P f vs w fun e w'=>∃ v μ',e=.returned v/\Bw w w'/\bZ (fun k=>A k\/w.heap.size<=k) w.heap.size w' h' μ'/\aP w' (fun k=>A k\/w.heap.size<=k) h' μ' r v:=by
 have up:∀ {c:U} {v:Value},fA w A c v->aP w (fun k=>A k\/w.heap.size<=k) aW.empty (fun _=>none) c v:=fun ah=>ah.up (fun k _ ax=>⟨.inl ax,OX _ k⟩)
 refine (QN k4 ky ao (fun k=>A k\/w.heap.size<=k) w.heap.size w (fun _=>none) vs (abA w _ fun k ax=>.inr ax) (fun g=>⟨ky g,up (aA g)⟩) am (fun j c v aj fk=>up (aq j c v aj fk))).mono ?_;rintro e w' ⟨v,μ',rfl,iM,rel,ay⟩;exact⟨v,μ',rfl,⟨⟨iM.os,iM.tape,iM.output,iM.size,fun k ax=>iM.cc k ax (OX _ k)⟩,iM.drawn⟩,rel,ay⟩
theorem ac0 (k4:P.follows .mixedOrders=true) (ky:∀ g,(G g).closed=true) {f:FuncId} {args:List U} {h' : aW} (ao:dh P G (.call f args aW.empty (.bool true) h'))
  {w:World} {A:Nat->Prop} {vs:Array Value} (aA:∀ g,fA w A (G g) (.pointer (some ⟨g,0,none⟩))) (am:vs.size=args.length)
  (aq:∀ (j:Nat) (c:U) (v:Value),args[j]? = some c->vs[j]? = some v->fA w A c v) :
  Calls P f vs w fun e w'=>e=.returned (.bool true)/\RowKit.Below w.heap.size w w':=by
 refine (JA k4 ky ao aA am aq).mono ?_;rintro e w' ⟨v,μ',rfl,ag,_,ay⟩;cases ay;exact⟨rfl,ag.toBelow⟩
end

section
variable {α:Type}
theorem ur:∀ (k k' : Nat) (t:cJ α) (n:Nat) (x:α),n<k->n<k'->t.jS k n x=t.jS k' n x
 | 0,_,_,_,_,h,_=>by omega
 | _+1,0,_,_,_,_,h=>by omega
 | k+1,k'+1,t,n,x,h,h'=>by
  by_cases aF:n=0
  ·subst aF;cases t<;>rfl
  ·have ag:Nat.beq n 0=false:=jN aF;cases t with
   | nil=>
    unfold cJ.jS;simp only[ag];rw[ur k k' .nil (n / 2) x (by omega) (by omega),ur k k' .nil (n / 2 - 1) x (by omega) (by omega)]
   | node l v r=>
    unfold cJ.jS;simp only[ag];rw[ur k k' l (n / 2) x (by omega) (by omega),ur k k' r (n / 2 - 1) x (by omega) (by omega)]
def cJ.lt:cJ α->cJ α | .nil=>.nil | .node l _ _=>l
def cJ.rt:cJ α->cJ α | .nil=>.nil | .node _ _ r=>r
def cJ.mid:cJ α->Option α | .nil=>none | .node _ v _=>v
theorem p3 (t:cJ α) (x:α) :t.set 0 x=.node t.lt (some x) t.rt:=by cases t<;>rfl
theorem mw (t:cJ α) (m:Nat) (x:α) :t.set (2*m+1) x=.node (t.lt.set m x) t.mid t.rt:=by
 have ad:Nat.beq (2*m+1) 0=false:=jN (by omega);have af:Nat.beq ((2*m+1) % 2) 1=true:=sd (by omega);have al:(2*m+1) / 2=m:=by omega
 cases t with
 | nil=>show cJ.jS (2*m+1+1) .nil (2*m+1) x=_; unfold cJ.jS; simp only[ad,af,al]; rw[ur _ (m+1) _ _ _ (by omega) (by omega)]; rfl
 | node l v r=>show cJ.jS (2*m+1+1) (.node l v r) (2*m+1) x=_; unfold cJ.jS; simp only[ad,af,al]; rw[ur _ (m+1) _ _ _ (by omega) (by omega)]; rfl
theorem mv (t:cJ α) (m:Nat) (x:α) :t.set (2*m+2) x=.node t.lt t.mid (t.rt.set m x) :=by
 have ad:Nat.beq (2*m+2) 0=false:=jN (by omega);have af:Nat.beq ((2*m+2) % 2) 1=false:=jN (by omega);have al:(2*m+2) / 2 - 1=m:=by omega
 cases t with
 | nil=>show cJ.jS (2*m+2+1) .nil (2*m+2) x=_; unfold cJ.jS; simp only[ad,af,al]; rw[ur _ (m+1) _ _ _ (by omega) (by omega)]; rfl
 | node l v r=>show cJ.jS (2*m+2+1) (.node l v r) (2*m+2) x=_; unfold cJ.jS; simp only[ad,af,al]; rw[ur _ (m+1) _ _ _ (by omega) (by omega)]; rfl
theorem Il (n:Nat) :n=0\/(∃ m,m<n/\n=2*m+1)\/∃ m,m<n/\n=2*m+2:=by
 rcases Nat.eq_zero_or_pos n with h | h
 ·exact .inl h
 ·rcases Nat.mod_two_eq_zero_or_one n with af | af
  ·exact .inr (.inr ⟨n / 2 - 1,by omega,by omega⟩)
  ·exact .inr (.inl ⟨n / 2,by omega,by omega⟩)
theorem ach (n:Nat) :∀ (t:cJ α) (x y:α),(t.set n x).set n y=t.set n y:=by
 induction n using Nat.strongRecOn with
 | _ n aQ=>
  intro t x y;rcases Il n with rfl | ⟨m,hm,rfl⟩ | ⟨m,hm,rfl⟩
  ·rw[p3 t x,p3 t y,p3]; rfl
  ·rw[mw t,mw t,mw]; simp only[cJ.lt,cJ.mid,cJ.rt,aQ m hm]
  ·rw[mv t,mv t,mv]; simp only[cJ.lt,cJ.mid,cJ.rt,aQ m hm]
theorem set_comm (n:Nat) :∀ (t:cJ α) (k:Nat) (x y:α),n≠k->(t.set n x).set k y=(t.set k y).set n x:=by
 induction n using Nat.strongRecOn with
 | _ n aQ=>
  intro t k x y bW;rcases Il n with rfl | ⟨m,hm,rfl⟩ | ⟨m,hm,rfl⟩<;>rcases Il k with rfl | ⟨j,aj,rfl⟩ | ⟨j,aj,rfl⟩
  ·exact absurd rfl bW
  ·rw[p3 t,mw,mw t,p3]; rfl
  ·rw[p3 t,mv,mv t,p3]; rfl
  ·rw[mw t,p3,p3 t,mw]; rfl
  ·rw[mw t,mw,mw t,mw]; simp only[cJ.lt,cJ.mid,cJ.rt]; rw[aQ m hm _ j _ _ (by omega)]
  ·rw[mw t,mv,mv t,mw]; rfl
  ·rw[mv t,p3,p3 t,mv]; rfl
  ·rw[mv t,mw,mw t,mv]; rfl
  ·rw[mv t,mv,mv t,mv]; simp only[cJ.lt,cJ.mid,cJ.rt]; rw[aQ m hm _ j _ _ (by omega)]
end
abbrev ap:=List aU
def mb:Nat->cJ aU->ap->cJ aU
 | _,t,[]=>t
 | i,t,c::cs=>mb (i+1) (t.set i c) cs
def bM (l:ap) :aW:=⟨l.length,mb 0 .nil l⟩
@[simp] theorem J5 (l:ap) :(bM l).n=l.length:=rfl
theorem Nf:∀ (l:ap) (i:Nat) (t:cJ aU) (c:aU),mb i t (l++[c])=(mb i t l).set (i+l.length) c
 | [],i,t,c=>rfl
 | x::l,i,t,c=>by
  simp only[ak6,mb,akv];rw[Nf l,show i+1+l.length=i+(l.length+1) by omega]
theorem n3 (l:ap) (c:aU) :(bM l).push c=bM (l++[c]) :=by
 unfold bM aW.push;rw[Nf];simp
theorem Ni:∀ (l:ap) (i j:Nat) (t:cJ aU) (c:aU),i<j->(mb j t l).set i c=mb j (t.set i c) l
 | [],_,_,_,_,_=>rfl
 | x::l,i,j,t,c,h=>by
  simp only[mb];rw[Ni l i (j+1) _ c (by omega),set_comm j t i x c (by omega)]
theorem Nh:∀ (l:ap) (i b:Nat) (t:cJ aU) (c:aU),b<l.length->(mb i t l).set (i+b) c=mb i t (l.set b c)
 | [],_,_,_,_,h=>by simp at h
 | x::l,i,0,t,c,_=>by
  simp only[mb,al9,amw];rw[Ni l i (i+1) _ c (by omega),ach]
 | x::l,i,b+1,t,c,h=>by
  simp only[mb,amW];rw[<-Nh l (i+1) b _ c (by simpa using h),show i+(b+1)=i+1+b by omega]
theorem qd {l:ap} {b:Nat} (c:aU) (h:b<l.length) :(bM l).set b c=bM (l.set b c) :=by
 unfold bM aW.set;have:=Nh l 0 b .nil c h;rw[alf] at this;simp only[this,List.length_set]
theorem Ng:∀ (l:ap) (i:Nat) (t:cJ aU) (b:Nat),(mb i t l).get b=if i<=b/\b<i+l.length then l[b - i]? else t.get b
 | [],i,t,b=>by simp only[mb,akR]; rw[if_neg (by omega)]
 | x::l,i,t,b=>by
  simp only[mb,akv];rw[Ng l,cJ.FY];by_cases ad:i+1<=b/\b<i+1+l.length
  ·rw[if_pos ad,if_pos (by omega),show b - i=(b - (i+1))+1 by omega,akN]
  ·rw[if_neg ad];by_cases af:b=i
   ·subst af; rw[if_pos rfl,if_pos (by omega)]; simp
   ·rw[if_neg af,if_neg (by omega)]
theorem lg (l:ap) (b:Nat) :(bM l).f b=match l[b]? with | some c=>c | none=>.none:=by
 unfold bM aW.f;simp only[Ng,alj,true_and,alf,amL];by_cases h:b<l.length
 ·rw[if_pos h]; cases l[b]?<;>rfl
 ·rw[if_neg h,akp (by omega)]; rfl
theorem mH {l:ap} {b n:Nat} {cs:List U}:(bM l).f b=.cells n cs<->l[b]? = some (.cells n cs) :=by
 rw[lg];cases h:l[b]? with
 | none=>simp
 | some c=>simp
theorem b9 {l:ap} {b:Nat} {c:aU} (h:l[b]? = some c) :b<l.length:=(aj7.1 h).1
def gW (l:ap) :U->Option (List U × Nat)
 | .ptr b off sz=>match l[b]? with
  | some (.cells n cs)=>if n=sz then some (cs,off) else none
  | _=>none
 | .cg cs off=>some (cs,off)
 | _=>none
def sj (n:Nat) (cs:List U) (off:Nat) :Option U:=if off+n<=cs.length then some (.aH ((cs.drop off).take n)) else none
def ld (n:Nat) (l:ap) (p v:U) :Option ap:=
 match p,v.cells with
 | .ptr b off sz,some vs=>match l[b]? with
  | some (.cells m cs)=>if m=sz/\vs.length=n/\off+n<=m then some (l.set b (.cells m (bi cs off vs))) else none
  | _=>none
 | _,_=>none
def dd (l:ap) (z:Nat) :U->Option (List U × Nat)
 | .aK=>some ([],0)
 | .b1 dG es=>if z=dG then some (es.flatten,es.length) else none
 | .ar dG b off len _ sz=>match l[b]? with
  | some (.cells n cs)=>if n=sz/\z=dG then some ((cs.drop off).take (len*z),len) else none
  | _=>none
 | .str s=>if z=1 then some (s.map iK,s.length) else none
 | _=>none
def i8 (l:ap) (z by_:Nat) (s:U) (xs:List U) (n:Nat) :Option (U × ap) :=
 if n=0 then (match s with | .aK | .b1 .. | .ar ..=>some (s,l) | _=>none)
 else if z=0\/by_=0 then none else match s with
  | .aK=>if n*by_<=cF then some (.ar z l.length 0 n n (n*z),l++[.cells (n*z) xs]) else none
  | .ar dG b off len cap sz=>match l[b]? with
   | some (.cells m cs)=>
    if m=sz/\z=dG/\(len+n)*by_<=cF then
     if len+n<=cap then some (.ar z b off (len+n) cap sz,l.set b (.cells m (bi cs (off+len*z) xs)))
     else if off+cap*z<sz then some (.ar z l.length 0 (len+n) (len+n) ((len+n)*z),l++[.cells ((len+n)*z) ((cs.drop off).take (len*z)++xs)])
     else if off=0 then some (.ar z b 0 (len+n) (len+n) ((len+n)*z),l.set b (.cells ((len+n)*z) (cs.take (len*z)++xs)))
     else some (.ar z l.length 0 (len+n) (len+n) ((len+n)*z),l.set b .dead++[.cells ((len+n)*z) ((cs.drop off).take (len*z)++xs)])
    else none
   | _=>none
  | _=>none
def y7 (z:Nat) (l:ap) (d x:U) :Option (U × ap) :=
 match dd l z x with
 | none=>none
 | some (xs,n)=>match d with
  | .aK=>some (.int .i64 0,l)
  | .ar dG b off len _ sz=>match l[b]? with
   | some (.cells m cs)=>if m=sz/\z=dG then some (.int .i64 ((min n len:Nat) :Int),l.set b (.cells m (bi cs off (xs.take (min n len*z))))) else none
   | _=>none
  | _=>none
def tO (l:ap) :U->Option (List (U × U × Nat))
 | .ia=>some []
 | .mp b=>match l[b]? with | some (.map es _)=>some es | _=>none
 | _=>none
def pe (l:ap) (x:U) :Option (List UInt8) :=match x with
 | .str s=>some s
 | x=>match dd l 1 x with
  | some (cs,_)=>mN cs
  | none=>none
def cmpL (l:ap) (x y:U) :Option U:=match pe l x,pe l y with
 | some a,some b=>some (.int .i64 (np a b))
 | _,_=>none
def tT (l:ap) (x:U) :Option (U × ap) :=match x with
 | .it b=>match l[b]? with
  | some (.iter s pos)=>match Nat.blt pos s.length with
   | true=>some (.bu [.bool true,.int .i64 pos,.int .i32 (Utf8.decode ⟨s.toArray⟩ pos).1],l.set b (.iter s (pos+(Utf8.decode ⟨s.toArray⟩ pos).2)))
   | false=>some (.bu [.bool false],l)
  | _=>none
 | _=>none
def A6 (l:ap) (x:U) :Option (U × ap) :=match x with
 | .str s=>some (.it l.length,l++[.iter s 0])
 | _=>none
def DH (l:ap) (x:U) :Option U:=match x with
 | .ia=>some (.int .i64 0)
 | .mp b=>match l[b]? with | some (.map es _)=>some (.int .i64 es.length) | _=>none
 | _=>none
def vb (zero:List U) (l:ap) :U->Option ap
 | .aK=>some l
 | .b1 _ []=>some l
 | .ar z b off len _ sz=>if len=0 then some l else match l[b]? with
  | some (.cells m cs)=>if m=sz/\zero.length=z then some (l.set b (.cells m (bi cs off (dz zero len)))) else none
  | _=>none
 | _=>none
theorem IW (l:ap) (p:U) :reach (bM l) p=gW l p:=by
 cases p<;>try rfl
 rename_i b off sz;simp only[reach,gW,lg];cases l[b]? with
 | none=>rfl
 | some c=>cases c<;>rfl
theorem y6 (l:ap) (z:Nat) (x:U) :contents (bM l) z x=dd l z x:=by
 cases x<;>try rfl
 rename_i dG b off len cap sz;simp only[contents,dd,lg];cases l[b]? with
 | none=>rfl
 | some c=>cases c<;>rfl
section
variable (P:Program)
inductive i7 where
 | arr (n z:Nat)
 | ar (z:Nat)
 | str
 deriving DecidableEq
def nT (t:TypeId) :Option i7:=match P.underlying t with
 | some (.array n e)=>(cC P e).map fun z=>.arr n z
 | some (.slice e)=>(cC P e).map fun z=>.ar z
 | some .string=>some .str
 | _=>none
inductive dK where
 | k8 (x:Operand)
 | pick (c a b:Operand)
 | alloc (zero:List U)
 | box (x:Operand)
 | BQ (zero:List U) (ps:List (Nat × Nat × Operand))
 | sP (z:Nat) (zero:List U) (len:Nat) (ps:List (Nat × Operand))
 | v3 (a:Operand)
 | v4 (n:Nat) (a:Operand)
 | st (n:Nat) (a x:Operand)
 | DT (x:Operand)
 | bin (o:BinOp) (t:TypeId) (x y:Operand)
 | un (o:UnOp) (x:Operand)
 | yY (k:IntKind) (x:Operand)
 | y9 (x:Operand)
 | u9 (x:Operand)
 | y8 (x:Operand)
 | AL (t:TypeId) (x:Operand)
 | Bj (t:TypeId) (z:U) (ok:Bool) (x:Operand)
 | AK (f:FuncId) (first gq:List Operand)
 | tR (z by_:Nat) (zero:List U) (l c:Operand)
 | slice (ds:i7) (x:Operand) (cE aB cB:Option Operand)
 | Cc (off:Nat) (x:Operand)
 | Cg (off:Nat) (x:Operand)
 | Ch (n off:Nat) (x:Operand)
 | At (ds:i7) (x i:Operand)
 | Dx (n z:Nat) (x i:Operand)
 | Dy (n z:Nat) (x i:Operand)
 | DC (x i:Operand)
 | ext (x:Operand) (i:Nat)
 | len (ds:i7) (x:Operand)
 | cap (ds:i7) (x:Operand)
 | app (z by_:Nat) (s x:Operand)
 | wA (z by_:Nat) (zero:List U) (s x:Operand)
 | wU (z:Nat) (d x:Operand)
 | wQ (zero:List U) (x:Operand)
 | min (x y:Operand)
 | max (x y:Operand)
 | wb (x:Option Operand)
 | AG (c8:TypeId) (zero:U) (ok:Bool) (m k:Operand)
 | x4 (c8:TypeId) (m k x:Operand)
 | xZ (x:Operand)
 | yk (x:Operand)
 | x7 (x:Operand)
 | b6 (f:FuncId) (vn x y:Operand)
 | stop
def AH (l:ap) (c8:TypeId) (zero:U) (ok:Bool) (m k:U) :Option U:=
 match tO l m with
 | some es=>match ml P c8 k with
  | false=>none
  | true=>match lr P c8 k es 0 with
   | some (some (_,v))=>some (if ok then .bu [v,.bool true] else v)
   | some none=>some (if ok then .bu [zero,.bool false] else zero)
   | none=>none
 | none=>none
def v8 (l:ap) (c8:TypeId) (m k v:U) :Option ap:=
 match m with
 | .mp b=>match l[b]? with
  | some (.map es e5)=>match ml P c8 k with
   | false=>none
   | true=>match lr P c8 k es 0 with
    | some (some (i,_))=>some (l.set b (.map (es.modify i fun e=>(k,v,e.2.2)) e5))
    | some none=>some (l.set b (.map (es++[(k,v,e5)]) (e5+1)))
    | none=>none
  | _=>none
 | _=>none
def Dw (f:FuncId) :U->Bool | .fn g [] []=>Nat.beq g f | _=>false
def D9 (c a b:U) :Option U:=match c with | .bool t=>some (if t then a else b) | _=>none
def x5 (x:U) :Option U:=match x with | .ptr b o s=>some (.ptr b o s) | .cg c o=>some (.cg c o) | .fn f a b=>some (.fn f a b) | _=>none
def pc (zero:List U) :List (Nat × Nat × U)->Option (List U)
 | []=>some zero
 | (off,size,v) ::r=>match v.cells with
  | some vs=>if vs.length=size/\off+size<=zero.length then pc (bi zero off vs) r else none
  | none=>none
def yZ (k:IntKind) :U->Option U | .int _ n=>some (.int k (k.wrap n)) | _=>none
def FC:U->Option U | .str s=>some (.str s) | _=>none
def va (l:ap) (x:U) :Option U:=match x with
 | .aK=>some (.str [])
 | .str _=>none
 | x=>match dd l 1 x with | some (cs,_)=>(mN cs).map .str | none=>none
def vf:U->Option U | .str s=>some (.b1 1 (s.map fun b=>[iK b])) | _=>none
def sb (z by_:Nat) (zero:List U) (am:ap) (l c:U) :Option (U × ap) :=match l,c with
 | .int _ l,.int _ c=>if 0<=l/\l<=c/\c<9223372036854775808/\by_*c<=cF then
   some (.ar z am.length 0 l.toNat c.toNat (c.toNat*z),am++[.cells (c.toNat*z) (dz zero c.toNat)]) else none
 | _,_=>none
def e3 (ds:i7) (x:U) (cE aB cB:Option U) :Option U:=
 match ds with
 | .arr n z=>match gp n n cE aB cB with
  | some (l,aR,m)=>match x with
   | .ptr b off sz=>if off+m*z<=sz then (if m=l then some (.b1 z []) else some (.ar z b (off+l*z) (aR - l) (m - l) sz)) else none
   | .cg cs off=>if off+n*z<=cs.length then some (.b1 z (nm z (aR - l) (cs.drop (off+l*z)))) else none
   | _=>none
  | none=>none
 | .ar z=>match x with
  | .ar dG b off len cap sz=>if z=dG then (gp len cap cE aB cB).map fun (l,aR,m)=>if m=l then .ar z b (off+l*z) 0 0 sz else .ar z b (off+l*z) (aR - l) (m - l) sz else none
  | .b1 dG es=>if z=dG then (gp es.length es.length cE aB cB).map fun (l,aR,_)=>.b1 z ((es.drop l).take (aR - l)) else none
  | .aK=>(gp 0 0 cE aB cB).map fun _=>.aK
  | _=>none
 | .str=>match x,cB with
  | .str s,none=>(gp s.length s.length cE aB none).map fun (l,aR,_)=>.str ((s.drop l).take (aR - l))
  | _,_=>none
def Ci (off:Nat) :U->Option U | .aH cs=>cs[off]? | _=>none
def zk (n off:Nat) :U->Option U | .aH cs=>sj n cs off | _=>none
def cN (ds:i7) (x ew:U) :Option U:=
 match ew with
 | .int _ i=>match ds with
  | .arr n z=>if 0<=i/\i<n then mO x (i.toNat*z) else none
  | .ar z=>match x with
   | .ar dG b off len _ sz=>if z=dG/\0<=i/\i<len then some (.ptr b (off+i.toNat*z) sz) else none
   | .b1 dG es=>if z=dG/\0<=i then (es[i.toNat]?).map fun cs=>.cg cs 0 else none
   | _=>none
  | .str=>none
 | _=>none
def Dz (n z:Nat) (x ew:U) :Option U:=match x,ew with
 | .aH cs,.int _ i=>if 0<=i/\i<n then cs[i.toNat*z]? else none
 | _,_=>none
def DA (n z:Nat) (x ew:U) :Option U:=match x,ew with
 | .aH cs,.int _ i=>if 0<=i/\i<n then sj z cs (i.toNat*z) else none
 | _,_=>none
def xX (x ew:U) :Option U:=match x,ew with
 | .str s,.int _ i=>if 0<=i then (s[i.toNat]?).map iK else none
 | _,_=>none
def Cb (x:U) (i:Nat) :Option U:=match x with | .bu vs=>vs[i]? | _=>none
def ch (ds:i7) (x:U) :Option U:=match ds with
 | .arr n _=>some (.int .i64 n)
 | .ar _=>match x with
  | .aK=>some (.int .i64 0)
  | .ar _ _ _ len _ _=>some (.int .i64 len)
  | .b1 _ es=>some (.int .i64 es.length)
  | _=>none
 | .str=>match x with | .str s=>some (.int .i64 s.length) | _=>none
def sS (ds:i7) (x:U) :Option U:=match ds with
 | .arr n _=>some (.int .i64 n)
 | .ar _=>match x with | .aK=>some (.int .i64 0) | _=>none
 | .str=>none
def fS (l:ap) (z by_:Nat) (s x:U) :Option (U × ap) :=match dd l z x with
 | none=>none
 | some (xs,n)=>i8 l z by_ s xs n
def qj (l:ap) (z by_:Nat) (zero:List U) (s x:U) :Option (U × ap) :=match x with
 | .int _ n=>if 0<=n/\n<9223372036854775808/\n.toNat*by_<=cF then i8 l z by_ s (dz zero n.toNat) n.toNat else none
 | _=>none
def dr (l:ap) (x:Option U) :Option (U × ap) :=x.map fun v=>(v,l)
def bO (aE:Operand->U) (l:ap) :dK->Option (U × ap)
 | .k8 x=>some (aE x,l)
 | .pick c a b=>dr l (D9 (aE c) (aE a) (aE b))
 | .alloc zero=>some (.ptr l.length 0 zero.length,l++[.cells zero.length zero])
 | .box x=>(aE x).cells.map fun cs=>(.ptr l.length 0 cs.length,l++[.cells cs.length cs])
 | .BQ zero ps=>dr l ((pc zero (ps.map fun p=>(p.1,p.2.1,aE p.2.2))).map .aH)
 | .sP z zero len ps=>(ht (fun i=>some (i*z,z)) (dz zero len) (ps.map fun p=>(p.1,aE p.2))).map fun cs=>(.ar z l.length 0 len len (len*z),l++[.cells (len*z) cs])
 | .v3 a=>dr l ((gW l (aE a)).bind fun x=>x.1[x.2]?)
 | .v4 n a=>dr l ((gW l (aE a)).bind fun x=>sj n x.1 x.2)
 | .st n a x=>(ld n l (aE a) (aE x)).map fun l'=>(ie,l')
 | .DT x=>dr l (x5 (aE x))
 | .bin o t x y=>dr l (fT P o t (aE x) (aE y))
 | .un o x=>dr l (p4 o (aE x))
 | .yY k x=>dr l (yZ k (aE x))
 | .y9 x=>dr l (FC (aE x))
 | .u9 x=>dr l (va l (aE x))
 | .y8 x=>dr l (vf (aE x))
 | .AL t x=>some (.hi t (aE x),l)
 | .Bj t z ok x=>dr l (Bk t z ok (aE x))
 | .AK f a b=>some (.fn f (a.map aE) (b.map aE),l)
 | .tR z by_ zero a c=>sb z by_ zero l (aE a) (aE c)
 | .slice ds x cE aB cB=>dr l (e3 ds (aE x) (cE.map aE) (aB.map aE) (cB.map aE))
 | .Cc off x=>dr l (mO (aE x) off)
 | .Cg off x=>dr l (Ci off (aE x))
 | .Ch n off x=>dr l (zk n off (aE x))
 | .At ds x i=>dr l (cN ds (aE x) (aE i))
 | .Dx n z x i=>dr l (Dz n z (aE x) (aE i))
 | .Dy n z x i=>dr l (DA n z (aE x) (aE i))
 | .DC x i=>dr l (xX (aE x) (aE i))
 | .ext x i=>dr l (Cb (aE x) i)
 | .len ds x=>dr l (ch ds (aE x))
 | .cap ds x=>dr l (sS ds (aE x))
 | .app z by_ s x=>fS l z by_ (aE s) (aE x)
 | .wA z by_ zero s x=>qj l z by_ zero (aE s) (aE x)
 | .wU z d x=>y7 z l (aE d) (aE x)
 | .wQ zero x=>(vb zero l (aE x)).map fun l'=>(.bu [],l')
 | .min x y=>dr l (wa (aE x) (aE y))
 | .max x y=>dr l (tP (aE x) (aE y))
 | .wb x=>match x with
  | none=>some (.mp l.length,l++[.map [] 0])
  | some o=>match asInt (aE o) with | some _=>some (.mp l.length,l++[.map [] 0]) | none=>none
 | .AG c8 zero ok m k=>dr l (AH P l c8 zero ok (aE m) (aE k))
 | .x4 c8 m k x=>(v8 P l c8 (aE m) (aE k) (aE x)).map fun l'=>(ie,l')
 | .xZ x=>dr l (DH l (aE x))
 | .yk x=>A6 l (aE x)
 | .x7 x=>tT l (aE x)
 | .b6 f vn x y=>match Dw f (aE vn) with | true=>dr l (cmpL l (aE x) (aE y)) | false=>none
 | .stop=>none
def Fm (t:TypeId) (ps:List (Nat × Operand)) :Option (List (Nat × Nat × Operand)) :=
 match P.underlying t with
 | some (.struct fs)=>if fs.toList.all fun f=>(cC P f.type).isSome then ps.mapM fun p=>(A1 P fs p.1).map fun q=>(q.1,q.2,p.2) else none
 | some (.array _ e)=>(cC P e).map fun n=>ps.map fun p=>(p.1*n,n,p.2)
 | _=>none
def sY (b:Builtin) (ts:List TypeId) (args:List Operand) :Option dK:=
 match b,ts,args with
 | .len,[t],[x]=>match P.underlying t with
  | some (.map _ _)=>some (.xZ x)
  | _=>(nT P t).map fun ds=>.len ds x
 | .cap,[t],[x]=>(nT P t).map fun ds=>.cap ds x
 | .append,[t,u],[s,x]=>match P.underlying u with
  | some (.int _)=>(jc P t).bind fun e=>(cC P e).bind fun z=>(lV P e).bind fun by_=>(ho P e).bind fun zero=>
    if zero.length=z/\yE P e=some z then some (.wA z by_ zero s x) else none
  | none=>none
  | _=>(jc P t).bind fun e=>(cC P e).bind fun z=>(lV P e).bind fun by_=>if yE P e=some z then some (.app z by_ s x) else none
 | .copy,[t,_],[d,x]=>(jc P t).bind fun e=>(cC P e).map fun z=>.wU z d x
 | .clear,[t],[x]=>match P.underlying t with
  | some (.slice e)=>(ho P e).map fun zero=>.wQ zero x
  | _=>none
 | .min,_,[x,y]=>some (.min x y)
 | .max,_,[x,y]=>some (.max x y)
 | _,_,_=>none
def lX:Op->Option dK
 | .move x | .assign x=>some (.k8 x)
 | .pick c a b=>some (.pick c a b)
 | .alloc t=>(ho P t).map .alloc
 | .box _ x=>some (.box x)
 | .build t ps=>(ho P t).bind fun zero=>(Fm P t ps.toList).map fun q=>.BQ zero q
 | .buildSlice t len ps=>(jc P t).bind fun e=>(cC P e).bind fun z=>(ho P e).bind fun zero=>
   if zero.length=z/\len*z<=16777216 then some (.sP z zero len ps.toList) else none
 | .load t a=>match dZ P t,cC P t with
  | some true,some n=>some (.v4 n a)
  | some false,_=>some (.v3 a)
  | _,_=>none
 | .store t a x=>(cC P t).map fun n=>.st n a x
 | .nilCheck x=>some (.DT x)
 | .binOp o t x y _=>some (.bin o t x y)
 | .unOp o _ x=>some (.un o x)
 | .convert s d x=>match P.underlying s,P.underlying d with
  | some _,some (.int k)=>some (.yY k x)
  | some (.slice e),some .string=>match P.underlying e with
   | some (.int .u8)=>some (.u9 x)
   | _=>none
  | some .string,some .string=>some (.y9 x)
  | some .string,some (.slice e)=>match P.underlying e with
   | some (.int .u8)=>some (.y8 x)
   | _=>none
  | _,_=>none
 | .makeInterface t x=>match P.underlying t with
  | some (.interface _) | none=>none
  | _=>some (.AL t x)
 | .makeFunc (.func f) a b=>some (.AK f a.toList b.toList)
 | .makeSlice t l c=>(jc P t).bind fun e=>(cC P e).bind fun z=>(lV P e).bind fun by_=>(ho P e).bind fun zero=>
   if zero.length=z then some (.tR z by_ zero l c) else none
 | .slice t x cE aB cB=>(nT P t).map fun ds=>.slice ds x cE aB cB
 | .fieldAddr s x f=>(vl P s f).bind fun fd=>match cC P fd.type with
  | some (_+1)=>some (.Cc fd.offset x)
  | _=>none
 | .field t x f=>(vl P t f).bind fun fd=>match dZ P fd.type,cC P fd.type with
  | some true,some n=>some (.Ch n fd.offset x)
  | some false,_=>some (.Cg fd.offset x)
  | _,_=>none
 | .indexAddr t x i=>match nT P t with
  | some (.arr n z)=>some (.At (.arr n z) x i)
  | some (.ar z)=>some (.At (.ar z) x i)
  | _=>none
 | .index t x i=>match P.underlying t with
  | some (.array n e)=>match cC P e,dZ P e with
   | some z,some true=>some (.Dy n z x i)
   | some z,some false=>some (.Dx n z x i)
   | _,_=>none
  | some .string=>some (.DC x i)
  | _=>none
 | .extract x i=>some (.ext x i)
 | .call c=>match c.callee with
  | .builtin b=>sY P b c.argTypes.toList c.args.toList
  | .value (.func f)=>match P.funcs[f]?,c.args.toList with
   | some fn,[x,y]=>if Av fn then some (.b6 f (.func f) x y) else none
   | _,_=>none
  | _=>none
 | .makeMap t r=>match P.underlying t with | some (.map _ _)=>some (.wb r) | _=>none
 | .lookup t m k ok=>match P.underlying t with | some (.map c8 lq)=>(ww P lq).map fun z=>.AG c8 z ok m k | _=>none
 | .mapUpdate t m k x | .insert t m k x=>match P.underlying t with | some (.map c8 _)=>some (.x4 c8 m k x) | _=>none
 | .range t x=>match P.underlying t with | some .string=>some (.yk x) | _=>none
 | .next it true=>some (.x7 it)
 | .panic _=>some .stop
 | .typeAssert x _ t ok=>(EA P t).map fun z=>.Bj t z ok x
 | _=>none
end

section
variable {P:Program}
theorem bind_some {α i6:Type} {x:Option α} {f:α->Option i6} {y:i6}:x.bind f=some y<->∃ a,x=some a/\f a=some y:=by cases x<;>simp
theorem map_some {α i6:Type} {x:Option α} {f:α->i6} {y:i6}:x.map f=some y<->∃ a,x=some a/\f a=y:=by cases x<;>simp
theorem ga {l l' : ap} {x:Option U} {v:U}:dr l x=some (v,l')<->x=some v/\l'=l:=by cases x<;>simp[dr,eq_comm]
theorem hW {α:Type} {p:Prop} [Decidable p] {x y:α}:(if p then some x else none)=some y<->p/\x=y:=by by_cases p<;>simp_all
theorem Kt {l l' : ap} {e z by_ n:Nat} {s v:U} {xs:List U} (aw:yE P e=some z) (h:i8 l z by_ s xs n=some (v,l')) :wC P (bM l) e z by_ s xs n=some (v,bM l') :=by
 unfold i8 at h;unfold wC;by_cases aD:n=0
 ·rw[if_pos aD] at h ⊢;cases s<;>simp at h ⊢<;>simp[h]
 ·rw[if_neg aD] at h ⊢;by_cases aF:z=0\/by_=0
  ·rw[if_pos aF] at h; cases h
  ·rw[if_neg aF] at h;rw[if_neg (by simp only[aw]; simpa using aF)];cases s<;>simp only at h ⊢<;>try (cases h; done)
   case aK=>
    by_cases ay:n*by_<=cF
    ·rw[if_pos ay] at h ⊢; cases h; rw[n3]; rfl
    ·rw[if_neg ay] at h; cases h
   case ar dG b off len cap sz=>
    cases ag:l[b]? with
    | none=>rw[ag] at h; cases h
    | some c=>
     cases c<;>rw[ag] at h<;>(try simp only at h)<;>try (cases h; done)
     rename_i m cs;rw[mH.2 ag];simp only;by_cases ad:m=sz/\z=dG/\(len+n)*by_<=cF
     ·rw[if_pos ad] at h ⊢;by_cases af:len+n<=cap
      ·rw[if_pos af] at h ⊢; cases h; rw[qd _ (b9 ag)]
      ·rw[if_neg af] at h ⊢;by_cases al:off+cap*z<sz
       ·rw[if_pos al] at h ⊢; cases h; rw[n3]; rfl
       ·rw[if_neg al] at h ⊢;by_cases aG:off=0
        ·rw[if_pos aG] at h ⊢; cases h; rw[qd _ (b9 ag)]
        ·rw[if_neg aG] at h ⊢; cases h;rw[qd _ (b9 ag),n3]; rfl
     ·rw[if_neg ad] at h; cases h
theorem SQ {t:TypeId} {ps:List (Nat × Operand)} {q:List (Nat × Nat × Operand)} (a8:Fm P t ps=some q) (aE:Operand->U) (zero:List U) (aw:ho P t=some zero) {cs:List U}
  (ag:pc zero (q.map fun p=>(p.1,p.2.1,aE p.2.2))=some cs) :yT P t (ps.map fun p=>(p.1,aE p.2))=some (.aH cs) :=by
 have fill:∀ (ko:Nat->Option (Nat × Nat)) (ps:List (Nat × Operand)) (q:List (Nat × Nat × Operand)) (zero:List U),
   (ps.mapM fun p=>(ko p.1).map fun q=>(q.1,q.2,p.2))=some q->pc zero (q.map fun p=>(p.1,p.2.1,aE p.2.2))=some cs->ht ko zero (ps.map fun p=>(p.1,aE p.2))=some cs:=by
  intro ko ps
  induction ps with
  | nil=>intro q zero ad af; simp at ad; subst ad; simpa [pc,ht] using af
  | cons p ps aQ=>
   intro q zero ad af;rw[alI] at ad;simp only[Option.bind_eq_bind,bind_some,map_some,alV,Option.some.injEq] at ad;obtain⟨a,⟨ey,al,rfl⟩,dE,aG,rfl⟩:=ad;simp only[akx,pc,ht,al] at af ⊢;split at af
   ·rename_i vs aq;simp only[aq];split at af
    ·rename_i a6;rw[if_pos a6];exact aQ _ _ aG af
    ·cases af
   ·cases af
 unfold Fm at a8;unfold yT;split at a8
 ·rename_i fs aM;rw[aw,aM];simp only;split at a8
  ·rename_i eA;rw[if_neg (by simp[eA])];rw[fill _ _ _ _ a8 ag]; rfl
  ·cases a8
 ·rename_i n e aM;rw[map_some] at a8;obtain⟨hX,ad,rfl⟩:=a8;rw[aw,aM];simp only[ad];rw[fill (fun i=>some (i*hX,hX)) ps _ zero ?_ ag]; rfl;clear ag
  induction ps with
  | nil=>rfl
  | cons p ps aQ=>rw[alI,aQ]; rfl
 ·cases a8
theorem acq {t:TypeId} {ds:i7} (a3:nT P t=some ds) (x:U) (cE aB cB:Option U) :e3 ds x cE aB cB=Bf P t x cE aB cB:=by
 unfold nT at a3;unfold Bf;split at a3
 ·rename_i n e aM;rw[map_some] at a3;obtain⟨z,ad,rfl⟩:=a3;rw[aM]; simp only[ad,e3];cases gp n n cE aB cB<;>rfl
 ·rename_i e aM;rw[map_some] at a3;obtain⟨z,ad,rfl⟩:=a3;rw[aM]; simp only[ad,e3];cases x<;>rfl
 ·rename_i aM;cases a3;rw[aM]; simp only[e3];cases x<;>cases cB<;>rfl
 ·cases a3
theorem Y3 {t:TypeId} {ds:i7} (a3:nT P t=some ds) {x v:U} (h:ch ds x=some v) :v5 P t x=some v:=by
 unfold nT at a3;unfold v5;split at a3
 ·rename_i n e aM;rw[map_some] at a3;obtain⟨z,ad,rfl⟩:=a3;rw[aM]; simpa [ch] using h
 ·rename_i e aM;rw[map_some] at a3;obtain⟨z,ad,rfl⟩:=a3;rw[aM]; unfold ch at h; cases x<;>simp_all
 ·rename_i aM;cases a3;rw[aM]; unfold ch at h; cases x<;>simp_all
 ·cases a3
theorem Tj {t:TypeId} {ds:i7} (a3:nT P t=some ds) {x v:U} (h:sS ds x=some v) :wL P t x=some v:=by
 unfold nT at a3;unfold wL;split at a3
 ·rename_i n e aM;rw[map_some] at a3;obtain⟨z,ad,rfl⟩:=a3;rw[aM]; simpa [sS] using h
 ·rename_i e aM;rw[map_some] at a3;obtain⟨z,ad,rfl⟩:=a3;rw[aM]; unfold sS at h; cases x<;>simp_all
 ·rename_i aM;cases a3;rw[aM]; unfold sS at h; cases x<;>simp_all
 ·cases a3
theorem Oe {t:TypeId} {ds:i7} (a3:nT P t=some ds) {x i v:U} (h:cN ds x i=some v) :Au P t x i=some v:=by
 unfold nT at a3;unfold Au;unfold cN at h;cases i<;>(try simp only at h)<;>try (cases h; done)
 rename_i k i;split at a3
 ·rename_i n e aM;rw[map_some] at a3;obtain⟨z,ad,rfl⟩:=a3;rw[aM]; simpa [asInt,ad] using h
 ·rename_i e aM;rw[map_some] at a3;obtain⟨z,ad,rfl⟩:=a3;rw[aM]; simp only[asInt,ad]; simp only at h;cases x<;>simp only at h ⊢<;>first | exact h | cases h
 ·rename_i aM;cases a3;simp only at h;cases h
 ·cases a3
theorem acI {t:TypeId} {n:Nat} (ak:cC P t=some n) {l l' : ap} {p v:U} (h:ld n l p v=some l') :yp P (bM l) t p v=some (bM l') :=by
 unfold ld at h;unfold yp;cases p<;>(try simp only at h)<;>try (cases h; done)
 rename_i b off sz;cases aq:v.cells with
 | none=>rw[aq] at h; cases h
 | some vs=>
  rw[aq] at h;simp only[ak] at h ⊢;cases ag:l[b]? with
  | none=>rw[ag] at h; cases h
  | some c=>
   cases c<;>rw[ag] at h<;>(try simp only at h)<;>try (cases h; done)
   rename_i m cs;rw[mH.2 ag];simp only;rw[hW] at h;obtain⟨ad,rfl⟩:=h;rw[if_pos ad,qd _ (b9 ag)]
theorem TN {t e:TypeId} {z:Nat} (ao:jc P t=some e) (ak:cC P e=some z) {l l' : ap} {d x v:U} (h:y7 z l d x=some (v,l')) :wT P (bM l) t d x=some (v,bM l') :=by
 unfold y7 at h;unfold wT;rw[ao]; simp only[ak,y6];cases ah:dd l z x with
 | none=>rw[ah] at h; cases h
 | some p=>
  obtain⟨xs,n⟩:=p;rw[ah] at h;simp only at h ⊢;cases d<;>simp only at h ⊢<;>try (cases h; done)
  case aK=>cases h; rfl
  case ar dG b off len cap sz=>
   cases ag:l[b]? with
   | none=>rw[ag] at h; cases h
   | some c=>
    cases c<;>rw[ag] at h<;>(try simp only at h)<;>try (cases h; done)
    rename_i m cs;rw[mH.2 ag];simp only;rw[hW] at h;obtain⟨ad,af⟩:=h;cases af;rw[if_pos ad,qd _ (b9 ag)]
theorem Tw {t e:TypeId} {zero:List U} (aM:P.underlying t=some (.slice e)) (aw:ho P e=some zero) {l l' : ap} {x:U} (h:vb zero l x=some l') :wN P (bM l) t x=some (bM l') :=by
 unfold vb at h;unfold wN;rw[aM];cases x<;>(try simp only at h)<;>try (cases h; done)
 case aK=>cases h; rfl
 case b1 z es=>cases es<;>simp only at h<;>cases h; rfl
 case ar z b off len cap sz=>
  simp only;by_cases aF:len=0
  ·rw[if_pos aF] at h ⊢; cases h; rfl
  ·rw[if_neg aF] at h ⊢;rw[aw];cases ag:l[b]? with
   | none=>rw[ag] at h; cases h
   | some c=>
    cases c<;>rw[ag] at h<;>(try simp only at h)<;>try (cases h; done)
    rename_i m cs;rw[mH.2 ag];simp only;rw[hW] at h;obtain⟨ad,rfl⟩:=h;rw[if_pos ad,qd _ (b9 ag)]
theorem OI {t c8 lq:TypeId} (aM:P.underlying t=some (.map c8 lq)) {l l' : ap} {m k x:U} (h:v8 P l c8 m k x=some l') :v7 P (bM l) t m k x=some (bM l') :=by
 unfold v8 at h;unfold v7;rw[aM];cases m<;>(try simp only at h)<;>try (cases h; done)
 rename_i b;simp only[lg];cases ag:l[b]? with
 | none=>rw[ag] at h; cases h
 | some c=>
  cases c<;>rw[ag] at h<;>simp only at h<;>try (cases h; done)
  rename_i es e5;simp only;cases ax:ml P c8 k with
  | false=>rw[ax] at h; cases h
  | true=>
   rw[ax] at h;simp only at h ⊢;cases aI:lr P c8 k es 0 with
   | none=>rw[aI] at h; cases h
   | some r=>
    rw[aI] at h;cases r with
    | none=>cases h; simp only[qd _ (b9 ag)]
    | some v0=>cases h; simp only[qd _ (b9 ag)]
theorem Y7 {t:TypeId} (ad:dZ P t=some false) (h:aW) (p:U) :qT P h t p=(reach h p).bind fun x=>x.1[x.2]?:=by
 unfold qT hz; rw[ad]; cases reach h p<;>rfl
theorem Y8 {t:TypeId} {n:Nat} (ad:dZ P t=some true) (af:cC P t=some n) (h:aW) (p:U) :qT P h t p=(reach h p).bind fun x=>sj n x.1 x.2:=by
 unfold qT hz; rw[ad,af]; cases reach h p<;>rfl
theorem S6 {b:Builtin} {ts:List TypeId} {args:List Operand} {m:dK} (hm:sY P b ts args=some m) {aE:Operand->U} {l l' : ap} {v:U} (h:bO P aE l m=some (v,l')) :
  ob P (bM l) b ts (args.map aE)=some (.val v (bM l')) :=by
 unfold sY at hm;split at hm
 ·rename_i yC;split at hm
  ·rename_i k e aM;cases hm;simp only[bO,ga] at h;obtain⟨af,rfl⟩:=h;unfold DH at af;simp only[akx,alA,ob];cases ai:aE yC<;>rw[ai] at af<;>(try simp only at af)<;>try (cases af; done)
   ·cases af; simp[v5,v6,aM]
   ·rename_i b;cases ag:l'[b]? with
    | none=>rw[ag] at af; cases af
    | some c=>
     cases c<;>rw[ag] at af<;>simp only at af<;>try (cases af; done)
     cases af;simp[v6,aM,lg,ag]
  ·rw[map_some] at hm;obtain⟨ds,ad,rfl⟩:=hm;simp only[bO,ga] at h;obtain⟨af,rfl⟩:=h;have al:=Y3 ad af;have aG:∀ x,v6 P (bM l') _ x=none:=fun x=>by
    unfold nT at ad;unfold v6;split at ad<;>first | (rename_i aM; rw[aM]; done) | (cases ad; done) | skip
    all_goals (rename_i aM; simp only[aM])
   simp only[akx,alA,ob,aG];simp[al]
 ·rw[map_some] at hm;obtain⟨ds,ad,rfl⟩:=hm;simp only[bO,ga] at h;obtain⟨af,rfl⟩:=h;simp[ob,Tj ad af]
 ·rename_i t u s x;simp only[akx,alA,ob];split at hm
  ·rename_i aM;simp only[bind_some] at hm;obtain⟨e,ad,z,af,by_,al,zero,aG,hm⟩:=hm;rw[hW] at hm;obtain⟨⟨a6,bK⟩,rfl⟩:=hm;simp only[bO] at h;unfold qj at h;cases ai:aE x<;>rw[ai] at h<;>(try simp only at h)<;>try (cases h; done)
   rename_i k n;by_cases c9:0<=n/\n<9223372036854775808/\n.toNat*by_<=cF
   ·rw[if_pos c9] at h;rw[aM];simp only[yQ,ad,asInt,af,al,aG];rw[if_pos ⟨a6,c9⟩,Kt bK h]; rfl
   ·rw[if_neg c9] at h; cases h
  ·cases hm
  ·rename_i aD aM;simp only[bind_some] at hm;obtain⟨e,ad,z,af,by_,al,hm⟩:=hm;rw[hW] at hm;obtain⟨bK,rfl⟩:=hm;simp only[bO] at h;unfold fS at h;cases ah:dd l z (aE x) with
   | none=>rw[ah] at h; cases h
   | some p=>
    obtain⟨xs,n⟩:=p;rw[ah] at h;simp only at h;have:wB P (bM l) t (aE s) (aE x)=some (v,bM l') :=by
     simp only[wB,ad,af,al,y6,ah];exact Kt bK h
    rw[this];cases bh:P.underlying u with
    | none=>exact absurd bh aM
    | some d=>
     cases d<;>first | rfl | (rename_i k; exact absurd bh (aD k))
 ·simp only[bind_some,map_some] at hm;obtain⟨e,ad,z,af,rfl⟩:=hm;simp only[bO] at h;simp[ob,TN ad af h]
 ·split at hm
  ·rename_i e aM;rw[map_some] at hm;obtain⟨zero,ad,rfl⟩:=hm;simp only[bO,map_some,Prod.mk.injEq] at h;obtain⟨bt,af,rfl,rfl⟩:=h;simp[ob,Tw aM ad af]
  ·cases hm
 ·cases hm;simp only[bO,ga] at h;obtain⟨af,rfl⟩:=h;simp[ob,af]
 ·cases hm;simp only[bO,ga] at h;obtain⟨af,rfl⟩:=h;simp[ob,af]
 ·cases hm
theorem Iy {t:TypeId} (ad:dZ P t=some false) (cs:List U) (off:Nat) :hz P t cs off=cs[off]?:=by unfold hz; rw[ad]
theorem Pk {t:TypeId} {n:Nat} (ad:dZ P t=some true) (af:cC P t=some n) (cs:List U) (off:Nat) :hz P t cs off=sj n cs off:=by unfold hz; rw[ad,af]; rfl
theorem Ft {s d:TypeId} {x:U} (h:∀ e,P.underlying d=some (.slice e)->False) :wH P s d x=none:=by
 unfold wH;split
 ·rename_i e ak bh ai;exact (h e ai).elim
 ·rfl
theorem DQ {op:Op} {m:dK} (hm:lX P op=some m) {aE:Operand->U} {l l' : ap} {v:U} (h:bO P aE l m=some (v,l')) :cQ P (bM l) aE op=some (.val v (bM l')) :=by
 cases op<;>simp only[lX] at hm<;>try (cases hm; done)
 case move x=>cases hm; simp only[bO,Option.some.injEq,Prod.mk.injEq] at h; obtain⟨rfl,rfl⟩:=h; rfl
 case assign x=>cases hm; simp only[bO,Option.some.injEq,Prod.mk.injEq] at h; obtain⟨rfl,rfl⟩:=h; rfl
 case pick c a b=>
  cases hm; simp only[bO,ga] at h;obtain⟨af,rfl⟩:=h;simp only[cQ];unfold D9 at af;cases ah:aE c<;>rw[ah] at af<;>(try simp only at af)<;>try (cases af; done)
  cases af; rfl
 case alloc t=>
  rw[map_some] at hm;obtain⟨zero,ad,rfl⟩:=hm;simp only[bO,Option.some.injEq,Prod.mk.injEq] at h;obtain⟨rfl,rfl⟩:=h;simp only[cQ,ad,n3]; rfl
 case box t x=>
  cases hm;simp only[bO,map_some,Prod.mk.injEq] at h;obtain⟨cs,ad,rfl,rfl⟩:=h;simp only[cQ,ad,n3]; rfl
 case build t ps=>
  simp only[bind_some,map_some] at hm;obtain⟨zero,ad,q,af,rfl⟩:=hm;simp only[bO,ga,map_some] at h;obtain⟨⟨cs,al,rfl⟩,rfl⟩:=h;simp only[cQ,SQ af aE zero ad al]; rfl
 case buildSlice t n ps=>
  simp only[bind_some] at hm;obtain⟨e,ad,z,af,zero,al,hm⟩:=hm;rw[hW] at hm;obtain⟨aG,rfl⟩:=hm;simp only[bO,map_some,Prod.mk.injEq] at h;obtain⟨cs,a6,rfl,rfl⟩:=h;simp only[cQ,BT,ad,af,al,if_pos aG,a6,n3]; rfl
 case load t a=>
  split at hm
  ·rename_i n ad af;cases hm;simp only[bO,ga] at h;obtain⟨al,rfl⟩:=h;simp only[cQ,Y8 ad af,IW,al]; rfl
  ·rename_i ad;cases hm;simp only[bO,ga] at h;obtain⟨al,rfl⟩:=h;simp only[cQ,Y7 ad,IW,al]; rfl
  ·cases hm
 case store t a x=>
  rw[map_some] at hm;obtain⟨n,ad,rfl⟩:=hm;simp only[bO,map_some,Prod.mk.injEq] at h;obtain⟨bt,af,rfl,rfl⟩:=h;simp only[cQ,acI ad af]; rfl
 case nilCheck x=>
  cases hm;simp only[bO,ga] at h;obtain⟨af,rfl⟩:=h;simp only[cQ];unfold x5 at af;cases ah:aE x<;>rw[ah] at af<;>simp only at af<;>first | (cases af; done) | (cases af; rfl)
 case binOp o t x y u=>
  cases hm;simp only[bO,ga] at h;obtain⟨af,rfl⟩:=h;simp only[cQ,af]; rfl
 case unOp o t x=>
  cases hm;simp only[bO,ga] at h;obtain⟨af,rfl⟩:=h;simp only[cQ,af]; rfl
 case convert s d x=>
  simp only[cQ];split at hm
  ·rename_i hE k ak bh;cases hm;simp only[bO,ga] at h;obtain⟨af,rfl⟩:=h;rw[Ft (fun e ao=>by rw[bh] at ao; cases ao)];unfold yZ at af;cases ai:aE x<;>rw[ai] at af<;>(try simp only at af)<;>try (cases af; done)
   cases af;simp only[ve,ak,bh]; rfl
  ·rename_i e ak bh;split at hm
   ·rename_i ao;cases hm;simp only[bO,ga] at h;obtain⟨af,rfl⟩:=h;rw[Ft (fun e ao=>by rw[bh] at ao; cases ao)];have:ve P (bM l') s d (aE x)=some v:=by
     rw[<-af];unfold ve va;rw[ak,bh];cases ai:aE x<;>(simp only[ao,y6])<;>(try rfl)<;>(rw[ai] at af; unfold va at af; simp only at af)
     ·cases af
     all_goals (cases ah:dd l' 1 _<;>rfl)
    rw[this]; rfl
   ·cases hm
  ·rename_i ak bh;cases hm;simp only[bO,ga] at h;obtain⟨af,rfl⟩:=h;rw[Ft (fun e ao=>by rw[bh] at ao; cases ao)];unfold FC at af;cases ai:aE x<;>rw[ai] at af<;>(try simp only at af)<;>try (cases af; done)
   cases af;simp only[ve,ak,bh]; rfl
  ·rename_i e ak bh;split at hm
   ·rename_i ao;cases hm;simp only[bO,ga] at h;obtain⟨af,rfl⟩:=h;unfold vf at af;cases ai:aE x<;>rw[ai] at af<;>(try simp only at af)<;>try (cases af; done)
    cases af;simp only[wH,ak,bh,ao]
   ·cases hm
  ·cases hm
 case makeInterface t x=>
  split at hm
  ·cases hm
  ·cases hm
  ·rename_i ad af;cases hm;simp only[bO,Option.some.injEq,Prod.mk.injEq] at h;obtain⟨rfl,rfl⟩:=h;simp only[cQ]
 case typeAssert x JX t ok=>
  rw[map_some] at hm;obtain⟨z,aw,rfl⟩:=hm;simp only[bO,ga] at h;obtain⟨af,rfl⟩:=h;simp only[cQ,aw,af,akg]
 case makeFunc f a b=>
  cases f<;>simp only at hm<;>try (cases hm; done)
  cases hm;simp only[bO,Option.some.injEq,Prod.mk.injEq] at h;obtain⟨rfl,rfl⟩:=h;rfl
 case makeSlice t a c=>
  simp only[bind_some] at hm;obtain⟨e,ad,z,af,by_,al,zero,aG,hm⟩:=hm;rw[hW] at hm;obtain⟨a6,rfl⟩:=hm;simp only[bO] at h;unfold sb at h;cases aC:aE a<;>rw[aC] at h<;>(try simp only at h)<;>try (cases h; done)
  cases ah:aE c<;>rw[ah] at h<;>(try simp only at h)<;>try (cases h; done)
  rw[hW] at h;obtain⟨bK,c9⟩:=h;cases c9;simp only[cQ,aC,ah,DL,ad,asInt,af,al,aG,if_pos (And.intro a6 bK),n3]; rfl
 case slice t x cE aB cB=>
  rw[map_some] at hm;obtain⟨ds,ad,rfl⟩:=hm;simp only[bO,ga] at h;obtain⟨af,rfl⟩:=h;rw[acq ad] at af;simp only[cQ,af]; rfl
 case fieldAddr s x f=>
  rw[bind_some] at hm;obtain⟨fd,ad,hm⟩:=hm;split at hm
  ·rename_i n af;cases hm;simp only[bO,ga] at h;obtain⟨al,rfl⟩:=h;simp only[cQ,Cd,ad,af,al]; rfl
  ·cases hm
 case field t x f=>
  rw[bind_some] at hm;obtain⟨fd,ad,hm⟩:=hm;split at hm
  ·rename_i n af al;cases hm;simp only[bO,ga] at h;obtain⟨aG,rfl⟩:=h;unfold zk at aG;cases ai:aE x<;>rw[ai] at aG<;>(try simp only at aG)<;>try (cases aG; done)
   simp only[cQ,ai,ad,Pk af al,aG]; rfl
  ·rename_i af;cases hm;simp only[bO,ga] at h;obtain⟨aG,rfl⟩:=h;unfold Ci at aG;cases ai:aE x<;>rw[ai] at aG<;>(try simp only at aG)<;>try (cases aG; done)
   simp only[cQ,ai,ad,Iy af,aG]; rfl
  ·cases hm
 case indexAddr t x i=>
  split at hm
  ·rename_i n z ad;cases hm;simp only[bO,ga] at h;obtain⟨af,rfl⟩:=h;simp only[cQ,Oe ad af]; rfl
  ·rename_i z ad;cases hm;simp only[bO,ga] at h;obtain⟨af,rfl⟩:=h;simp only[cQ,Oe ad af]; rfl
  ·cases hm
 case index t x i=>
  split at hm
  ·rename_i n e aM;split at hm
   ·rename_i z ad af;cases hm;simp only[bO,ga] at h;obtain⟨al,rfl⟩:=h;unfold DA at al;cases ai:aE x<;>rw[ai] at al<;>(try simp only at al)<;>try (cases al; done)
    cases aB:aE i<;>rw[aB] at al<;>(try simp only at al)<;>try (cases al; done)
    simp only[cQ,xW,ai,aB,aM,asInt,ad,Pk af ad,al]; rfl
   ·rename_i z ad af;cases hm;simp only[bO,ga] at h;obtain⟨al,rfl⟩:=h;unfold Dz at al;cases ai:aE x<;>rw[ai] at al<;>(try simp only at al)<;>try (cases al; done)
    cases aB:aE i<;>rw[aB] at al<;>(try simp only at al)<;>try (cases al; done)
    simp only[cQ,xW,ai,aB,aM,asInt,ad,Iy af,al]; rfl
   ·cases hm
  ·rename_i aM;cases hm;simp only[bO,ga] at h;obtain⟨al,rfl⟩:=h;unfold xX at al;cases ai:aE x<;>rw[ai] at al<;>(try simp only at al)<;>try (cases al; done)
   cases aB:aE i<;>rw[aB] at al<;>(try simp only at al)<;>try (cases al; done)
   simp only[cQ,xW,ai,aB,aM,asInt,al]; rfl
  ·cases hm
 case extract x i=>
  cases hm;simp only[bO,ga] at h;obtain⟨af,rfl⟩:=h;unfold Cb at af;cases ai:aE x<;>rw[ai] at af<;>(try simp only at af)<;>try (cases af; done)
  simp only[cQ,ai,af]; rfl
 case call c=>
  split at hm
  ·rename_i b ag;simp only[cQ,sR,ag];exact S6 hm h
  ·rename_i f aI;split at hm
   ·rename_i fn x y jw CA;rw[hW] at hm;obtain⟨aB,rfl⟩:=hm;simp only[bO] at h;split at h
    case h_2=>cases h
    rename_i CS;rw[ga] at h;obtain⟨af,rfl⟩:=h;unfold cmpL at af;have fu:∀ x,sQ (bM l') x=pe l' x:=fun x=>by
     cases x<;>simp only[sQ,pe,y6]<;>rfl
    have rR:¬(fn.body.isSome=true/\fn.name≠ "runtime.NumGoroutine") :=by
     rintro⟨a,_⟩;unfold Av at aB;simp only[akh] at aB;rw[am2.1 aB.1.1] at a; cases a
    have Wj:aE (.func f)=.fn f [] [] :=by
     unfold Dw at CS;split at CS
     ·rename_i g aA; rw[aA,alh CS]
     ·cases CS
    simp only[cQ,sR,aI,Wj,jw,if_neg rR,if_pos aB,CA,akx,alA,ald,akQ,y5,fu];cases aC:pe l' (aE x) with
    | none=>rw[aC] at af; cases af
    | some a=>
     cases ag:pe l' (aE y) with
     | none=>rw[aC,ag] at af; cases af
     | some b=>rw[aC,ag] at af; cases af; rfl
   ·cases hm
  ·cases hm
 case panic x=>cases hm; cases h
 case makeMap t r=>
  split at hm
  ·rename_i k e aM;cases hm;simp only[bO] at h;cases r with
   | none=>cases h; simp[cQ,aM,n3]
   | some x=>
    simp only at h;cases ai:asInt (aE x) with
    | none=>rw[ai] at h; cases h
    | some n=>rw[ai] at h; cases h; simp[cQ,aM,ai,n3]
  ·cases hm
 case lookup t m k ok=>
  split at hm
  ·rename_i c8 lq aM;rw[map_some] at hm;obtain⟨z,aw,rfl⟩:=hm;simp only[bO,ga] at h;obtain⟨af,rfl⟩:=h;have G1:∀ x,mapOf (bM l') x=tO l' x:=fun x=>by
    cases x<;>try rfl
    rename_i b;simp only[mapOf,tO,lg];cases l'[b]? with
    | none=>rfl
    | some c=>cases c<;>rfl
   unfold AH at af;simp only[cQ,DJ,aM,G1];cases mX:tO l' (aE m) with
   | none=>rw[mX] at af; cases af
   | some es=>
    rw[mX] at af;simp only at af ⊢;cases ax:ml P c8 (aE k) with
    | false=>rw[ax] at af; cases af
    | true=>
     rw[ax] at af;simp only at af ⊢;cases aI:lr P c8 (aE k) es 0 with
     | none=>rw[aI] at af; cases af
     | some r=>
      rw[aI] at af;cases r with
      | none=>cases af; simp[aw]
      | some v0=>cases af; rfl
  ·cases hm
 case mapUpdate t m k x=>
  split at hm
  ·rename_i c8 lq aM;cases hm;simp only[bO,map_some] at h;obtain⟨bt,af,al⟩:=h;cases al;simp only[cQ,OI aM af]; rfl
  ·cases hm
 case insert t m k x=>
  split at hm
  ·rename_i c8 lq aM;cases hm;simp only[bO,map_some] at h;obtain⟨bt,af,al⟩:=h;cases al;simp only[cQ,OI aM af]; rfl
  ·cases hm
 case range t x=>
  split at hm
  ·rename_i aM;cases hm;simp only[bO] at h;unfold A6 at h;cases ai:aE x<;>rw[ai] at h<;>(try simp only at h)<;>try (cases h; done)
   cases h;simp[cQ,Ee,aM,ai,n3]
  ·cases hm
 case next it b=>
  cases b with
  | false=>cases hm
  | true=>
   cases hm;simp only[bO] at h;unfold tT at h;simp only[cQ,DS];cases ai:aE it<;>rw[ai] at h<;>(try simp only at h)<;>try (cases h; done)
   rename_i b;simp only[lg];cases ag:l[b]? with
   | none=>rw[ag] at h; cases h
   | some c=>
    cases c<;>rw[ag] at h<;>simp only at h<;>try (cases h; done)
    simp only;split at h
    ·rename_i aO; cases h; rw[aO]; simp only[akg,qd _ (b9 ag)]
    ·rename_i aO; cases h; rw[aO]; rfl
end
abbrev a7:=Nat->U
abbrev g9:=sD->a7->ap->Prop
class J6 (α:Type) where
 k:α->Prop
class yI where
 p:Prop
 q:Prop
class rh where
 k:U->ap->Prop
class EU where
 k:g9
def W {α:Type} (o:Option α) [c:J6 α] :Prop:=match o with | some v=>c.k v | none=>False
def qQ (b:Bool) [c:yI] :Prop:=match b with | true=>c.p | false=>c.q
def Az (x:U) [c:yI] :Prop:=match x with | .bool b=>qQ b (c:=c) | _=>False
def qO (x:U) (w:Bool) [c:yI] :Prop:=match x with | .bool b=>qQ (b == w) (c:=c) | .bad=>False | _=>c.q
inductive uQ where
 | hj (m:dK)
 | ni (f:FuncId) (args:List Operand)
 | nj (x:Operand) (args:List Operand)
 | oc (x:Operand) (name:String) (args:List Operand)
structure ei where
 i:Nat
 dst:Option Tmp
 g:Option (Option Tmp × Bool)
 b:uQ
 hp:List Nat
 cc:Bool
inductive hM where
 | skip
 | ret
 | exit (id:Nat)
 | yh (s:List ei)
 | zd (s:List ei)
 | seq (a b:hM)
 | cond (c:Operand) (x y:hM)
 | block (id:Nat) (c:hM)
 | loop (c:hM)
section
variable (P:Program) (G:Nat->U)
def j2 (f:FuncId) :Bool:=match P.funcs[f]? with | some fn=>fn.body.isSome&&fn.name != "runtime.NumGoroutine" | none=>false
def dg (f:FuncId) (args:List U) (l:ap) [c:rh] :Prop:=∃ r l',dh P G (.call f args (bM l) r (bM l'))/\l.length<=l'.length/\c.k r l'
def wK (x:U) (args:List U) (l:ap) [c:rh] :Prop:=match x with
 | .fn g first gq=>j2 P g=true/\dg P G g (first++args++gq) l (c:=c)
 | _=>False
def wJ (name:String) (x:U) (args:List U) (l:ap) [c:rh] :Prop:=match x with
 | .hi t v=>match x2 P t name with
  | some g=>j2 P g=true/\dg P G g (v::args) l (c:=c)
  | none=>False
 | _=>False
def cM (v:U) (l:ap) [c:rh] :Prop:=c.k v l\/∃ bP bt,lT (bM l) (bM bt)/\lQ (bM l) (bM bt) v bP/\c.k bP bt
def eg (m:dK) (v:U) (l:ap) (K:U->ap->Prop) :Prop:=match m with
 | .app ..=>cM v l (c:=⟨K⟩)
 | _=>K v l
def hJ (b:uQ) (ae:a7) (l:ap) (K:U->ap->Prop) :Prop:=match b with
 | .hj m=>W (bO P (dv G ae) l m) (c:=⟨fun x=>eg m x.1 x.2 K⟩)
 | .ni f args=>dg P G f (args.map (dv G ae)) l (c:=⟨K⟩)
 | .nj x args=>wK P G (dv G ae x) (args.map (dv G ae)) l (c:=⟨K⟩)
 | .oc x name args=>wJ P G name (dv G ae x) (args.map (dv G ae)) l (c:=⟨K⟩)
def qP (ae:a7) (g:Option (Option Tmp × Bool)) (p q:Prop) :Prop:=match g with
 | none=>p
 | some (some d,w)=>qO (ae d) w (c:=⟨p,q⟩)
 | some (none,_)=>q
def jR:List ei->a7->ap->(a7->ap->Prop)->Prop
 | [],ae,l,K=>K ae l
 | s::r,ae,l,K=>qP ae s.g (hJ P G s.b ae l fun v l'=>jR r (hn ae s.dst v) l' K) (jR r (hn ae s.dst ie) l K)
abbrev iI:=List (Nat × (ap->Prop))
def qo (ids:List Nat) :iI->ap->Prop
 | [],_=>True
 | e::r,l=>(ids.contains e.1=true->e.2 l)/\qo ids r l
def dK.ki:dK->Bool
 | .alloc _ | .box _ | .sP .. | .tR ..=>true
 | _=>false
def mB (b:uQ) (ae:a7) (v:U) (l l' l1:ap) :Prop:=match b with
 | .hj m=>match m.ki with
  | true=>l1[l.length]? = l'[l.length]?
  | false=>bO P (dv G ae) l1 m=some (v,l1)
 | _=>True
def q7 (cc:Bool) (i:Nat) (p:ap->Prop) (s:iI) :iI:=match cc with | true=>(i,p) ::s | false=>s
def kp:List ei->a7->ap->iI->(a7->ap->Prop)->Prop
 | [],ae,l,_,K=>K ae l
 | s::r,ae,l,seen,K=>qP ae s.g (hJ P G s.b ae l fun v l'=>qo s.hp seen l'/\kp r (hn ae s.dst v) l' (q7 s.cc s.i (mB P G s.b ae v l l') seen) K) (kp r (hn ae s.dst ie) l seen K)
def oP (k:a7->ap->Prop) (K:g9) :g9:=fun e ae l=>match e with
 | .normal=>k ae l
 | .exit id=>K (.exit id) ae l
 | .ret=>K .ret ae l
def tJ (id:Nat) (K:g9) :g9:=fun e ae l=>match e with
 | .normal=>K .normal ae l
 | .exit xU=>match Nat.beq xU id with | true=>K .normal ae l | false=>K (.exit xU) ae l
 | .ret=>K .ret ae l
def x0 (r:a7->ap->g9->Prop) :Nat->a7->ap->g9->Prop
 | 0=>fun _ _ _=>False
 | n+1=>fun ae l K=>r ae l (oP (fun ae l=>x0 r n ae l K) K)
def BA (r:a7->ap->g9->Prop) (ae:a7) (l:ap) [c:EU] :Prop:=∃ n,x0 r n ae l c.k
def run:hM->a7->ap->g9->Prop
 | .skip,ae,l,K=>K .normal ae l
 | .ret,ae,l,K=>K .ret ae l
 | .exit id,ae,l,K=>K (.exit id) ae l
 | .yh s,ae,l,K=>jR P G s ae l (K .normal)
 | .zd s,ae,l,K=>kp P G s ae l [] (K .normal)
 | .seq a b,ae,l,K=>run a ae l (oP (fun ae l=>run b ae l K) K)
 | .cond c x y,ae,l,K=>Az (dv G ae c) (c:=⟨run x ae l K,run y ae l K⟩)
 | .block id c,ae,l,K=>run c ae l (tJ id K)
 | .loop c,ae,l,K=>BA (run c) ae l (c:=⟨K⟩)
def Bh (ops:Array Oper) (i:Nat) (hp:List Nat) (cc:Bool) :Option ei:=(ops[i]?).bind fun o=>
 let g:=o.guard.map fun fm=>((ops[fm.1]?).bind (·.dst),fm.2)
 match lX P o.op with
 | some m=>some ⟨i,o.dst,g,.hj m,hp,cc⟩
 | none=>match o.op with
  | .call c=>match c.callee with
   | .value (.func f)=>match j2 P f with
    | true=>some ⟨i,o.dst,g,.ni f c.args.toList,hp,cc⟩
    | false=>none
   | .value x=>some ⟨i,o.dst,g,.nj x c.args.toList,hp,cc⟩
   | .invoke x name=>some ⟨i,o.dst,g,.oc x name c.args.toList,hp,cc⟩
   | _=>none
  | _=>none
def ra:Op->Bool
 | .load .. | .convert .. | .alloc _ | .box .. | .buildSlice .. | .makeSlice ..=>true
 | .call c=>match c.callee,c.argTypes.toList with
  | .builtin .len,[t]=>match P.underlying t with | some (.map _ _)=>true | _=>false
  | _,_=>false
 | _=>false
def Tr (ms:List Nat) (ops:Array Oper) (done j1:List Nat) :List Nat:=
 done.filter fun j=>(match ops[j]? with | some o=>ra P o.op | none=>false)&&j1.all fun e=>!nL ms e j
def m8 (ms:List Nat) (ops:Array Oper) :List Nat->List Nat->List Nat->List (Nat × List Nat)
 | [],_,_=>[]
 | i::r,done,j1=>match ops[i]? with
  | none=>[]
  | some o=>match jG o.op with
   | true=>(i,Tr P ms ops done (i::j1)) ::m8 ms ops r (i::done) (match o.guard with | none=>i::j1 | some _=>j1)
   | false=>(i,[]) ::m8 ms ops r (i::done) j1
def ze (ms:List Nat) (ops:Array Oper) :List Nat->Bool
 | []=>true
 | i::r=>(match ops[i]? with | some o=>!jG o.op||r.all fun j=>nL ms j i | none=>false)&&ze ms ops r
def FB (N:Nat) (ops:Array Oper) (draw:Bool) :Option hM:=
 match ops.toList.all fun o=>oj N o.dst with
 | false=>none
 | true=>match draw with
  | false=>((List.range ops.size).mapM fun i=>Bh P ops i [] false).map .yh
  | true=>
   let ms:=h9 ops
   let ord:=e9 ms ops
   match Iw ms ops ord&&ze ms ops ord with
   | false=>none
   | true=>
    let Pp:=m8 P ms ops ord [] []
    let ask:=Pp.flatMap (·.2)
    match Pp.mapM fun p=>Bh P ops p.1 p.2 (ask.contains p.1) with
    | none=>none
    | some s=>match ask with
     | []=>some (.yh s)
     | _=>some (.zd s)
def comp (N:Nat) :Code->Option hM
 | .skip=>some .skip
 | .label _=>some .skip
 | .ret=>some .ret
 | .exit id=>some (.exit id)
 | .region _ ops draw=>FB P N ops draw
 | .seq a b=>match comp N a,comp N b with
  | some .skip,some b=>some b
  | some a,some .skip=>some a
  | some a,some b=>some (.seq a b)
  | _,_=>none
 | .cond c x y=>match comp N x,comp N y with
  | some x,some y=>some (.cond c x y)
  | _,_=>none
 | .block id c=>(comp N c).map (.block id)
 | .loop c=>(comp N c).map .loop
 | .scope c=>comp N c
 | _=>none
def B2 (f:FuncId) :Option hM:=match P.funcs[f]? with
 | some fn=>match fn.body with
  | some c=>comp P fn.ntmps c
  | none=>none
 | none=>none
end

section
variable {P:Program} {G:Nat->U}
theorem Ks {l l' : ap} {z by_ n:Nat} {s v:U} {xs:List U} (h:i8 l z by_ s xs n=some (v,l')) :l.length<=l'.length:=by
 unfold i8 at h
 repeat' split at h
 all_goals first | (cases h; done) | (cases h; simp)
theorem OQ {aE:Operand->U} {l l' : ap} {m:dK} {v:U} (h:bO P aE l m=some (v,l')) :l.length<=l'.length:=by
 cases m<;>simp only[bO,ga,map_some,Option.some.injEq,Prod.mk.injEq] at h
 case k8=>obtain⟨_,rfl⟩:=h; exact akb _
 case alloc=>obtain⟨_,rfl⟩:=h; simp
 case box=>obtain⟨_,_,_,rfl⟩:=h; simp
 case sP=>obtain⟨_,_,_,rfl⟩:=h; simp
 case st n a x=>
  obtain⟨_,h,_,rfl⟩:=h;unfold ld at h
  repeat' split at h
  all_goals first | (cases h; done) | (cases h; simp)
 case AL=>obtain⟨_,rfl⟩:=h; exact akb _
 case AK=>obtain⟨_,rfl⟩:=h; exact akb _
 case tR=>
  unfold sb at h
  repeat' split at h
  all_goals first | (cases h; done) | (cases h; simp)
 case app=>
  unfold fS at h;split at h
  ·cases h
  ·exact Ks h
 case wA=>
  unfold qj at h
  repeat' split at h
  all_goals first | (cases h; done) | exact Ks h
 case wU=>
  unfold y7 at h
  repeat' split at h
  all_goals first | (cases h; done) | (cases h; simp)
 case wQ=>
  obtain⟨_,h,_,rfl⟩:=h;unfold vb at h
  repeat' split at h
  all_goals first | (cases h; done) | (cases h; simp)
 case stop=>cases h
 case wb x=>
  cases x with
  | none=>cases h; simp
  | some o=>
   simp only at h;split at h
   ·cases h; simp
   ·cases h
 case x4=>
  obtain⟨_,h,_,rfl⟩:=h;unfold v8 at h
  repeat' split at h
  all_goals first | (cases h; done) | (cases h; simp)
 case yk=>
  unfold A6 at h
  repeat' split at h
  all_goals first | (cases h; done) | (cases h; simp)
 case x7=>
  unfold tT at h
  repeat' split at h
  all_goals first | (cases h; done) | (cases h; simp)
 case b6=>
  split at h
  ·rw[ga] at h; obtain⟨_,rfl⟩:=h; exact akb _
  ·cases h
 all_goals (obtain⟨_,rfl⟩:=h; exact akb _)
theorem BD {α:Type} {o:Option α} {c:J6 α}:W o (c:=c)<->∃ v,o=some v/\c.k v:=by
 unfold W; cases o<;>simp
theorem AB {b:Bool} {c:yI}:qQ b (c:=c)<->(b=true/\c.p)\/(b=false/\c.q) :=by cases b<;>simp[qQ]
structure n5 (P:Program) (ops:Array Oper) (s:ei) (o:Oper) :Prop where
 here:ops[s.i]? = some o
 dst:s.dst=o.dst
 g:s.g=o.guard.map fun fm=>((ops[fm.1]?).bind (·.dst),fm.2)
 hj:∀ m,s.b=.hj m->lX P o.op=some m
 ni:∀ f args,s.b=.ni f args->∃ c:Call,o.op=.call c/\c.callee=.value (.func f)/\c.args.toList=args/\j2 P f=true
 nj:∀ x args,s.b=.nj x args->∃ c:Call,o.op=.call c/\c.callee=.value x/\c.args.toList=args
 oc:∀ x name args,s.b=.oc x name args->∃ c:Call,o.op=.call c/\c.callee=.invoke x name/\c.args.toList=args
theorem Ew {ops:Array Oper} {i:Nat} {hp:List Nat} {cc:Bool} {s:ei} (h:Bh P ops i hp cc=some s) :∃ o,n5 P ops s o/\s.i=i/\s.hp=hp/\s.cc=cc:=by
 unfold Bh at h;rw[bind_some] at h;obtain⟨o,au,h⟩:=h;refine⟨o,?_⟩;simp only at h;split at h
 ·rename_i m hm;cases h;exact⟨⟨au,rfl,rfl,fun ck h=>(by cases h; exact hm),fun f a h=>(by cases h),fun x a h=>(by cases h),fun x n a h=>(by cases h)⟩,rfl,rfl,rfl⟩
 ·split at h
  ·rename_i c hT;split at h
   ·rename_i f ah;split at h
    ·rename_i aI;cases h;exact⟨⟨au,rfl,rfl,fun ck h=>(by cases h),fun f a h=>(by cases h; exact⟨c,hT,ah,rfl,aI⟩),fun x a h=>(by cases h),fun x n a h=>(by cases h)⟩,rfl,rfl,rfl⟩
    ·cases h
   ·rename_i x ai ah;cases h;exact⟨⟨au,rfl,rfl,fun ck h=>(by cases h),fun f a h=>(by cases h),fun x a h=>(by cases h; exact⟨c,hT,ah,rfl⟩),fun x n a h=>(by cases h)⟩,rfl,rfl,rfl⟩
   ·rename_i x name ah;cases h;exact⟨⟨au,rfl,rfl,fun ck h=>(by cases h),fun f a h=>(by cases h),fun x a h=>(by cases h),fun x n a h=>by cases h; exact⟨c,hT,ah,rfl⟩⟩,rfl,rfl,rfl⟩
   ·cases h
  ·cases h
theorem LQ {g:FuncId} (aI:j2 P g=true) {h:aW} {aE:Operand->U} {c:Call} {x:Operand} {first gq:List U} (ah:c.callee=.value x) (ai:aE x=.fn g first gq) :
  cQ P h aE (.call c)=some (.call g (first++c.args.toList.map aE++gq) h) :=by
 unfold j2 at aI;simp only[cQ,sR,ah,ai];cases jw:P.funcs[g]? with
 | none=>rw[jw] at aI; cases aI
 | some fn=>
  rw[jw] at aI;simp only[akh,bne_iff_ne] at aI;simp only;rw[if_pos aI]
theorem UU {g:FuncId} (aI:j2 P g=true) {h:aW} {aE:Operand->U} {c:Call} {x:Operand} {name:String} {t:TypeId} {v:U} (ah:c.callee=.invoke x name) (ai:aE x=.hi t v) (hm:x2 P t name=some g) :
  cQ P h aE (.call c)=some (.call g (v::c.args.toList.map aE) h) :=by
 unfold j2 at aI;simp only[cQ,sR,ah,ai,hm];cases jw:P.funcs[g]? with
 | none=>rw[jw] at aI; cases aI
 | some fn=>
  rw[jw] at aI;simp only[akh,bne_iff_ne] at aI;simp only;rw[if_pos aI]
def dK.looks:dK->Bool
 | .alloc _ | .box _ | .sP .. | .tR .. | .st .. | .app .. | .wA .. | .wU .. | .wQ .. | .wb _ | .AG .. | .x4 .. | .yk _ | .x7 _ | .b6 .. | .Bj .. | .stop=>false
 | _=>true
theorem YH {m:dK} {v:U} {l:ap} {K:U->ap->Prop} (h:eg m v l K) :K v l\/(m.looks=false/\m.ki=false/\∃ bP bt,lT (bM l) (bM bt)/\lQ (bM l) (bM bt) v bP/\K bP bt) :=by
 cases m<;>first | exact .inl h | skip
 rcases h with h | h
 ·exact .inl h
 ·exact .inr ⟨rfl,rfl,h⟩
theorem Ow {m:dK} {v:U} {l:ap} {K gn:U->ap->Prop} (bj:∀ v l,K v l->gn v l) (h:eg m v l K) :eg m v l gn:=by
 cases m<;>first | exact bj _ _ h | skip
 rcases h with h | ⟨bP,bt,ad,af,al⟩
 ·exact .inl (bj _ _ h)
 ·exact .inr ⟨bP,bt,ad,af,bj _ _ al⟩
theorem QX {ops:Array Oper} {s:ei} {o:Oper} (ok:n5 P ops s o) {ae:a7} {l:ap} {K:U->ap->Prop} (h:hJ P G s.b ae l K) :
  ∃ v l',dh P G (.op o.op ae (bM l) v (bM l'))/\l.length<=l'.length/\K v l'/\∀ m,s.b=.hj m->(m.looks=true\/m.ki=true)->bO P (dv G ae) l m=some (v,l') :=by
 cases ag:s.b with
 | hj m=>
  rw[ag] at h;simp only[hJ,BD] at h;obtain⟨⟨v,l'⟩,ad,af⟩:=h;have ao:=dh.D3 (G:=G) (DQ (ok.hj m ag) ad);rcases YH af with af | ⟨hk,jL,bP,bt,b4,cx,eB⟩
  ·exact⟨v,l',ao,OQ ad,af,fun ck hm _=>by cases hm; exact ad⟩
  ·refine⟨bP,bt,.EL ao b4 cx,akV (OQ ad) (Nat.le_of_eq b4.n.symm),eB,fun ck hm am=>?_⟩;cases hm;rw[hk,jL] at am;rcases am with h | h<;>cases h
 | ni f args=>
  rw[ag] at h;obtain⟨r,l',ad,af,al⟩:=h;obtain⟨c,hT,ah,aC,aI⟩:=ok.ni f args ag;refine⟨r,l',?_,af,al,fun ck hm _=>by cases hm⟩;rw[hT];refine .ya (LQ aI ah rfl) ?_;simpa [aC] using ad
 | nj x args=>
  rw[ag] at h;simp only[hJ] at h;obtain⟨c,hT,ah,aC⟩:=ok.nj x args ag;unfold wK at h;split at h
  ·rename_i g first gq ai
   obtain⟨aI,r,l',ad,af,al⟩:=h;refine⟨r,l',?_,af,al,fun ck hm _=>by cases hm⟩;rw[hT];refine .ya (LQ aI ah ai) ?_;rw[aC]; exact ad
  ·cases h
 | oc x name args=>
  rw[ag] at h;simp only[hJ] at h;obtain⟨c,hT,ah,aC⟩:=ok.oc x name args ag;unfold wJ at h;split at h
  ·rename_i t v ai;split at h
   ·rename_i g hm;obtain⟨aI,r,l',ad,af,al⟩:=h;refine⟨r,l',?_,af,al,fun ck hm _=>by cases hm⟩;rw[hT];refine .ya (UU aI ah ai hm) ?_;rw[aC]; exact ad
   ·cases h
  ·cases h
theorem Ot {ops:Array Oper} {s:ei} {o:Oper} (ok:n5 P ops s o) {ae:a7} {p q:Prop} (h:qP ae s.g p q) :(jV ops ae o=some true/\p)\/(jV ops ae o=some false/\q) :=by
 rw[ok.g] at h;unfold jV;cases aA:o.guard with
 | none=>rw[aA] at h; exact .inl ⟨rfl,h⟩
 | some fm=>
  obtain⟨j,w⟩:=fm;rw[aA] at h;simp only[akg] at h ⊢;cases bh:(ops[j]?).bind (·.dst) with
  | none=>rw[bh] at h; exact .inr ⟨rfl,h⟩
  | some d=>
   rw[bh] at h;simp only[qP,qO] at h ⊢;cases ak:ae d<;>rw[ak] at h<;>simp only at h ⊢<;>first | exact .inr ⟨trivial,h⟩ | (cases h; done) | skip
   rw[AB] at h;rcases h with ⟨ad,af⟩ | ⟨ad,af⟩
   ·exact .inl ⟨by rw[ad],af⟩
   ·exact .inr ⟨by rw[ad],af⟩
inductive wx (P:Program) (ops:Array Oper) :List ei->List Oper->Prop
 | nil:wx P ops [] []
 | cons {s o QT os}:n5 P ops s o->wx P ops QT os->wx P ops (s::QT) (o::os)
theorem I6 {ops:Array Oper} {N:Nat} (fC:∀ (i:Nat) (o:Oper),ops[i]? = some o->oj N o.dst=true) {K:a7->ap->Prop}:∀ {s:List ei} {os:List Oper} {ae:a7} {l:ap},
  wx P ops s os->jR P G s ae l K->∃ bS l',dh P G (.ops ops os N ae (bM l) bS (bM l'))/\l.length<=l'.length/\K bS l'
 | [],_,ae,l,aI,h=>by cases aI; exact⟨ae,l,.O8,akb _,h⟩
 | s::r,_,ae,l,aI,h=>by
  cases aI with
  | cons ok aI=>
   rename_i o os;rcases Ot ok h with ⟨aV,h⟩ | ⟨aV,h⟩
   ·obtain⟨v,l1,ad,af,al,_⟩:=QX ok h;obtain⟨bS,l',aG,a6,bK⟩:=I6 fC aI al;exact⟨bS,l',.O9 aV (fC _ _ ok.here) ad (by rw[<-ok.dst]; exact aG),akV af a6,bK⟩
   ·obtain⟨bS,l',aG,a6,bK⟩:=I6 fC aI h;exact⟨bS,l',.Pa aV (fC _ _ ok.here) (by rw[<-ok.dst]; exact aG),a6,bK⟩
theorem P9 {l x:ap} {p:U} {y:List U × Nat} (h:gW l p=some y) :gW (l++x) p=some y:=by
 cases p<;>first | exact h | skip
 rename_i b off sz;simp only[gW] at h ⊢;cases ag:l[b]? with
 | none=>rw[ag] at h; cases h
 | some c=>rw[ag] at h; rw[aj8 (b9 ag),ag]; exact h
theorem TL {l x:ap} {z:Nat} {p:U} {y:List U × Nat} (h:dd l z p=some y) :dd (l++x) z p=some y:=by
 cases p<;>first | exact h | skip
 rename_i dG b off len cap sz;simp only[dd] at h ⊢;cases ag:l[b]? with
 | none=>rw[ag] at h; cases h
 | some c=>rw[ag] at h; rw[aj8 (b9 ag),ag]; exact h
theorem Tn {l x:ap} {p v:U} (h:va l p=some v) :va (l++x) p=some v:=by
 unfold va at h ⊢;cases p<;>simp only at h ⊢<;>first | exact h | skip
 all_goals
  split at h
  ·rename_i cs n ah;rw[TL ah]; exact h
  ·cases h
def dK.reads:dK->Bool
 | .v3 _ | .v4 .. | .u9 _ | .xZ _=>true
 | _=>false
theorem Zc {aE:Operand->U} {l l' : ap} {m:dK} {v:U} (hm:m.looks=true) (h:bO P aE l m=some (v,l')) :l'=l:=by
 cases m<;>simp only[dK.looks,Bool.true_eq,ala,reduceCtorEq] at hm<;>simp only[bO,ga,Option.some.injEq,Prod.mk.injEq] at h<;>first | exact h.2 | exact h.2.symm
theorem Za {aE:Operand->U} {l x:ap} {m:dK} {v:U} (hm:m.looks=true) (h:bO P aE l m=some (v,l)) :bO P aE (l++x) m=some (v,l++x) :=by
 cases m<;>simp only[dK.looks,Bool.true_eq,ala,reduceCtorEq] at hm<;>simp only[bO,ga,Option.some.injEq,Prod.mk.injEq,and_true] at h ⊢<;>try exact h
 case v3 a=>
  rw[bind_some] at h ⊢;obtain⟨y,ad,af⟩:=h;exact⟨y,P9 ad,af⟩
 case v4 n a=>
  rw[bind_some] at h ⊢;obtain⟨y,ad,af⟩:=h;exact⟨y,P9 ad,af⟩
 case u9 x=>exact Tn h
 case xZ y=>
  unfold DH at h ⊢;cases ai:aE y<;>rw[ai] at h<;>(try simp only at h)<;>try (cases h; done)
  ·exact h
  ·rename_i b;cases ag:l[b]? with
   | none=>rw[ag] at h; cases h
   | some c=>simp only[aj8 (b9 ag)]; exact h
theorem Zb {aE:Operand->U} {l bt:ap} {m:dK} {v:U} (hm:m.looks=true) (ay:m.reads=false) (h:bO P aE l m=some (v,l)) :bO P aE bt m=some (v,bt) :=by
 cases m<;>simp only[dK.looks,Bool.true_eq,ala,reduceCtorEq] at hm<;>simp only[dK.reads,reduceCtorEq] at ay<;>simp only[bO,ga,Option.some.injEq,Prod.mk.injEq,and_true] at h ⊢<;>exact h
theorem IZ (zero:List U) :∀ n,(dz zero n).length=n*zero.length
 | 0=>by simp[dz]
 | n+1=>by rw[dz,akf,IZ zero n,akK,am4]
theorem acz {cs vs:List U} {off:Nat} (h:off+vs.length<=cs.length) :(bi cs off vs).length=cs.length:=by
 simp only[bi,akf,akB,alk]; omega
theorem LA {ko:Nat->Option (Nat × Nat)}:∀ {ps:List (Nat × U)} {zero cs:List U},ht ko zero ps=some cs->cs.length=zero.length
 | [],zero,cs,h=>by simp only[ht,Option.some.injEq] at h; rw[<-h]
 | (i,v) ::r,zero,cs,h=>by
  unfold ht at h;split at h
  ·rename_i off size vs _ _;split at h
   ·rename_i ad;rw[LA h,acz (by omega)]
   ·cases h
  ·cases h
theorem ZG {op:Op} {m:dK} (hm:lX P op=some m) (aD:m.ki=true) {aE:Operand->U} {l l' : ap} {v:U} (h:bO P aE l m=some (v,l')) :
  ∃ cs mk,mo P aE op=some (cs,mk)/\v=mk l.length/\l'=l++[.cells cs.length cs] :=by
 cases op<;>simp only[lX] at hm<;>try (cases hm; done)
 case alloc t=>
  rw[map_some] at hm;obtain⟨zero,ad,rfl⟩:=hm;simp only[bO,Option.some.injEq,Prod.mk.injEq] at h;obtain⟨rfl,rfl⟩:=h;exact⟨zero,_,by simp only[mo,ad]; rfl,rfl,rfl⟩
 case box t x=>
  cases hm;simp only[bO,map_some,Prod.mk.injEq] at h;obtain⟨cs,ad,rfl,rfl⟩:=h;exact⟨cs,_,by simp only[mo,ad]; rfl,rfl,rfl⟩
 case buildSlice t n ps=>
  simp only[bind_some] at hm;obtain⟨e,ad,z,af,zero,al,hm⟩:=hm;rw[hW] at hm;obtain⟨aG,rfl⟩:=hm;simp only[bO,map_some,Prod.mk.injEq] at h;obtain⟨cs,a6,rfl,rfl⟩:=h;have bC:cs.length=n*z:=by rw[LA a6,IZ,aG.1]
  exact⟨cs,_,by simp only[mo,ad,af,al,if_pos aG,a6]; rfl,rfl,by rw[bC]⟩
 case makeSlice t a c=>
  simp only[bind_some] at hm;obtain⟨e,ad,z,af,by_,al,zero,aG,hm⟩:=hm;rw[hW] at hm;obtain⟨a6,rfl⟩:=hm;simp only[bO] at h;unfold sb at h;cases aC:aE a<;>rw[aC] at h<;>(try simp only at h)<;>try (cases h; done)
  cases ah:aE c<;>rw[ah] at h<;>(try simp only at h)<;>try (cases h; done)
  rw[hW] at h;obtain⟨bK,c9⟩:=h;cases c9;rename_i kc Im;have bC:(dz zero Im.toNat).length=Im.toNat*z:=by rw[IZ,a6]
  exact⟨dz zero Im.toNat,_,by simp only[mo,aC,ah,ad,asInt,af,al,aG]; rw[if_pos ⟨a6,bK⟩],rfl,by rw[bC]⟩
 case pick=>cases hm; cases aD
 case move=>cases hm; cases aD
 case assign=>cases hm; cases aD
 case nilCheck=>cases hm; cases aD
 case binOp=>cases hm; cases aD
 case unOp=>cases hm; cases aD
 case call c=>
  exfalso;split at hm
  ·unfold sY at hm
   repeat' split at hm
   all_goals first
    | (cases hm; done)
    | (cases hm; cases aD; done)
    | (simp only[bind_some,map_some] at hm; obtain⟨_,_,rfl⟩:=hm; cases aD; done)
    | (simp only[bind_some,map_some] at hm; obtain⟨_,_,_,_,rfl⟩:=hm; cases aD; done)
    | (simp only[bind_some,hW] at hm; obtain⟨_,_,_,_,_,_,_,rfl⟩:=hm; cases aD; done)
    | (simp only[bind_some,hW] at hm; obtain⟨_,_,_,_,_,_,_,_,_,rfl⟩:=hm; cases aD; done)
  ·split at hm
   ·rw[hW] at hm; obtain⟨_,rfl⟩:=hm; cases aD
   ·cases hm
  ·cases hm
 case next it b=>exfalso; cases b<;>simp only[reduceCtorEq] at hm<;>cases hm<;>cases aD
 case panic=>cases hm; cases aD
 case lookup=>exfalso; split at hm<;>(try cases hm; done); rw[map_some] at hm; obtain⟨_,_,rfl⟩:=hm; cases aD
 case build=>exfalso; simp only[bind_some,map_some] at hm; obtain⟨_,_,_,_,rfl⟩:=hm; cases aD
 case typeAssert=>exfalso; rw[map_some] at hm; obtain⟨_,_,rfl⟩:=hm; cases aD
 case store=>exfalso; rw[map_some] at hm; obtain⟨_,_,rfl⟩:=hm; cases aD
 case slice=>exfalso; rw[map_some] at hm; obtain⟨_,_,rfl⟩:=hm; cases aD
 case fieldAddr=>exfalso; rw[bind_some] at hm; obtain⟨_,_,hm⟩:=hm; split at hm<;>cases hm; cases aD
 case field=>exfalso; rw[bind_some] at hm; obtain⟨_,_,hm⟩:=hm; split at hm<;>cases hm<;>cases aD
 case extract=>cases hm; cases aD
 case makeFunc f a b=>exfalso; cases f<;>simp only at hm<;>cases hm; cases aD
 all_goals
  exfalso
  repeat' split at hm
  all_goals first | (cases hm; done) | (cases hm; cases aD; done)
end

end Go.ca

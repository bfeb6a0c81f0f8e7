/-
  The canonical machine, part N: a region that draws its order.
-/
import Derived.Test.YtobphgccoalchaaGreatDoorRc
import Derived.ProofKit
set_option linter.unusedVariables false
set_option linter.unusedSimpArgs false
set_option linter.unnecessarySimpa false
namespace Go.cf
open Go
section
variable {P:Program} {G:Nat->ad}
theorem zE {ops:Array Oper} {t i:Nat} (h:kz ops t=some i) :∃ o,ops[i]? = some o/\o.dst=some t:=by
 unfold kz at h;have:=List.find?_some h;cases aq:ops[i]? with
 | none=>simp[aq] at this
 | some o=>exact⟨o,rfl,by simpa [aq] using this⟩
def tO (ops:Array Oper) (val af:Nat->ad) (dw:Array Bool) :Nat->ad:=fun t=>
 match kz ops t with
 | some i=>if dw.getD i false then val i else af t
 | none=>af t
theorem Z6 {ops:Array Oper} {pre:Nat->Nat->Bool} (hR:tT ops pre) {dw:Array Bool}
  (down:∀ (i:Nat) (o:Oper) (e:Edge),ops[i]? = some o->dw.getD i false=true->e∈o.after->Region.binds .any e=true->dw.getD e.on false=true)
  (cZ:∀ i,dw.getD i false=true->∃ o,ops[i]? = some o) :∀ (i:Nat),dw.getD i false=true->∀ j,pre i j=true->dw.getD j false=true:=by
 intro i
 induction i using Nat.strongRecOn with
 | _ i aO=>
  intro ax j aj;obtain⟨o,aq⟩:=cZ i ax;obtain⟨e,ao,ag,nZ⟩:=hR.chain i o j aq aj;have dT:=down i o e aq ax ao ag;rcases nZ with rfl | nZ
  ·exact dT
  ·exact aO e.on (hR.CE i o e aq ao ag) dT j nZ
theorem ya (dw:Array Bool) (i j:Nat) (ax:i<dw.size) :(dw.setIfInBounds i true).getD j false=if j=i then true else dw.getD j false:=by
 rw[as9,atu];by_cases h:i=j
 ·subst h; simp[ax]
 ·rw[if_neg h,if_neg (Ne.symm h),as9]
theorem IB {ops:Array Oper} {pre:Nat->Nat->Bool} (hR:tT ops pre) {val af:Nat->ad} {dw:Array Bool} {i:Nat} {o:Oper} (aq:ops[i]? = some o) (ax:i<dw.size) :
  tO ops val af (dw.setIfInBounds i true)=h3 (tO ops val af dw) o.dst (val i) :=by
 funext t;unfold tO h3;cases bN:o.dst with
 | none=>
  simp only;cases hw:kz ops t with
  | none=>rfl
  | some j=>
   have bU:j≠i:=fun aH=>by
    obtain⟨ck,er,wv⟩:=zE hw;rw[aH,aq] at er; cases er;rw[bN] at wv; cases wv
   simp only[ya _ _ _ ax,if_neg bU]
 | some d=>
  simp only;by_cases aJ:t=d
  ·subst aJ;rw[hR.one i o t aq bN];simp[ya _ _ _ ax]
  ·rw[cp _ _ _ _ aJ];cases hw:kz ops t with
   | none=>rfl
   | some j=>
    have bU:j≠i:=fun aH=>by
     obtain⟨ck,er,wv⟩:=zE hw;rw[aH,aq] at er; cases er;rw[bN] at wv; cases wv;exact aJ rfl
    simp only[ya _ _ _ ax,if_neg bU]
structure Inv (P:Program) (ops:Array Oper) (val af:Nat->ad) (W:Nat->Bool) (cls:Nat->EX) (m:Nat) (ak:Nat->Nat) (ga:Nat->a6) (g0:Nat->Nat) (N:Nat)
  (R:Nat->Prop) (B:Nat) (l3:World) (h:a6) (ss:cR) (dw:Array Bool) (k:Nat) (a:Act) (w:World) (μ:cR) :Prop where
 size:dw.size=ops.size
 down:∀ (i:Nat) (o:Oper) (e:Edge),ops[i]? = some o->dw.getD i false=true->e∈o.after->Region.binds .any e=true->dw.getD e.on false=true
 DS:k<=m
 done:∀ q,q<m->(dw.getD (ak q) false=true<->q<k)
 ext:Ext0 l3 h ss w (ga k) μ
 re:∀ b,b<h.n->ss b=none->μ b=none
 rel:cc R B w (ga k) μ
 xr:nK N w R (ga k) μ (tO ops val af dw) a
 Ee:∀ (i:Nat) (o:Oper),ops[i]? = some o->W i=true->cls i=.new->dw.getD i false=false->μ (g0 i)=none
theorem af1 {ops:Array Oper} {dw:Array Bool} (ht:dw.size=ops.size) (i:Nat) (ax:dw.getD i false=true) :∃ o,ops[i]? = some o:=by
 have:i<ops.size:=by
  rcases as3 i dw.size with h1 | h1
  ·omega
  ·simp[as9,atI h1] at ax
 exact⟨ops[i],by simp[this]⟩
theorem Ys {ops:Array Oper} {pre:Nat->Nat->Bool} (hR:tT ops pre) {dw:Array Bool} (ht:dw.size=ops.size) (aA:Region.ready .any ops dw=[]) :∀ i,i<ops.size->dw.getD i false=true:=by
 intro i
 induction i using Nat.strongRecOn with
 | _ i aO=>
  intro ax;cases am:dw.getD i false with
  | true=>rfl
  | false=>
   exfalso;have kO:i∈Region.ready .any ops dw:=by
    refine mem_ready.2 ⟨?_,ops[i],by simp[ax],fun e ao ag=>aO e.on (hR.CE i ops[i] e (by simp[ax]) ao ag) (by
     have:=hR.CE i ops[i] e (by simp[ax]) ao ag;omega)⟩
    have aM:i<dw.size:=by omega
    simpa [as9,aM] using am
   rw[aA] at kO;cases kO
theorem Z9 (n2:P.follows .mixedOrders=true) (ma:∀ g,(G g).closed=true) :OY P G:=by
 intro id ops N af h b7 h' pre val W cls m ak ga sA g0 cells hR qu aB hm Ho ys C6 n4 e2 wQ AY G6 mi Gt Gu qy hr;refine⟨0,fun R B l3 ss a0 Q vf cg s0 kV=>wp_region_any n2 ?_⟩;obtain⟨h8,q5⟩:=Es vf ⟨(RowKit.Below.refl l3.heap.size l3).drew,Nat.le_succ _⟩;obtain⟨aR,tI⟩:=aB.rel q5;have Qm:=h8.trans aR
 -- the end
 have fin:∀ (dw:Array Bool) (k:Nat) (a:Act) (w:World) (μ:cR),Inv P ops val af W cls m ak ga g0 N R B l3 h ss dw k a w μ->(∀ i,i<ops.size->dw.getD i false=true)->Q .normal a w:=by
  intro dw k a w μ inv fg;have hk:k=m:=by
   rcases as3 k m with aM | qx
   ·obtain⟨o,aq,_⟩:=C6 k aM;have am:=fg (ak k) ((asG.1 aq).1);have:=(inv.done k aM).1 am;omega
   ·have:=inv.DS; omega
  subst hk;have aev:tO ops val af dw=b7:=by
   rw[Ho];funext t;unfold tO;cases hw:kz ops t with
   | none=>rfl
   | some i=>
    obtain⟨o,aq,_⟩:=zE hw;simp only[fg i ((asG.1 aq).1),if_true]
  subst hm;have db:=inv.xr;rw[aev] at db;exact kV a w μ ⟨inv.ext,inv.re⟩ inv.rel db
 have key:∀ (fuel:Nat) (dw:Array Bool) (k:Nat) (a:Act) (w:World) (μ:cR),Inv P ops val af W cls m ak ga g0 N R B l3 h ss dw k a w μ->dw.toList.count false=fuel->wpAny P .any ops Q fuel dw a w:=by
  intro fuel
  induction fuel with
  | zero=>
   intro dw k a w μ inv R6;have fg:∀ i,i<ops.size->dw.getD i false=true:=by
    intro i ax;have aM:i<dw.size:=by rw[inv.size]; exact ax
    cases am:dw[i] with
    | true=>simp[as9,aM,am]
    | false=>
     exfalso;have kO:false∈dw.toList:=by rw[<-am]; simp
     have:=au1.2 kO;omega
   refine⟨?_,fin dw k a w μ inv fg⟩;cases aA:Region.ready .any ops dw with
   | nil=>rfl
   | cons i l=>
    exfalso;have kO:i∈Region.ready .any ops dw:=by rw[aA]; simp
    obtain⟨h1,o,aq,_⟩:=mem_ready.1 kO;have ax:=(asG.1 aq).1;have ae:=fg i ax;have aM:i<dw.size:=by rw[inv.size]; exact ax
    simp[as9,aM] at h1 ae;rw[h1] at ae; cases ae
  | succ fuel aO=>
   intro dw k a w μ inv R6;refine⟨fun aA=>fin dw k a w μ inv (Ys hR inv.size aA),fun i ax=>?_⟩;obtain⟨h1,o,aq,Sc⟩:=mem_ready.1 ax;have aM:i<dw.size:=by rw[inv.size]; exact (asG.1 aq).1
   have n3:dw.getD i false=false:=by simpa [as9,aM] using h1
   have gc:=Z6 hR inv.down (af1 inv.size)
   -- what comes before i is done
   have LM:∀ j,pre i j=true->dw.getD j false=true:=by
    intro j aj;obtain⟨e,ao,ag,nZ⟩:=hR.chain i o j aq aj;have dT:=Sc e ao ag;rcases nZ with rfl | nZ
    ·exact dT
    ·exact gc e.on dT j nZ
   have Td:∀ j,dw.getD j false=true->pre j i=true->False:=fun j aj aC=>by
    have:=gc j aj i aC;rw[n3] at this; cases this
   have Sg:Ag pre m ak i k:=⟨inv.DS,fun q bd aC=>(inv.done q bd).1 (LM _ aC),fun q bd aC=>by
    rcases as3 q k with jz | qx
    ·exact (Td _ ((inv.done q bd).2 jz) aC).elim
    ·exact qx⟩
   -- what i sees
   have Se:∀ t,aS w R (ga k) μ (nQ ops pre val af i o t) (a.tmps.getD t undef) :=by
    intro t;unfold nQ;split
    ·rename_i aJ;have Hg:t∈o.looksAt ops:=by simpa using aJ
     have aw:=inv.xr.val t;unfold tO at aw;cases hw:kz ops t with
     | none=>rw[hw] at aw; exact aw
     | some j=>
      rw[hw] at aw;simp only at aw ⊢;by_cases aC:pre i j=true
      ·rw[if_pos aC];rw[if_pos (LM j aC)] at aw;exact aw
      ·rw[if_neg aC];have adT:dw.getD j false=false:=by
        rcases hR.acc i o t j aq Hg hw with aH | aH | rfl
        ·exact absurd aH aC
        ·cases wD:dw.getD j false with
         | false=>rfl
         | true=>exact (Td j wD aH).elim
        ·exact n3
       rw[adT] at aw;exact aw
    ·exact .bad _
   have Sn:tV G w R (ga k) μ:=fun g=>⟨ma g,(cg g).2.nR inv.ext⟩
   have dj:∀ x,aS w R (ga k) μ (dR G (nQ ops pre val af i o) x) (a.eval x) :=by
    intro x;cases x with
    | tmp t=>exact Se t
    | const v=>exact aS.xb v
    | global g=>exact (Sn g).2
    | func f=>exact .fn f [] [] #[] #[] rfl rfl (fun _ _ _ aH=>by simp at aH) (fun _ _ _ aH=>by simp at aH)
   have Tw:=OP (w:=w) (R:=R) (h:=ga k) (μ:=μ) (tmps:=a.tmps) (wQ i o aq) (fun d _=>Se d);have Gz:(dw.setIfInBounds i true).toList.count false=fuel:=by
    have ag:dw.toList[i]'(by simpa using aM)=false:=by
     have:dw[i]=false:=by simpa [as9,aM] using h1
     simpa using this
    rw[Array.toList_setIfInBounds,List.count_set (by simpa using aM)];simp[ag,R6]
   have Hc:(dw.setIfInBounds i true).size=ops.size:=by simp[inv.size]
   have GD:∀ (j:Nat) (ck:Oper) (e:Edge),ops[j]? = some ck->(dw.setIfInBounds i true).getD j false=true->e∈ck.after->Region.binds .any e=true->(dw.setIfInBounds i true).getD e.on false=true:=by
    intro j ck e er aj ao ag;rw[ya _ _ _ aM] at aj ⊢;by_cases oJ:j=i
    ·subst oJ;rw[aq] at er; cases er;rw[Sc e ao ag]; split<;>rfl
    ·rw[if_neg oJ] at aj;rw[inv.down j ck e er aj ao ag]; split<;>rfl
   -- the next state,when no block of others' is turned
   have pB:(W i=true->cls i≠.gT)->∀ q,q<m->((dw.setIfInBounds i true).getD (ak q) false=true<->q<k) :=by
    intro bU q bd;obtain⟨ck,er,dN,ah⟩:=C6 q bd;have:ak q≠i:=fun aH=>by
     rw[aH] at dN ah;exact bU dN ah
    rw[ya _ _ _ aM,if_neg this];exact inv.done q bd
   have G4:∀ (j:Nat),(dw.setIfInBounds i true).getD j false=false->j≠i/\dw.getD j false=false:=by
    intro j aj;rw[ya _ _ _ aM] at aj;by_cases oJ:j=i
    ·rw[if_pos oJ] at aj; cases aj
    ·rw[if_neg oJ] at aj; exact⟨oJ,aj⟩
   unfold wpOp;simp only[aq];cases dN:W i with
   | false=>
    rw[Tw,dN];simp only[atb,if_false];refine aO _ k _ w μ ⟨Hc,GD,inv.DS,pB (fun aH=>by rw[dN] at aH; cases aH),inv.ext,inv.re,inv.rel,?_,fun j ck er s1 rI aj=>inv.Ee j ck er s1 rI (G4 j aj).2⟩ Gz;rw[IB hR aq aM];exact inv.xr.put (qu i o aq) (by rw[AY i o aq dN]; exact OH)
   | true=>
    rw[Tw,dN];simp only[if_true];left;cases ah:cls i with
    | pure=>
     have b1:=G6 i o aq dN ah k Sg;obtain⟨v,w',μ',aA,e,r,aw⟩:=Og (P:=P) inv.rel dj o b1;have S0:wpAny P .any ops Q fuel (dw.setIfInBounds i true) (a.put o.dst v) w':=by
      refine aO _ k _ w' μ' ⟨Hc,GD,inv.DS,pB (fun _ aH=>by rw[ah] at aH; cases aH),inv.ext.trans e.toExt0,fun b ag kn=>e.re b (atB ag inv.ext.n) (inv.re b ag kn),r,?_,fun j ck er s1 rI aj=>?_⟩ Gz
      ·rw[IB hR aq aM];exact (inv.xr.ext e).put (qu i o aq) aw
      ·have aF:=inv.Ee j ck er s1 rI (G4 j aj).2;rcases as3 (g0 j) (ga k).n with ag | ag
       ·exact e.re _ ag aF
       ·exact r.lT _ ag
     unfold Oper.wp;rcases aA with aA | ⟨aA,rfl⟩
     ·rw[aA]; exact S0
     ·rw[aA]; exact S0
    | new=>
     obtain⟨mk,aF,A3,po,hblk⟩:=mi i o aq dN ah;obtain⟨v,arr,t,aA,cI,wE⟩:=agq (P:=P) dj o aF;have eX:=hblk k Sg;have acv:=inv.Ee i o aq dN ah n3;have anN:g0 i<(ga k).n:=by
      rcases as3 (g0 i) (ga k).n with ag | ag
      ·exact ag
      ·rw[inv.rel.fresh _ ag] at eX; cases eX
     have qI:∀ b cr,μ b=some cr->b≠g0 i:=fun b cr ag aH=>by rw[aH,acv] at ag; cases ag
     have e:Ext0 w (ga k) μ (w.alloc (.cells arr t)) (ga k) (bY μ (g0 i) (some ⟨w.heap.size,0,arr.size⟩)) :=by
      refine⟨rfl,rfl,rfl,by simp,fun x ai _=>?_,?_,fun b sz cs cr ag hm=>.inl ⟨cs,ag,by rw[cp _ _ _ _ (qI b cr hm)]; exact hm⟩,fun _ _ ar=>ar,fun b k cr ag hm=>⟨ag,by rw[cp _ _ _ _ (qI b cr hm)]; exact hm⟩,ar0 _,ar0 _⟩
      ·exact RowKit.Below.heap_alloc w _ x ai
      ·rintro x ⟨b,cr,am,hm,rfl⟩;by_cases ag:b=g0 i
       ·subst ag; simp at hm; subst hm; exact .inr (ar0 _)
       ·rw[cp _ _ _ _ ag] at hm;exact .inl ⟨b,cr,am,hm,rfl⟩
     have r:cc R B (w.alloc (.cells arr t)) (ga k) (bY μ (g0 i) (some ⟨w.heap.size,0,arr.size⟩)) :=by
      refine inv.rel.vo e (g0 i) (fun b ag am=>⟨rfl,cp _ _ _ _ ag,fun cr hm=>RowKit.Below.heap_alloc w _ _ (inv.rel.lt am hm)⟩) (fun cr hm=>?_) (fun b cr aqL ag am _ hm b9=>?_) (fun cr _ hm=>?_) inv.rel.fresh (fun b ag=>?_)
      ·simp at hm; subst hm;rw[eX];refine⟨rfl,by simp[cI.1],arr,t,(0,0),heap_alloc_new w _,rfl,.inl rfl,fun j c aj=>?_⟩;obtain⟨u,aX,bg,a3⟩:=cI.2 j c aj;exact⟨u,by simpa using aX,bg,a3.nR e⟩
      ·simp at b9; subst b9;have:=inv.rel.lt am hm;simp only[ne_eq]; omega
      ·simp at hm; subst hm;exact inv.rel.size
      ·rw[cp _ _ _ _ (by omega)];exact inv.rel.lT b ag
     have aw:aS (w.alloc (.cells arr t)) R (ga k) (bY μ (g0 i) (some ⟨w.heap.size,0,arr.size⟩)) (val i) v:=by
      rw[A3];exact wE _ _ _ _ _ eX (by simp)
     unfold Oper.wp;rw[aA];refine aO _ k _ _ _ ⟨Hc,GD,inv.DS,pB (fun _ aH=>by rw[ah] at aH; cases aH),inv.ext.trans e,fun b ag kn=>by rw[cp _ _ _ _ (by omega)]; exact inv.re b ag kn,r,?_,fun j ck er s1 rI aj=>?_⟩ Gz
     ·rw[IB hR aq aM];have Dx:nK N (w.alloc (.cells arr t)) R (ga k) (bY μ (g0 i) (some ⟨w.heap.size,0,arr.size⟩)) (tO ops val af dw) a:=⟨inv.xr.size,inv.xr.defers,fun gH=>(inv.xr.val gH).nR e⟩
      exact Dx.put (qu i o aq) aw
     ·obtain⟨oJ,wD⟩:=G4 j aj;rw[cp _ _ _ _ (fun aH=>oJ (Gt j i ck o er aq s1 dN rI ah aH))];exact inv.Ee j ck er s1 rI wD
    | gT=>
     obtain⟨q,bd,rfl⟩:=ys i o aq dN ah;have uM:q=k:=by
      have ae:¬ q<k:=fun aH=>by
       have:=(inv.done q bd).2 aH;rw[n3] at this; cases this
      rcases as3 k q with jz | qx
      ·have mX:k<m:=by omega
       have:=LM (ak k) (n4 k q mX bd jz);have:=(inv.done k mX).1 this;omega
      ·omega
     subst uM;refine hr q o bd aq R B w μ a o _ Q rfl inv.rel Sn dj fun v w' μ' e r aw=>?_
     obtain⟨bE,fp⟩:=(qy q bd).rel r;have c4:=e.trans bE;refine aO _ (q+1) _ w' μ' ⟨Hc,GD,by omega,fun fS pA=>?_,inv.ext.trans c4.toExt0,fun b ag kn=>c4.re b (atB ag inv.ext.n) (inv.re b ag kn),fp,?_,fun j ck er s1 rI aj=>?_⟩ Gz
     ·rw[ya _ _ _ aM];by_cases G7:fS=q
      ·subst G7; simp
      ·rw[if_neg (fun aH=>G7 (e2 fS q pA bd aH)),inv.done fS pA];omega
     ·rw[IB hR aq aM];exact (inv.xr.ext c4).put (qu _ o aq) (aw.ext bE)
     ·have aF:=inv.Ee j ck er s1 rI (G4 j aj).2;rcases Gu j ck q er s1 rI bd with ag | ag
      ·exact e.re _ ag aF
      ·exact r.lT _ ag
 have adn:Inv P ops val af W cls m ak ga g0 N R B l3 h ss (Array.replicate ops.size false) 0 a0 l3.drew ss:=by
  have aD:∀ i,(Array.replicate ops.size false).getD i false=false:=by
   intro i;rw[as9,Array.getElem?_replicate];split<;>rfl
  refine⟨by simp,(fun i o e _ ax _ _=>by rw[aD] at ax; cases ax),ato _,(fun q bd=>by rw[aD]; simp),Qm.toExt0,fun b ag kn=>kn,tI,?_,fun i o aq dN ah _=>?_⟩
  ·have db:tO ops val af (Array.replicate ops.size false)=af:=by
    funext t;unfold tO;cases hw:kz ops t with
    | none=>rfl
    | some i=>simp only[aD]; simp
   rw[db];exact s0.ext Qm
  ·obtain⟨mk,aF,A3,po,hblk⟩:=mi i o aq dN ah;exact vf.lT _ po
 exact key _ _ 0 a0 l3.drew ss adn (by simp)
theorem ajn (n2:P.follows .mixedOrders=true) (ma:∀ g,(G g).closed=true) {j:J} (aj:dL P G j) :xO P G j:=ajo (Z9 n2 ma) aj
end

section
variable {P:Program} {G:Nat->ad}
theorem Nh {aG ey:Operand->ad} (cT:Array (Nat × Operand)) (h:∀ x∈(cT.toList.map (·.2)),aG x=ey x) :(cT.toList.map fun p=>(p.1,aG p.2))=(cT.toList.map fun p=>(p.1,ey p.2)) :=
 atF fun p aC=>by rw[h p.2 (asr.2 ⟨p,aC,rfl⟩)]
theorem MT {aG ey:Operand->ad} (xs:Array Operand) (h:∀ x∈xs,aG x=ey x) :xs.toList.map aG=xs.toList.map ey:=
 atF fun x ai=>h x (by simpa using ai)
theorem M4 {aG ey:Operand->ad} (o:Option Operand) (h:∀ x∈o.toArray,aG x=ey x) :o.map aG=o.map ey:=by
 cases o with
 | none=>rfl
 | some x=>simp[h x (by simp)]
theorem Of {aG ey:Operand->ad} (h:a6) (op:Op) (ai:∀ x∈op.operands,aG x=ey x) :df P h aG op=df P h ey op:=by
 cases op<;>simp only[Op.operands] at ai<;>try rfl
 case build t cT=>simp only[df]; rw[Nh cT (fun x hm=>ai x (by simpa using hm))]
 case buildSlice t n cT=>simp only[df]; rw[Nh cT (fun x hm=>ai x (by simpa using hm))]
 case makeFunc fn first gJ=>
  cases fn<;>simp only[df];rw[MT first (fun x hm=>ai x (by simp[hm])),MT gJ (fun x hm=>ai x (by simp[hm]))]
 case slice t x c0 ax cX=>
  simp only[df];rw[ai x (by simp),M4 c0 (fun y hm=>ai y (by simp at hm ⊢; simp[hm])),M4 ax (fun y hm=>ai y (by simp at hm ⊢; simp[hm])),M4 cX (fun y hm=>ai y (by simp at hm ⊢; simp[hm]))]
 case call c=>
  have az:c.args.toList.map aG=c.args.toList.map ey:=MT c.args (fun x hm=>ai x (by simp[Call.operands,hm]));simp only[df,vN,az];cases ah:c.callee with
  | value f=>dsimp only; rw[ai f (by simp[Call.operands,ah])]
  | invoke x name=>dsimp only; rw[ai x (by simp[Call.operands,ah])]
  | _=>rfl
 case makeMap t r=>
  cases r with
  | none=>rfl
  | some x=>simp only[df]; rw[ai x (by simp)]
 case next it b=>
  cases b with
  | false=>rfl
  | true=>simp only[df]; rw[ai it (by simp)]
 all_goals (simp only[df]; simp_all)
theorem agp {aG ey:Operand->ad} (op:Op) (ai:∀ x∈op.operands,aG x=ey x) :oc P aG op=oc P ey op:=by
 cases op<;>simp only[Op.operands] at ai<;>try rfl
 case box t x=>simp only[oc]; rw[ai x (by simp)]
 case buildSlice t n cT=>simp only[oc]; rw[Nh cT (fun x hm=>ai x (by simpa using hm))]
 case makeSlice t l c=>simp only[oc]; rw[ai l (by simp),ai c (by simp)]
theorem aaA {af b7:Nat->ad} {h h' : a6} {v:ad} {op:Op} (ai:∀ x∈op.operands,dR G af x=dR G b7 x) (ao:dL P G (.op op af h v h')) :dL P G (.op op b7 h v h') :=by
 generalize aj:J.op op af h v h'=j at ao
 induction ao generalizing v h'<;>cases aj
 case H6 ak=>exact .H6 (by rw[<-Of h op ai]; exact ak)
 case Bv=>exact .Bv (by rw[<-Of h op ai]; assumption) (by assumption)
 case IX=>exact .IX (by first | (rename_i aO; exact aO rfl) | (rename_i aO _; exact aO rfl) | (rename_i aO _ _; exact aO rfl)) (by assumption) (by assumption)
inductive bV where
 | skip (i:Nat)
 | pure (i:Nat) (v:ad)
 | new (i:Nat) (v:ad) (cs:List ad)
 | gT (i:Nat) (v:ad) (h1:a6)
def bV.idx:bV->Nat
 | .skip i | .pure i _ | .new i _ _ | .gT i _ _=>i
def bV.val:bV->ad
 | .skip _=>jg
 | .pure _ v | .new _ v _ | .gT _ v _=>v
def bV.j5:bV->Bool
 | .gT ..=>true
 | _=>false
def bV.uY:bV->Bool
 | .skip _=>true
 | _=>false
def bV.cls:bV->EX
 | .skip _ | .pure ..=>.pure
 | .new ..=>.new
 | .gT ..=>.gT
def bV.cs:bV->List ad
 | .new _ _ cs=>cs
 | _=>[]
structure kC where
 af:Nat->ad
 h:a6
def x2 (ops:Array Oper) (i:Nat) :Option Tmp:=(ops[i]?).bind (·.dst)
def qW (h:a6) :bV->a6
 | .skip _ | .pure ..=>h
 | .new _ _ cs=>h.push (.cells cs.length cs)
 | .gT _ _ h1=>h1
def m6 (ops:Array Oper) (s:kC) (t:bV) :kC:=⟨h3 s.af (x2 ops t.idx) t.val,qW s.h t⟩
def hc (ops:Array Oper) (s0:kC) (tr:List bV) (p:Nat) :kC:=(tr.take p).foldl (m6 ops) s0
theorem BH {ops:Array Oper} {s0:kC} {tr:List bV} {p:Nat} {t:bV} (h:tr[p]? = some t) :hc ops s0 tr (p+1)=m6 ops (hc ops s0 tr p) t:=by
 unfold hc;have aM:p<tr.length:=(arY.1 h).1;rw[List.take_succ_eq_append_getElem aM,auB];have:tr[p]=t:=(arY.1 h).2;simp[this]
def xP (P:Program) (G:Nat->ad) (ops:Array Oper) (s:kC) :bV->Prop
 | .skip i=>∃ o,ops[i]? = some o/\lv ops s.af o=some false
 | .pure i v=>∃ o,ops[i]? = some o/\lv ops s.af o=some true
 | .new i v cs=>∃ o mk,ops[i]? = some o/\lv ops s.af o=some true/\oc P (dR G s.af) o.op=some (cs,mk)/\v=mk s.h.n
 | .gT i v h1=>∃ o,ops[i]? = some o/\lv ops s.af o=some true/\dL P G (.op o.op s.af s.h v h1)/\s.h.n<=h1.n
def Jc (P:Program) (G:Nat->ad) (ops:Array Oper) (s:kC) (h:a6) :bV->Prop
 | .pure i v=>∀ o,ops[i]? = some o->df P h (dR G s.af) o.op=some (.val v h)
 | .new _ _ cs=>h.f s.h.n=.cells cs.length cs
 | _=>True
structure zL (ops:Array Oper) (pre:Nat->Nat->Bool) (tr:List bV) :Prop where
 hR:tT ops pre
 all:∀ i,i<ops.size->∃ (p:Nat) (t:bV),tr[p]? = some t/\t.idx=i
 inj:∀ (p bZ:Nat) (t gH:bV),tr[p]? = some t->tr[bZ]? = some gH->t.idx=gH.idx->p=bZ
 Iw:∀ (p:Nat) (t:bV),tr[p]? = some t->t.idx<ops.size
 WX:∀ (p bZ:Nat) (t gH:bV),tr[p]? = some t->tr[bZ]? = some gH->p<bZ->pre t.idx gH.idx=false
 eager:∀ (p bZ:Nat) (t gH:bV),tr[p]? = some t->tr[bZ]? = some gH->p<bZ->t.j5=true->pre gH.idx t.idx=true
structure Je (P:Program) (G:Nat->ad) (ops:Array Oper) (pre:Nat->Nat->Bool) (s0:kC) (tr:List bV) :Prop where
 step:∀ (p:Nat) (t:bV),tr[p]? = some t->xP P G ops (hc ops s0 tr p) t
 still:∀ (q:Nat),(q=tr.length\/∃ t:bV,tr[q]? = some t/\t.j5=true)->∀ (p:Nat) (t:bV),p<q->tr[p]? = some t->
  (∀ (bZ:Nat) (gH:bV),bZ<q->tr[bZ]? = some gH->gH.j5=true->pre gH.idx t.idx=false)->Jc P G ops (hc ops s0 tr p) (hc ops s0 tr q).h t
def eG (tr:List bV) (i:Nat) :Nat:=tr.findIdx fun t=>t.idx == i
theorem zh {ops:Array Oper} {pre:Nat->Nat->Bool} {tr:List bV} (gG:zL ops pre tr) {i:Nat} (ax:i<ops.size) :∃ t,tr[eG tr i]? = some t/\t.idx=i:=by
 obtain⟨p,t,aC,aJ⟩:=gG.all i ax;have aM:p<tr.length:=(arY.1 aC).1;have kO:∃ x∈tr,(x.idx == i)=true:=⟨t,ar4 aC,by simpa using aJ⟩
 have yv:eG tr i<tr.length:=List.findIdx_lt_length_of_exists kO;have:=List.findIdx_getElem (w:=yv);exact⟨tr[eG tr i],by simp[yv],by unfold eG; simpa using this⟩
theorem Ig {ops:Array Oper} {pre:Nat->Nat->Bool} {tr:List bV} (gG:zL ops pre tr) {p:Nat} {t:bV} (aC:tr[p]? = some t) :eG tr t.idx=p:=by
 obtain⟨gH,h1,ae⟩:=zh gG (gG.Iw p t aC);exact gG.inj _ _ _ _ h1 aC ae
theorem Wv {ops:Array Oper} {pre:Nat->Nat->Bool} {tr:List bV} (gG:zL ops pre tr) (s0:kC) :∀ p,p<=tr.length->∀ t,
  (hc ops s0 tr p).af t=match kz ops t with | some j=>(if eG tr j<p then ((tr[eG tr j]?).map bV.val).getD .bad else s0.af t) | none=>s0.af t:=by
 intro p
 induction p with
 | zero=>
  intro _ t;simp only[hc,atm,List.foldl_nil];cases kz ops t<;>simp
 | succ p aO=>
  intro aC t;have aM:p<tr.length:=by omega
  have ec:tr[p]? = some tr[p] :=ar1 aM;rw[BH ec];simp only[m6];have Dq:=aO (by omega) t;have h0:=Ig gG ec;have aeq:=gG.Iw p _ ec;have fC:ops[tr[p].idx]? = some ops[tr[p].idx] :=by simp[aeq]
  cases bN:x2 ops tr[p].idx with
  | none=>
   simp only[h3,Dq];cases hw:kz ops t with
   | none=>rfl
   | some j=>
    simp only;obtain⟨o,aq,LG⟩:=zE hw;have bU:eG tr j≠p:=by
     intro aH;obtain⟨Ox,h1,ae⟩:=zh gG ((asG.1 aq).1);rw[aH,ec] at h1;cases h1;rw[<-ae] at aq;simp only[x2,aq,atM] at bN;rw[LG] at bN; cases bN
    by_cases jz:eG tr j<p
    ·rw[if_pos jz,if_pos (by omega)]
    ·rw[if_neg jz,if_neg (by omega)]
  | some d=>
   simp only[h3];by_cases aJ:t=d
   ·subst aJ;have qu:ops[tr[p].idx].dst=some t:=by simpa [x2,fC] using bN
    rw[kL,gG.hR.one _ _ t fC qu];simp[h0,ec]
   ·rw[cp _ _ _ _ aJ,Dq];cases hw:kz ops t with
    | none=>rfl
    | some j=>
     simp only;obtain⟨o,aq,LG⟩:=zE hw;have bU:eG tr j≠p:=by
      intro aH;obtain⟨Ox,h1,ae⟩:=zh gG ((asG.1 aq).1);rw[aH,ec] at h1;cases h1;rw[<-ae] at aq;simp only[x2,aq,atM] at bN;rw[LG] at bN; cases bN;exact aJ rfl
     by_cases jz:eG tr j<p
     ·rw[if_pos jz,if_pos (by omega)]
     ·rw[if_neg jz,if_neg (by omega)]
theorem ahd {ops:Array Oper} {pre:Nat->Nat->Bool} (hR:tT ops pre) (cZ:∀ (i:Nat) (o:Oper) (e:Edge),ops[i]? = some o->e∈o.after->Region.binds .any e=true->∃ ck,ops[e.on]? = some ck) :∀ (i:Nat) (o:Oper),ops[i]? = some o->∀ j,pre i j=true->j<i:=by
 intro i
 induction i using Nat.strongRecOn with
 | _ i aO=>
  intro o aq j aj;obtain⟨e,ao,ag,nZ⟩:=hR.chain i o j aq aj;have aM:=hR.CE i o e aq ao ag;rcases nZ with rfl | nZ
  ·exact aM
  ·obtain⟨ck,er⟩:=cZ i o e aq ao ag;have:=aO e.on aM ck er j nZ;omega
theorem agz {ops:Array Oper} {pre:Nat->Nat->Bool} (hR:tT ops pre) (i:Nat) (o:Oper) (aq:ops[i]? = some o) (aC:pre i i=true) :False:=by
 have:=ahd hR (fun i o e aq ao ag=>by
  have h1:=hR.CE i o e aq ao ag;have ae:=(asG.1 aq).1;exact⟨ops[e.on]'(by omega),by simp⟩) i o aq i aC
 omega
theorem Qt {ops:Array Oper} {pre:Nat->Nat->Bool} {tr:List bV} (gG:zL ops pre tr) (s0:kC) {i:Nat} {o:Oper} (aq:ops[i]? = some o) {t:Nat} (aJ:t∈o.looksAt ops) :
  nQ ops pre (fun j=>((tr[eG tr j]?).map bV.val).getD .bad) s0.af i o t=(hc ops s0 tr (eG tr i)).af t:=by
 have ax:i<ops.size:=(asG.1 aq).1;obtain⟨dX,h1,ae⟩:=zh gG ax;have dT:eG tr i<=tr.length:=atr (arY.1 h1).1;rw[Wv gG s0 _ dT];unfold nQ;rw[if_pos (by simpa using aJ)];cases hw:kz ops t with
 | none=>rfl
 | some j=>
  simp only;obtain⟨UH,G1,_⟩:=zE hw;obtain⟨Ox,al,aE⟩:=zh gG ((asG.1 G1).1);have key:pre i j=true<->eG tr j<eG tr i:=by
   constructor
   ·intro aC;rcases atq (eG tr j) (eG tr i) with h | h | h
    ·exact h
    ·exfalso;rw[h,h1] at al;cases al;have iy:i=j:=by rw[<-ae,<-aE]
     subst iy;exact agz gG.hR i o aq aC
    ·have:=gG.WX _ _ _ _ h1 al h;rw[ae,aE] at this;rw[this] at aC; cases aC
   ·intro aM;rcases gG.hR.acc i o t j aq aJ hw with aH | aH | rfl
    ·exact aH
    ·have:=gG.WX _ _ _ _ al h1 aM;rw[ae,aE] at this;rw[this] at aH; cases aH
    ·omega
  by_cases aC:pre i j=true
  ·rw[if_pos aC,if_pos (key.1 aC)]
  ·rw[if_neg aC,if_neg (fun aH=>aC (key.2 aH))]
def fe (tr:List bV) :List Nat:=(List.range tr.length).filter fun p=>((tr[p]?).map bV.j5).getD false
theorem HT {tr:List bV} {p:Nat}:p∈fe tr<->∃ t,tr[p]? = some t/\t.j5=true:=by
 unfold fe;rw[as6,asJ];constructor
 ·rintro⟨h1,ae⟩;refine⟨tr[p],by simp[h1],?_⟩;simpa [h1] using ae
 ·rintro⟨t,h1,ae⟩;exact⟨(arY.1 h1).1,by simp[h1,ae]⟩
theorem v2 {tr:List bV} {q fS:Nat} (bd:q<fS) (pA:fS<(fe tr).length) :(fe tr).getD q 0<(fe tr).getD fS 0:=by
 have aC:(fe tr).Pairwise (· < ·) :=List.Pairwise.filter _ List.pairwise_lt_range;have:=atk.1 aC q fS (by omega) pA bd;simpa [List.getD,pA,show q<(fe tr).length by omega] using this
theorem Qp {tr:List bV} {q:Nat} (bd:q<(fe tr).length) :∃ t,tr[(fe tr).getD q 0]? = some t/\t.j5=true:=by
 apply HT.1;simp[List.getD,bd]
theorem FA {tr:List bV} {p:Nat} (aC:p∈fe tr) :∃ q,q<(fe tr).length/\(fe tr).getD q 0=p:=by
 obtain⟨q,bd,rfl⟩:=List.getElem_of_mem aC;exact⟨q,bd,by simp[List.getD,bd]⟩
theorem D2 {ops:Array Oper} {pre:Nat->Nat->Bool} {s0:kC} {tr:List bV} (rb:Je P G ops pre s0 tr) :∀ (k p:Nat),p+k<=tr.length->(hc ops s0 tr p).h.n<=(hc ops s0 tr (p+k)).h.n
 | 0,p,_=>ar0 _
 | k+1,p,aC=>by
  have aO:=D2 rb k p (by omega);have aM:p+k<tr.length:=by omega
  have ec:tr[p+k]? = some tr[p+k] :=ar1 aM;have ak:=rb.step _ _ ec;rw[show p+(k+1)=(p+k)+1 from rfl,BH ec];refine ati aO ?_;cases aJ:tr[p+k] with
  | skip i=>simp[m6,qW]
  | pure i v=>simp[m6,qW]
  | new i v cs=>simp[m6,qW,fL]
  | gT i v h1=>
   rw[aJ] at ak;obtain⟨o,_,_,_,aF⟩:=ak;simpa [m6,qW] using aF
theorem Ks {ops:Array Oper} {s0:kC} {tr:List bV}:∀ (k p:Nat),p+k<=tr.length->(∀ r,p<=r->r<p+k->r∉fe tr)->o5 (hc ops s0 tr p).h (hc ops s0 tr (p+k)).h
 | 0,p,_,_=>⟨[],rfl⟩
 | k+1,p,aC,dY=>by
  obtain⟨l,am⟩:=Ks (ops:=ops) (s0:=s0) (tr:=tr) k p (by omega) (fun r h1 ae=>dY r h1 (by omega));have aM:p+k<tr.length:=by omega
  have ec:tr[p+k]? = some tr[p+k] :=ar1 aM;have bU:tr[p+k].j5≠true:=fun aH=>dY (p+k) (by omega) (by omega) (HT.2 ⟨_,ec,aH⟩)
  rw[show p+(k+1)=(p+k)+1 from rfl,BH ec];cases aJ:tr[p+k] with
  | skip i=>exact⟨l,by simp[m6,qW,am]⟩
  | pure i v=>exact⟨l,by simp[m6,qW,am]⟩
  | new i v cs=>exact⟨l++[cs],by simp[m6,qW,am,xg]⟩
  | gT i v h1=>rw[aJ] at bU; exact absurd rfl bU
theorem dL.Z7 {id:Nat} {ops:Array Oper} {pre:Nat->Nat->Bool} {N:Nat} {s0:kC} {tr:List bV} (gG:zL ops pre tr) (bN:∀ (i:Nat) (o:Oper),ops[i]? = some o->qf N o.dst=true) (rb:Je P G ops pre s0 tr) :
  dL P G (.code (.region id ops true) N s0.af s0.h .normal (hc ops s0 tr tr.length).af (hc ops s0 tr tr.length).h) :=by
 -- the step that carries out operation i
 have iI:∀ (i:Nat) (o:Oper),ops[i]? = some o->∃ t,tr[eG tr i]? = some t/\t.idx=i/\xP P G ops (hc ops s0 tr (eG tr i)) t:=fun i o aq=>by
  obtain⟨t,h1,ae⟩:=zh gG ((asG.1 aq).1);exact⟨t,h1,ae,rb.step _ _ h1⟩
 have ak4:∀ (i:Nat) (o:Oper),ops[i]? = some o->lv ops (nQ ops pre (fun j=>((tr[eG tr j]?).map bV.val).getD .bad) s0.af i o) o=lv ops (hc ops s0 tr (eG tr i)).af o:=fun i o aq=>by
  unfold lv;cases ar:o.guard with
  | none=>rfl
  | some lS=>
   obtain⟨j,BS⟩:=lS;simp only;cases acQ:(ops[j]?).bind (·.dst) with
   | none=>rfl
   | some d=>
    simp only;rw[Qt gG s0 aq (t:=d) (by simp[Oper.looksAt,ar,acQ])]
 have M2:∀ (i:Nat) (o:Oper),ops[i]? = some o->∀ x∈o.op.operands,dR G (hc ops s0 tr (eG tr i)).af x=dR G (nQ ops pre (fun j=>((tr[eG tr j]?).map bV.val).getD .bad) s0.af i o) x:=fun i o aq x ai=>by
  cases x with
  | tmp t=>
   refine (Qt gG s0 aq (t:=t) ?_).symm;simp only[Oper.looksAt,asu,List.mem_filterMap];exact .inl ⟨.tmp t,by simpa using ai,rfl⟩
  | _=>rfl
 -- the moment ahead of effect k,or the end
 have Oz:∀ k,k<=(fe tr).length->∃ T,T<=tr.length/\(T=tr.length\/∃ t,tr[T]? = some t/\t.j5=true)/\(T=if k<(fe tr).length then (fe tr).getD k 0 else tr.length) :=fun k hk=>by
  by_cases aM:k<(fe tr).length
  ·obtain⟨t,h1,ae⟩:=Qp aM;exact⟨_,atr (arY.1 h1).1,.inr ⟨t,h1,ae⟩,by rw[if_pos aM]⟩
  ·exact⟨_,ar0 _,.inl rfl,by rw[if_neg aM]⟩
 have hh:∀ q,q<(fe tr).length->∃ t,tr[(fe tr).getD q 0]? = some t/\t.j5=true/\((tr[(fe tr).getD q 0]?).map bV.idx).getD 0=t.idx:=fun q bd=>by
  obtain⟨t,h1,ae⟩:=Qp bd;exact⟨t,h1,ae,by rw[h1]; rfl⟩
 have WE:∀ (i:Nat) (o:Oper) (t:bV),ops[i]? = some o->tr[eG tr i]? = some t->t.idx=i->t.j5=false->∀ k,Ag pre (fe tr).length (fun q=>((tr[(fe tr).getD q 0]?).map bV.idx).getD 0) i k->
   Jc P G ops (hc ops s0 tr (eG tr i)) (hc ops s0 tr (if k<(fe tr).length then (fe tr).getD k 0 else tr.length)).h t:=by
  intro i o t aq aJ Hi bU k aD;obtain⟨mX,yt,AF⟩:=aD;obtain⟨T,RK,KM,pl⟩:=Oz k mX;rw[<-pl];have aoo:eG tr i<tr.length:=(arY.1 aJ).1;have aeb:eG tr i<T:=by
   by_cases aM:k<(fe tr).length
   ·rw[if_pos aM] at pl;obtain⟨ajY,h1,ae,al⟩:=hh k aM;rw[<-pl] at h1;rcases atq (eG tr i) T with h | h | h
    ·exact h
    ·rw[h,h1] at aJ;cases aJ;rw[bU] at ae; cases ae
    ·have ao:=gG.eager T (eG tr i) ajY t h1 aJ h ae;have:=yt k aM (by (try simp only); rw[al,<-Hi]; exact ao);omega
   ·rw[if_neg aM] at pl;omega
  refine rb.still T KM _ t aeb aJ (fun bZ gH gy Hg gd=>?_);obtain⟨q,bd,qK⟩:=FA (HT.2 ⟨gH,Hg,gd⟩);obtain⟨arA,h1,ae,al⟩:=hh q bd;rw[qK,Hg] at h1;cases h1;have uM:q<k:=by
   by_cases aM:k<(fe tr).length
   ·rw[if_pos aM] at pl;rcases as3 q k with h | h
    ·exact h
    ·rcases au2 h with h | h
     ·subst h; omega
     ·have:=v2 (tr:=tr) h bd;omega
   ·omega
  cases aC:pre gH.idx t.idx with
  | false=>rfl
  | true=>
   have:=AF q bd (by (try simp only); rw[al,<-Hi]; exact aC);omega
 refine dL.draw pre (fun j=>((tr[eG tr j]?).map bV.val).getD .bad) (fun j=>((tr[eG tr j]?).map fun t=>!t.uY).getD false) (fun j=>((tr[eG tr j]?).map bV.cls).getD .pure) (fe tr).length
  (fun q=>((tr[(fe tr).getD q 0]?).map bV.idx).getD 0) (fun k=>(hc ops s0 tr (if k<(fe tr).length then (fe tr).getD k 0 else tr.length)).h) (fun q=>(hc ops s0 tr ((fe tr).getD q 0+1)).h)
  (fun j=>(hc ops s0 tr (eG tr j)).h.n) (fun j=>((tr[eG tr j]?).map bV.cs).getD []) gG.hR bN ?_ ?_ ?_ ?_ ?_ ?_ ?_ ?_ ?_ ?_ ?_ ?_ ?_ ?_ ?_
 ·-- h0
  obtain⟨T,RK,KM,pl⟩:=Oz 0 (ato _)
  try simp only
  rw[<-pl];have:=Ks (ops:=ops) (s0:=s0) (tr:=tr) T 0 (by omega) (fun r _ aA kO=>by
   obtain⟨q,bd,qK⟩:=FA kO;rw[if_pos (by omega)] at pl;rcases au2 (ato q) with h | h
   ·subst h; omega
   ·have:=v2 (tr:=tr) h bd;omega)
  simpa [hc] using this
 ·simp
 ·-- hσ
  funext t;rw[Wv gG s0 _ (ar0 _)];cases hw:kz ops t with
  | none=>rfl
  | some j=>
   obtain⟨o,aq,_⟩:=zE hw;obtain⟨Ox,h1,_⟩:=zh gG ((asG.1 aq).1);simp only;rw[if_pos ((arY.1 h1).1)]
 ·-- heff
  intro i o aq dN ah;obtain⟨t,h1,ae,_⟩:=iI i o aq;simp only[h1,asb,asT] at ah;have ao:t.j5=true:=by cases t<;>simp_all [bV.cls,bV.j5]
  obtain⟨q,bd,qK⟩:=FA (HT.2 ⟨t,h1,ao⟩);exact⟨q,bd,by rw[qK,h1]; exact ae⟩
 ·-- heff'
  intro q bd;obtain⟨t,h1,ae,al⟩:=hh q bd;refine⟨ops[t.idx]'(gG.Iw _ _ h1),by rw[al]; simp[gG.Iw _ _ h1],?_,?_⟩
  ·simp only[al,Ig gG h1,h1,asb,asT];cases t<;>simp_all [bV.uY,bV.j5]
  ·simp only[al,Ig gG h1,h1,asb,asT];cases t<;>simp_all [bV.cls,bV.j5]
 ·-- hord
  intro q fS bd pA aM;obtain⟨t,h1,ae,al⟩:=hh q bd;obtain⟨gH,c3,gh,wh⟩:=hh fS pA;simp only[al,wh];exact gG.eager _ _ t gH h1 c3 (v2 aM pA) ae
 ·-- hinj
  intro q fS bd pA ao;obtain⟨t,h1,ae,al⟩:=hh q bd;obtain⟨gH,c3,gh,wh⟩:=hh fS pA;simp only[al,wh] at ao;have:=gG.inj _ _ t gH h1 c3 ao;rcases atq q fS with h | h | h
  ·have:=v2 (tr:=tr) h pA; omega
  ·exact h
  ·have:=v2 (tr:=tr) h bd; omega
 ·-- hwant
  intro i o aq;rw[ak4 i o aq];obtain⟨t,h1,ae,al⟩:=iI i o aq;simp only[h1,asb,asT];cases t with
  | skip j=>obtain⟨ck,er,hw⟩:=al; simp only[bV.idx] at ae; subst ae; rw[aq] at er; cases er; exact hw
  | pure j v=>obtain⟨ck,er,hw⟩:=al; simp only[bV.idx] at ae; subst ae; rw[aq] at er; cases er; exact hw
  | new j v cs=>obtain⟨ck,mk,er,hw,_⟩:=al; simp only[bV.idx] at ae; subst ae; rw[aq] at er; cases er; exact hw
  | gT j v c3=>obtain⟨ck,er,hw,_⟩:=al; simp only[bV.idx] at ae; subst ae; rw[aq] at er; cases er; exact hw
 ·-- hskip
  intro i o aq dN;obtain⟨t,h1,ae,al⟩:=iI i o aq;simp only[h1,asb,asT] at dN ⊢;cases t<;>simp_all [bV.uY,bV.val]
 ·-- hpure
  intro i o aq dN ah k aD;obtain⟨t,h1,ae,al⟩:=iI i o aq;simp only[h1,asb,asT] at dN ah;have b1:=WE i o t aq h1 ae (by cases t<;>simp_all [bV.cls,bV.j5]) k aD;cases t with
  | pure j v=>
   simp only[bV.idx] at ae;subst ae;have:=b1 o aq;rw[Of _ _ (M2 j o aq)] at this;simpa [h1,bV.val] using this
  | skip j=>simp[bV.uY] at dN
  | new j v cs=>simp[bV.cls] at ah
  | gT j v c3=>simp[bV.cls] at ah
 ·-- hnew
  intro i o aq dN ah;obtain⟨t,h1,ae,al⟩:=iI i o aq;simp only[h1,asb,asT] at dN ah;cases t with
  | new j v cs=>
   obtain⟨ck,mk,er,_,aF,aw⟩:=al;simp only[bV.idx] at ae;subst ae;rw[aq] at er; cases er;rw[agp _ (M2 j o aq)] at aF;refine⟨mk,by simpa [h1,bV.cs] using aF,by simpa [h1,bV.val] using aw,?_,fun k aD=>?_⟩
   ·have dT:eG tr j<=tr.length:=atr (arY.1 h1).1;have:=D2 rb (eG tr j) 0 (by omega);simpa [hc] using this
   ·have b1:=WE j o _ aq h1 rfl rfl k aD;simpa [Jc,h1,bV.cs] using b1
  | skip j=>simp[bV.uY] at dN
  | pure j v=>simp[bV.cls] at ah
  | gT j v c3=>simp[bV.cls] at ah
 ·-- hbid
  intro i j o ck aq er wo s1 cJ rI ag;have Ru:∀ (i:Nat) (o:Oper),ops[i]? = some o->((tr[eG tr i]?).map bV.cls).getD .pure=.new->∀ p,eG tr i<p->p<=tr.length->(hc ops s0 tr (eG tr i)).h.n<(hc ops s0 tr p).h.n:=by
   intro i o aq ah p aC gL;obtain⟨t,h1,ae,_⟩:=iI i o aq;simp only[h1,asb,asT] at ah;have aE:=D2 rb (p - (eG tr i+1)) (eG tr i+1) (by omega);rw[show eG tr i+1+(p - (eG tr i+1))=p by omega,BH h1] at aE;cases t with
   | new j v cs=>simp only[m6,qW,fL] at aE; omega
   | skip j=>simp[bV.cls] at ah
   | pure j v=>simp[bV.cls] at ah
   | gT j v c3=>simp[bV.cls] at ah
  obtain⟨t,h1,ae,_⟩:=iI i o aq;obtain⟨gH,c3,gh,_⟩:=iI j ck er;have am:=(arY.1 h1).1;have dp:=(arY.1 c3).1;rcases atq (eG tr i) (eG tr j) with h | h | h
  ·have:=Ru i o aq cJ _ h (atr dp); (try simp only at ag); omega
  ·rw[h,c3] at h1; cases h1; rw[<-ae,<-gh]
  ·have:=Ru j ck er rI _ h (atr am); (try simp only at ag); omega
 ·-- hbid'
  intro i o q aq dN ah bd;obtain⟨t,h1,ae,_⟩:=iI i o aq;obtain⟨Ov,aL,aT,a7⟩:=hh q bd;simp only[h1,asb,asT] at ah;have am:=(arY.1 h1).1;have dp:=(arY.1 aL).1;simp only[if_pos bd];rcases atq (eG tr i) ((fe tr).getD q 0) with h | h | h
  ·left;have aE:=D2 rb ((fe tr).getD q 0 - (eG tr i+1)) (eG tr i+1) (by omega);rw[show eG tr i+1+((fe tr).getD q 0 - (eG tr i+1))=(fe tr).getD q 0 by omega,BH h1] at aE;cases t with
   | new j v cs=>simp only[m6,qW,fL] at aE; omega
   | skip j=>simp[bV.cls] at ah
   | pure j v=>simp[bV.cls] at ah
   | gT j v c3=>simp[bV.cls] at ah
  ·rw[h,aL] at h1; cases h1;cases t<;>simp_all [bV.cls,bV.j5]
  ·right;have aE:=D2 rb (eG tr i - ((fe tr).getD q 0+1)) ((fe tr).getD q 0+1) (by omega)
   rwa [show (fe tr).getD q 0+1+(eG tr i - ((fe tr).getD q 0+1))=eG tr i by omega] at aE
 ·-- hgrow
  intro q bd;obtain⟨Ov,aL,aT,a7⟩:=hh q bd;have dp:=(arY.1 aL).1;obtain⟨T,RK,KM,pl⟩:=Oz (q+1) (by omega)
  try simp only
  rw[<-pl];have aM:(fe tr).getD q 0<T:=by
   by_cases h:q+1<(fe tr).length
   ·rw[if_pos h] at pl;have:=v2 (tr:=tr) (show q<q+1 by omega) h;omega
   ·rw[if_neg h] at pl; omega
  have:=Ks (ops:=ops) (s0:=s0) (tr:=tr) (T - ((fe tr).getD q 0+1)) ((fe tr).getD q 0+1) (by omega) (fun r lP mm kO=>by
   obtain⟨fS,pA,qK⟩:=FA kO;have G7:q<fS:=by
    rcases atq q fS with h | h | h
    ·exact h
    ·subst h; omega
    ·have:=v2 (tr:=tr) h bd; omega
   by_cases h:q+1<(fe tr).length
   ·rw[if_pos h] at pl;rcases au2 (show q+1<=fS from G7) with h' | h'
    ·subst h'; omega
    ·have:=v2 (tr:=tr) h' pA; omega
   ·omega)
  rwa [show (fe tr).getD q 0+1+(T - ((fe tr).getD q 0+1))=T by omega] at this
 ·-- hcall
  intro q o bd aq;obtain⟨Ov,aL,aT,a7⟩:=hh q bd;have h0:=Ig gG aL;simp only[a7] at aq ⊢;have ak:=rb.step _ _ aL;cases Ov with
  | gT j v h1=>
   obtain⟨ck,er,_,ao,_⟩:=ak;simp only[bV.idx] at aq h0 ⊢;rw[aq] at er; cases er;have pp:=M2 j o aq;rw[h0] at pp;have:=aaA pp ao;simp only[h0,aL,if_pos bd,asb,asT,bV.val];rw[BH aL];exact this
  | skip j=>simp[bV.j5] at aT
  | pure j v=>simp[bV.j5] at aT
  | new j v cs=>simp[bV.j5] at aT
end
abbrev O5:=c2 ad
def look (s:O5) (t:Nat) :ad:=match s.get t with | some v=>v | none=>jg
def BL (m i:Nat) :Bool:=Nat.testBit m i
def v1 (ms:List Nat) :List Edge->Nat
 | []=>0
 | e::es=>match Region.binds .any e with
  | true=>Nat.lor (Nat.lor (2 ^ e.on) (ms.getD e.on 0)) (v1 ms es)
  | false=>v1 ms es
def Um (ms:List Nat) :List Oper->List Nat
 | []=>ms
 | o::os=>Um (ms++[v1 ms o.after.toList]) os
def jb (ops:Array Oper) :List Nat:=Um [] ops.toList
def pL (ms:List Nat) (i j:Nat) :Bool:=BL (ms.getD i 0) j
def lj:Op->Bool
 | .move _ | .assign _ | .pick .. | .alloc _ | .box .. | .build .. | .buildSlice .. | .load .. | .nilCheck _ | .binOp .. | .unOp .. | .convert .. | .makeInterface .. | .makeFunc .. | .makeSlice .. | .slice .. | .fieldAddr .. | .field .. | .indexAddr .. | .index .. | .extract ..=>false
 | .call c=>match c.callee with
  | .builtin .len | .builtin .cap | .builtin .min | .builtin .max=>false
  | _=>true
 | _=>true
def afu:Op->Bool
 | .move _ | .assign _ | .pick .. | .build .. | .load .. | .nilCheck _ | .binOp .. | .unOp .. | .convert .. | .makeInterface .. | .makeFunc .. | .slice .. | .fieldAddr .. | .field .. | .indexAddr .. | .index .. | .extract ..=>true
 | .call c=>match c.callee with
  | .builtin .len | .builtin .cap | .builtin .min | .builtin .max=>true
  | _=>false
 | _=>false
def Nk (done:Nat) (gT:Bool) :Nat->List Nat->List Oper->Option Nat
 | i,m::ms,o::os=>match !BL done i&&Nat.beq (Nat.land m done) m&&(lj o.op == gT) with
  | true=>some i
  | false=>Nk done gT (i+1) ms os
 | _,_,_=>none
def N4 (ms:List Nat) (os:List Oper) :Nat->Nat->List Nat
 | 0,_=>[]
 | k+1,done=>match Nk done false 0 ms os with
  | some i=>i::N4 ms os k (Nat.lor done (2 ^ i))
  | none=>match Nk done true 0 ms os with
   | some i=>i::N4 ms os k (Nat.lor done (2 ^ i))
   | none=>[]
def fU (ms:List Nat) (ops:Array Oper) :List Nat:=N4 ms ops.toList ops.size 0
def E4 (p:Nat->Oper->Bool) :Nat->List Oper->Bool
 | _,[]=>true
 | i,o::os=>p i o&&E4 p (i+1) os
theorem Pk {p:Nat->Oper->Bool}:∀ (l:List Oper) (i:Nat),E4 p i l=true->∀ (j:Nat) (o:Oper),l[j]? = some o->p (i+j) o=true
 | [],i,_,j,o,h=>by simp at h
 | x::l,i,h,j,o,aj=>by
  simp only[E4,ar3] at h;cases j with
  | zero=>simp only[asw,Option.some.injEq] at aj; subst aj; exact h.1
  | succ j=>
   simp only[asP] at aj;have:=Pk l (i+1) h.2 j o aj
   rwa [show i+1+j=i+(j+1) by omega] at this
def JU (t:Nat) (o:Oper) :Bool:=match o.dst with | some d=>Nat.beq d t | none=>false
def zD (t:Nat) :Nat->List Oper->Option Nat
 | _,[]=>none
 | i,o::os=>match JU t o with
  | true=>some i
  | false=>zD t (i+1) os
def JS (ms:List Nat) (ops:Array Oper) :Bool:=
 E4 (fun i o=>
  Nat.beq (ms.getD i 0) (v1 ms o.after.toList) &&
  (o.after.toList.all fun e=>!Region.binds .any e||Nat.blt e.on i) &&
  (match o.dst with | some d=>(match zD d 0 ops.toList with | some j=>Nat.beq j i | none=>false) | none=>true) &&
  ((o.looksAt ops).all fun t=>match zD t 0 ops.toList with | some j=>pL ms i j||pL ms j i||Nat.beq j i | none=>true)) 0 ops.toList &&
 Region.noSelect ops
def H8 (ms:List Nat) :List Nat->Bool
 | []=>true
 | i::r=>(r.all fun j=>!Nat.beq i j&&!pL ms i j)&&H8 ms r
def M8 (ms:List Nat) (ops:Array Oper) (kY:List Nat) :Bool:=
 JS ms ops&&H8 ms kY&&Nat.beq kY.length ops.size&&(kY.all fun i=>Nat.blt i ops.size)&&(List.range ops.size).all fun i=>kY.contains i
structure XM where
 t:bV
 s:O5
 h:a6
section
variable (P:Program) (G:Nat->ad)
end
theorem JZ (ms:List Nat) (j:Nat) :∀ (es:List Edge),BL (v1 ms es) j=true->∃ e∈es,Region.binds .any e=true/\(e.on=j\/pL ms e.on j=true)
 | [],h=>by simp[v1,BL] at h
 | e::es,h=>by
  unfold v1 at h;cases ag:Region.binds .any e with
  | false=>
   rw[ag] at h;obtain⟨fE,h1,ae⟩:=JZ ms j es h;exact⟨fE,auS _ h1,ae⟩
  | true=>
   rw[ag] at h;simp only[BL] at h;have h' : Nat.testBit ((2 ^ e.on ||| ms.getD e.on 0) ||| v1 ms es) j=true:=h;rw[Nat.testBit_or,Nat.testBit_or,atZ,atZ,Nat.testBit_two_pow] at h';rcases h' with (h' | h') | h'
   ·exact⟨e,au3,ag,.inl (by simpa using h')⟩
   ·exact⟨e,au3,ag,.inr h'⟩
   ·obtain⟨fE,h1,ae⟩:=JZ ms j es h';exact⟨fE,auS _ h1,ae⟩
theorem Xs (t:Nat) :∀ (l:List Oper) (i:Nat),zD t i l=((List.range l.length).find? fun j=>match l[j]? with | some o=>o.dst == some t | none=>false).map (·+i)
 | [],i=>by simp[zD]
 | o::l,i=>by
  unfold zD;have acP:JU t o=(o.dst == some t) :=by
   unfold JU;cases o.dst with
   | none=>rfl
   | some d=>
    by_cases h:d=t
    ·subst h; simp
    ·have:Nat.beq d t=false:=lm h;simp[this,h]
  rw[acP,asp,List.range_succ_eq_map,auR];simp only[asw];cases ag:(o.dst == some t) with
  | true=>simp
  | false=>
   simp only[List.find?_map];rw[Xs t l (i+1)];have:((fun j=>match (o::l)[j]? with | some o=>o.dst == some t | none=>false) ∘ Nat.succ)=fun j=>match l[j]? with | some o=>o.dst == some t | none=>false:=by
    funext j; simp
   rw[this];cases (List.range l.length).find? (fun j=>match l[j]? with | some o=>o.dst == some t | none=>false) with
   | none=>rfl
   | some j=>simp; omega
theorem Xr (ops:Array Oper) (t:Nat) :zD t 0 ops.toList=kz ops t:=by
 rw[Xs];unfold kz;simp only[atX,at5,auQ,Option.map_id_fun',id_eq];congr 1
theorem Z8 {ms:List Nat} {ops:Array Oper} (h:JS ms ops=true) :tT ops (pL ms) :=by
 unfold JS at h;rw[ar3] at h;obtain⟨h,ak⟩:=h;have key:∀ (i:Nat) (o:Oper),ops[i]? = some o->_:=fun i o aq=>Pk _ 0 h i o (by simpa using aq)
 simp only[as8,ar3] at key;refine⟨fun i o e aq ao ag=>?_,fun i o j aq aC=>?_,fun i o t aq bN=>?_,fun i o t j aq aJ hw=>?_,ak⟩
 ·have:=(key i o aq).1.1.2;rw[asZ] at this;have:=this e (by simpa using ao);rw[ag] at this;simp only[Bool.not_true,aur] at this;simpa [avz] using this
 ·have:=ll (key i o aq).1.1.1;have gy:BL (ms.getD i 0) j=true:=aC;rw[this] at gy;obtain⟨e,h1,ae⟩:=JZ ms j _ gy;exact⟨e,by simpa using h1,ae⟩
 ·have:=(key i o aq).1.2;rw[bN] at this;simp only at this;rw[Xr] at this;cases hw:kz ops t with
  | none=>rw[hw] at this; cases this
  | some j=>rw[hw] at this; simp only at this; rw[ll this]
 ·have:=(key i o aq).2;rw[asZ] at this;have:=this t aJ;rw[Xr,hw] at this;simp only[atZ] at this;rcases this with (h1 | h1) | h1
  ·exact .inl h1
  ·exact .inr (.inl h1)
  ·exact .inr (.inr (ll h1))
theorem H9 {ms:List Nat}:∀ {l:List Nat},H8 ms l=true->∀ (p bZ:Nat) (i j:Nat),l[p]? = some i->l[bZ]? = some j->p<bZ->i≠j/\pL ms i j=false
 | [],_,p,bZ,i,j,ax,_,_=>by simp at ax
 | x::l,h,p,bZ,i,j,ax,aj,aM=>by
  simp only[H8,ar3,asZ] at h;cases bZ with
  | zero=>omega
  | succ bZ=>
   simp only[asP] at aj;cases p with
   | zero=>
    simp only[asw,Option.some.injEq] at ax;subst ax;have:=h.1 j (ar4 aj);simp only[atp] at this;refine⟨fun ao=>?_,this.2⟩;subst ao;rw[u6 rfl] at this;cases this.1
   | succ p=>
    simp only[asP] at ax;exact H9 h.2 p bZ i j ax aj (by omega)
section
variable {P:Program} {G:Nat->ad}
structure alE (P:Program) (G:Nat->ad) (ops:Array Oper) (e:XM) :Prop where
 step:xP P G ops ⟨look e.s,e.h⟩ e.t
 pure:∀ i v,e.t=.pure i v->∃ o,ops[i]? = some o/\afu o.op=true/\df P e.h (dR G (look e.s)) o.op=some (.val v e.h)
theorem IE {ops:Array Oper} {s0:kC} {t:bV} {tr:List bV} (p:Nat) :hc ops s0 (t::tr) (p+1)=hc ops (m6 ops s0 t) tr p:=by
 simp[hc]
end

section
variable {P:Program} {G:Nat->ad}
theorem ail (w:World) (R:Nat->Prop) (gu:∀ k,w.heap.size<=k->R k) :cc R w.heap.size w a6.empty (fun _=>none) where
 blk:=fun b m hm=>by cases hm
 inj:=fun b bw m cD am=>by rw[FC] at am; cases am
 base:=fun b m am=>by rw[FC] at am; cases am
 fresh:=fun b _=>FC b
 up:=gu
 size:=ar0 _
 lT:=fun b _=>rfl
theorem Uy (μ:cR) (k:Nat) :¬ mF a6.empty μ k:=by
 rintro⟨b,m,am,_⟩;rw[FC] at am; cases am
theorem OB (n2:P.follows .mixedOrders=true) (ma:∀ g,(G g).closed=true) {f:FuncId} {args:List ad} {r:ad} {h' : a6} (ao:dL P G (.call f args a6.empty r h'))
  {w:World} {A:Nat->Prop} {vs:Array Value} (ar:∀ g,fO w A (G g) (.pointer (some ⟨g,0,none⟩))) (am:vs.size=args.length)
  (aw:∀ (j:Nat) (c:ad) (v:Value),args[j]? = some c->vs[j]? = some v->fO w A c v) :
  Calls P f vs w fun e w'=>∃ v μ',e=.returned v/\zH w w'/\cc (fun k=>A k\/w.heap.size<=k) w.heap.size w' h' μ'/\aS w' (fun k=>A k\/w.heap.size<=k) h' μ' r v:=by
 have up:∀ {c:ad} {v:Value},fO w A c v->aS w (fun k=>A k\/w.heap.size<=k) a6.empty (fun _=>none) c v:=fun ah=>ah.up (fun k _ hk=>⟨.inl hk,Uy _ k⟩)
 refine (ajn n2 ma ao (fun k=>A k\/w.heap.size<=k) w.heap.size w (fun _=>none) vs (ail w _ fun k hk=>.inr hk) (fun g=>⟨ma g,up (ar g)⟩) am (fun j c v aj fG=>up (aw j c v aj fG))).mono ?_;rintro e w' ⟨v,μ',rfl,ex,rel,aA⟩;exact⟨v,μ',rfl,⟨⟨ex.os,ex.tape,ex.output,ex.size,fun k hk=>ex.cy k hk (Uy _ k)⟩,ex.drawn⟩,rel,aA⟩
theorem aj3 (n2:P.follows .mixedOrders=true) (ma:∀ g,(G g).closed=true) {f:FuncId} {args:List ad} {h' : a6} (ao:dL P G (.call f args a6.empty (.bool true) h'))
  {w:World} {A:Nat->Prop} {vs:Array Value} (ar:∀ g,fO w A (G g) (.pointer (some ⟨g,0,none⟩))) (am:vs.size=args.length)
  (aw:∀ (j:Nat) (c:ad) (v:Value),args[j]? = some c->vs[j]? = some v->fO w A c v) :
  Calls P f vs w fun e w'=>e=.returned (.bool true)/\RowKit.Below w.heap.size w w':=by
 refine (OB n2 ma ao ar am aw).mono ?_;rintro e w' ⟨v,μ',rfl,ag,_,aA⟩;cases aA;exact⟨rfl,ag.toBelow⟩
end

section
variable {α:Type}
theorem xq:∀ (k k' : Nat) (t:c2 α) (n:Nat) (x:α),n<k->n<k'->t.lq k n x=t.lq k' n x
 | 0,_,_,_,_,h,_=>by omega
 | _+1,0,_,_,_,_,h=>by omega
 | k+1,k'+1,t,n,x,h,h'=>by
  by_cases aB:n=0
  ·subst aB;cases t<;>rfl
  ·have ag:Nat.beq n 0=false:=lm aB;cases t with
   | nil=>
    unfold c2.lq;simp only[ag];rw[xq k k' .nil (n / 2) x (by omega) (by omega),xq k k' .nil (n / 2 - 1) x (by omega) (by omega)]
   | node l v r=>
    unfold c2.lq;simp only[ag];rw[xq k k' l (n / 2) x (by omega) (by omega),xq k k' r (n / 2 - 1) x (by omega) (by omega)]
def c2.lt:c2 α->c2 α | .nil=>.nil | .node l _ _=>l
def c2.rt:c2 α->c2 α | .nil=>.nil | .node _ _ r=>r
def c2.mid:c2 α->Option α | .nil=>none | .node _ v _=>v
theorem sl (t:c2 α) (x:α) :t.set 0 x=.node t.lt (some x) t.rt:=by cases t<;>rfl
theorem oi (t:c2 α) (m:Nat) (x:α) :t.set (2*m+1) x=.node (t.lt.set m x) t.mid t.rt:=by
 have h1:Nat.beq (2*m+1) 0=false:=lm (by omega);have ae:Nat.beq ((2*m+1) % 2) 1=true:=u6 (by omega);have al:(2*m+1) / 2=m:=by omega
 cases t with
 | nil=>show c2.lq (2*m+1+1) .nil (2*m+1) x=_; unfold c2.lq; simp only[h1,ae,al]; rw[xq _ (m+1) _ _ _ (by omega) (by omega)]; rfl
 | node l v r=>show c2.lq (2*m+1+1) (.node l v r) (2*m+1) x=_; unfold c2.lq; simp only[h1,ae,al]; rw[xq _ (m+1) _ _ _ (by omega) (by omega)]; rfl
theorem oh (t:c2 α) (m:Nat) (x:α) :t.set (2*m+2) x=.node t.lt t.mid (t.rt.set m x) :=by
 have h1:Nat.beq (2*m+2) 0=false:=lm (by omega);have ae:Nat.beq ((2*m+2) % 2) 1=false:=lm (by omega);have al:(2*m+2) / 2 - 1=m:=by omega
 cases t with
 | nil=>show c2.lq (2*m+2+1) .nil (2*m+2) x=_; unfold c2.lq; simp only[h1,ae,al]; rw[xq _ (m+1) _ _ _ (by omega) (by omega)]; rfl
 | node l v r=>show c2.lq (2*m+2+1) (.node l v r) (2*m+2) x=_; unfold c2.lq; simp only[h1,ae,al]; rw[xq _ (m+1) _ _ _ (by omega) (by omega)]; rfl
theorem MY (n:Nat) :n=0\/(∃ m,m<n/\n=2*m+1)\/∃ m,m<n/\n=2*m+2:=by
 rcases Nat.eq_zero_or_pos n with h | h
 ·exact .inl h
 ·rcases Nat.mod_two_eq_zero_or_one n with ae | ae
  ·exact .inr (.inr ⟨n / 2 - 1,by omega,by omega⟩)
  ·exact .inr (.inl ⟨n / 2,by omega,by omega⟩)
theorem aiY (n:Nat) :∀ (t:c2 α) (x y:α),(t.set n x).set n y=t.set n y:=by
 induction n using Nat.strongRecOn with
 | _ n aO=>
  intro t x y;rcases MY n with rfl | ⟨m,hm,rfl⟩ | ⟨m,hm,rfl⟩
  ·rw[sl t x,sl t y,sl]; rfl
  ·rw[oi t,oi t,oi]; simp only[c2.lt,c2.mid,c2.rt,aO m hm]
  ·rw[oh t,oh t,oh]; simp only[c2.lt,c2.mid,c2.rt,aO m hm]
theorem set_comm (n:Nat) :∀ (t:c2 α) (k:Nat) (x y:α),n≠k->(t.set n x).set k y=(t.set k y).set n x:=by
 induction n using Nat.strongRecOn with
 | _ n aO=>
  intro t k x y bU;rcases MY n with rfl | ⟨m,hm,rfl⟩ | ⟨m,hm,rfl⟩<;>rcases MY k with rfl | ⟨j,aj,rfl⟩ | ⟨j,aj,rfl⟩
  ·exact absurd rfl bU
  ·rw[sl t,oi,oi t,sl]; rfl
  ·rw[sl t,oh,oh t,sl]; rfl
  ·rw[oi t,sl,sl t,oi]; rfl
  ·rw[oi t,oi,oi t,oi]; simp only[c2.lt,c2.mid,c2.rt]; rw[aO m hm _ j _ _ (by omega)]
  ·rw[oi t,oh,oh t,oi]; rfl
  ·rw[oh t,sl,sl t,oh]; rfl
  ·rw[oh t,oi,oi t,oh]; rfl
  ·rw[oh t,oh,oh t,oh]; simp only[c2.lt,c2.mid,c2.rt]; rw[aO m hm _ j _ _ (by omega)]
end
abbrev ap:=List aY
def mh:Nat->c2 aY->ap->c2 aY
 | _,t,[]=>t
 | i,t,c::cs=>mh (i+1) (t.set i c) cs
def b8 (l:ap) :a6:=⟨l.length,mh 0 .nil l⟩
@[simp] theorem zI (l:ap) :(b8 l).n=l.length:=rfl
theorem SK:∀ (l:ap) (i:Nat) (t:c2 aY) (c:aY),mh i t (l++[c])=(mh i t l).set (i+l.length) c
 | [],i,t,c=>rfl
 | x::l,i,t,c=>by
  simp only[as5,mh,asp];rw[SK l,show i+1+l.length=i+(l.length+1) by omega]
theorem ng (l:ap) (c:aY) :(b8 l).push c=b8 (l++[c]) :=by
 unfold b8 a6.push;rw[SK];simp
theorem SN:∀ (l:ap) (i j:Nat) (t:c2 aY) (c:aY),i<j->(mh j t l).set i c=mh j (t.set i c) l
 | [],_,_,_,_,_=>rfl
 | x::l,i,j,t,c,h=>by
  simp only[mh];rw[SN l i (j+1) _ c (by omega),set_comm j t i x c (by omega)]
theorem SM:∀ (l:ap) (i b:Nat) (t:c2 aY) (c:aY),b<l.length->(mh i t l).set (i+b) c=mh i t (l.set b c)
 | [],_,_,_,_,h=>by simp at h
 | x::l,i,0,t,c,_=>by
  simp only[mh,at9,auQ];rw[SN l i (i+1) _ c (by omega),aiY]
 | x::l,i,b+1,t,c,h=>by
  simp only[mh,auy];rw[<-SM l (i+1) b _ c (by simpa using h),show i+(b+1)=i+1+b by omega]
theorem o7 {l:ap} {b:Nat} (c:aY) (h:b<l.length) :(b8 l).set b c=b8 (l.set b c) :=by
 unfold b8 a6.set;have:=SM l 0 b .nil c h;rw[as8] at this;simp only[this,auu]
theorem SL:∀ (l:ap) (i:Nat) (t:c2 aY) (b:Nat),(mh i t l).get b=if i<=b/\b<i+l.length then l[b - i]? else t.get b
 | [],i,t,b=>by simp only[mh,asU]; rw[if_neg (by omega)]
 | x::l,i,t,b=>by
  simp only[mh,asp];rw[SL l,c2.Ko];by_cases h1:i+1<=b/\b<i+1+l.length
  ·rw[if_pos h1,if_pos (by omega),show b - i=(b - (i+1))+1 by omega,asP]
  ·rw[if_neg h1];by_cases ae:b=i
   ·subst ae; rw[if_pos rfl,if_pos (by omega)]; simp
   ·rw[if_neg ae,if_neg (by omega)]
theorem o6 (l:ap) (b:Nat) :(b8 l).f b=match l[b]? with | some c=>c | none=>.none:=by
 unfold b8 a6.f;simp only[SL,ato,true_and,as8,auT];by_cases h:b<l.length
 ·rw[if_pos h]; cases l[b]?<;>rfl
 ·rw[if_neg h,ase (by omega)]; rfl
theorem ly {l:ap} {b n:Nat} {cs:List ad}:(b8 l).f b=.cells n cs<->l[b]? = some (.cells n cs) :=by
 rw[o6];cases h:l[b]? with
 | none=>simp
 | some c=>simp
theorem e7 {l:ap} {b:Nat} {c:aY} (h:l[b]? = some c) :b<l.length:=(arY.1 h).1
def eZ (l:ap) :ad->Option (List ad × Nat)
 | .ptr b off sz=>match l[b]? with
  | some (.cells n cs)=>if n=sz then some (cs,off) else none
  | _=>none
 | .b0 cs off=>some (cs,off)
 | _=>none
def vc (n:Nat) (cs:List ad) (off:Nat) :Option ad:=if off+n<=cs.length then some (.aI ((cs.drop off).take n)) else none
def kw (n:Nat) (l:ap) (p v:ad) :Option ap:=
 match p,v.cells with
 | .ptr b off sz,some vs=>match l[b]? with
  | some (.cells m cs)=>if m=sz/\vs.length=n/\off+n<=m then some (l.set b (.cells m (bt cs off vs))) else none
  | _=>none
 | _,_=>none
def dA (l:ap) (z:Nat) :ad->Option (List ad × Nat)
 | .aV=>some ([],0)
 | .cq en es=>if z=en then some (es.flatten,es.length) else none
 | .au en b off len _ sz=>match l[b]? with
  | some (.cells n cs)=>if n=sz/\z=en then some ((cs.drop off).take (len*z),len) else none
  | _=>none
 | .str s=>if z=1 then some (s.map jS,s.length) else none
 | _=>none
def jm (l:ap) (z by_:Nat) (s:ad) (xs:List ad) (n:Nat) :Option (ad × ap) :=
 if n=0 then (match s with | .aV | .cq .. | .au ..=>some (s,l) | _=>none)
 else if z=0\/by_=0 then none else match s with
  | .aV=>if n*by_<=cK then some (.au z l.length 0 n n (n*z),l++[.cells (n*z) xs]) else none
  | .au en b off len cap sz=>match l[b]? with
   | some (.cells m cs)=>
    if m=sz/\z=en/\(len+n)*by_<=cK then
     if len+n<=cap then some (.au z b off (len+n) cap sz,l.set b (.cells m (bt cs (off+len*z) xs)))
     else if off+cap*z<sz then some (.au z l.length 0 (len+n) (len+n) ((len+n)*z),l++[.cells ((len+n)*z) ((cs.drop off).take (len*z)++xs)])
     else if off=0 then some (.au z b 0 (len+n) (len+n) ((len+n)*z),l.set b (.cells ((len+n)*z) (cs.take (len*z)++xs)))
     else some (.au z l.length 0 (len+n) (len+n) ((len+n)*z),l.set b .dead++[.cells ((len+n)*z) ((cs.drop off).take (len*z)++xs)])
    else none
   | _=>none
  | _=>none
def Cv (z:Nat) (l:ap) (d x:ad) :Option (ad × ap) :=
 match dA l z x with
 | none=>none
 | some (xs,n)=>match d with
  | .aV=>some (.int .i64 0,l)
  | .au en b off len _ sz=>match l[b]? with
   | some (.cells m cs)=>if m=sz/\z=en then some (.int .i64 ((min n len:Nat) :Int),l.set b (.cells m (bt cs off (xs.take (min n len*z))))) else none
   | _=>none
  | _=>none
def tv (l:ap) :ad->Option (List (ad × ad × Nat))
 | .iE=>some []
 | .mp b=>match l[b]? with | some (.map es _)=>some es | _=>none
 | _=>none
def rr (l:ap) (x:ad) :Option (List UInt8) :=match x with
 | .str s=>some s
 | x=>match dA l 1 x with
  | some (cs,_)=>ow cs
  | none=>none
def cmpL (l:ap) (x y:ad) :Option ad:=match rr l x,rr l y with
 | some a,some b=>some (.int .i64 (pg a b))
 | _,_=>none
def w9 (l:ap) (x:ad) :Option (ad × ap) :=match x with
 | .it b=>match l[b]? with
  | some (.iter s pos)=>match Nat.blt pos s.length with
   | true=>some (.bJ [.bool true,.int .i64 pos,.int .i32 (Utf8.decode ⟨s.toArray⟩ pos).1],l.set b (.iter s (pos+(Utf8.decode ⟨s.toArray⟩ pos).2)))
   | false=>some (.bJ [.bool false],l)
  | _=>none
 | _=>none
def En (l:ap) (x:ad) :Option (ad × ap) :=match x with
 | .str s=>some (.it l.length,l++[.iter s 0])
 | _=>none
def HI (l:ap) (x:ad) :Option ad:=match x with
 | .iE=>some (.int .i64 0)
 | .mp b=>match l[b]? with | some (.map es _)=>some (.int .i64 es.length) | _=>none
 | _=>none
def uj (zero:List ad) (l:ap) :ad->Option ap
 | .aV=>some l
 | .cq _ []=>some l
 | .au z b off len _ sz=>if len=0 then some l else match l[b]? with
  | some (.cells m cs)=>if m=sz/\zero.length=z then some (l.set b (.cells m (bt cs off (dZ zero len)))) else none
  | _=>none
 | _=>none
theorem NC (l:ap) (p:ad) :reach (b8 l) p=eZ l p:=by
 cases p<;>try rfl
 rename_i b off sz;simp only[reach,eZ,o6];cases l[b]? with
 | none=>rfl
 | some c=>cases c<;>rfl
theorem Cu (l:ap) (z:Nat) (x:ad) :contents (b8 l) z x=dA l z x:=by
 cases x<;>try rfl
 rename_i en b off len cap sz;simp only[contents,dA,o6];cases l[b]? with
 | none=>rfl
 | some c=>cases c<;>rfl
section
variable (P:Program)
inductive kD where
 | arr (n z:Nat)
 | au (z:Nat)
 | str
 deriving DecidableEq
def pT (t:TypeId) :Option kD:=match P.underlying t with
 | some (.array n e)=>(cG P e).map fun z=>.arr n z
 | some (.slice e)=>(cG P e).map fun z=>.au z
 | some .string=>some .str
 | _=>none
inductive eJ where
 | gO (x:Operand)
 | pick (c a b:Operand)
 | alloc (zero:List ad)
 | box (x:Operand)
 | Ff (zero:List ad) (cT:List (Nat × Nat × Operand))
 | vL (z:Nat) (zero:List ad) (len:Nat) (cT:List (Nat × Operand))
 | ld1 (a:Operand)
 | y5 (n:Nat) (a:Operand)
 | st (n:Nat) (a x:Operand)
 | HZ (x:Operand)
 | bin (o:BinOp) (t:TypeId) (x y:Operand)
 | un (o:UnOp) (x:Operand)
 | Cn (k:IntKind) (x:Operand)
 | Cx (x:Operand)
 | xT (x:Operand)
 | Cw (x:Operand)
 | D0 (t:TypeId) (x:Operand)
 | ED (t:TypeId) (z:ad) (ok:Bool) (x:Operand)
 | DZ (f:FuncId) (first gJ:List Operand)
 | w7 (z by_:Nat) (zero:List ad) (l c:Operand)
 | slice (dX:kD) (x:Operand) (c0 ax cX:Option Operand)
 | FK (off:Nat) (x:Operand)
 | FQ (off:Nat) (x:Operand)
 | FR (n off:Nat) (x:Operand)
 | DI (dX:kD) (x i:Operand)
 | Hv (n z:Nat) (x i:Operand)
 | Hw (n z:Nat) (x i:Operand)
 | HB (x i:Operand)
 | ext (x:Operand) (i:Nat)
 | len (dX:kD) (x:Operand)
 | cap (dX:kD) (x:Operand)
 | app (z by_:Nat) (s x:Operand)
 | zO (z by_:Nat) (zero:List ad) (s x:Operand)
 | Aa (z:Nat) (d x:Operand)
 | z6 (zero:List ad) (x:Operand)
 | min (x y:Operand)
 | max (x y:Operand)
 | zd (x:Option Operand)
 | DV (dD:TypeId) (zero:ad) (ok:Bool) (m k:Operand)
 | Bo (dD:TypeId) (m k x:Operand)
 | Bj (x:Operand)
 | BD (x:Operand)
 | Br (x:Operand)
 | cu (f:FuncId) (x9 x y:Operand)
 | stop
def y8 (l:ap) (dD:TypeId) (zero:ad) (ok:Bool) (m k:ad) :Option ad:=
 match tv l m with
 | some es=>match nx P dD k with
  | false=>none
  | true=>match lF P dD k es 0 with
   | some (some (_,v))=>some (if ok then .bJ [v,.bool true] else v)
   | some none=>some (if ok then .bJ [zero,.bool false] else zero)
   | none=>none
 | none=>none
def u4 (l:ap) (dD:TypeId) (m k v:ad) :Option ap:=
 match m with
 | .mp b=>match l[b]? with
  | some (.map es fl)=>match nx P dD k with
   | false=>none
   | true=>match lF P dD k es 0 with
    | some (some (i,_))=>some (l.set b (.map (es.modify i fun e=>(k,v,e.2.2)) fl))
    | some none=>some (l.set b (.map (es++[(k,v,fl)]) (fl+1)))
    | none=>none
  | _=>none
 | _=>none
def Hu (f:FuncId) :ad->Bool | .fn g [] []=>Nat.beq g f | _=>false
def Ib (c a b:ad) :Option ad:=match c with | .bool t=>some (if t then a else b) | _=>none
def Bp (x:ad) :Option ad:=match x with | .ptr b o s=>some (.ptr b o s) | .b0 c o=>some (.b0 c o) | .fn f a b=>some (.fn f a b) | _=>none
def rq (zero:List ad) :List (Nat × Nat × ad)->Option (List ad)
 | []=>some zero
 | (off,size,v) ::r=>match v.cells with
  | some vs=>if vs.length=size/\off+size<=zero.length then rq (bt zero off vs) r else none
  | none=>none
def Fp (k:IntKind) :ad->Option ad | .int _ n=>some (.int k (k.wrap n)) | _=>none
def JR:ad->Option ad | .str s=>some (.str s) | _=>none
def xU (l:ap) (x:ad) :Option ad:=match x with
 | .aV=>some (.str [])
 | .str _=>none
 | x=>match dA l 1 x with | some (cs,_)=>(ow cs).map .str | none=>none
def x1:ad->Option ad | .str s=>some (.cq 1 (s.map fun b=>[jS b])) | _=>none
def u5 (z by_:Nat) (zero:List ad) (am:ap) (l c:ad) :Option (ad × ap) :=match l,c with
 | .int _ l,.int _ c=>if 0<=l/\l<=c/\c<9223372036854775808/\by_*c<=cK then
   some (.au z am.length 0 l.toNat c.toNat (c.toNat*z),am++[.cells (c.toNat*z) (dZ zero c.toNat)]) else none
 | _,_=>none
def gS (dX:kD) (x:ad) (c0 ax cX:Option ad) :Option ad:=
 match dX with
 | .arr n z=>match g1 n n c0 ax cX with
  | some (l,aH,m)=>match x with
   | .ptr b off sz=>if off+m*z<=sz then (if m=l then some (.cq z []) else some (.au z b (off+l*z) (aH - l) (m - l) sz)) else none
   | .b0 cs off=>if off+n*z<=cs.length then some (.cq z (pe z (aH - l) (cs.drop (off+l*z)))) else none
   | _=>none
  | none=>none
 | .au z=>match x with
  | .au en b off len cap sz=>if z=en then (g1 len cap c0 ax cX).map fun (l,aH,m)=>if m=l then .au z b (off+l*z) 0 0 sz else .au z b (off+l*z) (aH - l) (m - l) sz else none
  | .cq en es=>if z=en then (g1 es.length es.length c0 ax cX).map fun (l,aH,_)=>.cq z ((es.drop l).take (aH - l)) else none
  | .aV=>(g1 0 0 c0 ax cX).map fun _=>.aV
  | _=>none
 | .str=>match x,cX with
  | .str s,none=>(g1 s.length s.length c0 ax none).map fun (l,aH,_)=>.str ((s.drop l).take (aH - l))
  | _,_=>none
def FS (off:Nat) :ad->Option ad | .aI cs=>cs[off]? | _=>none
def CJ (n off:Nat) :ad->Option ad | .aI cs=>vc n cs off | _=>none
def cd (dX:kD) (x iT:ad) :Option ad:=
 match iT with
 | .int _ i=>match dX with
  | .arr n z=>if 0<=i/\i<n then oy x (i.toNat*z) else none
  | .au z=>match x with
   | .au en b off len _ sz=>if z=en/\0<=i/\i<len then some (.ptr b (off+i.toNat*z) sz) else none
   | .cq en es=>if z=en/\0<=i then (es[i.toNat]?).map fun cs=>.b0 cs 0 else none
   | _=>none
  | .str=>none
 | _=>none
def Hy (n z:Nat) (x iT:ad) :Option ad:=match x,iT with
 | .aI cs,.int _ i=>if 0<=i/\i<n then cs[i.toNat*z]? else none
 | _,_=>none
def Hz (n z:Nat) (x iT:ad) :Option ad:=match x,iT with
 | .aI cs,.int _ i=>if 0<=i/\i<n then vc z cs (i.toNat*z) else none
 | _,_=>none
def Bg (x iT:ad) :Option ad:=match x,iT with
 | .str s,.int _ i=>if 0<=i then (s[i.toNat]?).map jS else none
 | _,_=>none
def FI (x:ad) (i:Nat) :Option ad:=match x with | .bJ vs=>vs[i]? | _=>none
def cz (dX:kD) (x:ad) :Option ad:=match dX with
 | .arr n _=>some (.int .i64 n)
 | .au _=>match x with
  | .aV=>some (.int .i64 0)
  | .au _ _ _ len _ _=>some (.int .i64 len)
  | .cq _ es=>some (.int .i64 es.length)
  | _=>none
 | .str=>match x with | .str s=>some (.int .i64 s.length) | _=>none
def vO (dX:kD) (x:ad) :Option ad:=match dX with
 | .arr n _=>some (.int .i64 n)
 | .au _=>match x with | .aV=>some (.int .i64 0) | _=>none
 | .str=>none
def i1 (l:ap) (z by_:Nat) (s x:ad) :Option (ad × ap) :=match dA l z x with
 | none=>none
 | some (xs,n)=>jm l z by_ s xs n
def sG (l:ap) (z by_:Nat) (zero:List ad) (s x:ad) :Option (ad × ap) :=match x with
 | .int _ n=>if 0<=n/\n<9223372036854775808/\n.toNat*by_<=cK then jm l z by_ s (dZ zero n.toNat) n.toNat else none
 | _=>none
def dV (l:ap) (x:Option ad) :Option (ad × ap) :=x.map fun v=>(v,l)
def b5 (aG:Operand->ad) (l:ap) :eJ->Option (ad × ap)
 | .gO x=>some (aG x,l)
 | .pick c a b=>dV l (Ib (aG c) (aG a) (aG b))
 | .alloc zero=>some (.ptr l.length 0 zero.length,l++[.cells zero.length zero])
 | .box x=>(aG x).cells.map fun cs=>(.ptr l.length 0 cs.length,l++[.cells cs.length cs])
 | .Ff zero cT=>dV l ((rq zero (cT.map fun p=>(p.1,p.2.1,aG p.2.2))).map .aI)
 | .vL z zero len cT=>(h9 (fun i=>some (i*z,z)) (dZ zero len) (cT.map fun p=>(p.1,aG p.2))).map fun cs=>(.au z l.length 0 len len (len*z),l++[.cells (len*z) cs])
 | .ld1 a=>dV l ((eZ l (aG a)).bind fun x=>x.1[x.2]?)
 | .y5 n a=>dV l ((eZ l (aG a)).bind fun x=>vc n x.1 x.2)
 | .st n a x=>(kw n l (aG a) (aG x)).map fun l'=>(jg,l')
 | .HZ x=>dV l (Bp (aG x))
 | .bin o t x y=>dV l (gq P o t (aG x) (aG y))
 | .un o x=>dV l (so o (aG x))
 | .Cn k x=>dV l (Fp k (aG x))
 | .Cx x=>dV l (JR (aG x))
 | .xT x=>dV l (xU l (aG x))
 | .Cw x=>dV l (x1 (aG x))
 | .D0 t x=>some (.hu t (aG x),l)
 | .ED t z ok x=>dV l (EE t z ok (aG x))
 | .DZ f a b=>some (.fn f (a.map aG) (b.map aG),l)
 | .w7 z by_ zero a c=>u5 z by_ zero l (aG a) (aG c)
 | .slice dX x c0 ax cX=>dV l (gS dX (aG x) (c0.map aG) (ax.map aG) (cX.map aG))
 | .FK off x=>dV l (oy (aG x) off)
 | .FQ off x=>dV l (FS off (aG x))
 | .FR n off x=>dV l (CJ n off (aG x))
 | .DI dX x i=>dV l (cd dX (aG x) (aG i))
 | .Hv n z x i=>dV l (Hy n z (aG x) (aG i))
 | .Hw n z x i=>dV l (Hz n z (aG x) (aG i))
 | .HB x i=>dV l (Bg (aG x) (aG i))
 | .ext x i=>dV l (FI (aG x) i)
 | .len dX x=>dV l (cz dX (aG x))
 | .cap dX x=>dV l (vO dX (aG x))
 | .app z by_ s x=>i1 l z by_ (aG s) (aG x)
 | .zO z by_ zero s x=>sG l z by_ zero (aG s) (aG x)
 | .Aa z d x=>Cv z l (aG d) (aG x)
 | .z6 zero x=>(uj zero l (aG x)).map fun l'=>(.bJ [],l')
 | .min x y=>dV l (DY (aG x) (aG y))
 | .max x y=>dV l (w5 (aG x) (aG y))
 | .zd x=>match x with
  | none=>some (.mp l.length,l++[.map [] 0])
  | some o=>match asInt (aG o) with | some _=>some (.mp l.length,l++[.map [] 0]) | none=>none
 | .DV dD zero ok m k=>dV l (y8 P l dD zero ok (aG m) (aG k))
 | .Bo dD m k x=>(u4 P l dD (aG m) (aG k) (aG x)).map fun l'=>(jg,l')
 | .Bj x=>dV l (HI l (aG x))
 | .BD x=>En l (aG x)
 | .Br x=>w9 l (aG x)
 | .cu f x9 x y=>match Hu f (aG x9) with | true=>dV l (cmpL l (aG x) (aG y)) | false=>none
 | .stop=>none
def Jx (t:TypeId) (cT:List (Nat × Operand)) :Option (List (Nat × Nat × Operand)) :=
 match P.underlying t with
 | some (.struct fs)=>if fs.toList.all fun f=>(cG P f.type).isSome then cT.mapM fun p=>(Ef P fs p.1).map fun q=>(q.1,q.2,p.2) else none
 | some (.array _ e)=>(cG P e).map fun n=>cT.map fun p=>(p.1*n,n,p.2)
 | _=>none
def vV (b:Builtin) (ts:List TypeId) (args:List Operand) :Option eJ:=
 match b,ts,args with
 | .len,[t],[x]=>match P.underlying t with
  | some (.map _ _)=>some (.Bj x)
  | _=>(pT P t).map fun dX=>.len dX x
 | .cap,[t],[x]=>(pT P t).map fun dX=>.cap dX x
 | .append,[t,u],[s,x]=>match P.underlying u with
  | some (.int _)=>(i2 P t).bind fun e=>(cG P e).bind fun z=>(jn P e).bind fun by_=>(h5 P e).bind fun zero=>
    if zero.length=z/\tS P e=some z then some (.zO z by_ zero s x) else none
  | none=>none
  | _=>(i2 P t).bind fun e=>(cG P e).bind fun z=>(jn P e).bind fun by_=>if tS P e=some z then some (.app z by_ s x) else none
 | .copy,[t,_],[d,x]=>(i2 P t).bind fun e=>(cG P e).map fun z=>.Aa z d x
 | .clear,[t],[x]=>match P.underlying t with
  | some (.slice e)=>(h5 P e).map fun zero=>.z6 zero x
  | _=>none
 | .min,_,[x,y]=>some (.min x y)
 | .max,_,[x,y]=>some (.max x y)
 | _,_,_=>none
def nO:Op->Option eJ
 | .move x | .assign x=>some (.gO x)
 | .pick c a b=>some (.pick c a b)
 | .alloc t=>(h5 P t).map .alloc
 | .box _ x=>some (.box x)
 | .build t cT=>(h5 P t).bind fun zero=>(Jx P t cT.toList).map fun q=>.Ff zero q
 | .buildSlice t len cT=>(i2 P t).bind fun e=>(cG P e).bind fun z=>(h5 P e).bind fun zero=>
   if zero.length=z/\len*z<=16777216 then some (.vL z zero len cT.toList) else none
 | .load t a=>match eA P t,cG P t with
  | some true,some n=>some (.y5 n a)
  | some false,_=>some (.ld1 a)
  | _,_=>none
 | .store t a x=>(cG P t).map fun n=>.st n a x
 | .nilCheck x=>some (.HZ x)
 | .binOp o t x y _=>some (.bin o t x y)
 | .unOp o _ x=>some (.un o x)
 | .convert s d x=>match P.underlying s,P.underlying d with
  | some _,some (.int k)=>some (.Cn k x)
  | some (.slice e),some .string=>match P.underlying e with
   | some (.int .u8)=>some (.xT x)
   | _=>none
  | some .string,some .string=>some (.Cx x)
  | some .string,some (.slice e)=>match P.underlying e with
   | some (.int .u8)=>some (.Cw x)
   | _=>none
  | _,_=>none
 | .makeInterface t x=>match P.underlying t with
  | some (.interface _) | none=>none
  | _=>some (.D0 t x)
 | .makeFunc (.func f) a b=>some (.DZ f a.toList b.toList)
 | .makeSlice t l c=>(i2 P t).bind fun e=>(cG P e).bind fun z=>(jn P e).bind fun by_=>(h5 P e).bind fun zero=>
   if zero.length=z then some (.w7 z by_ zero l c) else none
 | .slice t x c0 ax cX=>(pT P t).map fun dX=>.slice dX x c0 ax cX
 | .fieldAddr s x f=>(x8 P s f).bind fun fd=>match cG P fd.type with
  | some (_+1)=>some (.FK fd.offset x)
  | _=>none
 | .field t x f=>(x8 P t f).bind fun fd=>match eA P fd.type,cG P fd.type with
  | some true,some n=>some (.FR n fd.offset x)
  | some false,_=>some (.FQ fd.offset x)
  | _,_=>none
 | .indexAddr t x i=>match pT P t with
  | some (.arr n z)=>some (.DI (.arr n z) x i)
  | some (.au z)=>some (.DI (.au z) x i)
  | _=>none
 | .index t x i=>match P.underlying t with
  | some (.array n e)=>match cG P e,eA P e with
   | some z,some true=>some (.Hw n z x i)
   | some z,some false=>some (.Hv n z x i)
   | _,_=>none
  | some .string=>some (.HB x i)
  | _=>none
 | .extract x i=>some (.ext x i)
 | .call c=>match c.callee with
  | .builtin b=>vV P b c.argTypes.toList c.args.toList
  | .value (.func f)=>match P.funcs[f]?,c.args.toList with
   | some fn,[x,y]=>if DM fn then some (.cu f (.func f) x y) else none
   | _,_=>none
  | _=>none
 | .makeMap t r=>match P.underlying t with | some (.map _ _)=>some (.zd r) | _=>none
 | .lookup t m k ok=>match P.underlying t with | some (.map dD nk)=>(zF P nk).map fun z=>.DV dD z ok m k | _=>none
 | .mapUpdate t m k x | .insert t m k x=>match P.underlying t with | some (.map dD _)=>some (.Bo dD m k x) | _=>none
 | .range t x=>match P.underlying t with | some .string=>some (.BD x) | _=>none
 | .next it true=>some (.Br it)
 | .panic _=>some .stop
 | .typeAssert x _ t ok=>(II P t).map fun z=>.ED t z ok x
 | _=>none
end

section
variable {P:Program}
theorem bind_some {α kA:Type} {x:Option α} {f:α->Option kA} {y:kA}:x.bind f=some y<->∃ a,x=some a/\f a=some y:=by cases x<;>simp
theorem map_some {α kA:Type} {x:Option α} {f:α->kA} {y:kA}:x.map f=some y<->∃ a,x=some a/\f a=y:=by cases x<;>simp
theorem gR {l l' : ap} {x:Option ad} {v:ad}:dV l x=some (v,l')<->x=some v/\l'=l:=by cases x<;>simp[dV,eq_comm]
theorem iS {α:Type} {p:Prop} [Decidable p] {x y:α}:(if p then some x else none)=some y<->p/\x=y:=by by_cases p<;>simp_all
theorem Pu {l l' : ap} {e z by_ n:Nat} {s v:ad} {xs:List ad} (av:tS P e=some z) (h:jm l z by_ s xs n=some (v,l')) :vG P (b8 l) e z by_ s xs n=some (v,b8 l') :=by
 unfold jm at h;unfold vG;by_cases aF:n=0
 ·rw[if_pos aF] at h ⊢;cases s<;>simp at h ⊢<;>simp[h]
 ·rw[if_neg aF] at h ⊢;by_cases aB:z=0\/by_=0
  ·rw[if_pos aB] at h; cases h
  ·rw[if_neg aB] at h;rw[if_neg (by simp only[av]; simpa using aB)];cases s<;>simp only at h ⊢<;>try (cases h; done)
   case aV=>
    by_cases aA:n*by_<=cK
    ·rw[if_pos aA] at h ⊢; cases h; rw[ng]; rfl
    ·rw[if_neg aA] at h; cases h
   case au en b off len cap sz=>
    cases ag:l[b]? with
    | none=>rw[ag] at h; cases h
    | some c=>
     cases c<;>rw[ag] at h<;>(try simp only at h)<;>try (cases h; done)
     rename_i m cs;rw[ly.2 ag];simp only;by_cases h1:m=sz/\z=en/\(len+n)*by_<=cK
     ·rw[if_pos h1] at h ⊢;by_cases ae:len+n<=cap
      ·rw[if_pos ae] at h ⊢; cases h; rw[o7 _ (e7 ag)]
      ·rw[if_neg ae] at h ⊢;by_cases al:off+cap*z<sz
       ·rw[if_pos al] at h ⊢; cases h; rw[ng]; rfl
       ·rw[if_neg al] at h ⊢;by_cases aE:off=0
        ·rw[if_pos aE] at h ⊢; cases h; rw[o7 _ (e7 ag)]
        ·rw[if_neg aE] at h ⊢; cases h;rw[o7 _ (e7 ag),ng]; rfl
     ·rw[if_neg h1] at h; cases h
theorem YW {t:TypeId} {cT:List (Nat × Operand)} {q:List (Nat × Nat × Operand)} (bd:Jx P t cT=some q) (aG:Operand->ad) (zero:List ad) (av:h5 P t=some zero) {cs:List ad}
  (ag:rq zero (q.map fun p=>(p.1,p.2.1,aG p.2.2))=some cs) :Cg P t (cT.map fun p=>(p.1,aG p.2))=some (.aI cs) :=by
 have fill:∀ (lW:Nat->Option (Nat × Nat)) (cT:List (Nat × Operand)) (q:List (Nat × Nat × Operand)) (zero:List ad),
   (cT.mapM fun p=>(lW p.1).map fun q=>(q.1,q.2,p.2))=some q->rq zero (q.map fun p=>(p.1,p.2.1,aG p.2.2))=some cs->h9 lW zero (cT.map fun p=>(p.1,aG p.2))=some cs:=by
  intro lW cT
  induction cT with
  | nil=>intro q zero h1 ae; simp at h1; subst h1; simpa [rq,h9] using ae
  | cons p cT aO=>
   intro q zero h1 ae;rw[atO] at h1;simp only[Option.bind_eq_bind,bind_some,map_some,at0,Option.some.injEq] at h1;obtain⟨a,⟨fc,al,rfl⟩,fS,aE,rfl⟩:=h1;simp only[ast,rq,h9,al] at ae ⊢;split at ae
   ·rename_i vs aw;simp only[aw];split at ae
    ·rename_i aU;rw[if_pos aU];exact aO _ _ aE ae
    ·cases ae
   ·cases ae
 unfold Jx at bd;unfold Cg;split at bd
 ·rename_i fs aP;rw[av,aP];simp only;split at bd
  ·rename_i fg;rw[if_neg (by simp[fg])];rw[fill _ _ _ _ bd ag]; rfl
  ·cases bd
 ·rename_i n e aP;rw[map_some] at bd;obtain⟨hy,h1,rfl⟩:=bd;rw[av,aP];simp only[h1];rw[fill (fun i=>some (i*hy,hy)) cT _ zero ?_ ag]; rfl;clear ag
  induction cT with
  | nil=>rfl
  | cons p cT aO=>rw[atO,aO]; rfl
 ·cases bd
theorem ai4 {t:TypeId} {dX:kD} (aJ:pT P t=some dX) (x:ad) (c0 ax cX:Option ad) :gS dX x c0 ax cX=Ey P t x c0 ax cX:=by
 unfold pT at aJ;unfold Ey;split at aJ
 ·rename_i n e aP;rw[map_some] at aJ;obtain⟨z,h1,rfl⟩:=aJ;rw[aP]; simp only[h1,gS];cases g1 n n c0 ax cX<;>rfl
 ·rename_i e aP;rw[map_some] at aJ;obtain⟨z,h1,rfl⟩:=aJ;rw[aP]; simp only[h1,gS];cases x<;>rfl
 ·rename_i aP;cases aJ;rw[aP]; simp only[gS];cases x<;>cases cX<;>rfl
 ·cases aJ
theorem afY {t:TypeId} {dX:kD} (aJ:pT P t=some dX) {x v:ad} (h:cz dX x=some v) :y6 P t x=some v:=by
 unfold pT at aJ;unfold y6;split at aJ
 ·rename_i n e aP;rw[map_some] at aJ;obtain⟨z,h1,rfl⟩:=aJ;rw[aP]; simpa [cz] using h
 ·rename_i e aP;rw[map_some] at aJ;obtain⟨z,h1,rfl⟩:=aJ;rw[aP]; unfold cz at h; cases x<;>simp_all
 ·rename_i aP;cases aJ;rw[aP]; unfold cz at h; cases x<;>simp_all
 ·cases aJ
theorem Zm {t:TypeId} {dX:kD} (aJ:pT P t=some dX) {x v:ad} (h:vO dX x=some v) :zY P t x=some v:=by
 unfold pT at aJ;unfold zY;split at aJ
 ·rename_i n e aP;rw[map_some] at aJ;obtain⟨z,h1,rfl⟩:=aJ;rw[aP]; simpa [vO] using h
 ·rename_i e aP;rw[map_some] at aJ;obtain⟨z,h1,rfl⟩:=aJ;rw[aP]; unfold vO at h; cases x<;>simp_all
 ·rename_i aP;cases aJ;rw[aP]; unfold vO at h; cases x<;>simp_all
 ·cases aJ
theorem TI {t:TypeId} {dX:kD} (aJ:pT P t=some dX) {x i v:ad} (h:cd dX x i=some v) :DJ P t x i=some v:=by
 unfold pT at aJ;unfold DJ;unfold cd at h;cases i<;>(try simp only at h)<;>try (cases h; done)
 rename_i k i;split at aJ
 ·rename_i n e aP;rw[map_some] at aJ;obtain⟨z,h1,rfl⟩:=aJ;rw[aP]; simpa [asInt,h1] using h
 ·rename_i e aP;rw[map_some] at aJ;obtain⟨z,h1,rfl⟩:=aJ;rw[aP]; simp only[asInt,h1]; simp only at h;cases x<;>simp only at h ⊢<;>first | exact h | cases h
 ·rename_i aP;cases aJ;simp only at h;cases h
 ·cases aJ
theorem ajE {t:TypeId} {n:Nat} (ak:cG P t=some n) {l l' : ap} {p v:ad} (h:kw n l p v=some l') :BJ P (b8 l) t p v=some (b8 l') :=by
 unfold kw at h;unfold BJ;cases p<;>(try simp only at h)<;>try (cases h; done)
 rename_i b off sz;cases aw:v.cells with
 | none=>rw[aw] at h; cases h
 | some vs=>
  rw[aw] at h;simp only[ak] at h ⊢;cases ag:l[b]? with
  | none=>rw[ag] at h; cases h
  | some c=>
   cases c<;>rw[ag] at h<;>(try simp only at h)<;>try (cases h; done)
   rename_i m cs;rw[ly.2 ag];simp only;rw[iS] at h;obtain⟨h1,rfl⟩:=h;rw[if_pos h1,o7 _ (e7 ag)]
theorem ZT {t e:TypeId} {z:Nat} (ao:i2 P t=some e) (ak:cG P e=some z) {l l' : ap} {d x v:ad} (h:Cv z l d x=some (v,l')) :z8 P (b8 l) t d x=some (v,b8 l') :=by
 unfold Cv at h;unfold z8;rw[ao]; simp only[ak,Cu];cases ah:dA l z x with
 | none=>rw[ah] at h; cases h
 | some p=>
  obtain⟨xs,n⟩:=p;rw[ah] at h;simp only at h ⊢;cases d<;>simp only at h ⊢<;>try (cases h; done)
  case aV=>cases h; rfl
  case au en b off len cap sz=>
   cases ag:l[b]? with
   | none=>rw[ag] at h; cases h
   | some c=>
    cases c<;>rw[ag] at h<;>(try simp only at h)<;>try (cases h; done)
    rename_i m cs;rw[ly.2 ag];simp only;rw[iS] at h;obtain⟨h1,ae⟩:=h;cases ae;rw[if_pos h1,o7 _ (e7 ag)]
theorem Zy {t e:TypeId} {zero:List ad} (aP:P.underlying t=some (.slice e)) (av:h5 P e=some zero) {l l' : ap} {x:ad} (h:uj zero l x=some l') :z2 P (b8 l) t x=some (b8 l') :=by
 unfold uj at h;unfold z2;rw[aP];cases x<;>(try simp only at h)<;>try (cases h; done)
 case aV=>cases h; rfl
 case cq z es=>cases es<;>simp only at h<;>cases h; rfl
 case au z b off len cap sz=>
  simp only;by_cases aB:len=0
  ·rw[if_pos aB] at h ⊢; cases h; rfl
  ·rw[if_neg aB] at h ⊢;rw[av];cases ag:l[b]? with
   | none=>rw[ag] at h; cases h
   | some c=>
    cases c<;>rw[ag] at h<;>(try simp only at h)<;>try (cases h; done)
    rename_i m cs;rw[ly.2 ag];simp only;rw[iS] at h;obtain⟨h1,rfl⟩:=h;rw[if_pos h1,o7 _ (e7 ag)]
theorem Uj {t dD nk:TypeId} (aP:P.underlying t=some (.map dD nk)) {l l' : ap} {m k x:ad} (h:u4 P l dD m k x=some l') :zc P (b8 l) t m k x=some (b8 l') :=by
 unfold u4 at h;unfold zc;rw[aP];cases m<;>(try simp only at h)<;>try (cases h; done)
 rename_i b;simp only[o6];cases ag:l[b]? with
 | none=>rw[ag] at h; cases h
 | some c=>
  cases c<;>rw[ag] at h<;>simp only at h<;>try (cases h; done)
  rename_i es fl;simp only;cases hk:nx P dD k with
  | false=>rw[hk] at h; cases h
  | true=>
   rw[hk] at h;simp only at h ⊢;cases aD:lF P dD k es 0 with
   | none=>rw[aD] at h; cases h
   | some r=>
    rw[aD] at h;cases r with
    | none=>cases h; simp only[o7 _ (e7 ag)]
    | some wZ=>cases h; simp only[o7 _ (e7 ag)]
theorem af2 {t:TypeId} (h1:eA P t=some false) (h:a6) (p:ad) :tu P h t p=(reach h p).bind fun x=>x.1[x.2]?:=by
 unfold tu ij; rw[h1]; cases reach h p<;>rfl
theorem af3 {t:TypeId} {n:Nat} (h1:eA P t=some true) (ae:cG P t=some n) (h:a6) (p:ad) :tu P h t p=(reach h p).bind fun x=>vc n x.1 x.2:=by
 unfold tu ij; rw[h1,ae]; cases reach h p<;>rfl
theorem Zb {b:Builtin} {ts:List TypeId} {args:List Operand} {m:eJ} (hm:vV P b ts args=some m) {aG:Operand->ad} {l l' : ap} {v:ad} (h:b5 P aG l m=some (v,l')) :
  p7 P (b8 l) b ts (args.map aG)=some (.val v (b8 l')) :=by
 unfold vV at hm;split at hm
 ·rename_i BU;split at hm
  ·rename_i k e aP;cases hm;simp only[b5,gR] at h;obtain⟨ae,rfl⟩:=h;unfold HI at ae;simp only[ast,atQ,p7];cases ai:aG BU<;>rw[ai] at ae<;>(try simp only at ae)<;>try (cases ae; done)
   ·cases ae; simp[y6,y7,aP]
   ·rename_i b;cases ag:l'[b]? with
    | none=>rw[ag] at ae; cases ae
    | some c=>
     cases c<;>rw[ag] at ae<;>simp only at ae<;>try (cases ae; done)
     cases ae;simp[y7,aP,o6,ag]
  ·rw[map_some] at hm;obtain⟨dX,h1,rfl⟩:=hm;simp only[b5,gR] at h;obtain⟨ae,rfl⟩:=h;have al:=afY h1 ae;have aE:∀ x,y7 P (b8 l') _ x=none:=fun x=>by
    unfold pT at h1;unfold y7;split at h1<;>first | (rename_i aP; rw[aP]; done) | (cases h1; done) | skip
    all_goals (rename_i aP; simp only[aP])
   simp only[ast,atQ,p7,aE];simp[al]
 ·rw[map_some] at hm;obtain⟨dX,h1,rfl⟩:=hm;simp only[b5,gR] at h;obtain⟨ae,rfl⟩:=h;simp[p7,Zm h1 ae]
 ·rename_i t u s x;simp only[ast,atQ,p7];split at hm
  ·rename_i aP;simp only[bind_some] at hm;obtain⟨e,h1,z,ae,by_,al,zero,aE,hm⟩:=hm;rw[iS] at hm;obtain⟨⟨aU,bz⟩,rfl⟩:=hm;simp only[b5] at h;unfold sG at h;cases ai:aG x<;>rw[ai] at h<;>(try simp only at h)<;>try (cases h; done)
   rename_i k n;by_cases dy:0<=n/\n<9223372036854775808/\n.toNat*by_<=cK
   ·rw[if_pos dy] at h;rw[aP];simp only[Cb,h1,asInt,ae,al,aE];rw[if_pos ⟨aU,dy⟩,Pu bz h]; rfl
   ·rw[if_neg dy] at h; cases h
  ·cases hm
  ·rename_i aF aP;simp only[bind_some] at hm;obtain⟨e,h1,z,ae,by_,al,hm⟩:=hm;rw[iS] at hm;obtain⟨bz,rfl⟩:=hm;simp only[b5] at h;unfold i1 at h;cases ah:dA l z (aG x) with
   | none=>rw[ah] at h; cases h
   | some p=>
    obtain⟨xs,n⟩:=p;rw[ah] at h;simp only at h;have:sI P (b8 l) t (aG s) (aG x)=some (v,b8 l') :=by
     simp only[sI,h1,ae,al,Cu,ah];exact Pu bz h
    rw[this];cases bN:P.underlying u with
    | none=>exact absurd bN aP
    | some d=>
     cases d<;>first | rfl | (rename_i k; exact absurd bN (aF k))
 ·simp only[bind_some,map_some] at hm;obtain⟨e,h1,z,ae,rfl⟩:=hm;simp only[b5] at h;simp[p7,ZT h1 ae h]
 ·split at hm
  ·rename_i e aP;rw[map_some] at hm;obtain⟨zero,h1,rfl⟩:=hm;simp only[b5,map_some,Prod.mk.injEq] at h;obtain⟨bQ,ae,rfl,rfl⟩:=h;simp[p7,Zy aP h1 ae]
  ·cases hm
 ·cases hm;simp only[b5,gR] at h;obtain⟨ae,rfl⟩:=h;simp[p7,ae]
 ·cases hm;simp only[b5,gR] at h;obtain⟨ae,rfl⟩:=h;simp[p7,ae]
 ·cases hm
theorem Ng {t:TypeId} (h1:eA P t=some false) (cs:List ad) (off:Nat) :ij P t cs off=cs[off]?:=by unfold ij; rw[h1]
theorem U4 {t:TypeId} {n:Nat} (h1:eA P t=some true) (ae:cG P t=some n) (cs:List ad) (off:Nat) :ij P t cs off=vc n cs off:=by unfold ij; rw[h1,ae]; rfl
theorem JC {s d:TypeId} {x:ad} (h:∀ e,P.underlying d=some (.slice e)->False) :zU P s d x=none:=by
 unfold zU;split
 ·rename_i e ak bN ai;exact (h e ai).elim
 ·rfl
theorem HX {op:Op} {m:eJ} (hm:nO P op=some m) {aG:Operand->ad} {l l' : ap} {v:ad} (h:b5 P aG l m=some (v,l')) :df P (b8 l) aG op=some (.val v (b8 l')) :=by
 cases op<;>simp only[nO] at hm<;>try (cases hm; done)
 case move x=>cases hm; simp only[b5,Option.some.injEq,Prod.mk.injEq] at h; obtain⟨rfl,rfl⟩:=h; rfl
 case assign x=>cases hm; simp only[b5,Option.some.injEq,Prod.mk.injEq] at h; obtain⟨rfl,rfl⟩:=h; rfl
 case pick c a b=>
  cases hm; simp only[b5,gR] at h;obtain⟨ae,rfl⟩:=h;simp only[df];unfold Ib at ae;cases ah:aG c<;>rw[ah] at ae<;>(try simp only at ae)<;>try (cases ae; done)
  cases ae; rfl
 case alloc t=>
  rw[map_some] at hm;obtain⟨zero,h1,rfl⟩:=hm;simp only[b5,Option.some.injEq,Prod.mk.injEq] at h;obtain⟨rfl,rfl⟩:=h;simp only[df,h1,ng]; rfl
 case box t x=>
  cases hm;simp only[b5,map_some,Prod.mk.injEq] at h;obtain⟨cs,h1,rfl,rfl⟩:=h;simp only[df,h1,ng]; rfl
 case build t cT=>
  simp only[bind_some,map_some] at hm;obtain⟨zero,h1,q,ae,rfl⟩:=hm;simp only[b5,gR,map_some] at h;obtain⟨⟨cs,al,rfl⟩,rfl⟩:=h;simp only[df,YW ae aG zero h1 al]; rfl
 case buildSlice t n cT=>
  simp only[bind_some] at hm;obtain⟨e,h1,z,ae,zero,al,hm⟩:=hm;rw[iS] at hm;obtain⟨aE,rfl⟩:=hm;simp only[b5,map_some,Prod.mk.injEq] at h;obtain⟨cs,aU,rfl,rfl⟩:=h;simp only[df,Fj,h1,ae,al,if_pos aE,aU,ng]; rfl
 case load t a=>
  split at hm
  ·rename_i n h1 ae;cases hm;simp only[b5,gR] at h;obtain⟨al,rfl⟩:=h;simp only[df,af3 h1 ae,NC,al]; rfl
  ·rename_i h1;cases hm;simp only[b5,gR] at h;obtain⟨al,rfl⟩:=h;simp only[df,af2 h1,NC,al]; rfl
  ·cases hm
 case store t a x=>
  rw[map_some] at hm;obtain⟨n,h1,rfl⟩:=hm;simp only[b5,map_some,Prod.mk.injEq] at h;obtain⟨bQ,ae,rfl,rfl⟩:=h;simp only[df,ajE h1 ae]; rfl
 case nilCheck x=>
  cases hm;simp only[b5,gR] at h;obtain⟨ae,rfl⟩:=h;simp only[df];unfold Bp at ae;cases ah:aG x<;>rw[ah] at ae<;>simp only at ae<;>first | (cases ae; done) | (cases ae; rfl)
 case binOp o t x y u=>
  cases hm;simp only[b5,gR] at h;obtain⟨ae,rfl⟩:=h;simp only[df,ae]; rfl
 case unOp o t x=>
  cases hm;simp only[b5,gR] at h;obtain⟨ae,rfl⟩:=h;simp only[df,ae]; rfl
 case convert s d x=>
  simp only[df];split at hm
  ·rename_i ir k ak bN;cases hm;simp only[b5,gR] at h;obtain⟨ae,rfl⟩:=h;rw[JC (fun e ao=>by rw[bN] at ao; cases ao)];unfold Fp at ae;cases ai:aG x<;>rw[ai] at ae<;>(try simp only at ae)<;>try (cases ae; done)
   cases ae;simp only[xZ,ak,bN]; rfl
  ·rename_i e ak bN;split at hm
   ·rename_i ao;cases hm;simp only[b5,gR] at h;obtain⟨ae,rfl⟩:=h;rw[JC (fun e ao=>by rw[bN] at ao; cases ao)];have:xZ P (b8 l') s d (aG x)=some v:=by
     rw[<-ae];unfold xZ xU;rw[ak,bN];cases ai:aG x<;>(simp only[ao,Cu])<;>(try rfl)<;>(rw[ai] at ae; unfold xU at ae; simp only at ae)
     ·cases ae
     all_goals (cases ah:dA l' 1 _<;>rfl)
    rw[this]; rfl
   ·cases hm
  ·rename_i ak bN;cases hm;simp only[b5,gR] at h;obtain⟨ae,rfl⟩:=h;rw[JC (fun e ao=>by rw[bN] at ao; cases ao)];unfold JR at ae;cases ai:aG x<;>rw[ai] at ae<;>(try simp only at ae)<;>try (cases ae; done)
   cases ae;simp only[xZ,ak,bN]; rfl
  ·rename_i e ak bN;split at hm
   ·rename_i ao;cases hm;simp only[b5,gR] at h;obtain⟨ae,rfl⟩:=h;unfold x1 at ae;cases ai:aG x<;>rw[ai] at ae<;>(try simp only at ae)<;>try (cases ae; done)
    cases ae;simp only[zU,ak,bN,ao]
   ·cases hm
  ·cases hm
 case makeInterface t x=>
  split at hm
  ·cases hm
  ·cases hm
  ·rename_i h1 ae;cases hm;simp only[b5,Option.some.injEq,Prod.mk.injEq] at h;obtain⟨rfl,rfl⟩:=h;simp only[df]
 case typeAssert x OV t ok=>
  rw[map_some] at hm;obtain⟨z,av,rfl⟩:=hm;simp only[b5,gR] at h;obtain⟨ae,rfl⟩:=h;simp only[df,av,ae,asb]
 case makeFunc f a b=>
  cases f<;>simp only at hm<;>try (cases hm; done)
  cases hm;simp only[b5,Option.some.injEq,Prod.mk.injEq] at h;obtain⟨rfl,rfl⟩:=h;rfl
 case makeSlice t a c=>
  simp only[bind_some] at hm;obtain⟨e,h1,z,ae,by_,al,zero,aE,hm⟩:=hm;rw[iS] at hm;obtain⟨aU,rfl⟩:=hm;simp only[b5] at h;unfold u5 at h;cases az:aG a<;>rw[az] at h<;>(try simp only at h)<;>try (cases h; done)
  cases ah:aG c<;>rw[ah] at h<;>(try simp only at h)<;>try (cases h; done)
  rw[iS] at h;obtain⟨bz,dy⟩:=h;cases dy;simp only[df,az,ah,HQ,h1,asInt,ae,al,aE,if_pos (And.intro aU bz),ng]; rfl
 case slice t x c0 ax cX=>
  rw[map_some] at hm;obtain⟨dX,h1,rfl⟩:=hm;simp only[b5,gR] at h;obtain⟨ae,rfl⟩:=h;rw[ai4 h1] at ae;simp only[df,ae]; rfl
 case fieldAddr s x f=>
  rw[bind_some] at hm;obtain⟨fd,h1,hm⟩:=hm;split at hm
  ·rename_i n ae;cases hm;simp only[b5,gR] at h;obtain⟨al,rfl⟩:=h;simp only[df,FL,h1,ae,al]; rfl
  ·cases hm
 case field t x f=>
  rw[bind_some] at hm;obtain⟨fd,h1,hm⟩:=hm;split at hm
  ·rename_i n ae al;cases hm;simp only[b5,gR] at h;obtain⟨aE,rfl⟩:=h;unfold CJ at aE;cases ai:aG x<;>rw[ai] at aE<;>(try simp only at aE)<;>try (cases aE; done)
   simp only[df,ai,h1,U4 ae al,aE]; rfl
  ·rename_i ae;cases hm;simp only[b5,gR] at h;obtain⟨aE,rfl⟩:=h;unfold FS at aE;cases ai:aG x<;>rw[ai] at aE<;>(try simp only at aE)<;>try (cases aE; done)
   simp only[df,ai,h1,Ng ae,aE]; rfl
  ·cases hm
 case indexAddr t x i=>
  split at hm
  ·rename_i n z h1;cases hm;simp only[b5,gR] at h;obtain⟨ae,rfl⟩:=h;simp only[df,TI h1 ae]; rfl
  ·rename_i z h1;cases hm;simp only[b5,gR] at h;obtain⟨ae,rfl⟩:=h;simp only[df,TI h1 ae]; rfl
  ·cases hm
 case index t x i=>
  split at hm
  ·rename_i n e aP;split at hm
   ·rename_i z h1 ae;cases hm;simp only[b5,gR] at h;obtain⟨al,rfl⟩:=h;unfold Hz at al;cases ai:aG x<;>rw[ai] at al<;>(try simp only at al)<;>try (cases al; done)
    cases ax:aG i<;>rw[ax] at al<;>(try simp only at al)<;>try (cases al; done)
    simp only[df,Bd,ai,ax,aP,asInt,h1,U4 ae h1,al]; rfl
   ·rename_i z h1 ae;cases hm;simp only[b5,gR] at h;obtain⟨al,rfl⟩:=h;unfold Hy at al;cases ai:aG x<;>rw[ai] at al<;>(try simp only at al)<;>try (cases al; done)
    cases ax:aG i<;>rw[ax] at al<;>(try simp only at al)<;>try (cases al; done)
    simp only[df,Bd,ai,ax,aP,asInt,h1,Ng ae,al]; rfl
   ·cases hm
  ·rename_i aP;cases hm;simp only[b5,gR] at h;obtain⟨al,rfl⟩:=h;unfold Bg at al;cases ai:aG x<;>rw[ai] at al<;>(try simp only at al)<;>try (cases al; done)
   cases ax:aG i<;>rw[ax] at al<;>(try simp only at al)<;>try (cases al; done)
   simp only[df,Bd,ai,ax,aP,asInt,al]; rfl
  ·cases hm
 case extract x i=>
  cases hm;simp only[b5,gR] at h;obtain⟨ae,rfl⟩:=h;unfold FI at ae;cases ai:aG x<;>rw[ai] at ae<;>(try simp only at ae)<;>try (cases ae; done)
  simp only[df,ai,ae]; rfl
 case call c=>
  split at hm
  ·rename_i b ag;simp only[df,vN,ag];exact Zb hm h
  ·rename_i f aD;split at hm
   ·rename_i fn x y nr Gn;rw[iS] at hm;obtain⟨ax,rfl⟩:=hm;simp only[b5] at h;split at h
    case h_2=>cases h
    rename_i GJ;rw[gR] at h;obtain⟨ae,rfl⟩:=h;unfold cmpL at ae;have eC:∀ x,vM (b8 l') x=rr l' x:=fun x=>by
     cases x<;>simp only[vM,rr,Cu]<;>rfl
    have s7:¬(fn.body.isSome=true/\fn.name≠ "runtime.NumGoroutine") :=by
     rintro⟨a,_⟩;unfold DM at ax;simp only[ar3] at ax;rw[avb.1 ax.1.1] at a; cases a
    have yu:aG (.func f)=.fn f [] [] :=by
     unfold Hu at GJ;split at GJ
     ·rename_i g ar; rw[ar,as7 GJ]
     ·cases GJ
    simp only[df,vN,aD,yu,nr,if_neg s7,if_pos ax,Gn,ast,atQ,asO,asD,Cs,eC];cases az:rr l' (aG x) with
    | none=>rw[az] at ae; cases ae
    | some a=>
     cases ag:rr l' (aG y) with
     | none=>rw[az,ag] at ae; cases ae
     | some b=>rw[az,ag] at ae; cases ae; rfl
   ·cases hm
  ·cases hm
 case panic x=>cases hm; cases h
 case makeMap t r=>
  split at hm
  ·rename_i k e aP;cases hm;simp only[b5] at h;cases r with
   | none=>cases h; simp[df,aP,ng]
   | some x=>
    simp only at h;cases ai:asInt (aG x) with
    | none=>rw[ai] at h; cases h
    | some n=>rw[ai] at h; cases h; simp[df,aP,ai,ng]
  ·cases hm
 case lookup t m k ok=>
  split at hm
  ·rename_i dD nk aP;rw[map_some] at hm;obtain⟨z,av,rfl⟩:=hm;simp only[b5,gR] at h;obtain⟨ae,rfl⟩:=h;have wF:∀ x,mapOf (b8 l') x=tv l' x:=fun x=>by
    cases x<;>try rfl
    rename_i b;simp only[mapOf,tv,o6];cases l'[b]? with
    | none=>rfl
    | some c=>cases c<;>rfl
   unfold y8 at ae;simp only[df,HM,aP,wF];cases lK:tv l' (aG m) with
   | none=>rw[lK] at ae; cases ae
   | some es=>
    rw[lK] at ae;simp only at ae ⊢;cases hk:nx P dD (aG k) with
    | false=>rw[hk] at ae; cases ae
    | true=>
     rw[hk] at ae;simp only at ae ⊢;cases aD:lF P dD (aG k) es 0 with
     | none=>rw[aD] at ae; cases ae
     | some r=>
      rw[aD] at ae;cases r with
      | none=>cases ae; simp[av]
      | some wZ=>cases ae; rfl
  ·cases hm
 case mapUpdate t m k x=>
  split at hm
  ·rename_i dD nk aP;cases hm;simp only[b5,map_some] at h;obtain⟨bQ,ae,al⟩:=h;cases al;simp only[df,Uj aP ae]; rfl
  ·cases hm
 case insert t m k x=>
  split at hm
  ·rename_i dD nk aP;cases hm;simp only[b5,map_some] at h;obtain⟨bQ,ae,al⟩:=h;cases al;simp only[df,Uj aP ae]; rfl
  ·cases hm
 case range t x=>
  split at hm
  ·rename_i aP;cases hm;simp only[b5] at h;unfold En at h;cases ai:aG x<;>rw[ai] at h<;>(try simp only at h)<;>try (cases h; done)
   cases h;simp[df,Io,aP,ai,ng]
  ·cases hm
 case next it b=>
  cases b with
  | false=>cases hm
  | true=>
   cases hm;simp only[b5] at h;unfold w9 at h;simp only[df,HY];cases ai:aG it<;>rw[ai] at h<;>(try simp only at h)<;>try (cases h; done)
   rename_i b;simp only[o6];cases ag:l[b]? with
   | none=>rw[ag] at h; cases h
   | some c=>
    cases c<;>rw[ag] at h<;>simp only at h<;>try (cases h; done)
    simp only;split at h
    ·rename_i aM; cases h; rw[aM]; simp only[asb,o7 _ (e7 ag)]
    ·rename_i aM; cases h; rw[aM]; rfl
end
abbrev bi:=Nat->ad
abbrev hS:=vu->bi->ap->Prop
class O2 (α:Type) where
 k:α->Prop
class B4 where
 p:Prop
 q:Prop
class vx where
 k:ad->ap->Prop
class I5 where
 k:hS
def W {α:Type} (o:Option α) [c:O2 α] :Prop:=match o with | some v=>c.k v | none=>False
def tq (b:Bool) [c:B4] :Prop:=match b with | true=>c.p | false=>c.q
def DP (x:ad) [c:B4] :Prop:=match x with | .bool b=>tq b (c:=c) | _=>False
def tn (x:ad) (w:Bool) [c:B4] :Prop:=match x with | .bool b=>tq (b == w) (c:=c) | .bad=>False | _=>c.q
inductive xH where
 | ig (m:eJ)
 | ox (f:FuncId) (args:List Operand)
 | pd (x:Operand) (args:List Operand)
 | p8 (x:Operand) (name:String) (args:List Operand)
structure e0 where
 i:Nat
 dst:Option Tmp
 g:Option (Option Tmp × Bool)
 b:xH
 h7:List Nat
 cy:Bool
inductive iZ where
 | skip
 | ret
 | exit (id:Nat)
 | Bz (s:List e0)
 | CB (s:List e0)
 | seq (a b:iZ)
 | cond (c:Operand) (x y:iZ)
 | block (id:Nat) (c:iZ)
 | loop (c:iZ)
section
variable (P:Program) (G:Nat->ad)
def iv (f:FuncId) :Bool:=match P.funcs[f]? with | some fn=>fn.body.isSome&&fn.name != "runtime.NumGoroutine" | none=>false
def dr (f:FuncId) (args:List ad) (l:ap) [c:vx] :Prop:=∃ r l',dL P G (.call f args (b8 l) r (b8 l'))/\l.length<=l'.length/\c.k r l'
def zX (x:ad) (args:List ad) (l:ap) [c:vx] :Prop:=match x with
 | .fn g first gJ=>iv P g=true/\dr P G g (first++args++gJ) l (c:=c)
 | _=>False
def zW (name:String) (x:ad) (args:List ad) (l:ap) [c:vx] :Prop:=match x with
 | .hu t v=>match Bm P t name with
  | some g=>iv P g=true/\dr P G g (v::args) l (c:=c)
  | none=>False
 | _=>False
def dt (v:ad) (l:ap) [c:vx] :Prop:=c.k v l\/∃ dz bQ,rn (b8 l) (b8 bQ)/\rm (b8 l) (b8 bQ) v dz/\c.k dz bQ
def eY (m:eJ) (v:ad) (l:ap) (K:ad->ap->Prop) :Prop:=match m with
 | .app ..=>dt v l (c:=⟨K⟩)
 | _=>K v l
def iI (b:xH) (af:bi) (l:ap) (K:ad->ap->Prop) :Prop:=match b with
 | .ig m=>W (b5 P (dR G af) l m) (c:=⟨fun x=>eY m x.1 x.2 K⟩)
 | .ox f args=>dr P G f (args.map (dR G af)) l (c:=⟨K⟩)
 | .pd x args=>zX P G (dR G af x) (args.map (dR G af)) l (c:=⟨K⟩)
 | .p8 x name args=>zW P G name (dR G af x) (args.map (dR G af)) l (c:=⟨K⟩)
def tp (af:bi) (g:Option (Option Tmp × Bool)) (p q:Prop) :Prop:=match g with
 | none=>p
 | some (some d,w)=>tn (af d) w (c:=⟨p,q⟩)
 | some (none,_)=>q
def lp:List e0->bi->ap->(bi->ap->Prop)->Prop
 | [],af,l,K=>K af l
 | s::r,af,l,K=>tp af s.g (iI P G s.b af l fun v l'=>lp r (h3 af s.dst v) l' K) (lp r (h3 af s.dst jg) l K)
abbrev jQ:=List (Nat × (ap->Prop))
def sL (ids:List Nat) :jQ->ap->Prop
 | [],_=>True
 | e::r,l=>(ids.contains e.1=true->e.2 l)/\sL ids r l
def eJ.lQ:eJ->Bool
 | .alloc _ | .box _ | .vL .. | .w7 ..=>true
 | _=>false
def om (b:xH) (af:bi) (v:ad) (l l' l1:ap) :Prop:=match b with
 | .ig m=>match m.lQ with
  | true=>l1[l.length]? = l'[l.length]?
  | false=>b5 P (dR G af) l1 m=some (v,l1)
 | _=>True
def tN (cy:Bool) (i:Nat) (p:ap->Prop) (s:jQ) :jQ:=match cy with | true=>(i,p) ::s | false=>s
def l2:List e0->bi->ap->jQ->(bi->ap->Prop)->Prop
 | [],af,l,_,K=>K af l
 | s::r,af,l,seen,K=>tp af s.g (iI P G s.b af l fun v l'=>sL s.h7 seen l'/\l2 r (h3 af s.dst v) l' (tN s.cy s.i (om P G s.b af v l l') seen) K) (l2 r (h3 af s.dst jg) l seen K)
def qV (k:bi->ap->Prop) (K:hS) :hS:=fun e af l=>match e with
 | .normal=>k af l
 | .exit id=>K (.exit id) af l
 | .ret=>K .ret af l
def w0 (id:Nat) (K:hS) :hS:=fun e af l=>match e with
 | .normal=>K .normal af l
 | .exit Ba=>match Nat.beq Ba id with | true=>K .normal af l | false=>K (.exit Ba) af l
 | .ret=>K .ret af l
def Bk (r:bi->ap->hS->Prop) :Nat->bi->ap->hS->Prop
 | 0=>fun _ _ _=>False
 | n+1=>fun af l K=>r af l (qV (fun af l=>Bk r n af l K) K)
def EY (r:bi->ap->hS->Prop) (af:bi) (l:ap) [c:I5] :Prop:=∃ n,Bk r n af l c.k
def run:iZ->bi->ap->hS->Prop
 | .skip,af,l,K=>K .normal af l
 | .ret,af,l,K=>K .ret af l
 | .exit id,af,l,K=>K (.exit id) af l
 | .Bz s,af,l,K=>lp P G s af l (K .normal)
 | .CB s,af,l,K=>l2 P G s af l [] (K .normal)
 | .seq a b,af,l,K=>run a af l (qV (fun af l=>run b af l K) K)
 | .cond c x y,af,l,K=>DP (dR G af c) (c:=⟨run x af l K,run y af l K⟩)
 | .block id c,af,l,K=>run c af l (w0 id K)
 | .loop c,af,l,K=>EY (run c) af l (c:=⟨K⟩)
def EA (ops:Array Oper) (i:Nat) (h7:List Nat) (cy:Bool) :Option e0:=(ops[i]?).bind fun o=>
 let g:=o.guard.map fun lS=>((ops[lS.1]?).bind (·.dst),lS.2)
 match nO P o.op with
 | some m=>some ⟨i,o.dst,g,.ig m,h7,cy⟩
 | none=>match o.op with
  | .call c=>match c.callee with
   | .value (.func f)=>match iv P f with
    | true=>some ⟨i,o.dst,g,.ox f c.args.toList,h7,cy⟩
    | false=>none
   | .value x=>some ⟨i,o.dst,g,.pd x c.args.toList,h7,cy⟩
   | .invoke x name=>some ⟨i,o.dst,g,.p8 x name c.args.toList,h7,cy⟩
   | _=>none
  | _=>none
def tQ:Op->Bool
 | .load .. | .convert .. | .alloc _ | .box .. | .buildSlice .. | .makeSlice ..=>true
 | .call c=>match c.callee,c.argTypes.toList with
  | .builtin .len,[t]=>match P.underlying t with | some (.map _ _)=>true | _=>false
  | _,_=>false
 | _=>false
def Zu (ms:List Nat) (ops:Array Oper) (done lE:List Nat) :List Nat:=
 done.filter fun j=>(match ops[j]? with | some o=>tQ P o.op | none=>false)&&lE.all fun e=>!pL ms e j
def oS (ms:List Nat) (ops:Array Oper) :List Nat->List Nat->List Nat->List (Nat × List Nat)
 | [],_,_=>[]
 | i::r,done,lE=>match ops[i]? with
  | none=>[]
  | some o=>match lj o.op with
   | true=>(i,Zu P ms ops done (i::lE)) ::oS ms ops r (i::done) (match o.guard with | none=>i::lE | some _=>lE)
   | false=>(i,[]) ::oS ms ops r (i::done) lE
def CD (ms:List Nat) (ops:Array Oper) :List Nat->Bool
 | []=>true
 | i::r=>(match ops[i]? with | some o=>!lj o.op||r.all fun j=>pL ms j i | none=>false)&&CD ms ops r
def JP (N:Nat) (ops:Array Oper) (draw:Bool) :Option iZ:=
 match ops.toList.all fun o=>qf N o.dst with
 | false=>none
 | true=>match draw with
  | false=>((List.range ops.size).mapM fun i=>EA P ops i [] false).map .Bz
  | true=>
   let ms:=jb ops
   let kY:=fU ms ops
   match M8 ms ops kY&&CD ms ops kY with
   | false=>none
   | true=>
    let Va:=oS P ms ops kY [] []
    let ask:=Va.flatMap (·.2)
    match Va.mapM fun p=>EA P ops p.1 p.2 (ask.contains p.1) with
    | none=>none
    | some s=>match ask with
     | []=>some (.Bz s)
     | _=>some (.CB s)
def comp (N:Nat) :Code->Option iZ
 | .skip=>some .skip
 | .label _=>some .skip
 | .ret=>some .ret
 | .exit id=>some (.exit id)
 | .region _ ops draw=>JP P N ops draw
 | .seq a b=>match comp N a,comp N b with
  | some .skip,some b=>some b
  | some a,some .skip=>some a
  | some a,some b=>some (.seq a b)
  | _,_=>none
 | .cond c x y=>match comp N x,comp N y with
  | some x,some y=>some (.cond c x y)
  | _,_=>none
 | .block id c=>(comp N c).map (.block id)
 | .loop c=>(comp N c).map .loop
 | .scope c=>comp N c
 | _=>none
def JN (f:FuncId) :Option iZ:=match P.funcs[f]? with
 | some fn=>match fn.body with
  | some c=>comp P fn.ntmps c
  | none=>none
 | none=>none
end

section
variable {P:Program} {G:Nat->ad}
theorem Pt {l l' : ap} {z by_ n:Nat} {s v:ad} {xs:List ad} (h:jm l z by_ s xs n=some (v,l')) :l.length<=l'.length:=by
 unfold jm at h
 repeat' split at h
 all_goals first | (cases h; done) | (cases h; simp)
theorem Ur {aG:Operand->ad} {l l' : ap} {m:eJ} {v:ad} (h:b5 P aG l m=some (v,l')) :l.length<=l'.length:=by
 cases m<;>simp only[b5,gR,map_some,Option.some.injEq,Prod.mk.injEq] at h
 case gO=>obtain⟨_,rfl⟩:=h; exact ar0 _
 case alloc=>obtain⟨_,rfl⟩:=h; simp
 case box=>obtain⟨_,_,_,rfl⟩:=h; simp
 case vL=>obtain⟨_,_,_,rfl⟩:=h; simp
 case st n a x=>
  obtain⟨_,h,_,rfl⟩:=h;unfold kw at h
  repeat' split at h
  all_goals first | (cases h; done) | (cases h; simp)
 case D0=>obtain⟨_,rfl⟩:=h; exact ar0 _
 case DZ=>obtain⟨_,rfl⟩:=h; exact ar0 _
 case w7=>
  unfold u5 at h
  repeat' split at h
  all_goals first | (cases h; done) | (cases h; simp)
 case app=>
  unfold i1 at h;split at h
  ·cases h
  ·exact Pt h
 case zO=>
  unfold sG at h
  repeat' split at h
  all_goals first | (cases h; done) | exact Pt h
 case Aa=>
  unfold Cv at h
  repeat' split at h
  all_goals first | (cases h; done) | (cases h; simp)
 case z6=>
  obtain⟨_,h,_,rfl⟩:=h;unfold uj at h
  repeat' split at h
  all_goals first | (cases h; done) | (cases h; simp)
 case stop=>cases h
 case zd x=>
  cases x with
  | none=>cases h; simp
  | some o=>
   simp only at h;split at h
   ·cases h; simp
   ·cases h
 case Bo=>
  obtain⟨_,h,_,rfl⟩:=h;unfold u4 at h
  repeat' split at h
  all_goals first | (cases h; done) | (cases h; simp)
 case BD=>
  unfold En at h
  repeat' split at h
  all_goals first | (cases h; done) | (cases h; simp)
 case Br=>
  unfold w9 at h
  repeat' split at h
  all_goals first | (cases h; done) | (cases h; simp)
 case cu=>
  split at h
  ·rw[gR] at h; obtain⟨_,rfl⟩:=h; exact ar0 _
  ·cases h
 all_goals (obtain⟨_,rfl⟩:=h; exact ar0 _)
theorem E0 {α:Type} {o:Option α} {c:O2 α}:W o (c:=c)<->∃ v,o=some v/\c.k v:=by
 unfold W; cases o<;>simp
theorem DQ {b:Bool} {c:B4}:tq b (c:=c)<->(b=true/\c.p)\/(b=false/\c.q) :=by cases b<;>simp[tq]
structure p3 (P:Program) (ops:Array Oper) (s:e0) (o:Oper) :Prop where
 here:ops[s.i]? = some o
 dst:s.dst=o.dst
 g:s.g=o.guard.map fun lS=>((ops[lS.1]?).bind (·.dst),lS.2)
 ig:∀ m,s.b=.ig m->nO P o.op=some m
 ox:∀ f args,s.b=.ox f args->∃ c:Call,o.op=.call c/\c.callee=.value (.func f)/\c.args.toList=args/\iv P f=true
 pd:∀ x args,s.b=.pd x args->∃ c:Call,o.op=.call c/\c.callee=.value x/\c.args.toList=args
 p8:∀ x name args,s.b=.p8 x name args->∃ c:Call,o.op=.call c/\c.callee=.invoke x name/\c.args.toList=args
theorem IF {ops:Array Oper} {i:Nat} {h7:List Nat} {cy:Bool} {s:e0} (h:EA P ops i h7 cy=some s) :∃ o,p3 P ops s o/\s.i=i/\s.h7=h7/\s.cy=cy:=by
 unfold EA at h;rw[bind_some] at h;obtain⟨o,aq,h⟩:=h;refine⟨o,?_⟩;simp only at h;split at h
 ·rename_i m hm;cases h;exact⟨⟨aq,rfl,rfl,fun cD h=>(by cases h; exact hm),fun f a h=>(by cases h),fun x a h=>(by cases h),fun x n a h=>(by cases h)⟩,rfl,rfl,rfl⟩
 ·split at h
  ·rename_i c fC;split at h
   ·rename_i f ah;split at h
    ·rename_i aD;cases h;exact⟨⟨aq,rfl,rfl,fun cD h=>(by cases h),fun f a h=>(by cases h; exact⟨c,fC,ah,rfl,aD⟩),fun x a h=>(by cases h),fun x n a h=>(by cases h)⟩,rfl,rfl,rfl⟩
    ·cases h
   ·rename_i x ai ah;cases h;exact⟨⟨aq,rfl,rfl,fun cD h=>(by cases h),fun f a h=>(by cases h),fun x a h=>(by cases h; exact⟨c,fC,ah,rfl⟩),fun x n a h=>(by cases h)⟩,rfl,rfl,rfl⟩
   ·rename_i x name ah;cases h;exact⟨⟨aq,rfl,rfl,fun cD h=>(by cases h),fun f a h=>(by cases h),fun x a h=>(by cases h),fun x n a h=>by cases h; exact⟨c,fC,ah,rfl⟩⟩,rfl,rfl,rfl⟩
   ·cases h
  ·cases h
theorem Q5 {g:FuncId} (aD:iv P g=true) {h:a6} {aG:Operand->ad} {c:Call} {x:Operand} {first gJ:List ad} (ah:c.callee=.value x) (ai:aG x=.fn g first gJ) :
  df P h aG (.call c)=some (.call g (first++c.args.toList.map aG++gJ) h) :=by
 unfold iv at aD;simp only[df,vN,ah,ai];cases nr:P.funcs[g]? with
 | none=>rw[nr] at aD; cases aD
 | some fn=>
  rw[nr] at aD;simp only[ar3,bne_iff_ne] at aD;simp only;rw[if_pos aD]
theorem abl {g:FuncId} (aD:iv P g=true) {h:a6} {aG:Operand->ad} {c:Call} {x:Operand} {name:String} {t:TypeId} {v:ad} (ah:c.callee=.invoke x name) (ai:aG x=.hu t v) (hm:Bm P t name=some g) :
  df P h aG (.call c)=some (.call g (v::c.args.toList.map aG) h) :=by
 unfold iv at aD;simp only[df,vN,ah,ai,hm];cases nr:P.funcs[g]? with
 | none=>rw[nr] at aD; cases aD
 | some fn=>
  rw[nr] at aD;simp only[ar3,bne_iff_ne] at aD;simp only;rw[if_pos aD]
def eJ.looks:eJ->Bool
 | .alloc _ | .box _ | .vL .. | .w7 .. | .st .. | .app .. | .zO .. | .Aa .. | .z6 .. | .zd _ | .DV .. | .Bo .. | .BD _ | .Br _ | .cu .. | .ED .. | .stop=>false
 | _=>true
theorem afB {m:eJ} {v:ad} {l:ap} {K:ad->ap->Prop} (h:eY m v l K) :K v l\/(m.looks=false/\m.lQ=false/\∃ dz bQ,rn (b8 l) (b8 bQ)/\rm (b8 l) (b8 bQ) v dz/\K dz bQ) :=by
 cases m<;>first | exact .inl h | skip
 rcases h with h | h
 ·exact .inl h
 ·exact .inr ⟨rfl,rfl,h⟩
theorem T6 {m:eJ} {v:ad} {l:ap} {K gY:ad->ap->Prop} (bl:∀ v l,K v l->gY v l) (h:eY m v l K) :eY m v l gY:=by
 cases m<;>first | exact bl _ _ h | skip
 rcases h with h | ⟨dz,bQ,h1,ae,al⟩
 ·exact .inl (bl _ _ h)
 ·exact .inr ⟨dz,bQ,h1,ae,bl _ _ al⟩
theorem WI {ops:Array Oper} {s:e0} {o:Oper} (ok:p3 P ops s o) {af:bi} {l:ap} {K:ad->ap->Prop} (h:iI P G s.b af l K) :
  ∃ v l',dL P G (.op o.op af (b8 l) v (b8 l'))/\l.length<=l'.length/\K v l'/\∀ m,s.b=.ig m->(m.looks=true\/m.lQ=true)->b5 P (dR G af) l m=some (v,l') :=by
 cases ag:s.b with
 | ig m=>
  rw[ag] at h;simp only[iI,E0] at h;obtain⟨⟨v,l'⟩,h1,ae⟩:=h;have ao:=dL.H6 (G:=G) (HX (ok.ig m ag) h1);rcases afB ae with ae | ⟨my,ny,dz,bQ,ce,bI,cS⟩
  ·exact⟨v,l',ao,Ur h1,ae,fun cD hm _=>by cases hm; exact h1⟩
  ·refine⟨dz,bQ,.IX ao ce bI,ati (Ur h1) (Nat.le_of_eq ce.n.symm),cS,fun cD hm am=>?_⟩;cases hm;rw[my,ny] at am;rcases am with h | h<;>cases h
 | ox f args=>
  rw[ag] at h;obtain⟨r,l',h1,ae,al⟩:=h;obtain⟨c,fC,ah,az,aD⟩:=ok.ox f args ag;refine⟨r,l',?_,ae,al,fun cD hm _=>by cases hm⟩;rw[fC];refine .Bv (Q5 aD ah rfl) ?_;simpa [az] using h1
 | pd x args=>
  rw[ag] at h;simp only[iI] at h;obtain⟨c,fC,ah,az⟩:=ok.pd x args ag;unfold zX at h;split at h
  ·rename_i g first gJ ai
   obtain⟨aD,r,l',h1,ae,al⟩:=h;refine⟨r,l',?_,ae,al,fun cD hm _=>by cases hm⟩;rw[fC];refine .Bv (Q5 aD ah ai) ?_;rw[az]; exact h1
  ·cases h
 | p8 x name args=>
  rw[ag] at h;simp only[iI] at h;obtain⟨c,fC,ah,az⟩:=ok.p8 x name args ag;unfold zW at h;split at h
  ·rename_i t v ai;split at h
   ·rename_i g hm;obtain⟨aD,r,l',h1,ae,al⟩:=h;refine⟨r,l',?_,ae,al,fun cD hm _=>by cases hm⟩;rw[fC];refine .Bv (abl aD ah ai hm) ?_;rw[az]; exact h1
   ·cases h
  ·cases h
theorem T3 {ops:Array Oper} {s:e0} {o:Oper} (ok:p3 P ops s o) {af:bi} {p q:Prop} (h:tp af s.g p q) :(lv ops af o=some true/\p)\/(lv ops af o=some false/\q) :=by
 rw[ok.g] at h;unfold lv;cases ar:o.guard with
 | none=>rw[ar] at h; exact .inl ⟨rfl,h⟩
 | some lS=>
  obtain⟨j,w⟩:=lS;rw[ar] at h;simp only[asb] at h ⊢;cases bN:(ops[j]?).bind (·.dst) with
  | none=>rw[bN] at h; exact .inr ⟨rfl,h⟩
  | some d=>
   rw[bN] at h;simp only[tp,tn] at h ⊢;cases ak:af d<;>rw[ak] at h<;>simp only at h ⊢<;>first | exact .inr ⟨trivial,h⟩ | (cases h; done) | skip
   rw[DQ] at h;rcases h with ⟨h1,ae⟩ | ⟨h1,ae⟩
   ·exact .inl ⟨by rw[h1],ae⟩
   ·exact .inr ⟨by rw[h1],ae⟩
inductive zG (P:Program) (ops:Array Oper) :List e0->List Oper->Prop
 | nil:zG P ops [] []
 | cons {s o WC os}:p3 P ops s o->zG P ops WC os->zG P ops (s::WC) (o::os)
theorem NS {ops:Array Oper} {N:Nat} (fQ:∀ (i:Nat) (o:Oper),ops[i]? = some o->qf N o.dst=true) {K:bi->ap->Prop}:∀ {s:List e0} {os:List Oper} {af:bi} {l:ap},
  zG P ops s os->lp P G s af l K->∃ b7 l',dL P G (.ops ops os N af (b8 l) b7 (b8 l'))/\l.length<=l'.length/\K b7 l'
 | [],_,af,l,aD,h=>by cases aD; exact⟨af,l,.UO,ar0 _,h⟩
 | s::r,_,af,l,aD,h=>by
  cases aD with
  | cons ok aD=>
   rename_i o os;rcases T3 ok h with ⟨hw,h⟩ | ⟨hw,h⟩
   ·obtain⟨v,l1,h1,ae,al,_⟩:=WI ok h;obtain⟨b7,l',aE,aU,bz⟩:=NS fQ aD al;exact⟨b7,l',.UP hw (fQ _ _ ok.here) h1 (by rw[<-ok.dst]; exact aE),ati ae aU,bz⟩
   ·obtain⟨b7,l',aE,aU,bz⟩:=NS fQ aD h;exact⟨b7,l',.UQ hw (fQ _ _ ok.here) (by rw[<-ok.dst]; exact aE),aU,bz⟩
theorem VS {l x:ap} {p:ad} {y:List ad × Nat} (h:eZ l p=some y) :eZ (l++x) p=some y:=by
 cases p<;>first | exact h | skip
 rename_i b off sz;simp only[eZ] at h ⊢;cases ag:l[b]? with
 | none=>rw[ag] at h; cases h
 | some c=>rw[ag] at h; rw[arZ (e7 ag),ag]; exact h
theorem ZQ {l x:ap} {z:Nat} {p:ad} {y:List ad × Nat} (h:dA l z p=some y) :dA (l++x) z p=some y:=by
 cases p<;>first | exact h | skip
 rename_i en b off len cap sz;simp only[dA] at h ⊢;cases ag:l[b]? with
 | none=>rw[ag] at h; cases h
 | some c=>rw[ag] at h; rw[arZ (e7 ag),ag]; exact h
theorem Zq {l x:ap} {p v:ad} (h:xU l p=some v) :xU (l++x) p=some v:=by
 unfold xU at h ⊢;cases p<;>simp only at h ⊢<;>first | exact h | skip
 all_goals
  split at h
  ·rename_i cs n ah;rw[ZQ ah]; exact h
  ·cases h
def eJ.reads:eJ->Bool
 | .ld1 _ | .y5 .. | .xT _ | .Bj _=>true
 | _=>false
theorem af8 {aG:Operand->ad} {l l' : ap} {m:eJ} {v:ad} (hm:m.looks=true) (h:b5 P aG l m=some (v,l')) :l'=l:=by
 cases m<;>simp only[eJ.looks,Bool.true_eq,atb,reduceCtorEq] at hm<;>simp only[b5,gR,Option.some.injEq,Prod.mk.injEq] at h<;>first | exact h.2 | exact h.2.symm
theorem af6 {aG:Operand->ad} {l x:ap} {m:eJ} {v:ad} (hm:m.looks=true) (h:b5 P aG l m=some (v,l)) :b5 P aG (l++x) m=some (v,l++x) :=by
 cases m<;>simp only[eJ.looks,Bool.true_eq,atb,reduceCtorEq] at hm<;>simp only[b5,gR,Option.some.injEq,Prod.mk.injEq,and_true] at h ⊢<;>try exact h
 case ld1 a=>
  rw[bind_some] at h ⊢;obtain⟨y,h1,ae⟩:=h;exact⟨y,VS h1,ae⟩
 case y5 n a=>
  rw[bind_some] at h ⊢;obtain⟨y,h1,ae⟩:=h;exact⟨y,VS h1,ae⟩
 case xT x=>exact Zq h
 case Bj y=>
  unfold HI at h ⊢;cases ai:aG y<;>rw[ai] at h<;>(try simp only at h)<;>try (cases h; done)
  ·exact h
  ·rename_i b;cases ag:l[b]? with
   | none=>rw[ag] at h; cases h
   | some c=>simp only[arZ (e7 ag)]; exact h
theorem af7 {aG:Operand->ad} {l bQ:ap} {m:eJ} {v:ad} (hm:m.looks=true) (aA:m.reads=false) (h:b5 P aG l m=some (v,l)) :b5 P aG bQ m=some (v,bQ) :=by
 cases m<;>simp only[eJ.looks,Bool.true_eq,atb,reduceCtorEq] at hm<;>simp only[eJ.reads,reduceCtorEq] at aA<;>simp only[b5,gR,Option.some.injEq,Prod.mk.injEq,and_true] at h ⊢<;>exact h
theorem NI (zero:List ad) :∀ n,(dZ zero n).length=n*zero.length
 | 0=>by simp[dZ]
 | n+1=>by rw[dZ,asa,NI zero n,asB,avd]
theorem WA {cs vs:List ad} {off:Nat} (h:off+vs.length<=cs.length) :(bt cs off vs).length=cs.length:=by
 simp only[bt,asa,asc,atg]; omega
theorem QG {lW:Nat->Option (Nat × Nat)}:∀ {cT:List (Nat × ad)} {zero cs:List ad},h9 lW zero cT=some cs->cs.length=zero.length
 | [],zero,cs,h=>by simp only[h9,Option.some.injEq] at h; rw[<-h]
 | (i,v) ::r,zero,cs,h=>by
  unfold h9 at h;split at h
  ·rename_i off size vs _ _;split at h
   ·rename_i h1;rw[QG h,WA (by omega)]
   ·cases h
  ·cases h
theorem agr {op:Op} {m:eJ} (hm:nO P op=some m) (aF:m.lQ=true) {aG:Operand->ad} {l l' : ap} {v:ad} (h:b5 P aG l m=some (v,l')) :
  ∃ cs mk,oc P aG op=some (cs,mk)/\v=mk l.length/\l'=l++[.cells cs.length cs] :=by
 cases op<;>simp only[nO] at hm<;>try (cases hm; done)
 case alloc t=>
  rw[map_some] at hm;obtain⟨zero,h1,rfl⟩:=hm;simp only[b5,Option.some.injEq,Prod.mk.injEq] at h;obtain⟨rfl,rfl⟩:=h;exact⟨zero,_,by simp only[oc,h1]; rfl,rfl,rfl⟩
 case box t x=>
  cases hm;simp only[b5,map_some,Prod.mk.injEq] at h;obtain⟨cs,h1,rfl,rfl⟩:=h;exact⟨cs,_,by simp only[oc,h1]; rfl,rfl,rfl⟩
 case buildSlice t n cT=>
  simp only[bind_some] at hm;obtain⟨e,h1,z,ae,zero,al,hm⟩:=hm;rw[iS] at hm;obtain⟨aE,rfl⟩:=hm;simp only[b5,map_some,Prod.mk.injEq] at h;obtain⟨cs,aU,rfl,rfl⟩:=h;have bn:cs.length=n*z:=by rw[QG aU,NI,aE.1]
  exact⟨cs,_,by simp only[oc,h1,ae,al,if_pos aE,aU]; rfl,rfl,by rw[bn]⟩
 case makeSlice t a c=>
  simp only[bind_some] at hm;obtain⟨e,h1,z,ae,by_,al,zero,aE,hm⟩:=hm;rw[iS] at hm;obtain⟨aU,rfl⟩:=hm;simp only[b5] at h;unfold u5 at h;cases az:aG a<;>rw[az] at h<;>(try simp only at h)<;>try (cases h; done)
  cases ah:aG c<;>rw[ah] at h<;>(try simp only at h)<;>try (cases h; done)
  rw[iS] at h;obtain⟨bz,dy⟩:=h;cases dy;rename_i kc nc;have bn:(dZ zero nc.toNat).length=nc.toNat*z:=by rw[NI,aU]
  exact⟨dZ zero nc.toNat,_,by simp only[oc,az,ah,h1,asInt,ae,al,aE]; rw[if_pos ⟨aU,bz⟩],rfl,by rw[bn]⟩
 case pick=>cases hm; cases aF
 case move=>cases hm; cases aF
 case assign=>cases hm; cases aF
 case nilCheck=>cases hm; cases aF
 case binOp=>cases hm; cases aF
 case unOp=>cases hm; cases aF
 case call c=>
  exfalso;split at hm
  ·unfold vV at hm
   repeat' split at hm
   all_goals first
    | (cases hm; done)
    | (cases hm; cases aF; done)
    | (simp only[bind_some,map_some] at hm; obtain⟨_,_,rfl⟩:=hm; cases aF; done)
    | (simp only[bind_some,map_some] at hm; obtain⟨_,_,_,_,rfl⟩:=hm; cases aF; done)
    | (simp only[bind_some,iS] at hm; obtain⟨_,_,_,_,_,_,_,rfl⟩:=hm; cases aF; done)
    | (simp only[bind_some,iS] at hm; obtain⟨_,_,_,_,_,_,_,_,_,rfl⟩:=hm; cases aF; done)
  ·split at hm
   ·rw[iS] at hm; obtain⟨_,rfl⟩:=hm; cases aF
   ·cases hm
  ·cases hm
 case next it b=>exfalso; cases b<;>simp only[reduceCtorEq] at hm<;>cases hm<;>cases aF
 case panic=>cases hm; cases aF
 case lookup=>exfalso; split at hm<;>(try cases hm; done); rw[map_some] at hm; obtain⟨_,_,rfl⟩:=hm; cases aF
 case build=>exfalso; simp only[bind_some,map_some] at hm; obtain⟨_,_,_,_,rfl⟩:=hm; cases aF
 case typeAssert=>exfalso; rw[map_some] at hm; obtain⟨_,_,rfl⟩:=hm; cases aF
 case store=>exfalso; rw[map_some] at hm; obtain⟨_,_,rfl⟩:=hm; cases aF
 case slice=>exfalso; rw[map_some] at hm; obtain⟨_,_,rfl⟩:=hm; cases aF
 case fieldAddr=>exfalso; rw[bind_some] at hm; obtain⟨_,_,hm⟩:=hm; split at hm<;>cases hm; cases aF
 case field=>exfalso; rw[bind_some] at hm; obtain⟨_,_,hm⟩:=hm; split at hm<;>cases hm<;>cases aF
 case extract=>cases hm; cases aF
 case makeFunc f a b=>exfalso; cases f<;>simp only at hm<;>cases hm; cases aF
 all_goals
  exfalso
  repeat' split at hm
  all_goals first | (cases hm; done) | (cases hm; cases aF; done)
end

end Go.cf

/-
  The canonical machine, part N: a region that draws its order.
-/
import Derived.Test.YtobphgccoalchaaGreatDoorQc
import Derived.ProofKit
set_option linter.unusedVariables false
set_option linter.unusedSimpArgs false
set_option linter.unnecessarySimpa false
namespace Go.b2
open Go
section
variable {P:Program} {G:Nat->U}
theorem yV {ops:Array Oper} {t i:Nat} (h:jy ops t=some i) :∃ o,ops[i]? = some o/\o.dst=some t:=by
 unfold jy at h;have:=List.find?_some h;cases ap:ops[i]? with
 | none=>simp[ap] at this
 | some o=>exact⟨o,rfl,by simpa [ap] using this⟩
def s7 (ops:Array Oper) (val ae:Nat->U) (c8:Array Bool) :Nat->U:=fun t=>
 match jy ops t with
 | some i=>if c8.getD i false then val i else ae t
 | none=>ae t
theorem aa5 {ops:Array Oper} {pre:Nat->Nat->Bool} (hd:tg ops pre) {c8:Array Bool}
  (down:∀ (i:Nat) (o:Oper) (e:Edge),ops[i]? = some o->c8.getD i false=true->e∈o.after->Region.binds .any e=true->c8.getD e.on false=true)
  (eG:∀ i,c8.getD i false=true->∃ o,ops[i]? = some o) :∀ (i:Nat),c8.getD i false=true->∀ j,pre i j=true->c8.getD j false=true:=by
 intro i
 induction i using Nat.strongRecOn with
 | _ i aH=>
  intro av j ai;obtain⟨o,ap⟩:=eG i av;obtain⟨e,ao,ag,m8⟩:=hd.chain i o j ap ai;have dO:=down i o e ap av ao ag;rcases m8 with rfl | m8
  ·exact dO
  ·exact aH e.on (hd.BT i o e ap ao ag) dO j m8
theorem xp (c8:Array Bool) (i j:Nat) (av:i<c8.size) :(c8.setIfInBounds i true).getD j false=if j=i then true else c8.getD j false:=by
 rw[aun,auG];by_cases h:i=j
 ·subst h; simp[av]
 ·rw[if_neg h,if_neg (Ne.symm h),aun]
theorem HA {ops:Array Oper} {pre:Nat->Nat->Bool} (hd:tg ops pre) {val ae:Nat->U} {c8:Array Bool} {i:Nat} {o:Oper} (ap:ops[i]? = some o) (av:i<c8.size) :
  s7 ops val ae (c8.setIfInBounds i true)=hc (s7 ops val ae c8) o.dst (val i) :=by
 funext t;unfold s7 hc;cases bq:o.dst with
 | none=>
  simp only;cases hw:jy ops t with
  | none=>rfl
  | some j=>
   have bx:j≠i:=fun aG=>by
    obtain⟨cJ,ek,pP⟩:=yV hw;rw[aG,ap] at ek; cases ek;rw[bq] at pP; cases pP
   simp only[xp _ _ _ av,if_neg bx]
 | some d=>
  simp only;by_cases aI:t=d
  ·subst aI;rw[hd.one i o t ap bq];simp[xp _ _ _ av]
  ·rw[cb _ _ _ _ aI];cases hw:jy ops t with
   | none=>rfl
   | some j=>
    have bx:j≠i:=fun aG=>by
     obtain⟨cJ,ek,pP⟩:=yV hw;rw[aG,ap] at ek; cases ek;rw[bq] at pP; cases pP;exact aI rfl
    simp only[xp _ _ _ av,if_neg bx]
structure Inv (P:Program) (ops:Array Oper) (val ae:Nat->U) (W:Nat->Bool) (cls:Nat->Ec) (m:Nat) (al:Nat->Nat) (fy:Nat->aN) (gu:Nat->Nat) (N:Nat)
  (R:Nat->Prop) (B:Nat) (mE:World) (h:aN) (rM:cH) (c8:Array Bool) (k:Nat) (a:Act) (w:World) (μ:cH) :Prop where
 size:c8.size=ops.size
 down:∀ (i:Nat) (o:Oper) (e:Edge),ops[i]? = some o->c8.getD i false=true->e∈o.after->Region.binds .any e=true->c8.getD e.on false=true
 Dg:k<=m
 done:∀ q,q<m->(c8.getD (al q) false=true<->q<k)
 ext:Ext0 mE h rM w (fy k) μ
 qt:∀ b,b<h.n->rM b=none->μ b=none
 rel:b3 R B w (fy k) μ
 wM:mN N w R (fy k) μ (s7 ops val ae c8) a
 Dy:∀ (i:Nat) (o:Oper),ops[i]? = some o->W i=true->cls i=.new->c8.getD i false=false->μ (gu i)=none
theorem ahm {ops:Array Oper} {c8:Array Bool} (hq:c8.size=ops.size) (i:Nat) (av:c8.getD i false=true) :∃ o,ops[i]? = some o:=by
 have:i<ops.size:=by
  rcases auA i c8.size with h1 | h1
  ·omega
  ·simp[aun,au2 h1] at av
 exact⟨ops[i],by simp[this]⟩
theorem Zr {ops:Array Oper} {pre:Nat->Nat->Bool} (hd:tg ops pre) {c8:Array Bool} (hq:c8.size=ops.size) (ax:Region.ready .any ops c8=[]) :∀ i,i<ops.size->c8.getD i false=true:=by
 intro i
 induction i using Nat.strongRecOn with
 | _ i aH=>
  intro av;cases ak:c8.getD i false with
  | true=>rfl
  | false=>
   exfalso;have kG:i∈Region.ready .any ops c8:=by
    refine mem_ready.2 ⟨?_,ops[i],by simp[av],fun e ao ag=>aH e.on (hd.BT i ops[i] e (by simp[av]) ao ag) (by
     have:=hd.BT i ops[i] e (by simp[av]) ao ag;omega)⟩
    have aK:i<c8.size:=by omega
    simpa [aun,aK] using ak
   rw[ax] at kG;cases kG
theorem aa8 (lK:P.follows .mixedOrders=true) (j3:∀ g,(G g).closed=true) :NZ P G:=by
 intro id ops N ae h bY h' pre val W cls m al fy rS gu cells hd pQ aE hm Gn xL Ct ng dY vX Ge F6 nd FB FC pS pM;refine⟨0,fun R B mE rM a0 Q uL b8 s0 mr=>wp_region_any lK ?_⟩;obtain⟨gw,qj⟩:=DL uL ⟨(RowKit.Below.refl mE.heap.size mE).drew,Nat.le_succ _⟩;obtain⟨aQ,s4⟩:=aE.rel qj;have Ry:=gw.trans aQ
 -- the end
 have fin:∀ (c8:Array Bool) (k:Nat) (a:Act) (w:World) (μ:cH),Inv P ops val ae W cls m al fy gu N R B mE h rM c8 k a w μ->(∀ i,i<ops.size->c8.getD i false=true)->Q .normal a w:=by
  intro c8 k a w μ inv eC;have hk:k=m:=by
   rcases auA k m with aK | zT
   ·obtain⟨o,ap,_⟩:=Ct k aK;have ak:=eC (al k) ((at2.1 ap).1);have:=(inv.done k aK).1 ak;omega
   ·have:=inv.Dg; omega
  subst hk;have afC:s7 ops val ae c8=bY:=by
   rw[Gn];funext t;unfold s7;cases hw:jy ops t with
   | none=>rfl
   | some i=>
    obtain⟨o,ap,_⟩:=yV hw;simp only[eC i ((at2.1 ap).1),if_true]
  subst hm;have e4:=inv.wM;rw[afC] at e4;exact mr a w μ ⟨inv.ext,inv.qt⟩ inv.rel e4
 have key:∀ (fuel:Nat) (c8:Array Bool) (k:Nat) (a:Act) (w:World) (μ:cH),Inv P ops val ae W cls m al fy gu N R B mE h rM c8 k a w μ->c8.toList.count false=fuel->wpAny P .any ops Q fuel c8 a w:=by
  intro fuel
  induction fuel with
  | zero=>
   intro c8 k a w μ inv Tm;have eC:∀ i,i<ops.size->c8.getD i false=true:=by
    intro i av;have aK:i<c8.size:=by rw[inv.size]; exact av
    cases ak:c8[i] with
    | true=>simp[aun,aK,ak]
    | false=>
     exfalso;have kG:false∈c8.toList:=by rw[<-ak]; simp
     have:=av8.2 kG;omega
   refine⟨?_,fin c8 k a w μ inv eC⟩;cases ax:Region.ready .any ops c8 with
   | nil=>rfl
   | cons i l=>
    exfalso;have kG:i∈Region.ready .any ops c8:=by rw[ax]; simp
    obtain⟨h1,o,ap,_⟩:=mem_ready.1 kG;have av:=(at2.1 ap).1;have ad:=eC i av;have aK:i<c8.size:=by rw[inv.size]; exact av
    simp[aun,aK] at h1 ad;rw[h1] at ad; cases ad
  | succ fuel aH=>
   intro c8 k a w μ inv Tm;refine⟨fun ax=>fin c8 k a w μ inv (Zr hd inv.size ax),fun i av=>?_⟩;obtain⟨h1,o,ap,Tr⟩:=mem_ready.1 av;have aK:i<c8.size:=by rw[inv.size]; exact (at2.1 ap).1
   have nf:c8.getD i false=false:=by simpa [aun,aK] using h1
   have zF:=aa5 hd inv.down (ahm inv.size)
   -- what comes before i is done
   have KJ:∀ j,pre i j=true->c8.getD j false=true:=by
    intro j ai;obtain⟨e,ao,ag,m8⟩:=hd.chain i o j ap ai;have dO:=Tr e ao ag;rcases m8 with rfl | m8
    ·exact dO
    ·exact zF e.on dO j m8
   have Uo:∀ j,c8.getD j false=true->pre j i=true->False:=fun j ai ay=>by
    have:=zF j ai i ay;rw[nf] at this; cases this
   have Tu:zw pre m al i k:=⟨inv.Dg,fun q aZ ay=>(inv.done q aZ).1 (KJ _ ay),fun q aZ ay=>by
    rcases auA q k with iX | zT
    ·exact (Uo _ ((inv.done q aZ).2 iX) ay).elim
    ·exact zT⟩
   -- what i sees
   have Tt:∀ t,aO w R (fy k) μ (mX ops pre val ae i o t) (a.tmps.getD t undef) :=by
    intro t;unfold mX;split
    ·rename_i aI;have Gh:t∈o.looksAt ops:=by simpa using aI
     have aq:=inv.wM.val t;unfold s7 at aq;cases hw:jy ops t with
     | none=>rw[hw] at aq; exact aq
     | some j=>
      rw[hw] at aq;simp only at aq ⊢;by_cases ay:pre i j=true
      ·rw[if_pos ay];rw[if_pos (KJ j ay)] at aq;exact aq
      ·rw[if_neg ay];have aeZ:c8.getD j false=false:=by
        rcases hd.acc i o t j ap Gh hw with aG | aG | rfl
        ·exact absurd aG ay
        ·cases vP:c8.getD j false with
         | false=>rfl
         | true=>exact (Uo j vP aG).elim
        ·exact nf
       rw[aeZ] at aq;exact aq
    ·exact .bad _
   have Ty:ti G w R (fy k) μ:=fun g=>⟨j3 g,(b8 g).2.mY inv.ext⟩
   have cY:∀ x,aO w R (fy k) μ (cR G (mX ops pre val ae i o) x) (a.eval x) :=by
    intro x;cases x with
    | tmp t=>exact Tt t
    | const v=>exact aO.wr v
    | global g=>exact (Ty g).2
    | func f=>exact .fn f [] [] #[] #[] rfl rfl (fun _ _ _ aG=>by simp at aG) (fun _ _ _ aG=>by simp at aG)
   have UE:=NP (w:=w) (R:=R) (h:=fy k) (μ:=μ) (tmps:=a.tmps) (vX i o ap) (fun d _=>Tt d);have FH:(c8.setIfInBounds i true).toList.count false=fuel:=by
    have ag:c8.toList[i]'(by simpa using aK)=false:=by
     have:c8[i]=false:=by simpa [aun,aK] using h1
     simpa using this
    rw[Array.toList_setIfInBounds,List.count_set (by simpa using aK)];simp[ag,Tm]
   have Gd:(c8.setIfInBounds i true).size=ops.size:=by simp[inv.size]
   have FL:∀ (j:Nat) (cJ:Oper) (e:Edge),ops[j]? = some cJ->(c8.setIfInBounds i true).getD j false=true->e∈cJ.after->Region.binds .any e=true->(c8.setIfInBounds i true).getD e.on false=true:=by
    intro j cJ e ek ai ao ag;rw[xp _ _ _ aK] at ai ⊢;by_cases nS:j=i
    ·subst nS;rw[ap] at ek; cases ek;rw[Tr e ao ag]; split<;>rfl
    ·rw[if_neg nS] at ai;rw[inv.down j cJ e ek ai ao ag]; split<;>rfl
   -- the next state,when no block of others' is turned
   have oV:(W i=true->cls i≠.gj)->∀ q,q<m->((c8.setIfInBounds i true).getD (al q) false=true<->q<k) :=by
    intro bx q aZ;obtain⟨cJ,ek,dt,ah⟩:=Ct q aZ;have:al q≠i:=fun aG=>by
     rw[aG] at dt ah;exact bx dt ah
    rw[xp _ _ _ aK,if_neg this];exact inv.done q aZ
   have F4:∀ (j:Nat),(c8.setIfInBounds i true).getD j false=false->j≠i/\c8.getD j false=false:=by
    intro j ai;rw[xp _ _ _ aK] at ai;by_cases nS:j=i
    ·rw[if_pos nS] at ai; cases ai
    ·rw[if_neg nS] at ai; exact⟨nS,ai⟩
   unfold wpOp;simp only[ap];cases dt:W i with
   | false=>
    rw[UE,dt];simp only[auL,if_false];refine aH _ k _ w μ ⟨Gd,FL,inv.Dg,oV (fun aG=>by rw[dt] at aG; cases aG),inv.ext,inv.qt,inv.rel,?_,fun j cJ ek sh qT ai=>inv.Dy j cJ ek sh qT (F4 j ai).2⟩ FH;rw[HA hd ap aK];exact inv.wM.put (pQ i o ap) (by rw[Ge i o ap dt]; exact NF)
   | true=>
    rw[UE,dt];simp only[if_true];left;cases ah:cls i with
    | pure=>
     have cw:=F6 i o ap dt ah k Tu;obtain⟨v,w',μ',ax,e,r,aq⟩:=Nf (P:=P) inv.rel cY o cw;have Ub:wpAny P .any ops Q fuel (c8.setIfInBounds i true) (a.put o.dst v) w':=by
      refine aH _ k _ w' μ' ⟨Gd,FL,inv.Dg,oV (fun _ aG=>by rw[ah] at aG; cases aG),inv.ext.trans e.toExt0,fun b ag jk=>e.qt b (avJ ag inv.ext.n) (inv.qt b ag jk),r,?_,fun j cJ ek sh qT ai=>?_⟩ FH
      ·rw[HA hd ap aK];exact (inv.wM.ext e).put (pQ i o ap) aq
      ·have aC:=inv.Dy j cJ ek sh qT (F4 j ai).2;rcases auA (gu j) (fy k).n with ag | ag
       ·exact e.qt _ ag aC
       ·exact r.kM _ ag
     unfold Oper.wp;rcases ax with ax | ⟨ax,rfl⟩
     ·rw[ax]; exact Ub
     ·rw[ax]; exact Ub
    | new=>
     obtain⟨mk,aC,Ad,m5,hblk⟩:=nd i o ap dt ah;obtain⟨v,arr,t,ax,cC,vQ⟩:=ahL (P:=P) cY o aC;have eD:=hblk k Tu;have adH:=inv.Dy i o ap dt ah nf;have aph:gu i<(fy k).n:=by
      rcases auA (gu i) (fy k).n with ag | ag
      ·exact ag
      ·rw[inv.rel.fresh _ ag] at eD; cases eD
     have pZ:∀ b cg,μ b=some cg->b≠gu i:=fun b cg ag aG=>by rw[aG,adH] at ag; cases ag
     have e:Ext0 w (fy k) μ (w.alloc (.cells arr t)) (fy k) (bL μ (gu i) (some ⟨w.heap.size,0,arr.size⟩)) :=by
      refine⟨rfl,rfl,rfl,by simp,fun x af _=>?_,?_,fun b sz cs cg ag hm=>.inl ⟨cs,ag,by rw[cb _ _ _ _ (pZ b cg hm)]; exact hm⟩,fun _ _ ar=>ar,fun b k cg ag hm=>⟨ag,by rw[cb _ _ _ _ (pZ b cg hm)]; exact hm⟩,att _,att _⟩
      ·exact RowKit.Below.heap_alloc w _ x af
      ·rintro x ⟨b,cg,ak,hm,rfl⟩;by_cases ag:b=gu i
       ·subst ag; simp at hm; subst hm; exact .inr (att _)
       ·rw[cb _ _ _ _ ag] at hm;exact .inl ⟨b,cg,ak,hm,rfl⟩
     have r:b3 R B (w.alloc (.cells arr t)) (fy k) (bL μ (gu i) (some ⟨w.heap.size,0,arr.size⟩)) :=by
      refine inv.rel.uT e (gu i) (fun b ag ak=>⟨rfl,cb _ _ _ _ ag,fun cg hm=>RowKit.Below.heap_alloc w _ _ (inv.rel.lt ak hm)⟩) (fun cg hm=>?_) (fun b cg ase ag ak _ hm bZ=>?_) (fun cg _ hm=>?_) inv.rel.fresh (fun b ag=>?_)
      ·simp at hm; subst hm;rw[eD];refine⟨rfl,by simp[cC.1],arr,t,(0,0),heap_alloc_new w _,rfl,.inl rfl,fun j c ai=>?_⟩;obtain⟨u,aS,aX,a3⟩:=cC.2 j c ai;exact⟨u,by simpa using aS,aX,a3.mY e⟩
      ·simp at bZ; subst bZ;have:=inv.rel.lt ak hm;simp only[ne_eq]; omega
      ·simp at hm; subst hm;exact inv.rel.size
      ·rw[cb _ _ _ _ (by omega)];exact inv.rel.kM b ag
     have aq:aO (w.alloc (.cells arr t)) R (fy k) (bL μ (gu i) (some ⟨w.heap.size,0,arr.size⟩)) (val i) v:=by
      rw[Ad];exact vQ _ _ _ _ _ eD (by simp)
     unfold Oper.wp;rw[ax];refine aH _ k _ _ _ ⟨Gd,FL,inv.Dg,oV (fun _ aG=>by rw[ah] at aG; cases aG),inv.ext.trans e,fun b ag jk=>by rw[cb _ _ _ _ (by omega)]; exact inv.qt b ag jk,r,?_,fun j cJ ek sh qT ai=>?_⟩ FH
     ·rw[HA hd ap aK];have CQ:mN N (w.alloc (.cells arr t)) R (fy k) (bL μ (gu i) (some ⟨w.heap.size,0,arr.size⟩)) (s7 ops val ae c8) a:=⟨inv.wM.size,inv.wM.defers,fun gb=>(inv.wM.val gb).mY e⟩
      exact CQ.put (pQ i o ap) aq
     ·obtain⟨nS,vP⟩:=F4 j ai;rw[cb _ _ _ _ (fun aG=>nS (FB j i cJ o ek ap sh dt qT ah aG))];exact inv.Dy j cJ ek sh qT vP
    | gj=>
     obtain⟨q,aZ,rfl⟩:=xL i o ap dt ah;have vV:q=k:=by
      have ad:¬ q<k:=fun aG=>by
       have:=(inv.done q aZ).2 aG;rw[nf] at this; cases this
      rcases auA k q with iX | zT
      ·have m9:k<m:=by omega
       have:=KJ (al k) (ng k q m9 aZ iX);have:=(inv.done k m9).1 this;omega
      ·omega
     subst vV;refine pM q o aZ ap R B w μ a o _ Q rfl inv.rel Ty cY fun v w' μ' e r aq=>?_
     obtain⟨bF,fg⟩:=(pS q aZ).rel r;have dz:=e.trans bF;refine aH _ (q+1) _ w' μ' ⟨Gd,FL,by omega,fun fl oU=>?_,inv.ext.trans dz.toExt0,fun b ag jk=>dz.qt b (avJ ag inv.ext.n) (inv.qt b ag jk),fg,?_,fun j cJ ek sh qT ai=>?_⟩ FH
     ·rw[xp _ _ _ aK];by_cases F7:fl=q
      ·subst F7; simp
      ·rw[if_neg (fun aG=>F7 (dY fl q oU aZ aG)),inv.done fl oU];omega
     ·rw[HA hd ap aK];exact (inv.wM.ext dz).put (pQ _ o ap) (aq.ext bF)
     ·have aC:=inv.Dy j cJ ek sh qT (F4 j ai).2;rcases FC j cJ q ek sh qT aZ with ag | ag
      ·exact e.qt _ ag aC
      ·exact r.kM _ ag
 have aet:Inv P ops val ae W cls m al fy gu N R B mE h rM (Array.replicate ops.size false) 0 a0 mE.drew rM:=by
  have aD:∀ i,(Array.replicate ops.size false).getD i false=false:=by
   intro i;rw[aun,Array.getElem?_replicate];split<;>rfl
  refine⟨by simp,(fun i o e _ av _ _=>by rw[aD] at av; cases av),auy _,(fun q aZ=>by rw[aD]; simp),Ry.toExt0,fun b ag jk=>jk,s4,?_,fun i o ap dt ah _=>?_⟩
  ·have e4:s7 ops val ae (Array.replicate ops.size false)=ae:=by
    funext t;unfold s7;cases hw:jy ops t with
    | none=>rfl
    | some i=>simp only[aD]; simp
   rw[e4];exact s0.ext Ry
  ·obtain⟨mk,aC,Ad,m5,hblk⟩:=nd i o ap dt ah;exact uL.kM _ m5
 exact key _ _ 0 a0 mE.drew rM aet (by simp)
theorem akB (lK:P.follows .mixedOrders=true) (j3:∀ g,(G g).closed=true) {j:J} (ai:dn P G j) :w5 P G j:=akC (aa8 lK j3) ai
end

section
variable {P:Program} {G:Nat->U}
theorem Mj {aA dV:Operand->U} (cE:Array (Nat × Operand)) (h:∀ x∈(cE.toList.map (·.2)),aA x=dV x) :(cE.toList.map fun p=>(p.1,aA p.2))=(cE.toList.map fun p=>(p.1,dV p.2)) :=
 au0 fun p ay=>by rw[h p.2 (atV.2 ⟨p,ay,rfl⟩)]
theorem LX {aA dV:Operand->U} (xs:Array Operand) (h:∀ x∈xs,aA x=dV x) :xs.toList.map aA=xs.toList.map dV:=
 au0 fun x af=>h x (by simpa using af)
theorem L9 {aA dV:Operand->U} (o:Option Operand) (h:∀ x∈o.toArray,aA x=dV x) :o.map aA=o.map dV:=by
 cases o with
 | none=>rfl
 | some x=>simp[h x (by simp)]
theorem Nd {aA dV:Operand->U} (h:aN) (op:Op) (af:∀ x∈op.operands,aA x=dV x) :cV P h aA op=cV P h dV op:=by
 cases op<;>simp only[Op.operands] at af<;>try rfl
 case build t cE=>simp only[cV]; rw[Mj cE (fun x hm=>af x (by simpa using hm))]
 case buildSlice t n cE=>simp only[cV]; rw[Mj cE (fun x hm=>af x (by simpa using hm))]
 case makeFunc fn first fI=>
  cases fn<;>simp only[cV];rw[LX first (fun x hm=>af x (by simp[hm])),LX fI (fun x hm=>af x (by simp[hm]))]
 case slice t x cN av cG=>
  simp only[cV];rw[af x (by simp),L9 cN (fun y hm=>af y (by simp at hm ⊢; simp[hm])),L9 av (fun y hm=>af y (by simp at hm ⊢; simp[hm])),L9 cG (fun y hm=>af y (by simp at hm ⊢; simp[hm]))]
 case call c=>
  have aB:c.args.toList.map aA=c.args.toList.map dV:=LX c.args (fun x hm=>af x (by simp[Call.operands,hm]));simp only[cV,vd,aB];cases ah:c.callee with
  | value f=>dsimp only; rw[af f (by simp[Call.operands,ah])]
  | invoke x name=>dsimp only; rw[af x (by simp[Call.operands,ah])]
  | _=>rfl
 case makeMap t r=>
  cases r with
  | none=>rfl
  | some x=>simp only[cV]; rw[af x (by simp)]
 case next it b=>
  cases b with
  | false=>rfl
  | true=>simp only[cV]; rw[af it (by simp)]
 all_goals (simp only[cV]; simp_all)
theorem ahK {aA dV:Operand->U} (op:Op) (af:∀ x∈op.operands,aA x=dV x) :nn P aA op=nn P dV op:=by
 cases op<;>simp only[Op.operands] at af<;>try rfl
 case box t x=>simp only[nn]; rw[af x (by simp)]
 case buildSlice t n cE=>simp only[nn]; rw[Mj cE (fun x hm=>af x (by simpa using hm))]
 case makeSlice t l c=>simp only[nn]; rw[af l (by simp),af c (by simp)]
theorem abE {ae bY:Nat->U} {h h' : aN} {v:U} {op:Op} (af:∀ x∈op.operands,cR G ae x=cR G bY x) (ao:dn P G (.op op ae h v h')) :dn P G (.op op bY h v h') :=by
 generalize ai:J.op op ae h v h'=j at ao
 induction ao generalizing v h'<;>cases ai
 case G5 al=>exact .G5 (by rw[<-Nd h op af]; exact al)
 case Az=>exact .Az (by rw[<-Nd h op af]; assumption) (by assumption)
 case HR=>exact .HR (by first | (rename_i aH; exact aH rfl) | (rename_i aH _; exact aH rfl) | (rename_i aH _ _; exact aH rfl)) (by assumption) (by assumption)
inductive bK where
 | skip (i:Nat)
 | pure (i:Nat) (v:U)
 | new (i:Nat) (v:U) (cs:List U)
 | gj (i:Nat) (v:U) (h1:aN)
def bK.idx:bK->Nat
 | .skip i | .pure i _ | .new i _ _ | .gj i _ _=>i
def bK.val:bK->U
 | .skip _=>he
 | .pure _ v | .new _ v _ | .gj _ v _=>v
def bK.i2:bK->Bool
 | .gj ..=>true
 | _=>false
def bK.ur:bK->Bool
 | .skip _=>true
 | _=>false
def bK.cls:bK->Ec
 | .skip _ | .pure ..=>.pure
 | .new ..=>.new
 | .gj ..=>.gj
def bK.cs:bK->List U
 | .new _ _ cs=>cs
 | _=>[]
structure jD where
 ae:Nat->U
 h:aN
def xh (ops:Array Oper) (i:Nat) :Option Tmp:=(ops[i]?).bind (·.dst)
def qd (h:aN) :bK->aN
 | .skip _ | .pure ..=>h
 | .new _ _ cs=>h.push (.cells cs.length cs)
 | .gj _ _ h1=>h1
def lR (ops:Array Oper) (s:jD) (t:bK) :jD:=⟨hc s.ae (xh ops t.idx) t.val,qd s.h t⟩
def gI (ops:Array Oper) (s0:jD) (tr:List bK) (p:Nat) :jD:=(tr.take p).foldl (lR ops) s0
theorem AQ {ops:Array Oper} {s0:jD} {tr:List bK} {p:Nat} {t:bK} (h:tr[p]? = some t) :gI ops s0 tr (p+1)=lR ops (gI ops s0 tr p) t:=by
 unfold gI;have aK:p<tr.length:=(atq.1 h).1;rw[List.take_succ_eq_append_getElem aK,avN];have:tr[p]=t:=(atq.1 h).2;simp[this]
def w7 (P:Program) (G:Nat->U) (ops:Array Oper) (s:jD) :bK->Prop
 | .skip i=>∃ o,ops[i]? = some o/\ks ops s.ae o=some false
 | .pure i v=>∃ o,ops[i]? = some o/\ks ops s.ae o=some true
 | .new i v cs=>∃ o mk,ops[i]? = some o/\ks ops s.ae o=some true/\nn P (cR G s.ae) o.op=some (cs,mk)/\v=mk s.h.n
 | .gj i v h1=>∃ o,ops[i]? = some o/\ks ops s.ae o=some true/\dn P G (.op o.op s.ae s.h v h1)/\s.h.n<=h1.n
def H7 (P:Program) (G:Nat->U) (ops:Array Oper) (s:jD) (h:aN) :bK->Prop
 | .pure i v=>∀ o,ops[i]? = some o->cV P h (cR G s.ae) o.op=some (.val v h)
 | .new _ _ cs=>h.f s.h.n=.cells cs.length cs
 | _=>True
structure y4 (ops:Array Oper) (pre:Nat->Nat->Bool) (tr:List bK) :Prop where
 hd:tg ops pre
 all:∀ i,i<ops.size->∃ (p:Nat) (t:bK),tr[p]? = some t/\t.idx=i
 inj:∀ (p bI:Nat) (t gb:bK),tr[p]? = some t->tr[bI]? = some gb->t.idx=gb.idx->p=bI
 Hu:∀ (p:Nat) (t:bK),tr[p]? = some t->t.idx<ops.size
 X2:∀ (p bI:Nat) (t gb:bK),tr[p]? = some t->tr[bI]? = some gb->p<bI->pre t.idx gb.idx=false
 eager:∀ (p bI:Nat) (t gb:bK),tr[p]? = some t->tr[bI]? = some gb->p<bI->t.i2=true->pre gb.idx t.idx=true
structure H8 (P:Program) (G:Nat->U) (ops:Array Oper) (pre:Nat->Nat->Bool) (s0:jD) (tr:List bK) :Prop where
 step:∀ (p:Nat) (t:bK),tr[p]? = some t->w7 P G ops (gI ops s0 tr p) t
 still:∀ (q:Nat),(q=tr.length\/∃ t:bK,tr[q]? = some t/\t.i2=true)->∀ (p:Nat) (t:bK),p<q->tr[p]? = some t->
  (∀ (bI:Nat) (gb:bK),bI<q->tr[bI]? = some gb->gb.i2=true->pre gb.idx t.idx=false)->H7 P G ops (gI ops s0 tr p) (gI ops s0 tr q).h t
def ea (tr:List bK) (i:Nat) :Nat:=tr.findIdx fun t=>t.idx == i
theorem yy {ops:Array Oper} {pre:Nat->Nat->Bool} {tr:List bK} (ga:y4 ops pre tr) {i:Nat} (av:i<ops.size) :∃ t,tr[ea tr i]? = some t/\t.idx=i:=by
 obtain⟨p,t,ay,aI⟩:=ga.all i av;have aK:p<tr.length:=(atq.1 ay).1;have kG:∃ x∈tr,(x.idx == i)=true:=⟨t,atz ay,by simpa using aI⟩
 have qW:ea tr i<tr.length:=List.findIdx_lt_length_of_exists kG;have:=List.findIdx_getElem (w:=qW);exact⟨tr[ea tr i],by simp[qW],by unfold ea; simpa using this⟩
theorem Hd {ops:Array Oper} {pre:Nat->Nat->Bool} {tr:List bK} (ga:y4 ops pre tr) {p:Nat} {t:bK} (ay:tr[p]? = some t) :ea tr t.idx=p:=by
 obtain⟨gb,h1,ad⟩:=yy ga (ga.Hu p t ay);exact ga.inj _ _ _ _ h1 ay ad
theorem Xv {ops:Array Oper} {pre:Nat->Nat->Bool} {tr:List bK} (ga:y4 ops pre tr) (s0:jD) :∀ p,p<=tr.length->∀ t,
  (gI ops s0 tr p).ae t=match jy ops t with | some j=>(if ea tr j<p then ((tr[ea tr j]?).map bK.val).getD .bad else s0.ae t) | none=>s0.ae t:=by
 intro p
 induction p with
 | zero=>
  intro _ t;simp only[gI,auE,List.foldl_nil];cases jy ops t<;>simp
 | succ p aH=>
  intro ay t;have aK:p<tr.length:=by omega
  have eY:tr[p]? = some tr[p] :=atu aK;rw[AQ eY];simp only[lR];have CI:=aH (by omega) t;have kH:=Hd ga eY;have afv:=ga.Hu p _ eY;have gx:ops[tr[p].idx]? = some ops[tr[p].idx] :=by simp[afv]
  cases bq:xh ops tr[p].idx with
  | none=>
   simp only[hc,CI];cases hw:jy ops t with
   | none=>rfl
   | some j=>
    simp only;obtain⟨o,ap,KD⟩:=yV hw;have bx:ea tr j≠p:=by
     intro aG;obtain⟨Nu,h1,ad⟩:=yy ga ((at2.1 ap).1);rw[aG,eY] at h1;cases h1;rw[<-ad] at ap;simp only[xh,ap,au5] at bq;rw[KD] at bq; cases bq
    by_cases iX:ea tr j<p
    ·rw[if_pos iX,if_pos (by omega)]
    ·rw[if_neg iX,if_neg (by omega)]
  | some d=>
   simp only[hc];by_cases aI:t=d
   ·subst aI;have pQ:ops[tr[p].idx].dst=some t:=by simpa [xh,gx] using bq
    rw[jK,ga.hd.one _ _ t gx pQ];simp[kH,eY]
   ·rw[cb _ _ _ _ aI,CI];cases hw:jy ops t with
    | none=>rfl
    | some j=>
     simp only;obtain⟨o,ap,KD⟩:=yV hw;have bx:ea tr j≠p:=by
      intro aG;obtain⟨Nu,h1,ad⟩:=yy ga ((at2.1 ap).1);rw[aG,eY] at h1;cases h1;rw[<-ad] at ap;simp only[xh,ap,au5] at bq;rw[KD] at bq; cases bq;exact aI rfl
     by_cases iX:ea tr j<p
     ·rw[if_pos iX,if_pos (by omega)]
     ·rw[if_neg iX,if_neg (by omega)]
theorem aiD {ops:Array Oper} {pre:Nat->Nat->Bool} (hd:tg ops pre) (eG:∀ (i:Nat) (o:Oper) (e:Edge),ops[i]? = some o->e∈o.after->Region.binds .any e=true->∃ cJ,ops[e.on]? = some cJ) :∀ (i:Nat) (o:Oper),ops[i]? = some o->∀ j,pre i j=true->j<i:=by
 intro i
 induction i using Nat.strongRecOn with
 | _ i aH=>
  intro o ap j ai;obtain⟨e,ao,ag,m8⟩:=hd.chain i o j ap ai;have aK:=hd.BT i o e ap ao ag;rcases m8 with rfl | m8
  ·exact aK
  ·obtain⟨cJ,ek⟩:=eG i o e ap ao ag;have:=aH e.on aK cJ ek j m8;omega
theorem ahU {ops:Array Oper} {pre:Nat->Nat->Bool} (hd:tg ops pre) (i:Nat) (o:Oper) (ap:ops[i]? = some o) (ay:pre i i=true) :False:=by
 have:=aiD hd (fun i o e ap ao ag=>by
  have h1:=hd.BT i o e ap ao ag;have ad:=(at2.1 ap).1;exact⟨ops[e.on]'(by omega),by simp⟩) i o ap i ay
 omega
theorem RD {ops:Array Oper} {pre:Nat->Nat->Bool} {tr:List bK} (ga:y4 ops pre tr) (s0:jD) {i:Nat} {o:Oper} (ap:ops[i]? = some o) {t:Nat} (aI:t∈o.looksAt ops) :
  mX ops pre (fun j=>((tr[ea tr j]?).map bK.val).getD .bad) s0.ae i o t=(gI ops s0 tr (ea tr i)).ae t:=by
 have av:i<ops.size:=(at2.1 ap).1;obtain⟨dd,h1,ad⟩:=yy ga av;have dO:ea tr i<=tr.length:=avv (atq.1 h1).1;rw[Xv ga s0 _ dO];unfold mX;rw[if_pos (by simpa using aI)];cases hw:jy ops t with
 | none=>rfl
 | some j=>
  simp only;obtain⟨VZ,x1,_⟩:=yV hw;obtain⟨Nu,aj,aF⟩:=yy ga ((at2.1 x1).1);have key:pre i j=true<->ea tr j<ea tr i:=by
   constructor
   ·intro ay;rcases auz (ea tr j) (ea tr i) with h | h | h
    ·exact h
    ·exfalso;rw[h,h1] at aj;cases aj;have ho:i=j:=by rw[<-ad,<-aF]
     subst ho;exact ahU ga.hd i o ap ay
    ·have:=ga.X2 _ _ _ _ h1 aj h;rw[ad,aF] at this;rw[this] at ay; cases ay
   ·intro aK;rcases ga.hd.acc i o t j ap aI hw with aG | aG | rfl
    ·exact aG
    ·have:=ga.X2 _ _ _ _ aj h1 aK;rw[ad,aF] at this;rw[this] at aG; cases aG
    ·omega
  by_cases ay:pre i j=true
  ·rw[if_pos ay,if_pos (key.1 ay)]
  ·rw[if_neg ay,if_neg (fun aG=>ay (key.2 aG))]
def eR (tr:List bK) :List Nat:=(List.range tr.length).filter fun p=>((tr[p]?).map bK.i2).getD false
theorem GR {tr:List bK} {p:Nat}:p∈eR tr<->∃ t,tr[p]? = some t/\t.i2=true:=by
 unfold eR;rw[auI,at4];constructor
 ·rintro⟨h1,ad⟩;refine⟨tr[p],by simp[h1],?_⟩;simpa [h1] using ad
 ·rintro⟨t,h1,ad⟩;exact⟨(atq.1 h1).1,by simp[h1,ad]⟩
theorem vv {tr:List bK} {q fl:Nat} (aZ:q<fl) (oU:fl<(eR tr).length) :(eR tr).getD q 0<(eR tr).getD fl 0:=by
 have ay:(eR tr).Pairwise (· < ·) :=List.Pairwise.filter _ List.pairwise_lt_range;have:=aui.1 ay q fl (by omega) oU aZ;simpa [List.getD,oU,show q<(eR tr).length by omega] using this
theorem RA {tr:List bK} {q:Nat} (aZ:q<(eR tr).length) :∃ t,tr[(eR tr).getD q 0]? = some t/\t.i2=true:=by
 apply GR.1;simp[List.getD,aZ]
theorem EM {tr:List bK} {p:Nat} (ay:p∈eR tr) :∃ q,q<(eR tr).length/\(eR tr).getD q 0=p:=by
 obtain⟨q,aZ,rfl⟩:=List.getElem_of_mem ay;exact⟨q,aZ,by simp[List.getD,aZ]⟩
theorem Dl {ops:Array Oper} {pre:Nat->Nat->Bool} {s0:jD} {tr:List bK} (qp:H8 P G ops pre s0 tr) :∀ (k p:Nat),p+k<=tr.length->(gI ops s0 tr p).h.n<=(gI ops s0 tr (p+k)).h.n
 | 0,p,_=>att _
 | k+1,p,ay=>by
  have aH:=Dl qp k p (by omega);have aK:p+k<tr.length:=by omega
  have eY:tr[p+k]? = some tr[p+k] :=atu aK;have al:=qp.step _ _ eY;rw[show p+(k+1)=(p+k)+1 from rfl,AQ eY];refine auV aH ?_;cases aI:tr[p+k] with
  | skip i=>simp[lR,qd]
  | pure i v=>simp[lR,qd]
  | new i v cs=>simp[lR,qd,ff]
  | gj i v h1=>
   rw[aI] at al;obtain⟨o,_,_,_,aC⟩:=al;simpa [lR,qd] using aC
theorem Jt {ops:Array Oper} {s0:jD} {tr:List bK}:∀ (k p:Nat),p+k<=tr.length->(∀ r,p<=r->r<p+k->r∉eR tr)->om (gI ops s0 tr p).h (gI ops s0 tr (p+k)).h
 | 0,p,_,_=>⟨[],rfl⟩
 | k+1,p,ay,dF=>by
  obtain⟨l,ak⟩:=Jt (ops:=ops) (s0:=s0) (tr:=tr) k p (by omega) (fun r h1 ad=>dF r h1 (by omega));have aK:p+k<tr.length:=by omega
  have eY:tr[p+k]? = some tr[p+k] :=atu aK;have bx:tr[p+k].i2≠true:=fun aG=>dF (p+k) (by omega) (by omega) (GR.2 ⟨_,eY,aG⟩)
  rw[show p+(k+1)=(p+k)+1 from rfl,AQ eY];cases aI:tr[p+k] with
  | skip i=>exact⟨l,by simp[lR,qd,ak]⟩
  | pure i v=>exact⟨l,by simp[lR,qd,ak]⟩
  | new i v cs=>exact⟨l++[cs],by simp[lR,qd,ak,wv]⟩
  | gj i v h1=>rw[aI] at bx; exact absurd rfl bx
theorem dn.aa6 {id:Nat} {ops:Array Oper} {pre:Nat->Nat->Bool} {N:Nat} {s0:jD} {tr:List bK} (ga:y4 ops pre tr) (bq:∀ (i:Nat) (o:Oper),ops[i]? = some o->pF N o.dst=true) (qp:H8 P G ops pre s0 tr) :
  dn P G (.code (.region id ops true) N s0.ae s0.h .normal (gI ops s0 tr tr.length).ae (gI ops s0 tr tr.length).h) :=by
 -- the step that carries out operation i
 have hG:∀ (i:Nat) (o:Oper),ops[i]? = some o->∃ t,tr[ea tr i]? = some t/\t.idx=i/\w7 P G ops (gI ops s0 tr (ea tr i)) t:=fun i o ap=>by
  obtain⟨t,h1,ad⟩:=yy ga ((at2.1 ap).1);exact⟨t,h1,ad,qp.step _ _ h1⟩
 have amp:∀ (i:Nat) (o:Oper),ops[i]? = some o->ks ops (mX ops pre (fun j=>((tr[ea tr j]?).map bK.val).getD .bad) s0.ae i o) o=ks ops (gI ops s0 tr (ea tr i)).ae o:=fun i o ap=>by
  unfold ks;cases ar:o.guard with
  | none=>rfl
  | some kj=>
   obtain⟨j,A2⟩:=kj;simp only;cases adZ:(ops[j]?).bind (·.dst) with
   | none=>rfl
   | some d=>
    simp only;rw[RD ga s0 ap (t:=d) (by simp[Oper.looksAt,ar,adZ])]
 have L8:∀ (i:Nat) (o:Oper),ops[i]? = some o->∀ x∈o.op.operands,cR G (gI ops s0 tr (ea tr i)).ae x=cR G (mX ops pre (fun j=>((tr[ea tr j]?).map bK.val).getD .bad) s0.ae i o) x:=fun i o ap x af=>by
  cases x with
  | tmp t=>
   refine (RD ga s0 ap (t:=t) ?_).symm;simp only[Oper.looksAt,atQ,List.mem_filterMap];exact .inl ⟨.tmp t,by simpa using af,rfl⟩
  | _=>rfl
 -- the moment ahead of effect k,or the end
 have Nw:∀ k,k<=(eR tr).length->∃ T,T<=tr.length/\(T=tr.length\/∃ t,tr[T]? = some t/\t.i2=true)/\(T=if k<(eR tr).length then (eR tr).getD k 0 else tr.length) :=fun k hk=>by
  by_cases aK:k<(eR tr).length
  ·obtain⟨t,h1,ad⟩:=RA aK;exact⟨_,avv (atq.1 h1).1,.inr ⟨t,h1,ad⟩,by rw[if_pos aK]⟩
  ·exact⟨_,att _,.inl rfl,by rw[if_neg aK]⟩
 have gO:∀ q,q<(eR tr).length->∃ t,tr[(eR tr).getD q 0]? = some t/\t.i2=true/\((tr[(eR tr).getD q 0]?).map bK.idx).getD 0=t.idx:=fun q aZ=>by
  obtain⟨t,h1,ad⟩:=RA aZ;exact⟨t,h1,ad,by rw[h1]; rfl⟩
 have XD:∀ (i:Nat) (o:Oper) (t:bK),ops[i]? = some o->tr[ea tr i]? = some t->t.idx=i->t.i2=false->∀ k,zw pre (eR tr).length (fun q=>((tr[(eR tr).getD q 0]?).map bK.idx).getD 0) i k->
   H7 P G ops (gI ops s0 tr (ea tr i)) (gI ops s0 tr (if k<(eR tr).length then (eR tr).getD k 0 else tr.length)).h t:=by
  intro i o t ap aI K4 bx k aD;obtain⟨m9,xM,sn⟩:=aD;obtain⟨T,SU,JQ,oB⟩:=Nw k m9;rw[<-oB];have apO:ea tr i<tr.length:=(atq.1 aI).1;have aff:ea tr i<T:=by
   by_cases aK:k<(eR tr).length
   ·rw[if_pos aK] at oB;obtain⟨ald,h1,ad,aj⟩:=gO k aK;rw[<-oB] at h1;rcases auz (ea tr i) T with h | h | h
    ·exact h
    ·rw[h,h1] at aI;cases aI;rw[bx] at ad; cases ad
    ·have ao:=ga.eager T (ea tr i) ald t h1 aI h ad;have:=xM k aK (by (try simp only); rw[aj,<-K4]; exact ao);omega
   ·rw[if_neg aK] at oB;omega
  refine qp.still T JQ _ t aff aI (fun bI gb fR Gh gk=>?_);obtain⟨q,aZ,p2⟩:=EM (GR.2 ⟨gb,Gh,gk⟩);obtain⟨as4,h1,ad,aj⟩:=gO q aZ;rw[p2,Gh] at h1;cases h1;have vV:q<k:=by
   by_cases aK:k<(eR tr).length
   ·rw[if_pos aK] at oB;rcases auA q k with h | h
    ·exact h
    ·rcases av9 h with h | h
     ·subst h; omega
     ·have:=vv (tr:=tr) h aZ;omega
   ·omega
  cases ay:pre gb.idx t.idx with
  | false=>rfl
  | true=>
   have:=sn q aZ (by (try simp only); rw[aj,<-K4]; exact ay);omega
 refine dn.draw pre (fun j=>((tr[ea tr j]?).map bK.val).getD .bad) (fun j=>((tr[ea tr j]?).map fun t=>!t.ur).getD false) (fun j=>((tr[ea tr j]?).map bK.cls).getD .pure) (eR tr).length
  (fun q=>((tr[(eR tr).getD q 0]?).map bK.idx).getD 0) (fun k=>(gI ops s0 tr (if k<(eR tr).length then (eR tr).getD k 0 else tr.length)).h) (fun q=>(gI ops s0 tr ((eR tr).getD q 0+1)).h)
  (fun j=>(gI ops s0 tr (ea tr j)).h.n) (fun j=>((tr[ea tr j]?).map bK.cs).getD []) ga.hd bq ?_ ?_ ?_ ?_ ?_ ?_ ?_ ?_ ?_ ?_ ?_ ?_ ?_ ?_ ?_
 ·-- h0
  obtain⟨T,SU,JQ,oB⟩:=Nw 0 (auy _)
  try simp only
  rw[<-oB];have:=Jt (ops:=ops) (s0:=s0) (tr:=tr) T 0 (by omega) (fun r _ ax kG=>by
   obtain⟨q,aZ,p2⟩:=EM kG;rw[if_pos (by omega)] at oB;rcases av9 (auy q) with h | h
   ·subst h; omega
   ·have:=vv (tr:=tr) h aZ;omega)
  simpa [gI] using this
 ·simp
 ·-- hσ
  funext t;rw[Xv ga s0 _ (att _)];cases hw:jy ops t with
  | none=>rfl
  | some j=>
   obtain⟨o,ap,_⟩:=yV hw;obtain⟨Nu,h1,_⟩:=yy ga ((at2.1 ap).1);simp only;rw[if_pos ((atq.1 h1).1)]
 ·-- heff
  intro i o ap dt ah;obtain⟨t,h1,ad,_⟩:=hG i o ap;simp only[h1,atA,aud] at ah;have ao:t.i2=true:=by cases t<;>simp_all [bK.cls,bK.i2]
  obtain⟨q,aZ,p2⟩:=EM (GR.2 ⟨t,h1,ao⟩);exact⟨q,aZ,by rw[p2,h1]; exact ad⟩
 ·-- heff'
  intro q aZ;obtain⟨t,h1,ad,aj⟩:=gO q aZ;refine⟨ops[t.idx]'(ga.Hu _ _ h1),by rw[aj]; simp[ga.Hu _ _ h1],?_,?_⟩
  ·simp only[aj,Hd ga h1,h1,atA,aud];cases t<;>simp_all [bK.ur,bK.i2]
  ·simp only[aj,Hd ga h1,h1,atA,aud];cases t<;>simp_all [bK.cls,bK.i2]
 ·-- hord
  intro q fl aZ oU aK;obtain⟨t,h1,ad,aj⟩:=gO q aZ;obtain⟨gb,dC,gS,vC⟩:=gO fl oU;simp only[aj,vC];exact ga.eager _ _ t gb h1 dC (vv aK oU) ad
 ·-- hinj
  intro q fl aZ oU ao;obtain⟨t,h1,ad,aj⟩:=gO q aZ;obtain⟨gb,dC,gS,vC⟩:=gO fl oU;simp only[aj,vC] at ao;have:=ga.inj _ _ t gb h1 dC ao;rcases auz q fl with h | h | h
  ·have:=vv (tr:=tr) h oU; omega
  ·exact h
  ·have:=vv (tr:=tr) h aZ; omega
 ·-- hwant
  intro i o ap;rw[amp i o ap];obtain⟨t,h1,ad,aj⟩:=hG i o ap;simp only[h1,atA,aud];cases t with
  | skip j=>obtain⟨cJ,ek,hw⟩:=aj; simp only[bK.idx] at ad; subst ad; rw[ap] at ek; cases ek; exact hw
  | pure j v=>obtain⟨cJ,ek,hw⟩:=aj; simp only[bK.idx] at ad; subst ad; rw[ap] at ek; cases ek; exact hw
  | new j v cs=>obtain⟨cJ,mk,ek,hw,_⟩:=aj; simp only[bK.idx] at ad; subst ad; rw[ap] at ek; cases ek; exact hw
  | gj j v dC=>obtain⟨cJ,ek,hw,_⟩:=aj; simp only[bK.idx] at ad; subst ad; rw[ap] at ek; cases ek; exact hw
 ·-- hskip
  intro i o ap dt;obtain⟨t,h1,ad,aj⟩:=hG i o ap;simp only[h1,atA,aud] at dt ⊢;cases t<;>simp_all [bK.ur,bK.val]
 ·-- hpure
  intro i o ap dt ah k aD;obtain⟨t,h1,ad,aj⟩:=hG i o ap;simp only[h1,atA,aud] at dt ah;have cw:=XD i o t ap h1 ad (by cases t<;>simp_all [bK.cls,bK.i2]) k aD;cases t with
  | pure j v=>
   simp only[bK.idx] at ad;subst ad;have:=cw o ap;rw[Nd _ _ (L8 j o ap)] at this;simpa [h1,bK.val] using this
  | skip j=>simp[bK.ur] at dt
  | new j v cs=>simp[bK.cls] at ah
  | gj j v dC=>simp[bK.cls] at ah
 ·-- hnew
  intro i o ap dt ah;obtain⟨t,h1,ad,aj⟩:=hG i o ap;simp only[h1,atA,aud] at dt ah;cases t with
  | new j v cs=>
   obtain⟨cJ,mk,ek,_,aC,aq⟩:=aj;simp only[bK.idx] at ad;subst ad;rw[ap] at ek; cases ek;rw[ahK _ (L8 j o ap)] at aC;refine⟨mk,by simpa [h1,bK.cs] using aC,by simpa [h1,bK.val] using aq,?_,fun k aD=>?_⟩
   ·have dO:ea tr j<=tr.length:=avv (atq.1 h1).1;have:=Dl qp (ea tr j) 0 (by omega);simpa [gI] using this
   ·have cw:=XD j o _ ap h1 rfl rfl k aD;simpa [H7,h1,bK.cs] using cw
  | skip j=>simp[bK.ur] at dt
  | pure j v=>simp[bK.cls] at ah
  | gj j v dC=>simp[bK.cls] at ah
 ·-- hbid
  intro i j o cJ ap ek vH sh eN qT ag;have Sx:∀ (i:Nat) (o:Oper),ops[i]? = some o->((tr[ea tr i]?).map bK.cls).getD .pure=.new->∀ p,ea tr i<p->p<=tr.length->(gI ops s0 tr (ea tr i)).h.n<(gI ops s0 tr p).h.n:=by
   intro i o ap ah p ay gy;obtain⟨t,h1,ad,_⟩:=hG i o ap;simp only[h1,atA,aud] at ah;have aF:=Dl qp (p - (ea tr i+1)) (ea tr i+1) (by omega);rw[show ea tr i+1+(p - (ea tr i+1))=p by omega,AQ h1] at aF;cases t with
   | new j v cs=>simp only[lR,qd,ff] at aF; omega
   | skip j=>simp[bK.cls] at ah
   | pure j v=>simp[bK.cls] at ah
   | gj j v dC=>simp[bK.cls] at ah
  obtain⟨t,h1,ad,_⟩:=hG i o ap;obtain⟨gb,dC,gS,_⟩:=hG j cJ ek;have ak:=(atq.1 h1).1;have c1:=(atq.1 dC).1;rcases auz (ea tr i) (ea tr j) with h | h | h
  ·have:=Sx i o ap eN _ h (avv c1); (try simp only at ag); omega
  ·rw[h,dC] at h1; cases h1; rw[<-ad,<-gS]
  ·have:=Sx j cJ ek qT _ h (avv ak); (try simp only at ag); omega
 ·-- hbid'
  intro i o q ap dt ah aZ;obtain⟨t,h1,ad,_⟩:=hG i o ap;obtain⟨Ns,aL,aT,a8⟩:=gO q aZ;simp only[h1,atA,aud] at ah;have ak:=(atq.1 h1).1;have c1:=(atq.1 aL).1;simp only[if_pos aZ];rcases auz (ea tr i) ((eR tr).getD q 0) with h | h | h
  ·left;have aF:=Dl qp ((eR tr).getD q 0 - (ea tr i+1)) (ea tr i+1) (by omega);rw[show ea tr i+1+((eR tr).getD q 0 - (ea tr i+1))=(eR tr).getD q 0 by omega,AQ h1] at aF;cases t with
   | new j v cs=>simp only[lR,qd,ff] at aF; omega
   | skip j=>simp[bK.cls] at ah
   | pure j v=>simp[bK.cls] at ah
   | gj j v dC=>simp[bK.cls] at ah
  ·rw[h,aL] at h1; cases h1;cases t<;>simp_all [bK.cls,bK.i2]
  ·right;have aF:=Dl qp (ea tr i - ((eR tr).getD q 0+1)) ((eR tr).getD q 0+1) (by omega)
   rwa [show (eR tr).getD q 0+1+(ea tr i - ((eR tr).getD q 0+1))=ea tr i by omega] at aF
 ·-- hgrow
  intro q aZ;obtain⟨Ns,aL,aT,a8⟩:=gO q aZ;have c1:=(atq.1 aL).1;obtain⟨T,SU,JQ,oB⟩:=Nw (q+1) (by omega)
  try simp only
  rw[<-oB];have aK:(eR tr).getD q 0<T:=by
   by_cases h:q+1<(eR tr).length
   ·rw[if_pos h] at oB;have:=vv (tr:=tr) (show q<q+1 by omega) h;omega
   ·rw[if_neg h] at oB; omega
  have:=Jt (ops:=ops) (s0:=s0) (tr:=tr) (T - ((eR tr).getD q 0+1)) ((eR tr).getD q 0+1) (by omega) (fun r kI ml kG=>by
   obtain⟨fl,oU,p2⟩:=EM kG;have F7:q<fl:=by
    rcases auz q fl with h | h | h
    ·exact h
    ·subst h; omega
    ·have:=vv (tr:=tr) h aZ; omega
   by_cases h:q+1<(eR tr).length
   ·rw[if_pos h] at oB;rcases av9 (show q+1<=fl from F7) with h' | h'
    ·subst h'; omega
    ·have:=vv (tr:=tr) h' oU; omega
   ·omega)
  rwa [show (eR tr).getD q 0+1+(T - ((eR tr).getD q 0+1))=T by omega] at this
 ·-- hcall
  intro q o aZ ap;obtain⟨Ns,aL,aT,a8⟩:=gO q aZ;have kH:=Hd ga aL;simp only[a8] at ap ⊢;have al:=qp.step _ _ aL;cases Ns with
  | gj j v h1=>
   obtain⟨cJ,ek,_,ao,_⟩:=al;simp only[bK.idx] at ap kH ⊢;rw[ap] at ek; cases ek;have oG:=L8 j o ap;rw[kH] at oG;have:=abE oG ao;simp only[kH,aL,if_pos aZ,atA,aud,bK.val];rw[AQ aL];exact this
  | skip j=>simp[bK.i2] at aT
  | pure j v=>simp[bK.i2] at aT
  | new j v cs=>simp[bK.i2] at aT
end
abbrev gR:=cA U
def look (s:gR) (t:Nat) :U:=match s.get t with | some v=>v | none=>he
theorem Vy (s:gR) (t:Nat) (v:U) :look (s.set t v)=bL (look s) t v:=by
 funext u;simp only[look,cA.E7,bL];by_cases h:u=t
 ·simp[h]
 ·simp[h]
def DD (s:gR) (dst:Option Tmp) (v:U) :gR:=match dst with | some d=>s.set d v | none=>s
theorem GG (s:gR) (dst:Option Tmp) (v:U) :look (DD s dst v)=hc (look s) dst v:=by
 cases dst with
 | none=>rfl
 | some d=>exact Vy s d v
def Ax:Nat->gR->List U->gR
 | _,s,[]=>s
 | k,s,v::vs=>Ax (k+1) (s.set k v) vs
theorem Vx:∀ (vs:List U) (k:Nat) (s:gR),look (Ax k s vs)=fun t=>if k<=t/\t<k+vs.length then vs.getD (t - k) he else look s t
 | [],k,s=>by funext t; simp only[Ax,at7]; rw[if_neg (by omega)]
 | v::vs,k,s=>by
  funext t;rw[Ax,Vx vs (k+1),Vy];simp only[atL,bL];by_cases h1:k+1<=t/\t<k+1+vs.length
  ·rw[if_pos h1,if_pos (by omega),show t - k=(t - (k+1))+1 by omega];simp
  ·rw[if_neg h1];by_cases ad:t=k
   ·subst ad; rw[if_pos rfl,if_pos (by omega)]; simp
   ·rw[if_neg ad,if_neg (by omega)]
def s9 (m i:Nat) :Bool:=Nat.testBit m i
def vu (ms:List Nat) :List Edge->Nat
 | []=>0
 | e::es=>match Region.binds .any e with
  | true=>Nat.lor (Nat.lor (2 ^ e.on) (ms.getD e.on 0)) (vu ms es)
  | false=>vu ms es
def VK (ms:List Nat) :List Oper->List Nat
 | []=>ms
 | o::os=>VK (ms++[vu ms o.after.toList]) os
def iu (ops:Array Oper) :List Nat:=VK [] ops.toList
def o7 (ms:List Nat) (i j:Nat) :Bool:=s9 (ms.getD i 0) j
def kh:Op->Bool
 | .move _ | .assign _ | .pick .. | .alloc _ | .box .. | .build .. | .buildSlice .. | .load .. | .nilCheck _ | .binOp .. | .unOp .. | .convert .. | .makeInterface .. | .makeFunc .. | .makeSlice .. | .slice .. | .fieldAddr .. | .field .. | .indexAddr .. | .index .. | .extract ..=>false
 | .call c=>match c.callee with
  | .builtin .len | .builtin .cap | .builtin .min | .builtin .max=>false
  | _=>true
 | _=>true
def agC:Op->Bool
 | .move _ | .assign _ | .pick .. | .build .. | .load .. | .nilCheck _ | .binOp .. | .unOp .. | .convert .. | .makeInterface .. | .makeFunc .. | .slice .. | .fieldAddr .. | .field .. | .indexAddr .. | .index .. | .extract ..=>true
 | .call c=>match c.callee with
  | .builtin .len | .builtin .cap | .builtin .min | .builtin .max=>true
  | _=>false
 | _=>false
def Ml (done:Nat) (gj:Bool) :Nat->List Nat->List Oper->Option Nat
 | i,m::ms,o::os=>match !s9 done i&&Nat.beq (Nat.land m done) m&&(kh o.op == gj) with
  | true=>some i
  | false=>Ml done gj (i+1) ms os
 | _,_,_=>none
def M3 (ms:List Nat) (os:List Oper) :Nat->Nat->List Nat
 | 0,_=>[]
 | k+1,done=>match Ml done false 0 ms os with
  | some i=>i::M3 ms os k (Nat.lor done (2 ^ i))
  | none=>match Ml done true 0 ms os with
   | some i=>i::M3 ms os k (Nat.lor done (2 ^ i))
   | none=>[]
def fo (ms:List Nat) (ops:Array Oper) :List Nat:=M3 ms ops.toList ops.size 0
def Ei (p:Nat->Oper->Bool) :Nat->List Oper->Bool
 | _,[]=>true
 | i,o::os=>p i o&&Ei p (i+1) os
theorem Og {p:Nat->Oper->Bool}:∀ (l:List Oper) (i:Nat),Ei p i l=true->∀ (j:Nat) (o:Oper),l[j]? = some o->p (i+j) o=true
 | [],i,_,j,o,h=>by simp at h
 | x::l,i,h,j,o,ai=>by
  simp only[Ei,atv] at h;cases j with
  | zero=>simp only[atT,Option.some.injEq] at ai; subst ai; exact h.1
  | succ j=>
   simp only[at5] at ai;have:=Og l (i+1) h.2 j o ai
   rwa [show i+1+j=i+(j+1) by omega] at this
def I0 (t:Nat) (o:Oper) :Bool:=match o.dst with | some d=>Nat.beq d t | none=>false
def yU (t:Nat) :Nat->List Oper->Option Nat
 | _,[]=>none
 | i,o::os=>match I0 t o with
  | true=>some i
  | false=>yU t (i+1) os
def IY (ms:List Nat) (ops:Array Oper) :Bool:=
 Ei (fun i o=>
  Nat.beq (ms.getD i 0) (vu ms o.after.toList) &&
  (o.after.toList.all fun e=>!Region.binds .any e||Nat.blt e.on i) &&
  (match o.dst with | some d=>(match yU d 0 ops.toList with | some j=>Nat.beq j i | none=>false) | none=>true) &&
  ((o.looksAt ops).all fun t=>match yU t 0 ops.toList with | some j=>o7 ms i j||o7 ms j i||Nat.beq j i | none=>true)) 0 ops.toList &&
 Region.noSelect ops
def G7 (ms:List Nat) :List Nat->Bool
 | []=>true
 | i::r=>(r.all fun j=>!Nat.beq i j&&!o7 ms i j)&&G7 ms r
def Md (ms:List Nat) (ops:Array Oper) (jR:List Nat) :Bool:=
 IY ms ops&&G7 ms jR&&Nat.beq jR.length ops.size&&(jR.all fun i=>Nat.blt i ops.size)&&(List.range ops.size).all fun i=>jR.contains i
structure YU where
 t:bK
 s:gR
 h:aN
section
variable (P:Program) (G:Nat->U)
end
theorem I4 (ms:List Nat) (j:Nat) :∀ (es:List Edge),s9 (vu ms es) j=true->∃ e∈es,Region.binds .any e=true/\(e.on=j\/o7 ms e.on j=true)
 | [],h=>by simp[vu,s9] at h
 | e::es,h=>by
  unfold vu at h;cases ag:Region.binds .any e with
  | false=>
   rw[ag] at h;obtain⟨fb,h1,ad⟩:=I4 ms j es h;exact⟨fb,av0 _ h1,ad⟩
  | true=>
   rw[ag] at h;simp only[s9] at h;have h' : Nat.testBit ((2 ^ e.on ||| ms.getD e.on 0) ||| vu ms es) j=true:=h;rw[Nat.testBit_or,Nat.testBit_or,avm,avm,Nat.testBit_two_pow] at h';rcases h' with (h' | h') | h'
   ·exact⟨e,awa,ag,.inl (by simpa using h')⟩
   ·exact⟨e,awa,ag,.inr h'⟩
   ·obtain⟨fb,h1,ad⟩:=I4 ms j es h';exact⟨fb,av0 _ h1,ad⟩
theorem YA (t:Nat) :∀ (l:List Oper) (i:Nat),yU t i l=((List.range l.length).find? fun j=>match l[j]? with | some o=>o.dst == some t | none=>false).map (·+i)
 | [],i=>by simp[yU]
 | o::l,i=>by
  unfold yU;have adY:I0 t o=(o.dst == some t) :=by
   unfold I0;cases o.dst with
   | none=>rfl
   | some d=>
    by_cases h:d=t
    ·subst h; simp
    ·have:Nat.beq d t=false:=jt h;simp[this,h]
  rw[adY,atL,List.range_succ_eq_map,avZ];simp only[atT];cases ag:(o.dst == some t) with
  | true=>simp
  | false=>
   simp only[List.find?_map];rw[YA t l (i+1)];have:((fun j=>match (o::l)[j]? with | some o=>o.dst == some t | none=>false) ∘ Nat.succ)=fun j=>match l[j]? with | some o=>o.dst == some t | none=>false:=by
    funext j; simp
   rw[this];cases (List.range l.length).find? (fun j=>match l[j]? with | some o=>o.dst == some t | none=>false) with
   | none=>rfl
   | some j=>simp; omega
theorem Yz (ops:Array Oper) (t:Nat) :yU t 0 ops.toList=jy ops t:=by
 rw[YA];unfold jy;simp only[au9,avh,avY,Option.map_id_fun',id_eq];congr 1
theorem aa7 {ms:List Nat} {ops:Array Oper} (h:IY ms ops=true) :tg ops (o7 ms) :=by
 unfold IY at h;rw[atv] at h;obtain⟨h,al⟩:=h;have key:∀ (i:Nat) (o:Oper),ops[i]? = some o->_:=fun i o ap=>Og _ 0 h i o (by simpa using ap)
 simp only[auF,atv] at key;refine⟨fun i o e ap ao ag=>?_,fun i o j ap ay=>?_,fun i o t ap bq=>?_,fun i o t j ap aI hw=>?_,al⟩
 ·have:=(key i o ap).1.1.2;rw[aue] at this;have:=this e (by simpa using ao);rw[ag] at this;simp only[Bool.not_true,awe] at this;simpa [awE] using this
 ·have:=km (key i o ap).1.1.1;have fR:s9 (ms.getD i 0) j=true:=ay;rw[this] at fR;obtain⟨e,h1,ad⟩:=I4 ms j _ fR;exact⟨e,by simpa using h1,ad⟩
 ·have:=(key i o ap).1.2;rw[bq] at this;simp only at this;rw[Yz] at this;cases hw:jy ops t with
  | none=>rw[hw] at this; cases this
  | some j=>rw[hw] at this; simp only at this; rw[km this]
 ·have:=(key i o ap).2;rw[aue] at this;have:=this t aI;rw[Yz,hw] at this;simp only[avm] at this;rcases this with (h1 | h1) | h1
  ·exact .inl h1
  ·exact .inr (.inl h1)
  ·exact .inr (.inr (km h1))
theorem G8 {ms:List Nat}:∀ {l:List Nat},G7 ms l=true->∀ (p bI:Nat) (i j:Nat),l[p]? = some i->l[bI]? = some j->p<bI->i≠j/\o7 ms i j=false
 | [],_,p,bI,i,j,av,_,_=>by simp at av
 | x::l,h,p,bI,i,j,av,ai,aK=>by
  simp only[G7,atv,aue] at h;cases bI with
  | zero=>omega
  | succ bI=>
   simp only[at5] at ai;cases p with
   | zero=>
    simp only[atT,Option.some.injEq] at av;subst av;have:=h.1 j (atz ai);simp only[auP] at this;refine⟨fun ao=>?_,this.2⟩;subst ao;rw[sO rfl] at this;cases this.1
   | succ p=>
    simp only[at5] at av;exact G8 h.2 p bI i j av ai (by omega)
section
variable {P:Program} {G:Nat->U}
structure am2 (P:Program) (G:Nat->U) (ops:Array Oper) (e:YU) :Prop where
 step:w7 P G ops ⟨look e.s,e.h⟩ e.t
 pure:∀ i v,e.t=.pure i v->∃ o,ops[i]? = some o/\agC o.op=true/\cV P e.h (cR G (look e.s)) o.op=some (.val v e.h)
theorem HC {ops:Array Oper} {s0:jD} {t:bK} {tr:List bK} (p:Nat) :gI ops s0 (t::tr) (p+1)=gI ops (lR ops s0 t) tr p:=by
 simp[gI]
end

section
variable {P:Program} {G:Nat->U}
theorem ajE (w:World) (R:Nat->Prop) (gT:∀ k,w.heap.size<=k->R k) :b3 R w.heap.size w aN.empty (fun _=>none) where
 blk:=fun b m hm=>by cases hm
 inj:=fun b bi m cn ak=>by rw[EO] at ak; cases ak
 base:=fun b m ak=>by rw[EO] at ak; cases ak
 fresh:=fun b _=>EO b
 up:=gT
 size:=att _
 kM:=fun b _=>rfl
theorem VV (μ:cH) (k:Nat) :¬ lu aN.empty μ k:=by
 rintro⟨b,m,ak,_⟩;rw[EO] at ak; cases ak
theorem Nz (lK:P.follows .mixedOrders=true) (j3:∀ g,(G g).closed=true) {f:FuncId} {args:List U} {r:U} {h' : aN} (ao:dn P G (.call f args aN.empty r h'))
  {w:World} {A:Nat->Prop} {vs:Array Value} (ar:∀ g,fi w A (G g) (.pointer (some ⟨g,0,none⟩))) (ak:vs.size=args.length)
  (aq:∀ (j:Nat) (c:U) (v:Value),args[j]? = some c->vs[j]? = some v->fi w A c v) :
  Calls P f vs w fun e w'=>∃ v μ',e=.returned v/\yZ w w'/\b3 (fun k=>A k\/w.heap.size<=k) w.heap.size w' h' μ'/\aO w' (fun k=>A k\/w.heap.size<=k) h' μ' r v:=by
 have up:∀ {c:U} {v:Value},fi w A c v->aO w (fun k=>A k\/w.heap.size<=k) aN.empty (fun _=>none) c v:=fun ah=>ah.up (fun k _ hk=>⟨.inl hk,VV _ k⟩)
 refine (akB lK j3 ao (fun k=>A k\/w.heap.size<=k) w.heap.size w (fun _=>none) vs (ajE w _ fun k hk=>.inr hk) (fun g=>⟨j3 g,up (ar g)⟩) ak (fun j c v ai fe=>up (aq j c v ai fe))).mono ?_;rintro e w' ⟨v,μ',rfl,ex,rel,ax⟩;exact⟨v,μ',rfl,⟨⟨ex.os,ex.tape,ex.output,ex.size,fun k hk=>ex.cq k hk (VV _ k)⟩,ex.drawn⟩,rel,ax⟩
theorem alg (lK:P.follows .mixedOrders=true) (j3:∀ g,(G g).closed=true) {f:FuncId} {args:List U} {h' : aN} (ao:dn P G (.call f args aN.empty (.bool true) h'))
  {w:World} {A:Nat->Prop} {vs:Array Value} (ar:∀ g,fi w A (G g) (.pointer (some ⟨g,0,none⟩))) (ak:vs.size=args.length)
  (aq:∀ (j:Nat) (c:U) (v:Value),args[j]? = some c->vs[j]? = some v->fi w A c v) :
  Calls P f vs w fun e w'=>e=.returned (.bool true)/\RowKit.Below w.heap.size w w':=by
 refine (Nz lK j3 ao ar ak aq).mono ?_;rintro e w' ⟨v,μ',rfl,ag,_,ax⟩;cases ax;exact⟨rfl,ag.toBelow⟩
end

section
variable {α:Type}
theorem wJ:∀ (k k' : Nat) (t:cA α) (n:Nat) (x:α),n<k->n<k'->t.kp k n x=t.kp k' n x
 | 0,_,_,_,_,h,_=>by omega
 | _+1,0,_,_,_,_,h=>by omega
 | k+1,k'+1,t,n,x,h,h'=>by
  by_cases aE:n=0
  ·subst aE;cases t<;>rfl
  ·have ag:Nat.beq n 0=false:=jt aE;cases t with
   | nil=>
    unfold cA.kp;simp only[ag];rw[wJ k k' .nil (n / 2) x (by omega) (by omega),wJ k k' .nil (n / 2 - 1) x (by omega) (by omega)]
   | node l v r=>
    unfold cA.kp;simp only[ag];rw[wJ k k' l (n / 2) x (by omega) (by omega),wJ k k' r (n / 2 - 1) x (by omega) (by omega)]
def cA.lt:cA α->cA α | .nil=>.nil | .node l _ _=>l
def cA.rt:cA α->cA α | .nil=>.nil | .node _ _ r=>r
def cA.mid:cA α->Option α | .nil=>none | .node _ v _=>v
theorem rE (t:cA α) (x:α) :t.set 0 x=.node t.lt (some x) t.rt:=by cases t<;>rfl
theorem ny (t:cA α) (m:Nat) (x:α) :t.set (2*m+1) x=.node (t.lt.set m x) t.mid t.rt:=by
 have h1:Nat.beq (2*m+1) 0=false:=jt (by omega);have ad:Nat.beq ((2*m+1) % 2) 1=true:=sO (by omega);have aj:(2*m+1) / 2=m:=by omega
 cases t with
 | nil=>show cA.kp (2*m+1+1) .nil (2*m+1) x=_; unfold cA.kp; simp only[h1,ad,aj]; rw[wJ _ (m+1) _ _ _ (by omega) (by omega)]; rfl
 | node l v r=>show cA.kp (2*m+1+1) (.node l v r) (2*m+1) x=_; unfold cA.kp; simp only[h1,ad,aj]; rw[wJ _ (m+1) _ _ _ (by omega) (by omega)]; rfl
theorem nx (t:cA α) (m:Nat) (x:α) :t.set (2*m+2) x=.node t.lt t.mid (t.rt.set m x) :=by
 have h1:Nat.beq (2*m+2) 0=false:=jt (by omega);have ad:Nat.beq ((2*m+2) % 2) 1=false:=jt (by omega);have aj:(2*m+2) / 2 - 1=m:=by omega
 cases t with
 | nil=>show cA.kp (2*m+2+1) .nil (2*m+2) x=_; unfold cA.kp; simp only[h1,ad,aj]; rw[wJ _ (m+1) _ _ _ (by omega) (by omega)]; rfl
 | node l v r=>show cA.kp (2*m+2+1) (.node l v r) (2*m+2) x=_; unfold cA.kp; simp only[h1,ad,aj]; rw[wJ _ (m+1) _ _ _ (by omega) (by omega)]; rfl
theorem L4 (n:Nat) :n=0\/(∃ m,m<n/\n=2*m+1)\/∃ m,m<n/\n=2*m+2:=by
 rcases Nat.eq_zero_or_pos n with h | h
 ·exact .inl h
 ·rcases Nat.mod_two_eq_zero_or_one n with ad | ad
  ·exact .inr (.inr ⟨n / 2 - 1,by omega,by omega⟩)
  ·exact .inr (.inl ⟨n / 2,by omega,by omega⟩)
theorem akc (n:Nat) :∀ (t:cA α) (x y:α),(t.set n x).set n y=t.set n y:=by
 induction n using Nat.strongRecOn with
 | _ n aH=>
  intro t x y;rcases L4 n with rfl | ⟨m,hm,rfl⟩ | ⟨m,hm,rfl⟩
  ·rw[rE t x,rE t y,rE]; rfl
  ·rw[ny t,ny t,ny]; simp only[cA.lt,cA.mid,cA.rt,aH m hm]
  ·rw[nx t,nx t,nx]; simp only[cA.lt,cA.mid,cA.rt,aH m hm]
theorem set_comm (n:Nat) :∀ (t:cA α) (k:Nat) (x y:α),n≠k->(t.set n x).set k y=(t.set k y).set n x:=by
 induction n using Nat.strongRecOn with
 | _ n aH=>
  intro t k x y bx;rcases L4 n with rfl | ⟨m,hm,rfl⟩ | ⟨m,hm,rfl⟩<;>rcases L4 k with rfl | ⟨j,ai,rfl⟩ | ⟨j,ai,rfl⟩
  ·exact absurd rfl bx
  ·rw[rE t,ny,ny t,rE]; rfl
  ·rw[rE t,nx,nx t,rE]; rfl
  ·rw[ny t,rE,rE t,ny]; rfl
  ·rw[ny t,ny,ny t,ny]; simp only[cA.lt,cA.mid,cA.rt]; rw[aH m hm _ j _ _ (by omega)]
  ·rw[ny t,nx,nx t,ny]; rfl
  ·rw[nx t,rE,rE t,nx]; rfl
  ·rw[nx t,ny,ny t,nx]; rfl
  ·rw[nx t,nx,nx t,nx]; simp only[cA.lt,cA.mid,cA.rt]; rw[aH m hm _ j _ _ (by omega)]
end
abbrev am:=List a2
def na:Nat->cA a2->am->cA a2
 | _,t,[]=>t
 | i,t,c::cs=>na (i+1) (t.set i c) cs
def bU (l:am) :aN:=⟨l.length,na 0 .nil l⟩
@[simp] theorem y1 (l:am) :(bU l).n=l.length:=rfl
theorem TX:∀ (l:am) (i:Nat) (t:cA a2) (c:a2),na i t (l++[c])=(na i t l).set (i+l.length) c
 | [],i,t,c=>rfl
 | x::l,i,t,c=>by
  simp only[auM,na,atL];rw[TX l,show i+1+l.length=i+(l.length+1) by omega]
theorem lY (l:am) (c:a2) :(bU l).push c=bU (l++[c]) :=by
 unfold bU aN.push;rw[TX];simp
theorem T0:∀ (l:am) (i j:Nat) (t:cA a2) (c:a2),i<j->(na j t l).set i c=na j (t.set i c) l
 | [],_,_,_,_,_=>rfl
 | x::l,i,j,t,c,h=>by
  simp only[na];rw[T0 l i (j+1) _ c (by omega),set_comm j t i x c (by omega)]
theorem TZ:∀ (l:am) (i b:Nat) (t:cA a2) (c:a2),b<l.length->(na i t l).set (i+b) c=na i t (l.set b c)
 | [],_,_,_,_,h=>by simp at h
 | x::l,i,0,t,c,_=>by
  simp only[na,avn,avY];rw[T0 l i (i+1) _ c (by omega),akc]
 | x::l,i,b+1,t,c,h=>by
  simp only[na,avo];rw[<-TZ l (i+1) b _ c (by simpa using h),show i+(b+1)=i+1+b by omega]
theorem oo {l:am} {b:Nat} (c:a2) (h:b<l.length) :(bU l).set b c=bU (l.set b c) :=by
 unfold bU aN.set;have:=TZ l 0 b .nil c h;rw[auF] at this;simp only[this,avE]
theorem TY:∀ (l:am) (i:Nat) (t:cA a2) (b:Nat),(na i t l).get b=if i<=b/\b<i+l.length then l[b - i]? else t.get b
 | [],i,t,b=>by simp only[na,at7]; rw[if_neg (by omega)]
 | x::l,i,t,b=>by
  simp only[na,atL];rw[TY l,cA.E7];by_cases h1:i+1<=b/\b<i+1+l.length
  ·rw[if_pos h1,if_pos (by omega),show b - i=(b - (i+1))+1 by omega,at5]
  ·rw[if_neg h1];by_cases ad:b=i
   ·subst ad; rw[if_pos rfl,if_pos (by omega)]; simp
   ·rw[if_neg ad,if_neg (by omega)]
theorem mI (l:am) (b:Nat) :(bU l).f b=match l[b]? with | some c=>c | none=>.none:=by
 unfold bU aN.f;simp only[TY,auy,true_and,auF,av1];by_cases h:b<l.length
 ·rw[if_pos h]; cases l[b]?<;>rfl
 ·rw[if_neg h,atG (by omega)]; rfl
theorem lX {l:am} {b n:Nat} {cs:List U}:(bU l).f b=.cells n cs<->l[b]? = some (.cells n cs) :=by
 rw[mI];cases h:l[b]? with
 | none=>simp
 | some c=>simp
theorem fc {l:am} {b:Nat} {c:a2} (h:l[b]? = some c) :b<l.length:=(atq.1 h).1
def eo (l:am) :U->Option (List U × Nat)
 | .ptr b off sz=>match l[b]? with
  | some (.cells n cs)=>if n=sz then some (cs,off) else none
  | _=>none
 | .b6 cs off=>some (cs,off)
 | _=>none
def sX (n:Nat) (cs:List U) (off:Nat) :Option U:=if off+n<=cs.length then some (.aM ((cs.drop off).take n)) else none
def jT (n:Nat) (l:am) (p v:U) :Option am:=
 match p,v.cells with
 | .ptr b off sz,some vs=>match l[b]? with
  | some (.cells m cs)=>if m=sz/\vs.length=n/\off+n<=m then some (l.set b (.cells m (bz cs off vs))) else none
  | _=>none
 | _,_=>none
def dp (l:am) (z:Nat) :U->Option (List U × Nat)
 | .a1=>some ([],0)
 | .bD dm es=>if z=dm then some (es.flatten,es.length) else none
 | .au dm b off len _ sz=>match l[b]? with
  | some (.cells n cs)=>if n=sz/\z=dm then some ((cs.drop off).take (len*z),len) else none
  | _=>none
 | .str s=>if z=1 then some (s.map iO,s.length) else none
 | _=>none
def h4 (l:am) (z by_:Nat) (s:U) (xs:List U) (n:Nat) :Option (U × am) :=
 if n=0 then (match s with | .a1 | .bD .. | .au ..=>some (s,l) | _=>none)
 else if z=0\/by_=0 then none else match s with
  | .a1=>if n*by_<=ct then some (.au z l.length 0 n n (n*z),l++[.cells (n*z) xs]) else none
  | .au dm b off len cap sz=>match l[b]? with
   | some (.cells m cs)=>
    if m=sz/\z=dm/\(len+n)*by_<=ct then
     if len+n<=cap then some (.au z b off (len+n) cap sz,l.set b (.cells m (bz cs (off+len*z) xs)))
     else if off+cap*z<sz then some (.au z l.length 0 (len+n) (len+n) ((len+n)*z),l++[.cells ((len+n)*z) ((cs.drop off).take (len*z)++xs)])
     else if off=0 then some (.au z b 0 (len+n) (len+n) ((len+n)*z),l.set b (.cells ((len+n)*z) (cs.take (len*z)++xs)))
     else some (.au z l.length 0 (len+n) (len+n) ((len+n)*z),l.set b .dead++[.cells ((len+n)*z) ((cs.drop off).take (len*z)++xs)])
    else none
   | _=>none
  | _=>none
def zn (z:Nat) (l:am) (d x:U) :Option (U × am) :=
 match dp l z x with
 | none=>none
 | some (xs,n)=>match d with
  | .a1=>some (.int .i64 0,l)
  | .au dm b off len _ sz=>match l[b]? with
   | some (.cells m cs)=>if m=sz/\z=dm then some (.int .i64 ((min n len:Nat) :Int),l.set b (.cells m (bz cs off (xs.take (min n len*z))))) else none
   | _=>none
  | _=>none
def sL (l:am) :U->Option (List (U × U × Nat))
 | .hA=>some []
 | .mp b=>match l[b]? with | some (.map es _)=>some es | _=>none
 | _=>none
def ow (l:am) (x:U) :Option (List UInt8) :=match x with
 | .str s=>some s
 | x=>match dp l 1 x with
  | some (cs,_)=>mP cs
  | none=>none
def cmpL (l:am) (x y:U) :Option U:=match ow l x,ow l y with
 | some a,some b=>some (.int .i64 (nI a b))
 | _,_=>none
def uC (l:am) (x:U) :Option (U × am) :=match x with
 | .it b=>match l[b]? with
  | some (.iter s pos)=>match Nat.blt pos s.length with
   | true=>some (.bG [.bool true,.int .i64 pos,.int .i32 (Utf8.decode ⟨s.toArray⟩ pos).1],l.set b (.iter s (pos+(Utf8.decode ⟨s.toArray⟩ pos).2)))
   | false=>some (.bG [.bool false],l)
  | _=>none
 | _=>none
def AJ (l:am) (x:U) :Option (U × am) :=match x with
 | .str s=>some (.it l.length,l++[.iter s 0])
 | _=>none
def Dh (l:am) (x:U) :Option U:=match x with
 | .hA=>some (.int .i64 0)
 | .mp b=>match l[b]? with | some (.map es _)=>some (.int .i64 es.length) | _=>none
 | _=>none
def r3 (zero:List U) (l:am) :U->Option am
 | .a1=>some l
 | .bD _ []=>some l
 | .au z b off len _ sz=>if len=0 then some l else match l[b]? with
  | some (.cells m cs)=>if m=sz/\zero.length=z then some (l.set b (.cells m (bz cs off (dk zero len)))) else none
  | _=>none
 | _=>none
theorem MC (l:am) (p:U) :reach (bU l) p=eo l p:=by
 cases p<;>try rfl
 rename_i b off sz;simp only[reach,eo,mI];cases l[b]? with
 | none=>rfl
 | some c=>cases c<;>rfl
theorem BL (l:am) (z:Nat) (x:U) :contents (bU l) z x=dp l z x:=by
 cases x<;>try rfl
 rename_i dm b off len cap sz;simp only[contents,dp,mI];cases l[b]? with
 | none=>rfl
 | some c=>cases c<;>rfl
section
variable (P:Program)
inductive jE where
 | arr (n z:Nat)
 | au (z:Nat)
 | str
 deriving DecidableEq
def pe (t:TypeId) :Option jE:=match P.underlying t with
 | some (.array n e)=>(cv P e).map fun z=>.arr n z
 | some (.slice e)=>(cv P e).map fun z=>.au z
 | some .string=>some .str
 | _=>none
inductive da where
 | fS (x:Operand)
 | pick (c a b:Operand)
 | alloc (zero:List U)
 | box (x:Operand)
 | Bt (zero:List U) (cE:List (Nat × Nat × Operand))
 | qF (z:Nat) (zero:List U) (len:Nat) (cE:List (Nat × Operand))
 | ld1 (a:Operand)
 | uv (n:Nat) (a:Operand)
 | st (n:Nat) (a x:Operand)
 | Dm (x:Operand)
 | bin (o:BinOp) (t:TypeId) (x y:Operand)
 | un (o:UnOp) (x:Operand)
 | zh (k:IntKind) (x:Operand)
 | zp (x:Operand)
 | tC (x:Operand)
 | zo (x:Operand)
 | ys (t:TypeId) (x:Operand)
 | AU (t:TypeId) (z:U) (ok:Bool) (x:Operand)
 | yr (f:FuncId) (first fI:List Operand)
 | rp (z by_:Nat) (zero:List U) (l c:Operand)
 | slice (dd:jE) (x:Operand) (cN av cG:Option Operand)
 | BZ (off:Nat) (x:Operand)
 | B0 (off:Nat) (x:Operand)
 | B1 (n off:Nat) (x:Operand)
 | Ak (dd:jE) (x i:Operand)
 | C7 (n z:Nat) (x i:Operand)
 | C8 (n z:Nat) (x i:Operand)
 | Db (x i:Operand)
 | ext (x:Operand) (i:Nat)
 | len (dd:jE) (x:Operand)
 | cap (dd:jE) (x:Operand)
 | app (z by_:Nat) (s x:Operand)
 | u7 (z by_:Nat) (zero:List U) (s x:Operand)
 | vr (z:Nat) (d x:Operand)
 | vk (zero:List U) (x:Operand)
 | min (x y:Operand)
 | max (x y:Operand)
 | uA (x:Option Operand)
 | ym (cM:TypeId) (zero:U) (ok:Bool) (m k:Operand)
 | wn (cM:TypeId) (m k x:Operand)
 | we (x:Operand)
 | wD (x:Operand)
 | wq (x:Operand)
 | cl (f:FuncId) (r7 x y:Operand)
 | stop
def wi (l:am) (cM:TypeId) (zero:U) (ok:Bool) (m k:U) :Option U:=
 match sL l m with
 | some es=>match kL P cM k with
  | false=>none
  | true=>match jd P cM k es 0 with
   | some (some (_,v))=>some (if ok then .bG [v,.bool true] else v)
   | some none=>some (if ok then .bG [zero,.bool false] else zero)
   | none=>none
 | none=>none
def sM (l:am) (cM:TypeId) (m k v:U) :Option am:=
 match m with
 | .mp b=>match l[b]? with
  | some (.map es ey)=>match kL P cM k with
   | false=>none
   | true=>match jd P cM k es 0 with
    | some (some (i,_))=>some (l.set b (.map (es.modify i fun e=>(k,v,e.2.2)) ey))
    | some none=>some (l.set b (.map (es++[(k,v,ey)]) (ey+1)))
    | none=>none
  | _=>none
 | _=>none
def C5 (f:FuncId) :U->Bool | .fn g [] []=>Nat.beq g f | _=>false
def Dz (c a b:U) :Option U:=match c with | .bool t=>some (if t then a else b) | _=>none
def yt (x:U) :Option U:=match x with | .ptr b o s=>some (.ptr b o s) | .b6 c o=>some (.b6 c o) | .fn f a b=>some (.fn f a b) | _=>none
def pv (zero:List U) :List (Nat × Nat × U)->Option (List U)
 | []=>some zero
 | (off,size,v) ::r=>match v.cells with
  | some vs=>if vs.length=size/\off+size<=zero.length then pv (bz zero off vs) r else none
  | none=>none
def BF (k:IntKind) :U->Option U | .int _ n=>some (.int k (k.wrap n)) | _=>none
def EH:U->Option U | .str s=>some (.str s) | _=>none
def vg (l:am) (x:U) :Option U:=match x with
 | .a1=>some (.str [])
 | .str _=>none
 | x=>match dp l 1 x with | some (cs,_)=>(mP cs).map .str | none=>none
def vt:U->Option U | .str s=>some (.bD 1 (s.map fun b=>[iO b])) | _=>none
def rq (z by_:Nat) (zero:List U) (ak:am) (l c:U) :Option (U × am) :=match l,c with
 | .int _ l,.int _ c=>if 0<=l/\l<=c/\c<9223372036854775808/\by_*c<=ct then
   some (.au z ak.length 0 l.toNat c.toNat (c.toNat*z),ak++[.cells (c.toNat*z) (dk zero c.toNat)]) else none
 | _,_=>none
def gg (dd:jE) (x:U) (cN av cG:Option U) :Option U:=
 match dd with
 | .arr n z=>match gv n n cN av cG with
  | some (l,aG,m)=>match x with
   | .ptr b off sz=>if off+m*z<=sz then (if m=l then some (.bD z []) else some (.au z b (off+l*z) (aG - l) (m - l) sz)) else none
   | .b6 cs off=>if off+n*z<=cs.length then some (.bD z (ly z (aG - l) (cs.drop (off+l*z)))) else none
   | _=>none
  | none=>none
 | .au z=>match x with
  | .au dm b off len cap sz=>if z=dm then (gv len cap cN av cG).map fun (l,aG,m)=>if m=l then .au z b (off+l*z) 0 0 sz else .au z b (off+l*z) (aG - l) (m - l) sz else none
  | .bD dm es=>if z=dm then (gv es.length es.length cN av cG).map fun (l,aG,_)=>.bD z ((es.drop l).take (aG - l)) else none
  | .a1=>(gv 0 0 cN av cG).map fun _=>.a1
  | _=>none
 | .str=>match x,cG with
  | .str s,none=>(gv s.length s.length cN av none).map fun (l,aG,_)=>.str ((s.drop l).take (aG - l))
  | _,_=>none
def B2 (off:Nat) :U->Option U | .aM cs=>cs[off]? | _=>none
def zz (n off:Nat) :U->Option U | .aM cs=>sX n cs off | _=>none
def cj (dd:jE) (x gd:U) :Option U:=
 match gd with
 | .int _ i=>match dd with
  | .arr n z=>if 0<=i/\i<n then mT x (i.toNat*z) else none
  | .au z=>match x with
   | .au dm b off len _ sz=>if z=dm/\0<=i/\i<len then some (.ptr b (off+i.toNat*z) sz) else none
   | .bD dm es=>if z=dm/\0<=i then (es[i.toNat]?).map fun cs=>.b6 cs 0 else none
   | _=>none
  | .str=>none
 | _=>none
def C9 (n z:Nat) (x gd:U) :Option U:=match x,gd with
 | .aM cs,.int _ i=>if 0<=i/\i<n then cs[i.toNat*z]? else none
 | _,_=>none
def Da (n z:Nat) (x gd:U) :Option U:=match x,gd with
 | .aM cs,.int _ i=>if 0<=i/\i<n then sX z cs (i.toNat*z) else none
 | _,_=>none
def yf (x gd:U) :Option U:=match x,gd with
 | .str s,.int _ i=>if 0<=i then (s[i.toNat]?).map iO else none
 | _,_=>none
def BX (x:U) (i:Nat) :Option U:=match x with | .bG vs=>vs[i]? | _=>none
def cP (dd:jE) (x:U) :Option U:=match dd with
 | .arr n _=>some (.int .i64 n)
 | .au _=>match x with
  | .a1=>some (.int .i64 0)
  | .au _ _ _ len _ _=>some (.int .i64 len)
  | .bD _ es=>some (.int .i64 es.length)
  | _=>none
 | .str=>match x with | .str s=>some (.int .i64 s.length) | _=>none
def tB (dd:jE) (x:U) :Option U:=match dd with
 | .arr n _=>some (.int .i64 n)
 | .au _=>match x with | .a1=>some (.int .i64 0) | _=>none
 | .str=>none
def fz (l:am) (z by_:Nat) (s x:U) :Option (U × am) :=match dp l z x with
 | none=>none
 | some (xs,n)=>h4 l z by_ s xs n
def qE (l:am) (z by_:Nat) (zero:List U) (s x:U) :Option (U × am) :=match x with
 | .int _ n=>if 0<=n/\n<9223372036854775808/\n.toNat*by_<=ct then h4 l z by_ s (dk zero n.toNat) n.toNat else none
 | _=>none
def dv (l:am) (x:Option U) :Option (U × am) :=x.map fun v=>(v,l)
def bO (aA:Operand->U) (l:am) :da->Option (U × am)
 | .fS x=>some (aA x,l)
 | .pick c a b=>dv l (Dz (aA c) (aA a) (aA b))
 | .alloc zero=>some (.ptr l.length 0 zero.length,l++[.cells zero.length zero])
 | .box x=>(aA x).cells.map fun cs=>(.ptr l.length 0 cs.length,l++[.cells cs.length cs])
 | .Bt zero cE=>dv l ((pv zero (cE.map fun p=>(p.1,p.2.1,aA p.2.2))).map .aM)
 | .qF z zero len cE=>(hl (fun i=>some (i*z,z)) (dk zero len) (cE.map fun p=>(p.1,aA p.2))).map fun cs=>(.au z l.length 0 len len (len*z),l++[.cells (len*z) cs])
 | .ld1 a=>dv l ((eo l (aA a)).bind fun x=>x.1[x.2]?)
 | .uv n a=>dv l ((eo l (aA a)).bind fun x=>sX n x.1 x.2)
 | .st n a x=>(jT n l (aA a) (aA x)).map fun l'=>(he,l')
 | .Dm x=>dv l (yt (aA x))
 | .bin o t x y=>dv l (gi P o t (aA x) (aA y))
 | .un o x=>dv l (qs o (aA x))
 | .zh k x=>dv l (BF k (aA x))
 | .zp x=>dv l (EH (aA x))
 | .tC x=>dv l (vg l (aA x))
 | .zo x=>dv l (vt (aA x))
 | .ys t x=>some (.gA t (aA x),l)
 | .AU t z ok x=>dv l (AV t z ok (aA x))
 | .yr f a b=>some (.fn f (a.map aA) (b.map aA),l)
 | .rp z by_ zero a c=>rq z by_ zero l (aA a) (aA c)
 | .slice dd x cN av cG=>dv l (gg dd (aA x) (cN.map aA) (av.map aA) (cG.map aA))
 | .BZ off x=>dv l (mT (aA x) off)
 | .B0 off x=>dv l (B2 off (aA x))
 | .B1 n off x=>dv l (zz n off (aA x))
 | .Ak dd x i=>dv l (cj dd (aA x) (aA i))
 | .C7 n z x i=>dv l (C9 n z (aA x) (aA i))
 | .C8 n z x i=>dv l (Da n z (aA x) (aA i))
 | .Db x i=>dv l (yf (aA x) (aA i))
 | .ext x i=>dv l (BX (aA x) i)
 | .len dd x=>dv l (cP dd (aA x))
 | .cap dd x=>dv l (tB dd (aA x))
 | .app z by_ s x=>fz l z by_ (aA s) (aA x)
 | .u7 z by_ zero s x=>qE l z by_ zero (aA s) (aA x)
 | .vr z d x=>zn z l (aA d) (aA x)
 | .vk zero x=>(r3 zero l (aA x)).map fun l'=>(.bG [],l')
 | .min x y=>dv l (Ar (aA x) (aA y))
 | .max x y=>dv l (uz (aA x) (aA y))
 | .uA x=>match x with
  | none=>some (.mp l.length,l++[.map [] 0])
  | some o=>match asInt (aA o) with | some _=>some (.mp l.length,l++[.map [] 0]) | none=>none
 | .ym cM zero ok m k=>dv l (wi P l cM zero ok (aA m) (aA k))
 | .wn cM m k x=>(sM P l cM (aA m) (aA k) (aA x)).map fun l'=>(he,l')
 | .we x=>dv l (Dh l (aA x))
 | .wD x=>AJ l (aA x)
 | .wq x=>uC l (aA x)
 | .cl f r7 x y=>match C5 f (aA r7) with | true=>dv l (cmpL l (aA x) (aA y)) | false=>none
 | .stop=>none
def Iw (t:TypeId) (cE:List (Nat × Operand)) :Option (List (Nat × Nat × Operand)) :=
 match P.underlying t with
 | some (.struct fs)=>if fs.toList.all fun f=>(cv P f.type).isSome then cE.mapM fun p=>(DA P fs p.1).map fun q=>(q.1,q.2,p.2) else none
 | some (.array _ e)=>(cv P e).map fun n=>cE.map fun p=>(p.1*n,n,p.2)
 | _=>none
def vm (b:Builtin) (ts:List TypeId) (args:List Operand) :Option da:=
 match b,ts,args with
 | .len,[t],[x]=>match P.underlying t with
  | some (.map _ _)=>some (.we x)
  | _=>(pe P t).map fun dd=>.len dd x
 | .cap,[t],[x]=>(pe P t).map fun dd=>.cap dd x
 | .append,[t,u],[s,x]=>match P.underlying u with
  | some (.int _)=>(io P t).bind fun e=>(cv P e).bind fun z=>(jc P e).bind fun by_=>(hs P e).bind fun zero=>
    if zero.length=z/\tf P e=some z then some (.u7 z by_ zero s x) else none
  | none=>none
  | _=>(io P t).bind fun e=>(cv P e).bind fun z=>(jc P e).bind fun by_=>if tf P e=some z then some (.app z by_ s x) else none
 | .copy,[t,_],[d,x]=>(io P t).bind fun e=>(cv P e).map fun z=>.vr z d x
 | .clear,[t],[x]=>match P.underlying t with
  | some (.slice e)=>(hs P e).map fun zero=>.vk zero x
  | _=>none
 | .min,_,[x,y]=>some (.min x y)
 | .max,_,[x,y]=>some (.max x y)
 | _,_,_=>none
def mV:Op->Option da
 | .move x | .assign x=>some (.fS x)
 | .pick c a b=>some (.pick c a b)
 | .alloc t=>(hs P t).map .alloc
 | .box _ x=>some (.box x)
 | .build t cE=>(hs P t).bind fun zero=>(Iw P t cE.toList).map fun q=>.Bt zero q
 | .buildSlice t len cE=>(io P t).bind fun e=>(cv P e).bind fun z=>(hs P e).bind fun zero=>
   if zero.length=z/\len*z<=16777216 then some (.qF z zero len cE.toList) else none
 | .load t a=>match dW P t,cv P t with
  | some true,some n=>some (.uv n a)
  | some false,_=>some (.ld1 a)
  | _,_=>none
 | .store t a x=>(cv P t).map fun n=>.st n a x
 | .nilCheck x=>some (.Dm x)
 | .binOp o t x y _=>some (.bin o t x y)
 | .unOp o _ x=>some (.un o x)
 | .convert s d x=>match P.underlying s,P.underlying d with
  | some _,some (.int k)=>some (.zh k x)
  | some (.slice e),some .string=>match P.underlying e with
   | some (.int .u8)=>some (.tC x)
   | _=>none
  | some .string,some .string=>some (.zp x)
  | some .string,some (.slice e)=>match P.underlying e with
   | some (.int .u8)=>some (.zo x)
   | _=>none
  | _,_=>none
 | .makeInterface t x=>match P.underlying t with
  | some (.interface _) | none=>none
  | _=>some (.ys t x)
 | .makeFunc (.func f) a b=>some (.yr f a.toList b.toList)
 | .makeSlice t l c=>(io P t).bind fun e=>(cv P e).bind fun z=>(jc P e).bind fun by_=>(hs P e).bind fun zero=>
   if zero.length=z then some (.rp z by_ zero l c) else none
 | .slice t x cN av cG=>(pe P t).map fun dd=>.slice dd x cN av cG
 | .fieldAddr s x f=>(xm P s f).bind fun fd=>match cv P fd.type with
  | some (_+1)=>some (.BZ fd.offset x)
  | _=>none
 | .field t x f=>(xm P t f).bind fun fd=>match dW P fd.type,cv P fd.type with
  | some true,some n=>some (.B1 n fd.offset x)
  | some false,_=>some (.B0 fd.offset x)
  | _,_=>none
 | .indexAddr t x i=>match pe P t with
  | some (.arr n z)=>some (.Ak (.arr n z) x i)
  | some (.au z)=>some (.Ak (.au z) x i)
  | _=>none
 | .index t x i=>match P.underlying t with
  | some (.array n e)=>match cv P e,dW P e with
   | some z,some true=>some (.C8 n z x i)
   | some z,some false=>some (.C7 n z x i)
   | _,_=>none
  | some .string=>some (.Db x i)
  | _=>none
 | .extract x i=>some (.ext x i)
 | .call c=>match c.callee with
  | .builtin b=>vm P b c.argTypes.toList c.args.toList
  | .value (.func f)=>match P.funcs[f]?,c.args.toList with
   | some fn,[x,y]=>if C4 fn then some (.cl f (.func f) x y) else none
   | _,_=>none
  | _=>none
 | .makeMap t r=>match P.underlying t with | some (.map _ _)=>some (.uA r) | _=>none
 | .lookup t m k ok=>match P.underlying t with | some (.map cM l8)=>(yX P l8).map fun z=>.ym cM z ok m k | _=>none
 | .mapUpdate t m k x | .insert t m k x=>match P.underlying t with | some (.map cM _)=>some (.wn cM m k x) | _=>none
 | .range t x=>match P.underlying t with | some .string=>some (.wD x) | _=>none
 | .next it true=>some (.wq it)
 | .panic _=>some .stop
 | .typeAssert x _ t ok=>(HI P t).map fun z=>.AU t z ok x
 | _=>none
end

section
variable {P:Program}
theorem bind_some {α jB:Type} {x:Option α} {f:α->Option jB} {y:jB}:x.bind f=some y<->∃ a,x=some a/\f a=some y:=by cases x<;>simp
theorem map_some {α jB:Type} {x:Option α} {f:α->jB} {y:jB}:x.map f=some y<->∃ a,x=some a/\f a=y:=by cases x<;>simp
theorem gf {l l' : am} {x:Option U} {v:U}:dv l x=some (v,l')<->x=some v/\l'=l:=by cases x<;>simp[dv,eq_comm]
theorem ia {α:Type} {p:Prop} [Decidable p] {x y:α}:(if p then some x else none)=some y<->p/\x=y:=by by_cases p<;>simp_all
theorem Ox {l l' : am} {e z by_ n:Nat} {s v:U} {xs:List U} (aw:tf P e=some z) (h:h4 l z by_ s xs n=some (v,l')) :u9 P (bU l) e z by_ s xs n=some (v,bU l') :=by
 unfold h4 at h;unfold u9;by_cases aC:n=0
 ·rw[if_pos aC] at h ⊢;cases s<;>simp at h ⊢<;>simp[h]
 ·rw[if_neg aC] at h ⊢;by_cases aE:z=0\/by_=0
  ·rw[if_pos aE] at h; cases h
  ·rw[if_neg aE] at h;rw[if_neg (by simp only[aw]; simpa using aE)];cases s<;>simp only at h ⊢<;>try (cases h; done)
   case a1=>
    by_cases ax:n*by_<=ct
    ·rw[if_pos ax] at h ⊢; cases h; rw[lY]; rfl
    ·rw[if_neg ax] at h; cases h
   case au dm b off len cap sz=>
    cases ag:l[b]? with
    | none=>rw[ag] at h; cases h
    | some c=>
     cases c<;>rw[ag] at h<;>(try simp only at h)<;>try (cases h; done)
     rename_i m cs;rw[lX.2 ag];simp only;by_cases h1:m=sz/\z=dm/\(len+n)*by_<=ct
     ·rw[if_pos h1] at h ⊢;by_cases ad:len+n<=cap
      ·rw[if_pos ad] at h ⊢; cases h; rw[oo _ (fc ag)]
      ·rw[if_neg ad] at h ⊢;by_cases aj:off+cap*z<sz
       ·rw[if_pos aj] at h ⊢; cases h; rw[lY]; rfl
       ·rw[if_neg aj] at h ⊢;by_cases aF:off=0
        ·rw[if_pos aF] at h ⊢; cases h; rw[oo _ (fc ag)]
        ·rw[if_neg aF] at h ⊢; cases h;rw[oo _ (fc ag),lY]; rfl
     ·rw[if_neg h1] at h; cases h
theorem ZX {t:TypeId} {cE:List (Nat × Operand)} {q:List (Nat × Nat × Operand)} (aZ:Iw P t cE=some q) (aA:Operand->U) (zero:List U) (aw:hs P t=some zero) {cs:List U}
  (ag:pv zero (q.map fun p=>(p.1,p.2.1,aA p.2.2))=some cs) :Bw P t (cE.map fun p=>(p.1,aA p.2))=some (.aM cs) :=by
 have fill:∀ (kO:Nat->Option (Nat × Nat)) (cE:List (Nat × Operand)) (q:List (Nat × Nat × Operand)) (zero:List U),
   (cE.mapM fun p=>(kO p.1).map fun q=>(q.1,q.2,p.2))=some q->pv zero (q.map fun p=>(p.1,p.2.1,aA p.2.2))=some cs->hl kO zero (cE.map fun p=>(p.1,aA p.2))=some cs:=by
  intro kO cE
  induction cE with
  | nil=>intro q zero h1 ad; simp at h1; subst h1; simpa [pv,hl] using ad
  | cons p cE aH=>
   intro q zero h1 ad;rw[au7] at h1;simp only[Option.bind_eq_bind,bind_some,map_some,ava,Option.some.injEq] at h1;obtain⟨a,⟨eQ,aj,rfl⟩,fl,aF,rfl⟩:=h1;simp only[atY,pv,hl,aj] at ad ⊢;split at ad
   ·rename_i vs aq;simp only[aq];split at ad
    ·rename_i aW;rw[if_pos aW];exact aH _ _ aF ad
    ·cases ad
   ·cases ad
 unfold Iw at aZ;unfold Bw;split at aZ
 ·rename_i fs aJ;rw[aw,aJ];simp only;split at aZ
  ·rename_i eC;rw[if_neg (by simp[eC])];rw[fill _ _ _ _ aZ ag]; rfl
  ·cases aZ
 ·rename_i n e aJ;rw[map_some] at aZ;obtain⟨gY,h1,rfl⟩:=aZ;rw[aw,aJ];simp only[h1];rw[fill (fun i=>some (i*gY,gY)) cE _ zero ?_ ag]; rfl;clear ag
  induction cE with
  | nil=>rfl
  | cons p cE aH=>rw[au7,aH]; rfl
 ·cases aZ
theorem akk {t:TypeId} {dd:jE} (aI:pe P t=some dd) (x:U) (cN av cG:Option U) :gg dd x cN av cG=DT P t x cN av cG:=by
 unfold pe at aI;unfold DT;split at aI
 ·rename_i n e aJ;rw[map_some] at aI;obtain⟨z,h1,rfl⟩:=aI;rw[aJ]; simp only[h1,gg];cases gv n n cN av cG<;>rfl
 ·rename_i e aJ;rw[map_some] at aI;obtain⟨z,h1,rfl⟩:=aI;rw[aJ]; simp only[h1,gg];cases x<;>rfl
 ·rename_i aJ;cases aI;rw[aJ]; simp only[gg];cases x<;>cases cG<;>rfl
 ·cases aI
theorem ahj {t:TypeId} {dd:jE} (aI:pe P t=some dd) {x v:U} (h:cP dd x=some v) :yk P t x=some v:=by
 unfold pe at aI;unfold yk;split at aI
 ·rename_i n e aJ;rw[map_some] at aI;obtain⟨z,h1,rfl⟩:=aI;rw[aJ]; simpa [cP] using h
 ·rename_i e aJ;rw[map_some] at aI;obtain⟨z,h1,rfl⟩:=aI;rw[aJ]; unfold cP at h; cases x<;>simp_all
 ·rename_i aJ;cases aI;rw[aJ]; unfold cP at h; cases x<;>simp_all
 ·cases aI
theorem aan {t:TypeId} {dd:jE} (aI:pe P t=some dd) {x v:U} (h:tB dd x=some v) :ze P t x=some v:=by
 unfold pe at aI;unfold ze;split at aI
 ·rename_i n e aJ;rw[map_some] at aI;obtain⟨z,h1,rfl⟩:=aI;rw[aJ]; simpa [tB] using h
 ·rename_i e aJ;rw[map_some] at aI;obtain⟨z,h1,rfl⟩:=aI;rw[aJ]; unfold tB at h; cases x<;>simp_all
 ·rename_i aJ;cases aI;rw[aJ]; unfold tB at h; cases x<;>simp_all
 ·cases aI
theorem UN {t:TypeId} {dd:jE} (aI:pe P t=some dd) {x i v:U} (h:cj dd x i=some v) :C2 P t x i=some v:=by
 unfold pe at aI;unfold C2;unfold cj at h;cases i<;>(try simp only at h)<;>try (cases h; done)
 rename_i k i;split at aI
 ·rename_i n e aJ;rw[map_some] at aI;obtain⟨z,h1,rfl⟩:=aI;rw[aJ]; simpa [asInt,h1] using h
 ·rename_i e aJ;rw[map_some] at aI;obtain⟨z,h1,rfl⟩:=aI;rw[aJ]; simp only[asInt,h1]; simp only at h;cases x<;>simp only at h ⊢<;>first | exact h | cases h
 ·rename_i aJ;cases aI;simp only at h;cases h
 ·cases aI
theorem akV {t:TypeId} {n:Nat} (al:cv P t=some n) {l l' : am} {p v:U} (h:jT n l p v=some l') :AR P (bU l) t p v=some (bU l') :=by
 unfold jT at h;unfold AR;cases p<;>(try simp only at h)<;>try (cases h; done)
 rename_i b off sz;cases aq:v.cells with
 | none=>rw[aq] at h; cases h
 | some vs=>
  rw[aq] at h;simp only[al] at h ⊢;cases ag:l[b]? with
  | none=>rw[ag] at h; cases h
  | some c=>
   cases c<;>rw[ag] at h<;>(try simp only at h)<;>try (cases h; done)
   rename_i m cs;rw[lX.2 ag];simp only;rw[ia] at h;obtain⟨h1,rfl⟩:=h;rw[if_pos h1,oo _ (fc ag)]
theorem aaS {t e:TypeId} {z:Nat} (ao:io P t=some e) (al:cv P e=some z) {l l' : am} {d x v:U} (h:zn z l d x=some (v,l')) :zm P (bU l) t d x=some (v,bU l') :=by
 unfold zn at h;unfold zm;rw[ao]; simp only[al,BL];cases ah:dp l z x with
 | none=>rw[ah] at h; cases h
 | some p=>
  obtain⟨xs,n⟩:=p;rw[ah] at h;simp only at h ⊢;cases d<;>simp only at h ⊢<;>try (cases h; done)
  case a1=>cases h; rfl
  case au dm b off len cap sz=>
   cases ag:l[b]? with
   | none=>rw[ag] at h; cases h
   | some c=>
    cases c<;>rw[ag] at h<;>(try simp only at h)<;>try (cases h; done)
    rename_i m cs;rw[lX.2 ag];simp only;rw[ia] at h;obtain⟨h1,ad⟩:=h;cases ad;rw[if_pos h1,oo _ (fc ag)]
theorem aaz {t e:TypeId} {zero:List U} (aJ:P.underlying t=some (.slice e)) (aw:hs P e=some zero) {l l' : am} {x:U} (h:r3 zero l x=some l') :zi P (bU l) t x=some (bU l') :=by
 unfold r3 at h;unfold zi;rw[aJ];cases x<;>(try simp only at h)<;>try (cases h; done)
 case a1=>cases h; rfl
 case bD z es=>cases es<;>simp only at h<;>cases h; rfl
 case au z b off len cap sz=>
  simp only;by_cases aE:len=0
  ·rw[if_pos aE] at h ⊢; cases h; rfl
  ·rw[if_neg aE] at h ⊢;rw[aw];cases ag:l[b]? with
   | none=>rw[ag] at h; cases h
   | some c=>
    cases c<;>rw[ag] at h<;>(try simp only at h)<;>try (cases h; done)
    rename_i m cs;rw[lX.2 ag];simp only;rw[ia] at h;obtain⟨h1,rfl⟩:=h;rw[if_pos h1,oo _ (fc ag)]
theorem VH {t cM l8:TypeId} (aJ:P.underlying t=some (.map cM l8)) {l l' : am} {m k x:U} (h:sM P l cM m k x=some l') :yp P (bU l) t m k x=some (bU l') :=by
 unfold sM at h;unfold yp;rw[aJ];cases m<;>(try simp only at h)<;>try (cases h; done)
 rename_i b;simp only[mI];cases ag:l[b]? with
 | none=>rw[ag] at h; cases h
 | some c=>
  cases c<;>rw[ag] at h<;>simp only at h<;>try (cases h; done)
  rename_i es ey;simp only;cases hk:kL P cM k with
  | false=>rw[hk] at h; cases h
  | true=>
   rw[hk] at h;simp only at h ⊢;cases aD:jd P cM k es 0 with
   | none=>rw[aD] at h; cases h
   | some r=>
    rw[aD] at h;cases r with
    | none=>cases h; simp only[oo _ (fc ag)]
    | some wb=>cases h; simp only[oo _ (fc ag)]
theorem ahn {t:TypeId} (h1:dW P t=some false) (h:aN) (p:U) :sK P h t p=(reach h p).bind fun x=>x.1[x.2]?:=by
 unfold sK hC; rw[h1]; cases reach h p<;>rfl
theorem aho {t:TypeId} {n:Nat} (h1:dW P t=some true) (ad:cv P t=some n) (h:aN) (p:U) :sK P h t p=(reach h p).bind fun x=>sX n x.1 x.2:=by
 unfold sK hC; rw[h1,ad]; cases reach h p<;>rfl
theorem aae {b:Builtin} {ts:List TypeId} {args:List Operand} {m:da} (hm:vm P b ts args=some m) {aA:Operand->U} {l l' : am} {v:U} (h:bO P aA l m=some (v,l')) :
  pw P (bU l) b ts (args.map aA)=some (.val v (bU l')) :=by
 unfold vm at hm;split at hm
 ·rename_i A4;split at hm
  ·rename_i k e aJ;cases hm;simp only[bO,gf] at h;obtain⟨ad,rfl⟩:=h;unfold Dh at ad;simp only[atY,awl,pw];cases af:aA A4<;>rw[af] at ad<;>(try simp only at ad)<;>try (cases ad; done)
   ·cases ad; simp[yk,yl,aJ]
   ·rename_i b;cases ag:l'[b]? with
    | none=>rw[ag] at ad; cases ad
    | some c=>
     cases c<;>rw[ag] at ad<;>simp only at ad<;>try (cases ad; done)
     cases ad;simp[yl,aJ,mI,ag]
  ·rw[map_some] at hm;obtain⟨dd,h1,rfl⟩:=hm;simp only[bO,gf] at h;obtain⟨ad,rfl⟩:=h;have aj:=ahj h1 ad;have aF:∀ x,yl P (bU l') _ x=none:=fun x=>by
    unfold pe at h1;unfold yl;split at h1<;>first | (rename_i aJ; rw[aJ]; done) | (cases h1; done) | skip
    all_goals (rename_i aJ; simp only[aJ])
   simp only[atY,awl,pw,aF];simp[aj]
 ·rw[map_some] at hm;obtain⟨dd,h1,rfl⟩:=hm;simp only[bO,gf] at h;obtain⟨ad,rfl⟩:=h;simp[pw,aan h1 ad]
 ·rename_i t u s x;simp only[atY,awl,pw];split at hm
  ·rename_i aJ;simp only[bind_some] at hm;obtain⟨e,h1,z,ad,by_,aj,zero,aF,hm⟩:=hm;rw[ia] at hm;obtain⟨⟨aW,bt⟩,rfl⟩:=hm;simp only[bO] at h;unfold qE at h;cases af:aA x<;>rw[af] at h<;>(try simp only at h)<;>try (cases h; done)
   rename_i k n;by_cases dq:0<=n/\n<9223372036854775808/\n.toNat*by_<=ct
   ·rw[if_pos dq] at h;rw[aJ];simp only[Bp,h1,asInt,ad,aj,aF];rw[if_pos ⟨aW,dq⟩,Ox bt h]; rfl
   ·rw[if_neg dq] at h; cases h
  ·cases hm
  ·rename_i aC aJ;simp only[bind_some] at hm;obtain⟨e,h1,z,ad,by_,aj,hm⟩:=hm;rw[ia] at hm;obtain⟨bt,rfl⟩:=hm;simp only[bO] at h;unfold fz at h;cases ah:dp l z (aA x) with
   | none=>rw[ah] at h; cases h
   | some p=>
    obtain⟨xs,n⟩:=p;rw[ah] at h;simp only at h;have:rY P (bU l) t (aA s) (aA x)=some (v,bU l') :=by
     simp only[rY,h1,ad,aj,BL,ah];exact Ox bt h
    rw[this];cases bq:P.underlying u with
    | none=>exact absurd bq aJ
    | some d=>
     cases d<;>first | rfl | (rename_i k; exact absurd bq (aC k))
 ·simp only[bind_some,map_some] at hm;obtain⟨e,h1,z,ad,rfl⟩:=hm;simp only[bO] at h;simp[pw,aaS h1 ad h]
 ·split at hm
  ·rename_i e aJ;rw[map_some] at hm;obtain⟨zero,h1,rfl⟩:=hm;simp only[bO,map_some,Prod.mk.injEq] at h;obtain⟨b5,ad,rfl,rfl⟩:=h;simp[pw,aaz aJ h1 ad]
  ·cases hm
 ·cases hm;simp only[bO,gf] at h;obtain⟨ad,rfl⟩:=h;simp[pw,ad]
 ·cases hm;simp only[bO,gf] at h;obtain⟨ad,rfl⟩:=h;simp[pw,ad]
 ·cases hm
theorem Mi {t:TypeId} (h1:dW P t=some false) (cs:List U) (off:Nat) :hC P t cs off=cs[off]?:=by unfold hC; rw[h1]
theorem Wg {t:TypeId} {n:Nat} (h1:dW P t=some true) (ad:cv P t=some n) (cs:List U) (off:Nat) :hC P t cs off=sX n cs off:=by unfold hC; rw[h1,ad]; rfl
theorem IC {s d:TypeId} {x:U} (h:∀ e,P.underlying d=some (.slice e)->False) :zc P s d x=none:=by
 unfold zc;split
 ·rename_i e al bq af;exact (h e af).elim
 ·rfl
theorem GY {op:Op} {m:da} (hm:mV P op=some m) {aA:Operand->U} {l l' : am} {v:U} (h:bO P aA l m=some (v,l')) :cV P (bU l) aA op=some (.val v (bU l')) :=by
 cases op<;>simp only[mV] at hm<;>try (cases hm; done)
 case move x=>cases hm; simp only[bO,Option.some.injEq,Prod.mk.injEq] at h; obtain⟨rfl,rfl⟩:=h; rfl
 case assign x=>cases hm; simp only[bO,Option.some.injEq,Prod.mk.injEq] at h; obtain⟨rfl,rfl⟩:=h; rfl
 case pick c a b=>
  cases hm; simp only[bO,gf] at h;obtain⟨ad,rfl⟩:=h;simp only[cV];unfold Dz at ad;cases ah:aA c<;>rw[ah] at ad<;>(try simp only at ad)<;>try (cases ad; done)
  cases ad; rfl
 case alloc t=>
  rw[map_some] at hm;obtain⟨zero,h1,rfl⟩:=hm;simp only[bO,Option.some.injEq,Prod.mk.injEq] at h;obtain⟨rfl,rfl⟩:=h;simp only[cV,h1,lY]; rfl
 case box t x=>
  cases hm;simp only[bO,map_some,Prod.mk.injEq] at h;obtain⟨cs,h1,rfl,rfl⟩:=h;simp only[cV,h1,lY]; rfl
 case build t cE=>
  simp only[bind_some,map_some] at hm;obtain⟨zero,h1,q,ad,rfl⟩:=hm;simp only[bO,gf,map_some] at h;obtain⟨⟨cs,aj,rfl⟩,rfl⟩:=h;simp only[cV,ZX ad aA zero h1 aj]; rfl
 case buildSlice t n cE=>
  simp only[bind_some] at hm;obtain⟨e,h1,z,ad,zero,aj,hm⟩:=hm;rw[ia] at hm;obtain⟨aF,rfl⟩:=hm;simp only[bO,map_some,Prod.mk.injEq] at h;obtain⟨cs,aW,rfl,rfl⟩:=h;simp only[cV,Eu,h1,ad,aj,if_pos aF,aW,lY]; rfl
 case load t a=>
  split at hm
  ·rename_i n h1 ad;cases hm;simp only[bO,gf] at h;obtain⟨aj,rfl⟩:=h;simp only[cV,aho h1 ad,MC,aj]; rfl
  ·rename_i h1;cases hm;simp only[bO,gf] at h;obtain⟨aj,rfl⟩:=h;simp only[cV,ahn h1,MC,aj]; rfl
  ·cases hm
 case store t a x=>
  rw[map_some] at hm;obtain⟨n,h1,rfl⟩:=hm;simp only[bO,map_some,Prod.mk.injEq] at h;obtain⟨b5,ad,rfl,rfl⟩:=h;simp only[cV,akV h1 ad]; rfl
 case nilCheck x=>
  cases hm;simp only[bO,gf] at h;obtain⟨ad,rfl⟩:=h;simp only[cV];unfold yt at ad;cases ah:aA x<;>rw[ah] at ad<;>simp only at ad<;>first | (cases ad; done) | (cases ad; rfl)
 case binOp o t x y u=>
  cases hm;simp only[bO,gf] at h;obtain⟨ad,rfl⟩:=h;simp only[cV,ad]; rfl
 case unOp o t x=>
  cases hm;simp only[bO,gf] at h;obtain⟨ad,rfl⟩:=h;simp only[cV,ad]; rfl
 case convert s d x=>
  simp only[cV];split at hm
  ·rename_i hN k al bq;cases hm;simp only[bO,gf] at h;obtain⟨ad,rfl⟩:=h;rw[IC (fun e ao=>by rw[bq] at ao; cases ao)];unfold BF at ad;cases af:aA x<;>rw[af] at ad<;>(try simp only at ad)<;>try (cases ad; done)
   cases ad;simp only[xe,al,bq]; rfl
  ·rename_i e al bq;split at hm
   ·rename_i ao;cases hm;simp only[bO,gf] at h;obtain⟨ad,rfl⟩:=h;rw[IC (fun e ao=>by rw[bq] at ao; cases ao)];have:xe P (bU l') s d (aA x)=some v:=by
     rw[<-ad];unfold xe vg;rw[al,bq];cases af:aA x<;>(simp only[ao,BL])<;>(try rfl)<;>(rw[af] at ad; unfold vg at ad; simp only at ad)
     ·cases ad
     all_goals (cases ah:dp l' 1 _<;>rfl)
    rw[this]; rfl
   ·cases hm
  ·rename_i al bq;cases hm;simp only[bO,gf] at h;obtain⟨ad,rfl⟩:=h;rw[IC (fun e ao=>by rw[bq] at ao; cases ao)];unfold EH at ad;cases af:aA x<;>rw[af] at ad<;>(try simp only at ad)<;>try (cases ad; done)
   cases ad;simp only[xe,al,bq]; rfl
  ·rename_i e al bq;split at hm
   ·rename_i ao;cases hm;simp only[bO,gf] at h;obtain⟨ad,rfl⟩:=h;unfold vt at ad;cases af:aA x<;>rw[af] at ad<;>(try simp only at ad)<;>try (cases ad; done)
    cases ad;simp only[zc,al,bq,ao]
   ·cases hm
  ·cases hm
 case makeInterface t x=>
  split at hm
  ·cases hm
  ·cases hm
  ·rename_i h1 ad;cases hm;simp only[bO,Option.some.injEq,Prod.mk.injEq] at h;obtain⟨rfl,rfl⟩:=h;simp only[cV]
 case typeAssert x NU t ok=>
  rw[map_some] at hm;obtain⟨z,aw,rfl⟩:=hm;simp only[bO,gf] at h;obtain⟨ad,rfl⟩:=h;simp only[cV,aw,ad,atA]
 case makeFunc f a b=>
  cases f<;>simp only at hm<;>try (cases hm; done)
  cases hm;simp only[bO,Option.some.injEq,Prod.mk.injEq] at h;obtain⟨rfl,rfl⟩:=h;rfl
 case makeSlice t a c=>
  simp only[bind_some] at hm;obtain⟨e,h1,z,ad,by_,aj,zero,aF,hm⟩:=hm;rw[ia] at hm;obtain⟨aW,rfl⟩:=hm;simp only[bO] at h;unfold rq at h;cases aB:aA a<;>rw[aB] at h<;>(try simp only at h)<;>try (cases h; done)
  cases ah:aA c<;>rw[ah] at h<;>(try simp only at h)<;>try (cases h; done)
  rw[ia] at h;obtain⟨bt,dq⟩:=h;cases dq;simp only[cV,aB,ah,GN,h1,asInt,ad,aj,aF,if_pos (And.intro aW bt),lY]; rfl
 case slice t x cN av cG=>
  rw[map_some] at hm;obtain⟨dd,h1,rfl⟩:=hm;simp only[bO,gf] at h;obtain⟨ad,rfl⟩:=h;rw[akk h1] at ad;simp only[cV,ad]; rfl
 case fieldAddr s x f=>
  rw[bind_some] at hm;obtain⟨fd,h1,hm⟩:=hm;split at hm
  ·rename_i n ad;cases hm;simp only[bO,gf] at h;obtain⟨aj,rfl⟩:=h;simp only[cV,EU,h1,ad,aj]; rfl
  ·cases hm
 case field t x f=>
  rw[bind_some] at hm;obtain⟨fd,h1,hm⟩:=hm;split at hm
  ·rename_i n ad aj;cases hm;simp only[bO,gf] at h;obtain⟨aF,rfl⟩:=h;unfold zz at aF;cases af:aA x<;>rw[af] at aF<;>(try simp only at aF)<;>try (cases aF; done)
   simp only[cV,af,h1,Wg ad aj,aF]; rfl
  ·rename_i ad;cases hm;simp only[bO,gf] at h;obtain⟨aF,rfl⟩:=h;unfold B2 at aF;cases af:aA x<;>rw[af] at aF<;>(try simp only at aF)<;>try (cases aF; done)
   simp only[cV,af,h1,Mi ad,aF]; rfl
  ·cases hm
 case indexAddr t x i=>
  split at hm
  ·rename_i n z h1;cases hm;simp only[bO,gf] at h;obtain⟨ad,rfl⟩:=h;simp only[cV,UN h1 ad]; rfl
  ·rename_i z h1;cases hm;simp only[bO,gf] at h;obtain⟨ad,rfl⟩:=h;simp only[cV,UN h1 ad]; rfl
  ·cases hm
 case index t x i=>
  split at hm
  ·rename_i n e aJ;split at hm
   ·rename_i z h1 ad;cases hm;simp only[bO,gf] at h;obtain⟨aj,rfl⟩:=h;unfold Da at aj;cases af:aA x<;>rw[af] at aj<;>(try simp only at aj)<;>try (cases aj; done)
    cases av:aA i<;>rw[av] at aj<;>(try simp only at aj)<;>try (cases aj; done)
    simp only[cV,Am,af,av,aJ,asInt,h1,Wg ad h1,aj]; rfl
   ·rename_i z h1 ad;cases hm;simp only[bO,gf] at h;obtain⟨aj,rfl⟩:=h;unfold C9 at aj;cases af:aA x<;>rw[af] at aj<;>(try simp only at aj)<;>try (cases aj; done)
    cases av:aA i<;>rw[av] at aj<;>(try simp only at aj)<;>try (cases aj; done)
    simp only[cV,Am,af,av,aJ,asInt,h1,Mi ad,aj]; rfl
   ·cases hm
  ·rename_i aJ;cases hm;simp only[bO,gf] at h;obtain⟨aj,rfl⟩:=h;unfold yf at aj;cases af:aA x<;>rw[af] at aj<;>(try simp only at aj)<;>try (cases aj; done)
   cases av:aA i<;>rw[av] at aj<;>(try simp only at aj)<;>try (cases aj; done)
   simp only[cV,Am,af,av,aJ,asInt,aj]; rfl
  ·cases hm
 case extract x i=>
  cases hm;simp only[bO,gf] at h;obtain⟨ad,rfl⟩:=h;unfold BX at ad;cases af:aA x<;>rw[af] at ad<;>(try simp only at ad)<;>try (cases ad; done)
  simp only[cV,af,ad]; rfl
 case call c=>
  split at hm
  ·rename_i b ag;simp only[cV,vd,ag];exact aae hm h
  ·rename_i f aD;split at hm
   ·rename_i fn x y j5 Fw;rw[ia] at hm;obtain⟨av,rfl⟩:=hm;simp only[bO] at h;split at h
    case h_2=>cases h
    rename_i FP;rw[gf] at h;obtain⟨ad,rfl⟩:=h;unfold cmpL at ad;have fB:∀ x,r1 (bU l') x=ow l' x:=fun x=>by
     cases x<;>simp only[r1,ow,BL]<;>rfl
    have sr:¬(fn.body.isSome=true/\fn.name≠ "runtime.NumGoroutine") :=by
     rintro⟨a,_⟩;unfold C4 at av;simp only[atv] at av;rw[awi.1 av.1.1] at a; cases a
    have xN:aA (.func f)=.fn f [] [] :=by
     unfold C5 at FP;split at FP
     ·rename_i g ar; rw[ar,auj FP]
     ·cases FP
    simp only[cV,vd,aD,xN,j5,if_neg sr,if_pos av,Fw,atY,awl,auB,atZ,BJ,fB];cases aB:ow l' (aA x) with
    | none=>rw[aB] at ad; cases ad
    | some a=>
     cases ag:ow l' (aA y) with
     | none=>rw[aB,ag] at ad; cases ad
     | some b=>rw[aB,ag] at ad; cases ad; rfl
   ·cases hm
  ·cases hm
 case panic x=>cases hm; cases h
 case makeMap t r=>
  split at hm
  ·rename_i k e aJ;cases hm;simp only[bO] at h;cases r with
   | none=>cases h; simp[cV,aJ,lY]
   | some x=>
    simp only at h;cases af:asInt (aA x) with
    | none=>rw[af] at h; cases h
    | some n=>rw[af] at h; cases h; simp[cV,aJ,af,lY]
  ·cases hm
 case lookup t m k ok=>
  split at hm
  ·rename_i cM l8 aJ;rw[map_some] at hm;obtain⟨z,aw,rfl⟩:=hm;simp only[bO,gf] at h;obtain⟨ad,rfl⟩:=h;have xW:∀ x,mapOf (bU l') x=sL l' x:=fun x=>by
    cases x<;>try rfl
    rename_i b;simp only[mapOf,sL,mI];cases l'[b]? with
    | none=>rfl
    | some c=>cases c<;>rfl
   unfold wi at ad;simp only[cV,GH,aJ,xW];cases iW:sL l' (aA m) with
   | none=>rw[iW] at ad; cases ad
   | some es=>
    rw[iW] at ad;simp only at ad ⊢;cases hk:kL P cM (aA k) with
    | false=>rw[hk] at ad; cases ad
    | true=>
     rw[hk] at ad;simp only at ad ⊢;cases aD:jd P cM (aA k) es 0 with
     | none=>rw[aD] at ad; cases ad
     | some r=>
      rw[aD] at ad;cases r with
      | none=>cases ad; simp[aw]
      | some wb=>cases ad; rfl
  ·cases hm
 case mapUpdate t m k x=>
  split at hm
  ·rename_i cM l8 aJ;cases hm;simp only[bO,map_some] at h;obtain⟨b5,ad,aj⟩:=h;cases aj;simp only[cV,VH aJ ad]; rfl
  ·cases hm
 case insert t m k x=>
  split at hm
  ·rename_i cM l8 aJ;cases hm;simp only[bO,map_some] at h;obtain⟨b5,ad,aj⟩:=h;cases aj;simp only[cV,VH aJ ad]; rfl
  ·cases hm
 case range t x=>
  split at hm
  ·rename_i aJ;cases hm;simp only[bO] at h;unfold AJ at h;cases af:aA x<;>rw[af] at h<;>(try simp only at h)<;>try (cases h; done)
   cases h;simp[cV,Hk,aJ,af,lY]
  ·cases hm
 case next it b=>
  cases b with
  | false=>cases hm
  | true=>
   cases hm;simp only[bO] at h;unfold uC at h;simp only[cV,Au];cases af:aA it<;>rw[af] at h<;>(try simp only at h)<;>try (cases h; done)
   rename_i b;simp only[mI];cases ag:l[b]? with
   | none=>rw[ag] at h; cases h
   | some c=>
    cases c<;>rw[ag] at h<;>simp only at h<;>try (cases h; done)
    simp only;split at h
    ·rename_i aK; cases h; rw[aK]; simp only[atA,oo _ (fc ag)]
    ·rename_i aK; cases h; rw[aK]; rfl
end
abbrev a7:=Nat->U
abbrev g3:=rO->a7->am->Prop
class N1 (α:Type) where
 k:α->Prop
class Bg where
 p:Prop
 q:Prop
class tj where
 k:U->am->Prop
class H0 where
 k:g3
def W {α:Type} (o:Option α) [c:N1 α] :Prop:=match o with | some v=>c.k v | none=>False
def re (b:Bool) [c:Bg] :Prop:=match b with | true=>c.p | false=>c.q
def yi (x:U) [c:Bg] :Prop:=match x with | .bool b=>re b (c:=c) | _=>False
def rc (x:U) (w:Bool) [c:Bg] :Prop:=match x with | .bool b=>re (b == w) (c:=c) | .bad=>False | _=>c.q
inductive qx where
 | gE (m:da)
 | l5 (f:FuncId) (args:List Operand)
 | mQ (x:Operand) (args:List Operand)
 | nH (x:Operand) (name:String) (args:List Operand)
structure eg where
 i:Nat
 dst:Option Tmp
 g:Option (Option Tmp × Bool)
 b:qx
 hh:List Nat
 cq:Bool
inductive fF where
 | skip
 | ret
 | exit (id:Nat)
 | wA (s:List eg)
 | xg (s:List eg)
 | seq (a b:fF)
 | cond (c:Operand) (x y:fF)
 | block (id:Nat) (c:fF)
 | loop (c:fF)
section
variable (P:Program) (G:Nat->U)
def je (f:FuncId) :Bool:=match P.funcs[f]? with | some fn=>fn.body.isSome&&fn.name != "runtime.NumGoroutine" | none=>false
def c7 (f:FuncId) (args:List U) (l:am) [c:tj] :Prop:=∃ r l',dn P G (.call f args (bU l) r (bU l'))/\l.length<=l'.length/\c.k r l'
def vf (x:U) (args:List U) (l:am) [c:tj] :Prop:=match x with
 | .fn g first fI=>je P g=true/\c7 P G g (first++args++fI) l (c:=c)
 | _=>False
def ve (name:String) (x:U) (args:List U) (l:am) [c:tj] :Prop:=match x with
 | .gA t v=>match yq P t name with
  | some g=>je P g=true/\c7 P G g (v::args) l (c:=c)
  | none=>False
 | _=>False
def c0 (v:U) (l:am) [c:tj] :Prop:=c.k v l\/∃ dJ b5,qC (bU l) (bU b5)/\qB (bU l) (bU b5) v dJ/\c.k dJ b5
def er (m:da) (v:U) (l:am) (K:U->am->Prop) :Prop:=match m with
 | .app ..=>c0 v l (c:=⟨K⟩)
 | _=>K v l
def hG (b:qx) (ae:a7) (l:am) (K:U->am->Prop) :Prop:=match b with
 | .gE m=>W (bO P (cR G ae) l m) (c:=⟨fun x=>er m x.1 x.2 K⟩)
 | .l5 f args=>c7 P G f (args.map (cR G ae)) l (c:=⟨K⟩)
 | .mQ x args=>vf P G (cR G ae x) (args.map (cR G ae)) l (c:=⟨K⟩)
 | .nH x name args=>ve P G name (cR G ae x) (args.map (cR G ae)) l (c:=⟨K⟩)
def qa (ae:a7) (g:Option (Option Tmp × Bool)) (p q:Prop) :Prop:=match g with
 | none=>p
 | some (some d,w)=>rc (ae d) w (c:=⟨p,q⟩)
 | some (none,_)=>q
def i9:List eg->a7->am->(a7->am->Prop)->Prop
 | [],ae,l,K=>K ae l
 | s::r,ae,l,K=>qa ae s.g (hG P G s.b ae l fun v l'=>i9 r (hc ae s.dst v) l' K) (i9 r (hc ae s.dst he) l K)
abbrev ik:=List (Nat × (am->Prop))
def pz (ids:List Nat) :ik->am->Prop
 | [],_=>True
 | e::r,l=>(ids.contains e.1=true->e.2 l)/\pz ids r l
def da.iF:da->Bool
 | .alloc _ | .box _ | .qF .. | .rp ..=>true
 | _=>false
def lo (b:qx) (ae:a7) (v:U) (l l' l1:am) :Prop:=match b with
 | .gE m=>match m.iF with
  | true=>l1[l.length]? = l'[l.length]?
  | false=>bO P (cR G ae) l1 m=some (v,l1)
 | _=>True
def rD (cq:Bool) (i:Nat) (p:am->Prop) (s:ik) :ik:=match cq with | true=>(i,p) ::s | false=>s
def jv:List eg->a7->am->ik->(a7->am->Prop)->Prop
 | [],ae,l,_,K=>K ae l
 | s::r,ae,l,seen,K=>qa ae s.g (hG P G s.b ae l fun v l'=>pz s.hh seen l'/\jv r (hc ae s.dst v) l' (rD s.cq s.i (lo P G s.b ae v l l') seen) K) (jv r (hc ae s.dst he) l seen K)
def nZ (k:a7->am->Prop) (K:g3) :g3:=fun e ae l=>match e with
 | .normal=>k ae l
 | .exit id=>K (.exit id) ae l
 | .ret=>K .ret ae l
def rb (id:Nat) (K:g3) :g3:=fun e ae l=>match e with
 | .normal=>K .normal ae l
 | .exit sF=>match Nat.beq sF id with | true=>K .normal ae l | false=>K (.exit sF) ae l
 | .ret=>K .ret ae l
def Ao (r:a7->am->g3->Prop) :Nat->a7->am->g3->Prop
 | 0=>fun _ _ _=>False
 | n+1=>fun ae l K=>r ae l (nZ (fun ae l=>Ao r n ae l K) K)
def Ed (r:a7->am->g3->Prop) (ae:a7) (l:am) [c:H0] :Prop:=∃ n,Ao r n ae l c.k
def run:fF->a7->am->g3->Prop
 | .skip,ae,l,K=>K .normal ae l
 | .ret,ae,l,K=>K .ret ae l
 | .exit id,ae,l,K=>K (.exit id) ae l
 | .wA s,ae,l,K=>i9 P G s ae l (K .normal)
 | .xg s,ae,l,K=>jv P G s ae l [] (K .normal)
 | .seq a b,ae,l,K=>run a ae l (nZ (fun ae l=>run b ae l K) K)
 | .cond c x y,ae,l,K=>yi (cR G ae c) (c:=⟨run x ae l K,run y ae l K⟩)
 | .block id c,ae,l,K=>run c ae l (rb id K)
 | .loop c,ae,l,K=>Ed (run c) ae l (c:=⟨K⟩)
def DX (ops:Array Oper) (i:Nat) (hh:List Nat) (cq:Bool) :Option eg:=(ops[i]?).bind fun o=>
 let g:=o.guard.map fun kj=>((ops[kj.1]?).bind (·.dst),kj.2)
 match mV P o.op with
 | some m=>some ⟨i,o.dst,g,.gE m,hh,cq⟩
 | none=>match o.op with
  | .call c=>match c.callee with
   | .value (.func f)=>match je P f with
    | true=>some ⟨i,o.dst,g,.l5 f c.args.toList,hh,cq⟩
    | false=>none
   | .value x=>some ⟨i,o.dst,g,.mQ x c.args.toList,hh,cq⟩
   | .invoke x name=>some ⟨i,o.dst,g,.nH x name c.args.toList,hh,cq⟩
   | _=>none
  | _=>none
def tb:Op->Bool
 | .load .. | .convert .. | .alloc _ | .box .. | .buildSlice .. | .makeSlice ..=>true
 | .call c=>match c.callee,c.argTypes.toList with
  | .builtin .len,[t]=>match P.underlying t with | some (.map _ _)=>true | _=>false
  | _,_=>false
 | _=>false
def aav (ms:List Nat) (ops:Array Oper) (done kA:List Nat) :List Nat:=
 done.filter fun j=>(match ops[j]? with | some o=>tb P o.op | none=>false)&&kA.all fun e=>!o7 ms e j
def n4 (ms:List Nat) (ops:Array Oper) :List Nat->List Nat->List Nat->List (Nat × List Nat)
 | [],_,_=>[]
 | i::r,done,kA=>match ops[i]? with
  | none=>[]
  | some o=>match kh o.op with
   | true=>(i,aav P ms ops done (i::kA)) ::n4 ms ops r (i::done) (match o.guard with | none=>i::kA | some _=>kA)
   | false=>(i,[]) ::n4 ms ops r (i::done) kA
def BS (ms:List Nat) (ops:Array Oper) :List Nat->Bool
 | []=>true
 | i::r=>(match ops[i]? with | some o=>!kh o.op||r.all fun j=>o7 ms j i | none=>false)&&BS ms ops r
def IX (N:Nat) (ops:Array Oper) (draw:Bool) :Option fF:=
 match ops.toList.all fun o=>pF N o.dst with
 | false=>none
 | true=>match draw with
  | false=>((List.range ops.size).mapM fun i=>DX P ops i [] false).map .wA
  | true=>
   let ms:=iu ops
   let jR:=fo ms ops
   match Md ms ops jR&&BS ms ops jR with
   | false=>none
   | true=>
    let Wn:=n4 P ms ops jR [] []
    let ask:=Wn.flatMap (·.2)
    match Wn.mapM fun p=>DX P ops p.1 p.2 (ask.contains p.1) with
    | none=>none
    | some s=>match ask with
     | []=>some (.wA s)
     | _=>some (.xg s)
def comp (N:Nat) :Code->Option fF
 | .skip=>some .skip
 | .label _=>some .skip
 | .ret=>some .ret
 | .exit id=>some (.exit id)
 | .region _ ops draw=>IX P N ops draw
 | .seq a b=>match comp N a,comp N b with
  | some .skip,some b=>some b
  | some a,some .skip=>some a
  | some a,some b=>some (.seq a b)
  | _,_=>none
 | .cond c x y=>match comp N x,comp N y with
  | some x,some y=>some (.cond c x y)
  | _,_=>none
 | .block id c=>(comp N c).map (.block id)
 | .loop c=>(comp N c).map .loop
 | .scope c=>comp N c
 | _=>none
def vn (f:FuncId) :Option fF:=match P.funcs[f]? with
 | some fn=>match fn.body with
  | some c=>comp P fn.ntmps c
  | none=>none
 | none=>none
end

section
variable {P:Program} {G:Nat->U}
theorem Ow {l l' : am} {z by_ n:Nat} {s v:U} {xs:List U} (h:h4 l z by_ s xs n=some (v,l')) :l.length<=l'.length:=by
 unfold h4 at h
 repeat' split at h
 all_goals first | (cases h; done) | (cases h; simp)
theorem VQ {aA:Operand->U} {l l' : am} {m:da} {v:U} (h:bO P aA l m=some (v,l')) :l.length<=l'.length:=by
 cases m<;>simp only[bO,gf,map_some,Option.some.injEq,Prod.mk.injEq] at h
 case fS=>obtain⟨_,rfl⟩:=h; exact att _
 case alloc=>obtain⟨_,rfl⟩:=h; simp
 case box=>obtain⟨_,_,_,rfl⟩:=h; simp
 case qF=>obtain⟨_,_,_,rfl⟩:=h; simp
 case st n a x=>
  obtain⟨_,h,_,rfl⟩:=h;unfold jT at h
  repeat' split at h
  all_goals first | (cases h; done) | (cases h; simp)
 case ys=>obtain⟨_,rfl⟩:=h; exact att _
 case yr=>obtain⟨_,rfl⟩:=h; exact att _
 case rp=>
  unfold rq at h
  repeat' split at h
  all_goals first | (cases h; done) | (cases h; simp)
 case app=>
  unfold fz at h;split at h
  ·cases h
  ·exact Ow h
 case u7=>
  unfold qE at h
  repeat' split at h
  all_goals first | (cases h; done) | exact Ow h
 case vr=>
  unfold zn at h
  repeat' split at h
  all_goals first | (cases h; done) | (cases h; simp)
 case vk=>
  obtain⟨_,h,_,rfl⟩:=h;unfold r3 at h
  repeat' split at h
  all_goals first | (cases h; done) | (cases h; simp)
 case stop=>cases h
 case uA x=>
  cases x with
  | none=>cases h; simp
  | some o=>
   simp only at h;split at h
   ·cases h; simp
   ·cases h
 case wn=>
  obtain⟨_,h,_,rfl⟩:=h;unfold sM at h
  repeat' split at h
  all_goals first | (cases h; done) | (cases h; simp)
 case wD=>
  unfold AJ at h
  repeat' split at h
  all_goals first | (cases h; done) | (cases h; simp)
 case wq=>
  unfold uC at h
  repeat' split at h
  all_goals first | (cases h; done) | (cases h; simp)
 case cl=>
  split at h
  ·rw[gf] at h; obtain⟨_,rfl⟩:=h; exact att _
  ·cases h
 all_goals (obtain⟨_,rfl⟩:=h; exact att _)
theorem y6 {α:Type} {o:Option α} {c:N1 α}:W o (c:=c)<->∃ v,o=some v/\c.k v:=by
 unfold W; cases o<;>simp
theorem De {b:Bool} {c:Bg}:re b (c:=c)<->(b=true/\c.p)\/(b=false/\c.q) :=by cases b<;>simp[re]
structure pq (P:Program) (ops:Array Oper) (s:eg) (o:Oper) :Prop where
 here:ops[s.i]? = some o
 dst:s.dst=o.dst
 g:s.g=o.guard.map fun kj=>((ops[kj.1]?).bind (·.dst),kj.2)
 gE:∀ m,s.b=.gE m->mV P o.op=some m
 l5:∀ f args,s.b=.l5 f args->∃ c:Call,o.op=.call c/\c.callee=.value (.func f)/\c.args.toList=args/\je P f=true
 mQ:∀ x args,s.b=.mQ x args->∃ c:Call,o.op=.call c/\c.callee=.value x/\c.args.toList=args
 nH:∀ x name args,s.b=.nH x name args->∃ c:Call,o.op=.call c/\c.callee=.invoke x name/\c.args.toList=args
theorem HE {ops:Array Oper} {i:Nat} {hh:List Nat} {cq:Bool} {s:eg} (h:DX P ops i hh cq=some s) :∃ o,pq P ops s o/\s.i=i/\s.hh=hh/\s.cq=cq:=by
 unfold DX at h;rw[bind_some] at h;obtain⟨o,ap,h⟩:=h;refine⟨o,?_⟩;simp only at h;split at h
 ·rename_i m hm;cases h;exact⟨⟨ap,rfl,rfl,fun cn h=>(by cases h; exact hm),fun f a h=>(by cases h),fun x a h=>(by cases h),fun x n a h=>(by cases h)⟩,rfl,rfl,rfl⟩
 ·split at h
  ·rename_i c gx;split at h
   ·rename_i f ah;split at h
    ·rename_i aD;cases h;exact⟨⟨ap,rfl,rfl,fun cn h=>(by cases h),fun f a h=>(by cases h; exact⟨c,gx,ah,rfl,aD⟩),fun x a h=>(by cases h),fun x n a h=>(by cases h)⟩,rfl,rfl,rfl⟩
    ·cases h
   ·rename_i x af ah;cases h;exact⟨⟨ap,rfl,rfl,fun cn h=>(by cases h),fun f a h=>(by cases h),fun x a h=>(by cases h; exact⟨c,gx,ah,rfl⟩),fun x n a h=>(by cases h)⟩,rfl,rfl,rfl⟩
   ·rename_i x name ah;cases h;exact⟨⟨ap,rfl,rfl,fun cn h=>(by cases h),fun f a h=>(by cases h),fun x a h=>(by cases h),fun x n a h=>by cases h; exact⟨c,gx,ah,rfl⟩⟩,rfl,rfl,rfl⟩
   ·cases h
  ·cases h
theorem R9 {g:FuncId} (aD:je P g=true) {h:aN} {aA:Operand->U} {c:Call} {x:Operand} {first fI:List U} (ah:c.callee=.value x) (af:aA x=.fn g first fI) :
  cV P h aA (.call c)=some (.call g (first++c.args.toList.map aA++fI) h) :=by
 unfold je at aD;simp only[cV,vd,ah,af];cases j5:P.funcs[g]? with
 | none=>rw[j5] at aD; cases aD
 | some fn=>
  rw[j5] at aD;simp only[atv,bne_iff_ne] at aD;simp only;rw[if_pos aD]
theorem ach {g:FuncId} (aD:je P g=true) {h:aN} {aA:Operand->U} {c:Call} {x:Operand} {name:String} {t:TypeId} {v:U} (ah:c.callee=.invoke x name) (af:aA x=.gA t v) (hm:yq P t name=some g) :
  cV P h aA (.call c)=some (.call g (v::c.args.toList.map aA) h) :=by
 unfold je at aD;simp only[cV,vd,ah,af,hm];cases j5:P.funcs[g]? with
 | none=>rw[j5] at aD; cases aD
 | some fn=>
  rw[j5] at aD;simp only[atv,bne_iff_ne] at aD;simp only;rw[if_pos aD]
def da.looks:da->Bool
 | .alloc _ | .box _ | .qF .. | .rp .. | .st .. | .app .. | .u7 .. | .vr .. | .vk .. | .uA _ | .ym .. | .wn .. | .wD _ | .wq _ | .cl .. | .AU .. | .stop=>false
 | _=>true
theorem agU {m:da} {v:U} {l:am} {K:U->am->Prop} (h:er m v l K) :K v l\/(m.looks=false/\m.iF=false/\∃ dJ b5,qC (bU l) (bU b5)/\qB (bU l) (bU b5) v dJ/\K dJ b5) :=by
 cases m<;>first | exact .inl h | skip
 rcases h with h | h
 ·exact .inl h
 ·exact .inr ⟨rfl,rfl,h⟩
theorem Vj {m:da} {v:U} {l:am} {K gp:U->am->Prop} (aV:∀ v l,K v l->gp v l) (h:er m v l K) :er m v l gp:=by
 cases m<;>first | exact aV _ _ h | skip
 rcases h with h | ⟨dJ,b5,h1,ad,aj⟩
 ·exact .inl (aV _ _ h)
 ·exact .inr ⟨dJ,b5,h1,ad,aV _ _ aj⟩
theorem XI {ops:Array Oper} {s:eg} {o:Oper} (ok:pq P ops s o) {ae:a7} {l:am} {K:U->am->Prop} (h:hG P G s.b ae l K) :
  ∃ v l',dn P G (.op o.op ae (bU l) v (bU l'))/\l.length<=l'.length/\K v l'/\∀ m,s.b=.gE m->(m.looks=true\/m.iF=true)->bO P (cR G ae) l m=some (v,l') :=by
 cases ag:s.b with
 | gE m=>
  rw[ag] at h;simp only[hG,y6] at h;obtain⟨⟨v,l'⟩,h1,ad⟩:=h;have ao:=dn.G5 (G:=G) (GY (ok.gE m ag) h1);rcases agU ad with ad | ⟨lj,n2,dJ,b5,b9,b0,dK⟩
  ·exact⟨v,l',ao,VQ h1,ad,fun cn hm _=>by cases hm; exact h1⟩
  ·refine⟨dJ,b5,.HR ao b9 b0,auV (VQ h1) (Nat.le_of_eq b9.n.symm),dK,fun cn hm ak=>?_⟩;cases hm;rw[lj,n2] at ak;rcases ak with h | h<;>cases h
 | l5 f args=>
  rw[ag] at h;obtain⟨r,l',h1,ad,aj⟩:=h;obtain⟨c,gx,ah,aB,aD⟩:=ok.l5 f args ag;refine⟨r,l',?_,ad,aj,fun cn hm _=>by cases hm⟩;rw[gx];refine .Az (R9 aD ah rfl) ?_;simpa [aB] using h1
 | mQ x args=>
  rw[ag] at h;simp only[hG] at h;obtain⟨c,gx,ah,aB⟩:=ok.mQ x args ag;unfold vf at h;split at h
  ·rename_i g first fI af
   obtain⟨aD,r,l',h1,ad,aj⟩:=h;refine⟨r,l',?_,ad,aj,fun cn hm _=>by cases hm⟩;rw[gx];refine .Az (R9 aD ah af) ?_;rw[aB]; exact h1
  ·cases h
 | nH x name args=>
  rw[ag] at h;simp only[hG] at h;obtain⟨c,gx,ah,aB⟩:=ok.nH x name args ag;unfold ve at h;split at h
  ·rename_i t v af;split at h
   ·rename_i g hm;obtain⟨aD,r,l',h1,ad,aj⟩:=h;refine⟨r,l',?_,ad,aj,fun cn hm _=>by cases hm⟩;rw[gx];refine .Az (ach aD ah af hm) ?_;rw[aB]; exact h1
   ·cases h
  ·cases h
theorem U3 {ops:Array Oper} {s:eg} {o:Oper} (ok:pq P ops s o) {ae:a7} {p q:Prop} (h:qa ae s.g p q) :(ks ops ae o=some true/\p)\/(ks ops ae o=some false/\q) :=by
 rw[ok.g] at h;unfold ks;cases ar:o.guard with
 | none=>rw[ar] at h; exact .inl ⟨rfl,h⟩
 | some kj=>
  obtain⟨j,w⟩:=kj;rw[ar] at h;simp only[atA] at h ⊢;cases bq:(ops[j]?).bind (·.dst) with
  | none=>rw[bq] at h; exact .inr ⟨rfl,h⟩
  | some d=>
   rw[bq] at h;simp only[qa,rc] at h ⊢;cases al:ae d<;>rw[al] at h<;>simp only at h ⊢<;>first | exact .inr ⟨trivial,h⟩ | (cases h; done) | skip
   rw[De] at h;rcases h with ⟨h1,ad⟩ | ⟨h1,ad⟩
   ·exact .inl ⟨by rw[h1],ad⟩
   ·exact .inr ⟨by rw[h1],ad⟩
inductive yY (P:Program) (ops:Array Oper) :List eg->List Oper->Prop
 | nil:yY P ops [] []
 | cons {s o XC os}:pq P ops s o->yY P ops XC os->yY P ops (s::XC) (o::os)
theorem MV {ops:Array Oper} {N:Nat} (fj:∀ (i:Nat) (o:Oper),ops[i]? = some o->pF N o.dst=true) {K:a7->am->Prop}:∀ {s:List eg} {os:List Oper} {ae:a7} {l:am},
  yY P ops s os->i9 P G s ae l K->∃ bY l',dn P G (.ops ops os N ae (bU l) bY (bU l'))/\l.length<=l'.length/\K bY l'
 | [],_,ae,l,aD,h=>by cases aD; exact⟨ae,l,.V4,att _,h⟩
 | s::r,_,ae,l,aD,h=>by
  cases aD with
  | cons ok aD=>
   rename_i o os;rcases U3 ok h with ⟨hw,h⟩ | ⟨hw,h⟩
   ·obtain⟨v,l1,h1,ad,aj,_⟩:=XI ok h;obtain⟨bY,l',aF,aW,bt⟩:=MV fj aD aj;exact⟨bY,l',.V5 hw (fj _ _ ok.here) h1 (by rw[<-ok.dst]; exact aF),auV ad aW,bt⟩
   ·obtain⟨bY,l',aF,aW,bt⟩:=MV fj aD h;exact⟨bY,l',.V6 hw (fj _ _ ok.here) (by rw[<-ok.dst]; exact aF),aW,bt⟩
theorem WY {l x:am} {p:U} {y:List U × Nat} (h:eo l p=some y) :eo (l++x) p=some y:=by
 cases p<;>first | exact h | skip
 rename_i b off sz;simp only[eo] at h ⊢;cases ag:l[b]? with
 | none=>rw[ag] at h; cases h
 | some c=>rw[ag] at h; rw[ats (fc ag),ag]; exact h
theorem aaQ {l x:am} {z:Nat} {p:U} {y:List U × Nat} (h:dp l z p=some y) :dp (l++x) z p=some y:=by
 cases p<;>first | exact h | skip
 rename_i dm b off len cap sz;simp only[dp] at h ⊢;cases ag:l[b]? with
 | none=>rw[ag] at h; cases h
 | some c=>rw[ag] at h; rw[ats (fc ag),ag]; exact h
theorem aar {l x:am} {p v:U} (h:vg l p=some v) :vg (l++x) p=some v:=by
 unfold vg at h ⊢;cases p<;>simp only at h ⊢<;>first | exact h | skip
 all_goals
  split at h
  ·rename_i cs n ah;rw[aaQ ah]; exact h
  ·cases h
def da.reads:da->Bool
 | .ld1 _ | .uv .. | .tC _ | .we _=>true
 | _=>false
theorem Vz {aA:Operand->U} {l l' : am} {m:da} {v:U} (hm:m.looks=true) (h:bO P aA l m=some (v,l')) :l'=l:=by
 cases m<;>simp only[da.looks,Bool.true_eq,auL,reduceCtorEq] at hm<;>simp only[bO,gf,Option.some.injEq,Prod.mk.injEq] at h<;>first | exact h.2 | exact h.2.symm
theorem ahr {aA:Operand->U} {l x:am} {m:da} {v:U} (hm:m.looks=true) (h:bO P aA l m=some (v,l)) :bO P aA (l++x) m=some (v,l++x) :=by
 cases m<;>simp only[da.looks,Bool.true_eq,auL,reduceCtorEq] at hm<;>simp only[bO,gf,Option.some.injEq,Prod.mk.injEq,and_true] at h ⊢<;>try exact h
 case ld1 a=>
  rw[bind_some] at h ⊢;obtain⟨y,h1,ad⟩:=h;exact⟨y,WY h1,ad⟩
 case uv n a=>
  rw[bind_some] at h ⊢;obtain⟨y,h1,ad⟩:=h;exact⟨y,WY h1,ad⟩
 case tC x=>exact aar h
 case we y=>
  unfold Dh at h ⊢;cases af:aA y<;>rw[af] at h<;>(try simp only at h)<;>try (cases h; done)
  ·exact h
  ·rename_i b;cases ag:l[b]? with
   | none=>rw[ag] at h; cases h
   | some c=>simp only[ats (fc ag)]; exact h
theorem ahs {aA:Operand->U} {l b5:am} {m:da} {v:U} (hm:m.looks=true) (ax:m.reads=false) (h:bO P aA l m=some (v,l)) :bO P aA b5 m=some (v,b5) :=by
 cases m<;>simp only[da.looks,Bool.true_eq,auL,reduceCtorEq] at hm<;>simp only[da.reads,reduceCtorEq] at ax<;>simp only[bO,gf,Option.some.injEq,Prod.mk.injEq,and_true] at h ⊢<;>exact h
theorem MI (zero:List U) :∀ n,(dk zero n).length=n*zero.length
 | 0=>by simp[dk]
 | n+1=>by rw[dk,atB,MI zero n,aua,Nat.add_comm]
theorem akF {cs vs:List U} {off:Nat} (h:off+vs.length<=cs.length) :(bz cs off vs).length=cs.length:=by
 simp only[bz,atB,atN,auw]; omega
theorem RP {kO:Nat->Option (Nat × Nat)}:∀ {cE:List (Nat × U)} {zero cs:List U},hl kO zero cE=some cs->cs.length=zero.length
 | [],zero,cs,h=>by simp only[hl,Option.some.injEq] at h; rw[<-h]
 | (i,v) ::r,zero,cs,h=>by
  unfold hl at h;split at h
  ·rename_i off size vs _ _;split at h
   ·rename_i h1;rw[RP h,akF (by omega)]
   ·cases h
  ·cases h
theorem ahM {op:Op} {m:da} (hm:mV P op=some m) (aC:m.iF=true) {aA:Operand->U} {l l' : am} {v:U} (h:bO P aA l m=some (v,l')) :
  ∃ cs mk,nn P aA op=some (cs,mk)/\v=mk l.length/\l'=l++[.cells cs.length cs] :=by
 cases op<;>simp only[mV] at hm<;>try (cases hm; done)
 case alloc t=>
  rw[map_some] at hm;obtain⟨zero,h1,rfl⟩:=hm;simp only[bO,Option.some.injEq,Prod.mk.injEq] at h;obtain⟨rfl,rfl⟩:=h;exact⟨zero,_,by simp only[nn,h1]; rfl,rfl,rfl⟩
 case box t x=>
  cases hm;simp only[bO,map_some,Prod.mk.injEq] at h;obtain⟨cs,h1,rfl,rfl⟩:=h;exact⟨cs,_,by simp only[nn,h1]; rfl,rfl,rfl⟩
 case buildSlice t n cE=>
  simp only[bind_some] at hm;obtain⟨e,h1,z,ad,zero,aj,hm⟩:=hm;rw[ia] at hm;obtain⟨aF,rfl⟩:=hm;simp only[bO,map_some,Prod.mk.injEq] at h;obtain⟨cs,aW,rfl,rfl⟩:=h;have bh:cs.length=n*z:=by rw[RP aW,MI,aF.1]
  exact⟨cs,_,by simp only[nn,h1,ad,aj,if_pos aF,aW]; rfl,rfl,by rw[bh]⟩
 case makeSlice t a c=>
  simp only[bind_some] at hm;obtain⟨e,h1,z,ad,by_,aj,zero,aF,hm⟩:=hm;rw[ia] at hm;obtain⟨aW,rfl⟩:=hm;simp only[bO] at h;unfold rq at h;cases aB:aA a<;>rw[aB] at h<;>(try simp only at h)<;>try (cases h; done)
  cases ah:aA c<;>rw[ah] at h<;>(try simp only at h)<;>try (cases h; done)
  rw[ia] at h;obtain⟨bt,dq⟩:=h;cases dq;rename_i kc nc;have bh:(dk zero nc.toNat).length=nc.toNat*z:=by rw[MI,aW]
  exact⟨dk zero nc.toNat,_,by simp only[nn,aB,ah,h1,asInt,ad,aj,aF]; rw[if_pos ⟨aW,bt⟩],rfl,by rw[bh]⟩
 case pick=>cases hm; cases aC
 case move=>cases hm; cases aC
 case assign=>cases hm; cases aC
 case nilCheck=>cases hm; cases aC
 case binOp=>cases hm; cases aC
 case unOp=>cases hm; cases aC
 case call c=>
  exfalso;split at hm
  ·unfold vm at hm
   repeat' split at hm
   all_goals first
    | (cases hm; done)
    | (cases hm; cases aC; done)
    | (simp only[bind_some,map_some] at hm; obtain⟨_,_,rfl⟩:=hm; cases aC; done)
    | (simp only[bind_some,map_some] at hm; obtain⟨_,_,_,_,rfl⟩:=hm; cases aC; done)
    | (simp only[bind_some,ia] at hm; obtain⟨_,_,_,_,_,_,_,rfl⟩:=hm; cases aC; done)
    | (simp only[bind_some,ia] at hm; obtain⟨_,_,_,_,_,_,_,_,_,rfl⟩:=hm; cases aC; done)
  ·split at hm
   ·rw[ia] at hm; obtain⟨_,rfl⟩:=hm; cases aC
   ·cases hm
  ·cases hm
 case next it b=>exfalso; cases b<;>simp only[reduceCtorEq] at hm<;>cases hm<;>cases aC
 case panic=>cases hm; cases aC
 case lookup=>exfalso; split at hm<;>(try cases hm; done); rw[map_some] at hm; obtain⟨_,_,rfl⟩:=hm; cases aC
 case build=>exfalso; simp only[bind_some,map_some] at hm; obtain⟨_,_,_,_,rfl⟩:=hm; cases aC
 case typeAssert=>exfalso; rw[map_some] at hm; obtain⟨_,_,rfl⟩:=hm; cases aC
 case store=>exfalso; rw[map_some] at hm; obtain⟨_,_,rfl⟩:=hm; cases aC
 case slice=>exfalso; rw[map_some] at hm; obtain⟨_,_,rfl⟩:=hm; cases aC
 case fieldAddr=>exfalso; rw[bind_some] at hm; obtain⟨_,_,hm⟩:=hm; split at hm<;>cases hm; cases aC
 case field=>exfalso; rw[bind_some] at hm; obtain⟨_,_,hm⟩:=hm; split at hm<;>cases hm<;>cases aC
 case extract=>cases hm; cases aC
 case makeFunc f a b=>exfalso; cases f<;>simp only at hm<;>cases hm; cases aC
 all_goals
  exfalso
  repeat' split at hm
  all_goals first | (cases hm; done) | (cases hm; cases aC; done)
end

end Go.b2
